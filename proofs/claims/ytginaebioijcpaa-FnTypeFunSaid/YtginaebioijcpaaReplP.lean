/- Replacing an atom by itself; which atoms a replaced form has; made types taken apart. No program is in sight but for the definitions. -/
import Derived.Test.YtginaebioijcpaaTMake
import Derived.Test.YtginaebioijcpaaPlainU
namespace Go.Proofs.Ytginaebioijcpaa
open Go.RowKit

theorem empty_of {a : ByteArray} (h : a.data.toList = []) : a = ⟨#[]⟩ := by rw [bts_eq h]; rfl

mutual
theorem subst_same {f : ByteArray → Tree} : ∀ t : Tree, t.good = true → (∀ a ∈ t.atoms, f a = .node a []) → t.subst f = t
  | .node a ps, hg, hf => by
    obtain ⟨h1, h2⟩ := Tree.good_parts hg
    by_cases he : ps = []
    · subst he
      simp only [Tree.subst, List.isEmpty_nil, if_true]
      exact hf a (by simp [Tree.atoms])
    · have hi : ps.isEmpty = false := by simpa using he
      have ha : a = ⟨#[]⟩ := empty_of (Classical.byContradiction fun h => he (h2.2 h))
      simp only [Tree.subst, hi, Bool.false_eq_true, if_false]
      rw [substL_same ps h1 (fun b hb => hf b (by simp only [Tree.atoms, hi, Bool.false_eq_true, if_false]; exact hb)), ha]
theorem substL_same {f : ByteArray → Tree} : ∀ ps : List Tree, Tree.goodL ps = true → (∀ a ∈ Tree.atomsL ps, f a = .node a []) → Tree.substL f ps = ps
  | [], _, _ => rfl
  | p :: ps, hg, hf => by
    simp only [Tree.goodL, Bool.and_eq_true] at hg
    simp only [Tree.substL]
    rw [subst_same p hg.1 (fun a ha => hf a (by simp [Tree.atomsL, ha])), substL_same ps hg.2 (fun a ha => hf a (by simp [Tree.atomsL, ha]))]
end

theorem putF_self {atom a : ByteArray} : putF atom (.node atom []) a = .node a [] := by
  unfold putF
  by_cases h : (a.toList == atom.toList) = true
  · rw [if_pos h]; rw [toList_inj, decide_eq_true_eq] at h; rw [h]
  · rw [if_neg h]

theorem putF_other {atom a : ByteArray} {g : Tree} (h : a ≠ atom) : putF atom g a = .node a [] := by
  unfold putF; rw [if_neg (by rw [toList_inj]; simpa using h)]
theorem putF_this {atom : ByteArray} {g : Tree} : putF atom g atom = g := by
  unfold putF; rw [if_pos (by rw [toList_inj]; simp)]

mutual
theorem mem_subst {atom : ByteArray} {g : Tree} : ∀ t : Tree, atom ∈ (t.subst (putF atom g)).atoms ↔ atom ∈ t.atoms ∧ atom ∈ g.atoms
  | .node a ps => by
    by_cases he : ps = []
    · subst he
      simp only [Tree.subst, List.isEmpty_nil, if_true]
      by_cases ha : a = atom
      · subst ha; rw [putF_this]; simp [Tree.atoms]
      · rw [putF_other ha]; simp [Tree.atoms, Ne.symm ha]
    · have hi : ps.isEmpty = false := by simpa using he
      have hj : (Tree.substL (putF atom g) ps).isEmpty = false := by simpa using Tree.substL_ne he
      simp only [Tree.subst, hi, Bool.false_eq_true, if_false, Tree.atoms, hj]
      exact mem_substL ps
theorem mem_substL {atom : ByteArray} {g : Tree} : ∀ ps : List Tree, atom ∈ Tree.atomsL (Tree.substL (putF atom g) ps) ↔ atom ∈ Tree.atomsL ps ∧ atom ∈ g.atoms
  | [] => by simp [Tree.substL, Tree.atomsL]
  | p :: ps => by
    simp only [Tree.substL, Tree.atomsL, List.mem_append, mem_subst p, mem_substL ps]
    constructor
    · rintro (h | h)
      · exact ⟨.inl h.1, h.2⟩
      · exact ⟨.inr h.1, h.2⟩
    · rintro ⟨h | h, h'⟩
      · exact .inl ⟨h, h'⟩
      · exact .inr ⟨h, h'⟩
end

theorem subst_none {atom : ByteArray} {g t : Tree} (hg : t.good = true) (h : atom ∉ t.atoms) : t.subst (putF atom g) = t :=
  subst_same t hg fun a ha => putF_other fun e => h (e ▸ ha)

mutual
theorem atoms_good : ∀ t : Tree, t.good = true → ∀ a ∈ t.atoms, (Tree.node a []).good = true
  | .node a ps, hg, b, hb => by
    by_cases he : ps = []
    · subst he; simp [Tree.atoms] at hb; subst hb; exact hg
    · have hi : ps.isEmpty = false := by simpa using he
      simp only [Tree.atoms, hi, Bool.false_eq_true, if_false] at hb
      exact atomsL_good ps (Tree.good_parts hg).1 b hb
theorem atomsL_good : ∀ ps : List Tree, Tree.goodL ps = true → ∀ a ∈ Tree.atomsL ps, (Tree.node a []).good = true
  | [], _, b, hb => by simp [Tree.atomsL] at hb
  | p :: ps, hg, b, hb => by
    simp only [Tree.goodL, Bool.and_eq_true] at hg
    simp only [Tree.atomsL, List.mem_append] at hb
    rcases hb with hb | hb
    · exact atoms_good p hg.1 b hb
    · exact atomsL_good ps hg.2 b hb
end

theorem atom_reads {a : ByteArray} (hg : (Tree.node a []).good = true) (hl : a.size ≤ 12000) : parse a.data.toList = some (.node a []) :=
  (parse_iff _ _).2 ⟨(text_leaf a).symm, hg, by simp [Tree.depth], by rw [← size_data]; exact hl⟩

/-- An atom of a form, replaced by itself. -/
theorem repl_self {s : ByteArray} {t : Tree} {a : ByteArray} (hp : parse s.data.toList = some t) (ha : a ∈ t.atoms) :
    replOf s.data.toList a.data.toList a.data.toList a = some s ∧ parse a.data.toList = some (.node a []) ∧ a.size ≤ 12000 := by
  have hg := parse_good hp
  have hal : a.size ≤ 12000 := by
    have := Tree.atoms_size t a ha
    have := parse_text_le hp; omega
  have hpa := atom_reads (atoms_good t hg a ha) hal
  have hs := subst_same (f := putF a (.node a [])) t hg (fun b _ => putF_self)
  obtain ⟨hat, -, -⟩ := parse_leaf hpa
  have hfit : t.fits = true := by
    obtain ⟨h1, -, h3, h4⟩ := (parse_iff _ _).1 hp
    unfold Tree.fits; rw [← h1]; simp [h3]; simpa using h4
  refine ⟨?_, hpa, hal⟩
  rw [replOf_some hp hpa hat (by rw [← size_data]; exact hal), hs, if_pos hfit, Tree.txt, ← ((parse_iff _ _).1 hp).1, bts_of]

theorem addS_nodup {l : List ByteArray} {s : ByteArray} (h : l.Nodup) : (addS l s).Nodup := by
  unfold addS
  by_cases hh : hasS l s = true
  · rw [if_pos hh]; exact h
  · rw [if_neg hh]
    have : s ∉ l := fun hm => hh (hasS_iff.2 hm)
    rw [List.nodup_append]
    exact ⟨h, by simp, fun a ha b hb e => by simp at hb; subst hb; subst e; exact this ha⟩

theorem foldAdd_nodup (m : List ByteArray) : ∀ l : List ByteArray, l.Nodup → (m.foldl addS l).Nodup := by
  induction m with
  | nil => intro l h; exact h
  | cons s m ih => intro l h; exact ih _ (addS_nodup h)

/-- Of a type with a sign: what it is made of. -/
theorem side_facts {fn : Bool} {s : List UInt8} {x y : Tree} (h : sidesOf s (sgn fn).data.toList = some (x, y)) :
    ptype s = some (typeT fn x y) ∧ ptype x.text = some x ∧ ptype y.text = some y ∧ s = (typeT fn x y).text ∧ x.good = true ∧ y.good = true := by
  unfold sidesOf at h
  cases hp : ptype s with
  | none => rw [hp] at h; cases h
  | some t =>
    rw [hp] at h
    obtain ⟨a, p, rfl, hpa⟩ := sideT_iff.1 h
    obtain ⟨hg, hty, hz, hpp, hs⟩ := ptype_facts hp
    have hgl := Tree.good_parts hg
    have hgs := hgl.1
    simp only [Tree.goodL, Bool.and_eq_true, and_true] at hgs
    have ha : a = ⟨#[]⟩ := empty_of (Classical.byContradiction fun h => by have := hgl.2.2 h; simp at this)
    have hpl := leaf_of_atom hgs.1 (by rw [hpa]; cases fn <;> simp [sgn])
    have hpe : p.atom = sgn fn := by rw [bts_eq hpa, bts_of]
    have e : Tree.node a [p, x, y] = typeT fn x y := by unfold typeT; rw [ha, hpl, hpe]
    rcases isType_cases hty with h0 | ⟨p', x', y', h0, hx, hy, -⟩
    · simp at h0
    · simp at h0
      obtain ⟨rfl, rfl, rfl⟩ := h0
      have hsz : (Tree.node a [p, x, y]).size = p.size + x.size + y.size := by simp [Tree.size, Tree.sizeL]; omega
      refine ⟨by rw [e], ?_, ?_, by rw [hs, e], hgs.2.1, hgs.2.2⟩
      · rw [ptype_text hgs.2.1, if_pos (by unfold Tree.typed; simp [hx]; omega)]
      · rw [ptype_text hgs.2.2, if_pos (by unfold Tree.typed; simp [hy]; omega)]

/-- Of a type that is made: both sides. -/
theorem make_facts {fn : Bool} {a b : List UInt8} {t : Tree} (h : makeOf fn a b = some t) :
    ∃ x y, a = x.text ∧ b = y.text ∧ sidesOf t.text (sgn fn).data.toList = some (x, y) ∧ sidesOf t.text (sgn (!fn)).data.toList = none ∧ t.text.length ≤ 12000 := by
  cases h1 : ptype a with
  | none => rw [makeOf_none1 h1] at h; cases h
  | some x =>
    cases h2 : ptype b with
    | none => rw [makeOf_none2 h2] at h; cases h
    | some y =>
      rw [makeOf_some h1 h2] at h
      by_cases ht : (typeT fn x y).typed = true
      · rw [if_pos ht] at h
        cases h
        have hx := ptype_facts h1
        have hy := ptype_facts h2
        have hg := typeT_good (fn := fn) hx.1 hy.1
        have hfit := typed_fits hg ht
        have hpt : ptype (typeT fn x y).text = some (typeT fn x y) := by rw [ptype_text hg, if_pos ht]
        refine ⟨x, y, hx.2.2.2.2, hy.2.2.2.2, ?_, ?_, by unfold Tree.fits at hfit; simp at hfit; exact hfit.2⟩
        · unfold sidesOf; rw [hpt]
          have h3 : sideT (typeT fn x y) (sgn fn).data.toList = some (x, y) := sideT_iff.2 ⟨⟨#[]⟩, .node (sgn fn) [], rfl, rfl⟩
          exact h3
        · unfold sidesOf; rw [hpt]
          cases e : sideT (typeT fn x y) (sgn (!fn)).data.toList with
          | none => simp [e]
          | some z =>
            obtain ⟨x', y'⟩ := z
            obtain ⟨a', p', e', hp'⟩ := sideT_iff.1 e
            unfold typeT at e'
            simp at e'
            obtain ⟨-, rfl, -, -⟩ := e'
            cases fn <;> exact absurd hp' (by decide)
      · rw [if_neg ht] at h; cases h
theorem type_order (fn : Bool) (x y : Tree) : (typeT fn x y).order = max (if fn = true then x.order + 1 else x.order) y.order := by
  unfold typeT
  cases fn <;> simp [Tree.order, sgn, Tree.atom]
end Go.Proofs.Ytginaebioijcpaa
