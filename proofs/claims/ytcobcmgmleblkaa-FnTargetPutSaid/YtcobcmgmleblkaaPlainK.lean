/- The type of a target type: what the program reads off a form, and what the reference writes. -/
import Derived.Test.YtcobcmgmleblkaaTgt
import Derived.Test.YtcobcmgmleblkaaTypeP
import Derived.Test.YtcobcmgmleblkaaTarget
import Derived.Test.YtcobcmgmleblkaaPlainU
import Derived.Test.YtcobcmgmleblkaaTMake
namespace Go.Proofs.Ytcobcmgmleblkaa
open Go.RowKit

/-- Has a form no parts? -/
def Tree.lone (t : Tree) : Bool := t.parts.isEmpty

mutual
/-- Are two forms one? -/
def Tree.eqB : Tree → Tree → Bool
  | .node a ps, .node b qs => decide (a.data.toList = b.data.toList) && Tree.eqL ps qs
def Tree.eqL : List Tree → List Tree → Bool
  | [], [] => true
  | p :: ps, q :: qs => p.eqB q && Tree.eqL ps qs
  | _, _ => false
end

theorem bytes_eq {a b : ByteArray} (h : a.data.toList = b.data.toList) : a = b := by
  cases a with | mk d => cases b with | mk e => simp only at h; rw [Array.toList_inj.1 h]

mutual
theorem eqB_iff : ∀ t u : Tree, t.eqB u = true ↔ t = u
  | .node a ps, .node b qs => by
    simp only [Tree.eqB, Bool.and_eq_true, decide_eq_true_eq, eqL_iff ps qs, Tree.node.injEq]
    exact ⟨fun h => ⟨bytes_eq h.1, h.2⟩, fun h => ⟨by rw [h.1], h.2⟩⟩
theorem eqL_iff : ∀ ps qs : List Tree, Tree.eqL ps qs = true ↔ ps = qs
  | [], [] => by simp [Tree.eqL]
  | p :: ps, q :: qs => by simp only [Tree.eqL, Bool.and_eq_true, eqB_iff p q, eqL_iff ps qs, List.cons.injEq]
  | [], q :: qs => by simp [Tree.eqL]
  | p :: ps, [] => by simp [Tree.eqL]
end

/-- The parts of the code in a package of code and what is hidden. -/
def Tree.code : Tree → List Tree
  | .node _ [p, .node _ [q, .node _ (r :: cs), _]] => if p.atom.data.toList = [101] ∧ q.atom.data.toList = [116] ∧ r.atom.data.toList = [99] then (r :: cs : List Tree) else []
  | _ => []

/-- Of a package of code: what it takes, and the whole of what goes on. -/
def code4 : List Tree → Option (Tree × Tree)
  | [_, _, x, k] => some (x, k)
  | _ => none
def code3 : List Tree → Option Tree
  | [_, _, y] => some y
  | _ => none

/-- The head of a type, and the two forms whose types stand in it. -/
def Tree.cut3 : Tree → Option (UInt8 × Tree × Tree)
  | .node _ [p, x, y] => if p.atom.data.toList = [116] then some (42, x, y) else none
  | t => match code4 t.code with
    | some (x, k) => match code3 k.code with
      | some y => some (62, x, y)
      | none => none
    | none => none

theorem code_sz (t : Tree) : ∀ q, q ∈ t.code → q.sz + 3 ≤ t.sz := by
  intro q hq
  unfold Tree.code at hq
  split at hq
  · split at hq
    · rename_i z p q' a b r cs cc h
      have : q.sz ≤ Tree.szL (r :: cs) := by
        obtain ⟨i, hi⟩ := List.getElem?_of_mem hq
        exact Tree.sz_part _ _ _ hi
      simp only [Tree.sz, Tree.szL] at this ⊢
      omega
    · simp at hq
  · simp at hq

theorem code4_mem {l : List Tree} {x k : Tree} (h : code4 l = some (x, k)) : x ∈ l ∧ k ∈ l := by
  unfold code4 at h
  split at h
  · cases h; simp
  · cases h
theorem code3_mem {l : List Tree} {y : Tree} (h : code3 l = some y) : y ∈ l := by
  unfold code3 at h
  split at h
  · cases h; simp
  · cases h

theorem cut3_sz {t : Tree} {c : UInt8} {x y : Tree} (h : t.cut3 = some (c, x, y)) : x.sz < t.sz ∧ y.sz < t.sz := by
  unfold Tree.cut3 at h
  split at h
  · split at h
    · cases h; simp only [Tree.sz, Tree.szL]; omega
    · cases h
  · split at h
    · rename_i x' k hk
      split at h
      · rename_i y' hy
        cases h
        have h1 := code_sz t _ (code4_mem hk).1
        have h2 := code_sz t _ (code4_mem hk).2
        have h3 := code_sz k _ (code3_mem hy)
        omega
      · cases h
    · cases h

/-- A type whose target type a form may be, and whether it may be. -/
def Tree.src (t : Tree) : Tree := match _h : t.cut3 with
  | some (c, x, y) => .node ⟨#[]⟩ [.node ⟨#[c]⟩ [], x.src, y.src]
  | none => if t.lone then t else .node ⟨#[]⟩ []
termination_by t.sz
decreasing_by
  · exact (cut3_sz (by assumption)).1
  · exact (cut3_sz (by assumption)).2
def Tree.srcB (t : Tree) : Bool := match _h : t.cut3 with
  | some (_, x, y) => x.srcB && y.srcB
  | none => t.lone && decide (t.atom.data.toList = [105])
termination_by t.sz
decreasing_by
  · exact (cut3_sz (by assumption)).1
  · exact (cut3_sz (by assumption)).2
/-- What the reference writes. -/
def Tree.bck (t : Tree) : List UInt8 := match _h : t.cut3 with
  | some (c, x, y) => 40 :: c :: 32 :: (x.bck ++ 32 :: (y.bck ++ [41]))
  | none => if t.lone && decide (t.atom.data.toList = [105]) then [105] else []
termination_by t.sz
decreasing_by
  · exact (cut3_sz (by assumption)).1
  · exact (cut3_sz (by assumption)).2

theorem src_some {t : Tree} {c : UInt8} {x y : Tree} (h : t.cut3 = some (c, x, y)) : t.src = .node ⟨#[]⟩ [.node ⟨#[c]⟩ [], x.src, y.src] ∧ t.srcB = (x.srcB && y.srcB) ∧ t.bck = 40 :: c :: 32 :: (x.bck ++ 32 :: (y.bck ++ [41])) := by
  refine ⟨?_, ?_, ?_⟩
  · rw [Tree.src]; split <;> rename_i h' <;> rw [h] at h' <;> cases h'; rfl
  · rw [Tree.srcB]; split <;> rename_i h' <;> rw [h] at h' <;> cases h'; rfl
  · rw [Tree.bck]; split <;> rename_i h' <;> rw [h] at h' <;> cases h'; rfl
theorem src_none {t : Tree} (h : t.cut3 = none) : t.src = (if t.lone then t else .node ⟨#[]⟩ []) ∧ t.srcB = (t.lone && decide (t.atom.data.toList = [105])) ∧ t.bck = if t.lone && decide (t.atom.data.toList = [105]) then [105] else [] := by
  refine ⟨?_, ?_, ?_⟩
  · rw [Tree.src]; split <;> rename_i h' <;> first | rfl | (rw [h] at h'; cases h')
  · rw [Tree.srcB]; split <;> rename_i h' <;> first | rfl | (rw [h] at h'; cases h')
  · rw [Tree.bck]; split <;> rename_i h' <;> first | rfl | (rw [h] at h'; cases h')

theorem bck_length (n : Nat) : ∀ t : Tree, t.sz ≤ n → t.bck.length ≤ 10 * t.sz := by
  induction n with
  | zero => intro t h; cases t; simp [Tree.sz] at h
  | succ n ih =>
    intro t hn
    cases h : t.cut3 with
    | none =>
      rw [(src_none h).2.2]
      cases t
      split <;> simp only [Tree.sz, List.length_cons, List.length_nil] <;> omega
    | some r =>
      obtain ⟨c, x, y⟩ := r
      have hs := cut3_sz h
      have hx := ih x (by omega)
      have hy := ih y (by omega)
      have hxy : x.sz + y.sz + 1 ≤ t.sz := by
        unfold Tree.cut3 at h
        split at h
        · split at h
          · cases h; simp only [Tree.sz, Tree.szL]; omega
          · cases h
        · split at h
          · rename_i x' k hk
            split at h
            · rename_i y' hy
              cases h
              unfold code4 at hk
              split at hk
              · rename_i a b x k hc
                cases hk
                have h3 := code_sz k _ (code3_mem hy)
                unfold Tree.code at hc
                split at hc
                · split at hc
                  · cases hc; simp only [Tree.sz, Tree.szL]; omega
                  · cases hc
                · cases hc
              · cases hk
            · cases h
          · cases h
      rw [(src_some h).2.2]
      simp only [List.length_cons, List.length_append, List.length_nil]
      omega

theorem code_good {t : Tree} (h : t.good = true) : ∀ q, q ∈ t.code → q.good = true := by
  intro q hq
  unfold Tree.code at hq
  split at hq
  · rename_i p k r cs z
    split at hq
    · have h1 := (Tree.good_parts h).1
      simp only [Tree.goodL, Tree.good, Bool.and_eq_true] at h1
      obtain ⟨i, hi⟩ := List.getElem?_of_mem hq
      have h2 : Tree.goodL (r :: cs) = true := (Tree.good_parts (Tree.good_part _ 1 _ rfl (Tree.good_parts (Tree.good_part _ 1 _ rfl (Tree.good_parts h).1)).1)).1
      exact Tree.good_part _ i _ hi h2
    · simp at hq
  · simp at hq
theorem cut3_good {t : Tree} {c : UInt8} {x y : Tree} (h : t.cut3 = some (c, x, y)) (hg : t.good = true) : x.good = true ∧ y.good = true ∧ (c = 42 ∨ c = 62) := by
  unfold Tree.cut3 at h
  split at h
  · split at h
    · cases h
      exact ⟨Tree.good_part _ 1 _ rfl (Tree.good_parts hg).1, Tree.good_part _ 2 _ rfl (Tree.good_parts hg).1, .inl rfl⟩
    · cases h
  · split at h
    · rename_i x' k hk
      split at h
      · rename_i y' hy
        cases h
        exact ⟨code_good hg _ (code4_mem hk).1, code_good (code_good hg _ (code4_mem hk).2) _ (code3_mem hy), .inr rfl⟩
      · cases h
    · cases h

theorem tgt_cutP (x y : Tree) : (Tree.node ⟨#[]⟩ [.node ⟨#[116]⟩ [], x, y]).cut3 = some (42, x, y) := rfl
theorem tgt_cutF (x y : Tree) : (tgtF x y).cut3 = some (62, x, y) := rfl

/-- The target type of a type is a target type, and it is read back. -/
theorem tgt_back (n : Nat) : ∀ t : Tree, t.sz ≤ n → t.good = true → t.isType = true → t.tgt.src = t ∧ t.tgt.srcB = true ∧ t.tgt.bck = t.text ∧ ∀ hidden, t.tgt.target unkI hidden false = true := by
  induction n with
  | zero => intro t h; cases t; simp [Tree.sz] at h
  | succ n ih =>
    intro t hn hg ht
    obtain ⟨a, ps⟩ := t
    rcases isType_cases ht with rfl | ⟨p, x, y, rfl, hx, hy, hp⟩
    · simp only [Tree.isType, decide_eq_true_eq] at ht
      rw [tgt_leaf]
      have hc : (Tree.node a []).cut3 = none := rfl
      obtain ⟨h1, h2, h3⟩ := src_none hc
      rw [h1, h2, h3, text_leaf]
      have hl : (Tree.node a []).lone = true := rfl
      rw [hl]
      simp [ht, Tree.target, Tree.atom]
    · simp only [Tree.sz, Tree.szL] at hn
      have hgl := (Tree.good_parts hg).1
      have hge := (Tree.good_parts hg).2
      simp only [Tree.goodL, Bool.and_eq_true, and_true] at hgl
      obtain ⟨x1, x2, x3, x4⟩ := ih x (by omega) hgl.2.1 hx
      obtain ⟨y1, y2, y3, y4⟩ := ih y (by omega) hgl.2.2 hy
      have hpl := leaf_of_atom hgl.1 (by rcases hp with h | h <;> rw [h] <;> simp)
      have ha : a = ⟨#[]⟩ := by
        have : a.data.toList = [] := Classical.byContradiction fun h => absurd (hge.2 h) (by simp)
        exact bytes_eq (b := ⟨#[]⟩) this
      rw [tgt_three]
      by_cases h42 : p.atom.data.toList = [42]
      · rw [if_pos h42]
        obtain ⟨h1, h2, h3⟩ := src_some (tgt_cutP x.tgt y.tgt)
        have hpe : p = .node ⟨#[42]⟩ [] := by
          rw [hpl]
          rw [bytes_eq (a := p.atom) (b := ⟨#[42]⟩) h42]
        rw [h1, h2, h3, x1, y1, x2, y2, x3, y3, ha, hpe]
        refine ⟨rfl, rfl, by simp [Tree.text, textL_cons], fun hidden => ?_⟩
        simp [Tree.target, Tree.targetL, Tree.atom, x4, y4]
      · have h62 : p.atom.data.toList = [62] := hp.elim id fun h => absurd h h42
        rw [if_neg h42]
        obtain ⟨h1, h2, h3⟩ := src_some (tgt_cutF x.tgt y.tgt)
        have hpe : p = .node ⟨#[62]⟩ [] := by
          rw [hpl]
          rw [bytes_eq (a := p.atom) (b := ⟨#[62]⟩) h62]
        rw [h1, h2, h3, x1, y1, x2, y2, x3, y3, ha, hpe]
        refine ⟨rfl, rfl, by simp [Tree.text, textL_cons], fun hidden => ?_⟩
        simp only [tgtF, onw, Tree.target, Tree.targetL, Tree.atom, x4, y4]
        cases hidden <;> rfl

/-- The type of a target type. -/
def backI (t : Tree) : Option Tree := if t.srcB && (t.src.typed && t.src.tgt.eqB t) then some t.src else none
def backOf (s : List UInt8) : Option Tree := match parse s with
  | some t => backI t
  | none => none

theorem backI_iff {t u : Tree} (hu : ptype u.text = some u) : u.tgt = t → backI t = some u := by
  intro h
  obtain ⟨h1, h2, h3, h4, h5⟩ := ptype_facts hu
  obtain ⟨b1, b2, b3, b4⟩ := tgt_back _ u (Nat.le_refl _) h1 h2
  unfold backI
  rw [← h, b1, b2]
  have : u.typed = true := by unfold Tree.typed; simp [h2]; omega
  rw [(eqB_iff _ _).2 rfl, this]; rfl

theorem tgt_depth_any (n : Nat) : ∀ t : Tree, t.sz ≤ n → t.good = true → t.isType = true → t.tgt.depth + 3 ≤ 3 * t.size := by
  induction n with
  | zero => intro t h; cases t; simp [Tree.sz] at h
  | succ n ih =>
    intro t hn hg ht
    obtain ⟨a, ps⟩ := t
    rcases isType_cases ht with rfl | ⟨p, x, y, rfl, hx, hy, hp⟩
    · rw [tgt_leaf]; simp [Tree.depth, Tree.size]
    · simp only [Tree.sz, Tree.szL] at hn
      have hgl := (Tree.good_parts hg).1
      simp only [Tree.goodL, Bool.and_eq_true, and_true] at hgl
      have x1 := ih x (by omega) hgl.2.1 hx
      have y1 := ih y (by omega) hgl.2.2 hy
      have hpl := leaf_of_atom hgl.1 (by rcases hp with h | h <;> rw [h] <;> simp)
      have hps : p.size = 1 := by rw [hpl]; simp [Tree.size]
      have h2 : (Tree.node a [p, x, y]).size = 1 + x.size + y.size := by simp [Tree.size, Tree.sizeL, hps]; omega
      rw [tgt_three, h2]
      by_cases h42 : p.atom.data.toList = [42]
      · rw [if_pos h42]
        simp [Tree.depth, Tree.depthL]
        omega
      · rw [if_neg h42]
        simp [tgtF, onw, Tree.depth, Tree.depthL]
        omega
theorem tgt_depth {s : List UInt8} {u : Tree} (h : ptype s = some u) : u.tgt.depth ≤ 60 := by
  obtain ⟨h1, h2, h3, h4, h5⟩ := ptype_facts h
  have := tgt_depth_any _ u (Nat.le_refl _) h1 h2
  omega

theorem src_good (n : Nat) : ∀ t : Tree, t.sz ≤ n → t.good = true → t.srcB = true → t.src.good = true := by
  induction n with
  | zero => intro t h; cases t; simp [Tree.sz] at h
  | succ n ih =>
    intro t hn hg hb
    cases h : t.cut3 with
    | none =>
      rw [(src_none h).2.1] at hb
      simp only [Bool.and_eq_true] at hb
      rw [(src_none h).1, if_pos hb.1]; exact hg
    | some r =>
      obtain ⟨c, x, y⟩ := r
      have hs := cut3_sz h
      rw [(src_some h).2.1] at hb
      simp only [Bool.and_eq_true] at hb
      have hgs := cut3_good h hg
      have hx := ih x (by omega) hgs.1 hb.1
      have hy := ih y (by omega) hgs.2.1 hb.2
      rw [(src_some h).1]
      simp only [Tree.good, Tree.goodL, hx, hy]
      rcases hgs.2.2 with rfl | rfl <;> rfl

/-- A text that the reference's check takes is the program's. -/
theorem back_ref {t : Tree} {s : List UInt8} (hp : parse s = some t) : backI t = if t.target unkI false false && (ptype t.bck).any fun u => decide (u.tgt.text = s) then ptype t.bck else none := by
  obtain ⟨hs, hg, hd, hl⟩ := (parse_iff _ _).1 hp
  by_cases h : (t.target unkI false false && (ptype t.bck).any fun u => decide (u.tgt.text = s)) = true
  · rw [if_pos h]
    simp only [Bool.and_eq_true] at h
    cases hq : ptype t.bck with
    | none => rw [hq] at h; simp at h
    | some u =>
      rw [hq] at h
      simp at h
      have hu : ptype u.text = some u := by
        have := (parse_iff _ _).1 (ptype_facts hq).2.2.2.1
        rw [← this.1]; exact hq
      have htt : u.tgt = t := by
        have h1 := (typed_tgt hq).1
        have h2 : u.tgt.text = t.text := by rw [h.2, hs]
        exact Option.some.inj ((parse_text h1 (tgt_depth hq) (by rw [h2, ← hs]; exact hl)).symm.trans (by rw [h2, ← hs, hp]))
      exact backI_iff hu htt
  · rw [if_neg h]
    unfold backI
    split
    · rename_i hb
      exfalso
      apply h
      simp only [Bool.and_eq_true] at hb
      obtain ⟨h1, h2, h3⟩ := hb
      have h4 := (eqB_iff _ _).1 h3
      have hgs := src_good _ t (Nat.le_refl _) hg h1
      have hty : t.src.isType = true := by unfold Tree.typed at h2; simp at h2; exact h2.1
      obtain ⟨b1, b2, b3, b4⟩ := tgt_back _ _ (Nat.le_refl _) hgs hty
      rw [h4] at b3 b4
      have hu : ptype t.bck = some t.src := by rw [b3]; exact ptype_some.2 ⟨parse_of_fits hgs (typed_fits hgs h2), h2⟩
      rw [hu, b4]
      simp [h4, hs]
    · rfl
end Go.Proofs.Ytcobcmgmleblkaa
