/- AlikeP. AlikeQ. Several texts in one. -/
import Derived.Test.YtoihkjnfklogpaaPlainJ
import Derived.Test.YtoihkjnfklogpaaEqB
import Derived.Test.YtoihkjnfklogpaaDecL
/- Expressions that are alike, and plain ones. No program is in sight. -/
namespace Go.Proofs.Ytoihkjnfklogpaa

/-- The last place of a text in a list, -1 for none. -/
def lastZ : List ByteArray → ByteArray → Int
  | [], _ => -1
  | x :: l, s => if 0 ≤ lastZ l s then lastZ l s + 1 else if x = s then 0 else -1

def IsLast (l : List ByteArray) (s : ByteArray) (z : Int) : Prop :=
  (z = -1 ∧ ∀ j : Nat, l[j]? ≠ some s) ∨ ∃ k : Nat, z = k ∧ l[k]? = some s ∧ ∀ j : Nat, k < j → l[j]? ≠ some s

theorem lastZ_is : ∀ (l : List ByteArray) (s : ByteArray), IsLast l s (lastZ l s)
  | [], s => .inl ⟨rfl, fun j => by simp⟩
  | x :: l, s => by
    have ih := lastZ_is l s
    unfold lastZ
    rcases ih with ⟨h1, h2⟩ | ⟨k, h1, h2, h3⟩
    · rw [h1, if_neg (by decide)]
      by_cases hx : x = s
      · rw [if_pos hx]
        refine .inr ⟨0, rfl, by simp [hx], fun j hj => ?_⟩
        obtain ⟨j, rfl⟩ : ∃ i, j = i + 1 := ⟨j - 1, by omega⟩
        simpa using h2 j
      · rw [if_neg hx]
        refine .inl ⟨rfl, fun j => ?_⟩
        cases j with
        | zero => simpa using hx
        | succ j => simpa using h2 j
    · rw [h1, if_pos (by omega)]
      refine .inr ⟨k + 1, by omega, by simpa using h2, fun j hj => ?_⟩
      obtain ⟨j, rfl⟩ : ∃ i, j = i + 1 := ⟨j - 1, by omega⟩
      simpa using h3 j (by omega)

theorem IsLast.uniq {l : List ByteArray} {s : ByteArray} {z y : Int} (h : IsLast l s z) (k : IsLast l s y) : z = y := by
  rcases h with ⟨h1, h2⟩ | ⟨i, h1, h2, h3⟩ <;> rcases k with ⟨k1, k2⟩ | ⟨j, k1, k2, k3⟩
  · omega
  · exact absurd k2 (h2 j)
  · exact absurd h2 (k2 i)
  · rcases Nat.lt_trichotomy i j with h | h | h
    · exact absurd k2 (h3 j h)
    · omega
    · exact absurd h2 (k3 i h)

theorem lastZ_neg {l : List ByteArray} {s : ByteArray} : lastZ l s = -1 ↔ s ∉ l := by
  constructor
  · intro h hm
    obtain ⟨j, hj⟩ := List.getElem?_of_mem hm
    rcases lastZ_is l s with ⟨h1, h2⟩ | ⟨k, h1, h2, h3⟩
    · exact h2 j hj
    · omega
  · intro h
    rcases lastZ_is l s with ⟨h1, h2⟩ | ⟨k, h1, h2, h3⟩
    · exact h1
    · exact absurd (List.mem_of_getElem? h2) h
theorem lastZ_cases (l : List ByteArray) (s : ByteArray) : (lastZ l s = -1 ∧ s ∉ l) ∨ ∃ k : Nat, lastZ l s = k ∧ l[k]? = some s ∧ k < l.length := by
  rcases lastZ_is l s with ⟨h1, h2⟩ | ⟨k, h1, h2, h3⟩
  · exact .inl ⟨h1, lastZ_neg.1 h1⟩
  · exact .inr ⟨k, h1, h2, (List.getElem?_eq_some_iff.1 h2).1⟩

/-- What a name is renamed to. -/
def look (fr to : List ByteArray) (s : ByteArray) : ByteArray := if 0 ≤ lastZ fr s then to.getD (lastZ fr s).toNat s else s

/-- The name with a number. -/
def xn (n : Nat) : ByteArray := bts (120 :: decL n)
theorem xn_data (n : Nat) : (xn n).data.toList = 120 :: decL n := rfl
theorem xn_inj {n m : Nat} (h : xn n = xn m) : n = m := by
  have := congrArg (fun b : ByteArray => b.data.toList) h
  simp only [xn_data, List.cons.injEq, true_and] at this
  exact decL_inj this

/-- How many of a list may yet be met. -/
def pot (F : List ByteArray) (n : Nat) : Nat := (F.filter fun s => decide (∀ k, k < n → s ≠ xn k)).length
theorem pot_le (F : List ByteArray) (n : Nat) : pot F n ≤ F.length := List.length_filter_le _ _
theorem pot_anti (F : List ByteArray) (n : Nat) : pot F (n + 1) ≤ pot F n := by
  unfold pot
  induction F with
  | nil => simp
  | cons a F ih =>
    simp only [List.filter_cons]
    by_cases h : ∀ k, k < n + 1 → a ≠ xn k
    · have h' : ∀ k, k < n → a ≠ xn k := fun k hk => h k (by omega)
      rw [if_pos (decide_eq_true h), if_pos (decide_eq_true h')]
      simpa using ih
    · rw [if_neg (by simpa using h)]
      split
      · simp only [List.length_cons]; omega
      · exact ih
theorem pot_lt {F : List ByteArray} {n : Nat} (h : xn n ∈ F) : pot F (n + 1) < pot F n := by
  induction F with
  | nil => simp at h
  | cons a F ih =>
    have ha := pot_anti F n
    unfold pot at ih ha ⊢
    simp only [List.filter_cons]
    rcases List.mem_cons.1 h with e | e
    · subst e
      have h1 : ¬ ∀ k, k < n + 1 → xn n ≠ xn k := fun h => h n (by omega) rfl
      have h2 : ∀ k, k < n → xn n ≠ xn k := fun k hk e => by have := xn_inj e; omega
      rw [if_neg (by simpa using h1), if_pos (decide_eq_true h2)]
      simp only [List.length_cons]; omega
    · have := ih e
      by_cases h : ∀ k, k < n + 1 → a ≠ xn k
      · have h' : ∀ k, k < n → a ≠ xn k := fun k hk => h k (by omega)
        rw [if_pos (decide_eq_true h), if_pos (decide_eq_true h')]
        simpa using this
      · rw [if_neg (by simpa using h)]
        split
        · simp only [List.length_cons]; omega
        · exact this

/-- The next number whose name is not in a list. -/
def memB (F : List ByteArray) (s : ByteArray) : Bool := F.any fun a => decide (a = s)
theorem memB_iff {F : List ByteArray} {s : ByteArray} : memB F s = true ↔ s ∈ F := by
  unfold memB
  simp only [List.any_eq_true, decide_eq_true_eq]
  exact ⟨fun ⟨x, hx, e⟩ => e ▸ hx, fun h => ⟨s, h, rfl⟩⟩
def freshK (F : List ByteArray) (n : Nat) : Nat := if _h : memB F (xn n) = true then freshK F (n + 1) else n
termination_by pot F n
decreasing_by exact pot_lt (memB_iff.1 _h)

theorem freshK_in {F : List ByteArray} {n : Nat} (h : xn n ∈ F) : freshK F n = freshK F (n + 1) := by rw [freshK, dif_pos (memB_iff.2 h)]
theorem freshK_out {F : List ByteArray} {n : Nat} (h : xn n ∉ F) : freshK F n = n := by rw [freshK, dif_neg (fun e => h (memB_iff.1 e))]
theorem freshK_facts (F : List ByteArray) (p : Nat) : ∀ n, pot F n ≤ p → n ≤ freshK F n ∧ xn (freshK F n) ∉ F ∧ freshK F n + 1 + pot F (freshK F n + 1) ≤ n + pot F n + 1 := by
  induction p with
  | zero =>
    intro n hn
    have hx : xn n ∉ F := fun h => by have := pot_lt h; omega
    rw [freshK_out hx]
    exact ⟨Nat.le_refl _, hx, by have := pot_anti F n; omega⟩
  | succ p ih =>
    intro n hn
    by_cases hx : xn n ∈ F
    · rw [freshK_in hx]
      have h1 := pot_lt hx
      obtain ⟨a, b, c⟩ := ih (n + 1) (by omega)
      exact ⟨by omega, b, by omega⟩
    · rw [freshK_out hx]
      exact ⟨Nat.le_refl _, hx, by have := pot_anti F n; omega⟩
theorem freshK_ge (F : List ByteArray) (n : Nat) : n ≤ freshK F n := (freshK_facts F _ n (Nat.le_refl _)).1
theorem freshK_not (F : List ByteArray) (n : Nat) : xn (freshK F n) ∉ F := (freshK_facts F _ n (Nat.le_refl _)).2.1
theorem freshK_pot (F : List ByteArray) (n : Nat) : freshK F n + 1 + pot F (freshK F n + 1) ≤ n + pot F n + 1 := (freshK_facts F _ n (Nat.le_refl _)).2.2

def leafT (s : ByteArray) : Tree := .node s []

mutual
/-- An expression with its bound names renamed, and the next number. -/
def Tree.ren (F : List ByteArray) : Tree → List ByteArray → List ByteArray → Nat → Tree × Nat
  | .node a [], fr, to, n => (if nameB a.data.toList then leafT (look fr to a) else leafT a, n)
  | .node _ [p, x, e, b], fr, to, n =>
    if p.atom.data.toList = [108, 101, 116] then
      (.node ⟨#[]⟩ [p, leafT (xn (freshK F n)), (e.ren F fr to (freshK F n + 1)).1, (b.ren F (fr ++ [x.atom]) (to ++ [xn (freshK F n)]) (e.ren F fr to (freshK F n + 1)).2).1],
        (b.ren F (fr ++ [x.atom]) (to ++ [xn (freshK F n)]) (e.ren F fr to (freshK F n + 1)).2).2)
    else (.node ⟨#[]⟩ (p :: (Tree.renL F [x, e, b] fr to n).1), (Tree.renL F [x, e, b] fr to n).2)
  | .node _ [p, f, x, u, v, b], fr, to, n =>
    (.node ⟨#[]⟩ [p, leafT (xn (freshK F n)), leafT (xn (freshK F (freshK F n + 1))), u, v,
      (b.ren F (fr ++ [f.atom, x.atom]) (to ++ [xn (freshK F n), xn (freshK F (freshK F n + 1))]) (freshK F (freshK F n + 1) + 1)).1],
      (b.ren F (fr ++ [f.atom, x.atom]) (to ++ [xn (freshK F n), xn (freshK F (freshK F n + 1))]) (freshK F (freshK F n + 1) + 1)).2)
  | .node _ (p :: ps), fr, to, n => (.node ⟨#[]⟩ (p :: (Tree.renL F ps fr to n).1), (Tree.renL F ps fr to n).2)
def Tree.renL (F : List ByteArray) : List Tree → List ByteArray → List ByteArray → Nat → List Tree × Nat
  | [], _, _, n => ([], n)
  | p :: ps, fr, to, n => ((p.ren F fr to n).1 :: (Tree.renL F ps fr to (p.ren F fr to n).2).1, (Tree.renL F ps fr to (p.ren F fr to n).2).2)
end

/-- Are two expressions alike, with the names that are bound around each? -/
def Tree.alike (f g : Tree) (a b : List ByteArray) : Bool :=
  if _h : f.parts = [] ∨ g.parts = [] then
    (f.parts.isEmpty && g.parts.isEmpty) && (decide (lastZ a f.atom = lastZ b g.atom) && (decide (0 ≤ lastZ a f.atom) || decide (f.atom = g.atom)))
  else decide (f.hd = g.hd) && decide (f.parts.length = g.parts.length) && (!decide (f.hd.data.toList = [102, 117, 110]) || (nth f.parts 3).eqB (nth g.parts 3) && (nth f.parts 4).eqB (nth g.parts 4)) &&
    (kidsOf f.hd.data.toList f.parts.length).all fun i => Tree.alike (nth f.parts i) (nth g.parts i) (a ++ f.bindsAt i) (b ++ g.bindsAt i)
termination_by f.sz
decreasing_by exact nth_sz (fun e => _h (.inl e)) _

theorem alike_leaf {f g : Tree} (a b : List ByteArray) (h : f.parts = [] ∨ g.parts = []) : f.alike g a b =
    ((f.parts.isEmpty && g.parts.isEmpty) && (decide (lastZ a f.atom = lastZ b g.atom) && (decide (0 ≤ lastZ a f.atom) || decide (f.atom = g.atom)))) := by
  rw [Tree.alike, dif_pos h]
theorem alike_node {f g : Tree} (a b : List ByteArray) (h : ¬ (f.parts = [] ∨ g.parts = [])) : f.alike g a b =
    (decide (f.hd = g.hd) && decide (f.parts.length = g.parts.length) && (!decide (f.hd.data.toList = [102, 117, 110]) || (nth f.parts 3).eqB (nth g.parts 3) && (nth f.parts 4).eqB (nth g.parts 4)) &&
    (kidsOf f.hd.data.toList f.parts.length).all fun i => Tree.alike (nth f.parts i) (nth g.parts i) (a ++ f.bindsAt i) (b ++ g.bindsAt i)) := by
  rw [Tree.alike, dif_neg h]

/-- The shapes of an expression. -/
inductive Shp : Tree → Prop
  | leaf (a : ByteArray) (h : bareB a.data.toList = true) : Shp (.node a [])
  | op (a : ByteArray) (p : Tree) (ps : List Tree) (hk : kidAt p.atom.data.toList (ps.length + 1) = 1) (hl : 1 ≤ ps.length ∧ ps.length ≤ 3) (h1 : p.atom.data.toList ≠ [108, 101, 116]) (h2 : p.atom.data.toList ≠ [102, 117, 110]) (hq : ∀ q ∈ ps, q.isExpr = true) : Shp (.node a (p :: ps))
  | lt (a : ByteArray) (p x e b : Tree) (hp : p.atom.data.toList = [108, 101, 116]) (hx : nameB x.atom.data.toList = true) (he : e.isExpr = true) (hb : b.isExpr = true) : Shp (.node a [p, x, e, b])
  | fn (a : ByteArray) (p f x u v b : Tree) (hp : p.atom.data.toList = [102, 117, 110]) (hf : nameB f.atom.data.toList = true) (hx : nameB x.atom.data.toList = true) (hne : f.atom ≠ x.atom) (hu : u.typed = true) (hv : v.typed = true) (hb : b.isExpr = true) : Shp (.node a [p, f, x, u, v, b])

theorem shp {t : Tree} (h : t.isExpr = true) : Shp t := by
  obtain ⟨a, ps⟩ := t
  cases ps with
  | nil => exact .leaf a (by simpa [Tree.isExpr] using h)
  | cons p ps =>
    obtain ⟨hk, hh, hq⟩ := isExpr_parts h
    rw [Tree.kidL_cons _ _ _ hk] at hq
    rcases kidAt_cases p.atom.data.toList (ps.length + 1) with e | ⟨e, l1, l2, h1, h2⟩ | ⟨e, hl, hp⟩ | ⟨e, hl, hp⟩
    · exact absurd e hk
    · rw [e] at hq
      exact .op a p ps e ⟨by omega, by omega⟩ h1 h2 (by simpa using hq)
    · rw [e] at hh hq
      match ps, hl with
      | [x, e', b], _ =>
        have hx : nameB x.atom.data.toList = true := hh
        exact .lt a p x e' b hp hx (hq e' (by simp)) (hq b (by simp))
    · rw [e] at hh hq
      match ps, hl with
      | [f, x, u, v, b], _ =>
        have hh' : (nameB f.atom.data.toList && nameB x.atom.data.toList && !(f.atom.toList == x.atom.toList) && u.typed && v.typed) = true := hh
        simp only [Bool.and_eq_true, Bool.not_eq_true'] at hh'
        obtain ⟨⟨⟨⟨hf, hx⟩, hne⟩, hu⟩, hv⟩ := hh'
        exact .fn a p f x u v b hp hf hx (fun e => by rw [e] at hne; simp at hne) hu hv (hq b (by simp))

theorem ren_leaf (F : List ByteArray) (a : ByteArray) (fr to : List ByteArray) (n : Nat) : (Tree.node a []).ren F fr to n = (if nameB a.data.toList then leafT (look fr to a) else leafT a, n) := by
  simp only [Tree.ren]
theorem ren_let (F : List ByteArray) (a : ByteArray) (p x e b : Tree) (fr to : List ByteArray) (n : Nat) (hp : p.atom.data.toList = [108, 101, 116]) : (Tree.node a [p, x, e, b]).ren F fr to n =
    (.node ⟨#[]⟩ [p, leafT (xn (freshK F n)), (e.ren F fr to (freshK F n + 1)).1, (b.ren F (fr ++ [x.atom]) (to ++ [xn (freshK F n)]) (e.ren F fr to (freshK F n + 1)).2).1],
        (b.ren F (fr ++ [x.atom]) (to ++ [xn (freshK F n)]) (e.ren F fr to (freshK F n + 1)).2).2) := by
  simp only [Tree.ren]; rw [if_pos hp]
theorem ren_fun (F : List ByteArray) (a : ByteArray) (p f x u v b : Tree) (fr to : List ByteArray) (n : Nat) : (Tree.node a [p, f, x, u, v, b]).ren F fr to n =
    (.node ⟨#[]⟩ [p, leafT (xn (freshK F n)), leafT (xn (freshK F (freshK F n + 1))), u, v,
      (b.ren F (fr ++ [f.atom, x.atom]) (to ++ [xn (freshK F n), xn (freshK F (freshK F n + 1))]) (freshK F (freshK F n + 1) + 1)).1],
      (b.ren F (fr ++ [f.atom, x.atom]) (to ++ [xn (freshK F n), xn (freshK F (freshK F n + 1))]) (freshK F (freshK F n + 1) + 1)).2) := by
  simp only [Tree.ren]
theorem ren_op (F : List ByteArray) (a : ByteArray) (p : Tree) (ps : List Tree) (fr to : List ByteArray) (n : Nat) (hl : 1 ≤ ps.length ∧ ps.length ≤ 3) (h1 : p.atom.data.toList ≠ [108, 101, 116]) : (Tree.node a (p :: ps)).ren F fr to n =
    (.node ⟨#[]⟩ (p :: (Tree.renL F ps fr to n).1), (Tree.renL F ps fr to n).2) := by
  match ps, hl with
  | [x], _ => simp only [Tree.ren]
  | [x, y], _ => simp only [Tree.ren]
  | [x, y, z], _ => simp only [Tree.ren]; rw [if_neg h1]

end Go.Proofs.Ytoihkjnfklogpaa

/- Alike expressions: their free names, and what they are renamed to. No program is in sight. -/
namespace Go.Proofs.Ytoihkjnfklogpaa

theorem anyT_iff {l : List ByteArray} {s : ByteArray} : (l.any fun x => x.toList == s.toList) = true ↔ s ∈ l := by
  simp only [List.any_eq_true, beq_iff_eq]
  constructor
  · rintro ⟨x, hx, e⟩
    rw [Lib.toList_data, Lib.toList_data] at e
    rw [← bytes_eq e]; exact hx
  · exact fun h => ⟨s, h, rfl⟩
theorem occ_leaf' (bound : List ByteArray) (s : ByteArray) : (Tree.node s []).occ bound = if (nameB s.data.toList && !memB bound s) = true then [s] else [] := by
  rw [occ_leaf]
  have : (bound.any fun x => x.toList == s.toList) = memB bound s := by rw [Bool.eq_iff_iff, anyT_iff, memB_iff]
  rw [this]
theorem occ_leaf_in {bound : List ByteArray} {s : ByteArray} (h : s ∈ bound) : (Tree.node s []).occ bound = [] := by
  rw [occ_leaf', memB_iff.2 h]; simp
theorem occ_leaf_out {bound : List ByteArray} {s : ByteArray} (h : s ∉ bound) : (Tree.node s []).occ bound = if nameB s.data.toList = true then [s] else [] := by
  have : memB bound s = false := by
    cases e : memB bound s with
    | false => rfl
    | true => exact absurd (memB_iff.1 e) h
  rw [occ_leaf', this]; simp

theorem alike_occ (N : Nat) : ∀ (f g : Tree) (a b : List ByteArray), f.sz ≤ N → f.alike g a b = true → f.occ a = g.occ b := by
  induction N with
  | zero => intro f g a b h; cases f; simp [Tree.sz] at h
  | succ N ih =>
    intro f g a b hN h
    by_cases hp : f.parts = [] ∨ g.parts = []
    · rw [alike_leaf a b hp] at h
      simp only [Bool.and_eq_true, List.isEmpty_iff, decide_eq_true_eq, Bool.or_eq_true] at h
      obtain ⟨⟨h1, h2⟩, h3, h4⟩ := h
      obtain ⟨s, ps⟩ := f
      obtain ⟨s', qs⟩ := g
      simp only [Tree.parts] at h1 h2
      subst h1; subst h2
      simp only [Tree.atom] at h3 h4
      rcases lastZ_cases a s with ⟨e1, e2⟩ | ⟨k, e1, e2, e3⟩
      · have : s = s' := by rcases h4 with h4 | h4; omega; exact h4
        subst this
        have e3 : s ∉ b := lastZ_neg.1 (by rw [← h3, e1])
        rw [occ_leaf_out e2, occ_leaf_out e3]
      · have m1 : s ∈ a := List.mem_of_getElem? e2
        have m2 : s' ∈ b := by
          rcases lastZ_cases b s' with ⟨q1, q2⟩ | ⟨j, q1, q2, q3⟩
          · omega
          · exact List.mem_of_getElem? q2
        rw [occ_leaf_in m1, occ_leaf_in m2]
    · rw [alike_node a b hp] at h
      simp only [Bool.and_eq_true, decide_eq_true_eq, List.all_eq_true] at h
      obtain ⟨⟨⟨h1, h2⟩, -⟩, h3⟩ := h
      have hf : f.parts ≠ [] := fun e => hp (.inl e)
      have hg : g.parts ≠ [] := fun e => hp (.inr e)
      rw [occ_node a hf, occ_node b hg, ← h1, ← h2]
      congr 1
      exact List.map_congr_left fun i hi => ih _ _ _ _ (by have := nth_sz hf i; omega) (h3 i hi)

/-! By shapes. -/
def Tree.alikeL (a b : List ByteArray) : List Tree → List Tree → Bool
  | x :: xs, y :: ys => x.alike y a b && Tree.alikeL a b xs ys
  | _, _ => true

theorem kidAt_let (n : Nat) (h : n = 4) : kidAt [108, 101, 116] n = 2 := by subst h; decide
theorem kidAt_fun (n : Nat) (h : n = 6) : kidAt [102, 117, 110] n = 5 := by subst h; decide

theorem alike_let {p p' x x' e e' b b' : Tree} {s s' : ByteArray} (A B : List ByteArray) (hp : p.atom.data.toList = [108, 101, 116]) (hp' : p'.atom.data.toList = [108, 101, 116]) :
    (Tree.node s [p, x, e, b]).alike (.node s' [p', x', e', b']) A B = (e.alike e' A B && b.alike b' (A ++ [x.atom]) (B ++ [x'.atom])) := by
  rw [alike_node _ _ (by simp [Tree.parts])]
  have h1 : (Tree.node s [p, x, e, b]).hd = (Tree.node s' [p', x', e', b']).hd := bytes_eq (by simp only [Tree.hd]; rw [hp, hp'])
  have h2 : (Tree.node s [p, x, e, b]).hd.data.toList = [108, 101, 116] := hp
  have h2' : (Tree.node s' [p', x', e', b']).hd.data.toList = [108, 101, 116] := hp'
  have h3 : kidsOf [108, 101, 116] (Tree.node s [p, x, e, b]).parts.length = [2, 3] := by show kidsOf [108, 101, 116] 4 = [2, 3]; decide
  rw [decide_eq_true h1, h2, h3]
  simp [Tree.parts, Tree.bindsAt, h2, h2', nth]
theorem alike_fun {p p' f f' x x' u u' v v' b b' : Tree} {s s' : ByteArray} (A B : List ByteArray) (hp : p.atom.data.toList = [102, 117, 110]) (hp' : p'.atom.data.toList = [102, 117, 110]) :
    (Tree.node s [p, f, x, u, v, b]).alike (.node s' [p', f', x', u', v', b']) A B = ((u.eqB u' && v.eqB v') && b.alike b' (A ++ [f.atom, x.atom]) (B ++ [f'.atom, x'.atom])) := by
  rw [alike_node _ _ (by simp [Tree.parts])]
  have h1 : (Tree.node s [p, f, x, u, v, b]).hd = (Tree.node s' [p', f', x', u', v', b']).hd := bytes_eq (by simp only [Tree.hd]; rw [hp, hp'])
  have h2 : (Tree.node s [p, f, x, u, v, b]).hd.data.toList = [102, 117, 110] := hp
  have h2' : (Tree.node s' [p', f', x', u', v', b']).hd.data.toList = [102, 117, 110] := hp'
  have h3 : kidsOf [102, 117, 110] (Tree.node s [p, f, x, u, v, b]).parts.length = [5] := by show kidsOf [102, 117, 110] 6 = [5]; decide
  rw [decide_eq_true h1, h2, h3]
  simp [Tree.parts, Tree.bindsAt, h2, h2', nth]
theorem binds_op {t : Tree} (h1 : t.hd.data.toList ≠ [108, 101, 116]) (h2 : t.hd.data.toList ≠ [102, 117, 110]) (i : Nat) : t.bindsAt i = [] := by
  unfold Tree.bindsAt; rw [if_neg (fun h => h1 h.1), if_neg h2]
theorem alike_op {p p' : Tree} {ps ps' : List Tree} {s s' : ByteArray} (A B : List ByteArray) (hk : kidAt p.atom.data.toList (ps.length + 1) = 1) (hl : 1 ≤ ps.length ∧ ps.length ≤ 3)
    (h1 : p.atom.data.toList ≠ [108, 101, 116]) (h2 : p.atom.data.toList ≠ [102, 117, 110]) (hp : p.atom = p'.atom) (hps : ps.length = ps'.length) :
    (Tree.node s (p :: ps)).alike (.node s' (p' :: ps')) A B = Tree.alikeL A B ps ps' := by
  rw [alike_node _ _ (by simp [Tree.parts])]
  have e1 : (Tree.node s (p :: ps)).hd = (Tree.node s' (p' :: ps')).hd := hp
  have e2 : (Tree.node s (p :: ps)).parts.length = (Tree.node s' (p' :: ps')).parts.length := by simp [Tree.parts, hps]
  have e3 : ¬ (Tree.node s (p :: ps)).hd.data.toList = [102, 117, 110] := h2
  have e4 : kidsOf (Tree.node s (p :: ps)).hd.data.toList (Tree.node s (p :: ps)).parts.length = List.range' 1 ps.length := by
    unfold kidsOf
    have : kidAt (Tree.node s (p :: ps)).hd.data.toList (Tree.node s (p :: ps)).parts.length = 1 := hk
    rw [this, if_neg (by decide)]
    simp [Tree.parts]
  have b1 : ∀ i, (Tree.node s (p :: ps)).bindsAt i = [] := binds_op h1 h2
  have b2 : ∀ i, (Tree.node s' (p' :: ps')).bindsAt i = [] := binds_op (by rw [← e1]; exact h1) (by rw [← e1]; exact h2)
  rw [decide_eq_true e1, decide_eq_true e2, decide_eq_false e3, e4]
  simp only [b1, b2, List.append_nil]
  match ps, ps', hl, hps with
  | [x], [x'], _, _ => simp [Tree.parts, nth, Tree.alikeL]
  | [x, y], [x', y'], _, _ => simp [Tree.parts, nth, List.range', Tree.alikeL]
  | [x, y, z], [x', y', z'], _, _ => simp [Tree.parts, nth, List.range', Tree.alikeL]

theorem occ_let {p x e b : Tree} {s : ByteArray} (A : List ByteArray) (hp : p.atom.data.toList = [108, 101, 116]) : (Tree.node s [p, x, e, b]).occ A = e.occ A ++ b.occ (A ++ [x.atom]) := by
  rw [occ_node _ (by simp [Tree.parts])]
  have h2 : (Tree.node s [p, x, e, b]).hd.data.toList = [108, 101, 116] := hp
  have h3 : kidsOf [108, 101, 116] (Tree.node s [p, x, e, b]).parts.length = [2, 3] := by show kidsOf [108, 101, 116] 4 = [2, 3]; decide
  rw [h2, h3]
  simp [Tree.parts, Tree.bindsAt, h2, nth]
theorem occ_fun {p f x u v b : Tree} {s : ByteArray} (A : List ByteArray) (hp : p.atom.data.toList = [102, 117, 110]) : (Tree.node s [p, f, x, u, v, b]).occ A = b.occ (A ++ [f.atom, x.atom]) := by
  rw [occ_node _ (by simp [Tree.parts])]
  have h2 : (Tree.node s [p, f, x, u, v, b]).hd.data.toList = [102, 117, 110] := hp
  have h3 : kidsOf [102, 117, 110] (Tree.node s [p, f, x, u, v, b]).parts.length = [5] := by show kidsOf [102, 117, 110] 6 = [5]; decide
  rw [h2, h3]
  simp [Tree.parts, Tree.bindsAt, h2, nth]
theorem occ_op {p : Tree} {ps : List Tree} {s : ByteArray} (A : List ByteArray) (hk : kidAt p.atom.data.toList (ps.length + 1) = 1) (hl : 1 ≤ ps.length ∧ ps.length ≤ 3)
    (h1 : p.atom.data.toList ≠ [108, 101, 116]) (h2 : p.atom.data.toList ≠ [102, 117, 110]) : (Tree.node s (p :: ps)).occ A = (ps.map fun q => q.occ A).flatten := by
  rw [occ_node _ (by simp [Tree.parts])]
  have e4 : kidsOf (Tree.node s (p :: ps)).hd.data.toList (Tree.node s (p :: ps)).parts.length = List.range' 1 ps.length := by
    unfold kidsOf
    have : kidAt (Tree.node s (p :: ps)).hd.data.toList (Tree.node s (p :: ps)).parts.length = 1 := hk
    rw [this, if_neg (by decide)]
    simp [Tree.parts]
  have b1 : ∀ i, (Tree.node s (p :: ps)).bindsAt i = [] := binds_op h1 h2
  rw [e4]
  simp only [b1, List.append_nil]
  match ps, hl with
  | [x], _ => simp [Tree.parts, nth]
  | [x, y], _ => simp [Tree.parts, nth, List.range']
  | [x, y, z], _ => simp [Tree.parts, nth, List.range']

theorem szs4 {s : ByteArray} {p x e b : Tree} {N : Nat} (h : (Tree.node s [p, x, e, b]).sz ≤ N + 1) : e.sz ≤ N ∧ b.sz ≤ N := by
  simp only [Tree.sz, Tree.szL] at h; omega
theorem szs6 {s : ByteArray} {p f x u v b : Tree} {N : Nat} (h : (Tree.node s [p, f, x, u, v, b]).sz ≤ N + 1) : b.sz ≤ N := by
  simp only [Tree.sz, Tree.szL] at h; omega
theorem szsL {s : ByteArray} {p : Tree} {ps : List Tree} {N : Nat} (h : (Tree.node s (p :: ps)).sz ≤ N + 1) : ∀ q ∈ ps, q.sz ≤ N := by
  intro q hq
  have := Tree.kidL_sz (t := .node s (p :: ps)) (q := q)
  have h2 := Tree.part_sz (t := .node s (p :: ps)) (q := q) (List.mem_cons_of_mem _ hq)
  omega

/-- A leaf, renamed. -/
theorem ren_leaf' (F : List ByteArray) (s : ByteArray) (fr to : List ByteArray) (n : Nat) (hfr : ∀ x ∈ fr, nameB x.data.toList = true) : (Tree.node s []).ren F fr to n = (leafT (look fr to s), n) := by
  rw [ren_leaf]
  by_cases h : nameB s.data.toList = true
  · rw [if_pos h]
  · rw [if_neg h]
    have : s ∉ fr := fun e => h (hfr s e)
    unfold look
    rw [lastZ_neg.2 this]; rfl

theorem name_snoc {a : List ByteArray} (h : ∀ x ∈ a, nameB x.data.toList = true) {x : ByteArray} (hx : nameB x.data.toList = true) : ∀ y ∈ a ++ [x], nameB y.data.toList = true := by
  intro y hy
  rcases List.mem_append.1 hy with h1 | h1
  · exact h y h1
  · simp at h1; subst h1; exact hx
theorem name_snoc2 {a : List ByteArray} (h : ∀ x ∈ a, nameB x.data.toList = true) {x z : ByteArray} (hx : nameB x.data.toList = true) (hz : nameB z.data.toList = true) : ∀ y ∈ a ++ [x, z], nameB y.data.toList = true := by
  intro y hy
  rcases List.mem_append.1 hy with h1 | h1
  · exact h y h1
  · simp at h1; rcases h1 with rfl | rfl <;> assumption

theorem renL_length (F : List ByteArray) : ∀ (ps : List Tree) (fr to : List ByteArray) (n : Nat), (Tree.renL F ps fr to n).1.length = ps.length
  | [], _, _, _ => by simp only [Tree.renL]
  | p :: ps, fr, to, n => by simp only [Tree.renL, List.length_cons, renL_length F ps]

theorem renL_ge (F : List ByteArray) (fr to : List ByteArray) : ∀ (ps : List Tree), (∀ q ∈ ps, ∀ n, n ≤ (q.ren F fr to n).2) → ∀ n, n ≤ (Tree.renL F ps fr to n).2
  | [], _, n => by simp only [Tree.renL]; exact Nat.le_refl _
  | p :: ps, h, n => by
    simp only [Tree.renL]
    exact Nat.le_trans (h p (by simp) n) (renL_ge F fr to ps (fun q hq => h q (by simp [hq])) _)

theorem ren_ge (F : List ByteArray) (N : Nat) : ∀ (t : Tree) (fr to : List ByteArray) (n : Nat), t.sz ≤ N → t.isExpr = true → n ≤ (t.ren F fr to n).2 := by
  induction N with
  | zero => intro t fr to n h; cases t; simp [Tree.sz] at h
  | succ N ih =>
    intro t fr to n hN he
    cases shp he with
    | leaf s h => rw [ren_leaf]; exact Nat.le_refl _
    | op s p ps hk hl h1 h2 hq =>
      rw [ren_op _ _ _ _ _ _ _ hl h1]
      exact renL_ge F fr to ps (fun q hm n => ih q fr to n (szsL hN q hm) (hq q hm)) n
    | lt s p x e b hp hx he' hb =>
      rw [ren_let _ _ _ _ _ _ _ _ _ hp]
      obtain ⟨s1, s2⟩ := szs4 hN
      have h1 := ih e fr to (freshK F n + 1) s1 he'
      have h2 := ih b (fr ++ [x.atom]) (to ++ [xn (freshK F n)]) (e.ren F fr to (freshK F n + 1)).2 s2 hb
      have h3 := freshK_ge F n
      show n ≤ (b.ren _ _ _ _).2
      omega
    | fn s p f x u v b hp hf hx hne hu hv hb =>
      rw [ren_fun]
      have h2 := ih b (fr ++ [f.atom, x.atom]) (to ++ [xn (freshK F n), xn (freshK F (freshK F n + 1))]) (freshK F (freshK F n + 1) + 1) (szs6 hN) hb
      have h3 := freshK_ge F n
      have h4 := freshK_ge F (freshK F n + 1)
      show n ≤ (b.ren _ _ _ _).2
      omega

theorem leaf_atom {p : Tree} (hg : p.good = true) (h : p.atom.data.toList ≠ []) : p = leafT p.atom := by
  obtain ⟨a, ps⟩ := p
  have := leaf_of_good hg h
  simp only [Tree.parts] at this
  subst this; rfl

theorem good4 {s : ByteArray} {ps : List Tree} (h : (Tree.node s ps).good = true) : ∀ q ∈ ps, q.good = true := by
  intro q hq
  obtain ⟨i, hi⟩ := List.getElem?_of_mem hq
  exact Tree.good_part _ _ _ hi (Tree.good_parts h).1

theorem alikeL_ren (F : List ByteArray) (a b to : List ByteArray) : ∀ (ps qs : List Tree), ps.length = qs.length → (∀ x ∈ ps, ∀ y ∈ qs, ∀ n, x.alike y a b = true → x.ren F a to n = y.ren F b to n) → Tree.alikeL a b ps qs = true →
    ∀ n, Tree.renL F ps a to n = Tree.renL F qs b to n
  | [], [], _, _, _, n => by simp only [Tree.renL]
  | [], _ :: _, h, _, _, _ => by simp at h
  | _ :: _, [], h, _, _, _ => by simp at h
  | p :: ps, q :: qs, hl, H, h, n => by
    simp only [Tree.alikeL, Bool.and_eq_true] at h
    simp only [Tree.renL]
    rw [H p (by simp) q (by simp) n h.1, alikeL_ren F a b to ps qs (by simpa using hl) (fun x hx y hy => H x (by simp [hx]) y (by simp [hy])) h.2]

/-- Alike expressions are renamed to one. -/
theorem alike_ren (F : List ByteArray) (N : Nat) : ∀ (f g : Tree) (a b to : List ByteArray) (n : Nat), f.sz ≤ N → f.isExpr = true → g.isExpr = true → f.good = true → g.good = true → a.length = to.length → b.length = to.length →
    (∀ x ∈ a, nameB x.data.toList = true) → (∀ x ∈ b, nameB x.data.toList = true) → f.alike g a b = true → f.ren F a to n = g.ren F b to n := by
  induction N with
  | zero => intro f g a b to n h; cases f; simp [Tree.sz] at h
  | succ N ih =>
    intro f g a b to n hN hf hg gf gg la lb na nb h
    cases shp hf with
    | leaf s hs =>
      rw [alike_leaf a b (.inl rfl)] at h
      simp only [Bool.and_eq_true, List.isEmpty_iff, decide_eq_true_eq, Bool.or_eq_true] at h
      obtain ⟨⟨-, h2⟩, h3, h4⟩ := h
      obtain ⟨s', qs⟩ := g
      simp only [Tree.parts] at h2
      subst h2
      rw [ren_leaf' _ _ _ _ _ na, ren_leaf' _ _ _ _ _ nb]
      simp only [Tree.atom] at h3 h4
      unfold look
      rw [← h3]
      rcases lastZ_cases a s with ⟨e1, e2⟩ | ⟨k, e1, e2, e3⟩
      · have : s = s' := by rcases h4 with h4 | h4; omega; exact h4
        rw [this]
      · have hk : k < to.length := by omega
        rw [e1, if_pos (by omega), if_pos (by omega)]
        simp [List.getD_eq_getElem?_getD, List.getElem?_eq_getElem hk]
    | op s p ps hk hl h1 h2 hq =>
      have hpp : ¬ ((Tree.node s (p :: ps)).parts = [] ∨ g.parts = []) := by
        rintro (e | e)
        · simp [Tree.parts] at e
        · rw [alike_leaf a b (.inr e)] at h; simp [Tree.parts] at h
      have hh := h
      rw [alike_node a b hpp] at h
      simp only [Bool.and_eq_true, decide_eq_true_eq] at h
      obtain ⟨⟨⟨k1, k2⟩, -⟩, -⟩ := h
      cases shp hg with
      | leaf s' hs' => simp [Tree.parts] at hpp
      | op s' p' ps' hk' hl' h1' h2' hq' =>
        have k1' : p.atom = p'.atom := k1
        have k2' : ps.length = ps'.length := by simpa [Tree.parts] using k2
        rw [alike_op a b hk hl h1 h2 k1' k2'] at hh
        rw [ren_op _ _ _ _ _ _ _ hl h1, ren_op _ _ _ _ _ _ _ hl' h1']
        rw [alikeL_ren F a b to ps ps' k2' (fun x hx y hy n hxy => ih x y a b to n (szsL hN x hx) (hq x hx) (hq' y hy) (good4 gf x (by simp [hx])) (good4 gg y (by simp [hy])) la lb na nb hxy) hh n]
        have e1 := leaf_atom (good4 gf p (by simp)) (kidAt_ne (n := ps.length + 1) (by omega))
        have e2 := leaf_atom (good4 gg p' (by simp)) (kidAt_ne (n := ps'.length + 1) (by omega))
        rw [e1, e2, k1']
      | lt s' p' x' e' b' hp' hx' he' hb' => exact absurd (show p.atom.data.toList = _ by rw [show p.atom = p'.atom from k1]; exact hp') h1
      | fn s' p' f' x' u' v' b' hp' hf' hx' hne' hu' hv' hb' => exact absurd (show p.atom.data.toList = _ by rw [show p.atom = p'.atom from k1]; exact hp') h2
    | lt s p x e t hp hx he ht =>
      have hpp : ¬ ((Tree.node s [p, x, e, t]).parts = [] ∨ g.parts = []) := by
        rintro (e | e)
        · simp [Tree.parts] at e
        · rw [alike_leaf a b (.inr e)] at h; simp [Tree.parts] at h
      have hh := h
      rw [alike_node a b hpp] at h
      simp only [Bool.and_eq_true, decide_eq_true_eq] at h
      obtain ⟨⟨⟨k1, k2⟩, -⟩, -⟩ := h
      cases shp hg with
      | leaf s' hs' => simp [Tree.parts] at hpp
      | op s' p' ps' hk' hl' h1' h2' hq' => exact absurd (show p'.atom.data.toList = _ by rw [show p'.atom = p.atom from k1.symm]; exact hp) h1'
      | lt s' p' x' e' t' hp' hx' he' ht' =>
        have k1' : p.atom = p'.atom := k1
        rw [alike_let a b hp hp', Bool.and_eq_true] at hh
        obtain ⟨s1, s2⟩ := szs4 hN
        rw [ren_let _ _ _ _ _ _ _ _ _ hp, ren_let _ _ _ _ _ _ _ _ _ hp']
        rw [ih e e' a b to _ s1 he he' (good4 gf e (by simp)) (good4 gg e' (by simp)) la lb na nb hh.1]
        rw [ih t t' (a ++ [x.atom]) (b ++ [x'.atom]) (to ++ [xn (freshK F n)]) _ s2 ht ht' (good4 gf t (by simp)) (good4 gg t' (by simp)) (by simp [la]) (by simp [lb]) (name_snoc na hx) (name_snoc nb hx') hh.2]
        have e1 := leaf_atom (good4 gf p (by simp)) (by rw [hp]; simp)
        have e2 := leaf_atom (good4 gg p' (by simp)) (by rw [hp']; simp)
        rw [e1, e2, k1']
      | fn s' p' f' x' u' v' b' hp' hf' hx' hne' hu' hv' hb' => simp [Tree.parts] at k2
    | fn s p y x u v t hp hy hx hne hu hv ht =>
      have hpp : ¬ ((Tree.node s [p, y, x, u, v, t]).parts = [] ∨ g.parts = []) := by
        rintro (e | e)
        · simp [Tree.parts] at e
        · rw [alike_leaf a b (.inr e)] at h; simp [Tree.parts] at h
      have hh := h
      rw [alike_node a b hpp] at h
      simp only [Bool.and_eq_true, decide_eq_true_eq] at h
      obtain ⟨⟨⟨k1, k2⟩, -⟩, -⟩ := h
      cases shp hg with
      | leaf s' hs' => simp [Tree.parts] at hpp
      | op s' p' ps' hk' hl' h1' h2' hq' => exact absurd (show p'.atom.data.toList = _ by rw [show p'.atom = p.atom from k1.symm]; exact hp) h2'
      | lt s' p' x' e' t' hp' hx' he' ht' => simp [Tree.parts] at k2
      | fn s' p' y' x' u' v' t' hp' hy' hx' hne' hu' hv' ht' =>
        have k1' : p.atom = p'.atom := k1
        rw [alike_fun a b hp hp', Bool.and_eq_true, Bool.and_eq_true, eqB_iff, eqB_iff] at hh
        rw [ren_fun, ren_fun]
        rw [ih t t' (a ++ [y.atom, x.atom]) (b ++ [y'.atom, x'.atom]) (to ++ [xn (freshK F n), xn (freshK F (freshK F n + 1))]) _ (szs6 hN) ht ht' (good4 gf t (by simp)) (good4 gg t' (by simp)) (by simp [la]) (by simp [lb]) (name_snoc2 na hy hx) (name_snoc2 nb hy' hx') hh.2]
        have e1 := leaf_atom (good4 gf p (by simp)) (by rw [hp]; simp)
        have e2 := leaf_atom (good4 gg p' (by simp)) (by rw [hp']; simp)
        rw [e1, e2, k1', hh.1.1, hh.1.2]
end Go.Proofs.Ytoihkjnfklogpaa
