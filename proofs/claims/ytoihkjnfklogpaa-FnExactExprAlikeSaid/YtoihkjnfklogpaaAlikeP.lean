/- Expressions that are alike, and plain ones. No program is in sight. -/
import Derived.Test.YtoihkjnfklogpaaPlainJ
import Derived.Test.YtoihkjnfklogpaaEqB
import Derived.Test.YtoihkjnfklogpaaDecL
namespace Go.Proofs.Ytoihkjnfklogpaa

/-- The last place of a text in a list, -1 for none. -/
def lastZ : List ByteArray → ByteArray → Int
  | [], _ => -1
  | x :: l, s => if 0 ≤ lastZ l s then lastZ l s + 1 else if x = s then 0 else -1

def IsLast (l : List ByteArray) (s : ByteArray) (z : Int) : Prop :=
  (z = -1 ∧ ∀ j : Nat, l[j]? ≠ some s) ∨ ∃ k : Nat, z = k ∧ l[k]? = some s ∧ ∀ j : Nat, k < j → l[j]? ≠ some s

theorem lastZ_is : ∀ (l : List ByteArray) (s : ByteArray), IsLast l s (lastZ l s)
  | [], s => .inl ⟨rfl, fun j => by simp⟩
  | x :: l, s => by
    have ih := lastZ_is l s
    unfold lastZ
    rcases ih with ⟨h1, h2⟩ | ⟨k, h1, h2, h3⟩
    · rw [h1, if_neg (by decide)]
      by_cases hx : x = s
      · rw [if_pos hx]
        refine .inr ⟨0, rfl, by simp [hx], fun j hj => ?_⟩
        obtain ⟨j, rfl⟩ : ∃ i, j = i + 1 := ⟨j - 1, by omega⟩
        simpa using h2 j
      · rw [if_neg hx]
        refine .inl ⟨rfl, fun j => ?_⟩
        cases j with
        | zero => simpa using hx
        | succ j => simpa using h2 j
    · rw [h1, if_pos (by omega)]
      refine .inr ⟨k + 1, by omega, by simpa using h2, fun j hj => ?_⟩
      obtain ⟨j, rfl⟩ : ∃ i, j = i + 1 := ⟨j - 1, by omega⟩
      simpa using h3 j (by omega)

theorem IsLast.uniq {l : List ByteArray} {s : ByteArray} {z y : Int} (h : IsLast l s z) (k : IsLast l s y) : z = y := by
  rcases h with ⟨h1, h2⟩ | ⟨i, h1, h2, h3⟩ <;> rcases k with ⟨k1, k2⟩ | ⟨j, k1, k2, k3⟩
  · omega
  · exact absurd k2 (h2 j)
  · exact absurd h2 (k2 i)
  · rcases Nat.lt_trichotomy i j with h | h | h
    · exact absurd k2 (h3 j h)
    · omega
    · exact absurd h2 (k3 i h)

theorem lastZ_neg {l : List ByteArray} {s : ByteArray} : lastZ l s = -1 ↔ s ∉ l := by
  constructor
  · intro h hm
    obtain ⟨j, hj⟩ := List.getElem?_of_mem hm
    rcases lastZ_is l s with ⟨h1, h2⟩ | ⟨k, h1, h2, h3⟩
    · exact h2 j hj
    · omega
  · intro h
    rcases lastZ_is l s with ⟨h1, h2⟩ | ⟨k, h1, h2, h3⟩
    · exact h1
    · exact absurd (List.mem_of_getElem? h2) h
theorem lastZ_cases (l : List ByteArray) (s : ByteArray) : (lastZ l s = -1 ∧ s ∉ l) ∨ ∃ k : Nat, lastZ l s = k ∧ l[k]? = some s ∧ k < l.length := by
  rcases lastZ_is l s with ⟨h1, h2⟩ | ⟨k, h1, h2, h3⟩
  · exact .inl ⟨h1, lastZ_neg.1 h1⟩
  · exact .inr ⟨k, h1, h2, (List.getElem?_eq_some_iff.1 h2).1⟩

/-- What a name is renamed to. -/
def look (fr to : List ByteArray) (s : ByteArray) : ByteArray := if 0 ≤ lastZ fr s then to.getD (lastZ fr s).toNat s else s

/-- The name with a number. -/
def xn (n : Nat) : ByteArray := bts (120 :: decL n)
theorem xn_data (n : Nat) : (xn n).data.toList = 120 :: decL n := rfl
theorem xn_inj {n m : Nat} (h : xn n = xn m) : n = m := by
  have := congrArg (fun b : ByteArray => b.data.toList) h
  simp only [xn_data, List.cons.injEq, true_and] at this
  exact decL_inj this

/-- How many of a list may yet be met. -/
def pot (F : List ByteArray) (n : Nat) : Nat := (F.filter fun s => decide (∀ k, k < n → s ≠ xn k)).length
theorem pot_le (F : List ByteArray) (n : Nat) : pot F n ≤ F.length := List.length_filter_le _ _
theorem pot_anti (F : List ByteArray) (n : Nat) : pot F (n + 1) ≤ pot F n := by
  unfold pot
  induction F with
  | nil => simp
  | cons a F ih =>
    simp only [List.filter_cons]
    by_cases h : ∀ k, k < n + 1 → a ≠ xn k
    · have h' : ∀ k, k < n → a ≠ xn k := fun k hk => h k (by omega)
      rw [if_pos (decide_eq_true h), if_pos (decide_eq_true h')]
      simpa using ih
    · rw [if_neg (by simpa using h)]
      split
      · simp only [List.length_cons]; omega
      · exact ih
theorem pot_lt {F : List ByteArray} {n : Nat} (h : xn n ∈ F) : pot F (n + 1) < pot F n := by
  induction F with
  | nil => simp at h
  | cons a F ih =>
    have ha := pot_anti F n
    unfold pot at ih ha ⊢
    simp only [List.filter_cons]
    rcases List.mem_cons.1 h with e | e
    · subst e
      have h1 : ¬ ∀ k, k < n + 1 → xn n ≠ xn k := fun h => h n (by omega) rfl
      have h2 : ∀ k, k < n → xn n ≠ xn k := fun k hk e => by have := xn_inj e; omega
      rw [if_neg (by simpa using h1), if_pos (decide_eq_true h2)]
      simp only [List.length_cons]; omega
    · have := ih e
      by_cases h : ∀ k, k < n + 1 → a ≠ xn k
      · have h' : ∀ k, k < n → a ≠ xn k := fun k hk => h k (by omega)
        rw [if_pos (decide_eq_true h), if_pos (decide_eq_true h')]
        simpa using this
      · rw [if_neg (by simpa using h)]
        split
        · simp only [List.length_cons]; omega
        · exact this

/-- The next number whose name is not in a list. -/
def memB (F : List ByteArray) (s : ByteArray) : Bool := F.any fun a => decide (a = s)
theorem memB_iff {F : List ByteArray} {s : ByteArray} : memB F s = true ↔ s ∈ F := by
  unfold memB
  simp only [List.any_eq_true, decide_eq_true_eq]
  exact ⟨fun ⟨x, hx, e⟩ => e ▸ hx, fun h => ⟨s, h, rfl⟩⟩
def freshK (F : List ByteArray) (n : Nat) : Nat := if _h : memB F (xn n) = true then freshK F (n + 1) else n
termination_by pot F n
decreasing_by exact pot_lt (memB_iff.1 _h)

theorem freshK_in {F : List ByteArray} {n : Nat} (h : xn n ∈ F) : freshK F n = freshK F (n + 1) := by rw [freshK, dif_pos (memB_iff.2 h)]
theorem freshK_out {F : List ByteArray} {n : Nat} (h : xn n ∉ F) : freshK F n = n := by rw [freshK, dif_neg (fun e => h (memB_iff.1 e))]
theorem freshK_facts (F : List ByteArray) (p : Nat) : ∀ n, pot F n ≤ p → n ≤ freshK F n ∧ xn (freshK F n) ∉ F ∧ freshK F n + 1 + pot F (freshK F n + 1) ≤ n + pot F n + 1 := by
  induction p with
  | zero =>
    intro n hn
    have hx : xn n ∉ F := fun h => by have := pot_lt h; omega
    rw [freshK_out hx]
    exact ⟨Nat.le_refl _, hx, by have := pot_anti F n; omega⟩
  | succ p ih =>
    intro n hn
    by_cases hx : xn n ∈ F
    · rw [freshK_in hx]
      have h1 := pot_lt hx
      obtain ⟨a, b, c⟩ := ih (n + 1) (by omega)
      exact ⟨by omega, b, by omega⟩
    · rw [freshK_out hx]
      exact ⟨Nat.le_refl _, hx, by have := pot_anti F n; omega⟩
theorem freshK_ge (F : List ByteArray) (n : Nat) : n ≤ freshK F n := (freshK_facts F _ n (Nat.le_refl _)).1
theorem freshK_not (F : List ByteArray) (n : Nat) : xn (freshK F n) ∉ F := (freshK_facts F _ n (Nat.le_refl _)).2.1
theorem freshK_pot (F : List ByteArray) (n : Nat) : freshK F n + 1 + pot F (freshK F n + 1) ≤ n + pot F n + 1 := (freshK_facts F _ n (Nat.le_refl _)).2.2

def leafT (s : ByteArray) : Tree := .node s []

mutual
/-- An expression with its bound names renamed, and the next number. -/
def Tree.ren (F : List ByteArray) : Tree → List ByteArray → List ByteArray → Nat → Tree × Nat
  | .node a [], fr, to, n => (if nameB a.data.toList then leafT (look fr to a) else leafT a, n)
  | .node _ [p, x, e, b], fr, to, n =>
    if p.atom.data.toList = [108, 101, 116] then
      (.node ⟨#[]⟩ [p, leafT (xn (freshK F n)), (e.ren F fr to (freshK F n + 1)).1, (b.ren F (fr ++ [x.atom]) (to ++ [xn (freshK F n)]) (e.ren F fr to (freshK F n + 1)).2).1],
        (b.ren F (fr ++ [x.atom]) (to ++ [xn (freshK F n)]) (e.ren F fr to (freshK F n + 1)).2).2)
    else (.node ⟨#[]⟩ (p :: (Tree.renL F [x, e, b] fr to n).1), (Tree.renL F [x, e, b] fr to n).2)
  | .node _ [p, f, x, u, v, b], fr, to, n =>
    (.node ⟨#[]⟩ [p, leafT (xn (freshK F n)), leafT (xn (freshK F (freshK F n + 1))), u, v,
      (b.ren F (fr ++ [f.atom, x.atom]) (to ++ [xn (freshK F n), xn (freshK F (freshK F n + 1))]) (freshK F (freshK F n + 1) + 1)).1],
      (b.ren F (fr ++ [f.atom, x.atom]) (to ++ [xn (freshK F n), xn (freshK F (freshK F n + 1))]) (freshK F (freshK F n + 1) + 1)).2)
  | .node _ (p :: ps), fr, to, n => (.node ⟨#[]⟩ (p :: (Tree.renL F ps fr to n).1), (Tree.renL F ps fr to n).2)
def Tree.renL (F : List ByteArray) : List Tree → List ByteArray → List ByteArray → Nat → List Tree × Nat
  | [], _, _, n => ([], n)
  | p :: ps, fr, to, n => ((p.ren F fr to n).1 :: (Tree.renL F ps fr to (p.ren F fr to n).2).1, (Tree.renL F ps fr to (p.ren F fr to n).2).2)
end

/-- Are two expressions alike, with the names that are bound around each? -/
def Tree.alike (f g : Tree) (a b : List ByteArray) : Bool :=
  if _h : f.parts = [] ∨ g.parts = [] then
    (f.parts.isEmpty && g.parts.isEmpty) && (decide (lastZ a f.atom = lastZ b g.atom) && (decide (0 ≤ lastZ a f.atom) || decide (f.atom = g.atom)))
  else decide (f.hd = g.hd) && decide (f.parts.length = g.parts.length) && (!decide (f.hd.data.toList = [102, 117, 110]) || (nth f.parts 3).eqB (nth g.parts 3) && (nth f.parts 4).eqB (nth g.parts 4)) &&
    (kidsOf f.hd.data.toList f.parts.length).all fun i => Tree.alike (nth f.parts i) (nth g.parts i) (a ++ f.bindsAt i) (b ++ g.bindsAt i)
termination_by f.sz
decreasing_by exact nth_sz (fun e => _h (.inl e)) _

theorem alike_leaf {f g : Tree} (a b : List ByteArray) (h : f.parts = [] ∨ g.parts = []) : f.alike g a b =
    ((f.parts.isEmpty && g.parts.isEmpty) && (decide (lastZ a f.atom = lastZ b g.atom) && (decide (0 ≤ lastZ a f.atom) || decide (f.atom = g.atom)))) := by
  rw [Tree.alike, dif_pos h]
theorem alike_node {f g : Tree} (a b : List ByteArray) (h : ¬ (f.parts = [] ∨ g.parts = [])) : f.alike g a b =
    (decide (f.hd = g.hd) && decide (f.parts.length = g.parts.length) && (!decide (f.hd.data.toList = [102, 117, 110]) || (nth f.parts 3).eqB (nth g.parts 3) && (nth f.parts 4).eqB (nth g.parts 4)) &&
    (kidsOf f.hd.data.toList f.parts.length).all fun i => Tree.alike (nth f.parts i) (nth g.parts i) (a ++ f.bindsAt i) (b ++ g.bindsAt i)) := by
  rw [Tree.alike, dif_neg h]

/-- The shapes of an expression. -/
inductive Shp : Tree → Prop
  | leaf (a : ByteArray) (h : bareB a.data.toList = true) : Shp (.node a [])
  | op (a : ByteArray) (p : Tree) (ps : List Tree) (hk : kidAt p.atom.data.toList (ps.length + 1) = 1) (hl : 1 ≤ ps.length ∧ ps.length ≤ 3) (h1 : p.atom.data.toList ≠ [108, 101, 116]) (h2 : p.atom.data.toList ≠ [102, 117, 110]) (hq : ∀ q ∈ ps, q.isExpr = true) : Shp (.node a (p :: ps))
  | lt (a : ByteArray) (p x e b : Tree) (hp : p.atom.data.toList = [108, 101, 116]) (hx : nameB x.atom.data.toList = true) (he : e.isExpr = true) (hb : b.isExpr = true) : Shp (.node a [p, x, e, b])
  | fn (a : ByteArray) (p f x u v b : Tree) (hp : p.atom.data.toList = [102, 117, 110]) (hf : nameB f.atom.data.toList = true) (hx : nameB x.atom.data.toList = true) (hne : f.atom ≠ x.atom) (hu : u.typed = true) (hv : v.typed = true) (hb : b.isExpr = true) : Shp (.node a [p, f, x, u, v, b])

theorem shp {t : Tree} (h : t.isExpr = true) : Shp t := by
  obtain ⟨a, ps⟩ := t
  cases ps with
  | nil => exact .leaf a (by simpa [Tree.isExpr] using h)
  | cons p ps =>
    obtain ⟨hk, hh, hq⟩ := isExpr_parts h
    rw [Tree.kidL_cons _ _ _ hk] at hq
    rcases kidAt_cases p.atom.data.toList (ps.length + 1) with e | ⟨e, l1, l2, h1, h2⟩ | ⟨e, hl, hp⟩ | ⟨e, hl, hp⟩
    · exact absurd e hk
    · rw [e] at hq
      exact .op a p ps e ⟨by omega, by omega⟩ h1 h2 (by simpa using hq)
    · rw [e] at hh hq
      match ps, hl with
      | [x, e', b], _ =>
        have hx : nameB x.atom.data.toList = true := hh
        exact .lt a p x e' b hp hx (hq e' (by simp)) (hq b (by simp))
    · rw [e] at hh hq
      match ps, hl with
      | [f, x, u, v, b], _ =>
        have hh' : (nameB f.atom.data.toList && nameB x.atom.data.toList && !(f.atom.toList == x.atom.toList) && u.typed && v.typed) = true := hh
        simp only [Bool.and_eq_true, Bool.not_eq_true'] at hh'
        obtain ⟨⟨⟨⟨hf, hx⟩, hne⟩, hu⟩, hv⟩ := hh'
        exact .fn a p f x u v b hp hf hx (fun e => by rw [e] at hne; simp at hne) hu hv (hq b (by simp))

theorem ren_leaf (F : List ByteArray) (a : ByteArray) (fr to : List ByteArray) (n : Nat) : (Tree.node a []).ren F fr to n = (if nameB a.data.toList then leafT (look fr to a) else leafT a, n) := by
  simp only [Tree.ren]
theorem ren_let (F : List ByteArray) (a : ByteArray) (p x e b : Tree) (fr to : List ByteArray) (n : Nat) (hp : p.atom.data.toList = [108, 101, 116]) : (Tree.node a [p, x, e, b]).ren F fr to n =
    (.node ⟨#[]⟩ [p, leafT (xn (freshK F n)), (e.ren F fr to (freshK F n + 1)).1, (b.ren F (fr ++ [x.atom]) (to ++ [xn (freshK F n)]) (e.ren F fr to (freshK F n + 1)).2).1],
        (b.ren F (fr ++ [x.atom]) (to ++ [xn (freshK F n)]) (e.ren F fr to (freshK F n + 1)).2).2) := by
  simp only [Tree.ren]; rw [if_pos hp]
theorem ren_fun (F : List ByteArray) (a : ByteArray) (p f x u v b : Tree) (fr to : List ByteArray) (n : Nat) : (Tree.node a [p, f, x, u, v, b]).ren F fr to n =
    (.node ⟨#[]⟩ [p, leafT (xn (freshK F n)), leafT (xn (freshK F (freshK F n + 1))), u, v,
      (b.ren F (fr ++ [f.atom, x.atom]) (to ++ [xn (freshK F n), xn (freshK F (freshK F n + 1))]) (freshK F (freshK F n + 1) + 1)).1],
      (b.ren F (fr ++ [f.atom, x.atom]) (to ++ [xn (freshK F n), xn (freshK F (freshK F n + 1))]) (freshK F (freshK F n + 1) + 1)).2) := by
  simp only [Tree.ren]
theorem ren_op (F : List ByteArray) (a : ByteArray) (p : Tree) (ps : List Tree) (fr to : List ByteArray) (n : Nat) (hl : 1 ≤ ps.length ∧ ps.length ≤ 3) (h1 : p.atom.data.toList ≠ [108, 101, 116]) : (Tree.node a (p :: ps)).ren F fr to n =
    (.node ⟨#[]⟩ (p :: (Tree.renL F ps fr to n).1), (Tree.renL F ps fr to n).2) := by
  match ps, hl with
  | [x], _ => simp only [Tree.ren]
  | [x, y], _ => simp only [Tree.ren]
  | [x, y, z], _ => simp only [Tree.ren]; rw [if_neg h1]

end Go.Proofs.Ytoihkjnfklogpaa
