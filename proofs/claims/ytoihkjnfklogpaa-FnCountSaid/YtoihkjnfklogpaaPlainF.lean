/- The parts of an expression that are expressions; how many expressions it is, its bindings, its free names. No program is in sight. -/
import Derived.Test.YtoihkjnfklogpaaPlainE
namespace Go.Proofs.Ytoihkjnfklogpaa

/-- The parts that are expressions, by head and length. -/
def Tree.kidL (t : Tree) : List Tree := if kidAt t.hd.data.toList t.parts.length = 0 then [] else t.parts.drop (kidAt t.hd.data.toList t.parts.length)

theorem Tree.kidL_leaf (a : ByteArray) : (Tree.node a []).kidL = [] := by simp [Tree.kidL, Tree.hd, Tree.parts]
theorem Tree.kidL_cons (a : ByteArray) (p : Tree) (ps : List Tree) (h : kidAt p.atom.data.toList (ps.length + 1) ≠ 0) :
    (Tree.node a (p :: ps)).kidL = (p :: ps).drop (kidAt p.atom.data.toList (ps.length + 1)) := by
  unfold Tree.kidL; exact if_neg h
theorem Tree.kidL_none (a : ByteArray) (p : Tree) (ps : List Tree) (h : kidAt p.atom.data.toList (ps.length + 1) = 0) :
    (Tree.node a (p :: ps)).kidL = [] := by
  unfold Tree.kidL; exact if_pos h
theorem Tree.kidL_mem {t q : Tree} (h : q ∈ t.kidL) : q ∈ t.parts := by
  unfold Tree.kidL at h
  split at h
  · simp at h
  · exact List.mem_of_mem_drop h
theorem Tree.part_sz {t q : Tree} (h : q ∈ t.parts) : q.sz < t.sz := by
  obtain ⟨a, ps⟩ := t
  obtain ⟨i, hi⟩ := List.getElem?_of_mem h
  have := Tree.sz_part ps i q hi
  simp only [Tree.sz]; omega
theorem Tree.kidL_sz {t q : Tree} (h : q ∈ t.kidL) : q.sz < t.sz := Tree.part_sz (Tree.kidL_mem h)
theorem Tree.kidL_get {t : Tree} (h : kidAt t.hd.data.toList t.parts.length ≠ 0) (j : Nat) : t.kidL[j]? = t.parts[kidAt t.hd.data.toList t.parts.length + j]? := by
  rw [Tree.kidL, if_neg h, List.getElem?_drop]
theorem Tree.kidL_length {t : Tree} (h : kidAt t.hd.data.toList t.parts.length ≠ 0) : t.kidL.length = t.parts.length - kidAt t.hd.data.toList t.parts.length := by
  rw [Tree.kidL, if_neg h, List.length_drop]

theorem exprFrom_eq : ∀ (k : Nat) (ps : List Tree), Tree.exprFrom k ps = (ps.drop k).all Tree.isExpr
  | _, [] => by simp [Tree.exprFrom]
  | 0, p :: ps => by simp [Tree.exprFrom, exprFrom_eq 0 ps]
  | k + 1, p :: ps => by simp [Tree.exprFrom, exprFrom_eq k ps]

/-- Is it an expression: by its kids. -/
theorem isExpr_node (a : ByteArray) (p : Tree) (ps : List Tree) : (Tree.node a (p :: ps)).isExpr =
    (decide (kidAt p.atom.data.toList (ps.length + 1) ≠ 0) && (headOk (p :: ps) (kidAt p.atom.data.toList (ps.length + 1)) && (Tree.node a (p :: ps)).kidL.all Tree.isExpr)) := by
  simp only [Tree.isExpr]
  by_cases h : kidAt p.atom.data.toList (ps.length + 1) = 0
  · simp [h]
  · obtain ⟨k, hk⟩ : ∃ k, kidAt p.atom.data.toList (ps.length + 1) = k + 1 := ⟨kidAt p.atom.data.toList (ps.length + 1) - 1, by omega⟩
    rw [Tree.kidL_cons _ _ _ h, hk, exprFrom_eq]
    simp

theorem isExpr_parts {a : ByteArray} {p : Tree} {ps : List Tree} (h : (Tree.node a (p :: ps)).isExpr = true) :
    kidAt p.atom.data.toList (ps.length + 1) ≠ 0 ∧ headOk (p :: ps) (kidAt p.atom.data.toList (ps.length + 1)) = true ∧ ∀ q ∈ (Tree.node a (p :: ps)).kidL, q.isExpr = true := by
  rw [isExpr_node] at h
  simp only [Bool.and_eq_true, decide_eq_true_eq, List.all_eq_true] at h
  exact h

/-- How many expressions an expression and its parts are. -/
def Tree.many (t : Tree) : Nat := 1 + (t.kidL.attach.map fun x => Tree.many x.1).sum
termination_by t.sz
decreasing_by exact Tree.kidL_sz x.2

theorem Tree.many_eq (t : Tree) : t.many = 1 + (t.kidL.map Tree.many).sum := by
  rw [Tree.many]
  congr 2
  rw [List.map_attach_eq_pmap, List.pmap_eq_map]

theorem sum_map_take {α : Type} (f : α → Nat) : ∀ (l : List α) (j : Nat) (x : α), l[j]? = some x → ((l.take (j + 1)).map f).sum = ((l.take j).map f).sum + f x
  | [], _, _, h => by simp at h
  | y :: l, 0, x, h => by simp at h; subst h; simp
  | y :: l, j + 1, x, h => by
    simp at h
    simp only [List.take_succ_cons, List.map_cons, List.sum_cons, sum_map_take f l j x h]
    omega
theorem sum_map_take_le {α : Type} (f : α → Nat) : ∀ (l : List α) (j : Nat), ((l.take j).map f).sum ≤ (l.map f).sum
  | [], _ => by simp
  | y :: l, 0 => by simp
  | y :: l, j + 1 => by
    simp only [List.take_succ_cons, List.map_cons, List.sum_cons]
    have := sum_map_take_le f l j
    omega
theorem szL_sum (ps : List Tree) : Tree.szL ps = (ps.map Tree.sz).sum := by
  induction ps with
  | nil => simp [Tree.szL]
  | cons p ps ih => simp only [Tree.szL, List.map_cons, List.sum_cons, ih]
theorem sum_drop_le {α : Type} (f : α → Nat) : ∀ (k : Nat) (l : List α), ((l.drop k).map f).sum ≤ (l.map f).sum
  | 0, l => by simp
  | k + 1, [] => by simp
  | k + 1, y :: l => by
    simp only [List.drop_succ_cons, List.map_cons, List.sum_cons]
    have := sum_drop_le f k l
    omega
theorem sum_map_le {α : Type} (f g : α → Nat) : ∀ (l : List α), (∀ x ∈ l, f x ≤ g x) → (l.map f).sum ≤ (l.map g).sum
  | [], _ => by simp
  | y :: l, h => by
    simp only [List.map_cons, List.sum_cons]
    have := sum_map_le f g l fun x hx => h x (by simp [hx])
    have := h y (by simp)
    omega
theorem Tree.kid_sum_sz (t : Tree) : (t.kidL.map Tree.sz).sum + 1 ≤ t.sz := by
  obtain ⟨a, ps⟩ := t
  have h1 : ((Tree.node a ps).kidL.map Tree.sz).sum ≤ (ps.map Tree.sz).sum := by
    unfold Tree.kidL
    split
    · simp
    · exact sum_drop_le _ _ _
  have := szL_sum ps
  simp only [Tree.sz]
  omega
theorem Tree.many_le (n : Nat) : ∀ t : Tree, t.sz ≤ n → t.many ≤ t.sz := by
  induction n with
  | zero => intro t h; cases t; simp [Tree.sz] at h
  | succ n ih =>
    intro t h
    rw [Tree.many_eq]
    have h1 := Tree.kid_sum_sz t
    have h2 := sum_map_le Tree.many Tree.sz t.kidL fun x hx => ih x (by have := Tree.kidL_sz hx; omega)
    omega

/-- How many bindings. -/
def Tree.lets (t : Tree) : Nat := (if t.hd.data.toList = [108, 101, 116] then 1 else 0) + (t.kidL.attach.map fun x => Tree.lets x.1).sum
termination_by t.sz
decreasing_by exact Tree.kidL_sz x.2
theorem Tree.lets_eq (t : Tree) : t.lets = (if t.hd.data.toList = [108, 101, 116] then 1 else 0) + (t.kidL.map Tree.lets).sum := by
  rw [Tree.lets]
  congr 2
  rw [List.map_attach_eq_pmap, List.pmap_eq_map]
/-- How many bindings, over all parts. -/
def Tree.letsP (t : Tree) : Nat := (if t.hd.data.toList = [108, 101, 116] then 1 else 0) + (t.parts.attach.map fun x => Tree.letsP x.1).sum
termination_by t.sz
decreasing_by exact Tree.part_sz x.2
theorem Tree.letsP_eq (t : Tree) : t.letsP = (if t.hd.data.toList = [108, 101, 116] then 1 else 0) + (t.parts.map Tree.letsP).sum := by
  rw [Tree.letsP]
  congr 2
  rw [List.map_attach_eq_pmap, List.pmap_eq_map]

theorem leaf_of_good {t : Tree} (h : t.good = true) (ha : t.atom.data.toList ≠ []) : t.parts = [] := by
  obtain ⟨a, ps⟩ := t
  exact (Tree.good_parts h).2.2 ha
theorem letsP_leaf {t : Tree} (h : t.parts = []) : t.letsP = 0 := by
  obtain ⟨a, ps⟩ := t
  simp only [Tree.parts] at h
  subst h
  rw [Tree.letsP_eq]
  simp [Tree.hd, Tree.parts]
theorem letsP_type (n : Nat) : ∀ t : Tree, t.sz ≤ n → t.good = true → t.isType = true → t.letsP = 0 := by
  induction n with
  | zero => intro t h; cases t; simp [Tree.sz] at h
  | succ n ih =>
    intro t hn hg ht
    obtain ⟨a, ps⟩ := t
    match ps, ht with
    | [], _ => exact letsP_leaf rfl
    | [p, x, y], ht =>
      simp only [Tree.isType, Bool.and_eq_true, Bool.or_eq_true, decide_eq_true_eq] at ht
      obtain ⟨⟨hp, hx⟩, hy⟩ := ht
      have hgl := (Tree.good_parts hg).1
      have hszx : x.sz ≤ n ∧ y.sz ≤ n := by simp only [Tree.sz, Tree.szL] at hn; omega
      have g0 := Tree.good_part _ 0 p rfl hgl
      have g1 := Tree.good_part _ 1 x rfl hgl
      have g2 := Tree.good_part _ 2 y rfl hgl
      have l0 : p.letsP = 0 := letsP_leaf (leaf_of_good g0 (by rcases hp with h | h <;> rw [h] <;> simp))
      rw [Tree.letsP_eq]
      simp only [Tree.parts, List.map_cons, List.map_nil, List.sum_cons, List.sum_nil, l0, ih x hszx.1 g1 hx, ih y hszx.2 g2 hy]
      rcases hp with h | h <;> simp [Tree.hd, h]
    | [_], ht => simp [Tree.isType] at ht
    | [_, _], ht => simp [Tree.isType] at ht
    | _ :: _ :: _ :: _ :: _, ht => simp [Tree.isType] at ht

theorem nameB_ne {l : List UInt8} (h : nameB l = true) : l ≠ [] := by rintro rfl; simp [nameB] at h
theorem kidAt_ne {h : List UInt8} {n : Nat} (hk : kidAt h n ≠ 0) : h ≠ [] := by
  rintro rfl
  apply hk
  unfold kidAt kids2
  simp

theorem letsP_lets (n : Nat) : ∀ t : Tree, t.sz ≤ n → t.good = true → t.isExpr = true → t.letsP = t.lets := by
  induction n with
  | zero => intro t h; cases t; simp [Tree.sz] at h
  | succ n ih =>
    intro t hn hg ht
    obtain ⟨a, ps⟩ := t
    cases ps with
    | nil =>
      rw [letsP_leaf rfl, Tree.lets_eq, Tree.kidL_leaf]
      simp [Tree.hd]
    | cons p ps =>
      obtain ⟨hk, hh, hq⟩ := isExpr_parts ht
      have hgl := (Tree.good_parts hg).1
      have hq' : ∀ q ∈ (Tree.node a (p :: ps)).kidL, q.letsP = q.lets := fun q hm => by
        obtain ⟨i, hi⟩ := List.getElem?_of_mem (Tree.kidL_mem hm)
        exact ih q (by have := Tree.kidL_sz hm; omega) (Tree.good_part _ _ _ hi hgl) (hq q hm)
      have l0 : p.letsP = 0 := letsP_leaf (leaf_of_good (Tree.good_part _ 0 p rfl hgl) (kidAt_ne hk))
      rw [Tree.letsP_eq, Tree.lets_eq]
      congr 1
      rw [Tree.kidL_cons _ _ _ hk] at hq' ⊢
      simp only [Tree.parts]
      have main : ((p :: ps).map Tree.letsP).sum = (((p :: ps).drop (kidAt p.atom.data.toList (ps.length + 1))).map Tree.letsP).sum := by
        rcases kidAt_cases p.atom.data.toList (ps.length + 1) with e | ⟨e, -⟩ | ⟨e, hl, -⟩ | ⟨e, hl, -⟩
        · exact absurd e hk
        · rw [e]; simp [l0]
        · rw [e] at hh ⊢
          match ps, hl with
          | [q1, q2, q3], _ =>
            have hn1 : nameB q1.atom.data.toList = true := hh
            have l1 : q1.letsP = 0 := letsP_leaf (leaf_of_good (Tree.good_part _ 1 q1 rfl hgl) (nameB_ne hn1))
            simp [l0, l1]
        · rw [e] at hh ⊢
          match ps, hl with
          | [q1, q2, q3, q4, q5], _ =>
            have hh' : (nameB q1.atom.data.toList && nameB q2.atom.data.toList && !(q1.atom.toList == q2.atom.toList) && q3.typed && q4.typed) = true := hh
            simp only [Bool.and_eq_true, Tree.typed] at hh'
            obtain ⟨⟨⟨⟨h1, h2⟩, -⟩, h3, -⟩, h4, -⟩ := hh'
            have l1 : q1.letsP = 0 := letsP_leaf (leaf_of_good (Tree.good_part _ 1 q1 rfl hgl) (nameB_ne h1))
            have l2 : q2.letsP = 0 := letsP_leaf (leaf_of_good (Tree.good_part _ 2 q2 rfl hgl) (nameB_ne h2))
            have l3 : q3.letsP = 0 := letsP_type _ _ (Nat.le_refl _) (Tree.good_part _ 3 q3 rfl hgl) h3
            have l4 : q4.letsP = 0 := letsP_type _ _ (Nat.le_refl _) (Tree.good_part _ 4 q4 rfl hgl) h4
            simp [l0, l1, l2, l3, l4]
      rw [main]
      congr 1
      exact List.map_congr_left hq'
theorem Tree.letsP_le (n : Nat) : ∀ t : Tree, t.sz ≤ n → t.letsP ≤ t.sz := by
  induction n with
  | zero => intro t h; cases t; simp [Tree.sz] at h
  | succ n ih =>
    intro t h
    rw [Tree.letsP_eq]
    obtain ⟨a, ps⟩ := t
    have h1 := szL_sum ps
    have h2 := sum_map_le Tree.letsP Tree.sz ps fun x hx => ih x (by have := Tree.part_sz (t := .node a ps) hx; omega)
    simp only [Tree.sz, Tree.parts]
    split <;> omega
theorem Tree.lets_le (n : Nat) : ∀ t : Tree, t.sz ≤ n → t.lets ≤ t.sz := by
  induction n with
  | zero => intro t h; cases t; simp [Tree.sz] at h
  | succ n ih =>
    intro t h
    rw [Tree.lets_eq]
    have h1 := Tree.kid_sum_sz t
    have h2 := sum_map_le Tree.lets Tree.sz t.kidL fun x hx => ih x (by have := Tree.kidL_sz hx; omega)
    split <;> omega
end Go.Proofs.Ytoihkjnfklogpaa
