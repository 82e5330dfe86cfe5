/- Normal expressions, and the free names of an expression. No program is in sight. -/
import Derived.Test.YtoihkjnfklogpaaPlainF
namespace Go.Proofs.Ytoihkjnfklogpaa

theorem nth_sz {t : Tree} (h : t.parts ≠ []) (i : Nat) : (nth t.parts i).sz < t.sz := by
  obtain ⟨a, ps⟩ := t
  simp only [Tree.parts] at h ⊢
  unfold nth
  rw [List.getD_eq_getElem?_getD]
  cases e : ps[i]? with
  | none =>
    obtain ⟨q, hq⟩ : ∃ q, q ∈ ps := List.exists_mem_of_ne_nil ps h
    have h1 := Tree.part_sz (t := .node a ps) hq
    have h2 : 1 ≤ q.sz := by cases q; simp only [Tree.sz]; omega
    simp only [Option.getD_none]
    show Tree.sz (.node _ []) < _
    have : Tree.sz (.node ⟨#[]⟩ []) = 1 := by simp [Tree.sz, Tree.szL]
    omega
  | some q =>
    simp only [Option.getD_some]
    exact Tree.part_sz (t := .node a ps) (List.mem_of_getElem? e)

def Tree.leafB (t : Tree) : Bool := t.parts.isEmpty

/-- Is an expression simple (b false), or normal (b true)? -/
def Tree.nrm (b : Bool) (t : Tree) : Bool :=
  if h : t.parts = [] then true
  else if t.hd.data.toList = [108, 101, 116] then b && Tree.nrm false (nth t.parts 2) && Tree.nrm true (nth t.parts 3)
  else if t.hd.data.toList = [102, 117, 110] then Tree.nrm true (nth t.parts 5)
  else if t.hd.data.toList = [105, 102] then (nth t.parts 1).leafB && Tree.nrm true (nth t.parts 2) && Tree.nrm true (nth t.parts 3)
  else t.parts.tail.all Tree.leafB
termination_by t.sz
decreasing_by all_goals exact nth_sz h _

theorem nrm_leaf (b : Bool) (a : ByteArray) : (Tree.node a []).nrm b = true := by rw [Tree.nrm]; simp [Tree.parts]
theorem nrm_let (b : Bool) {t : Tree} (h : t.parts ≠ []) (hl : t.hd.data.toList = [108, 101, 116]) : t.nrm b = (b && Tree.nrm false (nth t.parts 2) && Tree.nrm true (nth t.parts 3)) := by
  rw [Tree.nrm]; rw [dif_neg h, if_pos hl]
theorem nrm_fun (b : Bool) {t : Tree} (h : t.parts ≠ []) (hl : t.hd.data.toList = [102, 117, 110]) : t.nrm b = Tree.nrm true (nth t.parts 5) := by
  rw [Tree.nrm]; rw [dif_neg h, if_neg (by rw [hl]; decide), if_pos hl]
theorem nrm_if (b : Bool) {t : Tree} (h : t.parts ≠ []) (hl : t.hd.data.toList = [105, 102]) : t.nrm b = ((nth t.parts 1).leafB && Tree.nrm true (nth t.parts 2) && Tree.nrm true (nth t.parts 3)) := by
  rw [Tree.nrm]; rw [dif_neg h, if_neg (by rw [hl]; decide), if_neg (by rw [hl]; decide), if_pos hl]
theorem nrm_rest (b : Bool) {t : Tree} (h : t.parts ≠ []) (h1 : t.hd.data.toList ≠ [108, 101, 116]) (h2 : t.hd.data.toList ≠ [102, 117, 110]) (h3 : t.hd.data.toList ≠ [105, 102]) : t.nrm b = t.parts.tail.all Tree.leafB := by
  rw [Tree.nrm]; rw [dif_neg h, if_neg h1, if_neg h2, if_neg h3]
theorem nrm_both {t : Tree} (h : t.hd.data.toList ≠ [108, 101, 116]) (b c : Bool) : t.nrm b = t.nrm c := by
  by_cases hp : t.parts = []
  · obtain ⟨a, ps⟩ := t; simp only [Tree.parts] at hp; subst hp; rw [nrm_leaf, nrm_leaf]
  by_cases h1 : t.hd.data.toList = [102, 117, 110]
  · rw [nrm_fun b hp h1, nrm_fun c hp h1]
  by_cases h2 : t.hd.data.toList = [105, 102]
  · rw [nrm_if b hp h2, nrm_if c hp h2]
  rw [nrm_rest b hp h h1 h2, nrm_rest c hp h h1 h2]

/-- An expression is a leaf exactly if it is bare. -/
theorem bare_leaf {t : Tree} (hg : t.good = true) (h : t.isExpr = true) : (t.leafB && bareB t.atom.data.toList) = t.leafB := by
  obtain ⟨a, ps⟩ := t
  cases ps with
  | nil => simp only [Tree.isExpr] at h; simp [Tree.leafB, Tree.parts, Tree.atom, h]
  | cons p ps => simp [Tree.leafB, Tree.parts]

/-! Free names. -/
/-- What an expression binds in its parts that are expressions; for a let in the last part alone. -/
def Tree.bindsAt (t : Tree) (i : Nat) : List ByteArray :=
  if t.hd.data.toList = [108, 101, 116] ∧ i = 3 then [(nth t.parts 1).atom]
  else if t.hd.data.toList = [102, 117, 110] then [(nth t.parts 1).atom, (nth t.parts 2).atom]
  else []

/-- The free occurrences of names that are not bound around, in order. -/
def Tree.occ (bound : List ByteArray) (t : Tree) : List ByteArray :=
  if h : t.parts = [] then (if nameB t.atom.data.toList && !(bound.any fun x => x.toList == t.atom.toList) then [t.atom] else [])
  else ((kidsOf t.hd.data.toList t.parts.length).map fun i => Tree.occ (bound ++ t.bindsAt i) (nth t.parts i)).flatten
termination_by t.sz
decreasing_by exact nth_sz h _

theorem occ_leaf (bound : List ByteArray) (a : ByteArray) : (Tree.node a []).occ bound = if nameB a.data.toList && !(bound.any fun x => x.toList == a.toList) then [a] else [] := by
  rw [Tree.occ]; simp [Tree.parts, Tree.atom]
theorem occ_node (bound : List ByteArray) {t : Tree} (h : t.parts ≠ []) : t.occ bound = ((kidsOf t.hd.data.toList t.parts.length).map fun i => Tree.occ (bound ++ t.bindsAt i) (nth t.parts i)).flatten := by
  rw [Tree.occ]; rw [dif_neg h]

/-- How often a name stands free. -/
def Tree.cnt (name : ByteArray) (t : Tree) : Nat :=
  if h : t.parts = [] then (if t.atom.toList == name.toList then 1 else 0)
  else ((kidsOf t.hd.data.toList t.parts.length).map fun i => if (t.bindsAt i).any fun x => x.toList == name.toList then 0 else Tree.cnt name (nth t.parts i)).sum
termination_by t.sz
decreasing_by exact nth_sz h _

theorem cnt_leaf (name a : ByteArray) : (Tree.node a []).cnt name = if a.toList == name.toList then 1 else 0 := by
  rw [Tree.cnt]; simp [Tree.parts, Tree.atom]
theorem cnt_node (name : ByteArray) {t : Tree} (h : t.parts ≠ []) : t.cnt name = ((kidsOf t.hd.data.toList t.parts.length).map fun i => if (t.bindsAt i).any fun x => x.toList == name.toList then 0 else Tree.cnt name (nth t.parts i)).sum := by
  rw [Tree.cnt]; rw [dif_neg h]

def isN (name : ByteArray) (x : ByteArray) : Bool := x.toList == name.toList

theorem any_congr_toList {l : List ByteArray} {x y : ByteArray} (h : x.toList = y.toList) : (l.any fun z => z.toList == x.toList) = (l.any fun z => z.toList == y.toList) := by rw [h]

theorem flatten_countP {α : Type} (p : α → Bool) : ∀ l : List (List α), l.flatten.countP p = (l.map fun x => x.countP p).sum
  | [] => by simp
  | x :: l => by simp [List.countP_append, flatten_countP p l]

theorem sum_map_zero {α : Type} : ∀ l : List α, (l.map fun _ => 0).sum = 0
  | [] => rfl
  | _ :: l => by rw [List.map_cons, List.sum_cons, sum_map_zero l]

/-- The free occurrences of a name that is not bound around are what is counted. -/
theorem occ_cnt (name : ByteArray) (hn : nameB name.data.toList = true) (n : Nat) : ∀ (t : Tree) (bound : List ByteArray), t.sz ≤ n →
    (t.occ bound).countP (isN name) = if bound.any (fun x => x.toList == name.toList) then 0 else t.cnt name := by
  induction n with
  | zero => intro t bound h; cases t; simp [Tree.sz] at h
  | succ n ih =>
    intro t bound hs
    obtain ⟨a, ps⟩ := t
    by_cases hp : ps = []
    · subst hp
      rw [occ_leaf, cnt_leaf]
      by_cases he : a.toList = name.toList
      · have hna : nameB a.data.toList = true := by rw [← Lib.toList_data, he, Lib.toList_data]; exact hn
        rw [any_congr_toList he, hna]
        cases e : bound.any fun z => z.toList == name.toList
        · simp [isN, he]
        · simp
      · have e1 : (a.toList == name.toList) = false := by simpa using he
        rw [e1]
        have : (isN name a) = false := e1
        split <;> simp [this]
    · have hne : (Tree.node a ps).parts ≠ [] := hp
      rw [occ_node _ hne, cnt_node _ hne, flatten_countP, List.map_map]
      have key : ∀ i, ((fun x : List ByteArray => x.countP (isN name)) ∘ fun i => Tree.occ (bound ++ (Tree.node a ps).bindsAt i) (nth (Tree.node a ps).parts i)) i
          = if bound.any (fun x => x.toList == name.toList) then 0 else (if ((Tree.node a ps).bindsAt i).any fun x => x.toList == name.toList then 0 else Tree.cnt name (nth (Tree.node a ps).parts i)) := fun i => by
        show (Tree.occ _ _).countP _ = _
        rw [ih _ _ (by have := nth_sz hne i; omega), List.any_append]
        cases bound.any (fun x => x.toList == name.toList)
        · simp
        · simp
      rw [List.map_congr_left fun i _ => key i]
      cases bound.any (fun x => x.toList == name.toList)
      · simp
      · simp only [if_true]; exact sum_map_zero _

theorem cnt_le (name : ByteArray) (n : Nat) : ∀ t : Tree, t.sz ≤ n → t.cnt name ≤ t.sz := by
  induction n with
  | zero => intro t h; cases t; simp [Tree.sz] at h
  | succ n ih =>
    intro t hs
    obtain ⟨a, ps⟩ := t
    by_cases hp : ps = []
    · subst hp; rw [cnt_leaf]; simp only [Tree.sz, Tree.szL]; split <;> omega
    · have hne : (Tree.node a ps).parts ≠ [] := hp
      rw [cnt_node _ hne]
      have h1 := Tree.kid_sum_sz (.node a ps)
      have h2 : ((kidsOf (Tree.node a ps).hd.data.toList (Tree.node a ps).parts.length).map fun i => Tree.sz (nth (Tree.node a ps).parts i)).sum = ((Tree.node a ps).kidL.map Tree.sz).sum := by
        congr 1
        by_cases hk : kidAt (Tree.node a ps).hd.data.toList (Tree.node a ps).parts.length = 0
        · rw [kidsOf_none _ _ hk, Tree.kidL, if_pos hk]; rfl
        · apply List.ext_getElem?
          intro j
          rw [List.getElem?_map, List.getElem?_map, Tree.kidL_get hk]
          by_cases hj : j < (Tree.node a ps).parts.length - kidAt (Tree.node a ps).hd.data.toList (Tree.node a ps).parts.length
          · rw [kidsOf_get _ _ hk _ hj]
            have hlt : kidAt (Tree.node a ps).hd.data.toList (Tree.node a ps).parts.length + j < (Tree.node a ps).parts.length := by omega
            simp only [Option.map_some, nth, List.getD_eq_getElem?_getD, List.getElem?_eq_getElem hlt, Option.getD_some]
          · have hl := kidsOf_length _ _ hk
            rw [List.getElem?_eq_none (by omega), List.getElem?_eq_none (by omega)]
            rfl
      have h3 := sum_map_le (fun i => if ((Tree.node a ps).bindsAt i).any fun x => x.toList == name.toList then 0 else Tree.cnt name (nth (Tree.node a ps).parts i)) (fun i => Tree.sz (nth (Tree.node a ps).parts i)) (kidsOf (Tree.node a ps).hd.data.toList (Tree.node a ps).parts.length) (fun i _ => by
        show (if _ then 0 else _) ≤ _
        split
        · exact Nat.zero_le _
        · exact ih _ (by have := nth_sz hne i; omega))
      omega
end Go.Proofs.Ytoihkjnfklogpaa
