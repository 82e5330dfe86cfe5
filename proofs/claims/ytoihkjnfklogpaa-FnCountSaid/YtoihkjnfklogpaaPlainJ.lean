/- Free occurrences, kid by kid. No program is in sight. -/
import Derived.Test.YtoihkjnfklogpaaPlainH
namespace Go.Proofs.Ytoihkjnfklogpaa

/-- The free occurrences in the first m kids. -/
def Tree.occTo (t : Tree) (bound : List ByteArray) (m : Nat) : List ByteArray :=
  (((kidsOf t.hd.data.toList t.parts.length).take m).map fun i => Tree.occ (bound ++ t.bindsAt i) (nth t.parts i)).flatten

theorem occTo_zero (t : Tree) (bound : List ByteArray) : t.occTo bound 0 = [] := by simp [Tree.occTo]
theorem occTo_succ {t : Tree} (bound : List ByteArray) {m i : Nat} (h : (kidsOf t.hd.data.toList t.parts.length)[m]? = some i) :
    t.occTo bound (m + 1) = t.occTo bound m ++ Tree.occ (bound ++ t.bindsAt i) (nth t.parts i) := by
  unfold Tree.occTo; rw [List.take_add_one, h]; simp
theorem occTo_end {t : Tree} (bound : List ByteArray) {m : Nat} (hp : t.parts ≠ []) (h : (kidsOf t.hd.data.toList t.parts.length).length ≤ m) : t.occTo bound m = t.occ bound := by
  unfold Tree.occTo; rw [List.take_of_length_le h, occ_node bound hp]

theorem kids_sum (t : Tree) : ((kidsOf t.hd.data.toList t.parts.length).map fun i => Tree.sz (nth t.parts i)).sum = (t.kidL.map Tree.sz).sum := by
  congr 1
  by_cases hk : kidAt t.hd.data.toList t.parts.length = 0
  · rw [kidsOf_none _ _ hk, Tree.kidL, if_pos hk]; rfl
  · apply List.ext_getElem?
    intro j
    rw [List.getElem?_map, List.getElem?_map, Tree.kidL_get hk]
    by_cases hj : j < t.parts.length - kidAt t.hd.data.toList t.parts.length
    · rw [kidsOf_get _ _ hk _ hj]
      have hlt : kidAt t.hd.data.toList t.parts.length + j < t.parts.length := by omega
      simp only [Option.map_some, nth, List.getD_eq_getElem?_getD, List.getElem?_eq_getElem hlt, Option.getD_some]
    · have hl := kidsOf_length _ _ hk
      rw [List.getElem?_eq_none (by omega), List.getElem?_eq_none (by omega)]
      rfl

theorem flatten_map_len {α : Type} (f : α → List ByteArray) (g : α → Nat) : ∀ l : List α, (∀ x ∈ l, (f x).length ≤ g x) → (l.map f).flatten.length ≤ (l.map g).sum
  | [], _ => by simp
  | x :: l, h => by
    simp only [List.map_cons, List.flatten_cons, List.length_append, List.sum_cons]
    have h1 := flatten_map_len f g l fun y hy => h y (by simp [hy])
    have h2 := h x (by simp)
    omega

theorem occ_len (n : Nat) : ∀ (t : Tree) (bound : List ByteArray), t.sz ≤ n → (t.occ bound).length ≤ t.sz := by
  induction n with
  | zero => intro t bound h; cases t; simp [Tree.sz] at h
  | succ n ih =>
    intro t bound hs
    by_cases hp : t.parts = []
    · obtain ⟨a, ps⟩ := t
      simp only [Tree.parts] at hp
      subst hp
      rw [occ_leaf]
      simp only [Tree.sz]
      split
      · simp only [List.length_singleton]; omega
      · simp
    · rw [occ_node bound hp]
      have h1 := flatten_map_len (fun i => Tree.occ (bound ++ t.bindsAt i) (nth t.parts i)) (fun i => Tree.sz (nth t.parts i)) (kidsOf t.hd.data.toList t.parts.length) fun i _ => ih _ _ (by have := nth_sz hp i; omega)
      have h2 := kids_sum t
      have h3 := Tree.kid_sum_sz t
      omega

theorem occTo_room {t : Tree} (bound : List ByteArray) {m i : Nat} (hp : t.parts ≠ []) (h : (kidsOf t.hd.data.toList t.parts.length)[m]? = some i) : (t.occTo bound m).length + (nth t.parts i).sz + 1 ≤ t.sz := by
  unfold Tree.occTo
  have h1 := flatten_map_len (fun i => Tree.occ (bound ++ t.bindsAt i) (nth t.parts i)) (fun i => Tree.sz (nth t.parts i)) ((kidsOf t.hd.data.toList t.parts.length).take m) fun i _ => occ_len _ _ _ (Nat.le_refl _)
  have h2 := sum_map_take (fun i => Tree.sz (nth t.parts i)) _ m i h
  have h3 := sum_map_take_le (fun i => Tree.sz (nth t.parts i)) (kidsOf t.hd.data.toList t.parts.length) (m + 1)
  have h4 := kids_sum t
  have h5 := Tree.kid_sum_sz t
  omega

/-- Counted so far. -/
def Tree.cntTo (t : Tree) (name : ByteArray) (m : Nat) : Nat :=
  (((kidsOf t.hd.data.toList t.parts.length).take m).map fun i => if (t.bindsAt i).any fun x => x.toList == name.toList then 0 else Tree.cnt name (nth t.parts i)).sum
theorem cntTo_zero (t : Tree) (name : ByteArray) : t.cntTo name 0 = 0 := by simp [Tree.cntTo]
theorem cntTo_succ {t : Tree} (name : ByteArray) {m i : Nat} (h : (kidsOf t.hd.data.toList t.parts.length)[m]? = some i) :
    t.cntTo name (m + 1) = t.cntTo name m + (if (t.bindsAt i).any fun x => x.toList == name.toList then 0 else Tree.cnt name (nth t.parts i)) := by
  unfold Tree.cntTo; rw [sum_map_take _ _ _ _ h]
theorem cntTo_end {t : Tree} (name : ByteArray) {m : Nat} (hp : t.parts ≠ []) (h : (kidsOf t.hd.data.toList t.parts.length).length ≤ m) : t.cntTo name m = t.cnt name := by
  unfold Tree.cntTo; rw [List.take_of_length_le h, cnt_node name hp]
theorem cntTo_le (t : Tree) (name : ByteArray) (m : Nat) (hp : t.parts ≠ []) : t.cntTo name m ≤ t.sz := by
  have h1 := sum_map_take_le (fun i => if (t.bindsAt i).any fun x => x.toList == name.toList then 0 else Tree.cnt name (nth t.parts i)) (kidsOf t.hd.data.toList t.parts.length) m
  have h2 := cnt_node name hp
  have h3 := cnt_le name _ t (Nat.le_refl _)
  unfold Tree.cntTo; omega
end Go.Proofs.Ytoihkjnfklogpaa
