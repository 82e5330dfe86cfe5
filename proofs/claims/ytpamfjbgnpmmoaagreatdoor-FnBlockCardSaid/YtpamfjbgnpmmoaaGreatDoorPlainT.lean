/- Texts of forms, piece by piece, and forms with other forms for atoms. No program is in sight. -/
import Derived.Test.YtpamfjbgnpmmoaaGreatDoorPlain
import Derived.Lib.Strings
namespace Go.Proofs.YtpamfjbgnpmmoaaGreatDoor

/-- A list of bytes as a text. -/
def bts (l : List UInt8) : ByteArray := ⟨l.toArray⟩
theorem bts_size (l : List UInt8) : (bts l).size = l.length := by simp [bts, ByteArray.size]
theorem bts_data (l : List UInt8) : (bts l).data.toList = l := by simp [bts]
theorem bts_of (s : ByteArray) : bts s.data.toList = s := by cases s; simp [bts]
theorem bts_add (a b : List UInt8) : bts a ++ bts b = bts (a ++ b) := by
  apply ByteArray.ext; simp [bts]
theorem bts_eq {s : ByteArray} {l : List UInt8} (h : s.data.toList = l) : s = bts l := by rw [← h, bts_of]

/-- Parts with what stands ahead of each. -/
def Tree.opened : Nat → List Tree → List UInt8
  | _, [] => []
  | i, p :: ps => (if i = 0 then 40 else 32) :: (p.text ++ Tree.opened (i + 1) ps)

theorem opened_take (ps : List Tree) : ∀ (i k : Nat) (p : Tree), ps[k]? = some p → Tree.opened i (ps.take (k + 1)) = Tree.opened i (ps.take k) ++ (if i + k = 0 then 40 else 32) :: p.text := by
  induction ps with
  | nil => intro i k p h; simp at h
  | cons q ps ih =>
    intro i k p h
    cases k with
    | zero => simp at h; subst h; simp [Tree.opened]
    | succ k =>
      simp at h
      have := ih (i + 1) k p h
      have e : i + 1 + k = i + (k + 1) := by omega
      rw [e] at this
      simp only [List.take_succ_cons, Tree.opened, this]
      simp

theorem opened_textL : ∀ (ps : List Tree) (i : Nat), ps ≠ [] → Tree.opened i ps ++ [41] = (if i = 0 then 40 else 32) :: Tree.textL ps
  | [], _, h => absurd rfl h
  | p :: ps, i, _ => by
    rw [textL_cons]
    simp only [Tree.opened, List.cons_append, List.append_assoc]
    by_cases he : ps = []
    · subst he; simp [Tree.opened]
    · have hi : ps.isEmpty = false := by simpa using he
      have := opened_textL ps (i + 1) he
      rw [if_neg (by omega)] at this
      rw [this, hi]; simp

theorem text_of_opened (a : ByteArray) (ps : List Tree) (h : ps ≠ []) : (Tree.node a ps).text = Tree.opened 0 ps ++ [41] := by
  have hi : ps.isEmpty = false := by simpa using h
  rw [opened_textL ps 0 h]
  simp only [Tree.text, hi]
  simp

theorem text_leaf (a : ByteArray) : (Tree.node a []).text = a.data.toList := by simp [Tree.text]

theorem opened_length : ∀ (ps : List Tree) (i : Nat), (Tree.opened i ps).length = (Tree.opened 0 ps).length
  | [], _ => rfl
  | p :: ps, i => by
    simp only [Tree.opened, List.length_cons, List.length_append]
    rw [opened_length ps (i + 1), opened_length ps (0 + 1)]

theorem opened_take_le (ps : List Tree) : ∀ (i k : Nat), (Tree.opened i (ps.take k)).length ≤ (Tree.opened i ps).length := by
  induction ps with
  | nil => intro i k; simp [Tree.opened]
  | cons p ps ih =>
    intro i k
    cases k with
    | zero => simp [Tree.opened]
    | succ k => have := ih (i + 1) k; simp only [List.take_succ_cons, Tree.opened, List.length_cons, List.length_append]; omega

theorem opened_part (ps : List Tree) : ∀ (i k : Nat) (p : Tree), ps[k]? = some p → p.text.length + 1 ≤ (Tree.opened i ps).length := by
  induction ps with
  | nil => intro i k p h; simp at h
  | cons q ps ih =>
    intro i k p h
    simp only [Tree.opened, List.length_cons, List.length_append]
    cases k with
    | zero => simp at h; subst h; omega
    | succ k => simp at h; have := ih (i + 1) k p h; omega

mutual
/-- A form with other forms for atoms. -/
def Tree.subst (f : ByteArray → Tree) : Tree → Tree
  | .node a ps => if ps.isEmpty then f a else .node ⟨#[]⟩ (Tree.substL f ps)
def Tree.substL (f : ByteArray → Tree) : List Tree → List Tree
  | [] => []
  | p :: ps => p.subst f :: Tree.substL f ps
end

theorem Tree.substL_length (f : ByteArray → Tree) (ps : List Tree) : (Tree.substL f ps).length = ps.length := by
  induction ps with
  | nil => rfl
  | cons p ps ih => simp [Tree.substL, ih]

theorem Tree.substL_take (f : ByteArray → Tree) (ps : List Tree) (k : Nat) (p : Tree) (h : ps[k]? = some p) : Tree.substL f (ps.take (k + 1)) = Tree.substL f (ps.take k) ++ [p.subst f] := by
  induction ps generalizing k with
  | nil => simp at h
  | cons q ps ih =>
    cases k with
    | zero => simp at h; subst h; simp [Tree.substL]
    | succ k => simp at h; simp only [List.take_succ_cons, Tree.substL, ih k h, List.cons_append]

theorem Tree.substL_ne {f : ByteArray → Tree} {ps : List Tree} (h : ps ≠ []) : Tree.substL f ps ≠ [] := by
  cases ps with
  | nil => exact absurd rfl h
  | cons p ps => simp [Tree.substL]

theorem Tree.textL_ne : ∀ ps : List Tree, Tree.textL ps ≠ []
  | [] => by simp [Tree.textL]
  | p :: ps => by rw [textL_cons]; simp; split <;> simp

mutual
theorem Tree.subst_good (f : ByteArray → Tree) (hf : ∀ a, (Tree.node a []).good = true → (f a).good = true) : ∀ t : Tree, t.good = true → (t.subst f).good = true
  | .node a ps, h => by
    obtain ⟨h1, h2⟩ := Tree.good_parts h
    simp only [Tree.subst]
    by_cases he : ps = []
    · subst he; exact hf a h
    · have hi : ps.isEmpty = false := by simpa using he
      have := Tree.substL_good f hf ps h1
      have hj : (Tree.substL f ps).isEmpty = false := by simpa using Tree.substL_ne he
      rw [hi]
      simp only [Bool.false_eq_true, if_false, Tree.good, hj]
      simpa using this
theorem Tree.substL_good (f : ByteArray → Tree) (hf : ∀ a, (Tree.node a []).good = true → (f a).good = true) : ∀ ps : List Tree, Tree.goodL ps = true → Tree.goodL (Tree.substL f ps) = true
  | [], _ => rfl
  | p :: ps, h => by
    simp only [Tree.goodL, Bool.and_eq_true] at h
    simp only [Tree.substL, Tree.goodL, Tree.subst_good f hf p h.1, Tree.substL_good f hf ps h.2, Bool.and_self]
end
/-- What is written when k parts are done. -/
def pre (ps : List Tree) (k : Nat) : List UInt8 := if k = 0 then [40] else Tree.opened 0 (ps.take k)
theorem pre_zero (ps : List Tree) : pre ps 0 = [40] := rfl
theorem pre_step0 {ps : List Tree} {p : Tree} (h : ps[0]? = some p) : [40] ++ p.text = pre ps (0 + 1) := by
  cases ps with
  | nil => simp at h
  | cons q ps => simp at h; subst h; simp [pre, Tree.opened]
theorem pre_step {ps : List Tree} {k : Nat} {p : Tree} (h : ps[k]? = some p) (hk : k ≠ 0) : pre ps k ++ [32] ++ p.text = pre ps (k + 1) := by
  unfold pre
  rw [if_neg hk, if_neg (by omega), opened_take ps 0 k p h, if_neg (by omega)]
  simp
theorem pre_end (a : ByteArray) {ps : List Tree} (h : ps ≠ []) : pre ps ps.length ++ [41] = (Tree.node a ps).text := by
  unfold pre
  rw [if_neg (by intro e; exact h (List.eq_nil_of_length_eq_zero e)), List.take_length, text_of_opened a ps h]
theorem pre_len (a : ByteArray) {ps : List Tree} (k : Nat) (h : ps ≠ []) : (pre ps k).length + 1 ≤ (Tree.node a ps).text.length + 1 := by
  have h1 := text_of_opened a ps h
  have h2 := opened_take_le ps 0 k
  have h3 : (Tree.node a ps).text.length = (Tree.opened 0 ps).length + 1 := by rw [h1]; simp
  unfold pre
  split
  · simp; omega
  · omega
theorem part_len (a : ByteArray) {ps : List Tree} {k : Nat} {p : Tree} (h : ps[k]? = some p) : p.text.length + 2 ≤ (Tree.node a ps).text.length := by
  have hne : ps ≠ [] := by intro e; subst e; simp at h
  have h1 := text_of_opened a ps hne
  have h3 : (Tree.node a ps).text.length = (Tree.opened 0 ps).length + 1 := by rw [h1]; simp
  have := opened_part ps 0 k p h
  omega
theorem data_add (a b : ByteArray) : (a ++ b).data.toList = a.data.toList ++ b.data.toList := by simp
theorem size_data (a : ByteArray) : a.size = a.data.toList.length := by rw [Array.length_toList]; rfl
end Go.Proofs.YtpamfjbgnpmmoaaGreatDoor
