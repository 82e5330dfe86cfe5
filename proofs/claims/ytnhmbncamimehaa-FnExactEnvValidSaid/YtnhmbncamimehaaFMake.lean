/- FormMake of the program and of the reference: a form is made of parts. -/
import Derived.Test.YtnhmbncamimehaaReplF
import Derived.Test.YtnhmbncamimehaaPlainU
import Derived.Test.YtnhmbncamimehaaStrs
namespace Go.Proofs.Ytnhmbncamimehaa
open Go.RowKit

/-- All texts are read. -/
def allOf : List ByteArray → Option (List Tree)
  | [] => some []
  | s :: l => match parse s.data.toList, allOf l with
    | some t, some ts => some (t :: ts)
    | _, _ => none

theorem allOf_cons {s : ByteArray} {l : List ByteArray} {ts : List Tree} : allOf (s :: l) = some ts ↔ ∃ t ts', ts = t :: ts' ∧ parse s.data.toList = some t ∧ allOf l = some ts' := by
  simp only [allOf]
  cases parse s.data.toList with
  | none => simp
  | some t =>
    cases allOf l with
    | none => simp
    | some ts' =>
      constructor
      · intro h; cases h; exact ⟨t, ts', rfl, rfl, rfl⟩
      · rintro ⟨t', ts'', rfl, h1, h2⟩; cases h1; cases h2; rfl

theorem allOf_snoc : ∀ {l : List ByteArray} {s : ByteArray} {ts : List Tree} {t : Tree}, allOf l = some ts → parse s.data.toList = some t → allOf (l ++ [s]) = some (ts ++ [t])
  | [], s, ts, t, h, h' => by simp [allOf] at h; subst h; simp [allOf, h']
  | a :: l, s, ts, t, h, h' => by
    obtain ⟨t0, ts', rfl, h1, h2⟩ := allOf_cons.1 h
    exact allOf_cons.2 ⟨t0, ts' ++ [t], rfl, h1, allOf_snoc h2 h'⟩

theorem allOf_bad : ∀ {l : List ByteArray} {s : ByteArray}, s ∈ l → parse s.data.toList = none → allOf l = none
  | a :: l, s, hs, h => by
    cases e : allOf (a :: l) with
    | none => rfl
    | some ts =>
      obtain ⟨t, ts', -, h1, h2⟩ := allOf_cons.1 e
      rcases List.mem_cons.1 hs with rfl | hs
      · rw [h] at h1; cases h1
      · rw [allOf_bad hs h] at h2; cases h2

theorem allOf_len : ∀ {l : List ByteArray} {ts : List Tree}, allOf l = some ts → ts.length = l.length
  | [], ts, h => by simp [allOf] at h; subst h; rfl
  | a :: l, ts, h => by obtain ⟨t, ts', rfl, h1, h2⟩ := allOf_cons.1 h; simp [allOf_len h2]

theorem allOf_good : ∀ {l : List ByteArray} {ts : List Tree}, allOf l = some ts → Tree.goodL ts = true ∧ Tree.szL ts ≤ l.length * 24000 ∧ (∀ i, (Tree.opened i ts).length ≤ l.length * 12001) ∧ l = ts.map Tree.txt
  | [], ts, h => by simp [allOf] at h; subst h; simp [Tree.goodL, Tree.szL, Tree.opened]
  | a :: l, ts, h => by
    obtain ⟨t, ts', rfl, h1, h2⟩ := allOf_cons.1 h
    obtain ⟨h3, h4, h5, h6⟩ := allOf_good h2
    have h7 := parse_sz h1
    have h8 := parse_text_le h1
    refine ⟨by simp [Tree.goodL, parse_good h1, h3], by simp only [Tree.szL, List.length_cons]; omega, fun i => ?_, ?_⟩
    · have := h5 (i + 1)
      simp only [Tree.opened, List.length_cons, List.length_append]; omega
    · rw [List.map_cons, ← h6, Tree.txt, ← ((parse_iff _ _).1 h1).1, bts_of]

/-- What making a form of parts gives. -/
def makeF (l : List ByteArray) : Option ByteArray := match allOf l with
  | some ts => if ts ≠ [] ∧ (Tree.node ⟨#[]⟩ ts).fits = true then some (Tree.node ⟨#[]⟩ ts).txt else none
  | none => none

theorem makeF_none {l : List ByteArray} (h : allOf l = none) : makeF l = none := by unfold makeF; rw [h]
theorem makeF_some {l : List ByteArray} {ts : List Tree} (h : allOf l = some ts) : makeF l = if ts ≠ [] ∧ (Tree.node ⟨#[]⟩ ts).fits = true then some (Tree.node ⟨#[]⟩ ts).txt else none := by unfold makeF; rw [h]

theorem opened_ge : ∀ (ps : List Tree) (i : Nat), ps.length ≤ (Tree.opened i ps).length
  | [], _ => Nat.zero_le _
  | p :: ps, i => by have := opened_ge ps (i + 1); simp only [Tree.opened, List.length_cons, List.length_append]; omega

theorem makeF_long {l : List ByteArray} (h : 12000 < l.length) : makeF l = none := by
  cases e : allOf l with
  | none => exact makeF_none e
  | some ts =>
    rw [makeF_some e, if_neg]
    rintro ⟨h1, h2⟩
    have h3 := allOf_len e
    have h4 := opened_ge ts 0
    have h5 : (Tree.node ⟨#[]⟩ ts).text.length = (Tree.opened 0 ts).length + 1 := by rw [text_of_opened _ _ h1]; simp
    unfold Tree.fits at h2
    simp at h2; omega

theorem node_good {ts : List Tree} (h : Tree.goodL ts = true) (hn : ts ≠ []) : (Tree.node ⟨#[]⟩ ts).good = true := by
  have hi : ts.isEmpty = false := by simpa using hn
  simp [Tree.good, hi, h]

/-- How many bytes there are in a list of texts, and how many texts. -/
def totS (l : List ByteArray) : Nat := (l.map ByteArray.size).sum + l.length
theorem totS_snoc (l : List ByteArray) (s : ByteArray) : totS (l ++ [s]) = totS l + s.size + 1 := by simp [totS]; omega
theorem totS_take (l : List ByteArray) (k : Nat) : totS (l.take k) ≤ totS l := by
  induction l generalizing k with
  | nil => simp
  | cons a l ih => cases k with
    | zero => simp [totS]
    | succ k => have := ih k; simp only [totS, List.take_succ_cons, List.map_cons, List.sum_cons, List.length_cons] at *; omega
theorem totS_mem {l : List ByteArray} {s : ByteArray} (h : s ∈ l) : s.size ≤ totS l := by
  induction l with
  | nil => simp at h
  | cons a l ih =>
    simp only [totS, List.map_cons, List.sum_cons, List.length_cons] at *
    rcases List.mem_cons.1 h with rfl | h
    · omega
    · have := ih h; omega



end Go.Proofs.Ytnhmbncamimehaa
