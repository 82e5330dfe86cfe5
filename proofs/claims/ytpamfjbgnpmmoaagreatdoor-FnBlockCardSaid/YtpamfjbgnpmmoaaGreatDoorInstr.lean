/- Instructions, in plain Lean. -/
import Derived.Test.YtpamfjbgnpmmoaaGreatDoorTarget
namespace Go.Proofs.YtpamfjbgnpmmoaaGreatDoor
open Go.RowKit

def azB (c : UInt8) : Bool := decide (97 ≤ c) && decide (c ≤ 122)
/-- A text is a label. -/
def labelB : List UInt8 → Bool
  | [] => false
  | c :: r => azB c && r.all fun d => azB d || digB d
/-- A text is a register. -/
def regB (l : List UInt8) : Bool := numB l && (decide (0 ≤ numV l) && decide (numV l ≤ 39))

/-- What stands behind the head, by the program. -/
def shapeI (h : List UInt8) (n : Nat) : List UInt8 :=
  if h = [99, 111, 110, 115, 116] then [100, 110]
  else if h = [109, 111, 118] ∨ h = [111, 112, 101, 110] then [100, 115]
  else if h = [97, 100, 100] ∨ h = [115, 117, 98] ∨ h = [109, 117, 108] then [100, 115, 115]
  else if h = [110, 101, 119] then 100 :: List.replicate (n - 2) 115
  else if h = [103, 101, 116] then [100, 115, 109]
  else if h = [108, 97, 98] then [100, 108]
  else if h = [112, 97, 99, 107] then [100, 115, 69, 87]
  else if h = [122, 101, 114, 111] then [115, 108]
  else if h = [106, 117, 109, 112] ∨ h = [104, 97, 108, 116] then [115]
  else []
/-- The same by the reference. -/
def shapeS (h : List UInt8) : List UInt8 :=
  if h = [99, 111, 110, 115, 116] then [114, 110]
  else if h = [109, 111, 118] ∨ h = [111, 112, 101, 110] then [114, 114]
  else if h = [97, 100, 100] ∨ h = [115, 117, 98] ∨ h = [109, 117, 108] then [114, 114, 114]
  else if h = [110, 101, 119] then [114, 42]
  else if h = [103, 101, 116] then [114, 114, 110]
  else if h = [108, 97, 98] ∨ h = [122, 101, 114, 111] then [114, 108]
  else if h = [112, 97, 99, 107] then [114, 114, 101, 119]
  else if h = [106, 117, 109, 112] ∨ h = [104, 97, 108, 116] then [114]
  else []
/-- A part is of a kind: by the program. -/
def kindI (c : UInt8) (p : Tree) : Bool :=
  if c = 100 ∨ c = 115 then regB p.atom.data.toList
  else if c = 110 then numB p.atom.data.toList
  else if c = 109 then numB p.atom.data.toList && decide (0 ≤ numV p.atom.data.toList)
  else if c = 108 then labelB p.atom.data.toList
  else if c = 69 then (decide (p.parts.length = 2) && decide (p.hd.data.toList = [101])) && p.target unkI false false
  else if c = 87 then p.target unkI false false
  else false
/-- A part is of a kind: by the reference. -/
def kindS (c : UInt8) (p : Tree) : Bool :=
  if c = 114 ∨ c = 42 then regB p.atom.data.toList
  else if c = 110 then numB p.atom.data.toList
  else if c = 108 then labelB p.atom.data.toList
  else if c = 101 then decide (p.hd.data.toList = [101]) && p.target unkI false false
  else p.target unkI false false

def all2 (f : UInt8 → Tree → Bool) : List UInt8 → List Tree → Bool
  | [], [] => true
  | c :: cs, p :: ps => f c p && all2 f cs ps
  | _, _ => false
theorem all2_iff (f : UInt8 → Tree → Bool) : ∀ (cs : List UInt8) (ps : List Tree), all2 f cs ps = true ↔ cs.length = ps.length ∧ ∀ (i : Nat) c p, cs[i]? = some c → ps[i]? = some p → f c p = true
  | [], [] => by simp [all2]
  | [], p :: ps => by simp [all2]
  | c :: cs, [] => by simp [all2]
  | c :: cs, p :: ps => by
    simp only [all2, Bool.and_eq_true, all2_iff f cs ps, List.length_cons]
    constructor
    · rintro ⟨h1, h2, h3⟩
      refine ⟨by omega, fun i c' p' hc hp => ?_⟩
      cases i with
      | zero => simp at hc hp; rw [← hc, ← hp]; exact h1
      | succ i => exact h3 i c' p' (by simpa using hc) (by simpa using hp)
    · rintro ⟨h1, h2⟩
      exact ⟨h2 0 c p rfl rfl, by omega, fun i c' p' hc hp => h2 (i + 1) c' p' (by simpa using hc) (by simpa using hp)⟩

/-- A form is an instruction: by the program. -/
def Tree.instrI : Tree → Bool
  | .node _ [] => false
  | .node _ (p :: ps) => decide (shapeI p.atom.data.toList (ps.length + 1) ≠ []) && all2 kindI (shapeI p.atom.data.toList (ps.length + 1)) ps
/-- A form is an instruction: by the reference. -/
def Tree.instrS : Tree → Bool
  | .node _ [] => false
  | .node _ (p :: ps) => decide (shapeS p.atom.data.toList ≠ []) &&
    (if shapeS p.atom.data.toList = [114, 42] then decide (ps ≠ []) && ps.all (fun q => regB q.atom.data.toList)
     else all2 kindS (shapeS p.atom.data.toList) ps && (!decide (p.atom.data.toList = [103, 101, 116]) || decide (0 ≤ numV ((ps.getD 2 (.node ⟨#[]⟩ [])).atom.data.toList))))

theorem all2_same (f g : UInt8 → Tree → Bool) : ∀ (cs ds : List UInt8) (ps : List Tree), cs.length = ds.length → (∀ (i : Nat) c d p, cs[i]? = some c → ds[i]? = some d → ps[i]? = some p → f c p = g d p) → all2 f cs ps = all2 g ds ps
  | [], [], [], _, _ => rfl
  | [], [], _ :: _, _, _ => rfl
  | c :: cs, d :: ds, [], _, _ => rfl
  | c :: cs, d :: ds, p :: ps, hl, h => by
    simp only [all2]
    rw [h 0 c d p rfl rfl rfl, all2_same f g cs ds ps (by simpa using hl) (fun i c' d' p' h1 h2 h3 => h (i + 1) c' d' p' (by simpa using h1) (by simpa using h2) (by simpa using h3))]
  | [], _ :: _, _, hl, _ => by simp at hl
  | _ :: _, [], _, hl, _ => by simp at hl

theorem kind_e (p : Tree) : kindI 69 p = kindS 101 p := by
  have e1 : kindI 69 p = ((decide (p.parts.length = 2) && decide (p.hd.data.toList = [101])) && p.target unkI false false) := by simp [kindI]
  have e2 : kindS 101 p = (decide (p.hd.data.toList = [101]) && p.target unkI false false) := by simp [kindS]
  rw [e1, e2]
  cases ht : p.target unkI false false with
  | false => simp
  | true =>
    by_cases hh : p.hd.data.toList = [101]
    · rw [decide_eq_true hh]
      obtain ⟨a, ps⟩ := p
      cases ps with
      | nil => exact absurd hh (by show ¬ (ByteArray.mk #[]).data.toList = _; simp)
      | cons q qs =>
        have hq : q.atom.data.toList = [101] := hh
        simp only [Tree.target, if_pos hq, Bool.and_eq_true, decide_eq_true_eq] at ht
        simp [Tree.parts, ht.1]
    · rw [decide_eq_false hh]; simp
theorem kind_r (c : UInt8) (h : c = 100 ∨ c = 115) (p : Tree) : kindI c p = kindS 114 p := by
  simp [kindI, kindS, h]
theorem all2_new : ∀ (k : Nat) (ps : List Tree), ps.length = k → all2 kindI (List.replicate k 115) ps = ps.all (fun q => regB q.atom.data.toList)
  | 0, [], _ => rfl
  | k + 1, p :: ps, h => by
    simp only [List.replicate_succ, all2, List.all_cons]
    rw [all2_new k ps (by simpa using h)]
    simp [kindI]

/-- The two agree. -/
theorem instr_same (t : Tree) : t.instrI = t.instrS := by
  obtain ⟨a, ps⟩ := t
  cases ps with
  | nil => rfl
  | cons p ps =>
    simp only [Tree.instrI, Tree.instrS]
    generalize p.atom.data.toList = h
    by_cases h1 : h = [99, 111, 110, 115, 116]
    · subst h1
      simp only [shapeI, shapeS, if_true]
      match ps with
      | [] => rfl
      | [x] => simp [all2]
      | [x, y] => simp [all2, kindI, kindS]
      | x :: y :: z :: r => simp [all2]
    by_cases h2 : h = [109, 111, 118] ∨ h = [111, 112, 101, 110]
    · simp only [shapeI, shapeS, if_neg h1, if_pos h2]
      have h3 : ¬ h = [103, 101, 116] := by rcases h2 with rfl | rfl <;> decide
      match ps with
      | [] => simp [all2]
      | [x] => simp [all2]
      | [x, y] => simp [all2, kindI, kindS, h3]
      | x :: y :: z :: r => simp [all2]
    by_cases h3 : h = [97, 100, 100] ∨ h = [115, 117, 98] ∨ h = [109, 117, 108]
    · simp only [shapeI, shapeS, if_neg h1, if_neg h2, if_pos h3]
      have h4 : ¬ h = [103, 101, 116] := by rcases h3 with rfl | rfl | rfl <;> decide
      match ps with
      | [] => simp [all2]
      | [x] => simp [all2]
      | [x, y] => simp [all2]
      | [x, y, z] => simp [all2, kindI, kindS, h4]
      | x :: y :: z :: u :: r => simp [all2]
    by_cases h4 : h = [110, 101, 119]
    · simp only [shapeI, shapeS, if_neg h1, if_neg h2, if_neg h3, if_pos h4]
      cases ps with
      | nil => simp [all2]
      | cons x r =>
        have e : (x :: r).length + 1 - 2 = r.length := by simp
        simp only [e, all2, all2_new r.length r rfl, List.all_cons]
        simp [kindI]
    by_cases h5 : h = [103, 101, 116]
    · subst h5
      simp only [shapeI, shapeS, if_neg h1, if_neg h2, if_neg h3, if_neg h4, if_true]
      match ps with
      | [] => simp [all2]
      | [x] => simp [all2]
      | [x, y] => simp [all2]
      | [x, y, z] =>
        simp [all2, kindI, kindS]
        cases regB x.atom.data.toList <;> cases regB y.atom.data.toList <;> cases numB z.atom.data.toList <;> simp
      | x :: y :: z :: u :: r => simp [all2]
    by_cases h6 : h = [108, 97, 98]
    · subst h6
      simp only [shapeI, shapeS, if_neg h1, if_neg h2, if_neg h3, if_neg h4, if_neg h5]
      match ps with
      | [] => simp [all2]
      | [x] => simp [all2]
      | [x, y] => simp [all2, kindI, kindS]
      | x :: y :: z :: r => simp [all2]
    by_cases h7 : h = [112, 97, 99, 107]
    · subst h7
      simp only [shapeI, shapeS, if_neg h1, if_neg h2, if_neg h3, if_neg h4, if_neg h5, if_neg h6]
      match ps with
      | [] => simp [all2]
      | [x] => simp [all2]
      | [x, y] => simp [all2]
      | [x, y, z] => simp [all2]
      | [x, y, z, u] =>
        have e1 : kindI 87 u = kindS 119 u := by simp [kindI, kindS]
        have e2 : ∀ q, kindI 100 q = kindS 114 q := fun q => kind_r 100 (.inl rfl) q
        have e3 : ∀ q, kindI 115 q = kindS 114 q := fun q => kind_r 115 (.inr rfl) q
        simp [all2, kind_e, e1, e2, e3]
      | x :: y :: z :: u :: v :: r => simp [all2]
    by_cases h8 : h = [122, 101, 114, 111]
    · subst h8
      simp only [shapeI, shapeS, if_neg h1, if_neg h2, if_neg h3, if_neg h4, if_neg h5, if_neg h6, if_neg h7]
      match ps with
      | [] => simp [all2]
      | [x] => simp [all2]
      | [x, y] => simp [all2, kindI, kindS]
      | x :: y :: z :: r => simp [all2]
    by_cases h9 : h = [106, 117, 109, 112] ∨ h = [104, 97, 108, 116]
    · have h10 : ¬ (h = [108, 97, 98] ∨ h = [122, 101, 114, 111]) := fun hc => hc.elim h6 h8
      simp only [shapeI, shapeS, if_neg h1, if_neg h2, if_neg h3, if_neg h4, if_neg h5, if_neg h6, if_neg h7, if_neg h8, if_neg h10, if_pos h9]
      match ps with
      | [] => simp [all2]
      | [x] => simp [all2, kindI, kindS, h5]
      | x :: y :: r => simp [all2]
    · have h10 : ¬ (h = [108, 97, 98] ∨ h = [122, 101, 114, 111]) := fun hc => hc.elim h6 h8
      simp only [shapeI, shapeS, if_neg h1, if_neg h2, if_neg h3, if_neg h4, if_neg h5, if_neg h6, if_neg h7, if_neg h8, if_neg h9, if_neg h10]
      simp
end Go.Proofs.YtpamfjbgnpmmoaaGreatDoor
