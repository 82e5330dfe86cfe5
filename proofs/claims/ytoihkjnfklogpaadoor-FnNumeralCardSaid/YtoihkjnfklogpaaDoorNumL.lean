/- What the law of numerals needs. -/
import Derived.Test.YtoihkjnfklogpaaDoorAtoi
import Derived.Test.YtoihkjnfklogpaaDoorExprA
import Derived.Test.YtoihkjnfklogpaaDoorDec
import Derived.Test.YtoihkjnfklogpaaDoorDrawF
namespace Go.Proofs.YtoihkjnfklogpaaDoor
open Go.RowKit

theorem dig_le {c : UInt8} (h : digB c = true) : c.toNat - 48 ≤ 9 := by
  unfold digB at h
  simp only [Bool.and_eq_true, decide_eq_true_eq, UInt8.le_iff_toNat_le] at h
  have := h.2
  have e : (57 : UInt8).toNat = 57 := rfl
  omega
theorem digV_le {d : List UInt8} (h : digsB d = true) (hl : d.length ≤ 3) : digV d ≤ 999 := by
  match d, h, hl with
  | [], _, _ => decide
  | [a], h, _ =>
    simp only [digsB, List.all_cons, Bool.and_eq_true] at h
    have := dig_le h.1
    simp only [digV, List.foldl]; omega
  | [a, b], h, _ =>
    simp only [digsB, List.all_cons, Bool.and_eq_true] at h
    have := dig_le h.1; have := dig_le h.2.1
    simp only [digV, List.foldl]; omega
  | [a, b, c], h, _ =>
    simp only [digsB, List.all_cons, Bool.and_eq_true] at h
    have := dig_le h.1; have := dig_le h.2.1; have := dig_le h.2.2.1
    simp only [digV, List.foldl]; omega
  | _ :: _ :: _ :: _ :: _, _, hl => simp at hl
theorem numV_le {l : List UInt8} (h : numB l = true) : -999 ≤ numV l ∧ numV l ≤ 999 := by
  have hd : digV (stripM l) ≤ 999 := by
    unfold numB at h
    simp only [Bool.or_eq_true, decide_eq_true_eq] at h
    rcases h with rfl | h
    · decide
    · unfold digitsB at h
      simp only [Bool.and_eq_true, decide_eq_true_eq] at h
      exact digV_le h.1.2 h.1.1.2
  unfold numV
  split <;> omega
theorem numB_ne {l : List UInt8} (h : numB l = true) : l ≠ [] := by rintro rfl; simp [numB, stripM, digitsB] at h
theorem stripM_end {l : List UInt8} (h : l ≠ []) : stripM (l ++ [48]) = stripM l ++ [48] := by
  cases l with
  | nil => exact absurd rfl h
  | cons b r =>
    by_cases hb : b = 45
    · subst hb; rfl
    · have h1 : stripM (b :: r) = b :: r := by unfold stripM; split; rename_i heq; cases heq; exact absurd rfl hb; rfl
      have h2 : stripM (b :: (r ++ [48])) = b :: (r ++ [48]) := by unfold stripM; split; rename_i heq; cases heq; exact absurd rfl hb; rfl
      rw [h1, List.cons_append, h2]
theorem numV_end {l : List UInt8} (h : l ≠ []) : numV (l ++ [48]) = 10 * numV l := by
  have hd : digV (stripM l ++ [48]) = 10 * digV (stripM l) := by unfold digV; rw [List.foldl_append]; simp
  have hh : (l ++ [48]).head? = l.head? := by cases l with | nil => exact absurd rfl h | cons _ _ => rfl
  unfold numV
  rw [stripM_end h, hd, hh]
  split <;> omega
/-- Of a numeral and a zero behind it. -/
theorem numP_end {s t : ByteArray} (ht : t.data.toList = s.data.toList ++ [48]) (h : numB s.data.toList = true) (hp : (numP t).2 = true) : (numP t).1 = 10 * numV s.data.toList := by
  have hne := numB_ne h
  have h48 : ¬ t.data.toList = [48] := by
    rw [ht]
    intro hc
    have := congrArg List.length hc
    rw [List.length_append] at this
    have h0 : s.data.toList.length = 0 := by simpa using this
    exact hne (List.eq_nil_of_length_eq_zero h0)
  unfold numP at hp ⊢
  rw [if_neg h48] at hp ⊢
  split at hp
  · rename_i hd
    rw [if_pos hd, ht, numV_end hne]
  · cases hp

theorem dig_atom {c : UInt8} (h : digB c = true) : atomB c = true := by
  unfold digB at h
  unfold atomB
  simp only [Bool.and_eq_true, decide_eq_true_eq, UInt8.le_iff_toNat_le] at h
  have e1 : (48 : UInt8).toNat = 48 := rfl
  have e2 : (57 : UInt8).toNat = 57 := rfl
  simp only [Bool.and_eq_true, Bool.or_eq_true, decide_eq_true_eq, UInt8.le_iff_toNat_le]
  simp
  omega
theorem num_atom {l : List UInt8} (h : numB l = true) : l.all atomB = true := by
  unfold numB at h
  simp only [Bool.or_eq_true, decide_eq_true_eq] at h
  rcases h with rfl | h
  · decide
  · unfold digitsB at h
    simp only [Bool.and_eq_true, decide_eq_true_eq] at h
    have hd := h.1.2
    cases l with
    | nil => rfl
    | cons b r =>
      have key : ∀ d : List UInt8, digsB d = true → d.all atomB = true := fun d hd => by
        unfold digsB at hd
        rw [List.all_eq_true] at hd ⊢
        exact fun c hc => dig_atom (hd c hc)
      by_cases hb : b = 45
      · subst hb
        have := key r hd
        rw [List.all_cons, this]; decide
      · have h1 : stripM (b :: r) = b :: r := by unfold stripM; split; rename_i heq; cases heq; exact absurd rfl hb; rfl
        rw [h1] at hd
        exact key _ hd
theorem num_name {l : List UInt8} (h : numB l = true) : nameB l = false := by
  cases hn : nameB l with
  | false => rfl
  | true =>
    exfalso
    cases l with
    | nil => simp [nameB] at hn
    | cons c r =>
      simp only [nameB, Bool.and_eq_true, decide_eq_true_eq, UInt8.le_iff_toNat_le] at hn
      have e1 : (97 : UInt8).toNat = 97 := rfl
      have h97 := hn.1.1.1
      unfold numB at h
      simp only [Bool.or_eq_true, decide_eq_true_eq] at h
      rcases h with h | h
      · cases h
        have e2 : (48 : UInt8).toNat = 48 := rfl
        omega
      · have h1 : stripM (c :: r) = c :: r := by
          unfold stripM; split
          · rename_i heq; cases heq
            have e2 : (45 : UInt8).toNat = 45 := rfl
            omega
          · rfl
        rw [h1] at h
        unfold digitsB at h
        simp only [Bool.and_eq_true, digsB, List.all_cons, digB, decide_eq_true_eq, UInt8.le_iff_toNat_le] at h
        have e2 : (57 : UInt8).toNat = 57 := rfl
        have := h.1.2.1.2
        omega
theorem num_expr {l : List UInt8} (h : numB l = true) : pexpr l = some (.node (bts l) []) := by
  have hl := (atoi_num h).2
  have hp : parse l = some (.node (bts l) []) := by
    have hne := numB_ne h
    refine (parse_iff _ _).2 ⟨by rw [text_leaf, bts_data], ?_, by simp [Tree.depth], by omega⟩
    simp only [Tree.good, List.isEmpty_nil, if_true, bts_data, num_atom h]
    simpa using hne
  refine pexpr_some.2 ⟨hp, ?_, by simp [Tree.size]⟩
  simp only [Tree.isExpr, bareB, bts_data, h, Bool.or_true]
theorem num_word {l : List UInt8} (h : numB l = true) : headWord (pexpr l) = ⟨#[110, 117, 109, 98, 101, 114]⟩ := by
  rw [num_expr h]
  simp only [headWord, Tree.parts, Tree.atom, bts_data, num_name h]
  rfl

/-- What the drawing of a text hands back. -/
def DrawnN (N : Nat) (w : World) (e : Ending) (w' : World) : Prop := ∃ s, e = .returned (.string s) ∧ s.size ≤ N ∧ Below w.heap.size w w'
set_option maxRecDepth 100000 in
set_option maxHeartbeats 1600000 in
theorem drawExprNumber_any (w : World) (a : Option Addr) (len cap : Nat) (h : Code w a len cap) :
    Calls Tryd.prog 7 #[.slice a len cap] w (DrawnN 1000 w) := by
  have H := Lib.hid (l6Open_any w a len cap h)
  clear h
  go_enter Tryd.func7, Tryd.ntmps7
  go_wp2_with fail
  refine H.out.mono ?_
  rintro e w1 ⟨rb, rfl, hrb, hrd, hB1⟩
  go_wp2_with fail
  refine (pick_any w1 rb _ 3 hrd (by omega) (by omega) (by omega)).mono ?_
  rintro e w2 ⟨z, rfl, hz0, hz1, hrd2, hg2⟩
  have hlt2 := hrd2.lt
  by_cases hz : z = 0
  · subst hz
    go_wp2_with fail
    refine (of_any (fun s => s.size ≤ 20) _ rb _ w2.heap.size 11 11 (hrd2.alloc _) (by omega) (by omega) (by omega) (by omega) ?_).mono ?_
    · refine textRow_new w2 _ _ ?_
      (repeat (first | exact trivial | (refine ⟨⟨_, rfl, ?_⟩, ?_⟩; · first | assumption | decide | (simp only [ByteArray.size]; decide))))
    · rintro e w3 ⟨s2, rfl, hs2, hrd, hg3⟩
      have hB2 : Below w.heap.size w w3 := hB1.trans_grown (grownBy_trans (grownBy_alloc hg2 _) hg3) hrb hB1.size
      go_wp2
      go_ret
      exact ⟨s2, rfl, by omega, hB2⟩
  · have hzb : (z == 0) = false := by simpa using hz
    go_wp2_with fail
    refine (pick_any w2 rb _ 300 hrd2 (by omega) (by omega) (by omega)).mono ?_
    rintro e w3 ⟨y, rfl, hy0, hy1, hrd3, hg3⟩
    have hB3 : Below w.heap.size w w3 := hB1.trans_grown (grownBy_trans hg2 hg3) hrb hB1.size
    obtain ⟨k, rfl⟩ := Int.eq_ofNat_of_zero_le hy0
    have HD := Lib.hid (fun W => l6DecZ_any ((k : Int) - 150) W (by omega) (by omega))
    go_wp2_with fail
    refine (HD.out _).mono ?_
    rintro e w4 ⟨s, rfl, hs, hb4⟩
    go_wp2
    go_ret
    exact ⟨s, rfl, by omega, hB3.trans (hb4.mono hB3.size)⟩
end Go.Proofs.YtoihkjnfklogpaaDoor
