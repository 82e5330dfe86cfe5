/- A number in decimals, as the draws write it. -/
import Derived.Test.YtpamfjbgnpmmoaaGreatDoorDecL
import Derived.Test.YtpamfjbgnpmmoaaGreatDoorRep
import Derived.Test.YtpamfjbgnpmmoaaGreatDoorRow
import Derived.Laws.IdiomStrings
import Derived.Deep.RegionWith
import Derived.Deep.RegionLaw
import Derived.Deep.DrawnRows
import Derived.Deep.RegionHeld3
import Derived.Lib.Hide
import Derived.Test.YtpamfjbgnpmmoaaGreatDoorProg
namespace Go.Proofs.YtpamfjbgnpmmoaaGreatDoor
open Go.RowKit

/-- A number's last digit. -/
def digS (k : Nat) : ByteArray := bts [UInt8.ofNat (48 + k % 10)]
theorem digS_size (k : Nat) : (digS k).size = 1 := rfl
theorem digS_conv (k : Nat) (W : World) (g : Nat) (h : W.cell? ⟨g, 0, none⟩ = some (.int .u8 (48 + (k : Int) % 10))) : (convert 22 9 (.slice (some ⟨g, 0, none⟩) 1 1)).run Tryz.prog W = Result.ok (Value.string (digS k)) W := by
  rw [digS, bts]
  refine run_convert_bytes_back (P := Tryz.prog) _ 22 9 5 ⟨g, 0, none⟩ 1 [UInt8.ofNat (48 + k % 10)] Tryz.underlying22 Tryz.underlying5 Tryz.underlying9 ?_
  intro j hj
  have : j = 0 := by simpa using hj
  subst this
  rw [Addr.add_lit, Nat.add_zero, h]
  simp
  omega

theorem dig_wrap (n : Nat) (h : n ≤ 1000000) : IntKind.u8.wrap (IntKind.i64.wrap (48 + (n : Int).tmod 10)) = 48 + (n : Int) % 10 := by
  rw [Int.tmod_eq_emod_of_nonneg (by omega), IntKind.wrap_i64]
  have h1 : (48 + (n : Int) % 10 + 9223372036854775808) % 18446744073709551616 - 9223372036854775808 = 48 + (n : Int) % 10 := by omega
  rw [h1]
  unfold IntKind.wrap
  simp [IntKind.bits, IntKind.signed]
  omega
theorem quo_wrap (n : Nat) (h : n ≤ 1000000) : IntKind.i64.wrap ((n : Int) / 10) = (n : Int) / 10 := by rw [IntKind.wrap_i64]; omega
theorem one_new (W : World) (v : Value) (ty : TypeId) : (W.alloc (.cells #[v] ty)).cell? ⟨W.heap.size, 0, none⟩ = some v := by
  have h := heap_alloc_new W (.cells #[v] ty)
  simp only [World.cell?, h]; rfl

theorem dec_small {n : Nat} (h : n < 10) : bts (decL n) = digS n := by
  rw [decL, if_pos h]; unfold digS; rw [Nat.mod_eq_of_lt h]
theorem dec_more {n : Nat} (h : ¬ n < 10) : bts (decL n) = bts (decL (n / 10)) ++ digS n := by
  rw [decL, if_neg h]
  unfold digS
  have : ∀ a b : List UInt8, bts (a ++ b) = bts a ++ bts b := fun a b => by
    unfold bts
    have h : ∀ x y : ByteArray, x.data.toList = y.data.toList → x = y := fun x y e => by cases x; cases y; simp at e; exact congrArg ByteArray.mk e
    apply h
    rw [ByteArray.data_append]
    simp
  exact this _ _

set_option maxRecDepth 100000 in
set_option maxHeartbeats 40000000 in
theorem l6Dec_any (n : Nat) : ∀ (w : World), n ≤ 1000000 →
    Calls Tryz.prog 40 #[.int .i64 n] w fun e w' => e = .returned (.string (bts (decL n))) ∧ Below w.heap.size w w' := by
  induction n using Nat.strongRecOn with
  | _ n ih =>
    intro w hn
    by_cases h10 : n < 10
    · have hcv : ∀ W : World, (convert 22 9 (.slice (some ⟨W.heap.size, 0, none⟩) 1 1)).run Tryz.prog (W.alloc (.cells #[.int .u8 (48 + (n : Int))] 5)) = Result.ok (Value.string (digS n)) (W.alloc (.cells #[.int .u8 (48 + (n : Int))] 5)) := by
        intro W
        refine digS_conv n _ _ ?_
        simp only [World.cell?, heap_alloc_new]
        simp
        omega
      have HE := Lib.hid (dec_small h10)
      clear ih
      go_enter Tryz.func40, Tryz.ntmps40
      go_wp2
      go_ret
      exact ⟨congrArg (fun x => Ending.returned (.string x)) HE.out.symm, (Below.refl _ _).alloc (Nat.le_refl _) _⟩
    · have HE := Lib.hid (dec_more h10)
      have HI : Hid (∀ (z : Int) (W : World), z = (n : Int) / 10 → Calls Tryz.prog 40 #[.int .i64 z] W fun e w' => e = .returned (.string (bts (decL (n / 10)))) ∧ Below W.heap.size W w') := fun z W hz => by
        have := ih (n / 10) (by omega) W (by omega)
        rw [show ((n / 10 : Nat) : Int) = z by omega] at this
        exact this
      have HCV : Hid (∀ (W : World) (g : Nat) (u : Int), W.cell? ⟨g, 0, none⟩ = some (.int .u8 u) → u = 48 + (n : Int) % 10 → (convert 22 9 (.slice (some ⟨g, 0, none⟩) 1 1)).run Tryz.prog W = Result.ok (Value.string (digS n)) W) := fun W g u h hu => digS_conv n W g (by rw [h, hu])
      have hsz : (bts (decL (n / 10))).size ≤ 1000000 := by have := decL_len (n / 10); rw [Lib.size_eq]; show (decL (n / 10)).length ≤ _; omega
      have hds : (digS n).size = 1 := rfl
      have hds2 : (digS n).size ≤ 1 := by rw [digS_size]; exact Nat.le_refl _
      clear ih
      generalize bts (decL n) = R at *
      generalize bts (decL (n / 10)) = Q at *
      generalize digS n = D at *
      clear hds
      go_enter Tryz.func40, Tryz.ntmps40
      go_wp2
      have HAL : Hid (∀ (W : World) (o : Obj), Below w.heap.size w W → Below w.heap.size w (W.alloc o)) := fun W o h => h.alloc h.size o
      have HTR : Hid (∀ (W W' : World), Below w.heap.size w W → Below W.heap.size W W' → Below w.heap.size w W') := fun W W' h h' => h.trans (h'.mono h.size)
      have hbw0 : Below w.heap.size w w := Below.refl _ _
      have hdw := dig_wrap n hn
      have hcv1 : ∀ W : World, (convert 22 9 (.slice (some ⟨W.heap.size, 0, none⟩) 1 1)).run Tryz.prog (W.alloc (.cells #[.int .u8 (IntKind.u8.wrap (IntKind.i64.wrap (48 + (n : Int).tmod 10)))] 5)) = Result.ok (Value.string D) (W.alloc (.cells #[.int .u8 (IntKind.u8.wrap (IntKind.i64.wrap (48 + (n : Int).tmod 10)))] 5)) := fun W => HCV.out _ _ _ (one_new _ _ _) hdw
      have hcv2 : ∀ W : World, (convert 22 9 (.slice (some ⟨W.heap.size, 0, none⟩) 1 1)).run Tryz.prog (W.drew.alloc (.cells #[.int .u8 (IntKind.u8.wrap (IntKind.i64.wrap (48 + (n : Int).tmod 10)))] 5)) = Result.ok (Value.string D) (W.drew.alloc (.cells #[.int .u8 (IntKind.u8.wrap (IntKind.i64.wrap (48 + (n : Int).tmod 10)))] 5)) := fun W => HCV.out _ _ _ (one_new W.drew _ _) hdw
      have hcv3 : ∀ (W : World) (g : Nat), W.cell? ⟨g, 0, none⟩ = some (.int .u8 (IntKind.u8.wrap (IntKind.i64.wrap (48 + (n : Int).tmod 10)))) → (convert 22 9 (.slice (some ⟨g, 0, none⟩) 1 1)).run Tryz.prog W = Result.ok (Value.string D) W := fun W g h => HCV.out _ _ _ h hdw
      have hqw := Lib.hid (quo_wrap n hn)
      clear hdw
      have hcv4 : ∀ W : World, (convert 22 9 (.slice (some ⟨W.heap.size, 0, none⟩) 1 1)).run Tryz.prog (W.alloc (.cells #[.int .u8 (48 + (n : Int) % 10)] 5)) = Result.ok (Value.string D) (W.alloc (.cells #[.int .u8 (48 + (n : Int) % 10)] 5)) := fun W => HCV.out _ _ _ (one_new _ _ _) rfl
      have hcv5 : ∀ W : World, (convert 22 9 (.slice (some ⟨W.heap.size, 0, none⟩) 1 1)).run Tryz.prog (W.drew.alloc (.cells #[.int .u8 (48 + (n : Int) % 10)] 5)) = Result.ok (Value.string D) (W.drew.alloc (.cells #[.int .u8 (48 + (n : Int) % 10)] 5)) := fun W => HCV.out _ _ _ (one_new W.drew _ _) rfl
      have hcv6 : ∀ (W : World) (g : Nat), W.cell? ⟨g, 0, none⟩ = some (.int .u8 (48 + (n : Int) % 10)) → (convert 22 9 (.slice (some ⟨g, 0, none⟩) 1 1)).run Tryz.prog W = Result.ok (Value.string D) W := fun W g h => HCV.out _ _ _ h rfl
      have hsum : ¬ 9223372036854775807 < Q.size + D.size := by omega
      have hcv7 : ∀ W : World, (convert 22 9 (.slice (some ⟨W.heap.size, 0, none⟩) 1 1)).run Tryz.prog (W.alloc (.cells #[.int .u8 (48 + (n : Int) % 10)] 5)).drew = Result.ok (Value.string D) (W.alloc (.cells #[.int .u8 (48 + (n : Int) % 10)] 5)).drew := fun W => HCV.out _ _ _ (one_new W _ _) rfl
      go_region_with (go_at_call 40; refine (HI.out _ _ ?_).mono ?_; (with_reducible first | exact hqw.out | rfl); rintro e w' ⟨rfl, hb'⟩; try (have hc9 := (hb'.cell (lt_of_cell (one_new _ _ _))).trans (one_new _ _ _)))
      all_goals
        clear hcv1 hcv2 hcv3 hcv4 hcv5 hcv6 hcv7
        go_wp2
        go_ret
        exact ⟨congrArg (fun x => Ending.returned (.string x)) HE.out.symm, by repeat' (first | with_reducible assumption | with_reducible exact Below.refl _ _ | with_reducible refine Below.drew ?_ | with_reducible refine HAL.out _ _ ?_ | with_reducible refine HTR.out _ _ ?_ hb')⟩

/-- Of a number that may be negative: some text. -/
theorem l6DecZ_any (z : Int) (w : World) (h0 : -1000 ≤ z) (h1 : z ≤ 1000) :
    Calls Tryz.prog 40 #[.int .i64 z] w fun e w' => ∃ s, e = .returned (.string s) ∧ s.size ≤ 1000 ∧ Below w.heap.size w w' := by
  have hsz : ∀ k, k ≤ 1000 → (bts (decL k)).size ≤ 998 := fun k hk => by
    have h3 : ∀ j, j ≤ 1000 → (decL j).length ≤ 4 := fun j hj => by
      rw [decL]; split; simp
      rw [decL]; split; simp
      rw [decL]; split; simp
      rw [decL]; split; simp
      omega
    rw [Lib.size_eq]; show (decL k).length ≤ _; have := h3 k hk; omega
  by_cases hz : 0 ≤ z
  · obtain ⟨k, rfl⟩ := Int.eq_ofNat_of_zero_le hz
    exact (l6Dec_any k w (by omega)).mono fun e w' ⟨he, hb⟩ => ⟨_, he, by have := hsz k (by omega); omega, hb⟩
  · obtain ⟨k, hk⟩ := Int.eq_ofNat_of_zero_le (show 0 ≤ -z by omega)
    have HI : Hid (∀ W, Calls Tryz.prog 40 #[.int .i64 (-z)] W fun e w' => e = .returned (.string (bts (decL k))) ∧ Below W.heap.size W w') := fun W => by rw [hk]; exact l6Dec_any k W (by omega)
    have hs := hsz k (by omega)
    have hz2 : decide (z < 0) = true := decide_eq_true (by omega)
    generalize bts (decL k) = Q at *
    clear hk hsz
    go_enter Tryz.func40, Tryz.ntmps40
    go_wp2_with fail
    refine (HI.out _).mono ?_
    rintro e w1 ⟨rfl, hb1⟩
    go_wp2
    go_ret
    refine ⟨_, rfl, ?_, hb1⟩
    rw [ByteArray.size_append]
    show 1 + Q.size ≤ _
    omega
end Go.Proofs.YtpamfjbgnpmmoaaGreatDoor
