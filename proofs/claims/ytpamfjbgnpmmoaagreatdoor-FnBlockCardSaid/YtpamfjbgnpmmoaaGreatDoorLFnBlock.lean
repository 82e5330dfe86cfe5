/- The law FnBlock is true of every code: blocks end with a last instruction (the library's variables start as its text lays them). No condition. -/
import Derived.Test.YtpamfjbgnpmmoaaGreatDoorRows
import Derived.Test.YtpamfjbgnpmmoaaGreatDoorBlkP
import Derived.Test.YtpamfjbgnpmmoaaGreatDoorLaid
import Derived.WalkKit
import Derived.ProofKit
import Derived.OpenShut
import Derived.ShutString
import Derived.Below
import Derived.ChangeOld
import Derived.Test.YtpamfjbgnpmmoaaGreatDoorCards
import Derived.Test.YtpamfjbgnpmmoaaGreatDoorTie
import Derived.SevenTiedAt
import Derived.Handed
namespace Go.Proofs.YtpamfjbgnpmmoaaGreatDoor.fnBlock
open Go.ChangeShapes Go.WideShapes Go.ChangeAt Go.RowKit
open Go.ChangeMaps (open_string shut_string)
set_option linter.unusedVariables false

theorem own : ownKnob Tryz.prog.godebug = none := by kernel_rfl

theorem laidOut : laidOutB Tryz.prog = true := by kernel_rfl

set_option maxRecDepth 100000 in
set_option maxHeartbeats 3200000 in
theorem walk (a0 : Option Addr) (l0 c0 : Nat) (w : World) (w0 : Code w a0 l0 c0) :
    Calls Tryz.prog 3 #[.slice a0 l0 c0] w fun e w' => e = .returned (.bool true) ∧ Below w.heap.size w w' := by
  have HD := Lib.hid (drawBlockValid_any w a0 l0 c0 w0)
  clear w0
  by_cases hl : (1048576 : Int) < l0
  · go_enter Tryz.func3, Tryz.ntmps3
    go_wp2
    go_ret
    exact ⟨rfl, Below.refl _ _⟩
  · go_enter Tryz.func3, Tryz.ntmps3
    go_wp2_with fail
    refine HD.out.mono ?_
    rintro e w1 ⟨L, o, n, c, o2, n2, c2, lr, lc, rfl, hL, hs1, hs2, hz1, hz2, h1, h2, hB1⟩
    generalize hW2 : w1.alloc (.cells #[.string L, .slice o n c, .slice o2 n2 c2] 25) = W2
    have hb12 : Below w1.heap.size w1 W2 := by rw [← hW2]; exact (Below.refl _ _).alloc (Nat.le_refl _) _
    have hbx : W2.heap[w1.heap.size]? = some (.cells #[.string L, .slice o n c, .slice o2 n2 c2] 25 (0, 0)) := by rw [← hW2]; exact heap_alloc_new _ _
    have hlt : w1.heap.size < W2.heap.size := by rw [← hW2]; simp
    have HS : Hid (∀ V, Hid (Below W2.heap.size W2 V) → (V.cell? ⟨w1.heap.size, 0, none⟩ = some (.string L) ∧ V.cell? ⟨w1.heap.size, 1, none⟩ = some (.slice o n c) ∧ V.cell? ⟨w1.heap.size, 2, none⟩ = some (.slice o2 n2 c2)) ∧ Strs V o n lr ∧ Strs V o2 n2 lc ∧ Below w.heap.size w V) := fun V hb =>
      have hb' : Below w1.heap.size w1 V := hb12.trans (hb.out.mono (Nat.le_of_lt hlt))
      ⟨cells3 ((hb.out.block _ hlt).trans hbx), hs1.keep hb', hs2.keep hb', hB1.trans (hb'.mono hB1.size)⟩
    have HTR : Hid (∀ V V', Hid (Below W2.heap.size W2 V) → Below V.heap.size V V' → Hid (Below W2.heap.size W2 V')) := fun V V' h hb => h.out.trans (hb.mono h.out.size)
    have HV1 : Hid (∀ V, Hid (Below W2.heap.size W2 V) → Calls Tryz.prog 5 #[.agg #[.string L, .slice o n c, .slice o2 n2 c2]] V fun e w' => e = .returned (.bool (blockB L lr lc)) ∧ Below V.heap.size V w') := fun V hb => blockValid_any L lr lc o o2 n c n2 c2 V (HS.out V hb).2.1 (HS.out V hb).2.2.1 hL h1 h2 hz1 hz2
    have HV2 : Hid (∀ V, Hid (Below W2.heap.size W2 V) → Calls Tryz.prog 6 #[.agg #[.string L, .slice o n c, .slice o2 n2 c2]] V fun e w' => e = .returned (.bool (blockB L lr lc)) ∧ Below V.heap.size V w') := fun V hb => sBlockValid_any L lr lc o o2 n c n2 c2 V (HS.out V hb).2.1 (HS.out V hb).2.2.1 hL h1 h2 hz1 hz2
    have HN : Hid (n2 = lc.length) := hs2.1
    have HOK : Hid (blockB L lr lc = true → BlockOk L lr lc) := fun h => blockB_iff.1 h
    have HZ := Lib.hid hz2
    have HH := Lib.hid h2
    have hn10 : n2 ≤ 10 := by have := hs2.1; omega
    have H0 : Hid (Below W2.heap.size W2 W2) := Below.refl _ _
    obtain ⟨⟨x0, x1, x2⟩, -, -, -⟩ := HS.out _ H0
    generalize blockB L lr lc = B at *
    clear hb12 hbx hlt hs1 hs2 hz1 hz2 h1 h2 hB1 HD hL
    go_wp2_with fail
    (try rw [hW2])
    refine (HV1.out _ H0).mono ?_
    rintro e w3 ⟨rfl, hb3⟩
    clear hW2
    have H3 := HTR.out _ _ H0 hb3
    clear hb3 x0 x1 x2
    obtain ⟨⟨x0, x1, x2⟩, -, -, -⟩ := HS.out _ H3
    go_wp2_with fail
    refine (HV2.out _ H3).mono ?_
    rintro e w4 ⟨rfl, hb4⟩
    have H4 := HTR.out _ _ H3 hb4
    clear hb4 x0 x1 x2
    cases B
    · go_wp2
      go_ret
      exact ⟨rfl, (HS.out _ H4).2.2.2⟩
    · have HBK := Lib.hid (HOK.out rfl)
      go_wp2_with fail
      go_loopw [6] (fun iv wr => ∃ i : Nat, i ≤ n2 ∧ iv = .int .i64 i ∧ Hid (Below W2.heap.size W2 wr)) (fun iv _ => n2 - (intOf iv).toNat)
      case atStart => exact ⟨0, Nat.zero_le _, rfl, H4⟩
      case round =>
        obtain ⟨i, hi, rfl, HB⟩ := hrel
        obtain ⟨⟨x0, x1, x2⟩, hst1, hst2, hbw⟩ := HS.out _ HB
        by_cases hin : i < n2
        · obtain ⟨b, off, s, ho, hx, hcx⟩ := hst2.at hin
          have HX := Lib.hid hx
          have hm : s ∈ lc := List.mem_of_getElem? hx
          have hil := fun V => instrLast_any s V (by have := HZ.out s hm; omega)
          have hlo := (HBK.out.code i s HX.out).2
          rw [hlo] at hil
          have hi0 : (0 : Int) ≤ (i : Int) := by omega
          have hi1 : (i : Int) < (n2 : Int) := by omega
          subst ho
          have HBD : Hid (((i : Int) == (n2 : Int) - 1) = decide (i + 1 = lc.length)) := by
            show _ = _
            have := HN.out
            rw [Bool.eq_iff_iff]; simp; omega
          have hbd := HBD.out
          have hwr1 : IntKind.i64.wrap ((n2 : Int) - 1) = (n2 : Int) - 1 := IntWalk.i64_in _ (by omega)
          have HSK : Hid (∀ V, Hid (Below W2.heap.size W2 V) → V.cell? ⟨w1.heap.size, 2, none⟩ = some (.slice (some ⟨b, off, none⟩) n2 c2) ∧ V.cell? ⟨b, off + i, none⟩ = some (.string s)) := fun V hb => by
            obtain ⟨k1, -, k2, -⟩ := HS.out _ hb
            obtain ⟨b', off', s', ho', hx', hc'⟩ := k2.at hin
            cases ho'
            rw [HX.out] at hx'
            cases hx'
            exact ⟨k1.2.2, hc'⟩
          have HBR : Hid (Below W2.heap.size W2 wr.drew) := HB.out.drew
          have HT1 : Hid (∀ V, Below wr.drew.heap.size wr.drew V → Hid (Below W2.heap.size W2 V)) := fun V hb => HBR.out.trans (hb.mono HBR.out.size)
          generalize decide (i + 1 = lc.length) = ld at hil hbd
          have HIL := Lib.hid hil
          clear hx hm hst1 hst2 hil hlo HBD
          cases ld
          · go_wp2_with fail
            refine wp_region_held_drew (S := (fun V => V.cell? ⟨w1.heap.size, 2, none⟩ = some (.slice (some ⟨b, off, none⟩) n2 c2) ∧ V.cell? ⟨b, off + i, none⟩ = some (.string s))) (by kernel_rfl) ?_ (fun hHeld => ?_)
            · (try dsimp only); (first | with_reducible exact HSK.out _ HB7 | with_reducible exact HSK.out _ HBR)
            refine wpAnyH_take (i := 0) (v := ?_) (by simp only [List.getElem?_toArray, List.getElem?_cons_zero]; rfl) (by kernel_rfl) (by kernel_rfl) (by kernel_rfl) (by exact fun _ _ _ h => h) (Or.inl ⟨by rfl, ?_⟩) (by assumption) ?_
            rotate_left
            · intro W hSW; (try dsimp only at hSW); go_simp; (try with_reducible rfl)
            (try simp only [Act.put, List.setIfInBounds_toArray, List.set_cons_zero, List.set_cons_succ])
            refine wpAnyH_take (i := 1) (v := ?_) (by simp only [List.getElem?_toArray, List.getElem?_cons_zero, List.getElem?_cons_succ]; rfl) (by kernel_rfl) (by kernel_rfl) (by kernel_rfl) (by exact fun _ _ _ h => h) (Or.inl ⟨by rfl, ?_⟩) (by assumption) ?_
            rotate_left
            · intro W hSW; (try dsimp only at hSW); go_simp; (try with_reducible rfl)
            (try simp only [Act.put, List.setIfInBounds_toArray, List.set_cons_zero, List.set_cons_succ])
            refine wpAnyH_take (i := 2) (v := ?_) (by simp only [List.getElem?_toArray, List.getElem?_cons_zero, List.getElem?_cons_succ]; rfl) (by kernel_rfl) (by kernel_rfl) (by kernel_rfl) (by exact fun _ _ _ h => h) (Or.inl ⟨by rfl, ?_⟩) (by assumption) ?_
            rotate_left
            · intro W hSW; (try dsimp only at hSW); go_simp; (try with_reducible rfl)
            (try simp only [Act.put, List.setIfInBounds_toArray, List.set_cons_zero, List.set_cons_succ])
            refine wpAnyH_take (i := 3) (v := ?_) (by simp only [List.getElem?_toArray, List.getElem?_cons_zero, List.getElem?_cons_succ]; rfl) (by kernel_rfl) (by kernel_rfl) (by kernel_rfl) (by exact fun _ _ _ h => h) (Or.inl ⟨by rfl, ?_⟩) (by assumption) ?_
            rotate_left
            · intro W hSW; (try dsimp only at hSW); go_simp; (try with_reducible rfl)
            (try simp only [Act.put, List.setIfInBounds_toArray, List.set_cons_zero, List.set_cons_succ])
            refine wpAnyH_take (i := 4) (v := ?_) (by simp only [List.getElem?_toArray, List.getElem?_cons_zero, List.getElem?_cons_succ]; rfl) (by kernel_rfl) (by kernel_rfl) (by kernel_rfl) (by exact fun _ _ _ h => h) (Or.inl ⟨by rfl, ?_⟩) (by assumption) ?_
            rotate_left
            · intro W hSW; (try dsimp only at hSW); go_simp; (try with_reducible rfl)
            (try simp only [Act.put, List.setIfInBounds_toArray, List.set_cons_zero, List.set_cons_succ])
            refine wpAnyH_take (i := 6) (v := ?_) (by simp only [List.getElem?_toArray, List.getElem?_cons_zero, List.getElem?_cons_succ]; rfl) (by kernel_rfl) (by kernel_rfl) (by kernel_rfl) (by exact fun _ _ _ h => h) (Or.inl ⟨by rfl, ?_⟩) (by assumption) ?_
            rotate_left
            · intro W hSW; (try dsimp only at hSW); go_simp; (try with_reducible rfl)
            (try simp only [Act.put, List.setIfInBounds_toArray, List.set_cons_zero, List.set_cons_succ])
            refine wpAnyH_take (i := 7) (v := ?_) (by simp only [List.getElem?_toArray, List.getElem?_cons_zero, List.getElem?_cons_succ]; rfl) (by kernel_rfl) (by kernel_rfl) (by kernel_rfl) (by exact fun _ _ _ h => h) (Or.inl ⟨by rfl, ?_⟩) (by assumption) ?_
            rotate_left
            · intro W hSW; (try dsimp only at hSW); go_simp; (try with_reducible rfl)
            (try simp only [Act.put, List.setIfInBounds_toArray, List.set_cons_zero, List.set_cons_succ])
            refine wpAnyH_take (i := 8) (v := ?_) (by simp only [List.getElem?_toArray, List.getElem?_cons_zero, List.getElem?_cons_succ]; rfl) (by kernel_rfl) (by kernel_rfl) (by kernel_rfl) (by exact fun _ _ _ h => h) (Or.inl ⟨by rfl, ?_⟩) (by assumption) ?_
            rotate_left
            · intro W hSW; (try dsimp only at hSW); go_simp; (try with_reducible rfl)
            (try simp only [Act.put, List.setIfInBounds_toArray, List.set_cons_zero, List.set_cons_succ])
            refine wpAnyH_take (i := 9) (v := ?_) (by simp only [List.getElem?_toArray, List.getElem?_cons_zero, List.getElem?_cons_succ]; rfl) (by kernel_rfl) (by kernel_rfl) (by kernel_rfl) (by exact fun _ _ _ h => h) (Or.inl ⟨by rfl, ?_⟩) (by assumption) ?_
            rotate_left
            · intro W hSW; (try dsimp only at hSW); go_simp; (try with_reducible rfl)
            (try simp only [Act.put, List.setIfInBounds_toArray, List.set_cons_zero, List.set_cons_succ])
            refine wpAnyH_take (i := 10) (v := ?_) (by simp only [List.getElem?_toArray, List.getElem?_cons_zero, List.getElem?_cons_succ]; rfl) (by kernel_rfl) (by kernel_rfl) (by kernel_rfl) (by exact fun _ _ _ h => h) (Or.inl ⟨by rfl, ?_⟩) (by assumption) ?_
            rotate_left
            · intro W hSW; (try dsimp only at hSW); go_simp; (try with_reducible rfl)
            (try simp only [Act.put, List.setIfInBounds_toArray, List.set_cons_zero, List.set_cons_succ])
            refine wpAnyH_take (i := 11) (v := ?_) (by simp only [List.getElem?_toArray, List.getElem?_cons_zero, List.getElem?_cons_succ]; rfl) (by kernel_rfl) (by kernel_rfl) (by kernel_rfl) (by exact fun _ _ _ h => h) (Or.inl ⟨by rfl, ?_⟩) (by assumption) ?_
            rotate_left
            · intro W hSW; (try dsimp only at hSW); go_simp; (try with_reducible rfl)
            (try simp only [Act.put, List.setIfInBounds_toArray, List.set_cons_zero, List.set_cons_succ])
            refine wpAnyH_ready (rs := [5]) (by kernel_rfl) (by simp) ?_
            refine AllReadyH.cons (by simp only [List.getElem?_toArray, List.getElem?_cons_zero, List.getElem?_cons_succ]; rfl) (fun K hK => ?_) AllReadyH.nil
            go_simp
            (go_at_call 7; with_reducible refine (HIL.out _).mono ?_; rintro e w7 ⟨rfl, hb7⟩; have HB7 := HT1.out _ hb7)
            (try go_wp2_with fail)
            refine hK.out _ _ ?_ (fun hHeld => ?_)
            · (try dsimp only); (first | with_reducible exact HSK.out _ HB7 | with_reducible exact HSK.out _ HBR)
            clear hK K
            (try simp only [Act.put, List.setIfInBounds_toArray, List.set_cons_zero, List.set_cons_succ])
            refine wpAnyH_take (i := 12) (v := ?_) (by simp only [List.getElem?_toArray, List.getElem?_cons_zero, List.getElem?_cons_succ]; rfl) (by kernel_rfl) (by kernel_rfl) (by kernel_rfl) (by exact fun _ _ _ h => h) (Or.inl ⟨by rfl, ?_⟩) (by assumption) ?_
            rotate_left
            · intro W hSW; (try dsimp only at hSW); go_simp; (try with_reducible rfl)
            (try simp only [Act.put, List.setIfInBounds_toArray, List.set_cons_zero, List.set_cons_succ])
            refine wpAnyH_done (by kernel_rfl) ?_ _
            obtain ⟨e0, e1⟩ := HSK.out _ HB7
            go_wp2
            go_roundw
            case rel => exact ⟨i + 1, by omega, by go_num, HB7⟩
            case measure => simp [intOf]; omega
          · go_wp2_with fail
            refine wp_region_held_drew (S := (fun V => V.cell? ⟨w1.heap.size, 2, none⟩ = some (.slice (some ⟨b, off, none⟩) n2 c2) ∧ V.cell? ⟨b, off + i, none⟩ = some (.string s))) (by kernel_rfl) ?_ (fun hHeld => ?_)
            · (try dsimp only); (first | with_reducible exact HSK.out _ HB7 | with_reducible exact HSK.out _ HBR)
            refine wpAnyH_take (i := 0) (v := ?_) (by simp only [List.getElem?_toArray, List.getElem?_cons_zero]; rfl) (by kernel_rfl) (by kernel_rfl) (by kernel_rfl) (by exact fun _ _ _ h => h) (Or.inl ⟨by rfl, ?_⟩) (by assumption) ?_
            rotate_left
            · intro W hSW; (try dsimp only at hSW); go_simp; (try with_reducible rfl)
            (try simp only [Act.put, List.setIfInBounds_toArray, List.set_cons_zero, List.set_cons_succ])
            refine wpAnyH_take (i := 1) (v := ?_) (by simp only [List.getElem?_toArray, List.getElem?_cons_zero, List.getElem?_cons_succ]; rfl) (by kernel_rfl) (by kernel_rfl) (by kernel_rfl) (by exact fun _ _ _ h => h) (Or.inl ⟨by rfl, ?_⟩) (by assumption) ?_
            rotate_left
            · intro W hSW; (try dsimp only at hSW); go_simp; (try with_reducible rfl)
            (try simp only [Act.put, List.setIfInBounds_toArray, List.set_cons_zero, List.set_cons_succ])
            refine wpAnyH_take (i := 2) (v := ?_) (by simp only [List.getElem?_toArray, List.getElem?_cons_zero, List.getElem?_cons_succ]; rfl) (by kernel_rfl) (by kernel_rfl) (by kernel_rfl) (by exact fun _ _ _ h => h) (Or.inl ⟨by rfl, ?_⟩) (by assumption) ?_
            rotate_left
            · intro W hSW; (try dsimp only at hSW); go_simp; (try with_reducible rfl)
            (try simp only [Act.put, List.setIfInBounds_toArray, List.set_cons_zero, List.set_cons_succ])
            refine wpAnyH_take (i := 3) (v := ?_) (by simp only [List.getElem?_toArray, List.getElem?_cons_zero, List.getElem?_cons_succ]; rfl) (by kernel_rfl) (by kernel_rfl) (by kernel_rfl) (by exact fun _ _ _ h => h) (Or.inl ⟨by rfl, ?_⟩) (by assumption) ?_
            rotate_left
            · intro W hSW; (try dsimp only at hSW); go_simp; (try with_reducible rfl)
            (try simp only [Act.put, List.setIfInBounds_toArray, List.set_cons_zero, List.set_cons_succ])
            refine wpAnyH_take (i := 4) (v := ?_) (by simp only [List.getElem?_toArray, List.getElem?_cons_zero, List.getElem?_cons_succ]; rfl) (by kernel_rfl) (by kernel_rfl) (by kernel_rfl) (by exact fun _ _ _ h => h) (Or.inl ⟨by rfl, ?_⟩) (by assumption) ?_
            rotate_left
            · intro W hSW; (try dsimp only at hSW); go_simp; (try with_reducible rfl)
            (try simp only [Act.put, List.setIfInBounds_toArray, List.set_cons_zero, List.set_cons_succ])
            refine wpAnyH_take (i := 6) (v := ?_) (by simp only [List.getElem?_toArray, List.getElem?_cons_zero, List.getElem?_cons_succ]; rfl) (by kernel_rfl) (by kernel_rfl) (by kernel_rfl) (by exact fun _ _ _ h => h) (Or.inl ⟨by rfl, ?_⟩) (by assumption) ?_
            rotate_left
            · intro W hSW; (try dsimp only at hSW); go_simp; (try with_reducible rfl)
            (try simp only [Act.put, List.setIfInBounds_toArray, List.set_cons_zero, List.set_cons_succ])
            refine wpAnyH_take (i := 7) (v := ?_) (by simp only [List.getElem?_toArray, List.getElem?_cons_zero, List.getElem?_cons_succ]; rfl) (by kernel_rfl) (by kernel_rfl) (by kernel_rfl) (by exact fun _ _ _ h => h) (Or.inl ⟨by rfl, ?_⟩) (by assumption) ?_
            rotate_left
            · intro W hSW; (try dsimp only at hSW); go_simp; (try with_reducible rfl)
            (try simp only [Act.put, List.setIfInBounds_toArray, List.set_cons_zero, List.set_cons_succ])
            refine wpAnyH_take (i := 8) (v := ?_) (by simp only [List.getElem?_toArray, List.getElem?_cons_zero, List.getElem?_cons_succ]; rfl) (by kernel_rfl) (by kernel_rfl) (by kernel_rfl) (by exact fun _ _ _ h => h) (Or.inl ⟨by rfl, ?_⟩) (by assumption) ?_
            rotate_left
            · intro W hSW; (try dsimp only at hSW); go_simp; (try with_reducible rfl)
            (try simp only [Act.put, List.setIfInBounds_toArray, List.set_cons_zero, List.set_cons_succ])
            refine wpAnyH_take (i := 9) (v := ?_) (by simp only [List.getElem?_toArray, List.getElem?_cons_zero, List.getElem?_cons_succ]; rfl) (by kernel_rfl) (by kernel_rfl) (by kernel_rfl) (by exact fun _ _ _ h => h) (Or.inl ⟨by rfl, ?_⟩) (by assumption) ?_
            rotate_left
            · intro W hSW; (try dsimp only at hSW); go_simp; (try with_reducible rfl)
            (try simp only [Act.put, List.setIfInBounds_toArray, List.set_cons_zero, List.set_cons_succ])
            refine wpAnyH_take (i := 10) (v := ?_) (by simp only [List.getElem?_toArray, List.getElem?_cons_zero, List.getElem?_cons_succ]; rfl) (by kernel_rfl) (by kernel_rfl) (by kernel_rfl) (by exact fun _ _ _ h => h) (Or.inl ⟨by rfl, ?_⟩) (by assumption) ?_
            rotate_left
            · intro W hSW; (try dsimp only at hSW); go_simp; (try with_reducible rfl)
            (try simp only [Act.put, List.setIfInBounds_toArray, List.set_cons_zero, List.set_cons_succ])
            refine wpAnyH_take (i := 11) (v := ?_) (by simp only [List.getElem?_toArray, List.getElem?_cons_zero, List.getElem?_cons_succ]; rfl) (by kernel_rfl) (by kernel_rfl) (by kernel_rfl) (by exact fun _ _ _ h => h) (Or.inl ⟨by rfl, ?_⟩) (by assumption) ?_
            rotate_left
            · intro W hSW; (try dsimp only at hSW); go_simp; (try with_reducible rfl)
            (try simp only [Act.put, List.setIfInBounds_toArray, List.set_cons_zero, List.set_cons_succ])
            refine wpAnyH_ready (rs := [5]) (by kernel_rfl) (by simp) ?_
            refine AllReadyH.cons (by simp only [List.getElem?_toArray, List.getElem?_cons_zero, List.getElem?_cons_succ]; rfl) (fun K hK => ?_) AllReadyH.nil
            go_simp
            (go_at_call 7; with_reducible refine (HIL.out _).mono ?_; rintro e w7 ⟨rfl, hb7⟩; have HB7 := HT1.out _ hb7)
            (try go_wp2_with fail)
            refine hK.out _ _ ?_ (fun hHeld => ?_)
            · (try dsimp only); (first | with_reducible exact HSK.out _ HB7 | with_reducible exact HSK.out _ HBR)
            clear hK K
            (try simp only [Act.put, List.setIfInBounds_toArray, List.set_cons_zero, List.set_cons_succ])
            refine wpAnyH_take (i := 12) (v := ?_) (by simp only [List.getElem?_toArray, List.getElem?_cons_zero, List.getElem?_cons_succ]; rfl) (by kernel_rfl) (by kernel_rfl) (by kernel_rfl) (by exact fun _ _ _ h => h) (Or.inl ⟨by rfl, ?_⟩) (by assumption) ?_
            rotate_left
            · intro W hSW; (try dsimp only at hSW); go_simp; (try with_reducible rfl)
            (try simp only [Act.put, List.setIfInBounds_toArray, List.set_cons_zero, List.set_cons_succ])
            refine wpAnyH_done (by kernel_rfl) ?_ _
            obtain ⟨e0, e1⟩ := HSK.out _ HB7
            go_wp2
            go_roundw
            case rel => exact ⟨i + 1, by omega, by go_num, HB7⟩
            case measure => simp [intOf]; omega
        · have HM : Hid (BlockOk ⟨#[109, 97, 105, 110]⟩ [] lc) := ⟨by decide, by simp, HBK.out.nc, fun j s h => by simp at h, HBK.out.code⟩
          have hb5 : Below wr.heap.size wr (wr.alloc (.cells #[] 9)) := (Below.refl _ _).alloc (Nat.le_refl _) _
          have hnew := heap_alloc_new (wr.alloc (.cells #[] 9)) (.cells #[.string ⟨#[109, 97, 105, 110]⟩, .slice (some ⟨wr.heap.size, 0, none⟩) 0 0, .slice o2 n2 c2] 25)
          rw [World.size_alloc] at hnew
          obtain ⟨p0, p1, p2⟩ := cells3 hnew
          have hB6 : Below wr.heap.size wr ((wr.alloc (.cells #[] 9)).alloc (.cells #[.string ⟨#[109, 97, 105, 110]⟩, .slice (some ⟨wr.heap.size, 0, none⟩) 0 0, .slice o2 n2 c2] 25)) := hb5.alloc hb5.size _
          have HPV := Lib.hid (programValid_one lc (some ⟨wr.heap.size, 0, none⟩) o2 0 n2 c2 (wr.heap.size + 1) 1 _ (hst2.keep hB6) HH.out HZ.out HM.out p0 p1 p2)
          have HB6 := Lib.hid (hbw.trans (hB6.mono hbw.size))
          have hx3 : w1.heap.size < wr.heap.size := lt_of_cell x2
          clear hb5 hnew p0 p1 p2 hB6 hst1 hst2 hbw
          go_wp2_with fail
          refine HPV.out.mono ?_
          rintro e w8 ⟨rfl, hb8⟩
          have HB8 := Lib.hid (HB6.out.trans (hb8.mono HB6.out.size))
          clear hb8
          go_wp2
          go_ret
          exact ⟨rfl, HB8.out⟩

set_option maxRecDepth 100000 in
theorem lifted (os : Os) (started : os.Started) (H : Type) (enc : TypeId × Value → H) :
    ReturnsInHanded {} Tryz.checked os 3 .any (fun w args => (Rows.fnBlockSpec.pre enc Tryz.prog Tryz.f3 Rows.fnBlockRow.domain false w args ∧ laidMet Tryz.prog Rows.fnBlockRow.laid w) ∧ sizedMet enc Tryz.prog Tryz.f3 (OpenSpec.ofChange Rows.fnBlockSpec) false w args) (Rows.fnBlockSpec.post enc Tryz.prog Tryz.f3 false true false false) := by
  refine returnsInHanded_of_change_and (C := Tryz.checked) (X := (fun w _ => laidMet Tryz.prog Rows.fnBlockRow.laid w)) (fun _ _ _ hh h => h.of_heap hh) own started (by kernel_rfl) Tryz.func3
    (ChangeSpec.witness_at (enc := enc) (C := Tryz.checked) (os := os) (X := (fun w _ => laidMet Tryz.prog Rows.fnBlockRow.laid w)) false (laidWorld os) #[.slice none 0 0] 8 rfl (by kernel_rfl) (by kernel_rfl) (by kernel_rfl) (by kernel_rfl) (by kernel_rfl) (laidWorld_met os _)) ?_
  intro W base args ds gs before hval0 hW hcnd0 _ hL _
  have hval : ∀ (j : Nat) t v, Tryz.f3.params[j]? = some t → args[j]? = some v → Value.okWide Tryz.prog W .any base t v := hval0
  have hW' := hW
  obtain ⟨p, q, hA0, hV, rfl, hfz, hnd⟩ := hW
  have hA : DataW.TrodAll enc Tryz.prog W 0 (fun _ => true) true Tryz.f3.params.toList args.toList ds p := hA0
  rw [Tryz.params3] at hA hval
  obtain ⟨v0, vs0, d0, ds0, p0, q0, hargs, rfl, rfl, h0, r0⟩ := trodAll_cons hA
  obtain ⟨rfl, rfl, rfl⟩ := trodAll_nil r0
  obtain rfl : args = #[v0] := by cases args; simp_all
  obtain ⟨rfl, rfl⟩ := trodVars_none hV
  obtain ⟨a0, l0, c0, rfl⟩ := okWide_slice Tryz.underlying22 (hval 0 22 v0 rfl rfl)
  have k0 := h0
  have lt0 : ∀ x ∈ p0, x.block < W.heap.size := by obtain ⟨m, hm⟩ := k0; exact DataW.trod_lt m _ _ _ hm
  have w0 : Code W a0 l0 c0 := by
    obtain ⟨fuel, hf⟩ := h0
    rcases open_ints Tryz.underlying22 Tryz.underlying5 (by kernel_rfl) hf with ⟨hcs, _⟩ | ⟨x, l, c, zs, hcs, _, hl, hm, hz, _, hcell, hwz⟩
    · simp [Value.cells] at hcs
      obtain ⟨rfl, rfl, rfl⟩ := hcs
      exact ⟨Nat.le_refl _, Nat.zero_le _, .inl rfl⟩
    · simp [Value.cells] at hcs
      obtain ⟨rfl, rfl, rfl⟩ := hcs
      exact Code.of_row hl hm (by simpa using hz) hcell hwz
  clear hA0 hval0
  simp only [List.append_nil] at hW'
  refine (walk a0 l0 c0 W w0).mono fun e W' ⟨he, bel⟩ => ?_
  subst he
  exact ⟨_, rfl, _, _, _, [], _, [], hW', trodAll_mk1 (shut_bool Tryz.underlying4 _), (trodAll_cons_mk (Below.trod laidOut (by kernel_rfl) (of_decide_eq_true (by kernel_rfl)) k0 bel lt0) trodAll_mk0), rfl, bel.frame _, fun h => by cases h⟩

theorem over : Rows.fnBlockRow.holds Tryz.pinned (OpenSpec.ofChange Rows.fnBlockSpec) :=
  OpenClaim.holds_of_wide 3 Tryz.f3 rfl rfl rfl rfl rfl rfl rfl ⟨rfl, rfl, rfl, rfl, rfl⟩ rfl rfl rfl rfl rfl (by kernel_rfl) Tryz.func3 (by kernel_rfl)
    (of_decide_eq_true (by kernel_rfl)) (by unfold Func.isWrapper; first | (rw [if_pos (by decide +kernel)]; kernel_rfl) | (rw [if_neg (by decide +kernel)]; exact ⟨rfl, rfl⟩))
    (fun os started H enc _ => lifted os started H enc)

/-- The statement. -/
theorem proved : Rows.FnBlockCardSaid :=
  Claim7.holds_tied_plain_at .later [] [.data, .data, .data, .sentinel, .sentinel] true Rows.fnBlockCard.stood.harness true
    over (fun _ h => by cases h) (by kernel_rfl) (fun _ h => by cases h) fnBlock_row_tie rfl ⟨rfl, rfl⟩ (by kernel_rfl) rfl
    (fun f fn hf hfn => by
      obtain rfl : f = 3 := Option.some.inj ((show Tryz.prog.funcNamed "loop.example/typedassembly/laws.FnBlock" = some 3 by kernel_rfl).symm.trans hf) |>.symm
      obtain rfl : fn = Tryz.f3 := (Option.some.inj (Tryz.func3.symm.trans hfn)).symm
      exact ⟨by kernel_rfl, fun j t ht => by
        rw [Tryz.params3] at ht
        have h3 : t = 22 := by
          rcases j with _ | j
          · simpa using ht.symm
          · simp at ht
        subst h3
        exact (show Tryz.prog.wantsStandIn 22 = false by kernel_rfl)⟩)
    (by kernel_rfl)
#print axioms proved
end Go.Proofs.YtpamfjbgnpmmoaaGreatDoor.fnBlock
