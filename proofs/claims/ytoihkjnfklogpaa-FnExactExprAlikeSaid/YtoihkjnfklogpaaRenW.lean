/- Plain names: of the reference. -/
import Derived.Test.YtoihkjnfklogpaaAlikeW
import Derived.Test.YtoihkjnfklogpaaAlikeS
import Derived.Test.YtoihkjnfklogpaaDec
import Derived.Test.YtoihkjnfklogpaaRow2
import Derived.Test.YtoihkjnfklogpaaDraw
namespace Go.Proofs.Ytoihkjnfklogpaa
open Go.RowKit

set_option maxRecDepth 100000 in
set_option maxHeartbeats 800000 in
theorem l2Look_any (fr to : List ByteArray) (s : ByteArray) (o o2 : Option Addr) (n c n2 c2 : Nat) (w : World) (h : Strs w o n fr) (h2 : Strs w o2 n2 to) (hl : fr.length = to.length) (hn : n ≤ 1000000000) :
    Calls Try.prog 106 #[.slice o n c, .slice o2 n2 c2, .string s] w fun e w' => e = .returned (.string (look fr to s)) ∧ w = w' := by
  have H := Lib.hid h
  have H2 := Lib.hid h2
  have HL := Lib.hid h.1
  have HL2 : Hid (n2 = n) := by show _ = _; rw [h2.1, h.1, hl]
  have hn2 : (n2 : Int) = (n : Int) := by rw [HL2.out]
  clear h h2
  go_enter Try.func106, Try.ntmps106
  go_wp2
  go_loop [7] (fun i => ∃ k : Nat, k ≤ n ∧ i = .int .i64 ((k : Int) - 1) ∧ Hid (∀ j : Nat, k ≤ j → fr[j]? ≠ some s)) (fun i => (intOf i + 1).toNat)
  case atStart => exact ⟨n, Nat.le_refl _, by go_num, fun j hj => by rw [List.getElem?_eq_none (by rw [← HL.out]; exact hj)]; simp⟩
  case round =>
    obtain ⟨k, hk, rfl, HN⟩ := hrel
    by_cases hz : k = 0
    · subst hz
      have HF : Hid (look fr to s = s) := by
        show _ = _
        unfold look
        rw [if_neg (by rw [isLast_no HN.out]; decide)]
      go_wp2
      go_ret
      exact ⟨congrArg (fun x => Ending.returned (.string x)) HF.out.symm, rfl⟩
    · obtain ⟨m, rfl⟩ : ∃ m, k = m + 1 := ⟨k - 1, by omega⟩
      obtain ⟨b, off, x, rfl, hx, hc⟩ := H.out.at (show m < n by omega)
      obtain ⟨b2, off2, y, rfl, hy, hc2⟩ := H2.out.at (show m < n2 by have := HL2.out; omega)
      have HX := Lib.hid hx
      have HY := Lib.hid hy
      have hm0 : (0 : Int) ≤ (m : Int) := by omega
      have hm1 : (m : Int) < (n : Int) := by omega
      have hm3 : (m : Int) < (n2 : Int) := by omega
      have hm2 : ((m + 1 : Nat) : Int) - 1 = (m : Int) := by omega
      rw [hm2]
      clear hx hy hm2 hn2
      by_cases hs : x.toList = s.toList
      · have hb : (x.toList == s.toList) = true := by simpa using hs
        have hxs : x = s := by
          have h2 : (x.toList == s.toList) = true := by simpa using hs
          simpa [toList_inj] using h2
        have HF : Hid (look fr to s = y) := by
          show _ = _
          unfold look
          have e := isLast_at (k := m) (by rw [HX.out, hxs]) HN.out
          rw [if_pos (by rw [e]; omega), e]
          have hY := HY.out
          show to.getD m s = y
          rw [List.getD_eq_getElem?_getD, hY]; rfl
        clear hs hxs
        go_wp2
        go_ret
        exact ⟨congrArg (fun x => Ending.returned (.string x)) HF.out.symm, rfl⟩
      · have hb : (x.toList == s.toList) = false := by simpa using hs
        have HN2 : Hid (∀ j : Nat, m ≤ j → fr[j]? ≠ some s) := fun j hj => by
          by_cases e : j = m
          · subst e
            rw [HX.out]
            intro e
            apply hs
            rw [Option.some.inj e]
          · exact HN.out j (by omega)
        clear hs
        go_wp2
        go_round
        case rel => exact ⟨m, by omega, by go_num, HN2⟩
        case measure => simp [intOf]

/-- The renamer of a walk: its block, its names (where they lie), the next number. -/
def Rn (w : World) (rb : Nat) (a : Option Addr) (len cap : Nat) (F : List ByteArray) (n : Nat) : Prop :=
  w.heap[rb]? = some (.cells #[.slice a len cap, .int .i64 n] 104 (0, 0)) ∧ Strs w a len F ∧ ∀ x, a = some x → x.block ≠ rb ∧ x.block < w.heap.size

theorem Rn.lt {w : World} {rb n len cap : Nat} {a : Option Addr} {F : List ByteArray} (h : Rn w rb a len cap F n) : rb < w.heap.size := (Array.getElem?_eq_some_iff.1 h.1).1
theorem Rn.below {w w' : World} {rb n len cap : Nat} {a : Option Addr} {F : List ByteArray} (h : Rn w rb a len cap F n) (hk : Below w.heap.size w w') : Rn w' rb a len cap F n :=
  ⟨(hk.block rb h.lt).trans h.1, h.2.1.keep hk, fun x hx => ⟨(h.2.2 x hx).1, Nat.lt_of_lt_of_le (h.2.2 x hx).2 hk.size⟩⟩
theorem Rn.bump {w : World} {rb n m len cap : Nat} {a : Option Addr} {F : List ByteArray} (h : Rn w rb a len cap F n) : Rn (w.setCell ⟨rb, 1, none⟩ (.int .i64 (m : Int))) rb a len cap F m ∧ w.grownBy (w.setCell ⟨rb, 1, none⟩ (.int .i64 (m : Int))) (some rb) := by
  obtain ⟨h1, h2, h3⟩ := h
  have hg : w.grownBy (w.setCell ⟨rb, 1, none⟩ (.int .i64 (m : Int))) (some rb) := ⟨rfl, rfl, rfl, by simp [World.setCell], fun k _ hk => Below.heap_setCell _ _ _ _ (fun e => hk (by rw [e]))⟩
  refine ⟨⟨by simp [World.setCell, Array.getElem?_modify, h1], h2.grown hg (fun x hx e => (h3 x hx).1 (by simpa using e)), fun x hx => ⟨(h3 x hx).1, by have := (h3 x hx).2; simpa [World.setCell] using this⟩⟩, hg⟩

theorem xn_cat (k : Nat) : (⟨#[120]⟩ : ByteArray) ++ bts (decL k) = xn k := by
  have h : ∀ x y : ByteArray, x.data.toList = y.data.toList → x = y := fun x y e => by cases x; cases y; simp at e; exact congrArg ByteArray.mk e
  apply h
  rw [ByteArray.data_append]
  simp [xn, bts]
theorem hasS_memB {l : List ByteArray} {s : ByteArray} : hasS l s = memB l s := by rw [Bool.eq_iff_iff, hasS_iff, memB_iff]

/-- The number that the renamer holds. -/
def nextOf (w : World) (rb : Nat) : Nat := match w.cell? ⟨rb, 1, none⟩ with | some (.int _ z) => z.toNat | _ => 0

set_option maxRecDepth 100000 in
set_option maxHeartbeats 1600000 in
theorem l2Fresh_any (w : World) (rb n len cap : Nat) (a : Option Addr) (F : List ByteArray) (h : Rn w rb a len cap F n) (hn : freshK F n ≤ 100000) (hF : F.length ≤ 1000000) :
    Calls Try.prog 107 #[.pointer (some ⟨rb, 0, none⟩)] w fun e w' => e = .returned (.string (xn (freshK F n))) ∧ Rn w' rb a len cap F (freshK F n + 1) ∧ w.grownBy w' (some rb) := by
  have H := Lib.hid h
  clear h
  go_enter Try.func107, Try.ntmps107
  go_wp2
  go_loopw [3] (fun _ wr => ∃ k : Nat, Hid (freshK F k = freshK F n) ∧ Hid (Rn wr rb a len cap F k) ∧ w.grownBy wr (some rb)) (fun _ wr => pot F (nextOf wr rb))
  case atStart => exact ⟨n, rfl, H, grownBy_refl _ _⟩
  case round =>
    obtain ⟨k, HK, HR, hg⟩ := hrel
    have hkb : k ≤ 100000 := by have h1 := freshK_ge F k; have h2 := HK.out; omega
    obtain ⟨hblk, hst, hne⟩ := HR.out
    have c0 : wr.cell? ⟨rb, 0, none⟩ = some (.slice a len cap) := by simp [World.cell?, hblk]
    have c1 : wr.cell? ⟨rb, 1, none⟩ = some (.int .i64 k) := by simp [World.cell?, hblk]
    have HNX : Hid (nextOf wr rb = k) := by show _ = _; unfold nextOf; rw [c1]; simp
    have HD := Lib.hid (l6Dec_any k wr (by omega))
    have HX := Lib.hid (xn_cat k)
    have hsx : ¬ 9223372036854775807 < 1 + (bts (decL k)).size := by have := decL_len k; rw [Lib.size_eq]; show ¬ _ < 1 + (decL k).length; omega
    have hlen : len ≤ 1000000000 := by have := hst.1; omega
    have HHS : Hid (∀ W, Strs W a len F → Calls Try.prog 74 #[.slice a len cap, .string (xn k)] W fun e w' => e = .returned (.bool (memB F (xn k))) ∧ W = w') := fun W h => by
      rw [← hasS_memB]; exact l1Has_any F (xn k) a len cap W h (by have := h.1; omega)
    have HBK := Lib.hid hblk
    have HST := Lib.hid hst
    have HNE := Lib.hid hne
    have HIN : Hid (memB F (xn k) = true → freshK F (k + 1) = freshK F n ∧ pot F (k + 1) < pot F k) := fun e => ⟨by rw [← HK.out, freshK_in (memB_iff.1 e)], pot_lt (memB_iff.1 e)⟩
    have HOUT : Hid (memB F (xn k) = false → freshK F n = k) := fun e => by
      rw [← HK.out]
      exact freshK_out (fun h => by rw [memB_iff.2 h] at e; cases e)
    have HXK : Hid (memB F (xn k) = false → xn (freshK F n) = xn k) := fun e => by rw [HOUT.out e]
    clear hblk hst hne hn hF
    generalize memB F (xn k) = mb at *
    generalize xn k = X at *
    generalize bts (decL k) = Q at *
    go_wp2_with fail
    refine HD.out.mono ?_
    rintro e w1 ⟨rfl, hb1⟩
    have hblk1 := (hb1.block rb (HR.out.lt)).trans HBK.out
    have d0 : w1.cell? ⟨rb, 0, none⟩ = some (.slice a len cap) := by simp [World.cell?, hblk1]
    have d1 : w1.cell? ⟨rb, 1, none⟩ = some (.int .i64 k) := by simp [World.cell?, hblk1]
    have fz : w1.frozen? ⟨rb, 1, none⟩ = false := by simp [World.frozen?, hblk1]
    have HR1 : Hid (Rn w1 rb a len cap F k) := HR.out.below hb1
    have hbp := HR1.out.bump (m := k + 1)
    have hi : (((k + 1 : Nat) : Int)) = (k : Int) + 1 := by omega
    rw [hi] at hbp
    have HBP := Lib.hid hbp.1
    have hg2 : w.grownBy (w1.setCell ⟨rb, 1, none⟩ (.int .i64 ((k : Int) + 1))) (some rb) := grownBy_trans (grownBy_trans hg (grownBy_below hb1)) hbp.2
    have hs2 : Strs (w1.setCell ⟨rb, 1, none⟩ (.int .i64 ((k : Int) + 1))) a len F := (HST.out.keep hb1).grown hbp.2 (fun x hx e => (HNE.out x hx).1 (by simpa using e))
    have HH2 := Lib.hid (HHS.out _ hs2)
    rw [← HX.out] at HH2
    have c0' : (w1.setCell ⟨rb, 1, none⟩ (.int .i64 ((k : Int) + 1))).cell? ⟨rb, 0, none⟩ = some (.slice a len cap) := by
      simp [World.cell?, World.setCell, Array.getElem?_modify, hblk1]
    have c1' : (w1.setCell ⟨rb, 1, none⟩ (.int .i64 ((k : Int) + 1))).cell? ⟨rb, 1, none⟩ = some (.int .i64 ((k : Int) + 1)) := by
      simp [World.cell?, World.setCell, Array.getElem?_modify, hblk1]
    clear hblk1 hbp hs2 hi
    cases mb
    · have hf := HOUT.out rfl
      have hx := HXK.out rfl
      rw [hf] at hx
      go_wp2_with fail
      refine HH2.out.mono ?_
      rintro e w3 ⟨rfl, rfl⟩
      go_wp2
      go_ret
      exact ⟨by rw [hf, hx, ← HX.out]; rfl, by rw [hf]; exact HBP.out, hg2⟩
    · have HF := Lib.hid (HIN.out rfl)
      go_wp2_with fail
      refine HH2.out.mono ?_
      rintro e w3 ⟨rfl, rfl⟩
      have HNX2 : Hid (nextOf (w1.setCell ⟨rb, 1, none⟩ (.int .i64 ((k : Int) + 1))) rb = k + 1) := by
        show _ = _
        unfold nextOf
        rw [c1']
        show ((k : Int) + 1).toNat = k + 1
        omega
      go_wp2
      go_roundw
      case rel => exact ⟨k + 1, HF.out.1, HBP, hg2⟩
      case measure => rw [HNX.out, HNX2.out]; exact HF.out.2
end Go.Proofs.Ytoihkjnfklogpaa
