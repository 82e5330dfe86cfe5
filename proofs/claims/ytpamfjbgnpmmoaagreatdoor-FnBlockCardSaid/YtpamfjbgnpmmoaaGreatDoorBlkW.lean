/- Drawing blocks: the walk. -/
import Derived.Test.YtpamfjbgnpmmoaaGreatDoorBlk
import Derived.Test.YtpamfjbgnpmmoaaGreatDoorDrawI
import Derived.Test.YtpamfjbgnpmmoaaGreatDoorInstrT
import Derived.Deep.RegionLaw
namespace Go.Proofs.YtpamfjbgnpmmoaaGreatDoor
open Go.RowKit

theorem BS.more {w0 V : World} {rb p K K' A B : Nat} {lab : ByteArray} {vr vc : Value} {lr lc : List ByteArray} (h : BS w0 rb p K A B lab V vr vc lr lc) (hk : K ≤ K') : BS w0 rb p K' A B lab V vr vc lr lc := ⟨h.st.more hk, h.low, h.res, h.box, h.rr, h.rc, h.nr, h.nc, h.dif, h.sr, h.sc⟩
theorem BS.instr {w0 V : World} {rb p K A B : Nat} {lab : ByteArray} {vr vc : Value} {lr lc : List ByteArray} (h : BS w0 rb p K A B lab V vr vc lr lc) (hp : p + K ≤ 100000) :
    Calls Tryz.prog 23 #[.pointer (some ⟨rb, 0, none⟩)] V fun e w' => ∃ s, e = .returned (.string s) ∧ s.size ≤ 200 ∧ Hid (BS w0 rb p (K + 5) A B lab w' vr vc lr lc) := by
  refine (l92Instr_any h.st.rebase (by omega)).mono ?_
  rintro e w' ⟨s, rfl, hs, H⟩
  have hj := h.st.join H.out
  exact ⟨s, rfl, hs, h.call H.out.grow (by simpa using hj)⟩
theorem BS.reg {w0 V : World} {rb p K A B : Nat} {lab : ByteArray} {vr vc : Value} {lr lc : List ByteArray} (h : BS w0 rb p K A B lab V vr vc lr lc) (hp : p + K ≤ 100000) :
    Calls Tryz.prog 24 #[.pointer (some ⟨rb, 0, none⟩)] V fun e w' => ∃ s, e = .returned (.string s) ∧ s.size ≤ 10 ∧ Hid (BS w0 rb p (K + 1) A B lab w' vr vc lr lc) := by
  refine (l92Reg_any h.st.rebase (by omega)).mono ?_
  rintro e w' ⟨s, rfl, hs, H⟩
  have hj := h.st.join H.out
  exact ⟨s, rfl, hs, h.call H.out.grow (by simpa using hj)⟩

theorem blk_end {w0 V : World} {rb p K A B : Nat} {lab : ByteArray} {vr vc : Value} {lr lc : List ByteArray} (h : BS w0 rb p K A B lab V vr vc lr lc) (v0 v1 v2 : Value) :
    St w0 rb p K (((V.setCell ⟨A, 0, none⟩ v0).setCell ⟨A, 1, none⟩ v1).setCell ⟨A, 2, none⟩ v2) ∧ SRow (((V.setCell ⟨A, 0, none⟩ v0).setCell ⟨A, 1, none⟩ v1).setCell ⟨A, 2, none⟩ v2) (A + 1) vr lr ∧ SRow (((V.setCell ⟨A, 0, none⟩ v0).setCell ⟨A, 1, none⟩ v1).setCell ⟨A, 2, none⟩ v2) (A + 1) vc lc := by
  obtain ⟨l1, l2, l3, l4⟩ := h.low
  have kp : ∀ k, k ≠ A → (((V.setCell ⟨A, 0, none⟩ v0).setCell ⟨A, 1, none⟩ v1).setCell ⟨A, 2, none⟩ v2).heap[k]? = V.heap[k]? := fun k hk => (Below.heap_setCell _ _ _ _ hk).trans ((Below.heap_setCell _ _ _ _ hk).trans (Below.heap_setCell _ _ _ _ hk))
  exact ⟨((h.st.set l2 l1 0 v0).set l2 l1 1 v1).set l2 l1 2 v2, sRow_at h.rr (fun k hk => kp k (by have := (h.rr.lt k hk).1; omega)), sRow_at h.rc (fun k hk => kp k (by have := (h.rc.lt k hk).1; omega))⟩

/-- What the drawing of a block hands back. -/
def BlkR (w0 : World) (rb p K base : Nat) (lab : ByteArray) (e : Ending) (w' : World) : Prop :=
  ∃ o n c o2 n2 c2 lr lc, e = .returned (.agg #[.string lab, .slice o n c, .slice o2 n2 c2]) ∧ Hid (St w0 rb p K w') ∧ Hid (SRow w' base (.slice o n c) lr) ∧ Hid (SRow w' base (.slice o2 n2 c2) lc) ∧ (∀ k, (Value.slice o n c).ownBlock = some k → (Value.slice o2 n2 c2).ownBlock ≠ some k) ∧ (∀ s ∈ lr, s.size ≤ 300) ∧ (∀ s ∈ lc, s.size ≤ 300) ∧ lr.length ≤ 3 ∧ lc.length ≤ 6 ∧ base ≤ w'.heap.size

set_option maxRecDepth 100000 in
set_option maxHeartbeats 6400000 in
theorem l92Block_any {w0 W : World} {rb p K n : Nat} {lab : ByteArray} (h : St w0 rb p K W) (hr : rb < w0.heap.size) (hp : p + K ≤ 1000) (hn : n ≤ 3) : Calls Tryz.prog 10 #[.pointer (some ⟨rb, 0, none⟩), .string lab, .int .i64 n] W (BlkR w0 rb p (K + 60) (W.heap.size + 1) lab) := by
  have hlt := h.lt
  have hge := h.grow.size
  generalize hW4 : ((((W.alloc (.cells #[.string ⟨#[]⟩, .slice none 0 0, .slice none 0 0] 25)).alloc (.cells #[] 9)).alloc (.cells #[] 9)).alloc (.cells #[.string lab, .slice (some ⟨W.heap.size + 1, 0, none⟩) 0 0, .slice (some ⟨W.heap.size + 1 + 1, 0, none⟩) 0 0] 25)) = W4
  have hlen : W4.heap.size = W.heap.size + 4 := by rw [← hW4]; simp
  have hst : St w0 rb p K W4 := by rw [← hW4]; exact (((h.alloc _).alloc _).alloc _).alloc _
  have hresA : W4.heap[W.heap.size]? = some (.cells #[.string ⟨#[]⟩, .slice none 0 0, .slice none 0 0] 25 (0, 0)) := by
    rw [← hW4, Below.heap_alloc _ _ _ (by simp; omega), Below.heap_alloc _ _ _ (by simp; omega), Below.heap_alloc _ _ _ (by simp)]; exact heap_alloc_new W _
  have hboxB : W4.heap[W.heap.size + 3]? = some (.cells #[.string lab, .slice (some ⟨W.heap.size + 1, 0, none⟩) 0 0, .slice (some ⟨W.heap.size + 1 + 1, 0, none⟩) 0 0] 25 (0, 0)) := by
    rw [← hW4]
    have := heap_alloc_new (((W.alloc (.cells #[.string ⟨#[]⟩, .slice none 0 0, .slice none 0 0] 25)).alloc (.cells #[] 9)).alloc (.cells #[] 9)) (.cells #[.string lab, .slice (some ⟨W.heap.size + 1, 0, none⟩) 0 0, .slice (some ⟨W.heap.size + 1 + 1, 0, none⟩) 0 0] 25)
    rwa [World.size_alloc, World.size_alloc, World.size_alloc] at this
  have hr1 : SRow W4 (W.heap.size + 1) (.slice (some ⟨W.heap.size + 1, 0, none⟩) 0 0) [] := by
    rw [← hW4]
    have h1 := SRow.empty (W.alloc (.cells #[.string ⟨#[]⟩, .slice none 0 0, .slice none 0 0] 25)) (base := W.heap.size + 1) (by simp)
    rw [World.size_alloc] at h1
    exact (h1.below ((Below.refl _ _).alloc (Nat.le_refl _) _)).below ((Below.refl _ _).alloc (Nat.le_refl _) _)
  have hr2 : SRow W4 (W.heap.size + 1) (.slice (some ⟨W.heap.size + 1 + 1, 0, none⟩) 0 0) [] := by
    rw [← hW4]
    have h1 := SRow.empty ((W.alloc (.cells #[.string ⟨#[]⟩, .slice none 0 0, .slice none 0 0] 25)).alloc (.cells #[] 9)) (base := W.heap.size + 1) (by simp)
    rw [World.size_alloc, World.size_alloc] at h1
    exact h1.below ((Below.refl _ _).alloc (Nat.le_refl _) _)
  have HB0 : Hid (BS w0 rb p (K + 0) W.heap.size (W.heap.size + 3) lab W4 (.slice (some ⟨W.heap.size + 1, 0, none⟩) 0 0) (.slice (some ⟨W.heap.size + 1 + 1, 0, none⟩) 0 0) [] []) :=
    ⟨hst, ⟨hge, hr, by omega, by omega⟩, hresA, hboxB, hr1, hr2, by simp [Value.ownBlock], by simp [Value.ownBlock], by intro k hk; simp [Value.ownBlock] at hk ⊢; omega, by simp, by simp⟩
  have hlenH := Lib.hid hlen
  clear hst hresA hboxB hr1 hr2 h hlen
  go_enter Tryz.func10, Tryz.ntmps10
  go_wp2_with fail
  (try rw [hW4])
  clear hW4
  go_loopw [8] (fun iv wr => ∃ (i : Nat) (o : Option Addr) (c : Nat) (lr : List ByteArray), i ≤ n ∧ iv = .int .i64 i ∧ Hid (lr.length = i) ∧ Hid (BS w0 rb p (K + i) W.heap.size (W.heap.size + 3) lab wr (.slice o i c) (.slice (some ⟨W.heap.size + 1 + 1, 0, none⟩) 0 0) lr [])) (fun iv _ => n - (intOf iv).toNat)
  case atStart => exact ⟨0, _, _, [], Nat.zero_le _, rfl, rfl, HB0⟩
  case round =>
    obtain ⟨i, o, c, lr, hi, rfl, HL, HB⟩ := hrel
    obtain ⟨c0, c1, c2⟩ := HB.out.cells
    have hBlt := HB.out.low.2.2.2
    by_cases hin : i < n
    · have hltv := HB.out.st.lt
      have hrow5 : TextRow (fun s => s.size ≤ 10) (wr.alloc (.cells #[.string ⟨#[105]⟩, .string ⟨#[105]⟩, .string ⟨#[40, 116, 41]⟩, .string ⟨#[40, 116, 32, 105, 32, 105, 41]⟩, .string ⟨#[40, 101, 32, 118, 41]⟩] 9)) wr.heap.size 5 := by
        refine textRow_new wr _ _ ?_
        (repeat (first | exact trivial | (refine ⟨⟨_, rfl, ?_⟩, ?_⟩; · first | assumption | decide | (simp only [ByteArray.size]; decide))))
      have HOF : Hid (∀ V, Hid (BS w0 rb p (K + i) W.heap.size (W.heap.size + 3) lab V (.slice o i c) (.slice (some ⟨W.heap.size + 1 + 1, 0, none⟩) 0 0) lr []) → TextRow (fun s => s.size ≤ 10) V wr.heap.size 5 → Calls Tryz.prog 11 #[.pointer (some ⟨rb, 0, none⟩), .slice (some ⟨wr.heap.size, 0, none⟩) 5 5] V fun e w' => ∃ s, e = .returned (.string s) ∧ s.size ≤ 10 ∧ Hid (BS w0 rb p (K + i + 1) W.heap.size (W.heap.size + 3) lab w' (.slice o i c) (.slice (some ⟨W.heap.size + 1 + 1, 0, none⟩) 0 0) lr [])) :=
        fun V hb hrow => BS.of hb.out (by omega) (by omega) (by omega) (by omega) hrow
      have HB5 : Hid (BS w0 rb p (K + i) W.heap.size (W.heap.size + 3) lab (wr.alloc (.cells #[.string ⟨#[105]⟩, .string ⟨#[105]⟩, .string ⟨#[40, 116, 41]⟩, .string ⟨#[40, 116, 32, 105, 32, 105, 41]⟩, .string ⟨#[40, 101, 32, 118, 41]⟩] 9)) (.slice o i c) (.slice (some ⟨W.heap.size + 1 + 1, 0, none⟩) 0 0) lr []) := HB.out.alloc _
      have HRW := Lib.hid hrow5
      have HN : Hid (lr.length + 1 = i + 1) := by have := HL.out; show _ = _; omega
      clear hrow5
      go_wp2_with fail
      go_region_law (first
        | (refine step_append_at (by rfl) (.tmp 22) (.tmp 26) (by rfl) (W.heap.size + 1) (.slice o i c) (by rfl) lr (some ⟨w2.heap.size, 0, none⟩) 1 1 (by rfl) [x] (i + 1) HN.out ?_ ?_ (by omega) ?_ ?_; (first | exact H2A.out.rr | exact H2A.out.drew.rr); (first | exact strsOneAt (heap_alloc_new _ _)); (first | exact hsz2 | (simp; omega)); intro o3 c3 w3 hv3 hg3 ho3; have hb3 := (hg3.block (W.heap.size + 3) H2A.out.low.2.2.2 (fun e => H2A.out.nr e.symm)).trans H2A.out.box; obtain ⟨k0, k1, k2⟩ := cells3 hb3; have kf := Lib.frozen_of_heap hb3 1; have HP3 := Lib.hid (H2A.out.pushR hg3 hv3 ho3 (Nat.le_trans hx (by omega))); clear hb3 hv3 hg3 ho3)
        | (go_simp; go_wp2_with (go_at_call 11; refine (HOF.out _ ?_ ?_).mono ?_; (first | exact HB5 | exact Lib.hid HB5.out.drew); (first | exact HRW.out); rintro e w2 ⟨x, rfl, hx, H2⟩; obtain ⟨d0, d1, d2⟩ := H2.out.cells; have hBlt2 := H2.out.low.2.2.2; have H2A := Lib.hid (H2.out.alloc (.cells #[.string x] 9)); have hsz2 := Nat.le_trans (Nat.succ_le_of_lt H2A.out.low.2.2.1) (Nat.le_of_lt H2A.out.low.2.2.2))))
      all_goals
        go_wp2
        go_roundw
        case rel => exact ⟨i + 1, o3, c3, lr ++ [x], by omega, by go_num, by show _ = _; simp [HL.out], HP3⟩
        case measure => simp [intOf]; omega
    · obtain rfl : i = n := by omega
      have hP := BS.pick (n := 5) HB.out (by omega) (by omega) (by omega)
      go_wp2_with fail
      refine hP.mono ?_
      rintro e w2 ⟨z, rfl, hz0, hz1, H2⟩
      obtain ⟨m, rfl⟩ := Int.eq_ofNat_of_zero_le hz0
      have hm : m ≤ 4 := by omega
      have HLR : Hid (lr.length ≤ 3) := by have := HL.out; show _ ≤ _; omega
      clear hP hz0 hz1 hin c0 c1 c2 HL HB hBlt
      go_wp2_with fail
      go_loopw [10] (fun jv wr2 => ∃ (j N : Nat) (o2 : Option Addr) (c2 : Nat) (lc : List ByteArray), j ≤ m ∧ jv = .int .i64 j ∧ Hid (lc.length = N) ∧ N ≤ j ∧ Hid (BS w0 rb p (K + i + 1 + 5 * j) W.heap.size (W.heap.size + 3) lab wr2 (.slice o i c) (.slice o2 N c2) lr lc)) (fun jv _ => m - (intOf jv).toNat)
      case atStart => exact ⟨0, 0, _, _, [], Nat.zero_le _, rfl, rfl, Nat.le_refl _, H2⟩
      case round =>
        obtain ⟨j, N, o2, c2, lc, hj, rfl, HLC, hN, HB⟩ := hrel
        obtain ⟨c0, c1, c2'⟩ := HB.out.cells
        have hBlt := HB.out.low.2.2.2
        by_cases hjn : j < m
        · have hI := HB.out.instr (by omega)
          go_wp2_with fail
          refine hI.mono ?_
          rintro e w3 ⟨s, rfl, hs, H3⟩
          clear hI
          have hV := fun V => sInstrValid_any s V (by omega)
          have hL := fun V => sInstrLast_any s V (by omega)
          generalize instrOf s.data.toList = iv at *
          generalize lastOf s.data.toList = lv at *
          go_wp2_with fail
          refine (hV _).mono ?_
          rintro e w4 ⟨rfl, hb4⟩
          have H4 := Lib.hid (H3.out.below hb4)
          clear hb4
          cases iv
          · have HX := H4
            go_wp2
            go_roundw
            case rel => exact ⟨j + 1, N, o2, c2, lc, by omega, by go_num, HLC, by omega, Lib.hid (BS.more HX.out (by omega))⟩
            case measure => simp [intOf]; omega
          · go_wp2_with fail
            refine (hL _).mono ?_
            rintro e w5 ⟨rfl, hb5⟩
            have H5 := Lib.hid (H4.out.below hb5)
            clear hb5
            cases lv
            · obtain ⟨d0, d1, d2⟩ := H5.out.cells
              have hBlt5 := H5.out.low.2.2.2
              have H5A := Lib.hid (H5.out.alloc (.cells #[.string s] 9))
              have hsz5 := Nat.le_trans (Nat.succ_le_of_lt H5A.out.low.2.2.1) (Nat.le_of_lt H5A.out.low.2.2.2)
              have HN1 : Hid (lc.length + 1 = N + 1) := by have := HLC.out; show _ = _; omega
              go_wp2_with (at_builtin; refine wpList_append_at rfl (.tmp 46) (.tmp 48) rfl (W.heap.size + 1) (.slice o2 N c2) rfl lc (some ⟨w5.heap.size, 0, none⟩) 1 1 rfl [s] (N + 1) HN1.out ?_ ?_ (by omega) ?_ ?_; (first | exact H5A.out.rc | exact H5A.out.drew.rc); (first | exact strsOneAt (heap_alloc_new _ _)); (first | exact hsz5 | (simp; omega)); intro o6 c6 w6 hv6 hg6 ho6; have hb6 := (hg6.block (W.heap.size + 3) H5A.out.low.2.2.2 (fun e => H5A.out.nc e.symm)).trans H5A.out.box; obtain ⟨k0, k1, k2⟩ := cells3 hb6; have kf := Lib.frozen_of_heap hb6 2; have HX := Lib.hid (H5A.out.pushC hg6 hv6 ho6 (Nat.le_trans hs (by omega))); clear hb6 hv6 hg6 ho6)
              go_wp2
              go_roundw
              case rel => exact ⟨j + 1, N + 1, o6, c6, lc ++ [s], by omega, by go_num, by show _ = _; simp [HLC.out], by omega, Lib.hid (BS.more HX.out (by omega))⟩
              case measure => simp [intOf]; omega
            · have HX := H5
              go_wp2
              go_roundw
              case rel => exact ⟨j + 1, N, o2, c2, lc, by omega, by go_num, HLC, by omega, Lib.hid (BS.more HX.out (by omega))⟩
              case measure => simp [intOf]; omega
        · have HLC5 : Hid (lc.length + 1 ≤ 6) := by have := HLC.out; show _ ≤ _; omega
          have HN1 : Hid (lc.length + 1 = N + 1) := by have := HLC.out; show _ = _; omega
          have HRG : Hid (∀ V, Hid (BS w0 rb p (K + i + 1 + 5 * j) W.heap.size (W.heap.size + 3) lab V (.slice o i c) (.slice o2 N c2) lr lc) → Calls Tryz.prog 24 #[.pointer (some ⟨rb, 0, none⟩)] V fun e w' => ∃ s, e = .returned (.string s) ∧ s.size ≤ 10 ∧ Hid (BS w0 rb p (K + i + 1 + 5 * j + 1) W.heap.size (W.heap.size + 3) lab w' (.slice o i c) (.slice o2 N c2) lr lc)) := fun V hb => hb.out.reg (by omega)
          have HOF : Hid (∀ V b, b ≠ rb → Hid (BS w0 rb p (K + i + 1 + 5 * j + 1) W.heap.size (W.heap.size + 3) lab V (.slice o i c) (.slice o2 N c2) lr lc) → TextRow (fun s => s.size ≤ 40) V b 3 → Calls Tryz.prog 11 #[.pointer (some ⟨rb, 0, none⟩), .slice (some ⟨b, 0, none⟩) 3 3] V fun e w' => ∃ s, e = .returned (.string s) ∧ s.size ≤ 40 ∧ Hid (BS w0 rb p (K + i + 1 + 5 * j + 1 + 1) W.heap.size (W.heap.size + 3) lab w' (.slice o i c) (.slice o2 N c2) lr lc)) :=
            fun V b hb hbs hrow => BS.of hbs.out (by omega) (by omega) (by omega) hb hrow
          have HBD : Hid (BS w0 rb p (K + i + 1 + 5 * j) W.heap.size (W.heap.size + 3) lab wr.drew (.slice o i c) (.slice o2 N c2) lr lc) := HB.out.drew
          have HT3 : Hid (∀ (V : World) (y : ByteArray), y.size ≤ 10 → TextRow (fun s => s.size ≤ 40) (V.alloc (.cells #[.string (⟨#[40, 104, 97, 108, 116, 32]⟩ ++ y ++ ⟨#[41]⟩), .string ⟨#[40, 104, 97, 108, 116, 32, 48, 41]⟩, .string ⟨#[40, 106, 117, 109, 112, 32, 49, 41]⟩] 9)) V.heap.size 3) := fun V y hy => by
            refine textRow_new V _ _ ?_
            (repeat (first | exact trivial | (refine ⟨⟨_, rfl, ?_⟩, ?_⟩; · first | assumption | decide | (simp only [ByteArray.size]; decide) | (simp only [ByteArray.size_append, size_lit, List.size_toArray, List.length_cons, List.length_nil]; omega))))
          go_wp2_with fail
          go_region_law (first
            | (refine step_append_at (by rfl) (.tmp 52) (.tmp 60) (by rfl) (W.heap.size + 1) (.slice o2 N c2) (by rfl) lc (some ⟨w4.heap.size, 0, none⟩) 1 1 (by rfl) [x] (N + 1) HN1.out ?_ ?_ (by omega) ?_ ?_; (first | exact H4A.out.rc | exact H4A.out.drew.rc); (first | exact strsOneAt (heap_alloc_new _ _)); (first | exact hsz4 | (simp; omega)); intro o6 c6 w6 hv6 hg6 ho6; have hb6 := (hg6.block (W.heap.size + 3) H4A.out.low.2.2.2 (fun e => H4A.out.nc e.symm)).trans H4A.out.box; obtain ⟨k0, k1, k2⟩ := cells3 hb6; have kf := Lib.frozen_of_heap hb6 2; have HP6 := Lib.hid (H4A.out.pushC hg6 hv6 ho6 (Nat.le_trans hx (by omega))); clear hb6 hv6 hg6 ho6)
            | (go_simp; go_wp2_with (first | (go_at_call 24; refine (HRG.out _ ?_).mono ?_; (first | exact HB | exact HBD); rintro e w3 ⟨y, rfl, hy, H3⟩; obtain ⟨d0, d1, d2⟩ := H3.out.cells; have hBlt3 := H3.out.low.2.2.2; have gy1 : ¬ 9223372036854775807 < 6 + y.size := (by omega); have gy2 : ¬ 9223372036854775807 < 6 + y.size + 1 := (by omega); have H3A := Lib.hid (H3.out.alloc (.cells #[.string (⟨#[40, 104, 97, 108, 116, 32]⟩ ++ y ++ ⟨#[41]⟩), .string ⟨#[40, 104, 97, 108, 116, 32, 48, 41]⟩, .string ⟨#[40, 106, 117, 109, 112, 32, 49, 41]⟩] 9)); have hlt3 := H3.out.st.lt; have HR3 := Lib.hid (HT3.out w3 y hy)) | (go_at_call 11; refine (HOF.out _ _ ?_ ?_ ?_).mono ?_; (exact Nat.ne_of_gt hlt3); (first | exact H3A | exact Lib.hid H3A.out.drew); (first | exact HR3.out); rintro e w4 ⟨x, rfl, hx, H4⟩; obtain ⟨d0, d1, d2⟩ := H4.out.cells; have hBlt4 := H4.out.low.2.2.2; have H4A := Lib.hid (H4.out.alloc (.cells #[.string x] 9)); have hsz4 := Nat.le_trans (Nat.succ_le_of_lt H4A.out.low.2.2.1) (Nat.le_of_lt H4A.out.low.2.2.2)))))
          all_goals
            generalize hWF : w6.setCell ⟨W.heap.size + 1 + 1 + 1, 2, none⟩ (.slice o6 (N + 1) c6) = WF
            have HF : Hid (BS w0 rb p (K + i + 1 + 5 * j + 1 + 1) W.heap.size (W.heap.size + 3) lab WF (.slice o i c) (.slice o6 (N + 1) c6) lr (lc ++ [x])) := by rw [← hWF]; exact HP6
            clear hWF HP6 k0 k1 k2 kf d0 d1 d2 H3A H4A H3 H4 HB HBD
            obtain ⟨f0, f1, f2⟩ := HF.out.cells
            obtain ⟨r0, r1, r2⟩ := cells3 HF.out.res
            have s0 := Lib.frozen_of_heap HF.out.res 0
            have s1 := Lib.frozen_of_heap HF.out.res 1
            have s2 := Lib.frozen_of_heap HF.out.res 2
            have hBF := HF.out.low.2.2.2
            go_wp2
            obtain ⟨e1, e2, e3⟩ := blk_end HF.out (.string lab) (.slice o i c) (.slice o6 (N + 1) c6)
            exact bodyPost_ret (v := .agg #[.string lab, .slice o i c, .slice o6 (N + 1) c6]) (by simp [results, Tryz.results10, go_sem, r0, r1, r2]) rfl
              ⟨o, i, c, o6, N + 1, c6, lr, lc ++ [x], rfl, Lib.hid (e1.more (by omega)), Lib.hid e2, Lib.hid e3, HF.out.dif, HF.out.sr, HF.out.sc, HLR.out, by have := HLC5.out; simp; omega, by have := HF.out.low; simp [World.setCell]; omega⟩
end Go.Proofs.YtpamfjbgnpmmoaaGreatDoor
