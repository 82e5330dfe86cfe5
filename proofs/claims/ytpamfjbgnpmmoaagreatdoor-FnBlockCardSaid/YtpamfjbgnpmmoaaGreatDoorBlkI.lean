/- Blocks: the program's reader. -/
import Derived.Test.YtpamfjbgnpmmoaaGreatDoorBlkS
import Derived.Test.YtpamfjbgnpmmoaaGreatDoorTarget
namespace Go.Proofs.YtpamfjbgnpmmoaaGreatDoor
open Go.RowKit

/-- The world within a reading of a block. -/
structure RB (w : World) (B : Nat) (L : ByteArray) (ur uc : Value) (V : World) (v1 v2 : Value) : Prop where
  bel : Below w.heap.size w V
  box : V.heap[w.heap.size]? = some (.cells #[.string L, ur, uc] 25 (0, 0))
  zer : V.heap[w.heap.size + 1]? = some (.cells #[.string ⟨#[]⟩, .slice none 0 0, .slice none 0 0] 39 (0, 0))
  pos : B = w.heap.size + 2
  blk : V.heap[B]? = some (.cells #[.string L, v1, v2] 39 (0, 0))

theorem RB.lt {w V : World} {B : Nat} {L : ByteArray} {ur uc v1 v2 : Value} (h : RB w B L ur uc V v1 v2) : B = w.heap.size + 2 ∧ B < V.heap.size := ⟨h.pos, (Array.getElem?_eq_some_iff.1 h.blk).1⟩
theorem RB.below {w V V' : World} {B : Nat} {L : ByteArray} {ur uc v1 v2 : Value} (h : RB w B L ur uc V v1 v2) (hb : Below (B + 1) V V') : RB w B L ur uc V' v1 v2 :=
  ⟨h.bel.trans (hb.mono (by have := h.pos; omega)), (hb.block _ (by have := h.pos; omega)).trans h.box, (hb.block _ (by have := h.pos; omega)).trans h.zer, h.pos, (hb.block _ (by omega)).trans h.blk⟩
theorem RB.put1 {w V : World} {B : Nat} {L : ByteArray} {ur uc v1 v2 : Value} (h : RB w B L ur uc V v1 v2) (v : Value) : RB w B L ur uc (V.setCell ⟨B, 1, none⟩ v) v v2 :=
  ⟨h.bel.setCell (by show w.heap.size ≤ B; have := h.pos; omega) _, (Below.heap_setCell _ _ _ _ (by have := h.pos; simp; omega)).trans h.box, (Below.heap_setCell _ _ _ _ (by have := h.pos; simp; omega)).trans h.zer, h.pos, by simp [World.setCell, Array.getElem?_modify, h.blk]⟩
theorem RB.put2 {w V : World} {B : Nat} {L : ByteArray} {ur uc v1 v2 : Value} (h : RB w B L ur uc V v1 v2) (v : Value) : RB w B L ur uc (V.setCell ⟨B, 2, none⟩ v) v1 v :=
  ⟨h.bel.setCell (by show w.heap.size ≤ B; have := h.pos; omega) _, (Below.heap_setCell _ _ _ _ (by have := h.pos; simp; omega)).trans h.box, (Below.heap_setCell _ _ _ _ (by have := h.pos; simp; omega)).trans h.zer, h.pos, by simp [World.setCell, Array.getElem?_modify, h.blk]⟩
theorem set3 {W : World} {g : Nat} {ty : TypeId} {x y z : Value} (h : W.heap[g]? = some (.cells #[x, y, z] ty (0, 0))) (a b c : Value) : (((W.setCell ⟨g, 0, none⟩ a).setCell ⟨g, 1, none⟩ b).setCell ⟨g, 2, none⟩ c).heap[g]? = some (.cells #[a, b, c] ty (0, 0)) := by
  simp [World.setCell, Array.getElem?_modify, h]
theorem RB.fin {w V : World} {B : Nat} {L : ByteArray} {ur uc v1 v2 : Value} (h : RB w B L ur uc V v1 v2) (a b c : Value) (X : Obj) :
    (((((V.setCell ⟨w.heap.size + 1, 0, none⟩ a).setCell ⟨w.heap.size + 1, 1, none⟩ b).setCell ⟨w.heap.size + 1, 2, none⟩ c).alloc X).cell? ⟨w.heap.size + 1, 0, none⟩ = some a ∧ ((((V.setCell ⟨w.heap.size + 1, 0, none⟩ a).setCell ⟨w.heap.size + 1, 1, none⟩ b).setCell ⟨w.heap.size + 1, 2, none⟩ c).alloc X).cell? ⟨w.heap.size + 1, 1, none⟩ = some b ∧ ((((V.setCell ⟨w.heap.size + 1, 0, none⟩ a).setCell ⟨w.heap.size + 1, 1, none⟩ b).setCell ⟨w.heap.size + 1, 2, none⟩ c).alloc X).cell? ⟨w.heap.size + 1, 2, none⟩ = some c) ∧
    Below w.heap.size w (((V.setCell ⟨w.heap.size + 1, 0, none⟩ a).setCell ⟨w.heap.size + 1, 1, none⟩ b).setCell ⟨w.heap.size + 1, 2, none⟩ c) := by
  have hl := h.lt
  refine ⟨cells3 ((Lib.alloc_old _ X (w.heap.size + 1) (by simp [World.setCell]; omega)).trans (set3 h.zer a b c)), ?_⟩
  exact ((h.bel.setCell (p := ⟨w.heap.size + 1, 0, none⟩) (by simp) a).setCell (p := ⟨w.heap.size + 1, 1, none⟩) (by simp) b).setCell (p := ⟨w.heap.size + 1, 2, none⟩) (by simp) c

/-- What a reading of a block hands back. -/
def ReadB (B : Bool) (L : ByteArray) (n : Nat) (w : World) (e : Ending) (w' : World) : Prop :=
  ∃ a o3 n3 c3 v4, e = .returned (.tuple #[.agg #[.string a, .slice o3 n3 c3, v4], .bool B]) ∧ (∃ o4 n4 c4, v4 = .slice o4 n4 c4) ∧ (B = true → a = L ∧ n3 = n) ∧ Below w.heap.size w w'

theorem ReadB.no {L : ByteArray} {n : Nat} {w w' : World} (h : Below w.heap.size w w') : ReadB false L n w (.returned (.tuple #[.agg #[.string ⟨#[]⟩, .slice none 0 0, .slice none 0 0], .bool false])) w' :=
  ⟨_, _, _, _, _, rfl, ⟨_, _, _, rfl⟩, fun h => (by cases h), h⟩

set_option maxRecDepth 100000 in
set_option maxHeartbeats 12800000 in
theorem readBlock_any (L : ByteArray) (rs cs : List ByteArray) (o o2 : Option Addr) (n c n2 c2 : Nat) (w : World) (hr : Strs w o n rs) (hc : Strs w o2 n2 cs) (hL : L.size ≤ 4) (h1 : rs.length ≤ 10) (h2 : cs.length ≤ 10) (hz1 : ∀ s ∈ rs, s.size ≤ 300) (hz2 : ∀ s ∈ cs, s.size ≤ 300) :
    Calls Tryz.prog 13 #[.agg #[.string L, .slice o n c, .slice o2 n2 c2]] w (ReadB (blockB L rs cs) L n w) := by
  generalize hW1 : (w.alloc (.cells #[.string L, .slice o n c, .slice o2 n2 c2] 25)).alloc (.cells #[.string ⟨#[]⟩, .slice none 0 0, .slice none 0 0] 39) = W1
  have hB1 : Below w.heap.size w W1 := by rw [← hW1]; exact ((Below.refl _ _).alloc (Nat.le_refl _) _).alloc (by simp) _
  have hbx : W1.heap[w.heap.size]? = some (.cells #[.string L, .slice o n c, .slice o2 n2 c2] 25 (0, 0)) := by rw [← hW1]; exact (Below.heap_alloc _ _ _ (by simp)).trans (heap_alloc_new _ _)
  have hzr : W1.heap[w.heap.size + 1]? = some (.cells #[.string ⟨#[]⟩, .slice none 0 0, .slice none 0 0] 39 (0, 0)) := by
    rw [← hW1]
    have h := heap_alloc_new (w.alloc (.cells #[.string L, .slice o n c, .slice o2 n2 c2] 25)) (.cells #[.string ⟨#[]⟩, .slice none 0 0, .slice none 0 0] 39)
    rw [World.size_alloc] at h; exact h
  have hs1 : W1.heap.size = w.heap.size + 2 := by rw [← hW1]; simp
  have HR0 : Hid (RB w W1.heap.size L (.slice o n c) (.slice o2 n2 c2) (W1.alloc (.cells #[.string L, .slice none 0 0, .slice none 0 0] 39)) (.slice none 0 0) (.slice none 0 0)) :=
    ⟨hB1.alloc hB1.size _, (Lib.alloc_old _ _ _ (by omega)).trans hbx, (Lib.alloc_old _ _ _ (by omega)).trans hzr, hs1, heap_alloc_new W1 _⟩
  have HST1 : Hid (∀ V, Below w.heap.size w V → Strs V o n rs ∧ Strs V o2 n2 cs) := fun V hb => ⟨hr.keep hb, hc.keep hb⟩
  have hn : n = rs.length := hr.1
  have hn2 : n2 = cs.length := hc.1
  have HN := Lib.hid (And.intro hn hn2)
  have hn10 : n ≤ 10 := by omega
  have hn210 : n2 ≤ 10 := by omega
  have HTR := Lib.hid (fun (h : BlockOk L rs cs) => blockB_true h)
  have HFA := Lib.hid (fun (h : ¬ BlockOk L rs cs) => blockB_false h)
  have HLB := Lib.hid (fun V => isLabel_any L V (by omega))
  have HTV := Lib.hid (fun (s : ByteArray) V (h : s ∈ rs) => readTarget_any s V (by have := hz1 s h; omega))
  have HRD := Lib.hid (fun (s : ByteArray) V (h : s ∈ cs) => read_any s V (by have := hz2 s h; omega))
  have HIN := Lib.hid (fun V => within_any (n2 : Int) 1 80 V)
  obtain ⟨x0, x1, x2⟩ := cells3 hbx
  obtain ⟨q0, q1, q2⟩ := cells3 hzr
  have f0 := Lib.frozen_of_heap hzr 0
  have f1 := Lib.frozen_of_heap hzr 1
  have f2 := Lib.frozen_of_heap hzr 2
  have HBE : Hid (Below w.heap.size w W1) := hB1
  have HBZ : Hid (Below w.heap.size w (((W1.setCell ⟨w.heap.size + 1, 0, none⟩ (.string ⟨#[]⟩)).setCell ⟨w.heap.size + 1, 1, none⟩ (.slice none 0 0)).setCell ⟨w.heap.size + 1, 2, none⟩ (.slice none 0 0))) := ((hB1.setCell (by simp) _).setCell (by simp) _).setCell (by simp) _
  have HS1 := Lib.hid hs1
  generalize hBB : blockB L rs cs = BB at *
  clear hr hc hB1 hbx hzr hz1 hz2 hn hn2 hBB h1 h2 hs1
  have hd40 : decide ((40 : Int) < (n : Int)) = false := by simp; omega
  have hd12 : decide ((12000 : Int) < (L.size : Int)) = false := by simp; omega
  obtain ⟨i0, hi, hz0, hz1, hz2⟩ := info_parts info50
  cases hlab : labelB L.data.toList with
  | false =>
    rw [hlab] at HLB
    obtain rfl := HFA.out (fun h => by have := h.lab; rw [hlab] at this; cases this)
    go_enter Tryz.func13, Tryz.ntmps13
    go_wp2_with fail
    (try rw [hW1])
    refine (HLB.out _).mono ?_
    rintro e w2 ⟨rfl, rfl⟩
    go_wp2
    exact bodyPost_ret (v := .tuple #[.agg #[.string ⟨#[]⟩, .slice none 0 0, .slice none 0 0], .bool false]) (by simp [results, Tryz.results13, go_sem, q0, q1, q2]) rfl (ReadB.no HBZ.out)
  | true =>
    rw [hlab] at HLB
    have HLT := Lib.hid hlab
    clear hlab
    by_cases hz : n2 = 0
    · obtain rfl := HFA.out (fun h => by have := h.nc; have := HN.out; omega)
      have hin : inB (n2 : Int) 1 80 = false := by rw [hz]; decide
      rw [hin] at HIN
      clear hin hz
      go_enter Tryz.func13, Tryz.ntmps13
      go_wp2_with fail
      (try rw [hW1])
      refine (HLB.out _).mono ?_
      rintro e w2 ⟨rfl, rfl⟩
      go_wp2_with fail
      refine (HIN.out _).mono ?_
      rintro e w3 ⟨rfl, rfl⟩
      go_wp2
      exact bodyPost_ret (v := .tuple #[.agg #[.string ⟨#[]⟩, .slice none 0 0, .slice none 0 0], .bool false]) (by simp [results, Tryz.results13, go_sem, q0, q1, q2]) rfl (ReadB.no HBZ.out)
    · have hin : inB (n2 : Int) 1 80 = true := by unfold inB; simp; omega
      rw [hin] at HIN
      have HZ := Lib.hid hz
      clear hin hz
      go_enter Tryz.func13, Tryz.ntmps13
      go_wp2_with fail
      (try rw [hW1])
      refine (HLB.out _).mono ?_
      rintro e w2 ⟨rfl, rfl⟩
      go_wp2_with fail
      refine (HIN.out _).mono ?_
      rintro e w3 ⟨rfl, rfl⟩
      have hlt1 : w.heap.size < W1.heap.size := by have := HS1.out; omega
      go_wp2_with fail
      clear x0 x1 x2 hW1 q0 q1 q2 f0 f1 f2 HBE HBZ
      go_loopw [43] (fun iv wr => ∃ (Lt : List Tree) (o3 : Option Addr) (c3 : Nat), Lt.length ≤ n ∧ iv = .int .i64 Lt.length ∧ Hid (RB w W1.heap.size L (.slice o n c) (.slice o2 n2 c2) wr (.slice o3 Lt.length c3) (.slice none 0 0)) ∧ Hid (TRow wr (W1.heap.size + 1) 44 (.slice o3 Lt.length c3) Lt) ∧ Hid (∀ (j : Nat) s, j < Lt.length → rs[j]? = some s → (ptarget s.data.toList).isSome = true)) (fun iv _ => n - (intOf iv).toNat)
      case atStart => exact ⟨[], none, 0, Nat.zero_le _, rfl, HR0, TRow.nil _ _ _, fun j s h => absurd h (Nat.not_lt_zero _)⟩
      case round =>
        obtain ⟨Lt, o3, c3, hk, rfl, HRB, HT, HTY⟩ := hrel
        have hwl : W1.heap.size < wr.heap.size := HRB.out.lt.2
        obtain ⟨hst1, hst2⟩ := HST1.out _ HRB.out.bel
        obtain ⟨x0, x1, x2⟩ := cells3 HRB.out.box
        obtain ⟨y0, y1, y2⟩ := cells3 HRB.out.blk
        by_cases hlt : Lt.length < n
        · obtain ⟨b, off, s, ho, hx, hcx⟩ := hst1.at hlt
          have HX := Lib.hid hx
          have hm : s ∈ rs := List.mem_of_getElem? hx
          have HM := Lib.hid (fun V => HTV.out s V hm)
          have hi0 : (0 : Int) ≤ (Lt.length : Int) := by omega
          have hi1 : (Lt.length : Int) < (n : Int) := by omega
          subst ho
          clear hx hm hst1 hst2
          go_wp2_with fail
          refine (HM.out _).mono ?_
          rintro e w5 ⟨a, o', l', c', ok, t, rfl, hb5, hrp, hok, -⟩
          have HRB5 := Lib.hid (HRB.out.below (hb5.mono (by omega)))
          have hz5s := hb5.size
          clear x0 x1 x2 y0 y1 y2
          cases ok
          · obtain rfl := HFA.out (fun h => by have := h.regs _ s HX.out; rw [← hok] at this; cases this)
            clear hok hrp hb5
            obtain ⟨⟨e0, e1, e2⟩, hbz⟩ := HRB5.out.fin (.string ⟨#[]⟩) (.slice none 0 0) (.slice none 0 0) (.cells #[.string a, .slice o' l' c'] 44)
            obtain ⟨q0, q1, q2⟩ := cells3 HRB5.out.zer
            have f0 := Lib.frozen_of_heap HRB5.out.zer 0
            have f1 := Lib.frozen_of_heap HRB5.out.zer 1
            have f2 := Lib.frozen_of_heap HRB5.out.zer 2
            obtain ⟨hp5, hq5⟩ := HRB5.out.lt
            have hlt5 : w.heap.size + 1 < w5.heap.size := by omega
            clear hp5
            have HBZ := Lib.hid (hbz.alloc hbz.size (.cells #[.string a, .slice o' l' c'] 44))
            have HE0 := Lib.hid (And.intro e0 (And.intro e1 e2))
            clear e0 e1 e2 hbz
            go_wp2
            obtain ⟨e0, e1, e2⟩ := HE0.out
            exact bodyPost_ret (v := .tuple #[.agg #[.string ⟨#[]⟩, .slice none 0 0, .slice none 0 0], .bool false]) (by simp [results, Tryz.results13, go_sem, e0, e1, e2]) rfl (ReadB.no HBZ.out)
          · have HTS : Hid ((ptarget s.data.toList).isSome = true) := hok.symm
            clear hok
            have HT2 := Lib.hid ((HT.out.below hb5).alloc (.cells #[.string a, .slice o' l' c'] 44))
            have HR2 := Lib.hid (Rep.keep (Keeps.alloc _ _ (.cells #[.string a, .slice o' l' c'] 44)) _ _ (Rep.bound _ _ hrp))
            have hown : ∀ b, (wr.heap.size ≤ b ∧ b < w5.heap.size) → W1.heap.size + 1 ≤ b ∧ b < w5.heap.size + 1 ∧ Value.ownBlock (.slice o3 Lt.length c3) ≠ some b := by
              intro b hb
              have hl := HRB.out.lt
              refine ⟨by omega, by omega, fun h => ?_⟩
              have := (HT.out.ownLt h).2; omega
            have HOWN := Lib.hid hown
            have HRBA := Lib.hid (HRB5.out.below ((Below.refl _ _).alloc (by have := HRB5.out.lt; omega) (.cells #[.string a, .slice o' l' c'] 44)))
            have hLn : Lt.length ≤ 1000000000 := by omega
            obtain ⟨hp5, hq5⟩ := HRB5.out.lt
            clear hp5
            have hbs : W1.heap.size + 1 ≤ (w5.alloc (.cells #[.string a, .slice o' l' c'] 44)).heap.size := by simp; omega
            obtain ⟨g0, g1, g2⟩ := cells3 HRB5.out.blk
            clear hrp hown
            go_wp2_with (at_builtin; refine wpList_append_box rfl (.tmp 56) (.tmp 58) 37 rfl (W1.heap.size + 1) 44 i0 _ 40 Tryz.underlying37 hi hz0 hz1 hz2 rfl (by decide) (.slice o3 Lt.length c3) rfl Lt _ 1 _ rfl (by simp) t (.string a) (.slice o' l' c') rfl rfl HT2.out HR2.out (by simpa using HOWN.out) hLn hbs ?_; intro g' cap w7 hrow7 hb7; have HRB7 := Lib.hid (HRBA.out.below hb7); obtain ⟨k0, k1, k2⟩ := cells3 HRB7.out.blk; have kf := Lib.frozen_of_heap HRB7.out.blk 1; have HT7 := Lib.hid hrow7; clear hrow7)
            have HRB8 := Lib.hid (HRB7.out.put1 (.slice (some ⟨g', 0, none⟩) (Lt.length + 1) cap))
            have HT8 : Hid (TRow (w7.setCell ⟨W1.heap.size, 1, none⟩ (.slice (some ⟨g', 0, none⟩) (Lt.length + 1) cap)) (W1.heap.size + 1) 44 (.slice (some ⟨g', 0, none⟩) (Lt.length + 1) cap) (Lt ++ [t])) := HT7.out.setCell (a := ⟨W1.heap.size, 1, none⟩) (Nat.lt_succ_self _) _
            go_wp2
            go_roundw
            case rel =>
              refine ⟨Lt ++ [t], some ⟨g', 0, none⟩, cap, by simp; omega, by simp, by simpa using HRB8, by simpa using HT8, fun j s2 hj hs2 => ?_⟩
              simp only [List.length_append, List.length_singleton] at hj
              by_cases h : j = Lt.length
              · subst h; rw [HX.out] at hs2; cases hs2; exact HTS.out
              · exact HTY.out j s2 (by omega) hs2
            case measure => simp [intOf]; omega
        · have hln : Lt.length = n := by omega
          have HTA : Hid (∀ (j : Nat) s, rs[j]? = some s → (ptarget s.data.toList).isSome = true) := fun j s hs => HTY.out j s (by have := (List.getElem?_eq_some_iff.1 hs).1; have := HN.out; omega) hs
          rw [hln] at HRB
          have HRB0 := HRB
          clear HT HTY hst1 hst2
          go_wp2_with fail
          clear x0 x1 x2 y0 y1 y2 hwl
          go_loopw [65] (fun iv wr => ∃ (Lt : List Tree) (o4 : Option Addr) (c4 : Nat), Lt.length ≤ n2 ∧ iv = .int .i64 Lt.length ∧ Hid (RB w W1.heap.size L (.slice o n c) (.slice o2 n2 c2) wr (.slice o3 n c3) (.slice o4 Lt.length c4)) ∧ Hid (TRow wr (W1.heap.size + 1) 44 (.slice o4 Lt.length c4) Lt) ∧ Hid (∀ (j : Nat) s, j < Lt.length → cs[j]? = some s → instrOf s.data.toList = true ∧ lastOf s.data.toList = decide (j + 1 = cs.length))) (fun iv _ => n2 - (intOf iv).toNat)
          case atStart => exact ⟨[], none, 0, Nat.zero_le _, rfl, HRB0, TRow.nil _ _ _, fun j s h => absurd h (Nat.not_lt_zero _)⟩
          case round =>
            clear hk hln hlt HRB HRB0
            obtain ⟨Lt, o4, c4, hk, rfl, HRB, HT, HC⟩ := hrel
            have hwl : W1.heap.size < wr.heap.size := HRB.out.lt.2
            have hwl0 : w.heap.size < wr.heap.size := by have := HS1.out; omega
            obtain ⟨hst1, hst2⟩ := HST1.out _ HRB.out.bel
            obtain ⟨x0, x1, x2⟩ := cells3 HRB.out.box
            obtain ⟨y0, y1, y2⟩ := cells3 HRB.out.blk
            by_cases hlt : Lt.length < n2
            · obtain ⟨b, off, s, ho, hx, hcx⟩ := hst2.at hlt
              have HX := Lib.hid hx
              have hm : s ∈ cs := List.mem_of_getElem? hx
              have HM := Lib.hid (fun V => HRD.out s V hm)
              have hi0 : (0 : Int) ≤ (Lt.length : Int) := by omega
              have hi1 : (Lt.length : Int) < (n2 : Int) := by omega
              subst ho
              clear hx hm hst1 hst2
              go_wp2_with fail
              refine (HM.out _).mono ?_
              rintro e w5 ⟨a, o', l', c', ok, t, rfl, hb5, hrp, hok, ht⟩
              have hz5s := hb5.size
              have HRB5 := Lib.hid (HRB.out.below (hb5.mono (by omega)))
              generalize hW6 : w5.alloc (.cells #[.string a, .slice o' l' c'] 44) = W6
              have hB56 : Below w5.heap.size w5 W6 := by rw [← hW6]; exact (Below.refl _ _).alloc (Nat.le_refl _) _
              have hs6 : W6.heap.size = w5.heap.size + 1 := by rw [← hW6]; simp
              have hnew : W6.cell? ⟨w5.heap.size, 0, none⟩ = some (.string a) ∧ W6.cell? ⟨w5.heap.size, 1, none⟩ = some (.slice o' l' c') := by rw [← hW6]; exact two_new _ _ _ _
              have HRBV : Hid (∀ V, Hid (Below W6.heap.size W6 V) → RB w W1.heap.size L (.slice o n c) (.slice (some ⟨b, off, none⟩) n2 c2) V (.slice o3 n c3) (.slice o4 Lt.length c4)) := fun V hb => (HRB5.out.below (hB56.mono (by omega))).below (hb.out.mono (by omega))
              have HSK : Hid (∀ V, Hid (Below W6.heap.size W6 V) → V.cell? ⟨w5.heap.size, 0, none⟩ = some (.string a) ∧ V.cell? ⟨w5.heap.size, 1, none⟩ = some (.slice o' l' c') ∧ V.cell? ⟨w.heap.size, 2, none⟩ = some (.slice (some ⟨b, off, none⟩) n2 c2)) := fun V hb => ⟨(hb.out.cell (by simp; omega)).trans hnew.1, (hb.out.cell (by simp; omega)).trans hnew.2, (cells3 (HRBV.out V hb).box).2.2⟩
              have HTW : Hid (∀ V, Hid (Below W6.heap.size W6 V) → Below wr.heap.size wr V) := fun V hb => hb5.trans ((hB56.mono hz5s).trans (hb.out.mono (by omega)))
              have hrb := Rep.keep (Keeps.below hB56) _ _ (Rep.bound _ _ hrp)
              have HRP : Hid (∀ V, Hid (Below W6.heap.size W6 V) → Rep V (fun b' => wr.heap.size ≤ b' ∧ b' < w5.heap.size) t (.agg #[.string a, .slice o' l' c'])) := fun V hb => Rep.keep (Keeps.below hb.out) _ _ hrb
              have HBR : Hid (Below W6.heap.size W6 W6.drew) := (Below.refl _ _).drew
              have HT1 : Hid (∀ V, Below W6.drew.heap.size W6.drew V → Hid (Below W6.heap.size W6 V)) := fun V hb => HBR.out.trans hb
              have HT2 : Hid (∀ V V', Hid (Below W6.heap.size W6 V) → Below V.heap.size V V' → Hid (Below W6.heap.size W6 V')) := fun V V' h hb => h.out.trans (hb.mono h.out.size)
              have HBD : Hid (((Lt.length : Int) == (n2 : Int) - 1) = decide (Lt.length + 1 = cs.length)) := by
                show _ = _
                have := HN.out
                rw [Bool.eq_iff_iff]; simp; omega
              have hbd := HBD.out
              have hwr1 : IntKind.i64.wrap ((n2 : Int) - 1) = (n2 : Int) - 1 := IntWalk.i64_in _ (by omega)
              have HNX : Hid (instrOf s.data.toList = true → lastOf s.data.toList = decide (Lt.length + 1 = cs.length) → ∀ (j : Nat) s', j < Lt.length + 1 → cs[j]? = some s' → instrOf s'.data.toList = true ∧ lastOf s'.data.toList = decide (j + 1 = cs.length)) := fun h1 h2 j s' hj hs' => by
                by_cases e : j = Lt.length
                · subst e; rw [HX.out] at hs'; cases hs'; exact ⟨h1, h2⟩
                · exact HC.out j s' (by omega) hs'
              obtain ⟨e0, e1, e2⟩ := HSK.out _ (Lib.hid (Below.refl _ _))
              have HS6 := Lib.hid hs6
              clear hB56 hs6 hnew hrp hrb x0 x1 x2 y0 y1 y2 hb5
              cases hps : parse s.data.toList with
              | none =>
                rw [hps] at hok
                have hok' : ok = false := hok
                subst hok'
                obtain rfl := HFA.out (fun h => by have := (h.code _ s HX.out).1; unfold instrOf at this; rw [hps] at this; cases this)
                clear hok ht hps hbd HNX
                go_wp2_with fail
                (try rw [hW6])
                clear hW6
                refine wp_region_held_drew (S := (fun V => V.cell? ⟨w5.heap.size, 0, none⟩ = some (.string a) ∧ V.cell? ⟨w5.heap.size, 1, none⟩ = some (.slice o' l' c') ∧ V.cell? ⟨w.heap.size, 2, none⟩ = some (.slice (some ⟨b, off, none⟩) n2 c2))) (by kernel_rfl) ?_ (fun hHeld => ?_)
                · (try dsimp only); (first | with_reducible exact HSK.out _ HB8 | with_reducible exact HSK.out _ HB7 | with_reducible exact HSK.out _ HBR)
                refine wpAnyH_take (i := 0) (v := ?_) (by simp only [List.getElem?_toArray, List.getElem?_cons_zero]; rfl) (by kernel_rfl) (by kernel_rfl) (by kernel_rfl) (by exact fun _ _ _ h => h) (Or.inl ⟨by rfl, ?_⟩) (by assumption) ?_
                rotate_left
                · intro W hSW; (try dsimp only at hSW); go_simp; (try with_reducible rfl)
                (try simp only [Act.put, List.setIfInBounds_toArray, List.set_cons_zero, List.set_cons_succ])
                refine wpAnyH_take (i := 1) (v := ?_) (by simp only [List.getElem?_toArray, List.getElem?_cons_zero, List.getElem?_cons_succ]; rfl) (by kernel_rfl) (by kernel_rfl) (by kernel_rfl) (by exact fun _ _ _ h => h) (Or.inl ⟨by rfl, ?_⟩) (by assumption) ?_
                rotate_left
                · intro W hSW; (try dsimp only at hSW); go_simp; (try with_reducible rfl)
                (try simp only [Act.put, List.setIfInBounds_toArray, List.set_cons_zero, List.set_cons_succ])
                refine wpAnyH_take (i := 2) (v := ?_) (by simp only [List.getElem?_toArray, List.getElem?_cons_zero, List.getElem?_cons_succ]; rfl) (by kernel_rfl) (by kernel_rfl) (by kernel_rfl) (by exact fun _ _ _ h => h) (Or.inl ⟨by rfl, ?_⟩) (by assumption) ?_
                rotate_left
                · intro W hSW; (try dsimp only at hSW); go_simp; (try with_reducible rfl)
                (try simp only [Act.put, List.setIfInBounds_toArray, List.set_cons_zero, List.set_cons_succ])
                refine wpAnyH_take (i := 3) (by simp only [List.getElem?_toArray, List.getElem?_cons_zero, List.getElem?_cons_succ]; rfl) (by kernel_rfl) (by kernel_rfl) (by kernel_rfl) (by exact fun _ _ _ h => h) (Or.inr ⟨by rfl, rfl⟩) (by assumption) ?_
                (try simp only [Act.put, List.setIfInBounds_toArray, List.set_cons_zero, List.set_cons_succ])
                refine wpAnyH_take (i := 4) (by simp only [List.getElem?_toArray, List.getElem?_cons_zero, List.getElem?_cons_succ]; rfl) (by kernel_rfl) (by kernel_rfl) (by kernel_rfl) (by exact fun _ _ _ h => h) (Or.inr ⟨by rfl, rfl⟩) (by assumption) ?_
                (try simp only [Act.put, List.setIfInBounds_toArray, List.set_cons_zero, List.set_cons_succ])
                refine wpAnyH_take (i := 5) (by simp only [List.getElem?_toArray, List.getElem?_cons_zero, List.getElem?_cons_succ]; rfl) (by kernel_rfl) (by kernel_rfl) (by kernel_rfl) (by exact fun _ _ _ h => h) (Or.inr ⟨by rfl, rfl⟩) (by assumption) ?_
                (try simp only [Act.put, List.setIfInBounds_toArray, List.set_cons_zero, List.set_cons_succ])
                refine wpAnyH_take (i := 6) (v := ?_) (by simp only [List.getElem?_toArray, List.getElem?_cons_zero, List.getElem?_cons_succ]; rfl) (by kernel_rfl) (by kernel_rfl) (by kernel_rfl) (by exact fun _ _ _ h => h) (Or.inl ⟨by rfl, ?_⟩) (by assumption) ?_
                rotate_left
                · intro W hSW; (try dsimp only at hSW); go_simp; (try with_reducible rfl)
                (try simp only [Act.put, List.setIfInBounds_toArray, List.set_cons_zero, List.set_cons_succ])
                refine wpAnyH_take (i := 7) (v := ?_) (by simp only [List.getElem?_toArray, List.getElem?_cons_zero, List.getElem?_cons_succ]; rfl) (by kernel_rfl) (by kernel_rfl) (by kernel_rfl) (by exact fun _ _ _ h => h) (Or.inl ⟨by rfl, ?_⟩) (by assumption) ?_
                rotate_left
                · intro W hSW; (try dsimp only at hSW); go_simp; (try with_reducible rfl)
                (try simp only [Act.put, List.setIfInBounds_toArray, List.set_cons_zero, List.set_cons_succ])
                refine wpAnyH_take (i := 8) (by simp only [List.getElem?_toArray, List.getElem?_cons_zero, List.getElem?_cons_succ]; rfl) (by kernel_rfl) (by kernel_rfl) (by kernel_rfl) (by exact fun _ _ _ h => h) (Or.inr ⟨by rfl, rfl⟩) (by assumption) ?_
                (try simp only [Act.put, List.setIfInBounds_toArray, List.set_cons_zero, List.set_cons_succ])
                refine wpAnyH_take (i := 9) (by simp only [List.getElem?_toArray, List.getElem?_cons_zero, List.getElem?_cons_succ]; rfl) (by kernel_rfl) (by kernel_rfl) (by kernel_rfl) (by exact fun _ _ _ h => h) (Or.inr ⟨by rfl, rfl⟩) (by assumption) ?_
                (try simp only [Act.put, List.setIfInBounds_toArray, List.set_cons_zero, List.set_cons_succ])
                refine wpAnyH_take (i := 10) (by simp only [List.getElem?_toArray, List.getElem?_cons_zero, List.getElem?_cons_succ]; rfl) (by kernel_rfl) (by kernel_rfl) (by kernel_rfl) (by exact fun _ _ _ h => h) (Or.inr ⟨by rfl, rfl⟩) (by assumption) ?_
                (try simp only [Act.put, List.setIfInBounds_toArray, List.set_cons_zero, List.set_cons_succ])
                refine wpAnyH_take (i := 11) (by simp only [List.getElem?_toArray, List.getElem?_cons_zero, List.getElem?_cons_succ]; rfl) (by kernel_rfl) (by kernel_rfl) (by kernel_rfl) (by exact fun _ _ _ h => h) (Or.inr ⟨by rfl, rfl⟩) (by assumption) ?_
                (try simp only [Act.put, List.setIfInBounds_toArray, List.set_cons_zero, List.set_cons_succ])
                refine wpAnyH_take (i := 12) (by simp only [List.getElem?_toArray, List.getElem?_cons_zero, List.getElem?_cons_succ]; rfl) (by kernel_rfl) (by kernel_rfl) (by kernel_rfl) (by exact fun _ _ _ h => h) (Or.inr ⟨by rfl, rfl⟩) (by assumption) ?_
                (try simp only [Act.put, List.setIfInBounds_toArray, List.set_cons_zero, List.set_cons_succ])
                refine wpAnyH_take (i := 13) (by simp only [List.getElem?_toArray, List.getElem?_cons_zero, List.getElem?_cons_succ]; rfl) (by kernel_rfl) (by kernel_rfl) (by kernel_rfl) (by exact fun _ _ _ h => h) (Or.inr ⟨by rfl, rfl⟩) (by assumption) ?_
                (try simp only [Act.put, List.setIfInBounds_toArray, List.set_cons_zero, List.set_cons_succ])
                refine wpAnyH_take (i := 14) (by simp only [List.getElem?_toArray, List.getElem?_cons_zero, List.getElem?_cons_succ]; rfl) (by kernel_rfl) (by kernel_rfl) (by kernel_rfl) (by exact fun _ _ _ h => h) (Or.inr ⟨by rfl, rfl⟩) (by assumption) ?_
                (try simp only [Act.put, List.setIfInBounds_toArray, List.set_cons_zero, List.set_cons_succ])
                refine wpAnyH_take (i := 15) (by simp only [List.getElem?_toArray, List.getElem?_cons_zero, List.getElem?_cons_succ]; rfl) (by kernel_rfl) (by kernel_rfl) (by kernel_rfl) (by exact fun _ _ _ h => h) (Or.inr ⟨by rfl, rfl⟩) (by assumption) ?_
                (try simp only [Act.put, List.setIfInBounds_toArray, List.set_cons_zero, List.set_cons_succ])
                refine wpAnyH_take (i := 16) (by simp only [List.getElem?_toArray, List.getElem?_cons_zero, List.getElem?_cons_succ]; rfl) (by kernel_rfl) (by kernel_rfl) (by kernel_rfl) (by exact fun _ _ _ h => h) (Or.inr ⟨by rfl, rfl⟩) (by assumption) ?_
                (try simp only [Act.put, List.setIfInBounds_toArray, List.set_cons_zero, List.set_cons_succ])
                refine wpAnyH_take (i := 17) (v := ?_) (by simp only [List.getElem?_toArray, List.getElem?_cons_zero, List.getElem?_cons_succ]; rfl) (by kernel_rfl) (by kernel_rfl) (by kernel_rfl) (by exact fun _ _ _ h => h) (Or.inl ⟨by rfl, ?_⟩) (by assumption) ?_
                rotate_left
                · intro W hSW; (try dsimp only at hSW); go_simp; (try with_reducible rfl)
                (try simp only [Act.put, List.setIfInBounds_toArray, List.set_cons_zero, List.set_cons_succ])
                refine wpAnyH_done (by kernel_rfl) ?_ _
                have HV := Lib.hid (HRBV.out _ (Lib.hid (Below.refl _ _)))
                obtain ⟨-, hbz⟩ := HV.out.fin (.string ⟨#[]⟩) (.slice none 0 0) (.slice none 0 0) (.cells #[] 9)
                obtain ⟨q0, q1, q2⟩ := cells3 HV.out.zer
                have f0 := Lib.frozen_of_heap HV.out.zer 0
                have f1 := Lib.frozen_of_heap HV.out.zer 1
                have f2 := Lib.frozen_of_heap HV.out.zer 2
                have HBZ := Lib.hid hbz
                clear hbz
                go_wp2
                exact bodyPost_ret (v := .tuple #[.agg #[.string ⟨#[]⟩, .slice none 0 0, .slice none 0 0], .bool false]) (by simp [results, Tryz.results13, go_sem, q0, q1, q2]) rfl (ReadB.no HBZ.out.drew)
              | some t' =>
                rw [hps] at hok
                have hok' : ok = true := hok
                subst hok'
                obtain rfl := ht _ hps
                obtain ⟨fg, fz, fx, fl⟩ := parse_facts hps
                have hio : instrOf s.data.toList = t.instrI := by unfold instrOf; rw [hps]
                have hlo : lastOf s.data.toList = (t.instrI && t.lastB) := by unfold lastOf; rw [hps]
                have hii : ∀ V, Hid (Below W6.heap.size W6 V) → Calls Tryz.prog 20 #[.agg #[.string a, .slice o' l' c']] V fun e w' => e = .returned (.bool t.instrI) ∧ Below V.heap.size V w' := fun V hb => isInstr_any t _ _ V (HRP.out V hb) fg fz fx
                have hil : ∀ V, Hid (Below W6.heap.size W6 V) → Calls Tryz.prog 21 #[.agg #[.string a, .slice o' l' c']] V fun e w' => e = .returned (.bool t.lastB) ∧ Below V.heap.size V w' := fun V hb => isLast_any t _ _ V (HRP.out V hb) fl
                have HCD := Lib.hid (fun (h : BlockOk L rs cs) => h.code _ s HX.out)
                rw [hio, hlo] at HNX HCD
                clear hok ht hps hio hlo fg fz fx fl
                cases hiv : t.instrI with
                | false =>
                  rw [hiv] at hii HCD
                  obtain rfl := HFA.out (fun h => by have := (HCD.out h).1; cases this)
                  have HII := Lib.hid hii
                  clear hii hil hiv hbd HNX
                  go_wp2_with fail
                  (try rw [hW6])
                  clear hW6
                  refine wp_region_held_drew (S := (fun V => V.cell? ⟨w5.heap.size, 0, none⟩ = some (.string a) ∧ V.cell? ⟨w5.heap.size, 1, none⟩ = some (.slice o' l' c') ∧ V.cell? ⟨w.heap.size, 2, none⟩ = some (.slice (some ⟨b, off, none⟩) n2 c2))) (by kernel_rfl) ?_ (fun hHeld => ?_)
                  · (try dsimp only); (first | with_reducible exact HSK.out _ HB8 | with_reducible exact HSK.out _ HB7 | with_reducible exact HSK.out _ HBR)
                  refine wpAnyH_take (i := 0) (v := ?_) (by simp only [List.getElem?_toArray, List.getElem?_cons_zero]; rfl) (by kernel_rfl) (by kernel_rfl) (by kernel_rfl) (by exact fun _ _ _ h => h) (Or.inl ⟨by rfl, ?_⟩) (by assumption) ?_
                  rotate_left
                  · intro W hSW; (try dsimp only at hSW); go_simp; (try with_reducible rfl)
                  (try simp only [Act.put, List.setIfInBounds_toArray, List.set_cons_zero, List.set_cons_succ])
                  refine wpAnyH_take (i := 1) (v := ?_) (by simp only [List.getElem?_toArray, List.getElem?_cons_zero, List.getElem?_cons_succ]; rfl) (by kernel_rfl) (by kernel_rfl) (by kernel_rfl) (by exact fun _ _ _ h => h) (Or.inl ⟨by rfl, ?_⟩) (by assumption) ?_
                  rotate_left
                  · intro W hSW; (try dsimp only at hSW); go_simp; (try with_reducible rfl)
                  (try simp only [Act.put, List.setIfInBounds_toArray, List.set_cons_zero, List.set_cons_succ])
                  refine wpAnyH_take (i := 2) (v := ?_) (by simp only [List.getElem?_toArray, List.getElem?_cons_zero, List.getElem?_cons_succ]; rfl) (by kernel_rfl) (by kernel_rfl) (by kernel_rfl) (by exact fun _ _ _ h => h) (Or.inl ⟨by rfl, ?_⟩) (by assumption) ?_
                  rotate_left
                  · intro W hSW; (try dsimp only at hSW); go_simp; (try with_reducible rfl)
                  (try simp only [Act.put, List.setIfInBounds_toArray, List.set_cons_zero, List.set_cons_succ])
                  refine wpAnyH_take (i := 3) (v := ?_) (by simp only [List.getElem?_toArray, List.getElem?_cons_zero, List.getElem?_cons_succ]; rfl) (by kernel_rfl) (by kernel_rfl) (by kernel_rfl) (by exact fun _ _ _ h => h) (Or.inl ⟨by rfl, ?_⟩) (by assumption) ?_
                  rotate_left
                  · intro W hSW; (try dsimp only at hSW); go_simp; (try with_reducible rfl)
                  (try simp only [Act.put, List.setIfInBounds_toArray, List.set_cons_zero, List.set_cons_succ])
                  refine wpAnyH_ready (rs := [4]) (by kernel_rfl) (by simp) ?_
                  refine AllReadyH.cons (by simp only [List.getElem?_toArray, List.getElem?_cons_zero, List.getElem?_cons_succ]; rfl) (fun K hK => ?_) AllReadyH.nil
                  go_simp
                  (go_at_call 20; with_reducible refine (HII.out _ HBR).mono ?_; rintro e w7 ⟨rfl, hb7⟩; have HB7 := HT1.out _ hb7)
                  (try go_wp2_with fail)
                  refine hK.out _ _ ?_ (fun hHeld => ?_)
                  · (try dsimp only); (first | with_reducible exact HSK.out _ HB8 | with_reducible exact HSK.out _ HB7 | with_reducible exact HSK.out _ HBR)
                  clear hK K
                  (try simp only [Act.put, List.setIfInBounds_toArray, List.set_cons_zero, List.set_cons_succ])
                  refine wpAnyH_take (i := 5) (v := ?_) (by simp only [List.getElem?_toArray, List.getElem?_cons_zero, List.getElem?_cons_succ]; rfl) (by kernel_rfl) (by kernel_rfl) (by kernel_rfl) (by exact fun _ _ _ h => h) (Or.inl ⟨by rfl, ?_⟩) (by assumption) ?_
                  rotate_left
                  · intro W hSW; (try dsimp only at hSW); go_simp; (try with_reducible rfl)
                  (try simp only [Act.put, List.setIfInBounds_toArray, List.set_cons_zero, List.set_cons_succ])
                  refine wpAnyH_take (i := 6) (v := ?_) (by simp only [List.getElem?_toArray, List.getElem?_cons_zero, List.getElem?_cons_succ]; rfl) (by kernel_rfl) (by kernel_rfl) (by kernel_rfl) (by exact fun _ _ _ h => h) (Or.inl ⟨by rfl, ?_⟩) (by assumption) ?_
                  rotate_left
                  · intro W hSW; (try dsimp only at hSW); go_simp; (try with_reducible rfl)
                  (try simp only [Act.put, List.setIfInBounds_toArray, List.set_cons_zero, List.set_cons_succ])
                  refine wpAnyH_take (i := 7) (v := ?_) (by simp only [List.getElem?_toArray, List.getElem?_cons_zero, List.getElem?_cons_succ]; rfl) (by kernel_rfl) (by kernel_rfl) (by kernel_rfl) (by exact fun _ _ _ h => h) (Or.inl ⟨by rfl, ?_⟩) (by assumption) ?_
                  rotate_left
                  · intro W hSW; (try dsimp only at hSW); go_simp; (try with_reducible rfl)
                  (try simp only [Act.put, List.setIfInBounds_toArray, List.set_cons_zero, List.set_cons_succ])
                  refine wpAnyH_take (i := 8) (by simp only [List.getElem?_toArray, List.getElem?_cons_zero, List.getElem?_cons_succ]; rfl) (by kernel_rfl) (by kernel_rfl) (by kernel_rfl) (by exact fun _ _ _ h => h) (Or.inr ⟨by rfl, rfl⟩) (by assumption) ?_
                  (try simp only [Act.put, List.setIfInBounds_toArray, List.set_cons_zero, List.set_cons_succ])
                  refine wpAnyH_take (i := 9) (by simp only [List.getElem?_toArray, List.getElem?_cons_zero, List.getElem?_cons_succ]; rfl) (by kernel_rfl) (by kernel_rfl) (by kernel_rfl) (by exact fun _ _ _ h => h) (Or.inr ⟨by rfl, rfl⟩) (by assumption) ?_
                  (try simp only [Act.put, List.setIfInBounds_toArray, List.set_cons_zero, List.set_cons_succ])
                  refine wpAnyH_take (i := 10) (by simp only [List.getElem?_toArray, List.getElem?_cons_zero, List.getElem?_cons_succ]; rfl) (by kernel_rfl) (by kernel_rfl) (by kernel_rfl) (by exact fun _ _ _ h => h) (Or.inr ⟨by rfl, rfl⟩) (by assumption) ?_
                  (try simp only [Act.put, List.setIfInBounds_toArray, List.set_cons_zero, List.set_cons_succ])
                  refine wpAnyH_take (i := 11) (by simp only [List.getElem?_toArray, List.getElem?_cons_zero, List.getElem?_cons_succ]; rfl) (by kernel_rfl) (by kernel_rfl) (by kernel_rfl) (by exact fun _ _ _ h => h) (Or.inr ⟨by rfl, rfl⟩) (by assumption) ?_
                  (try simp only [Act.put, List.setIfInBounds_toArray, List.set_cons_zero, List.set_cons_succ])
                  refine wpAnyH_take (i := 12) (by simp only [List.getElem?_toArray, List.getElem?_cons_zero, List.getElem?_cons_succ]; rfl) (by kernel_rfl) (by kernel_rfl) (by kernel_rfl) (by exact fun _ _ _ h => h) (Or.inr ⟨by rfl, rfl⟩) (by assumption) ?_
                  (try simp only [Act.put, List.setIfInBounds_toArray, List.set_cons_zero, List.set_cons_succ])
                  refine wpAnyH_take (i := 13) (by simp only [List.getElem?_toArray, List.getElem?_cons_zero, List.getElem?_cons_succ]; rfl) (by kernel_rfl) (by kernel_rfl) (by kernel_rfl) (by exact fun _ _ _ h => h) (Or.inr ⟨by rfl, rfl⟩) (by assumption) ?_
                  (try simp only [Act.put, List.setIfInBounds_toArray, List.set_cons_zero, List.set_cons_succ])
                  refine wpAnyH_take (i := 14) (by simp only [List.getElem?_toArray, List.getElem?_cons_zero, List.getElem?_cons_succ]; rfl) (by kernel_rfl) (by kernel_rfl) (by kernel_rfl) (by exact fun _ _ _ h => h) (Or.inr ⟨by rfl, rfl⟩) (by assumption) ?_
                  (try simp only [Act.put, List.setIfInBounds_toArray, List.set_cons_zero, List.set_cons_succ])
                  refine wpAnyH_take (i := 15) (by simp only [List.getElem?_toArray, List.getElem?_cons_zero, List.getElem?_cons_succ]; rfl) (by kernel_rfl) (by kernel_rfl) (by kernel_rfl) (by exact fun _ _ _ h => h) (Or.inr ⟨by rfl, rfl⟩) (by assumption) ?_
                  (try simp only [Act.put, List.setIfInBounds_toArray, List.set_cons_zero, List.set_cons_succ])
                  refine wpAnyH_take (i := 16) (by simp only [List.getElem?_toArray, List.getElem?_cons_zero, List.getElem?_cons_succ]; rfl) (by kernel_rfl) (by kernel_rfl) (by kernel_rfl) (by exact fun _ _ _ h => h) (Or.inr ⟨by rfl, rfl⟩) (by assumption) ?_
                  (try simp only [Act.put, List.setIfInBounds_toArray, List.set_cons_zero, List.set_cons_succ])
                  refine wpAnyH_take (i := 17) (v := ?_) (by simp only [List.getElem?_toArray, List.getElem?_cons_zero, List.getElem?_cons_succ]; rfl) (by kernel_rfl) (by kernel_rfl) (by kernel_rfl) (by exact fun _ _ _ h => h) (Or.inl ⟨by rfl, ?_⟩) (by assumption) ?_
                  rotate_left
                  · intro W hSW; (try dsimp only at hSW); go_simp; (try with_reducible rfl)
                  (try simp only [Act.put, List.setIfInBounds_toArray, List.set_cons_zero, List.set_cons_succ])
                  refine wpAnyH_done (by kernel_rfl) ?_ _
                  have HV := Lib.hid (HRBV.out _ HB7)
                  obtain ⟨-, hbz⟩ := HV.out.fin (.string ⟨#[]⟩) (.slice none 0 0) (.slice none 0 0) (.cells #[] 9)
                  obtain ⟨q0, q1, q2⟩ := cells3 HV.out.zer
                  have f0 := Lib.frozen_of_heap HV.out.zer 0
                  have f1 := Lib.frozen_of_heap HV.out.zer 1
                  have f2 := Lib.frozen_of_heap HV.out.zer 2
                  have HBZ := Lib.hid hbz
                  clear hbz
                  go_wp2
                  exact bodyPost_ret (v := .tuple #[.agg #[.string ⟨#[]⟩, .slice none 0 0, .slice none 0 0], .bool false]) (by simp [results, Tryz.results13, go_sem, q0, q1, q2]) rfl (ReadB.no HBZ.out)
                | true =>
                  rw [hiv] at hii HNX HCD
                  have HNG : Hid (t.lastB = decide (Lt.length + 1 = cs.length) → Hid (∀ (j : Nat) s', j < Lt.length + 1 → cs[j]? = some s' → instrOf s'.data.toList = true ∧ lastOf s'.data.toList = decide (j + 1 = cs.length))) := fun h2 => HNX.out rfl (by simpa using h2)
                  have HBG : Hid (¬ (t.lastB = decide (Lt.length + 1 = cs.length)) → ¬ BlockOk L rs cs) := fun h hb => h (by simpa using (HCD.out hb).2)
                  clear hiv HNX HBD HCD
                  generalize t.lastB = lv at HNG HBG hil
                  generalize decide (Lt.length + 1 = cs.length) = ld at HNG HBG hbd
                  have HII := Lib.hid hii
                  have HIL := Lib.hid hil
                  clear hii hil
                  cases lv
                  · cases ld
                    · have HN3 := HNG.out rfl
                      go_wp2_with fail
                      (try rw [hW6])
                      clear hW6
                      refine wp_region_held_drew (S := (fun V => V.cell? ⟨w5.heap.size, 0, none⟩ = some (.string a) ∧ V.cell? ⟨w5.heap.size, 1, none⟩ = some (.slice o' l' c') ∧ V.cell? ⟨w.heap.size, 2, none⟩ = some (.slice (some ⟨b, off, none⟩) n2 c2))) (by kernel_rfl) ?_ (fun hHeld => ?_)
                      · (try dsimp only); (first | with_reducible exact HSK.out _ HB8 | with_reducible exact HSK.out _ HB7 | with_reducible exact HSK.out _ HBR)
                      refine wpAnyH_take (i := 0) (v := ?_) (by simp only [List.getElem?_toArray, List.getElem?_cons_zero]; rfl) (by kernel_rfl) (by kernel_rfl) (by kernel_rfl) (by exact fun _ _ _ h => h) (Or.inl ⟨by rfl, ?_⟩) (by assumption) ?_
                      rotate_left
                      · intro W hSW; (try dsimp only at hSW); go_simp; (try with_reducible rfl)
                      (try simp only [Act.put, List.setIfInBounds_toArray, List.set_cons_zero, List.set_cons_succ])
                      refine wpAnyH_take (i := 1) (v := ?_) (by simp only [List.getElem?_toArray, List.getElem?_cons_zero, List.getElem?_cons_succ]; rfl) (by kernel_rfl) (by kernel_rfl) (by kernel_rfl) (by exact fun _ _ _ h => h) (Or.inl ⟨by rfl, ?_⟩) (by assumption) ?_
                      rotate_left
                      · intro W hSW; (try dsimp only at hSW); go_simp; (try with_reducible rfl)
                      (try simp only [Act.put, List.setIfInBounds_toArray, List.set_cons_zero, List.set_cons_succ])
                      refine wpAnyH_take (i := 2) (v := ?_) (by simp only [List.getElem?_toArray, List.getElem?_cons_zero, List.getElem?_cons_succ]; rfl) (by kernel_rfl) (by kernel_rfl) (by kernel_rfl) (by exact fun _ _ _ h => h) (Or.inl ⟨by rfl, ?_⟩) (by assumption) ?_
                      rotate_left
                      · intro W hSW; (try dsimp only at hSW); go_simp; (try with_reducible rfl)
                      (try simp only [Act.put, List.setIfInBounds_toArray, List.set_cons_zero, List.set_cons_succ])
                      refine wpAnyH_take (i := 3) (v := ?_) (by simp only [List.getElem?_toArray, List.getElem?_cons_zero, List.getElem?_cons_succ]; rfl) (by kernel_rfl) (by kernel_rfl) (by kernel_rfl) (by exact fun _ _ _ h => h) (Or.inl ⟨by rfl, ?_⟩) (by assumption) ?_
                      rotate_left
                      · intro W hSW; (try dsimp only at hSW); go_simp; (try with_reducible rfl)
                      (try simp only [Act.put, List.setIfInBounds_toArray, List.set_cons_zero, List.set_cons_succ])
                      refine wpAnyH_ready (rs := [4]) (by kernel_rfl) (by simp) ?_
                      refine AllReadyH.cons (by simp only [List.getElem?_toArray, List.getElem?_cons_zero, List.getElem?_cons_succ]; rfl) (fun K hK => ?_) AllReadyH.nil
                      go_simp
                      (go_at_call 20; with_reducible refine (HII.out _ HBR).mono ?_; rintro e w7 ⟨rfl, hb7⟩; have HB7 := HT1.out _ hb7)
                      (try go_wp2_with fail)
                      refine hK.out _ _ ?_ (fun hHeld => ?_)
                      · (try dsimp only); (first | with_reducible exact HSK.out _ HB8 | with_reducible exact HSK.out _ HB7 | with_reducible exact HSK.out _ HBR)
                      clear hK K
                      (try simp only [Act.put, List.setIfInBounds_toArray, List.set_cons_zero, List.set_cons_succ])
                      refine wpAnyH_take (i := 5) (v := ?_) (by simp only [List.getElem?_toArray, List.getElem?_cons_zero, List.getElem?_cons_succ]; rfl) (by kernel_rfl) (by kernel_rfl) (by kernel_rfl) (by exact fun _ _ _ h => h) (Or.inl ⟨by rfl, ?_⟩) (by assumption) ?_
                      rotate_left
                      · intro W hSW; (try dsimp only at hSW); go_simp; (try with_reducible rfl)
                      (try simp only [Act.put, List.setIfInBounds_toArray, List.set_cons_zero, List.set_cons_succ])
                      refine wpAnyH_take (i := 6) (v := ?_) (by simp only [List.getElem?_toArray, List.getElem?_cons_zero, List.getElem?_cons_succ]; rfl) (by kernel_rfl) (by kernel_rfl) (by kernel_rfl) (by exact fun _ _ _ h => h) (Or.inl ⟨by rfl, ?_⟩) (by assumption) ?_
                      rotate_left
                      · intro W hSW; (try dsimp only at hSW); go_simp; (try with_reducible rfl)
                      (try simp only [Act.put, List.setIfInBounds_toArray, List.set_cons_zero, List.set_cons_succ])
                      refine wpAnyH_take (i := 7) (v := ?_) (by simp only [List.getElem?_toArray, List.getElem?_cons_zero, List.getElem?_cons_succ]; rfl) (by kernel_rfl) (by kernel_rfl) (by kernel_rfl) (by exact fun _ _ _ h => h) (Or.inl ⟨by rfl, ?_⟩) (by assumption) ?_
                      rotate_left
                      · intro W hSW; (try dsimp only at hSW); go_simp; (try with_reducible rfl)
                      (try simp only [Act.put, List.setIfInBounds_toArray, List.set_cons_zero, List.set_cons_succ])
                      refine wpAnyH_take (i := 8) (v := ?_) (by simp only [List.getElem?_toArray, List.getElem?_cons_zero, List.getElem?_cons_succ]; rfl) (by kernel_rfl) (by kernel_rfl) (by kernel_rfl) (by exact fun _ _ _ h => h) (Or.inl ⟨by rfl, ?_⟩) (by assumption) ?_
                      rotate_left
                      · intro W hSW; (try dsimp only at hSW); go_simp; (try with_reducible rfl)
                      (try simp only [Act.put, List.setIfInBounds_toArray, List.set_cons_zero, List.set_cons_succ])
                      refine wpAnyH_take (i := 10) (v := ?_) (by simp only [List.getElem?_toArray, List.getElem?_cons_zero, List.getElem?_cons_succ]; rfl) (by kernel_rfl) (by kernel_rfl) (by kernel_rfl) (by exact fun _ _ _ h => h) (Or.inl ⟨by rfl, ?_⟩) (by assumption) ?_
                      rotate_left
                      · intro W hSW; (try dsimp only at hSW); go_simp; (try with_reducible rfl)
                      (try simp only [Act.put, List.setIfInBounds_toArray, List.set_cons_zero, List.set_cons_succ])
                      refine wpAnyH_take (i := 11) (v := ?_) (by simp only [List.getElem?_toArray, List.getElem?_cons_zero, List.getElem?_cons_succ]; rfl) (by kernel_rfl) (by kernel_rfl) (by kernel_rfl) (by exact fun _ _ _ h => h) (Or.inl ⟨by rfl, ?_⟩) (by assumption) ?_
                      rotate_left
                      · intro W hSW; (try dsimp only at hSW); go_simp; (try with_reducible rfl)
                      (try simp only [Act.put, List.setIfInBounds_toArray, List.set_cons_zero, List.set_cons_succ])
                      refine wpAnyH_take (i := 12) (v := ?_) (by simp only [List.getElem?_toArray, List.getElem?_cons_zero, List.getElem?_cons_succ]; rfl) (by kernel_rfl) (by kernel_rfl) (by kernel_rfl) (by exact fun _ _ _ h => h) (Or.inl ⟨by rfl, ?_⟩) (by assumption) ?_
                      rotate_left
                      · intro W hSW; (try dsimp only at hSW); go_simp; (try with_reducible rfl)
                      (try simp only [Act.put, List.setIfInBounds_toArray, List.set_cons_zero, List.set_cons_succ])
                      refine wpAnyH_take (i := 13) (v := ?_) (by simp only [List.getElem?_toArray, List.getElem?_cons_zero, List.getElem?_cons_succ]; rfl) (by kernel_rfl) (by kernel_rfl) (by kernel_rfl) (by exact fun _ _ _ h => h) (Or.inl ⟨by rfl, ?_⟩) (by assumption) ?_
                      rotate_left
                      · intro W hSW; (try dsimp only at hSW); go_simp; (try with_reducible rfl)
                      (try simp only [Act.put, List.setIfInBounds_toArray, List.set_cons_zero, List.set_cons_succ])
                      refine wpAnyH_take (i := 14) (v := ?_) (by simp only [List.getElem?_toArray, List.getElem?_cons_zero, List.getElem?_cons_succ]; rfl) (by kernel_rfl) (by kernel_rfl) (by kernel_rfl) (by exact fun _ _ _ h => h) (Or.inl ⟨by rfl, ?_⟩) (by assumption) ?_
                      rotate_left
                      · intro W hSW; (try dsimp only at hSW); go_simp; (try with_reducible rfl)
                      (try simp only [Act.put, List.setIfInBounds_toArray, List.set_cons_zero, List.set_cons_succ])
                      refine wpAnyH_take (i := 15) (v := ?_) (by simp only [List.getElem?_toArray, List.getElem?_cons_zero, List.getElem?_cons_succ]; rfl) (by kernel_rfl) (by kernel_rfl) (by kernel_rfl) (by exact fun _ _ _ h => h) (Or.inl ⟨by rfl, ?_⟩) (by assumption) ?_
                      rotate_left
                      · intro W hSW; (try dsimp only at hSW); go_simp; (try with_reducible rfl)
                      (try simp only [Act.put, List.setIfInBounds_toArray, List.set_cons_zero, List.set_cons_succ])
                      refine wpAnyH_ready (rs := [9]) (by kernel_rfl) (by simp) ?_
                      refine AllReadyH.cons (by simp only [List.getElem?_toArray, List.getElem?_cons_zero, List.getElem?_cons_succ]; rfl) (fun K hK => ?_) AllReadyH.nil
                      go_simp
                      (go_at_call 21; with_reducible refine (HIL.out _ HB7).mono ?_; rintro e w8 ⟨rfl, hb8⟩; have HB8 := HT2.out _ _ HB7 hb8)
                      (try go_wp2_with fail)
                      refine hK.out _ _ ?_ (fun hHeld => ?_)
                      · (try dsimp only); (first | with_reducible exact HSK.out _ HB8 | with_reducible exact HSK.out _ HB7 | with_reducible exact HSK.out _ HBR)
                      clear hK K
                      (try simp only [Act.put, List.setIfInBounds_toArray, List.set_cons_zero, List.set_cons_succ])
                      refine wpAnyH_take (i := 16) (v := ?_) (by simp only [List.getElem?_toArray, List.getElem?_cons_zero, List.getElem?_cons_succ]; rfl) (by kernel_rfl) (by kernel_rfl) (by kernel_rfl) (by exact fun _ _ _ h => h) (Or.inl ⟨by rfl, ?_⟩) (by assumption) ?_
                      rotate_left
                      · intro W hSW; (try dsimp only at hSW); go_simp; (try with_reducible rfl)
                      (try simp only [Act.put, List.setIfInBounds_toArray, List.set_cons_zero, List.set_cons_succ])
                      refine wpAnyH_take (i := 17) (v := ?_) (by simp only [List.getElem?_toArray, List.getElem?_cons_zero, List.getElem?_cons_succ]; rfl) (by kernel_rfl) (by kernel_rfl) (by kernel_rfl) (by exact fun _ _ _ h => h) (Or.inl ⟨by rfl, ?_⟩) (by assumption) ?_
                      rotate_left
                      · intro W hSW; (try dsimp only at hSW); go_simp; (try with_reducible rfl)
                      (try simp only [Act.put, List.setIfInBounds_toArray, List.set_cons_zero, List.set_cons_succ])
                      refine wpAnyH_done (by kernel_rfl) ?_ _
                      have HRW8 := Lib.hid (HRBV.out _ HB8)
                      have HT8 := Lib.hid (HT.out.below (HTW.out _ HB8))
                      have HR8 := Lib.hid (HRP.out _ HB8)
                      have hown : ∀ b', (wr.heap.size ≤ b' ∧ b' < w5.heap.size) → W1.heap.size + 1 ≤ b' ∧ b' < w8.heap.size ∧ Value.ownBlock (.slice o4 Lt.length c4) ≠ some b' := by
                        intro b' hb'
                        have hl := HRB.out.lt
                        have hs8 := (HTW.out _ HB8).size
                        have hs6 := HB8.out.size
                        have hs65 := HS6.out
                        refine ⟨by omega, by omega, fun h => ?_⟩
                        have := (HT.out.ownLt h).2; omega
                      have HOWN := Lib.hid hown
                      have hLn : Lt.length ≤ 1000000000 := by omega
                      have hl8 : W1.heap.size < w8.heap.size := HRW8.out.lt.2
                      have hbs : W1.heap.size + 1 ≤ w8.heap.size := hl8
                      obtain ⟨g0, g1, g2⟩ := cells3 HRW8.out.blk
                      obtain ⟨e6, e7, e8⟩ := HSK.out _ HB8
                      clear hown
                      go_wp2_with (at_builtin; refine wpList_append_box rfl (.tmp 95) (.tmp 97) 37 rfl (W1.heap.size + 1) 44 i0 _ 40 Tryz.underlying37 hi hz0 hz1 hz2 rfl (by decide) (.slice o4 Lt.length c4) rfl Lt _ 1 _ rfl rfl t (.string a) (.slice o' l' c') rfl rfl HT8.out HR8.out HOWN.out hLn hbs ?_; intro g' cap w9 hrow9 hb9; have HRB9 := Lib.hid (HRW8.out.below hb9); obtain ⟨k0, k1, k2⟩ := cells3 HRB9.out.blk; have kf := Lib.frozen_of_heap HRB9.out.blk 2; have HT9 := Lib.hid hrow9; clear hrow9)
                      have HRB10 := Lib.hid (HRB9.out.put2 (.slice (some ⟨g', 0, none⟩) (Lt.length + 1) cap))
                      have HT10 : Hid (TRow (w9.setCell ⟨W1.heap.size, 2, none⟩ (.slice (some ⟨g', 0, none⟩) (Lt.length + 1) cap)) (W1.heap.size + 1) 44 (.slice (some ⟨g', 0, none⟩) (Lt.length + 1) cap) (Lt ++ [t])) := HT9.out.setCell (a := ⟨W1.heap.size, 2, none⟩) (Nat.lt_succ_self _) _
                      go_wp2
                      go_roundw
                      case rel => exact ⟨Lt ++ [t], some ⟨g', 0, none⟩, cap, by simp; omega, by simp, by simpa using HRB10, by simpa using HT10, by simpa using HN3⟩
                      case measure => simp [intOf]; omega
                    · obtain rfl := HFA.out (HBG.out (by simp))
                      go_wp2_with fail
                      (try rw [hW6])
                      clear hW6
                      refine wp_region_held_drew (S := (fun V => V.cell? ⟨w5.heap.size, 0, none⟩ = some (.string a) ∧ V.cell? ⟨w5.heap.size, 1, none⟩ = some (.slice o' l' c') ∧ V.cell? ⟨w.heap.size, 2, none⟩ = some (.slice (some ⟨b, off, none⟩) n2 c2))) (by kernel_rfl) ?_ (fun hHeld => ?_)
                      · (try dsimp only); (first | with_reducible exact HSK.out _ HB8 | with_reducible exact HSK.out _ HB7 | with_reducible exact HSK.out _ HBR)
                      refine wpAnyH_take (i := 0) (v := ?_) (by simp only [List.getElem?_toArray, List.getElem?_cons_zero]; rfl) (by kernel_rfl) (by kernel_rfl) (by kernel_rfl) (by exact fun _ _ _ h => h) (Or.inl ⟨by rfl, ?_⟩) (by assumption) ?_
                      rotate_left
                      · intro W hSW; (try dsimp only at hSW); go_simp; (try with_reducible rfl)
                      (try simp only [Act.put, List.setIfInBounds_toArray, List.set_cons_zero, List.set_cons_succ])
                      refine wpAnyH_take (i := 1) (v := ?_) (by simp only [List.getElem?_toArray, List.getElem?_cons_zero, List.getElem?_cons_succ]; rfl) (by kernel_rfl) (by kernel_rfl) (by kernel_rfl) (by exact fun _ _ _ h => h) (Or.inl ⟨by rfl, ?_⟩) (by assumption) ?_
                      rotate_left
                      · intro W hSW; (try dsimp only at hSW); go_simp; (try with_reducible rfl)
                      (try simp only [Act.put, List.setIfInBounds_toArray, List.set_cons_zero, List.set_cons_succ])
                      refine wpAnyH_take (i := 2) (v := ?_) (by simp only [List.getElem?_toArray, List.getElem?_cons_zero, List.getElem?_cons_succ]; rfl) (by kernel_rfl) (by kernel_rfl) (by kernel_rfl) (by exact fun _ _ _ h => h) (Or.inl ⟨by rfl, ?_⟩) (by assumption) ?_
                      rotate_left
                      · intro W hSW; (try dsimp only at hSW); go_simp; (try with_reducible rfl)
                      (try simp only [Act.put, List.setIfInBounds_toArray, List.set_cons_zero, List.set_cons_succ])
                      refine wpAnyH_take (i := 3) (v := ?_) (by simp only [List.getElem?_toArray, List.getElem?_cons_zero, List.getElem?_cons_succ]; rfl) (by kernel_rfl) (by kernel_rfl) (by kernel_rfl) (by exact fun _ _ _ h => h) (Or.inl ⟨by rfl, ?_⟩) (by assumption) ?_
                      rotate_left
                      · intro W hSW; (try dsimp only at hSW); go_simp; (try with_reducible rfl)
                      (try simp only [Act.put, List.setIfInBounds_toArray, List.set_cons_zero, List.set_cons_succ])
                      refine wpAnyH_ready (rs := [4]) (by kernel_rfl) (by simp) ?_
                      refine AllReadyH.cons (by simp only [List.getElem?_toArray, List.getElem?_cons_zero, List.getElem?_cons_succ]; rfl) (fun K hK => ?_) AllReadyH.nil
                      go_simp
                      (go_at_call 20; with_reducible refine (HII.out _ HBR).mono ?_; rintro e w7 ⟨rfl, hb7⟩; have HB7 := HT1.out _ hb7)
                      (try go_wp2_with fail)
                      refine hK.out _ _ ?_ (fun hHeld => ?_)
                      · (try dsimp only); (first | with_reducible exact HSK.out _ HB8 | with_reducible exact HSK.out _ HB7 | with_reducible exact HSK.out _ HBR)
                      clear hK K
                      (try simp only [Act.put, List.setIfInBounds_toArray, List.set_cons_zero, List.set_cons_succ])
                      refine wpAnyH_take (i := 5) (v := ?_) (by simp only [List.getElem?_toArray, List.getElem?_cons_zero, List.getElem?_cons_succ]; rfl) (by kernel_rfl) (by kernel_rfl) (by kernel_rfl) (by exact fun _ _ _ h => h) (Or.inl ⟨by rfl, ?_⟩) (by assumption) ?_
                      rotate_left
                      · intro W hSW; (try dsimp only at hSW); go_simp; (try with_reducible rfl)
                      (try simp only [Act.put, List.setIfInBounds_toArray, List.set_cons_zero, List.set_cons_succ])
                      refine wpAnyH_take (i := 6) (v := ?_) (by simp only [List.getElem?_toArray, List.getElem?_cons_zero, List.getElem?_cons_succ]; rfl) (by kernel_rfl) (by kernel_rfl) (by kernel_rfl) (by exact fun _ _ _ h => h) (Or.inl ⟨by rfl, ?_⟩) (by assumption) ?_
                      rotate_left
                      · intro W hSW; (try dsimp only at hSW); go_simp; (try with_reducible rfl)
                      (try simp only [Act.put, List.setIfInBounds_toArray, List.set_cons_zero, List.set_cons_succ])
                      refine wpAnyH_take (i := 7) (v := ?_) (by simp only [List.getElem?_toArray, List.getElem?_cons_zero, List.getElem?_cons_succ]; rfl) (by kernel_rfl) (by kernel_rfl) (by kernel_rfl) (by exact fun _ _ _ h => h) (Or.inl ⟨by rfl, ?_⟩) (by assumption) ?_
                      rotate_left
                      · intro W hSW; (try dsimp only at hSW); go_simp; (try with_reducible rfl)
                      (try simp only [Act.put, List.setIfInBounds_toArray, List.set_cons_zero, List.set_cons_succ])
                      refine wpAnyH_take (i := 8) (v := ?_) (by simp only [List.getElem?_toArray, List.getElem?_cons_zero, List.getElem?_cons_succ]; rfl) (by kernel_rfl) (by kernel_rfl) (by kernel_rfl) (by exact fun _ _ _ h => h) (Or.inl ⟨by rfl, ?_⟩) (by assumption) ?_
                      rotate_left
                      · intro W hSW; (try dsimp only at hSW); go_simp; (try with_reducible rfl)
                      (try simp only [Act.put, List.setIfInBounds_toArray, List.set_cons_zero, List.set_cons_succ])
                      refine wpAnyH_take (i := 10) (v := ?_) (by simp only [List.getElem?_toArray, List.getElem?_cons_zero, List.getElem?_cons_succ]; rfl) (by kernel_rfl) (by kernel_rfl) (by kernel_rfl) (by exact fun _ _ _ h => h) (Or.inl ⟨by rfl, ?_⟩) (by assumption) ?_
                      rotate_left
                      · intro W hSW; (try dsimp only at hSW); go_simp; (try with_reducible rfl)
                      (try simp only [Act.put, List.setIfInBounds_toArray, List.set_cons_zero, List.set_cons_succ])
                      refine wpAnyH_take (i := 11) (v := ?_) (by simp only [List.getElem?_toArray, List.getElem?_cons_zero, List.getElem?_cons_succ]; rfl) (by kernel_rfl) (by kernel_rfl) (by kernel_rfl) (by exact fun _ _ _ h => h) (Or.inl ⟨by rfl, ?_⟩) (by assumption) ?_
                      rotate_left
                      · intro W hSW; (try dsimp only at hSW); go_simp; (try with_reducible rfl)
                      (try simp only [Act.put, List.setIfInBounds_toArray, List.set_cons_zero, List.set_cons_succ])
                      refine wpAnyH_take (i := 12) (v := ?_) (by simp only [List.getElem?_toArray, List.getElem?_cons_zero, List.getElem?_cons_succ]; rfl) (by kernel_rfl) (by kernel_rfl) (by kernel_rfl) (by exact fun _ _ _ h => h) (Or.inl ⟨by rfl, ?_⟩) (by assumption) ?_
                      rotate_left
                      · intro W hSW; (try dsimp only at hSW); go_simp; (try with_reducible rfl)
                      (try simp only [Act.put, List.setIfInBounds_toArray, List.set_cons_zero, List.set_cons_succ])
                      refine wpAnyH_take (i := 13) (v := ?_) (by simp only [List.getElem?_toArray, List.getElem?_cons_zero, List.getElem?_cons_succ]; rfl) (by kernel_rfl) (by kernel_rfl) (by kernel_rfl) (by exact fun _ _ _ h => h) (Or.inl ⟨by rfl, ?_⟩) (by assumption) ?_
                      rotate_left
                      · intro W hSW; (try dsimp only at hSW); go_simp; (try with_reducible rfl)
                      (try simp only [Act.put, List.setIfInBounds_toArray, List.set_cons_zero, List.set_cons_succ])
                      refine wpAnyH_take (i := 14) (v := ?_) (by simp only [List.getElem?_toArray, List.getElem?_cons_zero, List.getElem?_cons_succ]; rfl) (by kernel_rfl) (by kernel_rfl) (by kernel_rfl) (by exact fun _ _ _ h => h) (Or.inl ⟨by rfl, ?_⟩) (by assumption) ?_
                      rotate_left
                      · intro W hSW; (try dsimp only at hSW); go_simp; (try with_reducible rfl)
                      (try simp only [Act.put, List.setIfInBounds_toArray, List.set_cons_zero, List.set_cons_succ])
                      refine wpAnyH_take (i := 15) (v := ?_) (by simp only [List.getElem?_toArray, List.getElem?_cons_zero, List.getElem?_cons_succ]; rfl) (by kernel_rfl) (by kernel_rfl) (by kernel_rfl) (by exact fun _ _ _ h => h) (Or.inl ⟨by rfl, ?_⟩) (by assumption) ?_
                      rotate_left
                      · intro W hSW; (try dsimp only at hSW); go_simp; (try with_reducible rfl)
                      (try simp only [Act.put, List.setIfInBounds_toArray, List.set_cons_zero, List.set_cons_succ])
                      refine wpAnyH_ready (rs := [9]) (by kernel_rfl) (by simp) ?_
                      refine AllReadyH.cons (by simp only [List.getElem?_toArray, List.getElem?_cons_zero, List.getElem?_cons_succ]; rfl) (fun K hK => ?_) AllReadyH.nil
                      go_simp
                      (go_at_call 21; with_reducible refine (HIL.out _ HB7).mono ?_; rintro e w8 ⟨rfl, hb8⟩; have HB8 := HT2.out _ _ HB7 hb8)
                      (try go_wp2_with fail)
                      refine hK.out _ _ ?_ (fun hHeld => ?_)
                      · (try dsimp only); (first | with_reducible exact HSK.out _ HB8 | with_reducible exact HSK.out _ HB7 | with_reducible exact HSK.out _ HBR)
                      clear hK K
                      (try simp only [Act.put, List.setIfInBounds_toArray, List.set_cons_zero, List.set_cons_succ])
                      refine wpAnyH_take (i := 16) (v := ?_) (by simp only [List.getElem?_toArray, List.getElem?_cons_zero, List.getElem?_cons_succ]; rfl) (by kernel_rfl) (by kernel_rfl) (by kernel_rfl) (by exact fun _ _ _ h => h) (Or.inl ⟨by rfl, ?_⟩) (by assumption) ?_
                      rotate_left
                      · intro W hSW; (try dsimp only at hSW); go_simp; (try with_reducible rfl)
                      (try simp only [Act.put, List.setIfInBounds_toArray, List.set_cons_zero, List.set_cons_succ])
                      refine wpAnyH_take (i := 17) (v := ?_) (by simp only [List.getElem?_toArray, List.getElem?_cons_zero, List.getElem?_cons_succ]; rfl) (by kernel_rfl) (by kernel_rfl) (by kernel_rfl) (by exact fun _ _ _ h => h) (Or.inl ⟨by rfl, ?_⟩) (by assumption) ?_
                      rotate_left
                      · intro W hSW; (try dsimp only at hSW); go_simp; (try with_reducible rfl)
                      (try simp only [Act.put, List.setIfInBounds_toArray, List.set_cons_zero, List.set_cons_succ])
                      refine wpAnyH_done (by kernel_rfl) ?_ _
                      have HV := Lib.hid (HRBV.out _ HB8)
                      obtain ⟨-, hbz⟩ := HV.out.fin (.string ⟨#[]⟩) (.slice none 0 0) (.slice none 0 0) (.cells #[] 9)
                      obtain ⟨q0, q1, q2⟩ := cells3 HV.out.zer
                      have f0 := Lib.frozen_of_heap HV.out.zer 0
                      have f1 := Lib.frozen_of_heap HV.out.zer 1
                      have f2 := Lib.frozen_of_heap HV.out.zer 2
                      have HBZ := Lib.hid hbz
                      clear hbz
                      go_wp2
                      exact bodyPost_ret (v := .tuple #[.agg #[.string ⟨#[]⟩, .slice none 0 0, .slice none 0 0], .bool false]) (by simp [results, Tryz.results13, go_sem, q0, q1, q2]) rfl (ReadB.no HBZ.out)
                  · cases ld
                    · obtain rfl := HFA.out (HBG.out (by simp))
                      go_wp2_with fail
                      (try rw [hW6])
                      clear hW6
                      refine wp_region_held_drew (S := (fun V => V.cell? ⟨w5.heap.size, 0, none⟩ = some (.string a) ∧ V.cell? ⟨w5.heap.size, 1, none⟩ = some (.slice o' l' c') ∧ V.cell? ⟨w.heap.size, 2, none⟩ = some (.slice (some ⟨b, off, none⟩) n2 c2))) (by kernel_rfl) ?_ (fun hHeld => ?_)
                      · (try dsimp only); (first | with_reducible exact HSK.out _ HB8 | with_reducible exact HSK.out _ HB7 | with_reducible exact HSK.out _ HBR)
                      refine wpAnyH_take (i := 0) (v := ?_) (by simp only [List.getElem?_toArray, List.getElem?_cons_zero]; rfl) (by kernel_rfl) (by kernel_rfl) (by kernel_rfl) (by exact fun _ _ _ h => h) (Or.inl ⟨by rfl, ?_⟩) (by assumption) ?_
                      rotate_left
                      · intro W hSW; (try dsimp only at hSW); go_simp; (try with_reducible rfl)
                      (try simp only [Act.put, List.setIfInBounds_toArray, List.set_cons_zero, List.set_cons_succ])
                      refine wpAnyH_take (i := 1) (v := ?_) (by simp only [List.getElem?_toArray, List.getElem?_cons_zero, List.getElem?_cons_succ]; rfl) (by kernel_rfl) (by kernel_rfl) (by kernel_rfl) (by exact fun _ _ _ h => h) (Or.inl ⟨by rfl, ?_⟩) (by assumption) ?_
                      rotate_left
                      · intro W hSW; (try dsimp only at hSW); go_simp; (try with_reducible rfl)
                      (try simp only [Act.put, List.setIfInBounds_toArray, List.set_cons_zero, List.set_cons_succ])
                      refine wpAnyH_take (i := 2) (v := ?_) (by simp only [List.getElem?_toArray, List.getElem?_cons_zero, List.getElem?_cons_succ]; rfl) (by kernel_rfl) (by kernel_rfl) (by kernel_rfl) (by exact fun _ _ _ h => h) (Or.inl ⟨by rfl, ?_⟩) (by assumption) ?_
                      rotate_left
                      · intro W hSW; (try dsimp only at hSW); go_simp; (try with_reducible rfl)
                      (try simp only [Act.put, List.setIfInBounds_toArray, List.set_cons_zero, List.set_cons_succ])
                      refine wpAnyH_take (i := 3) (v := ?_) (by simp only [List.getElem?_toArray, List.getElem?_cons_zero, List.getElem?_cons_succ]; rfl) (by kernel_rfl) (by kernel_rfl) (by kernel_rfl) (by exact fun _ _ _ h => h) (Or.inl ⟨by rfl, ?_⟩) (by assumption) ?_
                      rotate_left
                      · intro W hSW; (try dsimp only at hSW); go_simp; (try with_reducible rfl)
                      (try simp only [Act.put, List.setIfInBounds_toArray, List.set_cons_zero, List.set_cons_succ])
                      refine wpAnyH_ready (rs := [4]) (by kernel_rfl) (by simp) ?_
                      refine AllReadyH.cons (by simp only [List.getElem?_toArray, List.getElem?_cons_zero, List.getElem?_cons_succ]; rfl) (fun K hK => ?_) AllReadyH.nil
                      go_simp
                      (go_at_call 20; with_reducible refine (HII.out _ HBR).mono ?_; rintro e w7 ⟨rfl, hb7⟩; have HB7 := HT1.out _ hb7)
                      (try go_wp2_with fail)
                      refine hK.out _ _ ?_ (fun hHeld => ?_)
                      · (try dsimp only); (first | with_reducible exact HSK.out _ HB8 | with_reducible exact HSK.out _ HB7 | with_reducible exact HSK.out _ HBR)
                      clear hK K
                      (try simp only [Act.put, List.setIfInBounds_toArray, List.set_cons_zero, List.set_cons_succ])
                      refine wpAnyH_take (i := 5) (v := ?_) (by simp only [List.getElem?_toArray, List.getElem?_cons_zero, List.getElem?_cons_succ]; rfl) (by kernel_rfl) (by kernel_rfl) (by kernel_rfl) (by exact fun _ _ _ h => h) (Or.inl ⟨by rfl, ?_⟩) (by assumption) ?_
                      rotate_left
                      · intro W hSW; (try dsimp only at hSW); go_simp; (try with_reducible rfl)
                      (try simp only [Act.put, List.setIfInBounds_toArray, List.set_cons_zero, List.set_cons_succ])
                      refine wpAnyH_take (i := 6) (v := ?_) (by simp only [List.getElem?_toArray, List.getElem?_cons_zero, List.getElem?_cons_succ]; rfl) (by kernel_rfl) (by kernel_rfl) (by kernel_rfl) (by exact fun _ _ _ h => h) (Or.inl ⟨by rfl, ?_⟩) (by assumption) ?_
                      rotate_left
                      · intro W hSW; (try dsimp only at hSW); go_simp; (try with_reducible rfl)
                      (try simp only [Act.put, List.setIfInBounds_toArray, List.set_cons_zero, List.set_cons_succ])
                      refine wpAnyH_take (i := 7) (v := ?_) (by simp only [List.getElem?_toArray, List.getElem?_cons_zero, List.getElem?_cons_succ]; rfl) (by kernel_rfl) (by kernel_rfl) (by kernel_rfl) (by exact fun _ _ _ h => h) (Or.inl ⟨by rfl, ?_⟩) (by assumption) ?_
                      rotate_left
                      · intro W hSW; (try dsimp only at hSW); go_simp; (try with_reducible rfl)
                      (try simp only [Act.put, List.setIfInBounds_toArray, List.set_cons_zero, List.set_cons_succ])
                      refine wpAnyH_take (i := 8) (v := ?_) (by simp only [List.getElem?_toArray, List.getElem?_cons_zero, List.getElem?_cons_succ]; rfl) (by kernel_rfl) (by kernel_rfl) (by kernel_rfl) (by exact fun _ _ _ h => h) (Or.inl ⟨by rfl, ?_⟩) (by assumption) ?_
                      rotate_left
                      · intro W hSW; (try dsimp only at hSW); go_simp; (try with_reducible rfl)
                      (try simp only [Act.put, List.setIfInBounds_toArray, List.set_cons_zero, List.set_cons_succ])
                      refine wpAnyH_take (i := 10) (v := ?_) (by simp only [List.getElem?_toArray, List.getElem?_cons_zero, List.getElem?_cons_succ]; rfl) (by kernel_rfl) (by kernel_rfl) (by kernel_rfl) (by exact fun _ _ _ h => h) (Or.inl ⟨by rfl, ?_⟩) (by assumption) ?_
                      rotate_left
                      · intro W hSW; (try dsimp only at hSW); go_simp; (try with_reducible rfl)
                      (try simp only [Act.put, List.setIfInBounds_toArray, List.set_cons_zero, List.set_cons_succ])
                      refine wpAnyH_take (i := 11) (v := ?_) (by simp only [List.getElem?_toArray, List.getElem?_cons_zero, List.getElem?_cons_succ]; rfl) (by kernel_rfl) (by kernel_rfl) (by kernel_rfl) (by exact fun _ _ _ h => h) (Or.inl ⟨by rfl, ?_⟩) (by assumption) ?_
                      rotate_left
                      · intro W hSW; (try dsimp only at hSW); go_simp; (try with_reducible rfl)
                      (try simp only [Act.put, List.setIfInBounds_toArray, List.set_cons_zero, List.set_cons_succ])
                      refine wpAnyH_take (i := 12) (v := ?_) (by simp only [List.getElem?_toArray, List.getElem?_cons_zero, List.getElem?_cons_succ]; rfl) (by kernel_rfl) (by kernel_rfl) (by kernel_rfl) (by exact fun _ _ _ h => h) (Or.inl ⟨by rfl, ?_⟩) (by assumption) ?_
                      rotate_left
                      · intro W hSW; (try dsimp only at hSW); go_simp; (try with_reducible rfl)
                      (try simp only [Act.put, List.setIfInBounds_toArray, List.set_cons_zero, List.set_cons_succ])
                      refine wpAnyH_take (i := 13) (v := ?_) (by simp only [List.getElem?_toArray, List.getElem?_cons_zero, List.getElem?_cons_succ]; rfl) (by kernel_rfl) (by kernel_rfl) (by kernel_rfl) (by exact fun _ _ _ h => h) (Or.inl ⟨by rfl, ?_⟩) (by assumption) ?_
                      rotate_left
                      · intro W hSW; (try dsimp only at hSW); go_simp; (try with_reducible rfl)
                      (try simp only [Act.put, List.setIfInBounds_toArray, List.set_cons_zero, List.set_cons_succ])
                      refine wpAnyH_take (i := 14) (v := ?_) (by simp only [List.getElem?_toArray, List.getElem?_cons_zero, List.getElem?_cons_succ]; rfl) (by kernel_rfl) (by kernel_rfl) (by kernel_rfl) (by exact fun _ _ _ h => h) (Or.inl ⟨by rfl, ?_⟩) (by assumption) ?_
                      rotate_left
                      · intro W hSW; (try dsimp only at hSW); go_simp; (try with_reducible rfl)
                      (try simp only [Act.put, List.setIfInBounds_toArray, List.set_cons_zero, List.set_cons_succ])
                      refine wpAnyH_take (i := 15) (v := ?_) (by simp only [List.getElem?_toArray, List.getElem?_cons_zero, List.getElem?_cons_succ]; rfl) (by kernel_rfl) (by kernel_rfl) (by kernel_rfl) (by exact fun _ _ _ h => h) (Or.inl ⟨by rfl, ?_⟩) (by assumption) ?_
                      rotate_left
                      · intro W hSW; (try dsimp only at hSW); go_simp; (try with_reducible rfl)
                      (try simp only [Act.put, List.setIfInBounds_toArray, List.set_cons_zero, List.set_cons_succ])
                      refine wpAnyH_ready (rs := [9]) (by kernel_rfl) (by simp) ?_
                      refine AllReadyH.cons (by simp only [List.getElem?_toArray, List.getElem?_cons_zero, List.getElem?_cons_succ]; rfl) (fun K hK => ?_) AllReadyH.nil
                      go_simp
                      (go_at_call 21; with_reducible refine (HIL.out _ HB7).mono ?_; rintro e w8 ⟨rfl, hb8⟩; have HB8 := HT2.out _ _ HB7 hb8)
                      (try go_wp2_with fail)
                      refine hK.out _ _ ?_ (fun hHeld => ?_)
                      · (try dsimp only); (first | with_reducible exact HSK.out _ HB8 | with_reducible exact HSK.out _ HB7 | with_reducible exact HSK.out _ HBR)
                      clear hK K
                      (try simp only [Act.put, List.setIfInBounds_toArray, List.set_cons_zero, List.set_cons_succ])
                      refine wpAnyH_take (i := 16) (v := ?_) (by simp only [List.getElem?_toArray, List.getElem?_cons_zero, List.getElem?_cons_succ]; rfl) (by kernel_rfl) (by kernel_rfl) (by kernel_rfl) (by exact fun _ _ _ h => h) (Or.inl ⟨by rfl, ?_⟩) (by assumption) ?_
                      rotate_left
                      · intro W hSW; (try dsimp only at hSW); go_simp; (try with_reducible rfl)
                      (try simp only [Act.put, List.setIfInBounds_toArray, List.set_cons_zero, List.set_cons_succ])
                      refine wpAnyH_take (i := 17) (v := ?_) (by simp only [List.getElem?_toArray, List.getElem?_cons_zero, List.getElem?_cons_succ]; rfl) (by kernel_rfl) (by kernel_rfl) (by kernel_rfl) (by exact fun _ _ _ h => h) (Or.inl ⟨by rfl, ?_⟩) (by assumption) ?_
                      rotate_left
                      · intro W hSW; (try dsimp only at hSW); go_simp; (try with_reducible rfl)
                      (try simp only [Act.put, List.setIfInBounds_toArray, List.set_cons_zero, List.set_cons_succ])
                      refine wpAnyH_done (by kernel_rfl) ?_ _
                      have HV := Lib.hid (HRBV.out _ HB8)
                      obtain ⟨-, hbz⟩ := HV.out.fin (.string ⟨#[]⟩) (.slice none 0 0) (.slice none 0 0) (.cells #[] 9)
                      obtain ⟨q0, q1, q2⟩ := cells3 HV.out.zer
                      have f0 := Lib.frozen_of_heap HV.out.zer 0
                      have f1 := Lib.frozen_of_heap HV.out.zer 1
                      have f2 := Lib.frozen_of_heap HV.out.zer 2
                      have HBZ := Lib.hid hbz
                      clear hbz
                      go_wp2
                      exact bodyPost_ret (v := .tuple #[.agg #[.string ⟨#[]⟩, .slice none 0 0, .slice none 0 0], .bool false]) (by simp [results, Tryz.results13, go_sem, q0, q1, q2]) rfl (ReadB.no HBZ.out)
                    · have HN3 := HNG.out rfl
                      go_wp2_with fail
                      (try rw [hW6])
                      clear hW6
                      refine wp_region_held_drew (S := (fun V => V.cell? ⟨w5.heap.size, 0, none⟩ = some (.string a) ∧ V.cell? ⟨w5.heap.size, 1, none⟩ = some (.slice o' l' c') ∧ V.cell? ⟨w.heap.size, 2, none⟩ = some (.slice (some ⟨b, off, none⟩) n2 c2))) (by kernel_rfl) ?_ (fun hHeld => ?_)
                      · (try dsimp only); (first | with_reducible exact HSK.out _ HB8 | with_reducible exact HSK.out _ HB7 | with_reducible exact HSK.out _ HBR)
                      refine wpAnyH_take (i := 0) (v := ?_) (by simp only [List.getElem?_toArray, List.getElem?_cons_zero]; rfl) (by kernel_rfl) (by kernel_rfl) (by kernel_rfl) (by exact fun _ _ _ h => h) (Or.inl ⟨by rfl, ?_⟩) (by assumption) ?_
                      rotate_left
                      · intro W hSW; (try dsimp only at hSW); go_simp; (try with_reducible rfl)
                      (try simp only [Act.put, List.setIfInBounds_toArray, List.set_cons_zero, List.set_cons_succ])
                      refine wpAnyH_take (i := 1) (v := ?_) (by simp only [List.getElem?_toArray, List.getElem?_cons_zero, List.getElem?_cons_succ]; rfl) (by kernel_rfl) (by kernel_rfl) (by kernel_rfl) (by exact fun _ _ _ h => h) (Or.inl ⟨by rfl, ?_⟩) (by assumption) ?_
                      rotate_left
                      · intro W hSW; (try dsimp only at hSW); go_simp; (try with_reducible rfl)
                      (try simp only [Act.put, List.setIfInBounds_toArray, List.set_cons_zero, List.set_cons_succ])
                      refine wpAnyH_take (i := 2) (v := ?_) (by simp only [List.getElem?_toArray, List.getElem?_cons_zero, List.getElem?_cons_succ]; rfl) (by kernel_rfl) (by kernel_rfl) (by kernel_rfl) (by exact fun _ _ _ h => h) (Or.inl ⟨by rfl, ?_⟩) (by assumption) ?_
                      rotate_left
                      · intro W hSW; (try dsimp only at hSW); go_simp; (try with_reducible rfl)
                      (try simp only [Act.put, List.setIfInBounds_toArray, List.set_cons_zero, List.set_cons_succ])
                      refine wpAnyH_take (i := 3) (v := ?_) (by simp only [List.getElem?_toArray, List.getElem?_cons_zero, List.getElem?_cons_succ]; rfl) (by kernel_rfl) (by kernel_rfl) (by kernel_rfl) (by exact fun _ _ _ h => h) (Or.inl ⟨by rfl, ?_⟩) (by assumption) ?_
                      rotate_left
                      · intro W hSW; (try dsimp only at hSW); go_simp; (try with_reducible rfl)
                      (try simp only [Act.put, List.setIfInBounds_toArray, List.set_cons_zero, List.set_cons_succ])
                      refine wpAnyH_ready (rs := [4]) (by kernel_rfl) (by simp) ?_
                      refine AllReadyH.cons (by simp only [List.getElem?_toArray, List.getElem?_cons_zero, List.getElem?_cons_succ]; rfl) (fun K hK => ?_) AllReadyH.nil
                      go_simp
                      (go_at_call 20; with_reducible refine (HII.out _ HBR).mono ?_; rintro e w7 ⟨rfl, hb7⟩; have HB7 := HT1.out _ hb7)
                      (try go_wp2_with fail)
                      refine hK.out _ _ ?_ (fun hHeld => ?_)
                      · (try dsimp only); (first | with_reducible exact HSK.out _ HB8 | with_reducible exact HSK.out _ HB7 | with_reducible exact HSK.out _ HBR)
                      clear hK K
                      (try simp only [Act.put, List.setIfInBounds_toArray, List.set_cons_zero, List.set_cons_succ])
                      refine wpAnyH_take (i := 5) (v := ?_) (by simp only [List.getElem?_toArray, List.getElem?_cons_zero, List.getElem?_cons_succ]; rfl) (by kernel_rfl) (by kernel_rfl) (by kernel_rfl) (by exact fun _ _ _ h => h) (Or.inl ⟨by rfl, ?_⟩) (by assumption) ?_
                      rotate_left
                      · intro W hSW; (try dsimp only at hSW); go_simp; (try with_reducible rfl)
                      (try simp only [Act.put, List.setIfInBounds_toArray, List.set_cons_zero, List.set_cons_succ])
                      refine wpAnyH_take (i := 6) (v := ?_) (by simp only [List.getElem?_toArray, List.getElem?_cons_zero, List.getElem?_cons_succ]; rfl) (by kernel_rfl) (by kernel_rfl) (by kernel_rfl) (by exact fun _ _ _ h => h) (Or.inl ⟨by rfl, ?_⟩) (by assumption) ?_
                      rotate_left
                      · intro W hSW; (try dsimp only at hSW); go_simp; (try with_reducible rfl)
                      (try simp only [Act.put, List.setIfInBounds_toArray, List.set_cons_zero, List.set_cons_succ])
                      refine wpAnyH_take (i := 7) (v := ?_) (by simp only [List.getElem?_toArray, List.getElem?_cons_zero, List.getElem?_cons_succ]; rfl) (by kernel_rfl) (by kernel_rfl) (by kernel_rfl) (by exact fun _ _ _ h => h) (Or.inl ⟨by rfl, ?_⟩) (by assumption) ?_
                      rotate_left
                      · intro W hSW; (try dsimp only at hSW); go_simp; (try with_reducible rfl)
                      (try simp only [Act.put, List.setIfInBounds_toArray, List.set_cons_zero, List.set_cons_succ])
                      refine wpAnyH_take (i := 8) (v := ?_) (by simp only [List.getElem?_toArray, List.getElem?_cons_zero, List.getElem?_cons_succ]; rfl) (by kernel_rfl) (by kernel_rfl) (by kernel_rfl) (by exact fun _ _ _ h => h) (Or.inl ⟨by rfl, ?_⟩) (by assumption) ?_
                      rotate_left
                      · intro W hSW; (try dsimp only at hSW); go_simp; (try with_reducible rfl)
                      (try simp only [Act.put, List.setIfInBounds_toArray, List.set_cons_zero, List.set_cons_succ])
                      refine wpAnyH_take (i := 10) (v := ?_) (by simp only [List.getElem?_toArray, List.getElem?_cons_zero, List.getElem?_cons_succ]; rfl) (by kernel_rfl) (by kernel_rfl) (by kernel_rfl) (by exact fun _ _ _ h => h) (Or.inl ⟨by rfl, ?_⟩) (by assumption) ?_
                      rotate_left
                      · intro W hSW; (try dsimp only at hSW); go_simp; (try with_reducible rfl)
                      (try simp only [Act.put, List.setIfInBounds_toArray, List.set_cons_zero, List.set_cons_succ])
                      refine wpAnyH_take (i := 11) (v := ?_) (by simp only [List.getElem?_toArray, List.getElem?_cons_zero, List.getElem?_cons_succ]; rfl) (by kernel_rfl) (by kernel_rfl) (by kernel_rfl) (by exact fun _ _ _ h => h) (Or.inl ⟨by rfl, ?_⟩) (by assumption) ?_
                      rotate_left
                      · intro W hSW; (try dsimp only at hSW); go_simp; (try with_reducible rfl)
                      (try simp only [Act.put, List.setIfInBounds_toArray, List.set_cons_zero, List.set_cons_succ])
                      refine wpAnyH_take (i := 12) (v := ?_) (by simp only [List.getElem?_toArray, List.getElem?_cons_zero, List.getElem?_cons_succ]; rfl) (by kernel_rfl) (by kernel_rfl) (by kernel_rfl) (by exact fun _ _ _ h => h) (Or.inl ⟨by rfl, ?_⟩) (by assumption) ?_
                      rotate_left
                      · intro W hSW; (try dsimp only at hSW); go_simp; (try with_reducible rfl)
                      (try simp only [Act.put, List.setIfInBounds_toArray, List.set_cons_zero, List.set_cons_succ])
                      refine wpAnyH_take (i := 13) (v := ?_) (by simp only [List.getElem?_toArray, List.getElem?_cons_zero, List.getElem?_cons_succ]; rfl) (by kernel_rfl) (by kernel_rfl) (by kernel_rfl) (by exact fun _ _ _ h => h) (Or.inl ⟨by rfl, ?_⟩) (by assumption) ?_
                      rotate_left
                      · intro W hSW; (try dsimp only at hSW); go_simp; (try with_reducible rfl)
                      (try simp only [Act.put, List.setIfInBounds_toArray, List.set_cons_zero, List.set_cons_succ])
                      refine wpAnyH_take (i := 14) (v := ?_) (by simp only [List.getElem?_toArray, List.getElem?_cons_zero, List.getElem?_cons_succ]; rfl) (by kernel_rfl) (by kernel_rfl) (by kernel_rfl) (by exact fun _ _ _ h => h) (Or.inl ⟨by rfl, ?_⟩) (by assumption) ?_
                      rotate_left
                      · intro W hSW; (try dsimp only at hSW); go_simp; (try with_reducible rfl)
                      (try simp only [Act.put, List.setIfInBounds_toArray, List.set_cons_zero, List.set_cons_succ])
                      refine wpAnyH_take (i := 15) (v := ?_) (by simp only [List.getElem?_toArray, List.getElem?_cons_zero, List.getElem?_cons_succ]; rfl) (by kernel_rfl) (by kernel_rfl) (by kernel_rfl) (by exact fun _ _ _ h => h) (Or.inl ⟨by rfl, ?_⟩) (by assumption) ?_
                      rotate_left
                      · intro W hSW; (try dsimp only at hSW); go_simp; (try with_reducible rfl)
                      (try simp only [Act.put, List.setIfInBounds_toArray, List.set_cons_zero, List.set_cons_succ])
                      refine wpAnyH_ready (rs := [9]) (by kernel_rfl) (by simp) ?_
                      refine AllReadyH.cons (by simp only [List.getElem?_toArray, List.getElem?_cons_zero, List.getElem?_cons_succ]; rfl) (fun K hK => ?_) AllReadyH.nil
                      go_simp
                      (go_at_call 21; with_reducible refine (HIL.out _ HB7).mono ?_; rintro e w8 ⟨rfl, hb8⟩; have HB8 := HT2.out _ _ HB7 hb8)
                      (try go_wp2_with fail)
                      refine hK.out _ _ ?_ (fun hHeld => ?_)
                      · (try dsimp only); (first | with_reducible exact HSK.out _ HB8 | with_reducible exact HSK.out _ HB7 | with_reducible exact HSK.out _ HBR)
                      clear hK K
                      (try simp only [Act.put, List.setIfInBounds_toArray, List.set_cons_zero, List.set_cons_succ])
                      refine wpAnyH_take (i := 16) (v := ?_) (by simp only [List.getElem?_toArray, List.getElem?_cons_zero, List.getElem?_cons_succ]; rfl) (by kernel_rfl) (by kernel_rfl) (by kernel_rfl) (by exact fun _ _ _ h => h) (Or.inl ⟨by rfl, ?_⟩) (by assumption) ?_
                      rotate_left
                      · intro W hSW; (try dsimp only at hSW); go_simp; (try with_reducible rfl)
                      (try simp only [Act.put, List.setIfInBounds_toArray, List.set_cons_zero, List.set_cons_succ])
                      refine wpAnyH_take (i := 17) (v := ?_) (by simp only [List.getElem?_toArray, List.getElem?_cons_zero, List.getElem?_cons_succ]; rfl) (by kernel_rfl) (by kernel_rfl) (by kernel_rfl) (by exact fun _ _ _ h => h) (Or.inl ⟨by rfl, ?_⟩) (by assumption) ?_
                      rotate_left
                      · intro W hSW; (try dsimp only at hSW); go_simp; (try with_reducible rfl)
                      (try simp only [Act.put, List.setIfInBounds_toArray, List.set_cons_zero, List.set_cons_succ])
                      refine wpAnyH_done (by kernel_rfl) ?_ _
                      have HRW8 := Lib.hid (HRBV.out _ HB8)
                      have HT8 := Lib.hid (HT.out.below (HTW.out _ HB8))
                      have HR8 := Lib.hid (HRP.out _ HB8)
                      have hown : ∀ b', (wr.heap.size ≤ b' ∧ b' < w5.heap.size) → W1.heap.size + 1 ≤ b' ∧ b' < w8.heap.size ∧ Value.ownBlock (.slice o4 Lt.length c4) ≠ some b' := by
                        intro b' hb'
                        have hl := HRB.out.lt
                        have hs8 := (HTW.out _ HB8).size
                        have hs6 := HB8.out.size
                        have hs65 := HS6.out
                        refine ⟨by omega, by omega, fun h => ?_⟩
                        have := (HT.out.ownLt h).2; omega
                      have HOWN := Lib.hid hown
                      have hLn : Lt.length ≤ 1000000000 := by omega
                      have hl8 : W1.heap.size < w8.heap.size := HRW8.out.lt.2
                      have hbs : W1.heap.size + 1 ≤ w8.heap.size := hl8
                      obtain ⟨g0, g1, g2⟩ := cells3 HRW8.out.blk
                      obtain ⟨e6, e7, e8⟩ := HSK.out _ HB8
                      clear hown
                      go_wp2_with (at_builtin; refine wpList_append_box rfl (.tmp 95) (.tmp 97) 37 rfl (W1.heap.size + 1) 44 i0 _ 40 Tryz.underlying37 hi hz0 hz1 hz2 rfl (by decide) (.slice o4 Lt.length c4) rfl Lt _ 1 _ rfl rfl t (.string a) (.slice o' l' c') rfl rfl HT8.out HR8.out HOWN.out hLn hbs ?_; intro g' cap w9 hrow9 hb9; have HRB9 := Lib.hid (HRW8.out.below hb9); obtain ⟨k0, k1, k2⟩ := cells3 HRB9.out.blk; have kf := Lib.frozen_of_heap HRB9.out.blk 2; have HT9 := Lib.hid hrow9; clear hrow9)
                      have HRB10 := Lib.hid (HRB9.out.put2 (.slice (some ⟨g', 0, none⟩) (Lt.length + 1) cap))
                      have HT10 : Hid (TRow (w9.setCell ⟨W1.heap.size, 2, none⟩ (.slice (some ⟨g', 0, none⟩) (Lt.length + 1) cap)) (W1.heap.size + 1) 44 (.slice (some ⟨g', 0, none⟩) (Lt.length + 1) cap) (Lt ++ [t])) := HT9.out.setCell (a := ⟨W1.heap.size, 2, none⟩) (Nat.lt_succ_self _) _
                      go_wp2
                      go_roundw
                      case rel => exact ⟨Lt ++ [t], some ⟨g', 0, none⟩, cap, by simp; omega, by simp, by simpa using HRB10, by simpa using HT10, by simpa using HN3⟩
                      case measure => simp [intOf]; omega
            · have hln : Lt.length = n2 := by omega
              rw [hln] at HRB
              obtain rfl := HTR.out ⟨HLT.out, by have := HN.out; omega, by have := HN.out; have := HZ.out; omega, HTA.out, fun j s hs => HC.out j s (by have := (List.getElem?_eq_some_iff.1 hs).1; have := HN.out; omega) hs⟩
              obtain ⟨y0, y1, y2⟩ := cells3 HRB.out.blk
              obtain ⟨q0, q1, q2⟩ := cells3 HRB.out.zer
              have f0 := Lib.frozen_of_heap HRB.out.zer 0
              have f1 := Lib.frozen_of_heap HRB.out.zer 1
              have f2 := Lib.frozen_of_heap HRB.out.zer 2
              obtain ⟨-, hbz⟩ := HRB.out.fin (.string L) (.slice o3 n c3) (.slice o4 n2 c4) (.cells #[] 9)
              have HBZ := Lib.hid hbz
              clear hbz
              go_wp2
              exact bodyPost_ret (v := .tuple #[.agg #[.string L, .slice o3 n c3, .slice o4 n2 c4], .bool true]) (by simp [results, Tryz.results13, go_sem, q0, q1, q2]) rfl ⟨L, o3, n, c3, _, rfl, ⟨_, _, _, rfl⟩, fun _ => ⟨rfl, rfl⟩, HBZ.out⟩
end Go.Proofs.YtpamfjbgnpmmoaaGreatDoor
