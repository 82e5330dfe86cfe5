/- Environments, of the program and of the reference. -/
import Derived.Test.YtnhmbncamimehaaSType
import Derived.Test.YtnhmbncamimehaaName
import Derived.Test.YtnhmbncamimehaaMake
import Derived.Lib.BufferMore
namespace Go.Proofs.Ytnhmbncamimehaa
open Go.RowKit

def typeB (s : ByteArray) : Bool := (ptype s.data.toList).isSome
def namB (s : ByteArray) : Bool := nameB s.data.toList
/-- Are two lists an environment? -/
def envB (ns ts : List ByteArray) : Bool := ns.all namB && ts.all typeB && (decide (ns.length = ts.length) && decide (ns.length ≤ 8))

set_option maxRecDepth 100000 in
set_option maxHeartbeats 800000 in
theorem sEnvValid_any (ns ts : List ByteArray) (o1 o2 : Option Addr) (n1 c1 n2 c2 : Nat) (w : World) (h1 : Strs w o1 n1 ns) (h2 : Strs w o2 n2 ts) (hn1 : n1 ≤ 1000000000) (hn2 : n2 ≤ 1000000000)
    (hz1 : ∀ s ∈ ns, s.size ≤ 1000000000) (hz2 : ∀ s ∈ ts, s.size ≤ 1000000000) :
    Calls Try.prog 16 #[.slice o1 n1 c1, .slice o2 n2 c2] w fun e w' => e = .returned (.bool (envB ns ts)) ∧ Below w.heap.size w w' := by
  have H1 := Lib.hid h1
  have H2 : Hid (∀ W, Below w.heap.size w W → Strs W o2 n2 ts) := fun W h => h2.keep h
  have HL1 := Lib.hid h1.1
  have HL2 := Lib.hid h2.1
  have HZ1 := Lib.hid hz1
  have HZ2 := Lib.hid hz2
  have HE : Hid (envB ns ts = (ns.all namB && ts.all typeB && (decide ((n1 : Int) = (n2 : Int)) && decide ((n1 : Int) ≤ 8)))) := by
    show _ = _; unfold envB; rw [← h1.1, ← h2.1]
    rw [show decide (n1 = n2) = decide ((n1 : Int) = (n2 : Int)) from by rw [Bool.eq_iff_iff]; simp; omega, show decide (n1 ≤ 8) = decide ((n1 : Int) ≤ 8) from by rw [Bool.eq_iff_iff]; simp; omega]
  clear h1 h2 hz1 hz2
  go_enter Try.func16, Try.ntmps16
  go_wp2
  go_loopw [5] (fun iv wr => ∃ k : Nat, k ≤ n1 ∧ iv = .int .i64 k ∧ Hid (∀ (j : Nat) (s : ByteArray), j < k → ns[j]? = some s → namB s = true) ∧ w = wr) (fun iv _ => n1 - (intOf iv).toNat)
  case atStart => exact ⟨0, Nat.zero_le _, rfl, fun j s h => by omega, (by first | rfl | trivial)⟩
  case round =>
    obtain ⟨k, hk, rfl, HK, rfl⟩ := hrel
    by_cases hlt : k < n1
    · obtain ⟨b, off, s, rfl, hx, hc⟩ := H1.out.at hlt
      have HX := Lib.hid hx
      have HM := Lib.hid (fun W => l2Name_any s W (HZ1.out s (List.mem_of_getElem? hx)))
      clear hx
      cases hs : nameB s.data.toList
      · have HF : Hid (ns.all namB = false) := by show _ = _; rw [List.all_eq_false]; exact ⟨s, List.mem_of_getElem? HX.out, by simp [namB, hs]⟩
        rw [hs] at HM
        clear hs
        go_wp2_with fail
        refine (HM.out _).mono ?_
        rintro e w1 ⟨rfl, rfl⟩
        go_wp2
        go_ret
        exact ⟨ret_bool (by rw [HE.out, HF.out]; rfl), Below.refl _ _⟩
      · have HY : Hid (namB s = true) := hs
        rw [hs] at HM
        clear hs
        go_wp2_with fail
        refine (HM.out _).mono ?_
        rintro e w1 ⟨rfl, rfl⟩
        go_wp2
        go_roundw
        case rel => exact ⟨k + 1, by omega, by go_num, fun j s' hj hs' => by
          by_cases h : j = k
          · subst h; rw [HX.out] at hs'; cases hs'; exact HY.out
          · exact HK.out j s' (by omega) hs', (by first | rfl | trivial)⟩
        case measure => simp [intOf]; omega
    · have HA : Hid (ns.all namB = true) := by
        show _ = _
        rw [List.all_eq_true]
        intro s hs
        obtain ⟨i, hi⟩ := List.getElem?_of_mem hs
        exact HK.out i s (by have := (List.getElem?_eq_some_iff.1 hi).1; have := HL1.out; omega) hi
      clear HK
      go_wp2
      go_loopw [6] (fun iv wr => ∃ k : Nat, k ≤ n2 ∧ iv = .int .i64 k ∧ Hid (∀ (j : Nat) (s : ByteArray), j < k → ts[j]? = some s → typeB s = true) ∧ Below w.heap.size w wr) (fun iv _ => n2 - (intOf iv).toNat)
      case atStart => exact ⟨0, Nat.zero_le _, rfl, fun j s h => by omega, Below.refl _ _⟩
      case round =>
        obtain ⟨k2, hk2, rfl, HK, hbr⟩ := hrel
        by_cases hlt2 : k2 < n2
        · obtain ⟨b, off, s, rfl, hx, hc⟩ := (H2.out _ hbr).at hlt2
          have HX := Lib.hid hx
          have HM := Lib.hid (fun W => sTypeValid_any s W (HZ2.out s (List.mem_of_getElem? hx)))
          clear hx
          cases hs : (ptype s.data.toList).isSome
          · have HF : Hid (ts.all typeB = false) := by show _ = _; rw [List.all_eq_false]; exact ⟨s, List.mem_of_getElem? HX.out, by simp [typeB, hs]⟩
            rw [hs] at HM
            clear hs
            go_wp2_with fail
            refine (HM.out _).mono ?_
            rintro e w1 ⟨rfl, hb1⟩
            go_wp2
            go_ret
            exact ⟨ret_bool (by rw [HE.out, HA.out, HF.out]; rfl), hbr.trans (hb1.mono hbr.size)⟩
          · have HY : Hid (typeB s = true) := hs
            rw [hs] at HM
            clear hs
            go_wp2_with fail
            refine (HM.out _).mono ?_
            rintro e w1 ⟨rfl, hb1⟩
            have hbr2 := hbr.trans (hb1.mono hbr.size)
            go_wp2
            go_roundw
            case rel => exact ⟨k2 + 1, by omega, by go_num, fun j s' hj hs' => by
              by_cases h : j = k2
              · subst h; rw [HX.out] at hs'; cases hs'; exact HY.out
              · exact HK.out j s' (by omega) hs', hbr2⟩
            case measure => simp [intOf]; omega
        · have HA2 : Hid (ts.all typeB = true) := by
            show _ = _
            rw [List.all_eq_true]
            intro s hs
            obtain ⟨i, hi⟩ := List.getElem?_of_mem hs
            exact HK.out i s (by have := (List.getElem?_eq_some_iff.1 hi).1; have := HL2.out; omega) hi
          have HR : Hid (envB ns ts = (decide ((n1 : Int) = (n2 : Int)) && decide ((n1 : Int) ≤ 8))) := by show _ = _; rw [HE.out, HA.out, HA2.out]; rfl
          clear HK HA HA2 HE
          by_cases he : n1 = n2
          · have e1 : ((n1 : Int) == (n2 : Int)) = true := by simp; omega
            have HR2 : Hid (envB ns ts = decide ((n1 : Int) ≤ 8)) := by show _ = _; rw [HR.out, decide_eq_true (by omega)]; rfl
            clear he HR
            go_wp2
            go_ret
            exact ⟨ret_bool HR2.out.symm, hbr⟩
          · have e1 : ((n1 : Int) == (n2 : Int)) = false := by simp only [beq_eq_false_iff_ne, ne_eq]; omega
            have HR2 : Hid (envB ns ts = false) := by show _ = _; rw [HR.out, decide_eq_false (by omega)]; rfl
            clear he HR
            go_wp2
            go_ret
            exact ⟨ret_bool HR2.out.symm, hbr⟩

theorem env_set {W : World} {g : Nat} {ty : TypeId} {x y : Value} (h : W.heap[g]? = some (.cells #[x, y] ty (0, 0))) (a b : Value) : ((W.setCell ⟨g, 0, none⟩ a).setCell ⟨g, 1, none⟩ b).heap[g]? = some (.cells #[a, b] ty (0, 0)) :=
  Lib.heap_setCell_same (i := 1) (Lib.heap_setCell_same (i := 0) h a) b

set_option maxRecDepth 100000 in
set_option maxHeartbeats 3200000 in
theorem readEnv_any (ns ts : List ByteArray) (o1 o2 : Option Addr) (n1 c1 n2 c2 : Nat) (w : World) (h1 : Strs w o1 n1 ns) (h2 : Strs w o2 n2 ts) (hn1 : n1 ≤ 1000000000) (hn2 : n2 ≤ 1000000000)
    (hz1 : ∀ s ∈ ns, s.size ≤ 1000000000) (hz2 : ∀ s ∈ ts, s.size ≤ 1000000000) :
    Calls Try.prog 46 #[.slice o1 n1 c1, .slice o2 n2 c2] w fun e w' => (∃ a b c d f g, e = .returned (.tuple #[.agg #[.slice a b c, .slice d f g], .bool (envB ns ts)])) ∧ Below w.heap.size w w' := by
  have H1 : Hid (∀ W, Below w.heap.size w W → Strs W o1 n1 ns) := fun W h => h1.keep h
  have H2 : Hid (∀ W, Below w.heap.size w W → Strs W o2 n2 ts) := fun W h => h2.keep h
  have HL1 := Lib.hid h1.1
  have HL2 := Lib.hid h2.1
  have HZ1 := Lib.hid hz1
  have HZ2 := Lib.hid hz2
  clear h1 h2 hz1 hz2
  by_cases h8 : 8 < n1
  · have HE : Hid (envB ns ts = false) := by show _ = _; unfold envB; rw [← HL1.out, decide_eq_false (show ¬ n1 ≤ 8 by omega)]; simp
    go_enter Try.func46, Try.ntmps46
    go_wp2
    exact bodyPost_ret (v := .tuple #[.agg #[.slice none 0 0, .slice none 0 0], .bool false]) (by simp [results, Try.results46, go_sem]) rfl ⟨⟨_, _, _, _, _, _, by rw [HE.out]⟩, (by repeat' (first | exact Below.refl _ _ | refine Below.setCell ?_ (by simp) _ | refine Below.alloc ?_ (by simp) _))⟩
  by_cases he : n1 = n2
  rotate_left
  · have HE : Hid (envB ns ts = false) := by show _ = _; unfold envB; rw [← HL1.out, ← HL2.out, decide_eq_false he]; simp
    have e1 : ((n1 : Int) != (n2 : Int)) = true := by simp only [bne_iff_ne, ne_eq]; omega
    go_enter Try.func46, Try.ntmps46
    go_wp2
    exact bodyPost_ret (v := .tuple #[.agg #[.slice none 0 0, .slice none 0 0], .bool false]) (by simp [results, Try.results46, go_sem]) rfl ⟨⟨_, _, _, _, _, _, by rw [HE.out]⟩, (by repeat' (first | exact Below.refl _ _ | refine Below.setCell ?_ (by simp) _ | refine Below.alloc ?_ (by simp) _))⟩
  · subst he
    have e1 : ((n1 : Int) != (n1 : Int)) = false := by simp
    have HE : Hid (envB ns ts = (ns.all namB && ts.all typeB)) := by show _ = _; unfold envB; rw [← HL1.out, ← HL2.out, decide_eq_true rfl, decide_eq_true (show n1 ≤ 8 by omega)]; simp
    obtain ⟨i0, hi, hz0, hz1, hz2⟩ := info_parts info50
    go_enter Try.func46, Try.ntmps46
    go_wp2
    go_loopw [26] (fun iv wr => ∃ (L : List Tree) (o : Option Addr) (c : Nat), L.length ≤ n1 ∧ iv = .int .i64 L.length ∧ Hid (wr.heap[w.heap.size]? = some (.cells #[.slice none 0 0, .slice none 0 0] 37 (0, 0))) ∧ Hid (wr.heap[w.heap.size + 1]? = some (.cells #[.slice o1 n1 c1, .slice o L.length c] 37 (0, 0))) ∧ Hid (TRow wr (w.heap.size + 2) 46 (.slice o L.length c) L) ∧
        Hid (∀ (j : Nat) (s : ByteArray), j < L.length → ts[j]? = some s → typeB s = true) ∧ Hid (∀ (j : Nat) (s : ByteArray), j < L.length → ns[j]? = some s → namB s = true) ∧ Below w.heap.size w wr) (fun iv _ => n1 - (intOf iv).toNat)
    case atStart =>
      refine ⟨[], none, 0, Nat.zero_le _, rfl, Lib.hid ?_, Lib.hid ?_, TRow.nil _ _ _, fun j s h => absurd h (Nat.not_lt_zero _), fun j s h => absurd h (Nat.not_lt_zero _), ?_⟩
      · exact (Lib.alloc_old _ _ _ (by simp)).trans (heap_alloc_new _ _)
      · have h := heap_alloc_new (w.alloc (.cells #[.slice none 0 0, .slice none 0 0] 37)) (.cells #[.slice o1 n1 c1, .slice none 0 0] 37)
        rw [World.size_alloc] at h
        exact h
      · exact ((Below.refl _ _).alloc (Nat.le_refl _) _).alloc (by simp) _
    case round =>
      obtain ⟨L, o, c, hk, rfl, HX0, HX1, HT, HTY, HNM, hbr⟩ := hrel
      obtain ⟨x0, y0⟩ := box_cells HX0.out
      obtain ⟨x1, y1⟩ := box_cells HX1.out
      have f0 := Lib.frozen_of_heap HX0.out 0
      have f1 := Lib.frozen_of_heap HX0.out 1
      have hl0 := (Array.getElem?_eq_some_iff.1 HX0.out).1
      have hl1 := (Array.getElem?_eq_some_iff.1 HX1.out).1
      by_cases hlt : L.length < n1
      · obtain ⟨b, off, s, ho, hx, hc⟩ := (H2.out _ hbr).at hlt
        have HX := Lib.hid hx
        have HM := Lib.hid (fun W => readType_any s W (HZ2.out s (List.mem_of_getElem? hx)))
        clear hx
        subst ho
        go_wp2_with fail
        refine (HM.out _).mono ?_
        rintro e w2 ⟨a, o', l', c', ok, t, rfl, hb2, hr, hok, -⟩
        have hz2s := hb2.size
        have HY0 := Lib.hid ((hb2.block _ hl0).trans HX0.out)
        have HY1 := Lib.hid ((hb2.block _ hl1).trans HX1.out)
        have hbr2 := hbr.trans (hb2.mono hbr.size)
        have HB2 := Lib.hid (hbr2.alloc hbr2.size (.cells #[.string a, .slice o' l' c'] 46))
        obtain ⟨x2, y2⟩ := box_cells HY0.out
        obtain ⟨x3, y3⟩ := box_cells HY1.out
        have g0 := Lib.frozen_of_heap HY0.out 0
        have g1 := Lib.frozen_of_heap HY0.out 1
        have g2 := Lib.frozen_of_heap HY1.out 1
        have hl2 : w.heap.size + 1 < w2.heap.size := by omega
        have hl3 : w.heap.size < w2.heap.size := by omega
        have HZB : Hid (Below w.heap.size w (((w2.setCell ⟨w.heap.size, 0, none⟩ (.slice none 0 0)).setCell ⟨w.heap.size, 1, none⟩ (.slice none 0 0)).alloc (.cells #[.string a, .slice o' l' c'] 46))) := ((hbr2.setCell (by simp) _).setCell (by simp) _).alloc (by simp; omega) _
        have HZC := Lib.hid (box_cells ((Lib.alloc_old ((w2.setCell ⟨w.heap.size, 0, none⟩ (.slice none 0 0)).setCell ⟨w.heap.size, 1, none⟩ (.slice none 0 0)) (.cells #[.string a, .slice o' l' c'] 46) w.heap.size (by simp; omega)).trans (env_set HY0.out _ _)))
        cases ok
        · have HF : Hid (envB ns ts = false) := by
            have : ts.all typeB = false := by rw [List.all_eq_false]; exact ⟨s, List.mem_of_getElem? HX.out, by unfold typeB; rw [← hok]; simp⟩
            show _ = _; rw [HE.out, this, Bool.and_false]
          clear hok hr
          go_wp2
          exact bodyPost_ret (v := .tuple #[.agg #[.slice none 0 0, .slice none 0 0], .bool false]) (by simp [results, Try.results46, go_sem, HZC.out.1, HZC.out.2]) rfl ⟨⟨_, _, _, _, _, _, by rw [HF.out]⟩, HZB.out⟩
        · have HTS : Hid (typeB s = true) := hok.symm
          obtain ⟨s', hx'⟩ : ∃ s', ns[L.length]? = some s' := ⟨ns[L.length]'(by rw [← HL1.out]; exact hlt), by simp⟩
          obtain ⟨b', off', s'', ho', hx'', hc'⟩ := (H1.out _ HB2.out).at hlt
          obtain rfl : s' = s'' := by rw [hx'] at hx''; exact Option.some.inj hx''
          subst ho'
          have HX2 := Lib.hid hx'
          have HNMs := Lib.hid (fun W => isName_any s' W (HZ1.out s' (List.mem_of_getElem? hx')))
          clear hx' hx'' hok
          cases hs : nameB s'.data.toList
          · have HF : Hid (envB ns ts = false) := by
              have : ns.all namB = false := by rw [List.all_eq_false]; exact ⟨s', List.mem_of_getElem? HX2.out, by simp [namB, hs]⟩
              show _ = _; rw [HE.out, this, Bool.false_and]
            rw [hs] at HNMs
            clear hs hr
            go_wp2_with fail
            refine (HNMs.out _).mono ?_
            rintro e w3 ⟨rfl, rfl⟩
            go_wp2
            exact bodyPost_ret (v := .tuple #[.agg #[.slice none 0 0, .slice none 0 0], .bool false]) (by simp [results, Try.results46, go_sem, HZC.out.1, HZC.out.2]) rfl ⟨⟨_, _, _, _, _, _, by rw [HF.out]⟩, HZB.out⟩
          · have HNS : Hid (namB s' = true) := hs
            rw [hs] at HNMs
            clear hs
            have HT2 := Lib.hid ((HT.out.below hb2).alloc (.cells #[.string a, .slice o' l' c'] 46))
            have HR2 := Lib.hid (Rep.keep (Keeps.alloc _ _ (.cells #[.string a, .slice o' l' c'] 46)) _ _ (Rep.bound _ _ hr))
            have hown : ∀ b, (wr.heap.size ≤ b ∧ b < w2.heap.size) → w.heap.size + 2 ≤ b ∧ b < w2.heap.size + 1 ∧ Value.ownBlock (.slice o L.length c) ≠ some b := by
              intro b hb
              refine ⟨by omega, by omega, fun h => ?_⟩
              have := (HT.out.ownLt h).2; omega
            have hLn : L.length ≤ 1000000000 := by omega
            have HOWN := Lib.hid hown
            clear hr hown
            go_wp2_with fail
            refine (HNMs.out _).mono ?_
            rintro e w3 ⟨rfl, rfl⟩
            go_wp2_with (at_builtin; refine wpList_append_box rfl (.tmp 48) (.tmp 50) 35 rfl (w.heap.size + 2) 46 i0 _ 40 Try.underlying35 hi hz0 hz1 hz2 rfl (by decide) (.slice o L.length c) rfl L _ 1 _ rfl (by simp) t (.string a) (.slice o' l' c') rfl rfl HT2.out HR2.out (by simpa using HOWN.out) hLn (by simp; omega) ?_; intro g' cap w4 hrow4 hb4; have hs4 := (by have h := hb4.size; simp only [World.size_alloc] at h; exact h : w2.heap.size + 1 ≤ w4.heap.size); have HW0 : Hid (w4.heap[w.heap.size]? = some (.cells #[.slice none 0 0, .slice none 0 0] 37 (0, 0))) := (hb4.block _ (by omega)).trans ((Lib.alloc_old _ _ _ (by omega)).trans HY0.out); have HW1 : Hid (w4.heap[w.heap.size + 1]? = some (.cells #[.slice (some ⟨b', off', none⟩) n1 c1, .slice o L.length c] 37 (0, 0))) := (hb4.block _ (by omega)).trans ((Lib.alloc_old _ _ _ (by omega)).trans HY1.out); have hl4 : w.heap.size + 1 < w4.heap.size := (by omega); obtain ⟨x5, y5⟩ := box_cells HW1.out; have g5 := Lib.frozen_of_heap HW1.out 1)
            have HT4 := Lib.hid hrow4
            have HB4 := Lib.hid (HB2.out.trans (hb4.mono (by omega)))
            clear hrow4
            go_wp2
            go_roundw
            case rel =>
              refine ⟨L ++ [t], some ⟨g', 0, none⟩, cap, by simp; omega, by simp, ?_, ?_, ?_, fun j s2 hj hs2 => ?_, fun j s2 hj hs2 => ?_, ?_⟩
              · exact ((Below.refl (w.heap.size + 1) w4).setCell (Nat.le_refl _) _).block w.heap.size (Nat.lt_succ_self _) |>.trans HW0.out
              · have h := Lib.heap_setCell_same (i := 1) HW1.out (.slice (some ⟨g', 0, none⟩) (L.length + 1) cap)
                exact Lib.hid (by simpa using h)
              · have h := HT4.out.setCell (a := ⟨w.heap.size + 1, 1, none⟩) (Nat.lt_succ_self _) (.slice (some ⟨g', 0, none⟩) (L.length + 1) cap)
                exact Lib.hid (by simpa using h)
              · simp only [List.length_append, List.length_singleton] at hj
                by_cases h : j = L.length
                · subst h; rw [HX.out] at hs2; cases hs2; exact HTS.out
                · exact HTY.out j s2 (by omega) hs2
              · simp only [List.length_append, List.length_singleton] at hj
                by_cases h : j = L.length
                · subst h; rw [HX2.out] at hs2; cases hs2; exact HNS.out
                · exact HNM.out j s2 (by omega) hs2
              · exact HB4.out.setCell (Nat.le_succ _) _
            case measure => simp [intOf]; omega
      · have HA : Hid (envB ns ts = true) := by
          show _ = _
          rw [HE.out, Bool.and_eq_true, List.all_eq_true, List.all_eq_true]
          refine ⟨fun s hs => ?_, fun s hs => ?_⟩
          · obtain ⟨i, hi⟩ := List.getElem?_of_mem hs
            exact HNM.out i s (by have := (List.getElem?_eq_some_iff.1 hi).1; have := HL1.out; omega) hi
          · obtain ⟨i, hi⟩ := List.getElem?_of_mem hs
            exact HTY.out i s (by have := (List.getElem?_eq_some_iff.1 hi).1; have := HL2.out; omega) hi
        have HZC := Lib.hid (box_cells (env_set HX0.out (.slice o1 n1 c1) (.slice o L.length c)))
        go_wp2
        exact bodyPost_ret (v := .tuple #[.agg #[.slice o1 n1 c1, .slice o L.length c], .bool true]) (by simp [results, Try.results46, go_sem, HZC.out.1, HZC.out.2]) rfl ⟨⟨_, _, _, _, _, _, by rw [HA.out]⟩, (by repeat' (first | exact hbr | refine Below.setCell ?_ (by simp) _))⟩

set_option maxRecDepth 100000 in
set_option maxHeartbeats 800000 in
theorem envValid_any (ns ts : List ByteArray) (o1 o2 : Option Addr) (n1 c1 n2 c2 : Nat) (w : World) (h1 : Strs w o1 n1 ns) (h2 : Strs w o2 n2 ts) (hn1 : n1 ≤ 1000000000) (hn2 : n2 ≤ 1000000000)
    (hz1 : ∀ s ∈ ns, s.size ≤ 1000000000) (hz2 : ∀ s ∈ ts, s.size ≤ 1000000000) :
    Calls Try.prog 18 #[.slice o1 n1 c1, .slice o2 n2 c2] w fun e w' => e = .returned (.bool (envB ns ts)) ∧ Below w.heap.size w w' := by
  have HC := Lib.hid (readEnv_any ns ts o1 o2 n1 c1 n2 c2 w h1 h2 hn1 hn2 hz1 hz2)
  clear h1 h2 hz1 hz2
  go_enter Try.func18, Try.ntmps18
  go_wp2_with fail
  refine HC.out.mono ?_
  rintro e w1 ⟨⟨a, b, c, d, f, g, rfl⟩, hb1⟩
  go_wp2
  go_ret
  exact ⟨rfl, hb1.alloc hb1.size _⟩
end Go.Proofs.Ytnhmbncamimehaa
