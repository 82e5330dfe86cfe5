/- A form put for v: of the reference, the walk. -/
import Derived.Test.YtcobcmgmleblkaaPutS
import Derived.Test.YtcobcmgmleblkaaRepl
import Derived.Test.YtcobcmgmleblkaaTgtT
namespace Go.Proofs.Ytcobcmgmleblkaa
open Go.RowKit

theorem heap4P (w : World) (a b c d : Obj) : ((((w.alloc a).alloc b).alloc c).alloc d).heap[w.heap.size]? = some a ∧ ((((w.alloc a).alloc b).alloc c).alloc d).heap[w.heap.size + 1]? = some b ∧ ((((w.alloc a).alloc b).alloc c).alloc d).heap[w.heap.size + 1 + 1]? = some c ∧ ((((w.alloc a).alloc b).alloc c).alloc d).heap[w.heap.size + 1 + 1 + 1]? = some d := by
  obtain ⟨h1, h2, h3⟩ := heap3 w a b c
  refine ⟨box_kept _ h1, box_kept _ h2, box_kept _ h3, ?_⟩
  have := heap_alloc_new (((w.alloc a).alloc b).alloc c) d
  rwa [World.size_alloc, World.size_alloc, World.size_alloc] at this
theorem infoTreeP : (Try.prog.info? 46).map (fun i => (i.zero, i.size, i.bytes)) = some (some (.agg #[.string ⟨#[]⟩, .slice none 0 0]), 2, 40) := by kernel_rfl

set_option maxRecDepth 100000 in
set_option maxHeartbeats 3200000 in
theorem l6tPut_any (g : Tree) (n : Nat) : ∀ (t : Tree) (A D : Nat → Prop) (v : Value) (ga : ByteArray) (go : Option Addr) (gl gc : Nat) (w : World), t.sz ≤ n → Rep w A t v → Rep w D g (.agg #[.string ga, .slice go gl gc]) → (∀ b, A b → b < w.heap.size) → (∀ b, D b → b < w.heap.size) → t.sz ≤ 1000000000 → t.good = true →
    Calls Try.prog 83 #[v, .agg #[.string ga, .slice go gl gc]] w (MadeR (fun z => (A z ∨ D z) ∨ w.heap.size ≤ z) (t.put g) w) := by
  induction n with
  | zero => intro t A D v ga go gl gc w h; cases t; simp [Tree.sz] at h
  | succ n ih =>
    intro t A D v ga go gl gc w hn hr hg hA hD hb hgood
    have HR := Lib.hid hr
    have HG := Lib.hid hg
    have HA := Lib.hid hA
    have HD := Lib.hid hD
    have HAD : Hid (∀ b, (A b ∨ D b) → b < w.heap.size) := fun b h => h.elim (hA b) (hD b)
    obtain ⟨s, ps⟩ := t
    simp only [Rep] at hr
    obtain ⟨o, l, c, rfl, hs, hcap⟩ := hr
    obtain rfl := hs.len
    obtain ⟨hgl, hge⟩ := Tree.good_parts hgood
    clear hg hA hD
    cases ps with
    | nil =>
      have hemp : s.toList.isEmpty = false := by rw [Lib.toList_data]; simpa using hge.1 rfl
      have hemp2 : (s.toList == []) = false := by rw [Lib.toList_data]; simpa using hge.1 rfl
      clear hge hgl ih hgood
      by_cases hv : s.data.toList = [118]
      · have hvb : (s.toList == [118]) = true := by rw [Lib.toList_data, hv]; rfl
        rw [put_v g hv]
        clear hv
        go_enter Try.func83, Try.ntmps83
        go_wp2
        exact bodyPost_ret (v := .agg #[.string ga, .slice go gl gc]) (by simp [results, Try.results83, go_sem]) rfl ⟨ga, go, gl, gc, rfl, by
          exact Rep.weak (fun b hb => .inl (.inr hb)) _ _ (Rep.keep (by repeat' (first | exact Keeps.refl _ _ | refine Keeps.setCell ?_ (fun b hb => by have := HD.out b hb; simp; omega) _ | refine Keeps.alloc' ?_ _)) _ _ HG.out), by repeat' (first | exact Below.refl _ _ | refine Below.setCell ?_ (by simp; omega) _ | refine Below.alloc ?_ (by simp; try omega) _)⟩
      · have hvb : (s.toList == [118]) = false := by rw [Lib.toList_data]; simpa using hv
        rw [put_not g hv]
        clear hv
        go_enter Try.func83, Try.ntmps83
        go_wp2
        exact bodyPost_ret (v := .agg #[.string s, .slice o 0 c]) (by simp [results, Try.results83, go_sem]) rfl ⟨s, o, 0, c, rfl, by
          simp only [Rep]; exact ⟨o, 0, c, rfl, RepS.nil _ _ _, Nat.zero_le _⟩, by repeat' (first | exact Below.refl _ _ | refine Below.setCell ?_ (by simp; omega) _ | refine Below.alloc ?_ (by simp; try omega) _)⟩
    | cons p ps =>
      have hse : s.data.toList = [] := Classical.byContradiction fun h => absurd (hge.2 h) (by simp)
      have hemp : s.toList.isEmpty = true := by rw [Lib.toList_data, hse]; rfl
      have hemp2 : (s.toList == []) = true := by rw [Lib.toList_data, hse]; rfl
      have hvb : (s.toList == [118]) = false := by rw [Lib.toList_data, hse]; rfl
      obtain ⟨b, off, rfl, hAb, hc⟩ := hs.uncons
      obtain ⟨o0, n0, c0', ca0, cb0, r0⟩ := hc.nth 0 (k := off) rfl rfl
      have hlb : b < w.heap.size := HA.out b hAb
      have hlp : 0 < (p :: ps).length := by simp
      have hlp2 : (0 : Int) < ((p :: ps).length : Int) := by omega
      have ca1 : ∀ x y z, (((w.alloc x).alloc y).alloc z).cell? ⟨b, off, none⟩ = some (.string p.atom) := fun x y z => ((((Below.refl w.heap.size w).alloc (Nat.le_refl _) x).alloc (by simp) y).alloc (by simp; omega) z |>.cell (by simpa using hlb)).trans ca0
      clear hse hge hgood r0 hAb hc
      by_cases he : p.atom.data.toList = [101]
      · have heb : (p.atom.toList == [101]) = true := by rw [Lib.toList_data, he]; rfl
        rw [put_e g he]
        clear he ih
        go_enter Try.func83, Try.ntmps83
        go_wp2
        exact bodyPost_ret (v := .agg #[.string s, .slice (some ⟨b, off, none⟩) (p :: ps).length c]) (by simp [results, Try.results83, go_sem]) rfl ⟨s, some ⟨b, off, none⟩, (p :: ps).length, c, rfl, by
          exact Rep.weak (fun b hb => .inl (.inl hb)) _ _ (Rep.keep (by repeat' (first | exact Keeps.refl _ _ | refine Keeps.setCell ?_ (fun b hb => by have := HA.out b hb; simp; omega) _ | refine Keeps.alloc' ?_ _)) _ _ HR.out), by repeat' (first | exact Below.refl _ _ | refine Below.setCell ?_ (by simp; omega) _ | refine Below.alloc ?_ (by simp; try omega) _)⟩
      · have heb : (p.atom.toList == [101]) = false := by rw [Lib.toList_data]; simpa using he
        rw [put_on g he]
        obtain ⟨i0, hi, hz0, hz1, hz2⟩ := info_parts infoTreeP
        have hl2 := Tree.length_le_szL (p :: ps)
        have HGL := Lib.hid hgl
        simp only [Tree.sz] at hb hn
        generalize p :: ps = qs at *
        clear he hgl HR
        have bel4 : Below w.heap.size w ((((w.alloc (.cells #[.string s, .slice (some ⟨b, off, none⟩) qs.length c] 46)).alloc (.cells #[.string ga, .slice go gl gc] 46)).alloc (.cells #[.string ⟨#[]⟩, .slice none 0 0] 46)).alloc (.cells #[.string ⟨#[]⟩, .slice none 0 0] 46)) := (((((Below.refl _ _).alloc (Nat.le_refl _) _).alloc (by simp) _).alloc (by simp; omega) _).alloc (by simp; omega) _)
        go_enter Try.func83, Try.ntmps83
        go_wp2
        go_loopw [6] (fun iv wr => ∃ (L : List Tree) (o1 : Option Addr) (c1 : Nat), Hid (L = Tree.putL (qs.take L.length) g) ∧ L.length ≤ qs.length ∧ iv = .int .i64 L.length ∧ Hid (wr.heap[w.heap.size + 1 + 1 + 1]? = some (.cells #[.string ⟨#[]⟩, .slice o1 L.length c1] 46 (0, 0))) ∧
            Hid (wr.heap[w.heap.size]? = some (.cells #[.string s, .slice (some ⟨b, off, none⟩) qs.length c] 46 (0, 0))) ∧ Hid (wr.heap[w.heap.size + 1]? = some (.cells #[.string ga, .slice go gl gc] 46 (0, 0))) ∧ Hid (wr.heap[w.heap.size + 1 + 1]? = some (.cells #[.string ⟨#[]⟩, .slice none 0 0] 46 (0, 0))) ∧
            Hid (URow wr (w.heap.size + 1 + 1 + 1 + 1) (fun b => A b ∨ D b) 46 (.slice o1 L.length c1) L) ∧ Below w.heap.size w wr) (fun iv _ => qs.length - (intOf iv).toNat)
        case atStart =>
          obtain ⟨q0, q1, q2, q3⟩ := heap4P w (.cells #[.string s, .slice (some ⟨b, off, none⟩) qs.length c] 46) (.cells #[.string ga, .slice go gl gc] 46) (.cells #[.string ⟨#[]⟩, .slice none 0 0] 46) (.cells #[.string ⟨#[]⟩, .slice none 0 0] 46)
          exact ⟨[], none, 0, rfl, Nat.zero_le _, rfl, q3, q0, q1, q2, URow.nil _ _ _ _, bel4⟩
        case round =>
          obtain ⟨L, o1, cc, HL, hk, rfl, HO, H0, H1, H2, HU, hbr⟩ := hrel
          have hlO : w.heap.size + 1 + 1 + 1 < wr.heap.size := (Array.getElem?_eq_some_iff.1 HO.out).1
          obtain ⟨a0, a1⟩ := box_cells H0.out
          obtain ⟨b0, b1⟩ := box_cells H1.out
          obtain ⟨r0, r1⟩ := box_cells H2.out
          have fr0 : wr.frozen? ⟨w.heap.size + 1 + 1, 0, none⟩ = false := Lib.frozen_of_heap H2.out 0
          have fr1 : wr.frozen? ⟨w.heap.size + 1 + 1, 1, none⟩ = false := Lib.frozen_of_heap H2.out 1
          obtain ⟨d0, d1⟩ := box_cells HO.out
          by_cases hlt : L.length < qs.length
          · obtain ⟨p', hp⟩ : ∃ p, qs[L.length]? = some p := ⟨qs[L.length], by simp [hlt]⟩
            obtain ⟨b', off', o', n', c', hbo, -, hx, hy, hrp⟩ := (RepS.keep (Keeps.below hbr) _ _ _ (RepS.bound _ _ _ hs)).partAt hp
            cases hbo
            have HT : Hid (Tree.putL (qs.take (L.length + 1)) g = L ++ [p'.put g]) := by show _ = _; rw [Tree.putL_take g qs L.length p' hp, ← HL.out]
            have h3 : p'.sz ≤ n := by have := Tree.sz_part qs L.length p' hp; omega
            have h4 : p'.sz ≤ 1000000000 := by have := Tree.sz_part qs L.length p' hp; omega
            have h6 := Tree.good_part qs L.length p' hp HGL.out
            have HCC : Hid (∀ W, Below wr.heap.size wr W → Calls Try.prog 83 #[.agg #[.string p'.atom, .slice o' n' c'], .agg #[.string ga, .slice go gl gc]] W
                (fun e w' => ∃ a'' o'' l'' c'', e = .returned (.agg #[.string a'', .slice o'' l'' c'']) ∧ Hid (Rep w' (fun b => ((A b ∨ D b) ∨ w.heap.size + 1 + 1 + 1 + 1 ≤ b) ∧ b < w'.heap.size ∧ (Value.slice o1 L.length cc).ownBlock ≠ some b) (p'.put g) (.agg #[.string a'', .slice o'' l'' c''])) ∧ Hid (URow w' (w.heap.size + 1 + 1 + 1 + 1) (fun b => A b ∨ D b) 46 (.slice o1 L.length cc) L) ∧ Below wr.heap.size wr w')) := by
              intro W hW
              have hWs := hW.size
              refine (ih p' A D (.agg #[.string p'.atom, .slice o' n' c']) ga go gl gc W h3 (Rep.weak (fun b hb => hb.1) _ _ (Rep.keep (Keeps.below hW) _ _ hrp)) (Rep.keep ((Keeps.below hbr).trans (Keeps.below hW)) _ _ HG.out) (fun b hb => by have := HA.out b hb; omega) (fun b hb => by have := HD.out b hb; omega) h4 h6).mono ?_
              rintro e w' ⟨a'', o'', l'', c'', rfl, hr, hb⟩
              have hzz := hb.size
              refine ⟨a'', o'', l'', c'', rfl, Rep.weak (fun b hb => ⟨hb.1.imp id (by omega), hb.2, fun e => ?_⟩) _ _ (Rep.bound _ _ hr), HU.out.below (hW.trans (hb.mono hWs)), hW.trans (hb.mono hWs)⟩
              have h5 := HU.out.ownLt e
              rcases hb.1 with h6 | h6
              · have := HAD.out b h6; omega
              · omega
            have hlen0 : (0 : Int) ≤ (L.length : Int) := Int.natCast_nonneg _
            have hlen1 : (L.length : Int) < (qs.length : Int) := by omega
            have hLn : L.length ≤ 1000000000 := by omega
            clear hp hrp h3 h4 h6 ih
            go_wp2_with fail
            go_region_law (first
                | (refine step_append_utree (by rfl) (.tmp 32) (.tmp 40) 44 (by rfl) (w.heap.size + 1 + 1 + 1 + 1) (fun b => A b ∨ D b) 46 i0 _ 40 Try.underlying44 hi hz0 hz1 hz2 rfl (by decide) (.slice o1 L.length cc) (by rfl) L (by first | exact HU2.out.alloc _ | exact (HU2.out.alloc _).drew) w2.heap.size 0 1 (by rfl) (p'.put g) (.string a'') (.slice o'' l'' c'') (two_new w2 _ _ _).1 (two_new w2 _ _ _).2 rfl rfl (A := fun b => ((A b ∨ D b) ∨ w.heap.size + 1 + 1 + 1 + 1 ≤ b) ∧ b < w2.heap.size ∧ (Value.slice o1 L.length cc).ownBlock ≠ some b) (Rep.keep (Keeps.alloc _ w2 (.cells #[.string a'', .slice o'' l'' c''] 46)) _ _ HR2.out) (fun b hb => ⟨hb.1, by have := hb.2.1; simp <;> omega, hb.2.2⟩) hLn (by have := hbS2.size; simp <;> omega) ?_; intro g' cap w3 HU3 hb3; have hbS3 := (hbS2.alloc (by have := hbS2.size; omega) (.cells #[.string a'', .slice o'' l'' c''] 46)).trans (hb3.mono (by omega)); have hO3 := (hb3.block (w.heap.size + 1 + 1 + 1) (by omega)).trans ((Below.heap_alloc w2 (.cells #[.string a'', .slice o'' l'' c''] 46) _ (by have := hbS2.size; omega)).trans HO2.out); obtain ⟨k0, k1⟩ := box_cells hO3; have k2 := Lib.frozen_of_heap hO3 1; have k3 : w.heap.size + 1 + 1 + 1 < w3.heap.size := (by have := hbS3.size; omega); have HO3 := Lib.hid hO3; clear hO3; have HU3' := Lib.hid HU3; clear HU3)
                | (go_simp; go_wp2_with (go_at_call 83; refine (HCC.out _ ?_).mono ?_; (first | exact (Below.refl _ _) | exact (Below.refl _ _).drew); rintro e w2 ⟨a'', o'', l'', c'', rfl, HR2, HU2, hb2⟩; have hbS2 : Below (w.heap.size + 1 + 1 + 1) wr w2 := hb2.mono (by omega); have hl2' : w.heap.size + 1 + 1 + 1 < w2.heap.size := (by have := hb2.size; omega); have HO2 := Lib.hid ((hb2.block (w.heap.size + 1 + 1 + 1) (by omega)).trans HO.out); obtain ⟨g0, g1⟩ := box_cells HO2.out)))
            all_goals
              have hO4 := heap_setCell_same w3 (w.heap.size + 1 + 1 + 1) 1 _ _ (.slice (some ⟨g', 0, none⟩) (L.length + 1) cap) HO3.out
              have hO4 := Lib.hid hO4
              have HU4 := Lib.hid (HU3'.out.setCell (a := ⟨w.heap.size + 1 + 1 + 1, 1, none⟩) (by simp) (fun h => by have := HAD.out _ h; simp at this; omega) (.slice (some ⟨g', 0, none⟩) (L.length + 1) cap))
              have HB4 : Hid (Below w.heap.size w (w3.setCell ⟨w.heap.size + 1 + 1 + 1, 1, none⟩ (.slice (some ⟨g', 0, none⟩) (L.length + 1) cap))) := (hbr.trans (hbS3.mono (by omega))).setCell (by simp; omega) _
              have hw3 : Below (w.heap.size + 1 + 1 + 1) wr (w3.setCell ⟨w.heap.size + 1 + 1 + 1, 1, none⟩ (.slice (some ⟨g', 0, none⟩) (L.length + 1) cap)) := hbS3.setCell (by simp) _
              have E0 := Lib.hid ((hw3.block w.heap.size (by omega)).trans H0.out)
              have E1 := Lib.hid ((hw3.block (w.heap.size + 1) (by omega)).trans H1.out)
              have E2 := Lib.hid ((hw3.block (w.heap.size + 1 + 1) (by omega)).trans H2.out)
              have HLT : Hid (L ++ [p'.put g] = Tree.putL (qs.take (L ++ [p'.put g]).length) g) := by show _ = _; rw [List.length_append, List.length_singleton, HT.out]
              clear HO3 HU3' hb3 HU2 HR2 HCC hw3 hbS3 hbS2 hb2 HO2
              go_wp2
              go_roundw
              case rel => exact ⟨L ++ [p'.put g], some ⟨g', 0, none⟩, cap, HLT, by simp; omega, by simp, by simpa using hO4, E0, E1, E2, by simpa using HU4, HB4.out⟩
              case measure => simp [intOf]; omega
          · have HF : Hid (L = Tree.putL qs g) := by
              have := HL.out
              rwa [List.take_of_length_le (by omega)] at this
            have hlr : w.heap.size + 1 + 1 < wr.heap.size := by omega
            go_wp2
            exact bodyPost_ret (v := .agg #[.string ⟨#[]⟩, .slice o1 L.length cc]) (by simp [results, Try.results83, go_sem, r0, r1]) rfl ⟨⟨#[]⟩, o1, L.length, cc, rfl, by
              rw [← HF.out]
              refine Rep.weak (fun b hb => ?_) _ _ (Rep.keep (((Keeps.refl _ _).setCell (fun b hb => ?_) _).setCell (fun b hb => ?_) _) _ _ (HU.out.rep ⟨#[]⟩))
              · rcases hb with hb | hb
                · exact .inl hb
                · right; omega
              · rcases hb with hb | hb
                · have := HAD.out b hb; dsimp only; omega
                · dsimp only; omega
              · rcases hb with hb | hb
                · have := HAD.out b hb; dsimp only; omega
                · dsimp only; omega, (hbr.setCell (by dsimp only; omega) _).setCell (by dsimp only; omega) _⟩
end Go.Proofs.Ytcobcmgmleblkaa
