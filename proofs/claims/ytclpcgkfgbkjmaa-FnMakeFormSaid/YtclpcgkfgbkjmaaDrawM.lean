/- Drawing the parts of a form: a row of texts of the call's own, beside the reader. -/
import Derived.Test.YtclpcgkfgbkjmaaDrawF
import Derived.Test.YtclpcgkfgbkjmaaStrs
import Derived.Test.YtclpcgkfgbkjmaaAtoms
namespace Go.Proofs.Ytclpcgkfgbkjmaa
open Go.RowKit

/-- A row of the call's own that lies behind the reader grows, or one of its cells is stored into: the reader stands. -/
theorem Rd.beside {w w' : World} {rb p : Nat} {row : Option Nat} (h : Rd w rb p) (hg : w.grownBy w' row) (hr : ∀ g, row = some g → rb < g) : Rd w' rb p := by
  have hl := h.lt
  obtain ⟨a, len, cap, h1, h2, h3⟩ := h
  refine ⟨a, len, cap, (hg.block rb hl (fun e => by have := hr rb e.symm; omega)).trans h1, h2, ?_⟩
  rcases h3 with h | ⟨b, off, ha, hb, hc⟩
  · exact .inl h
  · refine .inr ⟨b, off, ha, hb, fun i hi => ?_⟩
    obtain ⟨z, hz, hcz⟩ := hc i hi
    have hlt := lt_of_cell hcz
    exact ⟨z, hz, (World.cell?_of_block (w := w) (a := ⟨b, off + i, none⟩) (hg.block b hlt (fun e => by have := hr b e.symm; omega))).trans hcz⟩

/-- What the drawing of parts hands back. -/
def DrawnPR (w : World) (e : Ending) (w' : World) : Prop := ∃ v l, e = .returned v ∧ SRow w' w.heap.size v l ∧ l.length ≤ 4 ∧ (∀ s ∈ l, s.size ≤ 1000) ∧ Below w.heap.size w w'

set_option maxRecDepth 100000 in
set_option maxHeartbeats 3200000 in
theorem drawFormMake_any (w : World) (a : Option Addr) (len cap : Nat) (h : Code w a len cap) :
    Calls Try.prog 47 #[.slice a len cap] w (DrawnPR w) := by
  have H := Lib.hid (l6Open_any w a len cap h)
  clear h
  go_enter Try.func47, Try.ntmps47
  go_wp2_with fail
  refine H.out.mono ?_
  rintro e w1 ⟨rb, rfl, hrb, hrd, hB1⟩
  have hlt1 := hrd.lt
  have hs1 := hB1.size
  have hE := SRow.empty w1 (base := w1.heap.size) (Nat.le_refl _)
  have HE := Lib.hid hE
  have HB1 := Lib.hid (hB1.alloc hs1 (.cells #[] 9))
  have HRD := Lib.hid (hrd.alloc (.cells #[] 9))
  clear hE hrd hB1
  go_wp2_with fail
  refine (pick_any _ rb 0 4 HRD.out (by omega) (by omega) (by omega)).mono ?_
  rintro e w2 ⟨z, rfl, hz0, hz1, hrd2, hg2⟩
  obtain ⟨n, rfl⟩ := Int.eq_ofNat_of_zero_le hz0
  have HB2 := Lib.hid (HB1.out.trans_grown hg2 hrb HB1.out.size)
  have HE2 := Lib.hid (HE.out.grown hg2 (.inr (by simp [Value.ownBlock]; omega)))
  have hs2 := hg2.size
  simp only [World.size_alloc] at hs2
  clear hg2 HE HB1 HRD hz0
  go_wp2
  go_loopw [6, 4] (fun iv lu wr => ∃ (k q : Nat) (lv : Value) (l : List ByteArray), k ≤ n ∧ iv = .int .i64 k ∧ lv = lu ∧ l.length = k ∧ (∀ s ∈ l, s.size ≤ 1000) ∧ Hid (SRow wr w1.heap.size lv l) ∧ Hid (Rd wr rb q) ∧ q ≤ 1 + k * picksF 2 ∧ w1.heap.size < wr.heap.size ∧ Hid (Below w.heap.size w wr)) (fun iv _ _ => n - (intOf iv).toNat)
  case atStart => exact ⟨0, _, _, [], Nat.zero_le _, rfl, rfl, rfl, (fun _ h => by simp at h), HE2, hrd2, by omega, by omega, HB2⟩
  case round =>
    obtain ⟨k, q, lv, l, hk, rfl, rfl, hll, hls, HR, HD, hq, hsr, HB⟩ := hrel
    have HLL := Lib.hid hll
    have HLS := Lib.hid hls
    have hm := Nat.mul_le_mul_right (picksF 2) (show k ≤ 3 by omega)
    have hm2 : (k + 1) * picksF 2 = k * picksF 2 + picksF 2 := Nat.succ_mul _ _
    have hp2 : picksF 2 = 21 := rfl
    have hz2 : sizeF 2 = 47 := rfl
    clear hll hls
    by_cases hlt : k < n
    · have hF := l91Form_any 2 wr rb q (by omega) HD.out (by omega)
      rw [hp2, hz2] at hF
      have HF := Lib.hid hF
      obtain ⟨vo, vc, rfl, -⟩ := HR.out.forms
      clear hF
      go_wp2_with fail
      refine HF.out.mono ?_
      rintro e w3 ⟨s, q3, rfl, hs, hrd3, hq3, hg3⟩
      have hs3 := hg3.size
      have hne : ∀ g, (Value.slice vo l.length vc).ownBlock = some g → rb < g := fun g hg => by have := (HR.out.lt g hg).1; omega
      have HR3 := Lib.hid (HR.out.grown hg3 (by
        cases ho : (Value.slice vo l.length vc).ownBlock with
        | none => exact .inl rfl
        | some g => right; have := hne g ho; simp; omega))
      have HD3 := Lib.hid (hrd3.alloc (.cells #[.string s] 9))
      have HB3 := Lib.hid ((HB.out.trans_grown hg3 hrb HB.out.size).alloc (by have := HB.out.size; omega) (.cells #[.string s] 9))
      have HNE := Lib.hid hne
      have hlen : l.length ≤ 1000000000 := by rw [HLL.out]; omega
      clear hg3 hrd3 hne HF
      go_wp2_with (at_builtin; refine wpList_append_str rfl (.tmp 17) (.tmp 20) rfl w1.heap.size _ rfl l _ 1 rfl s (by simp) HR3.out hlen (by omega) ?_; intro g4 cap4 w4 hrow4 hg4 hown4)
      have HR4 := Lib.hid hrow4
      have HD4 := Lib.hid (HD3.out.beside hg4 HNE.out)
      have HB4 := Lib.hid (HB3.out.grown hg4 (by simp; omega) (fun j hj => by have := (HR3.out.lt j hj).1; omega))
      have hs4 := hg4.size
      simp only [World.size_alloc] at hs4
      have hl4 : Hid ((l ++ [s]).length = k + 1) := by show _ = _; rw [List.length_append, HLL.out]; rfl
      have hl5 : Hid (∀ x ∈ l ++ [s], x.size ≤ 1000) := fun x hx => by
        rcases List.mem_append.1 hx with h | h
        · exact HLS.out x h
        · simp at h; subst h; omega
      clear hrow4 hg4 hown4
      go_wp2
      go_roundw
      case rel => exact ⟨k + 1, q3, _, l ++ [s], by omega, by go_num, rfl, hl4.out, hl5.out, HR4, HD4, by omega, by omega, HB4⟩
      case measure => simp [intOf]; omega
    · have hkn : k = n := by omega
      have hFIN : ∀ wz, SRow wz w1.heap.size lv l → Below w.heap.size w wz → DrawnPR w (.returned lv) wz := fun wz h1 h2 => ⟨lv, l, rfl, h1.mono hs1, by rw [HLL.out]; omega, HLS.out, h2⟩
      have HFIN := Lib.hid hFIN
      clear hFIN
      by_cases hn0 : n = 0
      · have hn1 : decide ((0 : Int) < (n : Int)) = false := by simp; omega
        go_wp2
        go_ret
        exact HFIN.out _ HR.out HB.out
      · have hn1 : decide ((0 : Int) < (n : Int)) = true := by simp; omega
        have hn2 : 0 < n := by omega
        go_wp2_with fail
        refine (pick_any wr rb q 12 HD.out (by omega) (by omega) (by omega)).mono ?_
        rintro e w5 ⟨z5, rfl, hz50, hz51, hrd5, hg5⟩
        have HR5 := Lib.hid (HR.out.grown hg5 (by
          cases ho : lv.ownBlock with
          | none => exact .inl rfl
          | some g => right; have := (HR.out.lt g ho).1; simp; omega))
        have HB5 := Lib.hid (HB.out.trans_grown hg5 hrb HB.out.size)
        have hs5 := hg5.size
        clear hg5 HD
        by_cases h5 : z5 = 0
        · subst h5
          have hl0 : 0 < l.length := by rw [HLL.out]; omega
          obtain ⟨g, cap, rfl, hgb, hgl⟩ := HR5.out.where hl0
          go_wp2_with fail
          refine (l6Many_any ⟨#[40]⟩ 60 w5 (by decide) (by decide)).mono ?_
          rintro e w6 ⟨⟨r1, rfl, hr1⟩, rfl⟩
          rw [size1] at hr1
          go_wp2_with fail
          refine (l6Many_any ⟨#[41]⟩ 60 w5 (by decide) (by decide)).mono ?_
          rintro e w6 ⟨⟨r2, rfl, hr2⟩, rfl⟩
          rw [size1] at hr2
          have hz1 : r1.size ≤ 100 := by omega
          have hz2 : r2.size ≤ 100 := by omega
          have hbig : (r1 ++ ⟨#[97]⟩ ++ r2).size ≤ 1000 := by simp only [ByteArray.size_append, size1]; omega
          go_wp2_with fail
          refine (of_any (fun s => s.size ≤ 1000) _ rb _ w5.heap.size 4 4 (hrd5.alloc _) (by omega) (by omega) (by omega) (by omega) ?_).mono ?_
          · refine textRow_new w5 _ _ ?_
            (repeat (first | exact trivial | (refine ⟨⟨_, rfl, ?_⟩, ?_⟩; · first | assumption | decide | (simp only [ByteArray.size]; decide))))
          rintro e w7 ⟨s2, rfl, hs2, hrd7, hg7⟩
          have hs7 := hg7.size
          simp only [World.size_alloc] at hs7
          have HR7 := Lib.hid ((HR5.out.alloc (.cells #[.string ⟨#[]⟩, .string ⟨#[97, 32, 98]⟩, .string ⟨#[40]⟩, .string (r1 ++ ⟨#[97]⟩ ++ r2)] 9)).grown hg7 (.inr (by simp [Value.ownBlock]; omega)))
          have HB7 := Lib.hid ((HB5.out.alloc (by have := HB5.out.size; omega) (.cells #[.string ⟨#[]⟩, .string ⟨#[97, 32, 98]⟩, .string ⟨#[40]⟩, .string (r1 ++ ⟨#[97]⟩ ++ r2)] 9)).trans_grown hg7 hrb (by have := HB5.out.size; simp; omega))
          have hfz := HR7.out.frozen rfl 0
          obtain ⟨b', off', x, ho, hxl, hcx⟩ := HR7.out.read.at (k := 0) hl0
          simp only [Option.some.injEq, Addr.mk.injEq, and_true] at ho
          obtain ⟨rfl, rfl⟩ := ho
          have hgl7 : g < w7.heap.size := by omega
          have hi1 : (0 : Int) < (l.length : Int) := by omega
          have HST := Lib.hid (HR7.out.store rfl 0 s2)
          have HBF : Hid (Below w.heap.size w (w7.setCell ⟨g, 0, none⟩ (.string s2))) := HB7.out.setCell (by simp; omega) _
          clear hxl hg7
          go_wp2
          go_ret
          refine ⟨_, l.set 0 s2, rfl, HST.out.mono hs1, by rw [List.length_set, HLL.out]; omega, fun x hx => ?_, HBF.out⟩
          rcases List.mem_or_eq_of_mem_set hx with h | h
          · exact HLS.out x h
          · subst h; omega
        · have hb5 : (z5 == 0) = false := by simpa using h5
          go_wp2
          go_ret
          exact HFIN.out _ HR5.out HB5.out
end Go.Proofs.Ytclpcgkfgbkjmaa
