/- The law FnExactEnvValid is true of every two slices of texts: the program's and the reference's EnvValid agree, and the program leaves its arguments as they were. No condition. -/
import Derived.Test.YtnhmbncamimehaaRows
import Derived.Test.YtnhmbncamimehaaSlices
import Derived.Test.YtnhmbncamimehaaEnv
import Derived.WalkKit
import Derived.ProofKit
import Derived.OpenShut
import Derived.ShutString
import Derived.Below
import Derived.ChangeOld
namespace Go.Proofs.Ytnhmbncamimehaa.fnExactEnvValid
open Go.ChangeShapes Go.WideShapes Go.ChangeAt Go.RowKit
open Go.ChangeMaps (open_string shut_string)
set_option linter.unusedVariables false

theorem own : ownKnob Try.prog.godebug = none := by kernel_rfl

theorem laidOut : laidOutB Try.prog = true := by kernel_rfl

theorem env_sizes {l : List ByteArray} (h : totS l ≤ 1048576) : ∀ s ∈ l, s.size ≤ 1048576 := by
  intro s hs
  have h1 : ∀ (l : List ByteArray), s ∈ l → s.size ≤ totS l := by
    intro l
    unfold totS
    induction l with
    | nil => intro h; simp at h
    | cons x l ih =>
      intro h
      simp only [List.map_cons, List.sum_cons, List.length_cons]
      simp only [List.mem_cons] at h
      rcases h with rfl | h
      · omega
      · have := ih h; omega
  have := h1 l hs
  omega

set_option maxRecDepth 100000 in
set_option maxHeartbeats 3200000 in
theorem walk (a0 : Option Addr) (l0 c0 : Nat) (a1 : Option Addr) (l1 c1 : Nat) (w : World) (w0 : Texts w a0 l0 c0) (w1 : Texts w a1 l1 c1) :
    Calls Try.prog 3 #[.slice a0 l0 c0, .slice a1 l1 c1] w fun e w' => e = .returned (.bool true) ∧ Below w.heap.size w w' := by
  obtain ⟨hlc, hcm, ss, hst, hw⟩ := w0
  obtain ⟨hlc1, hcm1, ts, hst1, hw1⟩ := w1
  have hn : l0 = ss.length := hst.1
  have hn1 : l1 = ts.length := hst1.1
  have HSA : Hid (∀ W, Below w.heap.size w W → Strs W a0 l0 ss) := fun W h => hst.keep h
  have HTA : Hid (∀ W, Below w.heap.size w W → Strs W a1 l1 ts) := fun W h => hst1.keep h
  have HZ := Lib.hid (fun W h => szStringS_left ss a0 l0 c0 1048576 W h (by decide) (Nat.le_trans hlc hcm) hw)
  have HZ1 := Lib.hid (fun z W h hz => szStringS_left ts a1 l1 c1 z W h hz (Nat.le_trans hlc1 hcm1) hw1)
  have HT := Lib.hid (fun W h hs => toStringS_any ss a0 l0 c0 W h hs)
  have HT1 := Lib.hid (fun W h hs => toStringS_any ts a1 l1 c1 W h hs)
  have HN := Lib.hid hn
  have HN1 := Lib.hid hn1
  clear hst hst1 hw hw1 hn hn1 hlc hcm hlc1 hcm1
  go_enter Try.func3, Try.ntmps3
  go_wp2_with fail
  refine (HZ.out _ (HSA.out _ (Below.refl _ _))).mono ?_
  rintro e w1 ⟨r, rfl, hr, rfl⟩
  by_cases hr0 : r < 0
  · go_wp2
    go_ret
    exact ⟨rfl, Below.refl _ _⟩
  obtain ⟨htot, m, rfl, hm⟩ : totS ss ≤ 1048576 ∧ ∃ m : Nat, r = m ∧ m ≤ 1048576 := hr.resolve_left hr0
  clear hr
  go_wp2_with fail
  refine (HZ1.out m _ (HTA.out _ (Below.refl _ _)) (by omega)).mono ?_
  rintro e w1 ⟨r, rfl, hr, rfl⟩
  by_cases hr1 : r < 0
  · go_wp2
    go_ret
    exact ⟨rfl, Below.refl _ _⟩
  have htot1 : totS ts ≤ 1048576 := Nat.le_trans (hr.resolve_left hr1).1 hm
  have hl0 : l0 ≤ 2000000 := by rw [HN.out]; unfold totS at htot; omega
  have hl1 : l1 ≤ 2000000 := by rw [HN1.out]; unfold totS at htot1; omega
  have hss := env_sizes htot
  have hts := env_sizes htot1
  have hsl : ss.length ≤ 1000000000 := by rw [← HN.out]; omega
  have htl : ts.length ≤ 1000000000 := by rw [← HN1.out]; omega
  have HC1 := Lib.hid (fun W o n c o' n' c' h h' => sEnvValid_any ss ts o o' n c n' c' W h h' (by have := h.1; omega) (by have := h'.1; omega) (fun s hs => Nat.le_trans (hss s hs) (by decide)) (fun s hs => Nat.le_trans (hts s hs) (by decide)))
  have HC2 := Lib.hid (fun W o n c o' n' c' h h' => envValid_any ss ts o o' n c n' c' W h h' (by have := h.1; omega) (by have := h'.1; omega) (fun s hs => Nat.le_trans (hss s hs) (by decide)) (fun s hs => Nat.le_trans (hts s hs) (by decide)))
  generalize envB ss ts = b at HC1 HC2
  clear hr htot htot1 HZ HZ1 hss hts hm
  go_wp2_with fail
  refine (HT.out _ (HSA.out _ (Below.refl _ _)) hl0).mono ?_
  rintro e w2 ⟨v2, rfl, hr2, hb2⟩
  obtain ⟨o2, c2, rfl, hs2⟩ := hr2.forms
  have S2 := Lib.hid hs2
  clear hr2 hs2
  go_wp2_with fail
  refine (HT1.out _ (HTA.out _ hb2) hl1).mono ?_
  rintro e w3 ⟨v3, rfl, hr3, hb3⟩
  obtain ⟨o3, c3, rfl, hs3⟩ := hr3.forms
  have S3 := Lib.hid hs3
  have S23 := Lib.hid (S2.out.keep hb3)
  have hB3 := hb2.trans (hb3.mono hb2.size)
  clear hr3 hs3 hb3 hb2 S2
  go_wp2_with fail
  refine (HC1.out _ _ _ _ _ _ _ S23.out S3.out).mono ?_
  rintro e w4 ⟨rfl, hb4⟩
  have hB4 := hB3.trans (hb4.mono hB3.size)
  clear hb4 hB3 S3 S23
  go_wp2_with fail
  refine (HT.out _ (HSA.out _ hB4) hl0).mono ?_
  rintro e w5 ⟨v5, rfl, hr5, hb5⟩
  obtain ⟨o5, c5, rfl, hs5⟩ := hr5.forms
  have S5 := Lib.hid hs5
  have hB5 := hB4.trans (hb5.mono hB4.size)
  clear hr5 hs5 hb5 hB4
  go_wp2_with fail
  refine (HT1.out _ (HTA.out _ hB5) hl1).mono ?_
  rintro e w6 ⟨v6, rfl, hr6, hb6⟩
  obtain ⟨o6, c6, rfl, hs6⟩ := hr6.forms
  have S6 := Lib.hid hs6
  have S56 := Lib.hid (S5.out.keep hb6)
  have hB6 := hB5.trans (hb6.mono hB5.size)
  clear hr6 hs6 hb6 hB5 S5
  go_wp2_with fail
  refine (HC2.out _ _ _ _ _ _ _ S56.out S6.out).mono ?_
  rintro e w7 ⟨rfl, hb7⟩
  have hB7 := hB6.trans (hb7.mono hB6.size)
  have S57 := Lib.hid (S56.out.keep hb7)
  have S67 := Lib.hid (S6.out.keep hb7)
  clear hb7 hB6 S6 S56
  go_wp2_with fail
  refine (HT.out _ (HSA.out _ hB7) hl0).mono ?_
  rintro e w8 ⟨v8, rfl, hr8, hb8⟩
  obtain ⟨o8, c8, rfl, hs8⟩ := hr8.forms
  have S8 := Lib.hid hs8
  have S58 := Lib.hid (S57.out.keep hb8)
  have S68 := Lib.hid (S67.out.keep hb8)
  have hB8 := hB7.trans (hb8.mono hB7.size)
  clear hr8 hs8 hb8 hB7 S57 S67
  go_wp2_with fail
  refine (eqStringS_any ss ss _ _ _ _ _ _ _ S58.out S8.out hsl hsl).mono ?_
  rintro e w9 ⟨rfl, hb9⟩
  rw [show decide (ss = ss) = true from decide_eq_true rfl]
  have hB9 := hB8.trans (hb9.mono hB8.size)
  have S69 := Lib.hid (S68.out.keep hb9)
  clear hb9 hB8 S8 S58 S68
  go_wp2_with fail
  refine (HT1.out _ (HTA.out _ hB9) hl1).mono ?_
  rintro e w10 ⟨v10, rfl, hr10, hb10⟩
  obtain ⟨o10, c10, rfl, hs10⟩ := hr10.forms
  have S10 := Lib.hid hs10
  have S610 := Lib.hid (S69.out.keep hb10)
  have hB10 := hB9.trans (hb10.mono hB9.size)
  clear hr10 hs10 hb10 hB9 S69
  go_wp2_with fail
  refine (eqStringS_any ts ts _ _ _ _ _ _ _ S610.out S10.out htl htl).mono ?_
  rintro e w11 ⟨rfl, hb11⟩
  rw [show decide (ts = ts) = true from decide_eq_true rfl]
  go_wp2
  go_ret
  exact ⟨rfl, hB10.trans (hb11.mono hB10.size)⟩

set_option maxRecDepth 100000 in
theorem lifted (os : Os) (started : os.Started) (H : Type) (enc : TypeId × Value → H) :
    ReturnsInHanded {} Try.checked os 3 .any (Rows.fnExactEnvValidSpec.pre6 enc Try.prog Try.f3 Rows.fnExactEnvValidRow.domain false) (Rows.fnExactEnvValidSpec.post enc Try.prog Try.f3 false true false false) := by
  refine returnsInHanded_of_change (C := Try.checked) own started (by kernel_rfl) Try.func3
    (ChangeSpec.witness6 (enc := enc) (C := Try.checked) false ⟨#[], #[.slice none 0 0, .slice none 0 0], []⟩ 8 (by kernel_rfl) (by kernel_rfl) (by kernel_rfl) (by kernel_rfl)) ?_
  intro W base args ds gs before hval0 hW hcnd _
  have hval : ∀ (j : Nat) t v, Try.f3.params[j]? = some t → args[j]? = some v → Value.okWide Try.prog W .any base t v := hval0
  have hW' := hW
  obtain ⟨p, q, hA0, hV, rfl, hfz, hnd⟩ := hW
  have hA : DataW.TrodAll enc Try.prog W 0 (fun _ => true) true Try.f3.params.toList args.toList ds p := hA0
  rw [Try.params3] at hA hval
  obtain ⟨v0, vs0, d0, ds0, p0, q0, hargs, rfl, rfl, h0, r0⟩ := trodAll_cons hA
  obtain ⟨v1, vs1, d1, ds1, p1, q1, rfl, rfl, rfl, h1, r1⟩ := trodAll_cons r0
  obtain ⟨rfl, rfl, rfl⟩ := trodAll_nil r1
  obtain rfl : args = #[v0, v1] := by cases args; simp_all
  obtain ⟨rfl, rfl⟩ := trodVars_none hV
  obtain ⟨a0, l0, c0, rfl⟩ := okWide_slice Try.underlying22 (hval 0 22 v0 rfl rfl)
  have k0 := h0
  have lt0 : ∀ x ∈ p0, x.block < W.heap.size := by obtain ⟨m, hm⟩ := k0; exact DataW.trod_lt m _ _ _ hm
  have w0 : Texts W a0 l0 c0 := by
    obtain ⟨fuel, hf⟩ := h0
    rcases open_strings Try.underlying22 Try.underlying9 (by kernel_rfl) hf with ⟨hcs, _⟩ | ⟨x, l, c, ss, hcs, _, hl, hm, hss, _, hcell, hw⟩
    · simp [Value.cells] at hcs
      obtain ⟨rfl, rfl, rfl⟩ := hcs
      exact ⟨Nat.le_refl _, Nat.zero_le _, [], Strs.nil _ _, fun _ h => by simp at h⟩
    · simp [Value.cells] at hcs
      obtain ⟨rfl, rfl, rfl⟩ := hcs
      exact Texts.of_row hl hm hss hcell hw
  obtain ⟨a1, l1, c1, rfl⟩ := okWide_slice Try.underlying22 (hval 1 22 v1 rfl rfl)
  have k1 := h1
  have lt1 : ∀ x ∈ p1, x.block < W.heap.size := by obtain ⟨m, hm⟩ := k1; exact DataW.trod_lt m _ _ _ hm
  have w1 : Texts W a1 l1 c1 := by
    obtain ⟨fuel, hf⟩ := h1
    rcases open_strings Try.underlying22 Try.underlying9 (by kernel_rfl) hf with ⟨hcs, _⟩ | ⟨x, l, c, ss, hcs, _, hl, hm, hss, _, hcell, hw⟩
    · simp [Value.cells] at hcs
      obtain ⟨rfl, rfl, rfl⟩ := hcs
      exact ⟨Nat.le_refl _, Nat.zero_le _, [], Strs.nil _ _, fun _ h => by simp at h⟩
    · simp [Value.cells] at hcs
      obtain ⟨rfl, rfl, rfl⟩ := hcs
      exact Texts.of_row hl hm hss hcell hw
  clear hA0 hval0
  simp only [List.append_nil] at hW'
  refine (walk a0 l0 c0 a1 l1 c1 W w0 w1).mono fun e W' ⟨he, bel⟩ => ?_
  subst he
  exact ⟨_, rfl, _, _, _, [], _, [], hW', trodAll_mk1 (shut_bool Try.underlying4 _), (trodAll_cons_mk (Below.trod laidOut (by kernel_rfl) (of_decide_eq_true (by kernel_rfl)) k0 bel lt0) (trodAll_cons_mk (Below.trod laidOut (by kernel_rfl) (of_decide_eq_true (by kernel_rfl)) k1 bel lt1) trodAll_mk0)), rfl, bel.frame _, fun h => by cases h⟩

theorem over : Rows.fnExactEnvValidRow.holds Try.pinned (OpenSpec.ofChange Rows.fnExactEnvValidSpec) :=
  OpenClaim.holds_of_wide 3 Try.f3 rfl rfl rfl rfl rfl rfl rfl ⟨rfl, rfl, rfl, rfl, rfl⟩ rfl rfl rfl rfl rfl (by kernel_rfl) Try.func3 (by kernel_rfl)
    (of_decide_eq_true (by kernel_rfl)) (by unfold Func.isWrapper; first | (rw [if_pos (by decide +kernel)]; kernel_rfl) | (rw [if_neg (by decide +kernel)]; exact ⟨rfl, rfl⟩))
    (fun os started H enc _ => lifted os started H enc)

/-- The statement. -/
theorem proved : Rows.FnExactEnvValidSaid := over
#print axioms proved
end Go.Proofs.Ytnhmbncamimehaa.fnExactEnvValid
