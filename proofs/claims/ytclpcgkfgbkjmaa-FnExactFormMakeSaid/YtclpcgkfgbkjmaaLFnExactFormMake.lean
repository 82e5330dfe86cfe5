/- The law FnExactFormMake is true of every slice of texts: the program's and the reference's FormMake agree, and the program leaves its argument as it was. No condition. -/
import Derived.Test.YtclpcgkfgbkjmaaRows
import Derived.Test.YtclpcgkfgbkjmaaSlices
import Derived.WalkKit
import Derived.ProofKit
import Derived.OpenShut
import Derived.ShutString
import Derived.Below
import Derived.ChangeOld
namespace Go.Proofs.Ytclpcgkfgbkjmaa.fnExactFormMake
open Go.ChangeShapes Go.WideShapes Go.ChangeAt Go.RowKit
open Go.ChangeMaps (open_string shut_string)
set_option linter.unusedVariables false

theorem own : ownKnob Try.prog.godebug = none := by kernel_rfl

theorem laidOut : laidOutB Try.prog = true := by kernel_rfl

set_option maxHeartbeats 1600000 in
theorem walk (a0 : Option Addr) (l0 c0 : Nat) (w : World) (w0 : Texts w a0 l0 c0) :
    Calls Try.prog 8 #[.slice a0 l0 c0] w fun e w' => e = .returned (.bool true) ∧ Below w.heap.size w w' := by
  obtain ⟨hlc, hcm, ss, hst, hw⟩ := w0
  have hn : l0 = ss.length := hst.1
  have HS := Lib.hid hst
  have HZ := Lib.hid (fun W h => szStringS_any ss a0 l0 c0 1048576 W h (by decide) (Nat.le_trans hlc hcm) hw)
  have HT := Lib.hid (fun W h hs => toStringS_any ss a0 l0 c0 W h hs)
  have HN := Lib.hid hn
  clear hst hw hn hlc hcm
  go_enter Try.func8, Try.ntmps8
  go_wp2_with fail
  refine (HZ.out _ HS.out).mono ?_
  rintro e w1 ⟨r, rfl, hr, rfl⟩
  by_cases hr0 : r < 0
  · go_wp2
    go_ret
    exact ⟨rfl, Below.refl _ _⟩
  · have htot : totS ss ≤ 1048576 := by rcases hr with h | h; exact absurd h hr0; exact h
    have hl2 : l0 ≤ 2000000 := by rw [HN.out]; unfold totS at htot; omega
    have HC1 := Lib.hid (fun W o n c h => sFormMake_any ss o n c W h (by omega))
    have HC2 := Lib.hid (fun W o n c h => formMake_any ss o n c W h (by omega))
    unfold StrR at HC1 HC2
    generalize (makeF ss).getD ⟨#[]⟩ = x at HC1 HC2
    generalize (makeF ss).isSome = b at HC1 HC2
    have hsl : ss.length ≤ 1000000000 := by rw [← HN.out]; omega
    clear hr htot HZ
    go_wp2_with fail
    refine (HT.out _ HS.out hl2).mono ?_
    rintro e w2 ⟨v2, rfl, hr2, hb2⟩
    obtain ⟨o2, c2, rfl, hs2⟩ := hr2.forms
    have S2 := Lib.hid hs2
    have HS2 := Lib.hid (HS.out.keep hb2)
    clear hr2 hs2
    go_wp2_with fail
    refine (HC1.out _ _ _ _ S2.out).mono ?_
    rintro e w3 ⟨rfl, hb3⟩
    have hB3 := hb2.trans (hb3.mono hb2.size)
    have HS3 := Lib.hid (HS2.out.keep hb3)
    clear hb2 hb3 S2 HS2
    go_wp2_with fail
    refine (HT.out _ HS3.out hl2).mono ?_
    rintro e w4 ⟨v4, rfl, hr4, hb4⟩
    obtain ⟨o4, c4, rfl, hs4⟩ := hr4.forms
    have hB4 := hB3.trans (hb4.mono hB3.size)
    have S4 := Lib.hid hs4
    have HS4 := Lib.hid (HS3.out.keep hb4)
    clear hr4 hs4 hb4 HS3
    go_wp2_with fail
    refine (HC2.out _ _ _ _ S4.out).mono ?_
    rintro e w5 ⟨rfl, hb5⟩
    have hB5 := hB4.trans (hb5.mono hB4.size)
    have HS5 := Lib.hid (HS4.out.keep hb5)
    have S45 := Lib.hid (S4.out.keep hb5)
    clear hb5 HS4 S4
    go_wp2_with fail
    refine (HT.out _ HS5.out hl2).mono ?_
    rintro e w6 ⟨v6, rfl, hr6, hb6⟩
    obtain ⟨o6, c6, rfl, hs6⟩ := hr6.forms
    have hB6 := hB5.trans (hb6.mono hB5.size)
    have S6 := Lib.hid hs6
    have S46 := Lib.hid (S45.out.keep hb6)
    clear hr6 hs6 hb6 S45
    go_wp2_with fail
    refine (eqStringS_any ss ss _ _ _ _ _ _ _ S46.out S6.out hsl hsl).mono ?_
    rintro e w7 ⟨rfl, hb7⟩
    rw [show decide (ss = ss) = true from decide_eq_true rfl]
    go_wp2
    go_ret
    exact ⟨rfl, hB6.trans (hb7.mono hB6.size)⟩

set_option maxRecDepth 100000 in
theorem lifted (os : Os) (started : os.Started) (H : Type) (enc : TypeId × Value → H) :
    ReturnsInHanded {} Try.checked os 8 .any (Rows.fnExactFormMakeSpec.pre6 enc Try.prog Try.f8 Rows.fnExactFormMakeRow.domain false) (Rows.fnExactFormMakeSpec.post enc Try.prog Try.f8 false true false false) := by
  refine returnsInHanded_of_change (C := Try.checked) own started (by kernel_rfl) Try.func8
    (ChangeSpec.witness6 (enc := enc) (C := Try.checked) false ⟨#[], #[.slice none 0 0], []⟩ 8 (by kernel_rfl) (by kernel_rfl) (by kernel_rfl) (by kernel_rfl)) ?_
  intro W base args ds gs before hval0 hW hcnd _
  have hval : ∀ (j : Nat) t v, Try.f8.params[j]? = some t → args[j]? = some v → Value.okWide Try.prog W .any base t v := hval0
  have hW' := hW
  obtain ⟨p, q, hA0, hV, rfl, hfz, hnd⟩ := hW
  have hA : DataW.TrodAll enc Try.prog W 0 (fun _ => true) true Try.f8.params.toList args.toList ds p := hA0
  rw [Try.params8] at hA hval
  obtain ⟨v0, vs0, d0, ds0, p0, q0, hargs, rfl, rfl, h0, r0⟩ := trodAll_cons hA
  obtain ⟨rfl, rfl, rfl⟩ := trodAll_nil r0
  obtain rfl : args = #[v0] := by cases args; simp_all
  obtain ⟨rfl, rfl⟩ := trodVars_none hV
  obtain ⟨a0, l0, c0, rfl⟩ := okWide_slice Try.underlying22 (hval 0 22 v0 rfl rfl)
  have k0 := h0
  have lt0 : ∀ x ∈ p0, x.block < W.heap.size := by obtain ⟨m, hm⟩ := k0; exact DataW.trod_lt m _ _ _ hm
  have w0 : Texts W a0 l0 c0 := by
    obtain ⟨fuel, hf⟩ := h0
    rcases open_strings Try.underlying22 Try.underlying9 (by kernel_rfl) hf with ⟨hcs, _⟩ | ⟨x, l, c, ss, hcs, _, hl, hm, hss, _, hcell, hw⟩
    · simp [Value.cells] at hcs
      obtain ⟨rfl, rfl, rfl⟩ := hcs
      exact ⟨Nat.le_refl _, Nat.zero_le _, [], Strs.nil _ _, fun _ h => by simp at h⟩
    · simp [Value.cells] at hcs
      obtain ⟨rfl, rfl, rfl⟩ := hcs
      exact Texts.of_row hl hm hss hcell hw
  clear hA0 hval0
  simp only [List.append_nil] at hW'
  refine (walk a0 l0 c0 W w0).mono fun e W' ⟨he, bel⟩ => ?_
  subst he
  exact ⟨_, rfl, _, _, _, [], _, [], hW', trodAll_mk1 (shut_bool Try.underlying4 _), (trodAll_cons_mk (Below.trod laidOut (by kernel_rfl) (of_decide_eq_true (by kernel_rfl)) k0 bel lt0) trodAll_mk0), rfl, bel.frame _, fun h => by cases h⟩

theorem over : Rows.fnExactFormMakeRow.holds Try.pinned (OpenSpec.ofChange Rows.fnExactFormMakeSpec) :=
  OpenClaim.holds_of_wide 8 Try.f8 rfl rfl rfl rfl rfl rfl rfl ⟨rfl, rfl, rfl, rfl, rfl⟩ rfl rfl rfl rfl rfl (by kernel_rfl) Try.func8 (by kernel_rfl)
    (of_decide_eq_true (by kernel_rfl)) (by unfold Func.isWrapper; first | (rw [if_pos (by decide +kernel)]; kernel_rfl) | (rw [if_neg (by decide +kernel)]; exact ⟨rfl, rfl⟩))
    (fun os started H enc _ => lifted os started H enc)

/-- The statement. -/
theorem proved : Rows.FnExactFormMakeSaid := over
#print axioms proved
end Go.Proofs.Ytclpcgkfgbkjmaa.fnExactFormMake
