/- The law FnExactNormalPath is true of every text: the program's and the reference's NormalPath agree, and what the program hands back is its caller's own. No condition. -/
import Derived.Test.YtoihkjnfklogpaaRows
import Derived.Test.YtoihkjnfklogpaaPath
import Derived.WalkKit
import Derived.ProofKit
import Derived.OpenShut
import Derived.ShutString
import Derived.Below
namespace Go.Proofs.Ytoihkjnfklogpaa.fnExactNormalPath
open Go.ChangeShapes Go.WideShapes Go.ChangeAt Go.RowKit
open Go.ChangeMaps (open_string shut_string)
set_option linter.unusedVariables false

theorem own : ownKnob Try.prog.godebug = none := by kernel_rfl

set_option maxRecDepth 100000 in
set_option maxHeartbeats 1600000 in
theorem walk (a0 : ByteArray) (w0 : a0.size ≤ maxLen) (w : World) :
    Calls Try.prog 4 #[.string a0] w fun e w' => e = .returned (.bool true) ∧ Below w.heap.size w w' := by
  unfold maxLen at w0
  by_cases hs : 1048576 < a0.size
  · go_enter Try.func4, Try.ntmps4
    go_wp2
    go_ret
    exact ⟨rfl, Below.refl _ _⟩
  · have hc1 := fun W => sNormalPath_any a0 W (by omega)
    have hc2 := fun W => normalPath_any a0 W (by omega)
    have hln := pathOf_len a0.data.toList
    generalize pathOf a0.data.toList = r at hc1 hc2 hln
    unfold PathR at hc1 hc2
    generalize (r.map (·.1)).getD [] = l at hc1 hc2 hln
    generalize (r.map (·.2)).getD ⟨#[]⟩ = x at hc1 hc2
    generalize r.isSome = b at hc1 hc2
    have H1 := Lib.hid hc1
    have H2 := Lib.hid hc2
    clear hc1 hc2
    go_enter Try.func4, Try.ntmps4
    go_wp2_with fail
    refine (H1.out _).mono ?_
    rintro e w1 ⟨v1, rfl, hr1, hb1⟩
    have H1lt := hr1.lt
    obtain ⟨o1, c1, rfl, -⟩ := hr1.forms
    go_wp2_with fail
    refine (H2.out _).mono ?_
    rintro e w2 ⟨v2, rfl, hr2, hb2⟩
    obtain ⟨o2, c2, rfl, -⟩ := hr2.forms
    have R1 := Lib.hid (hr1.below hb2)
    have R2 := Lib.hid hr2
    clear hr1 hr2
    go_wp2_with fail
    refine (eqStringS_any l l _ _ _ _ _ _ _ R2.out.read R1.out.read (by omega) (by omega)).mono ?_
    rintro e w3 ⟨rfl, hb3⟩
    rw [show decide (l = l) = true from decide_eq_true rfl]
    have hB3 : Below w.heap.size w w3 := hb1.trans ((hb2.mono hb1.size).trans (hb3.mono (Nat.le_trans hb1.size hb2.size)))
    have hs3 : w1.heap.size ≤ w3.heap.size := Nat.le_trans hb2.size hb3.size
    have R13 := Lib.hid (R1.out.below hb3)
    have R23 := Lib.hid (R2.out.below hb3)
    clear R1 R2 hb2 hb3
    go_wp2_with fail
    refine (markStringS_any l _ w1.heap.size 1 w3 R23.out (Nat.le_refl _) hs3 (by omega)).mono ?_
    rintro e w4 ⟨rfl, hr4, hb4⟩
    have hB4 : Below w.heap.size w w4 := hB3.trans (hb4.mono hb1.size)
    have R14 := Lib.hid (SRow.keep R13.out fun k hk => hb4.block k (by have := (H1lt k hk).2; omega))
    have R24 := Lib.hid hr4
    clear hr4 R13 R23
    have hml : (marks 1 l.length).length = l.length := marks_length _ _
    have HML := Lib.hid hml
    clear hml
    have hrd : Strs w4 o2 l.length (marks 1 l.length) := by have := (show SRow w4 w1.heap.size (.slice o2 l.length c2) (marks 1 l.length) from R24.out).read; exact this
    have HRD := Lib.hid hrd
    clear hrd
    go_wp2_with fail
    refine (heldStringS_any l.length 1 _ _ w4 HRD.out (Nat.le_refl _) (by omega)).mono ?_
    rintro e w5 ⟨rfl, hb5⟩
    have hn0 : decide (((1 + l.length : Nat) : Int) < 0) = false := by simp; omega
    go_wp2_with fail
    refine (H2.out _).mono ?_
    rintro e w6 ⟨v6, rfl, hr6, hb6⟩
    obtain ⟨o6, c6, rfl, -⟩ := hr6.forms
    have R6 := Lib.hid hr6
    have R16 := Lib.hid ((R14.out.below hb5).below hb6)
    have HR6 := Lib.hid ((HRD.out.keep hb5).keep hb6)
    have hB6 : Below w.heap.size w w6 := (hB4.trans (hb5.mono hB4.size)).trans (hb6.mono (Nat.le_trans hB4.size hb5.size))
    clear hr6 HRD R14 hb5 hb6
    go_wp2_with fail
    refine (eqStringS_any l l _ _ _ _ _ _ _ R6.out.read R16.out.read (by omega) (by omega)).mono ?_
    rintro e w7 ⟨rfl, hb7⟩
    rw [show decide (l = l) = true from decide_eq_true rfl]
    have HR7 := Lib.hid (HR6.out.keep hb7)
    have hB7 : Below w.heap.size w w7 := hB6.trans (hb7.mono hB6.size)
    clear HR6 R6 R16 hb7
    go_wp2_with fail
    refine (heldStringS_any l.length 1 _ _ w7 HR7.out (Nat.le_refl _) (by omega)).mono ?_
    rintro e w8 ⟨rfl, hb8⟩
    go_wp2
    go_ret
    exact ⟨rfl, hB7.trans (hb8.mono hB7.size)⟩

set_option maxRecDepth 100000 in
theorem lifted (os : Os) (started : os.Started) (H : Type) (enc : TypeId × Value → H) :
    ReturnsInHanded {} Try.checked os 4 .any (Rows.fnExactNormalPathSpec.pre6 enc Try.prog Try.f4 Rows.fnExactNormalPathRow.domain false) (Rows.fnExactNormalPathSpec.post enc Try.prog Try.f4 false true false false) := by
  refine returnsInHanded_of_change (C := Try.checked) own started (by kernel_rfl) Try.func4
    (ChangeSpec.witness6 (enc := enc) (C := Try.checked) false ⟨#[], #[.string ByteArray.empty], []⟩ 8 (by kernel_rfl) (by kernel_rfl) (by kernel_rfl) (by kernel_rfl)) ?_
  intro W base args ds gs before hval0 hW hcnd _
  have hval : ∀ (j : Nat) t v, Try.f4.params[j]? = some t → args[j]? = some v → Value.okWide Try.prog W .any base t v := hval0
  have hW' := hW
  obtain ⟨p, q, hA0, hV, rfl, hfz, hnd⟩ := hW
  have hA : DataW.TrodAll enc Try.prog W 0 (fun _ => true) true Try.f4.params.toList args.toList ds p := hA0
  rw [Try.params4] at hA hval
  obtain ⟨v0, vs0, d0, ds0, p0, q0, hargs, rfl, rfl, h0, r0⟩ := trodAll_cons hA
  obtain ⟨rfl, rfl, rfl⟩ := trodAll_nil r0
  obtain rfl : args = #[v0] := by cases args; simp_all
  obtain ⟨rfl, rfl⟩ := trodVars_none hV
  obtain ⟨a0, rfl, rfl, rfl, w0⟩ := open_string Try.underlying9 (hval 0 9 v0 rfl rfl) h0
  clear hA0 hval0
  simp only [List.append_nil] at hW'
  refine (walk a0 w0 W).mono fun e W' ⟨he, bel⟩ => ?_
  subst he
  exact ⟨_, rfl, _, _, _, [], [], [], hW', trodAll_mk1 (shut_bool Try.underlying4 _), (trodAll_cons_mk (shut_string Try.underlying9 w0) trodAll_mk0), rfl, bel.frame _, fun h => by cases h⟩

theorem over : Rows.fnExactNormalPathRow.holds Try.pinned (OpenSpec.ofChange Rows.fnExactNormalPathSpec) :=
  OpenClaim.holds_of_wide 4 Try.f4 rfl rfl rfl rfl rfl rfl rfl ⟨rfl, rfl, rfl, rfl, rfl⟩ rfl rfl rfl rfl rfl (by kernel_rfl) Try.func4 (by kernel_rfl)
    (of_decide_eq_true (by kernel_rfl)) (by unfold Func.isWrapper; first | (rw [if_pos (by decide +kernel)]; kernel_rfl) | (rw [if_neg (by decide +kernel)]; exact ⟨rfl, rfl⟩))
    (fun os started H enc _ => lifted os started H enc)

/-- The statement. -/
theorem proved : Rows.FnExactNormalPathSaid := over
#print axioms proved
end Go.Proofs.Ytoihkjnfklogpaa.fnExactNormalPath
