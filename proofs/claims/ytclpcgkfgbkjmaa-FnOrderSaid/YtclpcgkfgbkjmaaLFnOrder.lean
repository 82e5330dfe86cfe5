/- The law FnOrder is true of every code: orders are less than sizes. No condition. -/
import Derived.Test.YtclpcgkfgbkjmaaRows
import Derived.Test.YtclpcgkfgbkjmaaDrawT
import Derived.Test.YtclpcgkfgbkjmaaTypeP
import Derived.Test.YtclpcgkfgbkjmaaForm
import Derived.WalkKit
import Derived.ProofKit
import Derived.OpenShut
import Derived.ShutString
import Derived.Below
import Derived.ChangeOld
namespace Go.Proofs.Ytclpcgkfgbkjmaa.fnOrder
open Go.ChangeShapes Go.WideShapes Go.ChangeAt Go.RowKit
open Go.ChangeMaps (open_string shut_string)
set_option linter.unusedVariables false

theorem own : ownKnob Try.prog.godebug = none := by kernel_rfl

theorem laidOut : laidOutB Try.prog = true := by kernel_rfl

set_option maxHeartbeats 1600000 in
theorem walk (a0 : Option Addr) (l0 c0 : Nat) (w : World) (w0 : Code w a0 l0 c0) :
    Calls Try.prog 10 #[.slice a0 l0 c0] w fun e w' => e = .returned (.bool true) ∧ Below w.heap.size w w' := by
  have HD := Lib.hid (drawTypeOrder_any w a0 l0 c0 w0)
  clear w0
  by_cases hl : (1048576 : Int) < l0
  · go_enter Try.func10, Try.ntmps10
    go_wp2
    go_ret
    exact ⟨rfl, Below.refl _ _⟩
  · go_enter Try.func10, Try.ntmps10
    go_wp2_with fail
    refine HD.out.mono ?_
    rintro e w1 ⟨s, rfl, hs, hB1⟩
    have h1 := fun W => typeOrder_any s W (by omega)
    have h2 := fun W => sTypeOrder_any s W (by omega)
    cases hp : ptype s.data.toList with
    | none =>
      rw [hp] at h1 h2
      have H1 := Lib.hid h1
      have H2 := Lib.hid h2
      change Hid (∀ W, Calls _ _ _ W fun e w' => e = .returned (.int .i64 (-1)) ∧ _) at H1
      change Hid (∀ W, Calls _ _ _ W fun e w' => e = .returned (.int .i64 (-1)) ∧ _) at H2
      clear hp h1 h2
      go_wp2_with fail
      refine (H1.out _).mono ?_
      rintro e w2 ⟨rfl, hb2⟩
      go_wp2_with fail
      refine (H2.out _).mono ?_
      rintro e w3 ⟨rfl, hb3⟩
      go_wp2
      go_ret
      exact ⟨rfl, (hB1.trans (hb2.mono hB1.size)).trans (hb3.mono (Nat.le_trans hB1.size hb2.size))⟩
    | some t =>
      obtain ⟨hg, hty, hz, hpp, -⟩ := ptype_facts hp
      obtain ⟨ho1, ho2⟩ := order_facts _ t (Nat.le_refl _) hg hty
      have h3 := fun W => formAtoms_any s W (by omega)
      have h4 := fun W => formSize_any s W (by omega)
      have hln := atomsOf_len s.data.toList
      rw [atomsOf_parse hpp] at h3 hln
      rw [hpp] at h4
      rw [hp] at h1 h2
      have hhas : hasS (t.atoms.foldl addS []) ⟨#[62]⟩ = !decide (t.order = 0) := by
        rw [Bool.eq_iff_iff, hasS_iff, mem_foldAdd]
        simp [ho2]
      have HH := Lib.hid hhas
      have H1 := Lib.hid h1
      have H2 := Lib.hid h2
      have H3 := Lib.hid h3
      have H4 := Lib.hid h4
      change Hid (∀ W, Calls _ _ _ W fun e w' => e = .returned (.int .i64 ((t.order : Nat) : Int)) ∧ _) at H1
      change Hid (∀ W, Calls _ _ _ W fun e w' => e = .returned (.int .i64 ((t.order : Nat) : Int)) ∧ _) at H2
      change Hid (∀ W, Calls _ _ _ W fun e w' => e = .returned (.int .i64 ((t.size : Nat) : Int)) ∧ _) at H4
      change (t.atoms.foldl addS []).length ≤ 1000000 at hln
      clear hp hpp h1 h2 h3 h4 hhas ho2 hg hty
      have hlt : decide ((t.order : Int) < (t.size : Int)) = true := by simp; omega
      generalize t.size = k at *
      generalize t.order = r at *
      generalize t.atoms.foldl addS [] = l at *
      go_wp2_with fail
      refine (H1.out _).mono ?_
      rintro e w2 ⟨rfl, hb2⟩
      go_wp2_with fail
      refine (H2.out _).mono ?_
      rintro e w3 ⟨rfl, hb3⟩
      have hB3 := (hB1.trans (hb2.mono hB1.size)).trans (hb3.mono (Nat.le_trans hB1.size hb2.size))
      go_wp2_with fail
      refine (H3.out _).mono ?_
      rintro e w4 ⟨v, rfl, hr, hb4⟩
      change SRow w4 _ v l at hr
      obtain ⟨o, c, rfl, hst⟩ := hr.forms
      have hB4 := hB3.trans (hb4.mono hB3.size)
      have HST := Lib.hid hst
      clear hr hb4 hst
      go_wp2_with fail
      refine (H4.out _).mono ?_
      rintro e w5 ⟨rfl, hb5⟩
      have hB5 := hB4.trans (hb5.mono hB4.size)
      have HST5 := Lib.hid (HST.out.keep hb5)
      clear HST hb5
      go_wp2_with fail
      refine (hasText_any l ⟨#[62]⟩ _ _ _ _ HST5.out (by omega)).mono ?_
      rintro e w6 ⟨rfl, rfl⟩
      rw [HH.out]
      by_cases hr0 : r = 0
      · have e1 : ((r : Int) == 0) = true := by simp [hr0]
        have e2 : decide (r = 0) = true := decide_eq_true hr0
        rw [e2]
        go_wp2
        go_ret
        exact ⟨rfl, hB5⟩
      · have e1 : ((r : Int) == 0) = false := by simp; omega
        have e2 : decide (r = 0) = false := decide_eq_false hr0
        rw [e2]
        go_wp2
        go_ret
        exact ⟨rfl, hB5⟩

set_option maxRecDepth 100000 in
theorem lifted (os : Os) (started : os.Started) (H : Type) (enc : TypeId × Value → H) :
    ReturnsInHanded {} Try.checked os 10 .any (Rows.fnOrderSpec.pre6 enc Try.prog Try.f10 Rows.fnOrderRow.domain false) (Rows.fnOrderSpec.post enc Try.prog Try.f10 false true false false) := by
  refine returnsInHanded_of_change (C := Try.checked) own started (by kernel_rfl) Try.func10
    (ChangeSpec.witness6 (enc := enc) (C := Try.checked) false ⟨#[], #[.slice none 0 0], []⟩ 8 (by kernel_rfl) (by kernel_rfl) (by kernel_rfl) (by kernel_rfl)) ?_
  intro W base args ds gs before hval0 hW hcnd _
  have hval : ∀ (j : Nat) t v, Try.f10.params[j]? = some t → args[j]? = some v → Value.okWide Try.prog W .any base t v := hval0
  have hW' := hW
  obtain ⟨p, q, hA0, hV, rfl, hfz, hnd⟩ := hW
  have hA : DataW.TrodAll enc Try.prog W 0 (fun _ => true) true Try.f10.params.toList args.toList ds p := hA0
  rw [Try.params10] at hA hval
  obtain ⟨v0, vs0, d0, ds0, p0, q0, hargs, rfl, rfl, h0, r0⟩ := trodAll_cons hA
  obtain ⟨rfl, rfl, rfl⟩ := trodAll_nil r0
  obtain rfl : args = #[v0] := by cases args; simp_all
  obtain ⟨rfl, rfl⟩ := trodVars_none hV
  obtain ⟨a0, l0, c0, rfl⟩ := okWide_slice Try.underlying28 (hval 0 28 v0 rfl rfl)
  have k0 := h0
  have lt0 : ∀ x ∈ p0, x.block < W.heap.size := by obtain ⟨m, hm⟩ := k0; exact DataW.trod_lt m _ _ _ hm
  have w0 : Code W a0 l0 c0 := by
    obtain ⟨fuel, hf⟩ := h0
    rcases open_ints Try.underlying28 Try.underlying5 (by kernel_rfl) hf with ⟨hcs, _⟩ | ⟨x, l, c, zs, hcs, _, hl, hm, hz, _, hcell, hwz⟩
    · simp [Value.cells] at hcs
      obtain ⟨rfl, rfl, rfl⟩ := hcs
      exact ⟨Nat.le_refl _, Nat.zero_le _, .inl rfl⟩
    · simp [Value.cells] at hcs
      obtain ⟨rfl, rfl, rfl⟩ := hcs
      exact Code.of_row hl hm (by simpa using hz) hcell hwz
  clear hA0 hval0
  simp only [List.append_nil] at hW'
  refine (walk a0 l0 c0 W w0).mono fun e W' ⟨he, bel⟩ => ?_
  subst he
  exact ⟨_, rfl, _, _, _, [], _, [], hW', trodAll_mk1 (shut_bool Try.underlying4 _), (trodAll_cons_mk (Below.trod laidOut (by kernel_rfl) (of_decide_eq_true (by kernel_rfl)) k0 bel lt0) trodAll_mk0), rfl, bel.frame _, fun h => by cases h⟩

theorem over : Rows.fnOrderRow.holds Try.pinned (OpenSpec.ofChange Rows.fnOrderSpec) :=
  OpenClaim.holds_of_wide 10 Try.f10 rfl rfl rfl rfl rfl rfl rfl ⟨rfl, rfl, rfl, rfl, rfl⟩ rfl rfl rfl rfl rfl (by kernel_rfl) Try.func10 (by kernel_rfl)
    (of_decide_eq_true (by kernel_rfl)) (by unfold Func.isWrapper; first | (rw [if_pos (by decide +kernel)]; kernel_rfl) | (rw [if_neg (by decide +kernel)]; exact ⟨rfl, rfl⟩))
    (fun os started H enc _ => lifted os started H enc)

/-- The statement. -/
theorem proved : Rows.FnOrderSaid := over
#print axioms proved
end Go.Proofs.Ytclpcgkfgbkjmaa.fnOrder
