/- The law FnForm is true of every code: a form has a size and a depth. No condition. -/
import Derived.Test.YtclpcgkfgbkjmaaRows
import Derived.Test.YtclpcgkfgbkjmaaDrawF
import Derived.Test.YtclpcgkfgbkjmaaPlainU
import Derived.Test.YtclpcgkfgbkjmaaForm
import Derived.WalkKit
import Derived.ProofKit
import Derived.OpenShut
import Derived.ShutString
import Derived.Below
import Derived.ChangeOld
namespace Go.Proofs.Ytclpcgkfgbkjmaa.fnForm
open Go.ChangeShapes Go.WideShapes Go.ChangeAt Go.RowKit
open Go.ChangeMaps (open_string shut_string)
set_option linter.unusedVariables false

theorem own : ownKnob Try.prog.godebug = none := by kernel_rfl

theorem laidOut : laidOutB Try.prog = true := by kernel_rfl

theorem parse_paren {t : Tree} (hg : t.good = true) : parse (t.text ++ [41]) = none := by
  cases hp : parse (t.text ++ [41]) with
  | none => rfl
  | some u =>
    exfalso
    obtain ⟨h1, h2, _, _⟩ := (parse_iff _ _).1 hp
    have e1 := nest_text u 1 1 h2 (Nat.le_refl _)
    have e2 := nest_text t 1 1 hg (Nat.le_refl _)
    rw [← h1, List.foldl_append, e2] at e1
    simp [nestS] at e1

set_option maxHeartbeats 800000 in
theorem walk (a0 : Option Addr) (l0 c0 : Nat) (w : World) (w0 : Code w a0 l0 c0) :
    Calls Try.prog 4 #[.slice a0 l0 c0] w fun e w' => e = .returned (.bool true) ∧ Below w.heap.size w w' := by
  have HD := Lib.hid (drawFormValid_any w a0 l0 c0 w0)
  clear w0
  by_cases hl : (1048576 : Int) < l0
  · go_enter Try.func4, Try.ntmps4
    go_wp2
    go_ret
    exact ⟨rfl, Below.refl _ _⟩
  · go_enter Try.func4, Try.ntmps4
    go_wp2_with fail
    refine HD.out.mono ?_
    rintro e w1 ⟨s, rfl, hs, hB1⟩
    have H1 := Lib.hid (fun W => formValid_any s W (by omega))
    have H2 := Lib.hid (fun W => sFormValid_any s W (by omega))
    cases hp : parse s.data.toList with
    | none =>
      rw [hp] at H1 H2
      clear hp
      go_wp2_with fail
      refine (H1.out _).mono ?_
      rintro e w2 ⟨rfl, hb2⟩
      go_wp2_with fail
      refine (H2.out _).mono ?_
      rintro e w3 ⟨rfl, hb3⟩
      go_wp2
      go_ret
      exact ⟨rfl, (hB1.trans (hb2.mono hB1.size)).trans (hb3.mono (Nat.le_trans hB1.size hb2.size))⟩
    | some t =>
      obtain ⟨h1, h2⟩ := parse_size hp
      have hdt := ((parse_iff _ _).1 hp).2.2.1
      have H3 := Lib.hid (fun W => formAtoms_any s W (by omega))
      have h4 := fun W => formDepth_any s W (by omega)
      have h5 := fun W => formSize_any s W (by omega)
      have h6 := fun W => formValid_any (s ++ ⟨#[41]⟩) W (by rw [ByteArray.size_append, show (ByteArray.mk #[41]).size = 1 from rfl]; omega)
      rw [hp] at h4 h5
      have hq : parse (s ++ ⟨#[41]⟩).data.toList = none := by
        rw [data_add, ((parse_iff _ _).1 hp).1]; exact parse_paren (parse_good hp)
      rw [hq] at h6
      rw [hp] at H1 H2
      have H4 := Lib.hid h4
      have H5 := Lib.hid h5
      have H6 := Lib.hid h6
      have hsome : Hid ((atomsOf s.data.toList).isSome = true) := by show _ = _; unfold atomsOf; rw [hp]; rfl
      change Hid (∀ W, Calls _ _ _ W fun e w' => e = .returned (.int .i64 ((t.depth : Nat) : Int)) ∧ _) at H4
      change Hid (∀ W, Calls _ _ _ W fun e w' => e = .returned (.int .i64 ((t.size : Nat) : Int)) ∧ _) at H5
      have hd0 : decide ((t.depth : Int) ≤ 60) = true := by simp; omega
      have hd1 : decide ((0 : Int) ≤ (t.depth : Int)) = true := by simp
      have hd2 : decide ((1 : Int) ≤ (t.size : Int)) = true := by simp; omega
      clear hp h4 h5 h6 hq
      generalize t.size = k at *
      generalize t.depth = d at *
      go_wp2_with fail
      refine (H1.out _).mono ?_
      rintro e w2 ⟨rfl, hb2⟩
      go_wp2_with fail
      refine (H2.out _).mono ?_
      rintro e w3 ⟨rfl, hb3⟩
      have hB3 := (hB1.trans (hb2.mono hB1.size)).trans (hb3.mono (Nat.le_trans hB1.size hb2.size))
      go_wp2_with fail
      refine (H3.out _).mono ?_
      rintro e w4 ⟨v, rfl, hr, hb4⟩
      rw [hsome.out]
      obtain ⟨o, c, rfl, -⟩ := hr.forms
      have hB4 := hB3.trans (hb4.mono hB3.size)
      clear hr hb4
      go_wp2_with fail
      refine (H4.out _).mono ?_
      rintro e w5 ⟨rfl, hb5⟩
      have hB5 := hB4.trans (hb5.mono hB4.size)
      go_wp2_with fail
      refine (H5.out _).mono ?_
      rintro e w6 ⟨rfl, hb6⟩
      have hB6 := hB5.trans (hb6.mono hB5.size)
      go_wp2_with fail
      refine (H6.out _).mono ?_
      rintro e w7 ⟨rfl, hb7⟩
      go_wp2
      go_ret
      exact ⟨rfl, hB6.trans (hb7.mono hB6.size)⟩

set_option maxRecDepth 100000 in
theorem lifted (os : Os) (started : os.Started) (H : Type) (enc : TypeId × Value → H) :
    ReturnsInHanded {} Try.checked os 4 .any (Rows.fnFormSpec.pre6 enc Try.prog Try.f4 Rows.fnFormRow.domain false) (Rows.fnFormSpec.post enc Try.prog Try.f4 false true false false) := by
  refine returnsInHanded_of_change (C := Try.checked) own started (by kernel_rfl) Try.func4
    (ChangeSpec.witness6 (enc := enc) (C := Try.checked) false ⟨#[], #[.slice none 0 0], []⟩ 8 (by kernel_rfl) (by kernel_rfl) (by kernel_rfl) (by kernel_rfl)) ?_
  intro W base args ds gs before hval0 hW hcnd _
  have hval : ∀ (j : Nat) t v, Try.f4.params[j]? = some t → args[j]? = some v → Value.okWide Try.prog W .any base t v := hval0
  have hW' := hW
  obtain ⟨p, q, hA0, hV, rfl, hfz, hnd⟩ := hW
  have hA : DataW.TrodAll enc Try.prog W 0 (fun _ => true) true Try.f4.params.toList args.toList ds p := hA0
  rw [Try.params4] at hA hval
  obtain ⟨v0, vs0, d0, ds0, p0, q0, hargs, rfl, rfl, h0, r0⟩ := trodAll_cons hA
  obtain ⟨rfl, rfl, rfl⟩ := trodAll_nil r0
  obtain rfl : args = #[v0] := by cases args; simp_all
  obtain ⟨rfl, rfl⟩ := trodVars_none hV
  obtain ⟨a0, l0, c0, rfl⟩ := okWide_slice Try.underlying28 (hval 0 28 v0 rfl rfl)
  have k0 := h0
  have lt0 : ∀ x ∈ p0, x.block < W.heap.size := by obtain ⟨m, hm⟩ := k0; exact DataW.trod_lt m _ _ _ hm
  have w0 : Code W a0 l0 c0 := by
    obtain ⟨fuel, hf⟩ := h0
    rcases open_ints Try.underlying28 Try.underlying5 (by kernel_rfl) hf with ⟨hcs, _⟩ | ⟨x, l, c, zs, hcs, _, hl, hm, hz, _, hcell, hwz⟩
    · simp [Value.cells] at hcs
      obtain ⟨rfl, rfl, rfl⟩ := hcs
      exact ⟨Nat.le_refl _, Nat.zero_le _, .inl rfl⟩
    · simp [Value.cells] at hcs
      obtain ⟨rfl, rfl, rfl⟩ := hcs
      exact Code.of_row hl hm (by simpa using hz) hcell hwz
  clear hA0 hval0
  simp only [List.append_nil] at hW'
  refine (walk a0 l0 c0 W w0).mono fun e W' ⟨he, bel⟩ => ?_
  subst he
  exact ⟨_, rfl, _, _, _, [], _, [], hW', trodAll_mk1 (shut_bool Try.underlying4 _), (trodAll_cons_mk (Below.trod laidOut (by kernel_rfl) (of_decide_eq_true (by kernel_rfl)) k0 bel lt0) trodAll_mk0), rfl, bel.frame _, fun h => by cases h⟩

theorem over : Rows.fnFormRow.holds Try.pinned (OpenSpec.ofChange Rows.fnFormSpec) :=
  OpenClaim.holds_of_wide 4 Try.f4 rfl rfl rfl rfl rfl rfl rfl ⟨rfl, rfl, rfl, rfl, rfl⟩ rfl rfl rfl rfl rfl (by kernel_rfl) Try.func4 (by kernel_rfl)
    (of_decide_eq_true (by kernel_rfl)) (by unfold Func.isWrapper; first | (rw [if_pos (by decide +kernel)]; kernel_rfl) | (rw [if_neg (by decide +kernel)]; exact ⟨rfl, rfl⟩))
    (fun os started H enc _ => lifted os started H enc)

/-- The statement. -/
theorem proved : Rows.FnFormSaid := over
#print axioms proved
end Go.Proofs.Ytclpcgkfgbkjmaa.fnForm
