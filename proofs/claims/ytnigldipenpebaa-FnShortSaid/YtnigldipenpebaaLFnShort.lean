/- The law FnShort is true of every code: shorts go round. No condition. -/
import Derived.Test.YtnigldipenpebaaRows
import Derived.Test.YtnigldipenpebaaDraw
import Derived.Test.YtnigldipenpebaaNum
import Derived.WalkKit
import Derived.ProofKit
import Derived.OpenShut
import Derived.ShutString
import Derived.Below
import Derived.ChangeOld
namespace Go.Proofs.Ytnigldipenpebaa.fnShort
open Go.ChangeShapes Go.WideShapes Go.ChangeAt Go.RowKit
open Go.ChangeMaps (open_string shut_string)
set_option linter.unusedVariables false

theorem own : ownKnob Try.prog.godebug = none := by kernel_rfl

theorem laidOut : laidOutB Try.prog = true := by kernel_rfl

theorem shortZ_facts (n : Int) : -500 ≤ shortZ n ∧ shortZ n ≤ 499 ∧ (n - shortZ n).tmod 1000 = 0 := by
  unfold shortZ
  have h := Int.mul_tdiv_add_tmod (n + 500) 1000
  generalize (n + 500).tmod 1000 = r at *
  generalize (n + 500).tdiv 1000 = q at *
  refine ⟨by omega, by omega, Int.tmod_eq_zero_of_dvd ?_⟩
  omega

theorem shortZ_id (n : Int) (h1 : -500 ≤ n) (h2 : n ≤ 499) : shortP n = (n, true) := by
  have hb : inB n (-1000000) 1000000 = true := inB_iff.2 (by omega)
  have e : shortP n = (shortZ n, true) := by unfold shortP; rw [hb]; rfl
  rw [e]
  have h := shortZ_facts n
  obtain ⟨h3, h4, h5⟩ := h
  have h6 := Int.dvd_of_tmod_eq_zero h5
  have h7 : shortZ n = n := by omega
  rw [h7]

set_option maxHeartbeats 800000 in
theorem walk (a0 : Option Addr) (l0 c0 : Nat) (w : World) (w0 : Code w a0 l0 c0) :
    Calls Try.prog 5 #[.slice a0 l0 c0] w fun e w' => e = .returned (.bool true) ∧ Below w.heap.size w w' := by
  have HD := Lib.hid (drawNumberShort_any w a0 l0 c0 w0)
  clear w0
  by_cases hl : (1048576 : Int) < l0
  · go_enter Try.func5, Try.ntmps5
    go_wp2
    go_ret
    exact ⟨rfl, Below.refl _ _⟩
  · go_enter Try.func5, Try.ntmps5
    go_wp2_with fail
    refine HD.out.mono ?_
    rintro e w1 ⟨n, rfl, hn0, hn1, hB1⟩
    have H1 := Lib.hid (fun W => numberShort_any n W)
    have H2 := Lib.hid (fun W => sNumberShort_any n W)
    have hP : (∃ o, shortP n = (o, true) ∧ -500 ≤ o ∧ o ≤ 499 ∧ (n - o).tmod 1000 = 0) ∨ shortP n = (0, false) := by
      have hf := shortZ_facts n
      unfold shortP
      cases inB n (-1000000) 1000000
      · exact .inr rfl
      · exact .inl ⟨_, rfl, hf⟩
    generalize shortP n = x at *
    obtain ⟨x, b⟩ := x
    rcases hP with ⟨o, he, ho1, ho2, ho3⟩ | he
    · obtain ⟨rfl, rfl⟩ := Prod.mk.injEq .. ▸ he
      have H3 := Lib.hid (fun W => numberShort_any x W)
      rw [shortZ_id x ho1 ho2] at H3
      go_wp2_with fail
      refine (H1.out _).mono ?_
      rintro e w2 ⟨rfl, rfl⟩
      go_wp2_with fail
      refine (H2.out _).mono ?_
      rintro e w2 ⟨rfl, rfl⟩
      go_wp2_with fail
      refine (H3.out _).mono ?_
      rintro e w2 ⟨rfl, rfl⟩
      go_wp2
      go_ret
      exact ⟨rfl, hB1⟩
    · obtain ⟨rfl, rfl⟩ := Prod.mk.injEq .. ▸ he
      go_wp2_with fail
      refine (H1.out _).mono ?_
      rintro e w2 ⟨rfl, rfl⟩
      go_wp2_with fail
      refine (H2.out _).mono ?_
      rintro e w2 ⟨rfl, rfl⟩
      go_wp2
      go_ret
      exact ⟨rfl, hB1⟩

set_option maxRecDepth 100000 in
theorem lifted (os : Os) (started : os.Started) (H : Type) (enc : TypeId × Value → H) :
    ReturnsInHanded {} Try.checked os 5 .any (Rows.fnShortSpec.pre6 enc Try.prog Try.f5 Rows.fnShortRow.domain false) (Rows.fnShortSpec.post enc Try.prog Try.f5 false true false false) := by
  refine returnsInHanded_of_change (C := Try.checked) own started (by kernel_rfl) Try.func5
    (ChangeSpec.witness6 (enc := enc) (C := Try.checked) false ⟨#[], #[.slice none 0 0], []⟩ 8 (by kernel_rfl) (by kernel_rfl) (by kernel_rfl) (by kernel_rfl)) ?_
  intro W base args ds gs before hval0 hW hcnd _
  have hval : ∀ (j : Nat) t v, Try.f5.params[j]? = some t → args[j]? = some v → Value.okWide Try.prog W .any base t v := hval0
  have hW' := hW
  obtain ⟨p, q, hA0, hV, rfl, hfz, hnd⟩ := hW
  have hA : DataW.TrodAll enc Try.prog W 0 (fun _ => true) true Try.f5.params.toList args.toList ds p := hA0
  rw [Try.params5] at hA hval
  obtain ⟨v0, vs0, d0, ds0, p0, q0, hargs, rfl, rfl, h0, r0⟩ := trodAll_cons hA
  obtain ⟨rfl, rfl, rfl⟩ := trodAll_nil r0
  obtain rfl : args = #[v0] := by cases args; simp_all
  obtain ⟨rfl, rfl⟩ := trodVars_none hV
  obtain ⟨a0, l0, c0, rfl⟩ := okWide_slice Try.underlying26 (hval 0 26 v0 rfl rfl)
  have k0 := h0
  have lt0 : ∀ x ∈ p0, x.block < W.heap.size := by obtain ⟨m, hm⟩ := k0; exact DataW.trod_lt m _ _ _ hm
  have w0 : Code W a0 l0 c0 := by
    obtain ⟨fuel, hf⟩ := h0
    rcases open_ints Try.underlying26 Try.underlying5 (by kernel_rfl) hf with ⟨hcs, _⟩ | ⟨x, l, c, zs, hcs, _, hl, hm, hz, _, hcell, hwz⟩
    · simp [Value.cells] at hcs
      obtain ⟨rfl, rfl, rfl⟩ := hcs
      exact ⟨Nat.le_refl _, Nat.zero_le _, .inl rfl⟩
    · simp [Value.cells] at hcs
      obtain ⟨rfl, rfl, rfl⟩ := hcs
      exact Code.of_row hl hm (by simpa using hz) hcell hwz
  clear hA0 hval0
  simp only [List.append_nil] at hW'
  refine (walk a0 l0 c0 W w0).mono fun e W' ⟨he, bel⟩ => ?_
  subst he
  exact ⟨_, rfl, _, _, _, [], _, [], hW', trodAll_mk1 (shut_bool Try.underlying4 _), (trodAll_cons_mk (Below.trod laidOut (by kernel_rfl) (of_decide_eq_true (by kernel_rfl)) k0 bel lt0) trodAll_mk0), rfl, bel.frame _, fun h => by cases h⟩

theorem over : Rows.fnShortRow.holds Try.pinned (OpenSpec.ofChange Rows.fnShortSpec) :=
  OpenClaim.holds_of_wide 5 Try.f5 rfl rfl rfl rfl rfl rfl rfl ⟨rfl, rfl, rfl, rfl, rfl⟩ rfl rfl rfl rfl rfl (by kernel_rfl) Try.func5 (by kernel_rfl)
    (of_decide_eq_true (by kernel_rfl)) (by unfold Func.isWrapper; first | (rw [if_pos (by decide +kernel)]; kernel_rfl) | (rw [if_neg (by decide +kernel)]; exact ⟨rfl, rfl⟩))
    (fun os started H enc _ => lifted os started H enc)

/-- The statement. -/
theorem proved : Rows.FnShortSaid := over
#print axioms proved
end Go.Proofs.Ytnigldipenpebaa.fnShort
