/- The law FnTarget is true of every code: target types are closed. No condition. -/
import Derived.Test.YtcobcmgmleblkaaRows
import Derived.Test.YtcobcmgmleblkaaTgtM
import Derived.Test.YtcobcmgmleblkaaSTarget
import Derived.WalkKit
import Derived.ProofKit
import Derived.OpenShut
import Derived.ShutString
import Derived.Below
import Derived.ChangeOld
namespace Go.Proofs.Ytcobcmgmleblkaa.fnTarget
open Go.ChangeShapes Go.WideShapes Go.ChangeAt Go.RowKit
open Go.ChangeMaps (open_string shut_string)
set_option linter.unusedVariables false

theorem own : ownKnob Try.prog.godebug = none := by kernel_rfl

theorem laidOut : laidOutB Try.prog = true := by kernel_rfl

set_option maxRecDepth 100000 in
set_option maxHeartbeats 3200000 in
theorem walk (a0 : Option Addr) (l0 c0 : Nat) (w : World) (w0 : Code w a0 l0 c0) :
    Calls Try.prog 7 #[.slice a0 l0 c0] w fun e w' => e = .returned (.bool true) ∧ Below w.heap.size w w' := by
  have HD := Lib.hid (drawTargetValid_any w a0 l0 c0 w0)
  clear w0
  by_cases hl : (1048576 : Int) < l0
  · go_enter Try.func7, Try.ntmps7
    go_wp2
    go_ret
    exact ⟨rfl, Below.refl _ _⟩
  · go_enter Try.func7, Try.ntmps7
    go_wp2_with fail
    refine HD.out.mono ?_
    rintro e w1 ⟨s, rfl, hs, hB1⟩
    have h1 := fun W => targetValid_any s W (by omega)
    have h2 := fun W => sTargetValid_any s W (by omega)
    rw [ptarget_isSome] at h1 h2
    change ∀ W, Calls _ _ _ W fun e w' => e = .returned (.bool (tval s)) ∧ _ at h1
    change ∀ W, Calls _ _ _ W fun e w' => e = .returned (.bool (tval s)) ∧ _ at h2
    cases htv : tval s with
    | false =>
      rw [htv] at h1 h2
      have H1 := Lib.hid h1
      have H2 := Lib.hid h2
      clear h1 h2 htv
      go_wp2_with fail
      refine (H1.out _).mono ?_
      rintro e w2 ⟨rfl, hb2⟩
      go_wp2_with fail
      refine (H2.out _).mono ?_
      rintro e w3 ⟨rfl, hb3⟩
      go_wp2
      go_ret
      exact ⟨rfl, (hB1.trans (hb2.mono hB1.size)).trans (hb3.mono (Nat.le_trans hB1.size hb2.size))⟩
    | true =>
      rw [htv] at h1 h2
      obtain ⟨t, hp, htt⟩ : ∃ t, parse s.data.toList = some t ∧ t.target unkI false false = true := by
        unfold tval at htv
        cases hp : parse s.data.toList with
        | none => rw [hp] at htv; cases htv
        | some t => rw [hp] at htv; exact ⟨t, rfl, htv⟩
      have hst : t.txt = s := (bts_eq ((parse_iff _ _).1 hp).1).symm
      have h3 := fun W => targetPut_any s ⟨#[97, 51]⟩ W (by omega) (by decide)
      have hpa : parse [97, 51] = some (.node ⟨#[97, 51]⟩ []) := by
        have := parse_text (t := .node ⟨#[97, 51]⟩ []) rfl (by simp [Tree.depth]) (by simp [Tree.text])
        simpa [Tree.text] using this
      unfold StrR at h3
      rw [show (ByteArray.mk #[97, 51]).data.toList = [97, 51] from rfl, putOf_closed hp hpa htt (by decide), hst] at h3
      have h4 := fun (W : World) o c h => formMake_any [⟨#[116]⟩, s, ⟨#[105]⟩] o 3 c W h (by simp [totS, show (ByteArray.mk #[116]).size = 1 from rfl, show (ByteArray.mk #[105]).size = 1 from rfl]; omega)
      have h5 := fun (W : World) o c h => formMake_any [⟨#[101]⟩, s] o 2 c W h (by simp [totS, show (ByteArray.mk #[101]).size = 1 from rfl]; omega)
      have m4 := make_t hp htt
      have m5 := make_e hp htt
      unfold StrR at h4 h5
      have H1 := Lib.hid h1
      have H2 := Lib.hid h2
      have H3 := Lib.hid h3
      change Hid (∀ W, Calls _ _ _ W fun e w' => e = .returned (.tuple #[.string s, .bool true]) ∧ _) at H3
      have HV : Hid (∀ x : ByteArray, x.size ≤ 12000 ∧ tval x = true → ∀ W, Calls Try.prog 18 #[.string x] W fun e w' => e = .returned (.bool true) ∧ Below W.heap.size W w') := fun x hx W => by
        have := targetValid_any x W (by have := hx.1; omega)
        rw [ptarget_isSome] at this
        change Calls _ _ _ W fun e w' => e = .returned (.bool (tval x)) ∧ _ at this
        rw [hx.2] at this
        exact this
      have H4 := Lib.hid h4
      have H5 := Lib.hid h5
      clear h1 h2 h3 h4 h5 htv hp htt hst hpa
      generalize makeF [⟨#[116]⟩, s, ⟨#[105]⟩] = m1 at *
      generalize makeF [⟨#[101]⟩, s] = m2 at *
      go_wp2_with fail
      refine (H1.out _).mono ?_
      rintro e w2 ⟨rfl, hb2⟩
      go_wp2_with fail
      refine (H2.out _).mono ?_
      rintro e w3 ⟨rfl, hb3⟩
      have hB3 := (hB1.trans (hb2.mono hB1.size)).trans (hb3.mono (Nat.le_trans hB1.size hb2.size))
      go_wp2_with fail
      refine (H3.out _).mono ?_
      rintro e w4 ⟨rfl, hb4⟩
      have hB4 := hB3.trans (hb4.mono hB3.size)
      have hB4' := hB4.alloc hB4.size (.cells #[.string ⟨#[116]⟩, .string s, .string ⟨#[105]⟩] 9)
      have S4 := Lib.hid (strs3 (heap_alloc_new w4 (.cells #[.string ⟨#[116]⟩, .string s, .string ⟨#[105]⟩] 9)))
      go_wp2_with fail
      refine (H4.out _ _ _ S4.out).mono ?_
      rintro e w5 ⟨rfl, hb5⟩
      have hB5 := hB4'.trans (hb5.mono hB4'.size)
      have hB5' := hB5.alloc hB5.size (.cells #[.string ⟨#[101]⟩, .string s] 9)
      have S5 := Lib.hid (strs2 (heap_alloc_new w5 (.cells #[.string ⟨#[101]⟩, .string s] 9)))
      clear hb2 hb3 hb4 hb5
      go_wp2_with fail
      refine (H5.out _ _ _ S5.out).mono ?_
      rintro e w6 ⟨rfl, hb6⟩
      have hB6 := hB5'.trans (hb6.mono hB5'.size)
      clear hb6 H1 H2 H3 H4 H5 S4 S5
      cases m1 with
      | none =>
        cases m2 with
        | none =>
          dsimp only [Option.isSome, Option.getD]
          go_wp2
          go_ret
          exact ⟨rfl, hB6⟩
        | some y2 =>
          have V2 := Lib.hid (HV.out y2 (m5 _ rfl))
          dsimp only [Option.isSome, Option.getD]
          clear HV m4 m5
          go_wp2_with fail
          refine (V2.out _).mono ?_
          rintro e w7 ⟨rfl, hb7⟩
          go_wp2
          go_ret
          exact ⟨rfl, hB6.trans (hb7.mono hB6.size)⟩
      | some y1 =>
        have V1 := Lib.hid (HV.out y1 (m4 _ rfl))
        cases m2 with
        | none =>
          dsimp only [Option.isSome, Option.getD]
          clear HV m4 m5
          go_wp2_with fail
          refine (V1.out _).mono ?_
          rintro e w7 ⟨rfl, hb7⟩
          go_wp2
          go_ret
          exact ⟨rfl, hB6.trans (hb7.mono hB6.size)⟩
        | some y2 =>
          have V2 := Lib.hid (HV.out y2 (m5 _ rfl))
          dsimp only [Option.isSome, Option.getD]
          clear HV m4 m5
          go_wp2_with fail
          refine (V1.out _).mono ?_
          rintro e w7 ⟨rfl, hb7⟩
          have hB7 := hB6.trans (hb7.mono hB6.size)
          go_wp2_with fail
          refine (V2.out _).mono ?_
          rintro e w8 ⟨rfl, hb8⟩
          go_wp2
          go_ret
          exact ⟨rfl, hB7.trans (hb8.mono hB7.size)⟩

set_option maxRecDepth 100000 in
theorem lifted (os : Os) (started : os.Started) (H : Type) (enc : TypeId × Value → H) :
    ReturnsInHanded {} Try.checked os 7 .any (Rows.fnTargetSpec.pre6 enc Try.prog Try.f7 Rows.fnTargetRow.domain false) (Rows.fnTargetSpec.post enc Try.prog Try.f7 false true false false) := by
  refine returnsInHanded_of_change (C := Try.checked) own started (by kernel_rfl) Try.func7
    (ChangeSpec.witness6 (enc := enc) (C := Try.checked) false ⟨#[], #[.slice none 0 0], []⟩ 8 (by kernel_rfl) (by kernel_rfl) (by kernel_rfl) (by kernel_rfl)) ?_
  intro W base args ds gs before hval0 hW hcnd _
  have hval : ∀ (j : Nat) t v, Try.f7.params[j]? = some t → args[j]? = some v → Value.okWide Try.prog W .any base t v := hval0
  have hW' := hW
  obtain ⟨p, q, hA0, hV, rfl, hfz, hnd⟩ := hW
  have hA : DataW.TrodAll enc Try.prog W 0 (fun _ => true) true Try.f7.params.toList args.toList ds p := hA0
  rw [Try.params7] at hA hval
  obtain ⟨v0, vs0, d0, ds0, p0, q0, hargs, rfl, rfl, h0, r0⟩ := trodAll_cons hA
  obtain ⟨rfl, rfl, rfl⟩ := trodAll_nil r0
  obtain rfl : args = #[v0] := by cases args; simp_all
  obtain ⟨rfl, rfl⟩ := trodVars_none hV
  obtain ⟨a0, l0, c0, rfl⟩ := okWide_slice Try.underlying25 (hval 0 25 v0 rfl rfl)
  have k0 := h0
  have lt0 : ∀ x ∈ p0, x.block < W.heap.size := by obtain ⟨m, hm⟩ := k0; exact DataW.trod_lt m _ _ _ hm
  have w0 : Code W a0 l0 c0 := by
    obtain ⟨fuel, hf⟩ := h0
    rcases open_ints Try.underlying25 Try.underlying5 (by kernel_rfl) hf with ⟨hcs, _⟩ | ⟨x, l, c, zs, hcs, _, hl, hm, hz, _, hcell, hwz⟩
    · simp [Value.cells] at hcs
      obtain ⟨rfl, rfl, rfl⟩ := hcs
      exact ⟨Nat.le_refl _, Nat.zero_le _, .inl rfl⟩
    · simp [Value.cells] at hcs
      obtain ⟨rfl, rfl, rfl⟩ := hcs
      exact Code.of_row hl hm (by simpa using hz) hcell hwz
  clear hA0 hval0
  simp only [List.append_nil] at hW'
  refine (walk a0 l0 c0 W w0).mono fun e W' ⟨he, bel⟩ => ?_
  subst he
  exact ⟨_, rfl, _, _, _, [], _, [], hW', trodAll_mk1 (shut_bool Try.underlying4 _), (trodAll_cons_mk (Below.trod laidOut (by kernel_rfl) (of_decide_eq_true (by kernel_rfl)) k0 bel lt0) trodAll_mk0), rfl, bel.frame _, fun h => by cases h⟩

theorem over : Rows.fnTargetRow.holds Try.pinned (OpenSpec.ofChange Rows.fnTargetSpec) :=
  OpenClaim.holds_of_wide 7 Try.f7 rfl rfl rfl rfl rfl rfl rfl ⟨rfl, rfl, rfl, rfl, rfl⟩ rfl rfl rfl rfl rfl (by kernel_rfl) Try.func7 (by kernel_rfl)
    (of_decide_eq_true (by kernel_rfl)) (by unfold Func.isWrapper; first | (rw [if_pos (by decide +kernel)]; kernel_rfl) | (rw [if_neg (by decide +kernel)]; exact ⟨rfl, rfl⟩))
    (fun os started H enc _ => lifted os started H enc)

/-- The statement. -/
theorem proved : Rows.FnTargetSaid := over
#print axioms proved
end Go.Proofs.Ytcobcmgmleblkaa.fnTarget
