/- The law FnTargetNext is true of every code: what goes on with a value is a package. No condition. -/
import Derived.Test.YtcobcmgmleblkaaRows
import Derived.Test.YtcobcmgmleblkaaTgtN
import Derived.Test.YtcobcmgmleblkaaTarget
import Derived.WalkKit
import Derived.ProofKit
import Derived.OpenShut
import Derived.ShutString
import Derived.Below
import Derived.ChangeOld
namespace Go.Proofs.Ytcobcmgmleblkaa.fnTargetNext
open Go.ChangeShapes Go.WideShapes Go.ChangeAt Go.RowKit
open Go.ChangeMaps (open_string shut_string)
set_option linter.unusedVariables false

theorem own : ownKnob Try.prog.godebug = none := by kernel_rfl

theorem laidOut : laidOutB Try.prog = true := by kernel_rfl

set_option maxRecDepth 100000 in
set_option maxHeartbeats 3200000 in
theorem walk (a0 : Option Addr) (l0 c0 : Nat) (w : World) (w0 : Code w a0 l0 c0) :
    Calls Try.prog 9 #[.slice a0 l0 c0] w fun e w' => e = .returned (.bool true) ∧ Below w.heap.size w w' := by
  have HD := Lib.hid (drawTargetNext_any w a0 l0 c0 w0)
  clear w0
  by_cases hl : (1048576 : Int) < l0
  · go_enter Try.func9, Try.ntmps9
    go_wp2
    go_ret
    exact ⟨rfl, Below.refl _ _⟩
  · go_enter Try.func9, Try.ntmps9
    go_wp2_with fail
    refine HD.out.mono ?_
    rintro e w1 ⟨s, rfl, hs, hB1⟩
    have h1 := fun W => targetNext_any s W (by omega)
    have h2 := fun W => sTargetNext_any s W (by omega)
    unfold StrR at h1 h2
    cases hp : ptype s.data.toList with
    | none =>
      rw [show nextOf s.data.toList = none by unfold nextOf; rw [hp]; rfl] at h1 h2
      have H1 := Lib.hid h1
      have H2 := Lib.hid h2
      change Hid (∀ W, Calls _ _ _ W fun e w' => e = .returned (.tuple #[.string ⟨#[]⟩, .bool false]) ∧ _) at H1
      change Hid (∀ W, Calls _ _ _ W fun e w' => e = .returned (.tuple #[.string ⟨#[]⟩, .bool false]) ∧ _) at H2
      clear hp h1 h2
      go_wp2_with fail
      refine (H1.out _).mono ?_
      rintro e w2 ⟨rfl, hb2⟩
      go_wp2_with fail
      refine (H2.out _).mono ?_
      rintro e w3 ⟨rfl, hb3⟩
      go_wp2
      go_ret
      exact ⟨rfl, (hB1.trans (hb2.mono hB1.size)).trans (hb3.mono (Nat.le_trans hB1.size hb2.size))⟩
    | some u =>
      rw [show nextOf s.data.toList = some (onw u.tgt) by unfold nextOf; rw [hp]; rfl] at h1 h2
      obtain ⟨o1, o2, o3, o4, o5, o6, o7⟩ := onw_facts hp
      have hxs : (onw u.tgt).txt.size ≤ 700 := by rw [Tree.txt, bts_size]; exact o2
      have hys : (onwY u.tgt).txt.size ≤ 700 := by rw [Tree.txt, bts_size]; exact o4
      have hzs : (onwZ u.tgt).txt.size ≤ 700 := by rw [Tree.txt, bts_size]; exact o6
      have hxd : (onw u.tgt).txt.data.toList = (onw u.tgt).text := by rw [Tree.txt, bts_data]
      have hyd : (onwY u.tgt).txt.data.toList = (onwY u.tgt).text := by rw [Tree.txt, bts_data]
      have hzd : (onwZ u.tgt).txt.data.toList = (onwZ u.tgt).text := by rw [Tree.txt, bts_data]
      have h3 := fun W => targetBack_any (onw u.tgt).txt W (by omega)
      have h4 := fun W => formParts_any (onw u.tgt).txt W (by omega)
      have h5 := fun W => targetPut_any (onwY u.tgt).txt ⟨#[97, 48]⟩ W (by omega) (by decide)
      have h6 := fun W => formParts_any (onwZ u.tgt).txt W (by omega)
      have h7 := fun W => targetValid_any (onw u.tgt).txt W (by omega)
      unfold StrR at h3 h5
      unfold TextsR at h4 h6
      rw [hxd] at h3 h4 h7
      rw [show (ByteArray.mk #[97, 48]).data.toList = [97, 48] from rfl, hyd, o5] at h5
      rw [hzd] at h6
      rw [onw_back o1] at h3
      rw [ptarget_isSome, o1] at h7
      change ∀ W, Calls _ _ _ W fun e w' => e = .returned (.bool ((onw u.tgt).target unkI false false)) ∧ _ at h7
      rw [o3] at h7
      rw [onw_is] at o1
      rw [show partsOf (onw u.tgt).text = some [(Tree.node ⟨#[101]⟩ []).txt, (onwY u.tgt).txt] from partsOf_node o1 (List.cons_ne_nil _ _)] at h4
      rw [show partsOf (onwZ u.tgt).text = some [(Tree.node ⟨#[116]⟩ []).txt, (Tree.node ⟨#[]⟩ [.node ⟨#[99]⟩ [], .node ⟨#[97, 48]⟩ [], u.tgt]).txt, (Tree.node ⟨#[97, 48]⟩ []).txt] from partsOf_node o7 (List.cons_ne_nil _ _)] at h6
      rw [show (Tree.node ⟨#[97, 48]⟩ []).txt = ⟨#[97, 48]⟩ from rfl] at h6
      have H1 := Lib.hid h1
      have H2 := Lib.hid h2
      have H3 := Lib.hid h3
      have H4 := Lib.hid h4
      have H5 := Lib.hid h5
      have H6 := Lib.hid h6
      have H7 := Lib.hid h7
      change Hid (∀ W, Calls _ _ _ W fun e w' => e = .returned (.tuple #[.string (onw u.tgt).txt, .bool true]) ∧ _) at H1
      change Hid (∀ W, Calls _ _ _ W fun e w' => e = .returned (.tuple #[.string (onw u.tgt).txt, .bool true]) ∧ _) at H2
      change Hid (∀ W, Calls _ _ _ W fun e w' => e = .returned (.tuple #[.string ⟨#[]⟩, .bool false]) ∧ _) at H3
      change Hid (∀ W, Calls _ _ _ W fun e w' => e = .returned (.tuple #[.string (onwZ u.tgt).txt, .bool true]) ∧ _) at H5
      change Hid (∀ W, Calls _ _ _ W fun e w' => ∃ v, e = .returned (.tuple #[v, .bool true]) ∧ SRow w' _ v [_, _] ∧ _) at H4
      change Hid (∀ W, Calls _ _ _ W fun e w' => ∃ v, e = .returned (.tuple #[v, .bool true]) ∧ SRow w' _ v [_, _, _] ∧ _) at H6
      generalize (onw u.tgt).txt = x at *
      generalize (onwY u.tgt).txt = y at *
      generalize (onwZ u.tgt).txt = z at *
      clear hp h1 h2 h3 h4 h5 h6 h7 o1 o2 o3 o4 o5 o6 o7 hxs hys hzs hxd hyd hzd
      go_wp2_with fail
      refine (H1.out _).mono ?_
      rintro e w2 ⟨rfl, hb2⟩
      go_wp2_with fail
      refine (H2.out _).mono ?_
      rintro e w3 ⟨rfl, hb3⟩
      have hB3 := (hB1.trans (hb2.mono hB1.size)).trans (hb3.mono (Nat.le_trans hB1.size hb2.size))
      go_wp2_with fail
      refine (H3.out _).mono ?_
      rintro e w4 ⟨rfl, hb4⟩
      have hB4 := hB3.trans (hb4.mono hB3.size)
      go_wp2_with fail
      refine (H4.out _).mono ?_
      rintro e w5 ⟨v, rfl, hr5, hb5⟩
      obtain ⟨b, off, c, rfl, p1⟩ := texts_two hr5
      have hB5 := hB4.trans (hb5.mono hB4.size)
      clear hr5 hb2 hb3 hb4 hb5
      go_wp2_with fail
      refine (H5.out _).mono ?_
      rintro e w6 ⟨rfl, hb6⟩
      have hB6 := hB5.trans (hb6.mono hB5.size)
      clear p1
      go_wp2_with fail
      refine (H6.out _).mono ?_
      rintro e w7 ⟨v, rfl, hr7, hb7⟩
      obtain ⟨b', off', c', rfl, p2⟩ := texts_three hr7
      have hB7 := hB6.trans (hb7.mono hB6.size)
      clear hr7 hb6 hb7
      go_wp2_with fail
      refine (H7.out _).mono ?_
      rintro e w8 ⟨rfl, hb8⟩
      have hB8 := hB7.trans (hb8.mono hB7.size)
      replace p2 := (hb8.cell (lt_of_cell p2)).trans p2
      go_wp2
      go_ret
      exact ⟨rfl, hB8⟩

set_option maxRecDepth 100000 in
theorem lifted (os : Os) (started : os.Started) (H : Type) (enc : TypeId × Value → H) :
    ReturnsInHanded {} Try.checked os 9 .any (Rows.fnTargetNextSpec.pre6 enc Try.prog Try.f9 Rows.fnTargetNextRow.domain false) (Rows.fnTargetNextSpec.post enc Try.prog Try.f9 false true false false) := by
  refine returnsInHanded_of_change (C := Try.checked) own started (by kernel_rfl) Try.func9
    (ChangeSpec.witness6 (enc := enc) (C := Try.checked) false ⟨#[], #[.slice none 0 0], []⟩ 8 (by kernel_rfl) (by kernel_rfl) (by kernel_rfl) (by kernel_rfl)) ?_
  intro W base args ds gs before hval0 hW hcnd _
  have hval : ∀ (j : Nat) t v, Try.f9.params[j]? = some t → args[j]? = some v → Value.okWide Try.prog W .any base t v := hval0
  have hW' := hW
  obtain ⟨p, q, hA0, hV, rfl, hfz, hnd⟩ := hW
  have hA : DataW.TrodAll enc Try.prog W 0 (fun _ => true) true Try.f9.params.toList args.toList ds p := hA0
  rw [Try.params9] at hA hval
  obtain ⟨v0, vs0, d0, ds0, p0, q0, hargs, rfl, rfl, h0, r0⟩ := trodAll_cons hA
  obtain ⟨rfl, rfl, rfl⟩ := trodAll_nil r0
  obtain rfl : args = #[v0] := by cases args; simp_all
  obtain ⟨rfl, rfl⟩ := trodVars_none hV
  obtain ⟨a0, l0, c0, rfl⟩ := okWide_slice Try.underlying25 (hval 0 25 v0 rfl rfl)
  have k0 := h0
  have lt0 : ∀ x ∈ p0, x.block < W.heap.size := by obtain ⟨m, hm⟩ := k0; exact DataW.trod_lt m _ _ _ hm
  have w0 : Code W a0 l0 c0 := by
    obtain ⟨fuel, hf⟩ := h0
    rcases open_ints Try.underlying25 Try.underlying5 (by kernel_rfl) hf with ⟨hcs, _⟩ | ⟨x, l, c, zs, hcs, _, hl, hm, hz, _, hcell, hwz⟩
    · simp [Value.cells] at hcs
      obtain ⟨rfl, rfl, rfl⟩ := hcs
      exact ⟨Nat.le_refl _, Nat.zero_le _, .inl rfl⟩
    · simp [Value.cells] at hcs
      obtain ⟨rfl, rfl, rfl⟩ := hcs
      exact Code.of_row hl hm (by simpa using hz) hcell hwz
  clear hA0 hval0
  simp only [List.append_nil] at hW'
  refine (walk a0 l0 c0 W w0).mono fun e W' ⟨he, bel⟩ => ?_
  subst he
  exact ⟨_, rfl, _, _, _, [], _, [], hW', trodAll_mk1 (shut_bool Try.underlying4 _), (trodAll_cons_mk (Below.trod laidOut (by kernel_rfl) (of_decide_eq_true (by kernel_rfl)) k0 bel lt0) trodAll_mk0), rfl, bel.frame _, fun h => by cases h⟩

theorem over : Rows.fnTargetNextRow.holds Try.pinned (OpenSpec.ofChange Rows.fnTargetNextSpec) :=
  OpenClaim.holds_of_wide 9 Try.f9 rfl rfl rfl rfl rfl rfl rfl ⟨rfl, rfl, rfl, rfl, rfl⟩ rfl rfl rfl rfl rfl (by kernel_rfl) Try.func9 (by kernel_rfl)
    (of_decide_eq_true (by kernel_rfl)) (by unfold Func.isWrapper; first | (rw [if_pos (by decide +kernel)]; kernel_rfl) | (rw [if_neg (by decide +kernel)]; exact ⟨rfl, rfl⟩))
    (fun os started H enc _ => lifted os started H enc)

/-- The statement. -/
theorem proved : Rows.FnTargetNextSaid := over
#print axioms proved
end Go.Proofs.Ytcobcmgmleblkaa.fnTargetNext
