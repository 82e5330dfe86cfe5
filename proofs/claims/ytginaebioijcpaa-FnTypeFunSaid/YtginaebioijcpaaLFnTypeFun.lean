/- The law FnTypeFun is true of every code: a type of functions is made of two. No condition. -/
import Derived.Test.YtginaebioijcpaaRows
import Derived.Test.YtginaebioijcpaaDrawT
import Derived.Test.YtginaebioijcpaaReplP
import Derived.WalkKit
import Derived.ProofKit
import Derived.OpenShut
import Derived.ShutString
import Derived.Below
import Derived.ChangeOld
namespace Go.Proofs.Ytginaebioijcpaa.fnTypeFun
open Go.ChangeShapes Go.WideShapes Go.ChangeAt Go.RowKit
open Go.ChangeMaps (open_string shut_string)
set_option linter.unusedVariables false

theorem own : ownKnob Try.prog.godebug = none := by kernel_rfl

theorem laidOut : laidOutB Try.prog = true := by kernel_rfl

set_option maxRecDepth 100000 in
set_option maxHeartbeats 1600000 in
theorem walk (a0 : Option Addr) (l0 c0 : Nat) (w : World) (w0 : Code w a0 l0 c0) :
    Calls Try.prog 5 #[.slice a0 l0 c0] w fun e w' => e = .returned (.bool true) ∧ Below w.heap.size w w' := by
  have HD := Lib.hid (drawTypeFun_any w a0 l0 c0 w0)
  clear w0
  by_cases hl : (1048576 : Int) < l0
  · go_enter Try.func5, Try.ntmps5
    go_wp2
    go_ret
    exact ⟨rfl, Below.refl _ _⟩
  · go_enter Try.func5, Try.ntmps5
    go_wp2_with fail
    refine HD.out.mono ?_
    rintro e w1 ⟨s, rfl, hs, hB1⟩
    have h1 := fun W => typeFun_any s W (by omega)
    have h2 := fun W => sTypeFun_any s W (by omega)
    unfold TwoR at h1 h2
    cases hp : sidesOf s.data.toList [62] with
    | none =>
      rw [hp] at h1 h2
      have H1 := Lib.hid h1
      have H2 := Lib.hid h2
      change Hid (∀ W, Calls _ _ _ W fun e w' => e = .returned (.tuple #[.string ⟨#[]⟩, .string ⟨#[]⟩, .bool false]) ∧ _) at H1
      change Hid (∀ W, Calls _ _ _ W fun e w' => e = .returned (.tuple #[.string ⟨#[]⟩, .string ⟨#[]⟩, .bool false]) ∧ _) at H2
      clear hp h1 h2
      go_wp2_with fail
      refine (H1.out _).mono ?_
      rintro e w2 ⟨rfl, hb2⟩
      go_wp2_with fail
      refine (H2.out _).mono ?_
      rintro e w3 ⟨rfl, hb3⟩
      go_wp2
      go_ret
      exact ⟨rfl, (hB1.trans (hb2.mono hB1.size)).trans (hb3.mono (Nat.le_trans hB1.size hb2.size))⟩
    | some z =>
      obtain ⟨x, y⟩ := z
      obtain ⟨f1, f2, f3, f4, f5, f6⟩ := side_facts (fn := true) hp
      have f7 := (ptype_facts f1)
      have hfit := typed_fits f7.1 (ptype_some.1 f1).2
      have hst : s = (typeT true x y).txt := bts_eq f4
      have hsl : (typeT true x y).text.length ≤ 12000 := by unfold Tree.fits at hfit; simp at hfit; exact hfit.2
      have hxl : x.txt.size ≤ 12000 := by rw [Tree.txt, bts_size]; have := part_len (a := ⟨#[]⟩) (ps := [.node (sgn true) [], x, y]) (k := 1) (p := x) rfl; unfold typeT at hsl; omega
      have hyl : y.txt.size ≤ 12000 := by rw [Tree.txt, bts_size]; have := part_len (a := ⟨#[]⟩) (ps := [.node (sgn true) [], x, y]) (k := 2) (p := y) rfl; unfold typeT at hsl; omega
      have h3 := fun W => typeMake_any true x.txt y.txt W (by omega) (by omega)
      rw [show makeOf true x.txt.data.toList y.txt.data.toList = some (typeT true x y) by rw [Tree.txt, Tree.txt, bts_data, bts_data, makeOf_some f2 f3, if_pos (ptype_some.1 f1).2]] at h3
      have h6 := fun W => typeOrder_any s W (by omega)
      have h7 := fun W => typeOrder_any x.txt W (by omega)
      have h8 := fun W => typeOrder_any y.txt W (by omega)
      rw [f1] at h6
      rw [Tree.txt, bts_data, f2] at h7
      rw [Tree.txt, bts_data, f3] at h8
      rw [show bts x.text = x.txt from rfl] at h7
      rw [show bts y.text = y.txt from rfl] at h8
      have h4 := fun W => typeValid_any x.txt W (by omega)
      have h5 := fun W => typeValid_any y.txt W (by omega)
      rw [Tree.txt, bts_data, f2] at h4
      rw [Tree.txt, bts_data, f3] at h5
      have H4 := Lib.hid h4
      have H5 := Lib.hid h5
      change Hid (∀ W, Calls _ _ #[.string x.txt] W fun e w' => e = .returned (.bool true) ∧ _) at H4
      change Hid (∀ W, Calls _ _ #[.string y.txt] W fun e w' => e = .returned (.bool true) ∧ _) at H5
      clear h4 h5
      rw [hp] at h1 h2
      have H1 := Lib.hid h1
      have H2 := Lib.hid h2
      have H3 := Lib.hid h3
      have H6 := Lib.hid h6
      have H7 := Lib.hid h7
      have H8 := Lib.hid h8
      change Hid (∀ W, Calls _ _ _ W fun e w' => e = .returned (.tuple #[.string x.txt, .string y.txt, .bool true]) ∧ _) at H1
      change Hid (∀ W, Calls _ _ _ W fun e w' => e = .returned (.tuple #[.string x.txt, .string y.txt, .bool true]) ∧ _) at H2
      change Hid (∀ W, Calls _ _ _ W fun e w' => e = .returned (.tuple #[.string (typeT true x y).txt, .bool true]) ∧ _) at H3
      change Hid (∀ W, Calls _ _ _ W fun e w' => e = .returned (.int .i64 (((typeT true x y).order : Nat) : Int)) ∧ _) at H6
      change Hid (∀ W, Calls _ _ _ W fun e w' => e = .returned (.int .i64 ((x.order : Nat) : Int)) ∧ _) at H7
      change Hid (∀ W, Calls _ _ _ W fun e w' => e = .returned (.int .i64 ((y.order : Nat) : Int)) ∧ _) at H8
      rw [← hst] at H3
      have ho := type_order true x y
      have hox : x.order ≤ 24000 := Nat.le_trans (order_le _ x (Nat.le_refl _)) (by have := Tree.sz_le_text x f5; rw [Tree.txt, bts_size] at hxl; omega)
      have hoy : y.order ≤ 24000 := Nat.le_trans (order_le _ y (Nat.le_refl _)) (by have := Tree.sz_le_text y f6; rw [Tree.txt, bts_size] at hyl; omega)
      generalize (typeT true x y).order = r at H6 ho
      generalize x.order = rx at H7 ho hox
      generalize y.order = ry at H8 ho hoy
      generalize x.txt = X at *
      generalize y.txt = Y at *
      clear hp h1 h2 h3 h6 h7 h8 f1 f2 f3 f4 f5 f6 f7 hfit hst hsl
      go_wp2_with fail
      refine (H1.out _).mono ?_
      rintro e w2 ⟨rfl, hb2⟩
      go_wp2_with fail
      refine (H2.out _).mono ?_
      rintro e w3 ⟨rfl, hb3⟩
      have hB3 := (hB1.trans (hb2.mono hB1.size)).trans (hb3.mono (Nat.le_trans hB1.size hb2.size))
      clear hb2 hb3
      go_wp2_with fail
      refine (H3.out _).mono ?_
      rintro e w4 ⟨rfl, hb4⟩
      have hB4 := hB3.trans (hb4.mono hB3.size)
      go_wp2_with fail
      refine (H4.out _).mono ?_
      rintro e w5 ⟨rfl, hb5⟩
      have hB5 := hB4.trans (hb5.mono hB4.size)
      go_wp2_with fail
      refine (H5.out _).mono ?_
      rintro e w6 ⟨rfl, hb6⟩
      have hB6 := hB5.trans (hb6.mono hB5.size)
      have hz1 : rx < r := by simp at ho; omega
      have hz3 : ry ≤ r := by simp at ho; omega
      clear ho
      go_wp2_with fail
      refine (H6.out _).mono ?_
      rintro e w7 ⟨rfl, hb7⟩
      have hB7 := hB6.trans (hb7.mono hB6.size)
      go_wp2_with fail
      refine (H7.out _).mono ?_
      rintro e w8 ⟨rfl, hb8⟩
      have hB8 := hB7.trans (hb8.mono hB7.size)
      go_wp2_with fail
      refine (H6.out _).mono ?_
      rintro e w9 ⟨rfl, hb9⟩
      have hB9 := hB8.trans (hb9.mono hB8.size)
      go_wp2_with fail
      refine (H8.out _).mono ?_
      rintro e w10 ⟨rfl, hb10⟩
      have hB10 := hB9.trans (hb10.mono hB9.size)
      go_wp2
      go_ret
      exact ⟨rfl, hB10⟩

set_option maxRecDepth 100000 in
theorem lifted (os : Os) (started : os.Started) (H : Type) (enc : TypeId × Value → H) :
    ReturnsInHanded {} Try.checked os 5 .any (Rows.fnTypeFunSpec.pre6 enc Try.prog Try.f5 Rows.fnTypeFunRow.domain false) (Rows.fnTypeFunSpec.post enc Try.prog Try.f5 false true false false) := by
  refine returnsInHanded_of_change (C := Try.checked) own started (by kernel_rfl) Try.func5
    (ChangeSpec.witness6 (enc := enc) (C := Try.checked) false ⟨#[], #[.slice none 0 0], []⟩ 8 (by kernel_rfl) (by kernel_rfl) (by kernel_rfl) (by kernel_rfl)) ?_
  intro W base args ds gs before hval0 hW hcnd _
  have hval : ∀ (j : Nat) t v, Try.f5.params[j]? = some t → args[j]? = some v → Value.okWide Try.prog W .any base t v := hval0
  have hW' := hW
  obtain ⟨p, q, hA0, hV, rfl, hfz, hnd⟩ := hW
  have hA : DataW.TrodAll enc Try.prog W 0 (fun _ => true) true Try.f5.params.toList args.toList ds p := hA0
  rw [Try.params5] at hA hval
  obtain ⟨v0, vs0, d0, ds0, p0, q0, hargs, rfl, rfl, h0, r0⟩ := trodAll_cons hA
  obtain ⟨rfl, rfl, rfl⟩ := trodAll_nil r0
  obtain rfl : args = #[v0] := by cases args; simp_all
  obtain ⟨rfl, rfl⟩ := trodVars_none hV
  obtain ⟨a0, l0, c0, rfl⟩ := okWide_slice Try.underlying22 (hval 0 22 v0 rfl rfl)
  have k0 := h0
  have lt0 : ∀ x ∈ p0, x.block < W.heap.size := by obtain ⟨m, hm⟩ := k0; exact DataW.trod_lt m _ _ _ hm
  have w0 : Code W a0 l0 c0 := by
    obtain ⟨fuel, hf⟩ := h0
    rcases open_ints Try.underlying22 Try.underlying5 (by kernel_rfl) hf with ⟨hcs, _⟩ | ⟨x, l, c, zs, hcs, _, hl, hm, hz, _, hcell, hwz⟩
    · simp [Value.cells] at hcs
      obtain ⟨rfl, rfl, rfl⟩ := hcs
      exact ⟨Nat.le_refl _, Nat.zero_le _, .inl rfl⟩
    · simp [Value.cells] at hcs
      obtain ⟨rfl, rfl, rfl⟩ := hcs
      exact Code.of_row hl hm (by simpa using hz) hcell hwz
  clear hA0 hval0
  simp only [List.append_nil] at hW'
  refine (walk a0 l0 c0 W w0).mono fun e W' ⟨he, bel⟩ => ?_
  subst he
  exact ⟨_, rfl, _, _, _, [], _, [], hW', trodAll_mk1 (shut_bool Try.underlying4 _), (trodAll_cons_mk (Below.trod laidOut (by kernel_rfl) (of_decide_eq_true (by kernel_rfl)) k0 bel lt0) trodAll_mk0), rfl, bel.frame _, fun h => by cases h⟩

theorem over : Rows.fnTypeFunRow.holds Try.pinned (OpenSpec.ofChange Rows.fnTypeFunSpec) :=
  OpenClaim.holds_of_wide 5 Try.f5 rfl rfl rfl rfl rfl rfl rfl ⟨rfl, rfl, rfl, rfl, rfl⟩ rfl rfl rfl rfl rfl (by kernel_rfl) Try.func5 (by kernel_rfl)
    (of_decide_eq_true (by kernel_rfl)) (by unfold Func.isWrapper; first | (rw [if_pos (by decide +kernel)]; kernel_rfl) | (rw [if_neg (by decide +kernel)]; exact ⟨rfl, rfl⟩))
    (fun os started H enc _ => lifted os started H enc)

/-- The statement. -/
theorem proved : Rows.FnTypeFunSaid := over
#print axioms proved
end Go.Proofs.Ytginaebioijcpaa.fnTypeFun
