/- The law FnMakeForm is true of every code: a form is read back. No condition. -/
import Derived.Test.YtclpcgkfgbkjmaaRows
import Derived.Test.YtclpcgkfgbkjmaaDrawM
import Derived.Test.YtclpcgkfgbkjmaaPartsP
import Derived.Test.YtclpcgkfgbkjmaaForm
import Derived.WalkKit
import Derived.ProofKit
import Derived.OpenShut
import Derived.ShutString
import Derived.Below
import Derived.ChangeOld
namespace Go.Proofs.Ytclpcgkfgbkjmaa.fnMakeForm
open Go.ChangeShapes Go.WideShapes Go.ChangeAt Go.RowKit
open Go.ChangeMaps (open_string shut_string)
set_option linter.unusedVariables false

theorem own : ownKnob Try.prog.godebug = none := by kernel_rfl

theorem laidOut : laidOutB Try.prog = true := by kernel_rfl

theorem make_back {l : List ByteArray} {out : ByteArray} (h : makeF l = some out) : partsOf out.data.toList = some l ∧ (parse out.data.toList).isSome = true ∧ out.size ≤ 12000 := by
  cases e : allOf l with
  | none => rw [makeF_none e] at h; cases h
  | some ts =>
    rw [makeF_some e] at h
    by_cases hc : ts ≠ [] ∧ (Tree.node ⟨#[]⟩ ts).fits = true
    · rw [if_pos hc] at h
      cases h
      obtain ⟨hg, -, -, hl⟩ := allOf_good e
      have hgd := node_good hg hc.1
      have hp := parse_of_fits hgd hc.2
      have hz : (Tree.node ⟨#[]⟩ ts).text.length ≤ 12000 := by have := hc.2; unfold Tree.fits at this; simp at this; exact this.2
      refine ⟨?_, ?_, by rw [Tree.txt, bts_size]; exact hz⟩
      · rw [Tree.txt, bts_data, partsOf_node hp hc.1, ← hl]
      · rw [Tree.txt, bts_data, hp]; rfl
    · rw [if_neg hc] at h; cases h

set_option maxRecDepth 100000 in
set_option maxHeartbeats 1600000 in
theorem walk (a0 : Option Addr) (l0 c0 : Nat) (w : World) (w0 : Code w a0 l0 c0) :
    Calls Try.prog 13 #[.slice a0 l0 c0] w fun e w' => e = .returned (.bool true) ∧ Below w.heap.size w w' := by
  have HD := Lib.hid (drawFormMake_any w a0 l0 c0 w0)
  clear w0
  by_cases hl : (1048576 : Int) < l0
  · go_enter Try.func13, Try.ntmps13
    go_wp2
    go_ret
    exact ⟨rfl, Below.refl _ _⟩
  · go_enter Try.func13, Try.ntmps13
    go_wp2_with fail
    refine HD.out.mono ?_
    rintro e w1 ⟨v, l, rfl, hr, hll, hls, hB1⟩
    obtain ⟨o, c, rfl, hst⟩ := hr.forms
    have htot : totS l ≤ 10000 := by
      have : ∀ m : List ByteArray, (∀ s ∈ m, s.size ≤ 1000) → totS m ≤ m.length * 1001 := by
        intro m
        induction m with
        | nil => intro _; simp [totS]
        | cons a m ih =>
          intro h
          have h1 := ih fun s hs => h s (by simp [hs])
          have h2 := h a (by simp)
          simp only [totS, List.map_cons, List.sum_cons, List.length_cons] at *
          omega
      have := this l hls
      omega
    have h1 := fun W h => formMake_any l o l.length c W h (by omega)
    have h2 := fun W h => sFormMake_any l o l.length c W h (by omega)
    have S1 := Lib.hid hst
    clear hr hst hls
    cases hp : makeF l with
    | none =>
      rw [hp] at h1 h2
      have H1 := Lib.hid h1
      have H2 := Lib.hid h2
      change Hid (∀ W (h : Strs W o l.length l), Calls _ _ _ W fun e w' => e = .returned (.tuple #[.string ⟨#[]⟩, .bool false]) ∧ _) at H1
      change Hid (∀ W (h : Strs W o l.length l), Calls _ _ _ W fun e w' => e = .returned (.tuple #[.string ⟨#[]⟩, .bool false]) ∧ _) at H2
      clear hp h1 h2
      go_wp2_with fail
      refine (H1.out _ S1.out).mono ?_
      rintro e w2 ⟨rfl, hb2⟩
      have S2 := Lib.hid (S1.out.keep hb2)
      go_wp2_with fail
      refine (H2.out _ S2.out).mono ?_
      rintro e w3 ⟨rfl, hb3⟩
      go_wp2
      go_ret
      exact ⟨rfl, (hB1.trans (hb2.mono hB1.size)).trans (hb3.mono (Nat.le_trans hB1.size hb2.size))⟩
    | some out =>
      obtain ⟨m1, m2, m3⟩ := make_back hp
      have h3 := fun W => formParts_any out W (by omega)
      have h4 := fun W => formValid_any out W (by omega)
      unfold TextsR at h3
      rw [m1] at h3
      rw [m2] at h4
      rw [hp] at h1 h2
      have H1 := Lib.hid h1
      have H2 := Lib.hid h2
      have H3 := Lib.hid h3
      have H4 := Lib.hid h4
      change Hid (∀ W (h : Strs W o l.length l), Calls _ _ _ W fun e w' => e = .returned (.tuple #[.string out, .bool true]) ∧ _) at H1
      change Hid (∀ W (h : Strs W o l.length l), Calls _ _ _ W fun e w' => e = .returned (.tuple #[.string out, .bool true]) ∧ _) at H2
      clear hp h1 h2 h3 h4 m1 m2
      go_wp2_with fail
      refine (H1.out _ S1.out).mono ?_
      rintro e w2 ⟨rfl, hb2⟩
      have hB2 := hB1.trans (hb2.mono hB1.size)
      have S2 := Lib.hid (S1.out.keep hb2)
      clear S1 hb2
      go_wp2_with fail
      refine (H2.out _ S2.out).mono ?_
      rintro e w3 ⟨rfl, hb3⟩
      have hB3 := hB2.trans (hb3.mono hB2.size)
      have S3 := Lib.hid (S2.out.keep hb3)
      clear S2 hb3
      go_wp2_with fail
      refine (H3.out _).mono ?_
      rintro e w4 ⟨v4, rfl, hr4, hb4⟩
      change SRow w4 _ v4 l at hr4
      obtain ⟨o4, c4, rfl, hs4⟩ := hr4.forms
      have hB4 := hB3.trans (hb4.mono hB3.size)
      have S4 := Lib.hid hs4
      have S34 := Lib.hid (S3.out.keep hb4)
      clear S3 hb4 hs4 hr4
      go_wp2_with fail
      refine (sameTexts_any l l _ _ _ _ _ _ _ S4.out S34.out (by omega) (by omega)).mono ?_
      rintro e w5 ⟨rfl, hb5⟩
      rw [show decide (l = l) = true from decide_eq_true rfl]
      have hB5 := hB4.trans (hb5.mono hB4.size)
      go_wp2_with fail
      refine (H4.out _).mono ?_
      rintro e w6 ⟨rfl, hb6⟩
      go_wp2
      go_ret
      exact ⟨rfl, hB5.trans (hb6.mono hB5.size)⟩

set_option maxRecDepth 100000 in
theorem lifted (os : Os) (started : os.Started) (H : Type) (enc : TypeId × Value → H) :
    ReturnsInHanded {} Try.checked os 13 .any (Rows.fnMakeFormSpec.pre6 enc Try.prog Try.f13 Rows.fnMakeFormRow.domain false) (Rows.fnMakeFormSpec.post enc Try.prog Try.f13 false true false false) := by
  refine returnsInHanded_of_change (C := Try.checked) own started (by kernel_rfl) Try.func13
    (ChangeSpec.witness6 (enc := enc) (C := Try.checked) false ⟨#[], #[.slice none 0 0], []⟩ 8 (by kernel_rfl) (by kernel_rfl) (by kernel_rfl) (by kernel_rfl)) ?_
  intro W base args ds gs before hval0 hW hcnd _
  have hval : ∀ (j : Nat) t v, Try.f13.params[j]? = some t → args[j]? = some v → Value.okWide Try.prog W .any base t v := hval0
  have hW' := hW
  obtain ⟨p, q, hA0, hV, rfl, hfz, hnd⟩ := hW
  have hA : DataW.TrodAll enc Try.prog W 0 (fun _ => true) true Try.f13.params.toList args.toList ds p := hA0
  rw [Try.params13] at hA hval
  obtain ⟨v0, vs0, d0, ds0, p0, q0, hargs, rfl, rfl, h0, r0⟩ := trodAll_cons hA
  obtain ⟨rfl, rfl, rfl⟩ := trodAll_nil r0
  obtain rfl : args = #[v0] := by cases args; simp_all
  obtain ⟨rfl, rfl⟩ := trodVars_none hV
  obtain ⟨a0, l0, c0, rfl⟩ := okWide_slice Try.underlying28 (hval 0 28 v0 rfl rfl)
  have k0 := h0
  have lt0 : ∀ x ∈ p0, x.block < W.heap.size := by obtain ⟨m, hm⟩ := k0; exact DataW.trod_lt m _ _ _ hm
  have w0 : Code W a0 l0 c0 := by
    obtain ⟨fuel, hf⟩ := h0
    rcases open_ints Try.underlying28 Try.underlying5 (by kernel_rfl) hf with ⟨hcs, _⟩ | ⟨x, l, c, zs, hcs, _, hl, hm, hz, _, hcell, hwz⟩
    · simp [Value.cells] at hcs
      obtain ⟨rfl, rfl, rfl⟩ := hcs
      exact ⟨Nat.le_refl _, Nat.zero_le _, .inl rfl⟩
    · simp [Value.cells] at hcs
      obtain ⟨rfl, rfl, rfl⟩ := hcs
      exact Code.of_row hl hm (by simpa using hz) hcell hwz
  clear hA0 hval0
  simp only [List.append_nil] at hW'
  refine (walk a0 l0 c0 W w0).mono fun e W' ⟨he, bel⟩ => ?_
  subst he
  exact ⟨_, rfl, _, _, _, [], _, [], hW', trodAll_mk1 (shut_bool Try.underlying4 _), (trodAll_cons_mk (Below.trod laidOut (by kernel_rfl) (of_decide_eq_true (by kernel_rfl)) k0 bel lt0) trodAll_mk0), rfl, bel.frame _, fun h => by cases h⟩

theorem over : Rows.fnMakeFormRow.holds Try.pinned (OpenSpec.ofChange Rows.fnMakeFormSpec) :=
  OpenClaim.holds_of_wide 13 Try.f13 rfl rfl rfl rfl rfl rfl rfl ⟨rfl, rfl, rfl, rfl, rfl⟩ rfl rfl rfl rfl rfl (by kernel_rfl) Try.func13 (by kernel_rfl)
    (of_decide_eq_true (by kernel_rfl)) (by unfold Func.isWrapper; first | (rw [if_pos (by decide +kernel)]; kernel_rfl) | (rw [if_neg (by decide +kernel)]; exact ⟨rfl, rfl⟩))
    (fun os started H enc _ => lifted os started H enc)

/-- The statement. -/
theorem proved : Rows.FnMakeFormSaid := over
#print axioms proved
end Go.Proofs.Ytclpcgkfgbkjmaa.fnMakeForm
