/- The law FnDepth is true of every code: atoms have no depth. No condition. -/
import Derived.Test.YtclpcgkfgbkjmaaRows
import Derived.Test.YtclpcgkfgbkjmaaDrawF
import Derived.Test.YtclpcgkfgbkjmaaFMake
import Derived.Test.YtclpcgkfgbkjmaaForm
import Derived.Test.YtclpcgkfgbkjmaaMake
import Derived.WalkKit
import Derived.ProofKit
import Derived.OpenShut
import Derived.ShutString
import Derived.Below
import Derived.ChangeOld
namespace Go.Proofs.Ytclpcgkfgbkjmaa.fnDepth
open Go.ChangeShapes Go.WideShapes Go.ChangeAt Go.RowKit
open Go.ChangeMaps (open_string shut_string)
set_option linter.unusedVariables false

theorem own : ownKnob Try.prog.godebug = none := by kernel_rfl

theorem laidOut : laidOutB Try.prog = true := by kernel_rfl

theorem depth_zero (t : Tree) : (t.parts = []) ↔ t.depth = 0 := by
  obtain ⟨a, ps⟩ := t
  by_cases h : ps = [] <;> simp [Tree.parts, Tree.depth, h]

theorem partsOf_isSome {s : List UInt8} {t : Tree} (h : parse s = some t) : (partsOf s).isSome = !decide (t.depth = 0) := by
  obtain ⟨a, ps⟩ := t
  by_cases hp : ps = []
  · subst hp; rw [partsOf_leaf h]; simp [Tree.depth]
  · rw [partsOf_node h hp]; simp [Tree.depth, hp]

/-- The form with one part: whether it is one, and its depth. -/
theorem make_one {s : ByteArray} {t : Tree} (h : parse s.data.toList = some t) : (makeF [s] = none) ∨ ∃ u, makeF [s] = some u ∧ u.size ≤ 12000 ∧ numOf Tree.depth (parse u.data.toList) = (t.depth : Int) + 1 := by
  have hal : allOf [s] = some [t] := by simp [allOf, h]
  have hg := node_good (ts := [t]) (by simp [Tree.goodL, parse_good h]) (by simp)
  rw [makeF_some hal]
  by_cases hf : (Tree.node ⟨#[]⟩ [t]).fits = true
  · right
    rw [if_pos ⟨by simp, hf⟩]
    refine ⟨_, rfl, ?_, ?_⟩
    · rw [Tree.txt, bts_size]; unfold Tree.fits at hf; simp at hf; exact hf.2
    · rw [Tree.txt, bts_data, parse_of_fits hg hf]
      simp [numOf, Tree.depth, Tree.depthL]
  · left; rw [if_neg (fun h => hf h.2)]

set_option maxHeartbeats 1600000 in
theorem walk (a0 : Option Addr) (l0 c0 : Nat) (w : World) (w0 : Code w a0 l0 c0) :
    Calls Try.prog 12 #[.slice a0 l0 c0] w fun e w' => e = .returned (.bool true) ∧ Below w.heap.size w w' := by
  have HD := Lib.hid (drawFormDepth_any w a0 l0 c0 w0)
  clear w0
  by_cases hl : (1048576 : Int) < l0
  · go_enter Try.func12, Try.ntmps12
    go_wp2
    go_ret
    exact ⟨rfl, Below.refl _ _⟩
  · go_enter Try.func12, Try.ntmps12
    go_wp2_with fail
    refine HD.out.mono ?_
    rintro e w1 ⟨s, rfl, hs, hB1⟩
    have h1 := fun W => formDepth_any s W (by omega)
    have h2 := fun W => sFormDepth_any s W (by omega)
    cases hp : parse s.data.toList with
    | none =>
      rw [hp] at h1 h2
      have H1 := Lib.hid h1
      have H2 := Lib.hid h2
      change Hid (∀ W, Calls _ _ _ W fun e w' => e = .returned (.int .i64 (-1)) ∧ _) at H1
      change Hid (∀ W, Calls _ _ _ W fun e w' => e = .returned (.int .i64 (-1)) ∧ _) at H2
      clear hp h1 h2
      go_wp2_with fail
      refine (H1.out _).mono ?_
      rintro e w2 ⟨rfl, hb2⟩
      go_wp2_with fail
      refine (H2.out _).mono ?_
      rintro e w3 ⟨rfl, hb3⟩
      go_wp2
      go_ret
      exact ⟨rfl, (hB1.trans (hb2.mono hB1.size)).trans (hb3.mono (Nat.le_trans hB1.size hb2.size))⟩
    | some t =>
      have hdt := ((parse_iff _ _).1 hp).2.2.1
      have h3 := fun W => formParts_any s W (by omega)
      have HPS := Lib.hid (partsOf_isSome hp)
      have hmk := make_one hp
      have h4 := fun (W : World) => formMake_any [s] (some ⟨W.heap.size, 0, none⟩) 1 1 (W.alloc (.cells #[.string s] 9)) ⟨rfl, .inr ⟨W.heap.size, 0, rfl, fun i s' hi => by
        match i, hi with
        | 0, hi => simp at hi; subst hi; simp only [World.cell?, heap_alloc_new]; rfl⟩⟩ (by simp [totS]; omega)
      rw [hp] at h1 h2
      have H1 := Lib.hid h1
      have H2 := Lib.hid h2
      have H3 := Lib.hid h3
      have H4 := Lib.hid h4
      change Hid (∀ W, Calls _ _ _ W fun e w' => e = .returned (.int .i64 ((t.depth : Nat) : Int)) ∧ _) at H1
      change Hid (∀ W, Calls _ _ _ W fun e w' => e = .returned (.int .i64 ((t.depth : Nat) : Int)) ∧ _) at H2
      clear hp h1 h2 h3 h4
      have hge : decide ((t.depth : Int) < 0) = false := by simp
      have hFD := fun (u : ByteArray) W (h : u.size ≤ 1000000000) => formDepth_any u W h
      have HFD := Lib.hid hFD
      clear hFD
      generalize t.depth = d at *
      generalize makeF [s] = mk at *
      go_wp2_with fail
      refine (H1.out _).mono ?_
      rintro e w2 ⟨rfl, hb2⟩
      go_wp2_with fail
      refine (H2.out _).mono ?_
      rintro e w3 ⟨rfl, hb3⟩
      have hB3 := (hB1.trans (hb2.mono hB1.size)).trans (hb3.mono (Nat.le_trans hB1.size hb2.size))
      go_wp2_with fail
      refine (H3.out _).mono ?_
      rintro e w4 ⟨v, rfl, hr, hb4⟩
      rw [HPS.out]
      obtain ⟨o, c, rfl, -⟩ := hr.forms
      have hB4 := hB3.trans (hb4.mono hB3.size)
      clear hr hb4 hb2 hb3
      go_wp2_with fail
      refine (H4.out _).mono ?_
      rintro e w5 ⟨rfl, hb5⟩
      have hB5 := (hB4.alloc hB4.size (.cells #[.string s] 9)).trans (hb5.mono (by have := hB4.size; simp; omega))
      clear hb5
      have hd0 : ((d : Int) == 0) = decide (d = 0) := by rw [Bool.eq_iff_iff]; simp
      rcases hmk with rfl | ⟨u, rfl, husz, hud⟩
      · clear hd0
        by_cases hz : d = 0
        · subst hz
          go_wp2
          go_ret
          exact ⟨rfl, hB5⟩
        · have e1 : ((d : Int) == 0) = false := by simp; omega
          have e2 : decide (d = 0) = false := decide_eq_false hz
          rw [e2]
          go_wp2
          go_ret
          exact ⟨rfl, hB5⟩
      · clear hd0
        have h7 := fun W => HFD.out u W (by omega)
        rw [hud] at h7
        have H7 := Lib.hid h7
        clear h7 hud
        by_cases hz : d = 0
        · subst hz
          go_wp2_with fail
          refine (H7.out _).mono ?_
          rintro e w6 ⟨rfl, hb6⟩
          go_wp2
          go_ret
          exact ⟨rfl, hB5.trans (hb6.mono hB5.size)⟩
        · have e1 : ((d : Int) == 0) = false := by simp; omega
          have e2 : decide (d = 0) = false := decide_eq_false hz
          rw [e2]
          go_wp2_with fail
          refine (H7.out _).mono ?_
          rintro e w6 ⟨rfl, hb6⟩
          go_wp2
          go_ret
          exact ⟨rfl, hB5.trans (hb6.mono hB5.size)⟩

set_option maxRecDepth 100000 in
theorem lifted (os : Os) (started : os.Started) (H : Type) (enc : TypeId × Value → H) :
    ReturnsInHanded {} Try.checked os 12 .any (Rows.fnDepthSpec.pre6 enc Try.prog Try.f12 Rows.fnDepthRow.domain false) (Rows.fnDepthSpec.post enc Try.prog Try.f12 false true false false) := by
  refine returnsInHanded_of_change (C := Try.checked) own started (by kernel_rfl) Try.func12
    (ChangeSpec.witness6 (enc := enc) (C := Try.checked) false ⟨#[], #[.slice none 0 0], []⟩ 8 (by kernel_rfl) (by kernel_rfl) (by kernel_rfl) (by kernel_rfl)) ?_
  intro W base args ds gs before hval0 hW hcnd _
  have hval : ∀ (j : Nat) t v, Try.f12.params[j]? = some t → args[j]? = some v → Value.okWide Try.prog W .any base t v := hval0
  have hW' := hW
  obtain ⟨p, q, hA0, hV, rfl, hfz, hnd⟩ := hW
  have hA : DataW.TrodAll enc Try.prog W 0 (fun _ => true) true Try.f12.params.toList args.toList ds p := hA0
  rw [Try.params12] at hA hval
  obtain ⟨v0, vs0, d0, ds0, p0, q0, hargs, rfl, rfl, h0, r0⟩ := trodAll_cons hA
  obtain ⟨rfl, rfl, rfl⟩ := trodAll_nil r0
  obtain rfl : args = #[v0] := by cases args; simp_all
  obtain ⟨rfl, rfl⟩ := trodVars_none hV
  obtain ⟨a0, l0, c0, rfl⟩ := okWide_slice Try.underlying28 (hval 0 28 v0 rfl rfl)
  have k0 := h0
  have lt0 : ∀ x ∈ p0, x.block < W.heap.size := by obtain ⟨m, hm⟩ := k0; exact DataW.trod_lt m _ _ _ hm
  have w0 : Code W a0 l0 c0 := by
    obtain ⟨fuel, hf⟩ := h0
    rcases open_ints Try.underlying28 Try.underlying5 (by kernel_rfl) hf with ⟨hcs, _⟩ | ⟨x, l, c, zs, hcs, _, hl, hm, hz, _, hcell, hwz⟩
    · simp [Value.cells] at hcs
      obtain ⟨rfl, rfl, rfl⟩ := hcs
      exact ⟨Nat.le_refl _, Nat.zero_le _, .inl rfl⟩
    · simp [Value.cells] at hcs
      obtain ⟨rfl, rfl, rfl⟩ := hcs
      exact Code.of_row hl hm (by simpa using hz) hcell hwz
  clear hA0 hval0
  simp only [List.append_nil] at hW'
  refine (walk a0 l0 c0 W w0).mono fun e W' ⟨he, bel⟩ => ?_
  subst he
  exact ⟨_, rfl, _, _, _, [], _, [], hW', trodAll_mk1 (shut_bool Try.underlying4 _), (trodAll_cons_mk (Below.trod laidOut (by kernel_rfl) (of_decide_eq_true (by kernel_rfl)) k0 bel lt0) trodAll_mk0), rfl, bel.frame _, fun h => by cases h⟩

theorem over : Rows.fnDepthRow.holds Try.pinned (OpenSpec.ofChange Rows.fnDepthSpec) :=
  OpenClaim.holds_of_wide 12 Try.f12 rfl rfl rfl rfl rfl rfl rfl ⟨rfl, rfl, rfl, rfl, rfl⟩ rfl rfl rfl rfl rfl (by kernel_rfl) Try.func12 (by kernel_rfl)
    (of_decide_eq_true (by kernel_rfl)) (by unfold Func.isWrapper; first | (rw [if_pos (by decide +kernel)]; kernel_rfl) | (rw [if_neg (by decide +kernel)]; exact ⟨rfl, rfl⟩))
    (fun os started H enc _ => lifted os started H enc)

/-- The statement. -/
theorem proved : Rows.FnDepthSaid := over
#print axioms proved
end Go.Proofs.Ytclpcgkfgbkjmaa.fnDepth
