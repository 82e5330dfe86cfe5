/- The law FnParts is true of every code: parts make the form. No condition. -/
import Derived.Test.YtclpcgkfgbkjmaaRows
import Derived.Test.YtclpcgkfgbkjmaaDrawF
import Derived.Test.YtclpcgkfgbkjmaaPartsP
import Derived.Test.YtclpcgkfgbkjmaaForm
import Derived.WalkKit
import Derived.ProofKit
import Derived.OpenShut
import Derived.ShutString
import Derived.Below
import Derived.ChangeOld
namespace Go.Proofs.Ytclpcgkfgbkjmaa.fnParts
open Go.ChangeShapes Go.WideShapes Go.ChangeAt Go.RowKit
open Go.ChangeMaps (open_string shut_string)
set_option linter.unusedVariables false

theorem own : ownKnob Try.prog.godebug = none := by kernel_rfl

theorem laidOut : laidOutB Try.prog = true := by kernel_rfl

set_option maxRecDepth 100000 in
set_option maxHeartbeats 3200000 in
theorem walk (a0 : Option Addr) (l0 c0 : Nat) (w : World) (w0 : Code w a0 l0 c0) :
    Calls Try.prog 14 #[.slice a0 l0 c0] w fun e w' => e = .returned (.bool true) ∧ Below w.heap.size w w' := by
  have HD := Lib.hid (drawFormParts_any w a0 l0 c0 w0)
  clear w0
  by_cases hl : (1048576 : Int) < l0
  · go_enter Try.func14, Try.ntmps14
    go_wp2
    go_ret
    exact ⟨rfl, Below.refl _ _⟩
  · go_enter Try.func14, Try.ntmps14
    go_wp2_with fail
    refine HD.out.mono ?_
    rintro e w1 ⟨s, rfl, hs, hB1⟩
    have h1 := fun W => formParts_any s W (by omega)
    have h2 := fun W => sFormParts_any s W (by omega)
    have hln := partsOf_len s.data.toList
    unfold TextsR at h1 h2
    cases hp : partsOf s.data.toList with
    | none =>
      rw [hp] at h1 h2
      have H1 := Lib.hid h1
      have H2 := Lib.hid h2
      clear hp h1 h2 hln
      go_wp2_with fail
      refine (H1.out _).mono ?_
      rintro e w2 ⟨v, rfl, hr1, hb2⟩
      have hB2 := hB1.trans (hb2.mono hB1.size)
      change SRow w2 _ v [] at hr1
      obtain ⟨o1, c1, rfl, hst1⟩ := hr1.forms
      have S1 := Lib.hid hst1
      clear hr1 hst1
      go_wp2_with fail
      refine (H2.out _).mono ?_
      rintro e w3 ⟨v, rfl, hr2, hb3⟩
      have hB3 := hB2.trans (hb3.mono hB2.size)
      change SRow w3 _ v [] at hr2
      obtain ⟨o2, c2, rfl, hst2⟩ := hr2.forms
      have S2 := Lib.hid hst2
      have S13 := Lib.hid (S1.out.keep hb3)
      clear hr2 hst2 hb2 hb3
      go_wp2_with fail
      refine (sameTexts_any [] [] _ _ _ _ _ _ _ S13.out S2.out (by simp) (by simp)).mono ?_
      rintro e w4 ⟨rfl, hb4⟩
      rw [show decide (([] : List ByteArray) = []) = true from rfl]
      have hB4 := hB3.trans (hb4.mono hB3.size)
      have S14 := Lib.hid (S13.out.keep hb4)
      have S24 := Lib.hid (S2.out.keep hb4)
      go_wp2_with fail
      refine (sameTexts_any [] [] _ _ _ _ _ _ _ S14.out S24.out (by simp) (by simp)).mono ?_
      rintro e w5 ⟨rfl, hb5⟩
      rw [show decide (([] : List ByteArray) = []) = true from rfl]
      go_wp2
      go_ret
      exact ⟨rfl, hB4.trans (hb5.mono hB4.size)⟩
    | some ls =>
      have hfact : ∃ a ps, parse s.data.toList = some (.node a ps) ∧ ps ≠ [] ∧ ls = ps.map Tree.txt := by
        cases e : parse s.data.toList with
        | none => rw [partsOf_none e] at hp; cases hp
        | some t =>
          obtain ⟨a, ps⟩ := t
          by_cases hps : ps = []
          · rw [partsOf_leaf (hps ▸ e)] at hp; cases hp
          · rw [partsOf_node e hps] at hp; cases hp; exact ⟨a, ps, rfl, hps, rfl⟩
      obtain ⟨a, ps, hpar, hne, rfl⟩ := hfact
      have h3 := fun (W : World) o n c h => formMake_any (ps.map Tree.txt) o n c W h (Nat.le_trans (totS_parts hpar hne) (by omega))
      rw [make_parts hpar hne] at h3
      have hpr := fun p (hm : p ∈ ps) => part_reads hpar hm
      have h4 := fun p (hm : p ∈ ps) W => formSize_any p.txt W (by rw [Tree.txt, bts_size]; have := (hpr p hm).2; omega)
      have h5 := fun p (hm : p ∈ ps) W => formDepth_any p.txt W (by rw [Tree.txt, bts_size]; have := (hpr p hm).2; omega)
      have h4' : ∀ p, p ∈ ps → ∀ W, Calls Try.prog 25 #[.string p.txt] W fun e w' => e = .returned (.int .i64 ((p.size : Nat) : Int)) ∧ Below W.heap.size W w' := fun p hm W => by
        have := h4 p hm W
        rw [Tree.txt, bts_data, (hpr p hm).1] at this
        exact this
      have h5' : ∀ p, p ∈ ps → ∀ W, Calls Try.prog 24 #[.string p.txt] W fun e w' => e = .returned (.int .i64 ((p.depth : Nat) : Int)) ∧ Below W.heap.size W w' := fun p hm W => by
        have := h5 p hm W
        rw [Tree.txt, bts_data, (hpr p hm).1] at this
        exact this
      have h6 := fun W => formSize_any s W (by omega)
      have h7 := fun W => formDepth_any s W (by omega)
      rw [hpar] at h6 h7
      have hsz : (Tree.node a ps).size = Tree.sizeL ps := by simp [Tree.size, hne]
      have hdp : (Tree.node a ps).depth = Tree.depthL ps + 1 := by simp [Tree.depth, hne]
      have hbz := parse_sz hpar
      simp only [Tree.sz] at hbz
      have hls := Tree.sizeL_le_szL ps
      have hld := Tree.depthL_le_szL ps
      have hll := Tree.length_le_szL ps
      rw [hp] at h1 h2
      have H1 := Lib.hid h1
      have H2 := Lib.hid h2
      have H3 := Lib.hid h3
      have H4 := Lib.hid h4'
      have H5 := Lib.hid h5'
      have H6 : Hid (∀ W, Calls Try.prog 25 #[.string s] W fun e w' => e = .returned (.int .i64 ((Tree.sizeL ps : Nat) : Int)) ∧ Below W.heap.size W w') := fun W => by rw [← hsz]; exact h6 W
      have H7 : Hid (∀ W, Calls Try.prog 24 #[.string s] W fun e w' => e = .returned (.int .i64 ((Tree.depthL ps + 1 : Nat) : Int)) ∧ Below W.heap.size W w') := fun W => by rw [← hdp]; exact h7 W
      have hml : (ps.map Tree.txt).length = ps.length := by simp
      have HML := Lib.hid hml
      clear hp h1 h2 h3 h4 h5 h4' h5' h6 h7 hpar hne hpr hsz hdp hln hml
      go_wp2_with fail
      refine (H1.out _).mono ?_
      rintro e w2 ⟨v, rfl, hr1, hb2⟩
      have hB2 := hB1.trans (hb2.mono hB1.size)
      change SRow w2 _ v (ps.map Tree.txt) at hr1
      obtain ⟨o1, c1, rfl, hst1⟩ := hr1.forms
      rw [HML.out] at hst1 ⊢
      have S1 := Lib.hid hst1
      clear hr1 hst1
      go_wp2_with fail
      refine (H2.out _).mono ?_
      rintro e w3 ⟨v, rfl, hr2, hb3⟩
      have hB3 := hB2.trans (hb3.mono hB2.size)
      change SRow w3 _ v (ps.map Tree.txt) at hr2
      obtain ⟨o2, c2, rfl, hst2⟩ := hr2.forms
      rw [HML.out] at hst2 ⊢
      have S2 := Lib.hid hst2
      have S13 := Lib.hid (S1.out.keep hb3)
      clear hr2 hst2 hb2 hb3
      go_wp2_with fail
      refine (sameTexts_any (ps.map Tree.txt) (ps.map Tree.txt) _ _ _ _ _ _ _ S13.out S2.out (by omega) (by omega)).mono ?_
      rintro e w4 ⟨rfl, hb4⟩
      rw [show decide (ps.map Tree.txt = ps.map Tree.txt) = true from decide_eq_true rfl]
      have hB4 := hB3.trans (hb4.mono hB3.size)
      have S14 := Lib.hid (S13.out.keep hb4)
      clear hb4 S13 S2 S1
      go_wp2_with fail
      refine (H3.out _ _ _ _ S14.out).mono ?_
      rintro e w5 ⟨rfl, hb5⟩
      have hB5 := hB4.trans (hb5.mono hB4.size)
      have S15 := Lib.hid (S14.out.keep hb5)
      clear hb5 S14
      go_wp2
      go_loopw [10, 11, 12] (fun sv dv iv wr => ∃ k : Nat, k ≤ ps.length ∧ iv = .int .i64 k ∧ sv = .int .i64 ((Tree.sizeL (ps.take k) : Nat) : Int) ∧ dv = .int .i64 ((Tree.depthL (ps.take k) : Nat) : Int) ∧ Below w5.heap.size w5 wr) (fun _ _ iv _ => ps.length - (intOf iv).toNat)
      case atStart => exact ⟨0, Nat.zero_le _, rfl, rfl, rfl, Below.refl _ _⟩
      case round =>
        obtain ⟨k, hk, rfl, rfl, rfl, hbr⟩ := hrel
        have S1r := S15.out.keep hbr
        by_cases hlt : k < ps.length
        · obtain ⟨p, hpk⟩ : ∃ p, ps[k]? = some p := ⟨ps[k], by simp [hlt]⟩
          obtain ⟨b, off, x, ho, hx, hcx⟩ := S1r.at (by omega : k < ps.length)
          have hxp : x = p.txt := by rw [List.getElem?_map, hpk] at hx; simpa using hx.symm
          subst hxp
          subst ho
          have hm := List.mem_of_getElem? hpk
          have hZ := Tree.sizeL_take ps k p hpk
          have hD := Tree.depthL_take ps k p hpk
          have h8 := Tree.sizeL_take_le ps (k + 1)
          have h9 := Tree.depthL_take_le ps k
          have h10 := Tree.sz_part ps k p hpk
          have h11 := Tree.depth_le_sz p
          rw [hZ] at h8
          have HZ := Lib.hid hZ
          have HD' := Lib.hid hD
          have C4 := Lib.hid (H4.out p hm)
          have C5 := Lib.hid (H5.out p hm)
          have hi0 : (0 : Int) ≤ (k : Int) := Int.natCast_nonneg _
          have hi1 : (k : Int) < (ps.length : Int) := by omega
          clear hZ hD hx hpk hm S1r
          go_wp2_with fail
          refine (C4.out _).mono ?_
          rintro e w6 ⟨rfl, hb6⟩
          have hcx6 := (hb6.cell (lt_of_cell hcx)).trans hcx
          go_wp2_with fail
          refine (C5.out _).mono ?_
          rintro e w7 ⟨rfl, hb7⟩
          have hbr7 := (hbr.trans (hb6.mono hbr.size)).trans (hb7.mono (Nat.le_trans hbr.size hb6.size))
          go_wp2
          go_roundw
          case rel => exact ⟨k + 1, by omega, by go_num, by rw [HZ.out]; go_num, by rw [HD'.out]; exact congrArg (Value.int IntKind.i64) (by omega), hbr7⟩
          case measure => simp [intOf]; omega
        · have hkn : k = ps.length := by omega
          have htk : ps.take k = ps := by rw [hkn, List.take_length]
          rw [htk]
          have hBr := hB5.trans (hbr.mono hB5.size)
          clear S1r htk
          go_wp2_with fail
          refine (H6.out _).mono ?_
          rintro e w6 ⟨rfl, hb6⟩
          have hB6 := hBr.trans (hb6.mono hBr.size)
          go_wp2_with fail
          refine (H7.out _).mono ?_
          rintro e w7 ⟨rfl, hb7⟩
          go_wp2
          go_ret
          exact ⟨rfl, hB6.trans (hb7.mono hB6.size)⟩

set_option maxRecDepth 100000 in
theorem lifted (os : Os) (started : os.Started) (H : Type) (enc : TypeId × Value → H) :
    ReturnsInHanded {} Try.checked os 14 .any (Rows.fnPartsSpec.pre6 enc Try.prog Try.f14 Rows.fnPartsRow.domain false) (Rows.fnPartsSpec.post enc Try.prog Try.f14 false true false false) := by
  refine returnsInHanded_of_change (C := Try.checked) own started (by kernel_rfl) Try.func14
    (ChangeSpec.witness6 (enc := enc) (C := Try.checked) false ⟨#[], #[.slice none 0 0], []⟩ 8 (by kernel_rfl) (by kernel_rfl) (by kernel_rfl) (by kernel_rfl)) ?_
  intro W base args ds gs before hval0 hW hcnd _
  have hval : ∀ (j : Nat) t v, Try.f14.params[j]? = some t → args[j]? = some v → Value.okWide Try.prog W .any base t v := hval0
  have hW' := hW
  obtain ⟨p, q, hA0, hV, rfl, hfz, hnd⟩ := hW
  have hA : DataW.TrodAll enc Try.prog W 0 (fun _ => true) true Try.f14.params.toList args.toList ds p := hA0
  rw [Try.params14] at hA hval
  obtain ⟨v0, vs0, d0, ds0, p0, q0, hargs, rfl, rfl, h0, r0⟩ := trodAll_cons hA
  obtain ⟨rfl, rfl, rfl⟩ := trodAll_nil r0
  obtain rfl : args = #[v0] := by cases args; simp_all
  obtain ⟨rfl, rfl⟩ := trodVars_none hV
  obtain ⟨a0, l0, c0, rfl⟩ := okWide_slice Try.underlying28 (hval 0 28 v0 rfl rfl)
  have k0 := h0
  have lt0 : ∀ x ∈ p0, x.block < W.heap.size := by obtain ⟨m, hm⟩ := k0; exact DataW.trod_lt m _ _ _ hm
  have w0 : Code W a0 l0 c0 := by
    obtain ⟨fuel, hf⟩ := h0
    rcases open_ints Try.underlying28 Try.underlying5 (by kernel_rfl) hf with ⟨hcs, _⟩ | ⟨x, l, c, zs, hcs, _, hl, hm, hz, _, hcell, hwz⟩
    · simp [Value.cells] at hcs
      obtain ⟨rfl, rfl, rfl⟩ := hcs
      exact ⟨Nat.le_refl _, Nat.zero_le _, .inl rfl⟩
    · simp [Value.cells] at hcs
      obtain ⟨rfl, rfl, rfl⟩ := hcs
      exact Code.of_row hl hm (by simpa using hz) hcell hwz
  clear hA0 hval0
  simp only [List.append_nil] at hW'
  refine (walk a0 l0 c0 W w0).mono fun e W' ⟨he, bel⟩ => ?_
  subst he
  exact ⟨_, rfl, _, _, _, [], _, [], hW', trodAll_mk1 (shut_bool Try.underlying4 _), (trodAll_cons_mk (Below.trod laidOut (by kernel_rfl) (of_decide_eq_true (by kernel_rfl)) k0 bel lt0) trodAll_mk0), rfl, bel.frame _, fun h => by cases h⟩

theorem over : Rows.fnPartsRow.holds Try.pinned (OpenSpec.ofChange Rows.fnPartsSpec) :=
  OpenClaim.holds_of_wide 14 Try.f14 rfl rfl rfl rfl rfl rfl rfl ⟨rfl, rfl, rfl, rfl, rfl⟩ rfl rfl rfl rfl rfl (by kernel_rfl) Try.func14 (by kernel_rfl)
    (of_decide_eq_true (by kernel_rfl)) (by unfold Func.isWrapper; first | (rw [if_pos (by decide +kernel)]; kernel_rfl) | (rw [if_neg (by decide +kernel)]; exact ⟨rfl, rfl⟩))
    (fun os started H enc _ => lifted os started H enc)

/-- The statement. -/
theorem proved : Rows.FnPartsSaid := over
#print axioms proved
end Go.Proofs.Ytclpcgkfgbkjmaa.fnParts
