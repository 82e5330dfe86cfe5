/- The law FnCount is true of every code: free occurrences are atoms. No condition. -/
import Derived.Test.YtoihkjnfklogpaaRows
import Derived.Test.YtoihkjnfklogpaaDrawL
import Derived.Test.YtoihkjnfklogpaaQ8
import Derived.Test.YtoihkjnfklogpaaFreeT
import Derived.Test.YtoihkjnfklogpaaQ3
import Derived.Test.YtoihkjnfklogpaaExpr
import Derived.WalkKit
import Derived.ProofKit
import Derived.OpenShut
import Derived.ShutString
import Derived.Below
import Derived.ChangeOld
namespace Go.Proofs.Ytoihkjnfklogpaa.fnCount
open Go.ChangeShapes Go.WideShapes Go.ChangeAt Go.RowKit
open Go.ChangeMaps (open_string shut_string)
set_option linter.unusedVariables false

theorem own : ownKnob Try.prog.godebug = none := by kernel_rfl

theorem laidOut : laidOutB Try.prog = true := by kernel_rfl

set_option maxRecDepth 100000 in
set_option maxHeartbeats 1600000 in
theorem walk (a0 : Option Addr) (l0 c0 : Nat) (w : World) (w0 : Code w a0 l0 c0) :
    Calls Try.prog 6 #[.slice a0 l0 c0] w fun e w' => e = .returned (.bool true) ∧ Below w.heap.size w w' := by
  have HD := Lib.hid (drawExprCount_any w a0 l0 c0 w0)
  clear w0
  by_cases hl : (1048576 : Int) < l0
  · go_enter Try.func6, Try.ntmps6
    go_wp2
    go_ret
    exact ⟨rfl, Below.refl _ _⟩
  · go_enter Try.func6, Try.ntmps6
    go_wp2_with fail
    refine HD.out.mono ?_
    rintro e w1 ⟨s, x, rfl, hs, hx, hB1⟩
    have HB1 := Lib.hid hB1
    have h1 := fun W => exprCount_any s x W (by omega) (by omega)
    have h2 := fun W => sExprCount_any s x W (by omega) (by omega)
    clear hB1 HD
    by_cases hn : nameB x.data.toList = true ∧ (pexpr s.data.toList).isSome = true
    · obtain ⟨hn, hp⟩ := hn
      obtain ⟨t, ht⟩ := Option.isSome_iff_exists.1 hp
      have hc : countOf s x = (t.cnt x : Int) := by unfold countOf; rw [if_pos hn, ht]; rfl
      rw [hc] at h1 h2
      obtain ⟨fg, fz, fx, fe, f120, fd⟩ := pexpr_facts ht
      have hf : freeOf s.data.toList = some ((t.occ []).foldl addS []) := by unfold freeOf; rw [ht]; rfl
      have hF := fun W => exprFree_any s W (by omega)
      unfold TextsR at hF
      rw [hf] at hF
      simp only [Option.getD_some, Option.isSome_some] at hF
      have hS := fun W => formSize_any s W (by omega)
      rw [(pexpr_some.1 ht).1] at hS
      simp only [numOf] at hS
      have hsz := count_size hn fe
      have hhs := count_has (t := t) hn
      have hlen : ((t.occ []).foldl addS []).length ≤ 1000000 := by
        have h := foldAdd_len (t.occ []) []
        have h2 := occ_len _ t [] (Nat.le_refl _)
        simp at h
        omega
      have hT := fun W o c (hst : Strs W o ((t.occ []).foldl addS []).length ((t.occ []).foldl addS [])) => hasText_any ((t.occ []).foldl addS []) x o _ c W hst (by omega)
      rw [hhs] at hT
      have hbs : (⟨#[40, 108, 101, 116, 32]⟩ ++ x ++ ⟨#[32, 48, 32]⟩ ++ s ++ ⟨#[41]⟩ : ByteArray).size ≤ 1000000000 := by
        simp only [ByteArray.size_append, size_lit, List.size_toArray, List.length_cons, List.length_nil]; omega
      have hV := fun W => exprValid_any (⟨#[40, 108, 101, 116, 32]⟩ ++ x ++ ⟨#[32, 48, 32]⟩ ++ s ++ ⟨#[41]⟩) W hbs
      have hC := fun W => exprCount_any (⟨#[40, 108, 101, 116, 32]⟩ ++ x ++ ⟨#[32, 48, 32]⟩ ++ s ++ ⟨#[41]⟩) x W hbs (by omega)
      have hCB := count_bound ht hn (⟨#[40, 108, 101, 116, 32]⟩ ++ x ++ ⟨#[32, 48, 32]⟩ ++ s ++ ⟨#[41]⟩) (by simp [ByteArray.data_append])
      have HCB := Lib.hid hCB
      have hbd : 1 ≤ t.size ∧ t.size ≤ 120 := ⟨size_pos t, f120⟩
      generalize (pexpr (⟨#[40, 108, 101, 116, 32]⟩ ++ x ++ ⟨#[32, 48, 32]⟩ ++ s ++ ⟨#[41]⟩ : ByteArray).data.toList).isSome = v at *
      generalize countOf (⟨#[40, 108, 101, 116, 32]⟩ ++ x ++ ⟨#[32, 48, 32]⟩ ++ s ++ ⟨#[41]⟩) x = z at *
      generalize (t.occ []).foldl addS [] = L at *
      generalize t.cnt x = k at *
      generalize t.size = n at *
      have hd1 : decide ((k : Int) ≤ (n : Int)) = true := by simp; omega
      have hd2 : decide ((k : Int) < 0) = false := by simp
      have HK : Hid (decide (0 < k) = decide ((0 : Int) < (k : Int))) := by show _ = _; rw [Bool.eq_iff_iff]; simp
      rw [HK.out] at hT
      have H1 := Lib.hid h1
      have H2 := Lib.hid h2
      have HF := Lib.hid hF
      have HS := Lib.hid hS
      have HT := Lib.hid hT
      have HV := Lib.hid hV
      have HC := Lib.hid hC
      clear h1 h2 hF hS hT hV hC hCB hhs hf hc ht hp fg fz fx fe f120 fd hbs hn
      go_wp2_with fail
      refine (H1.out _).mono ?_
      rintro e w2 ⟨rfl, hb2⟩
      have HB2 := Lib.hid (HB1.out.trans (hb2.mono HB1.out.size))
      go_wp2_with fail
      refine (H2.out _).mono ?_
      rintro e w3 ⟨rfl, hb3⟩
      have HB3 := Lib.hid (HB2.out.trans (hb3.mono HB2.out.size))
      clear hb2 hb3
      go_wp2_with fail
      refine (HF.out _).mono ?_
      rintro e w4 ⟨v4, rfl, hr4, hb4⟩
      obtain ⟨o4, c4, rfl, hst4⟩ := hr4.forms
      have HB4 := Lib.hid (HB3.out.trans (hb4.mono HB3.out.size))
      have HST4 := Lib.hid hst4
      clear hb4 hr4 hst4
      go_wp2_with fail
      refine (HS.out _).mono ?_
      rintro e w5 ⟨rfl, hb5⟩
      have HB5 := Lib.hid (HB4.out.trans (hb5.mono HB4.out.size))
      have HT5 := Lib.hid (HT.out w5 o4 c4 (HST4.out.keep hb5))
      clear hb5
      generalize decide ((0 : Int) < (k : Int)) = q at *
      go_wp2_with fail
      refine HT5.out.mono ?_
      rintro e w6 ⟨rfl, rfl⟩
      go_wp2_with fail
      refine (HV.out _).mono ?_
      rintro e w7 ⟨rfl, hb7⟩
      have HB7 := Lib.hid (HB5.out.trans (hb7.mono HB5.out.size))
      clear hb7
      cases v
      · go_wp2
        go_ret
        exact ⟨rfl, HB7.out⟩
      · obtain rfl := HCB.out rfl
        go_wp2_with fail
        refine (HC.out _).mono ?_
        rintro e w8 ⟨rfl, hb8⟩
        go_wp2
        go_ret
        exact ⟨rfl, HB7.out.trans (hb8.mono HB7.out.size)⟩
    · have hc : countOf s x = -1 := by
        unfold countOf
        by_cases h : nameB x.data.toList = true
        · rw [if_pos h]
          cases hp : pexpr s.data.toList with
          | none => rfl
          | some t => exact absurd ⟨h, by rw [hp]; rfl⟩ hn
        · rw [if_neg h]
      rw [hc] at h1 h2
      have H1 := Lib.hid h1
      have H2 := Lib.hid h2
      clear h1 h2 hc hn
      go_wp2_with fail
      refine (H1.out _).mono ?_
      rintro e w2 ⟨rfl, hb2⟩
      have HB2 := Lib.hid (HB1.out.trans (hb2.mono HB1.out.size))
      go_wp2_with fail
      refine (H2.out _).mono ?_
      rintro e w3 ⟨rfl, hb3⟩
      have HB3 := Lib.hid (HB2.out.trans (hb3.mono HB2.out.size))
      clear hb2 hb3
      go_wp2
      go_ret
      exact ⟨rfl, HB3.out⟩

set_option maxRecDepth 100000 in
theorem lifted (os : Os) (started : os.Started) (H : Type) (enc : TypeId × Value → H) :
    ReturnsInHanded {} Try.checked os 6 .any (Rows.fnCountSpec.pre6 enc Try.prog Try.f6 Rows.fnCountRow.domain false) (Rows.fnCountSpec.post enc Try.prog Try.f6 false true false false) := by
  refine returnsInHanded_of_change (C := Try.checked) own started (by kernel_rfl) Try.func6
    (ChangeSpec.witness6 (enc := enc) (C := Try.checked) false ⟨#[], #[.slice none 0 0], []⟩ 8 (by kernel_rfl) (by kernel_rfl) (by kernel_rfl) (by kernel_rfl)) ?_
  intro W base args ds gs before hval0 hW hcnd _
  have hval : ∀ (j : Nat) t v, Try.f6.params[j]? = some t → args[j]? = some v → Value.okWide Try.prog W .any base t v := hval0
  have hW' := hW
  obtain ⟨p, q, hA0, hV, rfl, hfz, hnd⟩ := hW
  have hA : DataW.TrodAll enc Try.prog W 0 (fun _ => true) true Try.f6.params.toList args.toList ds p := hA0
  rw [Try.params6] at hA hval
  obtain ⟨v0, vs0, d0, ds0, p0, q0, hargs, rfl, rfl, h0, r0⟩ := trodAll_cons hA
  obtain ⟨rfl, rfl, rfl⟩ := trodAll_nil r0
  obtain rfl : args = #[v0] := by cases args; simp_all
  obtain ⟨rfl, rfl⟩ := trodVars_none hV
  obtain ⟨a0, l0, c0, rfl⟩ := okWide_slice Try.underlying29 (hval 0 29 v0 rfl rfl)
  have k0 := h0
  have lt0 : ∀ x ∈ p0, x.block < W.heap.size := by obtain ⟨m, hm⟩ := k0; exact DataW.trod_lt m _ _ _ hm
  have w0 : Code W a0 l0 c0 := by
    obtain ⟨fuel, hf⟩ := h0
    rcases open_ints Try.underlying29 Try.underlying5 (by kernel_rfl) hf with ⟨hcs, _⟩ | ⟨x, l, c, zs, hcs, _, hl, hm, hz, _, hcell, hwz⟩
    · simp [Value.cells] at hcs
      obtain ⟨rfl, rfl, rfl⟩ := hcs
      exact ⟨Nat.le_refl _, Nat.zero_le _, .inl rfl⟩
    · simp [Value.cells] at hcs
      obtain ⟨rfl, rfl, rfl⟩ := hcs
      exact Code.of_row hl hm (by simpa using hz) hcell hwz
  clear hA0 hval0
  simp only [List.append_nil] at hW'
  refine (walk a0 l0 c0 W w0).mono fun e W' ⟨he, bel⟩ => ?_
  subst he
  exact ⟨_, rfl, _, _, _, [], _, [], hW', trodAll_mk1 (shut_bool Try.underlying4 _), (trodAll_cons_mk (Below.trod laidOut (by kernel_rfl) (of_decide_eq_true (by kernel_rfl)) k0 bel lt0) trodAll_mk0), rfl, bel.frame _, fun h => by cases h⟩

theorem over : Rows.fnCountRow.holds Try.pinned (OpenSpec.ofChange Rows.fnCountSpec) :=
  OpenClaim.holds_of_wide 6 Try.f6 rfl rfl rfl rfl rfl rfl rfl ⟨rfl, rfl, rfl, rfl, rfl⟩ rfl rfl rfl rfl rfl (by kernel_rfl) Try.func6 (by kernel_rfl)
    (of_decide_eq_true (by kernel_rfl)) (by unfold Func.isWrapper; first | (rw [if_pos (by decide +kernel)]; kernel_rfl) | (rw [if_neg (by decide +kernel)]; exact ⟨rfl, rfl⟩))
    (fun os started H enc _ => lifted os started H enc)

/-- The statement. -/
theorem proved : Rows.FnCountSaid := over
#print axioms proved
end Go.Proofs.Ytoihkjnfklogpaa.fnCount
