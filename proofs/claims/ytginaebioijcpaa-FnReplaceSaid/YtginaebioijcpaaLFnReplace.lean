/- The law FnReplace is true of every code: what is replaced is gone. No condition. -/
import Derived.Test.YtginaebioijcpaaRows
import Derived.Test.YtginaebioijcpaaDrawT
import Derived.Test.YtginaebioijcpaaReplP
import Derived.Test.YtginaebioijcpaaReplS
import Derived.Test.YtginaebioijcpaaTypeP
import Derived.WalkKit
import Derived.ProofKit
import Derived.OpenShut
import Derived.ShutString
import Derived.Below
import Derived.ChangeOld
namespace Go.Proofs.Ytginaebioijcpaa.fnReplace
open Go.ChangeShapes Go.WideShapes Go.ChangeAt Go.RowKit
open Go.ChangeMaps (open_string shut_string)
set_option linter.unusedVariables false

theorem own : ownKnob Try.prog.godebug = none := by kernel_rfl

theorem laidOut : laidOutB Try.prog = true := by kernel_rfl

set_option maxRecDepth 100000 in
set_option maxHeartbeats 3200000 in
theorem walk (a0 : Option Addr) (l0 c0 : Nat) (w : World) (w0 : Code w a0 l0 c0) :
    Calls Try.prog 7 #[.slice a0 l0 c0] w fun e w' => e = .returned (.bool true) ∧ Below w.heap.size w w' := by
  have HD := Lib.hid (drawFormReplace_any w a0 l0 c0 w0)
  clear w0
  by_cases hl : (1048576 : Int) < l0
  · go_enter Try.func7, Try.ntmps7
    go_wp2
    go_ret
    exact ⟨rfl, Below.refl _ _⟩
  · go_enter Try.func7, Try.ntmps7
    go_wp2_with fail
    refine HD.out.mono ?_
    rintro e w1 ⟨s, atom, by_, rfl, hs, ha, hb, hB1⟩
    have h1 := fun W => formReplace_any s atom by_ W (by omega) (by omega) (by omega)
    have h2 := fun W => sFormReplace_any s atom by_ W (by omega) (by omega) (by omega)
    cases hp : replOf s.data.toList atom.data.toList by_.data.toList atom with
    | none =>
      rw [hp] at h1 h2
      have H1 := Lib.hid h1
      have H2 := Lib.hid h2
      change Hid (∀ W, Calls _ _ _ W fun e w' => e = .returned (.tuple #[.string ⟨#[]⟩, .bool false]) ∧ _) at H1
      change Hid (∀ W, Calls _ _ _ W fun e w' => e = .returned (.tuple #[.string ⟨#[]⟩, .bool false]) ∧ _) at H2
      clear hp h1 h2
      go_wp2_with fail
      refine (H1.out _).mono ?_
      rintro e w2 ⟨rfl, hb2⟩
      go_wp2_with fail
      refine (H2.out _).mono ?_
      rintro e w3 ⟨rfl, hb3⟩
      go_wp2
      go_ret
      exact ⟨rfl, (hB1.trans (hb2.mono hB1.size)).trans (hb3.mono (Nat.le_trans hB1.size hb2.size))⟩
    | some out =>
      have hfact : ∃ t g, parse s.data.toList = some t ∧ parse by_.data.toList = some g ∧ out = (t.subst (putF atom g)).txt ∧ (t.subst (putF atom g)).fits = true := by
        cases e1 : parse s.data.toList with
        | none => rw [replOf_none1 e1] at hp; cases hp
        | some t =>
          cases e2 : parse by_.data.toList with
          | none => rw [replOf_none2 e2] at hp; cases hp
          | some g =>
            by_cases e3 : isAtomL atom.data.toList = true
            · by_cases e4 : 12000 < atom.data.toList.length
              · rw [replOf_long e4] at hp; cases hp
              · rw [replOf_some e1 e2 e3 (by omega)] at hp
                by_cases e5 : (t.subst (putF atom g)).fits = true
                · rw [if_pos e5] at hp; cases hp; exact ⟨t, g, rfl, rfl, rfl, e5⟩
                · rw [if_neg e5] at hp; cases hp
            · rw [replOf_atom (by simpa using e3)] at hp; cases hp
      obtain ⟨t, g, e1, e2, rfl, e5⟩ := hfact
      have hgt := parse_good e1
      have hgg := parse_good e2
      have hgu := putF_good (atom := atom) hgg hgt
      have hpu := parse_of_fits hgu e5
      have hul : (t.subst (putF atom g)).txt.size ≤ 12000 := by rw [Tree.txt, bts_size]; unfold Tree.fits at e5; simp at e5; exact e5.2
      have h3 := fun W => formAtoms_any s W (by omega)
      have h4 := fun W => formAtoms_any (t.subst (putF atom g)).txt W (by omega)
      have h5 := fun W => formAtoms_any by_ W (by omega)
      have l3 := atomsOf_len s.data.toList
      have l4 := atomsOf_len (t.subst (putF atom g)).txt.data.toList
      have l5 := atomsOf_len by_.data.toList
      rw [atomsOf_parse e1] at h3 l3
      rw [Tree.txt, bts_data, atomsOf_parse hpu] at h4 l4
      rw [atomsOf_parse e2] at h5 l5
      rw [show bts (t.subst (putF atom g)).text = (t.subst (putF atom g)).txt from rfl] at h4
      have m3 : hasS (t.atoms.foldl addS []) atom = hasS t.atoms atom := by rw [Bool.eq_iff_iff, hasS_iff, hasS_iff, mem_foldAdd]; simp
      have m5 : hasS (g.atoms.foldl addS []) atom = hasS g.atoms atom := by rw [Bool.eq_iff_iff, hasS_iff, hasS_iff, mem_foldAdd]; simp
      have m4 : hasS ((t.subst (putF atom g)).atoms.foldl addS []) atom = (hasS t.atoms atom && hasS g.atoms atom) := by rw [Bool.eq_iff_iff, hasS_iff, mem_foldAdd, mem_subst, Bool.and_eq_true, hasS_iff, hasS_iff]; simp
      have hsame : hasS t.atoms atom = false → (t.subst (putF atom g)).txt = s := by
        intro h
        rw [subst_none hgt (hasS_false.1 h), Tree.txt, ← ((parse_iff _ _).1 e1).1, bts_of]
      rw [hp] at h1 h2
      have H1 := Lib.hid h1
      have H2 := Lib.hid h2
      change Hid (∀ W, Calls _ _ _ W fun e w' => e = .returned (.tuple #[.string (t.subst (putF atom g)).txt, .bool true]) ∧ _) at H1
      change Hid (∀ W, Calls _ _ _ W fun e w' => e = .returned (.tuple #[.string (t.subst (putF atom g)).txt, .bool true]) ∧ _) at H2
      have H3 := Lib.hid h3
      have H4 := Lib.hid h4
      have H5 := Lib.hid h5
      have HS := Lib.hid hsame
      have M3 := Lib.hid m3
      have M4 := Lib.hid m4
      have M5 := Lib.hid m5
      change (t.atoms.foldl addS []).length ≤ 1000000 at l3
      change ((t.subst (putF atom g)).atoms.foldl addS []).length ≤ 1000000 at l4
      change (g.atoms.foldl addS []).length ≤ 1000000 at l5
      clear hp h1 h2 h3 h4 h5 hsame m3 m4 m5 e1 e2 e5 hgt hgg hgu hpu
      generalize (t.subst (putF atom g)).txt = out at *
      generalize (t.subst (putF atom g)).atoms.foldl addS [] = L4 at *
      generalize t.atoms.foldl addS [] = L3 at *
      generalize g.atoms.foldl addS [] = L5 at *
      generalize hasS t.atoms atom = was at *
      generalize hasS g.atoms atom = inn at *
      go_wp2_with fail
      refine (H1.out _).mono ?_
      rintro e w2 ⟨rfl, hb2⟩
      go_wp2_with fail
      refine (H2.out _).mono ?_
      rintro e w3 ⟨rfl, hb3⟩
      have hB3 := (hB1.trans (hb2.mono hB1.size)).trans (hb3.mono (Nat.le_trans hB1.size hb2.size))
      clear hb2 hb3
      go_wp2_with fail
      refine (H3.out _).mono ?_
      rintro e w4 ⟨v, rfl, hr, hb4⟩
      change SRow w4 _ v L3 at hr
      obtain ⟨o, c, rfl, hst⟩ := hr.forms
      have hB4 := hB3.trans (hb4.mono hB3.size)
      have R3 := Lib.hid hst
      clear hr hb4 hst
      go_wp2_with fail
      refine (H4.out _).mono ?_
      rintro e w5 ⟨v, rfl, hr, hb5⟩
      change SRow w5 _ v L4 at hr
      obtain ⟨o4, c4, rfl, hst⟩ := hr.forms
      have hB5 := hB4.trans (hb5.mono hB4.size)
      have R4 := Lib.hid hst
      have R35 := Lib.hid (R3.out.keep hb5)
      clear hr hb5 hst R3
      go_wp2_with fail
      refine (H5.out _).mono ?_
      rintro e w6 ⟨v, rfl, hr, hb6⟩
      change SRow w6 _ v L5 at hr
      obtain ⟨o5, c5, rfl, hst⟩ := hr.forms
      have hB6 := hB5.trans (hb6.mono hB5.size)
      have R5 := Lib.hid hst
      have R36 := Lib.hid (R35.out.keep hb6)
      have R46 := Lib.hid (R4.out.keep hb6)
      clear hr hb6 hst R4 R35
      go_wp2_with fail
      refine (hasText_any L3 atom _ _ _ _ R36.out (by omega)).mono ?_
      rintro e w7 ⟨rfl, rfl⟩
      rw [M3.out]
      go_wp2_with fail
      refine (hasText_any L4 atom _ _ _ _ R46.out (by omega)).mono ?_
      rintro e w7 ⟨rfl, rfl⟩
      rw [M4.out]
      cases was with
      | false =>
        have hso := HS.out rfl
        subst hso
        go_wp2
        go_ret
        exact ⟨rfl, hB6⟩
      | true =>
        go_wp2_with fail
        refine (hasText_any L5 atom _ _ _ _ R5.out (by omega)).mono ?_
        rintro e w7 ⟨rfl, rfl⟩
        rw [M5.out]
        cases inn
        · go_wp2
          go_ret
          exact ⟨rfl, hB6⟩
        · go_wp2
          go_ret
          exact ⟨rfl, hB6⟩

set_option maxRecDepth 100000 in
theorem lifted (os : Os) (started : os.Started) (H : Type) (enc : TypeId × Value → H) :
    ReturnsInHanded {} Try.checked os 7 .any (Rows.fnReplaceSpec.pre6 enc Try.prog Try.f7 Rows.fnReplaceRow.domain false) (Rows.fnReplaceSpec.post enc Try.prog Try.f7 false true false false) := by
  refine returnsInHanded_of_change (C := Try.checked) own started (by kernel_rfl) Try.func7
    (ChangeSpec.witness6 (enc := enc) (C := Try.checked) false ⟨#[], #[.slice none 0 0], []⟩ 8 (by kernel_rfl) (by kernel_rfl) (by kernel_rfl) (by kernel_rfl)) ?_
  intro W base args ds gs before hval0 hW hcnd _
  have hval : ∀ (j : Nat) t v, Try.f7.params[j]? = some t → args[j]? = some v → Value.okWide Try.prog W .any base t v := hval0
  have hW' := hW
  obtain ⟨p, q, hA0, hV, rfl, hfz, hnd⟩ := hW
  have hA : DataW.TrodAll enc Try.prog W 0 (fun _ => true) true Try.f7.params.toList args.toList ds p := hA0
  rw [Try.params7] at hA hval
  obtain ⟨v0, vs0, d0, ds0, p0, q0, hargs, rfl, rfl, h0, r0⟩ := trodAll_cons hA
  obtain ⟨rfl, rfl, rfl⟩ := trodAll_nil r0
  obtain rfl : args = #[v0] := by cases args; simp_all
  obtain ⟨rfl, rfl⟩ := trodVars_none hV
  obtain ⟨a0, l0, c0, rfl⟩ := okWide_slice Try.underlying22 (hval 0 22 v0 rfl rfl)
  have k0 := h0
  have lt0 : ∀ x ∈ p0, x.block < W.heap.size := by obtain ⟨m, hm⟩ := k0; exact DataW.trod_lt m _ _ _ hm
  have w0 : Code W a0 l0 c0 := by
    obtain ⟨fuel, hf⟩ := h0
    rcases open_ints Try.underlying22 Try.underlying5 (by kernel_rfl) hf with ⟨hcs, _⟩ | ⟨x, l, c, zs, hcs, _, hl, hm, hz, _, hcell, hwz⟩
    · simp [Value.cells] at hcs
      obtain ⟨rfl, rfl, rfl⟩ := hcs
      exact ⟨Nat.le_refl _, Nat.zero_le _, .inl rfl⟩
    · simp [Value.cells] at hcs
      obtain ⟨rfl, rfl, rfl⟩ := hcs
      exact Code.of_row hl hm (by simpa using hz) hcell hwz
  clear hA0 hval0
  simp only [List.append_nil] at hW'
  refine (walk a0 l0 c0 W w0).mono fun e W' ⟨he, bel⟩ => ?_
  subst he
  exact ⟨_, rfl, _, _, _, [], _, [], hW', trodAll_mk1 (shut_bool Try.underlying4 _), (trodAll_cons_mk (Below.trod laidOut (by kernel_rfl) (of_decide_eq_true (by kernel_rfl)) k0 bel lt0) trodAll_mk0), rfl, bel.frame _, fun h => by cases h⟩

theorem over : Rows.fnReplaceRow.holds Try.pinned (OpenSpec.ofChange Rows.fnReplaceSpec) :=
  OpenClaim.holds_of_wide 7 Try.f7 rfl rfl rfl rfl rfl rfl rfl ⟨rfl, rfl, rfl, rfl, rfl⟩ rfl rfl rfl rfl rfl (by kernel_rfl) Try.func7 (by kernel_rfl)
    (of_decide_eq_true (by kernel_rfl)) (by unfold Func.isWrapper; first | (rw [if_pos (by decide +kernel)]; kernel_rfl) | (rw [if_neg (by decide +kernel)]; exact ⟨rfl, rfl⟩))
    (fun os started H enc _ => lifted os started H enc)

/-- The statement. -/
theorem proved : Rows.FnReplaceSaid := over
#print axioms proved
end Go.Proofs.Ytginaebioijcpaa.fnReplace
