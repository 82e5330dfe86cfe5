/- The law FnAtoms is true of every code: atoms are forms. No condition. -/
import Derived.Test.YtginaebioijcpaaRows
import Derived.Test.YtginaebioijcpaaDrawF
import Derived.Test.YtginaebioijcpaaReplP
import Derived.Test.YtginaebioijcpaaReplS
import Derived.Test.YtginaebioijcpaaTypeP
import Derived.Test.YtginaebioijcpaaPartsP
import Derived.Test.YtginaebioijcpaaForm
import Derived.WalkKit
import Derived.ProofKit
import Derived.OpenShut
import Derived.ShutString
import Derived.Below
import Derived.ChangeOld
namespace Go.Proofs.Ytginaebioijcpaa.fnAtoms
open Go.ChangeShapes Go.WideShapes Go.ChangeAt Go.RowKit
open Go.ChangeMaps (open_string shut_string)
set_option linter.unusedVariables false

theorem own : ownKnob Try.prog.godebug = none := by kernel_rfl

theorem laidOut : laidOutB Try.prog = true := by kernel_rfl

theorem not_before {L : List ByteArray} (hn : L.Nodup) {k : Nat} {a : ByteArray} (h : L[k]? = some a) : a ∉ L.take k := by
  intro hm
  rw [← List.take_append_drop k L, List.nodup_append] at hn
  have hk := (List.getElem?_eq_some_iff.1 h)
  obtain ⟨hkl, hka⟩ := hk
  have : a ∈ L.drop k := by rw [List.drop_eq_getElem_cons hkl, hka]; simp
  exact hn.2.2 a hm a this rfl

set_option maxRecDepth 100000 in
set_option maxHeartbeats 3200000 in
theorem walk (a0 : Option Addr) (l0 c0 : Nat) (w : World) (w0 : Code w a0 l0 c0) :
    Calls Try.prog 6 #[.slice a0 l0 c0] w fun e w' => e = .returned (.bool true) ∧ Below w.heap.size w w' := by
  have HD := Lib.hid (drawFormAtoms_any w a0 l0 c0 w0)
  clear w0
  by_cases hl : (1048576 : Int) < l0
  · go_enter Try.func6, Try.ntmps6
    go_wp2
    go_ret
    exact ⟨rfl, Below.refl _ _⟩
  · go_enter Try.func6, Try.ntmps6
    go_wp2_with fail
    refine HD.out.mono ?_
    rintro e w1 ⟨s, rfl, hs, hB1⟩
    have h1 := fun W => formAtoms_any s W (by omega)
    have h2 := fun W => sFormAtoms_any s W (by omega)
    have hln := atomsOf_len s.data.toList
    unfold TextsR at h1 h2
    cases hp : parse s.data.toList with
    | none =>
      have he : atomsOf s.data.toList = none := by unfold atomsOf; rw [hp]; rfl
      rw [he] at h1 h2
      have H1 := Lib.hid h1
      have H2 := Lib.hid h2
      clear hp h1 h2 hln he
      go_wp2_with fail
      refine (H1.out _).mono ?_
      rintro e w2 ⟨v, rfl, hr1, hb2⟩
      have hB2 := hB1.trans (hb2.mono hB1.size)
      change SRow w2 _ v [] at hr1
      obtain ⟨o1, c1, rfl, hst1⟩ := hr1.forms
      have S1 := Lib.hid hst1
      clear hr1 hst1
      go_wp2_with fail
      refine (H2.out _).mono ?_
      rintro e w3 ⟨v, rfl, hr2, hb3⟩
      have hB3 := hB2.trans (hb3.mono hB2.size)
      change SRow w3 _ v [] at hr2
      obtain ⟨o2, c2, rfl, hst2⟩ := hr2.forms
      have S2 := Lib.hid hst2
      have S13 := Lib.hid (S1.out.keep hb3)
      clear hr2 hst2 hb2 hb3
      go_wp2_with fail
      refine (sameTexts_any [] [] _ _ _ _ _ _ _ S13.out S2.out (by simp) (by simp)).mono ?_
      rintro e w4 ⟨rfl, hb4⟩
      rw [show decide (([] : List ByteArray) = []) = true from rfl]
      have hB4 := hB3.trans (hb4.mono hB3.size)
      have S14 := Lib.hid (S13.out.keep hb4)
      have S24 := Lib.hid (S2.out.keep hb4)
      go_wp2_with fail
      refine (sameTexts_any [] [] _ _ _ _ _ _ _ S14.out S24.out (by simp) (by simp)).mono ?_
      rintro e w5 ⟨rfl, hb5⟩
      rw [show decide (([] : List ByteArray) = []) = true from rfl]
      go_wp2
      go_ret
      exact ⟨rfl, hB4.trans (hb5.mono hB4.size)⟩
    | some t =>
      have he := atomsOf_parse hp
      rw [he] at h1 h2 hln
      have hdup := foldAdd_nodup t.atoms [] List.nodup_nil
      have hpos : 1 ≤ (t.atoms.foldl addS []).length := foldAdd_pos _ (by rw [Tree.atoms_le]; exact t.size_pos)
      have hfact : ∀ (k : Nat) (a : ByteArray), (t.atoms.foldl addS [])[k]? = some a →
          (∀ W, Calls Try.prog 30 #[.string s, .string a, .string a] W fun e w' => e = .returned (.tuple #[.string s, .bool true]) ∧ Below W.heap.size W w') ∧
          (∀ W, Calls Try.prog 31 #[.string a] W fun e w' => e = .returned (.int .i64 0) ∧ Below W.heap.size W w') ∧ hasS ((t.atoms.foldl addS []).take k) a = false := by
        intro k a hka
        have hm : a ∈ t.atoms := by
          have := List.mem_of_getElem? hka
          rw [mem_foldAdd] at this
          simpa using this
        obtain ⟨r1, r2, r3⟩ := repl_self hp hm
        refine ⟨fun W => ?_, fun W => ?_, ?_⟩
        · have := formReplace_any s a a W (by omega) (by omega) (by omega)
          rw [r1] at this
          exact this
        · have := formDepth_any a W (by omega)
          rw [r2] at this
          exact this
        · exact hasS_false.2 (not_before hdup hka)
      have H1 := Lib.hid h1
      have H2 := Lib.hid h2
      have HF := Lib.hid hfact
      change (t.atoms.foldl addS []).length ≤ 1000000 at hln
      clear hp h1 h2 he hdup hfact
      generalize t.atoms.foldl addS [] = L at *
      go_wp2_with fail
      refine (H1.out _).mono ?_
      rintro e w2 ⟨v, rfl, hr1, hb2⟩
      have hB2 := hB1.trans (hb2.mono hB1.size)
      change SRow w2 _ v L at hr1
      obtain ⟨o1, c1, rfl, hst1⟩ := hr1.forms
      have S1 := Lib.hid hst1
      have hcap1 : Hid (∃ g cap, Value.slice o1 L.length c1 = .slice (some ⟨g, 0, none⟩) L.length cap ∧ L.length ≤ cap ∧ cap ≤ maxLen) := by
        rcases hr1.2 with ⟨hv, hn⟩ | ⟨g, cap, cur, hv, -, -, h3, h4, -⟩
        · rw [List.length_eq_zero_iff] at hn; subst hn; simp at hpos
        · exact ⟨g, cap, hv, h3, h4⟩
      clear hr1 hst1
      go_wp2_with fail
      refine (H2.out _).mono ?_
      rintro e w3 ⟨v, rfl, hr2, hb3⟩
      have hB3 := hB2.trans (hb3.mono hB2.size)
      change SRow w3 _ v L at hr2
      obtain ⟨o2, c2, rfl, hst2⟩ := hr2.forms
      have S2 := Lib.hid hst2
      have S13 := Lib.hid (S1.out.keep hb3)
      clear hr2 hst2 hb2 hb3
      go_wp2_with fail
      refine (sameTexts_any L L _ _ _ _ _ _ _ S13.out S2.out (by omega) (by omega)).mono ?_
      rintro e w4 ⟨rfl, hb4⟩
      rw [show decide (L = L) = true from decide_eq_true rfl]
      have hB4 := hB3.trans (hb4.mono hB3.size)
      have S14 := Lib.hid (S13.out.keep hb4)
      clear hb4 S13 S2 S1
      obtain ⟨g, cap, hv, hlc, hcm⟩ := hcap1.out
      simp only [Value.slice.injEq, true_and] at hv
      obtain ⟨rfl, rfl⟩ := hv
      unfold maxLen at hcm
      clear hcap1
      go_wp2
      go_loopw [8] (fun iv wr => ∃ k : Nat, k ≤ L.length ∧ iv = .int .i64 k ∧ Below w4.heap.size w4 wr) (fun iv _ => L.length - (intOf iv).toNat)
      case atStart => exact ⟨0, Nat.zero_le _, rfl, Below.refl _ _⟩
      case round =>
        obtain ⟨k, hk, rfl, hbr⟩ := hrel
        have SR := S14.out.keep hbr
        by_cases hlt : k < L.length
        · obtain ⟨b, off, a, ho, hx, hcx⟩ := SR.at hlt
          simp only [Option.some.injEq, Addr.mk.injEq, and_true] at ho
          obtain ⟨rfl, rfl⟩ := ho
          simp only [Nat.zero_add] at hcx
          obtain ⟨f1, f2, f3⟩ := HF.out k a hx
          have STK : Hid (∀ W, Below wr.heap.size wr W → Calls Try.prog 32 #[.slice (some ⟨g, 0, none⟩) k c1, .string a] W fun e w' => e = .returned (.bool false) ∧ Below wr.heap.size wr w') := by
            intro W hW
            have hs4 : Strs W (some ⟨g, 0, none⟩) k (L.take k) := by
              have := SR.keep hW
              refine ⟨by simp; omega, ?_⟩
              rcases this.2 with h | ⟨b, off, h1, h2⟩
              · left; rw [h]; simp
              · right
                refine ⟨b, off, h1, fun i s hi => h2 i s ?_⟩
                have hil : i < k := by have := (List.getElem?_eq_some_iff.1 hi).1; simp at this; omega
                rwa [List.getElem?_take_of_lt hil] at hi
            refine (hasText_any (L.take k) a _ k c1 W hs4 (by omega)).mono ?_
            rintro e w' ⟨rfl, rfl⟩
            exact ⟨by rw [f3], hW⟩
          have F1 := Lib.hid f1
          have F2 := Lib.hid f2
          have hS : ∀ w' : World, Below wr.heap.size wr w' → w'.cell? ⟨g, k, none⟩ = some (.string a) ∧ Below wr.heap.size wr w' := fun w' h => ⟨(h.cell (lt_of_cell hcx)).trans hcx, h⟩
          have HS := Lib.hid hS
          have hi0 : (0 : Int) ≤ (k : Int) := Int.natCast_nonneg _
          have hi1 : (k : Int) < (L.length : Int) := by omega
          have hkc : (k : Int) ≤ (c1 : Int) := by omega
          clear hS f1 f2 f3 hx SR
          go_wp2_with fail
          go_region_held3 (fun w' => w'.cell? ⟨g, k, none⟩ = some (.string a) ∧ Below wr.heap.size wr w') (first | exact HS.out _ (by assumption) | exact HS.out _ (Below.refl _ _).drew)
            (first
              | (go_at_call 30; refine (callQ (w1 := wr) ?_ (F1.out _)).mono ?_; (first | assumption | exact (Below.refl _ _).drew); rintro e w' ⟨rfl, hb'⟩))
          go_wp2_with fail
          go_region_held3 (fun w' => w'.cell? ⟨g, k, none⟩ = some (.string a) ∧ Below wr.heap.size wr w') (first | exact HS.out _ (by assumption) | exact HS.out _ hb'.drew)
            (first
              | (go_at_call 31; refine (callQ (w1 := wr) ?_ (F2.out _)).mono ?_; (first | exact hb'.drew | assumption); rintro e w2' ⟨rfl, hb2'⟩)
              | (go_at_call 32; refine (STK.out _ ?_).mono ?_; (first | assumption | exact hb'.drew); rintro e w3' ⟨rfl, hb3'⟩))
          all_goals
            have hq : ∀ W, Below wr.heap.size wr W → Below w4.heap.size w4 W := fun W h => hbr.trans (h.mono hbr.size)
            go_wp2
            go_roundw
            case rel => exact ⟨k + 1, by omega, by go_num, hq _ (by assumption)⟩
            case measure => simp [intOf]; omega
        · have hkn : k = L.length := by omega
          go_wp2
          go_ret
          exact ⟨ret_bool (by simp; omega), hB4.trans (hbr.mono hB4.size)⟩

set_option maxRecDepth 100000 in
theorem lifted (os : Os) (started : os.Started) (H : Type) (enc : TypeId × Value → H) :
    ReturnsInHanded {} Try.checked os 6 .any (Rows.fnAtomsSpec.pre6 enc Try.prog Try.f6 Rows.fnAtomsRow.domain false) (Rows.fnAtomsSpec.post enc Try.prog Try.f6 false true false false) := by
  refine returnsInHanded_of_change (C := Try.checked) own started (by kernel_rfl) Try.func6
    (ChangeSpec.witness6 (enc := enc) (C := Try.checked) false ⟨#[], #[.slice none 0 0], []⟩ 8 (by kernel_rfl) (by kernel_rfl) (by kernel_rfl) (by kernel_rfl)) ?_
  intro W base args ds gs before hval0 hW hcnd _
  have hval : ∀ (j : Nat) t v, Try.f6.params[j]? = some t → args[j]? = some v → Value.okWide Try.prog W .any base t v := hval0
  have hW' := hW
  obtain ⟨p, q, hA0, hV, rfl, hfz, hnd⟩ := hW
  have hA : DataW.TrodAll enc Try.prog W 0 (fun _ => true) true Try.f6.params.toList args.toList ds p := hA0
  rw [Try.params6] at hA hval
  obtain ⟨v0, vs0, d0, ds0, p0, q0, hargs, rfl, rfl, h0, r0⟩ := trodAll_cons hA
  obtain ⟨rfl, rfl, rfl⟩ := trodAll_nil r0
  obtain rfl : args = #[v0] := by cases args; simp_all
  obtain ⟨rfl, rfl⟩ := trodVars_none hV
  obtain ⟨a0, l0, c0, rfl⟩ := okWide_slice Try.underlying22 (hval 0 22 v0 rfl rfl)
  have k0 := h0
  have lt0 : ∀ x ∈ p0, x.block < W.heap.size := by obtain ⟨m, hm⟩ := k0; exact DataW.trod_lt m _ _ _ hm
  have w0 : Code W a0 l0 c0 := by
    obtain ⟨fuel, hf⟩ := h0
    rcases open_ints Try.underlying22 Try.underlying5 (by kernel_rfl) hf with ⟨hcs, _⟩ | ⟨x, l, c, zs, hcs, _, hl, hm, hz, _, hcell, hwz⟩
    · simp [Value.cells] at hcs
      obtain ⟨rfl, rfl, rfl⟩ := hcs
      exact ⟨Nat.le_refl _, Nat.zero_le _, .inl rfl⟩
    · simp [Value.cells] at hcs
      obtain ⟨rfl, rfl, rfl⟩ := hcs
      exact Code.of_row hl hm (by simpa using hz) hcell hwz
  clear hA0 hval0
  simp only [List.append_nil] at hW'
  refine (walk a0 l0 c0 W w0).mono fun e W' ⟨he, bel⟩ => ?_
  subst he
  exact ⟨_, rfl, _, _, _, [], _, [], hW', trodAll_mk1 (shut_bool Try.underlying4 _), (trodAll_cons_mk (Below.trod laidOut (by kernel_rfl) (of_decide_eq_true (by kernel_rfl)) k0 bel lt0) trodAll_mk0), rfl, bel.frame _, fun h => by cases h⟩

theorem over : Rows.fnAtomsRow.holds Try.pinned (OpenSpec.ofChange Rows.fnAtomsSpec) :=
  OpenClaim.holds_of_wide 6 Try.f6 rfl rfl rfl rfl rfl rfl rfl ⟨rfl, rfl, rfl, rfl, rfl⟩ rfl rfl rfl rfl rfl (by kernel_rfl) Try.func6 (by kernel_rfl)
    (of_decide_eq_true (by kernel_rfl)) (by unfold Func.isWrapper; first | (rw [if_pos (by decide +kernel)]; kernel_rfl) | (rw [if_neg (by decide +kernel)]; exact ⟨rfl, rfl⟩))
    (fun os started H enc _ => lifted os started H enc)

/-- The statement. -/
theorem proved : Rows.FnAtomsSaid := over
#print axioms proved
end Go.Proofs.Ytginaebioijcpaa.fnAtoms
