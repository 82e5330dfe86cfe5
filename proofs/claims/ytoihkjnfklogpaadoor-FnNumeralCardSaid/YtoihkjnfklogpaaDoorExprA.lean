/- Expressions: their heads, and how many expressions they are; of the program and of the reference. -/
import Derived.Test.YtoihkjnfklogpaaDoorExpr
import Derived.Test.YtoihkjnfklogpaaDoorSExprP
namespace Go.Proofs.YtoihkjnfklogpaaDoor
open Go.RowKit

/-- What is known of a text that is an expression. -/
theorem pexpr_facts {s : List UInt8} {t : Tree} (h : pexpr s = some t) : t.good = true ∧ t.sz ≤ 24000 ∧ t.text.length ≤ 12000 ∧ t.isExpr = true ∧ t.size ≤ 120 ∧ t.depth ≤ 60 := by
  obtain ⟨hp, he, hs⟩ := pexpr_some.1 h
  obtain ⟨h1, h2, h3, h4⟩ := (parse_iff _ _).1 hp
  exact ⟨h2, parse_sz hp, by rw [← h1]; exact h4, he, hs, h3⟩

/-- What an expression begins with. -/
def headWord : Option Tree → ByteArray
  | none => ⟨#[]⟩
  | some t => if t.parts.isEmpty then (if nameB t.atom.data.toList then ⟨#[110, 97, 109, 101]⟩ else ⟨#[110, 117, 109, 98, 101, 114]⟩) else t.hd

theorem ret_string {a b : ByteArray} (h : a = b) : Ending.returned (.string a) = .returned (.string b) := by rw [h]

set_option maxRecDepth 100000 in
set_option maxHeartbeats 800000 in
theorem exprHead_any (s : ByteArray) (w : World) (hs : s.size ≤ 1000000000) :
    Calls Tryd.prog 9 #[.string s] w fun e w' => e = .returned (.string (headWord (pexpr s.data.toList))) ∧ Below w.heap.size w w' := by
  have HC := Lib.hid (fun W => readExpr_any s W hs)
  go_enter Tryd.func9, Tryd.ntmps9
  go_wp2_with fail
  refine (HC.out _).mono ?_
  rintro e w1 ⟨a, o, l, c, ok, t, rfl, hb1, hr, hok, ht⟩
  cases hp : pexpr s.data.toList with
  | none =>
    rw [hp] at hok
    have hok' : ok = false := hok
    subst hok'
    have HP := Lib.hid hp
    clear hok ht hp
    go_wp2
    go_ret
    exact ⟨ret_string (by rw [HP.out]; rfl), hb1.alloc hb1.size _⟩
  | some t' =>
    rw [hp] at hok
    have hok' : ok = true := hok
    subst hok'
    obtain rfl := ht _ hp
    obtain ⟨hg, hsz, htx, he, -⟩ := pexpr_facts hp
    have HP := Lib.hid hp
    clear hok ht hp
    have hHD := fun w' hr => head_any t (fun b => w.heap.size ≤ b) (.agg #[.string a, .slice o l c]) w' hr (by cases t with | node a ps => have := Tree.length_le_szL ps; simp only [Tree.sz, Tree.parts] at *; omega)
    have hz := Nat.le_trans (atom_leI hg) htx
    have hge := Tree.good_parts (a := t.atom) (ps := t.parts) (by cases t; exact hg)
    obtain ⟨s', ps⟩ := t
    have hr' := hr
    simp only [Rep] at hr
    obtain ⟨o', l', c', heq, hs', hcap⟩ := hr
    injection heq with heq
    obtain ⟨rfl, h2⟩ : a = s' ∧ Value.slice o l c = .slice o' l' c' := by
      have h := congrArg Array.toList heq
      simp only [List.cons.injEq, Value.string.injEq, and_true] at h
      exact h
    injection h2 with h2 h3 h4
    subst h2 h3 h4
    obtain rfl := hs'.len
    have HR : Hid (∀ W, Below w1.heap.size w1 W → Rep W (fun b => w.heap.size ≤ b) (.node a ps) (.agg #[.string a, .slice o ps.length c])) := fun W h => Rep.keep (Keeps.below h) _ _ hr'
    have B1 := boxed0 w1 (.string a) (.slice o ps.length c) 38
    obtain ⟨x1, y1, hB1, hl1⟩ := boxed B1
    have HHD := Lib.hid hHD
    clear hr' hs' hHD heq hsz htx he
    cases ps with
    | nil =>
      have HM := Lib.hid (fun W => isName_any a W (by simp only [Tree.atom] at hz; omega))
      have HT : Hid (headWord (some (.node a [])) = if nameB a.data.toList then ⟨#[110, 97, 109, 101]⟩ else ⟨#[110, 117, 109, 98, 101, 114]⟩) := by show _ = _; rfl
      clear hge hg
      go_wp2_with fail
      refine (isAtom_any _ _ _ _ _).mono ?_
      rintro e w2 ⟨rfl, hb2⟩
      have B2 := Below.next B1 hb2; obtain ⟨x2, y2, hB2, hl2⟩ := boxed B2; clear hb2
      cases hnm : nameB a.data.toList
      all_goals
        rw [hnm] at HT HM
        clear hnm
        go_wp2_with fail
        refine (HM.out _).mono ?_
        rintro e w3 ⟨rfl, rfl⟩
        go_wp2
        go_ret
        exact ⟨ret_string (by rw [HP.out, HT.out]; rfl), hb1.trans (hB2.mono hb1.size)⟩
    | cons p ps =>
      have hlen : ((((p :: ps).length : Nat) : Int) == 0) = false := by simp only [List.length_cons, beq_eq_false_iff_ne, ne_eq]; omega
      have HT : Hid (headWord (some (.node a (p :: ps))) = p.atom) := by show _ = _; rfl
      have HHD' : Hid (∀ w', Rep w' (fun b => w.heap.size ≤ b) (.node a (p :: ps)) (.agg #[.string a, .slice o (p :: ps).length c]) → Calls Tryd.prog 19 #[.agg #[.string a, .slice o (p :: ps).length c]] w' fun e w'' => e = .returned (.string p.atom) ∧ Below w'.heap.size w' w'') := HHD.out
      clear hge hg HHD
      generalize (p :: ps).length = l at *
      go_wp2_with fail
      refine (isAtom_any _ _ _ _ _).mono ?_
      rintro e w2 ⟨rfl, hb2⟩
      have B2 := Below.next B1 hb2; obtain ⟨x2, y2, hB2, hl2⟩ := boxed B2; clear hb2
      go_wp2_with fail
      refine (HHD'.out _ (HR.out _ hB2)).mono ?_
      rintro e w3 ⟨rfl, hb3⟩
      have B3 := Below.next B2 hb3; obtain ⟨x3, y3, hB3, hl3⟩ := boxed B3; clear hb3
      go_wp2
      go_ret
      exact ⟨ret_string (by first | (rw [HP.out, HT.out]; done) | (rw [HP.out, HT.out]; rfl)), hb1.trans (hB3.mono hb1.size)⟩

end Go.Proofs.YtoihkjnfklogpaaDoor
