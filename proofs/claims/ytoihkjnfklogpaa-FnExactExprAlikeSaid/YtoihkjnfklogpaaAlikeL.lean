/- Two expressions are alike where their plain forms have one text. No program is in sight. -/
import Derived.Test.YtoihkjnfklogpaaAlikeS
import Derived.Test.YtoihkjnfklogpaaAtoms
import Derived.Test.YtoihkjnfklogpaaExprA
namespace Go.Proofs.Ytoihkjnfklogpaa

/-- The free names of an expression. -/
def Tree.frees (t : Tree) : List ByteArray := (t.occ []).foldl addS []
/-- An expression with plain names, and how many numbers that took. -/
def Tree.plainly (t : Tree) : Tree × Nat := t.ren t.frees [] [] 0

theorem hasS_mem {l : List ByteArray} {s : ByteArray} (h : hasS l s = true) : s ∈ l := hasS_iff.1 h
theorem frees_mem (m : List ByteArray) : ∀ (l : List ByteArray) (x : ByteArray), x ∈ l ∨ x ∈ m → x ∈ m.foldl addS l := by
  induction m with
  | nil => intro l x h; simpa using h
  | cons a m ih =>
    intro l x h
    rw [List.foldl_cons]
    apply ih
    unfold addS
    by_cases hs : hasS l a = true
    · rw [if_pos hs]
      rcases h with h | h
      · exact .inl h
      · rcases List.mem_cons.1 h with rfl | h
        · exact .inl (hasS_iff.1 hs)
        · exact .inr h
    · rw [if_neg hs]
      rcases h with h | h
      · exact .inl (by simp [h])
      · rcases List.mem_cons.1 h with rfl | h
        · exact .inl (by simp)
        · exact .inr h

theorem plainly_le {t : Tree} (he : t.isExpr = true) (hz : t.size ≤ 120) : t.plainly.2 ≤ 100 := by
  have h := ren_bound t.frees t.sz t [] [] [] 0 (Nat.le_refl _) he
  have h1 : t.frees.length ≤ (t.occ []).length := by have := foldAdd_len (t.occ []) []; simpa [Tree.frees] using this
  have h2 := pot_le t.frees 0
  unfold Tree.plainly
  omega

theorem plainly_fine {t : Tree} (he : t.isExpr = true) (hg : t.good = true) (htx : t.text.length ≤ 12000) (hz : t.size ≤ 120) : Fine 12000 t t.plainly.1 := by
  have h := plainly_le he hz
  exact ren_fine t.frees 12000 t.sz t [] [] 0 (Nat.le_refl _) he hg htx (fun s hs => by simp at hs) (by unfold Tree.plainly at h; omega)

theorem alike_plainly {t u : Tree} (et : t.isExpr = true) (eu : u.isExpr = true) (gt : t.good = true) (gu : u.good = true) (xt : t.text.length ≤ 12000) (xu : u.text.length ≤ 12000) (zt : t.size ≤ 120) (zu : u.size ≤ 120) (dt : t.depth ≤ 60) (du : u.depth ≤ 60) :
    decide (bts t.plainly.1.text = bts u.plainly.1.text) = t.alike u [] [] := by
  rw [Bool.eq_iff_iff, decide_eq_true_eq]
  constructor
  · intro h
    have ft := plainly_fine et gt xt zt
    have fu := plainly_fine eu gu xu zu
    have h' : t.plainly.1.text = u.plainly.1.text := by
      have := congrArg (fun b : ByteArray => b.data.toList) h
      simpa [bts] using this
    have h2 := text_inj ft.good fu.good (Nat.le_trans ft.depth dt) (Nat.le_trans fu.depth du) h'
    exact ren_alike t.frees u.frees t.sz t u [] [] [] 0 0 (Nat.le_refl _) et eu rfl rfl List.nodup_nil (fun s hs => by simp at hs) (fun s hs => by simp at hs)
      (fun s hs => frees_mem _ _ _ (.inr hs)) (fun s hs => frees_mem _ _ _ (.inr hs)) (fun x hx => by simp at hx) (fun x hx => by simp at hx) h2
  · intro h
    have ho := alike_occ t.sz t u [] [] (Nat.le_refl _) h
    have hf : t.frees = u.frees := by unfold Tree.frees; rw [ho]
    have h2 := alike_ren t.frees t.sz t u [] [] [] 0 (Nat.le_refl _) et eu gt gu rfl rfl (fun x hx => by simp at hx) (fun x hx => by simp at hx) h
    unfold Tree.plainly
    rw [← hf, h2]

/-- Whether two texts are alike expressions. -/
def alikeT (s z : List UInt8) : Bool := match pexpr s, pexpr z with
  | some t, some u => t.alike u [] []
  | _, _ => false
/-- The plain text of an expression. -/
def plainT (s : List UInt8) : Option ByteArray := (pexpr s).map fun t => bts t.plainly.1.text

theorem alikeT_plain (s z : List UInt8) : alikeT s z = ((plainT s).isSome && ((plainT z).isSome && decide ((plainT s).getD ⟨#[]⟩ = (plainT z).getD ⟨#[]⟩))) := by
  unfold alikeT plainT
  cases hs : pexpr s with
  | none => simp
  | some t =>
    cases hz : pexpr z with
    | none => simp
    | some u =>
      obtain ⟨h1, h2, h3, h4, h5, h6⟩ := pexpr_facts hs
      obtain ⟨k1, k2, k3, k4, k5, k6⟩ := pexpr_facts hz
      simp only [Option.map_some, Option.isSome_some, Bool.true_and, Option.getD_some]
      exact (alike_plainly h4 k4 h1 k1 h3 k3 h5 k5 h6 k6).symm
end Go.Proofs.Ytoihkjnfklogpaa
