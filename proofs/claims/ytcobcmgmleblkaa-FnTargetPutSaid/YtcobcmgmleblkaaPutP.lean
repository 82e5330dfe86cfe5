/- What a form put for v is: plain. -/
import Derived.Test.YtcobcmgmleblkaaPut
import Derived.Test.YtcobcmgmleblkaaPlainU
import Derived.Test.YtcobcmgmleblkaaTypeP
namespace Go.Proofs.Ytcobcmgmleblkaa
open Go.RowKit

mutual
/-- How often v stands outside the packages. -/
def Tree.holes : Tree → Nat
  | .node a [] => if a.data.toList = [118] then 1 else 0
  | .node _ (p :: ps) => if p.atom.data.toList = [101] then 0 else p.holes + Tree.holesL ps
def Tree.holesL : List Tree → Nat
  | [] => 0
  | p :: ps => p.holes + Tree.holesL ps
end
theorem Tree.putL_ne {ps : List Tree} {g : Tree} (h : ps ≠ []) : Tree.putL ps g ≠ [] := by
  rw [Tree.putL_map]; simpa using h

mutual
theorem put_len (g : Tree) : ∀ t : Tree, (((t.put g).text.length : Nat) : Int) = t.text.length + (t.holes : Int) * ((g.text.length : Int) - 1)
  | .node a [] => by
    by_cases h : a.data.toList = [118]
    · rw [put_v g h, text_leaf, h]
      simp [Tree.holes, h]
      omega
    · rw [put_not g h]
      simp [Tree.holes, h]
  | .node a (p :: ps) => by
    by_cases h : p.atom.data.toList = [101]
    · rw [put_e g h]
      simp [Tree.holes, h]
    · have := putL_len g (p :: ps) 0
      have e : (Tree.node a (p :: ps)).holes = Tree.holesL (p :: ps) := by simp [Tree.holes, Tree.holesL, h]
      rw [put_on g h, text_of_opened _ _ (Tree.putL_ne (List.cons_ne_nil _ _)), text_of_opened _ _ (List.cons_ne_nil _ _), e]
      simp only [List.length_append, List.length_singleton]
      omega
theorem putL_len (g : Tree) : ∀ (ps : List Tree) (i : Nat), (((Tree.opened i (Tree.putL ps g)).length : Nat) : Int) = (Tree.opened i ps).length + (Tree.holesL ps : Int) * ((g.text.length : Int) - 1)
  | [], i => by simp [Tree.putL, Tree.opened, Tree.holesL]
  | p :: ps, i => by
    have h1 := put_len g p
    have h2 := putL_len g ps (i + 1)
    simp only [Tree.putL, Tree.opened, List.length_cons, List.length_append, Tree.holesL]
    have h4 : ((p.holes + Tree.holesL ps : Nat) : Int) * ((g.text.length : Int) - 1) = (p.holes : Int) * ((g.text.length : Int) - 1) + (Tree.holesL ps : Int) * ((g.text.length : Int) - 1) := by
      rw [Int.natCast_add, Int.add_mul]
    rw [h4]
    omega
end

mutual
theorem holes_le : ∀ t : Tree, t.holes ≤ t.sz
  | .node a [] => by simp only [Tree.holes, Tree.sz, Tree.szL]; split <;> omega
  | .node a (p :: ps) => by
    have := holesL_le (p :: ps)
    simp only [Tree.holes, Tree.sz, Tree.holesL] at this ⊢
    split <;> omega
theorem holesL_le : ∀ ps : List Tree, Tree.holesL ps ≤ Tree.szL ps
  | [] => Nat.zero_le _
  | p :: ps => by
    have h1 := holes_le p
    have h2 := holesL_le ps
    simp only [Tree.holesL, Tree.szL]
    omega
end

mutual
theorem put_good {g : Tree} (hg : g.good = true) : ∀ t : Tree, t.good = true → (t.put g).good = true
  | .node a [], h => by
    by_cases hv : a.data.toList = [118]
    · rw [put_v g hv]; exact hg
    · rw [put_not g hv]; exact h
  | .node a (p :: ps), h => by
    by_cases he : p.atom.data.toList = [101]
    · rw [put_e g he]; exact h
    · rw [put_on g he]
      have h1 := putL_good hg (p :: ps) (Tree.good_parts h).1
      have h2 : (Tree.putL (p :: ps) g).isEmpty = false := by simp [Tree.putL]
      simp only [Tree.good, h2, h1]; rfl
theorem putL_good {g : Tree} (hg : g.good = true) : ∀ ps : List Tree, Tree.goodL ps = true → Tree.goodL (Tree.putL ps g) = true
  | [], _ => rfl
  | p :: ps, h => by
    simp only [Tree.goodL, Bool.and_eq_true] at h
    simp only [Tree.putL, Tree.goodL, put_good hg p h.1, putL_good hg ps h.2]; rfl
end

/-- A head is a leaf. -/
theorem good_head {a : ByteArray} {p : Tree} {ps : List Tree} (h : (Tree.node a (p :: ps)).good = true) (hp : p.atom.data.toList ≠ []) : p = .node p.atom [] ∧ a = ⟨#[]⟩ := by
  have h1 := Tree.good_parts h
  have h2 := h1.1
  simp only [Tree.goodL, Bool.and_eq_true] at h2
  refine ⟨leaf_of_atom h2.1 hp, ?_⟩
  have : a.data.toList = [] := by
    by_cases hc : a.data.toList = []
    · exact hc
    · exact absurd (h1.2.2 hc) (by simp)
  cases a with
  | mk d => cases d with | mk l => simp at this; subst this; rfl

theorem head_put (g : Tree) {p : Tree} (h : p = .node p.atom []) (hv : ¬ p.atom.data.toList = [118]) : p.put g = p := by
  rw [h]; exact put_not g hv

mutual
theorem put_closed (u : List UInt8 → Bool) (hu : u [118] = false) (g : Tree) (o : Bool) : ∀ t : Tree, t.good = true → t.target u false o = true → t.put g = t
  | .node a [], h, ht => by
    refine put_not g (fun hv => ?_)
    simp [Tree.target, hv, hu] at ht
  | .node a (p :: ps), h, ht => by
    by_cases he : p.atom.data.toList = [101]
    · exact put_e g he
    · simp only [Tree.target, if_neg he, Bool.and_eq_true, Bool.or_eq_true, decide_eq_true_eq] at ht
      have hpn : p.atom.data.toList ≠ [] := by rcases ht.1 with h | h <;> rw [h] <;> simp
      have hpv : ¬ p.atom.data.toList = [118] := by rcases ht.1 with h | h <;> rw [h] <;> simp
      obtain ⟨h1, h2⟩ := good_head h hpn
      have hgl := (Tree.good_parts h).1
      simp only [Tree.goodL, Bool.and_eq_true] at hgl
      rw [put_on g he, Tree.putL, head_put g h1 hpv, putL_closed u hu g o ps hgl.2 ht.2, h2]
theorem putL_closed (u : List UInt8 → Bool) (hu : u [118] = false) (g : Tree) (o : Bool) : ∀ ps : List Tree, Tree.goodL ps = true → Tree.targetL u false o ps = true → Tree.putL ps g = ps
  | [], _, _ => rfl
  | p :: ps, h, ht => by
    simp only [Tree.goodL, Bool.and_eq_true] at h
    simp only [Tree.targetL, Bool.and_eq_true] at ht
    rw [Tree.putL, put_closed u hu g o p h.1 ht.1, putL_closed u hu g o ps h.2 ht.2]
end

mutual
theorem target_mono (u : List UInt8 → Bool) {h h' o o' : Bool} (hh : h = true → h' = true) (ho : o = true → o' = true) : ∀ t : Tree, t.target u h o = true → t.target u h' o' = true
  | .node a [], ht => by
    simp only [Tree.target, Bool.or_eq_true, Bool.and_eq_true] at ht ⊢
    rcases ht with (ht | ht) | ht
    · exact .inl (.inl ht)
    · exact .inl (.inr ⟨hh ht.1, ht.2⟩)
    · exact .inr ⟨ho ht.1, ht.2⟩
  | .node a (p :: ps), ht => by
    simp only [Tree.target] at ht ⊢
    by_cases he : p.atom.data.toList = [101]
    · rw [if_pos he, Bool.and_eq_true] at ht ⊢
      exact ⟨ht.1, targetL_mono u id ho ps ht.2⟩
    · rw [if_neg he, Bool.and_eq_true] at ht ⊢
      exact ⟨ht.1, targetL_mono u hh ho ps ht.2⟩
theorem targetL_mono (u : List UInt8 → Bool) {h h' o o' : Bool} (hh : h = true → h' = true) (ho : o = true → o' = true) : ∀ ps : List Tree, Tree.targetL u h o ps = true → Tree.targetL u h' o' ps = true
  | [], _ => rfl
  | p :: ps, ht => by
    simp only [Tree.targetL, Bool.and_eq_true] at ht ⊢
    exact ⟨target_mono u hh ho p ht.1, targetL_mono u hh ho ps ht.2⟩
end

mutual
theorem put_target (u : List UInt8 → Bool) (o : Bool) {g : Tree} (hg : g.target u false o = true) : ∀ t : Tree, t.good = true → t.target u true o = true → (t.put g).target u false o = true
  | .node a [], h, ht => by
    by_cases hv : a.data.toList = [118]
    · rw [put_v g hv]; exact hg
    · rw [put_not g hv]
      simp only [Tree.target, hv, decide_false, Bool.and_false, Bool.or_false] at ht ⊢
      exact ht
  | .node a (p :: ps), h, ht => by
    by_cases he : p.atom.data.toList = [101]
    · rw [put_e g he]
      simp only [Tree.target, if_pos he] at ht ⊢
      exact ht
    · simp only [Tree.target, if_neg he, Bool.and_eq_true, Bool.or_eq_true, decide_eq_true_eq] at ht
      have hpn : p.atom.data.toList ≠ [] := by rcases ht.1 with h | h <;> rw [h] <;> simp
      have hpv : ¬ p.atom.data.toList = [118] := by rcases ht.1 with h | h <;> rw [h] <;> simp
      obtain ⟨h1, h2⟩ := good_head h hpn
      have hgl := (Tree.good_parts h).1
      simp only [Tree.goodL, Bool.and_eq_true] at hgl
      rw [put_on g he, Tree.putL, head_put g h1 hpv]
      simp only [Tree.target, if_neg he, Bool.and_eq_true, Bool.or_eq_true, decide_eq_true_eq]
      exact ⟨ht.1, putL_target u o hg ps hgl.2 ht.2⟩
theorem putL_target (u : List UInt8 → Bool) (o : Bool) {g : Tree} (hg : g.target u false o = true) : ∀ ps : List Tree, Tree.goodL ps = true → Tree.targetL u true o ps = true → Tree.targetL u false o (Tree.putL ps g) = true
  | [], _, _ => rfl
  | p :: ps, h, ht => by
    simp only [Tree.goodL, Bool.and_eq_true] at h
    simp only [Tree.targetL, Bool.and_eq_true] at ht
    simp only [Tree.putL, Tree.targetL, put_target u o hg p h.1 ht.1, putL_target u o hg ps h.2 ht.2]; rfl
end

/-- What putting hands back, of two texts: u tells the unknown types. -/
def putOf (u : List UInt8 → Bool) (s b : List UInt8) : Option ByteArray := match parse s, parse b with
  | some t, some g => if (t.target u true true && g.target u false true) = true then (if (t.put g).fits = true then some (t.put g).txt else none) else none
  | _, _ => none
theorem putOf_none1 {u : List UInt8 → Bool} {s b : List UInt8} (h : parse s = none) : putOf u s b = none := by unfold putOf; rw [h]
theorem putOf_none2 {u : List UInt8 → Bool} {s b : List UInt8} (h : parse b = none) : putOf u s b = none := by unfold putOf; rw [h]; cases parse s <;> rfl
theorem putOf_some {u : List UInt8 → Bool} {s b : List UInt8} {t g : Tree} (h1 : parse s = some t) (h2 : parse b = some g) : putOf u s b = if (t.target u true true && g.target u false true) = true then (if (t.put g).fits = true then some (t.put g).txt else none) else none := by unfold putOf; rw [h1, h2]

theorem put_bound {g t : Tree} (hg : g.text.length ≤ 12000) (ht : t.text.length ≤ 12000) (hs : t.sz ≤ 24000) : (t.put g).text.length ≤ 400000000 := by
  have h := put_len g t
  have h1 := holes_le t
  have h2 : (t.holes : Int) * ((g.text.length : Int) - 1) ≤ (t.holes : Int) * 12000 := Int.mul_le_mul_of_nonneg_left (by omega) (by omega)
  omega
mutual
theorem atomsLe_of {m : Nat} : ∀ t : Tree, t.text.length ≤ m → t.good = true → Tree.atomsLe m t
  | .node a [], h, _ => by
    rw [text_leaf] at h
    exact ⟨by rw [size_data]; exact h, trivial⟩
  | .node a (p :: ps), h, hg => by
    have h1 := Tree.good_parts hg
    rw [text_of_opened _ _ (List.cons_ne_nil _ _)] at h
    simp only [List.length_append, List.length_singleton] at h
    refine ⟨?_, atomsLeL_of (p :: ps) 0 (by omega) h1.1⟩
    have : a.data.toList = [] := by
      by_cases hc : a.data.toList = []
      · exact hc
      · exact absurd (h1.2.2 hc) (by simp)
    rw [size_data, this]
    exact Nat.zero_le _
theorem atomsLeL_of {m : Nat} : ∀ (ps : List Tree) (i : Nat), (Tree.opened i ps).length ≤ m → Tree.goodL ps = true → Tree.atomsLeL m ps
  | [], _, _, _ => trivial
  | p :: ps, i, h, hg => by
    simp only [Tree.goodL, Bool.and_eq_true] at hg
    simp only [Tree.opened, List.length_cons, List.length_append] at h
    exact ⟨atomsLe_of p (by omega) hg.1, atomsLeL_of ps (i + 1) (by omega) hg.2⟩
end

theorem text_na {t : Tree} {i : Nat} {ps : List Tree} (h : (97 : UInt8) ∉ Tree.opened i (t :: ps)) : (97 : UInt8) ∉ t.text ∧ (97 : UInt8) ∉ Tree.opened (i + 1) ps := by
  simp only [Tree.opened, List.mem_cons, List.mem_append, not_or] at h
  exact ⟨h.2.1, h.2.2⟩
mutual
/-- Where no letter a stands, no type is unknown. -/
theorem target_na {u u' : List UInt8 → Bool} (hu : ∀ l : List UInt8, (97 : UInt8) ∉ l → u l = false) (hu' : ∀ l : List UInt8, (97 : UInt8) ∉ l → u' l = false) (o : Bool) : ∀ (t : Tree) (h : Bool), (97 : UInt8) ∉ t.text → t.target u h o = t.target u' h o
  | .node a [], h, hn => by
    rw [text_leaf] at hn
    simp only [Tree.target, hu _ hn, hu' _ hn]
  | .node a (p :: ps), h, hn => by
    rw [text_of_opened _ _ (List.cons_ne_nil _ _)] at hn
    have hn' := (text_na (i := 0) (fun hc => hn (List.mem_append_left _ hc))).2
    simp only [Tree.target]
    rw [targetL_na hu hu' o ps true 1 hn', targetL_na hu hu' o ps h 1 hn']
theorem targetL_na {u u' : List UInt8 → Bool} (hu : ∀ l : List UInt8, (97 : UInt8) ∉ l → u l = false) (hu' : ∀ l : List UInt8, (97 : UInt8) ∉ l → u' l = false) (o : Bool) : ∀ (ps : List Tree) (h : Bool) (i : Nat), (97 : UInt8) ∉ Tree.opened i ps → Tree.targetL u h o ps = Tree.targetL u' h o ps
  | [], _, _, _ => rfl
  | p :: ps, h, i, hn => by
    have hn' := text_na hn
    simp only [Tree.targetL]
    rw [target_na hu hu' o p h hn'.1, targetL_na hu hu' o ps h (i + 1) hn'.2]
end
theorem unkI_na (l : List UInt8) (h : (97 : UInt8) ∉ l) : unkI l = false := by
  unfold unkI; split
  · exact absurd (List.mem_cons_self) h
  · rfl
theorem unkS_na (l : List UInt8) (h : (97 : UInt8) ∉ l) : unkS l = false := by
  unfold unkS; split
  · exact absurd (List.mem_cons_self) h
  · rfl
end Go.Proofs.Ytcobcmgmleblkaa
