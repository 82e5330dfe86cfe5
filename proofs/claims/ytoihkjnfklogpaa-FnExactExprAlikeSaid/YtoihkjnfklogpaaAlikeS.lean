/- What is renamed is a good form of a bounded length. No program is in sight. -/
import Derived.Test.YtoihkjnfklogpaaAlikeR
namespace Go.Proofs.Ytoihkjnfklogpaa

/-- A text that may stand as an atom. -/
def okA (M : Nat) (s : ByteArray) : Prop := s.data.toList ≠ [] ∧ s.data.toList.all atomB = true ∧ s.data.toList.length ≤ M

theorem digB_atom {c : UInt8} (h : digB c = true) : atomB c = true := by
  unfold digB at h
  unfold atomB
  simp only [Bool.and_eq_true, decide_eq_true_eq] at h
  simp [h.1, h.2]
theorem okA_xn {k M : Nat} (h : k + 2 ≤ M) : okA M (xn k) := by
  refine ⟨by rw [xn_data]; simp, ?_, ?_⟩
  · rw [xn_data, List.all_cons, Bool.and_eq_true]
    refine ⟨by decide, ?_⟩
    rw [List.all_eq_true]
    intro c hc
    exact digB_atom (List.all_eq_true.1 (decL_digs k) c hc)
  · rw [xn_data]
    have := decL_len k
    simp; omega

theorem good_leafT {M : Nat} {s : ByteArray} (h : okA M s) : (leafT s).good = true := by
  simp only [leafT, Tree.good, List.isEmpty_nil, if_true, Bool.and_eq_true]
  exact ⟨by simpa using h.1, h.2.1⟩

structure Fine (M : Nat) (t u : Tree) : Prop where
  good : u.good = true
  depth : u.depth ≤ t.depth
  sz : u.sz ≤ t.sz
  text : u.text.length ≤ t.text.length + M * t.sz

theorem Fine.refl {M : Nat} {t : Tree} (h : t.good = true) : Fine M t t := ⟨h, Nat.le_refl _, Nat.le_refl _, Nat.le_add_right _ _⟩
theorem sz_pos (t : Tree) : 1 ≤ t.sz := by cases t; simp only [Tree.sz]; omega
theorem Fine.leaf {M : Nat} {t : Tree} {s : ByteArray} (h : okA M s) : Fine M t (leafT s) := by
  refine ⟨good_leafT h, by simp [leafT, Tree.depth], by have := sz_pos t; simp only [leafT, Tree.sz, Tree.szL]; omega, ?_⟩
  have h1 := h.2.2
  have h2 := Nat.le_mul_of_pos_right M (sz_pos t)
  simp only [leafT, Tree.text, List.isEmpty_nil, if_true]
  omega

/-- Part by part. -/
inductive FineL (M : Nat) : List Tree → List Tree → Prop
  | nil : FineL M [] []
  | cons {t u : Tree} {ts us : List Tree} (h : Fine M t u) (hs : FineL M ts us) : FineL M (t :: ts) (u :: us)

theorem FineL.all {M : Nat} : ∀ {ts us : List Tree}, FineL M ts us → Tree.goodL us = true ∧ Tree.depthL us ≤ Tree.depthL ts ∧ Tree.szL us ≤ Tree.szL ts ∧ (Tree.textL us).length ≤ (Tree.textL ts).length + M * Tree.szL ts ∧ us.length = ts.length
  | [], [], _ => ⟨by simp only [Tree.goodL], Nat.le_refl _, Nat.le_refl _, Nat.le_add_right _ _, rfl⟩
  | t :: ts, u :: us, .cons h hs => by
    obtain ⟨h1, h2, h3, h4, h5⟩ := hs.all
    refine ⟨by simp only [Tree.goodL, Bool.and_eq_true]; exact ⟨h.good, h1⟩, by simp only [Tree.depthL]; have := h.depth; omega, by simp only [Tree.szL]; have := h.sz; omega, ?_, by simp [h5]⟩
    have := h.text
    simp only [Tree.textL, Tree.szL, List.length_append, Nat.mul_add]
    cases us with
    | nil =>
      have : ts = [] := List.eq_nil_of_length_eq_zero h5.symm
      subst this
      simp only [List.isEmpty_nil, if_true]; omega
    | cons u' us' =>
      cases ts with
      | nil => simp at h5
      | cons t' ts' =>
        simp only [List.isEmpty_cons, Bool.false_eq_true, if_false, List.length_cons]
        simp only [Tree.szL] at h4 ⊢
        rw [Nat.mul_add] at h4 ⊢
        omega
theorem Fine.node {M : Nat} {a : ByteArray} {t u : Tree} {ts us : List Tree} (h : FineL M (t :: ts) (u :: us)) : Fine M (.node a (t :: ts)) (.node ⟨#[]⟩ (u :: us)) := by
  obtain ⟨h1, h2, h3, h4, h5⟩ := h.all
  refine ⟨?_, ?_, ?_, ?_⟩
  · simp only [Tree.good, List.isEmpty_cons, Bool.false_eq_true, if_false, Bool.and_eq_true]
    exact ⟨by simp, h1⟩
  · simp only [Tree.depth, List.isEmpty_cons, Bool.false_eq_true, if_false]; omega
  · simp only [Tree.sz]; omega
  · simp only [Tree.text, List.isEmpty_cons, Bool.false_eq_true, if_false, List.length_cons, Tree.sz, Nat.mul_add]
    omega

theorem renL_fine (F : List ByteArray) (M : Nat) (fr to : List ByteArray) : ∀ (ps : List Tree) (n : Nat),
    (∀ q ∈ ps, ∀ n', (q.ren F fr to n').2 ≤ (Tree.renL F ps fr to n).2 → Fine M q (q.ren F fr to n').1) → (∀ q ∈ ps, ∀ n, n ≤ (q.ren F fr to n).2) → FineL M ps (Tree.renL F ps fr to n).1
  | [], n, _, _ => by simp only [Tree.renL]; exact .nil
  | p :: ps, n, H, hge => by
    simp only [Tree.renL] at H ⊢
    have h1 := renL_ge F fr to ps (fun q hq => hge q (by simp [hq])) (p.ren F fr to n).2
    exact .cons (H p (by simp) n h1) (renL_fine F M fr to ps _ (fun q hq n' hn => H q (by simp [hq]) n' hn) (fun q hq => hge q (by simp [hq])))

theorem ok_snoc {M : Nat} {to : List ByteArray} (h : ∀ s ∈ to, okA M s) {s : ByteArray} (hs : okA M s) : ∀ x ∈ to ++ [s], okA M x := by
  intro x hx
  rcases List.mem_append.1 hx with hx | hx
  · exact h x hx
  · simp at hx; subst hx; exact hs
theorem ok_snoc2 {M : Nat} {to : List ByteArray} (h : ∀ s ∈ to, okA M s) {s z : ByteArray} (hs : okA M s) (hz : okA M z) : ∀ x ∈ to ++ [s, z], okA M x := by
  intro x hx
  rcases List.mem_append.1 hx with hx | hx
  · exact h x hx
  · simp at hx; rcases hx with rfl | rfl <;> assumption

theorem ren_fine (F : List ByteArray) (M N : Nat) : ∀ (t : Tree) (fr to : List ByteArray) (n : Nat), t.sz ≤ N → t.isExpr = true → t.good = true → t.text.length ≤ M → (∀ s ∈ to, okA M s) → (t.ren F fr to n).2 + 2 ≤ M → Fine M t (t.ren F fr to n).1 := by
  induction N with
  | zero => intro t fr to n h; cases t; simp [Tree.sz] at h
  | succ N ih =>
    intro t fr to n hN he hg hM hto hm
    cases shp he with
    | leaf s h =>
      have hs : okA M s := by
        simp only [Tree.good, List.isEmpty_nil, if_true, Bool.and_eq_true] at hg
        simp only [Tree.text, List.isEmpty_nil, if_true] at hM
        exact ⟨by simpa using hg.1, hg.2, hM⟩
      rw [ren_leaf]
      show Fine M _ (if _ then _ else _)
      split
      · refine Fine.leaf ?_
        unfold look
        split
        · rw [List.getD_eq_getElem?_getD]
          cases e : to[(lastZ fr s).toNat]? with
          | none => exact hs
          | some z => exact hto z (List.mem_of_getElem? e)
        · exact hs
      · exact Fine.leaf hs
    | op s p ps hk hl h1 h2 hq =>
      rw [ren_op _ _ _ _ _ _ _ hl h1] at hm ⊢
      refine Fine.node (.cons (Fine.refl (good4 hg p (by simp))) (renL_fine F M fr to ps n (fun q hm' n' hn => ih q fr to n' (szsL hN q hm') (hq q hm') (good4 hg q (by simp [hm'])) ?_ hto ?_) (fun q hm' n => ren_ge F _ q fr to n (Nat.le_refl _) (hq q hm'))))
      · obtain ⟨i, hi⟩ := List.getElem?_of_mem (List.mem_cons_of_mem p hm')
        have := part_len s hi
        omega
      · exact Nat.le_trans (Nat.add_le_add_right hn 2) hm
    | lt s p x e b hp hx he' hb =>
      rw [ren_let _ _ _ _ _ _ _ _ _ hp] at hm ⊢
      obtain ⟨s1, s2⟩ := szs4 hN
      have g1 := freshK_ge F n
      have g2 := ren_ge F _ e fr to (freshK F n + 1) (Nat.le_refl _) he'
      have g3 := ren_ge F _ b (fr ++ [x.atom]) (to ++ [xn (freshK F n)]) (e.ren F fr to (freshK F n + 1)).2 (Nat.le_refl _) hb
      have hm' : (b.ren F (fr ++ [x.atom]) (to ++ [xn (freshK F n)]) (e.ren F fr to (freshK F n + 1)).2).2 + 2 ≤ M := hm
      have l1 := part_len s (ps := [p, x, e, b]) (k := 2) rfl
      have l2 := part_len s (ps := [p, x, e, b]) (k := 3) rfl
      have hk : okA M (xn (freshK F n)) := okA_xn (by omega)
      exact Fine.node (.cons (Fine.refl (good4 hg p (by simp))) (.cons (Fine.leaf hk) (.cons (ih e fr to _ s1 he' (good4 hg e (by simp)) (by omega) hto (by omega))
        (.cons (ih b _ _ _ s2 hb (good4 hg b (by simp)) (by omega) (ok_snoc hto hk) hm') .nil))))
    | fn s p f x u v b hp hf hx hne hu hv hb =>
      rw [ren_fun] at hm ⊢
      have g1 := freshK_ge F n
      have g2 := freshK_ge F (freshK F n + 1)
      have g3 := ren_ge F _ b (fr ++ [f.atom, x.atom]) (to ++ [xn (freshK F n), xn (freshK F (freshK F n + 1))]) (freshK F (freshK F n + 1) + 1) (Nat.le_refl _) hb
      have hm' : (b.ren F (fr ++ [f.atom, x.atom]) (to ++ [xn (freshK F n), xn (freshK F (freshK F n + 1))]) (freshK F (freshK F n + 1) + 1)).2 + 2 ≤ M := hm
      have l2 := part_len s (ps := [p, f, x, u, v, b]) (k := 5) rfl
      have hk : okA M (xn (freshK F n)) := okA_xn (by omega)
      have hk2 : okA M (xn (freshK F (freshK F n + 1))) := okA_xn (by omega)
      exact Fine.node (.cons (Fine.refl (good4 hg p (by simp))) (.cons (Fine.leaf hk) (.cons (Fine.leaf hk2) (.cons (Fine.refl (good4 hg u (by simp))) (.cons (Fine.refl (good4 hg v (by simp)))
        (.cons (ih b _ _ _ (szs6 hN) hb (good4 hg b (by simp)) (by omega) (ok_snoc2 hto hk hk2) hm') .nil))))))
end Go.Proofs.Ytoihkjnfklogpaa
