/- AlikeR. AlikeS. AlikeL. CountP. Several texts in one. -/
import Derived.Test.YtoihkjnfklogpaaQ4
import Derived.Test.YtoihkjnfklogpaaAtoms
import Derived.Test.YtoihkjnfklogpaaExprA
import Derived.Test.YtoihkjnfklogpaaTypeP
import Derived.Test.YtoihkjnfklogpaaQ5
import Derived.Test.YtoihkjnfklogpaaCount
/- What is renamed to one is alike; how many names it takes. No program is in sight. -/
namespace Go.Proofs.Ytoihkjnfklogpaa

/-- The names that have been given. -/
def Given (F : List ByteArray) (to : List ByteArray) (n : Nat) : Prop := ∀ s ∈ to, (∃ k, k < n ∧ s = xn k) ∧ s ∉ F

theorem Given.mono {F to : List ByteArray} {n m : Nat} (h : Given F to n) (hm : n ≤ m) : Given F to m := fun s hs => by
  obtain ⟨⟨k, h1, h2⟩, h3⟩ := h s hs
  exact ⟨⟨k, by omega, h2⟩, h3⟩
theorem Given.snoc {F to : List ByteArray} {n : Nat} (h : Given F to n) : Given F (to ++ [xn (freshK F n)]) (freshK F n + 1) := by
  intro s hs
  rcases List.mem_append.1 hs with hs | hs
  · exact (h.mono (by have := freshK_ge F n; omega)) s hs
  · simp at hs; subst hs; exact ⟨⟨_, Nat.lt_succ_self _, rfl⟩, freshK_not F n⟩
theorem Given.nodup {F to : List ByteArray} {n : Nat} (h : Given F to n) (hd : to.Nodup) : (to ++ [xn (freshK F n)]).Nodup := by
  rw [List.nodup_append]
  refine ⟨hd, by simp, fun a ha b hb => ?_⟩
  simp at hb
  subst hb
  obtain ⟨⟨k, h1, h2⟩, -⟩ := h a ha
  rw [h2]
  intro e
  have := xn_inj e
  have := freshK_ge F n
  omega

theorem numB_x (r : List UInt8) : numB (120 :: r) = false := by
  unfold numB
  have e1 : stripM (120 :: r) = 120 :: r := rfl
  have e2 : digsB (120 :: r) = false := by unfold digsB; simp [digB]
  rw [e1]
  unfold digitsB
  rw [e2]
  simp

theorem bare_x {k : Nat} (h : bareB (xn k).data.toList = true) : nameB (xn k).data.toList = true := by
  unfold bareB at h
  rw [xn_data, numB_x, Bool.or_false] at h
  exact h

theorem alike_leaves {s s' : ByteArray} (a b : List ByteArray) : (Tree.node s []).alike (.node s' []) a b = true ↔ lastZ a s = lastZ b s' ∧ (0 ≤ lastZ a s ∨ s = s') := by
  rw [alike_leaf a b (.inl rfl)]
  simp only [Tree.parts, List.isEmpty_nil, Bool.true_and, Bool.and_eq_true, Bool.or_eq_true, decide_eq_true_eq]
  exact Iff.rfl

theorem renL_alike (F G : List ByteArray) (a b to : List ByteArray) : ∀ (ps qs : List Tree) (n m : Nat),
    (∀ x ∈ ps, ∀ y ∈ qs, ∀ n' m', n ≤ n' → m ≤ m' → (x.ren F a to n').1 = (y.ren G b to m').1 → x.alike y a b = true) → (∀ x ∈ ps, ∀ n, n ≤ (x.ren F a to n).2) → (∀ x ∈ qs, ∀ n, n ≤ (x.ren G b to n).2) →
    (Tree.renL F ps a to n).1 = (Tree.renL G qs b to m).1 → Tree.alikeL a b ps qs = true
  | [], _, _, _, _, _, _, _ => by simp [Tree.alikeL]
  | _ :: _, [], _, _, _, _, _, _ => by simp [Tree.alikeL]
  | p :: ps, q :: qs, n, m, H, h1, h2, h => by
    simp only [Tree.renL, List.cons.injEq] at h
    simp only [Tree.alikeL, Bool.and_eq_true]
    have g1 := h1 p (by simp) n
    have g2 := h2 q (by simp) m
    exact ⟨H p (by simp) q (by simp) n m (Nat.le_refl _) (Nat.le_refl _) h.1,
      renL_alike F G a b to ps qs _ _ (fun x hx y hy n' m' hn hm => H x (by simp [hx]) y (by simp [hy]) n' m' (by omega) (by omega)) (fun x hx => h1 x (by simp [hx])) (fun x hx => h2 x (by simp [hx])) h.2⟩

/-- What is renamed to one expression is alike. -/
theorem ren_alike (F G : List ByteArray) (N : Nat) : ∀ (f g : Tree) (a b to : List ByteArray) (n m : Nat), f.sz ≤ N → f.isExpr = true → g.isExpr = true → a.length = to.length → b.length = to.length → to.Nodup →
    Given F to n → Given G to m → (∀ s ∈ f.occ a, s ∈ F) → (∀ s ∈ g.occ b, s ∈ G) → (∀ x ∈ a, nameB x.data.toList = true) → (∀ x ∈ b, nameB x.data.toList = true) →
    (f.ren F a to n).1 = (g.ren G b to m).1 → f.alike g a b = true := by
  induction N with
  | zero => intro f g a b to n m h; cases f; simp [Tree.sz] at h
  | succ N ih =>
    intro f g a b to n m hN hf hg la lb hnd hF hG oF oG na nb h
    cases shp hf with
    | leaf s hs =>
      rw [ren_leaf' _ _ _ _ _ na] at h
      cases shp hg with
      | leaf s' hs' =>
        rw [ren_leaf' _ _ _ _ _ nb] at h
        have h1 : look a to s = look b to s' := by simpa [leafT] using h
        rw [alike_leaves]
        unfold look at h1
        rcases lastZ_cases a s with ⟨e1, e2⟩ | ⟨k, e1, e2, e3⟩ <;> rcases lastZ_cases b s' with ⟨d1, d2⟩ | ⟨j, d1, d2, d3⟩
        · rw [e1, d1, if_neg (by decide), if_neg (by decide)] at h1
          exact ⟨by omega, .inr h1⟩
        · rw [e1, d1, if_neg (by decide), if_pos (by omega)] at h1
          have hj : j < to.length := by omega
          have h2 : s = to[j] := by simpa [List.getD_eq_getElem?_getD, List.getElem?_eq_getElem hj] using h1
          obtain ⟨⟨q, -, hq⟩, hnF⟩ := hF to[j] (List.getElem_mem hj)
          rw [← h2] at hq hnF
          have hnm : nameB s.data.toList = true := by rw [hq] at hs ⊢; exact bare_x hs
          exact absurd (oF s (by rw [occ_leaf_out e2, if_pos hnm]; simp)) hnF
        · rw [e1, d1, if_pos (by omega), if_neg (by decide)] at h1
          have hj : k < to.length := by omega
          have h2 : s' = to[k] := by simpa [List.getD_eq_getElem?_getD, List.getElem?_eq_getElem hj] using h1.symm
          obtain ⟨⟨q, -, hq⟩, hnF⟩ := hG to[k] (List.getElem_mem hj)
          rw [← h2] at hq hnF
          have hnm : nameB s'.data.toList = true := by rw [hq] at hs' ⊢; exact bare_x hs'
          exact absurd (oG s' (by rw [occ_leaf_out d2, if_pos hnm]; simp)) hnF
        · rw [e1, d1, if_pos (by omega), if_pos (by omega)] at h1
          have hk : k < to.length := by omega
          have hj : j < to.length := by omega
          have h2 : to[k] = to[j] := by simpa [List.getD_eq_getElem?_getD, List.getElem?_eq_getElem hk, List.getElem?_eq_getElem hj] using h1
          have : k = j := (List.getElem_inj hnd).1 h2
          subst this
          exact ⟨by omega, .inl (by omega)⟩
      | op s' p' ps' hk' hl' h1' h2' hq' => rw [ren_op _ _ _ _ _ _ _ hl' h1'] at h; simp [leafT] at h
      | lt s' p' x' e' t' hp' hx' he' ht' => rw [ren_let _ _ _ _ _ _ _ _ _ hp'] at h; simp [leafT] at h
      | fn s' p' y' x' u' v' t' hp' hy' hx' hne' hu' hv' ht' => rw [ren_fun] at h; simp [leafT] at h
    | op s p ps hk hl h1 h2 hq =>
      rw [ren_op _ _ _ _ _ _ _ hl h1] at h
      cases shp hg with
      | leaf s' hs' => rw [ren_leaf' _ _ _ _ _ nb] at h; simp [leafT] at h
      | op s' p' ps' hk' hl' h1' h2' hq' =>
        rw [ren_op _ _ _ _ _ _ _ hl' h1'] at h
        simp only [Tree.node.injEq, List.cons.injEq, true_and] at h
        obtain ⟨e1, e2⟩ := h
        have e3 : ps.length = ps'.length := by have := congrArg List.length e2; rwa [renL_length, renL_length] at this
        rw [alike_op a b hk hl h1 h2 (by rw [e1]) e3]
        rw [occ_op a hk hl h1 h2] at oF
        rw [occ_op b hk' hl' h1' h2'] at oG
        refine renL_alike F G a b to ps ps' n m (fun x hx y hy n' m' hn hm => ih x y a b to n' m' (szsL hN x hx) (hq x hx) (hq' y hy) la lb hnd (hF.mono hn) (hG.mono hm) (fun z hz => oF z ?_) (fun z hz => oG z ?_) na nb)
          (fun x hx n => ren_ge F _ x a to n (Nat.le_refl _) (hq x hx)) (fun x hx n => ren_ge G _ x b to n (Nat.le_refl _) (hq' x hx)) e2
        · exact List.mem_flatten.2 ⟨_, List.mem_map.2 ⟨x, hx, rfl⟩, hz⟩
        · exact List.mem_flatten.2 ⟨_, List.mem_map.2 ⟨y, hy, rfl⟩, hz⟩
      | lt s' p' x' e' t' hp' hx' he' ht' =>
        rw [ren_let _ _ _ _ _ _ _ _ _ hp'] at h
        simp only [Tree.node.injEq, List.cons.injEq, true_and] at h
        exact absurd (by rw [h.1]; exact hp') h1
      | fn s' p' y' x' u' v' t' hp' hy' hx' hne' hu' hv' ht' =>
        rw [ren_fun] at h
        simp only [Tree.node.injEq, List.cons.injEq, true_and] at h
        exact absurd (by rw [h.1]; exact hp') h2
    | lt s p x e t hp hx he ht =>
      rw [ren_let _ _ _ _ _ _ _ _ _ hp] at h
      cases shp hg with
      | leaf s' hs' => rw [ren_leaf' _ _ _ _ _ nb] at h; simp [leafT] at h
      | op s' p' ps' hk' hl' h1' h2' hq' =>
        rw [ren_op _ _ _ _ _ _ _ hl' h1'] at h
        simp only [Tree.node.injEq, List.cons.injEq, true_and] at h
        exact absurd (by rw [← h.1]; exact hp) h1'
      | lt s' p' x' e' t' hp' hx' he' ht' =>
        rw [ren_let _ _ _ _ _ _ _ _ _ hp'] at h
        simp only [Tree.node.injEq, List.cons.injEq, true_and, and_true, leafT] at h
        obtain ⟨-, k1, k2, k3⟩ := h
        rw [alike_let a b hp hp', Bool.and_eq_true]
        rw [occ_let a hp] at oF
        rw [occ_let b hp'] at oG
        obtain ⟨s1, s2⟩ := szs4 hN
        have g1 := freshK_ge F n
        have g2 := freshK_ge G m
        have g3 := ren_ge F _ e a to (freshK F n + 1) (Nat.le_refl _) he
        have g4 := ren_ge G _ e' b to (freshK G m + 1) (Nat.le_refl _) he'
        refine ⟨ih e e' a b to _ _ s1 he he' la lb hnd (hF.mono (by omega)) (hG.mono (by omega)) (fun z hz => oF z (List.mem_append_left _ hz)) (fun z hz => oG z (List.mem_append_left _ hz)) na nb k2, ?_⟩
        have k1' := k1
        rw [← k1'] at k3
        refine ih t t' (a ++ [x.atom]) (b ++ [x'.atom]) (to ++ [xn (freshK F n)]) _ _ s2 ht ht' (by simp [la]) (by simp [lb]) (hF.nodup hnd) (hF.snoc.mono g3) (by rw [k1]; exact hG.snoc.mono g4)
          (fun z hz => oF z (List.mem_append_right _ hz)) (fun z hz => oG z (List.mem_append_right _ hz)) (name_snoc na hx) (name_snoc nb hx') k3
      | fn s' p' y' x' u' v' t' hp' hy' hx' hne' hu' hv' ht' => rw [ren_fun] at h; simp at h
    | fn s p y x u v t hp hy hx hne hu hv ht =>
      rw [ren_fun] at h
      cases shp hg with
      | leaf s' hs' => rw [ren_leaf' _ _ _ _ _ nb] at h; simp [leafT] at h
      | op s' p' ps' hk' hl' h1' h2' hq' =>
        rw [ren_op _ _ _ _ _ _ _ hl' h1'] at h
        simp only [Tree.node.injEq, List.cons.injEq, true_and] at h
        exact absurd (by rw [← h.1]; exact hp) h2'
      | lt s' p' x' e' t' hp' hx' he' ht' => rw [ren_let _ _ _ _ _ _ _ _ _ hp'] at h; simp at h
      | fn s' p' y' x' u' v' t' hp' hy' hx' hne' hu' hv' ht' =>
        rw [ren_fun] at h
        simp only [Tree.node.injEq, List.cons.injEq, true_and, and_true, leafT] at h
        obtain ⟨-, k1, k2, k3, k4, k5⟩ := h
        rw [alike_fun a b hp hp', Bool.and_eq_true, Bool.and_eq_true, eqB_iff, eqB_iff]
        rw [occ_fun a hp] at oF
        rw [occ_fun b hp'] at oG
        refine ⟨⟨k3, k4⟩, ?_⟩
        have q1 := hF.snoc
        have q2 := q1.snoc
        have q3 := hG.snoc
        have q4 := q3.snoc
        have d1 := hF.nodup hnd
        have d2 := q1.nodup d1
        rw [List.append_assoc] at q2 q4 d2
        rw [← k1, ← k2] at k5 q4
        exact ih t t' (a ++ [y.atom, x.atom]) (b ++ [y'.atom, x'.atom]) (to ++ [xn (freshK F n), xn (freshK F (freshK F n + 1))]) _ _ (szs6 hN) ht ht' (by simp [la]) (by simp [lb]) d2 q2 q4 oF oG (name_snoc2 na hy hx) (name_snoc2 nb hy' hx') k5

theorem size_pos : ∀ t : Tree, 1 ≤ t.size
  | .node a [] => by simp [Tree.size]
  | .node a (p :: ps) => by have := size_pos p; simp only [Tree.size, List.isEmpty_cons, Tree.sizeL]; simp; omega

theorem renL_bound (F : List ByteArray) (fr to bound : List ByteArray) : ∀ (ps : List Tree),
    (∀ q ∈ ps, ∀ n, 3 * ((q.ren F fr to n).2 + pot F (q.ren F fr to n).2) + 3 * (q.occ bound).length ≤ 3 * (n + pot F n) + 2 * q.size + 1) →
    ∀ n, 3 * ((Tree.renL F ps fr to n).2 + pot F (Tree.renL F ps fr to n).2) + 3 * ((ps.map fun q => q.occ bound).flatten).length ≤ 3 * (n + pot F n) + 2 * Tree.sizeL ps + ps.length
  | [], _, n => by simp [Tree.renL, Tree.sizeL]
  | p :: ps, h, n => by
    have h1 := h p (by simp) n
    have h2 := renL_bound F fr to bound ps (fun q hq => h q (by simp [hq])) (p.ren F fr to n).2
    simp only [Tree.renL, Tree.sizeL, List.map_cons, List.flatten_cons, List.length_append, List.length_cons]
    omega

/-- How many names it takes. -/
theorem ren_bound (F : List ByteArray) (N : Nat) : ∀ (t : Tree) (fr to bound : List ByteArray) (n : Nat), t.sz ≤ N → t.isExpr = true →
    3 * ((t.ren F fr to n).2 + pot F (t.ren F fr to n).2) + 3 * (t.occ bound).length ≤ 3 * (n + pot F n) + 2 * t.size + 1 := by
  induction N with
  | zero => intro t fr to bound n h; cases t; simp [Tree.sz] at h
  | succ N ih =>
    intro t fr to bound n hN he
    cases shp he with
    | leaf s h =>
      rw [ren_leaf, occ_leaf']
      have : (if (nameB s.data.toList && !memB bound s) = true then [s] else []).length ≤ 1 := by split <;> simp
      simp only [Tree.size, List.isEmpty_nil, if_true]
      omega
    | op s p ps hk hl h1 h2 hq =>
      rw [ren_op _ _ _ _ _ _ _ hl h1, occ_op bound hk hl h1 h2]
      have := renL_bound F fr to bound ps (fun q hm n => ih q fr to bound n (szsL hN q hm) (hq q hm)) n
      have hp := size_pos p
      simp only [Tree.size, List.isEmpty_cons, Tree.sizeL]
      simp only [Bool.false_eq_true, if_false]
      omega
    | lt s p x e b hp hx he' hb =>
      rw [ren_let _ _ _ _ _ _ _ _ _ hp, occ_let bound hp]
      obtain ⟨s1, s2⟩ := szs4 hN
      have h1 := ih e fr to bound (freshK F n + 1) s1 he'
      have h2 := ih b (fr ++ [x.atom]) (to ++ [xn (freshK F n)]) (bound ++ [x.atom]) (e.ren F fr to (freshK F n + 1)).2 s2 hb
      have h3 := freshK_pot F n
      have z1 := size_pos p
      have z2 := size_pos x
      simp only [Tree.size, List.isEmpty_cons, Tree.sizeL, List.length_append]
      simp only [Bool.false_eq_true, if_false]
      omega
    | fn s p f x u v b hp hf hx hne hu hv hb =>
      rw [ren_fun, occ_fun bound hp]
      have h2 := ih b (fr ++ [f.atom, x.atom]) (to ++ [xn (freshK F n), xn (freshK F (freshK F n + 1))]) (bound ++ [f.atom, x.atom]) (freshK F (freshK F n + 1) + 1) (szs6 hN) hb
      have h3 := freshK_pot F n
      have h4 := freshK_pot F (freshK F n + 1)
      have z1 := size_pos p
      have z2 := size_pos x
      have z3 := size_pos f
      have z4 := size_pos u
      have z5 := size_pos v
      simp only [Tree.size, List.isEmpty_cons, Tree.sizeL]
      simp only [Bool.false_eq_true, if_false]
      omega

/-- Texts tell good forms apart. -/
theorem text_inj {t u : Tree} (ht : t.good = true) (hu : u.good = true) (dt : t.depth ≤ 60) (du : u.depth ≤ 60) (h : t.text = u.text) : t = u := by
  have h1 := rd_text t (2 * t.text.length + 2) 0 [] ht (by omega) (by simp) (by simp)
  have h2 := rd_text u (2 * t.text.length + 2) 0 [] hu (by omega) (by rw [h]; simp) (by simp)
  rw [List.append_nil] at h1 h2
  rw [← h, h1] at h2
  simpa using h2
end Go.Proofs.Ytoihkjnfklogpaa

/- What is renamed is a good form of a bounded length. No program is in sight. -/
namespace Go.Proofs.Ytoihkjnfklogpaa

/-- A text that may stand as an atom. -/
def okA (M : Nat) (s : ByteArray) : Prop := s.data.toList ≠ [] ∧ s.data.toList.all atomB = true ∧ s.data.toList.length ≤ M

theorem digB_atom {c : UInt8} (h : digB c = true) : atomB c = true := by
  unfold digB at h
  unfold atomB
  simp only [Bool.and_eq_true, decide_eq_true_eq] at h
  simp [h.1, h.2]
theorem okA_xn {k M : Nat} (h : k + 2 ≤ M) : okA M (xn k) := by
  refine ⟨by rw [xn_data]; simp, ?_, ?_⟩
  · rw [xn_data, List.all_cons, Bool.and_eq_true]
    refine ⟨by decide, ?_⟩
    rw [List.all_eq_true]
    intro c hc
    exact digB_atom (List.all_eq_true.1 (decL_digs k) c hc)
  · rw [xn_data]
    have := decL_len k
    simp; omega

theorem good_leafT {M : Nat} {s : ByteArray} (h : okA M s) : (leafT s).good = true := by
  simp only [leafT, Tree.good, List.isEmpty_nil, if_true, Bool.and_eq_true]
  exact ⟨by simpa using h.1, h.2.1⟩

structure Fine (M : Nat) (t u : Tree) : Prop where
  good : u.good = true
  depth : u.depth ≤ t.depth
  sz : u.sz ≤ t.sz
  text : u.text.length ≤ t.text.length + M * t.sz

theorem Fine.refl {M : Nat} {t : Tree} (h : t.good = true) : Fine M t t := ⟨h, Nat.le_refl _, Nat.le_refl _, Nat.le_add_right _ _⟩
theorem sz_pos (t : Tree) : 1 ≤ t.sz := by cases t; simp only [Tree.sz]; omega
theorem Fine.leaf {M : Nat} {t : Tree} {s : ByteArray} (h : okA M s) : Fine M t (leafT s) := by
  refine ⟨good_leafT h, by simp [leafT, Tree.depth], by have := sz_pos t; simp only [leafT, Tree.sz, Tree.szL]; omega, ?_⟩
  have h1 := h.2.2
  have h2 := Nat.le_mul_of_pos_right M (sz_pos t)
  simp only [leafT, Tree.text, List.isEmpty_nil, if_true]
  omega

/-- Part by part. -/
inductive FineL (M : Nat) : List Tree → List Tree → Prop
  | nil : FineL M [] []
  | cons {t u : Tree} {ts us : List Tree} (h : Fine M t u) (hs : FineL M ts us) : FineL M (t :: ts) (u :: us)

theorem FineL.all {M : Nat} : ∀ {ts us : List Tree}, FineL M ts us → Tree.goodL us = true ∧ Tree.depthL us ≤ Tree.depthL ts ∧ Tree.szL us ≤ Tree.szL ts ∧ (Tree.textL us).length ≤ (Tree.textL ts).length + M * Tree.szL ts ∧ us.length = ts.length
  | [], [], _ => ⟨by simp only [Tree.goodL], Nat.le_refl _, Nat.le_refl _, Nat.le_add_right _ _, rfl⟩
  | t :: ts, u :: us, .cons h hs => by
    obtain ⟨h1, h2, h3, h4, h5⟩ := hs.all
    refine ⟨by simp only [Tree.goodL, Bool.and_eq_true]; exact ⟨h.good, h1⟩, by simp only [Tree.depthL]; have := h.depth; omega, by simp only [Tree.szL]; have := h.sz; omega, ?_, by simp [h5]⟩
    have := h.text
    simp only [Tree.textL, Tree.szL, List.length_append, Nat.mul_add]
    cases us with
    | nil =>
      have : ts = [] := List.eq_nil_of_length_eq_zero h5.symm
      subst this
      simp only [List.isEmpty_nil, if_true]; omega
    | cons u' us' =>
      cases ts with
      | nil => simp at h5
      | cons t' ts' =>
        simp only [List.isEmpty_cons, Bool.false_eq_true, if_false, List.length_cons]
        simp only [Tree.szL] at h4 ⊢
        rw [Nat.mul_add] at h4 ⊢
        omega
theorem Fine.node {M : Nat} {a : ByteArray} {t u : Tree} {ts us : List Tree} (h : FineL M (t :: ts) (u :: us)) : Fine M (.node a (t :: ts)) (.node ⟨#[]⟩ (u :: us)) := by
  obtain ⟨h1, h2, h3, h4, h5⟩ := h.all
  refine ⟨?_, ?_, ?_, ?_⟩
  · simp only [Tree.good, List.isEmpty_cons, Bool.false_eq_true, if_false, Bool.and_eq_true]
    exact ⟨by simp, h1⟩
  · simp only [Tree.depth, List.isEmpty_cons, Bool.false_eq_true, if_false]; omega
  · simp only [Tree.sz]; omega
  · simp only [Tree.text, List.isEmpty_cons, Bool.false_eq_true, if_false, List.length_cons, Tree.sz, Nat.mul_add]
    omega

theorem renL_fine (F : List ByteArray) (M : Nat) (fr to : List ByteArray) : ∀ (ps : List Tree) (n : Nat),
    (∀ q ∈ ps, ∀ n', (q.ren F fr to n').2 ≤ (Tree.renL F ps fr to n).2 → Fine M q (q.ren F fr to n').1) → (∀ q ∈ ps, ∀ n, n ≤ (q.ren F fr to n).2) → FineL M ps (Tree.renL F ps fr to n).1
  | [], n, _, _ => by simp only [Tree.renL]; exact .nil
  | p :: ps, n, H, hge => by
    simp only [Tree.renL] at H ⊢
    have h1 := renL_ge F fr to ps (fun q hq => hge q (by simp [hq])) (p.ren F fr to n).2
    exact .cons (H p (by simp) n h1) (renL_fine F M fr to ps _ (fun q hq n' hn => H q (by simp [hq]) n' hn) (fun q hq => hge q (by simp [hq])))

theorem ok_snoc {M : Nat} {to : List ByteArray} (h : ∀ s ∈ to, okA M s) {s : ByteArray} (hs : okA M s) : ∀ x ∈ to ++ [s], okA M x := by
  intro x hx
  rcases List.mem_append.1 hx with hx | hx
  · exact h x hx
  · simp at hx; subst hx; exact hs
theorem ok_snoc2 {M : Nat} {to : List ByteArray} (h : ∀ s ∈ to, okA M s) {s z : ByteArray} (hs : okA M s) (hz : okA M z) : ∀ x ∈ to ++ [s, z], okA M x := by
  intro x hx
  rcases List.mem_append.1 hx with hx | hx
  · exact h x hx
  · simp at hx; rcases hx with rfl | rfl <;> assumption

theorem ren_fine (F : List ByteArray) (M N : Nat) : ∀ (t : Tree) (fr to : List ByteArray) (n : Nat), t.sz ≤ N → t.isExpr = true → t.good = true → t.text.length ≤ M → (∀ s ∈ to, okA M s) → (t.ren F fr to n).2 + 2 ≤ M → Fine M t (t.ren F fr to n).1 := by
  induction N with
  | zero => intro t fr to n h; cases t; simp [Tree.sz] at h
  | succ N ih =>
    intro t fr to n hN he hg hM hto hm
    cases shp he with
    | leaf s h =>
      have hs : okA M s := by
        simp only [Tree.good, List.isEmpty_nil, if_true, Bool.and_eq_true] at hg
        simp only [Tree.text, List.isEmpty_nil, if_true] at hM
        exact ⟨by simpa using hg.1, hg.2, hM⟩
      rw [ren_leaf]
      show Fine M _ (if _ then _ else _)
      split
      · refine Fine.leaf ?_
        unfold look
        split
        · rw [List.getD_eq_getElem?_getD]
          cases e : to[(lastZ fr s).toNat]? with
          | none => exact hs
          | some z => exact hto z (List.mem_of_getElem? e)
        · exact hs
      · exact Fine.leaf hs
    | op s p ps hk hl h1 h2 hq =>
      rw [ren_op _ _ _ _ _ _ _ hl h1] at hm ⊢
      refine Fine.node (.cons (Fine.refl (good4 hg p (by simp))) (renL_fine F M fr to ps n (fun q hm' n' hn => ih q fr to n' (szsL hN q hm') (hq q hm') (good4 hg q (by simp [hm'])) ?_ hto ?_) (fun q hm' n => ren_ge F _ q fr to n (Nat.le_refl _) (hq q hm'))))
      · obtain ⟨i, hi⟩ := List.getElem?_of_mem (List.mem_cons_of_mem p hm')
        have := part_len s hi
        omega
      · exact Nat.le_trans (Nat.add_le_add_right hn 2) hm
    | lt s p x e b hp hx he' hb =>
      rw [ren_let _ _ _ _ _ _ _ _ _ hp] at hm ⊢
      obtain ⟨s1, s2⟩ := szs4 hN
      have g1 := freshK_ge F n
      have g2 := ren_ge F _ e fr to (freshK F n + 1) (Nat.le_refl _) he'
      have g3 := ren_ge F _ b (fr ++ [x.atom]) (to ++ [xn (freshK F n)]) (e.ren F fr to (freshK F n + 1)).2 (Nat.le_refl _) hb
      have hm' : (b.ren F (fr ++ [x.atom]) (to ++ [xn (freshK F n)]) (e.ren F fr to (freshK F n + 1)).2).2 + 2 ≤ M := hm
      have l1 := part_len s (ps := [p, x, e, b]) (k := 2) rfl
      have l2 := part_len s (ps := [p, x, e, b]) (k := 3) rfl
      have hk : okA M (xn (freshK F n)) := okA_xn (by omega)
      exact Fine.node (.cons (Fine.refl (good4 hg p (by simp))) (.cons (Fine.leaf hk) (.cons (ih e fr to _ s1 he' (good4 hg e (by simp)) (by omega) hto (by omega))
        (.cons (ih b _ _ _ s2 hb (good4 hg b (by simp)) (by omega) (ok_snoc hto hk) hm') .nil))))
    | fn s p f x u v b hp hf hx hne hu hv hb =>
      rw [ren_fun] at hm ⊢
      have g1 := freshK_ge F n
      have g2 := freshK_ge F (freshK F n + 1)
      have g3 := ren_ge F _ b (fr ++ [f.atom, x.atom]) (to ++ [xn (freshK F n), xn (freshK F (freshK F n + 1))]) (freshK F (freshK F n + 1) + 1) (Nat.le_refl _) hb
      have hm' : (b.ren F (fr ++ [f.atom, x.atom]) (to ++ [xn (freshK F n), xn (freshK F (freshK F n + 1))]) (freshK F (freshK F n + 1) + 1)).2 + 2 ≤ M := hm
      have l2 := part_len s (ps := [p, f, x, u, v, b]) (k := 5) rfl
      have hk : okA M (xn (freshK F n)) := okA_xn (by omega)
      have hk2 : okA M (xn (freshK F (freshK F n + 1))) := okA_xn (by omega)
      exact Fine.node (.cons (Fine.refl (good4 hg p (by simp))) (.cons (Fine.leaf hk) (.cons (Fine.leaf hk2) (.cons (Fine.refl (good4 hg u (by simp))) (.cons (Fine.refl (good4 hg v (by simp)))
        (.cons (ih b _ _ _ (szs6 hN) hb (good4 hg b (by simp)) (by omega) (ok_snoc2 hto hk hk2) hm') .nil))))))
end Go.Proofs.Ytoihkjnfklogpaa

/- Two expressions are alike where their plain forms have one text. No program is in sight. -/
namespace Go.Proofs.Ytoihkjnfklogpaa

/-- The free names of an expression. -/
def Tree.frees (t : Tree) : List ByteArray := (t.occ []).foldl addS []
/-- An expression with plain names, and how many numbers that took. -/
def Tree.plainly (t : Tree) : Tree × Nat := t.ren t.frees [] [] 0

theorem hasS_mem {l : List ByteArray} {s : ByteArray} (h : hasS l s = true) : s ∈ l := hasS_iff.1 h
theorem frees_mem (m : List ByteArray) : ∀ (l : List ByteArray) (x : ByteArray), x ∈ l ∨ x ∈ m → x ∈ m.foldl addS l := by
  induction m with
  | nil => intro l x h; simpa using h
  | cons a m ih =>
    intro l x h
    rw [List.foldl_cons]
    apply ih
    unfold addS
    by_cases hs : hasS l a = true
    · rw [if_pos hs]
      rcases h with h | h
      · exact .inl h
      · rcases List.mem_cons.1 h with rfl | h
        · exact .inl (hasS_iff.1 hs)
        · exact .inr h
    · rw [if_neg hs]
      rcases h with h | h
      · exact .inl (by simp [h])
      · rcases List.mem_cons.1 h with rfl | h
        · exact .inl (by simp)
        · exact .inr h

theorem plainly_le {t : Tree} (he : t.isExpr = true) (hz : t.size ≤ 120) : t.plainly.2 ≤ 100 := by
  have h := ren_bound t.frees t.sz t [] [] [] 0 (Nat.le_refl _) he
  have h1 : t.frees.length ≤ (t.occ []).length := by have := foldAdd_len (t.occ []) []; simpa [Tree.frees] using this
  have h2 := pot_le t.frees 0
  unfold Tree.plainly
  omega

theorem plainly_fine {t : Tree} (he : t.isExpr = true) (hg : t.good = true) (htx : t.text.length ≤ 12000) (hz : t.size ≤ 120) : Fine 12000 t t.plainly.1 := by
  have h := plainly_le he hz
  exact ren_fine t.frees 12000 t.sz t [] [] 0 (Nat.le_refl _) he hg htx (fun s hs => by simp at hs) (by unfold Tree.plainly at h; omega)

theorem alike_plainly {t u : Tree} (et : t.isExpr = true) (eu : u.isExpr = true) (gt : t.good = true) (gu : u.good = true) (xt : t.text.length ≤ 12000) (xu : u.text.length ≤ 12000) (zt : t.size ≤ 120) (zu : u.size ≤ 120) (dt : t.depth ≤ 60) (du : u.depth ≤ 60) :
    decide (bts t.plainly.1.text = bts u.plainly.1.text) = t.alike u [] [] := by
  rw [Bool.eq_iff_iff, decide_eq_true_eq]
  constructor
  · intro h
    have ft := plainly_fine et gt xt zt
    have fu := plainly_fine eu gu xu zu
    have h' : t.plainly.1.text = u.plainly.1.text := by
      have := congrArg (fun b : ByteArray => b.data.toList) h
      simpa [bts] using this
    have h2 := text_inj ft.good fu.good (Nat.le_trans ft.depth dt) (Nat.le_trans fu.depth du) h'
    exact ren_alike t.frees u.frees t.sz t u [] [] [] 0 0 (Nat.le_refl _) et eu rfl rfl List.nodup_nil (fun s hs => by simp at hs) (fun s hs => by simp at hs)
      (fun s hs => frees_mem _ _ _ (.inr hs)) (fun s hs => frees_mem _ _ _ (.inr hs)) (fun x hx => by simp at hx) (fun x hx => by simp at hx) h2
  · intro h
    have ho := alike_occ t.sz t u [] [] (Nat.le_refl _) h
    have hf : t.frees = u.frees := by unfold Tree.frees; rw [ho]
    have h2 := alike_ren t.frees t.sz t u [] [] [] 0 (Nat.le_refl _) et eu gt gu rfl rfl (fun x hx => by simp at hx) (fun x hx => by simp at hx) h
    unfold Tree.plainly
    rw [← hf, h2]

/-- Whether two texts are alike expressions. -/
def alikeT (s z : List UInt8) : Bool := match pexpr s, pexpr z with
  | some t, some u => t.alike u [] []
  | _, _ => false
/-- The plain text of an expression. -/
def plainT (s : List UInt8) : Option ByteArray := (pexpr s).map fun t => bts t.plainly.1.text

theorem alikeT_plain (s z : List UInt8) : alikeT s z = ((plainT s).isSome && ((plainT z).isSome && decide ((plainT s).getD ⟨#[]⟩ = (plainT z).getD ⟨#[]⟩))) := by
  unfold alikeT plainT
  cases hs : pexpr s with
  | none => simp
  | some t =>
    cases hz : pexpr z with
    | none => simp
    | some u =>
      obtain ⟨h1, h2, h3, h4, h5, h6⟩ := pexpr_facts hs
      obtain ⟨k1, k2, k3, k4, k5, k6⟩ := pexpr_facts hz
      simp only [Option.map_some, Option.isSome_some, Bool.true_and, Option.getD_some]
      exact (alike_plainly h4 k4 h1 k1 h3 k3 h5 k5 h6 k6).symm
end Go.Proofs.Ytoihkjnfklogpaa

/- Free occurrences: what the law asks. No program is in sight. -/
namespace Go.Proofs.Ytoihkjnfklogpaa

theorem name_ok {s : ByteArray} (h : nameB s.data.toList = true) : okA 4 s := by
  unfold okA
  cases hl : s.data.toList with
  | nil => rw [hl] at h; simp [nameB] at h
  | cons c r =>
    rw [hl] at h
    simp only [nameB, Bool.and_eq_true, decide_eq_true_eq] at h
    obtain ⟨⟨⟨h1, h2⟩, h3⟩, h4⟩ := h
    refine ⟨by simp, ?_, by simp; omega⟩
    rw [List.all_cons, Bool.and_eq_true]
    refine ⟨by unfold atomB; simp [h1, h2], ?_⟩
    rw [List.all_eq_true]
    intro d hd
    exact digB_atom (List.all_eq_true.1 h4 d hd)

/-- A name is bound around an expression. -/
def boundT (name : ByteArray) (t : Tree) : Tree := .node ⟨#[]⟩ [leafT ⟨#[108, 101, 116]⟩, leafT name, leafT ⟨#[48]⟩, t]

theorem boundT_good {name : ByteArray} {t : Tree} (hn : nameB name.data.toList = true) (ht : t.good = true) : (boundT name t).good = true := by
  have h1 : (leafT ⟨#[108, 101, 116]⟩).good = true := by decide
  have h2 : (leafT name).good = true := good_leafT (name_ok hn)
  have h3 : (leafT ⟨#[48]⟩).good = true := by decide
  simp only [boundT, Tree.good, Tree.goodL, h1, h2, h3, ht]
  simp

theorem boundT_text (name : ByteArray) (t : Tree) : (boundT name t).text = [40, 108, 101, 116, 32] ++ name.data.toList ++ [32, 48, 32] ++ t.text ++ [41] := by
  simp [boundT, leafT, Tree.text, textL_cons]

theorem bound_count {name : ByteArray} {t : Tree} (hn : nameB name.data.toList = true) : (boundT name t).cnt name = 0 := by
  have h := occ_cnt name hn _ (boundT name t) [] (Nat.le_refl _)
  simp only [List.any_nil, Bool.false_eq_true, if_false] at h
  rw [← h]
  unfold boundT
  have e : (leafT ⟨#[108, 101, 116]⟩).atom.data.toList = [108, 101, 116] := rfl
  rw [occ_let [] e, List.countP_append]
  have h2 := occ_cnt name hn _ t [name] (Nat.le_refl _)
  rw [show ([name].any fun x => x.toList == name.toList) = true by simp, if_pos rfl] at h2
  have e2 : ([] : List ByteArray) ++ [(leafT name).atom] = [name] := rfl
  rw [e2, h2]
  have h3 : (leafT ⟨#[48]⟩).occ [] = [] := by unfold leafT; rw [occ_leaf]; rfl
  rw [h3]
  rfl

theorem count_bound {s name : ByteArray} {t : Tree} (hp : pexpr s.data.toList = some t) (hn : nameB name.data.toList = true) (b : ByteArray) (hb : b.data.toList = [40, 108, 101, 116, 32] ++ name.data.toList ++ [32, 48, 32] ++ s.data.toList ++ [41])
    (hv : (pexpr b.data.toList).isSome = true) : countOf b name = 0 := by
  obtain ⟨hg, -, -, he, hz, hd⟩ := pexpr_facts hp
  have hst : s.data.toList = t.text := ((parse_iff _ _).1 (pexpr_some.1 hp).1).1
  have hbt : b.data.toList = (boundT name t).text := by rw [hb, boundT_text, hst]
  have hbg := boundT_good hn hg
  unfold countOf
  rw [if_pos hn]
  cases hq : pexpr b.data.toList with
  | none => rw [hq] at hv; cases hv
  | some u =>
    have h1 := (pexpr_some.1 hq).1
    rw [hbt] at h1
    have hf : (boundT name t).fits = true := by rw [← parse_isSome hbg, h1]; rfl
    rw [parse_of_fits hbg hf] at h1
    cases h1
    simp [numE, bound_count hn]

theorem count_size {name : ByteArray} {t : Tree} (hn : nameB name.data.toList = true) (he : t.isExpr = true) : t.cnt name ≤ t.size := by
  have h := occ_cnt name hn _ t [] (Nat.le_refl _)
  simp only [List.any_nil, Bool.false_eq_true, if_false] at h
  have h1 := ren_bound [] t.sz t [] [] [] 0 (Nat.le_refl _) he
  have h2 : pot [] 0 = 0 := rfl
  have h3 : (t.occ []).countP (isN name) ≤ (t.occ []).length := List.countP_le_length
  have h4 := size_pos t
  omega

theorem count_has {name : ByteArray} {t : Tree} (hn : nameB name.data.toList = true) : hasS ((t.occ []).foldl addS []) name = decide (0 < t.cnt name) := by
  have h := occ_cnt name hn _ t [] (Nat.le_refl _)
  simp only [List.any_nil, Bool.false_eq_true, if_false] at h
  rw [← h, Bool.eq_iff_iff, hasS_iff, mem_foldAdd, decide_eq_true_eq, List.countP_pos_iff]
  constructor
  · rintro (h | h)
    · simp at h
    · exact ⟨name, h, by simp [isN]⟩
  · rintro ⟨x, hx, e⟩
    have : x = name := by have e2 : (x.toList == name.toList) = true := e; simpa [toList_inj] using e2
    rw [← this]; exact .inr hx
end Go.Proofs.Ytoihkjnfklogpaa
