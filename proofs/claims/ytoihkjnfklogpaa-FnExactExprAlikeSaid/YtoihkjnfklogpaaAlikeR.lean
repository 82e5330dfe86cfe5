/- What is renamed to one is alike; how many names it takes. No program is in sight. -/
import Derived.Test.YtoihkjnfklogpaaAlikeQ
namespace Go.Proofs.Ytoihkjnfklogpaa

/-- The names that have been given. -/
def Given (F : List ByteArray) (to : List ByteArray) (n : Nat) : Prop := ∀ s ∈ to, (∃ k, k < n ∧ s = xn k) ∧ s ∉ F

theorem Given.mono {F to : List ByteArray} {n m : Nat} (h : Given F to n) (hm : n ≤ m) : Given F to m := fun s hs => by
  obtain ⟨⟨k, h1, h2⟩, h3⟩ := h s hs
  exact ⟨⟨k, by omega, h2⟩, h3⟩
theorem Given.snoc {F to : List ByteArray} {n : Nat} (h : Given F to n) : Given F (to ++ [xn (freshK F n)]) (freshK F n + 1) := by
  intro s hs
  rcases List.mem_append.1 hs with hs | hs
  · exact (h.mono (by have := freshK_ge F n; omega)) s hs
  · simp at hs; subst hs; exact ⟨⟨_, Nat.lt_succ_self _, rfl⟩, freshK_not F n⟩
theorem Given.nodup {F to : List ByteArray} {n : Nat} (h : Given F to n) (hd : to.Nodup) : (to ++ [xn (freshK F n)]).Nodup := by
  rw [List.nodup_append]
  refine ⟨hd, by simp, fun a ha b hb => ?_⟩
  simp at hb
  subst hb
  obtain ⟨⟨k, h1, h2⟩, -⟩ := h a ha
  rw [h2]
  intro e
  have := xn_inj e
  have := freshK_ge F n
  omega

theorem numB_x (r : List UInt8) : numB (120 :: r) = false := by
  unfold numB
  have e1 : stripM (120 :: r) = 120 :: r := rfl
  have e2 : digsB (120 :: r) = false := by unfold digsB; simp [digB]
  rw [e1]
  unfold digitsB
  rw [e2]
  simp

theorem bare_x {k : Nat} (h : bareB (xn k).data.toList = true) : nameB (xn k).data.toList = true := by
  unfold bareB at h
  rw [xn_data, numB_x, Bool.or_false] at h
  exact h

theorem alike_leaves {s s' : ByteArray} (a b : List ByteArray) : (Tree.node s []).alike (.node s' []) a b = true ↔ lastZ a s = lastZ b s' ∧ (0 ≤ lastZ a s ∨ s = s') := by
  rw [alike_leaf a b (.inl rfl)]
  simp only [Tree.parts, List.isEmpty_nil, Bool.true_and, Bool.and_eq_true, Bool.or_eq_true, decide_eq_true_eq]
  exact Iff.rfl

theorem renL_alike (F G : List ByteArray) (a b to : List ByteArray) : ∀ (ps qs : List Tree) (n m : Nat),
    (∀ x ∈ ps, ∀ y ∈ qs, ∀ n' m', n ≤ n' → m ≤ m' → (x.ren F a to n').1 = (y.ren G b to m').1 → x.alike y a b = true) → (∀ x ∈ ps, ∀ n, n ≤ (x.ren F a to n).2) → (∀ x ∈ qs, ∀ n, n ≤ (x.ren G b to n).2) →
    (Tree.renL F ps a to n).1 = (Tree.renL G qs b to m).1 → Tree.alikeL a b ps qs = true
  | [], _, _, _, _, _, _, _ => by simp [Tree.alikeL]
  | _ :: _, [], _, _, _, _, _, _ => by simp [Tree.alikeL]
  | p :: ps, q :: qs, n, m, H, h1, h2, h => by
    simp only [Tree.renL, List.cons.injEq] at h
    simp only [Tree.alikeL, Bool.and_eq_true]
    have g1 := h1 p (by simp) n
    have g2 := h2 q (by simp) m
    exact ⟨H p (by simp) q (by simp) n m (Nat.le_refl _) (Nat.le_refl _) h.1,
      renL_alike F G a b to ps qs _ _ (fun x hx y hy n' m' hn hm => H x (by simp [hx]) y (by simp [hy]) n' m' (by omega) (by omega)) (fun x hx => h1 x (by simp [hx])) (fun x hx => h2 x (by simp [hx])) h.2⟩

/-- What is renamed to one expression is alike. -/
theorem ren_alike (F G : List ByteArray) (N : Nat) : ∀ (f g : Tree) (a b to : List ByteArray) (n m : Nat), f.sz ≤ N → f.isExpr = true → g.isExpr = true → a.length = to.length → b.length = to.length → to.Nodup →
    Given F to n → Given G to m → (∀ s ∈ f.occ a, s ∈ F) → (∀ s ∈ g.occ b, s ∈ G) → (∀ x ∈ a, nameB x.data.toList = true) → (∀ x ∈ b, nameB x.data.toList = true) →
    (f.ren F a to n).1 = (g.ren G b to m).1 → f.alike g a b = true := by
  induction N with
  | zero => intro f g a b to n m h; cases f; simp [Tree.sz] at h
  | succ N ih =>
    intro f g a b to n m hN hf hg la lb hnd hF hG oF oG na nb h
    cases shp hf with
    | leaf s hs =>
      rw [ren_leaf' _ _ _ _ _ na] at h
      cases shp hg with
      | leaf s' hs' =>
        rw [ren_leaf' _ _ _ _ _ nb] at h
        have h1 : look a to s = look b to s' := by simpa [leafT] using h
        rw [alike_leaves]
        unfold look at h1
        rcases lastZ_cases a s with ⟨e1, e2⟩ | ⟨k, e1, e2, e3⟩ <;> rcases lastZ_cases b s' with ⟨d1, d2⟩ | ⟨j, d1, d2, d3⟩
        · rw [e1, d1, if_neg (by decide), if_neg (by decide)] at h1
          exact ⟨by omega, .inr h1⟩
        · rw [e1, d1, if_neg (by decide), if_pos (by omega)] at h1
          have hj : j < to.length := by omega
          have h2 : s = to[j] := by simpa [List.getD_eq_getElem?_getD, List.getElem?_eq_getElem hj] using h1
          obtain ⟨⟨q, -, hq⟩, hnF⟩ := hF to[j] (List.getElem_mem hj)
          rw [← h2] at hq hnF
          have hnm : nameB s.data.toList = true := by rw [hq] at hs ⊢; exact bare_x hs
          exact absurd (oF s (by rw [occ_leaf_out e2, if_pos hnm]; simp)) hnF
        · rw [e1, d1, if_pos (by omega), if_neg (by decide)] at h1
          have hj : k < to.length := by omega
          have h2 : s' = to[k] := by simpa [List.getD_eq_getElem?_getD, List.getElem?_eq_getElem hj] using h1.symm
          obtain ⟨⟨q, -, hq⟩, hnF⟩ := hG to[k] (List.getElem_mem hj)
          rw [← h2] at hq hnF
          have hnm : nameB s'.data.toList = true := by rw [hq] at hs' ⊢; exact bare_x hs'
          exact absurd (oG s' (by rw [occ_leaf_out d2, if_pos hnm]; simp)) hnF
        · rw [e1, d1, if_pos (by omega), if_pos (by omega)] at h1
          have hk : k < to.length := by omega
          have hj : j < to.length := by omega
          have h2 : to[k] = to[j] := by simpa [List.getD_eq_getElem?_getD, List.getElem?_eq_getElem hk, List.getElem?_eq_getElem hj] using h1
          have : k = j := (List.getElem_inj hnd).1 h2
          subst this
          exact ⟨by omega, .inl (by omega)⟩
      | op s' p' ps' hk' hl' h1' h2' hq' => rw [ren_op _ _ _ _ _ _ _ hl' h1'] at h; simp [leafT] at h
      | lt s' p' x' e' t' hp' hx' he' ht' => rw [ren_let _ _ _ _ _ _ _ _ _ hp'] at h; simp [leafT] at h
      | fn s' p' y' x' u' v' t' hp' hy' hx' hne' hu' hv' ht' => rw [ren_fun] at h; simp [leafT] at h
    | op s p ps hk hl h1 h2 hq =>
      rw [ren_op _ _ _ _ _ _ _ hl h1] at h
      cases shp hg with
      | leaf s' hs' => rw [ren_leaf' _ _ _ _ _ nb] at h; simp [leafT] at h
      | op s' p' ps' hk' hl' h1' h2' hq' =>
        rw [ren_op _ _ _ _ _ _ _ hl' h1'] at h
        simp only [Tree.node.injEq, List.cons.injEq, true_and] at h
        obtain ⟨e1, e2⟩ := h
        have e3 : ps.length = ps'.length := by have := congrArg List.length e2; rwa [renL_length, renL_length] at this
        rw [alike_op a b hk hl h1 h2 (by rw [e1]) e3]
        rw [occ_op a hk hl h1 h2] at oF
        rw [occ_op b hk' hl' h1' h2'] at oG
        refine renL_alike F G a b to ps ps' n m (fun x hx y hy n' m' hn hm => ih x y a b to n' m' (szsL hN x hx) (hq x hx) (hq' y hy) la lb hnd (hF.mono hn) (hG.mono hm) (fun z hz => oF z ?_) (fun z hz => oG z ?_) na nb)
          (fun x hx n => ren_ge F _ x a to n (Nat.le_refl _) (hq x hx)) (fun x hx n => ren_ge G _ x b to n (Nat.le_refl _) (hq' x hx)) e2
        · exact List.mem_flatten.2 ⟨_, List.mem_map.2 ⟨x, hx, rfl⟩, hz⟩
        · exact List.mem_flatten.2 ⟨_, List.mem_map.2 ⟨y, hy, rfl⟩, hz⟩
      | lt s' p' x' e' t' hp' hx' he' ht' =>
        rw [ren_let _ _ _ _ _ _ _ _ _ hp'] at h
        simp only [Tree.node.injEq, List.cons.injEq, true_and] at h
        exact absurd (by rw [h.1]; exact hp') h1
      | fn s' p' y' x' u' v' t' hp' hy' hx' hne' hu' hv' ht' =>
        rw [ren_fun] at h
        simp only [Tree.node.injEq, List.cons.injEq, true_and] at h
        exact absurd (by rw [h.1]; exact hp') h2
    | lt s p x e t hp hx he ht =>
      rw [ren_let _ _ _ _ _ _ _ _ _ hp] at h
      cases shp hg with
      | leaf s' hs' => rw [ren_leaf' _ _ _ _ _ nb] at h; simp [leafT] at h
      | op s' p' ps' hk' hl' h1' h2' hq' =>
        rw [ren_op _ _ _ _ _ _ _ hl' h1'] at h
        simp only [Tree.node.injEq, List.cons.injEq, true_and] at h
        exact absurd (by rw [← h.1]; exact hp) h1'
      | lt s' p' x' e' t' hp' hx' he' ht' =>
        rw [ren_let _ _ _ _ _ _ _ _ _ hp'] at h
        simp only [Tree.node.injEq, List.cons.injEq, true_and, and_true, leafT] at h
        obtain ⟨-, k1, k2, k3⟩ := h
        rw [alike_let a b hp hp', Bool.and_eq_true]
        rw [occ_let a hp] at oF
        rw [occ_let b hp'] at oG
        obtain ⟨s1, s2⟩ := szs4 hN
        have g1 := freshK_ge F n
        have g2 := freshK_ge G m
        have g3 := ren_ge F _ e a to (freshK F n + 1) (Nat.le_refl _) he
        have g4 := ren_ge G _ e' b to (freshK G m + 1) (Nat.le_refl _) he'
        refine ⟨ih e e' a b to _ _ s1 he he' la lb hnd (hF.mono (by omega)) (hG.mono (by omega)) (fun z hz => oF z (List.mem_append_left _ hz)) (fun z hz => oG z (List.mem_append_left _ hz)) na nb k2, ?_⟩
        have k1' := k1
        rw [← k1'] at k3
        refine ih t t' (a ++ [x.atom]) (b ++ [x'.atom]) (to ++ [xn (freshK F n)]) _ _ s2 ht ht' (by simp [la]) (by simp [lb]) (hF.nodup hnd) (hF.snoc.mono g3) (by rw [k1]; exact hG.snoc.mono g4)
          (fun z hz => oF z (List.mem_append_right _ hz)) (fun z hz => oG z (List.mem_append_right _ hz)) (name_snoc na hx) (name_snoc nb hx') k3
      | fn s' p' y' x' u' v' t' hp' hy' hx' hne' hu' hv' ht' => rw [ren_fun] at h; simp at h
    | fn s p y x u v t hp hy hx hne hu hv ht =>
      rw [ren_fun] at h
      cases shp hg with
      | leaf s' hs' => rw [ren_leaf' _ _ _ _ _ nb] at h; simp [leafT] at h
      | op s' p' ps' hk' hl' h1' h2' hq' =>
        rw [ren_op _ _ _ _ _ _ _ hl' h1'] at h
        simp only [Tree.node.injEq, List.cons.injEq, true_and] at h
        exact absurd (by rw [← h.1]; exact hp) h2'
      | lt s' p' x' e' t' hp' hx' he' ht' => rw [ren_let _ _ _ _ _ _ _ _ _ hp'] at h; simp at h
      | fn s' p' y' x' u' v' t' hp' hy' hx' hne' hu' hv' ht' =>
        rw [ren_fun] at h
        simp only [Tree.node.injEq, List.cons.injEq, true_and, and_true, leafT] at h
        obtain ⟨-, k1, k2, k3, k4, k5⟩ := h
        rw [alike_fun a b hp hp', Bool.and_eq_true, Bool.and_eq_true, eqB_iff, eqB_iff]
        rw [occ_fun a hp] at oF
        rw [occ_fun b hp'] at oG
        refine ⟨⟨k3, k4⟩, ?_⟩
        have q1 := hF.snoc
        have q2 := q1.snoc
        have q3 := hG.snoc
        have q4 := q3.snoc
        have d1 := hF.nodup hnd
        have d2 := q1.nodup d1
        rw [List.append_assoc] at q2 q4 d2
        rw [← k1, ← k2] at k5 q4
        exact ih t t' (a ++ [y.atom, x.atom]) (b ++ [y'.atom, x'.atom]) (to ++ [xn (freshK F n), xn (freshK F (freshK F n + 1))]) _ _ (szs6 hN) ht ht' (by simp [la]) (by simp [lb]) d2 q2 q4 oF oG (name_snoc2 na hy hx) (name_snoc2 nb hy' hx') k5

theorem size_pos : ∀ t : Tree, 1 ≤ t.size
  | .node a [] => by simp [Tree.size]
  | .node a (p :: ps) => by have := size_pos p; simp only [Tree.size, List.isEmpty_cons, Tree.sizeL]; simp; omega

theorem renL_bound (F : List ByteArray) (fr to bound : List ByteArray) : ∀ (ps : List Tree),
    (∀ q ∈ ps, ∀ n, 3 * ((q.ren F fr to n).2 + pot F (q.ren F fr to n).2) + 3 * (q.occ bound).length ≤ 3 * (n + pot F n) + 2 * q.size + 1) →
    ∀ n, 3 * ((Tree.renL F ps fr to n).2 + pot F (Tree.renL F ps fr to n).2) + 3 * ((ps.map fun q => q.occ bound).flatten).length ≤ 3 * (n + pot F n) + 2 * Tree.sizeL ps + ps.length
  | [], _, n => by simp [Tree.renL, Tree.sizeL]
  | p :: ps, h, n => by
    have h1 := h p (by simp) n
    have h2 := renL_bound F fr to bound ps (fun q hq => h q (by simp [hq])) (p.ren F fr to n).2
    simp only [Tree.renL, Tree.sizeL, List.map_cons, List.flatten_cons, List.length_append, List.length_cons]
    omega

/-- How many names it takes. -/
theorem ren_bound (F : List ByteArray) (N : Nat) : ∀ (t : Tree) (fr to bound : List ByteArray) (n : Nat), t.sz ≤ N → t.isExpr = true →
    3 * ((t.ren F fr to n).2 + pot F (t.ren F fr to n).2) + 3 * (t.occ bound).length ≤ 3 * (n + pot F n) + 2 * t.size + 1 := by
  induction N with
  | zero => intro t fr to bound n h; cases t; simp [Tree.sz] at h
  | succ N ih =>
    intro t fr to bound n hN he
    cases shp he with
    | leaf s h =>
      rw [ren_leaf, occ_leaf']
      have : (if (nameB s.data.toList && !memB bound s) = true then [s] else []).length ≤ 1 := by split <;> simp
      simp only [Tree.size, List.isEmpty_nil, if_true]
      omega
    | op s p ps hk hl h1 h2 hq =>
      rw [ren_op _ _ _ _ _ _ _ hl h1, occ_op bound hk hl h1 h2]
      have := renL_bound F fr to bound ps (fun q hm n => ih q fr to bound n (szsL hN q hm) (hq q hm)) n
      have hp := size_pos p
      simp only [Tree.size, List.isEmpty_cons, Tree.sizeL]
      simp only [Bool.false_eq_true, if_false]
      omega
    | lt s p x e b hp hx he' hb =>
      rw [ren_let _ _ _ _ _ _ _ _ _ hp, occ_let bound hp]
      obtain ⟨s1, s2⟩ := szs4 hN
      have h1 := ih e fr to bound (freshK F n + 1) s1 he'
      have h2 := ih b (fr ++ [x.atom]) (to ++ [xn (freshK F n)]) (bound ++ [x.atom]) (e.ren F fr to (freshK F n + 1)).2 s2 hb
      have h3 := freshK_pot F n
      have z1 := size_pos p
      have z2 := size_pos x
      simp only [Tree.size, List.isEmpty_cons, Tree.sizeL, List.length_append]
      simp only [Bool.false_eq_true, if_false]
      omega
    | fn s p f x u v b hp hf hx hne hu hv hb =>
      rw [ren_fun, occ_fun bound hp]
      have h2 := ih b (fr ++ [f.atom, x.atom]) (to ++ [xn (freshK F n), xn (freshK F (freshK F n + 1))]) (bound ++ [f.atom, x.atom]) (freshK F (freshK F n + 1) + 1) (szs6 hN) hb
      have h3 := freshK_pot F n
      have h4 := freshK_pot F (freshK F n + 1)
      have z1 := size_pos p
      have z2 := size_pos x
      have z3 := size_pos f
      have z4 := size_pos u
      have z5 := size_pos v
      simp only [Tree.size, List.isEmpty_cons, Tree.sizeL]
      simp only [Bool.false_eq_true, if_false]
      omega

/-- Texts tell good forms apart. -/
theorem text_inj {t u : Tree} (ht : t.good = true) (hu : u.good = true) (dt : t.depth ≤ 60) (du : u.depth ≤ 60) (h : t.text = u.text) : t = u := by
  have h1 := rd_text t (2 * t.text.length + 2) 0 [] ht (by omega) (by simp) (by simp)
  have h2 := rd_text u (2 * t.text.length + 2) 0 [] hu (by omega) (by rw [h]; simp) (by simp)
  rw [List.append_nil] at h1 h2
  rw [← h, h1] at h2
  simpa using h2
end Go.Proofs.Ytoihkjnfklogpaa
