/- Rows of texts beside one another, and a region that has many orders. -/
import Derived.Test.YtoihkjnfklogpaaFree
import Derived.Maps.AppendAt
import Derived.Deep.RegionHeld3
namespace Go.Proofs.Ytoihkjnfklogpaa
open Go.RowKit

/-- Several texts are appended to a row: and where the row lies behind it. -/
theorem run_append_strs_at (w : World) (base ty : Nat) (v : Value) (l : List ByteArray) (o : Option Addr) (m c : Nat) (qs : List ByteArray) (hrow : SRow w base v l) (hq : Strs w o m qs) (hn : l.length + qs.length ≤ 1000000000) (hbase : base ≤ w.heap.size) :
    ∃ v' w', (Builtin.append_ #[23, 23] ty #[v, .slice o m c]).run Try.prog w = .ok v' w' ∧ SRow w' base v' (l ++ qs) ∧ w.grownBy w' v.ownBlock ∧ (v'.ownBlock = v.ownBlock ∨ v'.ownBlock = some w.heap.size) := by
  obtain ⟨i0, hi, hz0, hz1, hz2⟩ := info_parts infoStr
  have hm := hq.1
  cases o with
  | none =>
    have hqs : qs = [] := by
      rcases hq.2 with h | ⟨_, _, h, _⟩
      · exact h
      · cases h
    subst hqs
    have hm0 : m = 0 := hm
    subst hm0
    obtain ⟨vo, vc, rfl, -⟩ := hrow.forms
    have hcap : l.length ≤ vc := by
      rcases hrow.2 with ⟨h, -⟩ | ⟨g, cap, cur, h, -, -, hnc, -⟩
      · simp only [Value.slice.injEq] at h; omega
      · simp only [Value.slice.injEq] at h; omega
    have hr := run_append_nothing (P := Try.prog) w 23 23 ty 9 i0 Try.underlying23 hi vo l.length vc hcap (.slice none 0 c) (Src.ofNil w (size := i0.size) Try.underlying23 c)
    exact ⟨_, w, hr, by simpa using hrow, World.grownBy.of_below (Below.refl _ _) _, .inl rfl⟩
  | some a =>
    obtain ⟨b, off, p⟩ := a
    have hp : m = 0 ∨ p = none := by
      rcases hq.2 with h | ⟨_, _, h, _⟩
      · left; rw [hm, h]; rfl
      · simp only [Option.some.injEq, Addr.mk.injEq] at h; exact .inr h.2.2
    have hcells : ∀ j u, (qs.map Value.string)[j]? = some u → w.cell? ((⟨b, off, p⟩ : Addr).add j) = some u := by
      rcases hp with rfl | rfl
      · have hqs : qs = [] := List.length_eq_zero_iff.1 hm.symm
        subst hqs
        intro j u hj; simp at hj
      · exact cells_of_strs hq
    obtain ⟨v', w', hr, h2, h3, -, h4⟩ := run_append_own_at (P := Try.prog) w base 23 ty 9 i0 _ 1 16 Try.underlying23 hi hz0 hz1 hz2 rfl (by decide) v l.length (l.map Value.string) hrow ⟨b, off, p⟩ m c (qs.map Value.string) (by simp [hm]) hcells
      (by intro u hu; simp only [List.mem_map] at hu; obtain ⟨_, _, rfl⟩ := hu; rfl) (by simp only [maxLen]; omega) (by omega) hbase
    exact ⟨v', w', hr, by unfold SRow; simpa [hm] using h2, h3, h4⟩


theorem step_append_at {ops : Array Oper} {o : Oper} {a : Act} {K : Act → World → Prop} {Q : Exit → Act → World → Prop} {E : Prop} {w : World} (hgd : o.guard = none) (s x0 : Operand)
    (ho : o.op = .call { callee := .builtin .append, args := #[s, x0], argTypes := #[23, 23] })
    (base : Nat) (v : Value) (hs : a.eval s = v) (l : List ByteArray) (oa : Option Addr) (m c : Nat) (hx0 : a.eval x0 = .slice oa m c) (qs : List ByteArray) (N : Nat) (hN : l.length + qs.length = N)
    (hrow : SRow w base v l) (hq : Strs w oa m qs) (hn : N ≤ 1000000000) (hbase : base ≤ w.heap.size)
    (h : ∀ o' c' w', SRow w' base (.slice o' N c') (l ++ qs) → w.grownBy w' v.ownBlock → ((Value.slice o' N c').ownBlock = v.ownBlock ∨ (Value.slice o' N c').ownBlock = some w.heap.size) → K (a.put o.dst (.slice o' N c')) w') : if Region.wanted o (yielded ops a.tmps) = true then Oper.wp Try.prog o a w K Q else E := by
  subst hN
  have hw : Region.wanted o (yielded ops a.tmps) = true := by simp [Region.wanted, hgd]
  rw [if_pos hw]
  obtain ⟨v', w', hr, h1, h2, h3⟩ := run_append_strs_at w base o.type v l oa m c qs hrow hq hn hbase
  obtain ⟨o', c', rfl, -⟩ := h1.forms
  rw [List.length_append] at hr h1 h3
  unfold Oper.wp execOp
  simp only [ho, resolve, invoke, builtin, Sem.run_bind, Sem.run_pure, Result.andThen_ok, List.map_toArray, List.map_cons, List.map_nil, hs, hx0, hr]
  exact h o' c' w' h1 h2 h3

/-- Rows of the call's own, no two of them in one block. -/
structure Rows (W0 W : World) (R : List (Value × List ByteArray)) : Prop where
  bel : Below W0.heap.size W0 W
  row : ∀ r ∈ R, SRow W W0.heap.size r.1 r.2
  apart : R.Pairwise (fun r s => ∀ k, r.1.ownBlock = some k → s.1.ownBlock ≠ some k)

theorem Rows.start (W : World) : Rows W W.drew [] := ⟨(Below.refl _ _).drew, (fun _ h => by cases h), .nil⟩

theorem Rows.alloc {W0 W : World} {R : List (Value × List ByteArray)} (h : Rows W0 W R) (ob : Obj) {v : Value} {l : List ByteArray} (hv : SRow (W.alloc ob) W0.heap.size v l) (ho : v.ownBlock = some W.heap.size) : Rows W0 (W.alloc ob) ((v, l) :: R) :=
  ⟨h.bel.alloc h.bel.size _, fun r hr => by
    rcases List.mem_cons.1 hr with rfl | hr
    · exact hv
    · exact (h.row r hr).alloc _,
   .cons (fun s hs k hk e => by
    have := ((h.row s hs).lt k e).2
    have e2 : k = W.heap.size := by rw [ho] at hk; exact (Option.some.inj hk).symm
    omega) h.apart⟩

theorem Rows.append {W0 W W' : World} {R : List (Value × List ByteArray)} {v v' : Value} {l l' : List ByteArray} (h : Rows W0 W ((v, l) :: R)) (hg : W.grownBy W' v.ownBlock) (hv : SRow W' W0.heap.size v' l')
    (ho : v'.ownBlock = v.ownBlock ∨ v'.ownBlock = some W.heap.size) : Rows W0 W' ((v', l') :: R) := by
  obtain ⟨hb, hr, ha⟩ := h
  have hv0 := hr (v, l) (List.mem_cons_self ..)
  cases ha with
  | cons ha1 ha2 =>
    refine ⟨hb.grown hg hb.size (fun k hk => (hv0.lt k hk).1), fun r hm => ?_, .cons (fun s hs k hk e => ?_) ha2⟩
    · rcases List.mem_cons.1 hm with rfl | hm
      · exact hv
      · refine (hr r (List.mem_cons_of_mem _ hm)).grown hg ?_
        cases hrb : r.1.ownBlock with
        | none => exact .inl rfl
        | some k => exact .inr fun e => ha1 r hm k e.symm hrb
    · rcases ho with ho | ho
      · exact ha1 s hs k (ho ▸ hk) e
      · rw [ho] at hk
        have := ((hr s (List.mem_cons_of_mem _ hs)).lt k e).2
        have e2 := Option.some.inj hk
        omega

theorem Rows.front {W0 W : World} {A B : List (Value × List ByteArray)} {x : Value × List ByteArray} (h : Rows W0 W (A ++ x :: B)) : Rows W0 W (x :: (A ++ B)) :=
  ⟨h.bel, fun r hr => h.row r (by simp only [List.mem_append, List.mem_cons] at hr ⊢; rcases hr with h | h | h <;> simp [h]), by
    refine (List.Perm.pairwise_iff (fun h k hk e => h k e hk) ?_).1 h.apart
    exact List.perm_middle⟩

theorem Rows.back {W0 W : World} {A B : List (Value × List ByteArray)} {x : Value × List ByteArray} (h : Rows W0 W (x :: (A ++ B))) : Rows W0 W (A ++ x :: B) :=
  ⟨h.bel, fun r hr => h.row r (by simp only [List.mem_append, List.mem_cons] at hr ⊢; rcases hr with h | h | h <;> simp [h]), by
    refine (List.Perm.pairwise_iff (fun h k hk e => h k e hk) ?_).2 h.apart
    exact List.perm_middle⟩

theorem SRow.one (W : World) (x : ByteArray) {base : Nat} (hb : base ≤ W.heap.size) : SRow (W.alloc (.cells #[.string x] 9)) base (.slice (some ⟨W.heap.size, 0, none⟩) 1 1) [x] := SRow.lit W hb [x] (by simp)

theorem Rows.drop {W0 W : World} {A B : List (Value × List ByteArray)} {x : Value × List ByteArray} (h : Rows W0 W (A ++ x :: B)) : Rows W0 W (A ++ B) :=
  ⟨h.bel, fun r hr => h.row r (by simp only [List.mem_append, List.mem_cons] at hr ⊢; rcases hr with h | h <;> simp [h]), h.apart.sublist (by simp)⟩

/-- A region's states by the eight places that its orders part in. -/
theorem anyH_abs8 {P : Program} {md : Region.Mode} {ops : Array Oper} {Q : Exit → Act → World → Prop} {S : World → Prop} {fuel : Nat} {listed : Array Bool} {a : Act} {W : World} (i1 i2 i3 i4 i5 i6 i7 i8 : Nat)
    (ha : ((((((((a.tmps.setIfInBounds i1 undef).setIfInBounds i2 undef).setIfInBounds i3 undef).setIfInBounds i4 undef).setIfInBounds i5 undef).setIfInBounds i6 undef).setIfInBounds i7 undef).setIfInBounds i8 undef) = a.tmps)
    (h : ∀ G : Nat → Array Bool → Value → Value → Value → Value → Value → Value → Value → Value → World → Prop,
      (∀ f l u1 u2 u3 u4 u5 u6 u7 u8 W, wpAnyH P md ops Q S f l { a with tmps := ((((((((a.tmps.setIfInBounds i1 u1).setIfInBounds i2 u2).setIfInBounds i3 u3).setIfInBounds i4 u4).setIfInBounds i5 u5).setIfInBounds i6 u6).setIfInBounds i7 u7).setIfInBounds i8 u8) } W → G f l u1 u2 u3 u4 u5 u6 u7 u8 W) →
      (∀ f l u1 u2 u3 u4 u5 u6 u7 u8 W, G f l u1 u2 u3 u4 u5 u6 u7 u8 W → wpAnyH P md ops Q S f l { a with tmps := ((((((((a.tmps.setIfInBounds i1 u1).setIfInBounds i2 u2).setIfInBounds i3 u3).setIfInBounds i4 u4).setIfInBounds i5 u5).setIfInBounds i6 u6).setIfInBounds i7 u7).setIfInBounds i8 u8) } W) →
      G fuel listed undef undef undef undef undef undef undef undef W) : wpAnyH P md ops Q S fuel listed a W := by
  have := h (fun f l u1 u2 u3 u4 u5 u6 u7 u8 W => wpAnyH P md ops Q S f l { a with tmps := ((((((((a.tmps.setIfInBounds i1 u1).setIfInBounds i2 u2).setIfInBounds i3 u3).setIfInBounds i4 u4).setIfInBounds i5 u5).setIfInBounds i6 u6).setIfInBounds i7 u7).setIfInBounds i8 u8) } W) (fun _ _ _ _ _ _ _ _ _ _ _ h => h) (fun _ _ _ _ _ _ _ _ _ _ _ h => h)
  simpa only [ha] using this
end Go.Proofs.Ytoihkjnfklogpaa
