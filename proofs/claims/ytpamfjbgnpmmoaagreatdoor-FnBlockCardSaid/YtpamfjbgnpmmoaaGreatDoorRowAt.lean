/- Rows of texts: one text is appended, and where the row lies behind it. -/
import Derived.Test.YtpamfjbgnpmmoaaGreatDoorStrs
import Derived.Deep.Upon
import Derived.Maps.AppendAt
import Derived.Deep.RegionHeld3
namespace Go.Proofs.YtpamfjbgnpmmoaaGreatDoor
open Go.RowKit

theorem Strs.grown {w w' : World} {o : Option Addr} {n : Nat} {l : List ByteArray} {r : Option Nat} (h : Strs w o n l) (hg : w.grownBy w' r) (hne : ∀ a, o = some a → some a.block ≠ r) : Strs w' o n l := by
  obtain ⟨hn, h | ⟨b, off, ho, hc⟩⟩ := h
  · exact ⟨hn, .inl h⟩
  · exact ⟨hn, .inr ⟨b, off, ho, fun i s hi => hg.cell (hc i s hi) (show some b ≠ r from hne _ ho)⟩⟩

theorem SRow.addr {w : World} {base n c : Nat} {o : Option Addr} {l : List ByteArray} (h : SRow w base (.slice o n c) l) : ∀ a, o = some a → base ≤ a.block ∧ a.block < w.heap.size := fun a ha => by
  subst ha; exact h.lt a.block rfl

theorem cells_of_strs {w : World} {b off m : Nat} {qs : List ByteArray} (h : Strs w (some ⟨b, off, none⟩) m qs) : ∀ j u, (qs.map Value.string)[j]? = some u → w.cell? ((⟨b, off, none⟩ : Addr).add j) = some u := by
  intro j u hj
  have hadd : ∀ j, (⟨b, off, none⟩ : Addr).add j = ⟨b, off + j, none⟩ := by intro j; unfold Addr.add; split <;> simp_all
  rw [hadd]
  rw [List.getElem?_map] at hj
  cases hq : qs[j]? with
  | none => rw [hq] at hj; cases hj
  | some s =>
    rw [hq] at hj
    have hj' : Value.string s = u := by simpa using hj
    subst hj'
    have hl : j < m := by rw [h.1]; exact (List.getElem?_eq_some_iff.1 hq).1
    obtain ⟨b', off', s', ho, hs', hc⟩ := h.at hl
    simp only [Option.some.injEq, Addr.mk.injEq] at ho
    obtain ⟨rfl, rfl, -⟩ := ho
    rw [hq] at hs'
    obtain rfl := Option.some.inj hs'
    exact hc

/-- Several texts are appended to a row: and where the row lies behind it. -/
theorem run_append_strs_at (w : World) (base ty : Nat) (v : Value) (l : List ByteArray) (o : Option Addr) (m c : Nat) (qs : List ByteArray) (hrow : SRow w base v l) (hq : Strs w o m qs) (hn : l.length + qs.length ≤ 1000000000) (hbase : base ≤ w.heap.size) :
    ∃ v' w', (Builtin.append_ #[23, 23] ty #[v, .slice o m c]).run Tryz.prog w = .ok v' w' ∧ SRow w' base v' (l ++ qs) ∧ w.grownBy w' v.ownBlock ∧ (v'.ownBlock = v.ownBlock ∨ v'.ownBlock = some w.heap.size) := by
  obtain ⟨i0, hi, hz0, hz1, hz2⟩ := info_parts infoStr
  have hm := hq.1
  cases o with
  | none =>
    have hqs : qs = [] := by
      rcases hq.2 with h | ⟨_, _, h, _⟩
      · exact h
      · cases h
    subst hqs
    have hm0 : m = 0 := hm
    subst hm0
    obtain ⟨vo, vc, rfl, -⟩ := hrow.forms
    have hcap : l.length ≤ vc := by
      rcases hrow.2 with ⟨h, -⟩ | ⟨g, cap, cur, h, -, -, hnc, -⟩
      · simp only [Value.slice.injEq] at h; omega
      · simp only [Value.slice.injEq] at h; omega
    have hr := run_append_nothing (P := Tryz.prog) w 23 23 ty 9 i0 Tryz.underlying23 hi vo l.length vc hcap (.slice none 0 c) (Src.ofNil w (size := i0.size) Tryz.underlying23 c)
    exact ⟨_, w, hr, by simpa using hrow, ⟨rfl, rfl, rfl, Nat.le_refl _, fun _ _ _ => rfl⟩, .inl rfl⟩
  | some a =>
    obtain ⟨b, off, p⟩ := a
    have hp : m = 0 ∨ p = none := by
      rcases hq.2 with h | ⟨_, _, h, _⟩
      · left; rw [hm, h]; rfl
      · simp only [Option.some.injEq, Addr.mk.injEq] at h; exact .inr h.2.2
    have hcells : ∀ j u, (qs.map Value.string)[j]? = some u → w.cell? ((⟨b, off, p⟩ : Addr).add j) = some u := by
      rcases hp with rfl | rfl
      · have hqs : qs = [] := List.length_eq_zero_iff.1 hm.symm
        subst hqs
        intro j u hj; simp at hj
      · exact cells_of_strs hq
    obtain ⟨v', w', hr, h2, h3, -, h4⟩ := run_append_own_at (P := Tryz.prog) w base 23 ty 9 i0 _ 1 16 Tryz.underlying23 hi hz0 hz1 hz2 rfl (by decide) v l.length (l.map Value.string) hrow ⟨b, off, p⟩ m c (qs.map Value.string) (by simp [hm]) hcells
      (by intro u hu; simp only [List.mem_map] at hu; obtain ⟨_, _, rfl⟩ := hu; rfl) (by simp only [maxLen]; omega) (by omega) hbase
    exact ⟨v', w', hr, by unfold SRow; simpa [hm] using h2, h3, h4⟩


theorem step_append_at {ops : Array Oper} {o : Oper} {a : Act} {K : Act → World → Prop} {Q : Exit → Act → World → Prop} {E : Prop} {w : World} (hgd : o.guard = none) (s x0 : Operand)
    (ho : o.op = .call { callee := .builtin .append, args := #[s, x0], argTypes := #[23, 23] })
    (base : Nat) (v : Value) (hs : a.eval s = v) (l : List ByteArray) (oa : Option Addr) (m c : Nat) (hx0 : a.eval x0 = .slice oa m c) (qs : List ByteArray) (N : Nat) (hN : l.length + qs.length = N)
    (hrow : SRow w base v l) (hq : Strs w oa m qs) (hn : N ≤ 1000000000) (hbase : base ≤ w.heap.size)
    (h : ∀ o' c' w', SRow w' base (.slice o' N c') (l ++ qs) → w.grownBy w' v.ownBlock → ((Value.slice o' N c').ownBlock = v.ownBlock ∨ (Value.slice o' N c').ownBlock = some w.heap.size) → K (a.put o.dst (.slice o' N c')) w') : if Region.wanted o (yielded ops a.tmps) = true then Oper.wp Tryz.prog o a w K Q else E := by
  subst hN
  have hw : Region.wanted o (yielded ops a.tmps) = true := by simp [Region.wanted, hgd]
  rw [if_pos hw]
  obtain ⟨v', w', hr, h1, h2, h3⟩ := run_append_strs_at w base o.type v l oa m c qs hrow hq hn hbase
  obtain ⟨o', c', rfl, -⟩ := h1.forms
  rw [List.length_append] at hr h1 h3
  unfold Oper.wp execOp
  simp only [ho, resolve, invoke, builtin, Sem.run_bind, Sem.run_pure, Result.andThen_ok, List.map_toArray, List.map_cons, List.map_nil, hs, hx0, hr]
  exact h o' c' w' h1 h2 h3

theorem wpList_append_at {ops : Array Oper} {rest : List Oper} {o : Oper} {a : Act} {Q : Exit → Act → World → Prop} {w : World} (hgd : o.guard = none) (s x0 : Operand)
    (ho : o.op = .call { callee := .builtin .append, args := #[s, x0], argTypes := #[23, 23] })
    (base : Nat) (v : Value) (hs : a.eval s = v) (l : List ByteArray) (oa : Option Addr) (m c : Nat) (hx0 : a.eval x0 = .slice oa m c) (qs : List ByteArray) (N : Nat) (hN : l.length + qs.length = N)
    (hrow : SRow w base v l) (hq : Strs w oa m qs) (hn : N ≤ 1000000000) (hbase : base ≤ w.heap.size)
    (h : ∀ o' c' w', SRow w' base (.slice o' N c') (l ++ qs) → w.grownBy w' v.ownBlock → ((Value.slice o' N c').ownBlock = v.ownBlock ∨ (Value.slice o' N c').ownBlock = some w.heap.size) → wpList Tryz.prog ops Q rest (a.put o.dst (.slice o' N c')) w') : wpList Tryz.prog ops Q (o :: rest) a w := by
  subst hN
  obtain ⟨v', w', hr, h1, h2, h3⟩ := run_append_strs_at w base o.type v l oa m c qs hrow hq hn hbase
  obtain ⟨o', c', rfl, -⟩ := h1.forms
  rw [List.length_append] at hr h1 h3
  refine wpList_plain hgd fun K hK => ?_
  unfold Oper.wp execOp
  simp only [ho, resolve, invoke, builtin, Sem.run_bind, Sem.run_pure, Result.andThen_ok, List.map_toArray, List.map_cons, List.map_nil, hs, hx0, hr]
  exact hK _ _ (h o' c' w' h1 h2 h3)

end Go.Proofs.YtpamfjbgnpmmoaaGreatDoor
