/- A type made of a sign and two types: of the program and of the reference. -/
import Derived.Test.YtcobcmgmleblkaaSides
import Derived.Test.YtcobcmgmleblkaaTypeP
import Derived.Test.YtcobcmgmleblkaaReplF
namespace Go.Proofs.Ytcobcmgmleblkaa
open Go.RowKit

theorem RepC.pairs {w : World} {A : Nat → Prop} {b : Nat} : ∀ (ps : List Tree) (off : Nat), RepC w A ps b off →
    ∃ xs, Pairs w A ps xs ∧ xs.length = ps.length * 2 ∧ (∀ j u, xs[j]? = some u → w.cell? ⟨b, off + j, none⟩ = some u) ∧ ∀ u ∈ xs, u.oneCell' = true
  | [], _, _ => ⟨[], trivial, rfl, fun _ _ h => by simp at h, fun _ h => by simp at h⟩
  | p :: ps, off, h => by
    obtain ⟨o, n, c, hx, hy, hr, hps⟩ := h.uncons
    obtain ⟨xs, h1, h2, h3, h4⟩ := RepC.pairs ps (off + 2) hps
    refine ⟨.string p.atom :: .slice o n c :: xs, ⟨hr, h1⟩, by simp [h2]; omega, ?_, ?_⟩
    · intro j u hj
      match j, hj with
      | 0, hj => simp at hj; subst hj; simpa using hx
      | 1, hj => simp at hj; subst hj; exact hy
      | j + 2, hj =>
        have := h3 j u (by simpa using hj)
        rw [show off + (j + 2) = off + 2 + j from by omega]; exact this
    · intro u hu
      simp only [List.mem_cons] at hu
      rcases hu with rfl | rfl | hu
      · rfl
      · rfl
      · exact h4 u hu

theorem Pairs.append {w : World} {A : Nat → Prop} {qs : List Tree} {ys : List Value} (hq : Pairs w A qs ys) : ∀ (ps : List Tree) (xs : List Value), Pairs w A ps xs → Pairs w A (ps ++ qs) (xs ++ ys)
  | [], [], _ => hq
  | [], _ :: _, hp => by simp [Pairs] at hp
  | _ :: _, [], hp => by simp [Pairs] at hp
  | _ :: _, [_], hp => by simp [Pairs] at hp
  | _ :: ps, _ :: _ :: xs, hp => ⟨hp.1, Pairs.append hq ps xs hp.2⟩

/-- Several parts are appended at once. -/
theorem wpList_append_trees {P : Program} {ops : Array Oper} {rest : List Oper} {o : Oper} {a : Act} {Q : Exit → Act → World → Prop} {w : World} (hgd : o.guard = none) (s x0 : Operand) (t : TypeId)
    (ho : o.op = .call { callee := .builtin .append, args := #[s, x0], argTypes := #[t, t] })
    (base : Nat) (C : Nat → Prop) (e : TypeId) (i : TypeInfo) (z : Value) (bytes : Nat) (ht : P.underlying t = some (.slice e)) (hi : P.info? e = some i) (hz : i.zero = some z)
    (hsize : i.size = 2) (hby : i.bytes = bytes) (hzs : z.cells.size = 2) (hb64 : bytes ≤ 64) (v : Value) (hs : a.eval s = v) (ps : List Tree) (hrow : URow w base C e v ps) (b off m c : Nat) (hx0 : a.eval x0 = .slice (some ⟨b, off, none⟩) m c) (qs : List Tree) (hm : m = qs.length)
    {A : Nat → Prop} (hq : RepC w A qs b off) (hqn : qs ≠ [])
    (hA : ∀ b, A b → (C b ∨ base ≤ b) ∧ b < w.heap.size ∧ v.ownBlock ≠ some b) (hn : ps.length + qs.length ≤ 1000000000) (hbase : base ≤ w.heap.size)
    (h : ∀ g cap w', URow w' base C e (.slice (some ⟨g, 0, none⟩) (ps.length + m) cap) (ps ++ qs) → Below base w w' → wpList P ops Q rest (a.put o.dst (.slice (some ⟨g, 0, none⟩) (ps.length + m) cap)) w') : wpList P ops Q (o :: rest) a w := by
  subst hm
  obtain ⟨xs, h1, h2⟩ := hrow
  obtain ⟨news, n1, n2, n3, n4⟩ := RepC.pairs qs off hq
  have hadd : ∀ j, (⟨b, off, none⟩ : Addr).add j = ⟨b, off + j, none⟩ := by intro j; unfold Addr.add; split <;> simp_all
  obtain ⟨g, cap, w', hr, k1, k2, k3⟩ := run_append_own2 (P := P) w base t o.type e i z 2 bytes ht hi hz hsize hby hzs (by decide) v ps.length xs h1 ⟨b, off, none⟩ qs.length c news n2
    (by intro j u hj; rw [hadd]; exact n3 j u hj) n4 (by have := List.length_pos_iff.2 hqn; omega) (by simp only [maxLen]; omega)
    (by have := Nat.mul_le_mul (show ps.length + qs.length ≤ 1000000001 by omega) hb64; omega) hbase
  have hlt : ∀ b, v.ownBlock = some b → base ≤ b ∧ b < w.heap.size := h1.lt
  have hne : ∀ b, (C b ∨ base ≤ b) ∧ b < w.heap.size ∧ v.ownBlock ≠ some b → (C b ∨ base ≤ b) ∧ b < w'.heap.size ∧ Value.ownBlock (.slice (some ⟨g, 0, none⟩) (ps.length + qs.length) cap) ≠ some b := by
    intro b hb
    refine ⟨hb.1, Nat.lt_of_lt_of_le hb.2.1 k2.size, ?_⟩
    simp only [Value.ownBlock, ne_eq, Option.some.injEq]
    intro hgb
    subst hgb
    rcases k3 with k3 | k3
    · exact hb.2.2 k3
    · omega
  have hkeep : Keeps (fun b => (C b ∨ base ≤ b) ∧ b < w.heap.size ∧ v.ownBlock ≠ some b) w w' := keeps_of_blocks fun b hb => k2.block b hb.2.1 (fun e => hb.2.2 e.symm)
  have hrow' : URow w' base C e (.slice (some ⟨g, 0, none⟩) (ps.length + qs.length) cap) (ps ++ qs) :=
    ⟨xs ++ news, by simpa using k1, Pairs.append (Pairs.keep hkeep hne _ _ (Pairs.keep (fun _ _ _ _ h => h) hA _ _ n1)) _ _ (Pairs.keep hkeep hne _ _ h2)⟩
  have hbel : Below base w w' := (Below.refl base w).grown k2 hbase (fun k hk => (hlt k hk).1)
  refine wpList_plain hgd fun K hK => ?_
  unfold Oper.wp execOp
  simp only [ho, resolve, invoke, builtin, Sem.run_bind, Sem.run_pure, Result.andThen_ok, List.map_toArray, List.map_cons, List.map_nil, hs, hx0, hr]
  exact hK _ _ (h g cap w' hrow' hbel)

theorem repS_two {w : World} {A : Nat → Prop} {b : Nat} {x0 x1 y0 y1 : Value} {ty : TypeId} {x y : Tree} (h : w.heap[b]? = some (.cells #[x0, x1, y0, y1] ty (0, 0))) (hA : A b) (hx : Rep w A x (.agg #[x0, x1])) (hy : Rep w A y (.agg #[y0, y1])) : RepS w A [x, y] (some ⟨b, 0, none⟩) 2 := by
  have c : ∀ j v, (#[x0, x1, y0, y1] : Array Value)[j]? = some v → w.cell? ⟨b, j, none⟩ = some v := fun j v hv => by simp only [World.cell?, h]; exact hv
  simp only [RepS, RepC]
  exact ⟨b, 0, rfl, rfl, hA, ⟨x0, x1, c 0 _ rfl, c 1 _ rfl, hx⟩, ⟨y0, y1, c 2 _ rfl, c 3 _ rfl, hy⟩, trivial⟩

theorem atomF_any (s : ByteArray) (w : World) : Calls Try.prog 65 #[.string s] w fun e w' => e = .returned (.agg #[.string s, .slice none 0 0]) ∧ Below w.heap.size w w' := by
  go_enter Try.func65, Try.ntmps65
  go_wp2
  exact bodyPost_ret (v := .agg #[.string s, .slice none 0 0]) (by simp [results, Try.results65, go_sem]) rfl ⟨rfl, by repeat' (first | exact Below.refl _ _ | refine Below.setCell ?_ (by simp <;> omega) _ | refine Below.alloc ?_ (by simp <;> omega) _)⟩

set_option maxRecDepth 100000 in
set_option maxHeartbeats 1600000 in
theorem headed_any (s : ByteArray) (qs : List Tree) (A : Nat → Prop) (o : Option Addr) (c : Nat) (w : World) (hs : RepS w A qs o qs.length) (hqn : qs ≠ []) (hql : qs.length ≤ 100000000) (hA : ∀ b, A b → b < w.heap.size) :
    Calls Try.prog 64 #[.string s, .slice o qs.length c] w (PutR A (.node ⟨#[]⟩ (.node s [] :: qs)) w) := by
  have hbo : ∃ b off, o = some ⟨b, off, none⟩ ∧ A b ∧ RepC w A qs b off := by
    cases qs with
    | nil => exact absurd rfl hqn
    | cons q qs => obtain ⟨b, off, h1, h2, h3⟩ := hs.uncons; exact ⟨b, off, h1, h2, h3⟩
  obtain ⟨b, off, rfl, hAb, hc⟩ := hbo
  obtain ⟨i0, hi, hz0, hz1, hz2⟩ := info_parts info50
  have HC := Lib.hid hc
  have HA := Lib.hid hA
  have bel0 : Below w.heap.size w (w.alloc (.cells #[.string ⟨#[]⟩, .slice none 0 0] 38)) := (Below.refl _ _).alloc (Nat.le_refl _) _
  clear hs hc hA
  go_enter Try.func64, Try.ntmps64
  go_wp2_with fail
  refine (atomF_any s _).mono ?_
  rintro e w1 ⟨rfl, hb1⟩
  have hx := box_at hb1
  have hz := hb1.size
  simp only [World.size_alloc] at hz
  have hw1 : Below w.heap.size w w1 := bel0.trans (hb1.mono (by simp))
  have hlit : URow (w1.alloc (.cells #[.string s, .slice none 0 0] 38)) w1.heap.size A 38 (.slice (some ⟨w1.heap.size, 0, none⟩) 1 1) [.node s []] := by
    refine ⟨[.string s, .slice none 0 0], ?_, ⟨Rep.leaf _ _ _, trivial⟩⟩
    exact World.ownsRow_lit (base := w1.heap.size) (e := 38) (size := 2) w1 #[.string s, .slice none 0 0] 1 (Nat.le_refl _) (by simp [maxLen]) rfl
  have HL := Lib.hid hlit
  have hcq : RepC (w1.alloc (.cells #[.string s, .slice none 0 0] 38)) A qs b off := RepC.keep ((Keeps.below hw1).alloc' _) hAb _ _ HC.out
  have HCQ := Lib.hid hcq
  have hX := Lib.hid hx
  have hAA : ∀ b', A b' → (A b' ∨ w1.heap.size ≤ b') ∧ b' < (w1.alloc (.cells #[.string s, .slice none 0 0] 38)).heap.size ∧ (Value.slice (some ⟨w1.heap.size, 0, none⟩) 1 1).ownBlock ≠ some b' := fun b' hb' => ⟨.inl hb', by have := HA.out b' hb'; simp; omega, by have := HA.out b' hb'; simp [Value.ownBlock]; omega⟩
  have HAA := Lib.hid hAA
  clear hlit hcq hx hb1 hAA
  go_wp2_with (at_builtin; refine wpList_append_trees rfl (.tmp 7) (.tmp 8) 36 rfl w1.heap.size A 38 i0 _ 40 Try.underlying36 hi hz0 hz1 hz2 rfl (by decide) (.slice (some ⟨w1.heap.size, 0, none⟩) 1 1) rfl [.node s []] HL.out b off qs.length c rfl qs rfl HCQ.out hqn HAA.out (by simp; omega) (by simp) ?_; intro g' cap w2 HU hb2; have hx2 := (hb2.block w.heap.size (by omega)).trans ((Below.heap_alloc w1 (.cells #[.string s, .slice none 0 0] 38) _ (by omega)).trans hX.out); obtain ⟨d0, d1⟩ := box_cells hx2; have f0 := Lib.frozen_of_heap hx2 0; have f1 := Lib.frozen_of_heap hx2 1; have hlw : w.heap.size < w2.heap.size := (Array.getElem?_eq_some_iff.1 hx2).1; have HUU := Lib.hid HU; clear HU hx2)
  have hln : 1 + qs.length = ([.node s []] ++ qs : List Tree).length := by simp; omega
  exact bodyPost_ret (v := .agg #[.string ⟨#[]⟩, .slice (some ⟨g', 0, none⟩) (1 + qs.length) cap]) (by simp [results, Try.results64, go_sem, d0, d1]) rfl ⟨⟨#[]⟩, some ⟨g', 0, none⟩, 1 + qs.length, cap, rfl, by
    refine Rep.weak (fun b hb => ?_) _ _ (Rep.keep (((Keeps.refl _ _).setCell (fun b hb => ?_) _).setCell (fun b hb => ?_) _) _ _ (HUU.out.rep ⟨#[]⟩))
    · rcases hb with hb | hb
      · exact .inl hb
      · right; omega
    · rcases hb with hb | hb
      · have := HA.out b hb; simp; omega
      · simp; omega
    · rcases hb with hb | hb
      · have := HA.out b hb; simp; omega
      · simp; omega, (((hw1.alloc hw1.size _).trans (hb2.mono (by omega))).setCell (by simp) _).setCell (by simp) _⟩
end Go.Proofs.Ytcobcmgmleblkaa
