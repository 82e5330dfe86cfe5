/- Programs of one block: of the program. -/
import Derived.Test.YtpamfjbgnpmmoaaGreatDoorBlkI
namespace Go.Proofs.YtpamfjbgnpmmoaaGreatDoor
open Go.RowKit

set_option maxRecDepth 100000 in
set_option maxHeartbeats 800000 in
theorem blockValid_any (L : ByteArray) (rs cs : List ByteArray) (o o2 : Option Addr) (n c n2 c2 : Nat) (w : World) (hr : Strs w o n rs) (hc : Strs w o2 n2 cs) (hL : L.size ≤ 4) (h1 : rs.length ≤ 10) (h2 : cs.length ≤ 10) (hz1 : ∀ s ∈ rs, s.size ≤ 300) (hz2 : ∀ s ∈ cs, s.size ≤ 300) :
    Calls Tryz.prog 5 #[.agg #[.string L, .slice o n c, .slice o2 n2 c2]] w fun e w' => e = .returned (.bool (blockB L rs cs)) ∧ Below w.heap.size w w' := by
  have HB : Hid (Below w.heap.size w (w.alloc (.cells #[.string L, .slice o n c, .slice o2 n2 c2] 25))) := (Below.refl _ _).alloc (Nat.le_refl _) _
  have HC := Lib.hid (readBlock_any L rs cs o o2 n c n2 c2 _ (hr.keep HB.out) (hc.keep HB.out) hL h1 h2 hz1 hz2)
  generalize blockB L rs cs = B at *
  clear hr hc hz1 hz2
  go_enter Tryz.func5, Tryz.ntmps5
  go_wp2_with fail
  refine HC.out.mono ?_
  rintro e w2 ⟨a, o3, n3, c3, v4, rfl, ⟨o4, n4, c4, rfl⟩, -, hb⟩
  have HB2 := Lib.hid (HB.out.trans (hb.mono HB.out.size))
  clear hb
  go_wp2
  go_ret
  exact ⟨rfl, HB2.out.alloc HB2.out.size _⟩

set_option maxRecDepth 100000 in
set_option maxHeartbeats 400000 in
theorem indexNil_any (f : Value) (w : World) : Calls Tryz.prog 57 #[.slice none 0 0, f] w fun e w' => e = .returned (.int .i64 (-1)) ∧ Below w.heap.size w w' := by
  go_enter Tryz.func57, Tryz.ntmps57
  go_wp2
  go_loopw [8] (fun iv wr => iv = .int .i64 0 ∧ Below w.heap.size w wr) (fun _ _ => 0)
  case atStart => exact ⟨rfl, Below.refl _ _⟩
  case round =>
    obtain ⟨rfl, hb⟩ := hrel
    go_wp2
    go_ret
    exact ⟨rfl, hb⟩

set_option maxRecDepth 100000 in
set_option maxHeartbeats 400000 in
theorem findNil_any (s : ByteArray) (w : World) : Calls Tryz.prog 39 #[.slice none 0 0, .string s] w fun e w' => e = .returned (.int .i64 (-1)) ∧ Below w.heap.size w w' := by
  have HI := Lib.hid (fun f V => indexNil_any f V)
  have HB : Hid (Below w.heap.size w (w.alloc (.cells #[.string s] 9))) := (Below.refl _ _).alloc (Nat.le_refl _) _
  go_enter Tryz.func39, Tryz.ntmps39
  go_wp2_with fail
  refine (HI.out _ _).mono ?_
  rintro e w2 ⟨rfl, hb⟩
  go_wp2
  go_ret
  exact ⟨rfl, HB.out.trans (hb.mono HB.out.size)⟩

theorem belowOfNone {w w' : World} (h : w.grownBy w' (Value.slice none 0 0).ownBlock) : Below w.heap.size w w' := ⟨h.os, h.tape, h.output, h.size, fun k hk => h.block k hk (by simp [Value.ownBlock])⟩
theorem infoBlk : (Tryz.prog.info? 39).map (fun i => (i.zero, i.size, i.bytes)) = some (some (.agg #[.string ⟨#[]⟩, .slice none 0 0, .slice none 0 0]), 3, 64) := by kernel_rfl

theorem wpList_append_blk {ops : Array Oper} {rest : List Oper} {o : Oper} {a : Act} {Q : Exit → Act → World → Prop} {W : World} (hgd : o.guard = none) (s x0 : Operand)
    (ho : o.op = .call { callee := .builtin .append, args := #[s, x0], argTypes := #[49, 49] })
    (hs : a.eval s = .slice none 0 0) (b c ty : Nat) (hx0 : a.eval x0 = .slice (some ⟨b, 0, none⟩) 1 c) (hb : b = W.heap.size) (x y z : Value) (hx1 : x.oneCell' = true) (hy1 : y.oneCell' = true) (hz1 : z.oneCell' = true)
    (h : ∀ g cap w', w'.cell? ⟨g, 0, none⟩ = some x → w'.cell? ⟨g, 1, none⟩ = some y → Below W.heap.size W w' → wpList Tryz.prog ops Q rest (a.put o.dst (.slice (some ⟨g, 0, none⟩) 1 cap)) w') : wpList Tryz.prog ops Q (o :: rest) a (W.alloc (.cells #[x, y, z] ty)) := by
  subst hb
  obtain ⟨i0, hi, hz0, hz1', hz2⟩ := info_parts infoBlk
  have hnew := heap_alloc_new W (.cells #[x, y, z] ty)
  obtain ⟨c0, c1, c2⟩ := cells3 hnew
  obtain ⟨v', w', hr, h1, h2, -, -⟩ := run_append_own_at (P := Tryz.prog) (W.alloc (.cells #[x, y, z] ty)) W.heap.size 49 o.type 39 i0 _ 3 64 Tryz.underlying49 hi hz0 hz1' hz2 rfl (by decide) (.slice none 0 0) 0 [] (World.ownsRow_nil _ _ _ _) ⟨W.heap.size, 0, none⟩ 1 c [x, y, z] rfl
    (by
      intro j u hj
      rw [Addr.add_lit]
      match j, hj with
      | 0, hj => simp at hj; subst hj; exact c0
      | 1, hj => simp at hj; subst hj; exact c1
      | 2, hj => simp at hj; subst hj; exact c2
      | (j + 3), hj => simp at hj)
    (by intro u hu; simp at hu; rcases hu with rfl | rfl | rfl <;> assumption) (by decide) (by decide) (by simp)
  have hbel : Below W.heap.size W w' := ((Below.refl _ _).alloc (Nat.le_refl _) _).trans ((belowOfNone h2).mono (by simp))
  rcases h1.2 with ⟨-, hn⟩ | ⟨g, cap, cur, hv, -⟩
  · simp at hn
  · have hcl := World.ownsRow.cells h1 (g := g) (by rw [hv]; rfl)
    have e0 := hcl 0 x rfl
    have e1 := hcl 1 y rfl
    rw [Addr.add_lit] at e0 e1
    subst hv
    refine wpList_plain hgd fun K hK => ?_
    unfold Oper.wp execOp
    simp only [ho, resolve, invoke, builtin, Sem.run_bind, Sem.run_pure, Result.andThen_ok, List.map_toArray, List.map_cons, List.map_nil, hs, hx0, hr]
    exact hK _ _ (h g cap w' e0 e1 hbel)

set_option maxRecDepth 100000 in
set_option maxHeartbeats 1600000 in
theorem readProgram_one (cs : List ByteArray) (o o2 : Option Addr) (c n2 c2 pb pc : Nat) (w : World) (hc : Strs w o2 n2 cs) (h2 : cs.length ≤ 10) (hz2 : ∀ s ∈ cs, s.size ≤ 300) (hok : BlockOk ⟨#[109, 97, 105, 110]⟩ [] cs)
    (p0 : w.cell? ⟨pb, 0, none⟩ = some (.string ⟨#[109, 97, 105, 110]⟩)) (p1 : w.cell? ⟨pb, 1, none⟩ = some (.slice o 0 c)) (p2 : w.cell? ⟨pb, 2, none⟩ = some (.slice o2 n2 c2)) :
    Calls Tryz.prog 22 #[.slice (some ⟨pb, 0, none⟩) 1 pc] w fun e w' => (∃ v, e = .returned (.tuple #[v, .bool true])) ∧ Below w.heap.size w w' := by
  have HIN := Lib.hid (fun V => within_any 1 1 40 V)
  rw [show inB 1 1 40 = true from by decide] at HIN
  have HFN := Lib.hid (fun s V => findNil_any s V)
  have HP : Hid (∀ V, Below w.heap.size w V → V.cell? ⟨pb, 0, none⟩ = some (.string ⟨#[109, 97, 105, 110]⟩) ∧ V.cell? ⟨pb, 1, none⟩ = some (.slice o 0 c) ∧ V.cell? ⟨pb, 2, none⟩ = some (.slice o2 n2 c2)) := fun V hb => ⟨(hb.cell (lt_of_cell p0)).trans p0, (hb.cell (lt_of_cell p1)).trans p1, (hb.cell (lt_of_cell p2)).trans p2⟩
  have HRB : Hid (∀ V, Below w.heap.size w V → Calls Tryz.prog 13 #[.agg #[.string ⟨#[109, 97, 105, 110]⟩, .slice o 0 c, .slice o2 n2 c2]] V fun e w' => ∃ o3 c3 o4 n4 c4, e = .returned (.tuple #[.agg #[.string ⟨#[109, 97, 105, 110]⟩, .slice o3 0 c3, .slice o4 n4 c4], .bool true]) ∧ Below V.heap.size V w') := fun V hb => by
    refine (readBlock_any ⟨#[109, 97, 105, 110]⟩ [] cs o o2 0 c n2 c2 V (Strs.nil _ _) (hc.keep hb) (by decide) (by simp) h2 (by simp) hz2).mono ?_
    rintro e w' ⟨a, o3, n3, c3, v4, rfl, ⟨o4, n4, c4, rfl⟩, h, hb⟩
    have hB := blockB_true hok
    obtain ⟨rfl, rfl⟩ := h hB
    exact ⟨o3, c3, o4, n4, c4, by rw [hB], hb⟩
  clear hc hz2 hok p0 p1 p2
  go_enter Tryz.func22, Tryz.ntmps22
  go_wp2_with fail
  refine (HIN.out _).mono ?_
  rintro e w1 ⟨rfl, rfl⟩
  go_wp2_with fail
  go_loopw [15, 4] (fun iv ov wr => Hid (Below w.heap.size w wr) ∧ ((iv = .int .i64 0 ∧ ov = .slice none 0 0) ∨ (iv = .int .i64 1 ∧ ∃ g cap o3 c3, ov = .slice (some ⟨g, 0, none⟩) 1 cap ∧ wr.cell? ⟨g, 0, none⟩ = some (.string ⟨#[109, 97, 105, 110]⟩) ∧ wr.cell? ⟨g, 1, none⟩ = some (.slice o3 0 c3)))) (fun iv _ _ => 1 - (intOf iv).toNat)
  case atStart => exact ⟨Below.refl _ _, .inl ⟨rfl, rfl⟩⟩
  case round =>
    obtain ⟨HB, ⟨rfl, rfl⟩ | ⟨rfl, g, cap, o3, c3, rfl, g0, g1⟩⟩ := hrel
    · obtain ⟨p0, p1, p2⟩ := HP.out _ HB.out
      have HB1 : Hid (Below w.heap.size w (wr.alloc (.cells #[.string ⟨#[109, 97, 105, 110]⟩, .slice o 0 c, .slice o2 n2 c2] 25))) := HB.out.alloc HB.out.size _
      go_wp2_with fail
      refine (HRB.out _ HB1.out).mono ?_
      rintro e w2 ⟨o3, c3, o4, n4, c4, rfl, hb2⟩
      have HB2 : Hid (Below w.heap.size w (w2.alloc (.cells #[.string ⟨#[109, 97, 105, 110]⟩, .slice o3 0 c3, .slice o4 n4 c4] 39))) := by
        have h := HB1.out.trans (hb2.mono HB1.out.size)
        exact h.alloc h.size _
      have hnew := cells3 (heap_alloc_new w2 (.cells #[.string ⟨#[109, 97, 105, 110]⟩, .slice o3 0 c3, .slice o4 n4 c4] 39))
      have HNW := Lib.hid hnew
      clear hb2 hnew p0 p1 p2
      go_wp2_with fail
      refine (HFN.out _ _).mono ?_
      rintro e w3 ⟨rfl, hb3⟩
      have HB3 := Lib.hid (HB2.out.trans (hb3.mono HB2.out.size))
      obtain ⟨n0, n1, n2'⟩ := HNW.out
      have m0 := (hb3.cell (lt_of_cell n0)).trans n0
      have m1 := (hb3.cell (lt_of_cell n1)).trans n1
      have m2 := (hb3.cell (lt_of_cell n2')).trans n2'
      clear n0 n1 n2' hb3
      go_wp2_with (at_builtin; refine wpList_append_blk rfl (.tmp 33) (.tmp 35) rfl rfl _ _ _ rfl rfl _ _ _ rfl rfl rfl ?_; intro g cap w4 k0 k1 hb4; have HB4 := Lib.hid (HB3.out.trans (hb4.mono HB3.out.size)); clear hb4)
      go_wp2
      go_roundw
      case rel => exact ⟨HB4, .inr ⟨by go_num, g, cap, o3, c3, rfl, k0, k1⟩⟩
      case measure => simp [intOf]
    · go_wp2_with fail
      go_quiet (fail)
      go_wp2
      go_ret2
      exact ⟨⟨_, rfl⟩, below_drewN HB.out _⟩

set_option maxRecDepth 100000 in
set_option maxHeartbeats 400000 in
theorem programValid_one (cs : List ByteArray) (o o2 : Option Addr) (c n2 c2 pb pc : Nat) (w : World) (hc : Strs w o2 n2 cs) (h2 : cs.length ≤ 10) (hz2 : ∀ s ∈ cs, s.size ≤ 300) (hok : BlockOk ⟨#[109, 97, 105, 110]⟩ [] cs)
    (p0 : w.cell? ⟨pb, 0, none⟩ = some (.string ⟨#[109, 97, 105, 110]⟩)) (p1 : w.cell? ⟨pb, 1, none⟩ = some (.slice o 0 c)) (p2 : w.cell? ⟨pb, 2, none⟩ = some (.slice o2 n2 c2)) :
    Calls Tryz.prog 8 #[.slice (some ⟨pb, 0, none⟩) 1 pc] w fun e w' => e = .returned (.bool true) ∧ Below w.heap.size w w' := by
  have HC := Lib.hid (readProgram_one cs o o2 c n2 c2 pb pc w hc h2 hz2 hok p0 p1 p2)
  clear hc hz2 hok p0 p1 p2
  go_enter Tryz.func8, Tryz.ntmps8
  go_wp2_with fail
  refine HC.out.mono ?_
  rintro e w2 ⟨⟨v, rfl⟩, hb⟩
  go_wp2
  go_ret
  exact ⟨rfl, hb⟩
end Go.Proofs.YtpamfjbgnpmmoaaGreatDoor
