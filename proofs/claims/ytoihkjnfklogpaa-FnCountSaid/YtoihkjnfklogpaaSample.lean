/- An expression of a type: the reference's text. -/
import Derived.Test.YtoihkjnfklogpaaQ6
import Derived.Test.YtoihkjnfklogpaaExpr
import Derived.Test.YtoihkjnfklogpaaSExprP
import Derived.Deep.RegionHeld3
namespace Go.Proofs.Ytoihkjnfklogpaa
open Go.RowKit

/-- An expression of a type. -/
def Tree.sample : Tree → Tree
  | .node _ [p, x, y] => if p.atom.data.toList = [42] then .node ⟨#[]⟩ [.node ⟨#[112, 97, 105, 114]⟩ [], x.sample, y.sample] else .node ⟨#[]⟩ [.node ⟨#[102, 117, 110]⟩ [], .node ⟨#[102]⟩ [], .node ⟨#[120]⟩ [], x, y, y.sample]
  | _ => .node ⟨#[48]⟩ []

theorem sample_leaf (a : ByteArray) : (Tree.node a []).sample = .node ⟨#[48]⟩ [] := rfl
theorem sample_three (a : ByteArray) (p x y : Tree) : (Tree.node a [p, x, y]).sample = if p.atom.data.toList = [42] then .node ⟨#[]⟩ [.node ⟨#[112, 97, 105, 114]⟩ [], x.sample, y.sample] else .node ⟨#[]⟩ [.node ⟨#[102, 117, 110]⟩ [], .node ⟨#[102]⟩ [], .node ⟨#[120]⟩ [], x, y, y.sample] := by simp only [Tree.sample]
theorem sampleP_text (x y : Tree) : (Tree.node ⟨#[]⟩ [.node ⟨#[112, 97, 105, 114]⟩ [], x, y]).text = [40, 112, 97, 105, 114, 32] ++ (x.text ++ (32 :: (y.text ++ [41]))) := by simp [Tree.text, textL_cons]
theorem sampleF_text (x y z : Tree) : (Tree.node ⟨#[]⟩ [.node ⟨#[102, 117, 110]⟩ [], .node ⟨#[102]⟩ [], .node ⟨#[120]⟩ [], x, y, z]).text = [40, 102, 117, 110, 32, 102, 32, 120, 32] ++ (x.text ++ (32 :: (y.text ++ (32 :: (z.text ++ [41]))))) := by simp [Tree.text, textL_cons]
theorem sampleP_good {x y : Tree} (hx : x.good = true) (hy : y.good = true) : (Tree.node ⟨#[]⟩ [.node ⟨#[112, 97, 105, 114]⟩ [], x, y]).good = true := by
  simp only [Tree.good, Tree.goodL, hx, hy]; rfl
theorem sampleF_good {x y z : Tree} (hx : x.good = true) (hy : y.good = true) (hz : z.good = true) : (Tree.node ⟨#[]⟩ [.node ⟨#[102, 117, 110]⟩ [], .node ⟨#[102]⟩ [], .node ⟨#[120]⟩ [], x, y, z]).good = true := by
  simp only [Tree.good, Tree.goodL, hx, hy, hz]; rfl

theorem sample_facts (n : Nat) : ∀ t : Tree, t.sz ≤ n → t.good = true → t.isType = true → t.text.length ≤ 12000 → t.sz ≤ 24000 →
    t.sample.good = true ∧ t.sample.text.length ≤ 24020 * t.size ∧ t.sample.sz ≤ 48010 * t.size := by
  induction n with
  | zero => intro t h; cases t; simp [Tree.sz] at h
  | succ n ih =>
    intro t hn hg ht htx hsz
    obtain ⟨a, ps⟩ := t
    rcases isType_cases ht with rfl | ⟨p, x, y, rfl, hx, hy, hp⟩
    · rw [sample_leaf]
      exact ⟨rfl, by rw [text_leaf]; simp [Tree.size], by simp [Tree.sz, Tree.szL, Tree.size]⟩
    · have hx1 := text_part_le (a := a) (ps := [p, x, y]) (p := x) (by simp)
      have hy1 := text_part_le (a := a) (ps := [p, x, y]) (p := y) (by simp)
      simp only [Tree.sz, Tree.szL] at hn hsz
      have hgl := (Tree.good_parts hg).1
      simp only [Tree.goodL, Bool.and_eq_true, and_true] at hgl
      obtain ⟨x1, x2, x3⟩ := ih x (by omega) hgl.2.1 hx (by omega) (by omega)
      obtain ⟨y1, y2, y3⟩ := ih y (by omega) hgl.2.2 hy (by omega) (by omega)
      have hpl := leaf_of_atom hgl.1 (by rcases hp with h | h <;> rw [h] <;> simp)
      have hps : p.size = 1 := by rw [hpl]; simp [Tree.size]
      have h2 : (Tree.node a [p, x, y]).size = 1 + x.size + y.size := by simp [Tree.size, Tree.sizeL, hps]; omega
      rw [sample_three, h2]
      by_cases h42 : p.atom.data.toList = [42]
      · rw [if_pos h42]
        refine ⟨sampleP_good x1 y1, by rw [sampleP_text]; simp; omega, by simp [Tree.sz, Tree.szL]; omega⟩
      · rw [if_neg h42]
        refine ⟨sampleF_good hgl.2.1 hgl.2.2 y1, by rw [sampleF_text]; simp; omega, by simp [Tree.sz, Tree.szL]; omega⟩

set_option maxRecDepth 100000 in
set_option maxHeartbeats 3200000 in
theorem l3Of_any (n : Nat) : ∀ (t : Tree) (A : Nat → Prop) (v : Value) (w : World), t.sz ≤ n → Rep w A t v → t.good = true → t.isType = true → t.size ≤ 16 → t.text.length ≤ 12000 → t.sz ≤ 24000 →
    Calls Try.prog 121 #[v] w fun e w' => e = .returned (.string t.sample.txt) ∧ Below w.heap.size w w' := by
  induction n with
  | zero => intro t A v w h; cases t; simp [Tree.sz] at h
  | succ n ih =>
    intro t A v w hn hr hgood hty hsz htxt hszt
    obtain ⟨s, ps⟩ := t
    simp only [Rep] at hr
    obtain ⟨o, l, c, rfl, hs, hcap⟩ := hr
    obtain rfl := hs.len
    have hge := (Tree.good_parts hgood).2
    rcases isType_cases hty with rfl | ⟨p, x, y, rfl, htx, hty', hp⟩
    · have B0 := boxed0 w (.string s) (.slice o 0 c) 40
      obtain ⟨x0, y0, hB0, hl0⟩ := boxed B0
      have hemp : s.toList.isEmpty = false := by rw [Lib.toList_data]; simpa using hge.1 rfl
      have hemp2 : (s.toList == []) = false := by rw [Lib.toList_data]; simpa using hge.1 rfl
      have HT : Hid (ByteArray.mk #[48] = (Tree.node s []).sample.txt) := by show _ = _; rw [sample_leaf, Tree.txt, text_leaf]; rfl
      clear hge hty ih
      go_enter Try.func121, Try.ntmps121
      go_wp2
      go_ret
      exact ⟨congrArg (fun x => Ending.returned (.string x)) HT.out, hB0⟩
    · have hse : s.toList = [] := by rw [Lib.toList_data]; exact Classical.byContradiction fun h => by have := hge.2 h; simp at this
      have hemp : s.toList.isEmpty = true := by rw [hse]; rfl
      have hemp2 : (s.toList == []) = true := by rw [hse]; rfl
      obtain ⟨b, off, rfl, hA, hc⟩ := hs.uncons
      have hx1 := text_part_le (a := s) (ps := [p, x, y]) (p := x) (by simp)
      have hy1 := text_part_le (a := s) (ps := [p, x, y]) (p := y) (by simp)
      simp only [Tree.sz, Tree.szL] at hn hszt
      have hgl := (Tree.good_parts hgood).1
      simp only [Tree.goodL, Bool.and_eq_true, and_true] at hgl
      have hpl := leaf_of_atom hgl.1 (by rcases hp with h | h <;> rw [h] <;> simp)
      have hps : p.size = 1 := by rw [hpl]; simp [Tree.size]
      have h2 : (Tree.node s [p, x, y]).size = 1 + x.size + y.size := by simp [Tree.size, Tree.sizeL, hps]; omega
      have fx := sample_facts _ x (Nat.le_refl _) hgl.2.1 htx (by omega) (by omega)
      have fy := sample_facts _ y (Nat.le_refl _) hgl.2.2 hty' (by omega) (by omega)
      have HX := Lib.hid (fun v w hr => ih x A v w (by omega) hr hgl.2.1 htx (by omega) (by omega) (by omega))
      have HY := Lib.hid (fun v w hr => ih y A v w (by omega) hr hgl.2.2 hty' (by omega) (by omega) (by omega))
      have HTX := Lib.hid (fun v w hr => l1Text_any _ x A v w (Nat.le_refl _) hr (by omega) (by omega) hgl.2.1)
      have HTY := Lib.hid (fun v w hr => l1Text_any _ y A v w (Nat.le_refl _) hr (by omega) (by omega) hgl.2.2)
      rw [show bts x.text = x.txt from rfl] at HTX
      rw [show bts y.text = y.txt from rfl] at HTY
      have hxs : x.sample.txt.size ≤ 400000 := by rw [Tree.txt, bts_size]; omega
      have hys : y.sample.txt.size ≤ 400000 := by rw [Tree.txt, bts_size]; omega
      have hxt : x.txt.size ≤ 12000 := by rw [Tree.txt, bts_size]; omega
      have hyt : y.txt.size ≤ 12000 := by rw [Tree.txt, bts_size]; omega
      have HTG := Lib.hid (sample_three s p x y)
      clear ih hgl hpl hps hge hse hty htx hty' hgood h2 hsz htxt hx1 hy1 fx fy
      have B0 := boxed0 w (.string s) (.slice (some ⟨b, off, none⟩) 3 c) 40
      obtain ⟨x0, y0, hB0, hl0⟩ := boxed B0
      have HRC : Hid (∀ W, Below w.heap.size w W → RepC W A [p, x, y] b off) := fun W h => RepC.keep (Keeps.below h) hA _ _ hc
      obtain ⟨o0, n0, c0', ca0, cb0, r0⟩ := (HRC.out _ hB0).nth 0 (k := off) rfl rfl
      obtain ⟨o1, n1, c1', ca1, cb1, r1⟩ := (HRC.out _ hB0).nth 1 (p := x) (k := off + 2) rfl rfl
      obtain ⟨o2, n2, c2', ca2, cb2, r2⟩ := (HRC.out _ hB0).nth 2 (p := y) (k := off + 4) rfl rfl
      have hlt : b < w.heap.size + 1 := by have := lt_of_cell ca1; rwa [World.size_alloc] at this
      have HS : Hid (∀ w' : World, Below (w.heap.size + 1) (w.alloc (.cells #[.string s, .slice (some ⟨b, off, none⟩) 3 c] 40)) w' → w'.cell? ⟨w.heap.size, 0, none⟩ = some (.string s) ∧ w'.cell? ⟨w.heap.size, 1, none⟩ = some (.slice (some ⟨b, off, none⟩) 3 c) ∧ w'.cell? ⟨b, off + 2, none⟩ = some (.string x.atom) ∧ w'.cell? ⟨b, off + 2 + 1, none⟩ = some (.slice o1 n1 c1') ∧ w'.cell? ⟨b, off + 4, none⟩ = some (.string y.atom) ∧ w'.cell? ⟨b, off + 4 + 1, none⟩ = some (.slice o2 n2 c2')) :=
        fun w' h => ⟨(boxed h).1, (boxed h).2.1, (h.cell hlt).trans ca1, (h.cell hlt).trans cb1, (h.cell hlt).trans ca2, (h.cell hlt).trans cb2⟩
      have HR1 : Hid (∀ w' : World, Below (w.heap.size + 1) (w.alloc (.cells #[.string s, .slice (some ⟨b, off, none⟩) 3 c] 40)) w' → Rep w' A x (.agg #[.string x.atom, .slice o1 n1 c1'])) := fun w' h => Rep.keep (Keeps.below (by rw [World.size_alloc]; exact h)) _ _ r1
      have HR2 : Hid (∀ w' : World, Below (w.heap.size + 1) (w.alloc (.cells #[.string s, .slice (some ⟨b, off, none⟩) 3 c] 40)) w' → Rep w' A y (.agg #[.string y.atom, .slice o2 n2 c2'])) := fun w' h => Rep.keep (Keeps.below (by rw [World.size_alloc]; exact h)) _ _ r2
      have B0d := B0.drew
      clear r0 r1 r2 hc hs hlt
      by_cases h42 : p.atom.data.toList = [42]
      · have hq : (p.atom.toList == [42]) = true := by rw [Lib.toList_data, h42]; rfl
        have HT : Hid (ByteArray.mk #[40, 112, 97, 105, 114, 32] ++ x.sample.txt ++ ByteArray.mk #[32] ++ y.sample.txt ++ ByteArray.mk #[41] = (Tree.node s [p, x, y]).sample.txt) := by
          refine bts_eq ?_
          rw [HTG.out, if_pos h42, sampleP_text]
          simp only [data_add, Tree.txt, bts_data]
          simp
        generalize x.sample.txt = X at *
        generalize y.sample.txt = Y at *
        generalize (Tree.node s [p, x, y]).sample.txt = RES at *
        clear h42 HTG HTX HTY hp
        have q1 : ¬ 9223372036854775807 < 6 + X.size := by omega
        have q2 : ¬ 9223372036854775807 < 6 + X.size + 1 := by omega
        have q3 : ¬ 9223372036854775807 < 6 + X.size + 1 + Y.size := by omega
        have q4 : ¬ 9223372036854775807 < 6 + X.size + 1 + Y.size + 1 := by omega
        go_enter Try.func121, Try.ntmps121
        go_wp2_with fail
        go_region_held3 (fun w' => w'.cell? ⟨w.heap.size, 0, none⟩ = some (.string s) ∧ w'.cell? ⟨w.heap.size, 1, none⟩ = some (.slice (some ⟨b, off, none⟩) 3 c) ∧ w'.cell? ⟨b, off + 2, none⟩ = some (.string x.atom) ∧ w'.cell? ⟨b, off + 2 + 1, none⟩ = some (.slice o1 n1 c1') ∧ w'.cell? ⟨b, off + 4, none⟩ = some (.string y.atom) ∧ w'.cell? ⟨b, off + 4 + 1, none⟩ = some (.slice o2 n2 c2'))
          (first | exact HS.out _ B0d | exact HS.out _ (by with_reducible assumption))
          (first
            | (go_at_call_of 121 (Tree.atom x); refine (HX.out _ _ ?_).mono ?_; (exact HR1.out _ B0d); rintro e w5 ⟨rfl, hb5⟩; have hBX := Below.next B0d hb5)
            | (go_at_call_of 121 (Tree.atom y); refine (HY.out _ _ ?_).mono ?_; (exact HR2.out _ hBX); rintro e w6 ⟨rfl, hb6⟩; have hBY := Below.next hBX hb6))
        go_wp2
        go_ret
        exact ⟨congrArg (fun x => Ending.returned (.string x)) HT.out, (boxed hBY).2.2.1⟩
      · have hq : (p.atom.toList == [42]) = false := by rw [Lib.toList_data]; simpa using h42
        have HT : Hid (ByteArray.mk #[40, 102, 117, 110, 32, 102, 32, 120, 32] ++ x.txt ++ ByteArray.mk #[32] ++ y.txt ++ ByteArray.mk #[32] ++ y.sample.txt ++ ByteArray.mk #[41] = (Tree.node s [p, x, y]).sample.txt) := by
          refine bts_eq ?_
          rw [HTG.out, if_neg h42, sampleF_text]
          simp only [data_add, Tree.txt, bts_data]
          simp
        generalize y.sample.txt = Y at *
        generalize x.txt = XT at *
        generalize y.txt = YT at *
        generalize (Tree.node s [p, x, y]).sample.txt = RES at *
        clear h42 HTG HX hp
        have q1 : ¬ 9223372036854775807 < 9 + XT.size := by omega
        have q2 : ¬ 9223372036854775807 < 9 + XT.size + 1 := by omega
        have q3 : ¬ 9223372036854775807 < 9 + XT.size + 1 + YT.size := by omega
        have q4 : ¬ 9223372036854775807 < 9 + XT.size + 1 + YT.size + 1 := by omega
        have q5 : ¬ 9223372036854775807 < 9 + XT.size + 1 + YT.size + 1 + Y.size := by omega
        have q6 : ¬ 9223372036854775807 < 9 + XT.size + 1 + YT.size + 1 + Y.size + 1 := by omega
        go_enter Try.func121, Try.ntmps121
        go_wp2_with fail
        go_region_held3 (fun w' => w'.cell? ⟨w.heap.size, 0, none⟩ = some (.string s) ∧ w'.cell? ⟨w.heap.size, 1, none⟩ = some (.slice (some ⟨b, off, none⟩) 3 c) ∧ w'.cell? ⟨b, off + 2, none⟩ = some (.string x.atom) ∧ w'.cell? ⟨b, off + 2 + 1, none⟩ = some (.slice o1 n1 c1') ∧ w'.cell? ⟨b, off + 4, none⟩ = some (.string y.atom) ∧ w'.cell? ⟨b, off + 4 + 1, none⟩ = some (.slice o2 n2 c2'))
          (first | exact HS.out _ B0d | exact HS.out _ (by with_reducible assumption))
          (first
            | (go_at_call_of 30 (Tree.atom x); refine (HTX.out _ _ ?_).mono ?_; (exact HR1.out _ B0d); rintro e w5 ⟨rfl, hb5⟩; have hBX := Below.next B0d hb5)
            | (go_at_call_of 30 (Tree.atom y); refine (HTY.out _ _ ?_).mono ?_; (exact HR2.out _ hBX); rintro e w6 ⟨rfl, hb6⟩; have hBY := Below.next hBX hb6)
            | (go_at_call_of 121 (Tree.atom y); refine (HY.out _ _ ?_).mono ?_; (exact HR2.out _ hBY); rintro e w7 ⟨rfl, hb7⟩; have hBZ := Below.next hBY hb7))
        go_wp2
        go_ret
        exact ⟨congrArg (fun x => Ending.returned (.string x)) HT.out, (boxed hBZ).2.2.1⟩
end Go.Proofs.Ytoihkjnfklogpaa
