/- The contracts of the functions on types, of the program and of the reference. -/
import Derived.Test.YtpamfjbgnpmmoaaGreatDoorForm
namespace Go.Proofs.YtpamfjbgnpmmoaaGreatDoor
open Go.RowKit

set_option maxRecDepth 100000 in
set_option maxHeartbeats 400000 in
theorem head_any (t : Tree) (A : Nat → Prop) (v : Value) (w : World) (hr : Rep w A t v) (hln : t.parts.length ≤ 1000000000) :
    Calls Tryz.prog 33 #[v] w fun e w' => e = .returned (.string t.hd) ∧ Below w.heap.size w w' := by
  obtain ⟨s, ps⟩ := t
  simp only [Rep] at hr
  obtain ⟨o, l, c, rfl, hs, hcap⟩ := hr
  obtain rfl := hs.len
  cases ps with
  | nil =>
    have B0 := boxed0 w (.string s) (.slice o 0 c) 44
    go_enter Tryz.func33, Tryz.ntmps33
    go_wp2_with (go_at_call 50; refine (isAtom_any _ _ _ _ _).mono ?_; rintro e w1 ⟨rfl, hb1⟩)
    go_ret
    exact ⟨rfl, (boxed (B0.next hb1)).2.2.1⟩
  | cons p ps =>
    have B0 := boxed0 w (.string s) (.slice o (p :: ps).length c) 44
    obtain ⟨b, off, rfl, hA, hc⟩ := hs.uncons
    have hlen : (((p :: ps).length : Int) == 0) = false := by simp only [List.length_cons, beq_eq_false_iff_ne, ne_eq]; omega
    have hlp : 0 < (p :: ps).length := by simp
    simp only [Tree.parts] at hln
    generalize (p :: ps).length = l at *
    go_enter Tryz.func33, Tryz.ntmps33
    go_wp2_with fail
    refine (isAtom_any _ _ _ _ _).mono ?_
    rintro e w1 ⟨rfl, hb1⟩
    have B1 := Below.next B0 hb1; obtain ⟨x1, y1, hB1, hl1⟩ := boxed B1; clear hb1
    obtain ⟨o1, n1, c1, hx1, hy1, hr1, -⟩ := (RepC.keep (Keeps.below hB1) hA _ _ hc).uncons
    go_wp2
    go_ret
    exact ⟨rfl, hB1⟩

/-- Has a form just z parts, and this head? -/
def isZ (t : Tree) (h : ByteArray) (z : Int) : Bool := decide ((t.parts.length : Int) = z) && (t.hd.toList == h.toList)

set_option maxRecDepth 100000 in
set_option maxHeartbeats 400000 in
theorem is_any (t : Tree) (A : Nat → Prop) (v : Value) (w : World) (h : ByteArray) (z : Int) (hr : Rep w A t v) (hln : t.parts.length ≤ 1000000000) :
    Calls Tryz.prog 37 #[v, .string h, .int .i64 z] w fun e w' => e = .returned (.bool (isZ t h z)) ∧ Below w.heap.size w w' := by
  have HC := Lib.hid (fun v w hr => head_any t A v w hr hln)
  generalize hhd : t.hd = q at HC
  have hz : isZ t h z = (decide ((t.parts.length : Int) = z) && (q.toList == h.toList)) := by unfold isZ; rw [hhd]
  rw [hz]
  clear hz hhd
  obtain ⟨s, ps⟩ := t
  have hr' := hr
  simp only [Rep] at hr
  obtain ⟨o, l, c, rfl, hs, hcap⟩ := hr
  obtain rfl := hs.len
  simp only [Tree.parts] at hln ⊢
  have B0 := boxed0 w (.string s) (.slice o ps.length c) 44
  by_cases hlz : (ps.length : Int) = z
  · subst hlz
    go_enter Tryz.func37, Tryz.ntmps37
    go_wp2_with fail
    refine (HC.out _ _ (Rep.keep (Keeps.alloc _ _ _) _ _ hr')).mono ?_
    rintro e w1 ⟨rfl, hb1⟩
    have B1 := Below.next B0 hb1; obtain ⟨x1, y1, hB1, hl1⟩ := boxed B1; clear hb1
    go_wp2
    go_ret
    exact ⟨ret_bool (by simp), hB1⟩
  · have hlb : ((ps.length : Int) == z) = false := by simpa using hlz
    go_enter Tryz.func37, Tryz.ntmps37
    go_wp2
    go_ret
    exact ⟨ret_bool (by simp [hlz]), (boxed B0).2.2.1⟩

theorem isZ_len {t : Tree} {h : ByteArray} {z : Int} (hl : (t.parts.length : Int) ≠ z) : isZ t h z = false := by unfold isZ; simp [hl]

theorem isZ_three (a : ByteArray) (p x y : Tree) (h : ByteArray) : isZ (.node a [p, x, y]) h 3 = decide (p.atom.data.toList = h.data.toList) := by
  unfold isZ Tree.hd Tree.parts
  rw [Lib.toList_data, Lib.toList_data, Bool.eq_iff_iff]; simp

theorem isType_len {a : ByteArray} {ps : List Tree} (h0 : ps.length ≠ 0) (h3 : ps.length ≠ 3) : (Tree.node a ps).isType = false := by
  match ps, h0, h3 with
  | [], h0, _ => simp at h0
  | [_], _, _ => simp [Tree.isType]
  | [_, _], _, _ => simp [Tree.isType]
  | [_, _, _], _, h3 => simp at h3
  | _ :: _ :: _ :: _ :: _, _, _ => simp [Tree.isType]

end Go.Proofs.YtpamfjbgnpmmoaaGreatDoor
