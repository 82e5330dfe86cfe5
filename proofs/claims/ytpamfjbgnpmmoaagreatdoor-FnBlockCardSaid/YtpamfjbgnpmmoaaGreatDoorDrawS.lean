/- The world within a drawing. -/
import Derived.Test.YtpamfjbgnpmmoaaGreatDoorDrawF
import Derived.Test.YtpamfjbgnpmmoaaGreatDoorDec
namespace Go.Proofs.YtpamfjbgnpmmoaaGreatDoor
open Go.RowKit

/-- The world within a drawing: the reader has been asked at most K times behind p, and nothing that was there has turned but the reader. -/
def St (w0 : World) (rb p K : Nat) (W : World) : Prop := ∃ q, Rd W rb q ∧ q ≤ p + K ∧ w0.grownBy W (some rb)
theorem St.start {w0 : World} {rb p : Nat} (h : Rd w0 rb p) : St w0 rb p 0 w0 := ⟨p, h, Nat.le_refl _, grownBy_refl _ _⟩
theorem St.below {w0 W W' : World} {rb p K : Nat} (h : St w0 rb p K W) (hb : Below W.heap.size W W') : St w0 rb p K W' := by
  obtain ⟨q, h1, h2, h3⟩ := h
  exact ⟨q, h1.grown (fun k hk => hb.block k hk), h2, grownBy_trans h3 (grownBy_below hb)⟩
theorem St.alloc {w0 W : World} {rb p K : Nat} (h : St w0 rb p K W) (o : Obj) : St w0 rb p K (W.alloc o) := h.below ((Below.refl _ _).alloc (Nat.le_refl _) o)
theorem St.drew {w0 W : World} {rb p K : Nat} (h : St w0 rb p K W) : St w0 rb p K W.drew := by
  obtain ⟨q, h1, h2, h3⟩ := h
  exact ⟨q, h1, h2, ⟨h3.os, h3.tape, h3.output, h3.size, h3.block⟩⟩
theorem St.more {w0 W : World} {rb p K K' : Nat} (h : St w0 rb p K W) (hk : K ≤ K') : St w0 rb p K' W := by
  obtain ⟨q, h1, h2, h3⟩ := h
  exact ⟨q, h1, by omega, h3⟩
theorem St.rebase {w0 W : World} {rb p K : Nat} (h : St w0 rb p K W) : St W rb (p + K) 0 W := by
  obtain ⟨q, h1, h2, h3⟩ := h
  exact ⟨q, h1, by omega, grownBy_refl _ _⟩
theorem St.join {w0 W V : World} {rb p K K' : Nat} (h : St w0 rb p K W) (k : St W rb (p + K) K' V) : St w0 rb p (K + K') V := by
  obtain ⟨q, h1, h2, h3⟩ := h
  obtain ⟨q', k1, k2, k3⟩ := k
  exact ⟨q', k1, by omega, grownBy_trans h3 k3⟩
theorem St.set {w0 W : World} {rb p K b : Nat} (h : St w0 rb p K W) (hr : rb < w0.heap.size) (hb : w0.heap.size ≤ b) (i : Nat) (v : Value) : St w0 rb p K (W.setCell ⟨b, i, none⟩ v) := by
  obtain ⟨q, ⟨a, len, cap, k1, k2, k3⟩, h2, h3⟩ := h
  have kp : ∀ k, k ≠ b → (W.setCell ⟨b, i, none⟩ v).heap[k]? = W.heap[k]? := fun k hk => Below.heap_setCell _ _ _ _ hk
  refine ⟨q, ⟨a, len, cap, (kp rb (by omega)).trans k1, k2, ?_⟩, h2, ⟨h3.os, h3.tape, h3.output, by simpa [World.setCell] using h3.size, fun k hk hne => (kp k (by omega)).trans (h3.block k hk hne)⟩⟩
  rcases k3 with h | ⟨c, off, ha, hc, hz⟩
  · exact .inl h
  · refine .inr ⟨c, off, ha, hc, fun j hj => ?_⟩
    obtain ⟨z, z1, z2⟩ := hz j hj
    exact ⟨z, z1, (World.cell?_of_block (w := W) (a := ⟨c, off + j, none⟩) (kp c (by omega))).trans z2⟩
theorem St.lt {w0 W : World} {rb p K : Nat} (h : St w0 rb p K W) : rb < W.heap.size := by
  obtain ⟨q, h1, h2, h3⟩ := h
  exact h1.lt
theorem St.grow {w0 W : World} {rb p K : Nat} (h : St w0 rb p K W) : w0.grownBy W (some rb) := by
  obtain ⟨q, h1, h2, h3⟩ := h
  exact h3
theorem St.step {w0 W W' : World} {rb p K q k : Nat} (hd : Rd W' rb q) (hq : q ≤ p + K + k) (h : w0.grownBy W (some rb)) (hg : W.grownBy W' (some rb)) : St w0 rb p (K + k) W' := ⟨q, hd, by omega, grownBy_trans h hg⟩

/-- What a drawing of a text hands back, within one. -/
def TR (w0 : World) (rb p N K : Nat) (e : Ending) (w' : World) : Prop := ∃ s, e = .returned (.string s) ∧ s.size ≤ N ∧ Hid (St w0 rb p K w')

theorem st_text {f : FuncId} {args : Array Value} {w0 W : World} {rb p K N k : Nat} (h : St w0 rb p K W) (hc : ∀ q, Rd W rb q → q ≤ p + K → Calls Tryz.prog f args W (DR N k W rb q)) : Calls Tryz.prog f args W (TR w0 rb p N (K + k)) := by
  obtain ⟨q, h1, h2, h3⟩ := h
  refine (hc q h1 h2).mono ?_
  rintro e w' ⟨s, p', rfl, hs, hrd, hp, hg⟩
  exact ⟨s, rfl, hs, St.step hrd (by omega) h3 hg⟩

theorem st_pick {w0 W : World} {rb p K : Nat} {n : Int} (h : St w0 rb p K W) (hp : p + K ≤ 1000000000) (h1 : 1 ≤ n) (h2 : n ≤ 1000000) :
    Calls Tryz.prog 12 #[.pointer (some ⟨rb, 0, none⟩), .int .i64 n] W fun e w' => ∃ z : Int, e = .returned (.int .i64 z) ∧ 0 ≤ z ∧ z < n ∧ Hid (St w0 rb p (K + 1) w') := by
  obtain ⟨q, k1, k2, k3⟩ := h
  refine (pick_any W rb q n k1 (by omega) h1 h2).mono ?_
  rintro e w' ⟨z, rfl, hz0, hz1, hrd, hg⟩
  exact ⟨z, rfl, hz0, hz1, St.step hrd (by omega) k3 hg⟩

theorem st_of {w0 W : World} {rb p K b n cap : Nat} {P : ByteArray → Prop} (h : St w0 rb p K W) (hp : p + K ≤ 1000000000) (h1 : 1 ≤ n) (h2 : n ≤ 1000000) (hb : b ≠ rb) (hr : TextRow P W b n) :
    Calls Tryz.prog 11 #[.pointer (some ⟨rb, 0, none⟩), .slice (some ⟨b, 0, none⟩) n cap] W fun e w' => ∃ s, e = .returned (.string s) ∧ P s ∧ Hid (St w0 rb p (K + 1) w') := by
  obtain ⟨q, k1, k2, k3⟩ := h
  refine (of_any P W rb q b n cap k1 (by omega) h1 h2 hb hr).mono ?_
  rintro e w' ⟨s, rfl, hs, hrd, hg⟩
  exact ⟨s, rfl, hs, St.step hrd (by omega) k3 hg⟩

theorem size_lit (a : Array UInt8) : (ByteArray.mk a).size = a.size := rfl

end Go.Proofs.YtpamfjbgnpmmoaaGreatDoor
