/- The contracts of the functions on forms, of the program and of the reference. -/
import Derived.Test.YtoihkjnfklogpaaSRead
import Derived.Test.YtoihkjnfklogpaaTree
namespace Go.Proofs.Ytoihkjnfklogpaa
open Go.RowKit



def numOf (f : Tree → Nat) : Option Tree → Int | some t => (f t : Int) | none => -1

set_option maxRecDepth 100000 in
set_option maxHeartbeats 400000 in
theorem formSize_any (s : ByteArray) (w : World) (hs : s.size ≤ 1000000000) :
    Calls Try.prog 20 #[.string s] w fun e w' => e = .returned (.int .i64 (numOf Tree.size (parse s.data.toList))) ∧ Below w.heap.size w w' := by
  cases hp : parse s.data.toList with
  | none =>
    have HP := Lib.hid hp
    clear hp
    go_enter Try.func20, Try.ntmps20
    go_wp2_with fail
    refine (read_any _ _ hs).mono ?_
    rintro e w1 ⟨a, o, l, c, ok, t, rfl, hb1, hr, hok, -⟩
    rw [HP.out] at hok
    have hok' : ok = false := hok
    subst hok'
    clear hok
    go_wp2
    go_ret
    exact ⟨rfl, hb1.alloc hb1.size _⟩
  | some t' =>
    have hsz := parse_sz hp
    have HP := Lib.hid hp
    clear hp
    go_enter Try.func20, Try.ntmps20
    go_wp2_with fail
    refine (read_any _ _ hs).mono ?_
    rintro e w1 ⟨a, o, l, c, ok, t, rfl, hb1, hr, hok, ht⟩
    rw [HP.out] at hok
    have hok' : ok = true := hok
    subst hok'
    obtain rfl := ht _ HP.out
    clear hok ht
    go_wp2_with fail
    refine (size_any _ _ _ _ _ (Nat.le_refl _) (Rep.keep (Keeps.alloc _ _ _) _ _ hr) (by omega)).mono ?_
    rintro e w2 ⟨rfl, hb2⟩
    go_wp2
    go_ret
    exact ⟨rfl, (hb1.alloc hb1.size _).trans (hb2.mono (by have := hb1.size; simp; omega))⟩




end Go.Proofs.Ytoihkjnfklogpaa
