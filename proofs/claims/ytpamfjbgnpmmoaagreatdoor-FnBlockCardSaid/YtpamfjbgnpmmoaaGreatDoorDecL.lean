/- A number in decimals, in plain Lean. -/
import Derived.Test.YtpamfjbgnpmmoaaGreatDoorPlainT
namespace Go.Proofs.YtpamfjbgnpmmoaaGreatDoor

/-- A number in decimals. -/
def decL (n : Nat) : List UInt8 := if n < 10 then [UInt8.ofNat (48 + n)] else decL (n / 10) ++ [UInt8.ofNat (48 + n % 10)]
termination_by n
decreasing_by omega

theorem decL_val (n : Nat) : digV (decL n) = n := by
  induction n using Nat.strongRecOn with
  | _ n ih =>
    rw [decL]
    split
    · rename_i h
      simp only [digV, List.foldl_cons, List.foldl_nil, UInt8.toNat_ofNat']
      omega
    · rename_i h
      rw [digV_snoc, ih (n / 10) (by omega), UInt8.toNat_ofNat']
      omega
theorem decL_inj {n m : Nat} (h : decL n = decL m) : n = m := by rw [← decL_val n, ← decL_val m, h]
theorem decL_digs (n : Nat) : (decL n).all digB = true := by
  induction n using Nat.strongRecOn with
  | _ n ih =>
    have hd : ∀ k, k < 10 → digB (UInt8.ofNat (48 + k)) = true := fun k hk => by
      unfold digB
      simp only [Bool.and_eq_true, decide_eq_true_eq, UInt8.le_iff_toNat_le, UInt8.toNat_ofNat']
      exact ⟨by show 48 ≤ _; omega, by show _ ≤ 57; omega⟩
    rw [decL]
    split
    · rename_i h; simpa using hd n h
    · rename_i h
      rw [List.all_append, ih (n / 10) (by omega)]
      simpa using hd (n % 10) (by omega)
theorem decL_len (n : Nat) : (decL n).length ≤ n + 1 := by
  induction n using Nat.strongRecOn with
  | _ n ih =>
    rw [decL]
    split
    · simp
    · have := ih (n / 10) (by omega); simp; omega

end Go.Proofs.YtpamfjbgnpmmoaaGreatDoor
