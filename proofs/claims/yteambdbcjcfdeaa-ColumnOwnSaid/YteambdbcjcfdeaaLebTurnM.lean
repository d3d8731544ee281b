/-
  Turned numbers there and back: plain maths.
-/
import Derived.Test.YteambdbcjcfdeaaLebMath
namespace Go.Proofs.Yteambdbcjcfdeaa

theorem turnS_backS (n : Nat) : turnS (backS n) = n := by
  unfold turnS backS
  split <;> split <;> omega
theorem turnS_nat (k : Int) : ∃ m : Nat, turnS k = m ∧ backS m = k ∧ m / 2 = (if 0 ≤ k then k else -(k + 1)).toNat ∧ (m % 2 = 1 ↔ k < 0) := by
  by_cases h : 0 ≤ k
  · refine ⟨(2 * k).toNat, ?_, ?_, ?_, ?_⟩
    · rw [turnS, if_pos h]; omega
    · rw [backS, if_pos (by omega)]; omega
    · rw [if_pos h]; omega
    · omega
  · refine ⟨(-2 * k - 1).toNat, ?_, ?_, ?_, ?_⟩
    · rw [turnS, if_neg h]; omega
    · rw [backS, if_neg (by omega)]; omega
    · rw [if_neg h]; omega
    · omega
theorem backS_bd (n : Nat) (hn : n < U64) : -9223372036854775808 ≤ backS n ∧ backS n ≤ 9223372036854775807 := by
  unfold backS U64 at *
  split <;> omega
end Go.Proofs.Yteambdbcjcfdeaa
