/-
  LebTurns: there and back; small sizes have small numbers: the law's walk. Condition: none.
-/
import Derived.Test.YtbofjboebkfjgaaRows
import Derived.Test.YtbofjboebkfjgaaWords
import Derived.Test.YtbofjboebkfjgaaLebMath
import Derived.Test.YtbofjboebkfjgaaLebTurn
import Derived.Test.YtbofjboebkfjgaaLebAwake
namespace Go.Proofs.Ytbofjboebkfjgaa
open Go.RowKit


theorem turnS_backS (n : Nat) : turnS (backS n) = n := by
  unfold turnS backS
  split <;> split <;> omega
theorem turnS_nat (k : Int) : ∃ m : Nat, turnS k = m ∧ backS m = k ∧ m / 2 = (if 0 ≤ k then k else -(k + 1)).toNat ∧ (m % 2 = 1 ↔ k < 0) := by
  by_cases h : 0 ≤ k
  · refine ⟨(2 * k).toNat, ?_, ?_, ?_, ?_⟩
    · rw [turnS, if_pos h]; omega
    · rw [backS, if_pos (by omega)]; omega
    · rw [if_pos h]; omega
    · omega
  · refine ⟨(-2 * k - 1).toNat, ?_, ?_, ?_, ?_⟩
    · rw [turnS, if_neg h]; omega
    · rw [backS, if_neg (by omega)]; omega
    · rw [if_neg h]; omega
    · omega
theorem backS_bd (n : Nat) (hn : n < U64) : -9223372036854775808 ≤ backS n ∧ backS n ≤ 9223372036854775807 := by
  unfold backS U64 at *
  split <;> omega

set_option maxRecDepth 100000 in
set_option maxHeartbeats 800000 in
theorem lebTurns_walk (n : Nat) (k : Int) (w : World) (hn : n < U64) (h1 : -9223372036854775808 ≤ k) (h2 : k ≤ 9223372036854775807) :
    Calls Try.prog 5 #[.int .u64 (n : Int), .int .i64 k] w fun e w' => e = .returned (.bool true) ∧ Below w.heap.size w w' := by
  obtain ⟨m, e1, e2, e3, e4⟩ := turnS_nat k
  have hm : m < U64 := by unfold U64; split at e3 <;> omega
  have hT : ∀ w, Hid (Calls Try.prog 20 #[.int .i64 k] w fun e w' => e = .returned (.int .u64 (m : Int)) ∧ w = w') := fun w => by rw [← e1]; exact hide (turn_any k w h1 h2)
  have hB : ∀ w, Hid (Calls Try.prog 22 #[.int .u64 (m : Int)] w fun e w' => e = .returned (.int .i64 k) ∧ w = w') := fun w => by have := back_any m w hm; rw [e2] at this; exact hide this
  obtain ⟨b, hb⟩ : ∃ b, backS n = b := ⟨_, rfl⟩
  have hbn : turnS b = n := by rw [← hb]; exact turnS_backS n
  have hbd := backS_bd n hn
  rw [hb] at hbd
  have hTb : ∀ w, Hid (Calls Try.prog 20 #[.int .i64 b] w fun e w' => e = .returned (.int .u64 (n : Int)) ∧ w = w') := fun w => by rw [← hbn]; exact hide (turn_any b w hbd.1 hbd.2)
  have hBn : ∀ w, Hid (Calls Try.prog 22 #[.int .u64 (n : Int)] w fun e w' => e = .returned (.int .i64 b) ∧ w = w') := fun w => by rw [← hb]; exact hide (back_any n w hn)
  clear hb hbn hbd e1 e2 hn
  by_cases hk : 0 ≤ k
  · rw [if_pos hk] at e3
    have hq : ((m : Int) / 2 == k) = true := by simp; omega
    have hr : ((m : Int) % 2 == 1) = false := by simp; omega
    have hkd : decide (k < 0) = false := by simp; omega
    have hw : IntKind.u64.wrap ((m : Int) / 2) = (m : Int) / 2 := by unfold U64 at hm; rw [IntKind.wrap_u64]; omega
    clear e3 e4 hm
    go_enter Try.func5, Try.ntmps5
    go_wp2_with (go_at_call 24; refine (awake_any w).mono ?_; rintro e w1 ⟨rfl, hb1⟩)
    have hbb := hide hb1
    clear hb1
    go_wp2_with (go_at_call 22; refine (unhide (hBn w1)).mono ?_; rintro e w3 ⟨rfl, rfl⟩)
    go_wp2_with (first
      | (go_at_call 20; (with_reducible refine (unhide (hTb w1)).mono ?_); rintro e w3 ⟨rfl, rfl⟩)
      | (go_at_call 20; (with_reducible refine (unhide (hT w1)).mono ?_); rintro e w3 ⟨rfl, rfl⟩)
      | (go_at_call 22; refine (unhide (hB w1)).mono ?_; rintro e w3 ⟨rfl, rfl⟩))
    go_ret
    exact ⟨rfl, unhide hbb⟩
  · rw [if_neg hk] at e3
    have hq : ((m : Int) / 2 == -(k + 1)) = true := by simp; omega
    have hr : ((m : Int) % 2 == 1) = true := by simp; omega
    have hkd : decide (k < 0) = true := by simp; omega
    have hw : IntKind.u64.wrap ((m : Int) / 2) = (m : Int) / 2 := by unfold U64 at hm; rw [IntKind.wrap_u64]; omega
    clear e3 e4 hm
    go_enter Try.func5, Try.ntmps5
    go_wp2_with (go_at_call 24; refine (awake_any w).mono ?_; rintro e w1 ⟨rfl, hb1⟩)
    have hbb := hide hb1
    clear hb1
    go_wp2_with (go_at_call 22; refine (unhide (hBn w1)).mono ?_; rintro e w3 ⟨rfl, rfl⟩)
    go_wp2_with (first
      | (go_at_call 20; (with_reducible refine (unhide (hTb w1)).mono ?_); rintro e w3 ⟨rfl, rfl⟩)
      | (go_at_call 20; (with_reducible refine (unhide (hT w1)).mono ?_); rintro e w3 ⟨rfl, rfl⟩)
      | (go_at_call 22; refine (unhide (hB w1)).mono ?_; rintro e w3 ⟨rfl, rfl⟩))
    go_ret
    exact ⟨rfl, unhide hbb⟩
end Go.Proofs.Ytbofjboebkfjgaa
