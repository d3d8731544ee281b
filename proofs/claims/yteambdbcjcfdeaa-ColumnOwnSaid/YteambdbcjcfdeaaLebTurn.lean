/-
  leb.Turn, leb.Back, their answers by the document, and same: the walks over the Go text.
-/
import Derived.Test.YteambdbcjcfdeaaRows
import Derived.Test.YteambdbcjcfdeaaWords
import Derived.Test.YteambdbcjcfdeaaLebMath
namespace Go.Proofs.Yteambdbcjcfdeaa
open Go.RowKit


theorem ret_i {k : IntKind} {a b : Int} (h : a = b) : Ending.returned (.int k a) = .returned (.int k b) := by rw [h]
theorem turn_any (k : Int) (w : World) (h1 : -9223372036854775808 ≤ k) (h2 : k ≤ 9223372036854775807) :
    Calls Try.prog 40 #[.int .i64 k] w fun e w' => e = .returned (.int .u64 (turnS k)) ∧ w = w' := by
  have HV := Lib.hid (turn_val k h1 h2)
  clear h1 h2
  go_enter Try.func40, Try.ntmps40
  go_wp2
  go_ret
  exact ⟨ret_i HV.out, rfl⟩
theorem refTurn_any (k : Int) (w : World) (h1 : -9223372036854775808 ≤ k) (h2 : k ≤ 9223372036854775807) :
    Calls Try.prog 74 #[.int .i64 k] w fun e w' => e = .returned (.int .u64 (turnS k)) ∧ w = w' := by
  by_cases h : 0 ≤ k
  · have HV := Lib.hid (turnS_pos h)
    go_enter Try.func74, Try.ntmps74
    go_wp2
    go_ret
    exact ⟨ret_i HV.out, rfl⟩
  · have HV := Lib.hid (turnS_neg h)
    go_enter Try.func74, Try.ntmps74
    go_wp2
    go_ret
    exact ⟨ret_i HV.out, rfl⟩
theorem back_any (n : Nat) (w : World) (hn : n < U64) :
    Calls Try.prog 82 #[.int .u64 (n : Int)] w fun e w' => e = .returned (.int .i64 (backS n)) ∧ w = w' := by
  have HV := Lib.hid (back_val n hn)
  clear hn
  go_enter Try.func82, Try.ntmps82
  go_wp2
  go_ret
  exact ⟨ret_i HV.out, rfl⟩
theorem refBack_any (n : Nat) (w : World) (hn : n < U64) :
    Calls Try.prog 72 #[.int .u64 (n : Int)] w fun e w' => e = .returned (.int .i64 (backS n)) ∧ w = w' := by
  by_cases h : n % 2 = 0
  · have HV := Lib.hid (refBack_even n hn h)
    have ht : ((n : Int) % 2 == 0) = true := by simp; omega
    clear hn h
    go_enter Try.func72, Try.ntmps72
    go_wp2
    go_ret
    exact ⟨ret_i HV.out, rfl⟩
  · have HV := Lib.hid (refBack_odd n hn (by omega))
    have ht : ((n : Int) % 2 == 0) = false := by simp; omega
    clear hn h
    go_enter Try.func72, Try.ntmps72
    go_wp2
    go_ret
    exact ⟨ret_i HV.out, rfl⟩
end Go.Proofs.Yteambdbcjcfdeaa
