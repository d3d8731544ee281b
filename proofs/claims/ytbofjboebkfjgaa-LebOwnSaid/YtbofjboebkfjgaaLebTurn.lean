/-
  leb.Turn, leb.Back, their answers by the document, and same: the walks over the Go text.
-/
import Derived.Test.YtbofjboebkfjgaaRows
import Derived.Test.YtbofjboebkfjgaaWords
import Derived.Test.YtbofjboebkfjgaaLebMath
namespace Go.Proofs.Ytbofjboebkfjgaa
open Go.RowKit


theorem ret_i {k : IntKind} {a b : Int} (h : a = b) : Ending.returned (.int k a) = .returned (.int k b) := by rw [h]
theorem turn_any (k : Int) (w : World) (h1 : -9223372036854775808 ≤ k) (h2 : k ≤ 9223372036854775807) :
    Calls Try.prog 20 #[.int .i64 k] w fun e w' => e = .returned (.int .u64 (turnS k)) ∧ w = w' := by
  have HV := Lib.hid (turn_val k h1 h2)
  clear h1 h2
  go_enter Try.func20, Try.ntmps20
  go_wp2
  go_ret
  exact ⟨ret_i HV.out, rfl⟩
theorem refTurn_any (k : Int) (w : World) (h1 : -9223372036854775808 ≤ k) (h2 : k ≤ 9223372036854775807) :
    Calls Try.prog 21 #[.int .i64 k] w fun e w' => e = .returned (.int .u64 (turnS k)) ∧ w = w' := by
  by_cases h : 0 ≤ k
  · have HV := Lib.hid (turnS_pos h)
    go_enter Try.func21, Try.ntmps21
    go_wp2
    go_ret
    exact ⟨ret_i HV.out, rfl⟩
  · have HV := Lib.hid (turnS_neg h)
    go_enter Try.func21, Try.ntmps21
    go_wp2
    go_ret
    exact ⟨ret_i HV.out, rfl⟩
theorem back_any (n : Nat) (w : World) (hn : n < U64) :
    Calls Try.prog 22 #[.int .u64 (n : Int)] w fun e w' => e = .returned (.int .i64 (backS n)) ∧ w = w' := by
  have HV := Lib.hid (back_val n hn)
  clear hn
  go_enter Try.func22, Try.ntmps22
  go_wp2
  go_ret
  exact ⟨ret_i HV.out, rfl⟩
theorem refBack_any (n : Nat) (w : World) (hn : n < U64) :
    Calls Try.prog 23 #[.int .u64 (n : Int)] w fun e w' => e = .returned (.int .i64 (backS n)) ∧ w = w' := by
  by_cases h : n % 2 = 0
  · have HV := Lib.hid (refBack_even n hn h)
    have ht : ((n : Int) % 2 == 0) = true := by simp; omega
    clear hn h
    go_enter Try.func23, Try.ntmps23
    go_wp2
    go_ret
    exact ⟨ret_i HV.out, rfl⟩
  · have HV := Lib.hid (refBack_odd n hn (by omega))
    have ht : ((n : Int) % 2 == 0) = false := by simp; omega
    clear hn h
    go_enter Try.func23, Try.ntmps23
    go_wp2
    go_ret
    exact ⟨ret_i HV.out, rfl⟩
set_option maxRecDepth 100000 in
theorem same_any (A B : Option Addr) (n c m d : Nat) (xs ys : List UInt8) (w : World) (K : Nat) (hx : Reads w K 1 A n (xs.map bv)) (hy : Reads w K 1 B m (ys.map bv)) :
    Calls Try.prog 18 #[.slice A n c, .slice B m d] w fun e w' => e = .returned (.bool (xs == ys)) ∧ w = w' := by
  have r1 := run_string_of (P := Try.prog) hx c 22 9 5 Try.underlying22 Try.underlying5 Try.underlying9
  have r2 := run_string_of (P := Try.prog) hy d 22 9 5 Try.underlying22 Try.underlying5 Try.underlying9
  clear hx hy
  go_enter Try.func18, Try.ntmps18
  go_wp2_with fail
  go_ret
  exact ⟨rfl, rfl⟩
end Go.Proofs.Ytbofjboebkfjgaa
