/-
  Forge: the walk. Condition: fewer than 2^47 bytes.
-/
import Derived.Test.YtoipkpndfgcmcaaRows
import Derived.Test.YtoipkpndfgcmcaaWords
import Derived.Test.YtoipkpndfgcmcaaCrcBack
import Derived.Test.YtoipkpndfgcmcaaCrcTake
import Derived.Test.YtoipkpndfgcmcaaCrcConcat
namespace Go.Proofs.Ytoipkpndfgcmcaa
open Go.RowKit
theorem back_val (y : Nat) (h : y < 2147483648) : bits BinOp.or IntKind.u32 ((y : Int) * 2) 1 = ((2 * y + 1 : Nat) : Int) := by
  rw [show (y : Int) * 2 = ((2 * y : Nat) : Int) by omega, show (1 : Int) = ((1 : Nat) : Int) from rfl, u32_or_nat _ 1 (by omega) (by omega)]
  congr 1
  exact nat_join 1 (2 * y) 1 (by omega) (by omega)
theorem back_any (r : Nat) (w : World) (h : r < U32) : Calls Try.prog 46 #[.int .u32 (r : Int)] w fun e w' => e = .returned (.int .u32 (bk r : Nat)) ∧ w = w' := by
  have hr : (r : Int) < 4294967296 := by unfold U32 at h; omega
  by_cases ht : r / 2147483648 = 1
  · have hx := xor_u32 r POLY h (by decide)
    rw [show ((POLY : Nat) : Int) = 3988292384 from rfl] at hx
    have hc : (((r : Int) / 2147483648) == 1) = true := by simp; omega
    have hb : bk r = 2 * (r ^^^ POLY) + 1 := by unfold bk; rw [if_pos ht]
    have htop := top_xor h (b := POLY) (by decide)
    rw [ht, show POLY / 2147483648 = 1 by decide] at htop
    rw [hb]
    generalize r ^^^ POLY = y at hx htop
    have hv := back_val y (by omega)
    go_enter Try.func46, Try.ntmps46
    go_wp2
    go_ret
    exact ⟨by rw [show ((2 * y + 1 : Nat) : Int) = 2 * (y : Int) + 1 by omega]; rfl, rfl⟩
  · have hb : bk r = 2 * r := by unfold bk; rw [if_neg ht]
    have hc : (((r : Int) / 2147483648) == 1) = false := by simp; omega
    have hv : (r : Int) * 2 = ((2 * r : Nat) : Int) := by omega
    rw [hb]
    go_enter Try.func46, Try.ntmps46
    go_wp2
    go_ret
    exact ⟨by rw [show ((2 * r : Nat) : Int) = 2 * (r : Int) by omega]; rfl, rfl⟩
end Go.Proofs.Ytoipkpndfgcmcaa
