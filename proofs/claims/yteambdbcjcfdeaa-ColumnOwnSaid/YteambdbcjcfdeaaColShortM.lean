/-
  The least way and the bits of a column: plain law. No program in sight.
-/
import Derived.Test.YteambdbcjcfdeaaColShort
import Derived.Test.YteambdbcjcfdeaaColRead4
namespace Go.Proofs.Yteambdbcjcfdeaa
open Go.RowKit

def sz4 (a b c d i : Nat) : Nat := if i = 0 then a else if i = 1 then b else if i = 2 then c else d
def c4 (a b c d : Nat) : Array Value := #[.int .i64 (a : Int), .int .i64 (b : Int), .int .i64 (c : Int), .int .i64 (d : Int)]
theorem four_of {i : Nat} (h : i < 4) : i = 0 ∨ i = 1 ∨ i = 2 ∨ i = 3 := by omega
theorem c4_at (a b c d : Nat) {i : Nat} (h : i < 4) : (c4 a b c d)[i]? = some (.int .i64 (sz4 a b c d i : Int)) := by
  rcases four_of h with rfl | rfl | rfl | rfl <;> rfl
theorem way_least {a b c d z : Nat} (h : wayOf a b c d = z + 1) : z < 4 ∧ ∀ i, i < 4 → sz4 a b c d z ≤ sz4 a b c d i ∧ (sz4 a b c d i = sz4 a b c d z → z ≤ i) := by
  have hm := way_min a b c d
  have hle : min4 a b c d ≤ a ∧ min4 a b c d ≤ b ∧ min4 a b c d ≤ c ∧ min4 a b c d ≤ d := by unfold min4; omega
  rw [h] at hm
  refine ⟨by omega, fun i hi => ?_⟩
  rcases hm with ⟨e, h1⟩ | ⟨e, h1, h2⟩ | ⟨e, h1, h2, h3⟩ | ⟨e, h1, h2, h3, h4⟩
  · obtain rfl : z = 0 := by omega
    rcases four_of hi with rfl | rfl | rfl | rfl <;> simp [sz4] <;> omega
  · obtain rfl : z = 1 := by omega
    rcases four_of hi with rfl | rfl | rfl | rfl <;> simp [sz4] <;> omega
  · obtain rfl : z = 2 := by omega
    rcases four_of hi with rfl | rfl | rfl | rfl <;> simp [sz4] <;> omega
  · obtain rfl : z = 3 := by omega
    rcases four_of hi with rfl | rfl | rfl | rfl <;> simp [sz4] <;> omega
theorem laid_size (c : List UInt32) {z : Nat} (h : wayS c = z + 1) : (pageS c).length = sz4 (plainS c).length (deltaS c).length (runS c).length (packS c).length z + 1 := by
  have hr := wayS_range c
  rw [pageS, List.length_cons, h]
  rcases four_of (show z < 4 by omega) with rfl | rfl | rfl | rfl <;> simp [laidS, sz4]
theorem bit_low {x b : Nat} (h64 : x < 2 ^ 64) (h : b < Lib.bitLen x) : x / 2 ^ b ≠ 0 := by
  intro e
  have h1 : x < 2 ^ b := by
    rcases Nat.lt_or_ge x (2 ^ b) with h | h
    · exact h
    · have := Nat.div_pos h (Nat.two_pow_pos b); omega
  by_cases hb : b ≤ 64
  · have := Lib.bitLen_le x b hb h1; omega
  · have := Lib.bitLen_le x 64 (Nat.le_refl _) h64; omega
theorem bit_high {x b : Nat} (h64 : x < 2 ^ 64) (h : Lib.bitLen x ≤ b) : x / 2 ^ b = 0 := by
  have h1 := lt_bitLen x x (Nat.le_refl _) h64
  exact Nat.div_eq_of_lt (Nat.lt_of_lt_of_le h1 (Nat.pow_le_pow_right (by omega) h))
theorem bitLen_mono {x y : Nat} (h64 : y < 2 ^ 64) (h : x ≤ y) : Lib.bitLen x ≤ Lib.bitLen y :=
  Lib.bitLen_le x _ (Lib.bitLen_le y 64 (Nat.le_refl _) h64) (Nat.lt_of_le_of_lt h (lt_bitLen y y (Nat.le_refl _) h64))
theorem bitLen_max {x y : Nat} (hx : x < 2 ^ 64) (hy : y < 2 ^ 64) : Lib.bitLen (max x y) = max (Lib.bitLen x) (Lib.bitLen y) := by
  rcases Nat.le_total x y with h | h
  · have := bitLen_mono hy h
    rw [Nat.max_eq_right h]; omega
  · have := bitLen_mono hx h
    rw [Nat.max_eq_left h]; omega
theorem wide_next (c : List UInt32) {k : Nat} {x : UInt32} (h : c[k]? = some x) : Lib.bitLen (mx (c.take (k + 1))) = max (Lib.bitLen (mx (c.take k))) (Lib.bitLen x.toNat) := by
  have := mx_lt (c.take k)
  have := u32_lt x
  rw [mx_take h, bitLen_max (by omega) (by omega)]
end Go.Proofs.Yteambdbcjcfdeaa
