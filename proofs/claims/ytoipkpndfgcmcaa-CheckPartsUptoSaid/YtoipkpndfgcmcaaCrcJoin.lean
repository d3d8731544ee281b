/-
  The check sum joined, as plain mathematics: what bytes 0 make of a number is linear, so it is told by what they make of each bit. No program in sight.
-/
import Derived.Test.YtoipkpndfgcmcaaCrcMath
namespace Go.Proofs.Ytoipkpndfgcmcaa
open Go.RowKit

/-- What n bytes 0 make of a number. -/
def zer : Nat → Nat → Nat
  | 0, a => a
  | n + 1, a => zer n (stp8 a)
theorem zer_add (m n a : Nat) : zer (m + n) a = zer m (zer n a) := by
  induction n generalizing a with
  | zero => rfl
  | succ n ih => exact ih (stp8 a)
theorem zer_xor (n a b : Nat) : zer n (a ^^^ b) = zer n a ^^^ zer n b := by
  induction n generalizing a b with
  | zero => rfl
  | succ n ih => rw [zer, stp8_xor, ih]; rfl
theorem stp8_zero : stp8 0 = 0 := by decide
theorem zer_zero (n : Nat) : zer n 0 = 0 := by
  induction n with
  | zero => rfl
  | succ n ih => rw [zer, stp8_zero, ih]
theorem zer_lt {a : Nat} (h : a < U32) (n : Nat) : zer n a < U32 := by
  induction n generalizing a with
  | zero => exact h
  | succ n ih => exact ih (stp8_lt h)
theorem zer_one (a : Nat) : zer 1 a = stp8 a := rfl

/-- Of a number is made what is made of its first k bits. -/
def thr (z : Nat → Nat) (r : Nat) : Nat → Nat
  | 0 => 0
  | k + 1 => thr z r k ^^^ (if (r / 2 ^ k) % 2 = 1 then z k else 0)
theorem bit_split (r k : Nat) : r % 2 ^ (k + 1) = r % 2 ^ k ^^^ (if (r / 2 ^ k) % 2 = 1 then 2 ^ k else 0) := by
  have h : (r / 2 ^ k) % 2 = (r.testBit k).toNat := by
    rw [Nat.testBit_eq_decide_div_mod_eq]
    rcases Nat.mod_two_eq_zero_or_one (r / 2 ^ k) with h | h <;> simp [h]
  rw [h]
  apply Nat.eq_of_testBit_eq
  intro i
  rw [Nat.testBit_xor, Nat.testBit_mod_two_pow, Nat.testBit_mod_two_pow]
  by_cases hi : i = k
  · subst hi
    cases r.testBit i <;> simp [Nat.testBit_two_pow_self]
  · have h2 : (2 ^ k).testBit i = false := by rw [Nat.testBit_two_pow]; simp; omega
    cases hb : r.testBit k
    · by_cases hlt : i < k
      · simp [hlt, Nat.lt_succ_of_lt hlt]
      · simp [hlt, show ¬ i < k + 1 by omega]
    · by_cases hlt : i < k
      · simp [hlt, Nat.lt_succ_of_lt hlt, h2]
      · simp [hlt, show ¬ i < k + 1 by omega, h2]
theorem thr_lin (f : Nat → Nat) (h0 : f 0 = 0) (hx : ∀ a b, f (a ^^^ b) = f a ^^^ f b) (r k : Nat) : thr (fun i => f (2 ^ i)) r k = f (r % 2 ^ k) := by
  induction k with
  | zero => simp [thr, Nat.mod_one, h0]
  | succ k ih =>
    rw [bit_split, hx, thr, ih]
    split <;> simp [h0]
theorem thr_zer (e r : Nat) (hr : r < U32) : thr (fun i => zer e (2 ^ i)) r 32 = zer e r := by
  rw [thr_lin (zer e) (zer_zero e) (zer_xor e), Nat.mod_eq_of_lt (by unfold U32 at hr; exact hr)]
theorem thr_lt {z : Nat → Nat} (hz : ∀ i, i < 32 → z i < U32) (r : Nat) : ∀ k, k ≤ 32 → thr z r k < U32 := by
  intro k hk
  induction k with
  | zero => exact Nat.lt_of_lt_of_le (Nat.zero_lt_succ 0) (by decide)
  | succ k ih =>
    refine xor_lt (ih (by omega)) ?_
    split
    · exact hz k (by omega)
    · decide
theorem pow_lt32 {i : Nat} (h : i < 32) : 2 ^ i < U32 := by
  have : 2 ^ i < 2 ^ 32 := Nat.pow_lt_pow_right (by omega) h
  exact this
theorem tk_zero (i : Nat) : tk (2 ^ i) 0 = zer 1 (2 ^ i) := by
  unfold tk
  rw [zer_one]
  simp
theorem crc_one (r : Nat) : crc r [0] = zer 1 r := by
  unfold crc tk
  rw [zer_one]
  simp
/-- The number that Join tells. -/
def jn (a b n : Nat) : Nat := zer n a ^^^ b
theorem jn_lt {a b : Nat} (ha : a < U32) (hb : b < U32) (n : Nat) : jn a b n < U32 := xor_lt (zer_lt ha n) hb
theorem join_even {e l a : Nat} (h : l % 2 = 0) : zer ((e + e) * (l / 2)) a = zer (e * l) a := by
  rw [← Nat.mul_two, Nat.mul_assoc, show 2 * (l / 2) = l by omega]
theorem join_odd {e l a : Nat} (h : l % 2 = 1) : zer ((e + e) * (l / 2)) (zer e a) = zer (e * l) a := by
  rw [← zer_add, ← Nat.mul_two, Nat.mul_assoc]
  congr 1
  have : l = 2 * (l / 2) + 1 := by omega
  conv => rhs; rw [this]
  rw [Nat.mul_add, Nat.mul_one]

theorem mask_val (x b : Nat) (hx : x < U32) (hb : b < 2) : bits BinOp.and IntKind.u32 (x : Int) (IntKind.u32.wrap (-(b : Int))) = ((if b = 1 then x else 0 : Nat) : Int) := by
  rcases (show b = 0 ∨ b = 1 by omega) with rfl | rfl
  · rw [show IntKind.u32.wrap (-((0 : Nat) : Int)) = 0 by decide, and_zero x hx]
    rfl
  · rw [show IntKind.u32.wrap (-((1 : Nat) : Int)) = 4294967295 by decide, and_ones x hx]
    rfl
theorem of_val (o x r k : Nat) (ho : o < U32) (hx : x < U32) (hr : r < U32) : bits BinOp.xor IntKind.u32 (o : Int) (bits BinOp.and IntKind.u32 (x : Int) (-bits BinOp.and IntKind.u32 ((r : Int) / 2 ^ k) 1 % 4294967296)) = ((o ^^^ (if (r / 2 ^ k) % 2 = 1 then x else 0) : Nat) : Int) := by
  have hq : r / 2 ^ k < U32 := Nat.lt_of_le_of_lt (Nat.div_le_self _ _) hr
  rw [show (r : Int) / 2 ^ k = ((r / 2 ^ k : Nat) : Int) by simp, and_one _ hq]
  have hw := mask_val x (r / 2 ^ k % 2) hx (by omega)
  rw [IntKind.wrap_u32'] at hw
  rw [hw]
  refine xor_u32 _ _ ho ?_
  split
  · exact hx
  · decide

theorem tmod_bit (r k : Nat) : ((r : Int) / 2 ^ k).tmod 2 = ((r / 2 ^ k % 2 : Nat) : Int) := by
  rw [show (r : Int) / 2 ^ k = ((r / 2 ^ k : Nat) : Int) by simp]
  generalize r / 2 ^ k = v
  rw [Int.tmod_eq_emod_of_nonneg (Int.natCast_nonneg v)]
  omega

end Go.Proofs.Ytoipkpndfgcmcaa
