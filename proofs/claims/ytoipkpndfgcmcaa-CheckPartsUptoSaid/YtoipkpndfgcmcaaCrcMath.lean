/-
  The check sum as plain mathematics on natural numbers below 2^32: a step, a byte, bytes; half a byte at a time is the same. No program in sight.
-/
import Derived.Test.YtoipkpndfgcmcaaWords
import Derived.Laws.BitsAllLaws
namespace Go.Proofs.Ytoipkpndfgcmcaa
open Go.RowKit

def U32 : Nat := 4294967296
def POLY : Nat := 3988292384
def ONES : Nat := 4294967295
/-- A step of r. -/
def stp (r : Nat) : Nat := r / 2 ^^^ (if r % 2 = 1 then POLY else 0)
def stp4 (r : Nat) : Nat := stp (stp (stp (stp r)))
def stp8 (r : Nat) : Nat := stp4 (stp4 r)
/-- A byte is taken into r. -/
def tk (r : Nat) (c : UInt8) : Nat := stp8 (r ^^^ c.toNat)
def crc (r : Nat) (bs : List UInt8) : Nat := bs.foldl tk r
def upd (s : Nat) (bs : List UInt8) : Nat := crc (s ^^^ ONES) bs ^^^ ONES

theorem xor_lt {a b : Nat} (ha : a < U32) (hb : b < U32) : a ^^^ b < U32 := Nat.xor_lt_two_pow (n := 32) ha hb
theorem stp_lt {r : Nat} (h : r < U32) : stp r < U32 := by
  unfold stp
  refine xor_lt (by unfold U32 at *; omega) ?_
  split <;> decide
theorem stp4_lt {r : Nat} (h : r < U32) : stp4 r < U32 := stp_lt (stp_lt (stp_lt (stp_lt h)))
theorem stp8_lt {r : Nat} (h : r < U32) : stp8 r < U32 := stp4_lt (stp4_lt h)
theorem u8_lt (c : UInt8) : c.toNat < U32 := by
  have := c.toNat_lt
  unfold U32
  omega
theorem tk_lt {r : Nat} (h : r < U32) (c : UInt8) : tk r c < U32 := stp8_lt (xor_lt h (u8_lt c))
theorem crc_lt {r : Nat} (h : r < U32) (bs : List UInt8) : crc r bs < U32 := by
  induction bs generalizing r with
  | nil => exact h
  | cons c bs ih => exact ih (tk_lt h c)
theorem ones_lt : ONES < U32 := by decide
theorem upd_lt {s : Nat} (h : s < U32) (bs : List UInt8) : upd s bs < U32 := xor_lt (crc_lt (xor_lt h ones_lt) bs) ones_lt

theorem xor_half (a b : Nat) : (a ^^^ b) / 2 = a / 2 ^^^ b / 2 := Nat.xor_div_two
theorem xor_odd (a b : Nat) : (a ^^^ b) % 2 = (a % 2 + b % 2) % 2 := by
  have h : ∀ x : Nat, x % 2 = (x.testBit 0).toNat := fun x => by simp [Nat.testBit_zero]; rcases Nat.mod_two_eq_zero_or_one x with h | h <;> simp [h]
  rw [h, h a, h b, Nat.testBit_xor]
  cases a.testBit 0 <;> cases b.testBit 0 <;> rfl
theorem stp_xor (a b : Nat) : stp (a ^^^ b) = stp a ^^^ stp b := by
  unfold stp
  rw [xor_half, xor_odd]
  have e : (a / 2 ^^^ (if a % 2 = 1 then POLY else 0)) ^^^ (b / 2 ^^^ (if b % 2 = 1 then POLY else 0)) = (a / 2 ^^^ b / 2) ^^^ ((if a % 2 = 1 then POLY else 0) ^^^ (if b % 2 = 1 then POLY else 0)) := by
    rw [Nat.xor_assoc, Nat.xor_assoc]
    congr 1
    rw [← Nat.xor_assoc, Nat.xor_comm _ (b / 2), Nat.xor_assoc]
  rw [e]
  congr 1
  rcases Nat.mod_two_eq_zero_or_one a with ha | ha <;> rcases Nat.mod_two_eq_zero_or_one b with hb | hb <;> simp [ha, hb]
theorem stp4_xor (a b : Nat) : stp4 (a ^^^ b) = stp4 a ^^^ stp4 b := by unfold stp4; simp only [stp_xor]
theorem stp8_xor (a b : Nat) : stp8 (a ^^^ b) = stp8 a ^^^ stp8 b := by unfold stp8; simp only [stp4_xor]
theorem stp_zero : stp 0 = 0 := by decide
theorem stp_even (q : Nat) : stp (2 * q) = q := by
  unfold stp
  rw [if_neg (by omega), Nat.mul_div_cancel_left _ (by omega), Nat.xor_zero]
theorem stp4_16 (q : Nat) : stp4 (16 * q) = q := by
  unfold stp4
  rw [show 16 * q = 2 * (2 * (2 * (2 * q))) by omega, stp_even, stp_even, stp_even, stp_even]
/-- Half a byte at a time. -/
theorem stp4_table (r : Nat) : r / 16 ^^^ stp4 (r % 16) = stp4 r := by
  have h : (16 * (r / 16)) ^^^ (r % 16) = r := by
    have := nat_join 4 (16 * (r / 16)) (r % 16) (by omega) (by omega)
    have hx : (16 * (r / 16)) ^^^ (r % 16) = (16 * (r / 16)) ||| (r % 16) := by
      apply Nat.eq_of_testBit_eq
      intro i
      rw [Nat.testBit_xor, Nat.testBit_or]
      by_cases hi : i < 4
      · have : (16 * (r / 16)).testBit i = false := by
          rw [show 16 * (r / 16) = 2 ^ 4 * (r / 16) by rfl, Nat.testBit_two_pow_mul]
          simp; omega
        simp [this]
      · have : (r % 16).testBit i = false := Nat.testBit_lt_two_pow (Nat.lt_of_lt_of_le (Nat.mod_lt _ (by omega)) (Nat.pow_le_pow_right (n := 2) (i := 4) (by omega) (by omega)))
        simp [this]
    rw [hx, this]
    omega
  conv => rhs; rw [← h]
  rw [stp4_xor, stp4_16]

/-! The walks' own spellings. -/
theorem and_one (r : Nat) (h : r < U32) : bits BinOp.and IntKind.u32 (r : Int) 1 = ((r % 2 : Nat) : Int) := by
  rw [show (1 : Int) = ((1 : Nat) : Int) from rfl, u32_and_nat r 1 h (by omega), Nat.and_one_is_mod]
theorem and_15 (r : Nat) (h : r < U32) : bits BinOp.and IntKind.u32 (r : Int) 15 = ((r % 16 : Nat) : Int) := by
  rw [show (15 : Int) = ((15 : Nat) : Int) from rfl, u32_and_nat r 15 h (by omega)]
  congr 1
  exact Nat.and_two_pow_sub_one_eq_mod r 4
theorem xor_u32 (a b : Nat) (ha : a < U32) (hb : b < U32) : bits BinOp.xor IntKind.u32 (a : Int) (b : Int) = ((a ^^^ b : Nat) : Int) := u32_xor_nat a b ha hb
theorem and_ones (a : Nat) (h : a < U32) : bits BinOp.and IntKind.u32 (a : Int) 4294967295 = (a : Int) := by
  rw [show (4294967295 : Int) = ((4294967295 : Nat) : Int) from rfl, u32_and_nat a 4294967295 h (by omega)]
  congr 1
  have := Nat.and_two_pow_sub_one_eq_mod a 32
  rw [show (4294967295 : Nat) = 2 ^ 32 - 1 from rfl, this]
  exact Nat.mod_eq_of_lt h
theorem and_zero (a : Nat) (h : a < U32) : bits BinOp.and IntKind.u32 (a : Int) 0 = 0 := by
  rw [show (0 : Int) = ((0 : Nat) : Int) from rfl, u32_and_nat a 0 h (by omega)]
  simp
theorem step_val (r : Nat) (h : r < U32) : bits BinOp.xor IntKind.u32 ((r : Int) / 2) (bits BinOp.and IntKind.u32 3988292384 (IntKind.u32.wrap (-(bits BinOp.and IntKind.u32 (r : Int) 1)))) = ((stp r : Nat) : Int) := by
  rw [and_one r h]
  unfold stp
  rw [show (3988292384 : Int) = ((POLY : Nat) : Int) from rfl, show ((r : Int) / 2) = ((r / 2 : Nat) : Int) by omega]
  have h2 : r / 2 < U32 := by unfold U32 at *; omega
  rcases Nat.mod_two_eq_zero_or_one r with hm | hm
  · rw [hm, show IntKind.u32.wrap (-((0 : Nat) : Int)) = 0 by decide, and_zero POLY (by decide), show (0 : Int) = ((0 : Nat) : Int) from rfl, xor_u32 _ _ h2 (by decide)]
    simp
  · rw [hm, show IntKind.u32.wrap (-((1 : Nat) : Int)) = 4294967295 by decide, and_ones POLY (by decide), xor_u32 _ _ h2 (by decide)]
    simp
end Go.Proofs.Ytoipkpndfgcmcaa
