/-
  The check sum as plain mathematics: single steps, their inverse, what a turned byte turns, four bytes at a place. No program in sight.
-/
import Derived.Test.YtoipkpndfgcmcaaCrcMath
import Derived.Test.YtoipkpndfgcmcaaCrcConcat
import Derived.Test.YtoipkpndfgcmcaaCrcWhole
namespace Go.Proofs.Ytoipkpndfgcmcaa
open Go.RowKit

/-- n steps. -/
def sn : Nat → Nat → Nat
  | 0, a => a
  | n + 1, a => sn n (stp a)
theorem sn_add (m n a : Nat) : sn (m + n) a = sn m (sn n a) := by
  induction n generalizing a with
  | zero => rfl
  | succ n ih => exact ih (stp a)
theorem sn_xor (n a b : Nat) : sn n (a ^^^ b) = sn n a ^^^ sn n b := by
  induction n generalizing a b with
  | zero => rfl
  | succ n ih => rw [sn, stp_xor, ih]; rfl
theorem sn_zero (n : Nat) : sn n 0 = 0 := by
  induction n with
  | zero => rfl
  | succ n ih => rw [sn, stp_zero, ih]
theorem sn_lt {a : Nat} (h : a < U32) (n : Nat) : sn n a < U32 := by
  induction n generalizing a with
  | zero => exact h
  | succ n ih => exact ih (stp_lt h)
theorem stp8_sn (a : Nat) : stp8 a = sn 8 a := rfl
theorem sn_pow (k q : Nat) : sn k (2 ^ k * q) = q := by
  induction k generalizing q with
  | zero => simp [sn]
  | succ k ih => rw [sn, Nat.pow_succ, Nat.mul_comm (2 ^ k) 2, Nat.mul_assoc, stp_even, ih]

/-- The number of which a step makes r. -/
def bk (r : Nat) : Nat := if r / 2147483648 = 1 then 2 * (r ^^^ POLY) + 1 else 2 * r
theorem xor_cancel (a b : Nat) : (a ^^^ b) ^^^ b = a := by rw [Nat.xor_assoc, Nat.xor_self, Nat.xor_zero]
theorem top_xor {a b : Nat} (ha : a < U32) (hb : b < U32) : (a ^^^ b) / 2147483648 = (a / 2147483648 + b / 2147483648) % 2 := by
  have h := Nat.xor_div_two_pow (a := a) (b := b) (n := 31)
  rw [show (2147483648 : Nat) = 2 ^ 31 from rfl, h]
  unfold U32 at *
  have h1 : a / 2 ^ 31 = 0 ∨ a / 2 ^ 31 = 1 := by omega
  have h2 : b / 2 ^ 31 = 0 ∨ b / 2 ^ 31 = 1 := by omega
  rcases h1 with h1 | h1 <;> rcases h2 with h2 | h2 <;> rw [h1, h2] <;> decide
theorem stp_bk {r : Nat} (_h : r < U32) : stp (bk r) = r := by
  unfold bk
  split
  · unfold stp
    rw [show (2 * (r ^^^ POLY) + 1) / 2 = r ^^^ POLY by omega, if_pos (by omega), xor_cancel]
  · exact stp_even r
theorem bk_stp {r : Nat} (h : r < U32) : bk (stp r) = r := by
  have h2 : r / 2 < U32 := by unfold U32 at *; omega
  unfold stp
  rcases Nat.mod_two_eq_zero_or_one r with hm | hm
  · rw [if_neg (by omega), Nat.xor_zero]
    unfold bk
    rw [if_neg (by unfold U32 at h; omega)]
    omega
  · rw [if_pos hm]
    unfold bk
    rw [top_xor h2 (by decide), if_pos (by unfold U32 at h; rw [show r / 2 / 2147483648 = 0 by omega]; decide), xor_cancel]
    omega
theorem bk_lt {r : Nat} (h : r < U32) : bk r < U32 := by
  unfold bk
  split
  · rename_i ht
    have := top_xor h (b := POLY) (by decide)
    rw [ht, show POLY / 2147483648 = 1 by decide] at this
    unfold U32
    omega
  · unfold U32 at *
    omega
/-- n steps back. -/
def bn : Nat → Nat → Nat
  | 0, a => a
  | n + 1, a => bn n (bk a)
theorem bn_lt {a : Nat} (h : a < U32) (n : Nat) : bn n a < U32 := by
  induction n generalizing a with
  | zero => exact h
  | succ n ih => exact ih (bk_lt h)
theorem sn_succ' (n a : Nat) : sn (n + 1) a = stp (sn n a) := by rw [Nat.add_comm, sn_add]; rfl
theorem sn_bn {r : Nat} (h : r < U32) (n : Nat) : sn n (bn n r) = r := by
  induction n generalizing r with
  | zero => rfl
  | succ n ih => rw [sn_succ', bn, ih (bk_lt h), stp_bk h]
theorem bn_sn {r : Nat} (h : r < U32) (n : Nat) : bn n (sn n r) = r := by
  induction n generalizing r with
  | zero => rfl
  | succ n ih =>
    have : sn (n + 1) r = stp (sn n r) := sn_succ' n r
    rw [this, bn, bk_stp (sn_lt h n), ih h]
theorem sn_inj {a b n : Nat} (ha : a < U32) (hb : b < U32) (h : sn n a = sn n b) : a = b := by rw [← bn_sn ha n, h, bn_sn hb n]
theorem sn_ne {a n : Nat} (ha : a < U32) : sn n a = 0 ↔ a = 0 :=
  ⟨fun h => sn_inj ha (by decide) (h.trans (sn_zero n).symm), fun h => h ▸ sn_zero n⟩
theorem bn_add (m n a : Nat) : bn (m + n) a = bn m (bn n a) := by
  induction n generalizing a with
  | zero => rfl
  | succ n ih => exact ih (bk a)

theorem crc_add (r d : Nat) (bs : List UInt8) : crc (r ^^^ d) bs = crc r bs ^^^ sn (8 * bs.length) d := by
  induction bs generalizing r d with
  | nil => simp [crc, sn]
  | cons c bs ih =>
    have e : tk (r ^^^ d) c = tk r c ^^^ stp8 d := by
      unfold tk
      rw [← stp8_xor]
      congr 1
      rw [Nat.xor_assoc, Nat.xor_comm d, ← Nat.xor_assoc]
    show crc (tk (r ^^^ d) c) bs = crc (tk r c) bs ^^^ _
    rw [e, ih, stp8_sn, ← sn_add, List.length_cons, Nat.mul_succ]
theorem crc_append (r : Nat) (xs bs : List UInt8) : crc r (xs ++ bs) = crc (crc r xs) bs := List.foldl_append
theorem crc_cons (r : Nat) (c : UInt8) (bs : List UInt8) : crc r (c :: bs) = crc (tk r c) bs := rfl

/-- What a turned byte turns. -/
theorem crc_turn (r : Nat) (bs : List UInt8) (j : Nat) (hj : j < bs.length) (v : UInt8) : crc r (bs.set j (bs[j] ^^^ v)) = crc r bs ^^^ sn (8 * (bs.length - j)) v.toNat := by
  induction bs generalizing r j with
  | nil => simp at hj
  | cons c bs ih =>
    cases j with
    | zero =>
      simp only [List.set_cons_zero, List.getElem_cons_zero]
      rw [crc_cons, crc_cons]
      have e : tk r (c ^^^ v) = tk r c ^^^ stp8 v.toNat := by
        unfold tk
        rw [← stp8_xor, UInt8.toNat_xor, Nat.xor_assoc]
      rw [e, crc_add, stp8_sn, ← sn_add, List.length_cons, Nat.sub_zero, Nat.mul_succ]
    | succ j =>
      simp only [List.set_cons_succ, List.getElem_cons_succ]
      rw [crc_cons, crc_cons, ih _ j (by simpa using hj), List.length_cons, Nat.add_sub_add_right]

/-- Four bytes into a register. -/
theorem ofNat_byte (n : Nat) : (UInt8.ofNat (n % 256)).toNat = n % 256 := by rw [UInt8.toNat_ofNat']; omega
theorem byte_split (x : Nat) : x % 256 ^^^ 256 * (x / 256) = x := by
  apply Nat.eq_of_testBit_eq
  intro i
  rw [Nat.testBit_xor, show (256 : Nat) * (x / 256) = 2 ^ 8 * (x / 256) by rfl, Nat.testBit_two_pow_mul, show x % 256 = x % 2 ^ 8 from rfl, Nat.testBit_mod_two_pow, show x / 256 = x / 2 ^ 8 from rfl, Nat.testBit_div_two_pow]
  by_cases hi : i < 8
  · simp [hi, show ¬ 8 ≤ i by omega]
  · simp [hi]
    rw [show i - 8 + 8 = i by omega, show decide (8 ≤ i) = true by simp; omega]
    simp
theorem tk_low (r q : Nat) : tk r (UInt8.ofNat (q % 256)) ^^^ q / 256 = sn 8 (r ^^^ q) := by
  unfold tk
  rw [ofNat_byte, stp8_sn]
  conv => rhs; rw [← byte_split q]
  rw [← Nat.xor_assoc, sn_xor 8 (r ^^^ q % 256), show (256 : Nat) = 2 ^ 8 from rfl, sn_pow]
theorem feed4 (r q : Nat) (hq : q < U32) : crc r (le4 q) = sn 32 (r ^^^ q) := by
  have e : ∀ s p, tk s (UInt8.ofNat (p % 256)) = sn 8 (s ^^^ p) ^^^ p / 256 := fun s p => by rw [← tk_low s p, xor_cancel]
  unfold le4
  rw [crc_cons, crc_cons, crc_cons, crc_cons, e r q, e _ (q / 256), show q / 65536 = q / 256 / 256 by omega, e _ (q / 256 / 256), show q / 16777216 = q / 256 / 256 / 256 by omega, e _ (q / 256 / 256 / 256)]
  rw [xor_cancel, xor_cancel, xor_cancel, show q / 256 / 256 / 256 / 256 = 0 by unfold U32 at hq; omega, Nat.xor_zero, ← sn_add, ← sn_add, ← sn_add]
  rfl

/-- Sealed is what has the one sum. -/
theorem le4_inj {a b : Nat} (ha : a < U32) (hb : b < U32) (h : le4 a = le4 b) : a = b := by
  have := congrArg (fun l => crc 0 l) h
  simp only [feed4 0 _ ha, feed4 0 _ hb, Nat.zero_xor] at this
  exact sn_inj ha hb this
def num4 (a b c d : UInt8) : Nat := a.toNat + 256 * b.toNat + 65536 * c.toNat + 16777216 * d.toNat
theorem num4_lt (a b c d : UInt8) : num4 a b c d < U32 := by
  have := a.toNat_lt; have := b.toNat_lt; have := c.toNat_lt; have := d.toNat_lt
  unfold num4 U32
  omega
theorem le4_num4 (a b c d : UInt8) : le4 (num4 a b c d) = [a, b, c, d] := by
  have h1 := a.toNat_lt; have h2 := b.toNat_lt; have h3 := c.toNat_lt; have h4 := d.toNat_lt
  have e : ∀ (x : UInt8) (n : Nat), n = x.toNat → UInt8.ofNat n = x := fun x n h => by subst h; simp
  unfold le4 num4
  rw [e a _ (by omega), e b _ (by omega), e c _ (by omega), e d _ (by omega)]
theorem four_le4 {l : List UInt8} (h : l.length = 4) : ∃ q, q < U32 ∧ l = le4 q := by
  match l, h with
  | [a, b, c, d], _ => exact ⟨num4 a b c d, num4_lt a b c d, (le4_num4 a b c d).symm⟩
theorem whole_sum (bs : List UInt8) : whole bs = (decide (4 ≤ bs.length) && (upd 0 bs == 558161692)) := by
  by_cases h4 : 4 ≤ bs.length
  · obtain ⟨m, hm⟩ : ∃ m, bs.length = m + 4 := ⟨bs.length - 4, by omega⟩
    rw [whole_long hm, show decide (4 ≤ bs.length) = true by simpa using h4, Bool.true_and]
    obtain ⟨q, hq, he⟩ := four_le4 (l := bs.drop m) (by rw [List.length_drop]; omega)
    have hx : upd 0 bs = sn 32 (crc ONES (bs.take m) ^^^ q) ^^^ ONES := by
      conv => lhs; rw [← List.take_append_drop m bs, he]
      unfold upd
      rw [Nat.zero_xor, crc_append, feed4 _ _ hq]
    have hc := crc_lt ones_lt (bs.take m)
    rw [he, hx, Bool.eq_iff_iff, beq_iff_eq, beq_iff_eq]
    have hu : upd 0 (bs.take m) = crc ONES (bs.take m) ^^^ ONES := by unfold upd; rw [Nat.zero_xor]
    rw [hu]
    clear hx hu he
    obtain ⟨X, hX⟩ : ∃ X, crc ONES (bs.take m) = X := ⟨_, rfl⟩
    rw [hX] at hc ⊢
    have hk : (558161692 : Nat) = sn 32 ONES ^^^ ONES := by decide +kernel
    constructor
    · intro h
      have := le4_inj hq (xor_lt hc ones_lt) h
      rw [this, ← Nat.xor_assoc, Nat.xor_self, Nat.zero_xor, hk]
    · intro h
      rw [hk] at h
      have h := congrArg (· ^^^ ONES) h
      simp only [xor_cancel] at h
      have h := sn_inj (xor_lt hc hq) ones_lt h
      rw [← h, ← Nat.xor_assoc, Nat.xor_self, Nat.zero_xor]
  · rw [whole_short (by omega), show decide (4 ≤ bs.length) = false by simpa using h4]
    rfl
end Go.Proofs.Ytoipkpndfgcmcaa
