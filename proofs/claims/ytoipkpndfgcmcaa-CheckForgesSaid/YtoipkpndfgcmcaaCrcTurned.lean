/-
  Bits turned within 32 of one another: what they turn of the sum. Plain mathematics, no program in sight.
-/
import Derived.Test.YtoipkpndfgcmcaaCrcBack
import Derived.Test.YtoipkpndfgcmcaaCrcJoin
import Derived.Test.YtoipkpndfgcmcaaCrcSeal
import Derived.Test.YtoipkpndfgcmcaaCheckSumsW
namespace Go.Proofs.Ytoipkpndfgcmcaa
open Go.RowKit

/-- The bytes after k rounds. -/
def tl (bs : List UInt8) (p m : Nat) : Nat → List UInt8
  | 0 => bs
  | k + 1 => if (m / 2 ^ k) % 2 = 1 ∧ (p + k) / 8 < bs.length then (tl bs p m k).set ((p + k) / 8) ((tl bs p m k).getD ((p + k) / 8) 0 ^^^ UInt8.ofNat (2 ^ ((p + k) % 8))) else tl bs p m k
theorem tl_len (bs : List UInt8) (p m k : Nat) : (tl bs p m k).length = bs.length := by
  induction k with
  | zero => rfl
  | succ k ih => unfold tl; split <;> simp [ih]
/-- The mask's bits that meet one of the text's. -/
def met (L p m k : Nat) : Nat := m % 2 ^ (min k (8 * L - p))
theorem tl_crc (r : Nat) (bs : List UInt8) (p m k : Nat) (hp : p ≤ 8 * bs.length) : crc r (tl bs p m k) = crc r bs ^^^ sn (8 * bs.length - p) (met bs.length p m k) := by
  induction k with
  | zero => simp [tl, met, Nat.mod_one, sn_zero]
  | succ k ih =>
    unfold tl
    by_cases hin : (p + k) / 8 < bs.length
    · have hm : met bs.length p m (k + 1) = met bs.length p m k ^^^ (if (m / 2 ^ k) % 2 = 1 then 2 ^ k else 0) := by
        unfold met
        rw [Nat.min_eq_left (by omega), Nat.min_eq_left (by omega), bit_split]
      rw [hm, sn_xor, ← Nat.xor_assoc, ← ih]
      by_cases hb : (m / 2 ^ k) % 2 = 1
      · rw [if_pos ⟨hb, hin⟩, if_pos hb]
        have hj : (p + k) / 8 < (tl bs p m k).length := by rw [tl_len]; exact hin
        have hg : (tl bs p m k).getD ((p + k) / 8) 0 = (tl bs p m k)[(p + k) / 8] := by simp [List.getD, hj]
        rw [hg, crc_turn r _ _ hj, tl_len]
        congr 1
        have h1 : 2 ^ ((p + k) % 8) < 256 := Nat.lt_of_lt_of_le (Nat.pow_lt_pow_right (a := 2) (by omega) (Nat.mod_lt _ (by omega : 0 < 8))) (by decide)
        rw [UInt8.toNat_ofNat', Nat.mod_eq_of_lt h1]
        have e1 : ∀ a b : Nat, b ≤ a → sn a (2 ^ b) = sn (a - b) 1 := fun a b h => by
          have : a = (a - b) + b := by omega
          rw [this, sn_add, Nat.add_sub_cancel]
          have := sn_pow b 1
          rw [Nat.mul_one] at this
          rw [this]
        rw [e1 _ _ (by omega), e1 _ _ (by omega)]
        congr 1
        omega
      · rw [if_neg (fun h => hb h.1), if_neg hb, sn_zero, Nat.xor_zero]
    · rw [if_neg (fun h => hin h.2), ih]
      unfold met
      rw [Nat.min_eq_right (by omega), Nat.min_eq_right (by omega)]
theorem met_succ_in (L p m k : Nat) (h : (p + k) / 8 < L) : decide (met L p m (k + 1) ≠ 0) = (decide (met L p m k ≠ 0) || decide ((m / 2 ^ k) % 2 = 1)) := by
  unfold met
  rw [Nat.min_eq_left (by omega), Nat.min_eq_left (by omega), Nat.mod_pow_succ, Bool.eq_iff_iff]
  have := Nat.two_pow_pos k
  simp only [Bool.or_eq_true, decide_eq_true_eq]
  rcases Nat.mod_two_eq_zero_or_one (m / 2 ^ k) with h | h <;> rw [h]
  · simp
  · simp
theorem met_succ_out (L p m k : Nat) (h : ¬ (p + k) / 8 < L) : met L p m (k + 1) = met L p m k := by
  unfold met
  rw [Nat.min_eq_right (by omega), Nat.min_eq_right (by omega)]
theorem met_lt (L p m k : Nat) (h : m < U32) : met L p m k < U32 := Nat.lt_of_le_of_lt (Nat.mod_le _ _) h

/-- What the bits turn of the sum. -/
theorem upd_turned (bs : List UInt8) (p m : Nat) (hp : p ≤ 8 * bs.length) : upd 0 (tl bs p m 32) = upd 0 bs ^^^ sn (8 * bs.length - p) (met bs.length p m 32) := by
  unfold upd
  rw [tl_crc _ _ _ _ _ hp, Nat.xor_assoc, Nat.xor_assoc, Nat.xor_comm ONES]
theorem xor_turned (bs : List UInt8) (p m : Nat) (hp : p ≤ 8 * bs.length) : upd 0 bs ^^^ upd 0 (tl bs p m 32) = sn (8 * bs.length - p) (met bs.length p m 32) := by
  rw [upd_turned _ _ _ hp, ← Nat.xor_assoc, Nat.xor_self, Nat.zero_xor]
theorem whole_turned (bs : List UInt8) (p m : Nat) (hm : m < U32) (hp : p ≤ 8 * (sealed bs).length) : whole (tl (sealed bs) p m 32) = !decide (met (sealed bs).length p m 32 ≠ 0) := by
  have h := whole_sealed bs
  rw [whole_sum] at h
  have hl : decide (4 ≤ (sealed bs).length) = true := by simp [sealed, le4_len]
  rw [hl, Bool.true_and, beq_iff_eq] at h
  rw [whole_sum, tl_len, hl, Bool.true_and, upd_turned _ _ _ hp, h]
  have hz := sn_ne (n := 8 * (sealed bs).length - p) (met_lt (sealed bs).length p m 32 hm)
  by_cases h0 : met (sealed bs).length p m 32 = 0
  · rw [h0, sn_zero]
    rfl
  · have h1 : sn (8 * (sealed bs).length - p) (met (sealed bs).length p m 32) ≠ 0 := fun e => h0 (hz.1 e)
    have : decide (met (sealed bs).length p m 32 ≠ 0) = true := by simpa using h0
    rw [this]
    simp only [Bool.not_true, beq_eq_false_iff_ne]
    intro e
    apply h1
    have := congrArg (558161692 ^^^ ·) e
    simpa [← Nat.xor_assoc] using this
end Go.Proofs.Ytoipkpndfgcmcaa
