/-
  LEB128 numbers as plain mathematics on lists of bytes: the form of a number, what bytes begin with. No program in sight.
-/
import Derived.Test.YteambdbcjcfdeaaWords
import Derived.Laws.BitsAllLaws
namespace Go.Proofs.Yteambdbcjcfdeaa
open Go.RowKit

def formF : Nat → Nat → List UInt8
  | 0, n => [UInt8.ofNat n]
  | f + 1, n => if n < 128 then [UInt8.ofNat n] else UInt8.ofNat (n % 128 + 128) :: formF f (n / 128)
def form (n : Nat) : List UInt8 := formF 9 n

theorem formF_stop {f n : Nat} (h : n < 128) : formF f n = [UInt8.ofNat n] := by
  cases f with
  | zero => rfl
  | succ f => rw [formF, if_pos h]
theorem formF_go {f n : Nat} (h : ¬ n < 128) : formF (f + 1) n = UInt8.ofNat (n % 128 + 128) :: formF f (n / 128) := by
  rw [formF, if_neg h]
theorem formF_len (f n : Nat) : 1 ≤ (formF f n).length ∧ (formF f n).length ≤ f + 1 := by
  induction f generalizing n with
  | zero => simp [formF]
  | succ f ih =>
    rw [formF]
    split
    · simp
    · have := ih (n / 128); simp; omega
theorem form_len (n : Nat) : 1 ≤ (form n).length ∧ (form n).length ≤ 10 := formF_len 9 n

theorem or128 (k : Nat) : bits BinOp.or IntKind.u8 ((k : Int) % 256) 128 = ((k % 128 + 128 : Nat) : Int) := by
  have h : ∀ x : Fin 256, bits BinOp.or IntKind.u8 ((x.val : Nat) : Int) 128 = ((x.val % 128 + 128 : Nat) : Int) := by decide +kernel
  have h1 := h ⟨k % 256, Nat.mod_lt _ (by omega)⟩
  simp only at h1
  have e : ((k % 256 : Nat) : Int) = (k : Int) % 256 := by omega
  rw [← e, h1]
  have : k % 256 % 128 = k % 128 := by omega
  rw [this]

theorem bv_go (k : Nat) : Value.int IntKind.u8 (bits BinOp.or IntKind.u8 ((k : Int) % 256) 128) = bv (UInt8.ofNat (k % 128 + 128)) := by
  have : (UInt8.ofNat (k % 128 + 128)).toNat = k % 128 + 128 := by rw [UInt8.toNat_ofNat']; omega
  rw [or128, bv, this]
theorem bv_stop (k : Nat) (h : k < 128) : Value.int IntKind.u8 (k : Int) = bv (UInt8.ofNat k) := by
  have : (UInt8.ofNat k).toNat = k := by rw [UInt8.toNat_ofNat']; omega
  rw [bv, this]

/-- A round of a loop that puts a group: what is to come is one group less. -/
theorem round_lt {f k : Nat} (hk : k < 2 * 128 ^ f) (h : 128 ≤ k) : 1 ≤ f ∧ k / 128 < 2 * 128 ^ (f - 1) := by
  cases f with
  | zero => omega
  | succ f =>
    rw [Nat.pow_succ] at hk
    refine ⟨by omega, ?_⟩
    simp only [Nat.add_sub_cancel]
    omega
theorem round_eq {f k n : Nat} {cs : List UInt8} (heq : cs ++ formF f k = form n) (hf : 1 ≤ f) (h : 128 ≤ k) : (cs ++ [UInt8.ofNat (k % 128 + 128)]) ++ formF (f - 1) (k / 128) = form n := by
  obtain ⟨g, rfl⟩ : ∃ g, f = g + 1 := ⟨f - 1, by omega⟩
  rw [formF_go (by omega)] at heq
  rw [← heq]
  simp
theorem last_eq {f k n : Nat} {cs : List UInt8} (heq : cs ++ formF f k = form n) (h : k < 128) : form n = cs ++ [UInt8.ofNat k] := by
  rw [← heq, formF_stop h]

/-- What bytes begin with: the number, how many bytes, the fault's number. -/
def getGo : Nat → Nat → Nat → List UInt8 → Nat × Nat × Nat
  | 0, _, _, _ => (0, 0, 11)
  | _ + 1, _, _, [] => (0, 0, 10)
  | f + 1, i, acc, c :: r => if i = 9 ∧ 1 < c.toNat ∨ 0 < i ∧ c.toNat = 0 then (0, 0, 11) else if c.toNat < 128 then (acc + c.toNat * 2 ^ (7 * i), i + 1, 0) else getGo f (i + 1) (acc + c.toNat % 128 * 2 ^ (7 * i)) r
def getS (bs : List UInt8) : Nat × Nat × Nat := getGo 10 0 0 bs
/-- Three results as the call hands them back. -/
def gv (r : Nat × Nat × Nat) : Ending := .returned (.tuple #[.int .u64 (r.1 : Int), .int .i64 (r.2.1 : Int), .int .i64 (r.2.2 : Int)])
theorem gv_of {a b c : Int} {r : Nat × Nat × Nat} (h1 : a = (r.1 : Int)) (h2 : b = (r.2.1 : Int)) (h3 : c = (r.2.2 : Int)) : Ending.returned (.tuple #[.int .u64 a, .int .i64 b, .int .i64 c]) = gv r := by
  subst h1 h2 h3; rfl

theorem pow_le63 {i : Nat} (hi : i ≤ 9) : 2 ^ (7 * i) ≤ 9223372036854775808 := by
  have : 2 ^ (7 * i) ≤ 2 ^ 63 := Nat.pow_le_pow_right (by omega) (by omega)
  exact this
theorem wrapu_nat (x : Nat) (h : x < 18446744073709551616) : IntKind.u64.wrap (x : Int) = (x : Int) := by
  rw [IntKind.wrap_u64]; omega
theorem or_step (acc x i : Nat) (hi : i ≤ 9) (hacc : acc < 2 ^ (7 * i)) (hx : x * 2 ^ (7 * i) < 18446744073709551616) : bits BinOp.or IntKind.u64 (acc : Int) (IntKind.u64.wrap ((x : Int) * 2 ^ (7 * i))) = ((acc + x * 2 ^ (7 * i) : Nat) : Int) := by
  have hb := pow_le63 hi
  have e : (x : Int) * 2 ^ (7 * i) = ((x * 2 ^ (7 * i) : Nat) : Int) := by simp
  rw [e, wrapu_nat _ hx, u64_or_nat _ _ (by omega) hx, Nat.or_comm, nat_join (7 * i) _ _ (Nat.mul_mod_left _ _) hacc, Nat.add_comm]
theorem or_step9 (acc x : Nat) (hacc : acc < 2 ^ (7 * 9)) (hx : x ≤ 1) : bits BinOp.or IntKind.u64 (acc : Int) ((x : Int) * 9223372036854775808) = ((acc + x * 2 ^ (7 * 9) : Nat) : Int) := by
  rw [← or_step acc x 9 (by omega) hacc (by omega), IntKind.wrap_u64]
  congr 1
  omega
theorem and127 (c : Nat) (h : c < 256) : bits BinOp.and IntKind.u8 (c : Int) 127 = ((c % 128 : Nat) : Int) := by
  rw [show (127 : Int) = ((127 : Nat) : Int) from rfl, u8_and_nat c 127 h (by omega)]
  congr 1
  exact Nat.and_two_pow_sub_one_eq_mod c 7
theorem or_step' (acc c i : Nat) (hi : i < 9) (hacc : acc < 2 ^ (7 * i)) (hc : c < 256) :
    bits BinOp.or IntKind.u64 (acc : Int) (IntKind.u64.wrap (IntKind.u64.wrap (bits BinOp.and IntKind.u8 (c : Int) 127) * 2 ^ (7 * i))) = ((acc + c % 128 * 2 ^ (7 * i) : Nat) : Int) := by
  rw [and127 c hc, wrapu_nat _ (by omega)]
  refine or_step acc _ i (by omega) hacc ?_
  have h1 : 2 ^ (7 * i) ≤ 2 ^ 56 := Nat.pow_le_pow_right (by omega) (by omega)
  have h2 : c % 128 * 2 ^ (7 * i) ≤ 127 * 2 ^ 56 := Nat.mul_le_mul (by omega) h1
  omega
theorem small_step {x i : Nat} (hi : i < 9) (hx : x < 128) : x * 2 ^ (7 * i) < 18446744073709551616 := by
  have h1 : 2 ^ (7 * i) ≤ 2 ^ 56 := Nat.pow_le_pow_right (by omega) (by omega)
  have h2 : x * 2 ^ (7 * i) ≤ 127 * 2 ^ 56 := Nat.mul_le_mul (by omega) h1
  omega
theorem acc_next {acc i x : Nat} (hacc : acc < 2 ^ (7 * i)) : acc + x % 128 * 2 ^ (7 * i) < 2 ^ (7 * (i + 1)) := by
  have h1 : 2 ^ (7 * (i + 1)) = 2 ^ (7 * i) * 128 := by rw [show 7 * (i + 1) = 7 * i + 7 by omega, Nat.pow_add]
  have h2 : x % 128 * 2 ^ (7 * i) ≤ 127 * 2 ^ (7 * i) := Nat.mul_le_mul_right _ (by omega)
  omega

theorem getGo_form {f i acc : Nat} {c : UInt8} {r : List UInt8} (h : i = 9 ∧ 1 < c.toNat ∨ 0 < i ∧ c.toNat = 0) : getGo (f + 1) i acc (c :: r) = (0, 0, 11) := by
  rw [getGo, if_pos h]
theorem getGo_end {f i acc : Nat} {c : UInt8} {r : List UInt8} (h : ¬ (i = 9 ∧ 1 < c.toNat ∨ 0 < i ∧ c.toNat = 0)) (h1 : c.toNat < 128) : getGo (f + 1) i acc (c :: r) = (acc + c.toNat * 2 ^ (7 * i), i + 1, 0) := by
  rw [getGo, if_neg h, if_pos h1]
theorem getGo_go {f i acc : Nat} {c : UInt8} {r : List UInt8} (h : ¬ (i = 9 ∧ 1 < c.toNat ∨ 0 < i ∧ c.toNat = 0)) (h1 : ¬ c.toNat < 128) : getGo (f + 1) i acc (c :: r) = getGo f (i + 1) (acc + c.toNat % 128 * 2 ^ (7 * i)) r := by
  rw [getGo, if_neg h, if_neg h1]
theorem drop_cons {bs : List UInt8} {i : Nat} {c : UInt8} (h : bs[i]? = some c) : bs.drop i = c :: bs.drop (i + 1) := by
  obtain ⟨hl, rfl⟩ := List.getElem?_eq_some_iff.1 h
  exact List.drop_eq_getElem_cons hl

theorem ref_step (acc c wt i : Nat) (hw : wt = 2 ^ (7 * i)) (hb : acc + c % 128 * 2 ^ (7 * i) < 18446744073709551616) :
    IntKind.u64.wrap ((acc : Int) + IntKind.u64.wrap ((c : Int) % 128 * (wt : Int))) = ((acc + c % 128 * 2 ^ (7 * i) : Nat) : Int) := by
  subst hw
  have e : (c : Int) % 128 * ((2 ^ (7 * i) : Nat) : Int) = ((c % 128 * 2 ^ (7 * i) : Nat) : Int) := by simp
  rw [e, wrapu_nat _ (by omega), ← Int.natCast_add, wrapu_nat _ hb]
theorem wt_next (wt i : Nat) (hw : wt = 2 ^ (7 * i)) (hi : i < 9) : IntKind.u64.wrap ((wt : Int) * 128) = ((2 ^ (7 * (i + 1)) : Nat) : Int) := by
  have h1 : 2 ^ (7 * (i + 1)) = 2 ^ (7 * i) * 128 := by rw [show 7 * (i + 1) = 7 * i + 7 by omega, Nat.pow_add]
  have h2 : 2 ^ (7 * (i + 1)) ≤ 2 ^ 63 := Nat.pow_le_pow_right (by omega) (by omega)
  rw [h1] at h2
  rw [h1, ← hw, show (wt : Int) * 128 = ((wt * 128 : Nat) : Int) by simp, wrapu_nat _ (by omega)]
theorem sum_bound {acc i x : Nat} (hi : i < 9) (hacc : acc < 2 ^ (7 * i)) : acc + x % 128 * 2 ^ (7 * i) < 18446744073709551616 := by
  have := acc_next (x := x) hacc
  have h2 : 2 ^ (7 * (i + 1)) ≤ 2 ^ 63 := Nat.pow_le_pow_right (by omega) (by omega)
  omega

theorem sum_bound9 {acc x : Nat} (hx : x ≤ 1) (hacc : acc < 2 ^ (7 * 9)) : acc + x % 128 * 2 ^ (7 * 9) < 18446744073709551616 := by
  have e : 2 ^ (7 * 9) = 9223372036854775808 := by decide
  rw [e] at hacc ⊢
  omega

/-- What sibylref01.Put's loop keeps: the groups put, the last one without its mark, what is left of the number. -/
def RP (n k r f : Nat) (cs : List UInt8) : Prop := (k = 0 ∧ cs ++ [UInt8.ofNat r] = form n) ∨ (0 < k ∧ (cs ++ [UInt8.ofNat (r + 128)]) ++ formF f k = form n)
theorem RP.start (n : Nat) : RP n (n / 128) (n % 128) 8 [] := by
  by_cases h : n < 128
  · refine .inl ⟨by omega, ?_⟩
    rw [Nat.mod_eq_of_lt h]
    exact (formF_stop h).symm
  · refine .inr ⟨by omega, ?_⟩
    exact (formF_go h).symm
theorem RP.next {n k r f : Nat} {cs : List UInt8} (h : RP n k r f cs) (hk : 0 < k) (hf : k < 2 * 128 ^ f) : RP n (k / 128) (k % 128) (f - 1) (cs ++ [UInt8.ofNat (r + 128)]) := by
  rcases h with ⟨h0, _⟩ | ⟨_, h⟩
  · omega
  · by_cases hlt : k < 128
    · refine .inl ⟨by omega, ?_⟩
      rw [formF_stop hlt] at h
      rw [Nat.mod_eq_of_lt hlt]
      exact h
    · refine .inr ⟨by omega, ?_⟩
      have := round_lt hf (by omega)
      obtain ⟨g, rfl⟩ : ∃ g, f = g + 1 := ⟨f - 1, by omega⟩
      rw [formF_go hlt] at h
      rw [← h]
      simp
theorem RP.done {n r f : Nat} {cs : List UInt8} (h : RP n 0 r f cs) : form n = cs ++ [UInt8.ofNat r] := by
  rcases h with ⟨_, h⟩ | ⟨h, _⟩
  · exact h.symm
  · omega
theorem bv_nat (r : Nat) (h : r < 256) : Value.int IntKind.u8 (r : Int) = bv (UInt8.ofNat r) := by
  have : (UInt8.ofNat r).toNat = r := by rw [UInt8.toNat_ofNat']; omega
  rw [bv, this]
theorem RP.lt_next {k f : Nat} (hk : k < 2 * 128 ^ f) (h : 0 < k) : k / 128 < 2 * 128 ^ (f - 1) := by
  by_cases hlt : k < 128
  · have : 0 < 128 ^ (f - 1) := Nat.pow_pos (by omega)
    omega
  · exact (round_lt hk (by omega)).2

theorem quo_nowrap {k f : Nat} (hk : k < 2 * 128 ^ f) (hf : f ≤ 8) : IntKind.u64.wrap ((k : Int) / 128) = (k : Int) / 128 := by
  have : 128 ^ f ≤ 128 ^ 8 := Nat.pow_le_pow_right (by omega) hf
  rw [IntKind.wrap_u64]; omega

theorem rp_row (cs : List UInt8) (r k : Nat) (hr : r < 128) : (cs.map bv ++ [Value.int IntKind.u8 (r : Int)]).set cs.length (Value.int IntKind.u8 ((r : Int) + 128)) ++ [Value.int IntKind.u8 ((k : Int) % 128)] =
    (cs ++ [UInt8.ofNat (r + 128)]).map bv ++ [Value.int IntKind.u8 ((k % 128 : Nat) : Int)] := by
  rw [show ((r : Int) + 128) = ((r + 128 : Nat) : Int) by omega, bv_nat (r + 128) (by omega)]
  simp

theorem rp_len {cs : List UInt8} {c : UInt8} {k f : Nat} (hk : k < 2 * 128 ^ f) (h0 : 0 < k) (h : cs.length + f ≤ 8 ∨ k = 0 ∧ cs.length ≤ 9) : (cs ++ [c]).length + (f - 1) ≤ 8 ∨ k / 128 = 0 ∧ (cs ++ [c]).length ≤ 9 := by
  rcases Nat.eq_zero_or_pos f with rfl | hf
  · exact .inr ⟨by omega, by simp; omega⟩
  · exact .inl (by simp; omega)

/-- The number of an int (P1.2). -/
def turnS (k : Int) : Int := if 0 ≤ k then 2 * k else -2 * k - 1
/-- The int of a number (P1.2). -/
def backS (n : Nat) : Int := if n % 2 = 0 then (n / 2 : Nat) else -((n / 2 : Nat) : Int) - 1
theorem xor_mask (x : Nat) (h : x < 18446744073709551616) : bits BinOp.xor IntKind.u64 (x : Int) 18446744073709551615 = ((18446744073709551615 - x : Nat) : Int) := by
  rw [show (18446744073709551615 : Int) = ((18446744073709551615 : Nat) : Int) from rfl, u64_xor_nat x _ h (by omega)]
  congr 1
  have h1 : x < 2 ^ 64 := h
  apply Nat.eq_of_testBit_eq
  intro i
  rw [Nat.testBit_xor, show 18446744073709551615 = 2 ^ 64 - 1 from rfl, Nat.testBit_two_pow_sub_one, show 2 ^ 64 - 1 - x = 2 ^ 64 - (x + 1) by omega, Nat.testBit_two_pow_sub_succ h1]
  by_cases hi : i < 64
  · simp [hi]
  · have : x.testBit i = false := Nat.testBit_lt_two_pow (Nat.lt_of_lt_of_le h1 (Nat.pow_le_pow_right (by omega) (by omega)))
    simp [hi, this]
theorem turn_val (k : Int) (h1 : -9223372036854775808 ≤ k) (h2 : k ≤ 9223372036854775807) :
    bits BinOp.xor IntKind.u64 (IntKind.u64.wrap (IntKind.u64.wrap k * 2)) (IntKind.u64.wrap (k / 9223372036854775808)) = turnS k := by
  unfold turnS
  by_cases h : 0 ≤ k
  · rw [if_pos h]
    obtain ⟨m, rfl⟩ := Int.eq_ofNat_of_zero_le h
    have e1 : IntKind.u64.wrap ((m : Int) / 9223372036854775808) = ((0 : Nat) : Int) := by rw [IntKind.wrap_u64]; omega
    have e2 : IntKind.u64.wrap (IntKind.u64.wrap (m : Int) * 2) = ((2 * m : Nat) : Int) := by rw [IntKind.wrap_u64, IntKind.wrap_u64]; omega
    rw [e1, e2, u64_xor_nat _ _ (by omega) (by omega)]
    simp
  · rw [if_neg h]
    obtain ⟨m, hm⟩ := Int.eq_ofNat_of_zero_le (a := -k - 1) (by omega)
    obtain rfl : k = -(m : Int) - 1 := by omega
    have e1 : IntKind.u64.wrap ((-(m : Int) - 1) / 9223372036854775808) = 18446744073709551615 := by rw [IntKind.wrap_u64]; omega
    have e2 : IntKind.u64.wrap (IntKind.u64.wrap (-(m : Int) - 1) * 2) = ((18446744073709551616 - 2 * (m + 1) : Nat) : Int) := by rw [IntKind.wrap_u64, IntKind.wrap_u64]; omega
    rw [e1, e2, xor_mask _ (by omega)]
    omega

theorem xor_ones (x : Nat) (h : x < 9223372036854775808) : bits BinOp.xor IntKind.i64 (x : Int) (-1) = -(x : Int) - 1 := by
  show IntKind.i64.wrap ((BitVec.ofInt 64 (x : Int) ^^^ BitVec.ofInt 64 (-1)).toNat : Int) = _
  have e : BitVec.ofInt 64 (-1) = BitVec.allOnes 64 := by decide
  rw [e, BitVec.xor_allOnes, BitVec.toNat_not, ofInt_i64 x h, IntKind.wrap_i64]
  omega
theorem back_val (n : Nat) (h : n < 18446744073709551616) :
    bits BinOp.xor IntKind.i64 (wrap64 ((n : Int) / 2)) (wrap64 (-wrap64 (bits BinOp.and IntKind.u64 (n : Int) 1))) = backS n := by
  have ea : bits BinOp.and IntKind.u64 (n : Int) 1 = ((n % 2 : Nat) : Int) := by
    rw [show (1 : Int) = ((1 : Nat) : Int) from rfl, u64_and_nat n 1 h (by omega), Nat.and_one_is_mod]
  have e0 : wrap64 ((n : Int) / 2) = ((n / 2 : Nat) : Int) := by unfold wrap64; omega
  rw [ea, e0]
  unfold backS
  by_cases hm : n % 2 = 0
  · rw [if_pos hm, hm, show wrap64 (-wrap64 ((0 : Nat) : Int)) = ((0 : Nat) : Int) by unfold wrap64; omega]
    show IntKind.i64.wrap ((BitVec.ofInt 64 ((n / 2 : Nat) : Int) ^^^ BitVec.ofInt 64 ((0 : Nat) : Int)).toNat : Int) = _
    rw [BitVec.toNat_xor, ofInt_i64 _ (by omega), ofInt_i64 _ (by omega), IntKind.wrap_i64, Nat.xor_zero]
    omega
  · rw [if_neg hm, show n % 2 = 1 by omega, show wrap64 (-wrap64 ((1 : Nat) : Int)) = -1 by unfold wrap64; omega]
    exact xor_ones _ (by omega)
theorem refBack_even (n : Nat) (h : n < 18446744073709551616) (hm : n % 2 = 0) : wrap64 (IntKind.u64.wrap ((n : Int) / 2)) = backS n := by
  unfold backS
  rw [if_pos hm, IntKind.wrap_u64]
  unfold wrap64
  omega
theorem refBack_odd (n : Nat) (h : n < 18446744073709551616) (hm : n % 2 = 1) : wrap64 (wrap64 (-wrap64 (IntKind.u64.wrap ((n : Int) / 2))) - 1) = backS n := by
  unfold backS
  rw [if_neg (by omega), IntKind.wrap_u64]
  unfold wrap64
  omega
theorem turnS_pos {k : Int} (h : 0 ≤ k) : 2 * k = turnS k := by rw [turnS, if_pos h]
theorem turnS_neg {k : Int} (h : ¬ 0 ≤ k) : 2 * -(k + 1) + 1 = turnS k := by rw [turnS, if_neg h]; omega

end Go.Proofs.Yteambdbcjcfdeaa
