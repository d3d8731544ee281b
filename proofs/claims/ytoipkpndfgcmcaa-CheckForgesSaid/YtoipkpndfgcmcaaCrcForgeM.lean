/-
  Forge as plain mathematics: four bytes at a place give a text any sum, and no other four do. No program in sight.
-/
import Derived.Test.YtoipkpndfgcmcaaCrcBack
namespace Go.Proofs.Ytoipkpndfgcmcaa
open Go.RowKit

/-- The register of which the bytes make y. -/
def inv (y : Nat) (l : List UInt8) : Nat := l.foldr (fun c y => bn 8 y ^^^ c.toNat) y
theorem inv_lt {y : Nat} (h : y < U32) (l : List UInt8) : inv y l < U32 := by
  induction l with
  | nil => exact h
  | cons c l ih => exact xor_lt (bn_lt ih 8) (u8_lt c)
theorem crc_inv {y : Nat} (h : y < U32) (l : List UInt8) : crc (inv y l) l = y := by
  induction l with
  | nil => rfl
  | cons c l ih =>
    rw [crc_cons]
    have e : tk (inv y (c :: l)) c = inv y l := by
      show stp8 ((bn 8 (inv y l) ^^^ c.toNat) ^^^ c.toNat) = _
      rw [xor_cancel, stp8_sn, sn_bn (inv_lt h l)]
    rw [e, ih]
theorem crc_inj {a b : Nat} (ha : a < U32) (hb : b < U32) (l : List UInt8) (h : crc a l = crc b l) : a = b := by
  induction l generalizing a b with
  | nil => exact h
  | cons c l ih =>
    rw [crc_cons, crc_cons] at h
    have := ih (tk_lt ha c) (tk_lt hb c) h
    unfold tk at this
    rw [stp8_sn, stp8_sn] at this
    have := sn_inj (xor_lt ha (u8_lt c)) (xor_lt hb (u8_lt c)) this
    have := congrArg (· ^^^ c.toNat) this
    simpa only [xor_cancel] using this
/-- The number of the four bytes. -/
def fq (bs : List UInt8) (p x : Nat) : Nat := bn 32 (inv (x ^^^ ONES) (bs.drop (p + 4))) ^^^ crc ONES (bs.take p)
/-- The bytes with the four of the number q at the place. -/
def at4 (bs : List UInt8) (p q : Nat) : List UInt8 := bs.take p ++ (le4 q ++ bs.drop (p + 4))
def forged (bs : List UInt8) (p x : Nat) : List UInt8 := at4 bs p (fq bs p x)
theorem fq_lt (bs : List UInt8) (p : Nat) {x : Nat} (hx : x < U32) : fq bs p x < U32 := xor_lt (bn_lt (inv_lt (xor_lt hx ones_lt) _) _) (crc_lt ones_lt _)
theorem at4_len {bs : List UInt8} {p : Nat} (q : Nat) (h : p + 4 ≤ bs.length) : (at4 bs p q).length = bs.length := by
  simp only [at4, List.length_append, List.length_take, List.length_drop, le4_len]
  omega
theorem at4_sum (bs : List UInt8) (p q : Nat) (hq : q < U32) : upd 0 (at4 bs p q) = crc (sn 32 (crc ONES (bs.take p) ^^^ q)) (bs.drop (p + 4)) ^^^ ONES := by
  unfold upd at4
  rw [Nat.zero_xor, crc_append, crc_append, feed4 _ _ hq]
theorem forged_sum (bs : List UInt8) (p : Nat) {x : Nat} (hx : x < U32) : upd 0 (forged bs p x) = x := by
  unfold forged
  rw [at4_sum _ _ _ (fq_lt bs p hx)]
  have e : crc ONES (bs.take p) ^^^ fq bs p x = bn 32 (inv (x ^^^ ONES) (bs.drop (p + 4))) := by
    unfold fq
    rw [Nat.xor_comm, xor_cancel]
  rw [e, sn_bn (inv_lt (xor_lt hx ones_lt) _), crc_inv (xor_lt hx ones_lt), xor_cancel]
theorem at4_inj (bs : List UInt8) (p : Nat) {q r : Nat} (hq : q < U32) (hr : r < U32) (h : upd 0 (at4 bs p q) = upd 0 (at4 bs p r)) : q = r := by
  rw [at4_sum _ _ _ hq, at4_sum _ _ _ hr] at h
  have h := congrArg (· ^^^ ONES) h
  simp only [xor_cancel] at h
  have hc := crc_lt ones_lt (bs.take p)
  have h := crc_inj (sn_lt (xor_lt hc hq) _) (sn_lt (xor_lt hc hr) _) _ h
  have h := sn_inj (xor_lt hc hq) (xor_lt hc hr) h
  have h := congrArg (crc ONES (bs.take p) ^^^ ·) h
  simpa only [← Nat.xor_assoc, Nat.xor_self, Nat.zero_xor] using h
/-- No other four bytes at the place give that sum. -/
theorem forged_only (bs : List UInt8) (p q : Nat) (hq : q < U32) : forged bs p (upd 0 (at4 bs p q)) = at4 bs p q := by
  have hx : upd 0 (at4 bs p q) < U32 := upd_lt (by decide) _
  have := forged_sum bs p hx
  unfold forged at this ⊢
  rw [at4_inj bs p (fq_lt bs p hx) hq this]
theorem forged_iff (bs : List UInt8) (p q : Nat) (hq : q < U32) {x : Nat} (hx : x < U32) : upd 0 (at4 bs p q) = x ↔ at4 bs p q = forged bs p x := by
  constructor
  · rintro rfl
    exact (forged_only bs p q hq).symm
  · intro h
    rw [h, forged_sum bs p hx]
theorem sealed_sum (bs : List UInt8) : upd 0 (bs ++ le4 (upd 0 bs)) = 558161692 := by
  have h : whole (bs ++ le4 (upd 0 bs)) = true := by
    rw [whole_long (m := bs.length) (by simp [le4_len])]
    simp
  rw [whole_sum] at h
  simp only [Bool.and_eq_true, beq_iff_eq] at h
  exact h.2
theorem inv_snoc (y : Nat) (l : List UInt8) (c : UInt8) : inv y (l ++ [c]) = inv (bn 8 y ^^^ c.toNat) l := by unfold inv; rw [List.foldr_append]; rfl
end Go.Proofs.Ytoipkpndfgcmcaa
