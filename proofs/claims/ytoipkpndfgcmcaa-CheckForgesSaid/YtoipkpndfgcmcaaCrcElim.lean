/-
  The document's elimination as plain mathematics: of 32 columns that are independent it makes unit columns; what makes them gives the four bytes. No program in sight.
-/
import Derived.Test.YtoipkpndfgcmcaaCrcForgeM
import Derived.Test.YtoipkpndfgcmcaaCrcJoin
namespace Go.Proofs.Ytoipkpndfgcmcaa
open Go.RowKit

theorem odd_bit (a k : Nat) : (a / 2 ^ k) % 2 = 1 ↔ a.testBit k = true := by
  rw [Nat.testBit_eq_decide_div_mod_eq]
  simp
/-- Whatever is closed and holds all columns, holds y. -/
def Spans (c : Nat → Nat) (y : Nat) : Prop := ∀ S : Nat → Prop, S 0 → (∀ a b, S a → S b → S (a ^^^ b)) → (∀ i, i < 32 → S (c i)) → S y
theorem Spans.mono {c c' : Nat → Nat} {y : Nat} (h : Spans c y) (hc : ∀ i, i < 32 → Spans c' (c i)) : Spans c' y :=
  fun S h0 hx hs => h S h0 hx fun i hi => hc i hi S h0 hx hs
theorem Spans.own {c : Nat → Nat} {i : Nat} (hi : i < 32) : Spans c (c i) := fun _ _ _ hs => hs i hi
theorem Spans.add {c : Nat → Nat} {a b : Nat} (ha : Spans c a) (hb : Spans c b) : Spans c (a ^^^ b) := fun S h0 hx hs => hx _ _ (ha S h0 hx hs) (hb S h0 hx hs)
theorem spans_bits (f : Nat → Nat) (h0 : f 0 = 0) (hx : ∀ a b, f (a ^^^ b) = f a ^^^ f b) (q : Nat) (hq : q < U32) : Spans (fun i => f (2 ^ i)) (f q) := by
  intro S s0 sx sc
  have : ∀ n, n ≤ 32 → S (f (q % 2 ^ n)) := by
    intro n hn
    induction n with
    | zero => rw [Nat.pow_zero, Nat.mod_one, h0]; exact s0
    | succ n ih =>
      rw [bit_split, hx]
      refine sx _ _ (ih (by omega)) ?_
      split
      · exact sc n (by omega)
      · rw [h0]; exact s0
  have h := this 32 (Nat.le_refl _)
  rwa [Nat.mod_eq_of_lt (by unfold U32 at hq; exact hq)] at h
/-- Of bits j < n of y: the xor of bit k of the columns at the ones that are set. -/
def par (c : Nat → Nat) (k y : Nat) : Nat → Bool
  | 0 => false
  | n + 1 => par c k y n ^^ (y.testBit n && (c n).testBit k)
theorem par_zero (c : Nat → Nat) (k n : Nat) : par c k 0 n = false := by
  induction n with
  | zero => rfl
  | succ n ih => simp [par, ih]
theorem par_xor (c : Nat → Nat) (k a b n : Nat) : par c k (a ^^^ b) n = (par c k a n ^^ par c k b n) := by
  induction n with
  | zero => rfl
  | succ n ih =>
    rw [par, par, par, ih, Nat.testBit_xor]
    cases par c k a n <;> cases par c k b n <;> cases a.testBit n <;> cases b.testBit n <;> cases (c n).testBit k <;> rfl
theorem par_none {c : Nat → Nat} {k y n : Nat} (h : ∀ j, j < n → y.testBit j = false) : par c k y n = false := by
  induction n with
  | zero => rfl
  | succ n ih => rw [par, ih (fun j hj => h j (by omega)), h n (by omega)]; rfl
theorem par_one {c : Nat → Nat} {k y n i : Nat} (hi : i < n) (h : ∀ j, j < n → y.testBit j = decide (j = i)) : par c k y n = (c i).testBit k := by
  induction n with
  | zero => omega
  | succ n ih =>
    rw [par, h n (by omega)]
    by_cases he : n = i
    · subst he
      rw [par_none (fun j hj => by rw [h j (by omega)]; simp; omega)]
      simp
    · rw [ih (by omega) (fun j hj => h j (by omega))]
      simp [he]

/-- How things stand when k columns are done: K: how many steps stand between a number at the place and the sum. -/
structure Elim (K k : Nat) (c m : Nat → Nat) : Prop where
  small : ∀ i, i < 32 → m i < U32
  of : ∀ i, i < 32 → c i = sn K (m i)
  all : ∀ y, y < U32 → Spans c y
  unit : ∀ j, j < k → ∀ i, i < 32 → (c i).testBit j = decide (i = j)
theorem Elim.low {K k : Nat} {c m : Nat → Nat} (h : Elim K k c m) {i : Nat} (hi : i < 32) : c i < U32 := by rw [h.of i hi]; exact sn_lt (h.small i hi) K
theorem elim_start (K : Nat) : Elim K 0 (fun i => sn K (2 ^ i)) (fun i => 2 ^ i) where
  small i hi := pow_lt32 hi
  of i hi := rfl
  all y hy := by
    have := spans_bits (sn K) (sn_zero K) (sn_xor K) (bn K y) (bn_lt hy K)
    rwa [sn_bn hy] at this
  unit j hj := by omega
theorem Elim.pivot {K k : Nat} {c m : Nat → Nat} (h : Elim K k c m) (hk : k < 32) (hn : ∀ i, k ≤ i → i < 32 → (c i).testBit k = false) : False := by
  have := h.all (2 ^ k) (pow_lt32 hk) (fun y => y.testBit k = par c k y k) (by rw [par_zero]; simp) (fun a b ha hb => by rw [Nat.testBit_xor, par_xor, ha, hb]) (fun i hi => by
    by_cases hik : i < k
    · exact (par_one hik (fun j hj => by rw [h.unit j hj i hi]; simp [eq_comm])).symm
    · rw [hn i (by omega) hi, par_none (fun j hj => by rw [h.unit j hj i hi]; simp; omega)])
  rw [Nat.testBit_two_pow_self, par_none (fun j hj => by rw [Nat.testBit_two_pow]; simp; omega)] at this
  cases this
def swp (a : Nat → Nat) (k p : Nat) : Nat → Nat := fun i => if i = k then a p else if i = p then a k else a i
theorem Elim.swap {K k : Nat} {c m : Nat → Nat} (h : Elim K k c m) {p : Nat} (hk : k < 32) (hp : k ≤ p) (hp' : p < 32) : Elim K k (swp c k p) (swp m k p) where
  small i hi := by
    unfold swp
    split
    · exact h.small p hp'
    · split
      · exact h.small k hk
      · exact h.small i hi
  of i hi := by
    unfold swp
    split
    · exact h.of p hp'
    · split
      · exact h.of k hk
      · exact h.of i hi
  all y hy := (h.all y hy).mono fun i hi => by
    by_cases h1 : i = k
    · have e : swp c k p p = c i := by unfold swp; by_cases hpk : p = k <;> simp [h1, hpk]
      rw [← e]; exact Spans.own hp'
    · by_cases h2 : i = p
      · have e : swp c k p k = c i := by unfold swp; simp [h2]
        rw [← e]; exact Spans.own hk
      · have e : swp c k p i = c i := by unfold swp; simp [h1, h2]
        rw [← e]; exact Spans.own hi
  unit j hj i hi := by
    unfold swp
    split
    · rw [h.unit j hj p hp']; simp; omega
    · split
      · rw [h.unit j hj k hk]; simp; omega
      · exact h.unit j hj i hi
/-- The first n rows, but row k, freed of bit k. -/
def red (c a : Nat → Nat) (k n : Nat) : Nat → Nat := fun i => if i < n ∧ i ≠ k ∧ (c i).testBit k = true then a i ^^^ a k else a i
theorem red_zero (c a : Nat → Nat) (k : Nat) : red c a k 0 = a := by funext i; simp [red]
theorem red_self (c a : Nat → Nat) (k n : Nat) : red c a k n k = a k := by simp [red]
theorem red_at (c a : Nat → Nat) (k n : Nat) : red c a k n n = a n := by simp [red]
theorem red_skip {c a : Nat → Nat} {k n : Nat} (h : ¬ (n ≠ k ∧ (c n).testBit k = true)) : red c a k (n + 1) = red c a k n := by
  funext i
  unfold red
  by_cases hi : i = n
  · subst hi
    rw [if_neg (fun hh => h hh.2), if_neg (fun hh => h hh.2)]
  · have : i < n + 1 ↔ i < n := by omega
    simp only [this]
theorem red_take {c a : Nat → Nat} {k n : Nat} (h : n ≠ k ∧ (c n).testBit k = true) : red c a k (n + 1) = fun i => if i = n then red c a k n n ^^^ red c a k n k else red c a k n i := by
  funext i
  rw [red_at, red_self]
  by_cases hi : i = n
  · subst hi
    rw [if_pos rfl]
    unfold red
    rw [if_pos ⟨by omega, h⟩]
  · rw [if_neg hi]
    have : i < n + 1 ↔ i < n := by omega
    unfold red
    simp only [this]
theorem Elim.reduce {K k : Nat} {c m : Nat → Nat} (h : Elim K k c m) (hk : k < 32) (hb : (c k).testBit k = true) : Elim K (k + 1) (red c c k 32) (red c m k 32) where
  small i hi := by
    unfold red
    split
    · exact xor_lt (h.small i hi) (h.small k hk)
    · exact h.small i hi
  of i hi := by
    unfold red
    split
    · rw [h.of i hi, h.of k hk, sn_xor]
    · exact h.of i hi
  all y hy := (h.all y hy).mono fun i hi => by
    have hkk := Spans.own (c := red c c k 32) hk
    rw [red_self] at hkk
    by_cases hc : i < 32 ∧ i ≠ k ∧ (c i).testBit k = true
    · have e : red c c k 32 i = c i ^^^ c k := by unfold red; rw [if_pos hc]
      have := (Spans.own (c := red c c k 32) hi).add hkk
      rw [e, xor_cancel] at this
      exact this
    · have e : red c c k 32 i = c i := by unfold red; rw [if_neg hc]
      rw [← e]; exact Spans.own hi
  unit j hj i hi := by
    by_cases hjk : j = k
    · subst hjk
      unfold red
      by_cases hij : i = j
      · subst hij
        rw [if_neg (fun hh => hh.2.1 rfl), hb]
        simp
      · cases ht : (c i).testBit j
        · rw [if_neg (fun hh => by cases hh.2.2), ht]
          simp [hij]
        · rw [if_pos ⟨hi, hij, rfl⟩, Nat.testBit_xor, ht, hb]
          simp [hij]
    · have hj' : j < k := by omega
      unfold red
      split
      · rw [Nat.testBit_xor, h.unit j hj' i hi, h.unit j hj' k hk]
        have : ¬ k = j := by omega
        simp [this]
      · exact h.unit j hj' i hi
/-- When all is done, what makes the rows gives the number that makes y. -/
theorem Elim.done {K : Nat} {c m : Nat → Nat} (h : Elim K 32 c m) {y : Nat} (hy : y < U32) : sn K (thr m y 32) = y ∧ thr m y 32 < U32 := by
  refine ⟨?_, thr_lt h.small y 32 (Nat.le_refl _)⟩
  have e : ∀ n, n ≤ 32 → sn K (thr m y n) = y % 2 ^ n := by
    intro n hn
    induction n with
    | zero => simp [thr, sn_zero, Nat.mod_one]
    | succ n ih =>
      rw [thr, sn_xor, ih (by omega), bit_split]
      congr 1
      split
      · rw [← h.of n (by omega)]
        apply Nat.eq_of_testBit_eq
        intro j
        by_cases hj : j < 32
        · rw [h.unit j hj n (by omega), Nat.testBit_two_pow]
        · have h1 : (c n).testBit j = false := Nat.testBit_lt_two_pow (Nat.lt_of_lt_of_le (h.low (by omega)) (Nat.pow_le_pow_right (n := 2) (by omega) (by omega : 32 ≤ j)))
          rw [h1, Nat.testBit_two_pow]
          simp
          omega
      · exact sn_zero K
  rw [e 32 (Nat.le_refl _), Nat.mod_eq_of_lt (by unfold U32 at hy; exact hy)]

/-- What the number at the place does to the sum. -/
def lng (bs : List UInt8) (p : Nat) : Nat := 8 * (bs.drop (p + 4)).length + 32
theorem at4_lin (bs : List UInt8) (p q : Nat) (hq : q < U32) : upd 0 (at4 bs p q) ^^^ upd 0 (at4 bs p 0) = sn (lng bs p) q := by
  rw [at4_sum _ _ _ hq, at4_sum _ _ _ (by decide), sn_xor 32, sn_xor 32, sn_zero, Nat.xor_zero, crc_add, lng, sn_add]
  rw [show ∀ a b o : Nat, (a ^^^ b ^^^ o) ^^^ (a ^^^ o) = b from fun a b o => by
    apply Nat.eq_of_testBit_eq
    intro i
    simp only [Nat.testBit_xor]
    cases a.testBit i <;> cases b.testBit i <;> cases o.testBit i <;> rfl]
theorem elim_forged (bs : List UInt8) (p : Nat) {x : Nat} (hx : x < U32) {c m : Nat → Nat} (h : Elim (lng bs p) 32 c m) :
    thr m (x ^^^ upd 0 (at4 bs p 0)) 32 < U32 ∧ at4 bs p (thr m (x ^^^ upd 0 (at4 bs p 0)) 32) = forged bs p x := by
  have h0 : upd 0 (at4 bs p 0) < U32 := upd_lt (by decide) _
  obtain ⟨h1, h2⟩ := h.done (xor_lt hx h0)
  refine ⟨h2, (forged_iff bs p _ h2 hx).1 ?_⟩
  have e := at4_lin bs p _ h2
  rw [h1] at e
  have := congrArg (· ^^^ upd 0 (at4 bs p 0)) e
  simpa only [xor_cancel] using this
theorem le4_zero : le4 0 = [0, 0, 0, 0] := by decide
theorem le4_pow : ∀ i, i < 32 → le4 (2 ^ i) = (le4 0).set (i / 8) (UInt8.ofNat (2 ^ (i % 8))) := by decide +kernel
/-- The one bit set at the place. -/
theorem at4_bit {bs : List UInt8} {p i : Nat} (hp : p + 4 ≤ bs.length) (hi : i < 32) : (at4 bs p 0).set (p + i / 8) (UInt8.ofNat (2 ^ (i % 8))) = at4 bs p (2 ^ i) := by
  unfold at4
  have h1 : (bs.take p).length = p := by simp; omega
  rw [List.set_append_right _ _ (by omega), h1, show p + i / 8 - p = i / 8 by omega, List.set_append_left _ _ (by rw [le4_len]; omega), le4_pow i hi]
theorem at4_unbit {bs : List UInt8} {p i : Nat} (hp : p + 4 ≤ bs.length) (hi : i < 32) : (at4 bs p (2 ^ i)).set (p + i / 8) 0 = at4 bs p 0 := by
  rw [← at4_bit hp hi, List.set_set]
  unfold at4
  have h1 : (bs.take p).length = p := by simp; omega
  rw [List.set_append_right _ _ (by omega), h1, show p + i / 8 - p = i / 8 by omega, List.set_append_left _ _ (by rw [le4_len]; omega)]
  congr 2
  have : ∀ j, j < 4 → (le4 0).set j 0 = le4 0 := by decide
  exact this _ (by omega)
end Go.Proofs.Ytoipkpndfgcmcaa
