/-
  One form: what is put is got whatever stands behind; a form cut short ends too soon; what is got of any bytes is put as just those bytes. Plain mathematics, no program in sight.
-/
import Derived.Test.YteambdbcjcfdeaaLebMath
namespace Go.Proofs.Yteambdbcjcfdeaa
open Go.RowKit

theorem u8_nat (k : Nat) (h : k < 256) : (UInt8.ofNat k).toNat = k := by rw [UInt8.toNat_ofNat']; omega
theorem pow7 (i : Nat) : 2 ^ (7 * (i + 1)) = 128 * 2 ^ (7 * i) := by rw [show 7 * (i + 1) = 7 + 7 * i by omega, Nat.pow_add]

theorem get_form_go : ∀ (f i acc n : Nat) (b : List UInt8), i + f = 9 → n < 2 * 128 ^ f → (0 < i → 0 < n) → getGo (f + 1) i acc (formF f n ++ b) = (acc + n * 2 ^ (7 * i), i + (formF f n).length, 0) := by
  intro f
  induction f with
  | zero =>
    intro i acc n b hi hn h0
    have hn' : n < 2 := by simpa using hn
    rw [formF_stop (by omega), List.singleton_append, getGo_end (by rw [u8_nat n (by omega)]; omega) (by rw [u8_nat n (by omega)]; omega), u8_nat n (by omega)]
    rfl
  | succ f ih =>
    intro i acc n b hi hn h0
    by_cases h : n < 128
    · rw [formF_stop h, List.singleton_append, getGo_end (by rw [u8_nat n (by omega)]; omega) (by rw [u8_nat n (by omega)]; omega), u8_nat n (by omega)]
      rfl
    · rw [formF_go h, List.cons_append, getGo_go (by rw [u8_nat _ (by omega)]; omega) (by rw [u8_nat _ (by omega)]; omega), ih (i + 1) _ (n / 128) b (by omega) (by rw [Nat.pow_succ] at hn; omega) (by omega), u8_nat _ (by omega)]
      have e1 : (n % 128 + 128) % 128 = n % 128 := by omega
      have e2 : n % 128 * 2 ^ (7 * i) + n / 128 * 2 ^ (7 * (i + 1)) = n * 2 ^ (7 * i) := by
        rw [pow7, ← Nat.mul_assoc, ← Nat.add_mul]
        congr 1
        omega
      rw [e1, Nat.add_assoc, e2, List.length_cons]
      simp only [Prod.mk.injEq, true_and, and_true]
      omega
theorem get_form (n : Nat) (hn : n < U64) (b : List UInt8) : getS (form n ++ b) = (n, (form n).length, 0) := by
  have := get_form_go 9 0 0 n b rfl (by unfold U64 at hn; omega) (by omega)
  simpa [getS, form] using this

theorem get_cut_go : ∀ (f i acc n j : Nat), i + f = 9 → n < 2 * 128 ^ f → j < (formF f n).length → getGo (f + 1) i acc ((formF f n).take j) = (0, 0, 10) := by
  intro f
  induction f with
  | zero =>
    intro i acc n j _ _ hj
    have : j = 0 := by simp [formF] at hj; omega
    subst this
    rfl
  | succ f ih =>
    intro i acc n j hi hn hj
    cases j with
    | zero => rfl
    | succ j =>
      by_cases h : n < 128
      · rw [formF_stop h] at hj
        simp at hj
      · rw [formF_go h] at hj ⊢
        rw [List.take_succ_cons, getGo_go (by rw [u8_nat _ (by omega)]; omega) (by rw [u8_nat _ (by omega)]; omega)]
        exact ih (i + 1) _ (n / 128) j (by omega) (by rw [Nat.pow_succ] at hn; omega) (by simpa using hj)
theorem get_cut (n : Nat) (hn : n < U64) (j : Nat) (hj : j < (form n).length) : getS ((form n).take j) = (0, 0, 10) :=
  get_cut_go 9 0 0 n j rfl (by unfold U64 at hn; omega) hj

theorem get_back_go : ∀ (f i acc : Nat) (bs : List UInt8) (x l : Nat), i + f = 9 → getGo (f + 1) i acc bs = (x, l, 0) →
    i < l ∧ l ≤ i + bs.length ∧ ∃ y, x = acc + y * 2 ^ (7 * i) ∧ formF f y = bs.take (l - i) ∧ y < 2 * 128 ^ f ∧ (0 < i → 0 < y) := by
  intro f
  induction f with
  | zero =>
    intro i acc bs x l hi h
    cases bs with
    | nil => simp [getGo] at h
    | cons c r =>
      by_cases hc : i = 9 ∧ 1 < c.toNat ∨ 0 < i ∧ c.toNat = 0
      · rw [getGo_form hc] at h
        simp at h
      · have h1 : c.toNat < 128 := by omega
        rw [getGo_end hc h1] at h
        simp only [Prod.mk.injEq, and_true] at h
        obtain ⟨rfl, rfl⟩ := h
        refine ⟨by omega, by simp, c.toNat, rfl, ?_, by omega, by omega⟩
        rw [formF_stop h1, Nat.add_sub_cancel_left]
        simp
  | succ f ih =>
    intro i acc bs x l hi h
    cases bs with
    | nil => simp [getGo] at h
    | cons c r =>
      by_cases hc : i = 9 ∧ 1 < c.toNat ∨ 0 < i ∧ c.toNat = 0
      · rw [getGo_form hc] at h
        simp at h
      · by_cases h1 : c.toNat < 128
        · rw [getGo_end hc h1] at h
          simp only [Prod.mk.injEq, and_true] at h
          obtain ⟨rfl, rfl⟩ := h
          refine ⟨by omega, by simp, c.toNat, rfl, ?_, ?_, by omega⟩
          · rw [formF_stop h1, Nat.add_sub_cancel_left]
            simp
          · have : 0 < 128 ^ f := Nat.pow_pos (by omega)
            rw [Nat.pow_succ]
            omega
        · rw [getGo_go hc h1] at h
          obtain ⟨h2, h3, y, hx, hy, hb, h0⟩ := ih (i + 1) _ r x l (by omega) h
          have hlt := c.toNat_lt
          have hy0 := h0 (by omega)
          refine ⟨by omega, by simp; omega, c.toNat % 128 + 128 * y, ?_, ?_, ?_, by omega⟩
          · rw [hx, pow7, Nat.add_mul, Nat.add_assoc]
            congr 1
            congr 1
            rw [← Nat.mul_assoc, Nat.mul_comm y 128]
          · rw [formF_go (by omega), show (c.toNat % 128 + 128 * y) / 128 = y by omega, show (c.toNat % 128 + 128 * y) % 128 + 128 = c.toNat by omega, hy]
            obtain ⟨m, rfl⟩ : ∃ m, l = i + 1 + m := ⟨l - (i + 1), by omega⟩
            rw [show i + 1 + m - i = m + 1 by omega, show i + 1 + m - (i + 1) = m by omega, List.take_succ_cons]
            simp
          · rw [Nat.pow_succ]
            omega
theorem get_back {bs : List UInt8} {x l : Nat} (h : getS bs = (x, l, 0)) : l ≤ bs.length ∧ form x = bs.take l ∧ x < U64 := by
  obtain ⟨_, h2, y, hx, hy, hb, _⟩ := get_back_go 9 0 0 bs x l rfl h
  have hxy : x = y := by simpa using hx
  subst hxy
  exact ⟨by omega, hy, by unfold U64; omega⟩

theorem get_err_go : ∀ (f i acc : Nat) (bs : List UInt8) (x l e : Nat), getGo f i acc bs = (x, l, e) → e ≠ 0 → x = 0 ∧ l = 0 ∧ (e = 10 ∨ e = 11) := by
  intro f
  induction f with
  | zero =>
    intro i acc bs x l e h _
    simp only [getGo, Prod.mk.injEq] at h
    obtain ⟨rfl, rfl, rfl⟩ := h
    simp
  | succ f ih =>
    intro i acc bs x l e h he
    cases bs with
    | nil =>
      simp only [getGo, Prod.mk.injEq] at h
      obtain ⟨rfl, rfl, rfl⟩ := h
      simp
    | cons c r =>
      by_cases hc : i = 9 ∧ 1 < c.toNat ∨ 0 < i ∧ c.toNat = 0
      · rw [getGo_form hc] at h
        simp only [Prod.mk.injEq] at h
        obtain ⟨rfl, rfl, rfl⟩ := h
        simp
      · by_cases h1 : c.toNat < 128
        · rw [getGo_end hc h1] at h
          simp only [Prod.mk.injEq] at h
          exact absurd h.2.2.symm he
        · rw [getGo_go hc h1] at h
          exact ih _ _ _ _ _ _ h he
theorem get_err {bs : List UInt8} {x l e : Nat} (h : getS bs = (x, l, e)) (he : e ≠ 0) : x = 0 ∧ l = 0 ∧ (e = 10 ∨ e = 11) := get_err_go _ _ _ _ _ _ _ h he
end Go.Proofs.Yteambdbcjcfdeaa
