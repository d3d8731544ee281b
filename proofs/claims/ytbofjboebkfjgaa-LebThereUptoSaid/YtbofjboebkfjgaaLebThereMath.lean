/-
  What the same reads answer of what was put: plain maths, no program in sight.
-/
import Derived.Test.YtbofjboebkfjgaaLebPuts4
import Derived.Test.YtbofjboebkfjgaaLebRd2
namespace Go.Proofs.Ytbofjboebkfjgaa

/-- Where a reader stands behind the same step: at, fault. -/
def ag (kd : Int) (n : Nat) (bs : List UInt8) (p f : Nat) : Nat × Nat :=
  if kd = 1 ∨ kd = 2 then (numS bs (numS bs p f).2.1 (numS bs p f).2.2).2
  else if kd = 3 then (rawS bs (n : Int) p f).2
  else if kd = 4 then (textS bs (n : Int) p f).2
  else (p, f)
/-- Does it answer what was put? -/
def agB (kd : Int) (N : Nat) (K : Int) (n : Nat) (xs bs : List UInt8) (p f : Nat) : Bool :=
  if kd = 1 then decide ((numS bs p f).1 = N) && decide ((numS bs (numS bs p f).2.1 (numS bs p f).2.2).1 = (K % 18446744073709551616).toNat)
  else if kd = 2 then decide (backS (numS bs p f).1 = K) && decide (backS (numS bs (numS bs p f).2.1 (numS bs p f).2.2).1 = K)
  else if kd = 3 then (rawS bs (n : Int) p f).1 == xs
  else if kd = 4 then (textS bs (n : Int) p f).1 == xs
  else true
theorem ag_fault {kd : Int} {n : Nat} {bs : List UInt8} {p f : Nat} (h : f ≠ 0) : ag kd n bs p f = (p, f) := by
  unfold ag
  split
  · rw [numS_fault h]
    show (numS bs p f).2 = _
    rw [numS_fault h]
  · split
    · rw [rawS_fault h]
    · split
      · rw [textS_fault h]
      · rfl
/-- One number that stands there. -/
theorem numS_at {bs : List UInt8} {p N : Nat} {rest : List UInt8} (h : bs.drop p = form N ++ rest) (hN : N < U64) : numS bs p 0 = (N, p + (form N).length, 0) := by
  have := get_form N hN rest
  rw [← h] at this
  exact numS_yes this
theorem drop_after {bs xs rest : List UInt8} {p : Nat} (h : bs.drop p = xs ++ rest) : bs.drop (p + xs.length) = rest := by
  rw [← List.drop_drop, h, List.drop_left]
theorem numS_two {bs : List UInt8} {p N M : Nat} {rest : List UInt8} (h : bs.drop p = form N ++ form M ++ rest) (hN : N < U64) (hM : M < U64) :
    numS bs p 0 = (N, p + (form N).length, 0) ∧ numS bs (p + (form N).length) 0 = (M, p + (form N ++ form M).length, 0) := by
  rw [List.append_assoc] at h
  refine ⟨numS_at h hN, ?_⟩
  rw [numS_at (drop_after h) hM, List.length_append, Nat.add_assoc]
/-- One number that is cut. -/
theorem numS_cut {bs : List UInt8} {p N j : Nat} (h : bs.drop p = (form N).take j) (hN : N < U64) (hj : j < (form N).length) : numS bs p 0 = (0, p, 10) := by
  have := get_cut N hN j hj
  rw [← h] at this
  exact numS_no this (by decide)
theorem numS_two_cut {bs : List UInt8} {p N M j : Nat} (h : bs.drop p = (form N ++ form M).take j) (hN : N < U64) (hM : M < U64) (hj : j < (form N ++ form M).length) :
    (numS bs (numS bs p 0).2.1 (numS bs p 0).2.2).2.2 = 10 := by
  by_cases h1 : j < (form N).length
  · rw [List.take_append_of_le_length (by omega)] at h
    rw [numS_cut h hN h1]
    show (numS bs p 10).2.2 = 10
    rw [numS_fault (by decide)]
  · rw [List.length_append] at hj
    have h2 : bs.drop p = form N ++ (form M).take (j - (form N).length) := by
      rw [h, List.take_append, List.take_of_length_le (by omega)]
    rw [numS_at h2 hN]
    show (numS bs (p + (form N).length) 0).2.2 = 10
    rw [numS_cut (drop_after h2) hM (by omega)]
theorem back_tn (K : Int) (h1 : -9223372036854775808 ≤ K) (h2 : K ≤ 9223372036854775807) : backS (tn K) = K := by
  unfold backS tn turnS
  split <;> split <;> omega
theorem take_front {xs rest : List UInt8} {n : Nat} (h : xs.length = n) : (xs ++ rest).take n = xs := by rw [← h, List.take_left]

/-- The whole of it stands there: read back. -/
theorem ag_full {kd : Int} {N : Nat} {K : Int} {n : Nat} {xs bs rest : List UInt8} {p : Nat} (hN : N < U64) (k1 : -9223372036854775808 ≤ K) (k2 : K ≤ 9223372036854775807) (hxl : xs.length = n) (hn : n < U64) (hp : p ≤ bs.length)
    (h : bs.drop p = outS kd N K n xs ++ rest) : agB kd N K n xs bs p 0 = true ∧ ag kd n bs p 0 = (p + (outS kd N K n xs).length, 0) := by
  have hK : (K % 18446744073709551616).toNat < U64 := by unfold U64; omega
  have hlen : bs.length - p = (outS kd N K n xs).length + rest.length := by
    have := congrArg List.length h
    rwa [List.length_drop, List.length_append] at this
  unfold agB ag
  by_cases h1 : kd = 1
  · subst h1
    simp only [outS, if_true] at h ⊢
    obtain ⟨e1, e2⟩ := numS_two h hN hK
    rw [e1]
    simp [e2]
  by_cases h2 : kd = 2
  · subst h2
    simp only [outS, if_true, show ¬ ((2 : Int) = 1) by omega, if_false] at h ⊢
    obtain ⟨e1, e2⟩ := numS_two h (tn_lt k1 k2) (tn_lt k1 k2)
    rw [e1]
    simp [e2, back_tn K k1 k2]
  by_cases h3 : kd = 3
  · subst h3
    simp only [outS, if_true, show ¬ ((3 : Int) = 1) by omega, show ¬ ((3 : Int) = 2) by omega, if_false] at h hlen ⊢
    have e := rawS_yes (bs := bs) (m := n) (p := p) (by omega)
    rw [h, take_front hxl] at e
    simp [e, hxl]
  by_cases h4 : kd = 4
  · subst h4
    simp only [outS, if_true, show ¬ ((4 : Int) = 1) by omega, show ¬ ((4 : Int) = 2) by omega, show ¬ ((4 : Int) = 3) by omega, if_false] at h hlen ⊢
    rw [List.append_assoc] at h
    have hg := get_form n hn (xs ++ rest)
    rw [← h] at hg
    rw [List.length_append] at hlen
    have e := textS_yes (m := n) hg (by omega) (by omega)
    rw [drop_after h, take_front hxl] at e
    simp [e, hxl]
    omega
  · simp [outS, h1, h2, h3, h4]
/-- It is cut: the fault says so. -/
theorem ag_cut {kd : Int} {N : Nat} {K : Int} {n : Nat} {xs bs : List UInt8} {p j : Nat} (hN : N < U64) (k1 : -9223372036854775808 ≤ K) (k2 : K ≤ 9223372036854775807) (hxl : xs.length = n) (hn : n < U64) (hp : p ≤ bs.length)
    (hj : j < (outS kd N K n xs).length) (h : bs.drop p = (outS kd N K n xs).take j) : (ag kd n bs p 0).2 = 10 := by
  have hK : (K % 18446744073709551616).toNat < U64 := by unfold U64; omega
  have hlen : bs.length - p = j := by
    have := congrArg List.length h
    rw [List.length_drop, List.length_take] at this
    omega
  unfold ag
  by_cases h1 : kd = 1
  · subst h1
    simp only [outS, if_true] at h hj ⊢
    simpa using numS_two_cut h hN hK hj
  by_cases h2 : kd = 2
  · subst h2
    simp only [outS, if_true, show ¬ ((2 : Int) = 1) by omega, if_false] at h hj ⊢
    simpa using numS_two_cut h (tn_lt k1 k2) (tn_lt k1 k2) hj
  by_cases h3 : kd = 3
  · subst h3
    simp only [outS, if_true, show ¬ ((3 : Int) = 1) by omega, show ¬ ((3 : Int) = 2) by omega, if_false] at h hj ⊢
    have e := rawS_no (bs := bs) (m := n) (p := p) (by omega)
    simp [e]
  by_cases h4 : kd = 4
  · subst h4
    simp only [outS, if_true, show ¬ ((4 : Int) = 1) by omega, show ¬ ((4 : Int) = 2) by omega, show ¬ ((4 : Int) = 3) by omega, if_false] at h hj ⊢
    rw [List.length_append] at hj
    by_cases hf : j < (form n).length
    · rw [List.take_append_of_le_length (by omega)] at h
      have hg := get_cut n hn j hf
      rw [← h] at hg
      have e := textS_no (m := n) hg (by decide)
      simp [e]
    · have h2 : bs.drop p = form n ++ xs.take (j - (form n).length) := by
        rw [h, List.take_append, List.take_of_length_le (by omega)]
      have hg := get_form n hn (xs.take (j - (form n).length))
      rw [← h2] at hg
      have e := textS_short (m := n) hg (by omega) (by omega)
      simp [e]
  · simp [outS, h1, h2, h3, h4] at hj
end Go.Proofs.Ytbofjboebkfjgaa
