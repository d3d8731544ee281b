/-
  What the four ways make of a column, by plain maths; no program in sight.
-/
import Derived.Test.YteambdbcjcfdeaaLebMath
import Derived.Test.YteambdbcjcfdeaaLebOneMath
import Derived.Test.YteambdbcjcfdeaaLebTurnM
import Derived.Test.YteambdbcjcfdeaaColWr
namespace Go.Proofs.Yteambdbcjcfdeaa

/-- A number of 32 bits as a cell. -/
def uw (x : UInt32) : Value := .int .u32 (x.toNat : Int)
theorem uw_one (l : List UInt32) : ∀ u ∈ l.map uw, u.oneCell' = true := by
  intro u hu
  obtain ⟨c, _, rfl⟩ := List.mem_map.1 hu
  rfl
theorem u32_lt (x : UInt32) : x.toNat < 4294967296 := x.toNat_lt
def plainS (c : List UInt32) : List UInt8 := c.flatMap fun x => form x.toNat
theorem plainS_snoc (c : List UInt32) (x : UInt32) : plainS (c ++ [x]) = plainS c ++ form x.toNat := by simp [plainS]
/-- The number that the delta way lays at a place. -/
def stepAt (c : List UInt32) (i : Nat) : Nat := if i = 0 then (c.getD 0 0).toNat else tn (((c.getD i 0).toNat : Int) - ((c.getD (i - 1) 0).toNat : Int))
def deltaTo (c : List UInt32) : Nat → List UInt8
  | 0 => []
  | k + 1 => deltaTo c k ++ form (stepAt c k)
def deltaS (c : List UInt32) : List UInt8 := deltaTo c c.length
theorem stepAt_lt (c : List UInt32) (i : Nat) : stepAt c i < U64 := by
  unfold stepAt
  split
  · have := u32_lt (c.getD 0 0); unfold U64; omega
  · have h1 := u32_lt (c.getD i 0)
    have h2 := u32_lt (c.getD (i - 1) 0)
    exact tn_lt (by omega) (by omega)
theorem plainS_take (c : List UInt32) {k : Nat} {x : UInt32} (h : c[k]? = some x) : plainS (c.take (k + 1)) = plainS (c.take k) ++ form x.toNat := by
  obtain ⟨hl, rfl⟩ := List.getElem?_eq_some_iff.1 h
  rw [List.take_succ_eq_append_getElem hl, plainS_snoc]
/-- Numbers of 32 bits have forms of at most five bytes; of 33 bits, too. -/
theorem form_five {n : Nat} (h : n < 34359738368) : (form n).length ≤ 5 := by
  rw [form_size n (by unfold U64; omega)]
  have := Lib.bitLen_le n 35 (by omega) (by omega)
  omega
theorem form_le {n : Nat} {k : Nat} (hk : k < 9) (h : n < 128 ^ k * 128) : (form n).length ≤ k + 1 := by
  have h9 : n < U64 := by
    have : 128 ^ k * 128 ≤ 128 ^ 8 * 128 := Nat.mul_le_mul_right _ (Nat.pow_le_pow_right (by omega) (by omega))
    unfold U64
    omega
  rw [form_size n h9]
  have h2 : (128 : Nat) ^ k * 128 = 2 ^ (7 * (k + 1)) := by rw [show (128 : Nat) = 2 ^ 7 from rfl, ← Nat.pow_mul, ← Nat.pow_add]; congr 1
  have := Lib.bitLen_le n (7 * (k + 1)) (by omega) (by omega)
  omega
theorem step_five (c : List UInt32) (i : Nat) : (form (stepAt c i)).length ≤ 5 := by
  refine form_five ?_
  unfold stepAt
  split
  · have := u32_lt (c.getD 0 0); omega
  · have h1 := u32_lt (c.getD i 0)
    have h2 := u32_lt (c.getD (i - 1) 0)
    unfold tn turnS
    split <;> omega
theorem plainS_len (c : List UInt32) : (plainS c).length ≤ 5 * c.length := by
  induction c with
  | nil => simp [plainS]
  | cons x r ih =>
    have h1 : (form x.toNat).length ≤ 5 := form_five (by have := u32_lt x; omega)
    have h2 : plainS (x :: r) = form x.toNat ++ plainS r := by simp [plainS]
    rw [h2, List.length_append, List.length_cons]
    omega
theorem deltaTo_len (c : List UInt32) (k : Nat) : (deltaTo c k).length ≤ 5 * k := by
  induction k with
  | zero => simp [deltaTo]
  | succ k ih =>
    have := step_five c k
    rw [deltaTo, List.length_append]
    omega

/-- The runs: numbers, and how many stand side by side. -/
def runsF : Nat → List UInt32 → List (UInt32 × Nat)
  | 0, _ => []
  | _ + 1, [] => []
  | f + 1, x :: r => (x, (r.takeWhile (· == x)).length + 1) :: runsF f (r.dropWhile (· == x))
def runs (c : List UInt32) : List (UInt32 × Nat) := runsF c.length c
theorem dropW_len (r : List UInt32) (x : UInt32) : (r.dropWhile (· == x)).length ≤ r.length := (List.dropWhile_suffix _).length_le
theorem runsF_fuel : ∀ (f g : Nat) (l : List UInt32), l.length ≤ f → l.length ≤ g → runsF f l = runsF g l
  | 0, 0, _, _, _ => rfl
  | 0, g + 1, l, h, _ => by
    obtain rfl : l = [] := List.eq_nil_of_length_eq_zero (by omega)
    rfl
  | f + 1, 0, l, _, h => by
    obtain rfl : l = [] := List.eq_nil_of_length_eq_zero (by omega)
    rfl
  | f + 1, g + 1, [], _, _ => rfl
  | f + 1, g + 1, x :: r, h1, h2 => by
    have := dropW_len r x
    simp only [List.length_cons] at h1 h2
    rw [runsF, runsF, runsF_fuel f g _ (by omega) (by omega)]
theorem runs_nil : runs [] = [] := rfl
theorem runs_cons (x : UInt32) (r : List UInt32) : runs (x :: r) = (x, (r.takeWhile (· == x)).length + 1) :: runs (r.dropWhile (· == x)) := by
  have := dropW_len r x
  rw [runs, List.length_cons, runsF, runs, runsF_fuel _ (r.dropWhile (· == x)).length _ (by omega) (Nat.le_refl _)]
/-- One run of the column, from i to k. -/
theorem runs_at {c : List UInt32} {i k : Nat} {x : UInt32} (hx : c[i]? = some x) (hik : i < k) (hs : ∀ j, i ≤ j → j < k → c[j]? = some x) (he : k = c.length ∨ c[k]? ≠ some x) :
    runs (c.drop i) = (x, k - i) :: runs (c.drop k) := by
  obtain ⟨hl, rfl⟩ := List.getElem?_eq_some_iff.1 hx
  have hsplit : c.drop (i + 1) = List.replicate (k - i - 1) c[i] ++ c.drop k := by
    apply List.ext_getElem?
    intro n
    rw [List.getElem?_drop]
    by_cases hn : n < k - i - 1
    · rw [List.getElem?_append_left (by simpa using hn), List.getElem?_replicate, if_pos hn]
      exact hs _ (by omega) (by omega)
    · rw [List.getElem?_append_right (by simpa using Nat.le_of_not_lt hn), List.length_replicate, List.getElem?_drop]
      congr 1
      omega
  have htail : (c.drop k).takeWhile (· == c[i]) = [] ∧ (c.drop k).dropWhile (· == c[i]) = c.drop k := by
    cases hd : c.drop k with
    | nil => exact ⟨rfl, rfl⟩
    | cons y s =>
      have hy : c[k]? = some y := by rw [← List.head?_drop, hd]; rfl
      have hne : (y == c[i]) = false := by
        rcases he with he | he
        · rw [he, List.getElem?_eq_none (Nat.le_refl _)] at hy; cases hy
        · rw [hy] at he
          simpa using fun e => he (by rw [e])
      rw [List.takeWhile_cons, List.dropWhile_cons, hne]
      exact ⟨rfl, rfl⟩
  have htw : ∀ m, (List.replicate m c[i] ++ c.drop k).takeWhile (· == c[i]) = List.replicate m c[i] ∧ (List.replicate m c[i] ++ c.drop k).dropWhile (· == c[i]) = c.drop k := fun m => by
    induction m with
    | zero => simpa using htail
    | succ m ih =>
      rw [List.replicate_succ, List.cons_append, List.takeWhile_cons, List.dropWhile_cons]
      simp [ih.1, ih.2]
  rw [List.drop_eq_getElem_cons hl, runs_cons, hsplit, (htw _).1, (htw _).2, List.length_replicate]
  congr 2
  omega
def runS (c : List UInt32) : List UInt8 := (runs c).flatMap fun p => form p.1.toNat ++ form p.2

/-- The greatest number. -/
def mx (c : List UInt32) : Nat := c.foldl (fun a x => max a x.toNat) 0
def wideS (c : List UInt32) : Nat := Lib.bitLen (mx c)
theorem foldl_max (c : List UInt32) : ∀ a, c.foldl (fun a x => max a x.toNat) a = max a (mx c) := by
  induction c with
  | nil => intro a; simp [mx]
  | cons x r ih => intro a; rw [mx, List.foldl_cons, List.foldl_cons, ih, ih]; omega
theorem mx_cons (x : UInt32) (r : List UInt32) : mx (x :: r) = max x.toNat (mx r) := by rw [mx, List.foldl_cons, foldl_max]; omega
theorem mx_snoc (c : List UInt32) (x : UInt32) : mx (c ++ [x]) = max (mx c) x.toNat := by rw [mx, List.foldl_append]; rfl
theorem mx_mem {c : List UInt32} {x : UInt32} (h : x ∈ c) : x.toNat ≤ mx c := by
  induction c with
  | nil => cases h
  | cons y r ih =>
    rw [mx_cons]
    rcases List.mem_cons.1 h with rfl | h
    · omega
    · have := ih h; omega
theorem mx_lt (c : List UInt32) : mx c < 4294967296 := by
  induction c with
  | nil => simp [mx]
  | cons y r ih => rw [mx_cons]; have := u32_lt y; omega
theorem mx_in {c : List UInt32} (h : c ≠ []) : ∃ x ∈ c, mx c = x.toNat := by
  induction c with
  | nil => exact absurd rfl h
  | cons y r ih =>
    rw [mx_cons]
    by_cases hr : r = []
    · subst hr; exact ⟨y, by simp, by simp [mx]⟩
    · obtain ⟨x, hx, e⟩ := ih hr
      by_cases hc : mx r ≤ y.toNat
      · exact ⟨y, by simp, by omega⟩
      · exact ⟨x, List.mem_cons_of_mem _ hx, by omega⟩
theorem wide_le (c : List UInt32) : wideS c ≤ 32 := Lib.bitLen_le _ 32 (by omega) (mx_lt c)

/-- The sum of the powers at which f says yes. -/
def bsum (f : Nat → Bool) : Nat → Nat
  | 0 => 0
  | k + 1 => bsum f k + (if f k then 2 ^ k else 0)
theorem bsum_lt (f : Nat → Bool) (k : Nat) : bsum f k < 2 ^ k := by
  induction k with
  | zero => simp [bsum]
  | succ k ih => rw [bsum, Nat.pow_succ]; split <;> omega
theorem bsum_congr {f g : Nat → Bool} {k : Nat} (h : ∀ b, b < k → f b = g b) : bsum f k = bsum g k := by
  induction k with
  | zero => rfl
  | succ k ih => rw [bsum, bsum, ih (fun b hb => h b (by omega)), h k (by omega)]
theorem bsum_none {f : Nat → Bool} {k : Nat} (h : ∀ b, b < k → f b = false) : bsum f k = 0 := by
  induction k with
  | zero => rfl
  | succ k ih => rw [bsum, ih (fun b hb => h b (by omega)), h k (by omega)]; simp
theorem bsum_bits (x k : Nat) (h : x < 2 ^ k) : bsum (fun b => x.testBit b) k = x := by
  induction k generalizing x with
  | zero => simp at h; simp [bsum, h]
  | succ k ih =>
    have h1 : bsum (fun b => x.testBit b) k = bsum (fun b => (x % 2 ^ k).testBit b) k := bsum_congr (fun b hb => by rw [Nat.testBit_mod_two_pow]; simp [hb])
    rw [bsum, h1, ih (x % 2 ^ k) (Nat.mod_lt _ (Nat.two_pow_pos k))]
    have h2 := Nat.mod_add_div x (2 ^ k)
    have h3 : x / 2 ^ k < 2 := by
      apply Nat.div_lt_of_lt_mul
      rw [← Nat.pow_succ]; exact h
    rw [Nat.testBit_eq_decide_div_mod_eq]
    obtain ⟨q, hq⟩ : ∃ q, x / 2 ^ k = q := ⟨_, rfl⟩
    rw [hq] at h2 h3 ⊢
    rcases (show q = 0 ∨ q = 1 by omega) with e | e
    · rw [e] at h2 ⊢; simpa using h2
    · rw [e] at h2 ⊢; simpa using h2
/-- A bit of what the packed way makes. -/
def bitAt (c : List UInt32) (n t : Nat) : Bool := (c.getD (t / n) 0).toNat.testBit (t % n)
/-- Byte j once all bits below t are laid. -/
def byteTo (c : List UInt32) (n t j : Nat) : Nat := bsum (fun b => decide (8 * j + b < t) && bitAt c n (8 * j + b)) 8
def packTo (c : List UInt32) (n t L : Nat) : List UInt8 := (List.range L).map fun j => UInt8.ofNat (byteTo c n t j)
def packS (c : List UInt32) : List UInt8 := UInt8.ofNat (wideS c) :: packTo c (wideS c) (c.length * wideS c) ((c.length * wideS c + 7) / 8)
theorem byteTo_lt (c : List UInt32) (n t j : Nat) : byteTo c n t j < 256 := bsum_lt _ 8
theorem byteTo_zero (c : List UInt32) (n j : Nat) : byteTo c n 0 j = 0 := bsum_none (fun b _ => by simp)
theorem byteTo_other (c : List UInt32) (n t j : Nat) (h : j ≠ t / 8) : byteTo c n (t + 1) j = byteTo c n t j :=
  bsum_congr (fun b hb => by
    have : decide (8 * j + b < t + 1) = decide (8 * j + b < t) := by
      rw [decide_eq_decide]
      omega
    rw [this])
theorem bsum_split {f : Nat → Bool} {m : Nat} : ∀ k, m ≤ k → (∀ b, m ≤ b → b < k → f b = false) → bsum f k = bsum f m
  | 0, h, _ => by obtain rfl : m = 0 := by omega
                  rfl
  | k + 1, h, hf => by
    by_cases e : m = k + 1
    · rw [e]
    · rw [bsum, bsum_split k (by omega) (fun b h1 h2 => hf b h1 (by omega)), hf k (by omega) (by omega)]
      simp
theorem byteTo_low (c : List UInt32) (n t : Nat) : byteTo c n t (t / 8) < 2 ^ (t % 8) := by
  have : byteTo c n t (t / 8) = bsum (fun b => decide (8 * (t / 8) + b < t) && bitAt c n (8 * (t / 8) + b)) (t % 8) :=
    bsum_split 8 (by omega) (fun b h1 _ => by
      have : ¬ 8 * (t / 8) + b < t := by omega
      simp [this])
  rw [this]
  exact bsum_lt _ _
theorem byteTo_next (c : List UInt32) (n t : Nat) : byteTo c n (t + 1) (t / 8) = byteTo c n t (t / 8) + (if bitAt c n t then 2 ^ (t % 8) else 0) := by
  have hm : t % 8 < 8 := Nat.mod_lt _ (by omega)
  have ht : 8 * (t / 8) + t % 8 = t := Nat.div_add_mod t 8
  have h1 : byteTo c n (t + 1) (t / 8) = bsum (fun b => decide (8 * (t / 8) + b < t + 1) && bitAt c n (8 * (t / 8) + b)) (t % 8 + 1) :=
    bsum_split 8 (by omega) (fun b h1 _ => by
      have : ¬ 8 * (t / 8) + b < t + 1 := by omega
      simp [this])
  have h2 : byteTo c n t (t / 8) = bsum (fun b => decide (8 * (t / 8) + b < t) && bitAt c n (8 * (t / 8) + b)) (t % 8) :=
    bsum_split 8 (by omega) (fun b h1 _ => by
      have : ¬ 8 * (t / 8) + b < t := by omega
      simp [this])
  rw [h1, h2, bsum, ht]
  congr 1
  · exact bsum_congr (fun b hb => by
      have e1 : (8 * (t / 8) + b < t + 1) ↔ (8 * (t / 8) + b < t) := by omega
      simp only [e1])
  · simp

/-- The way of the least size, the first of such. -/
def wayOf (a b c d : Nat) : Nat := if a ≤ b ∧ a ≤ c ∧ a ≤ d then 1 else if b ≤ c ∧ b ≤ d then 2 else if c ≤ d then 3 else 4
def laidS (w : Nat) (c : List UInt32) : List UInt8 := if w = 1 then plainS c else if w = 2 then deltaS c else if w = 3 then runS c else packS c
def wayS (c : List UInt32) : Nat := wayOf (plainS c).length (deltaS c).length (runS c).length (packS c).length
def pageS (c : List UInt32) : List UInt8 := UInt8.ofNat (wayS c) :: laidS (wayS c) c
theorem wayOf_range (a b c d : Nat) : 1 ≤ wayOf a b c d ∧ wayOf a b c d ≤ 4 := by
  unfold wayOf
  by_cases h1 : a ≤ b ∧ a ≤ c ∧ a ≤ d
  · rw [if_pos h1]; omega
  · rw [if_neg h1]
    by_cases h2 : b ≤ c ∧ b ≤ d
    · rw [if_pos h2]; omega
    · rw [if_neg h2]
      split <;> omega
theorem wayS_range (c : List UInt32) : 1 ≤ wayS c ∧ wayS c ≤ 4 := wayOf_range _ _ _ _
theorem packS_len (c : List UInt32) : (packS c).length = 1 + (c.length * wideS c + 7) / 8 := by simp [packS, packTo]; omega
end Go.Proofs.Yteambdbcjcfdeaa
