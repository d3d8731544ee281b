/-
  The parts in order: plain law, no program in sight.
-/
import Derived.Test.YtmcpbmadjpjckaaGrDepM
namespace Go.Proofs.Ytmcpbmadjpjckaa
open Go.RowKit

/-- The nodes below k of a part. -/
def nds (part : Nat → Nat) (k p : Nat) : List Nat := (List.range k).filter fun u => part u == p
theorem nds_succ (part : Nat → Nat) (k p : Nat) : nds part (k + 1) p = nds part k p ++ (if part k = p then [k] else []) := by
  rw [nds, List.range_succ, List.filter_append]
  congr 1
  by_cases h : part k = p <;> simp [h]
theorem nds_len (part : Nat → Nat) (k p : Nat) : (nds part k p).length ≤ k := Nat.le_trans (List.length_filter_le _ _) (by simp)
theorem nds_mem {part : Nat → Nat} {k p u : Nat} : u ∈ nds part k p ↔ u < k ∧ part u = p := by
  rw [nds, List.mem_filter, List.mem_range]
  simp
/-- Does an edge lead from a part to one that does not stand yet? -/
def wts1 (part : Nat → Nat) (os : List Nat) (a : Nat) (e : Int × Int × Int) : Nat := if part e.1.toNat = a ∧ part e.2.1.toNat ≠ a ∧ part e.2.1.toNat ∉ os then 1 else 0
/-- How many edges lead from a part to such as don't stand yet. -/
def wts (part : Nat → Nat) (E : List (Int × Int × Int)) (os : List Nat) (a : Nat) : Nat := (E.map (wts1 part os a)).sum
theorem wts_snoc (part : Nat → Nat) (E : List (Int × Int × Int)) (e : Int × Int × Int) (os : List Nat) (a : Nat) : wts part (E ++ [e]) os a = wts part E os a + wts1 part os a e := by
  rw [wts, List.map_append, List.sum_append]; simp [wts]
theorem wts_cons (part : Nat → Nat) (E : List (Int × Int × Int)) (e : Int × Int × Int) (os : List Nat) (a : Nat) : wts part (e :: E) os a = wts1 part os a e + wts part E os a := by
  rw [wts, List.map_cons, List.sum_cons]; rfl
theorem wts_le (part : Nat → Nat) (E : List (Int × Int × Int)) (os : List Nat) (a : Nat) : wts part E os a ≤ E.length := by
  induction E with
  | nil => exact Nat.le_refl _
  | cons e r ih =>
    rw [wts_cons, List.length_cons]
    unfold wts1
    split <;> omega
theorem wts_zero {part : Nat → Nat} {E : List (Int × Int × Int)} {os : List Nat} {a : Nat} : wts part E os a = 0 ↔ ∀ e ∈ E, part e.1.toNat = a → part e.2.1.toNat ≠ a → part e.2.1.toNat ∈ os := by
  induction E with
  | nil => simp [wts]
  | cons e r ih =>
    rw [wts_cons, Nat.add_eq_zero_iff, ih]
    constructor
    · rintro ⟨h1, h2⟩ e' he' ha hb
      rcases List.mem_cons.1 he' with rfl | he'
      · unfold wts1 at h1
        by_cases hm : part e'.2.1.toNat ∈ os
        · exact hm
        · rw [if_pos ⟨ha, hb, hm⟩] at h1; cases h1
      · exact h2 e' he' ha hb
    · intro h
      refine ⟨?_, fun e' he' => h e' (by simp [he'])⟩
      unfold wts1
      rw [if_neg]
      rintro ⟨h1, h2, h3⟩
      exact h3 (h e (by simp) h1 h2)
/-- From which parts edges lead down to one. -/
def bk (part : Nat → Nat) (E : List (Int × Int × Int)) (b : Nat) : List Nat := E.filterMap fun e => if part e.2.1.toNat = b ∧ part e.1.toNat ≠ b then some (part e.1.toNat) else none
theorem bk_snoc (part : Nat → Nat) (E : List (Int × Int × Int)) (e : Int × Int × Int) (b : Nat) :
    bk part (E ++ [e]) b = bk part E b ++ (if part e.2.1.toNat = b ∧ part e.1.toNat ≠ b then [part e.1.toNat] else []) := by
  rw [bk, List.filterMap_append]
  congr 1
  rw [List.filterMap_cons, List.filterMap_nil]
  by_cases h : part e.2.1.toNat = b ∧ part e.1.toNat ≠ b
  · rw [if_pos h, if_pos h]
  · rw [if_neg h, if_neg h]
theorem bk_len (part : Nat → Nat) (E : List (Int × Int × Int)) (b : Nat) : (bk part E b).length ≤ E.length := List.length_filterMap_le _ _
theorem bk_mem {part : Nat → Nat} {E : List (Int × Int × Int)} {a b : Nat} : a ∈ bk part E b ↔ ∃ e ∈ E, part e.2.1.toNat = b ∧ part e.1.toNat ≠ b ∧ part e.1.toNat = a := by
  rw [bk, List.mem_filterMap]
  constructor
  · rintro ⟨e, he, h⟩
    by_cases c : part e.2.1.toNat = b ∧ part e.1.toNat ≠ b
    · rw [if_pos c] at h; injection h with h; exact ⟨e, he, c.1, c.2, h⟩
    · rw [if_neg c] at h; cases h
  · rintro ⟨e, he, h1, h2, rfl⟩
    exact ⟨e, he, if_pos ⟨h1, h2⟩⟩
/-- One part more stands. -/
theorem wts_put {part : Nat → Nat} {E : List (Int × Int × Int)} {os : List Nat} {p a : Nat} (hp : p ∉ os) : wts part E os a = wts part E (os ++ [p]) a + (bk part E p).count a := by
  induction E with
  | nil => simp [wts, bk]
  | cons e r ih =>
    rw [wts_cons, wts_cons, ih]
    have hbk : bk part (e :: r) p = (if part e.2.1.toNat = p ∧ part e.1.toNat ≠ p then [part e.1.toNat] else []) ++ bk part r p := by
      rw [bk, List.filterMap_cons]
      by_cases h : part e.2.1.toNat = p ∧ part e.1.toNat ≠ p
      · rw [if_pos h, if_pos h]; rfl
      · rw [if_neg h, if_neg h]; rfl
    rw [hbk, List.count_append]
    unfold wts1
    by_cases h1 : part e.1.toNat = a
    · by_cases h2 : part e.2.1.toNat = a
      · rw [if_neg (fun h => h.2.1 h2), if_neg (fun h => h.2.1 h2)]
        by_cases h3 : part e.2.1.toNat = p ∧ part e.1.toNat ≠ p
        · exact absurd (by rw [h1, ← h2]; exact h3.1) h3.2
        · rw [if_neg h3]; simp
      · by_cases h3 : part e.2.1.toNat = p
        · have h4 : part e.1.toNat ≠ p := fun h => h2 (by rw [h3, ← h, h1])
          rw [if_pos ⟨h1, h2, by rw [h3]; exact hp⟩, if_neg (fun h => h.2.2 (by rw [h3]; simp)), if_pos ⟨h3, h4⟩, h1]
          simp
          omega
        · rw [if_neg (c := part e.2.1.toNat = p ∧ _) (fun h => h3 h.1)]
          by_cases h5 : part e.2.1.toNat ∈ os
          · rw [if_neg (fun h => h.2.2 h5), if_neg (fun h => h.2.2 (by simp [h5]))]; simp
          · rw [if_pos ⟨h1, h2, h5⟩, if_pos ⟨h1, h2, by simp [h5, h3]⟩]; simp; omega
    · rw [if_neg (fun h => h1 h.1), if_neg (fun h => h1 h.1)]
      by_cases h3 : part e.2.1.toNat = p ∧ part e.1.toNat ≠ p
      · rw [if_pos h3]
        simp [h1]
      · rw [if_neg h3]; simp
/-- The order in which the parts stand. -/
structure PSpec (part : Nat → Nat) (E : List (Int × Int × Int)) (al : Nat) (fst : Nat → Nat) (os : List Nat) : Prop where
  nodup : os.Nodup
  lt : ∀ p ∈ os, p < al
  free : ∀ k p, os[k]? = some p → wts part E (os.take k) p = 0
  greedy : ∀ k p, os[k]? = some p → ∀ q, q < al → q ∉ os.take k → wts part E (os.take k) q = 0 → fst p ≤ fst q
theorem PSpec.nil (part : Nat → Nat) (E : List (Int × Int × Int)) (al : Nat) (fst : Nat → Nat) : PSpec part E al fst [] := ⟨List.nodup_nil, by simp, by simp, by simp⟩
theorem PSpec.put {part : Nat → Nat} {E : List (Int × Int × Int)} {al : Nat} {fst : Nat → Nat} {os : List Nat} (h : PSpec part E al fst os) {p : Nat} (hp : p < al) (hn : p ∉ os) (hf : wts part E os p = 0) (hg : ∀ q, q < al → q ∉ os → wts part E os q = 0 → fst p ≤ fst q) : PSpec part E al fst (os ++ [p]) := by
  have hk : ∀ k q, (os ++ [p])[k]? = some q → (os[k]? = some q ∧ (os ++ [p]).take k = os.take k) ∨ (q = p ∧ (os ++ [p]).take k = os) := fun k q hq => by
    by_cases hk : k < os.length
    · rw [List.getElem?_append_left hk] at hq
      exact .inl ⟨hq, List.take_append_of_le_length (by omega)⟩
    · rw [List.getElem?_append_right (by omega)] at hq
      by_cases e : k = os.length
      · subst e
        simp at hq
        exact .inr ⟨hq.symm, by simp⟩
      · rw [List.getElem?_eq_none (by simp; omega)] at hq; cases hq
  refine ⟨?_, fun q hq => ?_, fun k q hq => ?_, fun k q hq => ?_⟩
  · rw [List.nodup_append]
    exact ⟨h.nodup, by simp, fun a ha b hb e => by simp at hb; subst hb; subst e; exact hn ha⟩
  · rw [List.mem_append, List.mem_singleton] at hq
    rcases hq with hq | rfl
    · exact h.lt q hq
    · exact hp
  · rcases hk k q hq with ⟨h1, h2⟩ | ⟨rfl, h2⟩
    · rw [h2]; exact h.free k q h1
    · rw [h2]; exact hf
  · rcases hk k q hq with ⟨h1, h2⟩ | ⟨rfl, h2⟩
    · rw [h2]; exact h.greedy k q h1
    · rw [h2]; exact hg
/-- While a part does not stand, one may stand next. -/
theorem wts_some {part : Nat → Nat} {E : List (Int × Int × Int)} {os : List Nat} {al : Nat} (hle : ∀ e ∈ E, part e.2.1.toNat ≤ part e.1.toNat) {p : Nat} (hp : p < al) (hn : p ∉ os) : ∃ q, q < al ∧ q ∉ os ∧ wts part E os q = 0 := by
  induction p using Nat.strongRecOn with
  | ind p ih =>
    by_cases h0 : wts part E os p = 0
    · exact ⟨p, hp, hn, h0⟩
    · have : ¬ ∀ e ∈ E, part e.1.toNat = p → part e.2.1.toNat ≠ p → part e.2.1.toNat ∈ os := fun h => h0 (wts_zero.2 h)
      simp only [Classical.not_forall] at this
      obtain ⟨e, he, h1, h2, h3⟩ := this
      have := hle e he
      exact ih (part e.2.1.toNat) (by omega) (by omega) h3
end Go.Proofs.Ytmcpbmadjpjckaa
