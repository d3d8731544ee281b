/-
  A heap of pairs, its keys first: plain law of up and down. No program in sight.
-/
import Derived.Test.YtmcpbmadjpjckaaGrTar
namespace Go.Proofs.Ytmcpbmadjpjckaa
open Go.RowKit

/-- Two exchanged. -/
def swp {α : Type} (f : Nat → α) (i j : Nat) : Nat → α := upf (upf f i (f j)) j (f i)
section
variable {α : Type} {f : Nat → α} {i j k : Nat}
theorem swp_i : swp f i j i = f j := by
  unfold swp
  by_cases e : i = j
  · subst e; rw [upf_same]
  · rw [upf_ne _ _ e, upf_same]
theorem swp_j : swp f i j j = f i := by unfold swp; rw [upf_same]
theorem swp_o (h1 : k ≠ i) (h2 : k ≠ j) : swp f i j k = f k := by unfold swp; rw [upf_ne _ _ h2, upf_ne _ _ h1]
theorem swp_ex {n : Nat} (hi : i < n) (hj : j < n) (hk : k < n) : ∃ k', k' < n ∧ swp f i j k = f k' ∧ swp f i j k' = f k := by
  by_cases e1 : k = i
  · subst e1; exact ⟨j, hj, swp_i, swp_j⟩
  · by_cases e2 : k = j
    · subst e2; exact ⟨i, hi, swp_j, swp_i⟩
    · exact ⟨k, hk, swp_o e1 e2, swp_o e1 e2⟩
end
/-- The same members, none twice. -/
structure Bag (n : Nat) (f : Nat → Nat × Nat) (S : Nat × Nat → Prop) : Prop where
  mem : ∀ x, S x ↔ ∃ i, i < n ∧ f i = x
  inj : ∀ i j, i < n → j < n → f i = f j → i = j
theorem Bag.swp {n : Nat} {f : Nat → Nat × Nat} {S : Nat × Nat → Prop} (h : Bag n f S) {i j : Nat} (hi : i < n) (hj : j < n) : Bag n (swp f i j) S := by
  refine ⟨fun x => ?_, fun a b ha hb e => ?_⟩
  · rw [h.mem]
    constructor
    · rintro ⟨k, hk, rfl⟩
      obtain ⟨k', h1, h2, h3⟩ := swp_ex (f := f) hi hj hk
      exact ⟨k', h1, h3⟩
    · rintro ⟨k, hk, rfl⟩
      obtain ⟨k', h1, h2, h3⟩ := swp_ex (f := f) hi hj hk
      exact ⟨k', h1, h2.symm⟩
  · by_cases a1 : a = i
    · subst a1
      rw [swp_i] at e
      by_cases b1 : b = a
      · exact b1.symm
      · by_cases b2 : b = j
        · subst b2; rw [swp_j] at e; exact (h.inj b a hb ha e).symm
        · rw [swp_o b1 b2] at e; exact absurd (h.inj j b hj hb e) (fun e => b2 e.symm)
    · by_cases a2 : a = j
      · subst a2
        rw [swp_j] at e
        by_cases b1 : b = i
        · subst b1; rw [swp_i] at e; exact h.inj a b ha hb e.symm
        · by_cases b2 : b = a
          · exact b2.symm
          · rw [swp_o b1 b2] at e; exact absurd (h.inj i b hi hb e) (fun e => b1 e.symm)
      · rw [swp_o a1 a2] at e
        by_cases b1 : b = i
        · subst b1; rw [swp_i] at e; exact absurd (h.inj a j ha hj e) a2
        · by_cases b2 : b = j
          · subst b2; rw [swp_j] at e; exact absurd (h.inj a i ha hi e) a1
          · rw [swp_o b1 b2] at e; exact h.inj a b ha hb e
/-- A heap: none is less than what stands above it. -/
def Hp (n : Nat) (f : Nat → Nat × Nat) : Prop := ∀ i, 0 < i → i < n → (f ((i - 1) / 2)).1 ≤ (f i).1
/-- A heap, but for one that may be less than what stands above it. -/
structure HpUp (n : Nat) (f : Nat → Nat × Nat) (j : Nat) : Prop where
  but : ∀ i, 0 < i → i < n → i ≠ j → (f ((i - 1) / 2)).1 ≤ (f i).1
  over : ∀ c, 0 < c → c < n → (c - 1) / 2 = j → 0 < j → (f ((j - 1) / 2)).1 ≤ (f c).1
theorem HpUp.done {n : Nat} {f : Nat → Nat × Nat} {j : Nat} (h : HpUp n f j) (hj : j = 0 ∨ (f ((j - 1) / 2)).1 ≤ (f j).1) : Hp n f := fun i h0 hi => by
  by_cases e : i = j
  · subst e
    rcases hj with h1 | h1
    · omega
    · exact h1
  · exact h.but i h0 hi e
theorem HpUp.step {n : Nat} {f : Nat → Nat × Nat} {j : Nat} (h : HpUp n f j) (h0 : 0 < j) (hn : j < n) (hlt : (f j).1 < (f ((j - 1) / 2)).1) : HpUp n (swp f ((j - 1) / 2) j) ((j - 1) / 2) := by
  have hne : (j - 1) / 2 ≠ j := by omega
  obtain ⟨p, hp⟩ : ∃ p, (j - 1) / 2 = p := ⟨_, rfl⟩
  rw [hp] at hne hlt ⊢
  refine ⟨fun i hi0 hin hip => ?_, fun c hc0 hcn hcp hp0 => ?_⟩
  · by_cases e : i = j
    · subst e
      rw [hp, swp_i, swp_j]
      omega
    · rw [swp_o hip e]
      by_cases e2 : (i - 1) / 2 = j
      · rw [e2, swp_j]
        have := h.over i hi0 hin e2 h0
        rw [hp] at this
        exact this
      · by_cases e3 : (i - 1) / 2 = p
        · rw [e3, swp_i]
          have := h.but i hi0 hin e
          rw [e3] at this
          omega
        · rw [swp_o e3 e2]
          exact h.but i hi0 hin e
  · have hpp : (p - 1) / 2 ≠ p ∧ (p - 1) / 2 ≠ j := by omega
    rw [swp_o hpp.1 hpp.2]
    have hbp := h.but p hp0 (by omega) hne
    by_cases e : c = j
    · subst e
      rw [swp_j]
      exact hbp
    · rw [swp_o (by omega) e]
      have := h.but c hc0 hcn e
      rw [hcp] at this
      omega
/-- A heap, but for one that may be greater than what stands below it. -/
structure HpDn (n : Nat) (f : Nat → Nat × Nat) (j : Nat) : Prop where
  but : ∀ i, 0 < i → i < n → (i - 1) / 2 ≠ j → (f ((i - 1) / 2)).1 ≤ (f i).1
  over : ∀ c, 0 < c → c < n → (c - 1) / 2 = j → 0 < j → (f ((j - 1) / 2)).1 ≤ (f c).1
theorem HpDn.done {n : Nat} {f : Nat → Nat × Nat} {j : Nat} (h : HpDn n f j) (hl : ∀ c, 0 < c → c < n → (c - 1) / 2 = j → (f j).1 ≤ (f c).1) : Hp n f := fun i h0 hi => by
  by_cases e : (i - 1) / 2 = j
  · rw [e]; exact hl i h0 hi e
  · exact h.but i h0 hi e
theorem HpDn.step {n : Nat} {f : Nat → Nat × Nat} {j c : Nat} (h : HpDn n f j) (hc0 : 0 < c) (hcn : c < n) (hcj : (c - 1) / 2 = j) (hmin : ∀ d, 0 < d → d < n → (d - 1) / 2 = j → (f c).1 ≤ (f d).1) (hlt : (f c).1 < (f j).1) : HpDn n (swp f j c) c := by
  have hne : j ≠ c := by omega
  refine ⟨fun i hi0 hin hip => ?_, fun d hd0 hdn hdc _ => ?_⟩
  · by_cases e : (i - 1) / 2 = j
    · rw [e, swp_i]
      by_cases e2 : i = c
      · subst e2; rw [swp_j]; omega
      · rw [swp_o (by omega) e2]
        exact hmin i hi0 hin e
    · rw [swp_o e hip]
      by_cases e2 : i = j
      · subst e2
        rw [swp_i]
        exact h.over c hc0 hcn hcj hi0
      · by_cases e3 : i = c
        · exact absurd (e3 ▸ hcj) e
        · rw [swp_o e2 e3]
          exact h.but i hi0 hin e
  · rw [hcj, swp_i, swp_o (by omega) (by omega)]
    have := h.but d hd0 hdn (by omega)
    rw [hdc] at this
    exact this
/-- The first of a heap is the least. -/
theorem Hp.least {n : Nat} {f : Nat → Nat × Nat} (h : Hp n f) : ∀ i, i < n → (f 0).1 ≤ (f i).1 := by
  intro i
  induction i using Nat.strongRecOn with
  | ind i ih =>
    intro hi
    by_cases e : i = 0
    · subst e; exact Nat.le_refl _
    · exact Nat.le_trans (ih ((i - 1) / 2) (by omega) (by omega)) (h i (by omega) hi)
/-- One pushed behind a heap. -/
theorem Hp.push {n : Nat} {f : Nat → Nat × Nat} (h : Hp n f) (x : Nat × Nat) : HpUp (n + 1) (upf f n x) n := by
  refine ⟨fun i h0 hi hne => ?_, fun c h0 hc e _ => by omega⟩
  rw [upf_ne _ _ hne, upf_ne _ _ (by omega)]
  exact h i h0 (by omega)
/-- First and last exchanged, the last cut off. -/
theorem Hp.pop {n : Nat} {f : Nat → Nat × Nat} (h : Hp (n + 1) f) : HpDn n (swp f 0 n) 0 := by
  refine ⟨fun i h0 hi hne => ?_, fun c h0 hc e h1 => by omega⟩
  rw [swp_o hne (by omega), swp_o (by omega) (by omega)]
  exact h i h0 (by omega)
theorem Bag.push {n : Nat} {f : Nat → Nat × Nat} {S : Nat × Nat → Prop} (h : Bag n f S) {x : Nat × Nat} (hx : ¬ S x) : Bag (n + 1) (upf f n x) (fun y => S y ∨ y = x) := by
  have hf : ∀ i, i < n → f i ≠ x := fun i hi e => hx ((h.mem x).2 ⟨i, hi, e⟩)
  refine ⟨fun y => ?_, fun a b ha hb e => ?_⟩
  · constructor
    · rintro (hy | rfl)
      · obtain ⟨i, hi, rfl⟩ := (h.mem y).1 hy
        exact ⟨i, by omega, upf_ne _ _ (by omega)⟩
      · exact ⟨n, by omega, upf_same _ _ _⟩
    · rintro ⟨i, hi, rfl⟩
      by_cases e : i = n
      · subst e; exact .inr (upf_same _ _ _)
      · rw [upf_ne _ _ e]; exact .inl ((h.mem _).2 ⟨i, by omega, rfl⟩)
  · by_cases a1 : a = n
    · by_cases b1 : b = n
      · omega
      · rw [a1, upf_same, upf_ne _ _ b1] at e
        exact absurd e.symm (hf b (by omega))
    · by_cases b1 : b = n
      · rw [b1, upf_same, upf_ne _ _ a1] at e
        exact absurd e (hf a (by omega))
      · rw [upf_ne _ _ a1, upf_ne _ _ b1] at e
        exact h.inj a b (by omega) (by omega) e
/-- The last is cut off. -/
theorem Bag.pop {n : Nat} {f : Nat → Nat × Nat} {S : Nat × Nat → Prop} (h : Bag (n + 1) f S) : Bag n f (fun y => S y ∧ y ≠ f n) := by
  refine ⟨fun y => ?_, fun a b ha hb e => h.inj a b (by omega) (by omega) e⟩
  constructor
  · rintro ⟨hy, hne⟩
    obtain ⟨i, hi, rfl⟩ := (h.mem y).1 hy
    exact ⟨i, by have : i ≠ n := fun e => hne (by rw [e]); omega, rfl⟩
  · rintro ⟨i, hi, rfl⟩
    exact ⟨(h.mem _).2 ⟨i, by omega, rfl⟩, fun e => by have := h.inj i n (by omega) (by omega) e; omega⟩
end Go.Proofs.Ytmcpbmadjpjckaa
