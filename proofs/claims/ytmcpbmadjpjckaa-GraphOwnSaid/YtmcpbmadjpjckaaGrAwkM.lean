/-
  Plain law: the small graph of three nodes and three edges, its parts, order, round and depths. No program in sight.
-/
import Derived.Test.YtmcpbmadjpjckaaGrRndW
namespace Go.Proofs.Ytmcpbmadjpjckaa
open Go.RowKit

def E3 : List (Int × Int × Int) := [(0, 1, 0), (1, 0, 0), (2, 1, 3)]
theorem chk3 : chkS 3 E3 = 0 := by
  unfold chkS
  rw [if_neg (by simp [E3]), if_neg]
  rintro (h | ⟨e, he, h⟩)
  · omega
  · simp only [E3, List.mem_cons, List.not_mem_nil, or_false] at he
    rcases he with rfl | rfl | rfl <;> revert h <;> decide
theorem adj30 : adjOf E3 false 0 = [1] := by decide
theorem adj31 : adjOf E3 false 1 = [0] := by decide
theorem adj32 : adjOf E3 false 2 = [1] := by decide
theorem bk30 : adjOf E3 true 0 = [1] := by decide
theorem rs3 {u v : Nat} (h : Rs (adjOf E3 false) u v) : u < 2 → v < 2 := by
  induction h with
  | refl => exact id
  | @step a b c h1 _ ih =>
    intro ha
    refine ih ?_
    rcases (show a = 0 ∨ a = 1 by omega) with rfl | rfl
    · rw [adj30] at h1; simp at h1; omega
    · rw [adj31] at h1; simp at h1; omega
theorem parts3 {part : Nat → Nat} {al : Nat} (h : Parts 3 (adjOf E3 false) part al) (hs : ∀ p, p < al → ∃ u, u < 3 ∧ part u = p) : part 0 = 0 ∧ part 1 = 0 ∧ part 2 = 1 ∧ al = 2 := by
  have h01 := (h.le 0 (by omega) 1 (by rw [adj30]; simp)).2
  have h10 := (h.le 1 (by omega) 0 (by rw [adj31]; simp)).2
  have h21 := (h.le 2 (by omega) 1 (by rw [adj32]; simp)).2
  have hne : part 1 ≠ part 2 := fun e => by
    have := rs3 (h.same 1 2 (by omega) (by omega) e) (by omega)
    omega
  have hl := h.lt 2 (by omega)
  have hc : ∀ p, p < al → p = part 0 ∨ p = part 2 := fun p hp => by
    obtain ⟨u, hu, rfl⟩ := hs p hp
    rcases (show u = 0 ∨ u = 1 ∨ u = 2 by omega) with rfl | rfl | rfl
    · exact .inl rfl
    · left; omega
    · exact .inr rfl
  have c0 := hc 0 (by omega)
  have c1 := hc 1 (by omega)
  have c2 : al ≤ 2 := by
    refine Nat.le_of_not_lt fun h2 => ?_
    have := hc 2 h2
    omega
  omega
theorem nds3 {part : Nat → Nat} (h : part 0 = 0 ∧ part 1 = 0 ∧ part 2 = 1) : nds part 3 0 = [0, 1] ∧ nds part 3 1 = [2] := by
  obtain ⟨h0, h1, h2⟩ := h
  constructor <;> simp [nds, List.range_succ, h0, h1, h2]
theorem os3 {part : Nat → Nat} {al : Nat} {os : List Nat} {fst : Nat → Nat} (h : part 0 = 0 ∧ part 1 = 0 ∧ part 2 = 1 ∧ al = 2) (hp : PSpec part E3 al fst os) (ha : ∀ p, p < al → p ∈ os) : os = [0, 1] := by
  obtain ⟨h0, h1, h2, rfl⟩ := h
  have m0 := ha 0 (by omega)
  have m1 := ha 1 (by omega)
  have hlen := hp.len
  have hw : wts part E3 [] 1 ≠ 0 := by simp [wts, wts1, E3, h0, h1, h2]
  match os, hp, m0, m1, hlen with
  | [], _, m0, _, _ => cases m0
  | [a], _, m0, m1, _ => simp at m0 m1; omega
  | [a, b], hp, m0, m1, _ =>
    have hf := hp.free 0 a rfl
    simp only [List.take_zero] at hf
    have hla := hp.lt a (by simp)
    have hlb := hp.lt b (by simp)
    have ha1 : a ≠ 1 := fun e => hw (e ▸ hf)
    have hnd := hp.nodup
    simp at hnd
    have e0 : a = 0 := by omega
    have e1 : b = 1 := by omega
    rw [e0, e1]
  | a :: b :: c :: r, _, _, _, hlen => simp at hlen
theorem rd3 {part : Nat → Nat} (h : part 0 = 0 ∧ part 1 = 0 ∧ part 2 = 1) : rdB part 3 [0, 1] E3 = true := by
  simp [rdB, (nds3 h).1]
theorem noc3 {part : Nat → Nat} (h : part 0 = 0 ∧ part 1 = 0 ∧ part 2 = 1) (hn : ∀ s, s < 3 → NoC 3 (adjOf E3 false) (adjOf E3 true) part s) : False := by
  rcases hn 0 (by omega) with ⟨h1, _⟩ | ⟨fr, hf, h1⟩
  · rw [h.1, (nds3 h).1] at h1
    simp at h1
  · obtain ⟨k, hk, _⟩ := hf.opt 0 0 hf.top 1 (by rw [bk30]; simp) (by omega)
    rw [h1 1 (by rw [adj30]; simp)] at hk
    cases hk
theorem rnd3 {f : Nat} {r : List Nat} (h : Rnd 3 (adjOf E3 false) f r) : f = 0 ∧ r = [1] := by
  obtain ⟨hf, hr⟩ := h.lt
  have adj2 : ∀ u, u < 3 → ∀ x ∈ adjOf E3 false u, x < 2 ∧ (u = 0 → x = 1) ∧ (u = 1 → x = 0) := fun u hu x hx => by
    rcases (show u = 0 ∨ u = 1 ∨ u = 2 by omega) with rfl | rfl | rfl
    · rw [adj30] at hx; simp at hx; omega
    · rw [adj31] at hx; simp at hx; omega
    · rw [adj32] at hx; simp at hx; omega
  match r, h, hr with
  | [], h, _ =>
    have h1 := adj2 f hf f (h.last f rfl)
    omega
  | [a], h, hr =>
    have ha := hr a (by simp)
    have h1 := adj2 f hf a (h.step 0 f a rfl rfl)
    have h2 := adj2 a ha.1 f (h.last a rfl)
    have e0 : f = 0 := by omega
    have e1 : a = 1 := by omega
    exact ⟨e0, by rw [e1]⟩
  | a :: b :: q, h, hr =>
    have ha := hr a (by simp)
    have hb := hr b (by simp)
    have h1 := adj2 f hf a (h.step 0 f a rfl rfl)
    have h2 := adj2 a ha.1 b (h.step 1 a b rfl rfl)
    omega
theorem dep3 {part : Nat → Nat} (h : part 0 = 0 ∧ part 1 = 0 ∧ part 2 = 1) : dps (downOf part E3) 2 (part 0) = 0 ∧ dps (downOf part E3) 2 (part 1) = 0 ∧ dps (downOf part E3) 2 (part 2) = 3 := by
  obtain ⟨h0, h1, h2⟩ := h
  have d0 : downOf part E3 0 = [] := by simp [downOf, E3, h0, h1, h2]
  have d1 : downOf part E3 1 = [(1, 0, 3)] := by simp [downOf, E3, h0, h1, h2]
  have z0 : ∀ k, dps (downOf part E3) k 0 = 0 := fun k => by
    cases k with
    | zero => exact dps_zero _ (Nat.le_refl _)
    | succ k => rw [dps_stable _ (Nat.succ_pos k), d0]; rfl
  rw [h0, h1, h2]
  refine ⟨z0 2, z0 2, ?_⟩
  rw [dps_stable _ (show 1 < 2 by omega), d1]
  simp [dmax, z0]
theorem bad3 {part : Nat → Nat} (h : part 0 = 0 ∧ part 1 = 0 ∧ part 2 = 1) : ¬ ∃ e ∈ E3, part e.1.toNat = part e.2.1.toNat ∧ 0 < e.2.2 := by
  obtain ⟨h0, h1, h2⟩ := h
  rintro ⟨e, he, h3, h4⟩
  simp only [E3, List.mem_cons, List.not_mem_nil, or_false] at he
  rcases he with rfl | rfl | rfl
  · exact absurd h4 (by decide)
  · exact absurd h4 (by decide)
  · simp [h1, h2] at h3
end Go.Proofs.Ytmcpbmadjpjckaa
