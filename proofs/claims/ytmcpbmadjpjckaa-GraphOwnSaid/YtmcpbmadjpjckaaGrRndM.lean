/-
  The shortest round of a graph: plain law of the search for steps. No program in sight.
-/
import Derived.Test.YtmcpbmadjpjckaaGrFr
namespace Go.Proofs.Ytmcpbmadjpjckaa
open Go.RowKit

def kv (fr : Nat → Option Nat) (u : Nat) : Nat := (fr u).getD 0
/-- What stands while steps grow. -/
structure BF (N : Nat) (bk : Nat → List Nat) (to : Nat) (fr : Nat → Option Nat) (row : List Nat) : Prop where
  top : fr to = some 0
  down : ∀ i k, fr i = some k → (i = to ∧ k = 0) ∨ (to < i ∧ i < N ∧ ∃ j k', j < N ∧ k = k' + 1 ∧ fr j = some k' ∧ i ∈ bk j)
  mem : ∀ u ∈ row, u < N ∧ ∃ k, fr u = some k
  sorted : row.Pairwise (fun a b => kv fr a ≤ kv fr b)
  bound : ∀ h rest, row = h :: rest → ∀ u k, fr u = some k → k ≤ kv fr h + 1
/-- A node's targets are told. -/
def Tld (to : Nat) (fr : Nat → Option Nat) (j : Nat) (l : List Nat) : Prop := ∀ i ∈ l, to < i → ∃ k', fr i = some k' ∧ k' ≤ kv fr j + 1
/-- All that are told but stand not in the row have told their targets. -/
def Clo (bk : Nat → List Nat) (to : Nat) (fr : Nat → Option Nat) (row : List Nat) : Prop := ∀ j k, fr j = some k → j ∈ row ∨ Tld to fr j (bk j)
/-- The steps: the least numbers. -/
structure FarD (N : Nat) (bk : Nat → List Nat) (to : Nat) (fr : Nat → Option Nat) : Prop where
  top : fr to = some 0
  down : ∀ i k, fr i = some k → (i = to ∧ k = 0) ∨ (to < i ∧ i < N ∧ ∃ j k', j < N ∧ k = k' + 1 ∧ fr j = some k' ∧ i ∈ bk j)
  opt : ∀ j k, fr j = some k → ∀ i ∈ bk j, to < i → ∃ k', fr i = some k' ∧ k' ≤ k + 1
section
variable {N to : Nat} {bk : Nat → List Nat} {fr fr' : Nat → Option Nat} {row rest : List Nat}
theorem BF.start (ht : to < N) : BF N bk to (upf (fun _ => none) to (some 0)) [to] ∧ Clo bk to (upf (fun _ => none) to (some 0)) [to] := by
  have h1 : ∀ i k, upf (fun _ => none) to (some 0) i = some k → i = to ∧ k = 0 := fun i k h => by
    by_cases e : i = to
    · subst e; rw [upf_same] at h; injection h with h; exact ⟨rfl, h.symm⟩
    · rw [upf_ne _ _ e] at h; cases h
  refine ⟨⟨upf_same _ _ _, fun i k h => .inl (h1 i k h), fun u hu => ?_, by simp, fun h rest e u k hk => ?_⟩, fun j k h => .inl (by simp [(h1 j k h).1])⟩
  · simp at hu; subst hu; exact ⟨ht, 0, upf_same _ _ _⟩
  · have := (h1 u k hk).2; omega
theorem kv_of {u k : Nat} (h : fr u = some k) : kv fr u = k := by unfold kv; rw [h]; rfl
theorem BF.lt (ht : to < N) (h : BF N bk to fr row) {i k : Nat} (hi : fr i = some k) : i < N := by
  rcases h.down i k hi with ⟨rfl, _⟩ | ⟨_, h1, _⟩
  · exact ht
  · exact h1
/-- One more is told. -/
theorem BF.add {h i : Nat} (b : BF N bk to fr (h :: rest)) (hi : i < N) (hto : to < i) (hn : fr i = none) (hb : i ∈ bk h) : BF N bk to (upf fr i (some (kv fr h + 1))) ((h :: rest) ++ [i]) := by
  obtain ⟨hh, kh, hkh⟩ := b.mem h (by simp)
  have hkv : kv fr h = kh := kv_of hkh
  have hne : ∀ u k, fr u = some k → u ≠ i := fun u k hu e => by rw [e, hn] at hu; cases hu
  have hkv2 : ∀ u k, fr u = some k → kv (upf fr i (some (kv fr h + 1))) u = kv fr u := fun u k hu => by unfold kv; rw [upf_ne _ _ (hne u k hu)]
  have hki : kv (upf fr i (some (kv fr h + 1))) i = kv fr h + 1 := by unfold kv; rw [upf_same]; rfl
  refine ⟨?_, fun u k hu => ?_, fun u hu => ?_, ?_, fun h' rest' e u k hu => ?_⟩
  · rw [upf_ne _ _ (hne to 0 b.top)]; exact b.top
  · by_cases e : u = i
    · subst e
      rw [upf_same] at hu
      injection hu with hu
      exact .inr ⟨hto, hi, h, kh, hh, by rw [← hu, hkv], by rw [upf_ne _ _ (hne h kh hkh)]; exact hkh, hb⟩
    · rw [upf_ne _ _ e] at hu
      rcases b.down u k hu with h1 | ⟨h1, h2, j, k', h3, h4, h5, h6⟩
      · exact .inl h1
      · exact .inr ⟨h1, h2, j, k', h3, h4, by rw [upf_ne _ _ (hne j k' h5)]; exact h5, h6⟩
  · rw [List.mem_append, List.mem_singleton] at hu
    rcases hu with hu | rfl
    · obtain ⟨h1, k, h2⟩ := b.mem u hu
      exact ⟨h1, k, by rw [upf_ne _ _ (hne u k h2)]; exact h2⟩
    · exact ⟨hi, _, upf_same _ _ _⟩
  · rw [List.pairwise_append]
    refine ⟨?_, by simp, fun x hx y hy => ?_⟩
    · refine List.Pairwise.imp_of_mem (fun {x y} hx hy hxy => ?_) b.sorted
      obtain ⟨_, kx, h1⟩ := b.mem x hx
      obtain ⟨_, ky, h2⟩ := b.mem y hy
      rw [hkv2 x kx h1, hkv2 y ky h2]
      exact hxy
    · simp at hy
      subst hy
      obtain ⟨_, kx, h1⟩ := b.mem x hx
      rw [hkv2 x kx h1, hki, kv_of h1]
      exact b.bound h rest rfl x kx h1
  · simp at e
    obtain ⟨rfl, _⟩ := e
    rw [hkv2 h kh hkh]
    by_cases e : u = i
    · subst e; rw [upf_same] at hu; injection hu with hu; omega
    · rw [upf_ne _ _ e] at hu
      exact b.bound h rest rfl u k hu
theorem Tld.add {j i v : Nat} {l : List Nat} (h : Tld to fr j l) (hn : fr i = none) (hj : j ≠ i) : Tld to (upf fr i (some v)) j l := fun x hx hlt => by
  obtain ⟨k', h1, h2⟩ := h x hx hlt
  refine ⟨k', ?_, ?_⟩
  · rw [upf_ne _ _ (fun e => by rw [e, hn] at h1; cases h1)]; exact h1
  · have : kv (upf fr i (some v)) j = kv fr j := by unfold kv; rw [upf_ne _ _ hj]
    rw [this]; exact h2
theorem Clo.add {i v : Nat} (h : Clo bk to fr row) (hn : fr i = none) : Clo bk to (upf fr i (some v)) (row ++ [i]) := fun j k hj => by
  by_cases e : j = i
  · subst e; exact .inl (by simp)
  · rw [upf_ne _ _ e] at hj
    rcases h j k hj with h1 | h1
    · exact .inl (by simp [h1])
    · exact .inr (h1.add hn e)
theorem BF.pop {h : Nat} (b : BF N bk to fr (h :: rest)) : BF N bk to fr rest := by
  refine ⟨b.top, b.down, fun u hu => b.mem u (by simp [hu]), (List.pairwise_cons.1 b.sorted).2, fun h' r' e u k hu => ?_⟩
  have h1 := b.bound h rest rfl u k hu
  have h2 := (List.pairwise_cons.1 b.sorted).1 h' (by rw [e]; simp)
  omega
theorem Clo.pop {h : Nat} (c : Clo bk to fr (h :: rest)) (ht : Tld to fr h (bk h)) : Clo bk to fr rest := fun j k hj => by
  rcases c j k hj with h1 | h1
  · rw [List.mem_cons] at h1
    rcases h1 with rfl | h1
    · exact .inr ht
    · exact .inl h1
  · exact .inr h1
theorem BF.done (b : BF N bk to fr []) (c : Clo bk to fr []) : FarD N bk to fr :=
  ⟨b.top, b.down, fun j k hj i hi hlt => by
    rcases c j k hj with h1 | h1
    · cases h1
    · obtain ⟨k', h2, h3⟩ := h1 i hi hlt
      rw [kv_of hj] at h3
      exact ⟨k', h2, h3⟩⟩
theorem FarD.le (h : FarD N bk to fr) (h' : FarD N bk to fr') : ∀ k i, fr i = some k → ∃ k', fr' i = some k' ∧ k' ≤ k := by
  intro k
  induction k with
  | zero =>
    intro i hi
    rcases h.down i 0 hi with ⟨rfl, _⟩ | ⟨_, _, j, k', _, e, _⟩
    · exact ⟨0, h'.top, Nat.le_refl _⟩
    · omega
  | succ k ih =>
    intro i hi
    rcases h.down i _ hi with ⟨_, e⟩ | ⟨h1, h2, j, k', h3, h4, h5, h6⟩
    · omega
    · have : k' = k := by omega
      subst this
      obtain ⟨kj, h7, h8⟩ := ih j h5
      obtain ⟨ki, h9, h10⟩ := h'.opt j kj h7 i h6 h1
      exact ⟨ki, h9, by omega⟩
/-- There is but one such. -/
theorem FarD.one (h : FarD N bk to fr) (h' : FarD N bk to fr') : fr = fr' := by
  funext i
  cases e : fr i with
  | some k =>
    obtain ⟨k', h1, h2⟩ := h.le h' k i e
    obtain ⟨k2, h3, h4⟩ := h'.le h k' i h1
    rw [e] at h3
    injection h3 with h3
    rw [h1]
    congr 1
    omega
  | none =>
    cases e' : fr' i with
    | none => rfl
    | some k' =>
      obtain ⟨k2, h3, _⟩ := h'.le h k' i e'
      rw [e] at h3; cases h3
theorem FarD.zero (h : FarD N bk to fr) {i : Nat} (hi : fr i = some 0) : i = to := by
  rcases h.down i 0 hi with ⟨rfl, _⟩ | ⟨_, _, j, k', _, e, _⟩
  · rfl
  · omega
theorem down_chain (ht : to < N) (hd : ∀ i k, fr i = some k → (i = to ∧ k = 0) ∨ (to < i ∧ i < N ∧ ∃ j k', j < N ∧ k = k' + 1 ∧ fr j = some k' ∧ i ∈ bk j)) : ∀ k i, fr i = some k → ∀ d, d ≤ k → ∃ c, c < N ∧ fr c = some d := by
  intro k
  induction k with
  | zero =>
    intro i hi d hd'
    have : d = 0 := by omega
    subst this
    rcases hd i 0 hi with ⟨rfl, _⟩ | ⟨_, h2, _⟩
    · exact ⟨i, ht, hi⟩
    · exact ⟨i, h2, hi⟩
  | succ k ih =>
    intro i hi d hd'
    rcases hd i _ hi with ⟨_, e⟩ | ⟨h1, h2, j, k', h3, h4, h5, h6⟩
    · omega
    · have : k' = k := by omega
      subst this
      by_cases e : d = k' + 1
      · subst e; exact ⟨i, h2, hi⟩
      · exact ih j h5 d (by omega)
end
end Go.Proofs.Ytmcpbmadjpjckaa
