/-
  The chapter's examples and the bound, as facts of the pages; plain Lean.
-/
import Derived.Test.YteambdbcjcfdeaaColRefuse
namespace Go.Proofs.Yteambdbcjcfdeaa
open Go.RowKit

theorem dec_page {c d : List UInt32} {e : Nat} (hn : c.length ≤ 65536) (h : Dec (pageS c) (c.length : Int) d e) : e = 0 ∧ d = c := by
  rcases h with ⟨_, _, h⟩ | ⟨_, _, ⟨_, _, h⟩ | ⟨h0, _, _, h⟩⟩
  · omega
  · exact absurd rfl (h c (by rw [Int.toNat_natCast]))
  · exact ⟨h0, h c (by rw [Int.toNat_natCast]) rfl⟩
theorem plain_min (c : List UInt32) : c.length ≤ (plainS c).length := by
  induction c with
  | nil => exact Nat.zero_le _
  | cons x r ih =>
    have := (form_len x.toNat).1
    simp only [plainS, List.flatMap_cons, List.length_append, List.length_cons] at ih ⊢
    omega
theorem delta_min (c : List UInt32) (k : Nat) : k ≤ (deltaTo c k).length := by
  induction k with
  | zero => exact Nat.zero_le _
  | succ k ih =>
    have := (form_len (stepAt c k)).1
    rw [deltaTo, List.length_append]
    omega
theorem mx_zero (n : Nat) : mx (List.replicate n 0) = 0 := by
  induction n with
  | zero => rfl
  | succ n ih => rw [List.replicate_succ, mx_cons, ih]; rfl
theorem page_zero (n : Nat) (hn : 2 ≤ n) : pageS (List.replicate n 0) = [4, 0] := by
  have hw : wideS (List.replicate n 0) = 0 := by rw [wideS, mx_zero]; rfl
  have hp : packS (List.replicate n 0) = [0] := by
    rw [packS, hw]
    simp [packTo]
  have h1 := plain_min (List.replicate n 0)
  have h2 : (List.replicate n (0 : UInt32)).length ≤ (deltaS (List.replicate n 0)).length := delta_min _ _
  have h3 : 2 ≤ (runS (List.replicate n 0)).length := by
    obtain ⟨m, rfl⟩ : ∃ m, n = m + 1 := ⟨n - 1, by omega⟩
    rw [List.replicate_succ, runS, runs_cons, List.flatMap_cons, List.length_append, List.length_append]
    have a := (form_len (0 : UInt32).toNat).1
    have b := (form_len (((List.replicate m (0 : UInt32)).takeWhile (· == 0)).length + 1)).1
    dsimp only
    omega
  rw [List.length_replicate] at h1 h2
  have h4 : (packS (List.replicate n 0)).length = 1 := by rw [hp]; rfl
  have hy : wayS (List.replicate n 0) = 4 := by
    unfold wayS wayOf
    rw [h4, if_neg (by omega), if_neg (by omega), if_neg (by omega)]
  rw [pageS, hy]
  show UInt8.ofNat 4 :: packS _ = _
  rw [hp]
  rfl
theorem known_none1 (c : List UInt32) (h : c.length = 1) : pageS c ≠ [2, 7] := by
  intro e
  have hy := (page_of (y := 2) (bs := [7]) (by decide) e).1
  match c, h with
  | [x], _ =>
    have he : (deltaS [x]).length = (plainS [x]).length := by simp [deltaS, deltaTo, plainS, stepAt]
    rw [wayS, he] at hy
    unfold wayOf at hy
    by_cases g1 : (plainS [x]).length ≤ (plainS [x]).length ∧ (plainS [x]).length ≤ (runS [x]).length ∧ (plainS [x]).length ≤ (packS [x]).length
    · rw [if_pos g1] at hy
      omega
    · rw [if_neg g1] at hy
      by_cases g2 : (plainS [x]).length ≤ (runS [x]).length ∧ (plainS [x]).length ≤ (packS [x]).length
      · omega
      · rw [if_neg g2] at hy
        split at hy <;> omega
theorem known_none2 (c : List UInt32) (h : c.length = 2) : pageS c ≠ [1, 7] := by
  intro e
  have h1 : plainS c = [7] := (page_of (y := 1) (bs := [7]) (by decide) e).2
  have h2 := plain_min c
  rw [h1, h] at h2
  exact absurd h2 (by decide)
theorem known_none3 (c : List UInt32) (h : c.length = 1) : pageS c ≠ [1, 7, 0] := by
  have hp : pageS [7] = [1, 7] := by decide +kernel
  have := more_none (c := [7]) (c2 := c) (x := 0) h (by decide)
  rw [hp] at this
  exact this
theorem known_none4 (c : List UInt32) (h : c.length = 4) : pageS c ≠ [3, 5, 2, 5, 2] := by
  intro e
  have h1 : runS c = [5, 2, 5, 2] := (page_of (y := 3) (bs := [5, 2, 5, 2]) (by decide) e).2
  have h2 : runBs [((5 : UInt32), 2), (5, 2)] = [5, 2, 5, 2] := by decide +kernel
  have hb : ∀ p ∈ runs c, p.2 < U64 := fun p hp => by
    have := expand_mem hp
    rw [expand_runs] at this
    unfold U64
    omega
  obtain ⟨zs, hz, ht⟩ := runBs_prefix [((5 : UInt32), 2), (5, 2)] (runs c) [] hb (by decide) (by rw [runBs_runs, h1, h2]; rfl)
  have hz0 : zs = [] := by
    cases zs with
    | nil => rfl
    | cons p zs =>
      exfalso
      have h5 := congrArg List.length ht
      have := (form_len p.1.toNat).1
      simp only [runBs, List.flatMap_cons, List.length_append, List.length_nil] at h5
      omega
  rw [hz0] at hz
  have h6 := expand_runs c
  rw [hz] at h6
  subst h6
  exact absurd e (by decide +kernel)
theorem known_none5 (c : List UInt32) (h : c.length = 0) : pageS c ≠ [5] := by
  obtain rfl := List.length_eq_zero_iff.1 h
  decide +kernel
theorem known_zero {k : Int} (h : RefOut [1] 0 k) : k = 0 := by
  obtain ⟨c, e, hd, hk⟩ := h
  have hp : pageS ([] : List UInt32) = [1] := by decide +kernel
  rw [← hp] at hd
  obtain ⟨rfl, rfl⟩ := dec_page (c := []) (by decide) hd
  simpa using hk
theorem known_arg {bs : List UInt8} {rows k : Int} (h : RefOut bs rows k) (hr : rows < 0 ∨ 65536 < rows) : k = 2 := by
  obtain ⟨c, e, hd, hk⟩ := h
  rcases hd with ⟨rfl, rfl, _⟩ | ⟨h1, h2, _⟩
  · simpa using hk
  · omega
end Go.Proofs.Yteambdbcjcfdeaa
