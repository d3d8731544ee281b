/-
  'round': a place among n; the walk over the Go text.
-/
import Derived.Test.YtbofjboebkfjgaaLebPuts4
namespace Go.Proofs.Ytbofjboebkfjgaa
open Go.RowKit

theorem round_any (x n : Int) (w : World) (n1 : 1 ≤ n) (n2 : n ≤ 9223372036854775807) :
    Calls Try.prog 25 #[.int .i64 x, .int .i64 n] w fun e w' => e = .returned (.int .i64 (x % n)) ∧ w = w' := by
  have hn0 : n ≠ 0 := by omega
  have hlt : x % n < n := Int.emod_lt_of_pos x (by omega)
  have hge : 0 ≤ x % n := Int.emod_nonneg x hn0
  have htm : x.tmod n = if 0 ≤ x ∨ x % n = 0 then x % n else x % n - n := by
    rw [Int.tmod_eq_emod]
    have hna : (n.natAbs : Int) = n := by omega
    by_cases hx : 0 ≤ x
    · rw [if_pos (Or.inl hx), if_pos (Or.inl hx)]; omega
    · by_cases hd : n ∣ x
      · rw [if_pos (Or.inr hd), if_pos (Or.inr (Int.emod_eq_zero_of_dvd hd))]; omega
      · rw [if_neg (by rintro (h | h); exact hx h; exact hd h), if_neg (by rintro (h | h); exact hx h; exact hd (Int.dvd_of_emod_eq_zero h))]; omega
  obtain ⟨q, hq⟩ : ∃ q, x % n = q := ⟨_, rfl⟩
  rw [hq] at htm hlt hge
  rw [hq]
  obtain ⟨t, ht⟩ : ∃ t, x.tmod n = t := ⟨_, rfl⟩
  by_cases hs : 0 ≤ x ∨ q = 0
  · rw [if_pos hs] at htm
    rw [htm] at ht
    subst ht
    have hw : ¬ q < 0 := by omega
    go_enter Try.func25, Try.ntmps25
    go_wp2
    go_ret
    exact ⟨rfl, rfl⟩
  · rw [if_neg hs] at htm
    have hw : q - n < 0 := by omega
    go_enter Try.func25, Try.ntmps25
    go_wp2
    go_ret
    exact ⟨rfl, rfl⟩
end Go.Proofs.Ytbofjboebkfjgaa
