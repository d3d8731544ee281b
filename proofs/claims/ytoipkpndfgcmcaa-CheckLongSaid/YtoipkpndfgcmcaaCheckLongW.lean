/-
  CheckLong: joined with two pieces of zeros it is as joined with one of both lengths: the law's walk. Condition: none.
-/
import Derived.Test.YtoipkpndfgcmcaaRows
import Derived.Test.YtoipkpndfgcmcaaWords
import Derived.Test.YtoipkpndfgcmcaaCrcJoinW
import Derived.Test.YtoipkpndfgcmcaaCrcAwake
namespace Go.Proofs.Ytoipkpndfgcmcaa
open Go.RowKit

theorem join0_any (a n y : Nat) (w : World) (ha : a < U32) (hn : n ≤ 9223372036854775807) (h : jn a 0 n = y) :
    Calls Try.prog 33 #[.int .u32 (a : Int), .int .u32 0, .int .i64 (n : Int)] w fun e w' => e = .returned (.tuple #[.int .u32 (y : Int), .int .i64 0]) ∧ Below w.heap.size w w' := by
  have := join_any a 0 n w ha (by decide) hn
  rw [h] at this
  exact this
theorem join0_neg (a : Nat) (n : Int) (w : World) (hn : n < 0) :
    Calls Try.prog 33 #[.int .u32 (a : Int), .int .u32 0, .int .i64 n] w fun e w' => e = .returned (.tuple #[.int .u32 0, .int .i64 2]) ∧ w = w' := join_neg a 0 n w hn

set_option maxRecDepth 100000 in
set_option maxHeartbeats 800000 in
theorem checkLong_walk (a : Nat) (one two : Int) (w : World) (ha : a < U32) (h1 : -9223372036854775808 ≤ one) (h2 : one ≤ 9223372036854775807) (h3 : -9223372036854775808 ≤ two) (h4 : two ≤ 9223372036854775807) :
    Calls Try.prog 6 #[.int .u32 (a : Int), .int .i64 one, .int .i64 two] w fun e w' => e = .returned (.bool true) ∧ Below w.heap.size w w' := by
  have hA := hide (awake_any w)
  have hNum := fun x w => hide (num_any x w)
  by_cases hone : one < 0
  · have hJ := fun w => hide (join0_neg a one w hone)
    clear h1 h2 h3 h4 ha
    go_enter Try.func6, Try.ntmps6
    go_wp2_with (go_at_call 34; refine (unhide hA).mono ?_; rintro e w1 ⟨rfl, hb1⟩)
    have HB1 := hide hb1
    clear hb1
    go_wp2_with (go_at_call 33; (with_reducible refine (unhide (hJ _)).mono ?_); rintro e w2 ⟨rfl, rfl⟩)
    go_wp2_with (go_at_call 19; refine (unhide (hNum _ _)).mono ?_; rintro e w2 ⟨rfl, rfl⟩)
    go_ret
    exact ⟨rfl, unhide HB1⟩
  · obtain ⟨m, rfl⟩ := Int.eq_ofNat_of_zero_le (by omega : 0 ≤ one)
    obtain ⟨x, hx⟩ : ∃ x, jn a 0 m = x := ⟨_, rfl⟩
    have hxl : x < U32 := hx ▸ jn_lt ha (by decide) m
    have hJ := fun w => hide (join0_any a m x w ha (by omega) hx)
    by_cases htwo : two < 0
    · have hJ2 := fun w => hide (join0_neg x two w htwo)
      clear h1 h2 h3 h4 ha hx hxl
      go_enter Try.func6, Try.ntmps6
      go_wp2_with (go_at_call 34; refine (unhide hA).mono ?_; rintro e w1 ⟨rfl, hb1⟩)
      have HB1 := hide hb1
      clear hb1
      go_wp2_with (go_at_call 33; (with_reducible refine (unhide (hJ _)).mono ?_); rintro e w2 ⟨rfl, hb2⟩)
      have HB2 := hide ((unhide HB1).trans (hb2.mono (unhide HB1).size))
      clear hb2
      go_wp2_with (go_at_call 33; (with_reducible refine (unhide (hJ2 _)).mono ?_); rintro e w3 ⟨rfl, rfl⟩)
      go_wp2_with (go_at_call 19; refine (unhide (hNum _ _)).mono ?_; rintro e w3 ⟨rfl, rfl⟩)
      go_ret
      exact ⟨rfl, unhide HB2⟩
    · obtain ⟨p, rfl⟩ := Int.eq_ofNat_of_zero_le (by omega : 0 ≤ two)
      obtain ⟨y, hy⟩ : ∃ y, jn x 0 p = y := ⟨_, rfl⟩
      have hJ2 := fun w => hide (join0_any x p y w hxl (by omega) hy)
      have hw : IntKind.i64.wrap ((9223372036854775807 : Int) - (m : Int)) = 9223372036854775807 - (m : Int) := IntWalk.i64_in _ (by omega)
      by_cases hbig : (9223372036854775807 : Int) - (m : Int) < (p : Int)
      · clear h1 h2 h3 h4 ha hx hxl hy
        go_enter Try.func6, Try.ntmps6
        go_wp2_with (go_at_call 34; refine (unhide hA).mono ?_; rintro e w1 ⟨rfl, hb1⟩)
        have HB1 := hide hb1
        clear hb1
        go_wp2_with (go_at_call 33; (with_reducible refine (unhide (hJ _)).mono ?_); rintro e w2 ⟨rfl, hb2⟩)
        have HB2 := hide ((unhide HB1).trans (hb2.mono (unhide HB1).size))
        clear hb2
        go_wp2_with (go_at_call 33; (with_reducible refine (unhide (hJ2 _)).mono ?_); rintro e w3 ⟨rfl, hb3⟩)
        have HB3 := hide ((unhide HB2).trans (hb3.mono (unhide HB2).size))
        clear hb3
        go_wp2_with (go_at_call 19; refine (unhide (hNum _ _)).mono ?_; rintro e w3 ⟨rfl, rfl⟩)
        go_wp2_with (go_at_call 19; refine (unhide (hNum _ _)).mono ?_; rintro e w3 ⟨rfl, rfl⟩)
        go_ret
        exact ⟨rfl, unhide HB3⟩
      · have hs : IntKind.i64.wrap ((m : Int) + (p : Int)) = ((m + p : Nat) : Int) := by rw [IntWalk.i64_in _ (by omega)]; omega
        have hy' : jn a 0 (m + p) = y := by
          rw [← hy, ← hx]
          simp only [jn, Nat.xor_zero]
          rw [Nat.add_comm, zer_add]
        have hJ3 := fun w => hide (join0_any a (m + p) y w ha (by omega) hy')
        clear h1 h2 h3 h4 ha hx hxl hy hy'
        go_enter Try.func6, Try.ntmps6
        go_wp2_with (go_at_call 34; refine (unhide hA).mono ?_; rintro e w1 ⟨rfl, hb1⟩)
        have HB1 := hide hb1
        clear hb1
        go_wp2_with (go_at_call 33; (with_reducible refine (unhide (hJ _)).mono ?_); rintro e w2 ⟨rfl, hb2⟩)
        have HB2 := hide ((unhide HB1).trans (hb2.mono (unhide HB1).size))
        clear hb2
        go_wp2_with (go_at_call 33; (with_reducible refine (unhide (hJ2 _)).mono ?_); rintro e w3 ⟨rfl, hb3⟩)
        have HB3 := hide ((unhide HB2).trans (hb3.mono (unhide HB2).size))
        clear hb3
        go_wp2_with fail
        refine (unhide (hJ3 _)).mono ?_
        rintro e w4 ⟨rfl, hb4⟩
        have HB4 := hide ((unhide HB3).trans (hb4.mono (unhide HB3).size))
        clear hb4
        go_wp2_with (go_at_call 19; refine (unhide (hNum _ _)).mono ?_; rintro e w5 ⟨rfl, rfl⟩)
        go_wp2_with (go_at_call 19; refine (unhide (hNum _ _)).mono ?_; rintro e w5 ⟨rfl, rfl⟩)
        go_wp2_with (go_at_call 19; refine (unhide (hNum _ _)).mono ?_; rintro e w5 ⟨rfl, rfl⟩)
        go_ret
        exact ⟨rfl, unhide HB4⟩
end Go.Proofs.Ytoipkpndfgcmcaa
