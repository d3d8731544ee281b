/-
  awake: the calls with which each statement of outright.go begins; its walk. Condition: none.
-/
import Derived.Test.YtbofjboebkfjgaaRows
import Derived.Test.YtbofjboebkfjgaaWords
import Derived.Test.YtbofjboebkfjgaaLebMath
import Derived.Test.YtbofjboebkfjgaaLebGet
import Derived.Test.YtbofjboebkfjgaaLebTurn
import Derived.Test.YtbofjboebkfjgaaLebPut
import Derived.Test.YtbofjboebkfjgaaLebSize
namespace Go.Proofs.Ytbofjboebkfjgaa
open Go.RowKit


set_option maxRecDepth 100000 in
set_option maxHeartbeats 800000 in
theorem awake_any (w : World) : Calls Try.prog 24 #[] w fun e w' => e = .returned (.bool true) ∧ Below w.heap.size w w' := by
  go_enter Try.func24, Try.ntmps24
  go_wp2_with fail
  refine (get_r (bs := [172, 2, 7]) _ (reads_lit w _ rfl 5 #[.int .u8 172, .int .u8 2, .int .u8 7] 3 rfl ([172, 2, 7].map bv) rfl) (a := 300) (k := 2) (f := 0) (by decide)).mono ?_
  rintro e w1 ⟨rfl, rfl⟩
  go_wp2_with fail
  refine (get_r (bs := [128, 0]) _ (reads_lit _ (w.heap.size + 1) (by simp) 5 #[.int .u8 128, .int .u8 0] 2 rfl ([128, 0].map bv) rfl) (a := 0) (k := 0) (f := 11) (by decide)).mono ?_
  rintro e w1 ⟨rfl, rfl⟩
  go_wp2_with fail
  refine (put_any 300 _ (by decide)).mono ?_
  rintro e w2 ⟨v2, rfl, ho2, hb2⟩
  obtain ⟨A2, c2, rfl⟩ := ho2.shape
  have hb3 : Below w.heap.size w w2 := (((Below.refl _ _).alloc (Nat.le_refl _) _).alloc (by simp) _).trans (hb2.mono (by simp; omega))
  have r2 := (Reads.of_own ho2).alloc (Nat.le_refl _) (.cells #[.int .u8 172, .int .u8 2] 5)
  have hE := hide (same_any A2 _ _ c2 _ 2 (form 300) [172, 2] _ _ (r2.more (Nat.le_succ _)) (reads_lit w2 _ rfl 5 #[.int .u8 172, .int .u8 2] 2 rfl ([172, 2].map bv) rfl))
  rw [show (form 300 == [172, 2]) = true by decide] at hE
  have hbb := hide (hb3.alloc hb3.size (.cells #[.int .u8 172, .int .u8 2] 5))
  clear ho2 hb2 hb3 r2
  go_wp2_with (go_at_call 18; refine (unhide hE).mono ?_; rintro e w3 ⟨rfl, rfl⟩)
  have hT : turnS (-1) = 1 := by decide
  have hB : backS 1 = -1 := by decide
  go_wp2_with (go_at_call 20; refine (turn_any (-1) _ (by omega) (by omega)).mono ?_; rintro e w3 ⟨rfl, rfl⟩)
  go_wp2_with (go_at_call 22; refine (back_any 1 _ (by decide)).mono ?_; rintro e w3 ⟨rfl, rfl⟩)
  go_ret
  exact ⟨rfl, unhide hbb⟩
end Go.Proofs.Ytbofjboebkfjgaa
