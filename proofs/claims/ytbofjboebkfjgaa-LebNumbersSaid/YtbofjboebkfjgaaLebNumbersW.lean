/-
  LebNumbers: each number's form, size, turned number and back are the document's: the law's walk. Condition: none.
-/
import Derived.Test.YtbofjboebkfjgaaRows
import Derived.Test.YtbofjboebkfjgaaWords
import Derived.Test.YtbofjboebkfjgaaLebMath
import Derived.Test.YtbofjboebkfjgaaLebGet
import Derived.Test.YtbofjboebkfjgaaLebTurn
import Derived.Test.YtbofjboebkfjgaaLebPut
import Derived.Test.YtbofjboebkfjgaaLebSize
namespace Go.Proofs.Ytbofjboebkfjgaa
open Go.RowKit


set_option maxRecDepth 100000 in
set_option maxHeartbeats 800000 in
theorem lebNumbers_walk (n : Nat) (k : Int) (w : World) (hn : n < U64) (h1 : -9223372036854775808 ≤ k) (h2 : k ≤ 9223372036854775807) :
    Calls Try.prog 4 #[.int .u64 (n : Int), .int .i64 k] w fun e w' => e = .returned (.bool true) ∧ Below w.heap.size w w' := by
  have hP := hide (put_any n w hn)
  have hT := fun w => hide (turn_any k w h1 h2)
  have hT' := fun w => hide (refTurn_any k w h1 h2)
  have hB := fun w => hide (back_any n w hn)
  have hB' := fun w => hide (refBack_any n w hn)
  have hS := fun w => hide (size_any n w hn)
  have hR := fun w => hide (refPut_any n w hn)
  clear hn h1 h2
  go_enter Try.func4, Try.ntmps4
  go_wp2_with (go_at_call 16; refine (unhide hP).mono ?_; rintro e w1 ⟨v1, rfl, ho1, hb1⟩)
  go_wp2_with (go_at_call 17; refine (unhide (hR w1)).mono ?_; rintro e w2 ⟨v2, rfl, ho2, hb2⟩)
  obtain ⟨A1, c1, rfl⟩ := ho1.shape
  obtain ⟨A2, c2, rfl⟩ := ho2.shape
  have r1 := ((Reads.of_own ho1).below hb2).more hb2.size
  have r2 := Reads.of_own ho2
  have hE := hide (same_any A1 A2 (form n).length c1 (form n).length c2 (form n) (form n) w2 w2.heap.size r1 r2)
  rw [show (form n == form n) = true by simp] at hE
  have hbb := hide (hb1.trans (hb2.mono hb1.size))
  clear ho1 ho2 hb1 hb2 r1 r2 hP
  go_wp2_with (go_at_call 18; refine (unhide hE).mono ?_; rintro e w3 ⟨rfl, rfl⟩)
  go_wp2_with (first
    | (go_at_call 19; refine (unhide (hS w2)).mono ?_; rintro e w3 ⟨rfl, rfl⟩)
    | (go_at_call 20; refine (unhide (hT w2)).mono ?_; rintro e w3 ⟨rfl, rfl⟩)
    | (go_at_call 21; refine (unhide (hT' w2)).mono ?_; rintro e w3 ⟨rfl, rfl⟩)
    | (go_at_call 22; refine (unhide (hB w2)).mono ?_; rintro e w3 ⟨rfl, rfl⟩)
    | (go_at_call 23; refine (unhide (hB' w2)).mono ?_; rintro e w3 ⟨rfl, rfl⟩))
  go_ret
  exact ⟨rfl, unhide hbb⟩
end Go.Proofs.Ytbofjboebkfjgaa
