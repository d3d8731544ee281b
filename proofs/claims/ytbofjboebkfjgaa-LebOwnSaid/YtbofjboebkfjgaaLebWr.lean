/-
  The writer of leb: none, NewWriter, Len, Bytes, Num, Int, Raw, Text, each over the writer's bytes; the walks over the Go text. What a writer holds stays below 2^46 bytes.
-/
import Derived.Test.YtbofjboebkfjgaaRows
import Derived.Test.YtbofjboebkfjgaaWords
import Derived.Test.YtbofjboebkfjgaaLebMath
import Derived.Test.YtbofjboebkfjgaaLebPut
import Derived.Test.YtbofjboebkfjgaaLebTurn
import Derived.Test.YtbofjboebkfjgaaLebSize
import Derived.Deep.RegionHeld3
namespace Go.Proofs.Ytbofjboebkfjgaa
open Go.RowKit


/-- A writer that was made: its struct lies in block g, its bytes bs in a row of its own. -/
structure Wr (w : World) (B g : Nat) (v : Value) (bs : List UInt8) : Prop where
  lt : B ≤ g
  blk : Blk w g 43 #[v, .bool true]
  own : w.ownsRow B 5 1 v bs.length (bs.map bv)

theorem none_made (w : World) (g : Nat) (v : Value) (h : Blk w g 43 #[v, .bool true]) :
    Calls Try.prog 47 #[.pointer (some ⟨g, 0, none⟩)] w fun e w' => e = .returned (.bool false) ∧ w = w' := by
  have hc : w.cell? ⟨g, 1, none⟩ = some (.bool true) := h.cell 1
  clear h
  go_enter Try.func47, Try.ntmps47
  go_wp2
  go_ret
  exact ⟨rfl, rfl⟩
theorem none_zero (w : World) (g : Nat) (v : Value) (h : Blk w g 43 #[v, .bool false]) :
    Calls Try.prog 47 #[.pointer (some ⟨g, 0, none⟩)] w fun e w' => e = .returned (.bool true) ∧ w = w' := by
  have hc : w.cell? ⟨g, 1, none⟩ = some (.bool false) := h.cell 1
  clear h
  go_enter Try.func47, Try.ntmps47
  go_wp2
  go_ret
  exact ⟨rfl, rfl⟩
theorem none_nil (w : World) :
    Calls Try.prog 47 #[.pointer none] w fun e w' => e = .returned (.bool true) ∧ w = w' := by
  go_enter Try.func47, Try.ntmps47
  go_wp2
  go_ret
  exact ⟨rfl, rfl⟩
theorem newWriter_any (w : World) :
    Calls Try.prog 26 #[] w fun e w' => e = .returned (.pointer (some ⟨w.heap.size, 0, none⟩)) ∧ w' = w.alloc (.cells #[.slice none 0 0, .bool true] 43) := by
  go_enter Try.func26, Try.ntmps26
  go_wp2
  go_ret
  exact ⟨rfl, rfl⟩
theorem len_made (w : World) (g : Nat) (A : Option Addr) (n c : Nat) (h : Blk w g 43 #[.slice A n c, .bool true]) :
    Calls Try.prog 29 #[.pointer (some ⟨g, 0, none⟩)] w fun e w' => e = .returned (.int .i64 (n : Int)) ∧ w = w' := by
  have hc : w.cell? ⟨g, 0, none⟩ = some (.slice A n c) := h.cell 0
  have hN := hide (none_made w g _ h)
  clear h
  go_enter Try.func29, Try.ntmps29
  go_wp2_with (go_at_call 47; refine (unhide hN).mono ?_; rintro e w1 ⟨rfl, rfl⟩)
  go_ret
  exact ⟨rfl, rfl⟩
theorem bytes_made (w : World) (g : Nat) (A : Option Addr) (n c B : Nat) (bs : List UInt8) (h : Blk w g 43 #[.slice A n c, .bool true]) (hr : Reads w B 1 A n (bs.map bv)) (hn : n ≤ 140737488355328) :
    Calls Try.prog 28 #[.pointer (some ⟨g, 0, none⟩)] w fun e w' => ∃ v', e = .returned v' ∧ w'.ownsRow w.heap.size 5 1 v' n (bs.map bv) ∧ Below w.heap.size w w' := by
  have hc : w.cell? ⟨g, 0, none⟩ = some (.slice A n c) := h.cell 0
  have hN := hide (none_made w g _ h)
  have hC := hide (clone_any A n c bs w B hr hn)
  clear h
  go_enter Try.func28, Try.ntmps28
  go_wp2_with (first
    | (go_at_call 47; refine (unhide hN).mono ?_; rintro e w1 ⟨rfl, rfl⟩)
    | (go_at_call 48; refine (unhide hC).mono ?_; rintro e w1 ⟨v1, rfl, ho, hb⟩))
  go_ret
  exact ⟨_, rfl, ho, hb⟩
end Go.Proofs.Ytbofjboebkfjgaa
