/-
  A writer that is none, or that nobody made: each call does and answers nothing; the walks over the Go text. No condition.
-/
import Derived.Test.YtbofjboebkfjgaaLebWr2
namespace Go.Proofs.Ytbofjboebkfjgaa
open Go.RowKit

/-- No writer, or a zero one. -/
def NoW (v : Value) (w : World) : Prop := v = .pointer none ∨ ∃ z, v = .pointer (some ⟨z, 0, none⟩) ∧ Blk w z 43 #[.slice none 0 0, .bool false]
theorem NoW.nil (w : World) : NoW (.pointer none) w := .inl rfl
theorem NoW.chg {v : Value} {w w' : World} {S : Nat → Prop} (h : NoW v w) (hc : Chg w w' S) (hS : ∀ z, v = .pointer (some ⟨z, 0, none⟩) → ¬ S z) : NoW v w' := by
  rcases h with h | ⟨z, rfl, hz⟩
  · exact .inl h
  · exact .inr ⟨z, rfl, hc.blk hz (hS z rfl)⟩
theorem NoW.below {v : Value} {w w' : World} (h : NoW v w) (hb : Below w.heap.size w w') : NoW v w' := h.chg (Chg.of_below hb (fun _ => False)) (fun _ _ h => h)
theorem wnone_no (v : Value) (w : World) (h : NoW v w) : Calls Try.prog 47 #[v] w fun e w' => e = .returned (.bool true) ∧ w = w' := by
  rcases h with rfl | ⟨z, rfl, hz⟩
  · exact none_nil w
  · exact none_zero w z _ hz
theorem eachU_no (v : Value) (w : World) (h : NoW v w) (s f : Value) : Calls Try.prog 49 #[v, s, f] w fun e w' => e = .returned (.tuple #[]) ∧ w = w' := by
  have hN := hide (wnone_no v w h)
  clear h
  go_enter Try.func49, Try.ntmps49
  go_wp2_with (go_at_call 47; refine (unhide hN).mono ?_; rintro e w1 ⟨rfl, rfl⟩)
  exact bodyPost_ret (v := .tuple #[]) (results_none rfl _ _ _) rfl ⟨rfl, rfl⟩
theorem eachI_no (v : Value) (w : World) (h : NoW v w) (s f : Value) : Calls Try.prog 65 #[v, s, f] w fun e w' => e = .returned (.tuple #[]) ∧ w = w' := by
  have hN := hide (wnone_no v w h)
  clear h
  go_enter Try.func65, Try.ntmps65
  go_wp2_with (go_at_call 47; refine (unhide hN).mono ?_; rintro e w1 ⟨rfl, rfl⟩)
  exact bodyPost_ret (v := .tuple #[]) (results_none rfl _ _ _) rfl ⟨rfl, rfl⟩
theorem wnum_no (v s : Value) (w : World) (h : NoW v w) : Calls Try.prog 30 #[v, s] w fun e w' => e = .returned (.tuple #[]) ∧ w = w' := by
  have hN := fun s f => hide (eachU_no v w h s f)
  clear h
  go_enter Try.func30, Try.ntmps30
  go_wp2_with (go_at_call 49; refine (unhide (hN _ _)).mono ?_; rintro e w1 ⟨rfl, rfl⟩)
  go_end0
  exact ⟨rfl, rfl⟩
theorem wint_no (v s : Value) (w : World) (h : NoW v w) : Calls Try.prog 46 #[v, s] w fun e w' => e = .returned (.tuple #[]) ∧ w = w' := by
  have hN := fun s f => hide (eachI_no v w h s f)
  clear h
  go_enter Try.func46, Try.ntmps46
  go_wp2_with (go_at_call 65; refine (unhide (hN _ _)).mono ?_; rintro e w1 ⟨rfl, rfl⟩)
  go_end0
  exact ⟨rfl, rfl⟩
theorem wraw_no (v s : Value) (w : World) (h : NoW v w) : Calls Try.prog 31 #[v, s] w fun e w' => e = .returned (.tuple #[]) ∧ w = w' := by
  have hN := hide (wnone_no v w h)
  clear h
  go_enter Try.func31, Try.ntmps31
  go_wp2_with (go_at_call 47; refine (unhide hN).mono ?_; rintro e w1 ⟨rfl, rfl⟩)
  go_end0
  exact ⟨rfl, rfl⟩
theorem wtext_no (v : Value) (xs : List UInt8) (w : World) (h : NoW v w) (hx : xs.length ≤ 140737488355328) : Calls Try.prog 32 #[v, .string ⟨xs.toArray⟩] w fun e w' => e = .returned (.tuple #[]) ∧ Below w.heap.size w w' := by
  have hsz : (⟨xs.toArray⟩ : ByteArray).size = xs.length := rfl
  obtain ⟨N, hN'⟩ : ∃ N, xs.length = N := ⟨_, rfl⟩
  rw [hN'] at hsz hx
  have hb : Below w.heap.size w (w.alloc (.cells #[uv N] 24)) := (Below.refl _ _).alloc (Nat.le_refl _) _
  have h1 := h.below hb
  have hM := fun s => hide (wnum_no v s _ h1)
  have hN := hide (wnone_no v _ h1)
  have HB := hide hb
  clear h h1 hb
  go_enter Try.func32, Try.ntmps32
  go_wp2_with fail
  refine (unhide (hM _)).mono ?_
  rintro e w1 ⟨rfl, rfl⟩
  go_wp2_with fail
  refine (unhide hN).mono ?_
  rintro e w1 ⟨rfl, rfl⟩
  go_wp2
  go_end0
  exact ⟨rfl, unhide HB⟩
theorem len_no (v : Value) (w : World) (h : NoW v w) : Calls Try.prog 29 #[v] w fun e w' => e = .returned (.int .i64 0) ∧ w = w' := by
  have hN := hide (wnone_no v w h)
  clear h
  go_enter Try.func29, Try.ntmps29
  go_wp2_with (go_at_call 47; refine (unhide hN).mono ?_; rintro e w1 ⟨rfl, rfl⟩)
  go_ret
  exact ⟨rfl, rfl⟩
theorem bytes_no (v : Value) (w : World) (h : NoW v w) : Calls Try.prog 28 #[v] w fun e w' => e = .returned (.slice none 0 0) ∧ w = w' := by
  have hN := hide (wnone_no v w h)
  clear h
  go_enter Try.func28, Try.ntmps28
  go_wp2_with (go_at_call 47; refine (unhide hN).mono ?_; rintro e w1 ⟨rfl, rfl⟩)
  go_ret
  exact ⟨rfl, rfl⟩
end Go.Proofs.Ytbofjboebkfjgaa
