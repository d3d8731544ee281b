/-
  A reader that is none, or that nobody made: each call answers nothing; the walks over the Go text. No condition.
-/
import Derived.Test.YtbofjboebkfjgaaLebRd2
namespace Go.Proofs.Ytbofjboebkfjgaa
open Go.RowKit

/-- No reader, or a zero one. -/
def NoR (v : Value) (w : World) : Prop := v = .pointer none ∨ ∃ z, v = .pointer (some ⟨z, 0, none⟩) ∧ Blk w z 62 #[.slice none 0 0, .int .i64 0, .int .i64 0, .bool false]
theorem NoR.nil (w : World) : NoR (.pointer none) w := .inl rfl
theorem NoR.chg {v : Value} {w w' : World} {S : Nat → Prop} (h : NoR v w) (hc : Chg w w' S) (hS : ∀ z, v = .pointer (some ⟨z, 0, none⟩) → ¬ S z) : NoR v w' := by
  rcases h with h | ⟨z, rfl, hz⟩
  · exact .inl h
  · exact .inr ⟨z, rfl, hc.blk hz (hS z rfl)⟩
theorem NoR.below {v : Value} {w w' : World} (h : NoR v w) (hb : Below w.heap.size w w') : NoR v w' := h.chg (Chg.of_below hb (fun _ => False)) (fun _ _ h => h)
theorem none_no (v : Value) (w : World) (h : NoR v w) : Calls Try.prog 54 #[v] w fun e w' => e = .returned (.bool true) ∧ w = w' := by
  rcases h with rfl | ⟨z, rfl, hz⟩
  · exact rnone_nil w
  · exact rnone_zero w z _ _ _ hz
theorem num_no_ (v : Value) (w : World) (h : NoR v w) : Calls Try.prog 38 #[v] w fun e w' => e = .returned (.int .u64 0) ∧ w = w' := by
  have hN := hide (none_no v w h)
  have hR : Hid (Calls Try.prog 60 #[v, .func (.func 61) #[v] #[]] w fun E w' => E = .returned (.int .u64 0) ∧ w = w') := hide <| by
    go_enter Try.func60, Try.ntmps60
    go_wp2_with (go_at_call 54; refine (unhide hN).mono ?_; rintro e w1 ⟨rfl, rfl⟩)
    go_ret
    exact ⟨rfl, rfl⟩
  clear h
  go_enter Try.func38, Try.ntmps38
  go_wp2_with (go_at_call 60; refine (unhide hR).mono ?_; rintro e w1 ⟨rfl, rfl⟩)
  go_ret
  exact ⟨rfl, rfl⟩
theorem int_no (v : Value) (w : World) (h : NoR v w) : Calls Try.prog 40 #[v] w fun e w' => e = .returned (.int .i64 0) ∧ w = w' := by
  have hN := hide (num_no_ v w h)
  have hB := fun w => hide (back_any 0 w (by decide))
  rw [show backS 0 = 0 by decide] at hB
  clear h
  go_enter Try.func40, Try.ntmps40
  go_wp2_with (first
    | (go_at_call 38; refine (unhide hN).mono ?_; rintro e w1 ⟨rfl, rfl⟩)
    | (go_at_call 22; refine (unhide (hB _)).mono ?_; rintro e w2 ⟨rfl, rfl⟩))
  go_ret
  exact ⟨rfl, rfl⟩
theorem raw_no (v : Value) (k : Int) (w : World) (h : NoR v w) : Calls Try.prog 34 #[v, .int .i64 k] w fun e w' => e = .returned (.slice none 0 0) ∧ Below w.heap.size w w' := by
  have hb : Below w.heap.size w ((w.alloc (.cells #[v] 53)).alloc (.cells #[.int .i64 k] 3)) := ((Below.refl _ _).alloc (Nat.le_refl _) _).alloc (by simp) _
  have hN := hide (none_no v _ (h.below hb))
  have hv : v.oneCell' = true ∧ ∃ a, v = .pointer a := by
    rcases h with rfl | ⟨z, rfl, _⟩
    · exact ⟨rfl, _, rfl⟩
    · exact ⟨rfl, _, rfl⟩
  obtain ⟨_, a, rfl⟩ := hv
  have hR : Hid (Calls Try.prog 51 #[.pointer a, .func (.func 52) #[] #[.pointer (some ⟨w.heap.size + 1, 0, none⟩), .pointer (some ⟨w.heap.size, 0, none⟩)]] ((w.alloc (.cells #[.pointer a] 53)).alloc (.cells #[.int .i64 k] 3)) fun E w' => E = .returned (.slice none 0 0) ∧ ((w.alloc (.cells #[.pointer a] 53)).alloc (.cells #[.int .i64 k] 3)) = w') := hide <| by
    go_enter Try.func51, Try.ntmps51
    go_wp2_with (go_at_call 54; refine (unhide hN).mono ?_; rintro e w1 ⟨rfl, rfl⟩)
    go_ret
    exact ⟨rfl, rfl⟩
  have HB := hide hb
  clear h hb hN
  go_enter Try.func34, Try.ntmps34
  go_wp2_with (go_at_call 51; refine (unhide hR).mono ?_; rintro e w1 ⟨rfl, rfl⟩)
  go_ret
  exact ⟨rfl, unhide HB⟩
theorem text_no (v : Value) (k : Int) (w : World) (h : NoR v w) : Calls Try.prog 39 #[v, .int .i64 k] w fun e w' => e = .returned (.string ⟨#[]⟩) ∧ Below w.heap.size w w' := by
  have hb : Below w.heap.size w ((w.alloc (.cells #[v] 53)).alloc (.cells #[.int .i64 k] 3)) := ((Below.refl _ _).alloc (Nat.le_refl _) _).alloc (by simp) _
  have hN := hide (none_no v _ (h.below hb))
  have hv : v.oneCell' = true ∧ ∃ a, v = .pointer a := by
    rcases h with rfl | ⟨z, rfl, _⟩
    · exact ⟨rfl, _, rfl⟩
    · exact ⟨rfl, _, rfl⟩
  obtain ⟨_, a, rfl⟩ := hv
  have hR : Hid (Calls Try.prog 62 #[.pointer a, .func (.func 63) #[] #[.pointer (some ⟨w.heap.size + 1, 0, none⟩), .pointer (some ⟨w.heap.size, 0, none⟩)]] ((w.alloc (.cells #[.pointer a] 53)).alloc (.cells #[.int .i64 k] 3)) fun E w' => E = .returned (.string ⟨#[]⟩) ∧ ((w.alloc (.cells #[.pointer a] 53)).alloc (.cells #[.int .i64 k] 3)) = w') := hide <| by
    go_enter Try.func62, Try.ntmps62
    go_wp2_with (go_at_call 54; refine (unhide hN).mono ?_; rintro e w1 ⟨rfl, rfl⟩)
    go_ret
    exact ⟨rfl, rfl⟩
  have HB := hide hb
  clear h hb hN
  go_enter Try.func39, Try.ntmps39
  go_wp2_with (go_at_call 62; refine (unhide hR).mono ?_; rintro e w1 ⟨rfl, rfl⟩)
  go_ret
  exact ⟨rfl, unhide HB⟩
theorem at_no (v : Value) (w : World) (h : NoR v w) : Calls Try.prog 41 #[v] w fun e w' => e = .returned (.int .i64 0) ∧ w = w' := by
  have hN := hide (none_no v w h)
  clear h
  go_enter Try.func41, Try.ntmps41
  go_wp2_with (go_at_call 54; refine (unhide hN).mono ?_; rintro e w1 ⟨rfl, rfl⟩)
  go_ret
  exact ⟨rfl, rfl⟩
theorem left_no (v : Value) (w : World) (h : NoR v w) : Calls Try.prog 35 #[v] w fun e w' => e = .returned (.int .i64 0) ∧ w = w' := by
  have hN := hide (none_no v w h)
  clear h
  go_enter Try.func35, Try.ntmps35
  go_wp2_with (go_at_call 54; refine (unhide hN).mono ?_; rintro e w1 ⟨rfl, rfl⟩)
  go_ret
  exact ⟨rfl, rfl⟩
theorem err_no (v : Value) (w : World) (h : NoR v w) : Calls Try.prog 36 #[v] w fun e w' => e = .returned (.int .i64 1) ∧ w = w' := by
  have hN := hide (none_no v w h)
  clear h
  go_enter Try.func36, Try.ntmps36
  go_wp2_with (go_at_call 54; refine (unhide hN).mono ?_; rintro e w1 ⟨rfl, rfl⟩)
  go_ret
  exact ⟨rfl, rfl⟩
theorem end_no (v : Value) (w : World) (h : NoR v w) : Calls Try.prog 42 #[v] w fun e w' => e = .returned (.int .i64 1) ∧ w = w' := by
  have hN := hide (err_no v w h)
  clear h
  go_enter Try.func42, Try.ntmps42
  go_wp2_with (go_at_call 36; refine (unhide hN).mono ?_; rintro e w1 ⟨rfl, rfl⟩)
  go_ret
  exact ⟨rfl, rfl⟩
end Go.Proofs.Ytbofjboebkfjgaa
