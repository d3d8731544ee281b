/-
  Are the edges of a graph such as the chapter takes: the walks over the Go text, the program's and the document's. (Printed by wip/chkgen.py.)
-/
import Derived.Test.YtmcpbmadjpjckaaGrNet
namespace Go.Proofs.Ytmcpbmadjpjckaa
open Go.RowKit

/-- Is an edge one between nodes below n, of a weight that is let in? -/
def okE (n : Int) (e : Int × Int × Int) : Bool := decide (0 ≤ e.1 ∧ e.1 < n ∧ 0 ≤ e.2.1 ∧ e.2.1 < n ∧ 0 ≤ e.2.2 ∧ e.2.2 ≤ 1048576)
theorem okE_bad {n f t g : Int} (h : f < 0 ∨ n ≤ f ∨ t < 0 ∨ n ≤ t ∨ g < 0 ∨ 1048576 < g) : okE n (f, t, g) = false := decide_eq_false (fun k => by
  have k : 0 ≤ f ∧ f < n ∧ 0 ≤ t ∧ t < n ∧ 0 ≤ g ∧ g ≤ 1048576 := k
  omega)
theorem okE_good {n f t g : Int} (h : 0 ≤ f ∧ f < n ∧ 0 ≤ t ∧ t < n ∧ 0 ≤ g ∧ g ≤ 1048576) : okE n (f, t, g) = true := decide_eq_true h
open Classical in
/-- The answer's number: 0 (taken), 2 or 3. -/
noncomputable def chkS (n : Int) (E : List (Int × Int × Int)) : Int := if 65536 < n ∨ 1048576 < E.length then 3 else if n < 0 ∨ ∃ e ∈ E, okE n e = false then 2 else 0
theorem ret_c {a b : Int} (h : a = b) : Ending.returned (Value.int .i64 a) = Ending.returned (Value.int .i64 b) := by rw [h]

set_option maxRecDepth 100000 in
set_option maxHeartbeats 2000000 in
theorem check_any (W : World) (n : Int) (A : Option Addr) (m cap B0 : Nat) (E : List (Int × Int × Int)) (hr : Reads W B0 3 A m (ecells E)) (hB0 : B0 ≤ W.heap.size) (hm : m ≤ 140737488355328) :
    Calls Try.prog 27 #[.int .i64 n, .slice A m cap] W fun e W' => e = .returned (.int .i64 (chkS n E)) ∧ Below W.heap.size W W' := by
  have hlen : E.length = m := by have := hr.1; rw [ecells_len] at this; omega
  have HL := Lib.hid hlen
  have HR := hide hr
  clear hr hlen
  go_enter Try.func27, Try.ntmps27
  by_cases g1 : 65536 < n
  · go_wp2_with fail
    go_ret
    exact ⟨ret_c (by rw [chkS, if_pos (.inl g1)]), Below.refl _ _⟩
  have g1' : n ≤ 65536 := by omega
  by_cases g2 : 1048576 < m
  · have g2I : (1048576 : Int) < (m : Int) := by omega
    go_wp2_with fail
    go_ret
    exact ⟨ret_c (by rw [chkS, if_pos (.inr (by rw [HL.out]; exact g2))]), Below.refl _ _⟩
  have g2I : ¬ (1048576 : Int) < (m : Int) := by omega
  go_wp2_with fail
  go_loopg [16] m (fun q t W' => ∃ k : Nat, t = .int .i64 (k : Int) ∧ k + q = m ∧ (∀ e ∈ E.take k, okE n e = true) ∧ Below W.heap.size W W')
  case atStart => exact ⟨0, rfl, by omega, by simp, Below.refl _ _⟩
  case round =>
    obtain ⟨k, rfl, hkq, ha, hb⟩ := hrel
    have hk0 : (0 : Int) ≤ (k : Int) := by omega
    by_cases hk : k < m
    · obtain ⟨b, off, f, t, g, rfl, hbB, he, c1, c2, c3⟩ := ((unhide HR).below (hb.mono hB0)).edge hk
      have hkm : (k : Int) < (m : Int) := by omega
      obtain ⟨gq, rfl⟩ : ∃ q, gk = q + 1 := ⟨gk - 1, by omega⟩
      have HE := Lib.hid he
      have HA := hide ha
      have HB := hide hb
      have hB2 := hide (show Below W.heap.size W (wr.alloc (.cells #[.int .i64 f, .int .i64 t, .int .i64 g] 41)) from hb.alloc hb.size _)
      clear he ha hb
      have hbad : okE n (f, t, g) = false → chkS n E = 2 := fun h => by
        rw [chkS, if_neg (by rw [HL.out]; omega), if_pos (.inr ⟨_, List.mem_of_getElem? HE.out, h⟩)]
      have HBAD := hide hbad
      clear hbad
      by_cases b0 : f < 0
      · go_wp2_with fail
        go_ret
        exact ⟨ret_c ((unhide HBAD) (okE_bad (by omega))).symm, unhide hB2⟩
      have b0' : 0 ≤ f := by omega
      by_cases b1 : n ≤ f
      · go_wp2_with fail
        go_ret
        exact ⟨ret_c ((unhide HBAD) (okE_bad (by omega))).symm, unhide hB2⟩
      have b1' : f < n := by omega
      by_cases b2 : t < 0
      · go_wp2_with fail
        go_ret
        exact ⟨ret_c ((unhide HBAD) (okE_bad (by omega))).symm, unhide hB2⟩
      have b2' : 0 ≤ t := by omega
      by_cases b3 : n ≤ t
      · go_wp2_with fail
        go_ret
        exact ⟨ret_c ((unhide HBAD) (okE_bad (by omega))).symm, unhide hB2⟩
      have b3' : t < n := by omega
      by_cases b4 : g < 0
      · go_wp2_with fail
        go_ret
        exact ⟨ret_c ((unhide HBAD) (okE_bad (by omega))).symm, unhide hB2⟩
      have b4' : 0 ≤ g := by omega
      by_cases b5 : 1048576 < g
      · go_wp2_with fail
        go_ret
        exact ⟨ret_c ((unhide HBAD) (okE_bad (by omega))).symm, unhide hB2⟩
      have b5' : g ≤ 1048576 := by omega
      have ha2 := hide (show ∀ e ∈ E.take (k + 1), okE n e = true from fun e h => by
        rw [List.take_add_one, HE.out, Option.toList_some, List.mem_append, List.mem_singleton] at h
        rcases h with h | rfl
        · exact unhide HA e h
        · exact okE_good ⟨b0', b1', b2', b3', b4', b5'⟩)
      go_wp2_with fail
      go_roundg gq
      case rel => exact ⟨k + 1, by go_num, by omega, unhide ha2, unhide hB2⟩
      case measure => omega
    · obtain rfl : k = m := by omega
      rw [List.take_of_length_le (by have := HL.out; omega)] at ha
      have HA := hide ha
      have HB := hide hb
      clear ha hb
      by_cases g3 : n < 0
      · go_wp2_with fail
        go_ret
        exact ⟨ret_c (by rw [chkS, if_neg (by rw [HL.out]; omega), if_pos (.inl g3)]), unhide HB⟩
      go_wp2_with fail
      go_ret
      exact ⟨ret_c (by
        rw [chkS, if_neg (by rw [HL.out]; omega), if_neg]
        rintro (h | ⟨e, he, h2⟩)
        · omega
        · rw [unhide HA e he] at h2; cases h2), unhide HB⟩
set_option maxRecDepth 100000 in
set_option maxHeartbeats 2000000 in
theorem refCheck_any (W : World) (n : Int) (A : Option Addr) (m cap B0 : Nat) (E : List (Int × Int × Int)) (hr : Reads W B0 3 A m (ecells E)) (hB0 : B0 ≤ W.heap.size) (hm : m ≤ 140737488355328) :
    Calls Try.prog 26 #[.int .i64 n, .slice A m cap] W fun e W' => e = .returned (.int .i64 (chkS n E)) ∧ Below W.heap.size W W' := by
  have hlen : E.length = m := by have := hr.1; rw [ecells_len] at this; omega
  have HL := Lib.hid hlen
  have HR := hide hr
  clear hr hlen
  go_enter Try.func26, Try.ntmps26
  by_cases g1 : 65536 < n
  · go_wp2_with fail
    go_ret
    exact ⟨ret_c (by rw [chkS, if_pos (.inl g1)]), Below.refl _ _⟩
  have g1' : n ≤ 65536 := by omega
  by_cases g2 : 1048576 < m
  · have g2I : (1048576 : Int) < (m : Int) := by omega
    go_wp2_with fail
    go_ret
    exact ⟨ret_c (by rw [chkS, if_pos (.inr (by rw [HL.out]; exact g2))]), Below.refl _ _⟩
  have g2I : ¬ (1048576 : Int) < (m : Int) := by omega
  by_cases g3 : n < 0
  · go_wp2_with fail
    go_ret
    exact ⟨ret_c (by rw [chkS, if_neg (by rw [HL.out]; omega), if_pos (.inl g3)]), Below.refl _ _⟩
  go_wp2_with fail
  go_loopg [5] m (fun q t W' => ∃ k : Nat, t = .int .i64 (k : Int) ∧ k + q = m ∧ (∀ e ∈ E.take k, okE n e = true) ∧ Below W.heap.size W W')
  case atStart => exact ⟨0, rfl, by omega, by simp, Below.refl _ _⟩
  case round =>
    obtain ⟨k, rfl, hkq, ha, hb⟩ := hrel
    have hk0 : (0 : Int) ≤ (k : Int) := by omega
    by_cases hk : k < m
    · obtain ⟨b, off, f, t, g, rfl, hbB, he, c1, c2, c3⟩ := ((unhide HR).below (hb.mono hB0)).edge hk
      have hkm : (k : Int) < (m : Int) := by omega
      obtain ⟨gq, rfl⟩ : ∃ q, gk = q + 1 := ⟨gk - 1, by omega⟩
      have HE := Lib.hid he
      have HA := hide ha
      have HB := hide hb
      have hB2 := hide (show Below W.heap.size W (wr.alloc (.cells #[.int .i64 f, .int .i64 t, .int .i64 g] 65)) from hb.alloc hb.size _)
      clear he ha hb
      have hbad : okE n (f, t, g) = false → chkS n E = 2 := fun h => by
        rw [chkS, if_neg (by rw [HL.out]; omega), if_pos (.inr ⟨_, List.mem_of_getElem? HE.out, h⟩)]
      have HBAD := hide hbad
      clear hbad
      by_cases b0 : f < 0
      · go_wp2_with fail
        go_ret
        exact ⟨ret_c ((unhide HBAD) (okE_bad (by omega))).symm, unhide hB2⟩
      have b0' : 0 ≤ f := by omega
      by_cases b1 : n ≤ f
      · go_wp2_with fail
        go_ret
        exact ⟨ret_c ((unhide HBAD) (okE_bad (by omega))).symm, unhide hB2⟩
      have b1' : f < n := by omega
      by_cases b2 : t < 0
      · go_wp2_with fail
        go_ret
        exact ⟨ret_c ((unhide HBAD) (okE_bad (by omega))).symm, unhide hB2⟩
      have b2' : 0 ≤ t := by omega
      by_cases b3 : n ≤ t
      · go_wp2_with fail
        go_ret
        exact ⟨ret_c ((unhide HBAD) (okE_bad (by omega))).symm, unhide hB2⟩
      have b3' : t < n := by omega
      by_cases b4 : g < 0
      · go_wp2_with fail
        go_ret
        exact ⟨ret_c ((unhide HBAD) (okE_bad (by omega))).symm, unhide hB2⟩
      have b4' : 0 ≤ g := by omega
      by_cases b5 : 1048576 < g
      · go_wp2_with fail
        go_ret
        exact ⟨ret_c ((unhide HBAD) (okE_bad (by omega))).symm, unhide hB2⟩
      have b5' : g ≤ 1048576 := by omega
      have ha2 := hide (show ∀ e ∈ E.take (k + 1), okE n e = true from fun e h => by
        rw [List.take_add_one, HE.out, Option.toList_some, List.mem_append, List.mem_singleton] at h
        rcases h with h | rfl
        · exact unhide HA e h
        · exact okE_good ⟨b0', b1', b2', b3', b4', b5'⟩)
      go_wp2_with fail
      go_roundg gq
      case rel => exact ⟨k + 1, by go_num, by omega, unhide ha2, unhide hB2⟩
      case measure => omega
    · obtain rfl : k = m := by omega
      rw [List.take_of_length_le (by have := HL.out; omega)] at ha
      have HA := hide ha
      have HB := hide hb
      clear ha hb
      go_wp2_with fail
      go_ret
      exact ⟨ret_c (by
        rw [chkS, if_neg (by rw [HL.out]; omega), if_neg]
        rintro (h | ⟨e, he, h2⟩)
        · omega
        · rw [unhide HA e he] at h2; cases h2), unhide HB⟩
end Go.Proofs.Ytmcpbmadjpjckaa
