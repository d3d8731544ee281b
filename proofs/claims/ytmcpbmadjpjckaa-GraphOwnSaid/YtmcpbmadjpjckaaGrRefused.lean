/-
  refused: a graph that is not taken is refused by all calls alike: true.
-/
import Derived.Test.YtmcpbmadjpjckaaGrAwake
import Derived.Test.YtmcpbmadjpjckaaGrReachW
namespace Go.Proofs.Ytmcpbmadjpjckaa
open Go.RowKit

section
variable (W : World) (n : Int) (A : Option Addr) (m cap B0 : Nat) (E : List (Int × Int × Int)) (hr : Reads W B0 3 A m (ecells E)) (hB0 : B0 ≤ W.heap.size) (hm : m ≤ 140737488355328) (ck : Int) (hk : chkS n E = ck) (hc : ck ≠ 0)
include hr hB0 hm hk hc
theorem parts_bad : Calls Try.prog 19 #[.int .i64 n, .slice A m cap] W fun e W' => e = .returned (.tuple #[.slice none 0 0, .int .i64 ck]) ∧ Below W.heap.size W W' := by
  refine (parts_any W n A m cap B0 E hr hB0 hm).mono fun e W' h => ?_
  obtain ⟨hb, ⟨_, he⟩ | ⟨h0, _⟩⟩ := h
  · exact ⟨by rw [he, hk], hb⟩
  · omega
theorem order_bad : Calls Try.prog 22 #[.int .i64 n, .slice A m cap] W fun e W' => e = .returned (.tuple #[.slice none 0 0, .int .i64 ck]) ∧ Below W.heap.size W W' := by
  refine (order_any W n A m cap B0 E hr hB0 hm).mono fun e W' h => ?_
  obtain ⟨hb, ⟨_, he⟩ | ⟨h0, _⟩⟩ := h
  · exact ⟨by rw [he, hk], hb⟩
  · omega
theorem round_bad : Calls Try.prog 23 #[.int .i64 n, .slice A m cap] W fun e W' => e = .returned (.tuple #[.slice none 0 0, .int .i64 ck]) ∧ Below W.heap.size W W' := by
  refine (round_all W n A m cap B0 E hr hB0 hm).mono fun e W' h => ?_
  obtain ⟨hb, ⟨_, he⟩ | ⟨h0, _⟩⟩ := h
  · exact ⟨by rw [he, hk], hb⟩
  · omega
theorem depths_bad : Calls Try.prog 10 #[.int .i64 n, .slice A m cap] W fun e W' => e = .returned (.tuple #[.slice none 0 0, .int .i64 ck]) ∧ Below W.heap.size W W' := by
  refine (depths_any W n A m cap B0 E hr hB0 hm).mono fun e W' h => ?_
  obtain ⟨hb, ⟨_, he⟩ | ⟨h0, _⟩⟩ := h
  · exact ⟨by rw [he, hk], hb⟩
  · omega
theorem reach_bad : Calls Try.prog 11 #[.int .i64 n, .slice none 0 0, .slice A m cap] W fun e W' => e = .returned (.tuple #[.slice none 0 0, .int .i64 ck]) ∧ Below W.heap.size W W' := by
  refine (reach_any W n A m cap B0 E hr hB0 hm none 0 0 [] Reads.none_ (by omega)).mono fun e W' h => ?_
  obtain ⟨hb, ⟨_, he⟩ | ⟨h0, _⟩ | ⟨h0, _⟩⟩ := h
  · exact ⟨by rw [he, hk], hb⟩
  · omega
  · omega
end
set_option maxRecDepth 100000 in
set_option maxHeartbeats 4000000 in
theorem refused_any (W : World) (n : Int) (Ae : Option Addr) (m ce B0 : Nat) (E : List (Int × Int × Int)) (hr : Reads W B0 3 Ae m (ecells E)) (hB0 : B0 ≤ W.heap.size) (hm : m ≤ 5864062014634) (ck : Int) (hk : chkS n E = ck) (hc : ck ≠ 0) :
    Calls Try.prog 20 #[.agg #[.int .i64 n, .slice Ae m ce]] W fun e W' => e = .returned (.bool true) ∧ Below W.heap.size W W' := by
  obtain ⟨W1, hW1⟩ : ∃ W1, W.alloc (.cells #[.int .i64 n, .slice Ae m ce] 24) = W1 := ⟨_, rfl⟩
  obtain ⟨x, hx⟩ : ∃ x, W.heap.size = x := ⟨_, rfl⟩
  have hb1 : Below W.heap.size W W1 := by rw [← hW1]; exact (Below.refl _ _).alloc (Nat.le_refl _) _
  have hx1 : Blk W1 x 24 #[.int .i64 n, .slice Ae m ce] := by rw [← hW1, ← hx]; exact Blk.new _ _ _
  have hr1 := hr.below (hb1.mono hB0)
  have x10 : W1.cell? ⟨x, 0, none⟩ = some (.int .i64 n) := hx1.cell 0
  have x11 : W1.cell? ⟨x, 1, none⟩ = some (.slice Ae m ce) := hx1.cell 1
  have hD := hide (edges_any W1 n Ae m ce B0 E hr1 (Nat.le_trans hB0 hb1.size) (by omega))
  have hlen : E.length = m := by have := hr.1; rw [ecells_len] at this; omega
  have HL := Lib.hid hlen
  have HX := hide hx1
  have hxl := hx1.lt
  have HB1 := hide hb1
  have HC := hide hc
  have HK := hide hk
  clear hr hb1 hx1 hr1 hc hk hlen
  go_enter Try.func20, Try.ntmps20
  go_wp2_with fail
  try rw [hW1]
  refine (unhide hD).mono ?_
  rintro e w2 ⟨gl, cl, rfl, hel, hb2⟩
  have HX2 := hide ((unhide HX).below hb2 hxl)
  have x20 : w2.cell? ⟨x, 0, none⟩ = some (.int .i64 n) := (unhide HX2).cell 0
  have HB2 := hide ((unhide HB1).trans (hb2.mono (unhide HB1).size))
  have hre : Reads w2 w2.heap.size 3 (some ⟨gl, 0, none⟩) m (ecells E) := by
    have h := Reads.of_own hel
    rw [ecells_app] at h
    exact h.front3 (by rw [ecells_len, HL.out])
  have HRE2 := hide hre
  have hP := hide (parts_bad w2 n _ m cl _ E hre (Nat.le_refl _) (by omega) ck (unhide HK) (unhide HC))
  clear hel hb2 hre x10 x11 hD HX HB1 hW1 hx
  go_wp2_with fail
  refine (unhide hP).mono ?_
  rintro e w3 ⟨rfl, hb3⟩
  have HB3 := hide ((unhide HB2).trans (hb3.mono (unhide HB2).size))
  have HX3 := hide ((unhide HX2).below hb3 (unhide HX2).lt)
  have x30 : w3.cell? ⟨x, 0, none⟩ = some (.int .i64 n) := (unhide HX3).cell 0
  have HRE3 := hide (((unhide HRE2).below hb3).more hb3.size)
  clear hP
  have hP := hide (order_bad w3 n _ m cl _ E (unhide HRE3) (Nat.le_refl _) (by omega) ck (unhide HK) (unhide HC))
  clear hb3 x20 HX2 HB2 HRE2
  go_wp2_with fail
  refine (unhide hP).mono ?_
  rintro e w4 ⟨rfl, hb4⟩
  have HB4 := hide ((unhide HB3).trans (hb4.mono (unhide HB3).size))
  have HX4 := hide ((unhide HX3).below hb4 (unhide HX3).lt)
  have x40 : w4.cell? ⟨x, 0, none⟩ = some (.int .i64 n) := (unhide HX4).cell 0
  have HRE4 := hide (((unhide HRE3).below hb4).more hb4.size)
  clear hP
  have hP := hide (round_bad w4 n _ m cl _ E (unhide HRE4) (Nat.le_refl _) (by omega) ck (unhide HK) (unhide HC))
  clear hb4 x30 HX3 HB3 HRE3
  go_wp2_with fail
  refine (unhide hP).mono ?_
  rintro e w5 ⟨rfl, hb5⟩
  have HB5 := hide ((unhide HB4).trans (hb5.mono (unhide HB4).size))
  have HX5 := hide ((unhide HX4).below hb5 (unhide HX4).lt)
  have x50 : w5.cell? ⟨x, 0, none⟩ = some (.int .i64 n) := (unhide HX5).cell 0
  have HRE5 := hide (((unhide HRE4).below hb5).more hb5.size)
  clear hP
  have hP := hide (depths_bad w5 n _ m cl _ E (unhide HRE5) (Nat.le_refl _) (by omega) ck (unhide HK) (unhide HC))
  clear hb5 x40 HX4 HB4 HRE4
  go_wp2_with fail
  refine (unhide hP).mono ?_
  rintro e w6 ⟨rfl, hb6⟩
  have HB6 := hide ((unhide HB5).trans (hb6.mono (unhide HB5).size))
  have HX6 := hide ((unhide HX5).below hb6 (unhide HX5).lt)
  have x60 : w6.cell? ⟨x, 0, none⟩ = some (.int .i64 n) := (unhide HX6).cell 0
  have HRE6 := hide (((unhide HRE5).below hb6).more hb6.size)
  clear hP
  have hP := hide (reach_bad w6 n _ m cl _ E (unhide HRE6) (Nat.le_refl _) (by omega) ck (unhide HK) (unhide HC))
  clear hb6 x50 HX5 HB5 HRE5
  go_wp2_with fail
  refine (unhide hP).mono ?_
  rintro e w7 ⟨rfl, hb7⟩
  have HB7 := hide ((unhide HB6).trans (hb7.mono (unhide HB6).size))
  have HX7 := hide ((unhide HX6).below hb7 (unhide HX6).lt)
  have x70 : w7.cell? ⟨x, 0, none⟩ = some (.int .i64 n) := (unhide HX7).cell 0
  clear hP hb7 x60 x70 HX6 HX7 HB6 HRE6
  have hc := unhide HC
  go_wp2_with fail
  go_ret
  have hcb : (ck != 0) = true := by simpa using unhide HC
  exact ⟨congrArg (fun b => Ending.returned (Value.bool b)) hcb, unhide HB7⟩
end Go.Proofs.Ytmcpbmadjpjckaa
