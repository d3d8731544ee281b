/-
  awake: the small graph's parts, order, round and depths are what they are: true.
-/
import Derived.Test.YtmcpbmadjpjckaaGrAwkP
namespace Go.Proofs.Ytmcpbmadjpjckaa
open Go.RowKit

theorem build_e01 (W : World) : (Instr.build 41 #[(0, .int .i64 0), (1, .int .i64 1)]).run Try.prog W = .ok (.agg #[.int .i64 0, .int .i64 1, .int .i64 0]) W :=
  run_build W _ _ _ (by kernel_rfl)
theorem build_e10 (W : World) : (Instr.build 41 #[(0, .int .i64 1), (1, .int .i64 0)]).run Try.prog W = .ok (.agg #[.int .i64 1, .int .i64 0, .int .i64 0]) W :=
  run_build W _ _ _ (by kernel_rfl)
theorem build_es (W : World) : (Instr.buildSlice 27 3 #[(0, .agg #[.int .i64 0, .int .i64 1, .int .i64 0]), (1, .agg #[.int .i64 1, .int .i64 0, .int .i64 0]), (2, .agg #[.int .i64 2, .int .i64 1, .int .i64 3])]).run Try.prog W = .ok (.slice (some ⟨W.heap.size, 0, none⟩) 3 3) (W.alloc (.cells (ecells E3).toArray 41)) := by
  kernel_rfl
theorem awk_lists (w : World) (A2 : Option Addr) (c2 : Nat) (h : RowsF w (.slice A2 2 c2) 2 xs3) :
    Calls Try.prog 25 #[.slice A2 2 c2, .slice (some ⟨w.heap.size + 1 + 1, 0, none⟩) 2 2]
      (((w.alloc (.cells #[.int .i64 0, .int .i64 1] 3)).alloc (.cells #[.int .i64 2] 3)).alloc (.cells #[.slice (some ⟨w.heap.size, 0, none⟩) 2 2, .slice (some ⟨w.heap.size + 1, 0, none⟩) 1 1] 25))
      fun e W' => e = .returned (.bool true) ∧ Below w.heap.size w W' := by
  obtain ⟨w6, h6⟩ : ∃ x, w.alloc (.cells #[.int .i64 0, .int .i64 1] 3) = x := ⟨_, rfl⟩
  obtain ⟨w7, h7⟩ : ∃ x, w6.alloc (.cells #[.int .i64 2] 3) = x := ⟨_, rfl⟩
  obtain ⟨w8, h8⟩ : ∃ x, w7.alloc (.cells #[.slice (some ⟨w.heap.size, 0, none⟩) 2 2, .slice (some ⟨w.heap.size + 1, 0, none⟩) 1 1] 25) = x := ⟨_, rfl⟩
  have s6 : w6.heap.size = w.heap.size + 1 := by rw [← h6]; simp
  have s7 : w7.heap.size = w.heap.size + 1 + 1 := by rw [← h7]; simp [s6]
  have b6 : Below w.heap.size w w6 := by rw [← h6]; exact (Below.refl _ _).alloc (Nat.le_refl _) _
  have b7 : Below w6.heap.size w6 w7 := by rw [← h7]; exact (Below.refl _ _).alloc (Nat.le_refl _) _
  have b8 : Below w7.heap.size w7 w8 := by rw [← h8]; exact (Below.refl _ _).alloc (Nat.le_refl _) _
  have x6 : Blk w6 w.heap.size 3 (([0, 1] : List Int).map iz).toArray := by rw [← h6]; exact Blk.new _ _ _
  have x7 : Blk w7 (w.heap.size + 1) 3 (([2] : List Int).map iz).toArray := by rw [← h7, ← s6]; exact Blk.new _ _ _
  have x8 : Blk w8 (w.heap.size + 1 + 1) 25 ([.slice (some ⟨w.heap.size, 0, none⟩) 2 2, .slice (some ⟨w.heap.size + 1, 0, none⟩) 1 1] : List Value).toArray := by rw [← h8, ← s7]; exact Blk.new _ _ _
  have b68 := b7.trans (b8.mono b7.size)
  have b58 := b6.trans (b68.mono b6.size)
  have y6 := x6.below b68 x6.lt
  have y7 := x7.below b8 x7.lt
  obtain ⟨A, c, B, vs, hv, r1, r2, r3⟩ := h.below b58
  cases hv
  rw [h6, h7, h8]
  refine (lists_same w8 A2 (some ⟨w.heap.size + 1 + 1, 0, none⟩) 2 c2 2 B _ vs _ xs3 r1 (Reads.arr x8 x8.lt rfl) (by omega) r3 fun k u hu => ?_).mono fun e W' ⟨he, a, hw⟩ => ⟨he, by rw [hw]; exact below_drewN b58 a⟩
  match k, hu with
  | 0, hu =>
    obtain rfl : _ = u := by simpa using hu
    exact RowI.arr y6 rfl (by omega)
  | 1, hu =>
    obtain rfl : _ = u := by simpa using hu
    exact RowI.arr y7 rfl (by omega)
  | k + 2, hu => simp at hu
theorem awk_ints (w : World) (A : Option Addr) (n c : Nat) (xs : List Int) (h : RowI w (.slice A n c) xs) (hn : xs.length = n) :
    Calls Try.prog 15 #[.slice A n c, .slice (some ⟨w.heap.size, 0, none⟩) n n] (w.alloc (.cells (xs.map iz).toArray 3)) fun e W' => e = .returned (.bool true) ∧ Below w.heap.size w W' := by
  obtain ⟨w6, h6⟩ : ∃ x, w.alloc (.cells (xs.map iz).toArray 3) = x := ⟨_, rfl⟩
  have b6 : Below w.heap.size w w6 := by rw [← h6]; exact (Below.refl _ _).alloc (Nat.le_refl _) _
  have x6 : Blk w6 w.heap.size 3 (xs.map iz).toArray := by rw [← h6]; exact Blk.new _ _ _
  obtain ⟨A', m, c', B, hv, r1, r2, r3⟩ := h.below b6
  cases hv
  rw [h6]
  exact (ints_same w6 A (some ⟨w.heap.size, 0, none⟩) n c n B _ xs r1 (Reads.arr x6 x6.lt (by simpa using hn)) r2).mono fun e W' ⟨he, a, hw⟩ => ⟨he, by rw [hw]; exact below_drewN b6 a⟩
set_option maxRecDepth 100000 in
set_option maxHeartbeats 4000000 in
theorem awake_any (W : World) : Calls Try.prog 18 #[] W fun e W' => e = .returned (.bool true) ∧ Below W.heap.size W W' := by
  have hb1 := build_e01
  have hb2 := build_e10
  have hb3 := build_edge
  have hb4 := build_es
  obtain ⟨w1, hw1⟩ : ∃ w, W.alloc (.cells (ecells E3).toArray 41) = w := ⟨_, rfl⟩
  have hw1' : W.alloc (.cells #[.int .i64 0, .int .i64 1, .int .i64 0, .int .i64 1, .int .i64 0, .int .i64 0, .int .i64 2, .int .i64 1, .int .i64 3] 41) = w1 := hw1
  have hx : Blk w1 W.heap.size 41 (ecells E3).toArray := by rw [← hw1]; exact Blk.new _ _ _
  have hB1 := hide (show Below W.heap.size W w1 by rw [← hw1]; exact (Below.refl _ _).alloc (Nat.le_refl _) _)
  have hr1 : Reads w1 w1.heap.size 3 (some ⟨W.heap.size, 0, none⟩) 3 (ecells E3) := by
    refine ⟨rfl, fun _ => ⟨_, rfl, hx.lt, fun j u hu => ?_⟩⟩
    have hadd : (⟨W.heap.size, 0, none⟩ : Addr).add j = ⟨W.heap.size, j, none⟩ := by unfold Addr.add; split <;> simp_all
    rw [hadd, hx.cell j, ← hu, List.getElem?_toArray]
  have HR := hide hr1
  have hP := hide (awk_parts w1 _ 3 _ hr1 (Nat.le_refl _))
  clear hw1 hx hr1
  go_enter Try.func18, Try.ntmps18
  go_wp2_with fail
  try rw [hw1']
  refine (unhide hP).mono ?_
  rintro e w2 ⟨v2, rfl, hf2, hb2'⟩
  have HF2 := hide hf2
  have HB2 := hide hb2'
  have hO := hide (awk_order w2 _ 3 _ ((unhide HR).below hb2') hb2'.size)
  clear hf2 hb2' hP hw1'
  go_wp2_with fail
  refine (unhide hO).mono ?_
  rintro e w3 ⟨rfl, hb3'⟩
  have HB3 := hide ((unhide HB2).trans (hb3'.mono (unhide HB2).size))
  have HF3 := hide ((unhide HF2).below hb3')
  clear hb3' hO HF2 HB2
  have hQ := hide (awk_round w3 _ 3 _ ((unhide HR).below (unhide HB3)) (unhide HB3).size)
  go_wp2_with fail
  refine (unhide hQ).mono ?_
  rintro e w4 ⟨v4, rfl, hf4, hb4'⟩
  have HB4 := hide ((unhide HB3).trans (hb4'.mono (unhide HB3).size))
  have HF4 := hide ((unhide HF3).below hb4')
  have HG4 := hide hf4
  clear hb4' hQ HF3 HB3 hf4
  have hD := hide (awk_depths w4 _ 3 _ ((unhide HR).below (unhide HB4)) (unhide HB4).size)
  go_wp2_with fail
  refine (unhide hD).mono ?_
  rintro e w5 ⟨v5, rfl, hf5, hb5'⟩
  have HB5 := hide ((unhide HB4).trans (hb5'.mono (unhide HB4).size))
  have HF5 := hide ((unhide HF4).below hb5')
  have HG5 := hide ((unhide HG4).below hb5')
  have HK5 := hide hf5
  clear hb5' hD HF4 HB4 HG4 hf5 hb1 hb2 hb3 hb4
  obtain ⟨A2, c2, B2, vs, rfl, h1, h2, h3⟩ := unhide HF5
  obtain ⟨A4, m4, c4, B4, rfl, g1, g2, g3⟩ := unhide HG5
  obtain ⟨A5, m5, c5, B5, rfl, k1, k2, k3⟩ := unhide HK5
  obtain rfl : m4 = 2 := by have := g1.1; simpa using this.symm
  obtain rfl : m5 = 3 := by have := k1.1; simpa using this.symm
  clear h1 h2 h3 g1 g2 g3 k1 k2 k3
  have hL := hide (awk_lists w5 A2 c2 (unhide HF5))
  go_wp2_with fail
  refine (unhide hL).mono ?_
  rintro e w6 ⟨rfl, hb6⟩
  have HB6 := hide hb6
  have hI := hide (awk_ints w6 A4 2 c4 [0, 1] ((unhide HG5).below hb6) rfl)
  clear hb6 hL HF5
  go_wp2_with fail
  refine (unhide hI).mono ?_
  rintro e w7 ⟨rfl, hb7⟩
  have HB7 := hide ((unhide HB6).trans (hb7.mono (unhide HB6).size))
  have hJ := hide (awk_ints w7 A5 3 c5 [0, 0, 3] ((unhide HK5).below (unhide HB7)) rfl)
  clear hb7 hI HB6
  go_wp2_with fail
  refine (unhide hJ).mono ?_
  rintro e w8 ⟨rfl, hb8⟩
  have HB8 := hide ((unhide hB1).trans (((unhide HB5).trans (((unhide HB7).trans (hb8.mono (unhide HB7).size)).mono (unhide HB5).size)).mono (unhide hB1).size))
  clear hb8 hJ HB7
  go_wp2_with fail
  go_ret
  exact ⟨rfl, unhide HB8⟩
end Go.Proofs.Ytmcpbmadjpjckaa
