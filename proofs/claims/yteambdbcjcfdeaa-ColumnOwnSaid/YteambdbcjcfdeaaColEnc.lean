/-
  The four ways as an array; Sizes, Way, Encode: the walks over the Go text. Condition: fewer than 2^47 bytes; to encode, 65536 numbers or more are refused.
-/
import Derived.Test.YteambdbcjcfdeaaColPack
import Derived.Laws.EntriesVeiled
namespace Go.Proofs.Yteambdbcjcfdeaa
open Go.RowKit

def fnv (k : Nat) : Value := .func (.func k) #[] #[]
def waysV : Value := .agg #[.func (.func 50) #[] #[], .func (.func 53) #[] #[], .func (.func 55) #[] #[],
  .func (.func 56) #[] #[], .func (.func 59) #[] #[], .func (.func 60) #[] #[],
  .func (.func 61) #[] #[], .func (.func 63) #[] #[], .func (.func 64) #[] #[],
  .func (.func 65) #[] #[], .func (.func 67) #[] #[], .func (.func 68) #[] #[]]
set_option maxRecDepth 100000 in
theorem ways_any (w : World) : Calls Try.prog 34 #[] w fun e w' => e = .returned waysV ∧ Below w.heap.size w w' := by
  go_enter Try.func34, Try.ntmps34
  go_wp2
  exact bodyPost_ret (v := waysV) (by simp [results, Try.results34, go_sem, waysV]) rfl ⟨rfl, by repeat (first | exact (Below.refl _ _).alloc (Nat.le_refl _) _ | refine Below.setCell ?_ (Nat.le_refl _) _)⟩
theorem way0 (w : World) : (Instr.index 63 waysV (.int .i64 0)).run Try.prog w = .ok (.agg #[.func (.func 50) #[] #[], .func (.func 53) #[] #[], .func (.func 55) #[] #[]]) w := by kernel_rfl
theorem way1 (w : World) : (Instr.index 63 waysV (.int .i64 1)).run Try.prog w = .ok (.agg #[.func (.func 56) #[] #[], .func (.func 59) #[] #[], .func (.func 60) #[] #[]]) w := by kernel_rfl
theorem way2 (w : World) : (Instr.index 63 waysV (.int .i64 2)).run Try.prog w = .ok (.agg #[.func (.func 61) #[] #[], .func (.func 63) #[] #[], .func (.func 64) #[] #[]]) w := by kernel_rfl
theorem way3 (w : World) : (Instr.index 63 waysV (.int .i64 3)).run Try.prog w = .ok (.agg #[.func (.func 65) #[] #[], .func (.func 67) #[] #[], .func (.func 68) #[] #[]]) w := by kernel_rfl

def szA (a b c d : Nat) (k : Nat) : Array Value := #[.int .i64 ((if 0 < k then a else 0 : Nat) : Int), .int .i64 ((if 1 < k then b else 0 : Nat) : Int), .int .i64 ((if 2 < k then c else 0 : Nat) : Int), .int .i64 ((if 3 < k then d else 0 : Nat) : Int)]
set_option maxRecDepth 100000 in
set_option maxHeartbeats 2000000 in
theorem sizes_any (c : List UInt32) (A : Option Addr) (n cap B : Nat) (w : World) (hr : Reads w B 1 A n (c.map uw)) (hB : B ≤ w.heap.size) (hN : n ≤ 140737488355328) :
    Calls Try.prog 13 #[.slice A n cap] w fun e w' => e = .returned (.agg #[.int .i64 ((plainS c).length : Nat), .int .i64 ((deltaS c).length : Nat), .int .i64 ((runS c).length : Nat), .int .i64 ((packS c).length : Nat)]) ∧ Below w.heap.size w w' := by
  have hlen : c.length = n := by have := hr.1; simpa using this
  have hS0 : ∀ W, Below w.heap.size w W → Hid (Calls Try.prog 50 #[.slice A n cap] W fun e w' => e = .returned (.int .i64 ((plainS c).length : Nat)) ∧ Below W.heap.size W w') := fun W hb => by
    have := size1_any c A n cap B W (hr.below (hb.mono hB)) (Nat.le_trans hB hb.size) hN
    rw [List.take_of_length_le (by omega)] at this
    exact this
  have hS1 : ∀ W, Below w.heap.size w W → Hid (Calls Try.prog 56 #[.slice A n cap] W fun e w' => e = .returned (.int .i64 ((deltaS c).length : Nat)) ∧ Below W.heap.size W w') := fun W hb => by
    have := size3_any c A n cap B W (hr.below (hb.mono hB)) (Nat.le_trans hB hb.size) hN
    rw [← hlen] at this
    rw [← hlen]
    exact this
  have hS2 : ∀ W, Below w.heap.size w W → Hid (Calls Try.prog 61 #[.slice A n cap] W fun e w' => e = .returned (.int .i64 ((runS c).length : Nat)) ∧ Below W.heap.size W w') := fun W hb =>
    size5_any c A n cap B W (hr.below (hb.mono hB)) (Nat.le_trans hB hb.size) hN
  have hS3 : ∀ W, Below w.heap.size w W → Hid (Calls Try.prog 65 #[.slice A n cap] W fun e w' => e = .returned (.int .i64 ((packS c).length : Nat)) ∧ Below W.heap.size W w') := fun W hb =>
    (size7_any c A n cap B W (hr.below (hb.mono hB)) hN).mono fun e w' ⟨h1, h2⟩ => ⟨h1, h2 ▸ Below.refl _ _⟩
  obtain ⟨s0, hs0⟩ : ∃ s, (plainS c).length = s := ⟨_, rfl⟩
  obtain ⟨s1, hs1⟩ : ∃ s, (deltaS c).length = s := ⟨_, rfl⟩
  obtain ⟨s2, hs2⟩ : ∃ s, (runS c).length = s := ⟨_, rfl⟩
  obtain ⟨s3, hs3⟩ : ∃ s, (packS c).length = s := ⟨_, rfl⟩
  simp only [hs0] at hS0
  simp only [hs1] at hS1
  simp only [hs2] at hS2
  simp only [hs3] at hS3
  rw [hs0, hs1, hs2, hs3]
  have HS0 := hide hS0
  have HS1 := hide hS1
  have HS2 := hide hS2
  have HS3 := hide hS3
  clear hs0 hs1 hs2 hs3 hS0 hS1 hS2 hS3 hr hlen
  go_enter Try.func13, Try.ntmps13
  go_wp2_with fail
  refine (ways_any _).mono ?_
  rintro e w1 ⟨rfl, hb1⟩
  have hb0 : Below w.heap.size w ((w.alloc (.cells #[.int .i64 0, .int .i64 0, .int .i64 0, .int .i64 0] 30)).alloc (.cells #[.int .i64 0, .int .i64 0, .int .i64 0, .int .i64 0] 30)) := ((Below.refl _ _).alloc (Nat.le_refl _) _).alloc (by simp) _
  obtain ⟨W0, hW0⟩ : ∃ W0, ((w.alloc (.cells #[.int .i64 0, .int .i64 0, .int .i64 0, .int .i64 0] 30)).alloc (.cells #[.int .i64 0, .int .i64 0, .int .i64 0, .int .i64 0] 30)) = W0 := ⟨_, rfl⟩
  have hx0 : Blk W0 w.heap.size 30 #[.int .i64 0, .int .i64 0, .int .i64 0, .int .i64 0] := by rw [← hW0]; exact (Blk.new w _ _).alloc _
  have hx1 : Blk W0 (w.heap.size + 1) 30 #[.int .i64 0, .int .i64 0, .int .i64 0, .int .i64 0] := by
    rw [← hW0]
    have := Blk.new (w.alloc (.cells #[.int .i64 0, .int .i64 0, .int .i64 0, .int .i64 0] 30)) 30 #[.int .i64 0, .int .i64 0, .int .i64 0, .int .i64 0]
    rwa [World.size_alloc] at this
  rw [hW0] at hb1 hb0
  have hy0 := hide (hx0.below hb1 hx0.lt)
  have hy1 : Hid (Blk w1 (w.heap.size + 1) 30 (szA s0 s1 s2 s3 0)) := hx1.below hb1 hx1.lt
  have hbw := hide (hb0.trans (hb1.mono hb0.size))
  clear hb0 hb1 hx0 hx1 hW0
  go_wp2_with fail
  go_loopg [7] 4 (fun q t W => ∃ k : Nat, k + q = 4 ∧ t = .int .i64 (k : Int) ∧ Blk W w.heap.size 30 #[.int .i64 0, .int .i64 0, .int .i64 0, .int .i64 0] ∧ Blk W (w.heap.size + 1) 30 (szA s0 s1 s2 s3 k) ∧ Below w.heap.size w W)
  case atStart => exact ⟨0, by omega, rfl, unhide hy0, unhide hy1, unhide hbw⟩
  case round =>
    obtain ⟨k, hk, rfl, hx0, hx1, hbel⟩ := hrel
    clear hy0 hy1 hbw
    have hl0 := hx0.lt
    have hl1 := hx1.lt
    rcases (show k = 0 ∨ k = 1 ∨ k = 2 ∨ k = 3 ∨ k = 4 by omega) with rfl | rfl | rfl | rfl | rfl
    · obtain ⟨q, rfl⟩ : ∃ q, gk = q + 1 := ⟨gk - 1, by omega⟩
      rw [show ((0 : Nat) : Int) = 0 from rfl]
      have hix := way0
      have hC := fun W' (hb : Below wr.heap.size wr W') => hide (((unhide HS0) W' (hbel.trans (hb.mono hbel.size))).out.mono fun e w' ⟨he, h⟩ => (⟨he, hb.trans (h.mono hb.size)⟩ : e = Ending.returned (.int .i64 (s0 : Nat)) ∧ Below wr.heap.size wr w'))
      have HC := hide hC
      have HX0 := hide hx0
      have HX1 := hide hx1
      have HB := hide hbel
      clear hC hx0 hx1 hbel
      go_wp2_with fail
      refine Calls.mono (unhide (unhide HC _ ?hb)) ?_
      case hb => repeat (first | exact (Below.refl _ _).alloc (Nat.le_refl _) _ | refine Below.setCell ?_ (Nat.le_refl _) _)
      rintro e w2 ⟨rfl, hb2⟩
      have hk0 := (unhide HX0).below hb2 hl0
      have hk1 := (unhide HX1).below hb2 hl1
      have f1 : w2.frozen? ⟨w.heap.size + 1, 0, none⟩ = false := hk1.frozen 0
      have c1 : w2.cell? ⟨w.heap.size + 1, 0, none⟩ = some (.int .i64 0) := hk1.cell 0
      have HK0 := hide (hk0.far (p := ⟨w.heap.size + 1, 0, none⟩) (by simp) (.int .i64 (s0 : Nat)))
      have HK1 := hide (hk1.set_ 0 (.int .i64 (s0 : Nat)))
      have HB2 := hide (((unhide HB).trans (hb2.mono (unhide HB).size)).setCell (p := ⟨w.heap.size + 1, 0, none⟩) (by simp) (.int .i64 (s0 : Nat)))
      clear hk0 hk1 hb2 HX0 HX1 HB HC hix
      go_wp2_with fail
      go_roundg q
      case rel => exact ⟨1, by omega, by first | rfl | go_num, unhide HK0, unhide HK1, unhide HB2⟩
      case measure => omega
    · obtain ⟨q, rfl⟩ : ∃ q, gk = q + 1 := ⟨gk - 1, by omega⟩
      rw [show ((1 : Nat) : Int) = 1 from rfl]
      have hix := way1
      have hC := fun W' (hb : Below wr.heap.size wr W') => hide (((unhide HS1) W' (hbel.trans (hb.mono hbel.size))).out.mono fun e w' ⟨he, h⟩ => (⟨he, hb.trans (h.mono hb.size)⟩ : e = Ending.returned (.int .i64 (s1 : Nat)) ∧ Below wr.heap.size wr w'))
      have HC := hide hC
      have HX0 := hide hx0
      have HX1 := hide hx1
      have HB := hide hbel
      clear hC hx0 hx1 hbel
      go_wp2_with fail
      refine Calls.mono (unhide (unhide HC _ ?hb)) ?_
      case hb => repeat (first | exact (Below.refl _ _).alloc (Nat.le_refl _) _ | refine Below.setCell ?_ (Nat.le_refl _) _)
      rintro e w2 ⟨rfl, hb2⟩
      have hk0 := (unhide HX0).below hb2 hl0
      have hk1 := (unhide HX1).below hb2 hl1
      have f1 : w2.frozen? ⟨w.heap.size + 1, 1, none⟩ = false := hk1.frozen 1
      have c1 : w2.cell? ⟨w.heap.size + 1, 1, none⟩ = some (.int .i64 0) := hk1.cell 1
      have HK0 := hide (hk0.far (p := ⟨w.heap.size + 1, 1, none⟩) (by simp) (.int .i64 (s1 : Nat)))
      have HK1 := hide (hk1.set_ 1 (.int .i64 (s1 : Nat)))
      have HB2 := hide (((unhide HB).trans (hb2.mono (unhide HB).size)).setCell (p := ⟨w.heap.size + 1, 1, none⟩) (by simp) (.int .i64 (s1 : Nat)))
      clear hk0 hk1 hb2 HX0 HX1 HB HC hix
      go_wp2_with fail
      go_roundg q
      case rel => exact ⟨2, by omega, by first | rfl | go_num, unhide HK0, unhide HK1, unhide HB2⟩
      case measure => omega
    · obtain ⟨q, rfl⟩ : ∃ q, gk = q + 1 := ⟨gk - 1, by omega⟩
      rw [show ((2 : Nat) : Int) = 2 from rfl]
      have hix := way2
      have hC := fun W' (hb : Below wr.heap.size wr W') => hide (((unhide HS2) W' (hbel.trans (hb.mono hbel.size))).out.mono fun e w' ⟨he, h⟩ => (⟨he, hb.trans (h.mono hb.size)⟩ : e = Ending.returned (.int .i64 (s2 : Nat)) ∧ Below wr.heap.size wr w'))
      have HC := hide hC
      have HX0 := hide hx0
      have HX1 := hide hx1
      have HB := hide hbel
      clear hC hx0 hx1 hbel
      go_wp2_with fail
      refine Calls.mono (unhide (unhide HC _ ?hb)) ?_
      case hb => repeat (first | exact (Below.refl _ _).alloc (Nat.le_refl _) _ | refine Below.setCell ?_ (Nat.le_refl _) _)
      rintro e w2 ⟨rfl, hb2⟩
      have hk0 := (unhide HX0).below hb2 hl0
      have hk1 := (unhide HX1).below hb2 hl1
      have f1 : w2.frozen? ⟨w.heap.size + 1, 2, none⟩ = false := hk1.frozen 2
      have c1 : w2.cell? ⟨w.heap.size + 1, 2, none⟩ = some (.int .i64 0) := hk1.cell 2
      have HK0 := hide (hk0.far (p := ⟨w.heap.size + 1, 2, none⟩) (by simp) (.int .i64 (s2 : Nat)))
      have HK1 := hide (hk1.set_ 2 (.int .i64 (s2 : Nat)))
      have HB2 := hide (((unhide HB).trans (hb2.mono (unhide HB).size)).setCell (p := ⟨w.heap.size + 1, 2, none⟩) (by simp) (.int .i64 (s2 : Nat)))
      clear hk0 hk1 hb2 HX0 HX1 HB HC hix
      go_wp2_with fail
      go_roundg q
      case rel => exact ⟨3, by omega, by first | rfl | go_num, unhide HK0, unhide HK1, unhide HB2⟩
      case measure => omega
    · obtain ⟨q, rfl⟩ : ∃ q, gk = q + 1 := ⟨gk - 1, by omega⟩
      rw [show ((3 : Nat) : Int) = 3 from rfl]
      have hix := way3
      have hC := fun W' (hb : Below wr.heap.size wr W') => hide (((unhide HS3) W' (hbel.trans (hb.mono hbel.size))).out.mono fun e w' ⟨he, h⟩ => (⟨he, hb.trans (h.mono hb.size)⟩ : e = Ending.returned (.int .i64 (s3 : Nat)) ∧ Below wr.heap.size wr w'))
      have HC := hide hC
      have HX0 := hide hx0
      have HX1 := hide hx1
      have HB := hide hbel
      clear hC hx0 hx1 hbel
      go_wp2_with fail
      refine Calls.mono (unhide (unhide HC _ ?hb)) ?_
      case hb => repeat (first | exact (Below.refl _ _).alloc (Nat.le_refl _) _ | refine Below.setCell ?_ (Nat.le_refl _) _)
      rintro e w2 ⟨rfl, hb2⟩
      have hk0 := (unhide HX0).below hb2 hl0
      have hk1 := (unhide HX1).below hb2 hl1
      have f1 : w2.frozen? ⟨w.heap.size + 1, 3, none⟩ = false := hk1.frozen 3
      have c1 : w2.cell? ⟨w.heap.size + 1, 3, none⟩ = some (.int .i64 0) := hk1.cell 3
      have HK0 := hide (hk0.far (p := ⟨w.heap.size + 1, 3, none⟩) (by simp) (.int .i64 (s3 : Nat)))
      have HK1 := hide (hk1.set_ 3 (.int .i64 (s3 : Nat)))
      have HB2 := hide (((unhide HB).trans (hb2.mono (unhide HB).size)).setCell (p := ⟨w.heap.size + 1, 3, none⟩) (by simp) (.int .i64 (s3 : Nat)))
      clear hk0 hk1 hb2 HX0 HX1 HB HC hix
      go_wp2_with fail
      go_roundg q
      case rel => exact ⟨4, by omega, by first | rfl | go_num, unhide HK0, unhide HK1, unhide HB2⟩
      case measure => omega
    · have e0 : wr.cell? ⟨w.heap.size + 1, 0, none⟩ = some (.int .i64 (s0 : Int)) := hx1.cell 0
      have e1 : wr.cell? ⟨w.heap.size + 1, 1, none⟩ = some (.int .i64 (s1 : Int)) := hx1.cell 1
      have e2 : wr.cell? ⟨w.heap.size + 1, 2, none⟩ = some (.int .i64 (s2 : Int)) := hx1.cell 2
      have e3 : wr.cell? ⟨w.heap.size + 1, 3, none⟩ = some (.int .i64 (s3 : Int)) := hx1.cell 3
      have d0 : wr.cell? ⟨w.heap.size, 0, none⟩ = some (.int .i64 0) := hx0.cell 0
      have d1 : wr.cell? ⟨w.heap.size, 1, none⟩ = some (.int .i64 0) := hx0.cell 1
      have d2 : wr.cell? ⟨w.heap.size, 2, none⟩ = some (.int .i64 0) := hx0.cell 2
      have d3 : wr.cell? ⟨w.heap.size, 3, none⟩ = some (.int .i64 0) := hx0.cell 3
      have fz : ∀ i, wr.frozen? ⟨w.heap.size, i, none⟩ = false := fun i => hx0.frozen i
      have f0 := fz 0
      have f1 := fz 1
      have f2 := fz 2
      have f3 := fz 3
      have HB := hide hbel
      clear hx0 hx1 hbel fz
      go_wp2_with fail
      exact bodyPost_ret (v := .agg #[.int .i64 (s0 : Int), .int .i64 (s1 : Int), .int .i64 (s2 : Int), .int .i64 (s3 : Int)]) (by simp [results, Try.results13, go_sem, d0, d1, d2, d3]) rfl ⟨rfl, ((((unhide HB).setCell (p := ⟨w.heap.size, 0, none⟩) (Nat.le_refl _) _).setCell (p := ⟨w.heap.size, 1, none⟩) (Nat.le_refl _) _).setCell (p := ⟨w.heap.size, 2, none⟩) (Nat.le_refl _) _).setCell (p := ⟨w.heap.size, 3, none⟩) (Nat.le_refl _) _⟩

def min4 (a b c d : Nat) : Nat := min (min (min a b) c) d
set_option maxRecDepth 100000 in
theorem min_any (a b c d g : Nat) (w : World) (h0 : w.cell? ⟨g, 0, none⟩ = some (.int .i64 (a : Int))) (h1 : w.cell? ⟨g, 1, none⟩ = some (.int .i64 (b : Int))) (h2 : w.cell? ⟨g, 2, none⟩ = some (.int .i64 (c : Int))) (h3 : w.cell? ⟨g, 3, none⟩ = some (.int .i64 (d : Int))) :
    Calls Try.prog 37 #[.slice (some ⟨g, 0, none⟩) 4 4] w fun e w' => e = .returned (.int .i64 (min4 a b c d : Nat)) ∧ w = w' := by
  go_enter Try.func37, Try.ntmps37
  go_wp2_with fail
  refine wp_loop_rounds 4 ?_
  rw [rounds_succ]
  go_wp2_with fail
  rw [rounds_succ]
  go_wp2_with fail
  rw [rounds_succ]
  go_wp2_with fail
  rw [rounds_succ]
  go_wp2_with fail
  go_ret
  exact ⟨ret_i (by unfold min4; omega), rfl⟩
theorem way_min (a b c d : Nat) : (wayOf a b c d = 1 ∧ a = min4 a b c d) ∨ (wayOf a b c d = 2 ∧ a ≠ min4 a b c d ∧ b = min4 a b c d) ∨ (wayOf a b c d = 3 ∧ a ≠ min4 a b c d ∧ b ≠ min4 a b c d ∧ c = min4 a b c d) ∨ (wayOf a b c d = 4 ∧ a ≠ min4 a b c d ∧ b ≠ min4 a b c d ∧ c ≠ min4 a b c d ∧ d = min4 a b c d) := by
  unfold wayOf min4
  by_cases h1 : a ≤ b ∧ a ≤ c ∧ a ≤ d
  · rw [if_pos h1]; omega
  · rw [if_neg h1]
    by_cases h2 : b ≤ c ∧ b ≤ d
    · rw [if_pos h2]; omega
    · rw [if_neg h2]
      split <;> omega
set_option maxRecDepth 100000 in
theorem index_any (a b c d g : Nat) (w : World) (h0 : w.cell? ⟨g, 0, none⟩ = some (.int .i64 (a : Int))) (h1 : w.cell? ⟨g, 1, none⟩ = some (.int .i64 (b : Int))) (h2 : w.cell? ⟨g, 2, none⟩ = some (.int .i64 (c : Int))) (h3 : w.cell? ⟨g, 3, none⟩ = some (.int .i64 (d : Int))) :
    Calls Try.prog 36 #[.slice (some ⟨g, 0, none⟩) 4 4, .int .i64 (min4 a b c d : Nat)] w fun e w' => e = .returned (.int .i64 ((wayOf a b c d : Nat) - 1)) ∧ w = w' := by
  rcases way_min a b c d with ⟨hw, e1⟩ | ⟨hw, e1, e2⟩ | ⟨hw, e1, e2, e3⟩ | ⟨hw, e1, e2, e3, e4⟩
  all_goals
    obtain ⟨m, hm⟩ : ∃ m, min4 a b c d = m := ⟨_, rfl⟩
    rw [hm] at e1 ⊢
    try rw [hm] at e2
    try rw [hm] at e3
    try rw [hm] at e4
    have HW := Lib.hid hw
    clear hm hw
  · have b1 : ((m : Int) == (a : Int)) = true := by simp; omega
    clear e1
    go_enter Try.func36, Try.ntmps36
    go_wp2_with fail
    refine wp_loop_rounds 1 ?_
    rw [rounds_succ]
    go_wp2_with fail
    go_ret
    exact ⟨ret_i (by rw [HW.out]; rfl), rfl⟩
  · have b1 : ((m : Int) == (a : Int)) = false := by simp; omega
    have b2 : ((m : Int) == (b : Int)) = true := by simp; omega
    clear e1 e2
    go_enter Try.func36, Try.ntmps36
    go_wp2_with fail
    refine wp_loop_rounds 2 ?_
    rw [rounds_succ]
    go_wp2_with fail
    rw [rounds_succ]
    go_wp2_with fail
    go_ret
    exact ⟨ret_i (by rw [HW.out]; rfl), rfl⟩
  · have b1 : ((m : Int) == (a : Int)) = false := by simp; omega
    have b2 : ((m : Int) == (b : Int)) = false := by simp; omega
    have b3 : ((m : Int) == (c : Int)) = true := by simp; omega
    clear e1 e2 e3
    go_enter Try.func36, Try.ntmps36
    go_wp2_with fail
    refine wp_loop_rounds 3 ?_
    rw [rounds_succ]
    go_wp2_with fail
    rw [rounds_succ]
    go_wp2_with fail
    rw [rounds_succ]
    go_wp2_with fail
    go_ret
    exact ⟨ret_i (by rw [HW.out]; rfl), rfl⟩
  · have b1 : ((m : Int) == (a : Int)) = false := by simp; omega
    have b2 : ((m : Int) == (b : Int)) = false := by simp; omega
    have b3 : ((m : Int) == (c : Int)) = false := by simp; omega
    have b4 : ((m : Int) == (d : Int)) = true := by simp; omega
    clear e1 e2 e3 e4
    go_enter Try.func36, Try.ntmps36
    go_wp2_with fail
    refine wp_loop_rounds 4 ?_
    rw [rounds_succ]
    go_wp2_with fail
    rw [rounds_succ]
    go_wp2_with fail
    rw [rounds_succ]
    go_wp2_with fail
    rw [rounds_succ]
    go_wp2_with fail
    go_ret
    exact ⟨ret_i (by rw [HW.out]; rfl), rfl⟩
end Go.Proofs.Yteambdbcjcfdeaa
