/-
  The program's check sum: Update and Sum over any bytes; the streams of the program and of the document's answer: New, Write, Sum, Len; the walks over the Go text.
-/
import Derived.Test.YtoipkpndfgcmcaaRows
import Derived.Test.YtoipkpndfgcmcaaWords
import Derived.Test.YtoipkpndfgcmcaaCrcMath
import Derived.Test.YtoipkpndfgcmcaaCrcRef
import Derived.Test.YtoipkpndfgcmcaaCrcTake
namespace Go.Proofs.Ytoipkpndfgcmcaa
open Go.RowKit


theorem not_u32 (s : Nat) (h : s < U32) : bits BinOp.xor IntKind.u32 IntKind.u32.max (s : Int) = ((s ^^^ ONES : Nat) : Int) := by
  rw [show IntKind.u32.max = ((ONES : Nat) : Int) by decide, xor_u32 _ _ ones_lt h, Nat.xor_comm]
theorem update_any (s : Nat) (bs : List UInt8) (A : Option Addr) (n c B : Nat) (w : World) (h : s < U32) (hr : Reads w B 1 A n (bs.map bv)) (hn : n ≤ 140737488355328) (hB : B ≤ w.heap.size) :
    Calls Try.prog 26 #[.int .u32 (s : Int), .slice A n c] w fun e w' => e = .returned (.int .u32 (upd s bs : Nat)) ∧ Below w.heap.size w w' := by
  obtain ⟨x, hx⟩ : ∃ x, s ^^^ ONES = x := ⟨_, rfl⟩
  obtain ⟨y, hy⟩ : ∃ y, crc x bs = y := ⟨_, rfl⟩
  have hxl : x < U32 := by rw [← hx]; exact xor_lt h ones_lt
  have hyl : y < U32 := by rw [← hy]; exact crc_lt hxl bs
  have hT := hide (take_any x bs A n c B w hxl hr hn hB)
  rw [hy] at hT
  have e1 := not_u32 s h
  have e2 := not_u32 y hyl
  rw [hx] at e1
  have hU : upd s bs = y ^^^ ONES := by unfold upd; rw [hx, hy]
  rw [← hU] at e2
  obtain ⟨u, hu⟩ : ∃ u, upd s bs = u := ⟨_, rfl⟩
  rw [hu] at e2 ⊢
  clear hr hB hn hx hy h hxl hyl hU hu
  go_enter Try.func26, Try.ntmps26
  go_wp2_with fail
  refine (unhide hT).mono ?_
  rintro e w1 ⟨rfl, hb⟩
  go_wp2
  go_ret
  exact ⟨rfl, hb⟩
theorem sum_any (bs : List UInt8) (A : Option Addr) (n c B : Nat) (w : World) (hr : Reads w B 1 A n (bs.map bv)) (hn : n ≤ 140737488355328) (hB : B ≤ w.heap.size) :
    Calls Try.prog 24 #[.slice A n c] w fun e w' => e = .returned (.int .u32 (upd 0 bs : Nat)) ∧ Below w.heap.size w w' := by
  have hU := hide (update_any 0 bs A n c B w (by decide) hr hn hB)
  clear hr hn hB
  go_enter Try.func24, Try.ntmps24
  go_wp2_with (go_at_call 26; refine (unhide hU).mono ?_; rintro e w1 ⟨rfl, hb⟩)
  go_ret
  exact ⟨rfl, hb⟩
theorem new_any (w : World) : Calls Try.prog 13 #[] w fun e w' => e = .returned (.pointer (some ⟨w.heap.size, 0, none⟩)) ∧ w' = w.alloc (.cells #[.int .u32 0, .int .i64 0] 72) := by
  go_enter Try.func13, Try.ntmps13
  go_wp2
  go_ret
  exact ⟨rfl, rfl⟩
theorem refNew_any (w : World) : Calls Try.prog 14 #[] w fun e w' => e = .returned (.pointer (some ⟨w.heap.size, 0, none⟩)) ∧ w' = w.alloc (.cells #[.int .u32 0, .int .i64 0] 74) := by
  go_enter Try.func14, Try.ntmps14
  go_wp2
  go_ret
  exact ⟨rfl, rfl⟩

theorem stWrite_any (g s : Nat) (l : Int) (bs : List UInt8) (A : Option Addr) (n c B : Nat) (w : World) (h : s < U32) (hk : Blk w g 72 #[.int .u32 (s : Int), .int .i64 l]) (hr : Reads w B 1 A n (bs.map bv)) (hn : n ≤ 140737488355328) (hB : B ≤ w.heap.size) :
    Calls Try.prog 18 #[.pointer (some ⟨g, 0, none⟩), .slice A n c] w fun e w' => e = .returned (.int .i64 0) ∧ Blk w' g 72 #[.int .u32 (upd s bs : Nat), .int .i64 (wrap64 (l + n))] ∧ Chg w w' (fun i => i = g) := by
  have hU := hide (update_any s bs A n c B w h hr hn hB)
  obtain ⟨u, hu⟩ : ∃ u, upd s bs = u := ⟨_, rfl⟩
  rw [hu] at hU ⊢
  have c0 : w.cell? ⟨g, 0, none⟩ = some (.int .u32 (s : Int)) := hk.cell 0
  have c1 : w.cell? ⟨g, 1, none⟩ = some (.int .i64 l) := hk.cell 1
  have f0 : w.frozen? ⟨g, 0, none⟩ = false := hk.frozen 0
  have f1 : w.frozen? ⟨g, 1, none⟩ = false := hk.frozen 1
  have HK := hide hk
  clear hr hB hk h hu
  go_enter Try.func18, Try.ntmps18
  go_wp2_with (go_at_call 26
               refine (unhide hU).mono ?_
               rintro e w1 ⟨rfl, hb⟩
               have hg := (unhide HK).lt
               have HK1 := hide ((unhide HK).below hb hg)
               have d0 : w1.cell? ⟨g, 0, none⟩ = some (.int .u32 (s : Int)) := (unhide HK1).cell 0
               have d1 : w1.cell? ⟨g, 1, none⟩ = some (.int .i64 l) := (unhide HK1).cell 1
               have g0 : w1.frozen? ⟨g, 0, none⟩ = false := (unhide HK1).frozen 0
               have g1 : w1.frozen? ⟨g, 1, none⟩ = false := (unhide HK1).frozen 1
               have HB := hide hb
               clear hb)
  go_ret
  exact ⟨rfl, ((unhide HK1).set_ 0 _).set_ 1 _, ((Chg.of_below (unhide HB) (fun i => i = g)).set_ ⟨g, 0, none⟩ _ (fun _ => rfl)).set_ ⟨g, 1, none⟩ _ (fun _ => rfl)⟩
theorem stWrite_nil (A : Option Addr) (n c : Nat) (w : World) :
    Calls Try.prog 18 #[.pointer none, .slice A n c] w fun e w' => e = .returned (.int .i64 1) ∧ w = w' := by
  go_enter Try.func18, Try.ntmps18
  go_wp2
  go_ret
  exact ⟨rfl, rfl⟩
theorem stSum_any (g s : Nat) (l : Int) (w : World) (hk : Blk w g 72 #[.int .u32 (s : Int), .int .i64 l]) :
    Calls Try.prog 39 #[.pointer (some ⟨g, 0, none⟩)] w fun e w' => e = .returned (.int .u32 (s : Int)) ∧ w = w' := by
  have c0 : w.cell? ⟨g, 0, none⟩ = some (.int .u32 (s : Int)) := hk.cell 0
  clear hk
  go_enter Try.func39, Try.ntmps39
  go_wp2
  go_ret
  exact ⟨rfl, rfl⟩
theorem stSum_nil (w : World) :
    Calls Try.prog 39 #[.pointer none] w fun e w' => e = .returned (.int .u32 0) ∧ w = w' := by
  go_enter Try.func39, Try.ntmps39
  go_wp2
  go_ret
  exact ⟨rfl, rfl⟩
theorem stLen_any (g s : Nat) (l : Int) (w : World) (hk : Blk w g 72 #[.int .u32 (s : Int), .int .i64 l]) :
    Calls Try.prog 40 #[.pointer (some ⟨g, 0, none⟩)] w fun e w' => e = .returned (.int .i64 l) ∧ w = w' := by
  have c0 : w.cell? ⟨g, 1, none⟩ = some (.int .i64 l) := hk.cell 1
  clear hk
  go_enter Try.func40, Try.ntmps40
  go_wp2
  go_ret
  exact ⟨rfl, rfl⟩
theorem stLen_nil (w : World) :
    Calls Try.prog 40 #[.pointer none] w fun e w' => e = .returned (.int .i64 0) ∧ w = w' := by
  go_enter Try.func40, Try.ntmps40
  go_wp2
  go_ret
  exact ⟨rfl, rfl⟩

theorem rsWrite_any (g s : Nat) (l : Int) (bs : List UInt8) (A : Option Addr) (n c B : Nat) (w : World) (h : s < U32) (hk : Blk w g 74 #[.int .u32 (s : Int), .int .i64 l]) (hr : Reads w B 1 A n (bs.map bv)) (hn : n ≤ 140737488355328) (_hB : B ≤ w.heap.size) :
    Calls Try.prog 17 #[.pointer (some ⟨g, 0, none⟩), .slice A n c] w fun e w' => e = .returned (.int .i64 0) ∧ Blk w' g 74 #[.int .u32 (upd s bs : Nat), .int .i64 (wrap64 (l + n))] ∧ Chg w w' (fun i => i = g) := by
  have hU := hide (refUpdate_any s bs A n c B w h hr hn)
  obtain ⟨u, hu⟩ : ∃ u, upd s bs = u := ⟨_, rfl⟩
  rw [hu] at hU ⊢
  have c0 : w.cell? ⟨g, 0, none⟩ = some (.int .u32 (s : Int)) := hk.cell 0
  have c1 : w.cell? ⟨g, 1, none⟩ = some (.int .i64 l) := hk.cell 1
  have f0 : w.frozen? ⟨g, 0, none⟩ = false := hk.frozen 0
  have f1 : w.frozen? ⟨g, 1, none⟩ = false := hk.frozen 1
  have HK := hide hk
  clear hr hk h hu
  go_enter Try.func17, Try.ntmps17
  go_wp2_with fail
  refine (unhide hU).mono ?_
  rintro e w1 ⟨rfl, rfl⟩
  go_wp2
  go_ret
  exact ⟨rfl, ((unhide HK).set_ 0 _).set_ 1 _, ((Chg.refl w (fun i => i = g)).set_ ⟨g, 0, none⟩ _ (fun _ => rfl)).set_ ⟨g, 1, none⟩ _ (fun _ => rfl)⟩
theorem rsWrite_nil (A : Option Addr) (n c : Nat) (w : World) :
    Calls Try.prog 17 #[.pointer none, .slice A n c] w fun e w' => e = .returned (.int .i64 1) ∧ w = w' := by
  go_enter Try.func17, Try.ntmps17
  go_wp2
  go_ret
  exact ⟨rfl, rfl⟩
theorem rsSum_any (g s : Nat) (l : Int) (w : World) (hk : Blk w g 74 #[.int .u32 (s : Int), .int .i64 l]) :
    Calls Try.prog 42 #[.pointer (some ⟨g, 0, none⟩)] w fun e w' => e = .returned (.int .u32 (s : Int)) ∧ w = w' := by
  have c0 : w.cell? ⟨g, 0, none⟩ = some (.int .u32 (s : Int)) := hk.cell 0
  clear hk
  go_enter Try.func42, Try.ntmps42
  go_wp2
  go_ret
  exact ⟨rfl, rfl⟩
theorem rsSum_nil (w : World) :
    Calls Try.prog 42 #[.pointer none] w fun e w' => e = .returned (.int .u32 0) ∧ w = w' := by
  go_enter Try.func42, Try.ntmps42
  go_wp2
  go_ret
  exact ⟨rfl, rfl⟩
theorem rsLen_any (g s : Nat) (l : Int) (w : World) (hk : Blk w g 74 #[.int .u32 (s : Int), .int .i64 l]) :
    Calls Try.prog 43 #[.pointer (some ⟨g, 0, none⟩)] w fun e w' => e = .returned (.int .i64 l) ∧ w = w' := by
  have c0 : w.cell? ⟨g, 1, none⟩ = some (.int .i64 l) := hk.cell 1
  clear hk
  go_enter Try.func43, Try.ntmps43
  go_wp2
  go_ret
  exact ⟨rfl, rfl⟩
theorem rsLen_nil (w : World) :
    Calls Try.prog 43 #[.pointer none] w fun e w' => e = .returned (.int .i64 0) ∧ w = w' := by
  go_enter Try.func43, Try.ntmps43
  go_wp2
  go_ret
  exact ⟨rfl, rfl⟩
end Go.Proofs.Ytoipkpndfgcmcaa
