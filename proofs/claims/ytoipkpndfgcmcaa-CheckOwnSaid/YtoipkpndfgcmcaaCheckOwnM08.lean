/-
  place, turned: the walks. Condition: fewer than 2^47 bytes.
-/
import Derived.Test.YtoipkpndfgcmcaaRows
import Derived.Deep.RegionHeld3
import Derived.Deep.MidRow
import Derived.Lib.SlBytesConst
import Derived.RangeFuncNested
import Derived.RangeFuncBound
import Derived.RangeFuncCalls
import Derived.RangeFuncLeaves
import Derived.Shelf.Abstract
import Derived.Shelf.RegionOpen
import Derived.WalkKit
import Derived.OwnWalkIn
import Derived.TacticsInMore
import Derived.LoopNIn
import Derived.LoopIn
import Derived.RangeFuncFrom
import Derived.Test.YtoipkpndfgcmcaaCheckOwnM00
import Derived.Test.YtoipkpndfgcmcaaCheckOwnM05
import Derived.Test.YtoipkpndfgcmcaaCheckOwnM06
import Derived.Test.YtoipkpndfgcmcaaCheckOwnM07

/-
  The program's check sum: Update and Sum over any bytes; the streams of the program and of the document's answer: New, Write, Sum, Len; the walks over the Go text.
-/
namespace Go.Proofs.Ytoipkpndfgcmcaa
open Go.RowKit


theorem not_u32 (s : Nat) (h : s < U32) : bits BinOp.xor IntKind.u32 IntKind.u32.max (s : Int) = ((s ^^^ ONES : Nat) : Int) := by
  rw [show IntKind.u32.max = ((ONES : Nat) : Int) by decide, xor_u32 _ _ ones_lt h, Nat.xor_comm]
theorem update_any (s : Nat) (bs : List UInt8) (A : Option Addr) (n c B : Nat) (w : World) (h : s < U32) (hr : Reads w B 1 A n (bs.map bv)) (hn : n ≤ 140737488355328) (hB : B ≤ w.heap.size) :
    Calls Try.prog 26 #[.int .u32 (s : Int), .slice A n c] w fun e w' => e = .returned (.int .u32 (upd s bs : Nat)) ∧ Below w.heap.size w w' := by
  obtain ⟨x, hx⟩ : ∃ x, s ^^^ ONES = x := ⟨_, rfl⟩
  obtain ⟨y, hy⟩ : ∃ y, crc x bs = y := ⟨_, rfl⟩
  have hxl : x < U32 := by rw [← hx]; exact xor_lt h ones_lt
  have hyl : y < U32 := by rw [← hy]; exact crc_lt hxl bs
  have hT := hide (take_any x bs A n c B w hxl hr hn hB)
  rw [hy] at hT
  have e1 := not_u32 s h
  have e2 := not_u32 y hyl
  rw [hx] at e1
  have hU : upd s bs = y ^^^ ONES := by unfold upd; rw [hx, hy]
  rw [← hU] at e2
  obtain ⟨u, hu⟩ : ∃ u, upd s bs = u := ⟨_, rfl⟩
  rw [hu] at e2 ⊢
  clear hr hB hn hx hy h hxl hyl hU hu
  go_enter Try.func26, Try.ntmps26
  go_wp2_with fail
  refine (unhide hT).mono ?_
  rintro e w1 ⟨rfl, hb⟩
  go_wp2
  go_ret
  exact ⟨rfl, hb⟩
theorem sum_any (bs : List UInt8) (A : Option Addr) (n c B : Nat) (w : World) (hr : Reads w B 1 A n (bs.map bv)) (hn : n ≤ 140737488355328) (hB : B ≤ w.heap.size) :
    Calls Try.prog 24 #[.slice A n c] w fun e w' => e = .returned (.int .u32 (upd 0 bs : Nat)) ∧ Below w.heap.size w w' := by
  have hU := hide (update_any 0 bs A n c B w (by decide) hr hn hB)
  clear hr hn hB
  go_enter Try.func24, Try.ntmps24
  go_wp2_with (go_at_call 26; refine (unhide hU).mono ?_; rintro e w1 ⟨rfl, hb⟩)
  go_ret
  exact ⟨rfl, hb⟩
theorem new_any (w : World) : Calls Try.prog 13 #[] w fun e w' => e = .returned (.pointer (some ⟨w.heap.size, 0, none⟩)) ∧ w' = w.alloc (.cells #[.int .u32 0, .int .i64 0] 72) := by
  go_enter Try.func13, Try.ntmps13
  go_wp2
  go_ret
  exact ⟨rfl, rfl⟩
theorem refNew_any (w : World) : Calls Try.prog 14 #[] w fun e w' => e = .returned (.pointer (some ⟨w.heap.size, 0, none⟩)) ∧ w' = w.alloc (.cells #[.int .u32 0, .int .i64 0] 74) := by
  go_enter Try.func14, Try.ntmps14
  go_wp2
  go_ret
  exact ⟨rfl, rfl⟩

theorem stWrite_any (g s : Nat) (l : Int) (bs : List UInt8) (A : Option Addr) (n c B : Nat) (w : World) (h : s < U32) (hk : Blk w g 72 #[.int .u32 (s : Int), .int .i64 l]) (hr : Reads w B 1 A n (bs.map bv)) (hn : n ≤ 140737488355328) (hB : B ≤ w.heap.size) :
    Calls Try.prog 18 #[.pointer (some ⟨g, 0, none⟩), .slice A n c] w fun e w' => e = .returned (.int .i64 0) ∧ Blk w' g 72 #[.int .u32 (upd s bs : Nat), .int .i64 (wrap64 (l + n))] ∧ Chg w w' (fun i => i = g) := by
  have hU := hide (update_any s bs A n c B w h hr hn hB)
  obtain ⟨u, hu⟩ : ∃ u, upd s bs = u := ⟨_, rfl⟩
  rw [hu] at hU ⊢
  have c0 : w.cell? ⟨g, 0, none⟩ = some (.int .u32 (s : Int)) := hk.cell 0
  have c1 : w.cell? ⟨g, 1, none⟩ = some (.int .i64 l) := hk.cell 1
  have f0 : w.frozen? ⟨g, 0, none⟩ = false := hk.frozen 0
  have f1 : w.frozen? ⟨g, 1, none⟩ = false := hk.frozen 1
  have HK := hide hk
  clear hr hB hk h hu
  go_enter Try.func18, Try.ntmps18
  go_wp2_with (go_at_call 26
               refine (unhide hU).mono ?_
               rintro e w1 ⟨rfl, hb⟩
               have hg := (unhide HK).lt
               have HK1 := hide ((unhide HK).below hb hg)
               have d0 : w1.cell? ⟨g, 0, none⟩ = some (.int .u32 (s : Int)) := (unhide HK1).cell 0
               have d1 : w1.cell? ⟨g, 1, none⟩ = some (.int .i64 l) := (unhide HK1).cell 1
               have g0 : w1.frozen? ⟨g, 0, none⟩ = false := (unhide HK1).frozen 0
               have g1 : w1.frozen? ⟨g, 1, none⟩ = false := (unhide HK1).frozen 1
               have HB := hide hb
               clear hb)
  go_ret
  exact ⟨rfl, ((unhide HK1).set_ 0 _).set_ 1 _, ((Chg.of_below (unhide HB) (fun i => i = g)).set_ ⟨g, 0, none⟩ _ (fun _ => rfl)).set_ ⟨g, 1, none⟩ _ (fun _ => rfl)⟩
theorem stWrite_nil (A : Option Addr) (n c : Nat) (w : World) :
    Calls Try.prog 18 #[.pointer none, .slice A n c] w fun e w' => e = .returned (.int .i64 1) ∧ w = w' := by
  go_enter Try.func18, Try.ntmps18
  go_wp2
  go_ret
  exact ⟨rfl, rfl⟩
theorem stSum_any (g s : Nat) (l : Int) (w : World) (hk : Blk w g 72 #[.int .u32 (s : Int), .int .i64 l]) :
    Calls Try.prog 39 #[.pointer (some ⟨g, 0, none⟩)] w fun e w' => e = .returned (.int .u32 (s : Int)) ∧ w = w' := by
  have c0 : w.cell? ⟨g, 0, none⟩ = some (.int .u32 (s : Int)) := hk.cell 0
  clear hk
  go_enter Try.func39, Try.ntmps39
  go_wp2
  go_ret
  exact ⟨rfl, rfl⟩
theorem stSum_nil (w : World) :
    Calls Try.prog 39 #[.pointer none] w fun e w' => e = .returned (.int .u32 0) ∧ w = w' := by
  go_enter Try.func39, Try.ntmps39
  go_wp2
  go_ret
  exact ⟨rfl, rfl⟩
theorem stLen_any (g s : Nat) (l : Int) (w : World) (hk : Blk w g 72 #[.int .u32 (s : Int), .int .i64 l]) :
    Calls Try.prog 40 #[.pointer (some ⟨g, 0, none⟩)] w fun e w' => e = .returned (.int .i64 l) ∧ w = w' := by
  have c0 : w.cell? ⟨g, 1, none⟩ = some (.int .i64 l) := hk.cell 1
  clear hk
  go_enter Try.func40, Try.ntmps40
  go_wp2
  go_ret
  exact ⟨rfl, rfl⟩
theorem stLen_nil (w : World) :
    Calls Try.prog 40 #[.pointer none] w fun e w' => e = .returned (.int .i64 0) ∧ w = w' := by
  go_enter Try.func40, Try.ntmps40
  go_wp2
  go_ret
  exact ⟨rfl, rfl⟩

theorem rsWrite_any (g s : Nat) (l : Int) (bs : List UInt8) (A : Option Addr) (n c B : Nat) (w : World) (h : s < U32) (hk : Blk w g 74 #[.int .u32 (s : Int), .int .i64 l]) (hr : Reads w B 1 A n (bs.map bv)) (hn : n ≤ 140737488355328) (_hB : B ≤ w.heap.size) :
    Calls Try.prog 17 #[.pointer (some ⟨g, 0, none⟩), .slice A n c] w fun e w' => e = .returned (.int .i64 0) ∧ Blk w' g 74 #[.int .u32 (upd s bs : Nat), .int .i64 (wrap64 (l + n))] ∧ Chg w w' (fun i => i = g) := by
  have hU := hide (refUpdate_any s bs A n c B w h hr hn)
  obtain ⟨u, hu⟩ : ∃ u, upd s bs = u := ⟨_, rfl⟩
  rw [hu] at hU ⊢
  have c0 : w.cell? ⟨g, 0, none⟩ = some (.int .u32 (s : Int)) := hk.cell 0
  have c1 : w.cell? ⟨g, 1, none⟩ = some (.int .i64 l) := hk.cell 1
  have f0 : w.frozen? ⟨g, 0, none⟩ = false := hk.frozen 0
  have f1 : w.frozen? ⟨g, 1, none⟩ = false := hk.frozen 1
  have HK := hide hk
  clear hr hk h hu
  go_enter Try.func17, Try.ntmps17
  go_wp2_with fail
  refine (unhide hU).mono ?_
  rintro e w1 ⟨rfl, rfl⟩
  go_wp2
  go_ret
  exact ⟨rfl, ((unhide HK).set_ 0 _).set_ 1 _, ((Chg.refl w (fun i => i = g)).set_ ⟨g, 0, none⟩ _ (fun _ => rfl)).set_ ⟨g, 1, none⟩ _ (fun _ => rfl)⟩
theorem rsWrite_nil (A : Option Addr) (n c : Nat) (w : World) :
    Calls Try.prog 17 #[.pointer none, .slice A n c] w fun e w' => e = .returned (.int .i64 1) ∧ w = w' := by
  go_enter Try.func17, Try.ntmps17
  go_wp2
  go_ret
  exact ⟨rfl, rfl⟩
theorem rsSum_any (g s : Nat) (l : Int) (w : World) (hk : Blk w g 74 #[.int .u32 (s : Int), .int .i64 l]) :
    Calls Try.prog 42 #[.pointer (some ⟨g, 0, none⟩)] w fun e w' => e = .returned (.int .u32 (s : Int)) ∧ w = w' := by
  have c0 : w.cell? ⟨g, 0, none⟩ = some (.int .u32 (s : Int)) := hk.cell 0
  clear hk
  go_enter Try.func42, Try.ntmps42
  go_wp2
  go_ret
  exact ⟨rfl, rfl⟩
theorem rsSum_nil (w : World) :
    Calls Try.prog 42 #[.pointer none] w fun e w' => e = .returned (.int .u32 0) ∧ w = w' := by
  go_enter Try.func42, Try.ntmps42
  go_wp2
  go_ret
  exact ⟨rfl, rfl⟩
theorem rsLen_any (g s : Nat) (l : Int) (w : World) (hk : Blk w g 74 #[.int .u32 (s : Int), .int .i64 l]) :
    Calls Try.prog 43 #[.pointer (some ⟨g, 0, none⟩)] w fun e w' => e = .returned (.int .i64 l) ∧ w = w' := by
  have c0 : w.cell? ⟨g, 1, none⟩ = some (.int .i64 l) := hk.cell 1
  clear hk
  go_enter Try.func43, Try.ntmps43
  go_wp2
  go_ret
  exact ⟨rfl, rfl⟩
theorem rsLen_nil (w : World) :
    Calls Try.prog 43 #[.pointer none] w fun e w' => e = .returned (.int .i64 0) ∧ w = w' := by
  go_enter Try.func43, Try.ntmps43
  go_wp2
  go_ret
  exact ⟨rfl, rfl⟩
end Go.Proofs.Ytoipkpndfgcmcaa

/-
  Seal and Whole of the program's check sum and of the document's answer, over any bytes; the walks over the Go text. Condition: fewer than 2^47 bytes.
-/
namespace Go.Proofs.Ytoipkpndfgcmcaa
open Go.RowKit


def sealed (bs : List UInt8) : List UInt8 := bs ++ le4 (upd 0 bs)
theorem le4c_lit (n : Nat) : ∃ x0 x1 x2 x3 : Int, le4c n = #[.int .u8 x0, .int .u8 x1, .int .u8 x2, .int .u8 x3] := ⟨_, _, _, _, rfl⟩

set_option maxRecDepth 100000 in
set_option maxHeartbeats 600000 in
theorem seal_any (A : Option Addr) (n c B : Nat) (bs : List UInt8) (w : World) (hr : Reads w B 1 A n (bs.map bv)) (hn : n + 4 ≤ 140737488355328) (hB : B ≤ w.heap.size) :
    Calls Try.prog 30 #[.slice A n c] w fun e w' => ∃ v, e = .returned v ∧ w'.ownsRow w.heap.size 5 1 v (n + 4) ((sealed bs).map bv) ∧ Below w.heap.size w w' := by
  have hS := hide (sum_any bs A n c B w hr (by omega) hB)
  obtain ⟨s, hs⟩ : ∃ s, upd 0 bs = s := ⟨_, rfl⟩
  rw [hs] at hS
  have HS := Lib.hid hs
  have hBy := fun w => hide (bytes_any s w)
  obtain ⟨x0, x1, x2, x3, hx⟩ := le4c_lit s
  rw [hx] at hBy
  have HX := Lib.hid hx
  have HR := hide hr
  clear hs hx hr
  go_enter Try.func30, Try.ntmps30
  go_wp2_with (first
    | (go_at_call 24; refine (unhide hS).mono ?_; rintro e w1 ⟨rfl, hb1⟩)
    | (go_at_call 47; refine (unhide (hBy _)).mono ?_; rintro e w2 ⟨rfl, hb2⟩))
  have hz1 := hb1.size
  have hz2 := hb2.size
  have hb3 : Below w.heap.size w ((w2.alloc (.cells #[.int .u8 x0, .int .u8 x1, .int .u8 x2, .int .u8 x3] 60)).alloc (.cells #[.slice A n c, .slice (some ⟨w2.heap.size, 0, none⟩) 4 4] 29)) :=
    ((hb1.trans (hb2.mono hz1)).alloc (by omega) _).alloc (by simp; omega) _
  have rd2 : Reads (w2.alloc (.cells #[.int .u8 x0, .int .u8 x1, .int .u8 x2, .int .u8 x3] 60)) (w2.heap.size + 1) 1 (some ⟨w2.heap.size, 0, none⟩) 4 ((le4 s).map bv) :=
    reads_lit w2 _ rfl _ _ 4 rfl _ (by rw [← le4c_list, HX.out])
  have cL : ∀ (i : Nat) (p : Part), [(⟨A, n, c, bs⟩ : Part), ⟨some ⟨w2.heap.size, 0, none⟩, 4, 4, le4 s⟩][i]? = some p →
      ((w2.alloc (.cells #[.int .u8 x0, .int .u8 x1, .int .u8 x2, .int .u8 x3] 60)).alloc (.cells #[.slice A n c, .slice (some ⟨w2.heap.size, 0, none⟩) 4 4] 29)).cell? ⟨w2.heap.size + 1, i, none⟩ = some (.slice p.A p.n p.c) ∧
      Reads ((w2.alloc (.cells #[.int .u8 x0, .int .u8 x1, .int .u8 x2, .int .u8 x3] 60)).alloc (.cells #[.slice A n c, .slice (some ⟨w2.heap.size, 0, none⟩) 4 4] 29)) (w2.heap.size + 1) 1 p.A p.n (p.bs.map bv) := by
    have hk : Blk ((w2.alloc (.cells #[.int .u8 x0, .int .u8 x1, .int .u8 x2, .int .u8 x3] 60)).alloc (.cells #[.slice A n c, .slice (some ⟨w2.heap.size, 0, none⟩) 4 4] 29)) (w2.heap.size + 1) 29 #[.slice A n c, .slice (some ⟨w2.heap.size, 0, none⟩) 4 4] := by
      have := Blk.new (w2.alloc (.cells #[.int .u8 x0, .int .u8 x1, .int .u8 x2, .int .u8 x3] 60)) 29 #[.slice A n c, .slice (some ⟨w2.heap.size, 0, none⟩) 4 4]
      simpa using this
    intro i p hp
    match i, hp with
    | 0, hp =>
      simp only [List.getElem?_cons_zero, Option.some.injEq] at hp
      subst hp
      exact ⟨hk.cell 0, ((unhide HR).below (hb3.mono hB)).more (by omega)⟩
    | 1, hp =>
      simp only [List.getElem?_cons_succ, List.getElem?_cons_zero, Option.some.injEq] at hp
      subst hp
      exact ⟨hk.cell 1, rd2.alloc (by simp) _⟩
    | i + 2, hp => simp at hp
  have hC := hide (concat_any [⟨A, n, c, bs⟩, ⟨some ⟨w2.heap.size, 0, none⟩, 4, 4, le4 s⟩] (w2.heap.size + 1) (w2.heap.size + 1) _ (by simp) (by simp) (by simp) (by simp [total]; omega) cL)
  have HB3 := hide hb3
  clear cL rd2 hb1 hb2 hb3
  refine (unhide hC).mono ?_
  rintro e w3 ⟨v3, rfl, ho3, hb3⟩
  go_wp2
  go_ret
  refine ⟨_, rfl, ?_, (unhide HB3).trans (hb3.mono (by simp; omega))⟩
  have e1 : total [(⟨A, n, c, bs⟩ : Part), ⟨some ⟨w2.heap.size, 0, none⟩, 4, 4, le4 s⟩] = n + 4 := by simp [total]
  have e2 : joined [(⟨A, n, c, bs⟩ : Part), ⟨some ⟨w2.heap.size, 0, none⟩, 4, 4, le4 s⟩] = sealed bs := by simp [joined, sealed, HS.out]
  rw [e1, e2] at ho3
  exact ho3.base (by simp; omega)

set_option maxRecDepth 100000 in
theorem refSeal_any (A : Option Addr) (n c B : Nat) (bs : List UInt8) (w : World) (hr : Reads w B 1 A n (bs.map bv)) (hn : n + 4 ≤ 140737488355328) (hB : B ≤ w.heap.size) :
    Calls Try.prog 31 #[.slice A n c] w fun e w' => ∃ v, e = .returned v ∧ w'.ownsRow w.heap.size 5 1 v (n + 4) ((sealed bs).map bv) ∧ Below w.heap.size w w' := by
  obtain ⟨s, hs⟩ : ∃ s, upd 0 bs = s := ⟨_, rfl⟩
  have HS := Lib.hid hs
  have HR := hide hr
  have hq1 : Hid (0 + n ≤ maxLen ∧ (0 + n) * 1 ≤ 140737488355328) := cap1 (by omega)
  have hq2 : Hid (n + 4 ≤ maxLen ∧ (n + 4) * 1 ≤ 140737488355328) := cap1 (by omega)
  clear hs hr
  go_enter Try.func31, Try.ntmps31
  go_wp2_with (first
    | (at_builtin
       refine wpList_app _ rfl (.tmp 4) (.tmp 5) 29 rfl elem_u8 w.heap.size (.slice none 0 0) 0 [] rfl (World.ownsRow_nil _ _ _ _) B A n c _ rfl (unhide HR) (bv_one _) hq1.out (Nat.le_refl _) ?_
       intro v1 w1 ho1 hg1 hat1
       have hb1 : Below w.heap.size w w1 := grownBy_below hg1 (Nat.le_refl _) (by simp [Value.ownBlock])
       have hS := hide (refSum_any bs A n c B w1 ((unhide HR).below (hb1.mono hB)) (by omega))
       rw [HS.out] at hS
       simp only [Nat.zero_add, List.nil_append] at ho1
       have HB1 := hide hb1
       clear hg1 hat1 hb1)
    | (go_at_call 25; refine (unhide hS).mono ?_; rintro e w2 ⟨rfl, rfl⟩)
    | (go_at_call 44
       refine (four_any s _).mono ?_
       rintro e w3 ⟨v3, rfl, ho3, hb3⟩
       have hz1 := (unhide HB1).size
       have hown := hide ((Chg.of_below hb3 (fun _ => False)).own ho1 (fun _ _ h => h))
       have hz3 := hb3.size
       obtain ⟨A3, c3, rfl⟩ := ho3.shape
       have hR3 := hide (Reads.of_own ho3)
       have HB3 := hide ((unhide HB1).trans (hb3.mono hz1))
       clear ho3 hb3 ho1)
    | (at_builtin
       refine wpList_app _ rfl (.tmp 7) (.tmp 10) 29 rfl elem_u8 w.heap.size v1 n _ rfl (unhide hown) _ A3 4 c3 _ rfl (unhide hR3) (bv_one _) hq2.out (by omega) ?_
       intro v4 w4 ho4 hg4 hat4))
  go_ret
  refine ⟨_, rfl, ?_, (unhide HB3).grown hg4 (by omega) (fun i hi => ((unhide hown).lt i hi).1)⟩
  rw [← List.map_append] at ho4
  rw [show sealed bs = bs ++ le4 s by unfold sealed; rw [HS.out]]
  exact ho4
end Go.Proofs.Ytoipkpndfgcmcaa

/-
  Whole of the program's check sum and of the document's answer, over any bytes; the walks over the Go text. Condition: fewer than 2^47 bytes.
-/
namespace Go.Proofs.Ytoipkpndfgcmcaa
open Go.RowKit


/-- Are the last four bytes those of the sum of what stands ahead of them? -/
def whole (bs : List UInt8) : Bool := decide (4 ≤ bs.length) && (bs.drop (bs.length - 4) == le4 (upd 0 (bs.take (bs.length - 4))))
theorem whole_short {bs : List UInt8} (h : bs.length < 4) : whole bs = false := by
  unfold whole
  rw [show decide (4 ≤ bs.length) = false by simp; omega]
  rfl
theorem whole_long {bs : List UInt8} {m : Nat} (h : bs.length = m + 4) : whole bs = (bs.drop m == le4 (upd 0 (bs.take m))) := by
  unfold whole
  rw [h, Nat.add_sub_cancel, show decide (4 ≤ m + 4) = true by simp]
  rfl
theorem Reads.upto_ {w : World} {B n k : Nat} {A : Option Addr} {xs : List UInt8} (h : Reads w B 1 A n (xs.map bv)) (hk : k ≤ n) : Reads w B 1 A k ((xs.take k).map bv) := by
  have hl : xs.length = n := by have := h.1; simpa using this
  refine ⟨by simp; omega, fun hn => ?_⟩
  obtain ⟨ad, e, hb, hc⟩ := h.2 (by omega)
  refine ⟨ad, e, hb, fun j u hu => hc j u ?_⟩
  rw [List.map_take, List.getElem?_take] at hu
  split at hu
  · exact hu
  · cases hu

set_option maxRecDepth 100000 in
set_option maxHeartbeats 600000 in
theorem refWhole_any (A : Option Addr) (n c B : Nat) (bs : List UInt8) (w : World) (hr : Reads w B 1 A n (bs.map bv)) (hn : n ≤ 140737488355328) (hB : B ≤ w.heap.size) (hnc : n ≤ c) :
    Calls Try.prog 29 #[.slice A n c] w fun e w' => e = .returned (.bool (whole bs)) ∧ Below w.heap.size w w' := by
  have hlen : bs.length = n := by have := hr.1; simpa using this
  by_cases h4 : n < 4
  · rw [whole_short (by omega)]
    clear hr
    go_enter Try.func29, Try.ntmps29
    go_wp2
    go_ret
    exact ⟨rfl, Below.refl _ _⟩
  · obtain ⟨m, rfl⟩ : ∃ m, n = m + 4 := ⟨n - 4, by omega⟩
    rw [whole_long hlen]
    have hS := hide (refSum_any (bs.take m) A m c B w (hr.upto_ (by omega)) (by omega))
    obtain ⟨s, hs⟩ : ∃ s, upd 0 (bs.take m) = s := ⟨_, rfl⟩
    rw [hs] at hS ⊢
    have HR := hide hr
    clear hs hr h4
    go_enter Try.func29, Try.ntmps29
    go_wp2_with (first
      | (go_at_call 25; refine (unhide hS).mono ?_; rintro e w2 ⟨rfl, rfl⟩)
      | (go_at_call 44; refine (four_any s _).mono ?_; rintro e w1 ⟨v1, rfl, ho1, hb1⟩))
    obtain ⟨A1, c1, rfl⟩ := ho1.shape
    have hb1z := hb1.size
    have r1 := (unhide HR).below (hb1.mono hB)
    have r2 := Reads.of_own ho1
    have HB1 := hide hb1
    clear hS ho1 hb1 HR
    go_loopg [5] 4 (fun q t wr => ∃ k : Nat, k + q = 4 ∧ t = .int .i64 (k : Int) ∧ Hid ((bs.drop m).take k = (le4 s).take k) ∧ Below w1.heap.size w1 wr)
    case atStart => exact ⟨0, rfl, rfl, rfl, Below.refl _ _⟩
    case round =>
      obtain ⟨k, hk, rfl, HT, hb⟩ := hrel
      by_cases hlt : k < 4
      · obtain ⟨q, rfl⟩ : ∃ q, gk = q + 1 := ⟨gk - 1, by omega⟩
        obtain ⟨b1, o1, u1, rfl, hl1, hx1, hc1, ha1⟩ := r1.at0 (k := m + k) (by omega)
        obtain ⟨b2, o2, u2, rfl, hl2, hx2, hc2, ha2⟩ := r2.at0 hlt
        rw [List.getElem?_map] at hx1 hx2
        obtain ⟨d1, hx1', rfl⟩ := Option.map_eq_some_iff.1 hx1
        obtain ⟨d2, hx2', rfl⟩ := Option.map_eq_some_iff.1 hx2
        have hx1'' : (bs.drop m)[k]? = some d1 := by rw [List.getElem?_drop]; exact hx1'
        have hd1 : wr.cell? ⟨b1, o1 + (m + k), none⟩ = some (.int .u8 (d1.toNat : Int)) := (hb.cell (p := ⟨b1, o1 + (m + k), none⟩) (Nat.lt_of_lt_of_le hl1 (Nat.le_trans hB hb1z))).trans hc1
        have hd2 : wr.cell? ⟨b2, o2 + k, none⟩ = some (.int .u8 (d2.toNat : Int)) := (hb.cell (p := ⟨b2, o2 + k, none⟩) hl2).trans hc2
        have HE := hide (take_ext HT.out hx1'' hx2')
        have HB := hide hb
        have hk0 : (0 : Int) ≤ (k : Int) := by omega
        have hk1 : (k : Int) < 4 := by omega
        have hsum : IntKind.i64.wrap ((m : Int) + (k : Int)) = (m : Int) + (k : Int) := IntWalk.i64_in _ (by omega)
        have hm0 : (0 : Int) ≤ (m : Int) + (k : Int) := by omega
        have hm1 : (m : Int) + (k : Int) < (m : Int) + 4 := by omega
        have hmt : ((m : Int) + (k : Int)).toNat = m + k := by omega
        by_cases hcc : d1 = d2
        · subst hcc
          have HN : Hid ((bs.drop m).take (k + 1) = (le4 s).take (k + 1)) := (unhide HE).2 rfl
          have hne : ((d1.toNat : Int) != (d1.toNat : Int)) = false := by simp
          clear r1 r2 hx1 hx2 hx1' hx1'' hx2' ha1 ha2 hc1 hc2 hb HE hlen
          go_wp2
          go_quiet (fail)
          clear hsum hmt
          go_wp2
          go_roundg q
          case rel => exact ⟨k + 1, by omega, by go_num, HN, ⟨(unhide HB).os, (unhide HB).tape, (unhide HB).output, (unhide HB).size, (unhide HB).block⟩⟩
          case measure => omega
        · have HR : Hid ((bs.drop m == le4 s) = false) := by
            show _ = _
            simp only [beq_eq_false_iff_ne]
            intro e
            rw [e, hx2'] at hx1''
            injection hx1'' with e
            exact hcc e.symm
          have hne : ((d1.toNat : Int) != (d2.toNat : Int)) = true := by
            simp only [bne_iff_ne, ne_eq, Int.natCast_inj]
            intro e
            exact hcc (UInt8.toNat_inj.1 e)
          clear r1 r2 hx1 hx2 hx1' hx1'' hx2' ha1 ha2 hc1 hc2 hb HE hlen
          go_wp2
          go_quiet (fail)
          clear hsum hmt
          go_wp2
          go_ret
          exact ⟨by rw [HR.out]; rfl, (unhide HB1).trans ((below_drewN (unhide HB) _).mono hb1z)⟩
      · have HR : Hid ((bs.drop m == le4 s) = true) := by
          show _ = _
          have := HT.out
          rw [List.take_of_length_le (by rw [List.length_drop]; omega), List.take_of_length_le (by rw [le4_len]; omega)] at this
          simpa using this
        have HB := hide hb
        clear r1 r2 hb
        go_wp2
        go_ret
        exact ⟨by rw [HR.out]; rfl, (unhide HB1).trans ((unhide HB).mono hb1z)⟩

theorem eql4 (a b c d a' b' c' d' : Int) (w : World) : (binOp .eql 60 (.agg #[.int .u8 a, .int .u8 b, .int .u8 c, .int .u8 d]) (.agg #[.int .u8 a', .int .u8 b', .int .u8 c', .int .u8 d'])).run Try.prog w = .ok (.bool (a == a' && (b == b' && (c == c' && d == d')))) w := by
  have u3 := Try.underlying5
  have a3 := Try.isAgg5
  have z3 := Try.sizeOf5
  rw [run_eql_struct]
  have : (Op.equalIn 10000 60 (.agg #[.int .u8 a, .int .u8 b, .int .u8 c, .int .u8 d]) (.agg #[.int .u8 a', .int .u8 b', .int .u8 c', .int .u8 d'])).run Try.prog w = .ok (a == a' && (b == b' && (c == c' && d == d'))) w := by
    rw [show (10000 : Nat) = 9999 + 1 from rfl, Op.equalIn]
    simp only [Sem.run_bind, run_underlying Try.underlying60, Result.andThen_ok]
    simp only [Std.Legacy.Range.forIn_eq_forIn_range', Std.Legacy.Range.size, Nat.sub_zero, Nat.add_sub_cancel, Nat.div_one, List.range'_succ, List.range'_zero, List.forIn_cons, List.forIn_nil]
    go_simp
    by_cases h1 : a = a' <;> by_cases h2 : b = b' <;> by_cases h3 : c = c' <;> by_cases h4 : d = d' <;> simp [h1, h2, h3, h4]
  rw [this]
  rfl

set_option maxRecDepth 100000 in
set_option maxHeartbeats 600000 in
theorem whole_any (A : Option Addr) (n c B : Nat) (bs : List UInt8) (w : World) (hr : Reads w B 1 A n (bs.map bv)) (hn : n ≤ 140737488355328) (hB : B ≤ w.heap.size) (hnc : n ≤ c) :
    Calls Try.prog 28 #[.slice A n c] w fun e w' => e = .returned (.bool (whole bs)) ∧ Below w.heap.size w w' := by
  have hlen : bs.length = n := by have := hr.1; simpa using this
  by_cases h4 : n < 4
  · rw [whole_short (by omega)]
    clear hr
    have hd : decide ((0 : Int) ≤ (n : Int) - 4) = false := by simp; omega
    have hd2 : decide ((4 : Int) ≤ (n : Int)) = false := by simp; omega
    have hd3 : decide (4 ≤ n) = false := by simp; omega
    go_enter Try.func28, Try.ntmps28
    go_wp2
    go_quiet (fail)
    go_wp2
    go_ret
    exact ⟨rfl, below_drewN (Below.refl _ _) _⟩
  · obtain ⟨m, rfl⟩ : ∃ m, n = m + 4 := ⟨n - 4, by omega⟩
    rw [whole_long hlen]
    obtain ⟨b1, o1, u1, rfl, hl1, hx1, hc1, ha1⟩ := hr.at0 (k := 0) (by omega)
    have hS := hide (sum_any (bs.take m) (some ⟨b1, o1, none⟩) m c B w.drew (hr.drew.upto_ (by omega)) (by omega) hB)
    obtain ⟨s, hs⟩ : ∃ s, upd 0 (bs.take m) = s := ⟨_, rfl⟩
    rw [hs] at hS ⊢
    have hBy := fun w => bytes_any s w
    have hsz1 := hB
    obtain ⟨x0, x1, x2, x3, hxs⟩ : ∃ x0 x1 x2 x3 : UInt8, bs.drop m = [x0, x1, x2, x3] := by
      have : (bs.drop m).length = 4 := by rw [List.length_drop]; omega
      match h : bs.drop m, this with
      | [a, b, c, d], _ => exact ⟨a, b, c, d, rfl⟩
    have hget : ∀ j v, ([x0, x1, x2, x3] : List UInt8)[j]? = some v → w.cell? ⟨b1, o1 + m + j, none⟩ = some (.int .u8 (v.toNat : Int)) := fun j v hv => by
      have := ha1 (m + j) (bv v) (by rw [List.getElem?_map, ← List.getElem?_drop, hxs, hv]; rfl)
      rw [← Nat.add_assoc] at this
      exact this
    have p0 : w.cell? ⟨b1, o1 + m, none⟩ = some (.int .u8 (x0.toNat : Int)) := hget 0 x0 rfl
    have p1 := hget 1 x1 rfl
    have p2 := hget 2 x2 rfl
    have p3 := hget 3 x3 rfl
    rw [hxs]
    have hq := fun w => eql4 x0.toNat x1.toNat x2.toNat x3.toNat (s % 256 : Nat) (s / 256 % 256 : Nat) (s / 65536 % 256 : Nat) (s / 16777216 % 256 : Nat) w
    have hun : le4c s = #[.int .u8 ((s % 256 : Nat) : Int), .int .u8 ((s / 256 % 256 : Nat) : Int), .int .u8 ((s / 65536 % 256 : Nat) : Int), .int .u8 ((s / 16777216 % 256 : Nat) : Int)] := rfl
    obtain ⟨q0, h0q⟩ : ∃ q : Nat, s % 256 = q := ⟨_, rfl⟩
    obtain ⟨q1, h1q⟩ : ∃ q : Nat, s / 256 % 256 = q := ⟨_, rfl⟩
    obtain ⟨q2, h2q⟩ : ∃ q : Nat, s / 65536 % 256 = q := ⟨_, rfl⟩
    obtain ⟨q3, h3q⟩ : ∃ q : Nat, s / 16777216 % 256 = q := ⟨_, rfl⟩
    rw [h0q, h1q, h2q, h3q] at hun hq
    simp only [hun] at hBy
    have hfin : Hid (([x0, x1, x2, x3] == le4 s) = ((x0.toNat : Int) == (q0 : Int) && ((x1.toNat : Int) == (q1 : Int) && ((x2.toNat : Int) == (q2 : Int) && (x3.toNat : Int) == (q3 : Int))))) := by
      show _ = _
      have hp : ∀ (x : UInt8) (q : Nat), q < 256 → (x == UInt8.ofNat q) = ((x.toNat : Int) == (q : Int)) := fun x q hq => by
        rw [Bool.eq_iff_iff]
        simp only [beq_iff_eq, Int.natCast_inj]
        constructor
        · rintro rfl; simp [UInt8.toNat_ofNat']; omega
        · rintro rfl; simp
      unfold le4
      rw [h0q, h1q, h2q, h3q]
      rw [← hp _ _ (by omega), ← hp _ _ (by omega), ← hp _ _ (by omega), ← hp _ _ (by omega)]
      simp
    have hBy' := fun w => hide (hBy w)
    clear hBy hun h0q h1q h2q h3q
    have hmc : ¬ (c = m) := by omega
    have h0 : decide ((0 : Int) ≤ (m : Int)) = true := by simp
    have hm0 : (0 : Int) ≤ (m : Int) := by omega
    have hm1 : (m : Int) ≤ (m : Int) + 4 := by omega
    have hm2 : (m : Int) ≤ (c : Int) := by omega
    have harr := fun w => run_arrayAt (P := Try.prog) (w := w) 60 5 4 (some ⟨b1, o1 + m, none⟩) 4 (c - m) Try.underlying60 (Nat.le_refl _)
    clear hr hx1 hc1 ha1 hs hxs hget h4
    go_enter Try.func28, Try.ntmps28
    go_wp2
    go_region_held3 (fun w' => w'.cell? ⟨b1, o1 + m, none⟩ = some (.int .u8 (x0.toNat : Int)) ∧ w'.cell? ⟨b1, o1 + m + 1, none⟩ = some (.int .u8 (x1.toNat : Int)) ∧ w'.cell? ⟨b1, o1 + m + 2, none⟩ = some (.int .u8 (x2.toNat : Int)) ∧ w'.cell? ⟨b1, o1 + m + 3, none⟩ = some (.int .u8 (x3.toNat : Int))) (first | go_keep) ((first
      | (go_at_call 24
         refine (unhide hS).mono ?_
         rintro e w1 ⟨rfl, hb1⟩
         have d0 := (hb1.cell (p := ⟨b1, o1 + m, none⟩) (Nat.lt_of_lt_of_le hl1 hB)).trans p0
         have d1 := (hb1.cell (p := ⟨b1, o1 + m + 1, none⟩) (Nat.lt_of_lt_of_le hl1 hB)).trans p1
         have d2 := (hb1.cell (p := ⟨b1, o1 + m + 2, none⟩) (Nat.lt_of_lt_of_le hl1 hB)).trans p2
         have d3 := (hb1.cell (p := ⟨b1, o1 + m + 3, none⟩) (Nat.lt_of_lt_of_le hl1 hB)).trans p3
         have HB1 := hide hb1
         have hz1 := hb1.size
         clear hb1)
      | (go_at_call 47
         refine (unhide (hBy' _)).mono ?_
         rintro e w2 ⟨rfl, hb2⟩
         have e0 := (hb2.cell (p := ⟨b1, o1 + m, none⟩) (Nat.lt_of_lt_of_le (Nat.lt_of_lt_of_le hl1 hB) hz1)).trans d0
         have e1 := (hb2.cell (p := ⟨b1, o1 + m + 1, none⟩) (Nat.lt_of_lt_of_le (Nat.lt_of_lt_of_le hl1 hB) hz1)).trans d1
         have e2 := (hb2.cell (p := ⟨b1, o1 + m + 2, none⟩) (Nat.lt_of_lt_of_le (Nat.lt_of_lt_of_le hl1 hB) hz1)).trans d2
         have e3 := (hb2.cell (p := ⟨b1, o1 + m + 3, none⟩) (Nat.lt_of_lt_of_le (Nat.lt_of_lt_of_le hl1 hB) hz1)).trans d3
         have HB2 := hide hb2
         clear hb2)))
    all_goals go_wp2
    all_goals go_ret
    all_goals exact ⟨by rw [hfin.out]; rfl, Below.trans (b := w.drew) (below_drewN (Below.refl _ _) 1) ((unhide HB1).trans ((unhide HB2).mono hz1))⟩
end Go.Proofs.Ytoipkpndfgcmcaa

/-
  CheckStreams: every script of two streams in turns, and of a nil one: the law's walk. Condition: none beyond the form's own reach.
-/
namespace Go.Proofs.Ytoipkpndfgcmcaa
open Go.RowKit


theorem tells_any (g h s : Nat) (l : Int) (w : World) (hg : Blk w g 72 #[.int .u32 (s : Int), .int .i64 l]) (hh : Blk w h 74 #[.int .u32 (s : Int), .int .i64 l]) :
    Calls Try.prog 15 #[.pointer (some ⟨g, 0, none⟩), .pointer (some ⟨h, 0, none⟩)] w fun e w' => e = .returned (.bool true) ∧ w = w' := by
  have a := hide (stSum_any g s l w hg)
  have b := hide (stLen_any g s l w hg)
  have c := hide (rsSum_any h s l w hh)
  have d := hide (rsLen_any h s l w hh)
  clear hg hh
  go_enter Try.func15, Try.ntmps15
  go_wp2_with (first
    | (go_at_call 39; refine (unhide a).mono ?_; rintro e w1 ⟨rfl, rfl⟩)
    | (go_at_call 40; refine (unhide b).mono ?_; rintro e w1 ⟨rfl, rfl⟩)
    | (go_at_call 42; refine (unhide c).mono ?_; rintro e w1 ⟨rfl, rfl⟩)
    | (go_at_call 43; refine (unhide d).mono ?_; rintro e w1 ⟨rfl, rfl⟩))
  go_ret
  exact ⟨rfl, rfl⟩
theorem tells_nil (w : World) :
    Calls Try.prog 15 #[.pointer none, .pointer none] w fun e w' => e = .returned (.bool true) ∧ w = w' := by
  go_enter Try.func15, Try.ntmps15
  go_wp2_with (first
    | (go_at_call 39; refine (stSum_nil w).mono ?_; rintro e w1 ⟨rfl, rfl⟩)
    | (go_at_call 40; refine (stLen_nil w).mono ?_; rintro e w1 ⟨rfl, rfl⟩)
    | (go_at_call 42; refine (rsSum_nil w).mono ?_; rintro e w1 ⟨rfl, rfl⟩)
    | (go_at_call 43; refine (rsLen_nil w).mono ?_; rintro e w1 ⟨rfl, rfl⟩))
  go_ret
  exact ⟨rfl, rfl⟩
theorem num_any (x : Int) (w : World) : Calls Try.prog 19 #[.int .i64 x] w fun e w' => e = .returned (.int .i64 x) ∧ w = w' := by
  go_enter Try.func19, Try.ntmps19
  go_wp2
  go_ret
  exact ⟨rfl, rfl⟩

/-- One step of a script, as it lies in memory. -/
structure OpAt (w : World) (b off : Nat) (who : Int) (tell : Bool) (A : Option Addr) (n c : Nat) (bs : List UInt8) : Prop where
  who : w.cell? ⟨b, off, none⟩ = some (.int .i64 who)
  tell : w.cell? ⟨b, off + 1, none⟩ = some (.bool tell)
  data : w.cell? ⟨b, off + 2, none⟩ = some (.slice A n c)
  lt : b < w.heap.size
  reads : Reads w w.heap.size 1 A n (bs.map bv)
  small : n ≤ 140737488351232

def ptrOf (s0 s1 : Nat) : Nat → Value
  | 0 => .pointer (some ⟨s0, 0, none⟩)
  | 1 => .pointer (some ⟨s1, 0, none⟩)
  | _ + 2 => .pointer none
def codeOf : Nat → Int
  | 0 => 0
  | 1 => 0
  | _ + 2 => 1
def stepS (S : Nat → Nat) (j : Nat) (bs : List UInt8) : Nat → Nat := fun i => if i = j then upd (S i) bs else S i
def stepL (L : Nat → Int) (j : Nat) (n : Nat) : Nat → Int := fun i => if i = j then wrap64 (L i + n) else L i
/-- Two streams and their list. -/
structure SS (w : World) (s0 s1 p : Nat) (S : Nat → Nat) (L : Nat → Int) : Prop where
  b0 : Blk w s0 72 #[.int .u32 (S 0 : Int), .int .i64 (L 0)]
  b1 : Blk w s1 72 #[.int .u32 (S 1 : Int), .int .i64 (L 1)]
  bp : Blk w p 23 #[.pointer (some ⟨s0, 0, none⟩), .pointer (some ⟨s1, 0, none⟩), .pointer none]
  lt0 : S 0 < U32
  lt1 : S 1 < U32
  ne : s0 ≠ s1
  nep0 : s0 ≠ p
  nep1 : s1 ≠ p
theorem SS.chg {w w' : World} {s0 s1 p : Nat} {S : Nat → Nat} {L : Nat → Int} {T : Nat → Prop} (h : SS w s0 s1 p S L) (c : Chg w w' T) (h0 : ¬ T s0) (h1 : ¬ T s1) (hp : ¬ T p) : SS w' s0 s1 p S L :=
  ⟨c.blk h.b0 h0, c.blk h.b1 h1, c.blk h.bp hp, h.lt0, h.lt1, h.ne, h.nep0, h.nep1⟩
theorem SS.bel {w w' : World} {s0 s1 p : Nat} {S : Nat → Nat} {L : Nat → Int} (h : SS w s0 s1 p S L) (c : Below w.heap.size w w') : SS w' s0 s1 p S L :=
  h.chg (Chg.of_below c (fun _ => False)) id id id
theorem stWrite_j {w : World} {s0 s1 p : Nat} {S : Nat → Nat} {L : Nat → Int} (j : Nat) (hs : SS w s0 s1 p S L) (bs : List UInt8) (A : Option Addr) (n c B : Nat) (hr : Reads w B 1 A n (bs.map bv)) (hn : n ≤ 140737488355328) (hB : B ≤ w.heap.size) :
    Calls Try.prog 18 #[ptrOf s0 s1 j, .slice A n c] w fun e w' => e = .returned (.int .i64 (codeOf j)) ∧ SS w' s0 s1 p (stepS S j bs) (stepL L j n) ∧ Chg w w' (fun i => i = s0 ∨ i = s1) := by
  match j with
  | 0 =>
    refine (stWrite_any s0 (S 0) (L 0) bs A n c B w hs.lt0 hs.b0 hr hn hB).mono fun e w' h => ⟨h.1, ⟨?_, ?_, ?_, ?_, ?_, hs.ne, hs.nep0, hs.nep1⟩, h.2.2.more fun i hi => .inl hi⟩
    · exact h.2.1
    · exact h.2.2.blk hs.b1 (fun e => hs.ne e.symm)
    · exact h.2.2.blk hs.bp (fun e => hs.nep0 e.symm)
    · exact upd_lt hs.lt0 bs
    · exact hs.lt1
  | 1 =>
    refine (stWrite_any s1 (S 1) (L 1) bs A n c B w hs.lt1 hs.b1 hr hn hB).mono fun e w' h => ⟨h.1, ⟨?_, ?_, ?_, ?_, ?_, hs.ne, hs.nep0, hs.nep1⟩, h.2.2.more fun i hi => .inr hi⟩
    · exact h.2.2.blk hs.b0 (fun e => hs.ne e)
    · exact h.2.1
    · exact h.2.2.blk hs.bp (fun e => hs.nep1 e.symm)
    · exact hs.lt0
    · exact upd_lt hs.lt1 bs
  | _ + 2 =>
    refine (stWrite_nil A n c w).mono fun e w' h => ⟨h.1, ?_, ?_⟩
    · rw [← h.2]; exact ⟨hs.b0, hs.b1, hs.bp, hs.lt0, hs.lt1, hs.ne, hs.nep0, hs.nep1⟩
    · rw [← h.2]; exact Chg.refl _ _
theorem SS.at_ {w : World} {s0 s1 p : Nat} {S : Nat → Nat} {L : Nat → Int} (hs : SS w s0 s1 p S L) {j : Nat} (hj : j ≤ 2) : w.cell? ⟨p, j, none⟩ = some (ptrOf s0 s1 j) := by
  rw [hs.bp.cell]
  match j, hj with
  | 0, _ => rfl
  | 1, _ => rfl
  | 2, _ => rfl
/-- Two streams and their list. -/
structure RR (w : World) (s0 s1 p : Nat) (S : Nat → Nat) (L : Nat → Int) : Prop where
  b0 : Blk w s0 74 #[.int .u32 (S 0 : Int), .int .i64 (L 0)]
  b1 : Blk w s1 74 #[.int .u32 (S 1 : Int), .int .i64 (L 1)]
  bp : Blk w p 26 #[.pointer (some ⟨s0, 0, none⟩), .pointer (some ⟨s1, 0, none⟩), .pointer none]
  lt0 : S 0 < U32
  lt1 : S 1 < U32
  ne : s0 ≠ s1
  nep0 : s0 ≠ p
  nep1 : s1 ≠ p
theorem RR.chg {w w' : World} {s0 s1 p : Nat} {S : Nat → Nat} {L : Nat → Int} {T : Nat → Prop} (h : RR w s0 s1 p S L) (c : Chg w w' T) (h0 : ¬ T s0) (h1 : ¬ T s1) (hp : ¬ T p) : RR w' s0 s1 p S L :=
  ⟨c.blk h.b0 h0, c.blk h.b1 h1, c.blk h.bp hp, h.lt0, h.lt1, h.ne, h.nep0, h.nep1⟩
theorem RR.bel {w w' : World} {s0 s1 p : Nat} {S : Nat → Nat} {L : Nat → Int} (h : RR w s0 s1 p S L) (c : Below w.heap.size w w') : RR w' s0 s1 p S L :=
  h.chg (Chg.of_below c (fun _ => False)) id id id
theorem rsWrite_j {w : World} {s0 s1 p : Nat} {S : Nat → Nat} {L : Nat → Int} (j : Nat) (hs : RR w s0 s1 p S L) (bs : List UInt8) (A : Option Addr) (n c B : Nat) (hr : Reads w B 1 A n (bs.map bv)) (hn : n ≤ 140737488355328) (hB : B ≤ w.heap.size) :
    Calls Try.prog 17 #[ptrOf s0 s1 j, .slice A n c] w fun e w' => e = .returned (.int .i64 (codeOf j)) ∧ RR w' s0 s1 p (stepS S j bs) (stepL L j n) ∧ Chg w w' (fun i => i = s0 ∨ i = s1) := by
  match j with
  | 0 =>
    refine (rsWrite_any s0 (S 0) (L 0) bs A n c B w hs.lt0 hs.b0 hr hn hB).mono fun e w' h => ⟨h.1, ⟨?_, ?_, ?_, ?_, ?_, hs.ne, hs.nep0, hs.nep1⟩, h.2.2.more fun i hi => .inl hi⟩
    · exact h.2.1
    · exact h.2.2.blk hs.b1 (fun e => hs.ne e.symm)
    · exact h.2.2.blk hs.bp (fun e => hs.nep0 e.symm)
    · exact upd_lt hs.lt0 bs
    · exact hs.lt1
  | 1 =>
    refine (rsWrite_any s1 (S 1) (L 1) bs A n c B w hs.lt1 hs.b1 hr hn hB).mono fun e w' h => ⟨h.1, ⟨?_, ?_, ?_, ?_, ?_, hs.ne, hs.nep0, hs.nep1⟩, h.2.2.more fun i hi => .inr hi⟩
    · exact h.2.2.blk hs.b0 (fun e => hs.ne e)
    · exact h.2.1
    · exact h.2.2.blk hs.bp (fun e => hs.nep1 e.symm)
    · exact hs.lt0
    · exact upd_lt hs.lt1 bs
  | _ + 2 =>
    refine (rsWrite_nil A n c w).mono fun e w' h => ⟨h.1, ?_, ?_⟩
    · rw [← h.2]; exact ⟨hs.b0, hs.b1, hs.bp, hs.lt0, hs.lt1, hs.ne, hs.nep0, hs.nep1⟩
    · rw [← h.2]; exact Chg.refl _ _
theorem RR.at_ {w : World} {s0 s1 p : Nat} {S : Nat → Nat} {L : Nat → Int} (hs : RR w s0 s1 p S L) {j : Nat} (hj : j ≤ 2) : w.cell? ⟨p, j, none⟩ = some (ptrOf s0 s1 j) := by
  rw [hs.bp.cell]
  match j, hj with
  | 0, _ => rfl
  | 1, _ => rfl
  | 2, _ => rfl

theorem tells_j {w : World} {s0 s1 p r0 r1 q : Nat} {S : Nat → Nat} {L : Nat → Int} (j : Nat) (hs : SS w s0 s1 p S L) (hr : RR w r0 r1 q S L) :
    Calls Try.prog 15 #[ptrOf s0 s1 j, ptrOf r0 r1 j] w fun e w' => e = .returned (.bool true) ∧ w = w' := by
  match j with
  | 0 => exact tells_any _ _ _ _ _ hs.b0 hr.b0
  | 1 => exact tells_any _ _ _ _ _ hs.b1 hr.b1
  | _ + 2 => exact tells_nil _
theorem two_start (w : World) : ∃ w0, w0 = (((((w.alloc (.cells #[.int .u32 0, .int .i64 0] 72)).alloc (.cells #[.int .u32 0, .int .i64 0] 72)).alloc
      (.cells #[.pointer (some ⟨w.heap.size, 0, none⟩), .pointer (some ⟨w.heap.size + 1, 0, none⟩), .pointer none] 23)).alloc (.cells #[.int .u32 0, .int .i64 0] 74)).alloc (.cells #[.int .u32 0, .int .i64 0] 74)).alloc
      (.cells #[.pointer (some ⟨w.heap.size + 1 + 1 + 1, 0, none⟩), .pointer (some ⟨w.heap.size + 1 + 1 + 1 + 1, 0, none⟩), .pointer none] 26) ∧
    SS w0 w.heap.size (w.heap.size + 1) (w.heap.size + 1 + 1) (fun _ => 0) (fun _ => 0) ∧ RR w0 (w.heap.size + 1 + 1 + 1) (w.heap.size + 1 + 1 + 1 + 1) (w.heap.size + 1 + 1 + 1 + 1 + 1) (fun _ => 0) (fun _ => 0) ∧ Below w.heap.size w w0 := by
  have nb : ∀ (w : World) (g : Nat) (hg : w.heap.size = g) (t : TypeId) (cs : Array Value), Blk (w.alloc (.cells cs t)) g t cs := fun w g hg t cs => by subst hg; exact Blk.new w t cs
  refine ⟨_, rfl, ⟨?_, ?_, ?_, by decide, by decide, by omega, by omega, by omega⟩, ⟨?_, ?_, ?_, by decide, by decide, by omega, by omega, by omega⟩, ?_⟩
  · exact (((((nb _ _ rfl _ _).alloc _).alloc _).alloc _).alloc _).alloc _
  · exact ((((nb _ _ (by simp) _ _).alloc _).alloc _).alloc _).alloc _
  · exact (((nb _ _ (by simp) _ _).alloc _).alloc _).alloc _
  · exact ((nb _ _ (by simp) _ _).alloc _).alloc _
  · exact (nb _ _ (by simp) _ _).alloc _
  · exact nb _ _ (by simp) _ _
  · exact ((((((Below.refl _ _).alloc (Nat.le_refl _) _).alloc (by simp) _).alloc (by simp; omega) _).alloc (by simp; omega) _).alloc (by simp; omega) _).alloc (by simp; omega) _

set_option maxRecDepth 100000 in
set_option maxHeartbeats 2000000 in
theorem checkStreams_walk (A : Option Addr) (n c : Nat) (w : World) (hn : n ≤ 140737488351232)
    (hs : ∀ k, k < n → ∃ b off who tell A' n' c' bs, A = some ⟨b, off, none⟩ ∧ OpAt w b (off + k * 3) who tell A' n' c' bs) :
    Calls Try.prog 3 #[.slice A n c] w fun e w' => e = .returned (.bool true) ∧ Below w.heap.size w w' := by
  have HS := hide hs
  clear hs
  go_enter Try.func3, Try.ntmps3
  go_wp2_with (first
    | (go_at_call 13; refine (new_any _).mono ?_; rintro e w1 ⟨rfl, rfl⟩)
    | (go_at_call 14; refine (refNew_any _).mono ?_; rintro e w1 ⟨rfl, rfl⟩))
  obtain ⟨w0, hw0, h2, h3, hb0⟩ := two_start w
  rw [← hw0]
  have m1 : w.heap.size ≤ w.heap.size + 1 := by omega
  have m2 : w.heap.size ≤ w.heap.size + 1 + 1 + 1 := by omega
  have m3 : w.heap.size ≤ w.heap.size + 1 + 1 + 1 + 1 := by omega
  generalize w.heap.size + 1 + 1 + 1 + 1 + 1 = q0 at h2 h3 ⊢
  generalize w.heap.size + 1 + 1 + 1 + 1 = r1 at h2 h3 m3 ⊢
  generalize w.heap.size + 1 + 1 + 1 = r0 at h2 h3 m2 ⊢
  generalize w.heap.size + 1 + 1 = p0 at h2 h3 ⊢
  generalize w.heap.size + 1 = s1 at h2 h3 m1 ⊢
  have HB0 := hide hb0
  clear hw0 hb0
  go_loopg [5] n (fun g i wr => ∃ (k : Nat) (S : Nat → Nat) (L : Nat → Int), k + g = n ∧ i = .int .i64 (k : Int) ∧ SS wr w.heap.size s1 p0 S L ∧ RR wr r0 r1 q0 S L ∧ Below w.heap.size w wr)
  case atStart => exact ⟨0, _, _, by omega, rfl, h2, h3, unhide HB0⟩
  case round =>
    obtain ⟨k, S, L, hk, rfl, ht, hu, hb⟩ := hrel
    clear h2 h3 HB0
    by_cases hlt : k < n
    · obtain ⟨g, rfl⟩ : ∃ g, gk = g + 1 := ⟨gk - 1, by omega⟩
      obtain ⟨b, off, who, tell, A1, n1, c1, bs, rfl, ho⟩ := (unhide HS) k hlt
      have o1 : wr.cell? ⟨b, off + k * 3, none⟩ = some (.int .i64 who) := (hb.cell (p := ⟨b, off + k * 3, none⟩) ho.lt).trans ho.who
      have o2 : wr.cell? ⟨b, off + k * 3 + 1, none⟩ = some (.bool tell) := (hb.cell (p := ⟨b, off + k * 3 + 1, none⟩) ho.lt).trans ho.tell
      have o3 : wr.cell? ⟨b, off + k * 3 + 2, none⟩ = some (.slice A1 n1 c1) := (hb.cell (p := ⟨b, off + k * 3 + 2, none⟩) ho.lt).trans ho.data
      have hz := hb.size
      have HO := hide ho
      clear ho
      by_cases hw : 0 ≤ who ∧ who ≤ 2
      · obtain ⟨j, rfl⟩ := Int.eq_ofNat_of_zero_le hw.1
        have hj : j ≤ 2 := by omega
        have hj0 : ¬ ((j : Int) < 0) := by omega
        have hj1 : (j : Int) ≤ 2 := by omega
        obtain ⟨sp, hsp⟩ : ∃ sp, ptrOf w.heap.size s1 j = sp := ⟨_, rfl⟩
        obtain ⟨rp, hrp⟩ : ∃ rp, ptrOf r0 r1 j = rp := ⟨_, rfl⟩
        have P1 := fun W (h : SS W w.heap.size s1 p0 S L) => hide (hsp ▸ h.at_ hj)
        have Q1 := fun W (h : RR W r0 r1 q0 S L) => hide (hrp ▸ h.at_ hj)
        cases tell with
        | true =>
          have hT : ∀ o nq, Hid (Calls Try.prog 15 #[sp, rp] ((wr.alloc o).drewN nq) fun e w' => e = .returned (.bool true) ∧ (wr.alloc o).drewN nq = w') := fun o nq => by
            rw [← hsp, ← hrp]
            exact hide (tells_j (w := (wr.alloc o).drewN nq) j (ht.bel (below_drewN ((Below.refl _ _).alloc (Nat.le_refl _) o) nq)) (hu.bel (below_drewN ((Below.refl _ _).alloc (Nat.le_refl _) o) nq)))
          have hp : ∀ o, (wr.alloc o).cell? ⟨p0, j, none⟩ = some sp := fun o => unhide (P1 _ (ht.bel ((Below.refl _ _).alloc (Nat.le_refl _) o)))
          have hq : ∀ o, (wr.alloc o).cell? ⟨q0, j, none⟩ = some rp := fun o => unhide (Q1 _ (hu.bel ((Below.refl _ _).alloc (Nat.le_refl _) o)))
          have HT := hide ht
          have HU := hide hu
          have HB := hide hb
          clear ht hu hb P1 Q1 hsp hrp HS
          go_wp2
          go_quiet ((go_at_call 15; exact quiet_left (unhide (hT _ _))))
          go_wp2
          go_roundg g
          case rel => exact ⟨k + 1, S, L, by omega, by go_num, (unhide HT).bel (below_drewN ((Below.refl _ _).alloc (Nat.le_refl _) _) _), (unhide HU).bel (below_drewN ((Below.refl _ _).alloc (Nat.le_refl _) _) _), below_drewN ((unhide HB).alloc hz _) _⟩
          case measure => omega
        | false =>
          have hnext : SS wr w.heap.size s1 p0 S L ∧ RR wr r0 r1 q0 S L ∧ Below w.heap.size w wr := ⟨ht, hu, hb⟩
          have HN := hide hnext
          have P2 := hide P1
          have Q2 := hide Q1
          have HSP := Lib.hid hsp
          have HRP := Lib.hid hrp
          clear ht hu hb hnext P1 Q1 hsp hrp
          go_wp2_with fail
          obtain ⟨W, hW⟩ : ∃ W, W = wr.alloc (.cells #[.int .i64 (j : Int), .bool false, .slice A1 n1 c1] 31) := ⟨_, rfl⟩
          rw [← hW]
          have hbx : Blk W wr.heap.size 31 #[.int .i64 (j : Int), .bool false, .slice A1 n1 c1] := by rw [hW]; exact Blk.new _ _ _
          have hWb : Below wr.heap.size wr W := by rw [hW]; exact (Below.refl _ _).alloc (Nat.le_refl _) _
          have hWz : W.heap.size = wr.heap.size + 1 := by rw [hW]; simp
          have hRW : Reads W W.heap.size 1 A1 n1 (bs.map bv) := (((unhide HO).reads.below (unhide HN).2.2).more hz).below hWb |>.more hWb.size
          have hsm := (unhide HO).small
          clear hW o1 o2 o3
          refine (lent_any A1 n1 c1 bs W hRW hsm).mono ?_
          rintro e w1 ⟨g2, cap2, rfl, hcap, hg2, hown, hb1⟩
          -- what stands behind lent
          have hS1 := ((unhide HN).1.bel hWb).bel hb1
          have hR1 := ((unhide HN).2.1.bel hWb).bel hb1
          have hx1 := hbx.below hb1 hbx.lt
          have hz1 := hb1.size
          have hRd1 := (hRW.below hb1).more hb1.size
          have q1 := unhide (unhide Q2 w1 hR1)
          have b0 : w1.cell? ⟨wr.heap.size, 0, none⟩ = some (.int .i64 (j : Int)) := hx1.cell 0
          have b2 : w1.cell? ⟨wr.heap.size, 2, none⟩ = some (.slice A1 n1 c1) := hx1.cell 2
          have hWr := hide (rsWrite_j (w := w1.drew) j (hR1.bel (Below.refl _ _).drew) bs A1 n1 c1 w1.heap.size hRd1.drew (by omega) (Nat.le_refl _))
          rw [HRP.out] at hWr
          have K1 : Hid (SS w1 w.heap.size s1 p0 S L ∧ RR w1 r0 r1 q0 S L ∧ Blk w1 wr.heap.size 31 #[.int .i64 (j : Int), .bool false, .slice A1 n1 c1] ∧ Reads w1 w1.heap.size 1 A1 n1 (bs.map bv) ∧ Below wr.heap.size wr w1 ∧
            w1.ownsRow W.heap.size 5 1 (.slice (some ⟨g2, 0, none⟩) (n1 + 5 : Nat) cap2) (n1 + 5) ((bs ++ mk 5).map bv)) := ⟨hS1, hR1, hx1, hRd1, hWb.trans (hb1.mono hWb.size), hown⟩
          clear hS1 hR1 hx1 hRd1 hown hb1 hRW hWb hbx
          have hj2 : (0 : Int) ≤ (j : Int) := by omega
          have hj3 : (j : Int) < 3 := by omega
          go_wp2_with fail
          go_region_held3 (fun w' => w'.cell? ⟨q0, j, none⟩ = some rp ∧ w'.cell? ⟨wr.heap.size, 0, none⟩ = some (.int .i64 (j : Int)) ∧ w'.cell? ⟨wr.heap.size, 2, none⟩ = some (.slice A1 n1 c1)) (first | go_keep) ((first
            | (go_at_call 17
               refine (unhide hWr).mono ?_
               rintro e w2 ⟨rfl, hR2, hc2⟩
               have hr0 := (unhide HN).2.1.b0.lt
               have hr1 := (unhide HN).2.1.b1.lt
               have hx2 : Blk w2 wr.heap.size 31 #[.int .i64 (j : Int), .bool false, .slice A1 n1 c1] := hc2.blk (w := w1.drew) K1.out.2.2.1.drew (by omega)
               have d0 : w2.cell? ⟨wr.heap.size, 0, none⟩ = some (.int .i64 (j : Int)) := hx2.cell 0
               have d2 : w2.cell? ⟨wr.heap.size, 2, none⟩ = some (.slice A1 n1 c1) := hx2.cell 2
               have dq : w2.cell? ⟨q0, j, none⟩ = some rp := by rw [← HRP.out]; exact hR2.at_ hj
               have hs1 := K1.out.1
               have hrr := K1.out.2.1
               have hS2 : SS w2 w.heap.size s1 p0 S L := (hs1.bel (Below.refl _ _).drew).chg hc2 (by
                   rintro (e | e)
                   · exact hs1.b0.ne_ hrr.b0 (by decide) e
                   · exact hs1.b0.ne_ hrr.b1 (by decide) e) (by
                   rintro (e | e)
                   · exact hs1.b1.ne_ hrr.b0 (by decide) e
                   · exact hs1.b1.ne_ hrr.b1 (by decide) e) (by
                   rintro (e | e)
                   · exact hs1.bp.ne_ hrr.b0 (by decide) e
                   · exact hs1.bp.ne_ hrr.b1 (by decide) e)
               have dp : w2.cell? ⟨p0, j, none⟩ = some sp := by rw [← HSP.out]; exact hS2.at_ hj
               have hown2 : w2.ownsRow W.heap.size 5 1 (.slice (some ⟨g2, 0, none⟩) (n1 + 5 : Nat) cap2) (n1 + 5) ((bs ++ mk 5).map bv) := hc2.own (w := w1.drew) K1.out.2.2.2.2.2.drew (by
                   intro i hi e
                   cases hi
                   have e' : g2 = r0 ∨ g2 = r1 := e
                   omega)
               have hlen : bs.length = n1 := by have := (unhide HO).reads.1; simpa using this
               have hWs := hide (stWrite_j j hS2 bs (some ⟨g2, 0, none⟩) n1 cap2 w2.heap.size ((Reads.of_own hown2).front hlen) (by omega) (Nat.le_refl _))
               rw [HSP.out] at hWs
               have K2 : Hid (SS w2 w.heap.size s1 p0 S L ∧ RR w2 r0 r1 q0 (stepS S j bs) (stepL L j n1) ∧ Blk w2 wr.heap.size 31 #[.int .i64 (j : Int), .bool false, .slice A1 n1 c1] ∧
                   w2.ownsRow W.heap.size 5 1 (.slice (some ⟨g2, 0, none⟩) (n1 + 5 : Nat) cap2) (n1 + 5) ((bs ++ mk 5).map bv) ∧ Below w.heap.size w w2 ∧ wr.heap.size + 1 ≤ w2.heap.size) :=
                 ⟨hS2, hR2, hx2, hown2, ((unhide HN).2.2.trans (K1.out.2.2.2.2.1.mono hz)).drew.trans (hc2.below (B := w.heap.size) (w := w1.drew) (Nat.le_trans hz K1.out.2.2.2.2.1.size) (by intro i hi e; omega)), by have := hx2.lt; omega⟩
               clear hc2 hR2 hx2 hs1 hrr hS2 hown2 hlen)))
          go_wp2_with fail
          refine (unhide hWs).mono ?_
          rintro e w3 ⟨rfl, hS3, hc3⟩
          have hs2 := K2.out.1
          have hr2 := K2.out.2.1
          have hlen : bs.length = n1 := by have := (unhide HO).reads.1; simpa using this
          have hR3 : RR w3 r0 r1 q0 (stepS S j bs) (stepL L j n1) := hr2.chg hc3 (by
                   rintro (e | e)
                   · exact hr2.b0.ne_ hs2.b0 (by decide) e
                   · exact hr2.b0.ne_ hs2.b1 (by decide) e) (by
                   rintro (e | e)
                   · exact hr2.b1.ne_ hs2.b0 (by decide) e
                   · exact hr2.b1.ne_ hs2.b1 (by decide) e) (by
                   rintro (e | e)
                   · exact hr2.bp.ne_ hs2.b0 (by decide) e
                   · exact hr2.bp.ne_ hs2.b1 (by decide) e)
          have hss0 := (unhide HN).1.b0.lt
          have hss1 := (unhide HN).1.b1.lt
          have hss2 := (unhide HN).1.bp.lt
          have hss3 := (unhide HN).2.1.b0.lt
          have hss4 := (unhide HN).2.1.b1.lt
          have hss5 := (unhide HN).2.1.bp.lt
          have hx3 : Blk w3 wr.heap.size 31 #[.int .i64 (j : Int), .bool false, .slice A1 n1 c1] := hc3.blk K2.out.2.2.1 (by omega)
          have hown3 : w3.ownsRow W.heap.size 5 1 (.slice (some ⟨g2, 0, none⟩) (n1 + 5 : Nat) cap2) (n1 + 5) ((bs ++ mk 5).map bv) := hc3.own K2.out.2.2.2.1 (by
                   intro i hi e
                   cases hi
                   have e' : g2 = w.heap.size ∨ g2 = s1 := e
                   omega)
          have hb3 : Below w.heap.size w w3 := K2.out.2.2.2.2.1.trans (hc3.below (B := w.heap.size) K2.out.2.2.2.2.1.size (by intro i hi e; omega))
          have c2 : w3.cell? ⟨wr.heap.size, 2, none⟩ = some (.slice A1 n1 c1) := hx3.cell 2
          have hK := hide (kept_any A1 g2 n1 cap2 n1 c1 w3.heap.size bs bs w3 hlen hcap (Reads.of_own hown3) (((unhide HO).reads.below hb3).more hb3.size) (by omega) (Nat.le_refl _))
          rw [show (bs == bs) = true by simp] at hK
          have hz3 : wr.heap.size + 1 ≤ w3.heap.size := Nat.le_trans K2.out.2.2.2.2.2 hc3.size
          have K3 : Hid (SS w3 w.heap.size s1 p0 (stepS S j bs) (stepL L j n1) ∧ RR w3 r0 r1 q0 (stepS S j bs) (stepL L j n1) ∧ w3.ownsRow W.heap.size 5 1 (.slice (some ⟨g2, 0, none⟩) (n1 + 5 : Nat) cap2) (n1 + 5) ((bs ++ mk 5).map bv) ∧ Below w.heap.size w w3) := ⟨hS3, hR3, hown3, hb3⟩
          clear hS3 hR3 hown3 hb3 hx3 hs2 hr2 hc3 K2 K1 hWr hWs HN P2 Q2
          go_wp2_with (first
            | (go_at_call 19; refine (num_any _ _).mono ?_; rintro e w4 ⟨rfl, rfl⟩)
            | (go_at_call 20; refine (unhide hK).mono ?_; rintro e w4 ⟨rfl, hb4⟩))
          have K4 : Hid (SS w4 w.heap.size s1 p0 (stepS S j bs) (stepL L j n1) ∧ RR w4 r0 r1 q0 (stepS S j bs) (stepL L j n1) ∧ Below w.heap.size w w4) := ⟨K3.out.1.bel hb4, K3.out.2.1.bel hb4, K3.out.2.2.2.trans (hb4.mono K3.out.2.2.2.size)⟩
          have hown4 : w4.ownsRow W.heap.size 5 1 (.slice (some ⟨g2, 0, none⟩) (n1 + 5 : Nat) cap2) (n1 + 5) ((bs ++ mk 5).map bv) := (Chg.of_below hb4 (fun _ => False)).own K3.out.2.2.1 (fun _ _ h => h)
          have hlb : (bs ++ mk 5).length = n1 + 5 := by simp [hlen, mk_len]
          clear K3 hb4 hK HS HO
          obtain ⟨wo, rfl⟩ : ∃ wo : World, wo = wr := ⟨_, rfl⟩
          go_loopg [10] n1 (fun q i wx => ∃ (m : Nat) (zs : List UInt8), m + q = n1 ∧ i = .int .i64 (m : Int) ∧ zs.length = n1 + 5 ∧ wx.ownsRow W.heap.size 5 1 (.slice (some ⟨g2, 0, none⟩) (n1 + 5 : Nat) cap2) (n1 + 5) (zs.map bv) ∧ w4.grownBy wx (some g2))
          case atStart => exact ⟨0, bs ++ mk 5, by omega, rfl, hlb, hown4, World.grownBy.refl _ _⟩
          case round =>
            obtain ⟨m, zs, hm, rfl, hzl, hoz, hgz⟩ := hrel
            clear hown4 hlb
            by_cases hmn : m < n1
            · obtain ⟨q, rfl⟩ : ∃ q, gk = q + 1 := ⟨gk - 1, by omega⟩
              obtain ⟨d, hd⟩ : ∃ d, zs[m]? = some d := ⟨_, List.getElem?_eq_getElem (by omega)⟩
              have hcz : wr.cell? ⟨g2, m, none⟩ = some (.int .u8 (d.toNat : Int)) := by rw [hoz.cellAt m (by omega), List.getElem?_map, hd]; rfl
              have hfz : wr.frozen? ⟨g2, m, none⟩ = false := hoz.frozenAt m
              have HZ := hide (hoz.stored m (.int .u8 (((d.toNat : Int) + 1) % 256)))
              have HX : Hid ((zs.map bv).set m (.int .u8 (((d.toNat : Int) + 1) % 256)) = (zs.set m (UInt8.ofNat ((d.toNat + 1) % 256))).map bv) := by
                show _ = _
                rw [show ((d.toNat : Int) + 1) % 256 = (((d.toNat + 1) % 256 : Nat) : Int) by omega, bv_nat _ (by omega), ← List.map_set]
              have HG := hide hgz
              clear hoz hgz hd
              go_wp2
              go_roundg q
              case rel => exact ⟨m + 1, zs.set m (UInt8.ofNat ((d.toNat + 1) % 256)), by omega, by go_num, by simpa using hzl, by rw [← HX.out]; exact (unhide HZ).1, grownBy_trans (unhide HG) (unhide HZ).2 (.inl rfl)⟩
              case measure => omega
            · have HG := hide hgz
              clear hoz hgz
              go_wp2
              go_roundg g
              case rel =>
                have hg := Chg.of_grown (unhide HG)
                have a1 := K4.out.1.b0.lt
                have hgw : w.heap.size ≤ g2 := by omega
                refine ⟨k + 1, stepS S j bs, stepL L j n1, by omega, by go_num, K4.out.1.chg hg ?_ ?_ ?_, K4.out.2.1.chg hg ?_ ?_ ?_, K4.out.2.2.grown (unhide HG) K4.out.2.2.size (fun _ hi => by cases hi; exact hgw)⟩
                all_goals (intro e; injection e with e; omega)
              case measure => omega
      · have HT := hide ht
        have HU := hide hu
        have HB := hide hb
        clear ht hu hb HS
        have hw' : who < 0 ∨ 2 < who := by omega
        clear hw
        rcases hw' with hw | hw
        all_goals
          go_wp2
          go_roundg g
          case rel => exact ⟨k + 1, S, L, by omega, by go_num, (unhide HT).bel ((Below.refl _ _).alloc (Nat.le_refl _) _), (unhide HU).bel ((Below.refl _ _).alloc (Nat.le_refl _) _), (unhide HB).alloc hz _⟩
          case measure => omega
    · have p_ : ∀ j, j ≤ 2 → wr.cell? ⟨p0, j, none⟩ = some (ptrOf w.heap.size s1 j) := fun j hj => ht.at_ hj
      have q_ : ∀ j, j ≤ 2 → wr.cell? ⟨q0, j, none⟩ = some (ptrOf r0 r1 j) := fun j hj => hu.at_ hj
      have e0 : wr.cell? ⟨p0, 0, none⟩ = some (.pointer (some ⟨w.heap.size, 0, none⟩)) := p_ 0 (by omega)
      have e1 : wr.cell? ⟨p0, 1, none⟩ = some (.pointer (some ⟨s1, 0, none⟩)) := p_ 1 (by omega)
      have e2 : wr.cell? ⟨p0, 2, none⟩ = some (.pointer none) := p_ 2 (by omega)
      have f0 : wr.cell? ⟨q0, 0, none⟩ = some (.pointer (some ⟨r0, 0, none⟩)) := q_ 0 (by omega)
      have f1 : wr.cell? ⟨q0, 1, none⟩ = some (.pointer (some ⟨r1, 0, none⟩)) := q_ 1 (by omega)
      have f2 : wr.cell? ⟨q0, 2, none⟩ = some (.pointer none) := q_ 2 (by omega)
      have T0 := fun m => hide (tells_any _ _ _ _ _ (ht.b0.drewN m) (hu.b0.drewN m))
      have T1 := fun m => hide (tells_any _ _ _ _ _ (ht.b1.drewN m) (hu.b1.drewN m))
      have HB := hide hb
      clear p_ q_ ht hu hb HS
      go_wp2
      go_quiet ((first
        | (go_at_call 15; with_reducible exact quiet_left (unhide (T0 _)))
        | (go_at_call 15; with_reducible exact quiet_left (unhide (T1 _)))
        | (go_at_call 15; with_reducible exact quiet_add_left (unhide (T0 _)))
        | (go_at_call 15; with_reducible exact quiet_add_left (unhide (T1 _)))
        | (go_at_call 15; with_reducible exact quiet_left (tells_nil _))
        | (go_at_call 15; with_reducible exact quiet_add_left (tells_nil _))))
      go_wp2
      go_ret
      exact ⟨rfl, below_drewN (unhide HB) _⟩
end Go.Proofs.Ytoipkpndfgcmcaa

/-
  CheckSums: Sum, Update, Join, Seal and Whole of whatever is handed in are the document's: the law's walk. Condition: fewer than 2^47 bytes.
-/
namespace Go.Proofs.Ytoipkpndfgcmcaa
open Go.RowKit

theorem own_capA {w : World} {B n c N : Nat} {A : Option Addr} {e : TypeId} {xs : List Value} (h : w.ownsRow B e 1 (.slice A n c) N xs) : n ≤ c := by
  rcases h.2 with ⟨h', _⟩ | ⟨g', cap', cur, h', _, _, hn, _⟩
  · cases h'
    exact Nat.le_refl _
  · cases h'
    exact hn

theorem whole_sealed (bs : List UInt8) : whole (sealed bs) = true := by
  have h : (sealed bs).length = bs.length + 4 := by simp [sealed, le4_len]
  rw [whole_long h]
  simp [sealed]

theorem joins (a b : Nat) (k : Int) (ha : a < U32) (hb : b < U32) (_h1 : -9223372036854775808 ≤ k) (h2 : k ≤ 9223372036854775807) :
    ∃ J F : Int, (∀ w, Calls Try.prog 33 #[.int .u32 (a : Int), .int .u32 (b : Int), .int .i64 k] w fun e w' => e = .returned (.tuple #[.int .u32 J, .int .i64 F]) ∧ Below w.heap.size w w')
      ∧ (∀ w, Calls Try.prog 32 #[.int .u32 (a : Int), .int .u32 (b : Int), .int .i64 k] w fun e w' => e = .returned (.tuple #[.int .u32 J, .int .i64 F]) ∧ Below w.heap.size w w') := by
  by_cases hk : k < 0
  · exact ⟨0, 2, fun w => (join_neg a b k w hk).mono (by rintro e w' ⟨rfl, rfl⟩; exact ⟨rfl, Below.refl _ _⟩), fun w => (refJoin_neg a b k w hk).mono (by rintro e w' ⟨rfl, rfl⟩; exact ⟨rfl, Below.refl _ _⟩)⟩
  · obtain ⟨m, rfl⟩ := Int.eq_ofNat_of_zero_le (by omega : 0 ≤ k)
    exact ⟨_, _, fun w => join_any a b m w ha hb (by omega), fun w => refJoin_any a b m w ha hb (by omega)⟩

set_option maxRecDepth 100000 in
set_option maxHeartbeats 1600000 in
theorem checkSums_walk (A : Option Addr) (n c : Nat) (bs : List UInt8) (a : Nat) (k : Int) (w : World) (hr : Reads w w.heap.size 1 A n (bs.map bv)) (hn : n ≤ 140737488351232) (hnc : n ≤ c) (ha : a < U32) (h1 : -9223372036854775808 ≤ k) (h2 : k ≤ 9223372036854775807) :
    Calls Try.prog 5 #[.slice A n c, .int .u32 (a : Int), .int .i64 k] w fun e w' => e = .returned (.bool true) ∧ Below w.heap.size w w' := by
  have hlen : bs.length = n := by have := hr.1; simpa using this
  have hL := hide (lent_any A n c bs w hr hn)
  obtain ⟨J, F, hj, hj'⟩ := joins a (upd 0 bs) k ha (upd_lt (by decide) _) h1 h2
  have HJ := fun w => hide (hj w)
  have HJ' := fun w => hide (hj' w)
  clear hj hj' h1 h2
  have HNum := fun x w => hide (num_any x w)
  have HR := hide hr
  clear hr
  go_enter Try.func5, Try.ntmps5
  go_wp2_with (go_at_call 16; refine (unhide hL).mono ?_; rintro e w1 ⟨g, cap, rfl, hcap, hg, hown, hb1⟩)
  obtain ⟨z, hz⟩ : ∃ z, upd 0 bs = z := ⟨_, rfl⟩
  obtain ⟨y, hy⟩ : ∃ y, upd a bs = y := ⟨_, rfl⟩
  obtain ⟨wb, hwb⟩ : ∃ b, whole bs = b := ⟨_, rfl⟩
  obtain ⟨sl, hsl⟩ : ∃ b, sealed bs = b := ⟨_, rfl⟩
  have hsll : sl.length = n + 4 := by rw [← hsl, ← hlen]; simp [sealed, le4_len]
  have hws : whole sl = true := by rw [← hsl]; exact whole_sealed bs
  have r1 := (unhide HR).below hb1
  have r2 := Reads.of_own hown
  have s1 := hb1.size
  have hgl : g < w1.heap.size := by
    obtain ⟨ad, e, hb, _⟩ := r2.2 (by omega)
    injection e with e
    subst e
    exact hb
  have hin : ∀ w', Below w1.heap.size w1 w' → Reads w' w1.heap.size 1 (some ⟨g, 0, none⟩) (n + 5) ((bs ++ mk 5).map bv) := fun w' h => r2.below h
  have hbb : ∀ w', Below w1.heap.size w1 w' → Reads w' w.heap.size 1 A n (bs.map bv) := fun w' h => r1.below (h.mono s1)
  have cSum : ∀ w', Below w1.heap.size w1 w' → Hid (Calls Try.prog 24 #[.slice (some ⟨g, 0, none⟩) n cap] w' fun e w2 => e = .returned (.int .u32 (z : Int)) ∧ Below w1.heap.size w1 w2) := fun w' h => hide <| by
    rw [← hz]; exact (sum_any bs _ n cap w1.heap.size w' ((hin w' h).front hlen) (by omega) h.size).mono fun e w2 ⟨he, hb⟩ => ⟨he, h.trans (hb.mono h.size)⟩
  have cUpd : ∀ w', Below w1.heap.size w1 w' → Hid (Calls Try.prog 26 #[.int .u32 (a : Int), .slice (some ⟨g, 0, none⟩) n cap] w' fun e w2 => e = .returned (.int .u32 (y : Int)) ∧ Below w1.heap.size w1 w2) := fun w' h => hide <| by
    rw [← hy]; exact (update_any a bs _ n cap w1.heap.size w' ha ((hin w' h).front hlen) (by omega) h.size).mono fun e w2 ⟨he, hb⟩ => ⟨he, h.trans (hb.mono h.size)⟩
  have cWh : ∀ w', Below w1.heap.size w1 w' → Hid (Calls Try.prog 28 #[.slice (some ⟨g, 0, none⟩) n cap] w' fun e w2 => e = .returned (.bool wb) ∧ Below w1.heap.size w1 w2) := fun w' h => hide <| by
    rw [← hwb]; exact (whole_any _ n cap w1.heap.size bs w' ((hin w' h).front hlen) (by omega) h.size (by omega)).mono fun e w2 ⟨he, hb⟩ => ⟨he, h.trans (hb.mono h.size)⟩
  have cSeal : ∀ w', Below w1.heap.size w1 w' → Hid (Calls Try.prog 30 #[.slice (some ⟨g, 0, none⟩) n cap] w' fun e w2 => ∃ v, e = .returned v ∧ w2.ownsRow w'.heap.size 5 1 v (n + 4) (sl.map bv) ∧ Below w1.heap.size w1 w2 ∧ Below w'.heap.size w' w2) := fun w' h => hide <| by
    rw [← hsl]; exact (seal_any _ n cap w1.heap.size bs w' ((hin w' h).front hlen) (by omega) h.size).mono fun e w2 ⟨v, he, ho, hb⟩ => ⟨v, he, ho, h.trans (hb.mono h.size), hb⟩
  have rSum : ∀ w', Below w1.heap.size w1 w' → Hid (Calls Try.prog 25 #[.slice A n c] w' fun e w2 => e = .returned (.int .u32 (z : Int)) ∧ w' = w2) := fun w' h => hide <| by
    rw [← hz]; exact refSum_any bs _ n c w.heap.size w' (hbb w' h) (by omega)
  have rUpd : ∀ w', Below w1.heap.size w1 w' → Hid (Calls Try.prog 27 #[.int .u32 (a : Int), .slice A n c] w' fun e w2 => e = .returned (.int .u32 (y : Int)) ∧ w' = w2) := fun w' h => hide <| by
    rw [← hy]; exact refUpdate_any a bs _ n c w.heap.size w' ha (hbb w' h) (by omega)
  have rWh : ∀ w', Below w1.heap.size w1 w' → Hid (Calls Try.prog 29 #[.slice A n c] w' fun e w2 => e = .returned (.bool wb) ∧ Below w1.heap.size w1 w2) := fun w' h => hide <| by
    rw [← hwb]; exact (refWhole_any _ n c w.heap.size bs w' (hbb w' h) (by omega) (Nat.le_trans s1 h.size) hnc).mono fun e w2 ⟨he, hb⟩ => ⟨he, h.trans (hb.mono h.size)⟩
  have rSeal : ∀ w', Below w1.heap.size w1 w' → Hid (Calls Try.prog 31 #[.slice A n c] w' fun e w2 => ∃ v, e = .returned v ∧ w2.ownsRow w'.heap.size 5 1 v (n + 4) (sl.map bv) ∧ Below w1.heap.size w1 w2 ∧ Below w'.heap.size w' w2) := fun w' h => hide <| by
    rw [← hsl]; exact (refSeal_any _ n c w.heap.size bs w' (hbb w' h) (by omega) (Nat.le_trans s1 h.size)).mono fun e w2 ⟨v, he, ho, hb⟩ => ⟨v, he, ho, h.trans (hb.mono h.size), hb⟩
  have cKept : ∀ w', Below w1.heap.size w1 w' → Hid (Calls Try.prog 20 #[.slice (some ⟨g, 0, none⟩) n cap, .slice A n c] w' fun e w2 => e = .returned (.bool true) ∧ Below w1.heap.size w1 w2) := fun w' h => hide <| by
    refine (kept_any A g n cap n c w1.heap.size bs bs w' hlen hcap (hin w' h) ((hbb w' h).more s1) (by omega) h.size).mono fun e w2 ⟨he, hb⟩ => ⟨?_, h.trans (hb.mono h.size)⟩
    rw [he]; simp
  have HB0 : Hid (Below w1.heap.size w1 w1) := hide (Below.refl _ _)
  have Hb1 := hide hb1
  rw [hz] at HJ HJ'
  clear r1 r2 hown hb1 hin hbb hsl hz hy hwb hL HR
  go_wp2_with (go_at_call 24; refine (unhide (cSum _ (unhide HB0))).mono ?_; rintro e w2 ⟨rfl, hb2⟩)
  have HB2 := hide hb2
  clear hb2
  go_wp2_with (go_at_call 25; refine (unhide (rSum _ (unhide HB2))).mono ?_; rintro e w3 ⟨rfl, rfl⟩)
  go_wp2_with (go_at_call 26; refine (unhide (cUpd _ (unhide HB2))).mono ?_; rintro e w3 ⟨rfl, hb3⟩)
  have HB3 := hide hb3
  clear hb3
  go_wp2_with (go_at_call 27; refine (unhide (rUpd _ (unhide HB3))).mono ?_; rintro e w4 ⟨rfl, rfl⟩)
  go_wp2_with (go_at_call 28; refine (unhide (cWh _ (unhide HB3))).mono ?_; rintro e w4 ⟨rfl, hb4⟩)
  have HB4 := hide hb4
  clear hb4
  have hbne : (wb != wb) = false := by simp
  go_wp2_with (go_at_call 29; refine (unhide (rWh _ (unhide HB4))).mono ?_; rintro e w5 ⟨rfl, hb5⟩)
  have HB5 := hide hb5
  clear hb5
  go_wp2_with (go_at_call 30; refine (unhide (cSeal _ (unhide HB5))).mono ?_; rintro e w6 ⟨v6, rfl, ho6, hb6, hc6⟩)
  obtain ⟨A6, c6, rfl⟩ := ho6.shape
  have HB6 := hide hb6
  have HO6 := hide ho6
  clear ho6 hb6 hc6
  go_wp2_with (go_at_call 31; refine (unhide (rSeal _ (unhide HB6))).mono ?_; rintro e w7 ⟨v7, rfl, ho7, hb7, hc7⟩)
  obtain ⟨A7, c7, rfl⟩ := ho7.shape
  have q6 := (Reads.of_own (unhide HO6)).below hc7
  have q7 := Reads.of_own ho7
  have hnc6 : n + 4 ≤ c6 := own_capA (unhide HO6)
  have cSame := hide (same_any A6 A7 (n + 4 : Nat) c6 (n + 4 : Nat) c7 sl sl w7 w7.heap.size (q6.more hc7.size) q7 (by omega) (Nat.le_refl _))
  have cW6 := fun w' (h : Below w7.heap.size w7 w') => hide (whole_any A6 (n + 4 : Nat) c6 w6.heap.size sl w' (q6.below (h.mono hc7.size)) (by omega) (Nat.le_trans hc7.size h.size) hnc6)
  rw [show (sl == sl) = true by simp] at cSame
  rw [hws] at cW6
  have HB7 := hide hb7
  clear ho7 hb7 hc7 q6 q7 HO6
  go_wp2_with (go_at_call 23; refine (unhide (cSame)).mono ?_; rintro e w8 ⟨rfl, hb8⟩)
  have HC8 := hide hb8
  have HB8 := hide ((unhide HB7).trans (hb8.mono (unhide HB7).size))
  clear hb8
  go_wp2_with (go_at_call 28; refine (unhide (cW6 _ (unhide HC8))).mono ?_; rintro e w9 ⟨rfl, hb9⟩)
  have HB9 := hide ((unhide HB8).trans (hb9.mono (unhide HB8).size))
  clear hb9
  go_wp2_with (go_at_call 20; refine (unhide (cKept _ (unhide HB9))).mono ?_; rintro e w10 ⟨rfl, hb10⟩)
  have HB10 := hide hb10
  clear hb10
  go_wp2_with (go_at_call 25; refine (unhide (rSum _ (unhide HB10))).mono ?_; rintro e w11 ⟨rfl, rfl⟩)
  go_wp2_with (go_at_call 32; refine (unhide (HJ' _)).mono ?_; rintro e w11 ⟨rfl, hb11⟩)
  have HB11 := hide ((unhide HB10).trans (hb11.mono (unhide HB10).size))
  clear hb11
  go_wp2_with (go_at_call 24; refine (unhide (cSum _ (unhide HB11))).mono ?_; rintro e w12 ⟨rfl, hb12⟩)
  have HB12 := hide hb12
  clear hb12
  go_wp2_with (go_at_call 33; refine (unhide (HJ _)).mono ?_; rintro e w13 ⟨rfl, hb13⟩)
  have HB13 := hide ((unhide HB12).trans (hb13.mono (unhide HB12).size))
  clear hb13
  go_wp2_with (go_at_call 19; refine (unhide (HNum _ _)).mono ?_; rintro e w14 ⟨rfl, rfl⟩)
  go_ret
  exact ⟨rfl, (unhide Hb1).trans ((unhide HB13).mono s1)⟩
end Go.Proofs.Ytoipkpndfgcmcaa

/-
  awake of law 02: the chapter's examples; its walk. Condition: none.
-/
namespace Go.Proofs.Ytoipkpndfgcmcaa
open Go.RowKit

def nineB : List UInt8 := [49, 50, 51, 52, 53, 54, 55, 56, 57]
theorem add0 (b o j : Nat) : (⟨b, o, none⟩ : Addr).add j = ⟨b, o + j, none⟩ := by unfold Addr.add; split <;> simp_all
theorem reads_mark (w : World) (e : TypeId) (cs : Array Value) (fr : Nat × Nat) (n : Nat) (hn : cs.size = n) (xs : List Value) (hx : cs.toList = xs) : Reads (w.alloc (.cells cs e fr)) (w.heap.size + 1) 1 (some ⟨w.heap.size, 0, none⟩) n xs := by
  subst hn hx
  refine ⟨by simp, fun _ => ⟨_, rfl, by simp, fun j u hu => ?_⟩⟩
  have : (⟨w.heap.size, 0, none⟩ : Addr).add j = ⟨w.heap.size, j, none⟩ := by rw [add0, Nat.zero_add]
  rw [this, World.cell?_alloc_mark]
  simpa using hu
set_option maxRecDepth 100000 in
set_option maxHeartbeats 800000 in
theorem nine_any (w : World) : Calls Try.prog 41 #[] w fun e w' => e = .returned (.slice (some ⟨w.heap.size, 0, none⟩) 9 9) ∧ Reads w' (w.heap.size + 1) 1 (some ⟨w.heap.size, 0, none⟩) 9 (nineB.map bv) ∧ Below w.heap.size w w' ∧ w.heap.size + 1 ≤ w'.heap.size := by
  have hc := fun C => Lib.run_convert_bytes_const (P := Try.prog) w 29 5 C 9 9 Try.underlying29 Try.underlying5
  go_enter Try.func41, Try.ntmps41
  go_wp2
  go_ret
  exact ⟨rfl, reads_mark w _ _ _ 9 rfl _ rfl, (Below.refl _ _).alloc (Nat.le_refl _) _, by simp⟩

theorem Reads.after {w : World} {B n k : Nat} {b o : Nat} {xs : List UInt8} (h : Reads w B 1 (some ⟨b, o, none⟩) (k + n) (xs.map bv)) : Reads w B 1 (some ⟨b, o + k, none⟩) n ((xs.drop k).map bv) := by
  refine ⟨by have := h.1; simp at this ⊢; omega, fun hn => ?_⟩
  obtain ⟨ad, e, hb, hc⟩ := h.2 (by omega)
  injection e with e
  subst e
  refine ⟨_, rfl, hb, fun j u hu => ?_⟩
  rw [List.map_drop, List.getElem?_drop] at hu
  have := hc _ _ hu
  rw [add0] at this ⊢
  rw [Nat.add_assoc]
  exact this

theorem nine_join : jn (upd 0 (nineB.take 4)) (upd 0 (nineB.drop 4)) 5 = 3421780262 := by decide +kernel
theorem nine_sum : upd 0 nineB = 3421780262 := by decide +kernel
theorem zero_sum : upd 0 [0] = 3523407757 := by decide +kernel

set_option maxRecDepth 100000 in
set_option maxHeartbeats 800000 in
theorem awake_any (w : World) : Calls Try.prog 34 #[] w fun e w' => e = .returned (.bool true) ∧ Below w.heap.size w w' := by
  have hN := fun w => hide (nine_any w)
  have hNum := fun x w => hide (num_any x w)
  obtain ⟨s1, hs1⟩ : ∃ s, upd 0 (nineB.take 4) = s := ⟨_, rfl⟩
  obtain ⟨s2, hs2⟩ : ∃ s, upd 0 (nineB.drop 4) = s := ⟨_, rfl⟩
  have hl1 : s1 < U32 := hs1 ▸ upd_lt (by decide) _
  have hl2 : s2 < U32 := hs2 ▸ upd_lt (by decide) _
  have hj := nine_join
  rw [hs1, hs2] at hj
  have HJ := Lib.hid hj
  have HS1 := Lib.hid hs1
  have HS2 := Lib.hid hs2
  clear hj hs1 hs2
  go_enter Try.func34, Try.ntmps34
  go_wp2_with (go_at_call 41; refine (unhide (hN _)).mono ?_; rintro e w1 ⟨rfl, hr1, hb1, hz1⟩)
  have HS := hide (sum_any (nineB.take 4) (some ⟨w.heap.size, 0, none⟩) 4 9 (w.heap.size + 1) w1 (hr1.upto_ (by omega)) (by omega) hz1)
  have HB1 := hide hb1
  rw [HS1.out] at HS
  clear hr1 hb1
  go_wp2_with (go_at_call 24; refine (unhide HS).mono ?_; rintro e w2 ⟨rfl, hb2⟩)
  have HB2 := hide ((unhide HB1).trans (hb2.mono (unhide HB1).size))
  clear hb2 HS
  go_wp2_with (go_at_call 41; refine (unhide (hN _)).mono ?_; rintro e w3 ⟨rfl, hr3, hb3, hz3⟩)
  have HS := hide (sum_any (nineB.drop 4) (some ⟨w2.heap.size, 0 + 4, none⟩) 5 5 (w2.heap.size + 1) w3 (hr3.after (k := 4) (n := 5)) (by omega) hz3)
  have HB3 := hide ((unhide HB2).trans (hb3.mono (unhide HB2).size))
  rw [HS2.out] at HS
  clear hr3 hb3
  go_wp2_with (go_at_call 24; refine (unhide HS).mono ?_; rintro e w4 ⟨rfl, hb4⟩)
  have HB4 := hide ((unhide HB3).trans (hb4.mono (unhide HB3).size))
  clear hb4 HS
  have HJN := hide (join_any s1 s2 5 w4 hl1 hl2 (by omega))
  rw [HJ.out] at HJN
  go_wp2_with (go_at_call 33; refine (unhide HJN).mono ?_; rintro e w5 ⟨rfl, hb5⟩)
  have HB5 := hide ((unhide HB4).trans (hb5.mono (unhide HB4).size))
  clear hb5 HJN
  go_wp2_with (go_at_call 41; refine (unhide (hN _)).mono ?_; rintro e w6 ⟨rfl, hr6, hb6, hz6⟩)
  have HS := hide (sum_any nineB (some ⟨w5.heap.size, 0, none⟩) 9 9 (w5.heap.size + 1) w6 hr6 (by omega) hz6)
  have HB6 := hide ((unhide HB5).trans (hb6.mono (unhide HB5).size))
  rw [nine_sum] at HS
  clear hr6 hb6
  go_wp2_with (go_at_call 24; refine (unhide HS).mono ?_; rintro e w7 ⟨rfl, hb7⟩)
  have HB7 := hide ((unhide HB6).trans (hb7.mono (unhide HB6).size))
  clear hb7 HS
  go_wp2_with fail
  have hlit := reads_lit w7 _ rfl 5 #[.int .u8 0] 1 rfl ([0].map bv) rfl
  have HS := hide (sum_any [0] (some ⟨w7.heap.size, 0, none⟩) 1 1 (w7.heap.size + 1) _ hlit (by omega) (by simp))
  have HB8 := hide ((unhide HB7).alloc (unhide HB7).size (.cells #[.int .u8 0] 5))
  rw [zero_sum] at HS
  clear hlit
  go_wp2_with (go_at_call 24; refine (unhide HS).mono ?_; rintro e w9 ⟨rfl, hb9⟩)
  have HB9 := hide ((unhide HB8).trans (hb9.mono (unhide HB8).size))
  clear hb9 HS
  go_wp2_with (go_at_call 19; refine (unhide (hNum _ _)).mono ?_; rintro e w10 ⟨rfl, rfl⟩)
  go_wp2_with (go_at_call 41; refine (unhide (hN _)).mono ?_; rintro e w11 ⟨rfl, hr11, hb11, hz11⟩)
  have HS := hide (seal_any (some ⟨w9.heap.size, 0, none⟩) 9 9 (w9.heap.size + 1) nineB w11 hr11 (by omega) hz11)
  have HB11 := hide ((unhide HB9).trans (hb11.mono (unhide HB9).size))
  clear hr11 hb11
  go_wp2_with (go_at_call 30; refine (unhide HS).mono ?_; rintro e w12 ⟨v12, rfl, ho12, hb12⟩)
  obtain ⟨A12, c12, rfl⟩ := ho12.shape
  have HB12 := hide ((unhide HB11).trans (hb12.mono (unhide HB11).size))
  have HW := hide (whole_any A12 13 c12 w12.heap.size (sealed nineB) w12 (Reads.of_own ho12) (by omega) (Nat.le_refl _) (own_capA ho12))
  rw [whole_sealed] at HW
  clear ho12 hb12 HS
  go_wp2_with (go_at_call 28; refine (unhide HW).mono ?_; rintro e w13 ⟨rfl, hb13⟩)
  have HB13 := hide ((unhide HB12).trans (hb13.mono (unhide HB12).size))
  clear hb13
  go_ret
  exact ⟨rfl, unhide HB13⟩
end Go.Proofs.Ytoipkpndfgcmcaa

/-
  The check sum as plain mathematics: single steps, their inverse, what a turned byte turns, four bytes at a place. No program in sight.
-/
namespace Go.Proofs.Ytoipkpndfgcmcaa
open Go.RowKit

/-- n steps. -/
def sn : Nat → Nat → Nat
  | 0, a => a
  | n + 1, a => sn n (stp a)
theorem sn_add (m n a : Nat) : sn (m + n) a = sn m (sn n a) := by
  induction n generalizing a with
  | zero => rfl
  | succ n ih => exact ih (stp a)
theorem sn_xor (n a b : Nat) : sn n (a ^^^ b) = sn n a ^^^ sn n b := by
  induction n generalizing a b with
  | zero => rfl
  | succ n ih => rw [sn, stp_xor, ih]; rfl
theorem sn_zero (n : Nat) : sn n 0 = 0 := by
  induction n with
  | zero => rfl
  | succ n ih => rw [sn, stp_zero, ih]
theorem sn_lt {a : Nat} (h : a < U32) (n : Nat) : sn n a < U32 := by
  induction n generalizing a with
  | zero => exact h
  | succ n ih => exact ih (stp_lt h)
theorem stp8_sn (a : Nat) : stp8 a = sn 8 a := rfl
theorem sn_pow (k q : Nat) : sn k (2 ^ k * q) = q := by
  induction k generalizing q with
  | zero => simp [sn]
  | succ k ih => rw [sn, Nat.pow_succ, Nat.mul_comm (2 ^ k) 2, Nat.mul_assoc, stp_even, ih]

/-- The number of which a step makes r. -/
def bk (r : Nat) : Nat := if r / 2147483648 = 1 then 2 * (r ^^^ POLY) + 1 else 2 * r
theorem xor_cancel (a b : Nat) : (a ^^^ b) ^^^ b = a := by rw [Nat.xor_assoc, Nat.xor_self, Nat.xor_zero]
theorem top_xor {a b : Nat} (ha : a < U32) (hb : b < U32) : (a ^^^ b) / 2147483648 = (a / 2147483648 + b / 2147483648) % 2 := by
  have h := Nat.xor_div_two_pow (a := a) (b := b) (n := 31)
  rw [show (2147483648 : Nat) = 2 ^ 31 from rfl, h]
  unfold U32 at *
  have h1 : a / 2 ^ 31 = 0 ∨ a / 2 ^ 31 = 1 := by omega
  have h2 : b / 2 ^ 31 = 0 ∨ b / 2 ^ 31 = 1 := by omega
  rcases h1 with h1 | h1 <;> rcases h2 with h2 | h2 <;> rw [h1, h2] <;> decide
theorem stp_bk {r : Nat} (_h : r < U32) : stp (bk r) = r := by
  unfold bk
  split
  · unfold stp
    rw [show (2 * (r ^^^ POLY) + 1) / 2 = r ^^^ POLY by omega, if_pos (by omega), xor_cancel]
  · exact stp_even r
theorem bk_stp {r : Nat} (h : r < U32) : bk (stp r) = r := by
  have h2 : r / 2 < U32 := by unfold U32 at *; omega
  unfold stp
  rcases Nat.mod_two_eq_zero_or_one r with hm | hm
  · rw [if_neg (by omega), Nat.xor_zero]
    unfold bk
    rw [if_neg (by unfold U32 at h; omega)]
    omega
  · rw [if_pos hm]
    unfold bk
    rw [top_xor h2 (by decide), if_pos (by unfold U32 at h; rw [show r / 2 / 2147483648 = 0 by omega]; decide), xor_cancel]
    omega
theorem bk_lt {r : Nat} (h : r < U32) : bk r < U32 := by
  unfold bk
  split
  · rename_i ht
    have := top_xor h (b := POLY) (by decide)
    rw [ht, show POLY / 2147483648 = 1 by decide] at this
    unfold U32
    omega
  · unfold U32 at *
    omega
/-- n steps back. -/
def bn : Nat → Nat → Nat
  | 0, a => a
  | n + 1, a => bn n (bk a)
theorem bn_lt {a : Nat} (h : a < U32) (n : Nat) : bn n a < U32 := by
  induction n generalizing a with
  | zero => exact h
  | succ n ih => exact ih (bk_lt h)
theorem sn_succ' (n a : Nat) : sn (n + 1) a = stp (sn n a) := by rw [Nat.add_comm, sn_add]; rfl
theorem sn_bn {r : Nat} (h : r < U32) (n : Nat) : sn n (bn n r) = r := by
  induction n generalizing r with
  | zero => rfl
  | succ n ih => rw [sn_succ', bn, ih (bk_lt h), stp_bk h]
theorem bn_sn {r : Nat} (h : r < U32) (n : Nat) : bn n (sn n r) = r := by
  induction n generalizing r with
  | zero => rfl
  | succ n ih =>
    have : sn (n + 1) r = stp (sn n r) := sn_succ' n r
    rw [this, bn, bk_stp (sn_lt h n), ih h]
theorem sn_inj {a b n : Nat} (ha : a < U32) (hb : b < U32) (h : sn n a = sn n b) : a = b := by rw [← bn_sn ha n, h, bn_sn hb n]
theorem sn_ne {a n : Nat} (ha : a < U32) : sn n a = 0 ↔ a = 0 :=
  ⟨fun h => sn_inj ha (by decide) (h.trans (sn_zero n).symm), fun h => h ▸ sn_zero n⟩
theorem bn_add (m n a : Nat) : bn (m + n) a = bn m (bn n a) := by
  induction n generalizing a with
  | zero => rfl
  | succ n ih => exact ih (bk a)

theorem crc_add (r d : Nat) (bs : List UInt8) : crc (r ^^^ d) bs = crc r bs ^^^ sn (8 * bs.length) d := by
  induction bs generalizing r d with
  | nil => simp [crc, sn]
  | cons c bs ih =>
    have e : tk (r ^^^ d) c = tk r c ^^^ stp8 d := by
      unfold tk
      rw [← stp8_xor]
      congr 1
      rw [Nat.xor_assoc, Nat.xor_comm d, ← Nat.xor_assoc]
    show crc (tk (r ^^^ d) c) bs = crc (tk r c) bs ^^^ _
    rw [e, ih, stp8_sn, ← sn_add, List.length_cons, Nat.mul_succ]
theorem crc_append (r : Nat) (xs bs : List UInt8) : crc r (xs ++ bs) = crc (crc r xs) bs := List.foldl_append
theorem crc_cons (r : Nat) (c : UInt8) (bs : List UInt8) : crc r (c :: bs) = crc (tk r c) bs := rfl

/-- What a turned byte turns. -/
theorem crc_turn (r : Nat) (bs : List UInt8) (j : Nat) (hj : j < bs.length) (v : UInt8) : crc r (bs.set j (bs[j] ^^^ v)) = crc r bs ^^^ sn (8 * (bs.length - j)) v.toNat := by
  induction bs generalizing r j with
  | nil => simp at hj
  | cons c bs ih =>
    cases j with
    | zero =>
      simp only [List.set_cons_zero, List.getElem_cons_zero]
      rw [crc_cons, crc_cons]
      have e : tk r (c ^^^ v) = tk r c ^^^ stp8 v.toNat := by
        unfold tk
        rw [← stp8_xor, UInt8.toNat_xor, Nat.xor_assoc]
      rw [e, crc_add, stp8_sn, ← sn_add, List.length_cons, Nat.sub_zero, Nat.mul_succ]
    | succ j =>
      simp only [List.set_cons_succ, List.getElem_cons_succ]
      rw [crc_cons, crc_cons, ih _ j (by simpa using hj), List.length_cons, Nat.add_sub_add_right]

/-- Four bytes into a register. -/
theorem ofNat_byte (n : Nat) : (UInt8.ofNat (n % 256)).toNat = n % 256 := by rw [UInt8.toNat_ofNat']; omega
theorem byte_split (x : Nat) : x % 256 ^^^ 256 * (x / 256) = x := by
  apply Nat.eq_of_testBit_eq
  intro i
  rw [Nat.testBit_xor, show (256 : Nat) * (x / 256) = 2 ^ 8 * (x / 256) by rfl, Nat.testBit_two_pow_mul, show x % 256 = x % 2 ^ 8 from rfl, Nat.testBit_mod_two_pow, show x / 256 = x / 2 ^ 8 from rfl, Nat.testBit_div_two_pow]
  by_cases hi : i < 8
  · simp [hi, show ¬ 8 ≤ i by omega]
  · simp [hi]
    rw [show i - 8 + 8 = i by omega, show decide (8 ≤ i) = true by simp; omega]
    simp
theorem tk_low (r q : Nat) : tk r (UInt8.ofNat (q % 256)) ^^^ q / 256 = sn 8 (r ^^^ q) := by
  unfold tk
  rw [ofNat_byte, stp8_sn]
  conv => rhs; rw [← byte_split q]
  rw [← Nat.xor_assoc, sn_xor 8 (r ^^^ q % 256), show (256 : Nat) = 2 ^ 8 from rfl, sn_pow]
theorem feed4 (r q : Nat) (hq : q < U32) : crc r (le4 q) = sn 32 (r ^^^ q) := by
  have e : ∀ s p, tk s (UInt8.ofNat (p % 256)) = sn 8 (s ^^^ p) ^^^ p / 256 := fun s p => by rw [← tk_low s p, xor_cancel]
  unfold le4
  rw [crc_cons, crc_cons, crc_cons, crc_cons, e r q, e _ (q / 256), show q / 65536 = q / 256 / 256 by omega, e _ (q / 256 / 256), show q / 16777216 = q / 256 / 256 / 256 by omega, e _ (q / 256 / 256 / 256)]
  rw [xor_cancel, xor_cancel, xor_cancel, show q / 256 / 256 / 256 / 256 = 0 by unfold U32 at hq; omega, Nat.xor_zero, ← sn_add, ← sn_add, ← sn_add]
  rfl

/-- Sealed is what has the one sum. -/
theorem le4_inj {a b : Nat} (ha : a < U32) (hb : b < U32) (h : le4 a = le4 b) : a = b := by
  have := congrArg (fun l => crc 0 l) h
  simp only [feed4 0 _ ha, feed4 0 _ hb, Nat.zero_xor] at this
  exact sn_inj ha hb this
def num4 (a b c d : UInt8) : Nat := a.toNat + 256 * b.toNat + 65536 * c.toNat + 16777216 * d.toNat
theorem num4_lt (a b c d : UInt8) : num4 a b c d < U32 := by
  have := a.toNat_lt; have := b.toNat_lt; have := c.toNat_lt; have := d.toNat_lt
  unfold num4 U32
  omega
theorem le4_num4 (a b c d : UInt8) : le4 (num4 a b c d) = [a, b, c, d] := by
  have h1 := a.toNat_lt; have h2 := b.toNat_lt; have h3 := c.toNat_lt; have h4 := d.toNat_lt
  have e : ∀ (x : UInt8) (n : Nat), n = x.toNat → UInt8.ofNat n = x := fun x n h => by subst h; simp
  unfold le4 num4
  rw [e a _ (by omega), e b _ (by omega), e c _ (by omega), e d _ (by omega)]
theorem four_le4 {l : List UInt8} (h : l.length = 4) : ∃ q, q < U32 ∧ l = le4 q := by
  match l, h with
  | [a, b, c, d], _ => exact ⟨num4 a b c d, num4_lt a b c d, (le4_num4 a b c d).symm⟩
theorem whole_sum (bs : List UInt8) : whole bs = (decide (4 ≤ bs.length) && (upd 0 bs == 558161692)) := by
  by_cases h4 : 4 ≤ bs.length
  · obtain ⟨m, hm⟩ : ∃ m, bs.length = m + 4 := ⟨bs.length - 4, by omega⟩
    rw [whole_long hm, show decide (4 ≤ bs.length) = true by simpa using h4, Bool.true_and]
    obtain ⟨q, hq, he⟩ := four_le4 (l := bs.drop m) (by rw [List.length_drop]; omega)
    have hx : upd 0 bs = sn 32 (crc ONES (bs.take m) ^^^ q) ^^^ ONES := by
      conv => lhs; rw [← List.take_append_drop m bs, he]
      unfold upd
      rw [Nat.zero_xor, crc_append, feed4 _ _ hq]
    have hc := crc_lt ones_lt (bs.take m)
    rw [he, hx, Bool.eq_iff_iff, beq_iff_eq, beq_iff_eq]
    have hu : upd 0 (bs.take m) = crc ONES (bs.take m) ^^^ ONES := by unfold upd; rw [Nat.zero_xor]
    rw [hu]
    clear hx hu he
    obtain ⟨X, hX⟩ : ∃ X, crc ONES (bs.take m) = X := ⟨_, rfl⟩
    rw [hX] at hc ⊢
    have hk : (558161692 : Nat) = sn 32 ONES ^^^ ONES := by decide +kernel
    constructor
    · intro h
      have := le4_inj hq (xor_lt hc ones_lt) h
      rw [this, ← Nat.xor_assoc, Nat.xor_self, Nat.zero_xor, hk]
    · intro h
      rw [hk] at h
      have h := congrArg (· ^^^ ONES) h
      simp only [xor_cancel] at h
      have h := sn_inj (xor_lt hc hq) ones_lt h
      rw [← h, ← Nat.xor_assoc, Nat.xor_self, Nat.zero_xor]
  · rw [whole_short (by omega), show decide (4 ≤ bs.length) = false by simpa using h4]
    rfl
end Go.Proofs.Ytoipkpndfgcmcaa

/-
  Forge: the walk. Condition: fewer than 2^47 bytes.
-/
namespace Go.Proofs.Ytoipkpndfgcmcaa
open Go.RowKit
theorem back_val (y : Nat) (h : y < 2147483648) : bits BinOp.or IntKind.u32 ((y : Int) * 2) 1 = ((2 * y + 1 : Nat) : Int) := by
  rw [show (y : Int) * 2 = ((2 * y : Nat) : Int) by omega, show (1 : Int) = ((1 : Nat) : Int) from rfl, u32_or_nat _ 1 (by omega) (by omega)]
  congr 1
  exact nat_join 1 (2 * y) 1 (by omega) (by omega)
theorem back_any (r : Nat) (w : World) (h : r < U32) : Calls Try.prog 46 #[.int .u32 (r : Int)] w fun e w' => e = .returned (.int .u32 (bk r : Nat)) ∧ w = w' := by
  have hr : (r : Int) < 4294967296 := by unfold U32 at h; omega
  by_cases ht : r / 2147483648 = 1
  · have hx := xor_u32 r POLY h (by decide)
    rw [show ((POLY : Nat) : Int) = 3988292384 from rfl] at hx
    have hc : (((r : Int) / 2147483648) == 1) = true := by simp; omega
    have hb : bk r = 2 * (r ^^^ POLY) + 1 := by unfold bk; rw [if_pos ht]
    have htop := top_xor h (b := POLY) (by decide)
    rw [ht, show POLY / 2147483648 = 1 by decide] at htop
    rw [hb]
    generalize r ^^^ POLY = y at hx htop
    have hv := back_val y (by omega)
    go_enter Try.func46, Try.ntmps46
    go_wp2
    go_ret
    exact ⟨by rw [show ((2 * y + 1 : Nat) : Int) = 2 * (y : Int) + 1 by omega]; rfl, rfl⟩
  · have hb : bk r = 2 * r := by unfold bk; rw [if_neg ht]
    have hc : (((r : Int) / 2147483648) == 1) = false := by simp; omega
    have hv : (r : Int) * 2 = ((2 * r : Nat) : Int) := by omega
    rw [hb]
    go_enter Try.func46, Try.ntmps46
    go_wp2
    go_ret
    exact ⟨by rw [show ((2 * r : Nat) : Int) = 2 * (r : Int) by omega]; rfl, rfl⟩
end Go.Proofs.Ytoipkpndfgcmcaa

/-
  slices.Backward over bytes: its contract. Condition: fewer than 2^47 bytes.
-/
namespace Go.Proofs.Ytoipkpndfgcmcaa
open Go.RowKit Go.Shelf
attribute [local go_sem] Oper.semAt_some

/-- What has come when k rounds are over: the last k bytes, the last first. -/
def came (zs : List UInt8) (k : Nat) : List (Nat × UInt8) := (List.range k).map fun j => (zs.length - 1 - j, zs[zs.length - 1 - j]?.getD 0)
theorem came_succ (zs : List UInt8) (k : Nat) : came zs (k + 1) = came zs k ++ [(zs.length - 1 - k, zs[zs.length - 1 - k]?.getD 0)] := by simp [came, List.range_succ]
theorem came_length (zs : List UInt8) (k : Nat) : (came zs k).length = k := by simp [came]

/-- What a round keeps: what lay below n₀, and the iterator's box. -/
def KpB (n₀ Bs : Nat) (W W' : World) : Prop := Below n₀ W W' ∧ ∀ v, W.cell? ⟨Bs, 0, none⟩ = some v → W'.cell? ⟨Bs, 0, none⟩ = some v
theorem kpB_t {n₀ Bs : Nat} {A B C : World} (h : KpB n₀ Bs A B) (k : KpB n₀ Bs B C) : KpB n₀ Bs A C := ⟨h.1.trans k.1, fun v hv => k.2 v (h.2 v hv)⟩
theorem kpB_b {n₀ Bs : Nat} {w : World} (hn : n₀ ≤ w.heap.size) (W : World) (l : Nat) (o o' : Obj) (hl : w.heap.size ≤ l) (h : W.heap[l]? = some o) (hc : o.isCells = false) (hw : o.isWalk = false) : KpB n₀ Bs W (W.putObj l o') :=
  ⟨belowK_b hn W l o o' hl h hc hw, fun _ hv => cell_kept hv (grownBy_putObj' W l o') (fun r e => by cases e; exact ⟨_, h, hc⟩)⟩

set_option maxRecDepth 100000 in
set_option maxHeartbeats 2000000 in
theorem backward1_in (F : Fence) (n : Nat) (h8 : F.fn 56) (hro : F.round = none) (hn : 1 ≤ n) (l Bs n₀ cap : Nat) (A : Option Addr) (zs : List UInt8) (hreach : zs.length ≤ 140737488355328) (J Jx : List (Nat × UInt8) → World → Prop)
    (hY : ∀ pre x W, J pre W → pre.length < zs.length → YieldAt F (n - 1) Try.prog l #[.int .i64 (x.1 : Int), .int .u8 (x.2.toNat : Int)] W fun e W' =>
      (e = .returned (.bool true) ∧ J (pre ++ [x]) W' ∧ KpB n₀ Bs W W') ∨ (e = .returned (.bool false) ∧ Jx (pre ++ [x]) W'))
    (W : World) (hBs : W.cell? ⟨Bs, 0, none⟩ = some (.slice A zs.length cap)) (hc : Reads W n₀ 1 A zs.length (zs.map bv)) (h0 : J [] W) :
    CallsIn F n Try.prog 56 #[.func (.yield l) #[] #[], .pointer (some ⟨Bs, 0, none⟩)] W fun e W' => (∃ v, e = .returned v) ∧
      ((∃ ys, ys = came zs zs.length ∧ J ys W') ∨ (∃ pre, (∃ k, k ≤ zs.length ∧ pre = came zs k) ∧ Jx pre W')) := by
  refine callsIn_of_wp Try.func56 rfl h8 ?_ hro
  simp only [Try.ntmps56, List.size_toArray, List.length_cons, List.length_nil, Nat.reduceAdd, Nat.reduceSub, Array.replicate_succ, Array.replicate_zero, List.push_toArray, List.append_toArray, List.nil_append, List.cons_append]
  gi_wp2
  gi_loopw [3] (fun i wr => ∃ k : Nat, k ≤ zs.length ∧ i = .int .i64 ((zs.length : Int) - 1 - (k : Int)) ∧ J (came zs k) wr ∧ KpB n₀ Bs W wr)
    (fun i _ => (intOf i + 1).toNat)
  case atStart => exact ⟨0, Nat.zero_le _, by simp, h0, Below.refl _ _, fun _ h => h⟩
  case round =>
    obtain ⟨k, hk, rfl, hJs, hnx, hbx⟩ := hrel
    have hbox := hbx _ hBs
    by_cases hlt : k < zs.length
    · obtain ⟨M, hM⟩ : ∃ M, zs.length - 1 - k = M := ⟨_, rfl⟩
      have hMi : (zs.length : Int) - 1 - (k : Int) = (M : Int) := by omega
      rw [hMi]
      obtain ⟨b, off, u, rfl, hbl, hx, hcc, _⟩ := hc.at0 (k := M) (by omega)
      rw [List.getElem?_map] at hx
      obtain ⟨d, hd, rfl⟩ := Option.map_eq_some_iff.1 hx
      have hcell : wr.cell? ⟨b, off + M, none⟩ = some (.int .u8 (d.toNat : Int)) := (hnx.cell (p := ⟨b, off + M, none⟩) hbl).trans hcc
      obtain ⟨fn, tmps, assign, body, hy, hR⟩ := hY _ (M, d) wr hJs (by rw [came_length]; exact hlt)
      dsimp only at hy
      have hcs : came zs (k + 1) = came zs k ++ [(M, d)] := by rw [came_succ, hM, hd]; rfl
      have hM0 : (0 : Int) ≤ (M : Int) := by omega
      have hM1 : (M : Int) < (zs.length : Int) := by omega
      gi_wp2
      refine hR.mono ?_
      rintro e W3 (⟨rfl, hJ3, hk3⟩ | ⟨rfl, hJx3⟩)
      · gi_wp2
        go_roundw
        case rel => exact ⟨k + 1, by omega, by simp; omega, by rw [hcs]; exact hJ3, kpB_t ⟨hnx, hbx⟩ hk3⟩
        case measure => simp [intOf]
      · gi_wp2
        refine bodyPost_ret (results_none rfl _ _ _) rfl ?_
        exact ⟨⟨_, rfl⟩, .inr ⟨_, ⟨k + 1, by omega, hcs.symm⟩, hJx3⟩⟩
    · obtain rfl : k = zs.length := by omega
      have hneg : (zs.length : Int) - 1 - (zs.length : Int) = -1 := by omega
      rw [hneg]
      gi_wp2
      go_end0
      exact ⟨⟨_, rfl⟩, .inl ⟨_, rfl, hJs⟩⟩
end Go.Proofs.Ytoipkpndfgcmcaa

/-
  Forge as plain mathematics: four bytes at a place give a text any sum, and no other four do. No program in sight.
-/
namespace Go.Proofs.Ytoipkpndfgcmcaa
open Go.RowKit

/-- The register of which the bytes make y. -/
def inv (y : Nat) (l : List UInt8) : Nat := l.foldr (fun c y => bn 8 y ^^^ c.toNat) y
theorem inv_lt {y : Nat} (h : y < U32) (l : List UInt8) : inv y l < U32 := by
  induction l with
  | nil => exact h
  | cons c l ih => exact xor_lt (bn_lt ih 8) (u8_lt c)
theorem crc_inv {y : Nat} (h : y < U32) (l : List UInt8) : crc (inv y l) l = y := by
  induction l with
  | nil => rfl
  | cons c l ih =>
    rw [crc_cons]
    have e : tk (inv y (c :: l)) c = inv y l := by
      show stp8 ((bn 8 (inv y l) ^^^ c.toNat) ^^^ c.toNat) = _
      rw [xor_cancel, stp8_sn, sn_bn (inv_lt h l)]
    rw [e, ih]
theorem crc_inj {a b : Nat} (ha : a < U32) (hb : b < U32) (l : List UInt8) (h : crc a l = crc b l) : a = b := by
  induction l generalizing a b with
  | nil => exact h
  | cons c l ih =>
    rw [crc_cons, crc_cons] at h
    have := ih (tk_lt ha c) (tk_lt hb c) h
    unfold tk at this
    rw [stp8_sn, stp8_sn] at this
    have := sn_inj (xor_lt ha (u8_lt c)) (xor_lt hb (u8_lt c)) this
    have := congrArg (· ^^^ c.toNat) this
    simpa only [xor_cancel] using this
/-- The number of the four bytes. -/
def fq (bs : List UInt8) (p x : Nat) : Nat := bn 32 (inv (x ^^^ ONES) (bs.drop (p + 4))) ^^^ crc ONES (bs.take p)
/-- The bytes with the four of the number q at the place. -/
def at4 (bs : List UInt8) (p q : Nat) : List UInt8 := bs.take p ++ (le4 q ++ bs.drop (p + 4))
def forged (bs : List UInt8) (p x : Nat) : List UInt8 := at4 bs p (fq bs p x)
theorem fq_lt (bs : List UInt8) (p : Nat) {x : Nat} (hx : x < U32) : fq bs p x < U32 := xor_lt (bn_lt (inv_lt (xor_lt hx ones_lt) _) _) (crc_lt ones_lt _)
theorem at4_len {bs : List UInt8} {p : Nat} (q : Nat) (h : p + 4 ≤ bs.length) : (at4 bs p q).length = bs.length := by
  simp only [at4, List.length_append, List.length_take, List.length_drop, le4_len]
  omega
theorem at4_sum (bs : List UInt8) (p q : Nat) (hq : q < U32) : upd 0 (at4 bs p q) = crc (sn 32 (crc ONES (bs.take p) ^^^ q)) (bs.drop (p + 4)) ^^^ ONES := by
  unfold upd at4
  rw [Nat.zero_xor, crc_append, crc_append, feed4 _ _ hq]
theorem forged_sum (bs : List UInt8) (p : Nat) {x : Nat} (hx : x < U32) : upd 0 (forged bs p x) = x := by
  unfold forged
  rw [at4_sum _ _ _ (fq_lt bs p hx)]
  have e : crc ONES (bs.take p) ^^^ fq bs p x = bn 32 (inv (x ^^^ ONES) (bs.drop (p + 4))) := by
    unfold fq
    rw [Nat.xor_comm, xor_cancel]
  rw [e, sn_bn (inv_lt (xor_lt hx ones_lt) _), crc_inv (xor_lt hx ones_lt), xor_cancel]
theorem at4_inj (bs : List UInt8) (p : Nat) {q r : Nat} (hq : q < U32) (hr : r < U32) (h : upd 0 (at4 bs p q) = upd 0 (at4 bs p r)) : q = r := by
  rw [at4_sum _ _ _ hq, at4_sum _ _ _ hr] at h
  have h := congrArg (· ^^^ ONES) h
  simp only [xor_cancel] at h
  have hc := crc_lt ones_lt (bs.take p)
  have h := crc_inj (sn_lt (xor_lt hc hq) _) (sn_lt (xor_lt hc hr) _) _ h
  have h := sn_inj (xor_lt hc hq) (xor_lt hc hr) h
  have h := congrArg (crc ONES (bs.take p) ^^^ ·) h
  simpa only [← Nat.xor_assoc, Nat.xor_self, Nat.zero_xor] using h
/-- No other four bytes at the place give that sum. -/
theorem forged_only (bs : List UInt8) (p q : Nat) (hq : q < U32) : forged bs p (upd 0 (at4 bs p q)) = at4 bs p q := by
  have hx : upd 0 (at4 bs p q) < U32 := upd_lt (by decide) _
  have := forged_sum bs p hx
  unfold forged at this ⊢
  rw [at4_inj bs p (fq_lt bs p hx) hq this]
theorem forged_iff (bs : List UInt8) (p q : Nat) (hq : q < U32) {x : Nat} (hx : x < U32) : upd 0 (at4 bs p q) = x ↔ at4 bs p q = forged bs p x := by
  constructor
  · rintro rfl
    exact (forged_only bs p q hq).symm
  · intro h
    rw [h, forged_sum bs p hx]
theorem sealed_sum (bs : List UInt8) : upd 0 (bs ++ le4 (upd 0 bs)) = 558161692 := by
  have h : whole (bs ++ le4 (upd 0 bs)) = true := by
    rw [whole_long (m := bs.length) (by simp [le4_len])]
    simp
  rw [whole_sum] at h
  simp only [Bool.and_eq_true, beq_iff_eq] at h
  exact h.2
theorem inv_snoc (y : Nat) (l : List UInt8) (c : UInt8) : inv y (l ++ [c]) = inv (bn 8 y ^^^ c.toNat) l := by unfold inv; rw [List.foldr_append]; rfl
end Go.Proofs.Ytoipkpndfgcmcaa

/-
  Forge: the walk. Condition: fewer than 2^47 bytes.
-/
namespace Go.Proofs.Ytoipkpndfgcmcaa
open Go.RowKit Go.Shelf
attribute [local go_sem] Oper.semAt_some

theorem backward_in (F : Fence) (n : Nat) (h5 : F.fn 45) (hro : F.round = none) (a : Option Addr) (len cap : Nat) (w : World) :
    CallsIn F n Try.prog 45 #[.slice a len cap] w fun e w' => e = .returned (.func (.func 56) #[] #[.pointer (some ⟨w.heap.size, 0, none⟩)]) ∧ w' = w.alloc (.cells #[.slice a len cap] 29) := by
  refine callsIn_of_wp Try.func45 rfl h5 ?_ hro
  simp only [Try.ntmps45, List.size_toArray, List.length_cons, List.length_nil, Nat.reduceAdd, Nat.reduceSub, Array.replicate_succ, Array.replicate_zero, List.push_toArray, List.append_toArray, List.nil_append, List.cons_append]
  gi_wp2
  go_ret
  exact ⟨rfl, rfl⟩

theorem backward_stops (F : Fence) (n : Nat) (h7 : F.fn 56) (hro : F.round = none) (hn : 1 ≤ n) (Bs n₀ cap : Nat) (A : Option Addr) (zs : List UInt8) (hreach : zs.length ≤ 140737488355328) (w : World) (hBs : Bs < w.heap.size) (hn₀ : n₀ ≤ w.heap.size)
    (hc : w.cell? ⟨Bs, 0, none⟩ = some (.slice A zs.length cap)) (hI : Reads w n₀ 1 A zs.length (zs.map bv)) :
    SeqStopsK F n Try.prog 56 #[.pointer (some ⟨Bs, 0, none⟩)] (fun x : Nat × UInt8 => #[Value.int .i64 (x.1 : Int), Value.int .u8 (x.2.toNat : Int)]) (KpB n₀ Bs) (fun ys => ys = came zs zs.length) (fun _ => True) zs.length w := fun l J Jx W hW _ _ hY h0 => by
  have hc' := (hW.cell (p := ⟨Bs, 0, none⟩) hBs).trans hc
  refine (backward1_in F n h7 hro hn l Bs n₀ cap A zs hreach J Jx hY W hc' (hI.below (hW.mono hn₀)) h0).mono ?_
  rintro e W' ⟨he, ⟨ys, rfl, hj⟩ | ⟨pre, ⟨k, hk, rfl⟩, hj⟩⟩
  · exact ⟨he, .inl ⟨_, rfl, hj⟩⟩
  · exact ⟨he, .inr ⟨_, trivial, hj⟩⟩

/-- The register behind what has come. -/
def regs (y : Nat) (l : List (Nat × UInt8)) : Nat := l.foldl (fun y x => bn 8 y ^^^ x.2.toNat) y
theorem regs_snoc (y : Nat) (l : List (Nat × UInt8)) (x : Nat × UInt8) : regs y (l ++ [x]) = bn 8 (regs y l) ^^^ x.2.toNat := by simp [regs]
theorem regs_lt {y : Nat} (h : y < U32) (l : List (Nat × UInt8)) : regs y l < U32 := by
  induction l generalizing y with
  | nil => exact h
  | cons x l ih => exact ih (xor_lt (bn_lt h 8) (u8_lt x.2))
theorem regs_came (y : Nat) (zs : List UInt8) (k : Nat) (hk : k ≤ zs.length) : regs y (came zs k) = inv y (zs.drop (zs.length - k)) := by
  induction k with
  | zero => simp [came, regs, inv]
  | succ k ih =>
    rw [came_succ, regs_snoc, ih (by omega)]
    have hl : zs.length - 1 - k < zs.length := by omega
    rw [show zs.length - k = zs.length - (k + 1) + 1 by omega]
    conv => rhs; rw [List.drop_eq_getElem_cons (i := zs.length - (k + 1)) (by omega)]
    have e : zs[zs.length - 1 - k]?.getD 0 = zs[zs.length - (k + 1)] := by
      rw [List.getElem?_eq_getElem hl]
      simp only [Option.getD_some]
      congr 1
      omega
    show bn 8 (inv y _) ^^^ (zs[zs.length - 1 - k]?.getD 0).toNat = _
    rw [e]
    rfl
theorem regs_all (y : Nat) (zs : List UInt8) : regs y (came zs zs.length) = inv y zs := by
  rw [regs_came y zs zs.length (Nat.le_refl _)]
  simp

theorem cell_lt {W : World} {b o : Nat} {v : Value} (h : W.cell? ⟨b, o, none⟩ = some v) : b < W.heap.size := by
  rcases Nat.lt_or_ge b W.heap.size with h' | h'
  · exact h'
  · simp [World.cell?, Array.getElem?_eq_none h'] at h
theorem cell_of_box_l {W : World} {B : Nat} {v : Value} {t : TypeId} (h : W.heap[B]? = some (.cells #[v] t (0, 0))) : W.cell? ⟨B, 0, none⟩ = some v ∧ W.frozen? ⟨B, 0, none⟩ = false := by
  constructor <;> simp [World.cell?, World.frozen?, h]
theorem cell_new_l (W : World) (v : Value) (t : TypeId) : (W.alloc (.cells #[v] t)).cell? ⟨W.heap.size, 0, none⟩ = some v ∧ (W.alloc (.cells #[v] t)).frozen? ⟨W.heap.size, 0, none⟩ = false := by
  have h := World.alloc_heap_new W (.cells #[v] t)
  exact cell_of_box_l h
theorem cell_alloc_l {W : World} {a : Addr} {v : Value} (o : Obj) (h : W.cell? a = some v) : (W.alloc o).cell? a = some v := cell_kept h (World.grownBy_alloc W o none) (fun r e => by cases e)
theorem frozen_alloc_l {W : World} {a : Addr} {v : Value} (o : Obj) (h : W.cell? a = some v) (hf : W.frozen? a = false) : (W.alloc o).frozen? a = false := (frozen_kept h (World.grownBy_alloc W o none) (fun r e => by cases e)).trans hf
/-- Four new bytes 0. -/
structure Four (W : World) (g : Nat) : Prop where
  c0 : W.cell? ⟨g, 0, none⟩ = some (.int .u8 0)
  c1 : W.cell? ⟨g, 1, none⟩ = some (.int .u8 0)
  c2 : W.cell? ⟨g, 2, none⟩ = some (.int .u8 0)
  c3 : W.cell? ⟨g, 3, none⟩ = some (.int .u8 0)
  f : ∀ i, W.frozen? ⟨g, i, none⟩ = false
theorem Four.new (W : World) (t : TypeId) : Four (W.alloc (.cells #[.int .u8 0, .int .u8 0, .int .u8 0, .int .u8 0] t)) W.heap.size := by
  have h := Blk.new W t #[.int .u8 0, .int .u8 0, .int .u8 0, .int .u8 0]
  exact ⟨h.cell 0, h.cell 1, h.cell 2, h.cell 3, fun i => h.frozen i⟩
theorem Four.below {W W' : World} {g B : Nat} (h : Four W g) (hb : Below B W W') (hg : g < B) : Four W' g :=
  ⟨(hb.cell (p := ⟨g, 0, none⟩) hg).trans h.c0, (hb.cell (p := ⟨g, 1, none⟩) hg).trans h.c1, (hb.cell (p := ⟨g, 2, none⟩) hg).trans h.c2, (hb.cell (p := ⟨g, 3, none⟩) hg).trans h.c3, fun i => by
    have := hb.block g hg
    have e := h.f i
    unfold World.frozen? at e ⊢
    rw [this]
    exact e⟩
theorem four_far {w : World} {b g : Nat} {v a0 a1 a2 a3 : Value} (h : w.cell? ⟨b, 0, none⟩ = some v) (hn : b ≠ g) : ((((w.setCell ⟨g, 0, none⟩ a0).setCell ⟨g, 1, none⟩ a1).setCell ⟨g, 2, none⟩ a2).setCell ⟨g, 3, none⟩ a3).cell? ⟨b, 0, none⟩ = some v :=
  cell_far (cell_far (cell_far (cell_far h hn _) hn _) hn _) hn _
/-- The four cells behind the store. -/
theorem four_set {w : World} {g : Nat} (h0 : w.cell? ⟨g, 0, none⟩ = some (.int .u8 0)) (h1 : w.cell? ⟨g, 1, none⟩ = some (.int .u8 0)) (h2 : w.cell? ⟨g, 2, none⟩ = some (.int .u8 0)) (h3 : w.cell? ⟨g, 3, none⟩ = some (.int .u8 0)) (a0 a1 a2 a3 : Value) : ∀ j u, ([a0, a1, a2, a3] : List Value)[j]? = some u → ((((w.setCell ⟨g, 0, none⟩ a0).setCell ⟨g, 1, none⟩ a1).setCell ⟨g, 2, none⟩ a2).setCell ⟨g, 3, none⟩ a3).cell? ⟨g, j, none⟩ = some u := by
  have o : ∀ (W : World) (i k : Nat) (a : Value), i ≠ k → (W.setCell ⟨g, k, none⟩ a).cell? ⟨g, i, none⟩ = W.cell? ⟨g, i, none⟩ := fun W i k a hne => World.cell?_setCell_other W ⟨g, k, none⟩ ⟨g, i, none⟩ a (fun e => hne (by cases e; rfl))
  have s : ∀ (W : World) (k : Nat) (a v : Value), W.cell? ⟨g, k, none⟩ = some v → (W.setCell ⟨g, k, none⟩ a).cell? ⟨g, k, none⟩ = some a := fun W k a v h => World.cell?_setCell_same' W ⟨g, k, none⟩ a (by rw [h]; rfl)
  intro j u hu
  match j, hu with
  | 0, hu => cases hu; rw [o _ _ _ _ (by omega), o _ _ _ _ (by omega), o _ _ _ _ (by omega), s _ _ _ _ h0]
  | 1, hu => cases hu; rw [o _ _ _ _ (by omega), o _ _ _ _ (by omega), s _ _ _ (.int .u8 0) (by rw [o _ _ _ _ (by omega)]; exact h1)]
  | 2, hu => cases hu; rw [o _ _ _ _ (by omega), s _ _ _ (.int .u8 0) (by rw [o _ _ _ _ (by omega), o _ _ _ _ (by omega)]; exact h2)]
  | 3, hu => cases hu; rw [s _ _ _ (.int .u8 0) (by rw [o _ _ _ _ (by omega), o _ _ _ _ (by omega), o _ _ _ _ (by omega)]; exact h3)]
  | _ + 4, hu => cases hu
/-- What the tail wants of the world behind the four bytes. -/
structure Tail (w : World) (D G q : Nat) (W : World) : Prop where
  bel : Below w.heap.size w W
  dd : W.heap[D]? = some (.deferred (some []))
  rd : Reads W (G + 1) 1 (some ⟨G, 0, none⟩) 4 ((le4 q).map bv)
  lt : G < W.heap.size
theorem Tail.of_set {w W : World} {D G q : Nat} {a0 a1 a2 a3 : Value} (hb : Below w.heap.size w W) (hd : W.heap[D]? = some (.deferred (some []))) (hg : w.heap.size ≤ G) (hl : G < W.heap.size) (hq : (le4 q).map bv = [a0, a1, a2, a3])
    (h0 : W.cell? ⟨G, 0, none⟩ = some (.int .u8 0)) (h1 : W.cell? ⟨G, 1, none⟩ = some (.int .u8 0)) (h2 : W.cell? ⟨G, 2, none⟩ = some (.int .u8 0)) (h3 : W.cell? ⟨G, 3, none⟩ = some (.int .u8 0)) :
    Tail w D G q ((((W.setCell ⟨G, 0, none⟩ a0).setCell ⟨G, 1, none⟩ a1).setCell ⟨G, 2, none⟩ a2).setCell ⟨G, 3, none⟩ a3) := by
  have hne : ∀ (V : World) (i : Nat) (a : Value), V.heap[D]? = some (.deferred (some [])) → (V.setCell ⟨G, i, none⟩ a).heap[D]? = some (.deferred (some [])) := fun V i a h => (KeepsOthers.setCell V ⟨G, i, none⟩ a).same D _ h rfl
  refine ⟨(((hb.setCell (p := ⟨G, 0, none⟩) hg _).setCell (p := ⟨G, 1, none⟩) hg _).setCell (p := ⟨G, 2, none⟩) hg _).setCell (p := ⟨G, 3, none⟩) hg _, hne _ _ _ (hne _ _ _ (hne _ _ _ (hne _ _ _ hd))), ?_, by simpa [World.setCell] using hl⟩
  rw [hq]
  refine ⟨rfl, fun _ => ⟨_, rfl, Nat.lt_succ_self _, fun j u hu => ?_⟩⟩
  rw [add0, Nat.zero_add]
  exact four_set h0 h1 h2 h3 a0 a1 a2 a3 j u hu
theorem bn_succ' (n a : Nat) : bn (n + 1) a = bk (bn n a) := by rw [Nat.add_comm, bn_add]; rfl

/-- The three parts put side by side, whatever world lies behind the four bytes. -/
theorem tail_concat {w W3 W4 : World} {D G q n c p B zl C' gb : Nat} {A A' : Option Addr} {bs zs : List UInt8} (T1 : Tail w D G q W3) (hr : Reads w B 1 A n (bs.map bv)) (hB : B ≤ w.heap.size) (hn : n ≤ 140737488355328) (hpn : p ≤ n)
    (hz : Reads w w.heap.size 1 A' zl (zs.map bv)) (htot : p + (4 + zl) = n) (hb : Below W3.heap.size W3 W4) (hk : Blk W4 gb 29 #[.slice A p c, .slice (some ⟨G, 0, none⟩) 4 4, .slice A' zl C']) :
    Calls Try.prog 49 #[.slice (some ⟨gb, 0, none⟩) 3 3] W4 fun e w' => ∃ v, e = .returned v ∧ w'.ownsRow w.heap.size 5 1 v n ((bs.take p ++ (le4 q ++ zs)).map bv) ∧ Below w.heap.size w w' ∧ w'.heap[D]? = some (.deferred (some [])) := by
  have hb4 : Below w.heap.size w W4 := T1.bel.trans (hb.mono T1.bel.size)
  have cL : ∀ (i : Nat) (x : Part), [(⟨A, p, c, bs.take p⟩ : Part), ⟨some ⟨G, 0, none⟩, 4, 4, le4 q⟩, ⟨A', zl, C', zs⟩][i]? = some x →
      W4.cell? ⟨gb, i, none⟩ = some (.slice x.A x.n x.c) ∧ Reads W4 W4.heap.size 1 x.A x.n (x.bs.map bv) := by
    intro i x hx
    match i, hx with
    | 0, hx =>
      simp only [List.getElem?_cons_zero, Option.some.injEq] at hx
      subst hx
      exact ⟨hk.cell 0, (((hr.upto_ hpn).below (hb4.mono hB)).more (Nat.le_trans hB hb4.size))⟩
    | 1, hx =>
      simp only [List.getElem?_cons_succ, List.getElem?_cons_zero, Option.some.injEq] at hx
      subst hx
      exact ⟨hk.cell 1, (T1.rd.below (hb.mono (by have := T1.lt; omega))).more (by have := T1.lt; have := hb.size; omega)⟩
    | 2, hx =>
      simp only [List.getElem?_cons_succ, List.getElem?_cons_zero, Option.some.injEq] at hx
      subst hx
      exact ⟨hk.cell 2, (hz.below hb4).more hb4.size⟩
    | i + 3, hx => simp at hx
  have e1 : total [(⟨A, p, c, bs.take p⟩ : Part), ⟨some ⟨G, 0, none⟩, 4, 4, le4 q⟩, ⟨A', zl, C', zs⟩] = n := by simp [total]; omega
  have e2 : joined [(⟨A, p, c, bs.take p⟩ : Part), ⟨some ⟨G, 0, none⟩, 4, 4, le4 q⟩, ⟨A', zl, C', zs⟩] = bs.take p ++ (le4 q ++ zs) := by simp [joined]
  have hC := concat_any [⟨A, p, c, bs.take p⟩, ⟨some ⟨G, 0, none⟩, 4, 4, le4 q⟩, ⟨A', zl, C', zs⟩] gb W4.heap.size W4 (Nat.le_refl _) hk.lt (by simp) (by rw [e1]; exact hn) cL
  rw [e1, e2] at hC
  refine hC.mono ?_
  rintro e w' ⟨v, rfl, ho, hb'⟩
  refine ⟨v, rfl, ho.base hb4.size, hb4.trans (hb'.mono hb4.size), ?_⟩
  have hD : D < W3.heap.size := (Array.getElem?_eq_some_iff.1 T1.dd).1
  rw [hb'.block D (by have := hb.size; omega), hb.block D hD]
  exact T1.dd

theorem done_put {w w5 : World} {D n B : Nat} {e : TypeId} {v : Value} {xs : List Value} (hD : w.heap.size ≤ D) (hd : w5.heap[D]? = some (.deferred (some []))) (ho : w5.ownsRow B e 1 v n xs) (hb : Below w.heap.size w w5) (o : Obj) :
    (w5.putObj D o).ownsRow B e 1 v n xs ∧ Below w.heap.size w (w5.putObj D o) := by
  have hc : Chg w5 (w5.putObj D o) (· = D) := ⟨rfl, rfl, rfl, by simp [World.putObj], fun k _ hn => World.putObj_heap_other hn⟩
  refine ⟨hc.own ho (fun i hi e => ?_), ⟨hb.os, hb.tape, hb.output, by simpa [World.putObj] using hb.size, fun k hk => (World.putObj_heap_other (by omega)).trans (hb.block k hk)⟩⟩
  subst e
  rcases ho.2 with ⟨rfl, _⟩ | ⟨g, cap, cur, rfl, _, hg, _⟩
  · simp [Value.ownBlock] at hi
  · obtain rfl : g = i := by simpa [Value.ownBlock] using hi
    rw [hd] at hg
    cases hg

set_option maxRecDepth 100000 in
set_option maxHeartbeats 2000000 in
theorem forge_any (A : Option Addr) (n c B p x : Nat) (bs : List UInt8) (w : World) (hr : Reads w B 1 A n (bs.map bv)) (hn : n ≤ 140737488355328) (hB : B ≤ w.heap.size) (hx : x < U32) (hcap : n ≤ c) (hp : p + 4 ≤ n) :
    Calls Try.prog 22 #[.slice A n c, .int .i64 (p : Int), .int .u32 (x : Int)] w fun e w' => ∃ v, e = .returned (.tuple #[v, .int .i64 0]) ∧ w'.ownsRow w.heap.size 5 1 v n ((forged bs p x).map bv) ∧ Below w.heap.size w w' := by
  have hlen : bs.length = n := by have := hr.1; simpa using this
  have hBB := hB
  have hd1 : decide ((p : Int) < 0) = false := by simp
  have hd2 : decide ((n : Int) - 4 < (p : Int)) = false := by simp; omega
  have hnot := not_u32 x hx
  obtain ⟨y, hy⟩ : ∃ y, x ^^^ ONES = y := ⟨_, rfl⟩
  rw [hy] at hnot
  have hyl : y < U32 := hy ▸ xor_lt hx ones_lt
  obtain ⟨P4, hP4⟩ : ∃ k, p + 4 = k := ⟨_, rfl⟩
  have hs4 : IntKind.i64.wrap ((p : Int) + 4) = (P4 : Int) := by rw [IntWalk.i64_in _ (by omega)]; omega
  have hn4 : IntKind.i64.wrap ((n : Int) - 4) = (n : Int) - 4 := IntWalk.i64_in _ (by omega)
  have hb1 : (P4 : Int) ≤ (n : Int) := by omega
  have hb2 : (n : Int) ≤ (c : Int) := by omega
  have hb3 : (P4 : Int) ≤ (c : Int) := by omega
  have hb0 : (0 : Int) ≤ (P4 : Int) := by omega
  have hcut := hr.cut (k := P4) (cap := c) (by omega) hcap
  obtain ⟨A', hA'⟩ : ∃ A', (if c = P4 then A else A.map (·.add (P4 * 1))) = A' := ⟨_, rfl⟩
  rw [hA'] at hcut
  obtain ⟨⟨iE, zE, eE1, eE2, eE3, eE4, eE5, eE6⟩, _⟩ := elem_u8
  have hsl := fun W => run_cut eE1 eE2 eE4 A c (k := P4) (n := n) (by omega) W
  rw [hA'] at hsl
  clear eE1 eE2 eE3 eE4 eE5 eE6
  refine (callsIn_wide (n := 3)).1 ?_
  refine callsIn_of_wp_marks Try.func22 rfl trivial ?_ rfl
  simp only [Try.ntmps22, List.size_toArray, List.length_cons, List.length_nil, Nat.reduceAdd, Nat.reduceSub, Array.replicate_succ, Array.replicate_zero, List.push_toArray, List.append_toArray, List.nil_append, List.cons_append]
  gi_wp2_with (refine ⟨trivial, ?_⟩; gi_at_call 45; refine (backward_in _ _ trivial rfl _ _ _ _).mono ?_; rintro e w1 ⟨rfl, rfl⟩)
  obtain ⟨zs, hzs⟩ : ∃ zs, bs.drop P4 = zs := ⟨_, rfl⟩
  have hzl : n - P4 = zs.length := by rw [← hzs, List.length_drop, hlen]
  rw [Nat.mul_one, ← List.map_drop, hzs, hzl] at hcut
  rw [hzl]
  obtain ⟨C', hC'⟩ : ∃ k, c - P4 = k := ⟨_, rfl⟩
  rw [hC']
  simp only [hzl, hC'] at hsl
  have hs := cell_new_l w (.int .u32 (y : Int)) 40
  have hb := cell_new_l (w.alloc (.cells #[.int .u32 (y : Int)] 40)) (.slice A' zs.length C') 29
  rw [World.size_alloc] at hb
  have hB0 : Below w.heap.size w ((w.alloc (.cells #[.int .u32 (y : Int)] 40)).alloc (.cells #[.slice A' zs.length C'] 29)) := ((Below.refl _ w).alloc (Nat.le_refl _) _).alloc (by simp) _
  refine wpIn_rangeFunc_ownF (F := Fence.wide) rfl (by omega) (gf := 56) (lb := #[.pointer (some ⟨w.heap.size + 1, 0, none⟩)]) rfl trivial (enters_of Try.func56 (by kernel_rfl) rfl)
    (backward_stops Fence.wide 2 trivial rfl (by omega) (w.heap.size + 1) w.heap.size C' A' zs (by omega) _ (by simp) (by simp; omega) hb.1 ((hcut.more hB).below hB0)) kpB_t (kpB_b (by simp; omega)) (Below.refl _ _) (fun _ => rfl)
    (fun pre W => (W.cell? ⟨w.heap.size, 0, none⟩ = some (.int .u32 (regs y pre : Nat)) ∧ W.frozen? ⟨w.heap.size, 0, none⟩ = false) ∧ Below w.heap.size w W)
    (fun _ _ _ => False)
    (OwnFrom.and (Own.from (fun s A B row hs hg hr => ⟨cell_kept hs.1 hg hr, (frozen_kept hs.1 hg hr).trans hs.2⟩) _) (ownFrom_below (Nat.le_refl _) (by simp; omega)))
    (fun _ _ _ _ _ hs _ _ => hs)
    ⟨⟨cell_alloc_l _ hs.1, frozen_alloc_l _ hs.1 hs.2⟩, hB0⟩
    (fun x' => { tmps := #[.slice A n c, .int .i64 (p : Int), .int .u32 (x : Int), undef, undef, undef, .slice none 0 0, .int .i64 0, .pointer (some ⟨w.heap.size, 0, none⟩), undef, .int .u8 (x'.2.toNat : Int), undef, .int .i64 (p : Int), .bool false, .bool false, .int .i64 (p : Int), .slice A n c, .int .i64 (n : Int), .int .i64 ((n : Int) - 4), .bool false, .bool false, .int .u32 (x : Int), .int .u32 (y : Int), .slice A n c, .int .i64 (p : Int), .int .i64 (P4 : Int), .slice A' zs.length C', .func (.func 56) #[] #[.pointer (some ⟨w.heap.size + 1, 0, none⟩)], .int .i64 (x'.1 : Int), .int .u8 (x'.2.toNat : Int), undef, undef, undef, undef, undef, undef, undef, undef, undef, undef, undef, undef, undef, undef, undef, undef, undef, undef, undef, undef, undef, undef, undef, undef, undef, undef, undef, undef, undef, undef, undef], defers := [] }) ?assign ?body ?done ?stop
  case assign =>
    intro l x W K hK
    gi_wp2
    exact hK
  case body =>
    rintro l pre x' W ⟨⟨hc, hf⟩, hB⟩ _
    have hl0 := regs_lt hyl pre
    have hsn := regs_snoc y pre x'
    obtain ⟨r0, hr0⟩ : ∃ r, regs y pre = r := ⟨_, rfl⟩
    rw [hr0] at hc hl0 hsn
    gi_wp2
    gi_loopw [30] (fun i wr => ∃ j : Nat, j ≤ 8 ∧ i = .int .i64 (j : Int) ∧ (wr.cell? ⟨w.heap.size, 0, none⟩ = some (.int .u32 (bn j r0 : Nat)) ∧ wr.frozen? ⟨w.heap.size, 0, none⟩ = false) ∧ Below w.heap.size w wr ∧ KeepsOthers W wr ∧ KpB w.heap.size (w.heap.size + 1) W wr)
      (fun i _ => (8 - intOf i).toNat)
    case atStart => exact ⟨0, by omega, rfl, ⟨hc, hf⟩, hB, KeepsOthers.refl _, Below.refl _ _, fun _ h => h⟩
    case round =>
      obtain ⟨j, hj, rfl, ⟨hcj, hfj⟩, hBj, hKj, hPj⟩ := hrel
      by_cases hlt : j < 8
      · have hbl := bn_lt hl0 j
        have hbs := bn_succ' j r0
        obtain ⟨rj, hrj⟩ : ∃ r, bn j r0 = r := ⟨_, rfl⟩
        rw [hrj] at hcj hbl hbs
        gi_wp2_with (refine ⟨trivial, ?_⟩; gi_at_call 46; refine (CallsIn.inRound l (callsIn_wide.2 (back_any rj _ hbl))).mono ?_; rintro e w2 ⟨rfl, rfl⟩)
        go_roundw
        case rel => exact ⟨j + 1, by omega, by simp, ⟨by rw [hbs]; exact World.cell?_setCell_same' _ _ _ (by rw [hcj]; rfl), by rw [World.frozen?_setCell]; exact hfj⟩, hBj.setCell (p := ⟨w.heap.size, 0, none⟩) (Nat.le_refl _) _, hKj.trans (KeepsOthers.setCell _ _ _), kpB_t hPj ⟨(Below.refl _ _).setCell (p := ⟨w.heap.size, 0, none⟩) (Nat.le_refl _) _, fun v hv => by rw [World.cell?_setCell_other _ _ _ _ (by simp)]; exact hv⟩⟩
        case measure => simp [intOf]; omega
      · obtain rfl : j = 8 := by omega
        have hv := xor_u32 (bn 8 r0) x'.2.toNat (bn_lt hl0 8) (u8_lt _)
        rw [← hsn] at hv
        obtain ⟨r8, hr8⟩ : ∃ r, bn 8 r0 = r := ⟨_, rfl⟩
        rw [hr8] at hv hcj
        obtain ⟨r9, hr9⟩ : ∃ r, regs y (pre ++ [x']) = r := ⟨_, rfl⟩
        rw [hr9] at hv
        have hmod : (x'.2.toNat : Int) % 4294967296 = (x'.2.toNat : Int) := by have := x'.2.toNat_lt; omega
        gi_wp2
        exact ⟨hKj.trans (KeepsOthers.setCell _ _ _), kpB_t hPj ⟨(Below.refl _ _).setCell (p := ⟨w.heap.size, 0, none⟩) (Nat.le_refl _) _, fun v hv => by rw [World.cell?_setCell_other _ _ _ _ (by simp)]; exact hv⟩, ⟨by rw [hr9]; exact World.cell?_setCell_same' _ _ _ (by rw [hcj]; rfl), by rw [World.frozen?_setCell]; exact hfj⟩, hBj.setCell (p := ⟨w.heap.size, 0, none⟩) (Nat.le_refl _) _⟩
  case done =>
    rintro D ys W hD rfl ⟨⟨hc, hf⟩, hB⟩ hK
    rw [regs_all] at hc
    obtain ⟨R0, hR0⟩ : ∃ r, inv y zs = r := ⟨_, rfl⟩
    have hRl : R0 < U32 := hR0 ▸ inv_lt hyl zs
    rw [hR0] at hc
    gi_wp2
    gi_loopw [39] (fun i wr => ∃ j : Nat, j ≤ 32 ∧ i = .int .i64 (j : Int) ∧ (wr.cell? ⟨w.heap.size, 0, none⟩ = some (.int .u32 (bn j R0 : Nat)) ∧ wr.frozen? ⟨w.heap.size, 0, none⟩ = false) ∧ Below w.heap.size w wr ∧ wr.heap[D]? = some (.deferred (some [])))
      (fun i _ => (32 - intOf i).toNat)
    case atStart => exact ⟨0, by omega, rfl, ⟨hc, hf⟩, hB, hK⟩
    case round =>
      obtain ⟨j, hj, rfl, ⟨hcj, hfj⟩, hBj, hKj⟩ := hrel
      by_cases hlt : j < 32
      · have hbl := bn_lt hRl j
        have hbs := bn_succ' j R0
        obtain ⟨rj, hrj⟩ : ∃ r, bn j R0 = r := ⟨_, rfl⟩
        rw [hrj] at hcj hbl hbs
        gi_wp2_with (refine ⟨trivial, ?_⟩; gi_at_call 46; refine (callsIn_wide.2 (back_any rj _ hbl)).mono ?_; rintro e w2 ⟨rfl, rfl⟩)
        go_roundw
        case rel => exact ⟨j + 1, by omega, by simp, ⟨by rw [hbs]; exact World.cell?_setCell_same' _ _ _ (by rw [hcj]; rfl), by rw [World.frozen?_setCell]; exact hfj⟩, hBj.setCell (p := ⟨w.heap.size, 0, none⟩) (Nat.le_refl _) _, (KeepsOthers.setCell _ _ _).same D _ hKj rfl⟩
        case measure => simp [intOf]; omega
      · obtain rfl : j = 32 := by omega
        obtain ⟨R, hR⟩ : ∃ r, bn 32 R0 = r := ⟨_, rfl⟩
        rw [hR] at hcj
        gi_wp2
        obtain ⟨T, hT⟩ : ∃ r, crc ONES (bs.take p) = r := ⟨_, rfl⟩
        have hTl : T < U32 := hT ▸ crc_lt ones_lt _
        have hTk : ∀ w', Below wr.heap.size wr w' → Hid (Calls Try.prog 48 #[.int .u32 4294967295, .slice A p c] w' fun e w2 => e = .returned (.int .u32 (T : Int)) ∧ Below w'.heap.size w' w2) := fun w' h => hide <| by
          have h2 := hBj.trans (h.mono hBj.size)
          have := take_any ONES (bs.take p) A p c B w' ones_lt ((hr.below (h2.mono hBB)).upto_ (by omega)) (by omega) (Nat.le_trans hBB h2.size)
          rw [hT] at this
          exact this
        have hxq := xor_u32 R T (hR ▸ bn_lt hRl 32) hTl
        obtain ⟨q, hq⟩ : ∃ q, R ^^^ T = q := ⟨_, rfl⟩
        rw [hq] at hxq
        have hBy := fun w => hide (bytes_any q w)
        obtain ⟨x0, x1, x2, x3, hx4⟩ := le4c_lit q
        rw [hx4] at hBy
        have hbs0 : w.heap.size < wr.heap.size := cell_lt hcj
        have HBj := hide hBj
        have HKj := hide hKj
        have HQX : Hid ((le4 q).map bv = [.int .u8 x0, .int .u8 x1, .int .u8 x2, .int .u8 x3]) := by show _ = _; rw [← le4c_list, hx4]
        have hn0 : w.heap.size ≠ wr.heap.size := by omega
        have hp0 : (0 : Int) ≤ (p : Int) := by omega
        have hp1 : (p : Int) ≤ (c : Int) := by omega
        clear hBj hKj
        refine wpIn_wide.2 ?_
        go_region_held3 (fun w' => w'.cell? ⟨w.heap.size, 0, none⟩ = some (.int .u32 (R : Int))) (first | go_keep | exact four_far d2 hn1 | exact four_far d2 hn0) ((first
          | (go_at_call 48; refine (unhide (hTk _ (by first | exact below_drewN (Below.refl _ _) 1 | exact (below_drewN (Below.refl _ _) 1).alloc (Nat.le_refl _) _))).mono ?_; rintro e w1 ⟨rfl, hb1⟩
             have d1 : w1.cell? ⟨w.heap.size, 0, none⟩ = some (.int .u32 (R : Int)) := (hb1.cell (p := ⟨w.heap.size, 0, none⟩) (by first | exact hbs0 | (simp; omega))).trans (by first | exact hcj | exact cell_alloc_l _ hcj)
             have HB1 := hide hb1
             have hz1 := hb1.size
             have hn1 : w.heap.size ≠ w1.heap.size := by (first | (simp at hz1; omega) | (have := hz1; simp at this; omega))
             first
               | (have F1 : Four w1 wr.heap.size := (Four.new wr.drew 60).below hb1 (by simp)
                  have hzf : wr.heap.size < w1.heap.size := by (simp at hz1; omega))
               | skip
             clear hb1)
          | (go_at_call 47; refine (unhide (hBy _)).mono ?_; rintro e w2 ⟨rfl, hb2⟩
             have d2 : w2.cell? ⟨w.heap.size, 0, none⟩ = some (.int .u32 (R : Int)) := (hb2.cell (p := ⟨w.heap.size, 0, none⟩) (by first | exact Nat.lt_of_lt_of_le hbs0 hz1 | (simp at hz1 ⊢; omega))).trans (by first | exact d1 | exact cell_alloc_l _ d1)
             have HB2 := hide hb2
             first
               | (obtain ⟨m0, m1, m2, m3, mf⟩ := (Four.new w1 60).below hb2 (by simp)
                  have mf0 := mf 0; have mf1 := mf 1; have mf2 := mf 2; have mf3 := mf 3; clear mf)
               | (obtain ⟨m0, m1, m2, m3, mf⟩ := F1.below hb2 hzf
                  have mf0 := mf 0; have mf1 := mf 1; have mf2 := mf 2; have mf3 := mf 3; clear mf F1)
               | skip
             clear hb2)))
        focus
          have hb : Below wr.heap.size wr w2 := Below.trans (b := wr.drew) (below_drewN (Below.refl _ _) 1) ((unhide HB1).trans ((unhide HB2).mono hz1))
          have T1 : Tail w D w2.heap.size q (w2.alloc (.cells #[.int .u8 x0, .int .u8 x1, .int .u8 x2, .int .u8 x3] 60)) := by
            have hb' := (unhide HBj).trans (hb.mono (unhide HBj).size)
            refine ⟨hb'.alloc hb'.size _, ?_, reads_lit w2 _ rfl _ _ 4 rfl _ (by rw [HQX.out]), by simp⟩
            have hDl := (Array.getElem?_eq_some_iff.1 (unhide HKj)).1
            have e := hb.block D hDl
            exact (Below.heap_alloc w2 _ D (by have := hb.size; omega)).trans (e.trans (unhide HKj))
          obtain ⟨G, hG⟩ : ∃ G, w2.heap.size = G := ⟨_, rfl⟩
          obtain ⟨W3, hW3⟩ : ∃ W3, w2.alloc (.cells #[.int .u8 x0, .int .u8 x1, .int .u8 x2, .int .u8 x3] 60) = W3 := ⟨_, rfl⟩
          rw [hG, hW3] at T1
          rw [hG, hW3]
        rotate_left
        focus
          have hb : Below wr.heap.size wr w2 := Below.trans (b := wr.drew) (below_drewN (Below.refl _ _) 1) ((unhide HB1).trans (((Below.refl _ _).alloc (Nat.le_refl _) _ |>.trans ((unhide HB2).mono (by simp))).mono hz1))
          have T1 : Tail w D w1.heap.size q ((((w2.setCell ⟨w1.heap.size, 0, none⟩ (.int .u8 x0)).setCell ⟨w1.heap.size, 1, none⟩ (.int .u8 x1)).setCell ⟨w1.heap.size, 2, none⟩ (.int .u8 x2)).setCell ⟨w1.heap.size, 3, none⟩ (.int .u8 x3)) := by
            have hb' := (unhide HBj).trans (hb.mono (unhide HBj).size)
            have hz2 := (unhide HB2).size
            simp at hz1 hz2
            exact Tail.of_set hb' ((hb.block D (Array.getElem?_eq_some_iff.1 (unhide HKj)).1).trans (unhide HKj)) (by have := (unhide HBj).size; omega) (by omega) HQX.out m0 m1 m2 m3
          obtain ⟨G, hG⟩ : ∃ G, w1.heap.size = G := ⟨_, rfl⟩
          rw [hG] at T1
          rw [hG]
          obtain ⟨W3, hW3⟩ : ∃ W3, ((((w2.setCell ⟨G, 0, none⟩ (.int .u8 x0)).setCell ⟨G, 1, none⟩ (.int .u8 x1)).setCell ⟨G, 2, none⟩ (.int .u8 x2)).setCell ⟨G, 3, none⟩ (.int .u8 x3)) = W3 := ⟨_, rfl⟩
          rw [hW3] at T1
          rw [hW3]
        rotate_left
        focus
          have ha : Below wr.heap.size wr.drew (wr.drew.alloc (.cells #[.int .u8 0, .int .u8 0, .int .u8 0, .int .u8 0] 60)) := (Below.refl _ wr.drew).alloc (Nat.le_refl _) _
          have hb : Below wr.heap.size wr w2 := Below.trans (b := wr.drew) (below_drewN (Below.refl _ _) 1) (ha.trans (((unhide HB1).trans ((unhide HB2).mono hz1)).mono (by simp)))
          have T1 : Tail w D wr.heap.size q ((((w2.setCell ⟨wr.heap.size, 0, none⟩ (.int .u8 x0)).setCell ⟨wr.heap.size, 1, none⟩ (.int .u8 x1)).setCell ⟨wr.heap.size, 2, none⟩ (.int .u8 x2)).setCell ⟨wr.heap.size, 3, none⟩ (.int .u8 x3)) := by
            have hb' := (unhide HBj).trans (hb.mono (unhide HBj).size)
            have hz2 := (unhide HB2).size
            simp at hz1 hz2
            exact Tail.of_set hb' ((hb.block D (Array.getElem?_eq_some_iff.1 (unhide HKj)).1).trans (unhide HKj)) (by have := (unhide HBj).size; omega) (by omega) HQX.out m0 m1 m2 m3
          obtain ⟨G, hG⟩ : ∃ G, wr.heap.size = G := ⟨_, rfl⟩
          rw [hG] at T1
          rw [hG]
          obtain ⟨W3, hW3⟩ : ∃ W3, ((((w2.setCell ⟨G, 0, none⟩ (.int .u8 x0)).setCell ⟨G, 1, none⟩ (.int .u8 x1)).setCell ⟨G, 2, none⟩ (.int .u8 x2)).setCell ⟨G, 3, none⟩ (.int .u8 x3)) = W3 := ⟨_, rfl⟩
          rw [hW3] at T1
          rw [hW3]
        all_goals
          gi_wp2
          have hC4 : ∀ W4 gb, Below W3.heap.size W3 W4 → Blk W4 gb 29 #[.slice A p c, .slice (some ⟨G, 0, none⟩) 4 4, .slice A' zs.length C'] → Hid (Calls Try.prog 49 #[.slice (some ⟨gb, 0, none⟩) 3 3] W4 fun e w' => ∃ v, e = .returned v ∧ w'.ownsRow w.heap.size 5 1 v n ((bs.take p ++ (le4 q ++ zs)).map bv) ∧ Below w.heap.size w w' ∧ w'.heap[D]? = some (.deferred (some []))) :=
            fun W4 gb h1 h2 => hide (tail_concat T1 hr hBB hn (by omega) (hcut.more hBB) (by omega) h1 h2)
          clear hBy hTk hW3 HBj HKj HB1 HB2 hb
          refine wpIn_wide.2 ?_
          go_region_held3 (fun w' => True) (trivial) ((first
            | (go_at_call 49; refine (unhide (hC4 _ _ ?_ ?_)).mono ?_; exact ((Below.refl _ _).alloc (Nat.le_refl _) _).drew; exact (Blk.new _ _ _).drew; rintro e w5 ⟨v5, rfl, ho5, hb5, hd5⟩)))
          gi_wp2
          refine ⟨by simp, .inl ⟨_, _, rfl, run_takeDeferred hd5, ?_⟩⟩
          have hfin := done_put (by simp at hD; omega) hd5 ho5 hb5 (.deferred none)
          have hfg : forged bs p x = bs.take p ++ (le4 q ++ zs) := by
            unfold forged at4 fq
            rw [hP4, hzs, hy, hR0, hR, hT, hq]
          rw [hfg]
          exact ⟨.tuple #[v5, .int .i64 0], by simp [results, Try.results22, go_sem], v5, rfl, hfin.1, hfin.2⟩
  case stop =>
    rintro D c pre W _ _ h _
    exact h.elim
end Go.Proofs.Ytoipkpndfgcmcaa

/-
  Bits turned within 32 of one another: what they turn of the sum. Plain mathematics, no program in sight.
-/
namespace Go.Proofs.Ytoipkpndfgcmcaa
open Go.RowKit

/-- The bytes after k rounds. -/
def tl (bs : List UInt8) (p m : Nat) : Nat → List UInt8
  | 0 => bs
  | k + 1 => if (m / 2 ^ k) % 2 = 1 ∧ (p + k) / 8 < bs.length then (tl bs p m k).set ((p + k) / 8) ((tl bs p m k).getD ((p + k) / 8) 0 ^^^ UInt8.ofNat (2 ^ ((p + k) % 8))) else tl bs p m k
theorem tl_len (bs : List UInt8) (p m k : Nat) : (tl bs p m k).length = bs.length := by
  induction k with
  | zero => rfl
  | succ k ih => unfold tl; split <;> simp [ih]
/-- The mask's bits that meet one of the text's. -/
def met (L p m k : Nat) : Nat := m % 2 ^ (min k (8 * L - p))
theorem tl_crc (r : Nat) (bs : List UInt8) (p m k : Nat) (hp : p ≤ 8 * bs.length) : crc r (tl bs p m k) = crc r bs ^^^ sn (8 * bs.length - p) (met bs.length p m k) := by
  induction k with
  | zero => simp [tl, met, Nat.mod_one, sn_zero]
  | succ k ih =>
    unfold tl
    by_cases hin : (p + k) / 8 < bs.length
    · have hm : met bs.length p m (k + 1) = met bs.length p m k ^^^ (if (m / 2 ^ k) % 2 = 1 then 2 ^ k else 0) := by
        unfold met
        rw [Nat.min_eq_left (by omega), Nat.min_eq_left (by omega), bit_split]
      rw [hm, sn_xor, ← Nat.xor_assoc, ← ih]
      by_cases hb : (m / 2 ^ k) % 2 = 1
      · rw [if_pos ⟨hb, hin⟩, if_pos hb]
        have hj : (p + k) / 8 < (tl bs p m k).length := by rw [tl_len]; exact hin
        have hg : (tl bs p m k).getD ((p + k) / 8) 0 = (tl bs p m k)[(p + k) / 8] := by simp [List.getD, hj]
        rw [hg, crc_turn r _ _ hj, tl_len]
        congr 1
        have h1 : 2 ^ ((p + k) % 8) < 256 := Nat.lt_of_lt_of_le (Nat.pow_lt_pow_right (a := 2) (by omega) (Nat.mod_lt _ (by omega : 0 < 8))) (by decide)
        rw [UInt8.toNat_ofNat', Nat.mod_eq_of_lt h1]
        have e1 : ∀ a b : Nat, b ≤ a → sn a (2 ^ b) = sn (a - b) 1 := fun a b h => by
          have : a = (a - b) + b := by omega
          rw [this, sn_add, Nat.add_sub_cancel]
          have := sn_pow b 1
          rw [Nat.mul_one] at this
          rw [this]
        rw [e1 _ _ (by omega), e1 _ _ (by omega)]
        congr 1
        omega
      · rw [if_neg (fun h => hb h.1), if_neg hb, sn_zero, Nat.xor_zero]
    · rw [if_neg (fun h => hin h.2), ih]
      unfold met
      rw [Nat.min_eq_right (by omega), Nat.min_eq_right (by omega)]
theorem met_succ_in (L p m k : Nat) (h : (p + k) / 8 < L) : decide (met L p m (k + 1) ≠ 0) = (decide (met L p m k ≠ 0) || decide ((m / 2 ^ k) % 2 = 1)) := by
  unfold met
  rw [Nat.min_eq_left (by omega), Nat.min_eq_left (by omega), Nat.mod_pow_succ, Bool.eq_iff_iff]
  have := Nat.two_pow_pos k
  simp only [Bool.or_eq_true, decide_eq_true_eq]
  rcases Nat.mod_two_eq_zero_or_one (m / 2 ^ k) with h | h <;> rw [h]
  · simp
  · simp
theorem met_succ_out (L p m k : Nat) (h : ¬ (p + k) / 8 < L) : met L p m (k + 1) = met L p m k := by
  unfold met
  rw [Nat.min_eq_right (by omega), Nat.min_eq_right (by omega)]
theorem met_lt (L p m k : Nat) (h : m < U32) : met L p m k < U32 := Nat.lt_of_le_of_lt (Nat.mod_le _ _) h

/-- What the bits turn of the sum. -/
theorem upd_turned (bs : List UInt8) (p m : Nat) (hp : p ≤ 8 * bs.length) : upd 0 (tl bs p m 32) = upd 0 bs ^^^ sn (8 * bs.length - p) (met bs.length p m 32) := by
  unfold upd
  rw [tl_crc _ _ _ _ _ hp, Nat.xor_assoc, Nat.xor_assoc, Nat.xor_comm ONES]
theorem xor_turned (bs : List UInt8) (p m : Nat) (hp : p ≤ 8 * bs.length) : upd 0 bs ^^^ upd 0 (tl bs p m 32) = sn (8 * bs.length - p) (met bs.length p m 32) := by
  rw [upd_turned _ _ _ hp, ← Nat.xor_assoc, Nat.xor_self, Nat.zero_xor]
theorem whole_turned (bs : List UInt8) (p m : Nat) (hm : m < U32) (hp : p ≤ 8 * (sealed bs).length) : whole (tl (sealed bs) p m 32) = !decide (met (sealed bs).length p m 32 ≠ 0) := by
  have h := whole_sealed bs
  rw [whole_sum] at h
  have hl : decide (4 ≤ (sealed bs).length) = true := by simp [sealed, le4_len]
  rw [hl, Bool.true_and, beq_iff_eq] at h
  rw [whole_sum, tl_len, hl, Bool.true_and, upd_turned _ _ _ hp, h]
  have hz := sn_ne (n := 8 * (sealed bs).length - p) (met_lt (sealed bs).length p m 32 hm)
  by_cases h0 : met (sealed bs).length p m 32 = 0
  · rw [h0, sn_zero]
    rfl
  · have h1 : sn (8 * (sealed bs).length - p) (met (sealed bs).length p m 32) ≠ 0 := fun e => h0 (hz.1 e)
    have : decide (met (sealed bs).length p m 32 ≠ 0) = true := by simpa using h0
    rw [this]
    simp only [Bool.not_true, beq_eq_false_iff_ne]
    intro e
    apply h1
    have := congrArg (558161692 ^^^ ·) e
    simpa [← Nat.xor_assoc] using this
end Go.Proofs.Ytoipkpndfgcmcaa

namespace Go.Proofs.Ytoipkpndfgcmcaa
open Go.RowKit

def hits (L p m k : Nat) : Bool := decide (met L p m k ≠ 0)
/-- A number from 0 to n. -/
def plc (k : Int) (n : Nat) : Nat := (if k.tmod ((n : Int) + 1) < 0 then k.tmod ((n : Int) + 1) + n + 1 else k.tmod ((n : Int) + 1)).toNat
theorem tmod_bd (k : Int) (n : Nat) : -((n : Int) + 1) < k.tmod ((n : Int) + 1) ∧ k.tmod ((n : Int) + 1) < (n : Int) + 1 := by
  have h1 := Int.tmod_lt_of_pos k (b := (n : Int) + 1) (by omega)
  have h2 := Int.lt_tmod_of_pos k (b := (n : Int) + 1) (by omega)
  exact ⟨h2, h1⟩
theorem plc_le (k : Int) (n : Nat) : plc k n ≤ n := by
  have := tmod_bd k n
  unfold plc
  split <;> omega
theorem place_any (k : Int) (n : Nat) (w : World) (_h1 : -9223372036854775808 ≤ k) (_h2 : k ≤ 9223372036854775807) (hn : n ≤ 4611686018427387904) :
    Calls Try.prog 36 #[.int .i64 k, .int .i64 (n : Int)] w fun e w' => e = .returned (.int .i64 (plc k n : Nat)) ∧ w = w' := by
  have hb := tmod_bd k n
  have hp : plc k n = (if k.tmod ((n : Int) + 1) < 0 then k.tmod ((n : Int) + 1) + n + 1 else k.tmod ((n : Int) + 1)).toNat := rfl
  obtain ⟨m, hm⟩ : ∃ m, k.tmod ((n : Int) + 1) = m := ⟨_, rfl⟩
  rw [hm] at hb hp
  have hw : IntKind.i64.wrap ((n : Int) + 1) = (n : Int) + 1 := IntWalk.i64_in _ (by omega)
  have hw2 : IntKind.i64.wrap m = m := IntWalk.i64_in _ (by omega)
  have hz : ((n : Int) + 1 == 0) = false := by simp; omega
  have hz' : ¬ ((n : Int) + 1 = 0) := by omega
  by_cases hneg : m < 0
  · have hp' : ((plc k n : Nat) : Int) = m + n + 1 := by rw [hp, if_pos hneg]; omega
    rw [hp']
    have hw3 : IntKind.i64.wrap (m + (n : Int)) = m + (n : Int) := IntWalk.i64_in _ (by omega)
    have hw4 : IntKind.i64.wrap (m + (n : Int) + 1) = m + (n : Int) + 1 := IntWalk.i64_in _ (by omega)
    clear hp hp'
    go_enter Try.func36, Try.ntmps36
    go_wp2
    go_ret
    exact ⟨rfl, rfl⟩
  · have hp' : ((plc k n : Nat) : Int) = m := by rw [hp, if_neg hneg]; omega
    rw [hp']
    clear hp hp'
    go_enter Try.func36, Try.ntmps36
    go_wp2
    go_ret
    exact ⟨rfl, rfl⟩

theorem turn_val (d : UInt8) (I : Nat) (hI : I < 8) : bits BinOp.xor IntKind.u8 (d.toNat : Int) (2 ^ I % 256) = ((d ^^^ UInt8.ofNat (2 ^ I)).toNat : Int) := by
  have h1 : 2 ^ I < 256 := Nat.lt_of_lt_of_le (Nat.pow_lt_pow_right (a := 2) (by omega) hI) (by decide)
  have h2 : ((2 : Int) ^ I) % 256 = ((2 ^ I : Nat) : Int) := by
    rw [show ((2 : Int) ^ I) = ((2 ^ I : Nat) : Int) by simp]
    generalize 2 ^ I = X at h1 ⊢
    omega
  rw [h2, u8_xor_nat _ _ d.toNat_lt h1, UInt8.toNat_xor, UInt8.toNat_ofNat', Nat.mod_eq_of_lt h1]

set_option maxRecDepth 100000 in
set_option maxHeartbeats 800000 in
theorem turned_any (A : Option Addr) (n c B p m : Nat) (bs : List UInt8) (w : World) (hr : Reads w B 1 A n (bs.map bv)) (hn : n ≤ 140737488355328) (_hB : B ≤ w.heap.size) (hp : p ≤ 8 * n) (_hm : m < U32) :
    Calls Try.prog 35 #[.slice A n c, .int .i64 (p : Int), .int .u32 (m : Int)] w fun e w' => ∃ v, e = .returned (.tuple #[v, .bool (hits n p m 32)]) ∧ w'.ownsRow w.heap.size 5 1 v n ((tl bs p m 32).map bv) ∧ Below w.heap.size w w' := by
  have hlen : bs.length = n := by have := hr.1; simpa using this
  have HC : Hid (0 + n ≤ maxLen ∧ (0 + n) * 1 ≤ 140737488355328) := cap1 (by omega)
  go_enter Try.func35, Try.ntmps35
  go_wp2_with (first | (at_builtin; refine wpList_app _ rfl (.tmp 12) (.tmp 13) 29 rfl elem_u8 w.heap.size (.slice none 0 0) 0 [] rfl (World.ownsRow_nil _ _ _ _) B A n c _ rfl hr (bv_one _) HC.out (Nat.le_refl _) ?_; intro v1 w1 hown1 hg1 hat1))
  have HB : Hid (Below w.heap.size w w1) := grownBy_below hg1 (Nat.le_refl _) (by simp [Value.ownBlock])
  clear hg1 hat1 hr
  rw [Nat.zero_add, List.nil_append] at hown1
  obtain ⟨A1, c1, rfl⟩ := hown1.shape
  go_loopg [9, 10] 32 (fun q y t wr => ∃ k : Nat, k + q = 32 ∧ t = .int .i64 (k : Int) ∧ y = .bool (hits n p m k) ∧ wr.ownsRow w.heap.size 5 1 (.slice A1 n c1) n ((tl bs p m k).map bv) ∧ Below w.heap.size w wr)
  case atStart => exact ⟨0, rfl, rfl, by simp [hits, met, Nat.mod_one], hown1, HB.out⟩
  case round =>
    obtain ⟨k, hk, rfl, rfl, ho, hb⟩ := hrel
    clear hown1 HB HC
    by_cases hlt : k < 32
    · obtain ⟨q, rfl⟩ : ∃ q, gk = q + 1 := ⟨gk - 1, by omega⟩
      obtain ⟨N, hN⟩ : ∃ N, p + k = N := ⟨_, rfl⟩
      have hsum : IntKind.i64.wrap ((p : Int) + (k : Int)) = (N : Int) := by rw [IntWalk.i64_in _ (by omega)]; omega
      by_cases hbit : (m / 2 ^ k) % 2 = 1
      · have ht : (((m : Int) / 2 ^ k).tmod 2 == 1) = true := by
          rw [tmod_bit, hbit]
          rfl
        by_cases hin : N / 8 < n
        · obtain ⟨J, hJ⟩ : ∃ J, N / 8 = J := ⟨_, rfl⟩
          obtain ⟨I, hI⟩ : ∃ I, N % 8 = I := ⟨_, rfl⟩
          have hI8 : I < 8 := by omega
          rw [hJ] at hin
          have hq : (N : Int).tdiv 8 = (J : Int) := by rw [Int.tdiv_eq_ediv_of_nonneg (by omega)]; omega
          have hm8 : (N : Int).tmod 8 = (I : Int) := by rw [Int.tmod_eq_emod_of_nonneg (by omega)]; omega
          have hTl := tl_len bs p m k
          obtain ⟨zs, hzs⟩ : ∃ zs, tl bs p m k = zs := ⟨_, rfl⟩
          rw [hzs] at ho hTl
          obtain ⟨g, cap, hv, hgw, _⟩ := ho.form (by omega)
          injection hv with e1 e2 e3
          subst e1 e3
          obtain ⟨d, hd⟩ : ∃ d, zs[J]? = some d := ⟨_, List.getElem?_eq_getElem (by omega)⟩
          have hcz : wr.cell? ⟨g, J, none⟩ = some (.int .u8 (d.toNat : Int)) := by rw [ho.cellAt J (by omega), List.getElem?_map, hd]; rfl
          have hfz : wr.frozen? ⟨g, J, none⟩ = false := ho.frozenAt J
          have hJ0 : (0 : Int) ≤ (J : Int) := by omega
          have hJ1 : (J : Int) < (n : Int) := by omega
          have HX := hide (turn_val d I hI8)
          have hT1 : tl bs p m (k + 1) = zs.set J (d ^^^ UInt8.ofNat (2 ^ I)) := by
            unfold tl
            rw [if_pos ⟨hbit, by rw [hN, hJ, hlen]; exact hin⟩, hzs, hN, hJ, hI]
            simp [List.getD, hd]
          have hM1 : hits n p m (k + 1) = true := by
            rw [hits, met_succ_in n p m k (by rw [hN, hJ]; exact hin), hbit]
            simp
          have HZ := hide (ho.stored J (.int .u8 (bits BinOp.xor IntKind.u8 (d.toNat : Int) (2 ^ I % 256))))
          have HT := Lib.hid hT1
          have HM := Lib.hid hM1
          have HB := hide (hb.setCell (p := ⟨g, J, none⟩) hgw (.int .u8 (bits BinOp.xor IntKind.u8 (d.toNat : Int) (2 ^ I % 256))))
          clear ho hb hzs hT1 hM1 hd hTl
          go_wp2
          go_roundg q
          case rel => exact ⟨k + 1, by omega, by go_num, by rw [HM.out], by rw [HT.out, List.map_set, bv, ← (unhide HX)]; exact (unhide HZ).1, unhide HB⟩
          case measure => omega
        · have hq : (N : Int).tdiv 8 = ((N / 8 : Nat) : Int) := by rw [Int.tdiv_eq_ediv_of_nonneg (by omega)]; omega
          obtain ⟨J, hJ⟩ : ∃ J, N / 8 = J := ⟨_, rfl⟩
          rw [hJ] at hq
          have hJn : ¬ ((J : Int) < (n : Int)) := by omega
          have hM1 : hits n p m (k + 1) = hits n p m k := by rw [hits, hits, met_succ_out n p m k (by rw [hN]; exact hin)]
          have hT1 : tl bs p m (k + 1) = tl bs p m k := by
            rw [tl, if_neg (fun h => hin (by rw [← hN, ← hlen]; exact h.2))]
          rw [← hM1]
          rw [← hT1] at ho
          have HO := hide ho
          have HB := hide hb
          clear ho hb hM1 hT1
          go_wp2
          go_roundg q
          case rel => exact ⟨k + 1, by omega, by go_num, rfl, unhide HO, unhide HB⟩
          case measure => omega
      · have h0 : m / 2 ^ k % 2 = 0 := by omega
        have ht : (((m : Int) / 2 ^ k).tmod 2 == 1) = false := by
          rw [tmod_bit, h0]
          rfl
        have hT1 : tl bs p m (k + 1) = tl bs p m k := by
          rw [tl, if_neg (fun h => hbit h.1)]
        have hM1 : hits n p m (k + 1) = hits n p m k := by
          by_cases hin : (p + k) / 8 < n
          · rw [hits, met_succ_in n p m k hin, h0]
            simp [hits]
          · rw [hits, met_succ_out n p m k hin]; rfl
        rw [← hM1]
        rw [← hT1] at ho
        have HO := hide ho
        have HB := hide hb
        clear ho hb hM1 hT1
        go_wp2
        go_roundg q
        case rel => exact ⟨k + 1, by omega, by go_num, rfl, unhide HO, unhide HB⟩
        case measure => omega
    · obtain rfl : k = 32 := by omega
      have HO := hide ho
      have HB := hide hb
      clear ho hb
      go_wp2
      go_ret2
      exact ⟨_, rfl, unhide HO, unhide HB⟩
end Go.Proofs.Ytoipkpndfgcmcaa
