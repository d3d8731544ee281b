/-
  The document's answer for columns: Laid, Sizes, Way, Encode: the walks over the Go text. Condition: at most 2^20 numbers.
-/
import Derived.Test.YteambdbcjcfdeaaColRefPack
import Derived.Test.YteambdbcjcfdeaaColRefRun
import Derived.Test.YteambdbcjcfdeaaColPrefix
namespace Go.Proofs.Yteambdbcjcfdeaa
open Go.RowKit

/-- The four ways' bytes, in a list of lists. -/
def Fourw (c : List UInt32) (w W : World) (g : Nat) (v1 v2 v3 v4 : Value) : Prop :=
  Blk W g 24 #[v1, v2, v3, v4] ∧ w.heap.size ≤ g ∧ Bo w W v1 (plainS c) ∧ Bo w W v2 (deltaS c) ∧ Bo w W v3 (runS c) ∧ Bo w W v4 (packS c)
set_option maxRecDepth 100000 in
theorem rlaid_any (c : List UInt32) (A : Option Addr) (n cap B : Nat) (w : World) (hr : Reads w B 1 A n (c.map uw)) (hB : B ≤ w.heap.size) (hN : n ≤ 1048576) :
    Calls Try.prog 31 #[.slice A n cap] w fun e w' => ∃ g v1 v2 v3 v4, e = .returned (.slice (some ⟨g, 0, none⟩) 4 4) ∧ Fourw c w w' g v1 v2 v3 v4 := by
  have HR := hide hr
  have h1 := hide (rplain_any c A n cap B w hr hB hN)
  clear hr
  go_enter Try.func31, Try.ntmps31
  go_wp2_with fail
  refine (unhide h1).mono ?_
  rintro e w1 ⟨v1, rfl, hb1⟩
  have h2 := hide (rdelta_any c A n cap B w1 ((unhide HR).below (hb1.2.mono hB)) (Nat.le_trans hB hb1.2.size) hN)
  have HB1 := hide hb1
  clear h1 hb1
  go_wp2_with fail
  refine (unhide h2).mono ?_
  rintro e w2 ⟨v2, rfl, hb2⟩
  have HB2 := hide (⟨(unhide HB1).below hb2.2, hb2.1.base (unhide HB1).2.size, (unhide HB1).2.trans (hb2.2.mono (unhide HB1).2.size)⟩ : Bo w w2 v1 (plainS c) ∧ Bo w w2 v2 (deltaS c))
  have hbw := (unhide HB2).1.2
  have h3 := hide (rrun_any c A n cap B w2 ((unhide HR).below (hbw.mono hB)) (Nat.le_trans hB hbw.size) hN)
  clear h2 hb2 hbw HB1
  go_wp2_with fail
  refine (unhide h3).mono ?_
  rintro e w3 ⟨v3, rfl, hb3⟩
  have HB3 := hide (⟨(unhide HB2).1.below hb3.2, (unhide HB2).2.below hb3.2, hb3.1.base (unhide HB2).1.2.size, (unhide HB2).1.2.trans (hb3.2.mono (unhide HB2).1.2.size)⟩ : Bo w w3 v1 (plainS c) ∧ Bo w w3 v2 (deltaS c) ∧ Bo w w3 v3 (runS c))
  have hbw := (unhide HB3).1.2
  have h4 := hide (rpacked_any c A n cap B w3 ((unhide HR).below (hbw.mono hB)) (Nat.le_trans hB hbw.size) hN)
  clear h3 hb3 hbw HB2
  go_wp2_with fail
  refine (unhide h4).mono ?_
  rintro e w4 ⟨v4, rfl, hb4⟩
  have HB4 := hide (⟨(unhide HB3).1.below hb4.2, (unhide HB3).2.1.below hb4.2, (unhide HB3).2.2.below hb4.2, hb4.1.base (unhide HB3).1.2.size, (unhide HB3).1.2.trans (hb4.2.mono (unhide HB3).1.2.size)⟩ : Bo w w4 v1 (plainS c) ∧ Bo w w4 v2 (deltaS c) ∧ Bo w w4 v3 (runS c) ∧ Bo w w4 v4 (packS c))
  clear h4 hb4 HB3
  obtain ⟨A1, c1, rfl⟩ := (unhide HB4).1.1.shape
  obtain ⟨A2, c2, rfl⟩ := (unhide HB4).2.1.1.shape
  obtain ⟨A3, c3, rfl⟩ := (unhide HB4).2.2.1.1.shape
  obtain ⟨A4, c4, rfl⟩ := (unhide HB4).2.2.2.1.shape
  obtain ⟨s1, hs1⟩ : ∃ s, (plainS c).length = s := ⟨_, rfl⟩
  obtain ⟨s2, hs2⟩ : ∃ s, (deltaS c).length = s := ⟨_, rfl⟩
  obtain ⟨s3, hs3⟩ : ∃ s, (runS c).length = s := ⟨_, rfl⟩
  obtain ⟨s4, hs4⟩ : ∃ s, (packS c).length = s := ⟨_, rfl⟩
  rw [hs1, hs2, hs3, hs4] at HB4
  rw [hs1, hs2, hs3, hs4]
  clear hs1 hs2 hs3 hs4
  go_wp2_with fail
  go_ret
  have hb : Below w4.heap.size w4 (w4.alloc (.cells #[.slice A1 s1 c1, .slice A2 s2 c2, .slice A3 s3 c3, .slice A4 s4 c4] 24)) := (Below.refl _ _).alloc (Nat.le_refl _) _
  exact ⟨w4.heap.size, _, _, _, _, rfl, Blk.new _ _ _, (unhide HB4).1.2.size, (unhide HB4).1.below hb, (unhide HB4).2.1.below hb, (unhide HB4).2.2.1.below hb, (unhide HB4).2.2.2.below hb⟩

set_option maxRecDepth 100000 in
theorem rsizes_any (c : List UInt32) (A : Option Addr) (n cap B : Nat) (w : World) (hr : Reads w B 1 A n (c.map uw)) (hB : B ≤ w.heap.size) (hN : n ≤ 1048576) :
    Calls Try.prog 14 #[.slice A n cap] w fun e w' => e = .returned (.agg #[.int .i64 ((plainS c).length : Nat), .int .i64 ((deltaS c).length : Nat), .int .i64 ((runS c).length : Nat), .int .i64 ((packS c).length : Nat)]) ∧ Below w.heap.size w w' := by
  obtain ⟨W0, hW0⟩ : ∃ W, w.alloc (.cells #[.int .i64 0, .int .i64 0, .int .i64 0, .int .i64 0] 30) = W := ⟨_, rfl⟩
  have hx0 : Blk W0 w.heap.size 30 (c4 0 0 0 0) := by rw [← hW0]; exact Blk.new _ _ _
  have hb0 : Below w.heap.size w W0 := by rw [← hW0]; exact (Below.refl _ _).alloc (Nat.le_refl _) _
  have hL := hide (rlaid_any c A n cap B W0 (hr.below (hb0.mono hB)) (Nat.le_trans hB hb0.size) hN)
  have HX0 := hide hx0
  have HB0 := hide hb0
  clear hr hx0 hb0
  go_enter Try.func14, Try.ntmps14
  go_wp2_with fail
  refine (unhide hL).mono ?_
  rintro e w1 ⟨g, v1, v2, v3, v4, rfl, hbk, hg, hb1, hb2, hb3, hb4⟩
  obtain ⟨A1, c1, rfl⟩ := hb1.1.shape
  obtain ⟨A2, c2, rfl⟩ := hb2.1.shape
  obtain ⟨A3, c3, rfl⟩ := hb3.1.shape
  obtain ⟨A4, c4', rfl⟩ := hb4.1.shape
  obtain ⟨s1, hs1⟩ : ∃ s, (plainS c).length = s := ⟨_, rfl⟩
  obtain ⟨s2, hs2⟩ : ∃ s, (deltaS c).length = s := ⟨_, rfl⟩
  obtain ⟨s3, hs3⟩ : ∃ s, (runS c).length = s := ⟨_, rfl⟩
  obtain ⟨s4, hs4⟩ : ∃ s, (packS c).length = s := ⟨_, rfl⟩
  have hx1 := (unhide HX0).below hb1.2 (unhide HX0).lt
  have HB1 := hide ((unhide HB0).trans (hb1.2.mono (unhide HB0).size))
  rw [hs1, hs2, hs3, hs4] at hbk
  have HS := hide (And.intro hs1 (And.intro hs2 (And.intro hs3 hs4)))
  have q1 := hbk.cell 0
  have q2 := hbk.cell 1
  have q3 := hbk.cell 2
  have q4 := hbk.cell 3
  have f0 : ∀ i, w1.frozen? ⟨w.heap.size, i, none⟩ = false := fun i => hx1.frozen i
  have z0 : w1.cell? ⟨w.heap.size, 0, none⟩ = some (.int .i64 0) := hx1.cell 0
  have z1 : w1.cell? ⟨w.heap.size, 1, none⟩ = some (.int .i64 0) := hx1.cell 1
  have z2 : w1.cell? ⟨w.heap.size, 2, none⟩ = some (.int .i64 0) := hx1.cell 2
  have z3 : w1.cell? ⟨w.heap.size, 3, none⟩ = some (.int .i64 0) := hx1.cell 3
  simp at q1 q2 q3 q4
  have HX1 := hide hx1
  clear hb1 hb2 hb3 hb4 hs1 hs2 hs3 hs4 hbk hx1 HX0 HB0 hL hW0
  go_wp2_with fail
  refine region_tail 17 (by kernel_rfl) (by kernel_rfl) fun V hV => ?_
  simp only [List.take_succ_cons, List.take_zero, List.drop_succ_cons, List.drop_zero]
  have hVk : ∀ p, V.cell? p = w1.cell? p := fun p => by rw [← hV]; rfl
  have hVf : ∀ p, V.frozen? p = w1.frozen? p := fun p => by rw [← hV]; rfl
  rw [← hVk] at q1 q2 q3 q4 z0 z1 z2 z3
  simp only [← hVf] at f0
  have hBV : Below w.heap.size w V := by rw [← hV]; exact (unhide HB1).drew
  have hxV : Blk V w.heap.size 30 (c4 0 0 0 0) := by rw [← hV]; exact (unhide HX1).drew
  have hxR := (((hxV.set_ 0 (.int .i64 (s1 : Int))).set_ 1 (.int .i64 (s2 : Int))).set_ 2 (.int .i64 (s3 : Int))).set_ 3 (.int .i64 (s4 : Int))
  have hBR := (((hBV.setCell (p := ⟨w.heap.size, 0, none⟩) (Nat.le_refl _) (.int .i64 (s1 : Int))).setCell (p := ⟨w.heap.size, 1, none⟩) (Nat.le_refl _) (.int .i64 (s2 : Int))).setCell (p := ⟨w.heap.size, 2, none⟩) (Nat.le_refl _) (.int .i64 (s3 : Int))).setCell (p := ⟨w.heap.size, 3, none⟩) (Nat.le_refl _) (.int .i64 (s4 : Int))
  have HXR := hide hxR
  have HBR := hide hBR
  clear hxV hxR hBR hBV
  clear hVk hVf hV
  repeat still_step
  refine wpStill_nil ?_
  go_wp2_with fail
  obtain ⟨WR, hWR⟩ : ∃ W, ((((V.setCell ⟨w.heap.size, 0, none⟩ (.int .i64 (s1 : Int))).setCell ⟨w.heap.size, 1, none⟩ (.int .i64 (s2 : Int))).setCell ⟨w.heap.size, 2, none⟩ (.int .i64 (s3 : Int))).setCell ⟨w.heap.size, 3, none⟩ (.int .i64 (s4 : Int))) = W := ⟨_, rfl⟩
  rw [hWR] at HXR HBR ⊢
  have r0 : WR.cell? ⟨w.heap.size, 0, none⟩ = some (.int .i64 (s1 : Int)) := (unhide HXR).cell 0
  have r1 : WR.cell? ⟨w.heap.size, 1, none⟩ = some (.int .i64 (s2 : Int)) := (unhide HXR).cell 1
  have r2 : WR.cell? ⟨w.heap.size, 2, none⟩ = some (.int .i64 (s3 : Int)) := (unhide HXR).cell 2
  have r3 : WR.cell? ⟨w.heap.size, 3, none⟩ = some (.int .i64 (s4 : Int)) := (unhide HXR).cell 3
  exact bodyPost_ret (v := .agg #[.int .i64 (s1 : Int), .int .i64 (s2 : Int), .int .i64 (s3 : Int), .int .i64 (s4 : Int)]) (by simp [results, Try.results14, go_sem, r0, r1, r2, r3]) rfl ⟨by rw [(unhide HS).1, (unhide HS).2.1, (unhide HS).2.2.1, (unhide HS).2.2.2], unhide HBR⟩

theorem least_way {a b c d z : Nat} (hz : z < 4) (h : ∀ i, i < 4 → sz4 a b c d z ≤ sz4 a b c d i ∧ (sz4 a b c d i = sz4 a b c d z → z ≤ i)) : wayOf a b c d = z + 1 := by
  have hr := wayOf_range a b c d
  obtain ⟨y, hy⟩ : ∃ y, wayOf a b c d = y + 1 := ⟨wayOf a b c d - 1, by omega⟩
  obtain ⟨hy4, hl⟩ := way_least hy
  have h1 := hl z hz
  have h2 := h y hy4
  have e : sz4 a b c d z = sz4 a b c d y := Nat.le_antisymm h2.1 h1.1
  have h3 := h1.2 e
  have h4 := h2.2 e.symm
  omega
set_option maxRecDepth 100000 in
theorem rway_any (c : List UInt32) (A : Option Addr) (n cap B : Nat) (w : World) (hr : Reads w B 1 A n (c.map uw)) (hB : B ≤ w.heap.size) (hN : n ≤ 1048576) :
    Calls Try.prog 16 #[.slice A n cap] w fun e w' => e = .returned (.int .i64 (wayS c : Nat)) ∧ Below w.heap.size w w' := by
  have hS := rsizes_any c A n cap B w hr hB hN
  have hwy : wayS c = wayOf (plainS c).length (deltaS c).length (runS c).length (packS c).length := rfl
  obtain ⟨s0, hs0⟩ : ∃ s, (plainS c).length = s := ⟨_, rfl⟩
  obtain ⟨s1, hs1⟩ : ∃ s, (deltaS c).length = s := ⟨_, rfl⟩
  obtain ⟨s2, hs2⟩ : ∃ s, (runS c).length = s := ⟨_, rfl⟩
  obtain ⟨s3, hs3⟩ : ∃ s, (packS c).length = s := ⟨_, rfl⟩
  rw [hs0, hs1, hs2, hs3] at hS hwy
  have HS := hide hS
  have HWY := Lib.hid hwy
  clear hs0 hs1 hs2 hs3 hS hr hwy
  go_enter Try.func16, Try.ntmps16
  go_wp2_with fail
  refine (unhide HS).mono ?_
  rintro e w1 ⟨rfl, hb1⟩
  have hx : Blk (w1.alloc (.cells #[.int .i64 (s0 : Int), .int .i64 (s1 : Int), .int .i64 (s2 : Int), .int .i64 (s3 : Int)] 30)) w1.heap.size 30 (c4 s0 s1 s2 s3) := Blk.new _ _ _
  have hb := hb1.alloc hb1.size (.cells #[.int .i64 (s0 : Int), .int .i64 (s1 : Int), .int .i64 (s2 : Int), .int .i64 (s3 : Int)] 30)
  have HX := hide hx
  have HB := hide hb
  obtain ⟨g, hg⟩ : ∃ g, w1.heap.size = g := ⟨_, rfl⟩
  rw [hg] at HX
  clear hx hb hb1 HS
  go_wp2_with fail
  go_loopg [4, 5] 3 (fun q t u W => ∃ z i : Nat, i + q = 4 ∧ u = .int .i64 (i : Int) ∧ t = .int .i64 (z : Int) ∧ z < i ∧ (∀ j, j < i → sz4 s0 s1 s2 s3 z ≤ sz4 s0 s1 s2 s3 j ∧ (sz4 s0 s1 s2 s3 j = sz4 s0 s1 s2 s3 z → z ≤ j)) ∧ Blk W g 30 (c4 s0 s1 s2 s3) ∧ Below w.heap.size w W)
  case atStart => exact ⟨0, 1, by omega, rfl, rfl, by omega, fun j hj => by have h : j = 0 := by omega
                                                                            rw [h]; exact ⟨Nat.le_refl _, fun _ => Nat.le_refl _⟩, unhide HX, unhide HB⟩
  case round =>
    obtain ⟨z, i, hi, rfl, rfl, hzi, hmin, hx, hb⟩ := hrel
    clear HX HB
    have HX := hide hx
    have HB := hide hb
    have HMIN := hide hmin
    by_cases hlt : i < 4
    · obtain ⟨q, rfl⟩ : ∃ q, gk = q + 1 := ⟨gk - 1, by omega⟩
      have hiI : (i : Int) < 4 := by omega
      have hiI0 : (0 : Int) ≤ (i : Int) := by omega
      have hzI : (z : Int) < 4 := by omega
      have hzI0 : (0 : Int) ≤ (z : Int) := by omega
      obtain ⟨f, hf⟩ : ∃ f, sz4 s0 s1 s2 s3 i = f := ⟨_, rfl⟩
      obtain ⟨m, hm⟩ : ∃ f, sz4 s0 s1 s2 s3 z = f := ⟨_, rfl⟩
      have qi : wr.cell? ⟨g, i, none⟩ = some (.int .i64 (f : Int)) := by rw [hx.cell i, c4_at _ _ _ _ hlt, hf]
      have qz : wr.cell? ⟨g, z, none⟩ = some (.int .i64 (m : Int)) := by rw [hx.cell z, c4_at _ _ _ _ (by omega), hm]
      have HF := Lib.hid hf
      have HM := Lib.hid hm
      clear hx hb hf hm hmin
      by_cases hfm : f < m
      · have hfI : (f : Int) < (m : Int) := by omega
        go_wp2_with fail
        go_quiet (fail)
        rename_i nq
        go_wp2_with fail
        go_roundg q
        case rel =>
          refine ⟨i, i + 1, by omega, by go_num, rfl, by omega, ?_, (unhide HX).drewN nq, below_drewN (unhide HB) nq⟩
          intro j hj
          rw [HF.out]
          by_cases e : j = i
          · rw [e, HF.out]; exact ⟨Nat.le_refl _, fun _ => Nat.le_refl _⟩
          · have h := (unhide HMIN) j (by omega)
            rw [HM.out] at h
            exact ⟨by omega, fun e => by omega⟩
        case measure => omega
      · have hfI : ¬ (f : Int) < (m : Int) := by omega
        go_wp2_with fail
        go_quiet (fail)
        rename_i nq
        go_wp2_with fail
        go_roundg q
        case rel =>
          refine ⟨z, i + 1, by omega, by go_num, rfl, by omega, ?_, (unhide HX).drewN nq, below_drewN (unhide HB) nq⟩
          intro j hj
          rw [HM.out]
          by_cases e : j = i
          · rw [e, HF.out]; exact ⟨by omega, fun _ => by omega⟩
          · have h := (unhide HMIN) j (by omega)
            rw [HM.out] at h
            exact h
        case measure => omega
    · obtain rfl : i = 4 := by omega
      have HEQ := Lib.hid (show wayS c = z + 1 by rw [HWY.out]; exact least_way hzi hmin)
      clear hx hb hmin
      go_wp2_with fail
      go_ret
      exact ⟨by rw [HEQ.out]; rfl, unhide HB⟩

set_option maxRecDepth 100000 in
theorem rencode_any (c : List UInt32) (A : Option Addr) (n cap B : Nat) (w : World) (hr : Reads w B 1 A n (c.map uw)) (hB : B ≤ w.heap.size) (hn : n ≤ 65536) :
    Calls Try.prog 11 #[.slice A n cap] w fun e w' => ∃ v, e = .returned (.tuple #[v, .int .i64 0]) ∧ Bo w w' v (pageS c) := by
  have hW := rway_any c A n cap B w hr hB (by omega)
  have hwr := wayS_range c
  obtain ⟨z, hz⟩ : ∃ z, wayS c = z + 1 := ⟨wayS c - 1, by omega⟩
  have hlz : pageS c = UInt8.ofNat (z + 1) :: laidS (z + 1) c := by rw [pageS, hz]
  have hlen : c.length = n := by have := hr.1; simpa using this
  have hl5 := page_len c
  rw [hlz, List.length_cons, hlen] at hl5
  obtain ⟨y, hy⟩ : ∃ y, wayS c = y := ⟨_, rfl⟩
  have hyz : y = z + 1 := by rw [← hy, hz]
  rw [hy] at hW hwr
  rw [← hyz] at hlz hl5
  have HR := hide hr
  have HW := hide hW
  have HLZ := Lib.hid hlz
  obtain ⟨L, hL⟩ : ∃ L, (laidS y c).length = L := ⟨_, rfl⟩
  rw [hL] at hl5
  have HL := Lib.hid hL
  have HYZ := Lib.hid hyz
  clear hr hW hlz hlen hL hz hy hyz
  go_enter Try.func11, Try.ntmps11
  go_wp2_with fail
  refine (unhide HW).mono ?_
  rintro e w1 ⟨rfl, hb1⟩
  obtain ⟨W2, hW2⟩ : ∃ W, w1.alloc (.cells #[.int .u8 (y : Int)] 5) = W := ⟨_, rfl⟩
  obtain ⟨g, hg⟩ : ∃ g, w1.heap.size = g := ⟨_, rfl⟩
  have hyz := HYZ.out
  have hblk : Blk W2 g 5 (([UInt8.ofNat y]).map bv).toArray := by
    rw [show (([UInt8.ofNat y]).map bv).toArray = #[.int .u8 (y : Int)] by rw [bv_nat y (by omega)]; rfl, ← hW2, ← hg]; exact Blk.new _ _ _
  have hbw : Below w.heap.size w W2 := by rw [← hW2]; exact hb1.alloc hb1.size _
  have hbo : Bo w W2 (.slice (some ⟨g, 0, none⟩) 1 1) [UInt8.ofNat y] := ⟨own_blk hblk rfl (by rw [← hg]; exact hb1.size) (by unfold maxLen; omega), hbw⟩
  have hLd := hide (rlaid_any c A n cap B W2 ((unhide HR).below (hbw.mono hB)) (Nat.le_trans hB hbw.size) (by omega))
  have HBO := hide hbo
  have hwy : IntKind.u8.wrap (y : Int) = (y : Int) := by rw [IntWalk.u8_in _ (by omega)]
  clear hyz hblk hbw hbo hb1 HW
  go_wp2_with fail
  refine (unhide hLd).mono ?_
  rintro e w3 ⟨g3, v1, v2, v3, v4, rfl, hbk, hg3, hb1, hb2, hb3, hb4⟩
  have hyz := HYZ.out
  obtain ⟨v, hv, hcell, hbv⟩ : ∃ v, Bo W2 w3 v (laidS y c) ∧ w3.cell? ⟨g3, z, none⟩ = some v ∧ True := by
    rcases four_of (show z < 4 by omega) with rfl | rfl | rfl | rfl
    · exact ⟨v1, by rw [hyz]; exact hb1, hbk.cell 0, trivial⟩
    · exact ⟨v2, by rw [hyz]; exact hb2, hbk.cell 1, trivial⟩
    · exact ⟨v3, by rw [hyz]; exact hb3, hbk.cell 2, trivial⟩
    · exact ⟨v4, by rw [hyz]; exact hb4, hbk.cell 3, trivial⟩
  obtain ⟨Av, cv, rfl⟩ := hv.1.shape
  have hv1 := Reads.of_own hv.1
  have HBO2 := hide ((unhide HBO).below hv.2)
  rw [HL.out] at hv1 hcell
  have HRV := hide hv1
  have hzw : IntKind.i64.wrap ((y : Int) - 1) = (z : Int) := by rw [IntWalk.i64_in _ (by omega)]; omega
  have hzI : (z : Int) < 4 := by omega
  have hzI0 : (0 : Int) ≤ (z : Int) := by omega
  have HC : Hid (1 + L ≤ maxLen ∧ (1 + L) * 1 ≤ 140737488355328) := cap1 (by omega)
  have hzz := (unhide HBO2).2.size
  clear hyz hbk hb1 hb2 hb3 hb4 hv hv1 hbv hLd hwy
  go_wp2_with (first
    | (at_builtin
       refine wpList_app w3 rfl (.tmp 14) (.tmp 20) 24 rfl elem_u8 w.heap.size (.slice (some ⟨g, 0, none⟩) 1 1) 1 ([UInt8.ofNat y].map bv) rfl (unhide HBO2).1 w3.heap.size Av L cv ((laidS y c).map bv) rfl (unhide HRV) (bv_one _) HC.out hzz ?_
       intro v5 w5 ho5 hg5 _
       have HBO5 := hide (Bo.app (bs := [UInt8.ofNat y]) (ms := laidS y c) (unhide HBO2) (by rw [HL.out]; exact ho5) hg5)
       clear ho5 hg5))
  go_ret2
  refine ⟨_, rfl, ?_⟩
  rw [HLZ.out]
  exact unhide HBO5
theorem rencode_long (A : Option Addr) (n cap : Nat) (w : World) (hn : 65536 < n) :
    Calls Try.prog 11 #[.slice A n cap] w fun e w' => e = .returned (.tuple #[.slice none 0 0, .int .i64 3]) ∧ w = w' := by
  have h : (65536 : Int) < (n : Int) := by omega
  go_enter Try.func11, Try.ntmps11
  go_wp2_with fail
  go_ret2
  exact ⟨rfl, rfl⟩
end Go.Proofs.Yteambdbcjcfdeaa
