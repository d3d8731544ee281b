/-
  ColumnKnown: the walk over the law's text.
-/
import Derived.Test.YteambdbcjcfdeaaColKnownM
import Derived.Test.YteambdbcjcfdeaaColAwake
namespace Go.Proofs.Yteambdbcjcfdeaa
open Go.RowKit

theorem make_u32b (w : World) (L : Nat) (hL : L ≤ 100000) : (Instr.makeSlice 22 (.int .i64 (L : Int)) (.int .i64 (L : Int))).run Try.prog w = .ok (.slice (some ⟨w.heap.size, 0, none⟩) L L) (w.alloc (.cells (List.replicate L (Value.int .u32 0)).toArray 40)) := by
  obtain ⟨i, hi, hz, hs, hb⟩ := info_parts (P := Try.prog) (e := 40) (z := .int .u32 0) (size := 1) (bytes := 4) (by kernel_rfl)
  have h := run_make (P := Try.prog) w 22 40 i (.int .u32 0) Try.underlying22 hi hz .i64 .i64 (L : Int) (L : Int) (by omega) (by omega) (by rw [hb]; omega) (by omega)
  rw [hs, Int.toNat_natCast, Nat.mul_one, made_u32] at h
  exact h
theorem sizesk_any (c : List UInt32) (a b r p : Nat) (ha : (plainS c).length = a) (hb : (deltaS c).length = b) (hr : (runS c).length = r) (hp : (packS c).length = p) (A : Option Addr) (n cap B : Nat) (w : World) (h : Reads w B 1 A n (c.map uw)) (hB : B ≤ w.heap.size) (hN : n ≤ 140737488355328) :
    Calls Try.prog 13 #[.slice A n cap] w fun e w' => e = .returned (.agg #[.int .i64 (a : Nat), .int .i64 (b : Nat), .int .i64 (r : Nat), .int .i64 (p : Nat)]) ∧ Below w.heap.size w w' := by
  subst ha hb hr hp
  exact sizes_any c A n cap B w h hB hN
theorem neq_0 (w : World) : (binOp .neq 30 (.agg #[.int .i64 0, .int .i64 0, .int .i64 0, .int .i64 1]) (.agg #[.int .i64 0, .int .i64 0, .int .i64 0, .int .i64 1])).run Try.prog w = .ok (.bool false) w := by kernel_rfl
theorem neq_1 (w : World) : (binOp .neq 30 (.agg #[.int .i64 1, .int .i64 1, .int .i64 2, .int .i64 2]) (.agg #[.int .i64 1, .int .i64 1, .int .i64 2, .int .i64 2])).run Try.prog w = .ok (.bool false) w := by kernel_rfl
theorem neq_2 (w : World) : (binOp .neq 30 (.agg #[.int .i64 4, .int .i64 4, .int .i64 2, .int .i64 3]) (.agg #[.int .i64 4, .int .i64 4, .int .i64 2, .int .i64 3])).run Try.prog w = .ok (.bool false) w := by kernel_rfl
theorem neq_3 (w : World) : (binOp .neq 30 (.agg #[.int .i64 9, .int .i64 9, .int .i64 14, .int .i64 3]) (.agg #[.int .i64 9, .int .i64 9, .int .i64 14, .int .i64 3])).run Try.prog w = .ok (.bool false) w := by kernel_rfl
set_option maxRecDepth 100000 in
set_option maxHeartbeats 4000000 in
theorem columnKnown_walk (w : World) : Calls Try.prog 6 #[] w fun e w' => e = .returned (.bool true) ∧ Below w.heap.size w w' := by
  have HA := hide (awake5_any w)
  have HNum := fun x w => hide (num5_any x w)
  have hne0 := neq_0
  have hne1 := neq_1
  have hne2 := neq_2
  have hne3 := neq_3
  go_enter Try.func6, Try.ntmps6
  go_wp2_with fail
  refine (unhide HA).mono ?_
  rintro e w0 ⟨rfl, hb0⟩
  have HB := hide hb0
  clear hb0 HA
  have hS := hide (sizesk_any [] 0 0 0 1 (by decide +kernel) (by decide +kernel) (by decide +kernel) (by decide +kernel) none 0 0 0 w0 Reads.none_ (by simp) (by omega))
  go_wp2_with fail
  refine (unhide hS).mono ?_
  rintro e w1 ⟨rfl, hb⟩
  clear hS
  have HB' := hide ((unhide HB).trans (hb.mono (unhide HB).size))
  clear hb HB
  have HB := HB'
  clear HB'
  have hl := reads_lit w1 _ rfl 40 #[.int .u32 7] 1 rfl ([7].map uw) rfl
  have HB' := hide ((unhide HB).alloc (unhide HB).size (.cells #[.int .u32 7] 40))
  clear HB
  have HB := HB'
  clear HB'
  have hS := hide (sizesk_any [7] 1 1 2 2 (by decide +kernel) (by decide +kernel) (by decide +kernel) (by decide +kernel) (some ⟨w1.heap.size, 0, none⟩) 1 1 (w1.heap.size + 1) _ hl (by simp) (by omega))
  clear hl
  go_wp2_with fail
  refine (unhide hS).mono ?_
  rintro e w2 ⟨rfl, hb⟩
  clear hS
  have HB' := hide ((unhide HB).trans (hb.mono (unhide HB).size))
  clear hb HB
  have HB := HB'
  clear HB'
  have hl := reads_lit w2 _ rfl 40 #[.int .u32 5, .int .u32 5, .int .u32 5, .int .u32 5] 4 rfl ([5, 5, 5, 5].map uw) rfl
  have HB' := hide ((unhide HB).alloc (unhide HB).size (.cells #[.int .u32 5, .int .u32 5, .int .u32 5, .int .u32 5] 40))
  clear HB
  have HB := HB'
  clear HB'
  have hS := hide (sizesk_any [5, 5, 5, 5] 4 4 2 3 (by decide +kernel) (by decide +kernel) (by decide +kernel) (by decide +kernel) (some ⟨w2.heap.size, 0, none⟩) 4 4 (w2.heap.size + 1) _ hl (by simp) (by omega))
  clear hl
  go_wp2_with fail
  refine (unhide hS).mono ?_
  rintro e w3 ⟨rfl, hb⟩
  clear hS
  have HB' := hide ((unhide HB).trans (hb.mono (unhide HB).size))
  clear hb HB
  have HB := HB'
  clear HB'
  have hl := reads_lit w3 _ rfl 40 #[.int .u32 1, .int .u32 0, .int .u32 1, .int .u32 1, .int .u32 0, .int .u32 0, .int .u32 1, .int .u32 0, .int .u32 1] 9 rfl ([1, 0, 1, 1, 0, 0, 1, 0, 1].map uw) rfl
  have HB' := hide ((unhide HB).alloc (unhide HB).size (.cells #[.int .u32 1, .int .u32 0, .int .u32 1, .int .u32 1, .int .u32 0, .int .u32 0, .int .u32 1, .int .u32 0, .int .u32 1] 40))
  clear HB
  have HB := HB'
  clear HB'
  have hS := hide (sizesk_any [1, 0, 1, 1, 0, 0, 1, 0, 1] 9 9 14 3 (by decide +kernel) (by decide +kernel) (by decide +kernel) (by decide +kernel) (some ⟨w3.heap.size, 0, none⟩) 9 9 (w3.heap.size + 1) _ hl (by simp) (by omega))
  clear hl
  go_wp2_with fail
  refine (unhide hS).mono ?_
  rintro e w4 ⟨rfl, hb⟩
  clear hS
  have HB' := hide ((unhide HB).trans (hb.mono (unhide HB).size))
  clear hb HB
  have HB := HB'
  clear HB'
  have hl := reads_lit w4 _ rfl 5 #[.int .u8 1, .int .u8 7] 2 rfl ([1, 7].map bv) rfl
  have HB' := hide ((unhide HB).alloc (unhide HB).size (.cells #[.int .u8 1, .int .u8 7] 5))
  clear HB
  have HB := HB'
  clear HB'
  have hD := hide (decode_any (some ⟨w4.heap.size, 0, none⟩) 2 2 (w4.heap.size + 1) 1 [1, 7] _ hl (by simp) (by omega) (Nat.le_refl _))
  clear hl
  go_wp2_with fail
  refine (unhide hD).mono ?_
  rintro e w5 ⟨D0, d0, k0, rfl, hr, _, hb, hdec⟩
  obtain ⟨hk, hd⟩ : k0 = 0 ∧ d0 = [7] := dec_page (c := [7]) (by decide) (by
    have hp : pageS [7] = [1, 7] := by decide +kernel
    rw [hp]
    exact hdec)
  subst hk
  subst hd
  obtain ⟨Q0, hQ⟩ : ∃ q, w5.heap.size = q := ⟨_, rfl⟩
  rw [hQ] at hr
  have hr' := hide hr
  have hq' : Q0 ≤ w5.heap.size := by omega
  clear hD hdec hr hQ
  have HB' := hide ((unhide HB).trans (hb.mono (unhide HB).size))
  clear hb HB
  have HB := HB'
  clear HB'
  have HD0 := hr'
  have hzD0 := hq'
  clear hr' hq'
  have hl := reads_lit w5 _ rfl 5 #[.int .u8 3, .int .u8 5, .int .u8 4] 3 rfl ([3, 5, 4].map bv) rfl
  have HB' := hide ((unhide HB).alloc (unhide HB).size (.cells #[.int .u8 3, .int .u8 5, .int .u8 4] 5))
  clear HB
  have HB := HB'
  clear HB'
  have H' := hide ((unhide HD0).alloc hzD0 (.cells #[.int .u8 3, .int .u8 5, .int .u8 4] 5))
  have hz' : _ ≤ (w5.alloc (.cells #[.int .u8 3, .int .u8 5, .int .u8 4] 5)).heap.size := Nat.le_trans hzD0 ((Below.refl _ _).alloc (Nat.le_refl _) _ : Below w5.heap.size w5 _).size
  clear HD0 hzD0
  have HD0 := H'
  have hzD0 := hz'
  clear H' hz'
  have hD := hide (decode_any (some ⟨w5.heap.size, 0, none⟩) 3 3 (w5.heap.size + 1) 4 [3, 5, 4] _ hl (by simp) (by omega) (Nat.le_refl _))
  clear hl
  go_wp2_with fail
  refine (unhide hD).mono ?_
  rintro e w6 ⟨D1, d1, k1, rfl, hr, _, hb, hdec⟩
  obtain ⟨hk, hd⟩ : k1 = 0 ∧ d1 = [5, 5, 5, 5] := dec_page (c := [5, 5, 5, 5]) (by decide) (by
    have hp : pageS [5, 5, 5, 5] = [3, 5, 4] := by decide +kernel
    rw [hp]
    exact hdec)
  subst hk
  subst hd
  obtain ⟨Q1, hQ⟩ : ∃ q, w6.heap.size = q := ⟨_, rfl⟩
  rw [hQ] at hr
  have hr' := hide hr
  have hq' : Q1 ≤ w6.heap.size := by omega
  clear hD hdec hr hQ
  have H' := hide ((unhide HD0).below (hb.mono hzD0))
  have hz' := Nat.le_trans hzD0 hb.size
  clear HD0 hzD0
  have HD0 := H'
  have hzD0 := hz'
  clear H' hz'
  have HB' := hide ((unhide HB).trans (hb.mono (unhide HB).size))
  clear hb HB
  have HB := HB'
  clear HB'
  have HD1 := hr'
  have hzD1 := hq'
  clear hr' hq'
  obtain ⟨L0, hL0⟩ : ∃ n : Nat, 65537 = n := ⟨_, rfl⟩
  have hmk := fun w => make_u32b w L0 (by omega)
  simp only [show ((L0 : Nat) : Int) = 65537 by omega] at hmk
  obtain ⟨Z0, hZ0⟩ : ∃ Z : Array Value, (List.replicate L0 (Value.int .u32 0)).toArray = Z := ⟨_, rfl⟩
  simp only [hZ0] at hmk
  have HZ0 := Lib.hid hZ0
  clear hZ0
  have hE := fun W => hide (encode_long (some ⟨w6.heap.size, 0, none⟩) L0 L0 W (by omega))
  have HB' := hide ((unhide HB).alloc (unhide HB).size (.cells Z0 40))
  go_wp2_with fail
  refine (unhide (hE _)).mono ?_
  rintro e w7 ⟨rfl, hw⟩
  have HD0' := hide ((unhide HD0).alloc hzD0 (.cells Z0 40))
  have HD1' := hide ((unhide HD1).alloc hzD1 (.cells Z0 40))
  rw [hw] at HB' HD0' HD1'
  have hz0' : Q0 ≤ w7.heap.size := by rw [← hw]; exact Nat.le_trans hzD0 ((Below.refl _ _).alloc (Nat.le_refl _) _ : Below w6.heap.size w6 _).size
  have hz1' : Q1 ≤ w7.heap.size := by rw [← hw]; exact Nat.le_trans hzD1 ((Below.refl _ _).alloc (Nat.le_refl _) _ : Below w6.heap.size w6 _).size
  clear HB HD0 HD1 hzD0 hzD1 hE hmk hw hL0
  have HB := HB'
  have HD0 := HD0'
  have HD1 := HD1'
  have hzD0 := hz0'
  have hzD1 := hz1'
  clear HB' HD0' HD1' hz0' hz1'
  obtain ⟨L1, hL1⟩ : ∃ n : Nat, 65536 = n := ⟨_, rfl⟩
  have hmk := fun w => make_u32b w L1 (by omega)
  simp only [show ((L1 : Nat) : Int) = 65536 by omega] at hmk
  obtain ⟨Z1, hZ1⟩ : ∃ Z : Array Value, (List.replicate L1 (Value.int .u32 0)).toArray = Z := ⟨_, rfl⟩
  simp only [hZ1] at hmk
  have HZ1 := Lib.hid hZ1
  clear hZ1
  have hl := reads_lit w7 _ rfl 40 Z1 L1 (by rw [← HZ1.out]; simp) ((List.replicate L1 (0 : UInt32)).map uw) (by rw [← HZ1.out, List.map_replicate]; rfl)
  have hE := encode_any (List.replicate L1 0) (some ⟨w7.heap.size, 0, none⟩) L1 L1 (w7.heap.size + 1) _ hl (by simp) (by omega)
  rw [page_zero L1 (by omega)] at hE
  have HE := hide hE
  have HB' := hide ((unhide HB).alloc (unhide HB).size (.cells Z1 40))
  clear HB hl hE
  have HB := HB'
  clear HB'
  have H' := hide ((unhide HD0).alloc hzD0 (.cells Z1 40))
  have hz' : _ ≤ (w7.alloc (.cells Z1 40)).heap.size := Nat.le_trans hzD0 ((Below.refl _ _).alloc (Nat.le_refl _) _ : Below w7.heap.size w7 _).size
  clear HD0 hzD0
  have HD0 := H'
  have hzD0 := hz'
  clear H' hz'
  have H' := hide ((unhide HD1).alloc hzD1 (.cells Z1 40))
  have hz' : _ ≤ (w7.alloc (.cells Z1 40)).heap.size := Nat.le_trans hzD1 ((Below.refl _ _).alloc (Nat.le_refl _) _ : Below w7.heap.size w7 _).size
  clear HD1 hzD1
  have HD1 := H'
  have hzD1 := hz'
  clear H' hz'
  go_wp2_with fail
  refine (unhide HE).mono ?_
  rintro e w8 ⟨v, rfl, ho, hb⟩
  obtain ⟨DP, cP, rfl⟩ := ho.shape
  have hr' := hide (Reads.of_own ho)
  clear ho HE hmk hL1
  obtain ⟨QP, hQ⟩ : ∃ q, w8.heap.size = q := ⟨_, rfl⟩
  rw [hQ] at hr'
  have hq' : QP ≤ w8.heap.size := by omega
  clear hQ
  have H' := hide ((unhide HD0).below (hb.mono hzD0))
  have hz' := Nat.le_trans hzD0 hb.size
  clear HD0 hzD0
  have HD0 := H'
  have hzD0 := hz'
  clear H' hz'
  have H' := hide ((unhide HD1).below (hb.mono hzD1))
  have hz' := Nat.le_trans hzD1 hb.size
  clear HD1 hzD1
  have HD1 := H'
  have hzD1 := hz'
  clear H' hz'
  have HB' := hide ((unhide HB).trans (hb.mono (unhide HB).size))
  clear hb HB
  have HB := HB'
  clear HB'
  have HP := hr'
  have hzP := hq'
  clear hr' hq'
  have hl := reads_lit w8 _ rfl 40 #[.int .u32 7] 1 rfl ([7].map uw) rfl
  have HB' := hide ((unhide HB).alloc (unhide HB).size (.cells #[.int .u32 7] 40))
  clear HB
  have HB := HB'
  clear HB'
  have H' := hide ((unhide HD0).alloc hzD0 (.cells #[.int .u32 7] 40))
  have hz' : _ ≤ (w8.alloc (.cells #[.int .u32 7] 40)).heap.size := Nat.le_trans hzD0 ((Below.refl _ _).alloc (Nat.le_refl _) _ : Below w8.heap.size w8 _).size
  clear HD0 hzD0
  have HD0 := H'
  have hzD0 := hz'
  clear H' hz'
  have H' := hide ((unhide HD1).alloc hzD1 (.cells #[.int .u32 7] 40))
  have hz' : _ ≤ (w8.alloc (.cells #[.int .u32 7] 40)).heap.size := Nat.le_trans hzD1 ((Below.refl _ _).alloc (Nat.le_refl _) _ : Below w8.heap.size w8 _).size
  clear HD1 hzD1
  have HD1 := H'
  have hzD1 := hz'
  clear H' hz'
  have H' := hide ((unhide HP).alloc hzP (.cells #[.int .u32 7] 40))
  have hz' : _ ≤ (w8.alloc (.cells #[.int .u32 7] 40)).heap.size := Nat.le_trans hzP ((Below.refl _ _).alloc (Nat.le_refl _) _ : Below w8.heap.size w8 _).size
  clear HP hzP
  have HP := H'
  have hzP := hz'
  clear H' hz'
  have hS := alike_any D0 (some ⟨w8.heap.size, 0, none⟩) 1 1 1 1 [7] [7] _ (w8.heap.size + 1) ((unhide HD0).more (by simpa using hzD0)) hl (by omega) (by simp)
  rw [beq_self_eq_true] at hS
  have HS := hide hS
  clear hS hl
  go_wp2_with (go_at_call 17; refine (unhide (HNum _ _)).mono ?_; rintro e wn ⟨rfl, rfl⟩)
  refine (unhide HS).mono ?_
  rintro e w9 ⟨rfl, hb⟩
  clear HS
  have H' := hide ((unhide HD0).below (hb.mono hzD0))
  have hz' := Nat.le_trans hzD0 hb.size
  clear HD0 hzD0
  have HD0 := H'
  have hzD0 := hz'
  clear H' hz'
  have H' := hide ((unhide HD1).below (hb.mono hzD1))
  have hz' := Nat.le_trans hzD1 hb.size
  clear HD1 hzD1
  have HD1 := H'
  have hzD1 := hz'
  clear H' hz'
  have H' := hide ((unhide HP).below (hb.mono hzP))
  have hz' := Nat.le_trans hzP hb.size
  clear HP hzP
  have HP := H'
  have hzP := hz'
  clear H' hz'
  have HB' := hide ((unhide HB).trans (hb.mono (unhide HB).size))
  clear hb HB
  have HB := HB'
  clear HB'
  have hl := reads_lit w9 _ rfl 40 #[.int .u32 5, .int .u32 5, .int .u32 5, .int .u32 5] 4 rfl ([5, 5, 5, 5].map uw) rfl
  have HB' := hide ((unhide HB).alloc (unhide HB).size (.cells #[.int .u32 5, .int .u32 5, .int .u32 5, .int .u32 5] 40))
  clear HB
  have HB := HB'
  clear HB'
  have H' := hide ((unhide HD0).alloc hzD0 (.cells #[.int .u32 5, .int .u32 5, .int .u32 5, .int .u32 5] 40))
  have hz' : _ ≤ (w9.alloc (.cells #[.int .u32 5, .int .u32 5, .int .u32 5, .int .u32 5] 40)).heap.size := Nat.le_trans hzD0 ((Below.refl _ _).alloc (Nat.le_refl _) _ : Below w9.heap.size w9 _).size
  clear HD0 hzD0
  have HD0 := H'
  have hzD0 := hz'
  clear H' hz'
  have H' := hide ((unhide HD1).alloc hzD1 (.cells #[.int .u32 5, .int .u32 5, .int .u32 5, .int .u32 5] 40))
  have hz' : _ ≤ (w9.alloc (.cells #[.int .u32 5, .int .u32 5, .int .u32 5, .int .u32 5] 40)).heap.size := Nat.le_trans hzD1 ((Below.refl _ _).alloc (Nat.le_refl _) _ : Below w9.heap.size w9 _).size
  clear HD1 hzD1
  have HD1 := H'
  have hzD1 := hz'
  clear H' hz'
  have H' := hide ((unhide HP).alloc hzP (.cells #[.int .u32 5, .int .u32 5, .int .u32 5, .int .u32 5] 40))
  have hz' : _ ≤ (w9.alloc (.cells #[.int .u32 5, .int .u32 5, .int .u32 5, .int .u32 5] 40)).heap.size := Nat.le_trans hzP ((Below.refl _ _).alloc (Nat.le_refl _) _ : Below w9.heap.size w9 _).size
  clear HP hzP
  have HP := H'
  have hzP := hz'
  clear H' hz'
  have hS := alike_any D1 (some ⟨w9.heap.size, 0, none⟩) 4 4 4 4 [5, 5, 5, 5] [5, 5, 5, 5] _ (w9.heap.size + 1) ((unhide HD1).more (by simpa using hzD1)) hl (by omega) (by simp)
  rw [beq_self_eq_true] at hS
  have HS := hide hS
  clear hS hl
  go_wp2_with (go_at_call 17; refine (unhide (HNum _ _)).mono ?_; rintro e wn ⟨rfl, rfl⟩)
  refine (unhide HS).mono ?_
  rintro e w10 ⟨rfl, hb⟩
  clear HS
  have H' := hide ((unhide HD0).below (hb.mono hzD0))
  have hz' := Nat.le_trans hzD0 hb.size
  clear HD0 hzD0
  have HD0 := H'
  have hzD0 := hz'
  clear H' hz'
  have H' := hide ((unhide HD1).below (hb.mono hzD1))
  have hz' := Nat.le_trans hzD1 hb.size
  clear HD1 hzD1
  have HD1 := H'
  have hzD1 := hz'
  clear H' hz'
  have H' := hide ((unhide HP).below (hb.mono hzP))
  have hz' := Nat.le_trans hzP hb.size
  clear HP hzP
  have HP := H'
  have hzP := hz'
  clear H' hz'
  have HB' := hide ((unhide HB).trans (hb.mono (unhide HB).size))
  clear hb HB
  have HB := HB'
  clear HB'
  have hl := reads_lit w10 _ rfl 5 #[.int .u8 4, .int .u8 0] 2 rfl ([4, 0].map bv) rfl
  have HB' := hide ((unhide HB).alloc (unhide HB).size (.cells #[.int .u8 4, .int .u8 0] 5))
  clear HB
  have HB := HB'
  clear HB'
  have H' := hide ((unhide HD0).alloc hzD0 (.cells #[.int .u8 4, .int .u8 0] 5))
  have hz' : _ ≤ (w10.alloc (.cells #[.int .u8 4, .int .u8 0] 5)).heap.size := Nat.le_trans hzD0 ((Below.refl _ _).alloc (Nat.le_refl _) _ : Below w10.heap.size w10 _).size
  clear HD0 hzD0
  have HD0 := H'
  have hzD0 := hz'
  clear H' hz'
  have H' := hide ((unhide HD1).alloc hzD1 (.cells #[.int .u8 4, .int .u8 0] 5))
  have hz' : _ ≤ (w10.alloc (.cells #[.int .u8 4, .int .u8 0] 5)).heap.size := Nat.le_trans hzD1 ((Below.refl _ _).alloc (Nat.le_refl _) _ : Below w10.heap.size w10 _).size
  clear HD1 hzD1
  have HD1 := H'
  have hzD1 := hz'
  clear H' hz'
  have H' := hide ((unhide HP).alloc hzP (.cells #[.int .u8 4, .int .u8 0] 5))
  have hz' : _ ≤ (w10.alloc (.cells #[.int .u8 4, .int .u8 0] 5)).heap.size := Nat.le_trans hzP ((Below.refl _ _).alloc (Nat.le_refl _) _ : Below w10.heap.size w10 _).size
  clear HP hzP
  have HP := H'
  have hzP := hz'
  clear H' hz'
  have hS := same5_any DP (some ⟨w10.heap.size, 0, none⟩) 2 cP 2 2 [4, 0] [4, 0] _ (w10.heap.size + 1) ((unhide HP).more (by simpa using hzP)) hl (by omega) (by simp)
  rw [beq_self_eq_true] at hS
  have HS := hide hS
  clear hS hl
  go_wp2_with (go_at_call 17; refine (unhide (HNum _ _)).mono ?_; rintro e wn ⟨rfl, rfl⟩)
  refine (unhide HS).mono ?_
  rintro e w11 ⟨rfl, hb⟩
  clear HS
  have H' := hide ((unhide HD0).below (hb.mono hzD0))
  have hz' := Nat.le_trans hzD0 hb.size
  clear HD0 hzD0
  have HD0 := H'
  have hzD0 := hz'
  clear H' hz'
  have H' := hide ((unhide HD1).below (hb.mono hzD1))
  have hz' := Nat.le_trans hzD1 hb.size
  clear HD1 hzD1
  have HD1 := H'
  have hzD1 := hz'
  clear H' hz'
  have H' := hide ((unhide HP).below (hb.mono hzP))
  have hz' := Nat.le_trans hzP hb.size
  clear HP hzP
  have HP := H'
  have hzP := hz'
  clear H' hz'
  have HB' := hide ((unhide HB).trans (hb.mono (unhide HB).size))
  clear hb HB
  have HB := HB'
  clear HB'
  clear HD0 HD1 HP hzD0 hzD1 hzP
  have hl := reads_lit w11 _ rfl 5 #[.int .u8 2, .int .u8 7] 2 rfl ([2, 7].map bv) rfl
  have HB' := hide ((unhide HB).alloc (unhide HB).size (.cells #[.int .u8 2, .int .u8 7] 5))
  clear HB
  have HB := HB'
  clear HB'
  have hS := hide (refused_any (some ⟨w11.heap.size, 0, none⟩) 2 2 (w11.heap.size + 1) (1) [2, 7] _ hl (by simp) (by omega) (Nat.le_refl _))
  clear hl
  go_wp2_with fail
  refine (unhide hS).mono ?_
  rintro e w12 ⟨k, rfl, hk, hb⟩
  obtain rfl : k = 50 := ref_none (n := 1) (show RefOut _ ((1 : Nat) : Int) _ from hk) (by decide) (fun c h => known_none1 c h)
  clear hS hk
  have HB' := hide ((unhide HB).trans (hb.mono (unhide HB).size))
  clear hb HB
  have HB := HB'
  clear HB'
  have hl := reads_lit w12 _ rfl 5 #[.int .u8 1, .int .u8 7] 2 rfl ([1, 7].map bv) rfl
  have HB' := hide ((unhide HB).alloc (unhide HB).size (.cells #[.int .u8 1, .int .u8 7] 5))
  clear HB
  have HB := HB'
  clear HB'
  have hS := hide (refused_any (some ⟨w12.heap.size, 0, none⟩) 2 2 (w12.heap.size + 1) (2) [1, 7] _ hl (by simp) (by omega) (Nat.le_refl _))
  clear hl
  go_wp2_with fail
  refine (unhide hS).mono ?_
  rintro e w13 ⟨k, rfl, hk, hb⟩
  obtain rfl : k = 50 := ref_none (n := 2) (show RefOut _ ((2 : Nat) : Int) _ from hk) (by decide) (fun c h => known_none2 c h)
  clear hS hk
  have HB' := hide ((unhide HB).trans (hb.mono (unhide HB).size))
  clear hb HB
  have HB := HB'
  clear HB'
  have hl := reads_lit w13 _ rfl 5 #[.int .u8 1, .int .u8 7, .int .u8 0] 3 rfl ([1, 7, 0].map bv) rfl
  have HB' := hide ((unhide HB).alloc (unhide HB).size (.cells #[.int .u8 1, .int .u8 7, .int .u8 0] 5))
  clear HB
  have HB := HB'
  clear HB'
  have hS := hide (refused_any (some ⟨w13.heap.size, 0, none⟩) 3 3 (w13.heap.size + 1) (1) [1, 7, 0] _ hl (by simp) (by omega) (Nat.le_refl _))
  clear hl
  go_wp2_with fail
  refine (unhide hS).mono ?_
  rintro e w14 ⟨k, rfl, hk, hb⟩
  obtain rfl : k = 50 := ref_none (n := 1) (show RefOut _ ((1 : Nat) : Int) _ from hk) (by decide) (fun c h => known_none3 c h)
  clear hS hk
  have HB' := hide ((unhide HB).trans (hb.mono (unhide HB).size))
  clear hb HB
  have HB := HB'
  clear HB'
  have hl := reads_lit w14 _ rfl 5 #[.int .u8 3, .int .u8 5, .int .u8 2, .int .u8 5, .int .u8 2] 5 rfl ([3, 5, 2, 5, 2].map bv) rfl
  have HB' := hide ((unhide HB).alloc (unhide HB).size (.cells #[.int .u8 3, .int .u8 5, .int .u8 2, .int .u8 5, .int .u8 2] 5))
  clear HB
  have HB := HB'
  clear HB'
  have hS := hide (refused_any (some ⟨w14.heap.size, 0, none⟩) 5 5 (w14.heap.size + 1) (4) [3, 5, 2, 5, 2] _ hl (by simp) (by omega) (Nat.le_refl _))
  clear hl
  go_wp2_with fail
  refine (unhide hS).mono ?_
  rintro e w15 ⟨k, rfl, hk, hb⟩
  obtain rfl : k = 50 := ref_none (n := 4) (show RefOut _ ((4 : Nat) : Int) _ from hk) (by decide) (fun c h => known_none4 c h)
  clear hS hk
  have HB' := hide ((unhide HB).trans (hb.mono (unhide HB).size))
  clear hb HB
  have HB := HB'
  clear HB'
  have hl := reads_lit w15 _ rfl 5 #[.int .u8 1] 1 rfl ([1].map bv) rfl
  have HB' := hide ((unhide HB).alloc (unhide HB).size (.cells #[.int .u8 1] 5))
  clear HB
  have HB := HB'
  clear HB'
  have hS := hide (refused_any (some ⟨w15.heap.size, 0, none⟩) 1 1 (w15.heap.size + 1) (0) [1] _ hl (by simp) (by omega) (Nat.le_refl _))
  clear hl
  go_wp2_with fail
  refine (unhide hS).mono ?_
  rintro e w16 ⟨k, rfl, hk, hb⟩
  obtain rfl : k = 0 := known_zero hk
  clear hS hk
  have HB' := hide ((unhide HB).trans (hb.mono (unhide HB).size))
  clear hb HB
  have HB := HB'
  clear HB'
  have hl := reads_lit w16 _ rfl 5 #[.int .u8 1] 1 rfl ([1].map bv) rfl
  have HB' := hide ((unhide HB).alloc (unhide HB).size (.cells #[.int .u8 1] 5))
  clear HB
  have HB := HB'
  clear HB'
  have hS := hide (refused_any (some ⟨w16.heap.size, 0, none⟩) 1 1 (w16.heap.size + 1) (-1) [1] _ hl (by simp) (by omega) (Nat.le_refl _))
  clear hl
  go_wp2_with fail
  refine (unhide hS).mono ?_
  rintro e w17 ⟨k, rfl, hk, hb⟩
  obtain rfl : k = 2 := known_arg hk (by omega)
  clear hS hk
  have HB' := hide ((unhide HB).trans (hb.mono (unhide HB).size))
  clear hb HB
  have HB := HB'
  clear HB'
  have hl := reads_lit w17 _ rfl 5 #[.int .u8 1] 1 rfl ([1].map bv) rfl
  have HB' := hide ((unhide HB).alloc (unhide HB).size (.cells #[.int .u8 1] 5))
  clear HB
  have HB := HB'
  clear HB'
  have hS := hide (refused_any (some ⟨w17.heap.size, 0, none⟩) 1 1 (w17.heap.size + 1) (65537) [1] _ hl (by simp) (by omega) (Nat.le_refl _))
  clear hl
  go_wp2_with fail
  refine (unhide hS).mono ?_
  rintro e w18 ⟨k, rfl, hk, hb⟩
  obtain rfl : k = 2 := known_arg hk (by omega)
  clear hS hk
  have HB' := hide ((unhide HB).trans (hb.mono (unhide HB).size))
  clear hb HB
  have HB := HB'
  clear HB'
  have hS := hide (refused_any none 0 0 0 (0) [] w18 Reads.none_ (by simp) (by omega) (Nat.le_refl _))
  go_wp2_with fail
  refine (unhide hS).mono ?_
  rintro e w19 ⟨k, rfl, hk, hb⟩
  obtain rfl : k = 50 := ref_none (n := 0) (show RefOut _ ((0 : Nat) : Int) _ from hk) (by decide) (fun c _ e => by rw [pageS] at e; cases e)
  clear hS hk
  have HB' := hide ((unhide HB).trans (hb.mono (unhide HB).size))
  clear hb HB
  have HB := HB'
  clear HB'
  have hl := reads_lit w19 _ rfl 5 #[.int .u8 5] 1 rfl ([5].map bv) rfl
  have HB' := hide ((unhide HB).alloc (unhide HB).size (.cells #[.int .u8 5] 5))
  clear HB
  have HB := HB'
  clear HB'
  have hS := hide (refused_any (some ⟨w19.heap.size, 0, none⟩) 1 1 (w19.heap.size + 1) (0) [5] _ hl (by simp) (by omega) (Nat.le_refl _))
  clear hl
  go_wp2_with fail
  refine (unhide hS).mono ?_
  rintro e w20 ⟨k, rfl, hk, hb⟩
  obtain rfl : k = 50 := ref_none (n := 0) (show RefOut _ ((0 : Nat) : Int) _ from hk) (by decide) (fun c h => known_none5 c h)
  clear hS hk
  have HB' := hide ((unhide HB).trans (hb.mono (unhide HB).size))
  clear hb HB
  have HB := HB'
  clear HB'
  go_wp2_with fail
  go_ret
  exact ⟨rfl, unhide HB⟩
end Go.Proofs.Yteambdbcjcfdeaa
