/-
  'puts' over no writer: nothing that was there is changed; the walk over the Go text. Then: what 'puts' does, whatever the kind.
-/
import Derived.Test.YtbofjboebkfjgaaLebPuts2
namespace Go.Proofs.Ytbofjboebkfjgaa
open Go.RowKit

def NilOut (w : World) (E : Ending) (w' : World) : Prop := (∃ v, E = .returned v) ∧ Below w.heap.size w w'

set_option maxRecDepth 100000 in
set_option maxHeartbeats 1000000 in
theorem putn_num (w : World) (p : Value) (h : NoW p w) (N : Nat) (hN : N < U64) (K : Int) (o1 o4 : Value) :
    Calls Try.prog 27 #[p, .slice none 0 0, .agg #[.int .i64 1, o1, .int .u64 (N : Int), .int .i64 K, o4]] w (NilOut w) := by
  obtain ⟨K', hK'⟩ : ∃ k, (K % 18446744073709551616).toNat = k := ⟨_, rfl⟩
  have hKl : K' < U64 := by unfold U64; omega
  have hcv : IntKind.u64.wrap K = (K' : Int) := by
    simp [IntKind.wrap, IntKind.signed, IntKind.bits]
    omega
  have hK'' := Lib.hid hK'
  clear hK'
  obtain ⟨W0, hW0⟩ : ∃ W, (w.alloc (.cells #[.int .i64 1, o1, .int .u64 (N : Int), .int .i64 K, o4] 45)).alloc (.cells #[uv N, uv K'] 24) = W := ⟨_, rfl⟩
  have hb0 : Below w.heap.size w W0 := by rw [← hW0]; exact ((Below.refl _ _).alloc (Nat.le_refl _) _).alloc (by simp) _
  have hX0 : Blk W0 w.heap.size 45 #[.int .i64 1, o1, .int .u64 (N : Int), .int .i64 K, o4] := by rw [← hW0]; exact (Blk.new w _ _).alloc _
  have h0 := h.below hb0
  have hM := hide (wnum_no p (.slice (some ⟨w.heap.size + 1, 0, none⟩) 2 2) W0 h0)
  have q2 : W0.cell? ⟨w.heap.size, 2, none⟩ = some (.int .u64 (N : Int)) := hX0.cell 2
  have q3 : W0.cell? ⟨w.heap.size, 3, none⟩ = some (.int .i64 K) := hX0.cell 3
  have hxl := hX0.lt
  have HX1 := hide hX0
  have HB0 := hide hb0
  have HW0 := Lib.hid hW0
  have hP1 := fun w => hide (refPut_any N w hN)
  have hP2 := fun w => hide (refPut_any K' w hKl)
  have hfN := (form_len N).2
  have hfK := (form_len K').2
  clear hX0 hb0 h0 h hW0
  obtain ⟨⟨iE, zE, eE1, eE2, eE3, eE4, eE5, eE6⟩, eE7⟩ := elem_u8
  have HE := hide (And.intro eE1 (And.intro eE2 (And.intro eE3 (And.intro eE4 (And.intro eE5 eE6)))))
  clear eE1 eE2 eE3 eE4 eE5 eE6
  go_enter Try.func27, Try.ntmps27
  go_wp2_with fail
  rw [show (w.alloc (.cells #[.int .i64 1, o1, .int .u64 (N : Int), .int .i64 K, o4] 45)).alloc (.cells #[.int .u64 (N : Int), .int .u64 (K' : Int)] 24) = W0 from HW0.out]
  refine (unhide hM).mono ?_
  rintro e w1 ⟨rfl, rfl⟩
  go_wp2
  go_region_held3 (fun w' => w'.cell? ⟨w.heap.size, 2, none⟩ = some (.int .u64 (N : Int)) ∧ w'.cell? ⟨w.heap.size, 3, none⟩ = some (.int .i64 K)) (first | go_keep | exact s2 | exact s4 | exact s3 | exact s5)
    ((first
      | (go_at_call 17; (with_reducible refine (unhide (hP1 _)).mono ?_); rintro e w2 ⟨v2, rfl, ho2, hb2⟩
         obtain ⟨A2, c2, rfl⟩ := ho2.shape
         have rd2 := hide (Reads.of_own ho2)
         have X2 := (unhide HX1).drewN 1 |>.below hb2 hxl
         have s2 := And.intro (X2.cell 2 : w2.cell? ⟨w.heap.size, 2, none⟩ = some (.int .u64 (N : Int))) (X2.cell 3 : w2.cell? ⟨w.heap.size, 3, none⟩ = some (.int .i64 K))
         have HX2 := hide X2
         have hz2 := hb2.size
         have HB2 := hide (((unhide HB0).trans ((below_drewN (Below.refl W0.heap.size W0) 1).mono (unhide HB0).size)).trans (hb2.mono (unhide HB0).size))
         have hzz2 : w.heap.size < w2.heap.size := Nat.lt_of_lt_of_le hxl hz2
         clear ho2 hb2 X2)
      | (refine step_append_any _ (by rfl) (.tmp 21) (.tmp 24) 22 (by rfl) (w.heap.size + 1) 5 iE zE 1 1 (unhide HE).1 (unhide HE).2.1 (unhide HE).2.2.1 (unhide HE).2.2.2.1 (unhide HE).2.2.2.2.1 (unhide HE).2.2.2.2.2 eE7 (.slice none 0 0) 0 [] (by rfl) (World.ownsRow_nil _ _ _ _) _ A2 (form N).length c2 ((form N).map bv) (by rfl) (unhide rd2) (bv_one _) (by unfold maxLen; omega) (by omega) (by omega) ?_
         intro v4 w4 ho4 hg4 hr4
         rw [Nat.zero_add, List.nil_append] at ho4
         obtain ⟨A4, c4, rfl⟩ := ho4.shape
         have X4 := (unhide HX2).grown hg4 (fun e => by cases e)
         have s4 := And.intro (X4.cell 2 : w4.cell? ⟨w.heap.size, 2, none⟩ = some (.int .u64 (N : Int))) (X4.cell 3 : w4.cell? ⟨w.heap.size, 3, none⟩ = some (.int .i64 K))
         have HX4 := hide X4
         have hz4 := hg4.size
         have hxl4 := X4.lt
         have O4 := hide ho4
         have B4 := hide ((unhide HB2).grown hg4 (by omega) (fun g e => by cases e))
         clear ho4 hg4 hr4 X4)
      | (go_at_call 17; (with_reducible refine (unhide (hP2 _)).mono ?_); rintro e w3 ⟨v3, rfl, ho3, hb3⟩
         obtain ⟨A3, c3, rfl⟩ := ho3.shape
         have O3 := hide ((Chg.of_below hb3 (fun _ => False)).own (unhide O4) (fun _ _ e => e))
         have rd3 := hide (Reads.of_own ho3)
         have X3 := (unhide HX4).below hb3 hxl4
         have s3 := And.intro (X3.cell 2 : w3.cell? ⟨w.heap.size, 2, none⟩ = some (.int .u64 (N : Int))) (X3.cell 3 : w3.cell? ⟨w.heap.size, 3, none⟩ = some (.int .i64 K))
         have HX3 := hide X3
         have hz3 := hb3.size
         have HB3 := hide ((unhide B4).trans (hb3.mono (by have hz : w2.heap.size ≤ w4.heap.size := hz4; omega)))
         clear ho3 hb3 X3)
      | (refine step_append_any _ (by rfl) (.tmp 25) (.tmp 29) 22 (by rfl) (w.heap.size + 1) 5 iE zE 1 1 (unhide HE).1 (unhide HE).2.1 (unhide HE).2.2.1 (unhide HE).2.2.2.1 (unhide HE).2.2.2.2.1 (unhide HE).2.2.2.2.2 eE7 (.slice A4 (form N).length c4) (form N).length ((form N).map bv) (by rfl) (unhide O3) _ A3 (form K').length c3 ((form K').map bv) (by rfl) (unhide rd3) (bv_one _) (by unfold maxLen; omega) (by omega) (by have hz : w2.heap.size ≤ w4.heap.size := hz4; have hz' : w4.heap.size ≤ w3.heap.size := hz3; omega) ?_
         intro v5 w5 ho5 hg5 hr5
         obtain ⟨A5, c5, rfl⟩ := ho5.shape
         have X5 := (unhide HX3).grown hg5 (fun e => by have := ((unhide O3).lt _ e.symm).1; omega)
         have s5 := And.intro (X5.cell 2 : w5.cell? ⟨w.heap.size, 2, none⟩ = some (.int .u64 (N : Int))) (X5.cell 3 : w5.cell? ⟨w.heap.size, 3, none⟩ = some (.int .i64 K))
         have B5 := hide ((unhide HB3).grown hg5 (by have hz : w2.heap.size ≤ w4.heap.size := hz4; have hz' : w4.heap.size ≤ w3.heap.size := hz3; omega) (fun g e => by have := ((unhide O3).lt _ e).1; omega))
         clear ho5 hg5 hr5 X5)))
  have HOut : Hid (NilOut w (.returned (.slice A5 ((form N).length + (form K').length) c5)) w5) := ⟨⟨_, rfl⟩, unhide B5⟩
  go_wp2
  go_ret
  exact unhide HOut

set_option maxRecDepth 100000 in
set_option maxHeartbeats 1000000 in
theorem putn_int (w : World) (p : Value) (h : NoW p w) (K : Int) (k1 : -9223372036854775808 ≤ K) (k2 : K ≤ 9223372036854775807) (o1 o2 o4 : Value) :
    Calls Try.prog 27 #[p, .slice none 0 0, .agg #[.int .i64 2, o1, o2, .int .i64 K, o4]] w (NilOut w) := by
  have hT := fun w => hide (refTurn_any K w k1 k2)
  rw [tn_val] at hT
  have hKl := tn_lt k1 k2
  obtain ⟨K', hK'⟩ : ∃ k, tn K = k := ⟨_, rfl⟩
  simp only [hK'] at hT
  have hfK := (form_len K').2
  have hP := fun w => hide (refPut_any K' w (hK' ▸ hKl))
  obtain ⟨W0, hW0⟩ : ∃ W, (w.alloc (.cells #[.int .i64 2, o1, o2, .int .i64 K, o4] 45)).alloc (.cells #[iv K, iv K] 3) = W := ⟨_, rfl⟩
  have hb0 : Below w.heap.size w W0 := by rw [← hW0]; exact ((Below.refl _ _).alloc (Nat.le_refl _) _).alloc (by simp) _
  have hX0 : Blk W0 w.heap.size 45 #[.int .i64 2, o1, o2, .int .i64 K, o4] := by rw [← hW0]; exact (Blk.new w _ _).alloc _
  have hM := hide (wint_no p (.slice (some ⟨w.heap.size + 1, 0, none⟩) 2 2) W0 (h.below hb0))
  have q3 : W0.cell? ⟨w.heap.size, 3, none⟩ = some (.int .i64 K) := hX0.cell 3
  have hxl := hX0.lt
  have HB0 := hide hb0
  have HW0 := Lib.hid hW0
  clear hb0 hX0 h hW0 hK' hKl
  go_enter Try.func27, Try.ntmps27
  go_wp2_with fail
  rw [show (w.alloc (.cells #[.int .i64 2, o1, o2, .int .i64 K, o4] 45)).alloc (.cells #[.int .i64 K, .int .i64 K] 3) = W0 from HW0.out]
  refine (unhide hM).mono ?_
  rintro e w1 ⟨rfl, rfl⟩
  go_wp2_with fail
  refine (unhide (hT _)).mono ?_
  rintro e w2 ⟨rfl, rfl⟩
  go_wp2_with fail
  refine (unhide (hP _)).mono ?_
  rintro e w2 ⟨v2, rfl, ho2, hb2⟩
  obtain ⟨A2, c2, rfl⟩ := ho2.shape
  have rd2 := hide (Reads.of_own ho2)
  have HO2 := hide ho2
  have HB2 := hide ((unhide HB0).trans (hb2.mono (unhide HB0).size))
  have hz2 := hb2.size
  have HC2 : Hid (0 + (form K').length ≤ maxLen ∧ (0 + (form K').length) * 1 ≤ 140737488355328) := cap1 (by omega)
  clear ho2 hb2
  go_wp2_with (first
    | (at_builtin
       refine wpList_app _ rfl (.tmp 44) (.tmp 45) 22 rfl elem_u8 (w.heap.size + 1) (.slice none 0 0) 0 [] rfl (World.ownsRow_nil _ _ _ _) _ A2 (form K').length c2 _ rfl (unhide rd2) (bv_one _) HC2.out (by omega) ?_
       intro v4 w4 ho4 hg4 hr4
       rw [Nat.zero_add, List.nil_append] at ho4
       obtain ⟨A4, c4, rfl⟩ := ho4.shape
       have own4 := hide ho4
       have rd4 := hide (Reads.of_own ((Chg.of_grown hg4).own (unhide HO2) (fun i hi e => by cases e)))
       have HC4 : Hid ((form K').length + (form K').length ≤ maxLen ∧ ((form K').length + (form K').length) * 1 ≤ 140737488355328) := cap1 (by omega)
       have hz4 := hg4.size
       have B4 := hide ((unhide HB2).grown hg4 (by omega) (fun g e => by cases e))
       clear ho4 hg4 hr4)
    | (at_builtin
       refine wpList_app _ rfl (.tmp 46) (.tmp 47) 22 rfl elem_u8 (w.heap.size + 1) (.slice A4 (form K').length c4) (form K').length _ rfl (unhide own4) _ A2 (form K').length c2 _ rfl (unhide rd4) (bv_one _) HC4.out (by omega) ?_
       intro v5 w5 ho5 hg5 hr5
       obtain ⟨A5, c5, rfl⟩ := ho5.shape
       have B5 := hide ((unhide B4).grown hg5 (by omega) (fun g e => by have := ((unhide own4).lt _ e).1; omega))
       clear ho5 hg5 hr5))
  go_ret
  exact ⟨⟨_, rfl⟩, unhide B5⟩

set_option maxRecDepth 100000 in
set_option maxHeartbeats 1000000 in
theorem putn_raw (w : World) (p : Value) (h : NoW p w) (o1 o2 o3 : Value) (A : Option Addr) (n c : Nat) (xs : List UInt8) (B0 : Nat) (hx : Reads w B0 1 A n (xs.map bv)) (hB0 : B0 ≤ w.heap.size) (hn : n ≤ 35184372088832) :
    Calls Try.prog 27 #[p, .slice none 0 0, .agg #[.int .i64 3, o1, o2, o3, .slice A n c]] w (NilOut w) := by
  have hxl : xs.length = n := by have := hx.1; simpa using this
  have hb0 : Below w.heap.size w (w.alloc (.cells #[.int .i64 3, o1, o2, o3, .slice A n c] 45)) := (Below.refl _ _).alloc (Nat.le_refl _) _
  have hX0 := Blk.new w 45 #[.int .i64 3, o1, o2, o3, .slice A n c]
  have h0 := h.below hb0
  have r0 : Reads (w.alloc (.cells #[.int .i64 3, o1, o2, o3, .slice A n c] 45)) B0 1 A n (xs.map bv) := hx.alloc hB0 _
  have hL := hide (lent_any A n c xs _ (r0.more (by have := hb0.size; omega)) (by omega))
  have HX0 := hide hX0
  have H0 := hide h0
  have HB0 := hide hb0
  have HR0 := hide r0
  clear hb0 hX0 h0 h hx r0
  go_enter Try.func27, Try.ntmps27
  go_wp2_with fail
  refine (unhide hL).mono ?_
  rintro e w1 ⟨g1, cp1, rfl, hcap1, hg1, ho1, hb1⟩
  simp only [World.size_alloc] at hg1
  have hgl1 := (ho1.lt g1 rfl).2
  have hM := hide (wraw_no p (.slice (some ⟨g1, 0, none⟩) n cp1) w1 ((unhide H0).below hb1))
  have hx1 := (unhide HX0).below hb1 (unhide HX0).lt
  have r2 := (unhide HR0).below (hb1.mono (by simp; omega))
  have q4 : w1.cell? ⟨w.heap.size, 4, none⟩ = some (.slice A n c) := hx1.cell 4
  have hcm1 := own_capm ho1
  have hz1 := hb1.size
  simp only [World.size_alloc] at hz1
  have HB1 := hide ((unhide HB0).trans (hb1.mono (unhide HB0).size))
  have hK := hide (kept_any A g1 n cp1 n c w1.heap.size xs xs w1 hxl hcap1 (Reads.of_own ho1) (r2.more (by omega)) hcm1)
  rw [show (xs == xs) = true by simp] at hK
  have hT := hide (turned_any _ g1 n (n + 20) cp1 xs (mk 20) w1 hxl ho1 (by omega))
  have HX1 := hide hx1
  have HR2 := hide r2
  clear ho1 hx1 r2 hb1 hL HR0 H0 HX0 HB0
  go_wp2_with fail
  refine (unhide hM).mono ?_
  rintro e w2 ⟨rfl, rfl⟩
  go_wp2_with fail
  refine (unhide hK).mono ?_
  rintro e w3 ⟨rfl, rfl⟩
  go_wp2_with fail
  refine (unhide hT).mono ?_
  rintro e w3 ⟨rfl, _, hg3⟩
  have hg3' : w1.grownBy w3 (some g1) := hg3
  have hx3 := (unhide HX1).grown hg3' (fun e => by injection e with e; omega)
  have q5 : w3.cell? ⟨w.heap.size, 4, none⟩ = some (.slice A n c) := hx3.cell 4
  have HR3 := hide ((Chg.of_grown hg3').reads (unhide HR2) (by omega) (fun i hi e => by injection e with e; omega))
  have HB3 := hide ((unhide HB1).grown hg3' (by omega) (fun g e => by injection e with e; omega))
  have HC : Hid (0 + n ≤ maxLen ∧ (0 + n) * 1 ≤ 140737488355328) := cap1 (by omega)
  have hz3 := hg3'.size
  clear hg3 hg3' hx3 hT hK hM
  go_wp2_with (first
    | (at_builtin
       refine wpList_app _ rfl (.tmp 67) (.tmp 69) 22 rfl elem_u8 w.heap.size (.slice none 0 0) 0 [] rfl (World.ownsRow_nil _ _ _ _) B0 A n c _ rfl (unhide HR3) (bv_one _) HC.out (by omega) ?_
       intro v5 w5 ho5 hg5 hr5
       rw [Nat.zero_add, List.nil_append] at ho5
       obtain ⟨A5, c5, rfl⟩ := ho5.shape
       have B5 := hide ((unhide HB3).grown hg5 (by omega) (fun g e => by cases e))
       clear ho5 hg5 hr5))
  go_ret
  exact ⟨⟨_, rfl⟩, unhide B5⟩

set_option maxRecDepth 100000 in
set_option maxHeartbeats 1000000 in
theorem putn_text (w : World) (p : Value) (h : NoW p w) (o1 o2 o3 : Value) (A : Option Addr) (n c : Nat) (xs : List UInt8) (B0 : Nat) (hx : Reads w B0 1 A n (xs.map bv)) (hB0 : B0 ≤ w.heap.size) (hn : n ≤ 35184372088832) :
    Calls Try.prog 27 #[p, .slice none 0 0, .agg #[.int .i64 4, o1, o2, o3, .slice A n c]] w (NilOut w) := by
  have hxl : xs.length = n := by have := hx.1; simpa using this
  have hb0 : Below w.heap.size w (w.alloc (.cells #[.int .i64 4, o1, o2, o3, .slice A n c] 45)) := (Below.refl _ _).alloc (Nat.le_refl _) _
  have hX0 := Blk.new w 45 #[.int .i64 4, o1, o2, o3, .slice A n c]
  have r0 : Reads (w.alloc (.cells #[.int .i64 4, o1, o2, o3, .slice A n c] 45)) B0 1 A n (xs.map bv) := hx.alloc hB0 _
  have hM := hide (wtext_no p xs _ (h.below hb0) (by omega))
  have hst := run_string_of r0 c 22 9 5 Try.underlying22 Try.underlying5 Try.underlying9
  have HX0 := hide hX0
  have HB0 := hide hb0
  have HR0 := hide r0
  have hz0 := hb0.size
  clear hb0 hX0 h hx r0
  go_enter Try.func27, Try.ntmps27
  go_wp2_with fail
  refine (unhide hM).mono ?_
  rintro e w1 ⟨rfl, hb1⟩
  have hx1 := (unhide HX0).below hb1 (unhide HX0).lt
  have q2 : w1.cell? ⟨w.heap.size, 4, none⟩ = some (.slice A n c) := hx1.cell 4
  have HR1 := hide ((unhide HR0).below (hb1.mono (by simp; omega)))
  have hxl1 := hx1.lt
  have hz1 := hb1.size
  have HX1 := hide hx1
  have HB1 := hide ((unhide HB0).trans (hb1.mono (unhide HB0).size))
  have hwn : IntKind.u64.wrap (n : Int) = (n : Int) := wrapu_nat n (by omega)
  have hP := fun w => hide (refPut_any n w (by unfold U64; omega))
  clear hx1 hM HX0 HB0 HR0 hst hb1
  obtain ⟨⟨iE, zE, eE1, eE2, eE3, eE4, eE5, eE6⟩, eE7⟩ := elem_u8
  have HE := hide (And.intro eE1 (And.intro eE2 (And.intro eE3 (And.intro eE4 (And.intro eE5 eE6)))))
  clear eE1 eE2 eE3 eE4 eE5 eE6
  have hfN := (form_len n).2
  go_wp2
  go_region_held3 (fun w' => w'.cell? ⟨w.heap.size, 4, none⟩ = some (.slice A n c)) (first | go_keep | exact s2 | exact s4 | exact s5)
    ((first
      | (go_at_call 17; (with_reducible refine (unhide (hP _)).mono ?_); rintro e w2 ⟨v2, rfl, ho2, hb2⟩
         obtain ⟨A2, c2, rfl⟩ := ho2.shape
         have rd2 := hide (Reads.of_own ho2)
         have X2 := (unhide HX1).drewN 1 |>.below hb2 hxl1
         have s2 : w2.cell? ⟨w.heap.size, 4, none⟩ = some (.slice A n c) := X2.cell 4
         have HX2 := hide X2
         have hz2 := hb2.size
         have hzz : w1.heap.size ≤ w2.heap.size := hz2
         have hb2' : Below w1.heap.size w1 w2 := (below_drewN (Below.refl w1.heap.size w1) 1).trans hb2
         have HB2 := hide ((unhide HB1).trans (hb2'.mono (by omega)))
         have HR2 := hide ((unhide HR1).below (hb2'.mono (by omega)))
         clear ho2 hb2 X2 hb2')
      | (refine step_append_any _ (by rfl) (.tmp 78) (.tmp 83) 22 (by rfl) (w.heap.size + 1) 5 iE zE 1 1 (unhide HE).1 (unhide HE).2.1 (unhide HE).2.2.1 (unhide HE).2.2.2.1 (unhide HE).2.2.2.2.1 (unhide HE).2.2.2.2.2 eE7 (.slice none 0 0) 0 [] (by rfl) (World.ownsRow_nil _ _ _ _) _ A2 (form n).length c2 ((form n).map bv) (by rfl) (unhide rd2) (bv_one _) (by unfold maxLen; omega) (by omega) (by omega) ?_
         intro v4 w4 ho4 hg4 hr4
         rw [Nat.zero_add, List.nil_append] at ho4
         obtain ⟨A4, c4, rfl⟩ := ho4.shape
         have X4 := (unhide HX2).grown hg4 (fun e => by cases e)
         have s4 : w4.cell? ⟨w.heap.size, 4, none⟩ = some (.slice A n c) := X4.cell 4
         have hz4 := hg4.size
         have O4 := hide ho4
         have HX4 := hide X4
         have HB4 := hide ((unhide HB2).grown hg4 (by omega) (fun g e => by cases e))
         have rd4 := hide ((Chg.of_grown hg4).reads (unhide HR2) (by omega) (fun i hi e => by cases e))
         clear ho4 hg4 hr4 X4)
      | (refine step_append_any _ (by rfl) (.tmp 84) (.tmp 86) 22 (by rfl) (w.heap.size + 1) 5 iE zE 1 1 (unhide HE).1 (unhide HE).2.1 (unhide HE).2.2.1 (unhide HE).2.2.2.1 (unhide HE).2.2.2.2.1 (unhide HE).2.2.2.2.2 eE7 (.slice A4 (form n).length c4) (form n).length ((form n).map bv) (by rfl) (unhide O4) B0 A n c (xs.map bv) (by rfl) (unhide rd4) (bv_one _) (by unfold maxLen; omega) (by omega) (by omega) ?_
         intro v5 w5 ho5 hg5 hr5
         obtain ⟨A5, c5, rfl⟩ := ho5.shape
         have X5 := (unhide HX4).grown hg5 (fun e => by have := ((unhide O4).lt _ e.symm).1; omega)
         have s5 : w5.cell? ⟨w.heap.size, 4, none⟩ = some (.slice A n c) := X5.cell 4
         have HB5 := hide ((unhide HB4).grown hg5 (by omega) (fun g e => by have := ((unhide O4).lt _ e).1; omega))
         clear ho5 hg5 hr5 X5)))
  have HOut : Hid (NilOut w (.returned (.slice A5 ((form n).length + n) c5)) w5) := ⟨⟨_, rfl⟩, unhide HB5⟩
  go_wp2
  go_ret
  exact unhide HOut
end Go.Proofs.Ytbofjboebkfjgaa
