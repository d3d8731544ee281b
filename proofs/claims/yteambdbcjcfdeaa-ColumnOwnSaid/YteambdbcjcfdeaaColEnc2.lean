/-
  Way, Encode: the walks over the Go text. Condition: fewer than 2^47 bytes.
-/
import Derived.Test.YteambdbcjcfdeaaColEnc
namespace Go.Proofs.Yteambdbcjcfdeaa
open Go.RowKit

set_option maxRecDepth 100000 in
theorem way_any (c : List UInt32) (A : Option Addr) (n cap B : Nat) (w : World) (hr : Reads w B 1 A n (c.map uw)) (hB : B ≤ w.heap.size) (hN : n ≤ 140737488355328) :
    Calls Try.prog 15 #[.slice A n cap] w fun e w' => e = .returned (.int .i64 (wayS c : Nat)) ∧ Below w.heap.size w w' := by
  have hS := sizes_any c A n cap B w hr hB hN
  have hwr := wayS_range c
  have hwy : wayS c = wayOf (plainS c).length (deltaS c).length (runS c).length (packS c).length := rfl
  obtain ⟨s0, hs0⟩ : ∃ s, (plainS c).length = s := ⟨_, rfl⟩
  obtain ⟨s1, hs1⟩ : ∃ s, (deltaS c).length = s := ⟨_, rfl⟩
  obtain ⟨s2, hs2⟩ : ∃ s, (runS c).length = s := ⟨_, rfl⟩
  obtain ⟨s3, hs3⟩ : ∃ s, (packS c).length = s := ⟨_, rfl⟩
  rw [hs0, hs1, hs2, hs3] at hS hwy
  obtain ⟨z, hz⟩ : ∃ z, wayS c = z + 1 := ⟨wayS c - 1, by omega⟩
  rw [hz] at hwr hwy ⊢
  have HS := hide hS
  have HWY := Lib.hid hwy
  clear hs0 hs1 hs2 hs3 hS hr hz hwy
  go_enter Try.func15, Try.ntmps15
  go_wp2_with fail
  refine (unhide HS).mono ?_
  rintro e w1 ⟨rfl, hb1⟩
  have HB1 := hide hb1
  clear hb1
  go_wp2_with fail
  obtain ⟨W1, hW1⟩ : ∃ W1, w1.alloc (.cells #[.int .i64 (s0 : Int), .int .i64 (s1 : Int), .int .i64 (s2 : Int), .int .i64 (s3 : Int)] 30) = W1 := ⟨_, rfl⟩
  have hx : Blk W1 w1.heap.size 30 #[.int .i64 (s0 : Int), .int .i64 (s1 : Int), .int .i64 (s2 : Int), .int .i64 (s3 : Int)] := by rw [← hW1]; exact Blk.new _ _ _
  have hbw : Below w.heap.size w W1 := by rw [← hW1]; exact (unhide HB1).alloc (unhide HB1).size _
  have hM := fun q => min_any s0 s1 s2 s3 w1.heap.size (W1.drewN q) (hx.cell 0) (hx.cell 1) (hx.cell 2) (hx.cell 3)
  have hI := fun q => index_any s0 s1 s2 s3 w1.heap.size (W1.drewN q) (hx.cell 0) (hx.cell 1) (hx.cell 2) (hx.cell 3)
  have hyz : ((wayOf s0 s1 s2 s3 : Nat) : Int) - 1 = (z : Int) := by rw [← HWY.out]; omega
  simp only [hyz] at hI
  obtain ⟨m, hm⟩ : ∃ m, min4 s0 s1 s2 s3 = m := ⟨_, rfl⟩
  simp only [hm] at hM hI
  have HM := fun q => hide (hM q)
  have HI := fun q => hide (hI q)
  have HBW := hide hbw
  have hs : IntKind.i64.wrap (1 + (z : Int)) = ((z + 1 : Nat) : Int) := by rw [IntWalk.i64_in _ (by omega)]; omega
  rw [hW1]
  clear hx hbw hM hI hyz hm HB1 HS hW1
  go_quiet ((first
    | (go_at_call 37; exact quiet_left (unhide (HM _)))
    | (go_at_call 36; exact quiet_left (unhide (HI _)))))
  go_wp2_with fail
  go_ret
  exact ⟨ret_i (by omega), below_drewN (unhide HBW) _⟩
theorem runS_len (c : List UInt32) : (runS c).length ≤ 20 * c.length := by
  have h : ∀ xs : List (UInt32 × Nat), (xs.flatMap fun p => form p.1.toNat ++ form p.2).length ≤ 20 * xs.length := by
    intro xs
    induction xs with
    | nil => simp
    | cons x r ih =>
      have h1 := (form_len x.1.toNat).2
      have h2 := (form_len x.2).2
      rw [List.flatMap_cons, List.length_append, List.length_append, List.length_cons]
      omega
  exact Nat.le_trans (h (runs c)) (Nat.mul_le_mul_left _ (runs_len c))
theorem packS_len5 (c : List UInt32) : (packS c).length ≤ 4 * c.length + 2 := by
  have h1 := wide_le c
  have h2 : c.length * wideS c ≤ c.length * 32 := Nat.mul_le_mul_left _ h1
  rw [packS_len]
  omega
theorem field0_1 (w : World) : (Instr.field 62 (.agg #[.func (.func 50) #[] #[], .func (.func 53) #[] #[], .func (.func 55) #[] #[]]) 1).run Try.prog w = .ok (.func (.func 53) #[] #[]) w := by kernel_rfl
theorem field0_2 (w : World) : (Instr.field 62 (.agg #[.func (.func 50) #[] #[], .func (.func 53) #[] #[], .func (.func 55) #[] #[]]) 2).run Try.prog w = .ok (.func (.func 55) #[] #[]) w := by kernel_rfl
theorem field1_1 (w : World) : (Instr.field 62 (.agg #[.func (.func 56) #[] #[], .func (.func 59) #[] #[], .func (.func 60) #[] #[]]) 1).run Try.prog w = .ok (.func (.func 59) #[] #[]) w := by kernel_rfl
theorem field1_2 (w : World) : (Instr.field 62 (.agg #[.func (.func 56) #[] #[], .func (.func 59) #[] #[], .func (.func 60) #[] #[]]) 2).run Try.prog w = .ok (.func (.func 60) #[] #[]) w := by kernel_rfl
theorem field2_1 (w : World) : (Instr.field 62 (.agg #[.func (.func 61) #[] #[], .func (.func 63) #[] #[], .func (.func 64) #[] #[]]) 1).run Try.prog w = .ok (.func (.func 63) #[] #[]) w := by kernel_rfl
theorem field2_2 (w : World) : (Instr.field 62 (.agg #[.func (.func 61) #[] #[], .func (.func 63) #[] #[], .func (.func 64) #[] #[]]) 2).run Try.prog w = .ok (.func (.func 64) #[] #[]) w := by kernel_rfl
theorem field3_1 (w : World) : (Instr.field 62 (.agg #[.func (.func 65) #[] #[], .func (.func 67) #[] #[], .func (.func 68) #[] #[]]) 1).run Try.prog w = .ok (.func (.func 67) #[] #[]) w := by kernel_rfl
theorem field3_2 (w : World) : (Instr.field 62 (.agg #[.func (.func 65) #[] #[], .func (.func 67) #[] #[], .func (.func 68) #[] #[]]) 2).run Try.prog w = .ok (.func (.func 68) #[] #[]) w := by kernel_rfl
theorem encode_long (A : Option Addr) (n cap : Nat) (w : World) (hn : 65536 < n) :
    Calls Try.prog 12 #[.slice A n cap] w fun e w' => e = .returned (.tuple #[.slice none 0 0, .int .i64 3]) ∧ w = w' := by
  have h : (65536 : Int) < (n : Int) := by omega
  go_enter Try.func12, Try.ntmps12
  go_wp2_with fail
  go_ret2
  exact ⟨rfl, rfl⟩
set_option maxRecDepth 100000 in
set_option maxHeartbeats 1000000 in
theorem encode1 (c : List UInt32) (A : Option Addr) (n cap B : Nat) (w : World) (hr : Reads w B 1 A n (c.map uw)) (hB : B ≤ w.heap.size) (hn : n ≤ 65536) (hy : wayS c = 1) :
    Calls Try.prog 12 #[.slice A n cap] w fun e w' => ∃ v, e = .returned (.tuple #[v, .int .i64 0]) ∧ w'.ownsRow w.heap.size 5 1 v (pageS c).length ((pageS c).map bv) ∧ Below w.heap.size w w' := by
  have hW := way_any c A n cap B w hr hB (by omega)
  have hp : pageS c = [UInt8.ofNat 1] ++ plainS c := by rw [pageS, hy]; rfl
  rw [hy, show ((1 : Nat) : Int) = 1 from rfl] at hW
  have HW := hide hW
  have HR := hide hr
  have HP := Lib.hid hp
  have hlen : c.length = n := by have := hr.1; simpa using this
  have HLEN := Lib.hid hlen
  have hix := way0
  have hfd := field0_1
  have hln : ¬ (65536 : Int) < (n : Int) := by omega
  clear hW hr hp hy hlen
  go_enter Try.func12, Try.ntmps12
  go_wp2_with fail
  refine (unhide HW).mono ?_
  rintro e w1 ⟨rfl, hb1⟩
  have hz1 := hb1.size
  have HB1 := hide hb1
  have hNW := hide (newWriter_any w1)
  clear hb1 HW
  go_wp2_with fail
  refine (unhide hNW).mono ?_
  rintro e w2 ⟨rfl, rfl⟩
  obtain ⟨g, hg⟩ : ∃ g, w1.heap.size = g := ⟨_, rfl⟩
  obtain ⟨W2, hW2⟩ : ∃ W, w1.alloc (.cells #[.slice none 0 0, .bool true] 77) = W := ⟨_, rfl⟩
  have hP2 : WrP W2 g (.slice none 0 0) [] := ⟨by rw [← hW2, ← hg]; exact Blk.new _ _ _, World.ownsRow_nil _ _ _ _⟩
  have hb2 : Below w.heap.size w W2 := by rw [← hW2]; exact (unhide HB1).alloc (unhide HB1).size _
  rw [hW2, hg]
  rw [hg] at hz1
  have hb3 : Below W2.heap.size W2 (W2.alloc (.cells #[.int .u8 1] 5)) := (Below.refl _ _).alloc (Nat.le_refl _) _
  have hR1 := hide (wraw_any (W2.alloc (.cells #[.int .u8 1] 5)) g (.slice none 0 0) [] (some ⟨W2.heap.size, 0, none⟩) 1 1 (W2.heap.size + 1) [UInt8.ofNat 1] (hP2.chg (Chg.of_below hb3 (fun _ => False)) (fun h => h) (fun _ _ h => h))
    (reads_lit W2 _ rfl 5 #[.int .u8 1] 1 rfl _ rfl) (by simp))
  have HB2 := hide hb2
  have HB3 := hide hb3
  clear hP2 hb2 hb3 hW2 hg HB1 hNW
  go_wp2_with fail
  refine (unhide hR1).mono ?_
  rintro e W3 ⟨rfl, v3, hw3, ht3⟩
  have hb3 : Below w.heap.size w W3 := ((unhide HB2).trans ((unhide HB3).mono (unhide HB2).size)).trans (ht3.chg.below (by have h1 := (unhide HB2).size; have h2 := (unhide HB3).size; omega) (fun i hi e => by
    rcases e with e | e
    · omega
    · cases e))
  have HW3 := hide hw3
  have HB3' := hide hb3
  clear hw3 ht3 hb3 hR1 HB2 HB3
  go_wp2_with fail
  refine (ways_any W3).mono ?_
  rintro e W4 ⟨rfl, hb4⟩
  have hw4 := (unhide HW3).chg (Chg.of_below hb4 (fun _ => False)) (fun h => h) (fun _ _ h => h)
  have hbw4 := (unhide HB3').trans (hb4.mono (unhide HB3').size)
  have hL := lay2_any c A n cap B W4 g v3 ([] ++ [UInt8.ofNat 1]) hw4 ((unhide HR).below (hbw4.mono hB)) (by omega) (by simp; omega)
  rw [List.nil_append, ← HP.out] at hL
  have hwo := hide hw4.own.lt
  have HL := hide hL
  have HBW4 := hide hbw4
  clear hL hw4 hbw4 hb4 HW3 HB3'
  go_wp2_with fail
  refine (unhide HL).mono ?_
  rintro e W5 ⟨rfl, v5, hw5, ht5⟩
  have hb5 := (unhide HBW4).trans (ht5.chg.below (unhide HBW4).size (fun i hi e => by
    rcases e with e | e
    · omega
    · have := (unhide hwo i e).1; omega))
  have ho5 := hw5.own
  obtain ⟨A5, c5, rfl⟩ := ho5.shape
  have hpl : (pageS c).length ≤ 140737488355328 := by
    rw [HP.out, List.length_append]
    have h1 : (plainS c).length ≤ 20 * n + 20 := by rw [← HLEN.out]; exact Nat.le_trans (plainS_len c) (by omega)
    simp
    omega
  have hK := hide (bytes_made W5 g A5 (pageS c).length c5 W5.heap.size (pageS c) hw5.blk (Reads.of_own ho5) hpl)
  have HB5 := hide hb5
  clear hw5 ht5 hb5 ho5 HL HBW4
  go_wp2_with fail
  refine (unhide hK).mono ?_
  rintro e W6 ⟨v6, rfl, ho6, hb6⟩
  obtain ⟨A6, c6, rfl⟩ := ho6.shape
  have HO6 := hide (ho6.base (unhide HB5).size)
  have HB6 := hide ((unhide HB5).trans (hb6.mono (unhide HB5).size))
  clear ho6 hb6 HB5
  go_wp2_with fail
  go_ret2
  exact ⟨_, rfl, unhide HO6, unhide HB6⟩
set_option maxRecDepth 100000 in
set_option maxHeartbeats 1000000 in
theorem encode2 (c : List UInt32) (A : Option Addr) (n cap B : Nat) (w : World) (hr : Reads w B 1 A n (c.map uw)) (hB : B ≤ w.heap.size) (hn : n ≤ 65536) (hy : wayS c = 2) :
    Calls Try.prog 12 #[.slice A n cap] w fun e w' => ∃ v, e = .returned (.tuple #[v, .int .i64 0]) ∧ w'.ownsRow w.heap.size 5 1 v (pageS c).length ((pageS c).map bv) ∧ Below w.heap.size w w' := by
  have hW := way_any c A n cap B w hr hB (by omega)
  have hp : pageS c = [UInt8.ofNat 2] ++ deltaS c := by rw [pageS, hy]; rfl
  rw [hy, show ((2 : Nat) : Int) = 2 from rfl] at hW
  have HW := hide hW
  have HR := hide hr
  have HP := Lib.hid hp
  have hlen : c.length = n := by have := hr.1; simpa using this
  have HLEN := Lib.hid hlen
  have hix := way1
  have hfd := field1_1
  have hln : ¬ (65536 : Int) < (n : Int) := by omega
  clear hW hr hp hy hlen
  go_enter Try.func12, Try.ntmps12
  go_wp2_with fail
  refine (unhide HW).mono ?_
  rintro e w1 ⟨rfl, hb1⟩
  have hz1 := hb1.size
  have HB1 := hide hb1
  have hNW := hide (newWriter_any w1)
  clear hb1 HW
  go_wp2_with fail
  refine (unhide hNW).mono ?_
  rintro e w2 ⟨rfl, rfl⟩
  obtain ⟨g, hg⟩ : ∃ g, w1.heap.size = g := ⟨_, rfl⟩
  obtain ⟨W2, hW2⟩ : ∃ W, w1.alloc (.cells #[.slice none 0 0, .bool true] 77) = W := ⟨_, rfl⟩
  have hP2 : WrP W2 g (.slice none 0 0) [] := ⟨by rw [← hW2, ← hg]; exact Blk.new _ _ _, World.ownsRow_nil _ _ _ _⟩
  have hb2 : Below w.heap.size w W2 := by rw [← hW2]; exact (unhide HB1).alloc (unhide HB1).size _
  rw [hW2, hg]
  rw [hg] at hz1
  have hb3 : Below W2.heap.size W2 (W2.alloc (.cells #[.int .u8 2] 5)) := (Below.refl _ _).alloc (Nat.le_refl _) _
  have hR1 := hide (wraw_any (W2.alloc (.cells #[.int .u8 2] 5)) g (.slice none 0 0) [] (some ⟨W2.heap.size, 0, none⟩) 1 1 (W2.heap.size + 1) [UInt8.ofNat 2] (hP2.chg (Chg.of_below hb3 (fun _ => False)) (fun h => h) (fun _ _ h => h))
    (reads_lit W2 _ rfl 5 #[.int .u8 2] 1 rfl _ rfl) (by simp))
  have HB2 := hide hb2
  have HB3 := hide hb3
  clear hP2 hb2 hb3 hW2 hg HB1 hNW
  go_wp2_with fail
  refine (unhide hR1).mono ?_
  rintro e W3 ⟨rfl, v3, hw3, ht3⟩
  have hb3 : Below w.heap.size w W3 := ((unhide HB2).trans ((unhide HB3).mono (unhide HB2).size)).trans (ht3.chg.below (by have h1 := (unhide HB2).size; have h2 := (unhide HB3).size; omega) (fun i hi e => by
    rcases e with e | e
    · omega
    · cases e))
  have HW3 := hide hw3
  have HB3' := hide hb3
  clear hw3 ht3 hb3 hR1 HB2 HB3
  go_wp2_with fail
  refine (ways_any W3).mono ?_
  rintro e W4 ⟨rfl, hb4⟩
  have hw4 := (unhide HW3).chg (Chg.of_below hb4 (fun _ => False)) (fun h => h) (fun _ _ h => h)
  have hbw4 := (unhide HB3').trans (hb4.mono (unhide HB3').size)
  have hL := lay4_any c A n cap B W4 g v3 ([] ++ [UInt8.ofNat 2]) hw4 ((unhide HR).below (hbw4.mono hB)) (by omega) (by simp; omega)
  rw [List.nil_append, ← HP.out] at hL
  have hwo := hide hw4.own.lt
  have HL := hide hL
  have HBW4 := hide hbw4
  clear hL hw4 hbw4 hb4 HW3 HB3'
  go_wp2_with fail
  refine (unhide HL).mono ?_
  rintro e W5 ⟨rfl, v5, hw5, ht5⟩
  have hb5 := (unhide HBW4).trans (ht5.chg.below (unhide HBW4).size (fun i hi e => by
    rcases e with e | e
    · omega
    · have := (unhide hwo i e).1; omega))
  have ho5 := hw5.own
  obtain ⟨A5, c5, rfl⟩ := ho5.shape
  have hpl : (pageS c).length ≤ 140737488355328 := by
    rw [HP.out, List.length_append]
    have h1 : (deltaS c).length ≤ 20 * n + 20 := by rw [← HLEN.out]; exact Nat.le_trans (deltaTo_len c c.length) (by omega)
    simp
    omega
  have hK := hide (bytes_made W5 g A5 (pageS c).length c5 W5.heap.size (pageS c) hw5.blk (Reads.of_own ho5) hpl)
  have HB5 := hide hb5
  clear hw5 ht5 hb5 ho5 HL HBW4
  go_wp2_with fail
  refine (unhide hK).mono ?_
  rintro e W6 ⟨v6, rfl, ho6, hb6⟩
  obtain ⟨A6, c6, rfl⟩ := ho6.shape
  have HO6 := hide (ho6.base (unhide HB5).size)
  have HB6 := hide ((unhide HB5).trans (hb6.mono (unhide HB5).size))
  clear ho6 hb6 HB5
  go_wp2_with fail
  go_ret2
  exact ⟨_, rfl, unhide HO6, unhide HB6⟩
set_option maxRecDepth 100000 in
set_option maxHeartbeats 1000000 in
theorem encode3 (c : List UInt32) (A : Option Addr) (n cap B : Nat) (w : World) (hr : Reads w B 1 A n (c.map uw)) (hB : B ≤ w.heap.size) (hn : n ≤ 65536) (hy : wayS c = 3) :
    Calls Try.prog 12 #[.slice A n cap] w fun e w' => ∃ v, e = .returned (.tuple #[v, .int .i64 0]) ∧ w'.ownsRow w.heap.size 5 1 v (pageS c).length ((pageS c).map bv) ∧ Below w.heap.size w w' := by
  have hW := way_any c A n cap B w hr hB (by omega)
  have hp : pageS c = [UInt8.ofNat 3] ++ runS c := by rw [pageS, hy]; rfl
  rw [hy, show ((3 : Nat) : Int) = 3 from rfl] at hW
  have HW := hide hW
  have HR := hide hr
  have HP := Lib.hid hp
  have hlen : c.length = n := by have := hr.1; simpa using this
  have HLEN := Lib.hid hlen
  have hix := way2
  have hfd := field2_1
  have hln : ¬ (65536 : Int) < (n : Int) := by omega
  clear hW hr hp hy hlen
  go_enter Try.func12, Try.ntmps12
  go_wp2_with fail
  refine (unhide HW).mono ?_
  rintro e w1 ⟨rfl, hb1⟩
  have hz1 := hb1.size
  have HB1 := hide hb1
  have hNW := hide (newWriter_any w1)
  clear hb1 HW
  go_wp2_with fail
  refine (unhide hNW).mono ?_
  rintro e w2 ⟨rfl, rfl⟩
  obtain ⟨g, hg⟩ : ∃ g, w1.heap.size = g := ⟨_, rfl⟩
  obtain ⟨W2, hW2⟩ : ∃ W, w1.alloc (.cells #[.slice none 0 0, .bool true] 77) = W := ⟨_, rfl⟩
  have hP2 : WrP W2 g (.slice none 0 0) [] := ⟨by rw [← hW2, ← hg]; exact Blk.new _ _ _, World.ownsRow_nil _ _ _ _⟩
  have hb2 : Below w.heap.size w W2 := by rw [← hW2]; exact (unhide HB1).alloc (unhide HB1).size _
  rw [hW2, hg]
  rw [hg] at hz1
  have hb3 : Below W2.heap.size W2 (W2.alloc (.cells #[.int .u8 3] 5)) := (Below.refl _ _).alloc (Nat.le_refl _) _
  have hR1 := hide (wraw_any (W2.alloc (.cells #[.int .u8 3] 5)) g (.slice none 0 0) [] (some ⟨W2.heap.size, 0, none⟩) 1 1 (W2.heap.size + 1) [UInt8.ofNat 3] (hP2.chg (Chg.of_below hb3 (fun _ => False)) (fun h => h) (fun _ _ h => h))
    (reads_lit W2 _ rfl 5 #[.int .u8 3] 1 rfl _ rfl) (by simp))
  have HB2 := hide hb2
  have HB3 := hide hb3
  clear hP2 hb2 hb3 hW2 hg HB1 hNW
  go_wp2_with fail
  refine (unhide hR1).mono ?_
  rintro e W3 ⟨rfl, v3, hw3, ht3⟩
  have hb3 : Below w.heap.size w W3 := ((unhide HB2).trans ((unhide HB3).mono (unhide HB2).size)).trans (ht3.chg.below (by have h1 := (unhide HB2).size; have h2 := (unhide HB3).size; omega) (fun i hi e => by
    rcases e with e | e
    · omega
    · cases e))
  have HW3 := hide hw3
  have HB3' := hide hb3
  clear hw3 ht3 hb3 hR1 HB2 HB3
  go_wp2_with fail
  refine (ways_any W3).mono ?_
  rintro e W4 ⟨rfl, hb4⟩
  have hw4 := (unhide HW3).chg (Chg.of_below hb4 (fun _ => False)) (fun h => h) (fun _ _ h => h)
  have hbw4 := (unhide HB3').trans (hb4.mono (unhide HB3').size)
  have hL := lay6_any c A n cap B W4 g v3 ([] ++ [UInt8.ofNat 3]) hw4 ((unhide HR).below (hbw4.mono hB)) (by omega) (by simp; omega)
  rw [List.nil_append, ← HP.out] at hL
  have hwo := hide hw4.own.lt
  have HL := hide hL
  have HBW4 := hide hbw4
  clear hL hw4 hbw4 hb4 HW3 HB3'
  go_wp2_with fail
  refine (unhide HL).mono ?_
  rintro e W5 ⟨rfl, v5, hw5, ht5⟩
  have hb5 := (unhide HBW4).trans (ht5.chg.below (unhide HBW4).size (fun i hi e => by
    rcases e with e | e
    · omega
    · have := (unhide hwo i e).1; omega))
  have ho5 := hw5.own
  obtain ⟨A5, c5, rfl⟩ := ho5.shape
  have hpl : (pageS c).length ≤ 140737488355328 := by
    rw [HP.out, List.length_append]
    have h1 : (runS c).length ≤ 20 * n + 20 := by rw [← HLEN.out]; exact Nat.le_trans (runS_len c) (by omega)
    simp
    omega
  have hK := hide (bytes_made W5 g A5 (pageS c).length c5 W5.heap.size (pageS c) hw5.blk (Reads.of_own ho5) hpl)
  have HB5 := hide hb5
  clear hw5 ht5 hb5 ho5 HL HBW4
  go_wp2_with fail
  refine (unhide hK).mono ?_
  rintro e W6 ⟨v6, rfl, ho6, hb6⟩
  obtain ⟨A6, c6, rfl⟩ := ho6.shape
  have HO6 := hide (ho6.base (unhide HB5).size)
  have HB6 := hide ((unhide HB5).trans (hb6.mono (unhide HB5).size))
  clear ho6 hb6 HB5
  go_wp2_with fail
  go_ret2
  exact ⟨_, rfl, unhide HO6, unhide HB6⟩
set_option maxRecDepth 100000 in
set_option maxHeartbeats 1000000 in
theorem encode4 (c : List UInt32) (A : Option Addr) (n cap B : Nat) (w : World) (hr : Reads w B 1 A n (c.map uw)) (hB : B ≤ w.heap.size) (hn : n ≤ 65536) (hy : wayS c = 4) :
    Calls Try.prog 12 #[.slice A n cap] w fun e w' => ∃ v, e = .returned (.tuple #[v, .int .i64 0]) ∧ w'.ownsRow w.heap.size 5 1 v (pageS c).length ((pageS c).map bv) ∧ Below w.heap.size w w' := by
  have hW := way_any c A n cap B w hr hB (by omega)
  have hp : pageS c = [UInt8.ofNat 4] ++ packS c := by rw [pageS, hy]; rfl
  rw [hy, show ((4 : Nat) : Int) = 4 from rfl] at hW
  have HW := hide hW
  have HR := hide hr
  have HP := Lib.hid hp
  have hlen : c.length = n := by have := hr.1; simpa using this
  have HLEN := Lib.hid hlen
  have hix := way3
  have hfd := field3_1
  have hln : ¬ (65536 : Int) < (n : Int) := by omega
  clear hW hr hp hy hlen
  go_enter Try.func12, Try.ntmps12
  go_wp2_with fail
  refine (unhide HW).mono ?_
  rintro e w1 ⟨rfl, hb1⟩
  have hz1 := hb1.size
  have HB1 := hide hb1
  have hNW := hide (newWriter_any w1)
  clear hb1 HW
  go_wp2_with fail
  refine (unhide hNW).mono ?_
  rintro e w2 ⟨rfl, rfl⟩
  obtain ⟨g, hg⟩ : ∃ g, w1.heap.size = g := ⟨_, rfl⟩
  obtain ⟨W2, hW2⟩ : ∃ W, w1.alloc (.cells #[.slice none 0 0, .bool true] 77) = W := ⟨_, rfl⟩
  have hP2 : WrP W2 g (.slice none 0 0) [] := ⟨by rw [← hW2, ← hg]; exact Blk.new _ _ _, World.ownsRow_nil _ _ _ _⟩
  have hb2 : Below w.heap.size w W2 := by rw [← hW2]; exact (unhide HB1).alloc (unhide HB1).size _
  rw [hW2, hg]
  rw [hg] at hz1
  have hb3 : Below W2.heap.size W2 (W2.alloc (.cells #[.int .u8 4] 5)) := (Below.refl _ _).alloc (Nat.le_refl _) _
  have hR1 := hide (wraw_any (W2.alloc (.cells #[.int .u8 4] 5)) g (.slice none 0 0) [] (some ⟨W2.heap.size, 0, none⟩) 1 1 (W2.heap.size + 1) [UInt8.ofNat 4] (hP2.chg (Chg.of_below hb3 (fun _ => False)) (fun h => h) (fun _ _ h => h))
    (reads_lit W2 _ rfl 5 #[.int .u8 4] 1 rfl _ rfl) (by simp))
  have HB2 := hide hb2
  have HB3 := hide hb3
  clear hP2 hb2 hb3 hW2 hg HB1 hNW
  go_wp2_with fail
  refine (unhide hR1).mono ?_
  rintro e W3 ⟨rfl, v3, hw3, ht3⟩
  have hb3 : Below w.heap.size w W3 := ((unhide HB2).trans ((unhide HB3).mono (unhide HB2).size)).trans (ht3.chg.below (by have h1 := (unhide HB2).size; have h2 := (unhide HB3).size; omega) (fun i hi e => by
    rcases e with e | e
    · omega
    · cases e))
  have HW3 := hide hw3
  have HB3' := hide hb3
  clear hw3 ht3 hb3 hR1 HB2 HB3
  go_wp2_with fail
  refine (ways_any W3).mono ?_
  rintro e W4 ⟨rfl, hb4⟩
  have hw4 := (unhide HW3).chg (Chg.of_below hb4 (fun _ => False)) (fun h => h) (fun _ _ h => h)
  have hbw4 := (unhide HB3').trans (hb4.mono (unhide HB3').size)
  have hL := lay8_any c A n cap B W4 g v3 ([] ++ [UInt8.ofNat 4]) hw4 ((unhide HR).below (hbw4.mono hB)) (by omega) (by omega) (by simp; omega)
  rw [List.nil_append, ← HP.out] at hL
  have hwo := hide hw4.own.lt
  have HL := hide hL
  have HBW4 := hide hbw4
  clear hL hw4 hbw4 hb4 HW3 HB3'
  go_wp2_with fail
  refine (unhide HL).mono ?_
  rintro e W5 ⟨rfl, v5, hw5, ht5⟩
  have hb5 := (unhide HBW4).trans (ht5.chg.below (unhide HBW4).size (fun i hi e => by
    rcases e with e | e
    · omega
    · have := (unhide hwo i e).1; omega))
  have ho5 := hw5.own
  obtain ⟨A5, c5, rfl⟩ := ho5.shape
  have hpl : (pageS c).length ≤ 140737488355328 := by
    rw [HP.out, List.length_append]
    have h1 : (packS c).length ≤ 20 * n + 20 := by rw [← HLEN.out]; exact Nat.le_trans (packS_len5 c) (by omega)
    simp
    omega
  have hK := hide (bytes_made W5 g A5 (pageS c).length c5 W5.heap.size (pageS c) hw5.blk (Reads.of_own ho5) hpl)
  have HB5 := hide hb5
  clear hw5 ht5 hb5 ho5 HL HBW4
  go_wp2_with fail
  refine (unhide hK).mono ?_
  rintro e W6 ⟨v6, rfl, ho6, hb6⟩
  obtain ⟨A6, c6, rfl⟩ := ho6.shape
  have HO6 := hide (ho6.base (unhide HB5).size)
  have HB6 := hide ((unhide HB5).trans (hb6.mono (unhide HB5).size))
  clear ho6 hb6 HB5
  go_wp2_with fail
  go_ret2
  exact ⟨_, rfl, unhide HO6, unhide HB6⟩
theorem encode_any (c : List UInt32) (A : Option Addr) (n cap B : Nat) (w : World) (hr : Reads w B 1 A n (c.map uw)) (hB : B ≤ w.heap.size) (hn : n ≤ 65536) :
    Calls Try.prog 12 #[.slice A n cap] w fun e w' => ∃ v, e = .returned (.tuple #[v, .int .i64 0]) ∧ w'.ownsRow w.heap.size 5 1 v (pageS c).length ((pageS c).map bv) ∧ Below w.heap.size w w' := by
  have h := wayS_range c
  rcases (show wayS c = 1 ∨ wayS c = 2 ∨ wayS c = 3 ∨ wayS c = 4 by omega) with hy | hy | hy | hy
  · exact encode1 c A n cap B w hr hB hn hy
  · exact encode2 c A n cap B w hr hB hn hy
  · exact encode3 c A n cap B w hr hB hn hy
  · exact encode4 c A n cap B w hr hB hn hy
end Go.Proofs.Yteambdbcjcfdeaa
