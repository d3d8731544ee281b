/-
  'again': the same read of what was put; the walk over the Go text.
-/
import Derived.Test.YtbofjboebkfjgaaLebThereMath
import Derived.Test.YtbofjboebkfjgaaLebReads
namespace Go.Proofs.Ytbofjboebkfjgaa
open Go.RowKit

/-- What 'again' leaves. -/
def AgOut (w : World) (g : Nat) (A : Option Addr) (m c : Nat) (bs : List UInt8) (q : Nat × Nat) (r : Bool) (E : Ending) (w' : World) : Prop :=
  E = .returned (.bool r) ∧ After w g A m c bs q.1 q.2 w'

set_option maxRecDepth 100000 in
set_option maxHeartbeats 1000000 in
theorem again_num (w : World) (g : Nat) (A : Option Addr) (m c : Nat) (bs : List UInt8) (p f : Nat) (h : RdP w g A m c bs p f) (o1 : Value) (N : Nat) (K : Int) (o4 : Value) (n : Nat) (xs : List UInt8) :
    Calls Try.prog 43 #[.pointer (some ⟨g, 0, none⟩), .agg #[.int .i64 1, o1, .int .u64 (N : Int), .int .i64 K, o4]] w (AgOut w g A m c bs (ag 1 n bs p f) (agB 1 N K n xs bs p f)) := by
  have hb0 : Below w.heap.size w (w.alloc (.cells #[.int .i64 1, o1, .int .u64 (N : Int), .int .i64 K, o4] 45)) := (Below.refl _ _).alloc (Nat.le_refl _) _
  have hgl := h.blk.lt
  have hX0 := Blk.new w 45 #[.int .i64 1, o1, .int .u64 (N : Int), .int .i64 K, o4]
  have hC0 := Chg.of_below hb0 (fun i => i = g)
  have h0 := h.chg (Chg.of_below hb0 (fun _ => False)) (fun _ _ h => h)
  have hM := hide (num_made _ g A m c bs p f h0)
  obtain ⟨K', hK'⟩ : ∃ k, (K % 18446744073709551616).toNat = k := ⟨_, rfl⟩
  have hcv : IntKind.u64.wrap K = (K' : Int) := by
    simp [IntKind.wrap, IntKind.signed, IntKind.bits]
    omega
  obtain ⟨⟨a1, p1, f1⟩, h1⟩ : ∃ r, numS bs p f = r := ⟨_, rfl⟩
  obtain ⟨⟨a2, p2, f2⟩, h2⟩ : ∃ r, numS bs p1 f1 = r := ⟨_, rfl⟩
  have hag : ag 1 n bs p f = (p2, f2) := by simp [ag, h1, h2]
  have hagB : agB 1 N K n xs bs p f = (decide (a1 = N) && decide (a2 = K')) := by simp [agB, h1, h2, hK']
  rw [hag, hagB]
  rw [h1] at hM
  have HX0 := hide hX0
  have HC0 := hide hC0
  have HH2 := Lib.hid h2
  clear hag hagB h1 h2 hK' h0 h hb0 hX0 hC0
  go_enter Try.func43, Try.ntmps43
  go_wp2_with fail
  refine (unhide hM).mono ?_
  rintro e w1 ⟨rfl, hr1, hc1⟩
  have hM2 := hide (num_made w1 g A m c bs p1 f1 hr1)
  rw [HH2.out] at hM2
  have hX1 := hide (hc1.blk (unhide HX0) (fun e => by omega))
  have HC1 := hide ((unhide HC0).trans hc1 (fun i _ e => e))
  clear hr1 hc1 HX0 HC0 hM
  go_wp2_with fail
  refine (unhide hM2).mono ?_
  rintro e w2 ⟨rfl, hr2, hc2⟩
  have hX2 := hc2.blk (unhide hX1) (fun e => by omega)
  have q2 : w2.cell? ⟨w.heap.size, 2, none⟩ = some (.int .u64 (N : Int)) := hX2.cell 2
  have q3 : w2.cell? ⟨w.heap.size, 3, none⟩ = some (.int .i64 K) := hX2.cell 3
  have HR2 := hide hr2
  have HC2 := hide ((unhide HC1).trans hc2 (fun i _ e => e))
  clear hr2 hc2 HC1 hX1 hX2 hM2
  by_cases e1 : a1 = N
  · by_cases e2 : a2 = K'
    · have d1 : ((a1 : Int) == (N : Int)) = true := by simp; omega
      have d2 : ((a2 : Int) == (K' : Int)) = true := by simp; omega
      have E : Hid ((decide (a1 = N) && decide (a2 = K')) = true) := hide (by simp [e1, e2])
      clear e1 e2
      go_wp2
      go_ret
      exact ⟨by rw [unhide E]; rfl, unhide HR2, unhide HC2⟩
    · have d1 : ((a1 : Int) == (N : Int)) = true := by simp; omega
      have d2 : ((a2 : Int) == (K' : Int)) = false := by simp; omega
      have E : Hid ((decide (a1 = N) && decide (a2 = K')) = false) := hide (by simp [e1, e2])
      clear e1 e2
      go_wp2
      go_ret
      exact ⟨by rw [unhide E]; rfl, unhide HR2, unhide HC2⟩
  · have d1 : ((a1 : Int) == (N : Int)) = false := by simp; omega
    have E : Hid ((decide (a1 = N) && decide (a2 = K')) = false) := hide (by simp [e1])
    clear e1
    go_wp2
    go_ret
    exact ⟨by rw [unhide E]; rfl, unhide HR2, unhide HC2⟩

set_option maxRecDepth 100000 in
set_option maxHeartbeats 1000000 in
theorem again_int (w : World) (g : Nat) (A : Option Addr) (m c : Nat) (bs : List UInt8) (p f : Nat) (h : RdP w g A m c bs p f) (o1 o2 : Value) (N : Nat) (K : Int) (o4 : Value) (n : Nat) (xs : List UInt8) :
    Calls Try.prog 43 #[.pointer (some ⟨g, 0, none⟩), .agg #[.int .i64 2, o1, o2, .int .i64 K, o4]] w (AgOut w g A m c bs (ag 2 n bs p f) (agB 2 N K n xs bs p f)) := by
  have hb0 : Below w.heap.size w (w.alloc (.cells #[.int .i64 2, o1, o2, .int .i64 K, o4] 45)) := (Below.refl _ _).alloc (Nat.le_refl _) _
  have hgl := h.blk.lt
  have hX0 := Blk.new w 45 #[.int .i64 2, o1, o2, .int .i64 K, o4]
  have hC0 := Chg.of_below hb0 (fun i => i = g)
  have h0 := h.chg (Chg.of_below hb0 (fun _ => False)) (fun _ _ h => h)
  have hM := hide (int_made _ g A m c bs p f h0)
  obtain ⟨⟨a1, p1, f1⟩, h1⟩ : ∃ r, numS bs p f = r := ⟨_, rfl⟩
  obtain ⟨⟨a2, p2, f2⟩, h2⟩ : ∃ r, numS bs p1 f1 = r := ⟨_, rfl⟩
  have hag : ag 2 n bs p f = (p2, f2) := by simp [ag, h1, h2]
  obtain ⟨b1, hb1⟩ : ∃ b, backS a1 = b := ⟨_, rfl⟩
  obtain ⟨b2, hb2⟩ : ∃ b, backS a2 = b := ⟨_, rfl⟩
  have hagB : agB 2 N K n xs bs p f = (decide (b1 = K) && decide (b2 = K)) := by simp [agB, h1, h2, hb1, hb2]
  rw [hag, hagB]
  rw [h1] at hM
  simp only [hb1] at hM
  have HX0 := hide hX0
  have HC0 := hide hC0
  have HH2 := Lib.hid h2
  have HB2 := Lib.hid hb2
  clear hag hagB h1 h2 hb1 hb2 h0 h hb0 hX0 hC0
  go_enter Try.func43, Try.ntmps43
  go_wp2_with fail
  refine (unhide hM).mono ?_
  rintro e w1 ⟨rfl, hr1, hc1⟩
  have hM2 := hide (int_made w1 g A m c bs p1 f1 hr1)
  rw [HH2.out] at hM2
  simp only [HB2.out] at hM2
  have hX1 := hide (hc1.blk (unhide HX0) (fun e => by omega))
  have HC1 := hide ((unhide HC0).trans hc1 (fun i _ e => e))
  clear hr1 hc1 HX0 HC0 hM
  go_wp2_with fail
  refine (unhide hM2).mono ?_
  rintro e w2 ⟨rfl, hr2, hc2⟩
  have hX2 := hc2.blk (unhide hX1) (fun e => by omega)
  have q3 : w2.cell? ⟨w.heap.size, 3, none⟩ = some (.int .i64 K) := hX2.cell 3
  have HR2 := hide hr2
  have HC2 := hide ((unhide HC1).trans hc2 (fun i _ e => e))
  clear hr2 hc2 HC1 hX1 hX2 hM2
  by_cases e1 : b1 = K
  · by_cases e2 : b2 = K
    · have d1 : (b1 == K) = true := by simp; omega
      have d2 : (b2 == K) = true := by simp; omega
      have E : Hid ((decide (b1 = K) && decide (b2 = K)) = true) := hide (by simp [e1, e2])
      clear e1 e2
      go_wp2
      go_ret
      exact ⟨by rw [unhide E]; rfl, unhide HR2, unhide HC2⟩
    · have d1 : (b1 == K) = true := by simp; omega
      have d2 : (b2 == K) = false := by simp; omega
      have E : Hid ((decide (b1 = K) && decide (b2 = K)) = false) := hide (by simp [e1, e2])
      clear e1 e2
      go_wp2
      go_ret
      exact ⟨by rw [unhide E]; rfl, unhide HR2, unhide HC2⟩
  · have d1 : (b1 == K) = false := by simp; omega
    have E : Hid ((decide (b1 = K) && decide (b2 = K)) = false) := hide (by simp [e1])
    clear e1
    go_wp2
    go_ret
    exact ⟨by rw [unhide E]; rfl, unhide HR2, unhide HC2⟩

set_option maxRecDepth 100000 in
theorem again_tell (w : World) (g : Nat) (A : Option Addr) (m c : Nat) (bs : List UInt8) (p f : Nat) (h : RdP w g A m c bs p f) (kd : Int) (o1 o2 o3 o4 : Value) (N : Nat) (K : Int) (n : Nat) (xs : List UInt8) (h1 : kd ≠ 1) (h2 : kd ≠ 2) (h3 : kd ≠ 3) (h4 : kd ≠ 4) :
    Calls Try.prog 43 #[.pointer (some ⟨g, 0, none⟩), .agg #[.int .i64 kd, o1, o2, o3, o4]] w (AgOut w g A m c bs (ag kd n bs p f) (agB kd N K n xs bs p f)) := by
  have hb0 : Below w.heap.size w (w.alloc (.cells #[.int .i64 kd, o1, o2, o3, o4] 45)) := (Below.refl _ _).alloc (Nat.le_refl _) _
  have HC0 := hide (Chg.of_below hb0 (fun i => i = g))
  have H0 := hide (h.chg (Chg.of_below hb0 (fun _ => False)) (fun _ _ h => h))
  have hag : ag kd n bs p f = (p, f) := by simp [ag, h1, h2, h3, h4]
  have hagB : agB kd N K n xs bs p f = true := by simp [agB, h1, h2, h3, h4]
  rw [hag, hagB]
  clear hag hagB hb0 h
  go_enter Try.func43, Try.ntmps43
  go_wp2
  go_ret
  exact ⟨rfl, unhide H0, unhide HC0⟩

set_option maxRecDepth 100000 in
set_option maxHeartbeats 1000000 in
theorem again_raw (w : World) (g : Nat) (A : Option Addr) (m c : Nat) (bs : List UInt8) (p f : Nat) (h : RdP w g A m c bs p f) (o1 o2 o3 : Value) (N : Nat) (K : Int) (A' : Option Addr) (n c' : Nat) (xs : List UInt8) (B0 : Nat) (hx : Reads w B0 1 A' n (xs.map bv)) (hB0 : B0 ≤ g) (hn : n ≤ 35184372088832) :
    Calls Try.prog 43 #[.pointer (some ⟨g, 0, none⟩), .agg #[.int .i64 3, o1, o2, o3, .slice A' n c']] w (AgOut w g A m c bs (ag 3 n bs p f) (agB 3 N K n xs bs p f)) := by
  have hb0 : Below w.heap.size w (w.alloc (.cells #[.int .i64 3, o1, o2, o3, .slice A' n c'] 45)) := (Below.refl _ _).alloc (Nat.le_refl _) _
  have hgl := h.blk.lt
  have hX0 := Blk.new w 45 #[.int .i64 3, o1, o2, o3, .slice A' n c']
  have hC0 := Chg.of_below hb0 (fun i => i = g)
  have h0 := h.chg (Chg.of_below hb0 (fun _ => False)) (fun _ _ h => h)
  have hM := hide (raw_made (w.alloc (.cells #[.int .i64 3, o1, o2, o3, .slice A' n c'] 45)).drew g A m c bs p f (n : Int) (h0.drewN 1) (by omega))
  have r0 : Reads (w.alloc (.cells #[.int .i64 3, o1, o2, o3, .slice A' n c'] 45)) B0 1 A' n (xs.map bv) := hx.alloc (by omega) _
  have q4 : (w.alloc (.cells #[.int .i64 3, o1, o2, o3, .slice A' n c'] 45)).cell? ⟨w.heap.size, 4, none⟩ = some (.slice A' n c') := hX0.cell 4
  obtain ⟨⟨x, p1, f1⟩, h1⟩ : ∃ r, rawS bs (n : Int) p f = r := ⟨_, rfl⟩
  have hag : ag 3 n bs p f = (p1, f1) := by simp [ag, h1]
  have hagB : agB 3 N K n xs bs p f = (x == xs) := by simp [agB, h1]
  rw [hag, hagB]
  rw [h1] at hM
  simp only at hM
  have HX0 := hide hX0
  have HC0 := hide (hC0.drewN 1)
  have HR0 := hide r0
  have hz0 := hb0.size
  clear hag hagB h1 h0 h hb0 hX0 hC0 r0 hx
  go_enter Try.func43, Try.ntmps43
  go_wp2
  go_region_held3 (fun w' => w'.cell? ⟨w.heap.size, 4, none⟩ = some (.slice A' n c')) (first | go_keep | exact d1) ((first
    | (go_at_call 34; (with_reducible refine (unhide hM).mono ?_); rintro e w1 ⟨v1, rfl, ho1, ha⟩
       obtain ⟨A1, k1, rfl⟩ := ho1.shape
       have hk1 := ha.2.blk ((unhide HX0).drewN 1) (by omega)
       have d1 : w1.cell? ⟨w.heap.size, 4, none⟩ = some (.slice A' n c') := hk1.cell 4
       have hz1 := ha.2.size
       have hr1 := (ha.2.reads (unhide HR0) (by show B0 ≤ (w.alloc _).heap.size; omega) (fun i hi e => by omega)).more (B' := w1.heap.size) (by
         have hz : (w.alloc (.cells #[.int .i64 3, o1, o2, o3, .slice A' n c'] 45)).heap.size ≤ w1.heap.size := hz1
         omega)
       have hS := hide (same_any A1 A' x.length k1 n c' x xs w1 w1.heap.size (Reads.of_own ho1) hr1)
       have HA := hide ha
       clear ha hk1 ho1 hr1 hz1)
    | (go_at_call 18; (with_reducible refine (unhide hS).mono ?_); rintro e w3 ⟨rfl, rfl⟩)))
  go_wp2
  go_ret
  exact ⟨rfl, (unhide HA).1, (unhide HC0).trans (unhide HA).2 (fun i _ e => e)⟩

set_option maxRecDepth 100000 in
set_option maxHeartbeats 1000000 in
theorem again_text (w : World) (g : Nat) (A : Option Addr) (m c : Nat) (bs : List UInt8) (p f : Nat) (h : RdP w g A m c bs p f) (o1 o2 o3 : Value) (N : Nat) (K : Int) (A' : Option Addr) (n c' : Nat) (xs : List UInt8) (B0 : Nat) (hx : Reads w B0 1 A' n (xs.map bv)) (hB0 : B0 ≤ g) (hn : n ≤ 35184372088832) :
    Calls Try.prog 43 #[.pointer (some ⟨g, 0, none⟩), .agg #[.int .i64 4, o1, o2, o3, .slice A' n c']] w (AgOut w g A m c bs (ag 4 n bs p f) (agB 4 N K n xs bs p f)) := by
  have hb0 : Below w.heap.size w (w.alloc (.cells #[.int .i64 4, o1, o2, o3, .slice A' n c'] 45)) := (Below.refl _ _).alloc (Nat.le_refl _) _
  have hgl := h.blk.lt
  have hX0 := Blk.new w 45 #[.int .i64 4, o1, o2, o3, .slice A' n c']
  have hC0 := Chg.of_below hb0 (fun i => i = g)
  have h0 := h.chg (Chg.of_below hb0 (fun _ => False)) (fun _ _ h => h)
  have hM := hide (text_made (w.alloc (.cells #[.int .i64 4, o1, o2, o3, .slice A' n c'] 45)).drew g A m c bs p f (n : Int) (h0.drewN 1) (by omega))
  have r0 : Reads (w.alloc (.cells #[.int .i64 4, o1, o2, o3, .slice A' n c'] 45)) B0 1 A' n (xs.map bv) := hx.alloc (by omega) _
  have q4 : (w.alloc (.cells #[.int .i64 4, o1, o2, o3, .slice A' n c'] 45)).cell? ⟨w.heap.size, 4, none⟩ = some (.slice A' n c') := hX0.cell 4
  obtain ⟨⟨x, p1, f1⟩, h1⟩ : ∃ r, textS bs (n : Int) p f = r := ⟨_, rfl⟩
  have hag : ag 4 n bs p f = (p1, f1) := by simp [ag, h1]
  have hagB : agB 4 N K n xs bs p f = (x == xs) := by simp [agB, h1]
  rw [hag, hagB]
  rw [h1] at hM
  simp only at hM
  have hst0 := run_string_of (w := (w.alloc (.cells #[.int .i64 4, o1, o2, o3, .slice A' n c'] 45)).drew) (r0.drewN 1) c' 22 9 5 Try.underlying22 Try.underlying5 Try.underlying9
  have HX0 := hide hX0
  have HC0 := hide (hC0.drewN 1)
  have HR0 := hide r0
  have hz0 := hb0.size
  clear hag hagB h1 h0 h hb0 hX0 hC0 r0 hx
  go_enter Try.func43, Try.ntmps43
  go_wp2
  go_region_with (first
    | (go_at_call 39; (with_reducible refine (unhide hM).mono ?_); rintro e w1 ⟨rfl, ha⟩
       have hk1 := ha.2.blk ((unhide HX0).drewN 1) (by omega)
       have d1 : w1.cell? ⟨w.heap.size, 4, none⟩ = some (.slice A' n c') := hk1.cell 4
       have hr1 := ha.2.reads (unhide HR0) (by show B0 ≤ (w.alloc _).heap.size; omega) (fun i hi e => by omega)
       have hst := run_string_of hr1 c' 22 9 5 Try.underlying22 Try.underlying5 Try.underlying9
       have HA := hide ha
       clear ha hk1 hr1))
  all_goals
    go_wp2
    go_ret
    exact ⟨rfl, (unhide HA).1, (unhide HC0).trans (unhide HA).2 (fun i _ e => e)⟩
end Go.Proofs.Ytbofjboebkfjgaa
