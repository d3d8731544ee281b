/-
  One call of a writer, and what the document puts; the walk over the Go text. Condition: what is put stays below 2^46 bytes.
-/
import Derived.Test.YtbofjboebkfjgaaLebWr3
import Derived.Test.YtbofjboebkfjgaaLebReads
import Derived.Deep.RegionHeld3
namespace Go.Proofs.Ytbofjboebkfjgaa
open Go.RowKit

/-- A row of the call's own that is appended to: where it lies, what it holds. -/
structure MRow (w : World) (B : Nat) (m : Value) (ys : List UInt8) : Prop where
  own : w.ownsRow B 5 1 m ys.length (ys.map bv)
/-- A writer and the row beside it, apart. -/
structure WM (w : World) (g B : Nat) (v m : Value) (bs ys : List UInt8) : Prop where
  wr : WrP w g v bs
  own : w.ownsRow B 5 1 m ys.length (ys.map bv)
  mg : m.ownBlock ≠ some g
  mv : ∀ i, m.ownBlock = some i → v.ownBlock ≠ some i
def Foot (g : Nat) (v m : Value) (i : Nat) : Prop := i = g ∨ v.ownBlock = some i ∨ m.ownBlock = some i
/-- What a call of 'puts' leaves. -/
def PutOut (w : World) (g B : Nat) (v m : Value) (bs ys out : List UInt8) (E : Ending) (w' : World) : Prop :=
  ∃ v' m', E = .returned m' ∧ WM w' g B v' m' (bs ++ out) (ys ++ out) ∧ Chg w w' (Foot g v m) ∧
    (v'.ownBlock = v.ownBlock ∨ ∃ i, v'.ownBlock = some i ∧ w.heap.size ≤ i) ∧ (m'.ownBlock = m.ownBlock ∨ ∃ i, m'.ownBlock = some i ∧ w.heap.size ≤ i)
section
variable {w w1 w2 : World} {g B : Nat} {v v1 m m1 : Value} {bs ys out : List UInt8}
theorem WM.below (h : WM w g B v m bs ys) (hb : Below w.heap.size w w1) : WM w1 g B v m bs ys :=
  ⟨h.wr.chg (Chg.of_below hb (fun _ => False)) (fun h => h) (fun _ _ h => h), (Chg.of_below hb (fun _ => False)).own h.own (fun _ _ h => h), h.mg, h.mv⟩
/-- The writer's call. -/
theorem WM.turned (h : WM w g B v m bs ys) (hw : WrP w1 g v1 (bs ++ out)) (ht : Turns w g v w1 v1) : WM w1 g B v1 m (bs ++ out) ys := by
  refine ⟨hw, ht.chg.own h.own (fun i hi e => ?_), h.mg, fun i hi e => ?_⟩
  · rcases e with e | e
    · exact h.mg (e ▸ hi)
    · exact h.mv i hi e
  · rcases ht.row with hr | ⟨j, hj, hl⟩
    · exact h.mv i hi (by rw [← hr]; exact e)
    · rw [hj] at e
      cases e
      have := (h.own.lt i hi).2
      omega
/-- The row's append. -/
theorem WM.grown (h : WM w g B v m bs ys) (ho : w1.ownsRow B 5 1 m1 (ys.length + out.length) (ys.map bv ++ out.map bv)) (hg : w.grownBy w1 m.ownBlock) (hr : m1.ownBlock = m.ownBlock ∨ ∃ i, m1.ownBlock = some i ∧ w.heap.size ≤ i) : WM w1 g B v m1 bs (ys ++ out) := by
  have hc := Chg.of_grown hg
  refine ⟨h.wr.chg hc (fun e => h.mg e) (fun i hi e => h.mv i e hi), by rw [List.length_append, List.map_append]; exact ho, fun e => ?_, fun i hi e => ?_⟩
  · rcases hr with hr | ⟨j, hj, hl⟩
    · exact h.mg (by rw [← hr]; exact e)
    · rw [hj] at e
      cases e
      have := h.wr.blk.lt
      omega
  · rcases hr with hr | ⟨j, hj, hl⟩
    · exact h.mv i (by rw [← hr]; exact hi) e
    · rw [hj] at hi
      cases hi
      have := (h.wr.own.lt _ e).2
      omega
end

set_option maxRecDepth 100000 in
set_option maxHeartbeats 1000000 in
theorem puts_num (w : World) (g B : Nat) (v m : Value) (bs ys : List UInt8) (h : WM w g B v m bs ys) (hB : B ≤ w.heap.size) (N : Nat) (hN : N < U64) (K : Int) (o1 o4 : Value) (hb : bs.length ≤ 70368744177664) (hy : ys.length ≤ 70368744177664) :
    Calls Try.prog 27 #[.pointer (some ⟨g, 0, none⟩), m, .agg #[.int .i64 1, o1, .int .u64 (N : Int), .int .i64 K, o4]] w (PutOut w g B v m bs ys (form N ++ form (K % 18446744073709551616).toNat)) := by
  obtain ⟨K', hK'⟩ : ∃ k, (K % 18446744073709551616).toNat = k := ⟨_, rfl⟩
  have hKl : K' < U64 := by unfold U64; omega
  have hcv : IntKind.u64.wrap K = (K' : Int) := by
    simp [IntKind.wrap, IntKind.signed, IntKind.bits]
    omega
  rw [hK']
  have HH := hide h
  clear h hK'
  go_enter Try.func27, Try.ntmps27
  go_wp2_with fail
  obtain ⟨W0, hW0⟩ : ∃ W, (w.alloc (.cells #[.int .i64 1, o1, .int .u64 (N : Int), .int .i64 K, o4] 45)).alloc (.cells #[uv N, uv K'] 24) = W := ⟨_, rfl⟩
  have hb0 : Below w.heap.size w W0 := by rw [← hW0]; exact ((Below.refl _ _).alloc (Nat.le_refl _) _).alloc (by simp) _
  have hX0 : Blk W0 w.heap.size 45 #[.int .i64 1, o1, .int .u64 (N : Int), .int .i64 K, o4] := by rw [← hW0]; exact (Blk.new w _ _).alloc _
  have hA0 : Blk W0 (w.heap.size + 1) 24 ([N, K'].map uv).toArray := by
    rw [← hW0]
    have := Blk.new (w.alloc (.cells #[.int .i64 1, o1, .int .u64 (N : Int), .int .i64 K, o4] 45)) 24 #[uv N, uv K']
    rwa [World.size_alloc] at this
  have h0 := (unhide HH).below hb0
  have hgl := (unhide HH).wr.blk.lt
  have hvl := (unhide HH).wr.own.lt
  have hml := (unhide HH).own.lt
  have hM := hide (wnum_any W0 g (w.heap.size + 1) v bs [N, K'] h0.wr hA0 (by omega) (fun e => by have := (hvl _ e).2; omega) (fun n hn => by
    rcases List.mem_cons.1 hn with rfl | hn
    · exact hN
    · rw [List.mem_singleton.1 hn]; exact hKl) (by simp) (by simp; omega))
  have hff : forms [N, K'] = form N ++ form K' := by simp [forms]
  rw [hff] at hM
  rw [show (w.alloc (.cells #[.int .i64 1, o1, .int .u64 (N : Int), .int .i64 K, o4] 45)).alloc (.cells #[.int .u64 (N : Int), .int .u64 (K' : Int)] 24) = W0 from hW0]
  have HX0 := hide hX0
  have H0 := hide h0
  have HB0 := hide hb0
  clear hW0 hb0 hX0 hA0 h0 hff
  refine (unhide hM).mono ?_
  rintro e w1 ⟨rfl, v1, hw1, ht1⟩
  have hm1 := (unhide H0).turned hw1 ht1
  have hx1 := ht1.chg.blk (unhide HX0) (fun e => by
    rcases e with e | e
    · omega
    · have := (hvl _ e).2; omega)
  have q2 : w1.cell? ⟨w.heap.size, 2, none⟩ = some (.int .u64 (N : Int)) := hx1.cell 2
  have q3 : w1.cell? ⟨w.heap.size, 3, none⟩ = some (.int .i64 K) := hx1.cell 3
  have hxl := hx1.lt
  obtain ⟨Am, cm, rfl⟩ := hm1.own.shape
  have HM1 := hide hm1
  have HX1 := hide hx1
  have HT1 := hide ht1
  have hP1 := fun w => hide (refPut_any N w hN)
  have hP2 := fun w => hide (refPut_any K' w hKl)
  clear hw1 ht1 hm1 hx1 hM HX0 H0 HH
  obtain ⟨⟨iE, zE, eE1, eE2, eE3, eE4, eE5, eE6⟩, eE7⟩ := elem_u8
  have HE := hide (And.intro eE1 (And.intro eE2 (And.intro eE3 (And.intro eE4 (And.intro eE5 eE6)))))
  clear eE1 eE2 eE3 eE4 eE5 eE6
  have hfN := (form_len N).2
  have hfK := (form_len K').2
  have hmw : ∀ i, Value.ownBlock (.slice Am ys.length cm) = some i → i < w.heap.size := fun i e => (hml i e).2
  go_wp2
  go_region_held3 (fun w' => w'.cell? ⟨w.heap.size, 2, none⟩ = some (.int .u64 (N : Int)) ∧ w'.cell? ⟨w.heap.size, 3, none⟩ = some (.int .i64 K)) (first | go_keep | exact s2 | exact s4 | exact s3 | exact s5)
    ((first
      | (go_at_call 17; (with_reducible refine (unhide (hP1 _)).mono ?_); rintro e w2 ⟨v2, rfl, ho2, hb2⟩
         obtain ⟨A2, c2, rfl⟩ := ho2.shape
         have H2 := hide (((unhide HM1).below (below_drewN (Below.refl _ _) 1)).below hb2)
         have rd2 := hide (Reads.of_own ho2)
         have X2 := (unhide HX1).drewN 1 |>.below hb2 hxl
         have s2 := And.intro (X2.cell 2 : w2.cell? ⟨w.heap.size, 2, none⟩ = some (.int .u64 (N : Int))) (X2.cell 3 : w2.cell? ⟨w.heap.size, 3, none⟩ = some (.int .i64 K))
         have HX2 := hide X2
         have HB2 := hide hb2
         have hz2 := hb2.size
         clear ho2 hb2 X2)
      | (refine step_append_any _ (by rfl) (.tmp 21) (.tmp 24) 22 (by rfl) B 5 iE zE 1 1 (unhide HE).1 (unhide HE).2.1 (unhide HE).2.2.1 (unhide HE).2.2.2.1 (unhide HE).2.2.2.2.1 (unhide HE).2.2.2.2.2 eE7 (.slice Am ys.length cm) ys.length (ys.map bv) (by rfl) (unhide H2).own _ A2 (form N).length c2 ((form N).map bv) (by rfl) (unhide rd2) (bv_one _) (by unfold maxLen; omega) (by omega) (by have := (unhide HT1).chg.size; have := (unhide HB0).size; have hz : w1.heap.size ≤ w2.heap.size := hz2; omega) ?_
         intro v4 w4 ho4 hg4 hr4
         obtain ⟨A4, c4, rfl⟩ := ho4.shape
         have H4 := hide ((unhide H2).grown (out := form N) ho4 hg4 (by
           rcases hr4 with h | h
           · exact .inl h
           · exact .inr ⟨_, h, Nat.le_refl _⟩))
         have X4 := (unhide HX2).grown hg4 (fun e => by have := hmw _ e.symm; omega)
         have s4 := And.intro (X4.cell 2 : w4.cell? ⟨w.heap.size, 2, none⟩ = some (.int .u64 (N : Int))) (X4.cell 3 : w4.cell? ⟨w.heap.size, 3, none⟩ = some (.int .i64 K))
         have HX4 := hide X4
         have hz4 := hg4.size
         have hxl4 := X4.lt
         have C4 := hide ((((Chg.refl w1 (Foot g (.slice Am ys.length cm) (.slice Am ys.length cm))).drewN 1).bel (unhide HB2)).grown hg4 (fun i e _ => .inr (.inr e)))
         have R4 := hide hr4
         clear ho4 hg4 hr4 X4)
      | (go_at_call 17; (with_reducible refine (unhide (hP2 _)).mono ?_); rintro e w3 ⟨v3, rfl, ho3, hb3⟩
         obtain ⟨A3, c3, rfl⟩ := ho3.shape
         have H3 := hide ((unhide H4).below hb3)
         have own3 : Hid (w3.ownsRow B 5 1 (.slice A4 (ys.length + (form N).length) c4) (ys.length + (form N).length) ((ys ++ form N).map bv)) := by
           have := (unhide H4).below hb3 |>.own
           rwa [List.length_append] at this
         have rd3 := hide (Reads.of_own ho3)
         have X3 := (unhide HX4).below hb3 hxl4
         have s3 := And.intro (X3.cell 2 : w3.cell? ⟨w.heap.size, 2, none⟩ = some (.int .u64 (N : Int))) (X3.cell 3 : w3.cell? ⟨w.heap.size, 3, none⟩ = some (.int .i64 K))
         have HX3 := hide X3
         have HB3 := hide hb3
         have hz3 := hb3.size
         clear ho3 hb3 X3)
      | (refine step_append_any _ (by rfl) (.tmp 25) (.tmp 29) 22 (by rfl) B 5 iE zE 1 1 (unhide HE).1 (unhide HE).2.1 (unhide HE).2.2.1 (unhide HE).2.2.2.1 (unhide HE).2.2.2.2.1 (unhide HE).2.2.2.2.2 eE7 (.slice A4 (ys.length + (form N).length) c4) (ys.length + (form N).length) ((ys ++ form N).map bv) (by rfl) (unhide own3) _ A3 (form K').length c3 ((form K').map bv) (by rfl) (unhide rd3) (bv_one _) (by unfold maxLen; omega) (by omega) (by have := (unhide HT1).chg.size; have := (unhide HB0).size; have hz : w1.heap.size ≤ w2.heap.size := hz2; omega) ?_
         intro v5 w5 ho5 hg5 hr5
         obtain ⟨A5, c5, rfl⟩ := ho5.shape
         have H5 := hide ((unhide H3).grown (out := form K') (by rw [List.length_append]; exact ho5) (by exact hg5) (by
           rcases hr5 with h | h
           · exact .inl h
           · exact .inr ⟨_, h, Nat.le_refl _⟩))
         have X5 := (unhide HX3).grown hg5 (fun e => by
           rcases unhide R4 with h | h
           · have := hmw _ (h ▸ e.symm); omega
           · have := e.trans h
             injection this with this
             have hz : w1.heap.size ≤ w2.heap.size := hz2
             omega)
         have s5 := And.intro (X5.cell 2 : w5.cell? ⟨w.heap.size, 2, none⟩ = some (.int .u64 (N : Int))) (X5.cell 3 : w5.cell? ⟨w.heap.size, 3, none⟩ = some (.int .i64 K))
         have C5 := hide (((unhide C4).bel (unhide HB3)).grown hg5 (fun i e hi => by
           rcases unhide R4 with h | h
           · exact .inr (.inr (by rw [← h]; exact e))
           · rw [h] at e
             cases e
             have hz : w1.heap.size ≤ w2.heap.size := hz2
             omega))
         have R5 := hide hr5
         clear ho5 hg5 hr5 X5)))
  have hz0 := (unhide HB0).size
  have hz1 := (unhide HT1).chg.size
  have hz2' : w1.heap.size ≤ w2.heap.size := hz2
  have h5 := unhide H5
  rw [List.append_assoc] at h5
  have hout : PutOut w g B v (.slice Am ys.length cm) bs ys (form N ++ form K') (.returned (.slice A5 (ys.length + (form N).length + (form K').length) c5)) w5 := by
    refine ⟨v1, _, rfl, h5, ?_, ?_, ?_⟩
    · refine ((Chg.of_below (unhide HB0) (Foot g v (.slice Am ys.length cm))).trans (unhide HT1).chg (fun i hi e => ?_)).trans (unhide C5) (fun i hi e => ?_)
      · rcases e with e | e
        · exact .inl e
        · exact .inr (.inl e)
      · rcases e with e | e | e
        · exact .inl e
        · exact .inr (.inr e)
        · exact .inr (.inr e)
    · rcases (unhide HT1).row with h | ⟨i, h, hi⟩
      · exact .inl h
      · exact .inr ⟨i, h, by omega⟩
    · rcases unhide R5 with h | h
      · rcases unhide R4 with h' | h'
        · exact .inl (h.trans h')
        · exact .inr ⟨_, h.trans h', by omega⟩
      · exact .inr ⟨_, h, by omega⟩
  have HOut := hide hout
  clear hout h5 H5 C4 C5 R4 R5 H2 H3 H4 own3 rd2 rd3 HX2 HX3 HX4 HB2 HB3 HE
  go_wp2
  go_ret
  exact unhide HOut

/-- The way from a call of the writer and two appends to what is left. -/
theorem putOut_of {w W0 w1 w5 : World} {g B : Nat} {v v1 m m5 : Value} {bs ys out : List UInt8} (hb0 : Below w.heap.size w W0) (ht : Turns W0 g v w1 v1) (h5 : WM w5 g B v1 m5 (bs ++ out) (ys ++ out)) (hc : Chg w1 w5 (fun i => m.ownBlock = some i)) (hr : m5.ownBlock = m.ownBlock ∨ ∃ i, m5.ownBlock = some i ∧ w1.heap.size ≤ i) :
    PutOut w g B v m bs ys out (.returned m5) w5 := by
  have hz0 := hb0.size
  have hz1 := ht.chg.size
  refine ⟨v1, m5, rfl, h5, ?_, ?_, ?_⟩
  · refine ((Chg.of_below hb0 (Foot g v m)).trans ht.chg (fun i hi e => ?_)).trans hc (fun i hi e => .inr (.inr e))
    rcases e with e | e
    · exact .inl e
    · exact .inr (.inl e)
  · rcases ht.row with h | ⟨i, h, hi⟩
    · exact .inl h
    · exact .inr ⟨i, h, by omega⟩
  · rcases hr with h | ⟨i, h, hi⟩
    · exact .inl h
    · exact .inr ⟨i, h, by omega⟩

set_option maxRecDepth 100000 in
set_option maxHeartbeats 1000000 in
theorem puts_int (w : World) (g B : Nat) (v m : Value) (bs ys : List UInt8) (h : WM w g B v m bs ys) (hB : B ≤ w.heap.size) (K : Int) (k1 : -9223372036854775808 ≤ K) (k2 : K ≤ 9223372036854775807) (o1 o2 o4 : Value) (hb : bs.length ≤ 70368744177664) (hy : ys.length ≤ 70368744177664) :
    Calls Try.prog 27 #[.pointer (some ⟨g, 0, none⟩), m, .agg #[.int .i64 2, o1, o2, .int .i64 K, o4]] w (PutOut w g B v m bs ys (form (tn K) ++ form (tn K))) := by
  have hT := fun w => hide (refTurn_any K w k1 k2)
  rw [tn_val] at hT
  have hKl := tn_lt k1 k2
  obtain ⟨K', hK'⟩ : ∃ k, tn K = k := ⟨_, rfl⟩
  simp only [hK'] at hT
  have hfK := (form_len K').2
  have hP := fun w => hide (refPut_any K' w (hK' ▸ hKl))
  obtain ⟨W0, hW0⟩ : ∃ W, (w.alloc (.cells #[.int .i64 2, o1, o2, .int .i64 K, o4] 45)).alloc (.cells #[iv K, iv K] 3) = W := ⟨_, rfl⟩
  have hb0 : Below w.heap.size w W0 := by rw [← hW0]; exact ((Below.refl _ _).alloc (Nat.le_refl _) _).alloc (by simp) _
  have hX0 : Blk W0 w.heap.size 45 #[.int .i64 2, o1, o2, .int .i64 K, o4] := by rw [← hW0]; exact (Blk.new w _ _).alloc _
  have hA0 : Blk W0 (w.heap.size + 1) 3 ([K, K].map iv).toArray := by
    rw [← hW0]
    have := Blk.new (w.alloc (.cells #[.int .i64 2, o1, o2, .int .i64 K, o4] 45)) 3 #[iv K, iv K]
    rwa [World.size_alloc] at this
  have h0 := h.below hb0
  have hgl := h.wr.blk.lt
  have hvl := h.wr.own.lt
  have hml := h.own.lt
  have hM := hide (wint_any W0 g (w.heap.size + 1) v bs [K, K] h0.wr hA0 (by omega) (fun e => by have := (hvl _ e).2; omega) (fun n hn => by
    rcases List.mem_cons.1 hn with rfl | hn
    · exact ⟨k1, k2⟩
    · rw [List.mem_singleton.1 hn]; exact ⟨k1, k2⟩) (by simp) (by simp; omega))
  have hff : forms ([K, K].map tn) = form K' ++ form K' := by simp [forms, hK']
  rw [hff] at hM
  rw [hK']
  have HX0 := hide hX0
  have H0 := hide h0
  have HB0 := hide hb0
  have HW0 := Lib.hid hW0
  clear hb0 hX0 hA0 h0 hff h hW0 hK' hKl
  obtain ⟨Am, cm, rfl⟩ := (unhide H0).own.shape
  go_enter Try.func27, Try.ntmps27
  go_wp2_with fail
  rw [show (w.alloc (.cells #[.int .i64 2, o1, o2, .int .i64 K, o4] 45)).alloc (.cells #[.int .i64 K, .int .i64 K] 3) = W0 from HW0.out]
  refine (unhide hM).mono ?_
  rintro e w1 ⟨rfl, v1, hw1, ht1⟩
  have hm1 := (unhide H0).turned hw1 ht1
  have hx1 := ht1.chg.blk (unhide HX0) (fun e => by
    rcases e with e | e
    · omega
    · have := (hvl _ e).2; omega)
  have q3 : w1.cell? ⟨w.heap.size, 3, none⟩ = some (.int .i64 K) := hx1.cell 3
  have HM1 := hide hm1
  have HT1 := hide ht1
  have hmw : ∀ i, Value.ownBlock (.slice Am ys.length cm) = some i → i < w.heap.size := fun i e => (hml i e).2
  have hzz : w.heap.size ≤ w1.heap.size := Nat.le_trans (unhide HB0).size ht1.chg.size
  clear hw1 ht1 hm1 hx1 hM HX0 H0
  go_wp2_with fail
  refine (unhide (hT _)).mono ?_
  rintro e w2 ⟨rfl, rfl⟩
  go_wp2_with fail
  refine (unhide (hP _)).mono ?_
  rintro e w2 ⟨v2, rfl, ho2, hb2⟩
  obtain ⟨A2, c2, rfl⟩ := ho2.shape
  have H2 := hide ((unhide HM1).below hb2)
  have rd2 := hide (Reads.of_own ho2)
  have HO2 := hide ho2
  have HB2 := hide hb2
  have hz2 := hb2.size
  have HC2 : Hid (ys.length + (form K').length ≤ maxLen ∧ (ys.length + (form K').length) * 1 ≤ 140737488355328) := cap1 (by omega)
  clear ho2 hb2
  go_wp2_with (first
    | (at_builtin
       refine wpList_app _ rfl (.tmp 44) (.tmp 45) 22 rfl elem_u8 B (.slice Am ys.length cm) ys.length (ys.map bv) rfl (unhide H2).own _ A2 (form K').length c2 _ rfl (unhide rd2) (bv_one _) HC2.out (by omega) ?_
       intro v4 w4 ho4 hg4 hr4
       obtain ⟨A4, c4, rfl⟩ := ho4.shape
       have H4 := hide ((unhide H2).grown (out := form K') ho4 hg4 (by
         rcases hr4 with h | h
         · exact .inl h
         · exact .inr ⟨_, h, Nat.le_refl _⟩))
       have own4 : Hid (w4.ownsRow B 5 1 (.slice A4 (ys.length + (form K').length) c4) (ys.length + (form K').length) ((ys ++ form K').map bv)) := by
         have := (unhide H4).own
         rwa [List.length_append] at this
       have rd4 := hide ((Reads.of_own (((Chg.of_grown hg4)).own (unhide HO2) (fun i hi e => by
         have h1 := ((unhide HO2).lt i hi).1
         have h2 := hmw i e
         omega))))
       have HC4 : Hid ((ys.length + (form K').length) + (form K').length ≤ maxLen ∧ ((ys.length + (form K').length) + (form K').length) * 1 ≤ 140737488355328) := cap1 (by omega)
       have hz4 := hg4.size
       have C4 := hide (((Chg.refl w1 (fun i => Value.ownBlock (.slice Am ys.length cm) = some i)).bel (unhide HB2)).grown hg4 (fun i e _ => e))
       have R4 := hide hr4
       clear ho4 hg4 hr4)
    | (at_builtin
       refine wpList_app _ rfl (.tmp 46) (.tmp 47) 22 rfl elem_u8 B (.slice A4 (ys.length + (form K').length) c4) (ys.length + (form K').length) ((ys ++ form K').map bv) rfl (unhide own4) _ A2 (form K').length c2 _ rfl (unhide rd4) (bv_one _) HC4.out (by omega) ?_
       intro v5 w5 ho5 hg5 hr5
       obtain ⟨A5, c5, rfl⟩ := ho5.shape
       have H5 := hide ((unhide H4).grown (out := form K') (by rw [List.length_append]; exact ho5) (by exact hg5) (by
         rcases hr5 with h | h
         · exact .inl h
         · exact .inr ⟨_, h, Nat.le_refl _⟩))
       have HG5 := hide hg5
       have R5 := hide hr5
       clear ho5 hg5 hr5))
  have h5 := unhide H5
  rw [List.append_assoc] at h5
  have hout := putOut_of (m := .slice Am ys.length cm) (unhide HB0) (unhide HT1) h5 ((unhide C4).grown (unhide HG5) (fun i e hi => by
    rcases unhide R4 with h | h
    · rw [← h]; exact e
    · have := e.symm.trans h
      cases this
      omega)) (by
    rcases unhide R5 with h | h
    · rcases unhide R4 with h' | h'
      · exact .inl (h.trans h')
      · exact .inr ⟨_, h.trans h', by omega⟩
    · exact .inr ⟨_, h, by omega⟩)
  have HOut := hide hout
  clear hout h5
  go_ret
  exact unhide HOut
end Go.Proofs.Ytbofjboebkfjgaa
