/-
  One call of a writer, and what the document puts: bytes and texts; the walk over the Go text. Condition: what is put stays below 2^46 bytes.
-/
import Derived.Test.YtbofjboebkfjgaaLebPuts
namespace Go.Proofs.Ytbofjboebkfjgaa
open Go.RowKit

theorem WM.chg {w w1 : World} {g B : Nat} {v m : Value} {bs ys : List UInt8} (h : WM w g B v m bs ys) {S : Nat → Prop} (hc : Chg w w1 S) (hg : ¬ S g) (hv : ∀ i, v.ownBlock = some i → ¬ S i) (hm : ∀ i, m.ownBlock = some i → ¬ S i) : WM w1 g B v m bs ys :=
  ⟨h.wr.chg hc hg hv, hc.own h.own hm, h.mg, h.mv⟩
theorem Below.of_chg {B : Nat} {w w1 : World} {S : Nat → Prop} (h : Chg w w1 S) (hB : B ≤ w.heap.size) (hS : ∀ i, i < B → ¬ S i) : Below B w w1 := h.below hB hS
/-- As 'putOut_of', with blocks of the call's own between. -/
theorem putOut_of2 {w W0 w1 w5 : World} {g B : Nat} {v v1 m m5 : Value} {bs ys out : List UInt8} {S : Nat → Prop} (hb0 : Below w.heap.size w W0) (ht : Turns W0 g v w1 v1) (h5 : WM w5 g B v1 m5 (bs ++ out) (ys ++ out)) (hc : Chg w1 w5 S) (hS : ∀ i, i < w.heap.size → S i → m.ownBlock = some i) (hr : m5.ownBlock = m.ownBlock ∨ ∃ i, m5.ownBlock = some i ∧ w1.heap.size ≤ i) :
    PutOut w g B v m bs ys out (.returned m5) w5 := by
  have hz0 := hb0.size
  have hz1 := ht.chg.size
  refine ⟨v1, m5, rfl, h5, ?_, ?_, ?_⟩
  · refine ((Chg.of_below hb0 (Foot g v m)).trans ht.chg (fun i hi e => ?_)).trans hc (fun i hi e => .inr (.inr (hS i hi e)))
    rcases e with e | e
    · exact .inl e
    · exact .inr (.inl e)
  · rcases ht.row with h | ⟨i, h, hi⟩
    · exact .inl h
    · exact .inr ⟨i, h, by omega⟩
  · rcases hr with h | ⟨i, h, hi⟩
    · exact .inl h
    · exact .inr ⟨i, h, by omega⟩

set_option maxRecDepth 100000 in
set_option maxHeartbeats 1000000 in
theorem puts_raw (w : World) (g B : Nat) (v m : Value) (bs ys : List UInt8) (h : WM w g B v m bs ys) (hB : B ≤ w.heap.size) (o1 o2 o3 : Value) (A : Option Addr) (n c : Nat) (xs : List UInt8) (B0 : Nat) (hx : Reads w B0 1 A n (xs.map bv)) (hB0 : B0 ≤ g) (hn : n ≤ 35184372088832) (hb : bs.length ≤ 70368744177664) (hy : ys.length ≤ 70368744177664) :
    Calls Try.prog 27 #[.pointer (some ⟨g, 0, none⟩), m, .agg #[.int .i64 3, o1, o2, o3, .slice A n c]] w (PutOut w g B v m bs ys xs) := by
  have hxl : xs.length = n := by have := hx.1; simpa using this
  have hb0 : Below w.heap.size w (w.alloc (.cells #[.int .i64 3, o1, o2, o3, .slice A n c] 45)) := (Below.refl _ _).alloc (Nat.le_refl _) _
  have hX0 := Blk.new w 45 #[.int .i64 3, o1, o2, o3, .slice A n c]
  have h0 := h.below hb0
  have r0 : Reads (w.alloc (.cells #[.int .i64 3, o1, o2, o3, .slice A n c] 45)) B0 1 A n (xs.map bv) := hx.alloc (by have := h.wr.blk.lt; omega) _
  have hgl := h.wr.blk.lt
  have hvl := h.wr.own.lt
  have hml := h.own.lt
  have hL := hide (lent_any A n c xs _ (r0.more (by have := h.wr.blk.lt; have := hb0.size; omega)) (by omega))
  have HX0 := hide hX0
  have H0 := hide h0
  have HB0 := hide hb0
  have HR0 := hide r0
  obtain ⟨Am, cm, rfl⟩ := h.own.shape
  clear hb0 hX0 h0 h hx r0
  go_enter Try.func27, Try.ntmps27
  go_wp2_with fail
  refine (unhide hL).mono ?_
  rintro e w1 ⟨g1, cp1, rfl, hcap1, hg1, ho1, hb1⟩
  simp only [World.size_alloc] at hg1
  have hgl1 := (ho1.lt g1 rfl).2
  have h1 := (unhide H0).below hb1
  have HR1 := hide ((unhide HR0).below (hb1.mono (by simp; omega)))
  have hx1 := (unhide HX0).below hb1 (unhide HX0).lt
  have hM := hide (wraw_any w1 g v bs (some ⟨g1, 0, none⟩) n cp1 w1.heap.size xs h1.wr ((Reads.of_own ho1).front hxl) (by omega))
  have hcm1 := own_capm ho1
  have HO1 := hide ho1
  have H1 := hide h1
  have HX1 := hide hx1
  have HB1 := hide ((unhide HB0).trans (hb1.mono (unhide HB0).size))
  have hz1 := hb1.size
  simp only [World.size_alloc] at hz1
  have hmg1 : ∀ i, Value.ownBlock (.slice Am ys.length cm) = some i → i < w.heap.size := fun i e => (hml i e).2
  clear ho1 h1 hx1 hb1 hL HR0 H0 HX0 HB0
  go_wp2_with fail
  refine (unhide hM).mono ?_
  rintro e w2 ⟨rfl, v2, hw2, ht2⟩
  have h2 := (unhide H1).turned hw2 ht2
  have hfoot : ∀ i, w.heap.size ≤ i → i < w1.heap.size → ¬ (i = g ∨ v.ownBlock = some i) := fun i h1 _ e => by
    rcases e with e | e
    · omega
    · have := (hvl _ e).2; omega
  have hx2 := ht2.chg.blk (unhide HX1) (hfoot _ (Nat.le_refl _) (by omega))
  have ho2 := ht2.chg.own (unhide HO1) (fun i hi e => by
    obtain rfl : g1 = i := by simpa [Value.ownBlock] using hi
    exact hfoot g1 (by omega) hgl1 e)
  have r2 := ht2.chg.reads (unhide HR1) (by omega) (fun i hi e => by
    rcases e with e | e
    · omega
    · have := (hvl _ e).1; omega)
  have q4 : w2.cell? ⟨w.heap.size, 4, none⟩ = some (.slice A n c) := hx2.cell 4
  have hz2 := ht2.chg.size
  have hK := hide (kept_any A g1 n cp1 n c w2.heap.size xs xs w2 hxl hcap1 (Reads.of_own ho2) (r2.more (by omega)) hcm1)
  rw [show (xs == xs) = true by simp] at hK
  have hT := hide (turned_any _ g1 n (n + 20) cp1 xs (mk 20) w2 hxl ho2 (by omega))
  have H2 := hide h2
  have HX2 := hide hx2
  have HT2 := hide ht2
  have HR2 := hide r2
  clear hw2 h2 ht2 hx2 ho2 r2 hM HO1 H1 HX1 HR1
  go_wp2_with fail
  refine (unhide hK).mono ?_
  rintro e w3 ⟨rfl, rfl⟩
  go_wp2_with fail
  refine (unhide hT).mono ?_
  rintro e w3 ⟨rfl, _, hg3⟩
  have hg3' : w2.grownBy w3 (some g1) := hg3
  have h3 := (unhide H2).chg (Chg.of_grown hg3') (fun e => by injection e with e; omega) (fun i hi e => by
    injection e with e
    subst e
    rcases (unhide HT2).row with hr | ⟨j, hj, hl⟩
    · rw [hr] at hi; have := (hvl _ hi).2; omega
    · rw [hj] at hi; injection hi with hi; omega) (fun i hi e => by
    injection e with e
    subst e
    have := hmg1 _ hi
    omega)
  have hx3 := (unhide HX2).grown hg3' (fun e => by injection e with e; omega)
  have q5 : w3.cell? ⟨w.heap.size, 4, none⟩ = some (.slice A n c) := hx3.cell 4
  have r3 := (Chg.of_grown hg3').reads (unhide HR2) (by omega) (fun i hi e => by injection e with e; omega)
  have H3 := hide h3
  have HR3 := hide r3
  have C3 := hide (((Chg.refl w2 (fun i => i = g1 ∨ Value.ownBlock (.slice Am ys.length cm) = some i)).grown hg3' (fun i e _ => .inl (by injection e with e; exact e.symm))))
  have HC : Hid (ys.length + n ≤ maxLen ∧ (ys.length + n) * 1 ≤ 140737488355328) := cap1 (by omega)
  have hz3 := hg3'.size
  clear hg3 hg3' h3 hx3 r3 hT hK
  go_wp2_with (first
    | (at_builtin
       refine wpList_app _ rfl (.tmp 67) (.tmp 69) 22 rfl elem_u8 B (.slice Am ys.length cm) ys.length (ys.map bv) rfl (unhide H3).own B0 A n c _ rfl (unhide HR3) (bv_one _) HC.out (by omega) ?_
       intro v5 w5 ho5 hg5 hr5
       obtain ⟨A5, c5, rfl⟩ := ho5.shape
       have H5 := hide ((unhide H3).grown (out := xs) (by rw [hxl]; exact ho5) hg5 (by
         rcases hr5 with h | h
         · exact .inl h
         · exact .inr ⟨_, h, Nat.le_refl _⟩))
       have HG5 := hide hg5
       have R5 := hide hr5
       clear ho5 hg5 hr5))
  have hout := putOut_of2 (m := .slice Am ys.length cm) (unhide HB1) (unhide HT2) (unhide H5) ((unhide C3).grown (unhide HG5) (fun i e hi => .inr e)) (fun i hi e => by
    rcases e with e | e
    · omega
    · exact e) (by
    rcases unhide R5 with h | h
    · exact .inl h
    · exact .inr ⟨_, h, by omega⟩)
  have HOut := hide hout
  clear hout
  go_ret
  exact unhide HOut

set_option maxRecDepth 100000 in
set_option maxHeartbeats 1000000 in
theorem puts_text (w : World) (g B : Nat) (v m : Value) (bs ys : List UInt8) (h : WM w g B v m bs ys) (hB : B ≤ w.heap.size) (o1 o2 o3 : Value) (A : Option Addr) (n c : Nat) (xs : List UInt8) (B0 : Nat) (hx : Reads w B0 1 A n (xs.map bv)) (hB0 : B0 ≤ g) (hB1 : B0 ≤ B) (hn : n ≤ 35184372088832) (hb : bs.length ≤ 70368744177664) (hy : ys.length ≤ 70368744177664) :
    Calls Try.prog 27 #[.pointer (some ⟨g, 0, none⟩), m, .agg #[.int .i64 4, o1, o2, o3, .slice A n c]] w (PutOut w g B v m bs ys (form n ++ xs)) := by
  have hxl : xs.length = n := by have := hx.1; simpa using this
  have hb0 : Below w.heap.size w (w.alloc (.cells #[.int .i64 4, o1, o2, o3, .slice A n c] 45)) := (Below.refl _ _).alloc (Nat.le_refl _) _
  have hX0 := Blk.new w 45 #[.int .i64 4, o1, o2, o3, .slice A n c]
  have h0 := h.below hb0
  have r0 : Reads (w.alloc (.cells #[.int .i64 4, o1, o2, o3, .slice A n c] 45)) B0 1 A n (xs.map bv) := hx.alloc (by have := h.wr.blk.lt; omega) _
  have hgl := h.wr.blk.lt
  have hvl := h.wr.own.lt
  have hml := h.own.lt
  have hM := hide (wtext_any _ g v bs xs h0.wr (by omega))
  rw [hxl] at hM
  have hst := run_string_of r0 c 22 9 5 Try.underlying22 Try.underlying5 Try.underlying9
  have HX0 := hide hX0
  have H0 := hide h0
  have HB0 := hide hb0
  have HR0 := hide r0
  have hz0 := hb0.size
  obtain ⟨Am, cm, rfl⟩ := h.own.shape
  have hmw : ∀ i, Value.ownBlock (.slice Am ys.length cm) = some i → i < w.heap.size := fun i e => (hml i e).2
  clear hb0 hX0 h0 h hx r0
  go_enter Try.func27, Try.ntmps27
  go_wp2_with fail
  refine (unhide hM).mono ?_
  rintro e w1 ⟨rfl, v1, hw1, ht1⟩
  rw [List.append_assoc] at hw1
  have hm1 := (unhide H0).turned hw1 ht1
  have hfoot : ∀ i, (i = g ∨ v.ownBlock = some i) → g ≤ i ∧ i < w.heap.size := fun i e => by
    rcases e with e | e
    · omega
    · have := hvl _ e; omega
  have hx1 := ht1.chg.blk (unhide HX0) (fun e => by have := hfoot _ e; omega)
  have q2 : w1.cell? ⟨w.heap.size, 4, none⟩ = some (.slice A n c) := hx1.cell 4
  have hr1 := ht1.chg.reads (unhide HR0) (by omega) (fun i hi e => by have := hfoot _ e; omega)
  have hxl1 := hx1.lt
  have hz1 := ht1.chg.size
  have HM1 := hide hm1
  have HX1 := hide hx1
  have HT1 := hide ht1
  have HR1 := hide hr1
  have hwn : IntKind.u64.wrap (n : Int) = (n : Int) := wrapu_nat n (by omega)
  have hP := fun w => hide (refPut_any n w (by unfold U64; omega))
  clear hw1 ht1 hm1 hx1 hr1 hM HX0 H0 HR0 hst
  obtain ⟨⟨iE, zE, eE1, eE2, eE3, eE4, eE5, eE6⟩, eE7⟩ := elem_u8
  have HE := hide (And.intro eE1 (And.intro eE2 (And.intro eE3 (And.intro eE4 (And.intro eE5 eE6)))))
  clear eE1 eE2 eE3 eE4 eE5 eE6
  have hfN := (form_len n).2
  go_wp2
  go_region_held3 (fun w' => w'.cell? ⟨w.heap.size, 4, none⟩ = some (.slice A n c)) (first | go_keep | exact s2 | exact s4 | exact s5)
    ((first
      | (go_at_call 17; (with_reducible refine (unhide (hP _)).mono ?_); rintro e w2 ⟨v2, rfl, ho2, hb2⟩
         obtain ⟨A2, c2, rfl⟩ := ho2.shape
         have H2 := hide (((unhide HM1).below (below_drewN (Below.refl _ _) 1)).below hb2)
         have rd2 := hide (Reads.of_own ho2)
         have X2 := (unhide HX1).drewN 1 |>.below hb2 hxl1
         have s2 : w2.cell? ⟨w.heap.size, 4, none⟩ = some (.slice A n c) := X2.cell 4
         have HX2 := hide X2
         have HB2 := hide hb2
         have hz2 := hb2.size
         clear ho2 hb2 X2)
      | (refine step_append_any _ (by rfl) (.tmp 78) (.tmp 83) 22 (by rfl) B 5 iE zE 1 1 (unhide HE).1 (unhide HE).2.1 (unhide HE).2.2.1 (unhide HE).2.2.2.1 (unhide HE).2.2.2.2.1 (unhide HE).2.2.2.2.2 eE7 (.slice Am ys.length cm) ys.length (ys.map bv) (by rfl) (unhide H2).own _ A2 (form n).length c2 ((form n).map bv) (by rfl) (unhide rd2) (bv_one _) (by unfold maxLen; omega) (by omega) (by have hz : w1.heap.size ≤ w2.heap.size := hz2; omega) ?_
         intro v4 w4 ho4 hg4 hr4
         obtain ⟨A4, c4, rfl⟩ := ho4.shape
         have H4 := hide ((unhide H2).grown (out := form n) ho4 hg4 (by
           rcases hr4 with h | h
           · exact .inl h
           · exact .inr ⟨_, h, Nat.le_refl _⟩))
         have own4 : Hid (w4.ownsRow B 5 1 (.slice A4 (ys.length + (form n).length) c4) (ys.length + (form n).length) ((ys ++ form n).map bv)) := by
           have := (unhide H4).own
           rwa [List.length_append] at this
         have X4 := (unhide HX2).grown hg4 (fun e => by have := hmw _ e.symm; omega)
         have s4 : w4.cell? ⟨w.heap.size, 4, none⟩ = some (.slice A n c) := X4.cell 4
         have hz4 := hg4.size
         have C4 := hide ((((Chg.refl w1 (fun i => Value.ownBlock (.slice Am ys.length cm) = some i)).drewN 1).bel (unhide HB2)).grown hg4 (fun i e _ => e))
         have hzz : w1.heap.size ≤ w4.heap.size := Nat.le_trans hz2 hz4
         have rd4 := hide ((unhide C4).reads (unhide HR1) (by omega) (fun i hi e => by have := hml i e; omega))
         have R4 := hide hr4
         have X4h := hide X4
         clear ho4 hg4 hr4 X4)
      | (refine step_append_any _ (by rfl) (.tmp 84) (.tmp 86) 22 (by rfl) B 5 iE zE 1 1 (unhide HE).1 (unhide HE).2.1 (unhide HE).2.2.1 (unhide HE).2.2.2.1 (unhide HE).2.2.2.2.1 (unhide HE).2.2.2.2.2 eE7 (.slice A4 (ys.length + (form n).length) c4) (ys.length + (form n).length) ((ys ++ form n).map bv) (by rfl) (unhide own4) B0 A n c (xs.map bv) (by rfl) (unhide rd4) (bv_one _) (by unfold maxLen; omega) (by omega) (by omega) ?_
         intro v5 w5 ho5 hg5 hr5
         obtain ⟨A5, c5, rfl⟩ := ho5.shape
         have H5 := hide ((unhide H4).grown (out := xs) (by rw [List.length_append, hxl]; exact ho5) (by exact hg5) (by
           rcases hr5 with h | h
           · exact .inl h
           · exact .inr ⟨_, h, Nat.le_refl _⟩))
         have C5 := hide ((unhide C4).grown hg5 (fun i e hi => by
           rcases unhide R4 with h | h
           · rw [← h]; exact e
           · rw [h] at e
             cases e
             have hz : w1.heap.size ≤ w2.heap.size := hz2
             omega))
         have X5 : Blk w5 w.heap.size 45 #[.int .i64 4, o1, o2, o3, .slice A n c] := (unhide X4h).grown hg5 (fun e => by
           rcases unhide R4 with h | h
           · have := hmw _ (h ▸ e.symm); omega
           · have := e.trans h
             injection this with this
             have hz : w1.heap.size ≤ w2.heap.size := hz2
             omega)
         have s5 : w5.cell? ⟨w.heap.size, 4, none⟩ = some (.slice A n c) := X5.cell 4
         have R5 := hide hr5
         clear ho5 hg5 hr5 X5)))
  have h5 := unhide H5
  rw [List.append_assoc] at h5
  have hout := putOut_of2 (m := .slice Am ys.length cm) (unhide HB0) (unhide HT1) h5 (unhide C5) (fun i hi e => e) (by
    have hz : w1.heap.size ≤ w2.heap.size := hz2
    rcases unhide R5 with h | h
    · rcases unhide R4 with h' | h'
      · exact .inl (h.trans h')
      · exact .inr ⟨_, h.trans h', by omega⟩
    · exact .inr ⟨_, h, by omega⟩)
  have HOut := hide hout
  clear hout h5
  go_wp2
  go_ret
  exact unhide HOut

set_option maxRecDepth 100000 in
set_option maxHeartbeats 1000000 in
/-- Every other kind: nothing is put. -/
theorem puts_tell (w : World) (p m : Value) (kd : Int) (o1 o2 o3 o4 : Value) (h1 : kd ≠ 1) (h2 : kd ≠ 2) (h3 : kd ≠ 3) (h4 : kd ≠ 4) :
    Calls Try.prog 27 #[p, m, .agg #[.int .i64 kd, o1, o2, o3, o4]] w fun e w' => e = .returned m ∧ w' = w.alloc (.cells #[.int .i64 kd, o1, o2, o3, o4] 45) := by
  go_enter Try.func27, Try.ntmps27
  go_wp2
  go_ret
  exact ⟨rfl, rfl⟩
end Go.Proofs.Ytbofjboebkfjgaa
