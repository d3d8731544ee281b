/-
  CheckPieces is true of every bytes, however cut in three: the sum of all, the sums joined either way, the sum of the parts by goroutines and a stream's are one number. Condition: none.
-/
import Derived.KernelRfl
import Derived.Test.YtoipkpndfgcmcaaRows
import Derived.Conc.LeavingOf
import Derived.Test.YtoipkpndfgcmcaaCheckPiecesM00
import Derived.Test.YtoipkpndfgcmcaaCheckPiecesM08

/-
  CheckPieces' region of a drawn order, whole, in the whole machine: three pieces by goroutines among it. The conditions stand in each theorem.
-/
namespace Go.Proofs.Ytoipkpndfgcmcaa.Crew
open Go Go.Conc Go.ConcN Go.RowKit Go.Conc.Lib Go.ConcR.Gen Go.ConcN.Gen Go.Proofs.Ytoipkpndfgcmcaa.Veils
set_option linter.unusedVariables false
set_option linter.unusedSectionVars false
theorem elem_sls : ElemOf Try.prog 62 29 1 24 := .mk' (.slice none 0 0) Try.underlying62 (by kernel_rfl) rfl (by omega)
section
variable {A A2 A3 : Option Addr} {n c p J x0 Jm q Bm : Nat} {bs : List UInt8} {W w w' : World} {X : Nat → Prop} {ls : Array Bool} {T : Array Value} {l : List Nat} {k : List Item} {m : Machine} {t : Trace}
theorem Ph.make (h : Ph A A2 A3 n c p J x0 bs W X ls T w) : Ph A A2 A3 n c p J x0 bs W X (ls.setIfInBounds 38 true) (T.setIfInBounds 173 (.slice (some ⟨w.heap.size, 0, none⟩) 3 3)) (w.alloc (.cells #[.slice A p c, .slice A2 (J - p : Nat) (c - p), .slice A3 (n - J : Nat) (c - J)] 29)) := by
  have hb : Below w.heap.size w (w.alloc (.cells #[.slice A p c, .slice A2 (J - p : Nat) (c - p), .slice A3 (n - J : Nat) (c - J)] 29)) := (Below.refl _ _).alloc (Nat.le_refl _) _
  have hk : Blk (w.alloc (.cells #[.slice A p c, .slice A2 (J - p : Nat) (c - p), .slice A3 (n - J : Nat) (c - J)] 29)) w.heap.size 29 #[.slice A p c, .slice A2 (J - p : Nat) (c - p), .slice A3 (n - J : Nat) (c - J)] := Blk.new _ _ _
  refine ⟨h.pc.put (by omega) _, fun j hj hj8 hl => ?_, fun _ => ⟨w.heap.size, ?_, ?_⟩, h.wn.go hb⟩
  · rw [Array.getElem?_setIfInBounds_ne (by omega)]
    exact h.done j hj hj8 ((getD_on hl).resolve_left hj8)
  · have := h.pc.sz
    rw [Array.getElem?_setIfInBounds_self_of_lt (by omega)]
  · exact ⟨by simp, h.wn.below.size, fun hx => by have := (h.wn.at_ _ hx).2; omega, hk.cell 0, hk.cell 1, hk.cell 2⟩
theorem s16_38 (h : Ph A A2 A3 n c p J x0 bs W X ls T w) (haf : ∀ o, (O16of (bodyOf Try.f10))[38]? = some o → ∀ e ∈ o.after, Region.binds .any e = true → ls.getD e.on false = true) :
    Runs Try.prog (DF X) (Nx A A2 A3 n c p J x0 bs W X (ls.setIfInBounds 38 true) (O16of (bodyOf Try.f10)) k l) (InR 10 (O16of (bodyOf Try.f10)) k T (38 :: l) []) w := by
  obtain ⟨o, ho, hop, hd, hg, hdep, hc⟩ := o16_38
  have e27 : T[162]? = some (.bool false) := h.done 27 (by decide) (by decide) (deps_done (haf o ho) (hdep 27 (by decide)))
  have e30 : T[165]? = some (.slice A p c) := h.done 30 (by decide) (by decide) (deps_done (haf o ho) (hdep 30 (by decide)))
  have e34 : T[169]? = some (.slice A2 (J - p : Nat) (c - p)) := h.done 34 (by decide) (by decide) (deps_done (haf o ho) (hdep 34 (by decide)))
  have e37 : T[172]? = some (.slice A3 (n - J : Nat) (c - J)) := h.done 37 (by decide) (by decide) (deps_done (haf o ho) (hdep 37 (by decide)))
  obtain ⟨og, hog, _, hogd, _⟩ := o16_27
  have hr : ∀ w : World, (execOp (⟨T, []⟩ : Act).eval o).run Try.prog w = .ok (.value (.slice (some ⟨w.heap.size, 0, none⟩) 3 3)) (w.alloc (.cells #[.slice A p c, .slice A2 (J - p : Nat) (c - p), .slice A3 (n - J : Nat) (c - J)] 29)) := fun w => by
    obtain ⟨i, z, g1, g2, g3, g4, g5, g6⟩ := (elem_sls).ex
    unfold execOp
    simp only [hop]
    show (Instr.buildSlice _ _ _ >>= fun v => (Pure.pure (Next.value v) : Sem Next)).run _ _ = _
    rw [Sem.run_bind, run_buildSlice w 62 29 3 _ #[.slice A p c, .slice A2 (J - p : Nat) (c - p), .slice A3 (n - J : Nat) (c - J)] i z g1 g2 g3 (by rw [g4]; omega) (by rw [g4]; omega) ?_]
    · rfl
    · rw [g4]
      have hl : ((#[(0, Operand.tmp 165), (1, Operand.tmp 169), (2, Operand.tmp 172)] : Array (Nat × Operand)).map fun (i, x) => (i, (⟨T, []⟩ : Act).eval x)).toList = (([.slice A p c, .slice A2 (J - p : Nat) (c - p), .slice A3 (n - J : Nat) (c - J)] : List Value).zipIdx 0).map fun x => (x.2, x.1) := by
        simp [ev_tmp e30, ev_tmp e34, ev_tmp e37, List.zipIdx]
      rw [hl]
      exact Great.fill_flat _ _ (fun v hv => by
        simp only [List.mem_cons, List.not_mem_nil, or_false] at hv
        rcases hv with rfl | rfl | rfl <;> rfl) (by simp)
  refine hand_calm ho (wanted_guard hg hog hogd e27) hc h.wn.rows hr fun d => ?_
  rw [hd]
  exact .stop fun d' => ⟨_, rfl, ((h.at d).make).at d'⟩
theorem sum3 (hC : Cut A n c p J A2 A3) : sumP [b1 bs p J, b2 bs p J, b3 bs p J] = upd 0 bs := by
  show upd (upd (upd 0 (b1 bs p J)) (b2 bs p J)) (b3 bs p J) = _
  rw [upd_app, upd_app, b123 hC]
def sl3 (A A2 A3 : Option Addr) (c p J : Nat) : Nat → Option Addr × Nat
  | 0 => (A, c)
  | 1 => (A2, c - p)
  | _ => (A3, c - J)
/-- The state between two operations, in the machine. -/
def At16 (A A2 A3 : Option Addr) (n c p J x0 : Nat) (bs : List UInt8) (W : World) (k : List Item) (ls : Array Bool) (l : List Nat) (m : Machine) (t : Trace) : Prop :=
  ∃ X Jm, Mach Try.prog X Jm (Nx A A2 A3 n c p J x0 bs W X ls (O16of (bodyOf Try.f10)) k l) m t
theorem rb_args {v : World} {B N : Nat} {xs : List UInt8} {Ad : Option Addr} {m : Nat} (h : Reads v B 1 Ad m (xs.map bv)) (hBN : B ≤ N) (hX : ∀ r, X r → B ≤ r) (hp : 0 < xs.length) : ∃ g off, Ad = some ⟨g, off, none⟩ ∧ g < N ∧ ¬ X g ∧ ∀ k u, (xs.map bv)[k]? = some u → v.cell? ⟨g, off + k, none⟩ = some u := by
  have hl : xs.length = m := by have := h.1; simpa using this
  obtain ⟨b, off, u, h1, h2, _, _, h3⟩ := h.at0 (k := 0) (by omega)
  exact ⟨b, off, h1, by omega, fun x => by have := hX b x; omega, fun k u hu => h3 k u hu⟩
theorem s16_39 (hr : Reads W W.heap.size 1 A n (bs.map bv)) (hn : n ≤ 140737488355328) (hC : Cut A n c p J A2 A3) (hq : TakeQ 140737488355328 q) (haf : ∀ o, (O16of (bodyOf Try.f10))[39]? = some o → ∀ e ∈ o.after, Region.binds .any e = true → ls.getD e.on false = true)
    (h : At16 A A2 A3 n c p J x0 bs W k ls (39 :: l) m t) : Leads Try.prog m t (At16 A A2 A3 n c p J x0 bs W k (ls.setIfInBounds 39 true) l) := by
  obtain ⟨X, Jm, hM⟩ := h
  obtain ⟨g0, W1, ⟨T, rfl, hP⟩, hM⟩ := hM.pin
  obtain ⟨o, ho, hop, hd, hg, hdep, _⟩ := o16_39
  have e27 : T[162]? = some (.bool false) := hP.done 27 (by decide) (by decide) (deps_done (haf o ho) (hdep 27 (by decide)))
  obtain ⟨g, e38, hMade⟩ := hP.made (deps_done (haf o ho) (hdep 38 (by decide)))
  obtain ⟨og, hog, _, hogd, _⟩ := o16_27
  have hlen : bs.length = n := by have := hr.1; simpa using this
  have hr1 := hr.below hP.wn.below
  have hXW : ∀ r, X r → W.heap.size ≤ r := fun r hx => (hP.wn.at_ r hx).1
  have hsz := hP.wn.below.size
  have l1 : (b1 bs p J).length = p := by have := hC.pJ; have := hC.Jn; simp [b1]; omega
  have l2 := b2_len hC hlen
  have l3 : (b3 bs p J).length = n - J := b3_len hlen
  have hpJ := hC.pJ
  have hJn := hC.Jn
  have ha : Args W1 W1.heap.size X (some ⟨g, 0, none⟩) 3 [b1 bs p J, b2 bs p J, b3 bs p J] (sl3 A A2 A3 c p J) := by
    refine ⟨rfl, fun _ => ⟨g, 0, rfl, hMade.lt, hMade.out, fun j hj => ?_⟩, fun j hj hp => ?_⟩
    · match j, hj with
      | 0, _ => exact hMade.c0.trans (by show some (Value.slice A p c) = some (.slice A (b1 bs p J).length c); rw [l1])
      | 1, _ => exact hMade.c1.trans (by show some (Value.slice A2 (J - p : Nat) (c - p)) = some (.slice A2 (b2 bs p J).length (c - p)); rw [l2])
      | 2, _ => exact hMade.c2.trans (by show some (Value.slice A3 (n - J : Nat) (c - J)) = some (.slice A3 (b3 bs p J).length (c - J)); rw [l3])
    · match j, hj, hp with
      | 0, _, hp => exact rb_args (hC.r1 hr1) hsz hXW hp
      | 1, _, hp => exact rb_args (hC.r2 hr1) hsz hXW hp
      | 2, _, hp => exact rb_args (hC.r3 hr1) hsz hXW hp
  have hB : ∀ j, j < 3 → (([b1 bs p J, b2 bs p J, b3 bs p J] : List (List UInt8)).getD j []).length ≤ 140737488355328 := fun j hj => by
    match j, hj with
    | 0, _ => show (b1 bs p J).length ≤ _; omega
    | 1, _ => show (b2 bs p J).length ≤ _; omega
    | 2, _ => show (b3 bs p J).length ≤ _; omega
  refine (hand_parts ho (wanted_guard hg hog hogd e27) hop (ev_tmp e38) hq (fun r hx => (hP.wn.at_ r hx).2) hP.wn.rows ha hB (Nat.le_refl _) (by omega) hM).mono fun m2 t2 h2 => ⟨_, _, h2.mono fun g2 w2 ⟨q1, q2, q3⟩ => ⟨putT T o.dst (.int .u32 (sumP [b1 bs p J, b2 bs p J, b3 bs p J] : Nat)), q1, ?_⟩⟩
  rw [hd, sum3 hC]
  refine ⟨hP.pc.put (d := 174) (by omega) _, fun j hj hj8 hl => ?_, fun hl => ?_, ⟨hP.wn.below.trans (q2.mono hsz), q3, fun r hx => ?_⟩⟩
  · show (T.setIfInBounds 174 _)[135 + j]? = _
    by_cases e : j = 39
    · subst e
      have := hP.pc.sz
      rw [Array.getElem?_setIfInBounds_self_of_lt (by omega)]
      rfl
    · rw [Array.getElem?_setIfInBounds_ne (by omega)]
      exact hP.done j hj hj8 ((getD_on hl).resolve_left e)
  · refine ⟨g, ?_, hMade.go q2 fun hx => ?_⟩
    · show (T.setIfInBounds 174 _)[173]? = _
      rw [Array.getElem?_setIfInBounds_ne (by omega)]
      exact e38
    · rcases hx with hx | hx
      · exact hMade.out hx
      · have := hMade.lt
        omega
  · rcases hx with hx | hx
    · have := hP.wn.at_ r hx
      exact ⟨this.1, Nat.lt_of_lt_of_le this.2 q2.size⟩
    · subst hx
      obtain ⟨cc, ee, h5, _⟩ := q3 _ (.inr rfl)
      exact ⟨by omega, (Array.getElem?_eq_some_iff.1 h5).1⟩
theorem size16 : (O16of (bodyOf Try.f10)).size = 43 := by kernel_rfl
theorem acyc16 : (List.range 43).all (fun i => match (O16of (bodyOf Try.f10))[i]? with
  | some o => o.after.toList.all fun e => decide (e.on < i)
  | none => true) = true := by kernel_rfl
theorem acyc16' (i : Nat) (o : Oper) (ho : (O16of (bodyOf Try.f10))[i]? = some o) (e : Edge) (he : e ∈ o.after) : e.on < i := by
  have hi : i < 43 := by
    have := (Array.getElem?_eq_some_iff.1 ho).1
    rwa [size16] at this
  have h := List.all_eq_true.1 acyc16 i (List.mem_range.2 hi)
  rw [ho] at h
  have := List.all_eq_true.1 h e (Array.mem_toList_iff.2 he)
  simpa using this
set_option maxHeartbeats 4000000 in
set_option maxRecDepth 10000 in
theorem step16 (hr : Reads W W.heap.size 1 A n (bs.map bv)) (hn : n ≤ 140737488355328) (hC : Cut A n c p J A2 A3) (hx : x0 < U32) (hq : TakeQ 140737488355328 q) (ls : Array Bool) (i : Nat) (l : List Nat) (m : Machine) (t : Trace) (hi : i < (O16of (bodyOf Try.f10)).size)
    (haf : ∀ o, (O16of (bodyOf Try.f10))[i]? = some o → ∀ e ∈ o.after, Region.binds .any e = true → ls.getD e.on false = true) (h : At16 A A2 A3 n c p J x0 bs W k ls (i :: l) m t) : Leads Try.prog m t (At16 A A2 A3 n c p J x0 bs W k (ls.setIfInBounds i true) l) := by
  rw [size16] at hi
  have one : (∀ (X : Nat → Prop) (T : Array Value) (w : World), Ph A A2 A3 n c p J x0 bs W X ls T w → Runs Try.prog (DF X) (Nx A A2 A3 n c p J x0 bs W X (ls.setIfInBounds i true) (O16of (bodyOf Try.f10)) k l) (InR 10 (O16of (bodyOf Try.f10)) k T (i :: l) []) w) → Leads Try.prog m t (At16 A A2 A3 n c p J x0 bs W k (ls.setIfInBounds i true) l) := fun hk => by
    obtain ⟨X, Jm, hM⟩ := h
    exact (hM.runs fun a w ⟨T, e, hP⟩ => by rw [e]; exact hk X T w hP).mono fun m' t' h' => ⟨X, Jm, h'⟩
  have hcase : i = 0 ∨ i = 1 ∨ i = 2 ∨ i = 3 ∨ i = 4 ∨ i = 5 ∨ i = 6 ∨ i = 7 ∨ i = 8 ∨ i = 9 ∨ i = 10 ∨ i = 11 ∨ i = 12 ∨ i = 13 ∨ i = 14 ∨ i = 15 ∨ i = 16 ∨ i = 17 ∨ i = 18 ∨ i = 19 ∨ i = 20 ∨ i = 21 ∨ i = 22 ∨ i = 23 ∨ i = 24 ∨ i = 25 ∨ i = 26 ∨ i = 27 ∨ i = 28 ∨ i = 29 ∨ i = 30 ∨ i = 31 ∨ i = 32 ∨ i = 33 ∨ i = 34 ∨ i = 35 ∨ i = 36 ∨ i = 37 ∨ i = 38 ∨ i = 39 ∨ i = 40 ∨ i = 41 ∨ i = 42 := by omega
  rcases hcase with rfl | rfl | rfl | rfl | rfl | rfl | rfl | rfl | rfl | rfl | rfl | rfl | rfl | rfl | rfl | rfl | rfl | rfl | rfl | rfl | rfl | rfl | rfl | rfl | rfl | rfl | rfl | rfl | rfl | rfl | rfl | rfl | rfl | rfl | rfl | rfl | rfl | rfl | rfl | rfl | rfl | rfl | rfl
  · exact one fun X T w hP => s16_0 hr hn hC hx hP haf
  · exact one fun X T w hP => s16_1 hr hn hC hx hP haf
  · exact one fun X T w hP => s16_2 hr hn hC hx hP haf
  · exact one fun X T w hP => s16_3 hr hn hC hx hP haf
  · exact one fun X T w hP => s16_4 hr hn hC hx hP haf
  · exact one fun X T w hP => s16_5 hr hn hC hx hP haf
  · exact one fun X T w hP => s16_6 hr hn hC hx hP haf
  · exact one fun X T w hP => s16_7 hr hn hC hx hP haf
  · exact one fun X T w hP => s16_8 hr hn hC hx hP haf
  · exact one fun X T w hP => s16_9 hr hn hC hx hP haf
  · exact one fun X T w hP => s16_10 hr hn hC hx hP haf
  · exact one fun X T w hP => s16_11 hr hn hC hx hP haf
  · exact one fun X T w hP => s16_12 hr hn hC hx hP haf
  · exact one fun X T w hP => s16_13 hr hn hC hx hP haf
  · exact one fun X T w hP => s16_14 hr hn hC hx hP haf
  · exact one fun X T w hP => s16_15 hr hn hC hx hP haf
  · exact one fun X T w hP => s16_16 hr hn hC hx hP haf
  · exact one fun X T w hP => s16_17 hr hn hC hx hP haf
  · exact one fun X T w hP => s16_18 hr hn hC hx hP haf
  · exact one fun X T w hP => s16_19 hr hn hC hx hP haf
  · exact one fun X T w hP => s16_20 hr hn hC hx hP haf
  · exact one fun X T w hP => s16_21 hr hn hC hx hP haf
  · exact one fun X T w hP => s16_22 hr hn hC hx hP haf
  · exact one fun X T w hP => s16_23 hr hn hC hx hP haf
  · exact one fun X T w hP => s16_24 hr hn hC hx hP haf
  · exact one fun X T w hP => s16_25 hr hn hC hx hP haf
  · exact one fun X T w hP => s16_26 hr hn hC hx hP haf
  · exact one fun X T w hP => s16_27 hr hn hC hx hP haf
  · exact one fun X T w hP => s16_28 hr hn hC hx hP haf
  · exact one fun X T w hP => s16_29 hr hn hC hx hP haf
  · exact one fun X T w hP => s16_30 hr hn hC hx hP haf
  · exact one fun X T w hP => s16_31 hr hn hC hx hP haf
  · exact one fun X T w hP => s16_32 hr hn hC hx hP haf
  · exact one fun X T w hP => s16_33 hr hn hC hx hP haf
  · exact one fun X T w hP => s16_34 hr hn hC hx hP haf
  · exact one fun X T w hP => s16_35 hr hn hC hx hP haf
  · exact one fun X T w hP => s16_36 hr hn hC hx hP haf
  · exact one fun X T w hP => s16_37 hr hn hC hx hP haf
  · exact one fun X T w hP => s16_38 hP haf
  · exact s16_39 hr hn hC hq haf h
  · exact one fun X T w hP => s16_40 hr hn hC hx hP haf
  · exact one fun X T w hP => s16_41 hr hn hC hx hP haf
  · exact one fun X T w hP => s16_42 hr hn hC hx hP haf
end
end Go.Proofs.Ytoipkpndfgcmcaa.Crew

/-
  What is left of CheckPieces behind its drawn region, walked alone: a stream of the pieces. The conditions stand in each theorem.
-/
namespace Go.Proofs.Ytoipkpndfgcmcaa.Crew
open Go Go.RowKit
set_option linter.unusedVariables false
set_option linter.unusedSimpArgs false
set_option maxRecDepth 100000 in
set_option maxHeartbeats 4000000 in
theorem pc_rest {v : World} {B n c p J x0 : Nat} {A A2 A3 : Option Addr} {bs : List UInt8} (hr : Reads v B 1 A n (bs.map bv)) (hB : B ≤ v.heap.size) (hn : n ≤ 140737488355328) (hC : Cut A n c p J A2 A3) (T : Array Value) (hT : PcT T A n c p J x0 bs) :
    (R16of (bodyOf Try.f10)).wp Try.prog (bodyPost Try.prog Try.f10 fun e w' => e = .returned (.bool true) ∧ Below v.heap.size v w') { tmps := T, defers := [] } v := by
  obtain ⟨g, rfl, hg⟩ := array_lit T 208 hT.sz
  have g0 := lit_at hg (by omega) hT.t0
  have g1 := lit_at hg (by omega) hT.t1
  have g2 := lit_at hg (by omega) hT.t2
  have g12 := lit_at hg (by omega) hT.t12
  obtain ⟨al, hal⟩ : ∃ s, upd 0 bs = s := ⟨_, rfl⟩
  rw [hal] at g12
  have hlen : bs.length = n := by have := hr.1; simpa using this
  have hpJ := hC.pJ
  have hJn := hC.Jn
  have hnc := hC.nc
  obtain ⟨q, hq⟩ : ∃ q, J - p = q := ⟨_, rfl⟩
  obtain ⟨R, hR⟩ : ∃ R, n - J = R := ⟨_, rfl⟩
  obtain ⟨c2, hc2⟩ : ∃ k, c - p = k := ⟨_, rfl⟩
  obtain ⟨c3, hc3⟩ : ∃ k, c - J = k := ⟨_, rfl⟩
  have sl1 : ∀ W, (Instr.slice 29 (.slice A n c) none (some (.int .i64 (p : Int))) none).run Try.prog W = .ok (.slice A p c) W := fun W => cut_head hC W
  have sl2 : ∀ W, (Instr.slice 29 (.slice A n c) (some (.int .i64 (p : Int))) (some (.int .i64 (J : Int))) none).run Try.prog W = .ok (.slice A2 q c2) W := fun W => by rw [← hq, ← hc2]; exact cut_mid hC W
  have sl3 : ∀ W, (Instr.slice 29 (.slice A n c) (some (.int .i64 (J : Int))) none none).run Try.prog W = .ok (.slice A3 R c3) W := fun W => by rw [← hR, ← hc3]; exact cut_end hC W
  obtain ⟨s1, hs1⟩ : ∃ s, upd 0 (b1 bs p J) = s := ⟨_, rfl⟩
  obtain ⟨s2, hs2⟩ : ∃ s, upd s1 (b2 bs p J) = s := ⟨_, rfl⟩
  have hs3 : upd s2 (b3 bs p J) = al := by rw [← hs2, ← hs1, ← hal, upd_app, upd_app, b123 hC]
  have ls1 : s1 < U32 := hs1 ▸ upd_lt (by decide) _
  have ls2 : s2 < U32 := hs2 ▸ upd_lt ls1 _
  obtain ⟨gb, hgb⟩ : ∃ b, v.heap.size = b := ⟨_, rfl⟩
  have rB : ∀ w', Chg v w' (fun i => i = gb) → Reads w' B 1 A n (bs.map bv) := fun w' h => h.reads hr hB (fun i hi e => by omega)
  have hNew : Hid (Calls Try.prog 13 #[] v fun e w' => e = .returned (.pointer (some ⟨gb, 0, none⟩)) ∧ Blk w' gb 72 #[.int .u32 0, .int .i64 0] ∧ Chg v w' (fun i => i = gb)) := hide <| (new_any v).mono fun e w' ⟨h1, h2⟩ => by
    subst h2
    rw [h1, hgb]
    exact ⟨rfl, hgb ▸ Blk.new v _ _, (Chg.refl v _).alloc _⟩
  have cW1 : ∀ w', Blk w' gb 72 #[.int .u32 0, .int .i64 0] → Chg v w' (fun i => i = gb) → Hid (Calls Try.prog 18 #[.pointer (some ⟨gb, 0, none⟩), .slice A p c] w' fun e w2 => e = .returned (.int .i64 0) ∧ Blk w2 gb 72 #[.int .u32 (s1 : Int), .int .i64 (p : Int)] ∧ Chg v w2 (fun i => i = gb)) := fun w' hk h => hide <|
    (stWrite_any gb 0 0 (b1 bs p J) A p c B w' (by decide) hk (hC.r1 (rB w' h)) (by omega) (Nat.le_trans hB h.size)).mono fun e w2 ⟨h1, h2, h3⟩ => by
      have e1 : wrap64 ((0 : Int) + (p : Int)) = (p : Int) := by unfold wrap64; omega
      rw [e1, hs1] at h2
      exact ⟨h1, h2, h.trans h3 fun i _ e => e⟩
  have cW2 : ∀ w', Blk w' gb 72 #[.int .u32 (s1 : Int), .int .i64 (p : Int)] → Chg v w' (fun i => i = gb) → Hid (Calls Try.prog 18 #[.pointer (some ⟨gb, 0, none⟩), .slice A2 q c2] w' fun e w2 => e = .returned (.int .i64 0) ∧ Blk w2 gb 72 #[.int .u32 (s2 : Int), .int .i64 (J : Int)] ∧ Chg v w2 (fun i => i = gb)) := fun w' hk h => hide <|
    (stWrite_any gb s1 p (b2 bs p J) A2 q c2 B w' ls1 hk (by rw [← hq]; exact hC.r2 (rB w' h)) (by omega) (Nat.le_trans hB h.size)).mono fun e w2 ⟨h1, h2, h3⟩ => by
      have e1 : wrap64 ((p : Int) + (q : Int)) = (J : Int) := by unfold wrap64; omega
      rw [e1, hs2] at h2
      exact ⟨h1, h2, h.trans h3 fun i _ e => e⟩
  have cW3 : ∀ w', Blk w' gb 72 #[.int .u32 (s2 : Int), .int .i64 (J : Int)] → Chg v w' (fun i => i = gb) → Hid (Calls Try.prog 18 #[.pointer (some ⟨gb, 0, none⟩), .slice A3 R c3] w' fun e w2 => e = .returned (.int .i64 0) ∧ Blk w2 gb 72 #[.int .u32 (al : Int), .int .i64 (n : Int)] ∧ Chg v w2 (fun i => i = gb)) := fun w' hk h => hide <|
    (stWrite_any gb s2 J (b3 bs p J) A3 R c3 B w' ls2 hk (by rw [← hR]; exact hC.r3 (rB w' h)) (by omega) (Nat.le_trans hB h.size)).mono fun e w2 ⟨h1, h2, h3⟩ => by
      have e1 : wrap64 ((J : Int) + (R : Int)) = (n : Int) := by unfold wrap64; omega
      rw [e1, hs3] at h2
      exact ⟨h1, h2, h.trans h3 fun i _ e => e⟩
  have cSum : ∀ w', Blk w' gb 72 #[.int .u32 (al : Int), .int .i64 (n : Int)] → Hid (Calls Try.prog 39 #[.pointer (some ⟨gb, 0, none⟩)] w' fun e w2 => e = .returned (.int .u32 (al : Int)) ∧ w' = w2) := fun w' hk => hide (stSum_any gb al n w' hk)
  have cLen : ∀ w', Blk w' gb 72 #[.int .u32 (al : Int), .int .i64 (n : Int)] → Hid (Calls Try.prog 40 #[.pointer (some ⟨gb, 0, none⟩)] w' fun e w2 => e = .returned (.int .i64 (n : Int)) ∧ w' = w2) := fun w' hk => hide (stLen_any gb al n w' hk)
  have e1 : ((al : Int) == (al : Int)) = true := by simp
  have e2 : ((n : Int) == (n : Int)) = true := by simp
  have hfin : Hid (∀ w', Chg v w' (fun i => i = gb) → Below v.heap.size v w') := hide fun w' h => h.below (Nat.le_refl _) (fun i hi e => by omega)
  clear hT hg hal hs1 hs2 hs3 ls1 ls2 hr hB rB hC hpJ hJn hnc hq hR hc2 hc3 hlen hn
  simp only [R16of, seqTails, seqTail, bodyOf, Try.f10, Option.getD_some, List.range, List.range.loop, List.map_cons, List.map_nil, g0, g1, g2, g12]
  clear g0 g1 g2 g12 hgb
  go_wp2_with (go_at_call 13; (with_reducible refine (unhide hNew).mono ?_); rintro e w1 ⟨rfl, hk1, hc1⟩)
  have HK1 := hide hk1
  have HC1 := hide hc1
  clear hk1 hc1
  go_wp2_with (go_at_call 18; (with_reducible refine (unhide (cW1 _ (unhide HK1) (unhide HC1))).mono ?_); rintro e w2 ⟨rfl, hk2, hc2⟩)
  have HK2 := hide hk2
  have HC2 := hide hc2
  clear hk2 hc2
  go_wp2_with (go_at_call 18; (with_reducible refine (unhide (cW2 _ (unhide HK2) (unhide HC2))).mono ?_); rintro e w3 ⟨rfl, hk3, hc3⟩)
  have HK3 := hide hk3
  have HC3 := hide hc3
  clear hk3 hc3
  go_wp2_with (go_at_call 18; (with_reducible refine (unhide (cW3 _ (unhide HK3) (unhide HC3))).mono ?_); rintro e w4 ⟨rfl, hk4, hc4⟩)
  have HK4 := hide hk4
  have HC4 := hide hc4
  clear hk4 hc4
  go_wp2_with (go_at_call 39; (with_reducible refine (unhide (cSum _ (unhide HK4))).mono ?_); rintro e w5 ⟨rfl, rfl⟩)
  go_wp2_with (go_at_call 40; (with_reducible refine (unhide (cLen _ (unhide HK4))).mono ?_); rintro e w5 ⟨rfl, rfl⟩)
  go_ret
  exact ⟨rfl, unhide hfin _ (unhide HC4)⟩
end Go.Proofs.Ytoipkpndfgcmcaa.Crew

/-
  CheckPieces: from its entry to its end, in the whole machine. The conditions stand in each theorem.
-/
namespace Go.Proofs.Ytoipkpndfgcmcaa.Crew
open Go Go.Conc Go.ConcN Go.RowKit Go.Conc.Lib Go.ConcR.Gen Go.ConcN.Gen Go.Proofs.Ytoipkpndfgcmcaa.Veils
set_option linter.unusedVariables false
set_option linter.unusedSectionVars false
/-- The law's frame. -/
def fr10 (T : Array Value) (k : List Item) : Frame := (base 10).at ⟨T, []⟩ k
set_option maxRecDepth 100000 in
theorem enter10 (a b c d : Value) : Frame.enter Try.prog 10 #[a, b, c, d] .normal = plus (fr10 (#[a, b, c, d] ++ Array.replicate 204 undef) []) (.code (graftf (seqTails 14 (bodyOf Try.f10)) (front 14 (bodyOf Try.f10))) :: []) := by kernel_rfl
theorem tailed10 : tailed Try.prog calmF (slotK 10) (front 14 (bodyOf Try.f10)) = true := by kernel_rfl
theorem calm10 : codeCalm Try.prog calmF (slotK 10) (R16of (bodyOf Try.f10)) = true := by kernel_rfl
theorem inits10 : Try.prog.inits.idxOf? 10 = none := by kernel_rfl
theorem text14 : seqTails 14 (bodyOf Try.f10) = .seq (.seq (.region 16 (O16of (bodyOf Try.f10)) true) (C16of (bodyOf Try.f10))) (R16of (bodyOf Try.f10)) := by kernel_rfl
theorem textC : ∃ x, C16of (bodyOf Try.f10) = .cond (.tmp 177) x .skip := ⟨_, rfl⟩
theorem mixed10 : Try.prog.follows .mixedOrders = true := by kernel_rfl
section
variable {W : World} {A A2 A3 : Option Addr} {n c p J x0 q : Nat} {i0 j0 : Int} {bs : List UInt8}
/-- Behind the beginning. -/
def S10 (W : World) (A : Option Addr) (n c p J x0 : Nat) (bs : List UInt8) (g : Goroutine) (w : World) : Prop := ∃ T, g = G (fr10 T [.code (seqTails 14 (bodyOf Try.f10))]) [] ∧ PcT T A n c p J x0 bs ∧ Below W.heap.size W w
theorem pc_start (hr : Reads W W.heap.size 1 A n (bs.map bv)) (hn : n ≤ 140737488355328) (hC : Cut A n c p J A2 A3) (hp : plc i0 n = p) (hJ : p + plc j0 (n - p) = J) (hx : x0 < U32) (h1 : -9223372036854775808 ≤ i0) (h2 : i0 ≤ 9223372036854775807) (h3 : -9223372036854775808 ≤ j0) (h4 : j0 ≤ 9223372036854775807) :
    Runs Try.prog (DF fun _ => False) (S10 W A n c p J x0 bs) (G (Frame.enter Try.prog 10 #[.slice A n c, .int .i64 i0, .int .i64 j0, .int .u32 x0] .normal) []) W := by
  rw [enter10]
  have e : ∀ (tp : Tape), ({ veilW (fun _ => False) W with tape := tp, drawn := 0 } : World).heap.size = W.heap.size := fun tp => veil_size _ W
  refine graft_runs (F := calmF) (X := fun _ => False) fns (Fin := fun fr v' => ∃ tp a', fr = (base 10).at a' [] ∧ PcFin { veilW (fun _ => False) W with tape := tp, drawn := 0 } A n c p J x0 bs a' v') _ _ _ _
    ⟨⟨_, Try.func10⟩, fun it hit => (by cases hit), fun d hd => (by cases hd), rfl, slots_free rfl⟩ rfl rfl tailed10 (fun b hb => hb.elim) (fun tp => ?_) (fun w w' es _ _ hsz hes => ⟨hsz, hes⟩) ?_
  · have hf := pc_front { veilW (fun _ => False) W with tape := tp, drawn := 0 } A A2 A3 n c p J x0 i0 j0 bs (by rw [e]; exact reads_veil hr fun r hx => hx.elim) hn hC hp hJ hx h1 h2 h3 h4
    obtain ⟨n', fr, v', h1, h2, h3, a', h4, h5⟩ := lone_of_front (b := base 10) hf
    exact ⟨n', fr, v', h1, h2, h3, tp, a', h4, h5⟩
  · rintro fr v' w' ⟨tp, a', rfl, hd, hT, hb⟩ _ _ hh hos hout hk ht
    rw [e] at hb
    refine ⟨a'.tmps, ?_, hT, below_veil hk hh hos hout ht hb⟩
    obtain ⟨T', d'⟩ := a'
    have : d' = [] := hd
    subst this
    rfl
/-- Behind the drawn region. -/
def D10 (W : World) (A : Option Addr) (n c p J x0 : Nat) (bs : List UInt8) (X : Nat → Prop) (g : Goroutine) (w : World) : Prop := ∃ T, g = G (fr10 T [.code (R16of (bodyOf Try.f10))]) [] ∧ PcT T A n c p J x0 bs ∧ Wn W X w
theorem pc_region {m : Machine} {t : Trace} (hr : Reads W W.heap.size 1 A n (bs.map bv)) (hn : n ≤ 140737488355328) (hC : Cut A n c p J A2 A3) (hx : x0 < U32) (hq : TakeQ 140737488355328 q) (h : Mach Try.prog (fun _ => False) 0 (S10 W A n c p J x0 bs) m t) :
    Leads Try.prog m t fun m t => ∃ X Jm, Mach Try.prog X Jm (D10 W A n c p J x0 bs X) m t := by
  obtain ⟨xc, hxc⟩ := textC
  refine (h.runs (S' := fun g w => ∃ tp, Nx A A2 A3 n c p J x0 bs W (fun _ => False) (Array.replicate 43 false) (O16of (bodyOf Try.f10)) [.code (C16of (bodyOf Try.f10)), .code (R16of (bodyOf Try.f10))] (Region.schedule true (O16of (bodyOf Try.f10)) tp) g w) fun g w ⟨T, e, hT, hb⟩ => ?_).bind fun m1 t1 h1 => ?_
  · rw [e, text14]
    refine Runs.of_step rfl fun d => ⟨_, _, _, stepG_seq, ⟨Nat.le_refl _, fun e he => by simp at he⟩, ?_⟩
    refine Runs.of_step rfl fun d => ⟨_, _, _, stepG_seq, ⟨Nat.le_refl _, fun e he => by simp at he⟩, ?_⟩
    refine Runs.of_step rfl fun d => ⟨_, _, _, stepG_region_draw, ⟨Nat.le_refl _, fun e he => by simp at he⟩, ?_⟩
    rw [mixed10]
    refine .stop fun d => ⟨_, T, rfl, hT, fun j _ _ hl => ?_, fun hl => ?_, ⟨below_at hb _, fun b hb => hb.elim, fun r hx => hx.elim⟩⟩
    · rw [Array.getD_eq_getD_getElem?, Array.getElem?_replicate] at hl
      split at hl <;> cases hl
    · rw [Array.getD_eq_getD_getElem?, Array.getElem?_replicate] at hl
      split at hl <;> cases hl
  · obtain ⟨g, w, ⟨tp, hN⟩, h1⟩ := h1.pin
    have hord := ord_schedule _ acyc16' tp
    rw [size16] at hord
    have hA : At16 A A2 A3 n c p J x0 bs W [.code (C16of (bodyOf Try.f10)), .code (R16of (bodyOf Try.f10))] (Array.replicate 43 false) (Region.schedule true (O16of (bodyOf Try.f10)) tp) m1 t1 := ⟨_, _, h1.named hN⟩
    refine (drawn_leads (fun ls i l m t => step16 hr hn hC hx hq ls i l m t) hord hA).bind fun m2 t2 ⟨ls', hall, X, Jm, h2⟩ => ?_
    refine (h2.runs (S' := D10 W A n c p J x0 bs X) fun g w ⟨T, e, hP⟩ => ?_).mono fun m3 t3 h3 => ⟨X, Jm, h3⟩
    have e42 : T[177]? = some (.bool false) := hP.done 42 (by omega) (by omega) (hall 42 (by rw [size16]; omega))
    rw [e]
    refine hand_end ?_
    rw [hxc]
    refine Runs.of_step rfl fun d => ⟨_, _, _, stepG_cond (t := false) (ev_tmp e42), ⟨Nat.le_refl _, fun e he => by simp at he⟩, ?_⟩
    refine Runs.of_step rfl fun d => ⟨_, _, _, stepG_skip, ⟨Nat.le_refl _, fun e he => by simp at he⟩, ?_⟩
    exact .stop fun d => ⟨T, rfl, hP.pc, ((hP.wn.at _).at _).at _⟩
/-- At the law's return. -/
def Ret10 (W : World) (g : Goroutine) (w : World) : Prop :=
  ∃ a' todo, g = G { (base 10).at a' todo with mode := .returning } [] ∧ a'.defers = [] ∧ a'.tmps.getD 8 undef = .bool true ∧ Below W.heap.size W w
theorem pc_ends {X : Nat → Prop} (hr : Reads W W.heap.size 1 A n (bs.map bv)) (hn : n ≤ 140737488355328) (hC : Cut A n c p J A2 A3) (g : Goroutine) (w : World) (hg : D10 W A n c p J x0 bs X g w) :
    Runs Try.prog (DF X) (Ret10 W) g w := by
  obtain ⟨T, rfl, hT, hW⟩ := hg
  have hs1 := hW.below.size
  refine seq_runs (F := calmF) (X := X) fns (Fin := fun fr v' => ∃ a' todo, fr = { (base 10).at a' todo with mode := .returning } ∧ a'.defers = [] ∧ ∃ x, (results Try.f10 a'.tmps).run Try.prog v' = .ok x v' ∧ (Ending.returned x = .returned (.bool true) ∧ ∃ t, Below w.heap.size { veilW X w with tape := t, drawn := 0 } v')) []
    ⟨⟨_, Try.func10⟩, fun it hit => ?_, fun d hd => (by cases hd), rfl, slots_free rfl⟩ (.inl rfl) hW.rows (fun tp => ?_) (fun w w' es _ _ hsz hes => ⟨hsz, hes⟩) ?_
  · obtain rfl := List.mem_singleton.1 hit
    exact calm10
  · have e : ({ veilW X w with tape := tp, drawn := 0 } : World).heap.size = w.heap.size := veil_size _ w
    have hv : Reads { veilW X w with tape := tp, drawn := 0 } W.heap.size 1 A n (bs.map bv) := reads_veil (hr.below hW.below) fun r hx => (hW.at_ r hx).1
    obtain ⟨n', fr, v', h1, h2, a', todo, h3, h4, x, h5, h6, h7⟩ := lone_of_body (b := base 10) (pc_rest hv (by rw [e]; exact hs1) hn hC T hT) (fun e w h => ⟨_, h.1⟩)
    rw [e] at h7
    exact ⟨n', fr, v', h1, h2, a', todo, h3, h4, x, h5, h6, tp, h7⟩
  · rintro fr v' w' ⟨a', todo, rfl, h4, x, h5, h6, tp, h7⟩ _ hh hos hout hk ht
    have hx : x = a'.tmps.getD 8 undef := by
      have := results_tmp (t := 8) (fn := Try.f10) rfl a'.tmps Try.prog v'
      rw [this] at h5
      cases h5
      rfl
    have hb := below_veil hk hh hos hout ht h7
    refine ⟨a', todo, rfl, h4, ?_, hW.below.trans (hb.mono hs1)⟩
    injection h6 with h6
    rw [← hx, h6]
theorem ret_done10 {X : Nat → Prop} (g : Goroutine) (w : World) (h : Ret10 W g w) : AtDone Try.prog X (fun v w' => v = .bool true ∧ Below W.heap.size W w') g w := by
  obtain ⟨a', todo, rfl, hd, hx, hb⟩ := h
  refine ⟨rfl, fun d => ⟨.bool true, #[], ?_, fun e he => by simp at he, rfl, below_at hb d⟩⟩
  rw [stepG_last rfl hd Try.func10 (results_tmp (t := 8) rfl _ Try.prog (w.at d)) (events_results_tmp (t := 8) rfl _ _) inits10, hx]
/-- CHECKPIECES. -/
theorem checkPieces_run (hr : Reads W W.heap.size 1 A n (bs.map bv)) (hn : n ≤ 140737488355328) (hnc : n ≤ c) (hx : x0 < U32) (h1 : -9223372036854775808 ≤ i0) (h2 : i0 ≤ 9223372036854775807) (h3 : -9223372036854775808 ≤ j0) (h4 : j0 ≤ 9223372036854775807) :
    ∃ M last o w' t', runNT Try.prog (M + 1) (solo (G (Frame.enter Try.prog 10 #[.slice A n c, .int .i64 i0, .int .i64 j0, .int .u32 x0] .normal) []) W) #[] = (.ended o w', t') ∧ runN Try.prog M (solo (G (Frame.enter Try.prog 10 #[.slice A n c, .int .i64 i0, .int .i64 j0, .int .u32 x0] .normal) []) W) = .next last ∧
      step Try.prog last = .ended o w' ∧ Conc.Good Try.prog (fun v w' => v = .bool true ∧ Below W.heap.size W w') last o w' t' := by
  obtain ⟨q, hq⟩ := take_co 140737488355328 (Nat.le_refl _)
  obtain ⟨p, hp⟩ : ∃ p, plc i0 n = p := ⟨_, rfl⟩
  have hpn : p ≤ n := hp ▸ plc_le _ _
  obtain ⟨J, hJ⟩ : ∃ J, p + plc j0 (n - p) = J := ⟨_, rfl⟩
  have hJn : J ≤ n := by have := plc_le j0 (n - p); omega
  have hC : Cut A n c p J (if c = p then A else A.map (·.add (p * 1))) (if c = J then A else A.map (·.add (J * 1))) := ⟨by omega, hJn, hnc, rfl, rfl⟩
  have h0 : Mach Try.prog (fun _ => False) 0 (fun g w => g = G (Frame.enter Try.prog 10 #[.slice A n c, .int .i64 i0, .int .i64 j0, .int .u32 x0] .normal) [] ∧ w = W) (solo (G (Frame.enter Try.prog 10 #[.slice A n c, .int .i64 i0, .int .i64 j0, .int .u32 x0] .normal) []) W) #[] := mach_one _ _ ⟨rfl, rfl⟩
  have hl : Leads Try.prog (solo (G (Frame.enter Try.prog 10 #[.slice A n c, .int .i64 i0, .int .i64 j0, .int .u32 x0] .normal) []) W) #[] (fun m t => ∃ X J, Mach Try.prog X J (Ret10 W) m t) := by
    refine (h0.runs fun a w hs => by
      rw [hs.1, hs.2]
      exact pc_start hr hn hC hp hJ hx h1 h2 h3 h4).bind fun m1 t1 h1 => ?_
    refine (pc_region hr hn hC hx hq h1).bind fun m2 t2 ⟨X, Jm, h2⟩ => ?_
    exact (h2.runs fun a w k => pc_ends hr hn hC a w k).mono fun m3 t3 h3 => ⟨_, _, h3⟩
  obtain ⟨N, m1, t1, h1, X, J, h2⟩ := hl
  exact Leads.ends (X := X) (J := J) ⟨N, m1, t1, h1, h2⟩ fun a w hs => ret_done10 a w hs
end
end Go.Proofs.Ytoipkpndfgcmcaa.Crew

namespace Go.Proofs.Ytoipkpndfgcmcaa.checkPieces
open Go.RowKit Go.ChangeShapes Go.WideShapes Go.ChangeAt
set_option linter.unusedVariables false

theorem own : ownKnob Try.prog.godebug = none := by kernel_rfl
theorem laidOut : laidOutB Try.prog = true := by kernel_rfl

set_option maxRecDepth 100000 in
theorem lifted (os : Os) (started : os.Started) (H : Type) (enc : TypeId × Value → H) :
    ReturnsInLeavingWide {} Try.checked os 10 .any (Rows.checkPiecesSpec.pre6 enc Try.prog Try.f10 Rows.checkPiecesRow.domain false) (Rows.checkPiecesSpec.post enc Try.prog Try.f10 false true false false) := by
  refine returnsInLeavingWide_of_change_sized (C := Try.checked) own started Try.func10
    (ChangeSpec.witness6 (enc := enc) (C := Try.checked) false ⟨#[], #[.slice none 0 0, .int .i64 0, .int .i64 0, .int .u32 0], []⟩ 8 (by kernel_rfl) (by kernel_rfl) (by kernel_rfl) (by kernel_rfl)) ?_
  intro W base args ds gs before hval0 hW hcnd hsz0 _
  have hsz : (DataW.weightsEach Try.prog (Try.f10.params.toList ++ Rows.checkPiecesSpec.plain.varTypes Try.prog) (ds ++ gs)).all (· ≤ reachBytes) = true := hsz0
  clear hsz0
  have hval : ∀ (j : Nat) t v, Try.f10.params[j]? = some t → args[j]? = some v → Value.okWide Try.prog W .any base t v := hval0
  have hW' := hW
  obtain ⟨p, q, hA0, hV, rfl, hfz, hnd⟩ := hW
  have hA : DataW.TrodAll enc Try.prog W 0 (fun _ => true) true Try.f10.params.toList args.toList ds p := hA0
  rw [Try.params10] at hA hval hsz
  obtain ⟨v0, vs0, d0, ds0, p0, q0, hargs, rfl, rfl, h0, r0⟩ := trodAll_cons hA
  obtain ⟨v1, vs1, d1, ds1, p1, q1, rfl, rfl, rfl, h1, r1⟩ := trodAll_cons r0
  obtain ⟨v2, vs2, d2, ds2, p2, q2, rfl, rfl, rfl, h2, r2⟩ := trodAll_cons r1
  obtain ⟨v3, vs3, d3, ds3, p3, q3, rfl, rfl, rfl, h3, r3⟩ := trodAll_cons r2
  obtain ⟨rfl, rfl, rfl⟩ := trodAll_nil r3
  obtain rfl : args = #[v0, v1, v2, v3] := by cases args; simp_all
  obtain ⟨rfl, rfl⟩ := trodVars_none hV
  obtain ⟨a0, n0, c0, rfl⟩ := okWide_slice Try.underlying29 (hval 0 29 v0 rfl rfl)
  have k0 := h0
  have lt0 : ∀ x ∈ p0, x.block < W.heap.size := by obtain ⟨m, hm⟩ := k0; exact DataW.trod_lt m _ _ _ hm
  obtain ⟨⟨b0, hr0⟩, ho0⟩ := open_bytes Try.underlying29 Try.underlying5 (by kernel_rfl) h0
  have hn0 := reach_bytes hsz 0 rfl Try.underlying29 (by kernel_rfl) rfl ho0
  obtain ⟨x1, rfl, rfl, rfl, w1⟩ := open_int Try.underlying3 (hval 1 3 v1 rfl rfl) h1
  have bd1 := bounds_i64 w1
  obtain ⟨x2, rfl, rfl, rfl, w2⟩ := open_int Try.underlying3 (hval 2 3 v2 rfl rfl) h2
  have bd2 := bounds_i64 w2
  obtain ⟨x3, rfl, rfl, rfl, w3⟩ := open_int Try.underlying40 (hval 3 40 v3 rfl rfl) h3
  have bd3 : 0 ≤ x3 ∧ x3 ≤ 4294967295 := by have h := w3; simp [Lit.wf, IntKind.min, IntKind.max, IntKind.signed, IntKind.bits] at h; omega
  obtain ⟨m3, rfl⟩ := Int.eq_ofNat_of_zero_le bd3.1
  have hm3 : m3 < U32 := by unfold U32; omega
  clear hA0 hval0
  obtain ⟨M, last, o, w', t', h1, h2, h3, h4⟩ := Crew.checkPieces_run (W := W) hr0 (Nat.le_trans hn0 (by decide)) (cap_bytes ho0) hm3 bd1.1 bd1.2 bd2.1 bd2.2
  refine ⟨M, last, o, w', t', h1, h2, h3, h4.mono fun v hp => ?_⟩
  obtain ⟨he, bel⟩ := hp
  subst he
  exact ⟨_, _, _, [], _, [], hW', trodAll_mk1 (shut_bool Try.underlying4 _), (trodAll_cons_mk (Below.trod laidOut (by kernel_rfl) (of_decide_eq_true (by kernel_rfl)) k0 bel lt0) (trodAll_cons_mk (shut_int Try.underlying3 w1) (trodAll_cons_mk (shut_int Try.underlying3 w2) (trodAll_cons_mk (shut_int Try.underlying40 w3) (trodAll_mk0))))), rfl, bel.frame _, fun h => by cases h⟩

theorem over : Rows.checkPiecesRow.holds Try.pinned (OpenSpec.ofChange Rows.checkPiecesSpec) :=
  OpenClaim.holds_of_wide_leaving 10 Try.f10 rfl rfl rfl rfl rfl rfl rfl ⟨rfl, rfl, rfl, rfl, rfl⟩ rfl rfl rfl rfl rfl (by kernel_rfl) Try.func10 (by kernel_rfl)
    (of_decide_eq_true (by kernel_rfl)) (by unfold Func.isWrapper; first | (rw [if_pos (by decide +kernel)]; kernel_rfl) | (rw [if_neg (by decide +kernel)]; exact ⟨rfl, rfl⟩))
    (fun os started H enc _ => lifted os started H enc)

theorem proved : Rows.CheckPiecesSaid := over
#print axioms proved
end Go.Proofs.Ytoipkpndfgcmcaa.checkPieces
