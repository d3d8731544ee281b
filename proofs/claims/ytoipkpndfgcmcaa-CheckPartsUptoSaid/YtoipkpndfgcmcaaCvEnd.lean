/-
  The last step beside others that only leave: the run ends, and all is well. The conditions stand in each theorem. No program in sight.
-/
import Derived.Test.YtoipkpndfgcmcaaCvMach
namespace Go.Proofs.Ytoipkpndfgcmcaa.Crew
open Go Go.Conc Go.ConcN Go.RowKit Go.Proofs.Ytoipkpndfgcmcaa.Veils
set_option linter.unusedVariables false
/-- Goroutine 0 stands at the step that ends the run. -/
def AtDone (P : Program) (X : Nat → Prop) (Post : Value → World → Prop) (g : Goroutine) (w : World) : Prop :=
  g.status = .running ∧ ∀ d, ∃ v es, stepG P true g (w.at d) = .ended (.done v) (w.at d) es ∧ (∀ e ∈ es, FineE X w.heap.size e) ∧ Post v (w.at d)
def EInv (P : Program) (X : Nat → Prop) (J : Nat) (Post : Value → World → Prop) (μ : Nat) (m : Machine) (t : Trace) : Prop :=
  ∃ (gs : Array Goroutine) (a : Goroutine) (w : World) (sl : Option (Nat × Nat)) (q : Nat → Nat), m = crowd gs w sl ∧ gs.size = J + 1 ∧ gs[0]? = some a ∧ AtDone P X Post a w ∧ Leavers P t gs q ∧ Past2 X w.heap.size J t ∧ μ = sumTo gs.size q
section
variable {P : Program} {X : Nat → Prop} {J : Nat} {Post : Value → World → Prop} {S : Goroutine → World → Prop} {m : Machine} {t : Trace}
theorem end_step (μ : Nat) (m : Machine) (t : Trace) (h : EInv P X J Post μ m t) :
    (∃ o w ops, stepT P m = (.ended o w, ops) ∧ Good P Post m o w (t ++ ops)) ∨ (∃ m' ops μ', stepT P m = (.next m', ops) ∧ μ' < μ ∧ EInv P X J Post μ' m' (t ++ ops)) := by
  obtain ⟨gs, a, w, sl, q, rfl, hz, h0, ⟨hrun, hend⟩, hL, hP, rfl⟩ := h
  obtain ⟨i, g, d, sl', hi, hg, hst⟩ := crowd_pick (P := P) (w := w) (sl := sl) (all_awake0 h0 hrun hL) ⟨0, a, h0, hrun⟩
  rcases Nat.eq_zero_or_pos i with rfl | hpos
  · obtain rfl : g = a := by rw [h0] at hi; exact (Option.some.inj hi).symm
    obtain ⟨v, es, he, hes, hpost⟩ := hend d
    have hrunT := runT_many_ended (P := P) (sl := sl') (i := 0) hi (show stepG P (0 == 0) g (w.at d) = _ from he)
    have hP' : Past2 X w.heap.size J (t ++ MemOp.ofEvents 0 g.frame.fn g.frame.place es) := hP.own (Nat.le_refl _) hes
    refine .inl ⟨_, _, _, hst.trans hrunT, v, rfl, hpost, hP'.ct.nr, hP'.over, ⟨fun x hx => ?_, rfl⟩, fun j x hx hj => ?_⟩
    · obtain ⟨j, hj⟩ := List.mem_iff_getElem?.1 hx
      rw [List.getElem?_drop] at hj
      exact ⟨_, (hL.old (1 + j) x (by omega) (by simpa [crowd] using hj)).leaves⟩
    · have hq := hL.old j x (by omega) hx
      refine ⟨q j, ?_⟩
      have e : (t ++ MemOp.ofEvents 0 g.frame.fn g.frame.place es).deaf j (t ++ MemOp.ofEvents 0 g.frame.fn g.frame.place es).size = Deaf t j :=
        Deaf_other t (g := j) (g' := 0) (by omega) _ (fun op hop => by obtain ⟨e, _, rfl⟩ := Go.Conc.mem_ofEvents hop; rfl)
      rw [e]
      exact hq.hears _
  · have hq := hL.old i g hpos hi
    have hi0 : (i == 0) = false := by simp; omega
    have hlt : i < gs.size := (Array.getElem?_eq_some_iff.1 hi).1
    cases hqi : q i with
    | zero => rw [hqi] at hq; rw [hq.1] at hg; cases hg
    | succ k =>
      rw [hqi] at hq
      rcases hq with ⟨hf, _⟩ | ⟨_, g', es, hm, hstp, hq'⟩
      · rw [hf] at hg; cases hg
      have hrunT := runT_crowd_go (P := P) (sl := sl') (i := i) hi (by rw [hi0]; exact hstp (w.at d))
      have hsz : ((gs.map (woken P g g' (w.at d))).setIfInBounds i g').size = gs.size := by simp
      have hsum : sumTo gs.size (upd q i k) + (k + 1) = sumTo gs.size q + k := by
        have := sumTo_upd q k id hlt
        simpa [hqi] using this
      refine .inr ⟨_, _, sumTo gs.size (upd q i k), hst.trans hrunT, by omega, _, a, w.at d, sl', upd q i k, rfl, by simp [hz], ?_, ⟨hrun, fun d' => hend d'⟩, ⟨fun j x hj hx => ?_, fun j hj => by
        rw [Deaf_other t (g' := i) (by simp at hj; omega) _ (fun op hop => by obtain ⟨e, _, rfl⟩ := Go.Conc.mem_ofEvents hop; rfl)]
        exact hL.above j (by simpa using hj)⟩, hP.mute (by omega) (by omega) hm, by rw [hsz]⟩
      · have hne : i ≠ 0 := by omega
        rw [Array.getElem?_setIfInBounds_ne hne, Array.getElem?_map, h0]
        simp [woken_run hrun]
      · by_cases hji : i = j
        · subst hji
          rw [Array.getElem?_setIfInBounds_self_of_lt (by simpa using hlt)] at hx
          obtain rfl := Option.some.inj hx
          rw [upd_same, Deaf_own]
          exact hq'
        · rw [Array.getElem?_setIfInBounds_ne hji, Array.getElem?_map] at hx
          obtain ⟨y, hy, rfl⟩ := Option.map_eq_some_iff.1 hx
          have hqj := hL.old j y hj hy
          rw [woken_quitsD hqj, upd_ne q k (Ne.symm hji), Deaf_other t hji _ (fun op hop => by obtain ⟨e, _, rfl⟩ := Go.Conc.mem_ofEvents hop; rfl)]
          exact hqj
/-- THE RUN ENDS. -/
theorem Mach.ends (h : Mach P X J S m t) (k : ∀ a w, S a w → AtDone P X Post a w) :
    ∃ N last o w' t', runNT P (N + 1) m t = (.ended o w', t') ∧ runN P N m = .next last ∧ step P last = .ended o w' ∧ Good P Post last o w' t' := by
  obtain ⟨gs, a, w, sl, q, h1, h2, h3, h4, h5, h6⟩ := h
  exact run_of_inv Nat.lt_wfRel.wf (EInv P X J Post) (Good P Post) end_step _ _ _ ⟨gs, a, w, sl, q, h1, h2, h3, k a w h4, h5, h6, rfl⟩
/-- .. from whence it leads there. -/
theorem Leads.ends (h : Leads P m t (Mach P X J S)) (k : ∀ a w, S a w → AtDone P X Post a w) :
    ∃ N last o w' t', runNT P (N + 1) m t = (.ended o w', t') ∧ runN P N m = .next last ∧ step P last = .ended o w' ∧ Good P Post last o w' t' := by
  obtain ⟨N, m1, t1, h1, h2⟩ := h
  obtain ⟨M, last, o, w', t', e1, e2, e3, e4⟩ := h2.ends k
  have hn : runN P N m = .next m1 := by rw [← runNT_fst _ _ _ t, h1]
  exact ⟨N + M, last, o, w', t', by rw [Nat.add_assoc, runNT_on N (M + 1) _ _ _ _ h1]; exact e1, by rw [runN_add, hn]; exact e2, e3, e4⟩
/-- Alone, at the beginning. -/
theorem mach_one (g : Goroutine) (W : World) (hS : S g W) : Mach P X 0 S (solo g W) #[] := by
  refine ⟨#[g], g, W, none, fun _ => 0, rfl, rfl, rfl, hS, leavers_one P g, ⟨⟨?_, fun k h1 h2 => by omega, fun k h1 h2 => by omega, ?_, ?_, fun said => ?_, ?_⟩, ?_, rfl, by simp⟩⟩
  · intro i op x hi; simp at hi
  · intro l _ _ i a ha; simp [touchAt, Trace.act?] at ha
  · intro l _ _ i a ha; simp [touchAt, Trace.act?] at ha
  · rintro ⟨i, j, _, ⟨a, b, ha, _⟩, _⟩
    simp [Trace.act?] at ha
  · intro i op hi; simp at hi
  · intro i g hg; simp [Trace.g?] at hg
end
end Go.Proofs.Ytoipkpndfgcmcaa.Crew
