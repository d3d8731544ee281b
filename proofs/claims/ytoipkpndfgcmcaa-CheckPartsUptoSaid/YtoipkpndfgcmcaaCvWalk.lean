/-
  Goroutine 0's own way beside others that only leave, on whatever tape: what stands of the trace. The conditions stand in each theorem. No program in sight.
-/
import Derived.Test.YtoipkpndfgcmcaaCvRuns
import Derived.Conc.CrowdTrace
import Derived.Conc.CrowdCom2
namespace Go.Proofs.Ytoipkpndfgcmcaa.Veils
open Go Go.Conc
open Go.ConcN (CT Ok0 OkW Apart sumTo upd sumTo_upd upd_ne upd_same Deaf_still)
set_option linter.unusedVariables false

def no2 : Nat → Loc → Prop := fun _ _ => False
/-- The cells of the hidden blocks. -/
def ShX (X : Nat → Prop) : Loc → Prop := fun l => ∃ a, l = .cell a ∧ X a.block
/-- What it touches lies below B. -/
def LowT (B : Nat) (act : MemAct) : Prop := ∀ x, act.touch? = some x → x.loc.low B
theorem LowT.mono {B B' : Nat} {act : MemAct} (h : LowT B act) (hB : B ≤ B') : LowT B' act := fun x hx => Loc.low_mono hB (h x hx)
theorem LowT.none {B : Nat} {act : MemAct} (h : act.touch? = none) : LowT B act := fun x hx => by rw [h] at hx; cases hx
theorem LowT.of {B : Nat} {act : MemAct} (h : act.low B) : LowT B act := fun x hx => by
  cases act with
  | access e => simp only [MemAct.touch?, Option.some.injEq] at hx; subst hx; exact h
  | mark m =>
    cases m with
    | read p => injection hx with hx; subst hx; exact h
    | write p => injection hx with hx; subst hx; exact h
    | _ => cases hx
  | _ => cases hx
/-- What is held of the trace between two calls that go: J others have been started. -/
structure Past2 (X : Nat → Prop) (B J : Nat) (t : Trace) : Prop where
  ct : CT (ShX X) no2 no2 t J
  over : t.HandedOver
  hears : Deaf t 0 = 0
  seen : ∀ op ∈ t, LowT B op.act
theorem apart_no (Sh : Loc → Prop) : Apart Sh no2 no2 := ⟨fun _ _ _ h => h.elim, fun _ _ _ h => h.elim, fun _ _ h => h.elim, fun _ _ h => h.elim⟩
theorem fine_touch {X : Nat → Prop} {n : Nat} {e : Event} (h : FineE X n e) : (∀ x, (MemAct.ofEvent e).touch? = some x → ¬ ShX X x.loc) ∧ (MemAct.ofEvent e).low n ∧ e.loc ≠ .mark .disable ∧ e.loc ≠ .mark .enable := by
  obtain ⟨loc, wr, sy⟩ := e
  rcases h with ⟨a, h1, h2, h3, h4⟩ | ⟨r, h1, h2, h3, h4⟩ | h
  · simp only at h1 h4
    subst h1 h4
    refine ⟨fun x hx => ?_, by cases wr <;> exact h3, by simp, by simp⟩
    have : x.loc = .cell a := by cases wr <;> (simp [MemAct.ofEvent, MemAct.touch?] at hx; subst hx; rfl)
    rintro ⟨b, hb, hX⟩
    rw [this] at hb
    cases hb
    exact h2 hX
  · simp only at h1 h4
    subst h1 h4
    refine ⟨fun x hx => ?_, by cases sy <;> exact h3, by simp, by simp⟩
    have : x.loc = .obj r := by cases sy <;> (simp [MemAct.ofEvent, MemAct.touch?] at hx; subst hx; rfl)
    rintro ⟨b, hb, hX⟩
    rw [this] at hb
    cases hb
  · simp only at h
    subst h
    refine ⟨fun x hx => ?_, ?_, by simp, by simp⟩
    · simp [MemAct.ofEvent, MemAct.touch?] at hx
    · simp [MemAct.ofEvent, MemAct.low]
section
variable {P : Program} {X : Nat → Prop} {B J : Nat} {t : Trace}
theorem Past2.more {B' : Nat} (h : Past2 X B J t) (hB : B ≤ B') : Past2 X B' J t := ⟨h.ct, h.over, h.hears, fun op hop => (h.seen op hop).mono hB⟩
/-- Goroutine 0's own step. -/
theorem Past2.own (h : Past2 X B J t) {B' : Nat} (hB : B ≤ B') {fn : FuncId} {pos : String} {es : Array Event} (hes : ∀ e ∈ es, FineE X B' e) : Past2 X B' J (t ++ MemOp.ofEvents 0 fn pos es) := by
  refine ⟨h.ct.app0 (apart_no _) (fun op hop => ?_), handedOver_app h.over (fun op hop => ?_), ?_, fun op hop => ?_⟩
  · obtain ⟨e, he, rfl⟩ := Go.Conc.mem_ofEvents hop
    exact ⟨rfl, fun x hx => .inr ⟨(fine_touch (hes e he)).1 x hx, fun _ _ _ h => h, fun _ _ _ _ h => h⟩⟩
  · obtain ⟨e, he, rfl⟩ := Go.Conc.mem_ofEvents hop
    exact .inl rfl
  · rw [Deaf_own, h.hears]
    exact deafBehind_still (fun e he => ⟨(fine_touch (hes e he)).2.2.1, (fine_touch (hes e he)).2.2.2⟩) _
  · rcases Array.mem_append.1 hop with h1 | h1
    · exact (h.seen op h1).mono hB
    · obtain ⟨e, he, rfl⟩ := Go.Conc.mem_ofEvents h1
      exact LowT.of (fine_touch (hes e he)).2.1
/-- A leaver's step. -/
theorem Past2.mute (h : Past2 X B J t) {g : Nat} (h1 : 1 ≤ g) (hJ : g ≤ J) {fn : FuncId} {pos : String} {es : Array Event} (hm : ∀ e ∈ es, e.mute = true) : Past2 X B J (t ++ MemOp.ofEvents g fn pos es) := by
  refine ⟨h.ct.appW (apart_no _) h1 hJ (fun op hop => ?_), handedOver_app h.over (fun op hop => ?_), ?_, fun op hop => ?_⟩
  · obtain ⟨e, he, rfl⟩ := Go.Conc.mem_ofEvents hop
    refine ⟨rfl, fun x hx => ?_⟩
    rw [touch_mute (hm e he)] at hx
    cases hx
  · obtain ⟨e, he, rfl⟩ := Go.Conc.mem_ofEvents hop
    exact .inr (touch_mute (hm e he))
  · rw [Deaf_other t (g := 0) (g' := g) (by omega) _ (fun op hop => by obtain ⟨e, _, rfl⟩ := Go.Conc.mem_ofEvents hop; rfl)]
    exact h.hears
  · rcases Array.mem_append.1 hop with h2 | h2
    · exact h.seen op h2
    · obtain ⟨e, he, rfl⟩ := Go.Conc.mem_ofEvents h2
      exact LowT.none (touch_mute (hm e he))
def DF (X : Nat → Prop) (w w' : World) (es : Array Event) : Prop := w.heap.size ≤ w'.heap.size ∧ ∀ e ∈ es, FineE X w'.heap.size e
/-- All but goroutine 0 only leave, under one's own step. -/
theorem Leavers.own0 {gs : Array Goroutine} {q : Nat → Nat} (hL : Leavers P t gs q) (hz : 0 < gs.size) (f : Goroutine → Goroutine) (hf : ∀ i n d g, 0 < i → gs[i]? = some g → QuitsD P n d g → f g = g) (a' : Goroutine) {fn : FuncId} {pos : String} {es : Array Event} : Leavers P (t ++ MemOp.ofEvents 0 fn pos es) ((gs.map f).setIfInBounds 0 a') q := by
  refine ⟨fun j x hj hx => ?_, fun j hj => ?_⟩
  · rw [Array.getElem?_setIfInBounds_ne (by omega), Array.getElem?_map] at hx
    obtain ⟨y, hy, rfl⟩ := Option.map_eq_some_iff.1 hx
    have hq := hL.old j y hj hy
    rw [hf j _ _ y hj hy hq, Deaf_other t (g := j) (g' := 0) (by omega) _ (fun op hop => by obtain ⟨e, _, rfl⟩ := Go.Conc.mem_ofEvents hop; rfl)]
    exact hq
  · rw [Deaf_other t (g := j) (g' := 0) (by have : gs.size ≤ j := (by simpa using hj); omega) _ (fun op hop => by obtain ⟨e, _, rfl⟩ := Go.Conc.mem_ofEvents hop; rfl)]
    exact hL.above j (by simpa using hj)
theorem all_awake0 {gs : Array Goroutine} {q : Nat → Nat} {a : Goroutine} (h0 : gs[0]? = some a) (hr : a.status = .running) (hL : Leavers P t gs q) : ∀ g ∈ gs, awake g := by
  intro g hg
  obtain ⟨i, hi, rfl⟩ := Array.mem_iff_getElem.1 hg
  rcases Nat.eq_zero_or_pos i with rfl | hp
  · have : gs[0] = a := by simpa [Array.getElem?_eq_getElem hi] using h0
    rw [this]
    exact awake_of (.inl hr)
  · exact awake_of ((hL.old i _ hp (Array.getElem?_eq_getElem hi)).status.elim .inl fun x => .inr (.inr x))
theorem runs_beside {Stop : Goroutine → World → Prop} {a : Goroutine} {w : World} (h : Runs P (DF X) Stop a w) :
    ∀ (gs : Array Goroutine) (sl : Option (Nat × Nat)) (t : Trace) (q : Nat → Nat) (d0 : Nat), gs.size = J + 1 → gs[0]? = some a → Leavers P t gs q → Past2 X w.heap.size J t →
      ∃ (N : Nat) (gs' : Array Goroutine) (a' : Goroutine) (w' : World) (sl' : Option (Nat × Nat)) (t' : Trace) (q' : Nat → Nat),
        runNT P N (crowd gs (w.at d0) sl) t = (.next (crowd gs' w' sl'), t') ∧ gs'.size = J + 1 ∧ gs'[0]? = some a' ∧ Stop a' w' ∧ Leavers P t' gs' q' ∧ Past2 X w'.heap.size J t' := by
  induction h with
  | stop hs =>
    rename_i g w
    intro gs sl t q d0 hz h0 hL hP
    exact ⟨0, gs, g, w.at d0, sl, t, q, rfl, hz, h0, hs d0, hL, hP⟩
  | step gf wf ef hrun hst hD hR ih =>
    rename_i g w
    have key : ∀ (M : Nat) (gs : Array Goroutine) (sl : Option (Nat × Nat)) (t : Trace) (q : Nat → Nat) (d0 : Nat), sumTo gs.size q = M → gs.size = J + 1 → gs[0]? = some g → Leavers P t gs q → Past2 X w.heap.size J t →
        ∃ (N : Nat) (gs' : Array Goroutine) (a' : Goroutine) (w' : World) (sl' : Option (Nat × Nat)) (t' : Trace) (q' : Nat → Nat),
          runNT P N (crowd gs (w.at d0) sl) t = (.next (crowd gs' w' sl'), t') ∧ gs'.size = J + 1 ∧ gs'[0]? = some a' ∧ Stop a' w' ∧ Leavers P t' gs' q' ∧ Past2 X w'.heap.size J t' := by
      intro M
      induction M using Nat.strongRecOn with
      | ind M ihM =>
        intro gs sl t q d0 hM hz h0 hL hP
        obtain ⟨i, g', d, sl', hi, hg, hpick⟩ := crowd_pick (P := P) (w := w.at d0) (sl := sl) (all_awake0 h0 hrun hL) ⟨0, g, h0, hrun⟩
        have hdd : (w.at d0).at d = w.at d := rfl
        rw [hdd] at hpick
        rcases Nat.eq_zero_or_pos i with rfl | hpos
        · obtain rfl : g' = g := by rw [h0] at hi; exact (Option.some.inj hi).symm
          have hrunT := runT_crowd_go (P := P) (sl := sl') (i := 0) hi (show stepG P (0 == 0) g' (w.at d) = _ from hst d)
          have hL' := Leavers.own0 hL (by omega) (woken P g' (gf d) (wf d)) (fun i n d g _ _ hq => woken_quitsD hq) (gf d) (fn := g'.frame.fn) (pos := g'.frame.place) (es := ef d)
          have hP' : Past2 X (wf d).heap.size J (t ++ MemOp.ofEvents 0 g'.frame.fn g'.frame.place (ef d)) := hP.own (hD d).1 (hD d).2
          obtain ⟨N, gs', a', w', sl'', t', q', h1, h2, h3, h4, h5, h6⟩ := ih d ((gs.map (woken P g' (gf d) (wf d))).setIfInBounds 0 (gf d)) sl' _ q (wf d).drawn (by simp [hz]) (by simp [hz]) hL' hP'
          refine ⟨N + 1, gs', a', w', sl'', t', q', ?_, h2, h3, h4, h5, h6⟩
          simp only [runNT, hpick, hrunT]
          exact h1
        · have hq := hL.old i g' hpos hi
          have hi0 : (i == 0) = false := by simp; omega
          have hlt : i < gs.size := (Array.getElem?_eq_some_iff.1 hi).1
          cases hqi : q i with
          | zero =>
            rw [hqi] at hq
            have : g'.status = .finished := hq.1
            rw [this] at hg
            cases hg
          | succ k =>
            rw [hqi] at hq
            rcases hq with ⟨hf, _⟩ | ⟨_, g2, es, hm, hstp, hq'⟩
            · rw [hf] at hg; cases hg
            have hrunT := runT_crowd_go (P := P) (sl := sl') (i := i) hi (by rw [hi0]; exact hstp (w.at d))
            have hsum := sumTo_upd q k id hlt
            have hsum : sumTo gs.size (upd q i k) + (k + 1) = sumTo gs.size q + k := by simpa [hqi] using hsum
            have hother : ∀ j, j ≠ i → Deaf (t ++ MemOp.ofEvents i g'.frame.fn g'.frame.place es) j = Deaf t j := fun j hj => Deaf_other t (g := j) (g' := i) (fun e => hj e.symm) _ (fun op hop => by obtain ⟨e, _, rfl⟩ := Go.Conc.mem_ofEvents hop; rfl)
            have hL' : Leavers P (t ++ MemOp.ofEvents i g'.frame.fn g'.frame.place es) ((gs.map (woken P g' g2 (w.at d))).setIfInBounds i g2) (upd q i k) := by
              refine ⟨fun j x hj hx => ?_, fun j hj => ?_⟩
              · by_cases hji : i = j
                · subst hji
                  rw [Array.getElem?_setIfInBounds_self_of_lt (by simpa using hlt)] at hx
                  obtain rfl := Option.some.inj hx
                  rw [upd_same, Deaf_own]
                  exact hq'
                · rw [Array.getElem?_setIfInBounds_ne hji, Array.getElem?_map] at hx
                  obtain ⟨y, hy, rfl⟩ := Option.map_eq_some_iff.1 hx
                  have hqj := hL.old j y hj hy
                  rw [woken_quitsD hqj, upd_ne q k (Ne.symm hji), hother j (Ne.symm hji)]
                  exact hqj
              · have : gs.size ≤ j := by simpa using hj
                rw [hother j (by omega)]
                exact hL.above j this
            have h0' : ((gs.map (woken P g' g2 (w.at d))).setIfInBounds i g2)[0]? = some g := by
              rw [Array.getElem?_setIfInBounds_ne (by omega), Array.getElem?_map, h0]
              simp [woken_run hrun]
            obtain ⟨N, gs', a', w', sl'', t', q', h1, h2, h3, h4, h5, h6⟩ := ihM (sumTo gs.size (upd q i k)) (by omega) ((gs.map (woken P g' g2 (w.at d))).setIfInBounds i g2) sl' _ (upd q i k) d (by simp) (by simp [hz]) h0' hL' (hP.mute (by omega) (by omega) hm)
            refine ⟨N + 1, gs', a', w', sl'', t', q', ?_, h2, h3, h4, h5, h6⟩
            simp only [runNT, hpick, hrunT]
            exact h1
    intro gs sl t q d0 hz h0 hL hP
    exact key _ gs sl t q d0 rfl hz h0 hL hP
end
end Go.Proofs.Ytoipkpndfgcmcaa.Veils
