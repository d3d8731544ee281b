/-
  n workers at once and their starter beside older ones that only leave: what stands of the machine and of the trace whoever stands where, and how each kind of step keeps it. The conditions stand in each theorem. No program in sight.
-/
import Derived.Conc.Beside
import Derived.Conc.CrowdTrace
import Derived.Conc.CrowdCom2
import Derived.Conc.CrowdStepC2
import Derived.Conc.CrowdRun
import Derived.Test.YtoipkpndfgcmcaaCheckOwnM02

/-
  Every step of a calm goroutine: loops over functions, rounds, returns. The condition stands in each theorem. No program in sight.
-/
namespace Go.Proofs.Ytoipkpndfgcmcaa.Veils
open Go Go.Conc
set_option linter.unusedVariables false
section
variable {P : Program} {F : FuncId → Bool} {X : Nat → Prop} {B : Nat} {K : Nat → Nat} {k kl : List Item}
/-- A frame is left with a value. -/
theorem step_pop {s : Sem Value} (hK : Kin P X s) {fr : Frame} {pl : List Frame} {F0 : Frame} {v : World} (hnv : NoView v) (hok : OkSt P F B K fr pl)
    (hgo : ∀ kk cs w x w', (kk = kl ∨ pl ≠ []) → s.run P w = .ok x w' → stepG P true (cfg kk fr pl cs) w = GStep.after (seen P fr.fn (s.events P w #[])) (doReturn P true (plus fr (tip kk pl)) (ext kk pl ++ cs) none x w'))
    (hend : ∀ kk cs w x w', (kk = kl ∨ pl ≠ []) → s.run P w = .halt x w' → ∃ oc es, stepG P true (cfg kk fr pl cs) w = .ended oc w' es)
    (hx : ∀ x v', s.run P v = .ok x v' → fr.fn = back0 → fr.roundOf = none → OkV B 1 x) :
    StepS P F B K X kl k fr pl F0 v (stepG P true (cfg kl fr pl [F0]) v) := by
  have hkind : ∀ x, (plus fr x).kind = .normal := fun x => hok.calm.kind
  cases hr : s.run P v with
  | halt x v' =>
    obtain ⟨oc, es, h⟩ := hend kl [F0] v x v' (.inl rfl) hr
    exact StepS.bad h
  | ok x v' =>
    cases pl with
    | nil =>
      have h := hgo kl [F0] v x v' (.inl rfl) hr
      refine .inr (.inl ⟨rfl, x, v', seen P fr.fn (s.events P v #[]), ?_⟩)
      rw [h]
      simp [doReturn, GStep.after, ext, G, hkind]
    | cons c pl' =>
      have hne : c :: pl' ≠ [] := by simp
      have hcn := (hok.waits c List.mem_cons_self).2.2
      refine sem_step (fr' := c.finish x) (pl' := pl') hK hnv (fun cs w hw => ?_) hr (fun kk cs w w' _ h => ⟨seen P fr.fn (s.events P w #[]), ?_, fun e he => seen_sub _ _ e he⟩) (hok.wake (hx x v' hr))
      · cases hq : s.run P w with
        | ok y w' =>
          rw [hgo k cs w y w' (.inr hne) hq]
          simp [doReturn, GStep.after, ext, hkind, gaft, aft]
        | halt y w' =>
          obtain ⟨oc, es, h⟩ := hend k cs w y w' (.inr hne) hq
          rw [h]
          rfl
      · rw [hgo kk cs w x w' (.inr hne) h]
        simp [doReturn, GStep.after, ext, hkind, cfg, G, finish_plus hcn]
/-- The beginning of a round. -/
theorem step_begin {fn : FuncId} {tmps : Array Value} {kk : List Item} {defers : List Deferred} {round : Option Nat} (pl : List Frame) (F0 : Frame) (v : World)
    (hok : OkSt P F B K ⟨fn, tmps, .beginRound :: kk, defers, .run, .normal, round⟩ pl) (hnv : NoView v) :
    StepS P F B K X kl k ⟨fn, tmps, .beginRound :: kk, defers, .run, .normal, round⟩ pl F0 v (stepG P true (cfg kl ⟨fn, tmps, .beginRound :: kk, defers, .run, .normal, round⟩ pl [F0]) v) := by
  obtain ⟨fr, hfr⟩ : ∃ fr : Frame, (⟨fn, tmps, .beginRound :: kk, defers, .run, .normal, round⟩ : Frame) = fr := ⟨_, rfl⟩
  rw [hfr] at hok ⊢
  obtain ⟨s, hs⟩ : ∃ s : Sem Next, (do round.elim (stuck "beginRound: no round") Instr.beginRound; pure .skip : Sem Next) = s := ⟨_, rfl⟩
  have hCalm : Calm P X F B s := by
    rw [← hs]
    cases round with
    | none => exact Calm.u (Kin.stuck _)
    | some l => exact Calm.u (Kin.beginRound l)
  have honly : ∀ w n w', s.run P w = .ok n w' → n = .skip := fun w n w' h => by
    rw [← hs] at h
    have h : ((round.elim (stuck "beginRound: no round") Instr.beginRound) >>= fun _ => (Pure.pure Next.skip : Sem Next)).run P w = .ok n w' := h
    rw [Sem.run_bind] at h
    cases hq : (round.elim (stuck "beginRound: no round") Instr.beginRound : Sem Unit).run P w with
    | halt x w1 => rw [hq] at h; cases h
    | ok u w1 => rw [hq] at h; cases h; rfl
  have hst : ∀ x cs w, stepG P true (G (plus fr x) cs) w = stepG.apply P true (plus fr x) cs none s w := by
    intro x cs w
    subst hfr hs
    simp [plus, G, stepG, stepG.exec]
  have hk : ∀ x, ((plus fr x).kind == CallKind.early) = false := by intro x; rw [← hfr]; rfl
  have hne : fr.todo ≠ [] := by rw [← hfr]; simp
  have hfn : ∀ x, (plus fr x).fn = fr.fn := fun x => rfl
  have hmode : fr.mode = .run := by rw [← hfr]
  have hno : fr.oper? = none := by rw [← hfr]; rfl
  have hskip : ∀ y cs w w', s.run P w = .ok .skip w' → stepG P true (G (plus fr y) cs) w = .go (G (plus (fr.finish undef) y) cs) w' (seen P fr.fn (s.events P w #[])) := by
    intro y cs w w' hr
    rw [hst, ← finish_plus hne]
    simp [stepG.apply, hr, G, hk, GStep.after, hfn]
  have hpan : ∀ y cs w x w', s.run P w = .halt (.panic x) w' → stepG P true (G (plus fr y) cs) w = .go (G ((plus fr y).raise [{ v := x, recovered := false }]) cs) w' (seen P fr.fn (s.events P w #[])) := by
    intro y cs w x w' hr
    rw [hst]
    simp [stepG.apply, hr, G, hk, GStep.after, hfn]
  have hend : ∀ y cs w x w', s.run P w = .halt x w' → OkHalt x → (∀ y, x ≠ .panic y) → ∃ oc es, stepG P true (G (plus fr y) cs) w = .ended oc w' es := by
    intro y cs w x w' hr hx hy
    rw [hst]
    cases x with
    | stuck s => exact ⟨.stuck s ((plus fr y).pos P), _, by simp [stepG.apply, hr, hk, GStep.after]; rfl⟩
    | unsupported u =>
      refine ⟨.unsupported u ((plus fr y).pos P), seen P fr.fn (s.events P w #[]), ?_⟩
      cases u <;> first | exact absurd rfl (hx _) | simp [stepG.apply, hr, hk, GStep.after, hfn]
    | panic y => exact absurd rfl (hy y)
    | _ => exact hx.elim
  have haft : ∀ cs w, NoView w → gaft (stepG P true (cfg k fr pl cs) w) = aft (s.run P w) := by
    intro cs w hw
    unfold cfg
    cases hr : s.run P w with
    | ok n w' =>
      have := honly w n w' hr
      subst this
      rw [hskip _ _ w w' hr]; rfl
    | halt x w' =>
      have hx := hCalm.kin.hal w hw x w' hr
      by_cases hp : ∃ y, x = .panic y
      · obtain ⟨z, rfl⟩ := hp
        rw [hpan _ _ w z w' hr]; rfl
      · obtain ⟨oc, es, he⟩ := hend _ _ w x w' hr hx (fun y e => hp ⟨y, e⟩)
        rw [he]; rfl
  cases hr : s.run P v with
  | ok n v' =>
    have := honly v n v' hr
    subst this
    obtain ⟨e1, e2, e3, e4⟩ := finish_rest (P := P) (F := F) fr undef hok.calm.todo
    exact sem_step hCalm.kin hnv haft hr (fun kk cs w w' _ h => ⟨_, hskip _ _ w w' h, fun e he => seen_sub _ _ e he⟩)
      ⟨hok.calm.finish undef fun o d h1 _ => (by rw [hno] at h1; cases h1), .inl (e3.trans hmode), hok.waits, Linked.of e1 e2 hok.link⟩
  | halt x v' =>
    have hx := hCalm.kin.hal v hnv x v' hr
    by_cases hp : ∃ y, x = .panic y
    · obtain ⟨y, rfl⟩ := hp
      have hra : (plus fr (tip kl pl)).raise [{ v := y, recovered := false }] = { plus fr (tip kl pl) with mode := .panicking [{ v := y, recovered := false }] } := by rw [← hfr]; rfl
      have := hpan (tip kl pl) (ext kl pl ++ [F0]) v y v' hr
      rw [hra] at this
      have hmm := hCalm.kin.mono v hnv
      rw [hr] at hmm
      exact .inr (.inr (.inl ⟨plus fr (tip kl pl), [{ v := y, recovered := false }], v', _, this, hmm.2, hok.calm.fn, hok.calm.defers⟩))
    · obtain ⟨oc, es, he⟩ := hend (tip kl pl) (ext kl pl ++ [F0]) v x v' hr hx (fun y e => hp ⟨y, e⟩)
      exact StepS.bad he
theorem codeCalm_pend {D : Nat → Nat} {c : Code} (h : PendOk (some c)) : codeCalm P F D c = true := by
  rcases h with h | h | ⟨id, h⟩
  · cases h
  · cases h; simp [codeCalm]
  · cases h; simp [codeCalm]
/-- The end of a loop over a function. -/
theorem step_endRange {fn : FuncId} {tmps : Array Value} {l : Nat} {kk : List Item} {defers : List Deferred} {round : Option Nat} (pl : List Frame) (F0 : Frame) (v : World)
    (hok : OkSt P F B K ⟨fn, tmps, .endRangeFunc l :: kk, defers, .run, .normal, round⟩ pl) (hnv : NoView v) :
    StepS P F B K X kl k ⟨fn, tmps, .endRangeFunc l :: kk, defers, .run, .normal, round⟩ pl F0 v (stepG P true (cfg kl ⟨fn, tmps, .endRangeFunc l :: kk, defers, .run, .normal, round⟩ pl [F0]) v) := by
  have hgo : ∀ y cs w j w', (Instr.endLoop l).run P w = .ok j w' → stepG P true (G (plus ⟨fn, tmps, .endRangeFunc l :: kk, defers, .run, .normal, round⟩ y) cs) w = .go (G (plus ⟨fn, tmps, (j.map Item.code).toList ++ kk, defers, .run, .normal, round⟩ y) cs) w' (seen P fn ((Instr.endLoop l).events P w #[])) := by
    intro y cs w j w' hr
    simp [plus, G, stepG, stepG.exec, hr, GStep.after]
  have hpan : ∀ y cs w x w', (Instr.endLoop l).run P w = .halt (.panic x) w' → stepG P true (G (plus ⟨fn, tmps, .endRangeFunc l :: kk, defers, .run, .normal, round⟩ y) cs) w = .go (G { plus ⟨fn, tmps, .endRangeFunc l :: kk, defers, .run, .normal, round⟩ y with mode := .panicking [{ v := x, recovered := false }] } cs) w' (seen P fn ((Instr.endLoop l).events P w #[])) := by
    intro y cs w x w' hr
    simp [plus, G, stepG, stepG.exec, hr, GStep.after, Frame.raise]
  have hend : ∀ y cs w x w', (Instr.endLoop l).run P w = .halt x w' → (∀ y, x ≠ .panic y) → ∃ oc es, stepG P true (G (plus ⟨fn, tmps, .endRangeFunc l :: kk, defers, .run, .normal, round⟩ y) cs) w = .ended oc w' es := by
    intro y cs w x w' hr hy
    refine ⟨.stuck "range over a function: no such loop" ((plus ⟨fn, tmps, .endRangeFunc l :: kk, defers, .run, .normal, round⟩ y).pos P), seen P fn ((Instr.endLoop l).events P w #[]), ?_⟩
    cases x <;> first | exact absurd rfl (hy _) | (simp [plus, G, stepG, stepG.exec, hr, GStep.after]; done)
  have hK : Kin P X (Instr.endLoop l) := Kin.endLoop l
  have haft : ∀ cs w, NoView w → gaft (stepG P true (cfg k ⟨fn, tmps, .endRangeFunc l :: kk, defers, .run, .normal, round⟩ pl cs) w) = aft ((Instr.endLoop l).run P w) := by
    intro cs w hw
    unfold cfg
    cases hr : (Instr.endLoop l).run P w with
    | ok j w' => rw [hgo _ _ w j w' hr]; rfl
    | halt x w' =>
      by_cases hp : ∃ y, x = .panic y
      · obtain ⟨z, rfl⟩ := hp
        rw [hpan _ _ w z w' hr]; rfl
      · obtain ⟨oc, es, he⟩ := hend _ _ w x w' hr (fun y e => hp ⟨y, e⟩)
        rw [he]; rfl
  cases hr : (Instr.endLoop l).run P v with
  | ok j v' =>
    have hj := endLoop_val hnv hr
    obtain ⟨h1, h2, h3, h4, h5⟩ := hok.calm
    refine sem_step (fr' := ⟨fn, tmps, (j.map Item.code).toList ++ kk, defers, .run, .normal, round⟩) hK hnv haft hr (fun kk cs w w' _ h => ⟨_, hgo _ _ w j w' h, fun e he => seen_sub _ _ e he⟩) ⟨⟨h1, fun it hit => ?_, h3, h4, h5⟩, .inl rfl, hok.waits, hok.link.to rfl rfl⟩
    rcases List.mem_append.1 hit with hit | hit
    · cases j with
      | none => cases hit
      | some c =>
        have : it = .code c := by simpa using hit
        rw [this]
        exact codeCalm_pend hj
    · exact h2 it (List.mem_cons_of_mem _ hit)
  | halt x v' =>
    by_cases hp : ∃ y, x = .panic y
    · obtain ⟨y, rfl⟩ := hp
      have hmm := hK.mono v hnv
      rw [hr] at hmm
      exact .inr (.inr (.inl ⟨plus ⟨fn, tmps, .endRangeFunc l :: kk, defers, .run, .normal, round⟩ (tip kl pl), [{ v := y, recovered := false }], v', _, hpan _ _ v y v' hr, hmm.2, hok.calm.fn, hok.calm.defers⟩))
    · obtain ⟨oc, es, he⟩ := hend (tip kl pl) (ext kl pl ++ [F0]) v x v' hr (fun y e => hp ⟨y, e⟩)
      exact StepS.bad he
/-- A mark among the deferred calls. -/
theorem step_mark {fn : FuncId} {tmps : Array Value} {todo : List Item} {d : Deferred} {ds : List Deferred} {round : Option Nat} (pl : List Frame) (F0 : Frame) (v : World)
    (hok : OkSt P F B K ⟨fn, tmps, todo, d :: ds, .returning, .normal, round⟩ pl) (hnv : NoView v) :
    StepS P F B K X kl k ⟨fn, tmps, todo, d :: ds, .returning, .normal, round⟩ pl F0 v (stepG P true (cfg kl ⟨fn, tmps, todo, d :: ds, .returning, .normal, round⟩ pl [F0]) v) := by
  obtain ⟨r, hr0⟩ := hok.calm.defers d List.mem_cons_self
  obtain ⟨tg, ar⟩ := d
  have hr0 : tg = .collected r := hr0
  subst hr0
  have hgo : ∀ y cs w a w', (Instr.takeDeferred r).run P w = .ok a w' → stepG P true (G (plus ⟨fn, tmps, todo, ⟨.collected r, ar⟩ :: ds, .returning, .normal, round⟩ y) cs) w = .go (G (plus ⟨fn, tmps, todo, a ++ ds, .returning, .normal, round⟩ y) cs) w' (seen P fn ((Instr.takeDeferred r).events P w #[])) := by
    intro y cs w a w' hr
    simp [plus, G, stepG, unwind, hr, GStep.after]
  have hend : ∀ y cs w x w', (Instr.takeDeferred r).run P w = .halt x w' → ∃ oc es, stepG P true (G (plus ⟨fn, tmps, todo, ⟨.collected r, ar⟩ :: ds, .returning, .normal, round⟩ y) cs) w = .ended oc w' es := by
    intro y cs w x w' hr
    exact ⟨.stuck "the deferred calls of a range-over-func loop have been taken" ((plus ⟨fn, tmps, todo, ⟨.collected r, ar⟩ :: ds, .returning, .normal, round⟩ y).pos P), seen P fn ((Instr.takeDeferred r).events P w #[]), by simp [plus, G, stepG, unwind, hr, GStep.after]⟩
  have hK : Kin P X (Instr.takeDeferred r) := Kin.takeDeferred r
  have haft : ∀ cs w, NoView w → gaft (stepG P true (cfg k ⟨fn, tmps, todo, ⟨.collected r, ar⟩ :: ds, .returning, .normal, round⟩ pl cs) w) = aft ((Instr.takeDeferred r).run P w) := by
    intro cs w hw
    unfold cfg
    cases hr : (Instr.takeDeferred r).run P w with
    | ok a w' => rw [hgo _ _ w a w' hr]; rfl
    | halt x w' =>
      obtain ⟨oc, es, he⟩ := hend (tip k pl) (ext k pl ++ cs) w x w' hr
      rw [he]; rfl
  cases hr : (Instr.takeDeferred r).run P v with
  | ok a v' =>
    have ha := take_val hnv hr
    subst ha
    obtain ⟨h1, h2, h3, h4, h5⟩ := hok.calm
    exact sem_step (fr' := ⟨fn, tmps, todo, [] ++ ds, .returning, .normal, round⟩) hK hnv haft hr (fun kk cs w w' _ h => ⟨_, hgo _ _ w [] w' h, fun e he => seen_sub _ _ e he⟩) ⟨⟨h1, h2, fun d hd => h3 d (List.mem_cons_of_mem _ hd), h4, h5⟩, .inr rfl, hok.waits, hok.link.to rfl rfl⟩
  | halt x v' =>
    obtain ⟨oc, es, he⟩ := hend (tip kl pl) (ext kl pl ++ [F0]) v x v' hr
    exact StepS.bad he
/-- The beginning of a loop over a function. -/
theorem step_range (hF : FnsCalm P F) (hXB : ∀ b, X b → b < B) {fn : FuncId} {tmps : Array Value} {t : Nat} {ps : Array Tmp} {a b : Code} {kk : List Item} {defers : List Deferred} (pl : List Frame) (F0 : Frame) (v : World)
    (hok : OkSt P F B K ⟨fn, tmps, .code (.rangeFunc (.tmp t) ps a b) :: kk, defers, .run, .normal, none⟩ pl) (hnv : NoView v) :
    StepS P F B K X kl k ⟨fn, tmps, .code (.rangeFunc (.tmp t) ps a b) :: kk, defers, .run, .normal, none⟩ pl F0 v (stepG P true (cfg kl ⟨fn, tmps, .code (.rangeFunc (.tmp t) ps a b) :: kk, defers, .run, .normal, none⟩ pl [F0]) v) := by
  have hcd : codeCalm P F (slotK fn) (.rangeFunc (.tmp t) ps a b) = true := hok.calm.todo _ List.mem_cons_self
  simp only [codeCalm, Bool.and_eq_true] at hcd
  obtain ⟨⟨⟨⟨g1, g2⟩, g3⟩, g4⟩, g5⟩ := hcd
  have g1 : slotK fn t = 1 := by simpa using g1
  obtain ⟨h1, h2, h3, h4, h5⟩ := hok.calm
  obtain ⟨ρ, hρ⟩ : ∃ ρ : Operand → Value, (⟨fn, tmps, .code (.rangeFunc (.tmp t) ps a b) :: kk, defers, .run, .normal, none⟩ : Frame).eval = ρ := ⟨_, rfl⟩
  have hc : ∀ v, ρ (.const v) = v := fun v => by rw [← hρ]; rfl
  have hv1 : OkV B 1 (ρ (.tmp t)) := by
    have := h5 t
    rw [show kinds ⟨fn, tmps, .code (.rangeFunc (.tmp t) ps a b) :: kk, defers, .run, .normal, none⟩ t = 1 from g1] at this
    rw [← hρ]
    exact this
  obtain ⟨s, hs⟩ : ∃ s : Sem ((Nat × List Deferred) × Next), (Instr.enterLoop fn tmps ps a b none >>= fun x => rangeCall ρ (.tmp t) x.1 >>= fun n => Pure.pure (x, n)) = s := ⟨_, rfl⟩
  have hCr : ∀ l, Calm P X F B (rangeCall ρ (.tmp t) l) := fun l => calm_range hc hv1 g2 g3
  have hK : Kin P X s := by
    rw [← hs]
    exact Kin.bind (Kin.enterLoop _ _ _ _ _ fun d => (hF.loop _).2 ⟨h1, g4, g5, .inl rfl⟩) fun x => Kin.bind (hCr x.1).kin fun n => Kin.pure _
  have hent : ∀ w : World, ∃ l r w1, (Instr.enterLoop fn tmps ps a b none).run P w = .ok (l, [{ target := .collected r, args := #[] }]) w1 := fun w => ⟨_, _, _, rfl⟩
  have hsrun : ∀ (w w1 : World) (x : Nat × List Deferred), (Instr.enterLoop fn tmps ps a b none).run P w = .ok x w1 → s.run P w = match (rangeCall ρ (.tmp t) x.1).run P w1 with
      | .ok n w2 => .ok (x, n) w2
      | .halt y w2 => .halt y w2 := by
    intro w w1 x hx
    rw [← hs, Sem.run_bind, hx]
    simp only [Result.andThen_ok]
    rw [Sem.run_bind]
    cases (rangeCall ρ (.tmp t) x.1).run P w1 <;> rfl
  have hsev : ∀ (w w1 : World) (x : Nat × List Deferred), (Instr.enterLoop fn tmps ps a b none).run P w = .ok x w1 → s.events P w #[] = (Instr.enterLoop fn tmps ps a b none).events P w #[] ++ (rangeCall ρ (.tmp t) x.1).events P w1 #[] := by
    intro w w1 x hx
    rw [← hs, Sem.events_bind, hx]
    show (rangeCall ρ (.tmp t) x.1 >>= fun n => (Pure.pure (x, n) : Sem ((Nat × List Deferred) × Next))).events P w1 _ = _
    rw [Sem.events_bind]
    rw [Sem.events_acc P (rangeCall ρ (.tmp t) x.1)]
    cases (rangeCall ρ (.tmp t) x.1).run P w1 <;> rfl
  have hst : ∀ (y : List Item) (cs : List Frame) (w w1 : World) (l r : Nat), (Instr.enterLoop fn tmps ps a b none).run P w = .ok (l, [{ target := .collected r, args := #[] }]) w1 →
      stepG P true (G (plus ⟨fn, tmps, .code (.rangeFunc (.tmp t) ps a b) :: kk, defers, .run, .normal, none⟩ y) cs) w = GStep.after (seen P fn ((Instr.enterLoop fn tmps ps a b none).events P w #[]))
        (stepG.apply P true (plus ⟨fn, tmps, .inRangeFunc l :: kk, { target := .collected r, args := #[] } :: defers, .run, .normal, none⟩ y) cs none (rangeCall ρ (.tmp t) l) w1) := by
    intro y cs w w1 l r hx
    rw [← hρ]
    simp [plus, G, stepG, stepG.exec, hx]
    rfl
  have hgo : ∀ y cs w w1 l r f args w', (Instr.enterLoop fn tmps ps a b none).run P w = .ok (l, [{ target := .collected r, args := #[] }]) w1 → (rangeCall ρ (.tmp t) l).run P w1 = .ok (.enter f args) w' →
      stepG P true (G (plus ⟨fn, tmps, .code (.rangeFunc (.tmp t) ps a b) :: kk, defers, .run, .normal, none⟩ y) cs) w = .go (G (Frame.enter P f args .normal) (plus ⟨fn, tmps, .inRangeFunc l :: kk, { target := .collected r, args := #[] } :: defers, .run, .normal, none⟩ y :: cs)) w'
        (seen P fn ((Instr.enterLoop fn tmps ps a b none).events P w #[]) ++ seen P fn ((rangeCall ρ (.tmp t) l).events P w1 #[])) := by
    intro y cs w w1 l r f args w' hx hr
    rw [hst y cs w w1 l r hx]
    simp [stepG.apply, hr, G, GStep.after, plus]
  have hpan : ∀ y cs w w1 l r x w', (Instr.enterLoop fn tmps ps a b none).run P w = .ok (l, [{ target := .collected r, args := #[] }]) w1 → (rangeCall ρ (.tmp t) l).run P w1 = .halt (.panic x) w' →
      stepG P true (G (plus ⟨fn, tmps, .code (.rangeFunc (.tmp t) ps a b) :: kk, defers, .run, .normal, none⟩ y) cs) w = .go (G { plus ⟨fn, tmps, .inRangeFunc l :: kk, { target := .collected r, args := #[] } :: defers, .run, .normal, none⟩ y with mode := .panicking [{ v := x, recovered := false }] } cs) w'
        (seen P fn ((Instr.enterLoop fn tmps ps a b none).events P w #[]) ++ seen P fn ((rangeCall ρ (.tmp t) l).events P w1 #[])) := by
    intro y cs w w1 l r x w' hx hr
    rw [hst y cs w w1 l r hx]
    simp [stepG.apply, hr, G, GStep.after, plus, Frame.raise]
  have hend : ∀ y cs w w1 l r x w', (Instr.enterLoop fn tmps ps a b none).run P w = .ok (l, [{ target := .collected r, args := #[] }]) w1 → (rangeCall ρ (.tmp t) l).run P w1 = .halt x w' → OkHalt x → (∀ y, x ≠ .panic y) →
      ∃ oc es, stepG P true (G (plus ⟨fn, tmps, .code (.rangeFunc (.tmp t) ps a b) :: kk, defers, .run, .normal, none⟩ y) cs) w = .ended oc w' es := by
    intro y cs w w1 l r x w' hx hr hh hy
    rw [hst y cs w w1 l r hx]
    cases x with
    | stuck s => exact ⟨.stuck s ((plus ⟨fn, tmps, .inRangeFunc l :: kk, { target := .collected r, args := #[] } :: defers, .run, .normal, none⟩ y).pos P), _, by simp [stepG.apply, hr, GStep.after, plus]; rfl⟩
    | unsupported u =>
      refine ⟨.unsupported u ((plus ⟨fn, tmps, .inRangeFunc l :: kk, { target := .collected r, args := #[] } :: defers, .run, .normal, none⟩ y).pos P), seen P fn ((Instr.enterLoop fn tmps ps a b none).events P w #[]) ++ seen P fn ((rangeCall ρ (.tmp t) l).events P w1 #[]), ?_⟩
      cases u <;> first | exact absurd rfl (hh _) | simp [stepG.apply, hr, GStep.after, plus]
    | panic y => exact absurd rfl (hy y)
    | _ => exact hh.elim
  have haft : ∀ cs w, NoView w → gaft (stepG P true (cfg k ⟨fn, tmps, .code (.rangeFunc (.tmp t) ps a b) :: kk, defers, .run, .normal, none⟩ pl cs) w) = aft (s.run P w) := by
    intro cs w hw
    unfold cfg
    obtain ⟨l, r, w1, hx⟩ := hent w
    have hnw1 : NoView w1 := by
      have := (Kin.enterLoop (P := P) (X := X) fn tmps ps a b fun d => (hF.loop _).2 ⟨h1, g4, g5, .inl rfl⟩).mono w hw
      rw [hx] at this
      exact this.2.1
    rw [hsrun w w1 _ hx]
    cases hr : (rangeCall ρ (.tmp t) l).run P w1 with
    | ok n w' =>
      obtain ⟨args, rfl⟩ := range_no hc hv1 g3 hr
      rw [hgo _ _ w w1 l r _ args w' hx hr]
      rfl
    | halt x w' =>
      have hh := (hCr l).kin.hal w1 hnw1 x w' hr
      by_cases hp : ∃ y, x = .panic y
      · obtain ⟨z, rfl⟩ := hp
        rw [hpan _ _ w w1 l r z w' hx hr]; rfl
      · obtain ⟨oc, es, he⟩ := hend _ _ w w1 l r x w' hx hr hh (fun y e => hp ⟨y, e⟩)
        rw [he]; rfl
  obtain ⟨l, r, v1, hx⟩ := hent v
  have hnv1 : NoView v1 := by
    have := (Kin.enterLoop (P := P) (X := X) fn tmps ps a b fun d => (hF.loop _).2 ⟨h1, g4, g5, .inl rfl⟩).mono v hnv
    rw [hx] at this
    exact this.2.1
  cases hr : (rangeCall ρ (.tmp t) l).run P v1 with
  | ok n v' =>
    obtain ⟨args, rfl⟩ := range_no hc hv1 g3 hr
    have hn := (hCr l).next v1 _ v' hnv1 hr
    have hsr := hsrun v v1 _ hx
    rw [hr] at hsr
    refine sem_step (fr' := Frame.enter P back1 args .normal) (pl' := ⟨fn, tmps, .inRangeFunc l :: kk, { target := .collected r, args := #[] } :: defers, .run, .normal, none⟩ :: pl) hK hnv haft hsr (fun kk' cs w w' _ h => ?_)
      ⟨FrCalm.enter hF hn.1 args hn.2, .inl rfl, fun c hcm => ?_, fun o d ho _ => (by cases ho), hok.link.to rfl rfl⟩
    · obtain ⟨l2, r2, w1, hx2⟩ := hent w
      rw [hsrun w w1 _ hx2] at h
      cases hr2 : (rangeCall ρ (.tmp t) l2).run P w1 with
      | halt y w2 => rw [hr2] at h; cases h
      | ok n w2 =>
        rw [hr2] at h
        cases h
        refine ⟨seen P fn ((Instr.enterLoop fn tmps ps a b none).events P w #[]) ++ seen P fn ((rangeCall ρ (.tmp t) l).events P w1 #[]), ?_, fun e he => ?_⟩
        · have := hgo (tip kk' pl) (ext kk' pl ++ cs) w w1 l r _ args w' hx2 hr2
          unfold cfg
          rw [show tip kk' (_ :: pl) = [] from rfl, plus_nil]
          exact this
        · rw [hsev w w1 _ hx2]
          rcases Array.mem_append.1 he with he | he
          · exact Array.mem_append.2 (.inl (seen_sub _ _ e he))
          · exact Array.mem_append.2 (.inr (seen_sub _ _ e he))
    · rcases List.mem_cons.1 hcm with rfl | hcm
      · refine ⟨⟨h1, fun it hit => ?_, fun d hd => ?_, rfl, h5⟩, rfl, by simp⟩
        · rcases List.mem_cons.1 hit with rfl | hit
          · rfl
          · exact h2 it (List.mem_cons_of_mem _ hit)
        · rcases List.mem_cons.1 hd with rfl | hd
          · exact ⟨r, rfl⟩
          · exact h3 d hd
      · exact hok.waits c hcm
  | halt x v' =>
    have hh := (hCr l).kin.hal v1 hnv1 x v' hr
    by_cases hp : ∃ y, x = .panic y
    · obtain ⟨y, rfl⟩ := hp
      have hmm := (hCr l).kin.mono v1 hnv1
      rw [hr] at hmm
      refine .inr (.inr (.inl ⟨plus ⟨fn, tmps, .inRangeFunc l :: kk, { target := .collected r, args := #[] } :: defers, .run, .normal, none⟩ (tip kl pl), [{ v := y, recovered := false }], v', _, hpan _ _ v v1 l r y v' hx hr, hmm.2, h1, fun d hd => ?_⟩))
      rcases List.mem_cons.1 hd with rfl | hd
      · exact ⟨r, rfl⟩
      · exact h3 d hd
    · obtain ⟨oc, es, he⟩ := hend (tip kl pl) (ext kl pl ++ [F0]) v v1 l r x v' hx hr hh (fun y e => hp ⟨y, e⟩)
      exact StepS.bad he
/-- EVERY STEP of a calm goroutine. -/
theorem step_calm (hF : FnsCalm P F) (hXB : ∀ b, X b → b < B) {fr : Frame} {pl : List Frame} (hok : OkSt P F B K fr pl) (hb : (pl = [] → fr.mode = .run → fr.todo ≠ []) ∨ (kl = [] ∧ k = [])) (hkl : ∀ id, exitTo id kl = none) (F0 : Frame) (v : World) (hnv : NoView v) (hB : B ≤ v.heap.size) :
    StepS P F B K X kl k fr pl F0 v (stepG P true (cfg kl fr pl [F0]) v) := by
  obtain ⟨fn, tmps, todo, defers, mode, kind, round⟩ := fr
  have h4 : kind = .normal := hok.calm.kind
  subst h4
  rcases hok.mode with hm | hm
  · have hm : mode = .run := hm
    subst hm
    obtain ⟨h1, h2, h3, h4, h5⟩ := hok.calm
    have hto : ∀ t : List Item, (∀ it ∈ t, itemCalm P F (kinds ⟨fn, tmps, t, defers, .run, .normal, round⟩) it = true) → (∀ x cs w, (x = tip kl pl ∨ x = tip k pl) → stepG P true (G (plus ⟨fn, tmps, todo, defers, .run, .normal, round⟩ x) cs) w = .go (G (plus ⟨fn, tmps, t, defers, .run, .normal, round⟩ x) cs) w #[]) → StepS P F B K X kl k ⟨fn, tmps, todo, defers, .run, .normal, round⟩ pl F0 v (stepG P true (cfg kl ⟨fn, tmps, todo, defers, .run, .normal, round⟩ pl [F0]) v) :=
      fun t ht h => StepS.ctl hnv h ⟨⟨h1, ht, h3, rfl, h5⟩, .inl rfl, hok.waits, hok.link.to rfl rfl⟩
    have hret : round = none → (∀ x cs w, (x = tip kl pl ∨ x = tip k pl) → stepG P true (G (plus ⟨fn, tmps, todo, defers, .run, .normal, round⟩ x) cs) w = .go (G (plus ⟨fn, tmps, todo, defers, .returning, .normal, round⟩ x) cs) w #[]) → StepS P F B K X kl k ⟨fn, tmps, todo, defers, .run, .normal, round⟩ pl F0 v (stepG P true (cfg kl ⟨fn, tmps, todo, defers, .run, .normal, round⟩ pl [F0]) v) :=
      fun _ h => StepS.ctl hnv h ⟨⟨h1, h2, h3, rfl, h5⟩, .inr rfl, hok.waits, hok.link.to rfl rfl⟩
    have hrnd : ∀ (l : Nat) (j : Option Code), round = some l → PendOk j → (∀ kk cs w, (kk = kl ∨ pl ≠ []) → stepG P true (cfg kk ⟨fn, tmps, todo, defers, .run, .normal, round⟩ pl cs) w =
        GStep.after (seen P fn ((Instr.endRound l j).events P w #[])) (match (Instr.endRound l j).run P w with
            | .ok x w => doReturn P true (plus ⟨fn, tmps, todo, defers, .run, .normal, round⟩ (tip kk pl)) (ext kk pl ++ cs) none x w
            | .halt _ w => .ended (.stuck "range over a function: no such loop" ((plus ⟨fn, tmps, todo, defers, .run, .normal, round⟩ (tip kk pl)).pos P)) w #[])) →
        StepS P F B K X kl k ⟨fn, tmps, todo, defers, .run, .normal, round⟩ pl F0 v (stepG P true (cfg kl ⟨fn, tmps, todo, defers, .run, .normal, round⟩ pl [F0]) v) := by
      intro l j hl hj hst
      refine step_pop (Kin.endRound l j hj) hnv hok (fun kk cs w x w' hkk hr => ?_) (fun kk cs w x w' hkk hr => ?_) (fun x v' _ _ hn => ?_)
      · rw [hst kk cs w hkk, hr]
      · have := hst kk cs w hkk
        rw [hr] at this
        exact ⟨_, _, this⟩
      · have hn : round = none := hn
        rw [hl] at hn
        cases hn
    cases todo with
    | nil =>
      have hx : tip k pl = [] ∧ tip kl pl = [] := by
        cases pl with
        | nil =>
          rcases hb with hb | ⟨hb1, hb2⟩
          · exact absurd rfl (hb rfl rfl)
          · exact ⟨hb2, hb1⟩
        | cons c l => exact ⟨rfl, rfl⟩
      have htip : ∀ kk, (kk = kl ∨ pl ≠ []) → tip kk pl = [] := fun kk h => by
        rcases h with rfl | h
        · exact hx.2
        · cases pl with
          | nil => exact absurd rfl h
          | cons c l => rfl
      cases hround : round with
      | none =>
        subst hround
        exact hret rfl (fun x cs w hxx => by
          have : x = [] := by rcases hxx with h | h; exact h.trans hx.2; exact h.trans hx.1
          subst this
          simp [plus, stepG, stepG.exec, G])
      | some l =>
        subst hround
        refine hrnd l none rfl (.inl rfl) (fun kk cs w hkk => ?_)
        unfold cfg
        rw [htip kk hkk]
        simp only [plus, stepG, stepG.exec, G, List.append_nil, Sem.runT_eq]
        cases (Instr.endRound l none).run P w <;> rfl
    | cons it kk =>
      have hit := h2 it List.mem_cons_self
      have hk : ∀ i ∈ kk, itemCalm P F (kinds ⟨fn, tmps, it :: kk, defers, .run, .normal, round⟩) i = true := fun i hi => h2 i (List.mem_cons_of_mem _ hi)
      have two : ∀ a b : Item, itemCalm P F (kinds ⟨fn, tmps, it :: kk, defers, .run, .normal, round⟩) a = true → itemCalm P F (kinds ⟨fn, tmps, it :: kk, defers, .run, .normal, round⟩) b = true → ∀ i ∈ a :: b :: kk, itemCalm P F (kinds ⟨fn, tmps, it :: kk, defers, .run, .normal, round⟩) i = true := fun a b ha hb i hi => by
        rcases List.mem_cons.1 hi with rfl | hi
        · exact ha
        rcases List.mem_cons.1 hi with rfl | hi
        · exact hb
        · exact hk i hi
      have one : ∀ a : Item, itemCalm P F (kinds ⟨fn, tmps, it :: kk, defers, .run, .normal, round⟩) a = true → ∀ i ∈ a :: kk, itemCalm P F (kinds ⟨fn, tmps, it :: kk, defers, .run, .normal, round⟩) i = true := fun a ha i hi => by
        rcases List.mem_cons.1 hi with rfl | hi
        · exact ha
        · exact hk i hi
      cases it with
      | code c =>
        cases c with
        | skip => exact hto kk hk (fun x cs w _ => by simp [plus, stepG, stepG.exec, G])
        | label l => exact hto kk hk (fun x cs w _ => by simp [plus, stepG, stepG.exec, G])
        | ret =>
          cases hround : round with
          | none =>
            subst hround
            exact hret rfl (fun x cs w _ => by simp [plus, stepG, stepG.exec, G])
          | some l =>
            subst hround
            refine hrnd l (some .ret) rfl (.inr (.inl rfl)) (fun kk' cs w hkk => ?_)
            unfold cfg
            simp only [plus, stepG, stepG.exec, G, List.cons_append, Sem.runT_eq]
            cases (Instr.endRound l (some .ret)).run P w <;> rfl
        | seq a b =>
          have h : codeCalm P F (kinds ⟨fn, tmps, .code (.seq a b) :: kk, defers, .run, .normal, round⟩) a = true ∧ codeCalm P F (kinds ⟨fn, tmps, .code (.seq a b) :: kk, defers, .run, .normal, round⟩) b = true := by simpa [itemCalm, codeCalm] using hit
          exact hto _ (two (.code a) (.code b) h.1 h.2) (fun x cs w _ => by simp [plus, stepG, stepG.exec, G])
        | cond c a b =>
          have h : codeCalm P F (kinds ⟨fn, tmps, .code (.cond c a b) :: kk, defers, .run, .normal, round⟩) a = true ∧ codeCalm P F (kinds ⟨fn, tmps, .code (.cond c a b) :: kk, defers, .run, .normal, round⟩) b = true := by simpa [itemCalm, codeCalm] using hit
          by_cases hb : ∃ t, (⟨fn, tmps, .code (.cond c a b) :: kk, defers, .run, .normal, round⟩ : Frame).eval c = .bool t
          · obtain ⟨t, ht⟩ := hb
            refine hto _ (one (.code (if t then a else b)) (by cases t <;> simp only [itemCalm, Bool.false_eq_true, if_true, if_false]; exact h.2; exact h.1)) (fun x cs w _ => by simp [plus, stepG, stepG.exec, G, show ∀ y, (⟨fn, tmps, y, defers, .run, .normal, round⟩ : Frame).eval c = .bool t from fun _ => ht])
          · have : ∃ oc es, stepG P true (cfg kl ⟨fn, tmps, .code (.cond c a b) :: kk, defers, .run, .normal, round⟩ pl [F0]) v = .ended oc v es := by
              simp only [cfg, plus, List.cons_append, stepG, stepG.exec, G]
              split
              · rename_i t ht
                exact absurd ⟨t, ht⟩ hb
              · exact ⟨_, _, rfl⟩
            obtain ⟨oc, es, he⟩ := this
            exact StepS.bad he
        | block id c => exact hto _ (two (.code c) (.inBlock id) (by simpa [itemCalm, codeCalm] using hit) rfl) (fun x cs w _ => by simp [plus, stepG, stepG.exec, G])
        | loop c => exact hto _ (two (.code c) (.inLoop c) (by simpa [itemCalm, codeCalm] using hit) (by simpa [itemCalm, codeCalm] using hit)) (fun x cs w _ => by simp [plus, stepG, stepG.exec, G])
        | scope c => exact hto _ (two (.code c) (.inScope c) (by simpa [itemCalm, codeCalm] using hit) (by simpa [itemCalm, codeCalm] using hit)) (fun x cs w _ => by simp [plus, stepG, stepG.exec, G])
        | exit id =>
          cases he : exitTo id kk with
          | some kk' => exact hto kk' (fun i hi => hk i (exitTo_sub he i hi)) (fun x cs w _ => by simp [plus, stepG, stepG.exec, G, exitTo_app he])
          | none =>
            have hn : ∀ kk', (kk' = kl ∨ pl ≠ []) → exitTo id (kk ++ tip kk' pl) = none := fun kk' h => by
              refine exitTo_none he ?_
              cases pl with
              | nil =>
                rcases h with rfl | h
                · exact hkl id
                · exact absurd rfl h
              | cons c l => rfl
            cases hround : round with
            | none =>
              subst hround
              have : ∃ oc es, stepG P true (cfg kl ⟨fn, tmps, .code (.exit id) :: kk, defers, .run, .normal, none⟩ pl [F0]) v = .ended oc v es := by
                simp only [cfg, plus, List.cons_append, stepG, stepG.exec, G, hn kl (.inl rfl)]
                exact ⟨_, _, rfl⟩
              obtain ⟨oc, es, he⟩ := this
              exact StepS.bad he
            | some l =>
              subst hround
              refine hrnd l (some (.exit id)) rfl (.inr (.inr ⟨id, rfl⟩)) (fun kk' cs w hkk => ?_)
              unfold cfg
              simp only [plus, stepG, stepG.exec, G, List.cons_append, hn kk' hkk, Option.elim, Sem.runT_eq]
              cases (Instr.endRound l (some (.exit id))).run P w <;> rfl
        | rangeFunc f ps a b =>
          cases f with
          | tmp t =>
            cases hround : round with
            | none =>
              subst hround
              exact step_range hF hXB pl F0 v hok hnv
            | some l =>
              subst hround
              have : codeCalm P F D0 (.rangeFunc (.tmp t) ps a b) = true := hit
              simp [codeCalm, D0] at this
          | _ => simp [itemCalm, codeCalm] at hit
        | region id ops draw =>
          have ho : itemCalm P F (kinds ⟨fn, tmps, .code (.region id ops draw) :: kk, defers, .run, .normal, round⟩) (.inRegion ops []) = true := by simpa [itemCalm, codeCalm] using hit
          cases draw with
          | false => exact hto (.inRegion ops (List.range ops.size) :: kk) (one _ (by simpa [itemCalm] using ho)) (fun x cs w _ => by simp [plus, stepG, stepG.exec, G])
          | true =>
            have hs : ∀ x cs w, stepG P true (G (plus ⟨fn, tmps, .code (.region id ops true) :: kk, defers, .run, .normal, round⟩ x) cs) w = .go (G (plus ⟨fn, tmps, .inRegion ops (Region.schedule (P.follows .mixedOrders) ops (w.tape w.drawn (.order fn id))) :: kk, defers, .run, .normal, round⟩ x) cs) { w with drawn := w.drawn + 1 } #[] := fun x cs w => by
              simp [plus, stepG, stepG.exec, G, choose, Sem.run, Question.forced, Question.cut]
            refine .inl ⟨⟨fn, tmps, .inRegion ops (Region.schedule (P.follows .mixedOrders) ops (v.tape v.drawn (.order fn id))) :: kk, defers, .run, .normal, round⟩, pl, { v with drawn := v.drawn + 1 }, #[], hs _ _ _, ⟨⟨h1, one _ (by simpa [itemCalm] using ho), h3, rfl, h5⟩, .inl rfl, hok.waits, hok.link.to rfl rfl⟩, hnv, Nat.le_refl _, fun cs w hv ht => ?_⟩
            have h0 := ht 0 (.order fn id) (by unfold cfg; rw [hs]; exact Nat.lt_succ_self _)
            rw [Nat.add_zero, Nat.add_zero] at h0
            refine ⟨{ w with drawn := w.drawn + 1 }, #[], by unfold cfg; rw [hs, h0], ⟨hv.size, hv.same, hv.dark, hv.dim, hv.os, hv.out, hv.real.imp (fun h => h) fun x => ⟨by show v.drawn + 1 = w.drawn + 1; rw [x.1], x.2⟩⟩, ⟨fun _ _ => rfl, fun _ h => h⟩, by show w.drawn + 1 + v.drawn = v.drawn + 1 + w.drawn; omega, rfl, rfl, Nat.le_succ _, Nat.le_refl _, fun e he => by simp at he⟩
        | _ => simp [itemCalm, codeCalm] at hit
      | inBlock id => exact hto kk hk (fun x cs w _ => by simp [plus, stepG, stepG.exec, G])
      | inScope c => exact hto kk hk (fun x cs w _ => by simp [plus, stepG, stepG.exec, G])
      | inLoop c => exact hto _ (two (.code c) (.inLoop c) (by simpa [itemCalm] using hit) (by simpa [itemCalm] using hit)) (fun x cs w _ => by simp [plus, stepG, stepG.exec, G])
      | inRegion ops l =>
        cases l with
        | nil => exact hto kk hk (fun x cs w _ => by simp [plus, stepG, stepG.exec, G])
        | cons i rest =>
          by_cases hw : ((ops[i]?).map (Region.wanted · (yielded ops tmps))).getD false = true
          · cases ho : ops[i]? with
            | none => rw [ho] at hw; cases hw
            | some o =>
              rw [ho] at hw
              exact step_oper hF hXB ho hw pl F0 v hok hnv hB
          · have hw : ((ops[i]?).map (Region.wanted · (yielded ops tmps))).getD false = false := by simpa using hw
            obtain ⟨e1, e2, e3, e4⟩ := finish_rest (P := P) (F := F) ⟨fn, tmps, .inRegion ops (i :: rest) :: kk, defers, .run, .normal, round⟩ undef h2
            exact StepS.ctl (fr' := (⟨fn, tmps, .inRegion ops (i :: rest) :: kk, defers, .run, .normal, round⟩ : Frame).finish undef) hnv (fun x cs w _ => by rw [← finish_plus (by simp)]; simp [plus, stepG, stepG.exec, G, hw])
              ⟨hok.calm.finish undef fun o d _ _ => OkV.undef_ _ _, .inl e3, hok.waits, hok.link.to e1 e2⟩
      | inRangeFunc l =>
        have : ∃ oc es, stepG P true (cfg kl ⟨fn, tmps, .inRangeFunc l :: kk, defers, .run, .normal, round⟩ pl [F0]) v = .ended oc v es := by
          simp only [cfg, plus, List.cons_append, stepG, stepG.exec, G]
          exact ⟨_, _, rfl⟩
        obtain ⟨oc, es, he⟩ := this
        exact StepS.bad he
      | endRangeFunc l => exact step_endRange pl F0 v hok hnv
      | beginRound => exact step_begin pl F0 v hok hnv
      | _ => simp [itemCalm] at hit
  · have hm : mode = .returning := hm
    subst hm
    cases defers with
    | cons d ds => exact step_mark pl F0 v hok hnv
    | nil =>
      obtain ⟨fd, hfn⟩ := hok.calm.fn
      have hfn : P.funcs[fn]? = some fd := hfn
      have hun : ∀ todo cs w, stepG P true (G ⟨fn, tmps, todo, [], .returning, .normal, round⟩ cs) w = GStep.after (seen P fn ((results fd tmps).events P w #[])) (match (results fd tmps).run P w with
          | .ok x w => doReturn P true ⟨fn, tmps, todo, [], .returning, .normal, round⟩ cs none x w
          | .halt (.stuck s) w => .ended (.stuck s ((⟨fn, tmps, todo, [], .returning, .normal, round⟩ : Frame).pos P)) w
          | .halt _ w => .ended (.stuck "return: the result variables cannot be read" ((⟨fn, tmps, todo, [], .returning, .normal, round⟩ : Frame).pos P)) w) := by
        intro todo cs w
        simp only [stepG, unwind, G, hfn, Sem.runT_eq]
        cases (results fd tmps).run P w with
        | ok y w1 => rfl
        | halt y w1 => cases y <;> rfl
      refine step_pop (Kin.results fd tmps) hnv hok (fun kk cs w x w' _ hr => ?_) (fun kk cs w x w' _ hr => ?_) (fun x v' hr hn hro => ?_)
      · unfold cfg
        have := hun (todo ++ tip kk pl) (ext kk pl ++ cs) w
        rw [hr] at this
        exact this
      · unfold cfg
        have := hun (todo ++ tip kk pl) (ext kk pl ++ cs) w
        rw [hr] at this
        cases x <;> exact ⟨_, _, this⟩
      · have hn : fn = back0 := hn
        have hro : round = none := hro
        subst hn hro
        obtain ⟨t, e1, e2⟩ := hF.back fd hfn
        rw [results_tmp e1] at hr
        cases hr
        have := hok.calm.slots t
        rw [show kinds ⟨back0, tmps, todo, [], .returning, .normal, none⟩ t = 1 from e2] at this
        exact this
end
end Go.Proofs.Ytoipkpndfgcmcaa.Veils

/-
  From what a call does alone, on every tape, to what it does while others draw from the tape and some blocks are hidden: 'Runs'. The conditions stand in each theorem. No program in sight.
-/
namespace Go.Proofs.Ytoipkpndfgcmcaa.Veils
open Go Go.Conc
set_option linter.unusedVariables false

/-- Goroutine 0 comes to a stop, whatever the others draw ahead of each of its steps. -/
inductive Runs (P : Program) (D : World → World → Array Event → Prop) (Stop : Goroutine → World → Prop) : Goroutine → World → Prop
  | stop {g : Goroutine} {w : World} : (∀ d, Stop g (w.at d)) → Runs P D Stop g w
  | step {g : Goroutine} {w : World} (gf : Nat → Goroutine) (wf : Nat → World) (ef : Nat → Array Event) : g.status = .running → (∀ d, stepG P true g (w.at d) = .go (gf d) (wf d) (ef d)) → (∀ d, D (w.at d) (wf d) (ef d)) → (∀ d, Runs P D Stop (gf d) (wf d)) → Runs P D Stop g w
theorem Runs.of_step {P : Program} {D : World → World → Array Event → Prop} {Stop : Goroutine → World → Prop} {g : Goroutine} {w : World} (hr : g.status = .running)
    (h : ∀ d, ∃ g' w' es, stepG P true g (w.at d) = .go g' w' es ∧ D (w.at d) w' es ∧ Runs P D Stop g' w') : Runs P D Stop g w :=
  .step (fun d => Classical.choose (h d)) (fun d => Classical.choose (Classical.choose_spec (h d))) (fun d => Classical.choose (Classical.choose_spec (Classical.choose_spec (h d)))) hr
    (fun d => (Classical.choose_spec (Classical.choose_spec (Classical.choose_spec (h d)))).1) (fun d => (Classical.choose_spec (Classical.choose_spec (Classical.choose_spec (h d)))).2.1) (fun d => (Classical.choose_spec (Classical.choose_spec (Classical.choose_spec (h d)))).2.2)
section
variable {P : Program} {F : FuncId → Bool} {B : Nat} {X : Nat → Prop} {K : Nat → Nat} {k kl : List Item}
/-- The frame below which a lone run never comes back. -/
def pit : Frame := { fn := 0, tmps := #[], todo := [], defers := [{ target := .builtin .make #[] 0 #[], args := #[] }], mode := .run, kind := .normal }
theorem pit_finish (x : Value) : pit.finish x = pit := rfl
theorem lone_inj {fr fr' : Frame} {cs cs' : List Frame} {w w' : World} (h : lone fr cs w = lone fr' cs' w') : fr = fr' ∧ cs = cs' ∧ w = w' := by
  unfold lone at h
  injection h with h1 h2 h3
  have h2 : (#[{ frame := fr, callers := cs, status := .running, dying := none }] : Array Goroutine) = #[{ frame := fr', callers := cs', status := .running, dying := none }] := by first | exact h2 | exact h1
  have h2 : ({ frame := fr, callers := cs, status := .running, dying := none } : Goroutine) = { frame := fr', callers := cs', status := .running, dying := none } := by simpa using h2
  injection h2 with a b
  exact ⟨a, b, by first | exact h1 | exact h2 | exact h3⟩
theorem runN_ended {m : Machine} {o : Outcome} {w : World} (h : step P m = .ended o w) : ∀ (n : Nat) (m' : Machine), runN P (n + 1) m ≠ .next m' := fun n m' e => by
  unfold runN at e
  rw [h] at e
  cases e
theorem runN_next {m m1 m' : Machine} {n : Nat} (h : step P m = .next m1) (e : runN P (n + 1) m = .next m') : runN P n m1 = .next m' := by
  unfold runN at e
  rw [h] at e
  exact e
/-- The frame at the bottom, left alone: the run ends without coming home. -/
theorem pit_bad (mo : FrameMode) (hmo : mo ≠ .run) (v : World) : ∃ o w, step P (lone { pit with mode := mo } [] v) = .ended o w := by
  refine ⟨.stuck "make, new: Elab turns them into operations of their own" (({ pit with mode := mo, defers := [] } : Frame).pos P), v, step_lone_ended ?_⟩
  have hi : ∀ w, (invoke (.builtin .make #[] 0 #[]) #[]).run P w = .halt (.stuck "make, new: Elab turns them into operations of their own") w := fun w => rfl
  cases mo with
  | run => exact absurd rfl hmo
  | returning => simp [stepG, unwind, pit, callDeferred, hi]
  | panicking ch => simp [stepG, unwind, pit, callDeferred, hi]
def Home (m : Machine) : Prop := ∃ fr v, m = lone fr [pit] v ∧ ∀ ch, fr.mode ≠ .panicking ch
theorem pit_away : ∀ (n : Nat) (v : World) (m : Machine), runN P n (lone pit [] v) = .next m → ¬ Home m := by
  intro n v m h
  have h1 : step P (lone pit [] v) = .next (lone { pit with mode := .returning } [] v) := step_lone_go (by simp [stepG, stepG.exec, pit])
  have no : ∀ (fr : Frame) (v : World), ¬ Home (lone fr [] v) := fun fr v ⟨fr', v', e, _⟩ => by
    have := (lone_inj e).2.1
    cases this
  match n, h with
  | 0, h =>
    have : lone pit [] v = m := by unfold runN at h; cases h; rfl
    rw [← this]
    exact no _ _
  | 1, h =>
    have h := runN_next h1 h
    have : lone { pit with mode := .returning } [] v = m := by unfold runN at h; cases h; rfl
    rw [← this]
    exact no _ _
  | n + 2, h =>
    have h := runN_next h1 h
    obtain ⟨o, w, he⟩ := pit_bad (P := P) .returning (by simp) v
    exact absurd h (runN_ended he n m)
theorem panic_away : ∀ (n : Nat) (pl : List Frame) (fr : Frame) (ch : List PanicEntry) (v : World) (m : Machine), fr.mode = .panicking ch → Marks fr.defers → NoView v → (∃ fd, P.funcs[fr.fn]? = some fd) → (∀ c ∈ pl, Waits P F B c) → runN P n (lone fr (pl ++ [pit]) v) = .next m → ¬ Home m := by
  intro n
  induction n with
  | zero =>
    intro pl fr ch v m hm _ _ _ _ h ⟨fr', v', e, hr⟩
    unfold runN at h
    cases h
    have := (lone_inj e).1
    rw [this] at hm
    exact hr ch hm
  | succ n ih =>
    intro pl fr ch v m hm hd hnv hf hpl h
    obtain ⟨fd, hfn⟩ := hf
    obtain ⟨fn, tmps, todo, defers, mode, kind, round⟩ := fr
    have hm : mode = .panicking ch := hm
    have hfn : P.funcs[fn]? = some fd := hfn
    subst hm
    cases defers with
    | cons d ds =>
      obtain ⟨r, hr0⟩ := hd d List.mem_cons_self
      obtain ⟨tg, ar⟩ := d
      have hr0 : tg = .collected r := hr0
      subst hr0
      cases hr : (Instr.takeDeferred r).run P v with
      | ok a v' =>
        have ha := take_val hnv hr
        subst ha
        have hmm := (Kin.takeDeferred (P := P) (X := fun _ => False) r).mono v hnv
        rw [hr] at hmm
        have hst : step P (lone ⟨fn, tmps, todo, ⟨.collected r, ar⟩ :: ds, .panicking ch, kind, round⟩ (pl ++ [pit]) v) = .next (lone ⟨fn, tmps, todo, ds, .panicking ch, kind, round⟩ (pl ++ [pit]) v') := step_lone_go (by simp [stepG, unwind, hr])
        exact ih pl ⟨fn, tmps, todo, ds, .panicking ch, kind, round⟩ ch v' m rfl (fun d hd' => hd d (List.mem_cons_of_mem _ hd')) hmm.2.1 ⟨fd, hfn⟩ hpl (runN_next hst h)
      | halt x v' =>
        have hst : ∃ o w, step P (lone ⟨fn, tmps, todo, ⟨.collected r, ar⟩ :: ds, .panicking ch, kind, round⟩ (pl ++ [pit]) v) = .ended o w := ⟨.stuck "the deferred calls of a range-over-func loop have been taken" ((⟨fn, tmps, todo, ⟨.collected r, ar⟩ :: ds, .panicking ch, kind, round⟩ : Frame).pos P), v', step_lone_ended (by simp [stepG, unwind, hr])⟩
        obtain ⟨o, w, he⟩ := hst
        exact absurd h (runN_ended he n m)
    | nil =>
    have hcatch : (⟨fn, tmps, todo, [], .panicking ch, kind, round⟩ : Frame).catches P = false := by unfold Frame.catches; simp only [hfn]
    have hst : ∀ (c : Frame) (rest : List Frame), step P (lone ⟨fn, tmps, todo, [], .panicking ch, kind, round⟩ (c :: rest) v) = .next (lone (c.raise ch) rest v) := fun c rest => step_lone_go (by
      simp [stepG, unwind, hcatch])
    cases pl with
    | nil =>
      have h := runN_next (hst pit []) h
      have hp : pit.raise ch = { pit with mode := .panicking ch } := rfl
      rw [hp] at h
      obtain ⟨o, w, he⟩ := pit_bad (P := P) (.panicking ch) (by simp) v
      cases n with
      | zero =>
        unfold runN at h
        cases h
        rintro ⟨fr', v', e, _⟩
        have := (lone_inj e).2.1
        cases this
      | succ n => exact absurd h (runN_ended he n m)
    | cons c pl' =>
      obtain ⟨hcc, hcm, _⟩ := hpl c List.mem_cons_self
      have h := runN_next (hst c (pl' ++ [pit])) h
      have hp : c.raise ch = { c with mode := .panicking ch } := by unfold Frame.raise; rw [hcm]
      rw [hp] at h
      exact ih pl' { c with mode := .panicking ch } ch v m rfl hcc.defers hnv hcc.fn (fun d hd => hpl d (List.mem_cons_of_mem _ hd)) h
/-- A frame that returns does not run again. -/
theorem ret_away : ∀ (n : Nat) (fr : Frame) (v : World) (fr' : Frame) (v' : World), fr.mode = .returning → fr.kind = .normal → Marks fr.defers → NoView v → (∃ fd, P.funcs[fr.fn]? = some fd) → runN P n (lone fr [pit] v) = .next (lone fr' [pit] v') → fr'.mode ≠ .run := by
  intro n
  induction n with
  | zero =>
    intro fr v fr' v' hm _ _ _ _ h
    unfold runN at h
    injection h with h
    rw [← (lone_inj h).1, hm]
    simp
  | succ n ih =>
    intro fr v fr' v' hm hk hd hnv hf h
    obtain ⟨fd, hfn⟩ := hf
    obtain ⟨fn, tmps, todo, defers, mode, kind, round⟩ := fr
    have hm : mode = .returning := hm
    have hk : kind = .normal := hk
    have hfn : P.funcs[fn]? = some fd := hfn
    subst hm hk
    cases defers with
    | cons d ds =>
      obtain ⟨r, hr0⟩ := hd d List.mem_cons_self
      obtain ⟨tg, ar⟩ := d
      have hr0 : tg = .collected r := hr0
      subst hr0
      cases hr : (Instr.takeDeferred r).run P v with
      | ok a v1 =>
        have ha := take_val hnv hr
        subst ha
        have hmm := (Kin.takeDeferred (P := P) (X := fun _ => False) r).mono v hnv
        rw [hr] at hmm
        have hst : step P (lone ⟨fn, tmps, todo, ⟨.collected r, ar⟩ :: ds, .returning, .normal, round⟩ [pit] v) = .next (lone ⟨fn, tmps, todo, ds, .returning, .normal, round⟩ [pit] v1) := step_lone_go (by simp [stepG, unwind, hr])
        exact ih ⟨fn, tmps, todo, ds, .returning, .normal, round⟩ v1 fr' v' rfl rfl (fun d hd' => hd d (List.mem_cons_of_mem _ hd')) hmm.2.1 ⟨fd, hfn⟩ (runN_next hst h)
      | halt x v1 =>
        have hst : ∃ o w, step P (lone ⟨fn, tmps, todo, ⟨.collected r, ar⟩ :: ds, .returning, .normal, round⟩ [pit] v) = .ended o w := ⟨.stuck "the deferred calls of a range-over-func loop have been taken" ((⟨fn, tmps, todo, ⟨.collected r, ar⟩ :: ds, .returning, .normal, round⟩ : Frame).pos P), v1, step_lone_ended (by simp [stepG, unwind, hr])⟩
        obtain ⟨o, w, he⟩ := hst
        exact absurd h (runN_ended he n _)
    | nil =>
      cases hr : (results fd tmps).run P v with
      | ok x v1 =>
        have hst : step P (lone ⟨fn, tmps, todo, [], .returning, .normal, round⟩ [pit] v) = .next (lone pit [] v1) := step_lone_go (by simp [stepG, unwind, hfn, hr, doReturn, pit_finish])
        exact fun e => pit_away n v1 _ (runN_next hst h) ⟨fr', v', rfl, fun ch => by rw [e]; simp⟩
      | halt x v1 =>
        have hst : ∃ o w, step P (lone ⟨fn, tmps, todo, [], .returning, .normal, round⟩ [pit] v) = .ended o w := by
          cases x with
          | stuck s => exact ⟨.stuck s ((⟨fn, tmps, todo, [], .returning, .normal, round⟩ : Frame).pos P), v1, step_lone_ended (by simp [stepG, unwind, hfn, hr])⟩
          | _ => exact ⟨.stuck "return: the result variables cannot be read" ((⟨fn, tmps, todo, [], .returning, .normal, round⟩ : Frame).pos P), v1, step_lone_ended (by simp [stepG, unwind, hfn, hr])⟩
        obtain ⟨o, w, he⟩ := hst
        exact absurd h (runN_ended he n _)
theorem G_inj {fr fr' : Frame} {a b cs : List Frame} (h : G fr (a ++ cs) = G fr' (b ++ cs)) : fr = fr' ∧ a = b := by
  unfold G at h
  injection h with h1 h2
  exact ⟨h1, List.append_cancel_right h2⟩
/-- Two states of a goroutine that part above the same ground. -/
theorem plus_inj {k : List Item} {fr fr' : Frame} {pl pl' cs : List Frame} (h : G (plus fr (tip k pl)) (ext k pl ++ cs) = G (plus fr' (tip k pl')) (ext k pl' ++ cs)) : fr = fr' ∧ pl = pl' := by
  have un : ∀ {a b : Frame} {x : List Item}, plus a x = plus b x → a = b := fun {a b x} e => by
    obtain ⟨a1, a2, a3, a4, a5, a6, a7⟩ := a
    obtain ⟨b1, b2, b3, b4, b5, b6, b7⟩ := b
    unfold plus at e
    injection e with e1 e2 e3 e4 e5 e6 e7
    simp only at e1 e2 e3 e4 e5 e6 e7
    have e3 := List.append_cancel_right e3
    subst e1 e2 e3 e4 e5 e6 e7
    rfl
  have key : ∀ (p q : List Frame), ext k p = ext k q → p = q := by
    intro p
    induction p with
    | nil => intro q e; cases q with
      | nil => rfl
      | cons c l => cases e
    | cons c l ih => intro q e; cases q with
      | nil => cases e
      | cons d m =>
        unfold ext at e
        injection e with e1 e2
        have := ih m e2
        subst this
        rw [un e1]
  obtain ⟨h1, h2⟩ := G_inj h
  have hp := key _ _ h2
  subst hp
  exact ⟨un h1, rfl⟩
/-! the lone world of a true one -/
open Classical in
/-- The world with the hidden blocks, and those that are no plain object, emptied. -/
noncomputable def veilW (X : Nat → Prop) (w : World) : World := { w with heap := w.heap.mapIdx fun b o => if X b then .stringIter .empty 0 else if Obj.plain o then o else dimO o }
/-- The hidden blocks are rows of cells. -/
def Rows (X : Nat → Prop) (w : World) : Prop := ∀ b, X b → ∃ c e, w.heap[b]? = some (.cells c e) ∧ 0 < c.size
theorem veilW_at {X : Nat → Prop} (w : World) (b : Nat) : (veilW X w).heap[b]? = (w.heap[b]?).map fun o => open Classical in if X b then .stringIter .empty 0 else if Obj.plain o then o else dimO o := by
  unfold veilW
  simp
theorem veilW_veil {X : Nat → Prop} {w : World} (h : Rows X w) : Veil X (veilW X w) w := by
  refine ⟨by simp [veilW], fun b hb hv => ?_, fun b hb => ?_, fun b o ho hn => ?_, rfl, rfl, .inr ⟨rfl, rfl⟩⟩
  · rw [veilW_at]
    cases hw : w.heap[b]? with
    | none => rfl
    | some o =>
      have hp : Obj.plain o := Classical.byContradiction fun hn => hv ⟨o, hw, hn⟩
      simp [hb, hp]
  · obtain ⟨c, e, h1, h2⟩ := h b hb
    refine ⟨?_, c, e, h1, h2⟩
    rw [veilW_at, h1]
    simp [hb]
  · rw [veilW_at, ho]
    by_cases hb : X b
    · obtain ⟨c, e, h1, h2⟩ := h b hb
      rw [ho] at h1
      injection h1 with h1
      subst h1
      exact absurd trivial hn
    · simp [hb, hn]
/-- A veiled world is known by the true one. -/
theorem Veil.heap_eq {X : Nat → Prop} {v w : World} (h : Veil X v w) : v.heap = (veilW X w).heap := by
  apply Array.ext_getElem?
  intro b
  rw [veilW_at]
  by_cases hb : X b
  · obtain ⟨h1, c, e, h2, _⟩ := h.dark b hb
    rw [h1, h2]
    simp [hb]
  · by_cases hv : Vw w b
    · obtain ⟨o, h1, h2⟩ := hv
      rw [h.dim b o h1 h2, h1]
      simp [hb, h2]
    · rw [h.same b hb hv]
      cases hw : w.heap[b]? with
      | none => rfl
      | some o =>
        have hp : Obj.plain o := Classical.byContradiction fun hn => hv ⟨o, hw, hn⟩
        simp [hb, hp]
/-- A world beside one that parts from it in the tape alone. -/
theorem veil_self {v u : World} (h1 : v.heap = u.heap) (h2 : v.os = u.os) (h3 : v.output = u.output) (h4 : NoView u) : Veil (fun _ => False) v u :=
  ⟨by rw [h1], fun b _ _ => by rw [h1], fun b hb => hb.elim, fun b o ho hn => absurd (h4 b o ho) hn, h2, h3, .inl h4⟩
theorem veil_self' {v u : World} (h : Veil (fun _ => False) v u) (hn : NoView u) : v.heap = u.heap := by
  apply Array.ext_getElem?
  intro b
  exact h.same b id fun ⟨o, h1, h2⟩ => h2 (hn b o h1)
theorem Rows.keep {X : Nat → Prop} {w w' : World} (h : Rows X w) (hk : ∀ b, X b → w'.heap[b]? = w.heap[b]?) : Rows X w' := fun b hb => let ⟨c, e, h1, h2⟩ := h b hb; ⟨c, e, (hk b hb).trans h1, h2⟩
structure St where
  fr : Frame
  pl : List Frame
  w : World
theorem pair_step (hF : FnsCalm P F) {fr : Frame} {pl : List Frame} (hok : OkSt P F B K fr pl) (hXB : ∀ b, X b → b < B) (kl k : List Item) (hb : (pl = [] → fr.mode = .run → fr.todo ≠ []) ∨ (kl = [] ∧ k = [])) (hkl : ∀ id, exitTo id kl = none) (cs : List Frame) (v w : World) (hX : Rows X w) (hB : B ≤ w.heap.size) (hh : v.heap = (veilW X w).heap) (ho : v.os = w.os) (hout : v.output = w.output)
    (ht : ∀ j q, w.drawn + j < gaft (stepG P true (cfg kl fr pl [pit]) (veilW X w)) → v.tape (v.drawn + j) q = w.tape (w.drawn + j) q) :
    (∃ fr' pl' v' es', stepG P true (cfg kl fr pl [pit]) v = .go (cfg kl fr' pl' [pit]) v' es' ∧ OkSt P F B K fr' pl' ∧
      (∃ w' es, stepG P true (cfg k fr pl cs) w = .go (cfg k fr' pl' cs) w' es ∧ v'.heap = (veilW X w').heap ∧ v'.os = w'.os ∧ v'.output = w'.output ∧ Keep X w w' ∧ w'.drawn + v.drawn = v'.drawn + w.drawn ∧ v'.tape = v.tape ∧ w'.tape = w.tape ∧ w.drawn ≤ w'.drawn ∧ w.heap.size ≤ w'.heap.size ∧ (∀ e ∈ es, FineE X w'.heap.size e) ∧ gaft (stepG P true (cfg kl fr pl [pit]) (veilW X w)) = w'.drawn))
    ∨ (pl = [] ∧ ∃ x v' es', stepG P true (cfg kl fr pl [pit]) v = .go (G (pit.finish x) []) v' es')
    ∨ (∃ fp : Frame, ∃ ch v' es', stepG P true (cfg kl fr pl [pit]) v = .go (G { fp with mode := .panicking ch } (ext kl pl ++ [pit])) v' es' ∧ NoView v' ∧ (∃ fd, P.funcs[fp.fn]? = some fd) ∧ Marks fp.defers)
    ∨ (∃ o v' es', stepG P true (cfg kl fr pl [pit]) v = .ended o v' es') := by
  have hvw := veilW_veil hX
  have hnu : NoView (veilW X w) := hvw.novv
  have hnv : NoView v := fun b o e => hnu b o (by rw [← hh]; exact e)
  have hsv : (veilW X w).heap.size = w.heap.size := hvw.size
  have hBu : B ≤ (veilW X w).heap.size := by rw [hsv]; exact hB
  have hBv : B ≤ v.heap.size := by rw [hh]; exact hBu
  rcases step_calm hF (X := fun _ => False) (fun _ h => h.elim) hok (k := kl) (hb.imp id fun x => ⟨x.1, x.1⟩) hkl pit v hnv hBv with ⟨fr', pl', v', es', hst, hok', hnv', _, hon⟩ | h | h | h
  · obtain ⟨u', e1, hu1, huv, _, hud, hut1, hut2, _, _, _⟩ := (hon [pit] (veilW X w) (veil_self hh ho hout hnu) ht).real
    -- the veiled world's own step, and the true one's
    rcases step_calm hF (X := X) hXB hok (k := k) hb hkl pit (veilW X w) hnu hBu with ⟨fr2, pl2, u2, es2, hst2, hok2, hnu2, _, hon2⟩ | ⟨_, x, v2, es2, hst2⟩ | ⟨fp, ch, v2, es2, hst2, _⟩ | ⟨o2, v2, es2, hst2⟩
    · rw [hu1] at hst2
      injection hst2 with h1 h2 _
      obtain ⟨r1, r2⟩ := plus_inj h1
      subst r1 r2 h2
      obtain ⟨w', es, hr, hv, hk, hd, _, htw, hle, hsz, hfine⟩ := (hon2 cs w hvw (fun j q _ => rfl)).real
      have hdw : w'.drawn = u'.drawn := by
        have : w'.drawn + w.drawn = u'.drawn + w.drawn := hd
        omega
      have hud' : u'.drawn + v.drawn = v'.drawn + w.drawn := hud
      refine .inl ⟨fr', pl', v', es', hst, hok', w', es, hr, ?_, ?_, ?_, hk, by omega, hut1, htw, hle, hsz, hfine, ?_⟩
      · rw [veil_self' huv hnu2]
        exact hv.heap_eq
      · rw [huv.os]; exact hv.os
      · rw [huv.out]; exact hv.out
      · rw [hu1, hdw]; rfl
    · rw [hu1] at hst2
      injection hst2 with h1 _ _
      have := congrArg Goroutine.callers h1
      simp [cfg, G] at this
    · rw [hu1] at hst2
      injection hst2 with h1 _ _
      have hfr : (plus fr' (tip kl pl')).mode = .panicking ch := congrArg Frame.mode (congrArg Goroutine.frame h1)
      have hfr : fr'.mode = .panicking ch := hfr
      rcases hok'.mode with h2 | h2 <;> (rw [hfr] at h2; cases h2)
    · rw [hu1] at hst2
      cases hst2
  · exact .inr (.inl h)
  · exact .inr (.inr (.inl h))
  · exact .inr (.inr (.inr h))
theorem seq_runs (hF : FnsCalm P F) {D : World → World → Array Event → Prop} {Stop : Goroutine → World → Prop} {Fin : Frame → World → Prop} {fr0 : Frame} (cs : List Frame) {w0 : World}
    (hc : FrCalm P F w0.heap.size fr0) (hm : ModeOk fr0) (hX : Rows X w0)
    (hlone : ∀ t, ∃ N fr v', runN P N (lone fr0 [pit] { veilW X w0 with tape := t, drawn := 0 }) = .next (lone fr [pit] v') ∧ fr.mode = .returning ∧ Fin fr v')
    (hD : ∀ (w w' : World) (es : Array Event), (∀ b, X b → w'.heap[b]? = w.heap[b]?) → w'.tape = w.tape → w.heap.size ≤ w'.heap.size → (∀ e ∈ es, FineE X w'.heap.size e) → D w w' es)
    (hStop : ∀ fr v' w', Fin fr v' → fr.mode = .returning → v'.heap = (veilW X w').heap → v'.os = w'.os → v'.output = w'.output → Keep X w0 w' → w'.tape = w0.tape → Stop (G fr cs) w') :
    Runs P D Stop (G fr0 cs) w0 := by
  classical
  have hXB : ∀ b, X b → b < w0.heap.size := fun b hb => let ⟨c, e, h1, _⟩ := hX b hb; (Array.getElem?_eq_some_iff.1 h1).1
  have htip : ∀ pl : List Frame, tip [] pl = [] := fun pl => by cases pl <;> rfl
  have hext : ∀ pl : List Frame, ext [] pl = pl := fun pl => by
    induction pl with
    | nil => rfl
    | cons c l ih => rw [ext, htip, plus_nil, ih]
  have cfg_nil : ∀ (fr : Frame) (pl cs : List Frame), cfg [] fr pl cs = G fr (pl ++ cs) := fun fr pl cs => by
    rw [cfg, htip, hext, plus_nil]
  refine Classical.byContradiction fun hbad => ?_
  let good : St → Prop := fun s => OkSt P F w0.heap.size (kinds fr0) s.fr s.pl ∧ ¬ Runs P D Stop (G s.fr (s.pl ++ cs)) s.w
  have hex : ∀ s : St, good s → ∃ d, ¬ ∃ g' w' es, stepG P true (G s.fr (s.pl ++ cs)) (s.w.at d) = .go g' w' es ∧ D (s.w.at d) w' es ∧ Runs P D Stop g' w' := fun s hs =>
    Classical.byContradiction fun hn => hs.2 (Runs.of_step rfl fun d => Classical.byContradiction fun h => hn ⟨d, h⟩)
  let dd : St → Nat := fun s => if h : good s then Classical.choose (hex s h) else 0
  have hdd : ∀ s, good s → ¬ ∃ g' w' es, stepG P true (G s.fr (s.pl ++ cs)) (s.w.at (dd s)) = .go g' w' es ∧ D (s.w.at (dd s)) w' es ∧ Runs P D Stop g' w' := fun s hs => by
    have : dd s = Classical.choose (hex s hs) := dif_pos hs
    rw [this]
    exact Classical.choose_spec (hex s hs)
  let nxt : St → St → Prop := fun s s' => ∃ es, stepG P true (G s.fr (s.pl ++ cs)) (s.w.at (dd s)) = .go (G s'.fr (s'.pl ++ cs)) s'.w es
  have huni : ∀ s a b, nxt s a → nxt s b → a = b := fun s a b ⟨e1, h1⟩ ⟨e2, h2⟩ => by
    rw [h1] at h2
    injection h2 with h3 h4
    obtain ⟨x, y⟩ := G_inj h3
    cases a; cases b
    simp only at x y h4
    subst x y h4
    rfl
  let nx : St → St := fun s => if h : ∃ s', nxt s s' then Classical.choose h else s
  have hnx : ∀ s s', nxt s s' → nx s = s' := fun s s' h => by
    have he : ∃ s', nxt s s' := ⟨s', h⟩
    have : nx s = Classical.choose he := dif_pos he
    rw [this]
    exact huni s _ _ (Classical.choose_spec he) h
  let S : Nat → St := fun i => Nat.rec ⟨fr0, [], w0⟩ (fun _ s => nx s) i
  have hS0 : S 0 = ⟨fr0, [], w0⟩ := rfl
  have hSs : ∀ i, S (i + 1) = nx (S i) := fun i => rfl
  let mm : St → Nat := fun s => gaft (stepG P true (G s.fr (s.pl ++ [pit])) (veilW X (s.w.at (dd s)))) - dd s
  let pos : Nat → Nat := fun i => Nat.rec 0 (fun k p => p + mm (S k)) i
  have hp0 : pos 0 = 0 := rfl
  have hps : ∀ i, pos (i + 1) = pos i + mm (S i) := fun i => rfl
  have hmono : ∀ i k, i ≤ k → pos i ≤ pos k := fun i k h => by
    induction h with
    | refl => exact Nat.le_refl _
    | step h ih => exact Nat.le_trans ih (by rw [hps]; exact Nat.le_add_right _ _)
  let τ : Nat → Question → Nat := fun x q => if h : ∃ i, pos i ≤ x ∧ x < pos (i + 1) then (S (Classical.choose h)).w.tape (dd (S (Classical.choose h)) + (x - pos (Classical.choose h))) q else 0
  have hτ : ∀ i j q, j < mm (S i) → τ (pos i + j) q = (S i).w.tape (dd (S i) + j) q := fun i j q hj => by
    have h : ∃ k, pos k ≤ pos i + j ∧ pos i + j < pos (k + 1) := ⟨i, Nat.le_add_right _ _, by rw [hps]; omega⟩
    have e : τ (pos i + j) q = (S (Classical.choose h)).w.tape (dd (S (Classical.choose h)) + (pos i + j - pos (Classical.choose h))) q := dif_pos h
    obtain ⟨h1, h2⟩ := Classical.choose_spec h
    have hk : Classical.choose h = i := by
      rcases Nat.lt_trichotomy (Classical.choose h) i with hlt | heq | hgt
      · have h3 : pos (Classical.choose h + 1) ≤ pos i := hmono _ _ hlt
        omega
      · exact heq
      · have h3 : pos (i + 1) ≤ pos (Classical.choose h) := hmono _ _ hgt
        rw [hps] at h3
        omega
    rw [e, hk, Nat.add_sub_cancel_left]
  obtain ⟨N, frN, vN, hrun, hmN, hfin⟩ := hlone τ
  have claim : ∀ i, i ≤ N → ∃ v, runN P i (lone fr0 [pit] { veilW X w0 with tape := τ, drawn := 0 }) = .next (lone (S i).fr ((S i).pl ++ [pit]) v) ∧ good (S i) ∧ (v.heap = (veilW X (S i).w).heap ∧ v.os = (S i).w.os ∧ v.output = (S i).w.output ∧ Rows X (S i).w ∧ w0.heap.size ≤ (S i).w.heap.size) ∧ v.drawn = pos i ∧ v.tape = τ ∧ Keep X w0 (S i).w ∧ (S i).w.tape = w0.tape := by
    intro i
    induction i with
    | zero =>
      intro _
      refine ⟨{ veilW X w0 with tape := τ, drawn := 0 }, rfl, ⟨⟨hc, hm, (fun c hc => by cases hc), rfl⟩, hbad⟩, ⟨rfl, rfl, rfl, hX, Nat.le_refl _⟩, rfl, rfl, Keep.refl _ _, rfl⟩
    | succ i ih =>
      intro hi
      obtain ⟨v, hr, hg, hv, hdr, htp, hkeep, htw⟩ := ih (by omega)
      obtain ⟨hok1, hnr⟩ := hg
      have hrest : ∃ n, N = i + (n + 1) := ⟨N - i - 1, by omega⟩
      obtain ⟨n, hn⟩ := hrest
      have hrun2 : runN P (n + 1) (lone (S i).fr ((S i).pl ++ [pit]) v) = .next (lone frN [pit] vN) := by
        have := hrun
        rw [hn, runN_add, hr] at this
        exact this
      have hhome : Home (lone frN [pit] vN) := ⟨frN, vN, rfl, fun ch => by rw [hmN]; simp⟩
      have hgo : ∀ {g' : Frame} {cs' : List Frame} {v' : World} {es : Array Event}, stepG P true (G (S i).fr ((S i).pl ++ [pit])) v = .go (G g' cs') v' es → step P (lone (S i).fr ((S i).pl ++ [pit]) v) = .next (lone g' cs' v') := fun h => step_lone_go (by
        have : stepG P true { frame := (S i).fr, callers := (S i).pl ++ [pit], status := .running, dying := none } v = _ := h
        rw [this]
        rfl)
      obtain ⟨hv1, hv2, hv3, hv4, hv5⟩ := hv
      have hX' : Rows X ((S i).w.at (dd (S i))) := hv4
      have hps0 := pair_step hF hok1 hXB [] [] (.inr ⟨rfl, rfl⟩) (fun id => rfl) cs v ((S i).w.at (dd (S i))) hX' hv5 hv1 hv2 hv3
      simp only [cfg_nil, hext] at hps0
      rcases hps0 (fun j q hj => by
          rw [htp, hdr]
          exact hτ i j q (by
            show j < gaft _ - dd (S i)
            have hj : dd (S i) + j < gaft (stepG P true (G (S i).fr ((S i).pl ++ [pit])) (veilW X ((S i).w.at (dd (S i))))) := hj
            omega)) with ⟨fr', pl', v', es', hst, hok', w', es, hreal, hq1, hq2, hq3, hk', hd', ht1, ht2, hge, hsz, hfine, hgf⟩ | ⟨hpl0, x, v', es', hst⟩ | ⟨fp, ch, v', es', hst, hnv', hfp, hmk⟩ | ⟨o, v', es', hst⟩
      · skip
        have hnext : S (i + 1) = ⟨fr', pl', w'⟩ := by rw [hSs]; exact hnx _ _ ⟨es, hreal⟩
        have hDD : D ((S i).w.at (dd (S i))) w' es := hD _ _ _ (fun b hb => hk'.same b (.inl hb)) ht2 hsz hfine
        have hnr' : ¬ Runs P D Stop (G fr' (pl' ++ cs)) w' := fun h => hdd (S i) ⟨hok1, hnr⟩ ⟨_, _, _, hreal, hDD, h⟩
        have hmm : mm (S i) + dd (S i) = w'.drawn := by
          show gaft _ - dd (S i) + dd (S i) = w'.drawn
          rw [hgf]
          have hge : dd (S i) ≤ w'.drawn := hge
          omega
        refine ⟨v', ?_, by rw [hnext]; exact ⟨hok', hnr'⟩, by rw [hnext]; exact ⟨hq1, hq2, hq3, hX'.keep fun b hb => hk'.same b (.inl hb), Nat.le_trans hv5 hsz⟩, ?_, ht1.trans htp, by rw [hnext]; exact hkeep.trans ⟨hk'.same, hk'.back⟩, by rw [hnext]; exact ht2.trans htw⟩
        · rw [runN_add, hr, hnext]
          show runN P 1 _ = _
          unfold runN
          rw [hgo hst]
          rfl
        · rw [hps, ← hdr]
          have hd' : w'.drawn + v.drawn = v'.drawn + dd (S i) := hd'
          omega
      · have hst2 := hgo (g' := pit.finish x) (cs' := []) hst
        rw [pit_finish] at hst2
        exact absurd hhome (pit_away n v' _ (runN_next hst2 hrun2))
      · exact absurd hhome (panic_away n (S i).pl { fp with mode := .panicking ch } ch v' _ rfl hmk hnv' hfp hok1.waits (runN_next (hgo hst) hrun2))
      · have hst2 : step P (lone (S i).fr ((S i).pl ++ [pit]) v) = .ended o v' := step_lone_ended (by
          have : stepG P true { frame := (S i).fr, callers := (S i).pl ++ [pit], status := .running, dying := none } v = _ := hst
          rw [this]
          rfl)
        exact absurd hrun2 (runN_ended hst2 n _)
  obtain ⟨v, hr, hg, hv, _, _, hkeep, htw⟩ := claim N (Nat.le_refl _)
  rw [hr] at hrun
  injection hrun with hrun
  obtain ⟨e1, e2, e3⟩ := lone_inj hrun
  have hpl : (S N).pl = [] := by
    cases h : (S N).pl with
    | nil => rfl
    | cons c l => rw [h] at e2; simp at e2
  refine hg.2 (.stop fun d => ?_)
  rw [hpl, List.nil_append, e1]
  obtain ⟨hv1, hv2, hv3, _⟩ := hv
  rw [e3] at hv1 hv2 hv3
  exact hStop frN vN ((S N).w.at d) hfin hmN hv1 hv2 hv3 ⟨hkeep.same, hkeep.back⟩ htw
end
end Go.Proofs.Ytoipkpndfgcmcaa.Veils

/-
  A piece of a function's text, whatever text stands behind it: from what it does alone, on every tape, to what it does while others draw from the tape and some blocks are hidden. The conditions stand in each theorem. No program in sight.
-/
namespace Go.Proofs.Ytoipkpndfgcmcaa.Veils
open Go Go.Conc
set_option linter.unusedVariables false
section
variable {P : Program} {F : FuncId → Bool} {B : Nat} {X : Nat → Prop}
/-- The text with another in the place of its last, empty part. -/
def graftf (rest : Code) : Code → Code
  | .seq a b => .seq a (graftf rest b)
  | _ => rest
/-- A row of calm parts with an empty last one. -/
def tailed (P : Program) (F : FuncId → Bool) (D : Nat → Nat) : Code → Bool
  | .skip => true
  | .seq a b => codeCalm P F D a && tailed P F D b
  | _ => false
structure StG where
  fr : Frame
  pl : List Frame
  w : World
  c : Code
def LF (s : StG) : Frame := plus s.fr (tip [.code s.c] s.pl)
def LC (s : StG) : List Frame := ext [.code s.c] s.pl ++ [pit]
def RF (rest : Code) (k : List Item) (s : StG) : Frame := plus s.fr (tip (.code (graftf rest s.c) :: k) s.pl)
def RC (rest : Code) (k : List Item) (cs : List Frame) (s : StG) : List Frame := ext (.code (graftf rest s.c) :: k) s.pl ++ cs
/-- The text that is left behind a step. -/
def nextc (s : StG) : Code := match s.pl, s.fr.todo, s.fr.mode, s.c with
  | [], [], .run, .seq _ b => b
  | _, _, _, c => c
def OkG (P : Program) (F : FuncId → Bool) (B : Nat) (K : Nat → Nat) (s : StG) : Prop := OkSt P F B K s.fr s.pl ∧ tailed P F K s.c = true
theorem tailed_calm {D : Nat → Nat} : ∀ {c : Code}, tailed P F D c = true → codeCalm P F D c = true
  | .skip, _ => by simp [codeCalm]
  | .seq a b, h => by
    have h : codeCalm P F D a = true ∧ tailed P F D b = true := by simpa [tailed] using h
    simp [codeCalm, h.1, tailed_calm h.2]
theorem ext_waits {K : Nat → Nat} {c : Code} (hc : tailed P F K c = true) : ∀ {fr : Frame} {pl : List Frame}, Linked K fr pl → (∀ x ∈ pl, Waits P F B x) → ∀ x ∈ ext [.code c] pl, Waits P F B x
  | _, [], _, _, x, hx => by cases hx
  | fr, y :: pl, hl, h, x, hx => by
    rcases List.mem_cons.1 hx with rfl | hx
    · obtain ⟨h1, h2, h3⟩ := h y List.mem_cons_self
      refine ⟨⟨h1.fn, fun it hit => ?_, h1.defers, h1.kind, h1.slots⟩, h2, fun e => h3 (List.append_eq_nil_iff.1 e).1⟩
      rcases List.mem_append.1 hit with hit | hit
      · exact h1.todo it hit
      · cases pl with
        | nil =>
          rw [List.mem_singleton.1 hit]
          have hk : kinds y = K := hl.2
          show codeCalm P F (kinds y) c = true
          rw [hk]
          exact tailed_calm hc
        | cons z l => cases hit
    · exact ext_waits hc hl.2 (fun z hz => h z (List.mem_cons_of_mem _ hz)) x hx
theorem graft_runs (hF : FnsCalm P F) {D : World → World → Array Event → Prop} {Stop : Goroutine → World → Prop} {Fin : Frame → World → Prop} {fr0 : Frame} (rest c0 : Code) (k : List Item) (cs : List Frame) {w0 : World}
    (hc : FrCalm P F w0.heap.size fr0) (hm : fr0.mode = .run) (h00 : fr0.todo = []) (htl : tailed P F (kinds fr0) c0 = true) (hX : Rows X w0)
    (hlone : ∀ t, ∃ N fr v', runN P N (lone (plus fr0 [.code c0]) [pit] { veilW X w0 with tape := t, drawn := 0 }) = .next (lone fr [pit] v') ∧ fr.mode = .run ∧ fr.todo = [] ∧ Fin fr v')
    (hD : ∀ (w w' : World) (es : Array Event), (∀ b, X b → w'.heap[b]? = w.heap[b]?) → w'.tape = w.tape → w.heap.size ≤ w'.heap.size → (∀ e ∈ es, FineE X w'.heap.size e) → D w w' es)
    (hStop : ∀ fr v' w', Fin fr v' → fr.mode = .run → fr.todo = [] → v'.heap = (veilW X w').heap → v'.os = w'.os → v'.output = w'.output → Keep X w0 w' → w'.tape = w0.tape → Stop (G (plus fr (.code rest :: k)) cs) w') :
    Runs P D Stop (G (plus fr0 (.code (graftf rest c0) :: k)) cs) w0 := by
  classical
  have hXB : ∀ b, X b → b < w0.heap.size := fun b hb => let ⟨c, e, h1, _⟩ := hX b hb; (Array.getElem?_eq_some_iff.1 h1).1
  refine Classical.byContradiction fun hbad => ?_
  let good : StG → Prop := fun s => OkG P F w0.heap.size (kinds fr0) s ∧ ¬ Runs P D Stop (G (RF rest k s) (RC rest k cs s)) s.w
  have hex : ∀ s : StG, good s → ∃ d, ¬ ∃ g' w' es, stepG P true (G (RF rest k s) (RC rest k cs s)) (s.w.at d) = .go g' w' es ∧ D (s.w.at d) w' es ∧ Runs P D Stop g' w' := fun s hs =>
    Classical.byContradiction fun hn => hs.2 (Runs.of_step rfl fun d => Classical.byContradiction fun h => hn ⟨d, h⟩)
  let dd : StG → Nat := fun s => if h : good s then Classical.choose (hex s h) else 0
  have hdd : ∀ s, good s → ¬ ∃ g' w' es, stepG P true (G (RF rest k s) (RC rest k cs s)) (s.w.at (dd s)) = .go g' w' es ∧ D (s.w.at (dd s)) w' es ∧ Runs P D Stop g' w' := fun s hs => by
    have : dd s = Classical.choose (hex s hs) := dif_pos hs
    rw [this]
    exact Classical.choose_spec (hex s hs)
  let nxt : StG → StG → Prop := fun s s' => s'.c = nextc s ∧ ∃ es, stepG P true (G (RF rest k s) (RC rest k cs s)) (s.w.at (dd s)) = .go (G (RF rest k s') (RC rest k cs s')) s'.w es
  have huni : ∀ s a b, nxt s a → nxt s b → a = b := fun s a b ⟨c1, e1, h1⟩ ⟨c2, e2, h2⟩ => by
    rw [h1] at h2
    injection h2 with h3 h4
    obtain ⟨af, ap, aw, ac⟩ := a
    obtain ⟨bf, bp, bw, bc⟩ := b
    simp only at c1 c2 h4
    subst c1 c2 h4
    obtain ⟨x, y⟩ := plus_inj h3
    subst x y
    rfl
  let nx : StG → StG := fun s => if h : ∃ s', nxt s s' then Classical.choose h else s
  have hnx : ∀ s s', nxt s s' → nx s = s' := fun s s' h => by
    have he : ∃ s', nxt s s' := ⟨s', h⟩
    have : nx s = Classical.choose he := dif_pos he
    rw [this]
    exact huni s _ _ (Classical.choose_spec he) h
  let S : Nat → StG := fun i => Nat.rec ⟨fr0, [], w0, c0⟩ (fun _ s => nx s) i
  have hS0 : S 0 = ⟨fr0, [], w0, c0⟩ := rfl
  have hSs : ∀ i, S (i + 1) = nx (S i) := fun i => rfl
  let mm : StG → Nat := fun s => gaft (stepG P true (G (LF s) (LC s)) (veilW X (s.w.at (dd s)))) - dd s
  let pos : Nat → Nat := fun i => Nat.rec 0 (fun k p => p + mm (S k)) i
  have hp0 : pos 0 = 0 := rfl
  have hps : ∀ i, pos (i + 1) = pos i + mm (S i) := fun i => rfl
  have hmono : ∀ i k, i ≤ k → pos i ≤ pos k := fun i k h => by
    induction h with
    | refl => exact Nat.le_refl _
    | step h ih => exact Nat.le_trans ih (by rw [hps]; exact Nat.le_add_right _ _)
  let τ : Nat → Question → Nat := fun x q => if h : ∃ i, pos i ≤ x ∧ x < pos (i + 1) then (S (Classical.choose h)).w.tape (dd (S (Classical.choose h)) + (x - pos (Classical.choose h))) q else 0
  have hτ : ∀ i j q, j < mm (S i) → τ (pos i + j) q = (S i).w.tape (dd (S i) + j) q := fun i j q hj => by
    have h : ∃ k, pos k ≤ pos i + j ∧ pos i + j < pos (k + 1) := ⟨i, Nat.le_add_right _ _, by rw [hps]; omega⟩
    have e : τ (pos i + j) q = (S (Classical.choose h)).w.tape (dd (S (Classical.choose h)) + (pos i + j - pos (Classical.choose h))) q := dif_pos h
    obtain ⟨h1, h2⟩ := Classical.choose_spec h
    have hk : Classical.choose h = i := by
      rcases Nat.lt_trichotomy (Classical.choose h) i with hlt | heq | hgt
      · have h3 : pos (Classical.choose h + 1) ≤ pos i := hmono _ _ hlt
        omega
      · exact heq
      · have h3 : pos (i + 1) ≤ pos (Classical.choose h) := hmono _ _ hgt
        rw [hps] at h3
        omega
    rw [e, hk, Nat.add_sub_cancel_left]
  obtain ⟨N, frN, vN, hrun, hmN, htN, hfin⟩ := hlone τ
  have claim : ∀ i, i ≤ N → ∃ v, runN P i (lone (plus fr0 [.code c0]) [pit] { veilW X w0 with tape := τ, drawn := 0 }) = .next (lone (LF (S i)) (LC (S i)) v) ∧ good (S i) ∧ (v.heap = (veilW X (S i).w).heap ∧ v.os = (S i).w.os ∧ v.output = (S i).w.output ∧ Rows X (S i).w ∧ w0.heap.size ≤ (S i).w.heap.size) ∧ v.drawn = pos i ∧ v.tape = τ ∧ Keep X w0 (S i).w ∧ (S i).w.tape = w0.tape := by
    intro i
    induction i with
    | zero =>
      intro _
      refine ⟨{ veilW X w0 with tape := τ, drawn := 0 }, rfl, ⟨⟨⟨hc, .inl hm, (fun c hc => by cases hc), rfl⟩, htl⟩, hbad⟩, ⟨rfl, rfl, rfl, hX, Nat.le_refl _⟩, rfl, rfl, Keep.refl _ _, rfl⟩
    | succ i ih =>
      intro hi
      obtain ⟨v, hr, hg, hv, hdr, htp, hkeep, htw⟩ := ih (by omega)
      obtain ⟨⟨hok1, htl1⟩, hnr⟩ := hg
      have hrest : ∃ n, N = i + (n + 1) := ⟨N - i - 1, by omega⟩
      obtain ⟨n, hn⟩ := hrest
      have hrun2 : runN P (n + 1) (lone (LF (S i)) (LC (S i)) v) = .next (lone frN [pit] vN) := by
        have := hrun
        rw [hn, runN_add, hr] at this
        exact this
      have hhome : Home (lone frN [pit] vN) := ⟨frN, vN, rfl, fun ch => by rw [hmN]; simp⟩
      have hgo : ∀ {g' : Frame} {cs' : List Frame} {v' : World} {es : Array Event}, stepG P true (G (LF (S i)) (LC (S i))) v = .go (G g' cs') v' es → step P (lone (LF (S i)) (LC (S i)) v) = .next (lone g' cs' v') := fun h => step_lone_go (by
        have : stepG P true { frame := LF (S i), callers := LC (S i), status := .running, dying := none } v = _ := h
        rw [this]
        rfl)
      obtain ⟨hv1, hv2, hv3, hv4, hv5⟩ := hv
      have hX' : Rows X ((S i).w.at (dd (S i))) := hv4
      by_cases hbot : (S i).pl = [] ∧ (S i).fr.mode = .run ∧ (S i).fr.todo = []
      · -- between two parts
        obtain ⟨hp, hmr, hto⟩ := hbot
        generalize hSi : S i = s at hok1 htl1 hnr hv1 hv2 hv3 hv4 hv5 hX' hp hmr hto hr hrun2 hdr hkeep htw
        obtain ⟨fr, pl, w, c⟩ := s
        simp only at hok1 htl1 hnr hv1 hv2 hv3 hv4 hv5 hX' hp hmr hto hdr hkeep htw
        subst hp
        obtain ⟨fn, tmps, todo, defers, mode, kind, round⟩ := fr
        have h6 : mode = .run := hmr
        have h7 : todo = [] := hto
        subst h6 h7
        cases c with
        | skip =>
          exfalso
          have h1 : step P (lone (LF ⟨⟨fn, tmps, [], defers, .run, kind, round⟩, [], w, .skip⟩) (LC ⟨⟨fn, tmps, [], defers, .run, kind, round⟩, [], w, .skip⟩) v) = .next (lone ⟨fn, tmps, [], defers, .run, kind, round⟩ [pit] v) := step_lone_go (by
            simp [LF, LC, plus, tip, ext, stepG, stepG.exec])
          have hrun3 := runN_next h1 hrun2
          cases n with
          | zero =>
            unfold runN at hrun3
            injection hrun3 with hrun3
            obtain ⟨e1, _, e3⟩ := lone_inj hrun3
            refine hnr (.stop fun d => ?_)
            have := hStop frN vN (w.at d) hfin hmN htN (by rw [← e3]; exact hv1) (by rw [← e3]; exact hv2) (by rw [← e3]; exact hv3) ⟨hkeep.same, hkeep.back⟩ htw
            rw [← e1] at this
            exact this
          | succ n =>
            have hk0 : kind = .normal := hok1.calm.kind
            cases round with
            | none =>
              have h2 : step P (lone ⟨fn, tmps, [], defers, .run, kind, none⟩ [pit] v) = .next (lone ⟨fn, tmps, [], defers, .returning, kind, none⟩ [pit] v) := step_lone_go (by simp [stepG, stepG.exec])
              have hrun4 := runN_next h2 hrun3
              have hnv : NoView v := fun b o e => (veilW_veil hv4).novv b o (by rw [← hv1]; exact e)
              exact ret_away n ⟨fn, tmps, [], defers, .returning, kind, none⟩ v frN vN rfl hk0 hok1.calm.defers hnv hok1.calm.fn hrun4 hmN
            | some l =>
              subst hk0
              cases hr9 : (Instr.endRound l none).run P v with
              | ok x v1 =>
                have h2 : step P (lone ⟨fn, tmps, [], defers, .run, .normal, some l⟩ [pit] v) = .next (lone pit [] v1) := step_lone_go (by simp [stepG, stepG.exec, hr9, doReturn, pit_finish])
                exact pit_away n v1 _ (runN_next h2 hrun3) hhome
              | halt x v1 =>
                have h2 : step P (lone ⟨fn, tmps, [], defers, .run, .normal, some l⟩ [pit] v) = .ended (.stuck "range over a function: no such loop" ((⟨fn, tmps, [], defers, .run, .normal, some l⟩ : Frame).pos P)) v1 := step_lone_ended (by simp [stepG, stepG.exec, hr9])
                exact absurd hrun3 (runN_ended h2 n _)
        | seq x y =>
          have htt : codeCalm P F (kinds fr0) x = true ∧ tailed P F (kinds fr0) y = true := by simpa [tailed] using htl1
          let s' : StG := ⟨⟨fn, tmps, [.code x], defers, .run, kind, round⟩, [], w.at (dd ⟨⟨fn, tmps, [], defers, .run, kind, round⟩, [], w, .seq x y⟩), y⟩
          have hreal : stepG P true (G (RF rest k ⟨⟨fn, tmps, [], defers, .run, kind, round⟩, [], w, .seq x y⟩) (RC rest k cs ⟨⟨fn, tmps, [], defers, .run, kind, round⟩, [], w, .seq x y⟩)) (w.at (dd ⟨⟨fn, tmps, [], defers, .run, kind, round⟩, [], w, .seq x y⟩)) = .go (G (RF rest k s') (RC rest k cs s')) s'.w #[] := by
            simp [RF, RC, plus, tip, ext, graftf, stepG, stepG.exec, G, s']
          have hst : stepG P true (G (LF ⟨⟨fn, tmps, [], defers, .run, kind, round⟩, [], w, .seq x y⟩) (LC ⟨⟨fn, tmps, [], defers, .run, kind, round⟩, [], w, .seq x y⟩)) v = .go (G (LF s') (LC s')) v #[] := by
            simp [LF, LC, plus, tip, ext, stepG, stepG.exec, G, s']
          have hst0 : ∀ u, stepG P true (G (LF ⟨⟨fn, tmps, [], defers, .run, kind, round⟩, [], w, .seq x y⟩) (LC ⟨⟨fn, tmps, [], defers, .run, kind, round⟩, [], w, .seq x y⟩)) u = .go (G (LF s') (LC s')) u #[] := fun u => by
            simp [LF, LC, plus, tip, ext, stepG, stepG.exec, G, s']
          have hnext : S (i + 1) = s' := by rw [hSs, hSi]; exact hnx _ _ ⟨rfl, _, hreal⟩
          have hDD : D (w.at (dd ⟨⟨fn, tmps, [], defers, .run, kind, round⟩, [], w, .seq x y⟩)) s'.w #[] := hD _ _ _ (fun b hb => rfl) rfl (Nat.le_refl _) (fun e he => by simp at he)
          have hgood : good ⟨⟨fn, tmps, [], defers, .run, kind, round⟩, [], w, .seq x y⟩ := ⟨⟨hok1, htl1⟩, hnr⟩
          have hnr' : ¬ Runs P D Stop (G (RF rest k s') (RC rest k cs s')) s'.w := fun h => hdd _ hgood ⟨_, _, _, hreal, hDD, h⟩
          have hkk : kinds s'.fr = kinds fr0 := hok1.link
          have hc' : FrCalm P F w0.heap.size s'.fr := ⟨hok1.calm.fn, fun it hit => by
            have : it = .code x := List.mem_singleton.1 hit
            rw [this, hkk]
            exact htt.1, hok1.calm.defers, hok1.calm.kind, hok1.calm.slots⟩
          have hmm : mm (S i) = 0 := by
            rw [hSi]
            show gaft _ - _ = 0
            rw [hst0]
            show dd _ - dd _ = 0
            omega
          refine ⟨v, ?_, by rw [hnext]; exact ⟨⟨⟨hc', .inl rfl, hok1.waits, hkk⟩, htt.2⟩, hnr'⟩, by rw [hnext]; exact ⟨hv1, hv2, hv3, hv4, hv5⟩, ?_, htp, by rw [hnext]; exact ⟨hkeep.same, hkeep.back⟩, by rw [hnext]; exact htw⟩
          · rw [runN_add, hr, hnext]
            show runN P 1 _ = _
            unfold runN
            rw [show step P (lone (LF ⟨⟨fn, tmps, [], defers, .run, kind, round⟩, [], w, .seq x y⟩) (LC ⟨⟨fn, tmps, [], defers, .run, kind, round⟩, [], w, .seq x y⟩) v) = .next (lone (LF s') (LC s') v) from step_lone_go (by
              have : stepG P true { frame := LF ⟨⟨fn, tmps, [], defers, .run, kind, round⟩, [], w, .seq x y⟩, callers := LC ⟨⟨fn, tmps, [], defers, .run, kind, round⟩, [], w, .seq x y⟩, status := .running, dying := none } v = _ := hst
              rw [this]
              rfl)]
            rfl
          · rw [hps, hmm, Nat.add_zero]
            exact hdr
        | _ => simp [tailed] at htl1
      have hb : (S i).pl = [] → (S i).fr.mode = .run → (S i).fr.todo ≠ [] := fun h1 h2 h3 => hbot ⟨h1, h2, h3⟩
      have hkl : ∀ id, exitTo id [Item.code (S i).c] = none := fun id => rfl
      rcases pair_step hF hok1 hXB [.code (S i).c] (.code (graftf rest (S i).c) :: k) (.inl hb) hkl cs v ((S i).w.at (dd (S i))) hX' hv5 hv1 hv2 hv3 (fun j q hj => by
          rw [htp, hdr]
          exact hτ i j q (by
            show j < gaft _ - dd (S i)
            have hj : dd (S i) + j < gaft (stepG P true (G (LF (S i)) (LC (S i))) (veilW X ((S i).w.at (dd (S i))))) := hj
            omega)) with ⟨fr', pl', v', es', hst, hok', w', es, hreal, hq1, hq2, hq3, hk', hd', ht1, ht2, hge, hsz, hfine, hgf⟩ | ⟨hpl0, x, v', es', hst⟩ | ⟨fp, ch, v', es', hst, hnv', hfp, hmk⟩ | ⟨o, v', es', hst⟩
      · skip
        have hnc : nextc (S i) = (S i).c := by
          unfold nextc
          split
          · rename_i h1 h2 h3 h4
            exact absurd h2 (hb h1 h3)
          · rfl
        have hnext : S (i + 1) = ⟨fr', pl', w', (S i).c⟩ := by rw [hSs]; exact hnx _ _ ⟨hnc.symm, es, hreal⟩
        have hDD : D ((S i).w.at (dd (S i))) w' es := hD _ _ _ (fun b hb => hk'.same b (.inl hb)) ht2 hsz hfine
        have hnr' : ¬ Runs P D Stop (G (RF rest k ⟨fr', pl', w', (S i).c⟩) (RC rest k cs ⟨fr', pl', w', (S i).c⟩)) w' := fun h => hdd (S i) ⟨⟨hok1, htl1⟩, hnr⟩ ⟨_, _, _, hreal, hDD, h⟩
        have hmm : mm (S i) + dd (S i) = w'.drawn := by
          show gaft _ - dd (S i) + dd (S i) = w'.drawn
          have hgf : gaft (stepG P true (G (LF (S i)) (LC (S i))) (veilW X ((S i).w.at (dd (S i))))) = w'.drawn := hgf
          rw [hgf]
          have hge : dd (S i) ≤ w'.drawn := hge
          omega
        refine ⟨v', ?_, by rw [hnext]; exact ⟨⟨hok', htl1⟩, hnr'⟩, by rw [hnext]; exact ⟨hq1, hq2, hq3, hX'.keep fun b hb => hk'.same b (.inl hb), Nat.le_trans hv5 hsz⟩, ?_, ht1.trans htp, by rw [hnext]; exact hkeep.trans ⟨hk'.same, hk'.back⟩, by rw [hnext]; exact ht2.trans htw⟩
        · rw [runN_add, hr, hnext]
          show runN P 1 _ = _
          unfold runN
          rw [hgo hst]
          rfl
        · rw [hps, ← hdr]
          have hd' : w'.drawn + v.drawn = v'.drawn + dd (S i) := hd'
          omega
      · have hst2 := hgo (g' := pit.finish x) (cs' := []) hst
        rw [pit_finish] at hst2
        exact absurd hhome (pit_away n v' _ (runN_next hst2 hrun2))
      · exact absurd hhome (panic_away n (ext [.code (S i).c] (S i).pl) { fp with mode := .panicking ch } ch v' _ rfl hmk hnv' hfp (ext_waits htl1 hok1.link hok1.waits) (runN_next (hgo hst) hrun2))
      · have hst2 : step P (lone (LF (S i)) (LC (S i)) v) = .ended o v' := step_lone_ended (by
          have : stepG P true { frame := LF (S i), callers := LC (S i), status := .running, dying := none } v = _ := hst
          rw [this]
          rfl)
        exact absurd hrun2 (runN_ended hst2 n _)
  obtain ⟨v, hr, hg, hv, _, _, hkeep, htw⟩ := claim N (Nat.le_refl _)
  rw [hr] at hrun
  injection hrun with hrun
  obtain ⟨e1, e2, e3⟩ := lone_inj hrun
  have hpl : (S N).pl = [] := by
    cases h : (S N).pl with
    | nil => rfl
    | cons c l =>
      unfold LC at e2
      rw [h] at e2
      simp [ext] at e2
  rw [← e1] at htN
  unfold LF at htN
  rw [hpl] at htN
  simp [plus, tip] at htN
end
end Go.Proofs.Ytoipkpndfgcmcaa.Veils

/-
  Goroutine 0's own way beside others that only leave, on whatever tape: what stands of the trace. The conditions stand in each theorem. No program in sight.
-/
namespace Go.Proofs.Ytoipkpndfgcmcaa.Veils
open Go Go.Conc
open Go.ConcN (CT Ok0 OkW Apart sumTo upd sumTo_upd upd_ne upd_same Deaf_still)
set_option linter.unusedVariables false

def no2 : Nat → Loc → Prop := fun _ _ => False
/-- The cells of the hidden blocks. -/
def ShX (X : Nat → Prop) : Loc → Prop := fun l => ∃ a, l = .cell a ∧ X a.block
/-- What it touches lies below B. -/
def LowT (B : Nat) (act : MemAct) : Prop := ∀ x, act.touch? = some x → x.loc.low B
theorem LowT.mono {B B' : Nat} {act : MemAct} (h : LowT B act) (hB : B ≤ B') : LowT B' act := fun x hx => Loc.low_mono hB (h x hx)
theorem LowT.none {B : Nat} {act : MemAct} (h : act.touch? = none) : LowT B act := fun x hx => by rw [h] at hx; cases hx
theorem LowT.of {B : Nat} {act : MemAct} (h : act.low B) : LowT B act := fun x hx => by
  cases act with
  | access e => simp only [MemAct.touch?, Option.some.injEq] at hx; subst hx; exact h
  | mark m =>
    cases m with
    | read p => injection hx with hx; subst hx; exact h
    | write p => injection hx with hx; subst hx; exact h
    | _ => cases hx
  | _ => cases hx
/-- What is held of the trace between two calls that go: J others have been started. -/
structure Past2 (X : Nat → Prop) (B J : Nat) (t : Trace) : Prop where
  ct : CT (ShX X) no2 no2 t J
  over : t.HandedOver
  hears : Deaf t 0 = 0
  seen : ∀ op ∈ t, LowT B op.act
theorem apart_no (Sh : Loc → Prop) : Apart Sh no2 no2 := ⟨fun _ _ _ h => h.elim, fun _ _ _ h => h.elim, fun _ _ h => h.elim, fun _ _ h => h.elim⟩
theorem fine_touch {X : Nat → Prop} {n : Nat} {e : Event} (h : FineE X n e) : (∀ x, (MemAct.ofEvent e).touch? = some x → ¬ ShX X x.loc) ∧ (MemAct.ofEvent e).low n ∧ e.loc ≠ .mark .disable ∧ e.loc ≠ .mark .enable := by
  obtain ⟨loc, wr, sy⟩ := e
  rcases h with ⟨a, h1, h2, h3, h4⟩ | ⟨r, h1, h2, h3, h4⟩ | h
  · simp only at h1 h4
    subst h1 h4
    refine ⟨fun x hx => ?_, by cases wr <;> exact h3, by simp, by simp⟩
    have : x.loc = .cell a := by cases wr <;> (simp [MemAct.ofEvent, MemAct.touch?] at hx; subst hx; rfl)
    rintro ⟨b, hb, hX⟩
    rw [this] at hb
    cases hb
    exact h2 hX
  · simp only at h1 h4
    subst h1
    have hx : ∀ x, (MemAct.ofEvent ⟨.obj r, wr, sy⟩).touch? = some x → x.loc = .obj r := fun x hx => by
      cases wr <;> cases sy <;> (simp [MemAct.ofEvent, MemAct.touch?] at hx <;> (subst hx; rfl))
    refine ⟨fun x hx' => ?_, ?_, by simp, by simp⟩
    · rintro ⟨b, hb, hX⟩
      rw [hx x hx'] at hb
      cases hb
    · rcases h4 with h4 | h4 <;> subst h4
      · cases sy <;> exact h3
      · cases wr <;> exact h3
  · simp only at h
    subst h
    refine ⟨fun x hx => ?_, ?_, by simp, by simp⟩
    · simp [MemAct.ofEvent, MemAct.touch?] at hx
    · simp [MemAct.ofEvent, MemAct.low]
section
variable {P : Program} {X : Nat → Prop} {B J : Nat} {t : Trace}
theorem Past2.more {B' : Nat} (h : Past2 X B J t) (hB : B ≤ B') : Past2 X B' J t := ⟨h.ct, h.over, h.hears, fun op hop => (h.seen op hop).mono hB⟩
/-- Goroutine 0's own step. -/
theorem Past2.own (h : Past2 X B J t) {B' : Nat} (hB : B ≤ B') {fn : FuncId} {pos : String} {es : Array Event} (hes : ∀ e ∈ es, FineE X B' e) : Past2 X B' J (t ++ MemOp.ofEvents 0 fn pos es) := by
  refine ⟨h.ct.app0 (apart_no _) (fun op hop => ?_), handedOver_app h.over (fun op hop => ?_), ?_, fun op hop => ?_⟩
  · obtain ⟨e, he, rfl⟩ := Go.Conc.mem_ofEvents hop
    exact ⟨rfl, fun x hx => .inr ⟨(fine_touch (hes e he)).1 x hx, fun _ _ _ h => h, fun _ _ _ _ h => h⟩⟩
  · obtain ⟨e, he, rfl⟩ := Go.Conc.mem_ofEvents hop
    exact .inl rfl
  · rw [Deaf_own, h.hears]
    exact deafBehind_still (fun e he => ⟨(fine_touch (hes e he)).2.2.1, (fine_touch (hes e he)).2.2.2⟩) _
  · rcases Array.mem_append.1 hop with h1 | h1
    · exact (h.seen op h1).mono hB
    · obtain ⟨e, he, rfl⟩ := Go.Conc.mem_ofEvents h1
      exact LowT.of (fine_touch (hes e he)).2.1
/-- A leaver's step. -/
theorem Past2.mute (h : Past2 X B J t) {g : Nat} (h1 : 1 ≤ g) (hJ : g ≤ J) {fn : FuncId} {pos : String} {es : Array Event} (hm : ∀ e ∈ es, e.mute = true) : Past2 X B J (t ++ MemOp.ofEvents g fn pos es) := by
  refine ⟨h.ct.appW (apart_no _) h1 hJ (fun op hop => ?_), handedOver_app h.over (fun op hop => ?_), ?_, fun op hop => ?_⟩
  · obtain ⟨e, he, rfl⟩ := Go.Conc.mem_ofEvents hop
    refine ⟨rfl, fun x hx => ?_⟩
    rw [touch_mute (hm e he)] at hx
    cases hx
  · obtain ⟨e, he, rfl⟩ := Go.Conc.mem_ofEvents hop
    exact .inr (touch_mute (hm e he))
  · rw [Deaf_other t (g := 0) (g' := g) (by omega) _ (fun op hop => by obtain ⟨e, _, rfl⟩ := Go.Conc.mem_ofEvents hop; rfl)]
    exact h.hears
  · rcases Array.mem_append.1 hop with h2 | h2
    · exact h.seen op h2
    · obtain ⟨e, he, rfl⟩ := Go.Conc.mem_ofEvents h2
      exact LowT.none (touch_mute (hm e he))
def DF (X : Nat → Prop) (w w' : World) (es : Array Event) : Prop := w.heap.size ≤ w'.heap.size ∧ ∀ e ∈ es, FineE X w'.heap.size e
/-- All but goroutine 0 only leave, under one's own step. -/
theorem Leavers.own0 {gs : Array Goroutine} {q : Nat → Nat} (hL : Leavers P t gs q) (hz : 0 < gs.size) (f : Goroutine → Goroutine) (hf : ∀ i n d g, 0 < i → gs[i]? = some g → QuitsD P n d g → f g = g) (a' : Goroutine) {fn : FuncId} {pos : String} {es : Array Event} : Leavers P (t ++ MemOp.ofEvents 0 fn pos es) ((gs.map f).setIfInBounds 0 a') q := by
  refine ⟨fun j x hj hx => ?_, fun j hj => ?_⟩
  · rw [Array.getElem?_setIfInBounds_ne (by omega), Array.getElem?_map] at hx
    obtain ⟨y, hy, rfl⟩ := Option.map_eq_some_iff.1 hx
    have hq := hL.old j y hj hy
    rw [hf j _ _ y hj hy hq, Deaf_other t (g := j) (g' := 0) (by omega) _ (fun op hop => by obtain ⟨e, _, rfl⟩ := Go.Conc.mem_ofEvents hop; rfl)]
    exact hq
  · rw [Deaf_other t (g := j) (g' := 0) (by have : gs.size ≤ j := (by simpa using hj); omega) _ (fun op hop => by obtain ⟨e, _, rfl⟩ := Go.Conc.mem_ofEvents hop; rfl)]
    exact hL.above j (by simpa using hj)
theorem all_awake0 {gs : Array Goroutine} {q : Nat → Nat} {a : Goroutine} (h0 : gs[0]? = some a) (hr : a.status = .running) (hL : Leavers P t gs q) : ∀ g ∈ gs, awake g := by
  intro g hg
  obtain ⟨i, hi, rfl⟩ := Array.mem_iff_getElem.1 hg
  rcases Nat.eq_zero_or_pos i with rfl | hp
  · have : gs[0] = a := by simpa [Array.getElem?_eq_getElem hi] using h0
    rw [this]
    exact awake_of (.inl hr)
  · exact awake_of ((hL.old i _ hp (Array.getElem?_eq_getElem hi)).status.elim .inl fun x => .inr (.inr x))
theorem runs_beside {Stop : Goroutine → World → Prop} {a : Goroutine} {w : World} (h : Runs P (DF X) Stop a w) :
    ∀ (gs : Array Goroutine) (sl : Option (Nat × Nat)) (t : Trace) (q : Nat → Nat) (d0 : Nat), gs.size = J + 1 → gs[0]? = some a → Leavers P t gs q → Past2 X w.heap.size J t →
      ∃ (N : Nat) (gs' : Array Goroutine) (a' : Goroutine) (w' : World) (sl' : Option (Nat × Nat)) (t' : Trace) (q' : Nat → Nat),
        runNT P N (crowd gs (w.at d0) sl) t = (.next (crowd gs' w' sl'), t') ∧ gs'.size = J + 1 ∧ gs'[0]? = some a' ∧ Stop a' w' ∧ Leavers P t' gs' q' ∧ Past2 X w'.heap.size J t' := by
  induction h with
  | stop hs =>
    rename_i g w
    intro gs sl t q d0 hz h0 hL hP
    exact ⟨0, gs, g, w.at d0, sl, t, q, rfl, hz, h0, hs d0, hL, hP⟩
  | step gf wf ef hrun hst hD hR ih =>
    rename_i g w
    have key : ∀ (M : Nat) (gs : Array Goroutine) (sl : Option (Nat × Nat)) (t : Trace) (q : Nat → Nat) (d0 : Nat), sumTo gs.size q = M → gs.size = J + 1 → gs[0]? = some g → Leavers P t gs q → Past2 X w.heap.size J t →
        ∃ (N : Nat) (gs' : Array Goroutine) (a' : Goroutine) (w' : World) (sl' : Option (Nat × Nat)) (t' : Trace) (q' : Nat → Nat),
          runNT P N (crowd gs (w.at d0) sl) t = (.next (crowd gs' w' sl'), t') ∧ gs'.size = J + 1 ∧ gs'[0]? = some a' ∧ Stop a' w' ∧ Leavers P t' gs' q' ∧ Past2 X w'.heap.size J t' := by
      intro M
      induction M using Nat.strongRecOn with
      | ind M ihM =>
        intro gs sl t q d0 hM hz h0 hL hP
        obtain ⟨i, g', d, sl', hi, hg, hpick⟩ := crowd_pick (P := P) (w := w.at d0) (sl := sl) (all_awake0 h0 hrun hL) ⟨0, g, h0, hrun⟩
        have hdd : (w.at d0).at d = w.at d := rfl
        rw [hdd] at hpick
        rcases Nat.eq_zero_or_pos i with rfl | hpos
        · obtain rfl : g' = g := by rw [h0] at hi; exact (Option.some.inj hi).symm
          have hrunT := runT_crowd_go (P := P) (sl := sl') (i := 0) hi (show stepG P (0 == 0) g' (w.at d) = _ from hst d)
          have hL' := Leavers.own0 hL (by omega) (woken P g' (gf d) (wf d)) (fun i n d g _ _ hq => woken_quitsD hq) (gf d) (fn := g'.frame.fn) (pos := g'.frame.place) (es := ef d)
          have hP' : Past2 X (wf d).heap.size J (t ++ MemOp.ofEvents 0 g'.frame.fn g'.frame.place (ef d)) := hP.own (hD d).1 (hD d).2
          obtain ⟨N, gs', a', w', sl'', t', q', h1, h2, h3, h4, h5, h6⟩ := ih d ((gs.map (woken P g' (gf d) (wf d))).setIfInBounds 0 (gf d)) sl' _ q (wf d).drawn (by simp [hz]) (by simp [hz]) hL' hP'
          refine ⟨N + 1, gs', a', w', sl'', t', q', ?_, h2, h3, h4, h5, h6⟩
          simp only [runNT, hpick, hrunT]
          exact h1
        · have hq := hL.old i g' hpos hi
          have hi0 : (i == 0) = false := by simp; omega
          have hlt : i < gs.size := (Array.getElem?_eq_some_iff.1 hi).1
          cases hqi : q i with
          | zero =>
            rw [hqi] at hq
            have : g'.status = .finished := hq.1
            rw [this] at hg
            cases hg
          | succ k =>
            rw [hqi] at hq
            rcases hq with ⟨hf, _⟩ | ⟨_, g2, es, hm, hstp, hq'⟩
            · rw [hf] at hg; cases hg
            have hrunT := runT_crowd_go (P := P) (sl := sl') (i := i) hi (by rw [hi0]; exact hstp (w.at d))
            have hsum := sumTo_upd q k id hlt
            have hsum : sumTo gs.size (upd q i k) + (k + 1) = sumTo gs.size q + k := by simpa [hqi] using hsum
            have hother : ∀ j, j ≠ i → Deaf (t ++ MemOp.ofEvents i g'.frame.fn g'.frame.place es) j = Deaf t j := fun j hj => Deaf_other t (g := j) (g' := i) (fun e => hj e.symm) _ (fun op hop => by obtain ⟨e, _, rfl⟩ := Go.Conc.mem_ofEvents hop; rfl)
            have hL' : Leavers P (t ++ MemOp.ofEvents i g'.frame.fn g'.frame.place es) ((gs.map (woken P g' g2 (w.at d))).setIfInBounds i g2) (upd q i k) := by
              refine ⟨fun j x hj hx => ?_, fun j hj => ?_⟩
              · by_cases hji : i = j
                · subst hji
                  rw [Array.getElem?_setIfInBounds_self_of_lt (by simpa using hlt)] at hx
                  obtain rfl := Option.some.inj hx
                  rw [upd_same, Deaf_own]
                  exact hq'
                · rw [Array.getElem?_setIfInBounds_ne hji, Array.getElem?_map] at hx
                  obtain ⟨y, hy, rfl⟩ := Option.map_eq_some_iff.1 hx
                  have hqj := hL.old j y hj hy
                  rw [woken_quitsD hqj, upd_ne q k (Ne.symm hji), hother j (Ne.symm hji)]
                  exact hqj
              · have : gs.size ≤ j := by simpa using hj
                rw [hother j (by omega)]
                exact hL.above j this
            have h0' : ((gs.map (woken P g' g2 (w.at d))).setIfInBounds i g2)[0]? = some g := by
              rw [Array.getElem?_setIfInBounds_ne (by omega), Array.getElem?_map, h0]
              simp [woken_run hrun]
            obtain ⟨N, gs', a', w', sl'', t', q', h1, h2, h3, h4, h5, h6⟩ := ihM (sumTo gs.size (upd q i k)) (by omega) ((gs.map (woken P g' g2 (w.at d))).setIfInBounds i g2) sl' _ (upd q i k) d (by simp) (by simp [hz]) h0' hL' (hP.mute (by omega) (by omega) hm)
            refine ⟨N + 1, gs', a', w', sl'', t', q', ?_, h2, h3, h4, h5, h6⟩
            simp only [runNT, hpick, hrunT]
            exact h1
    intro gs sl t q d0 hz h0 hL hP
    exact key _ gs sl t q d0 rfl hz h0 hL hP
end
end Go.Proofs.Ytoipkpndfgcmcaa.Veils

/-
  n workers at once, each of which may make one block of its own; their starter, which makes what it likes, waits for them and goes on: what each suffers and what each may do; where each stands. The conditions stand in each definition. No program in sight.
-/
namespace Go.Proofs.Ytoipkpndfgcmcaa.Crew
open Go Go.Conc Go.ConcN Go.RowKit Go.Proofs.Ytoipkpndfgcmcaa.Veils
open Go.ConcR (KK wgBlock WgAt stA smA rd wr mk Payload DC0 Bk)
set_option linter.unusedVariables false
set_option linter.unusedSectionVars false
variable [Payload]

/-- The place: the group's block, the payload's, how many, where the phase's blocks begin, the type of a worker's own block. -/
structure Lay where
  ty : TypeId
  Wg : Nat
  C : Nat
  n : Nat
  N0 : Nat
  eH : TypeId
variable (L : Lay)
def Half (w : World) (b : Nat) : Prop := L.N0 ≤ b ∧ ∃ cs, w.heap[b]? = some (.cells cs L.eH)
/-- What the starter suffers. -/
structure RQ (w w₁ : World) : Prop where
  tape : w₁.tape = w.tape
  os : w₁.os = w.os
  out : w₁.output = w.output
  size : w.heap.size ≤ w₁.heap.size
  block : ∀ b, b < w.heap.size → b ≠ L.C → b ≠ L.Wg → ¬ Half L w b → w₁.heap[b]? = w.heap[b]?
  half : ∀ b, Half L w b → Half L w₁ b
  live : WgLive L.ty L.Wg w → WgLive L.ty L.Wg w₁
  pay : PayAt L.C L.n w → PayAt L.C L.n w₁
/-- What worker number i suffers, its own block being b. -/
structure RX (Low : Nat) (b : Option Nat) (i : Nat) (w w₁ : World) : Prop where
  size : w.heap.size ≤ w₁.heap.size
  block : ∀ r, r < Low → r < w.heap.size → r ≠ L.C → r ≠ L.Wg → ¬ Half L w r → w₁.heap[r]? = w.heap[r]?
  half : ∀ r, Half L w r → Half L w₁ r
  own : ∀ r, b = some r → w₁.heap[r]? = w.heap[r]?
  live : WgLive L.ty L.Wg w → WgLive L.ty L.Wg w₁
  pay : PayAt L.C L.n w → PayAt L.C L.n w₁
  cell : w₁.cell? ⟨L.C, i, none⟩ = w.cell? ⟨L.C, i, none⟩
/-- What the starter's own step may be while its blocks from Lw on are nobody else's. -/
def EvQ (X : Nat → Prop) (Lw : Nat) (w w' : World) (e : Event) : Prop :=
  (∃ a wr', e = ⟨.cell a, wr', false⟩ ∧ ¬ X a.block ∧ a.block ≠ L.C ∧ ¬ Half L w a.block ∧ a.block < w'.heap.size ∧ (wr' = true → Lw ≤ a.block)) ∨ e.loc = .mark .noRoom ∨ (∃ a, (e = ⟨.mark (.read a), false, true⟩ ∨ e = ⟨.mark (.write a), false, true⟩) ∧ a.block = L.Wg)
structure DQ (X : Nat → Prop) (Lw : Nat) (w w' : World) (es : Array Event) : Prop where
  tape : w'.tape = w.tape
  os : w'.os = w.os
  out : w'.output = w.output
  size : w.heap.size ≤ w'.heap.size
  block : ∀ b, b < w.heap.size → (b < Lw ∨ Half L w b) → w'.heap[b]? = w.heap[b]?
  half : ∀ b, Half L w' b → Half L w b
  evs : ∀ e ∈ es, EvQ L X Lw w w' e
def EvX (Rd : Nat → Prop) (b : Option Nat) (i : Nat) (w' : World) (e : Event) : Prop :=
  (∃ a wr', e = ⟨.cell a, wr', false⟩ ∧ a.block < w'.heap.size ∧ ((Rd a.block ∧ wr' = false) ∨ a = ⟨L.C, i, none⟩ ∨ b = some a.block)) ∨ e.loc = .mark .noRoom
structure DX (Rd : Nat → Prop) (b : Option Nat) (i : Nat) (w w' : World) (es : Array Event) : Prop where
  tape : w'.tape = w.tape
  os : w'.os = w.os
  out : w'.output = w.output
  size : w'.heap.size = w.heap.size
  block : ∀ r, r ≠ L.C → b ≠ some r → w'.heap[r]? = w.heap[r]?
  half : ∀ r, Half L w r → Half L w' r
  half' : ∀ r, Half L w' r → Half L w r
  pay : PayAt L.C L.n w → PayAt L.C L.n w'
  cells : ∀ i', i' ≠ i → w'.cell? ⟨L.C, i', none⟩ = w.cell? ⟨L.C, i', none⟩
  evs : ∀ e ∈ es, EvX L Rd b i w' e
section
variable {L} {w w₁ w₂ : World}
theorem RQ.refl (w : World) : RQ L w w := ⟨rfl, rfl, rfl, Nat.le_refl _, fun _ _ _ _ _ => rfl, fun _ h => h, id, id⟩
/-- A block that is no worker's own stays so. -/
theorem RQ.nohalf (h : RQ L w w₁) {b : Nat} (hb : b < w.heap.size) (hC : b ≠ L.C) (hW : b ≠ L.Wg) (hn : ¬ Half L w b) : ¬ Half L w₁ b := fun ⟨h1, cs, h2⟩ => hn ⟨h1, cs, by rw [← h.block b hb hC hW hn]; exact h2⟩
theorem RQ.trans (h : RQ L w w₁) (k : RQ L w₁ w₂) : RQ L w w₂ :=
  ⟨k.tape.trans h.tape, k.os.trans h.os, k.out.trans h.out, Nat.le_trans h.size k.size, fun b hb hC hW hn => (k.block b (Nat.lt_of_lt_of_le hb h.size) hC hW (h.nohalf hb hC hW hn)).trans (h.block b hb hC hW hn), fun b hb => k.half b (h.half b hb), fun x => k.live (h.live x), fun x => k.pay (h.pay x)⟩
theorem RQ.at (w : World) (d : Nat) : RQ L w (w.at d) := ⟨rfl, rfl, rfl, Nat.le_refl _, fun _ _ _ _ _ => rfl, fun _ h => h, id, id⟩
variable {Low i : Nat} {b : Option Nat}
theorem RX.refl (w : World) : RX L Low b i w w := ⟨Nat.le_refl _, fun _ _ _ _ _ _ => rfl, fun _ h => h, fun _ _ => rfl, id, id, rfl⟩
theorem RX.nohalf (h : RX L Low b i w w₁) {r : Nat} (hl : r < Low) (hr : r < w.heap.size) (hC : r ≠ L.C) (hW : r ≠ L.Wg) (hn : ¬ Half L w r) : ¬ Half L w₁ r := fun ⟨h1, cs, h2⟩ => hn ⟨h1, cs, by rw [← h.block r hl hr hC hW hn]; exact h2⟩
theorem RX.trans (h : RX L Low b i w w₁) (k : RX L Low b i w₁ w₂) : RX L Low b i w w₂ :=
  ⟨Nat.le_trans h.size k.size, fun r hl hr hC hW hn => (k.block r hl (Nat.lt_of_lt_of_le hr h.size) hC hW (h.nohalf hl hr hC hW hn)).trans (h.block r hl hr hC hW hn), fun r x => k.half r (h.half r x), fun r x => (k.own r x).trans (h.own r x), fun x => k.live (h.live x), fun x => k.pay (h.pay x), k.cell.trans h.cell⟩
theorem RX.at (w : World) (d : Nat) : RX L Low b i w (w.at d) := ⟨Nat.le_refl _, fun _ _ _ _ _ _ => rfl, fun _ h => h, fun _ _ => rfl, id, id, rfl⟩
/-- Where the place is sound. -/
structure Lay.Ok (L : Lay) : Prop where
  hW : L.Wg < L.N0
  hC : L.C < L.N0
  hCW : L.C ≠ L.Wg
theorem Lay.Ok.nW (h : L.Ok) : ¬ Half L w L.Wg := fun x => by have := x.1; have := h.hW; omega
theorem Lay.Ok.nC (h : L.Ok) : ¬ Half L w L.C := fun x => by have := x.1; have := h.hC; omega
/-- A worker's idle step, for the starter. -/
theorem RQ.of_DX {Rd : Nat → Prop} {es : Array Event} (hL : L.Ok) (h : DX L Rd b i w w₁ es) (hb : ∀ r, b = some r → Half L w r) : RQ L w w₁ :=
  ⟨h.tape, h.os, h.out, Nat.le_of_eq h.size.symm, fun r _ hC _ hn => h.block r hC (fun e => hn (hb r e)), h.half, fun ⟨st, sm, hl⟩ => ⟨st, sm, hl.of_block (h.block L.Wg (Ne.symm hL.hCW) (fun e => hL.nW (hb _ e)))⟩, h.pay⟩
/-- .. for another worker. -/
theorem RX.of_DX {Rd : Nat → Prop} {es : Array Event} {i' Low' : Nat} {b' : Option Nat} (hL : L.Ok) (h : DX L Rd b i w w₁ es) (hb : ∀ r, b = some r → Half L w r) (hi : i' ≠ i) (hbb : ∀ r, b' = some r → b ≠ some r ∧ r ≠ L.C) : RX L Low' b' i' w w₁ :=
  ⟨Nat.le_of_eq h.size.symm, fun r _ _ hC _ hn => h.block r hC (fun e => hn (hb r e)), h.half, fun r e => h.block r (hbb r e).2 (hbb r e).1, fun ⟨st, sm, hl⟩ => ⟨st, sm, hl.of_block (h.block L.Wg (Ne.symm hL.hCW) (fun e => hL.nW (hb _ e)))⟩, h.pay, h.cells i' hi⟩
/-- A turn of the group's block. -/
theorem half_of_aside (hL : L.Ok) (h : Go.Conc.Aside L.Wg w w₁) (r : Nat) : Half L w₁ r ↔ Half L w r := by
  constructor
  · rintro ⟨h1, cs, h2⟩
    exact ⟨h1, cs, by rw [← h.block r (by have := hL.hW; omega)]; exact h2⟩
  · rintro ⟨h1, cs, h2⟩
    exact ⟨h1, cs, by rw [h.block r (by have := hL.hW; omega)]; exact h2⟩
theorem pay_of_aside (hL : L.Ok) (h : Go.Conc.Aside L.Wg w w₁) (hp : PayAt L.C L.n w) : PayAt L.C L.n w₁ := let ⟨cs, h1, h2⟩ := hp; ⟨cs, (h.block L.C hL.hCW).trans h1, h2⟩
theorem RQ.of_wg (hL : L.Ok) (h : Go.Conc.Aside L.Wg w w₁) (hl : WgLive L.ty L.Wg w₁) : RQ L w w₁ :=
  ⟨h.tape, h.os, h.output, Nat.le_of_eq h.size.symm, fun r _ _ hW _ => h.block r hW, fun r => (half_of_aside hL h r).2, fun _ => hl, pay_of_aside hL h⟩
theorem RX.of_wg (hL : L.Ok) (h : Go.Conc.Aside L.Wg w w₁) (hl : WgLive L.ty L.Wg w₁) (hb : ∀ r, b = some r → r ≠ L.Wg) : RX L Low b i w w₁ :=
  ⟨Nat.le_of_eq h.size.symm, fun r _ _ _ hW _ => h.block r hW, fun r => (half_of_aside hL h r).2, fun r e => h.block r (hb r e), fun _ => hl, pay_of_aside hL h, cell_of_block (h.block L.C hL.hCW) i⟩
/-- The starter's step, for a worker. -/
theorem RX.of_DQ {X : Nat → Prop} {Lw : Nat} {es : Array Event} (hL : L.Ok) (h : DQ L X Lw w w₁ es) (hLw : Low ≤ Lw) (hN : L.N0 ≤ Lw) (hs : L.N0 ≤ w.heap.size) (hb : ∀ r, b = some r → Half L w r ∧ r < w.heap.size) : RX L Low b i w w₁ := by
  have hC := h.block L.C (Nat.lt_of_lt_of_le hL.hC hs) (.inl (Nat.lt_of_lt_of_le hL.hC hN))
  have hW := h.block L.Wg (Nat.lt_of_lt_of_le hL.hW hs) (.inl (Nat.lt_of_lt_of_le hL.hW hN))
  exact ⟨h.size, fun r hl hr _ _ _ => h.block r hr (.inl (Nat.lt_of_lt_of_le hl hLw)), fun r hr => ⟨hr.1, hr.2.imp fun cs x => by
      have := (Array.getElem?_eq_some_iff.1 x).1
      rw [h.block r this (.inr ⟨hr.1, cs, x⟩)]; exact x⟩, fun r e => h.block r (hb r e).2 (.inr (hb r e).1), fun ⟨st, sm, hl⟩ => ⟨st, sm, hl.of_block hW⟩, fun ⟨cs, h1, h2⟩ => ⟨cs, hC.trans h1, h2⟩, cell_of_block hC i⟩
/-- A new block of a worker's own. -/
theorem half_alloc (w : World) (cs : Array Value) (hs : L.N0 ≤ w.heap.size) : Half L (w.alloc (.cells cs L.eH)) w.heap.size := ⟨hs, cs, heap_alloc_new w _⟩
theorem half_old {w : World} {o : Obj} {r : Nat} (h : Half L w r) : Half L (w.alloc o) r := ⟨h.1, h.2.imp fun cs x => by rw [Below.heap_alloc _ _ _ (Array.getElem?_eq_some_iff.1 x).1]; exact x⟩
theorem RQ.of_alloc (w : World) (o : Obj) (hW : L.Wg < w.heap.size) (hC : L.C < w.heap.size) : RQ L w (w.alloc o) :=
  ⟨rfl, rfl, rfl, by rw [World.size_alloc]; omega, fun r hr _ _ _ => Below.heap_alloc _ _ _ hr, fun r => half_old, fun ⟨st, sm, hl⟩ => ⟨st, sm, hl.of_block (Below.heap_alloc _ _ _ hW)⟩, fun ⟨cs, h1, h2⟩ => ⟨cs, (Below.heap_alloc _ _ _ hC).trans h1, h2⟩⟩
theorem RX.of_alloc (w : World) (o : Obj) (hW : L.Wg < w.heap.size) (hC : L.C < w.heap.size) (hb : ∀ r, b = some r → r < w.heap.size) : RX L Low b i w (w.alloc o) :=
  ⟨by rw [World.size_alloc]; omega, fun r _ hr _ _ _ => Below.heap_alloc _ _ _ hr, fun r => half_old, fun r e => Below.heap_alloc _ _ _ (hb r e), fun ⟨st, sm, hl⟩ => ⟨st, sm, hl.of_block (Below.heap_alloc _ _ _ hW)⟩, fun ⟨cs, h1, h2⟩ => ⟨cs, (Below.heap_alloc _ _ _ hC).trans h1, h2⟩, cell_of_block (Below.heap_alloc _ _ _ hC) i⟩
/-- What the library's own walk of a worker suffers is less. -/
theorem RX.rw_ (h : RX L Low b i w w₁) (hl : L.N0 ≤ Low) (hs : L.N0 ≤ w.heap.size) : RW L.ty L.Wg L.C L.n L.N0 i w w₁ :=
  ⟨fun r hr hW hC => h.block r (by omega) (by omega) hC hW (fun x => by have := x.1; omega), h.live, h.pay, h.cell⟩
end
end Go.Proofs.Ytoipkpndfgcmcaa.Crew

/-
  Where the starter and each worker stand; each stands so under what it suffers. The conditions stand in each definition. No program in sight.
-/
namespace Go.Proofs.Ytoipkpndfgcmcaa.Crew
open Go Go.Conc Go.ConcN Go.RowKit Go.Proofs.Ytoipkpndfgcmcaa.Veils
open Go.ConcR (KK wgBlock WgAt stA smA rd wr mk Payload DC0 Bk)
set_option linter.unusedVariables false
set_option linter.unusedSectionVars false
variable [Payload]

section
variable (P : Program) (L : Lay) (X : Nat → Prop) (M K : Nat)
/-! a worker -/
/-- On its way to its release, by the library's own walk. -/
def AtEnd1 (i : Nat) (v : Value) (g : Goroutine) (w : World) : Prop := Goes P false (RW L.ty L.Wg L.C L.n L.N0 i) (DWs L.Wg no2 no2 L.C L.n (i + 1)) (AtR0 P L.ty L.Wg L.C L.n L.N0 (i + 1) v) K g w
/-- It makes its one block. -/
def AtMk (Low : Nat) (Rd : Nat → Prop) (i : Nat) (v : Value) (g : Goroutine) (w : World) : Prop :=
  g.status = .running ∧ ∃ g' cs, stepG P false g w = .go g' (w.alloc (.cells cs L.eH)) #[] ∧
    Goes P false (RX L Low (some w.heap.size) i) (DX L Rd (some w.heap.size) i) (AtEnd1 P L K i v) M g' (w.alloc (.cells cs L.eH))
inductive WS (Low : Nat) (Rd : Nat → Prop) (i : Nat) (v : Value) : Option Nat → Nat → Nat → Nat → Goroutine → World → Prop
  | pre {m : Nat} {g : Goroutine} {w : World} : Goes P false (RX L Low none i) (DX L Rd none i) (AtMk P L M K Low Rd i v) m g w → WS Low Rd i v none 7 (m + 1 + (M + 1 + K)) 0 g w
  | post {b m : Nat} {g : Goroutine} {w : World} : Goes P false (RX L Low (some b) i) (DX L Rd (some b) i) (AtEnd1 P L K i v) m g w → WS Low Rd i v (some b) 7 (m + 1 + K) 0 g w
  | lib {b : Option Nat} {s m d : Nat} {g : Goroutine} {w : World} : WSit P L.ty L.Wg L.C L.n no2 no2 L.N0 (i + 1) v s m d g w → WS Low Rd i v b s m d g w
/-! the starter -/
variable (val : Nat → Value) (vals : List Value) (Anch AnchW : Goroutine → World → Prop)
def GQ (Lw : Nat) (Stop : Goroutine → World → Prop) (m : Nat) (g : Goroutine) (w : World) : Prop := Goes P true (RQ L) (DQ L X Lw) Stop m g w
/-- The go statement. -/
def AtGo (j : Nat) (Next : Nat → Goroutine → World → Prop) (g : Goroutine) (w : World) : Prop :=
  g.status = .running ∧ ∃ g' child Rd, stepG P true g w = .spawn g' child w #[] ∧ child.status = .running ∧ (∀ b, Rd b → b < w.heap.size ∧ b ≠ L.C ∧ b ≠ L.Wg ∧ ¬ X b ∧ ¬ Half L w b) ∧
    (PayAt L.C L.n w → ∃ m, Goes P false (RX L w.heap.size none j) (DX L Rd none j) (AtMk P L M K w.heap.size Rd j (val j)) m child w) ∧ Next w.heap.size g' w
def AtOn (Lw j : Nat) (Next : Nat → Goroutine → World → Prop) (g : Goroutine) (w : World) : Prop :=
  g.status = .running ∧ ∃ g', stepG P true g w = .go g' w #[mk .enable] ∧ ∃ m, GQ P L X Lw (AtGo P L X M K val j Next) m g' w
def AtUp (Lw j : Nat) (Next : Nat → Goroutine → World → Prop) (g : Goroutine) (w : World) : Prop :=
  g.status = .running ∧ ∀ v : Nat, v < 2147483647 → WgAt L.ty L.Wg w (v * KK) 0 →
    ∃ g', stepG P true g w = .go g' (w.setCell (stA L.Wg) (.int .u64 ((v + 1) * KK))) #[rd (stA L.Wg), wr (stA L.Wg)] ∧ ∃ m, GQ P L X Lw (AtOn P L X M K val Lw j Next) m g' (w.setCell (stA L.Wg) (.int .u64 ((v + 1) * KK)))
def AtOff (Lw j : Nat) (Next : Nat → Goroutine → World → Prop) (g : Goroutine) (w : World) : Prop :=
  g.status = .running ∧ ∃ g', stepG P true g w = .go g' w #[mk .disable] ∧ ∃ m, GQ P L X Lw (AtUp P L X M K val Lw j Next) m g' w
def Starts (Fin : Nat → Goroutine → World → Prop) : Nat → Nat → Goroutine → World → Prop
  | 0, Lw, g, w => Fin Lw g w
  | r + 1, Lw, g, w => ∃ m, GQ P L X Lw (AtOff P L X M K val Lw (L.n - (r + 1)) (Starts Fin r)) m g w
def AtHear (g : Goroutine) (w : World) : Prop := g.status = .running ∧ ∃ g', stepG P true g w = .go g' w #[mk (.acquire (stA L.Wg))] ∧ (Full L.C vals w → g'.status = .running ∧ Anch g' w)
def AtBack (Lw : Nat) (g : Goroutine) (w : World) : Prop := g.status = .running ∧ ∃ g', stepG P true g w = .go g' w #[mk .enable] ∧ ∃ m, GQ P L X Lw (AtHear P L vals Anch) m g' w
def AtLast (Lw : Nat) (g : Goroutine) (w : World) : Prop := g.status = .running ∧ (WgAt L.ty L.Wg w 0 0 → ∃ g', stepG P true g w = .go g' w #[rd (stA L.Wg)] ∧ ∃ m, GQ P L X Lw (AtBack P L X vals Anch Lw) m g' w)
def AtSem (Lw : Nat) (g : Goroutine) (w : World) : Prop :=
  g.status = .running ∧ g.offers = none ∧ ((∃ st, WgAt L.ty L.Wg w st 0) → stepG P true g w = .go { g with status := .blocked } w #[]) ∧
    (WgAt L.ty L.Wg w 0 1 → ∃ g', stepG P true g w = .go g' (w.setCell (smA L.Wg) (.int .u32 0)) (semEvents (smA L.Wg)) ∧ ∃ m, GQ P L X Lw (AtLast P L X vals Anch Lw) m g' (w.setCell (smA L.Wg) (.int .u32 0)))
def AtSwap (Lw vs : Nat) (g : Goroutine) (w : World) : Prop :=
  g.status = .running ∧ ∀ v : Nat, v < 2147483648 → WgAt L.ty L.Wg w (v * KK) 0 →
    (v = vs → ∃ g', stepG P true g w = .go g' (w.setCell (stA L.Wg) (.int .u64 (v * KK + 1))) #[rd (stA L.Wg), wr (stA L.Wg)] ∧ ∃ m, GQ P L X Lw (AtSem P L X vals Anch Lw) m g' (w.setCell (stA L.Wg) (.int .u64 (v * KK + 1)))) ∧
    (v ≠ vs → ∃ g', stepG P true g w = .go g' w #[rd (stA L.Wg)] ∧ ∃ m, GQ P L X Lw AnchW m g' w)
def AtLook (Lw : Nat) (g : Goroutine) (w : World) : Prop :=
  g.status = .running ∧ ∀ v : Nat, v < 2147483648 → WgAt L.ty L.Wg w (v * KK) 0 → ∃ g', stepG P true g w = .go g' w #[rd (stA L.Wg)] ∧
    (v = 0 → ∃ m, GQ P L X Lw (AtBack P L X vals Anch Lw) m g' w) ∧ (v ≠ 0 → ∃ m, GQ P L X Lw (AtSwap P L X vals Anch AnchW Lw v) m g' w)
def AtIn (Lw : Nat) (g : Goroutine) (w : World) : Prop := g.status = .running ∧ ∃ g', stepG P true g w = .go g' w #[mk .disable] ∧ ∃ m, GQ P L X Lw AnchW m g' w
def Fin0 (Lw : Nat) (g : Goroutine) (w : World) : Prop := ∃ m, GQ P L X Lw (AtIn P L X AnchW Lw) m g w
/-- tag, how many are started, fuel, deafness, the bound. -/
inductive SS : CTag → Nat → Nat → Nat → Nat → Goroutine → World → Prop
  | off {r m Lw : Nat} {g : Goroutine} {w : World} : r < L.n → GQ P L X Lw (AtOff P L X M K val Lw (L.n - (r + 1)) (Starts P L X M K val (Fin0 P L X AnchW) r)) m g w → SS (.sp r 5) (L.n - (r + 1)) m 0 Lw g w
  | up {r m Lw : Nat} {g : Goroutine} {w : World} : r < L.n → GQ P L X Lw (AtUp P L X M K val Lw (L.n - (r + 1)) (Starts P L X M K val (Fin0 P L X AnchW) r)) m g w → SS (.sp r 4) (L.n - (r + 1)) m 1 Lw g w
  | on {r m Lw : Nat} {g : Goroutine} {w : World} : r < L.n → GQ P L X Lw (AtOn P L X M K val Lw (L.n - (r + 1)) (Starts P L X M K val (Fin0 P L X AnchW) r)) m g w → SS (.sp r 3) (L.n - (r + 1)) m 1 Lw g w
  | go {r m Lw : Nat} {g : Goroutine} {w : World} : r < L.n → GQ P L X Lw (AtGo P L X M K val (L.n - (r + 1)) (Starts P L X M K val (Fin0 P L X AnchW) r)) m g w → SS (.sp r 2) (L.n - (r + 1)) m 0 Lw g w
  | in_ {m Lw : Nat} {g : Goroutine} {w : World} : GQ P L X Lw (AtIn P L X AnchW Lw) m g w → SS .kd L.n m 0 Lw g w
  | anch {m Lw : Nat} {g : Goroutine} {w : World} : GQ P L X Lw AnchW m g w → SS .anch L.n m 1 Lw g w
  | look {m Lw : Nat} {g : Goroutine} {w : World} : GQ P L X Lw (AtLook P L X vals Anch AnchW Lw) m g w → SS .w1 L.n m 1 Lw g w
  | swap {vs m Lw : Nat} {g : Goroutine} {w : World} : GQ P L X Lw (AtSwap P L X vals Anch AnchW Lw vs) m g w → SS (.w2 vs) L.n m 1 Lw g w
  | sem {m Lw : Nat} {g : Goroutine} {w : World} : GQ P L X Lw (AtSem P L X vals Anch Lw) m g w → SS .w3 L.n (m + 1) 1 Lw g w
  | blk {Lw : Nat} {g : Goroutine} {w : World} : (∀ w₁, RQ L w w₁ → AtSem P L X vals Anch Lw g w₁) → SS .blk L.n 0 1 Lw { g with status := .blocked } w
  | last {m Lw : Nat} {g : Goroutine} {w : World} : GQ P L X Lw (AtLast P L X vals Anch Lw) m g w → SS .w4 L.n m 1 Lw g w
  | back {m Lw : Nat} {g : Goroutine} {w : World} : GQ P L X Lw (AtBack P L X vals Anch Lw) m g w → SS .ke L.n m 1 Lw g w
  | hear {m Lw : Nat} {g : Goroutine} {w : World} : GQ P L X Lw (AtHear P L vals Anch) m g w → SS .acq L.n m 0 Lw g w
end
section
variable {P : Program} {L : Lay} {X : Nat → Prop} {M K : Nat} {val : Nat → Value} {vals : List Value} {Anch AnchW : Goroutine → World → Prop} {w w₁ : World}
theorem WS.rely {Low i : Nat} {Rd : Nat → Prop} {v : Value} {b : Option Nat} {s m d : Nat} {g : Goroutine} (h : WS P L M K Low Rd i v b s m d g w) (hr : RX L Low b i w w₁) (hl : L.N0 ≤ Low) (hs : L.N0 ≤ w.heap.size) : WS P L M K Low Rd i v b s m d g w₁ := by
  cases h with
  | pre h => exact .pre (Goes.rely (fun _ _ _ h1 h2 => h1.trans h2) h hr)
  | post h => exact .post (Goes.rely (fun _ _ _ h1 h2 => h1.trans h2) h hr)
  | lib h => exact .lib (h.rely (by simpa using hr.rw_ hl hs))
theorem WS.status {Low i : Nat} {Rd : Nat → Prop} {v : Value} {b : Option Nat} {s m d : Nat} {g : Goroutine} (h : WS P L M K Low Rd i v b s m d g w) (hl : L.N0 ≤ Low) (hs : L.N0 ≤ w.heap.size) : g.status = .running ∨ g.status = .finished := by
  have h1 : ∀ {g : Goroutine} {w : World}, AtEnd1 P L K i v g w → g.status = .running := fun h => Goes.running (fun _ _ x => x.1) _ (RW.refl _) h
  cases h with
  | pre h => exact .inl (Goes.running (fun _ _ x => x.1) w (RX.refl w) h)
  | post h => exact .inl (Goes.running (fun _ _ x => h1 x) w (RX.refl w) h)
  | lib h => exact h.status
theorem WS.running {Low i : Nat} {Rd : Nat → Prop} {v : Value} {b : Option Nat} {s m d : Nat} {g : Goroutine} (h : WS P L M K Low Rd i v b s m d g w) (hs1 : s ≠ 1) : g.status = .running := by
  have h1 : ∀ {g : Goroutine} {w : World}, AtEnd1 P L K i v g w → g.status = .running := fun h => Goes.running (fun _ _ x => x.1) _ (RW.refl _) h
  cases h with
  | pre h => exact Goes.running (fun _ _ x => x.1) w (RX.refl w) h
  | post h => exact Goes.running (fun _ _ x => h1 x) w (RX.refl w) h
  | lib h => exact h.running_of hs1
theorem WS.woken {Low i : Nat} {Rd : Nat → Prop} {v : Value} {b : Option Nat} {s m d : Nat} {g : Goroutine} (h : WS P L M K Low Rd i v b s m d g w) (hl : L.N0 ≤ Low) (hs : L.N0 ≤ w.heap.size) (a a' : Goroutine) (w' : World) : woken P a a' w' g = g := by
  unfold Go.Conc.woken
  split
  · exact again_running _ (h.status hl hs)
  · rfl
variable {tag : CTag} {j f d Lw : Nat} {a : Goroutine}
theorem SS.rely (h : SS P L X M K val vals Anch AnchW tag j f d Lw a w) (hr : RQ L w w₁) : SS P L X M K val vals Anch AnchW tag j f d Lw a w₁ := by
  have tr : ∀ x y z, RQ L x y → RQ L y z → RQ L x z := fun _ _ _ h1 h2 => h1.trans h2
  cases h with
  | off hn h => exact .off hn (Goes.rely tr h hr)
  | up hn h => exact .up hn (Goes.rely tr h hr)
  | on hn h => exact .on hn (Goes.rely tr h hr)
  | go hn h => exact .go hn (Goes.rely tr h hr)
  | in_ h => exact .in_ (Goes.rely tr h hr)
  | anch h => exact .anch (Goes.rely tr h hr)
  | look h => exact .look (Goes.rely tr h hr)
  | swap h => exact .swap (Goes.rely tr h hr)
  | sem h => exact .sem (Goes.rely tr h hr)
  | blk h => exact .blk (fun w₂ h₂ => h w₂ (hr.trans h₂))
  | last h => exact .last (Goes.rely tr h hr)
  | back h => exact .back (Goes.rely tr h hr)
  | hear h => exact .hear (Goes.rely tr h hr)
theorem SS.status (hAr : ∀ g w, AnchW g w → g.status = .running) (h : SS P L X M K val vals Anch AnchW tag j f d Lw a w) : (a.status = .running ∧ tag ≠ .blk) ∨ (a.status = .blocked ∧ tag = .blk) := by
  cases h with
  | off _ h => exact .inl ⟨Goes.running (fun _ _ x => x.1) w (.refl w) h, by simp⟩
  | up _ h => exact .inl ⟨Goes.running (fun _ _ x => x.1) w (.refl w) h, by simp⟩
  | on _ h => exact .inl ⟨Goes.running (fun _ _ x => x.1) w (.refl w) h, by simp⟩
  | go _ h => exact .inl ⟨Goes.running (fun _ _ x => x.1) w (.refl w) h, by simp⟩
  | in_ h => exact .inl ⟨Goes.running (fun _ _ x => x.1) w (.refl w) h, by simp⟩
  | anch h => exact .inl ⟨Goes.running hAr w (.refl w) h, by simp⟩
  | look h => exact .inl ⟨Goes.running (fun _ _ x => x.1) w (.refl w) h, by simp⟩
  | swap h => exact .inl ⟨Goes.running (fun _ _ x => x.1) w (.refl w) h, by simp⟩
  | sem h => exact .inl ⟨Goes.running (fun _ _ x => x.1) w (.refl w) h, by simp⟩
  | blk h => exact .inr ⟨rfl, rfl⟩
  | last h => exact .inl ⟨Goes.running (fun _ _ x => x.1) w (.refl w) h, by simp⟩
  | back h => exact .inl ⟨Goes.running (fun _ _ x => x.1) w (.refl w) h, by simp⟩
  | hear h => exact .inl ⟨Goes.running (fun _ _ x => x.1) w (.refl w) h, by simp⟩
/-- Under another's step: as it stood; or, blocked, let try again. -/
theorem SS.wokenBy (hAr : ∀ g w, AnchW g w → g.status = .running) (h : SS P L X M K val vals Anch AnchW tag j f d Lw a w) (hr : RQ L w w₁) (g g' : Goroutine) :
    ∃ tag' f', SS P L X M K val vals Anch AnchW tag' j f' d Lw (woken P g g' w₁ a) w₁ ∧ f' ≤ f + 1 ∧ (tag' = tag ∨ (tag = .blk ∧ tag' = .w3)) ∧ (mayWake P g = true → g'.status = .running → tag' ≠ .blk) := by
  have h' := h.rely hr
  unfold Go.Conc.woken
  split
  · rcases h'.status hAr with ⟨hs, hne⟩ | ⟨_, rfl⟩
    · exact ⟨tag, f, by rw [again_running _ (.inl hs)]; exact h', by omega, .inl rfl, fun _ _ => hne⟩
    · cases h' with
      | blk hb =>
        have h3 := hb w₁ (.refl w₁)
        exact ⟨.w3, 0 + 1, by rw [Go.ConcR.again_blocked h3.1 h3.2.1]; exact .sem (Goes.stop hb), by omega, .inr ⟨rfl, rfl⟩, fun _ _ => by simp⟩
  · rename_i hc
    exact ⟨tag, f, h', by omega, .inl rfl, fun h1 h2 => absurd (by simp [h1, h2]) hc⟩
end
end Go.Proofs.Ytoipkpndfgcmcaa.Crew

namespace Go.Proofs.Ytoipkpndfgcmcaa.Crew
open Go Go.Conc Go.ConcN Go.RowKit Go.Proofs.Ytoipkpndfgcmcaa.Veils
open Go.ConcR (KK wgBlock WgAt stA smA rd wr mk Payload DC0 Bk g_of_ofEvents)
set_option linter.unusedVariables false
set_option linter.unusedSectionVars false
variable [Payload]

def OwnF (L : Lay) (J : Nat) (H : Nat → Option Nat) (k : Nat) (l : Loc) : Prop := ∃ i, k = J + 1 + i ∧ (l = .cell ⟨L.C, i, none⟩ ∨ ∃ a, l = .cell a ∧ H i = some a.block)
def RdF (J : Nat) (R : Nat → Nat → Prop) (k : Nat) (l : Loc) : Prop := ∃ i, k = J + 1 + i ∧ ∃ a, l = .cell a ∧ R i a.block
/-- Worker k has said its release-and-merge, heard; nothing of its own that counts, and no other release there, behind it. -/
def RelN (a : Addr) (t : Trace) (k r : Nat) : Prop := RelBy a t k r ∧ ∀ i, r < i → t.act? i ≠ some (.mark (.release a))
theorem RelN.app {a : Addr} {t u : Trace} {k r : Nat} (h : RelN a t k r) (hb : RelBy a (t ++ u) k r) (hu : ∀ op ∈ u, op.act ≠ .mark (.release a)) : RelN a (t ++ u) k r := by
  refine ⟨hb, fun i hi e => ?_⟩
  obtain ⟨op, ho, hoa⟩ := Option.map_eq_some_iff.1 e
  rcases getElem?_append_cases ho with ⟨_, ho'⟩ | ⟨_, hou⟩
  · exact h.2 i hi (by rw [act?_of ho', hoa])
  · exact hu op hou hoa
/-- The hidden blocks: the groups of phases past, and this one's. -/
structure XOk (L : Lay) (X : Nat → Prop) : Prop where
  lt : ∀ b, X b → b < L.N0
  wg : X L.Wg
  c : ¬ X L.C
section
variable (P : Program) (L : Lay) (X : Nat → Prop) (J M K : Nat) (val : Nat → Value)
structure Com2 (j : Nat) (gs : Array Goroutine) (w : World) (t : Trace) (D : Nat → WD) (H : Nat → Option Nat) (Lo : Nat → Nat) (R : Nat → Nat → Prop) (d0 Lw : Nat) (q : Nat → Nat) : Prop where
  size : gs.size = J + 1 + j
  old : ∀ i g, 0 < i → i ≤ J → gs[i]? = some g → QuitsD P (q i) (Deaf t i) g
  wk : ∀ i, i < j → ∃ g, gs[J + 1 + i]? = some g ∧ WS P L M K (Lo i) (R i) i (val i) (H i) (D i).stage (D i).fuel (D i).deaf g w
  ct : CT (ShX X) (OwnF L J H) (RdF J R) t (J + j)
  kn : ∀ i a, touchAt t i = some a → ¬ ShX X a.loc → Knows t 0 i ∨ ∃ g, t.g? i = some g ∧ J < g ∧ t.counts i
  over : ∀ i g, t.g? i = some g → g ≠ 0 → g ≤ J → t.counts i → ∃ r, t.g? r = some 0 ∧ HappensBefore t i r
  deaf0 : Deaf t 0 = d0
  deafW : ∀ i, i < j → Deaf t (J + 1 + i) = (D i).deaf
  rel : ∀ i, i < j → (D i).stage ≤ 6 → ∃ r, RelN (stA L.Wg) t (J + 1 + i) r
  has : ∀ i, i < j → (D i).stage ≤ 6 → Has L.C i (val i) w
  pay : PayAt L.C L.n w
  seen : ∀ op ∈ t, LowT w.heap.size op.act
  n0 : L.N0 ≤ w.heap.size
  lo : ∀ i, i < j → L.N0 ≤ Lo i ∧ Lo i ≤ Lw
  lw : L.N0 ≤ Lw ∧ Lw ≤ w.heap.size
  hf : ∀ i b, H i = some b → i < j ∧ Half L w b ∧ b < w.heap.size
  hinj : ∀ i i' b, H i = some b → H i' = some b → i = i'
  rd : ∀ i b, R i b → i < j ∧ b < Lo i ∧ b ≠ L.C ∧ b ≠ L.Wg ∧ ¬ X b ∧ ¬ Half L w b
end
section
variable {P : Program} {L : Lay} {X : Nat → Prop} {J M K : Nat} {val : Nat → Value} {j : Nat} {gs : Array Goroutine} {w w' : World} {t : Trace} {D : Nat → WD} {H : Nat → Option Nat} {Lo : Nat → Nat} {R : Nat → Nat → Prop} {d0 Lw : Nat} {q : Nat → Nat}
theorem fams_apart (hL : L.Ok) (hX : XOk L X) (hf : ∀ i b, H i = some b → Half L w b) (hinj : ∀ i i' b, H i = some b → H i' = some b → i = i') (hrd : ∀ i b, R i b → b ≠ L.C ∧ ¬ X b ∧ ¬ Half L w b) : Apart (ShX X) (OwnF L J H) (RdF J R) := by
  have hC : ∀ i b, H i = some b → b ≠ L.C := fun i b h e => hL.nC (w := w) (e ▸ hf i b h)
  refine ⟨fun k k' l h h' => ?_, fun k k' l h h' => ?_, fun k l h hs => ?_, fun k l h hs => ?_⟩
  · obtain ⟨i, rfl, h⟩ := h
    obtain ⟨i', rfl, h'⟩ := h'
    rcases h with rfl | ⟨a, rfl, h⟩ <;> rcases h' with e | ⟨a', e, h'⟩
    · cases e; rfl
    · cases e; exact absurd rfl (hC _ _ h')
    · cases e; exact absurd rfl (hC _ _ h)
    · cases e; rw [hinj i i' _ h h']
  · obtain ⟨i, rfl, h⟩ := h
    obtain ⟨i', rfl, a', rfl, h'⟩ := h'
    rcases h with e | ⟨a, e, h⟩
    · cases e; exact (hrd _ _ h').1 rfl
    · cases e; exact (hrd _ _ h').2.2 (hf _ _ h)
  · obtain ⟨a', rfl, hs⟩ := hs
    obtain ⟨i, rfl, h⟩ := h
    rcases h with e | ⟨a, e, h⟩
    · cases e; exact hX.c hs
    · cases e
      have := hX.lt _ hs
      have := (hf _ _ h).1
      omega
  · obtain ⟨a', rfl, hs⟩ := hs
    obtain ⟨i, rfl, a, e, h⟩ := h
    cases e
    exact (hrd _ _ h).2.1 hs
theorem Com2.apart (hL : L.Ok) (hX : XOk L X) (h : Com2 P L X J M K val j gs w t D H Lo R d0 Lw q) : Apart (ShX X) (OwnF L J H) (RdF J R) :=
  fams_apart hL hX (fun i b hb => (h.hf i b hb).2.1) h.hinj (fun i b hb => ⟨(h.rd i b hb).2.2.1, (h.rd i b hb).2.2.2.2.1, (h.rd i b hb).2.2.2.2.2⟩)
theorem Com2.at (h : Com2 P L X J M K val j gs w t D H Lo R d0 Lw q) (d : Nat) : Com2 P L X J M K val j gs (w.at d) t D H Lo R d0 Lw q :=
  ⟨h.size, h.old, fun i hi => let ⟨g, hg, hs⟩ := h.wk i hi; ⟨g, hg, hs.rely (RX.at w d) (h.lo i hi).1 h.n0⟩, h.ct, h.kn, h.over, h.deaf0, h.deafW, h.rel, h.has, h.pay, h.seen, h.n0, h.lo, h.lw, h.hf, h.hinj, h.rd⟩
theorem kn_app {u : Trace} (h : ∀ i a, touchAt t i = some a → ¬ ShX X a.loc → Knows t 0 i ∨ ∃ g, t.g? i = some g ∧ J < g ∧ t.counts i) (hu : ∀ op ∈ u, op.g = 0 ∨ (J < op.g ∧ ∀ x, op.act.touch? = some x → ¬ ShX X x.loc → x.loc.isMemory = true ∧ x.kind ≠ .atomic) ∨ op.act.touch? = none) : ∀ i a, touchAt (t ++ u) i = some a → ¬ ShX X a.loc → Knows (t ++ u) 0 i ∨ ∃ g, (t ++ u).g? i = some g ∧ J < g ∧ (t ++ u).counts i := by
  intro i a ha hs
  obtain ⟨x, hx, hxa⟩ := touch_of ha
  rcases getElem?_append_cases hx with ⟨hi, hx'⟩ | ⟨_, hxu⟩
  · rcases h i a (by rw [touchAt_of hx']; exact hxa) hs with h1 | ⟨g, h1, h2, h3⟩
    · exact .inl (h1.app u)
    · exact .inr ⟨g, by rw [g?_old hi]; exact h1, h2, (counts_old hi).2 h3⟩
  · rcases hu x hxu with h0 | ⟨h0, h1⟩ | h0
    · have := knows_own hx
      rw [h0] at this
      exact .inl this
    · exact .inr ⟨x.g, by simp [Trace.g?, hx], h0, a, ha, (h1 a hxa hs).1, .inl (h1 a hxa hs).2⟩
    · rw [h0] at hxa; cases hxa
theorem over_app {u : Trace} (h : ∀ i g, t.g? i = some g → g ≠ 0 → g ≤ J → t.counts i → ∃ r, t.g? r = some 0 ∧ HappensBefore t i r) (hu : ∀ op ∈ u, op.g = 0 ∨ J < op.g ∨ op.act.touch? = none) : ∀ i g, (t ++ u).g? i = some g → g ≠ 0 → g ≤ J → (t ++ u).counts i → ∃ r, (t ++ u).g? r = some 0 ∧ HappensBefore (t ++ u) i r := by
  intro i g hg hne hJ hc
  obtain ⟨x, hx, _⟩ := hc
  obtain ⟨op, hop, hox⟩ := touch_of hx
  rcases getElem?_append_cases hop with ⟨hi, hop'⟩ | ⟨_, hopu⟩
  · obtain ⟨r, hr, hb⟩ := h i g (by rw [← g?_old (u := u) hi]; exact hg) hne hJ ((counts_old hi).1 ⟨x, hx, ‹_›⟩)
    have hrl : r < t.size := by
      unfold Trace.g? at hr
      obtain ⟨z, hz, _⟩ := Option.map_eq_some_iff.1 hr
      exact lt_size_of_getElem? hz
    exact ⟨r, by rw [g?_old hrl]; exact hr, hb_app u hb⟩
  · have hgo : op.g = g := by simpa [Trace.g?, hop] using hg
    rcases hu op hopu with h0 | h0 | h0
    · omega
    · omega
    · rw [h0] at hox; cases hox
theorem touch_none_of {k : Nat} {fn : FuncId} {pos : String} {es : Array Event} (h : ∀ e ∈ es, e.mute = true) : ∀ op ∈ MemOp.ofEvents k fn pos es, op.act.touch? = none := fun op hop => by
  obtain ⟨e, he, rfl⟩ := Go.Conc.mem_ofEvents hop
  exact touch_mute (h e he)
theorem deaf_apart {g k : Nat} (h : g ≠ k) {fn : FuncId} {pos : String} {es : Array Event} : Deaf (t ++ MemOp.ofEvents k fn pos es) g = Deaf t g := Deaf_other t (g := g) (g' := k) (fun e => h e.symm) _ (fun op hop => by obtain ⟨e, _, rfl⟩ := Go.Conc.mem_ofEvents hop; rfl)
/-- A block that nobody has named yet may be given to a worker. -/
theorem ct_widen {Sh : Loc → Prop} {Own Own' Rd : Nat → Loc → Prop} {n B b : Nat} (h : CT Sh Own Rd t n) (hs : ∀ op ∈ t, LowT B op.act) (hb : B ≤ b) (h1 : ∀ k l, Own k l → Own' k l) (h2 : ∀ k l, Own' k l → Own k l ∨ ∃ a, l = .cell a ∧ a.block = b) : CT Sh Own' Rd t n := by
  have hno : ∀ i a, touchAt t i = some a → ∀ x, a.loc = .cell x → x.block ≠ b := fun i a ha x hx e => by
    obtain ⟨op, hop, hox⟩ := touch_of ha
    have hl : a.loc.low B := hs op (Array.mem_of_getElem? hop) a hox
    rw [hx] at hl
    have hl : x.block < B := hl
    omega
  refine ⟨h.quiet, fun k k1 kj l hl => ?_, h.rd, fun l hs hl => h.free l hs fun k k1 kj => ⟨fun x => (hl k k1 kj).1 (h1 k l x), (hl k k1 kj).2⟩, fun l hs hl => h.mine l hs fun k k1 kj x => hl k k1 kj (h1 k l x), h.nr, h.gs⟩
  rcases h2 k l hl with h3 | ⟨a, rfl, h3⟩
  · exact h.own k k1 kj l h3
  · exact fun i x ha he => absurd h3 (hno i x ha a he)
/-- What a step is in company: by whom, which accesses. -/
theorem over_of {u : Trace} (hu : ∀ op ∈ u, op.g = 0 ∨ (J < op.g ∧ ∀ x, op.act.touch? = some x → ¬ ShX X x.loc → x.loc.isMemory = true ∧ x.kind ≠ .atomic) ∨ op.act.touch? = none) : ∀ op ∈ u, op.g = 0 ∨ J < op.g ∨ op.act.touch? = none := fun op hop => (hu op hop).imp id (Or.imp And.left id)
theorem seen_app2 (h : ∀ op ∈ t, LowT w.heap.size op.act) (hs : w.heap.size ≤ w'.heap.size) {k : Nat} {fn : FuncId} {pos : String} {es : Array Event} (hu : ∀ e ∈ es, LowT w'.heap.size (MemAct.ofEvent e)) : ∀ op ∈ t ++ MemOp.ofEvents k fn pos es, LowT w'.heap.size op.act := fun op hop => by
  rcases Array.mem_append.1 hop with h1 | h1
  · exact (h op h1).mono hs
  · obtain ⟨e, he, rfl⟩ := Go.Conc.mem_ofEvents h1
    exact hu e he
/-- A STEP OF WORKER NUMBER i. -/
theorem Com2.stepW (hL : L.Ok) (hX : XOk L X) (h : Com2 P L X J M K val j gs w t D H Lo R d0 Lw q) {i : Nat} (hi : i < j) {g g' : Goroutine} {fn : FuncId} {pos : String} {es : Array Event} {s' m' dd' : Nat} {H' : Option Nat}
    (hH : H' = H i ∨ (H i = none ∧ H' = some w.heap.size ∧ Half L w' w.heap.size))
    (hsz : w.heap.size ≤ w'.heap.size) (hHsz : H' ≠ H i → w.heap.size < w'.heap.size)
    (hhalf : ∀ b, Half L w b → Half L w' b) (hback : ∀ b, b < w.heap.size → Half L w' b → Half L w b)
    (hrx : ∀ i', i' < j → i' ≠ i → RX L (Lo i') (H i') i' w w')
    (hs' : WS P L M K (Lo i) (R i) i (val i) H' s' m' dd' g' w')
    (hok : ∀ H2, H2 = upd H i H' → ∀ op ∈ MemOp.ofEvents (J + 1 + i) fn pos es, OkW (ShX X) (OwnF L J H2) (RdF J R) (J + 1 + i) op) (hlow : ∀ e ∈ es, LowT w'.heap.size (MemAct.ofEvent e)) (hnr : ∀ e ∈ es, e.loc ≠ .mark (.release (stA L.Wg)))
    (hpl : ∀ e ∈ es, ∀ x, (MemAct.ofEvent e).touch? = some x → ¬ ShX X x.loc → x.loc.isMemory = true ∧ x.kind ≠ .atomic)
    (hdeaf : deafBehind (D i).deaf es = dd')
    (hrel : s' ≤ 6 → ∃ r, RelN (stA L.Wg) (t ++ MemOp.ofEvents (J + 1 + i) fn pos es) (J + 1 + i) r)
    (hhas : s' ≤ 6 → Has L.C i (val i) w') (hpay : PayAt L.C L.n w') :
    Com2 P L X J M K val j ((gs.map (woken P g g' w')).setIfInBounds (J + 1 + i) g') w' (t ++ MemOp.ofEvents (J + 1 + i) fn pos es) (upd D i ⟨s', m', dd'⟩) (upd H i H') Lo R d0 Lw q := by
  have hne : ∀ i', i' ≠ i → J + 1 + i' ≠ J + 1 + i := fun i' h => by omega
  have hinj' : ∀ a b c, upd H i H' a = some c → upd H i H' b = some c → a = b := by
    intro a b c ha hb
    rcases hH with rfl | ⟨h0, rfl, _⟩
    · have e : upd H i (H i) = H := by
        funext x
        by_cases hx : x = i
        · rw [hx, upd_same]
        · rw [upd_ne H _ hx]
      rw [e] at ha hb
      exact h.hinj a b c ha hb
    · by_cases ea : a = i <;> by_cases eb : b = i
      · rw [ea, eb]
      · subst ea
        rw [upd_same] at ha
        rw [upd_ne H _ eb] at hb
        cases ha
        have := (h.hf b _ hb).2.2
        omega
      · subst eb
        rw [upd_same] at hb
        rw [upd_ne H _ ea] at ha
        cases hb
        have := (h.hf a _ ha).2.2
        omega
      · rw [upd_ne H _ ea] at ha
        rw [upd_ne H _ eb] at hb
        exact h.hinj a b c ha hb
  have hf' : ∀ a b, upd H i H' a = some b → a < j ∧ Half L w' b ∧ b < w'.heap.size := by
    intro a b ha
    by_cases ea : a = i
    · subst ea
      rw [upd_same] at ha
      rcases hH with rfl | ⟨h0, rfl, h1⟩
      · obtain ⟨x, y, z⟩ := h.hf a b ha
        exact ⟨x, hhalf b y, by omega⟩
      · cases ha
        exact ⟨hi, h1, hHsz (by rw [h0]; simp)⟩
    · rw [upd_ne H _ ea] at ha
      obtain ⟨x, y, z⟩ := h.hf a b ha
      exact ⟨x, hhalf b y, by omega⟩
  have hrd' : ∀ a b, R a b → a < j ∧ b < Lo a ∧ b ≠ L.C ∧ b ≠ L.Wg ∧ ¬ X b ∧ ¬ Half L w' b := by
    intro a b hab
    obtain ⟨x1, x2, x3, x4, x5, x6⟩ := h.rd a b hab
    have h1 := (h.lo a x1).2
    have h2 := h.lw.2
    exact ⟨x1, x2, x3, x4, x5, fun hh => x6 (hback b (by omega) hh)⟩
  have hct : CT (ShX X) (OwnF L J (upd H i H')) (RdF J R) t (J + j) := by
    rcases hH with rfl | ⟨h0, rfl, _⟩
    · have e : upd H i (H i) = H := by
        funext x
        by_cases hx : x = i
        · rw [hx, upd_same]
        · rw [upd_ne H _ hx]
      rw [e]
      exact h.ct
    · refine ct_widen (b := w.heap.size) h.ct h.seen (Nat.le_refl _) (fun k l hk => ?_) (fun k l hk => ?_)
      · obtain ⟨a, rfl, hk⟩ := hk
        refine ⟨a, rfl, hk.imp id fun ⟨x, e1, e2⟩ => ⟨x, e1, ?_⟩⟩
        by_cases ea : a = i
        · subst ea; rw [h0] at e2; cases e2
        · rw [upd_ne H _ ea]; exact e2
      · obtain ⟨a, rfl, hk⟩ := hk
        rcases hk with hk | ⟨x, e1, e2⟩
        · exact .inl ⟨a, rfl, .inl hk⟩
        · by_cases ea : a = i
          · subst ea
            rw [upd_same] at e2
            injection e2 with e2
            exact .inr ⟨x, e1, e2.symm⟩
          · rw [upd_ne H _ ea] at e2
            exact .inl ⟨a, rfl, .inr ⟨x, e1, e2⟩⟩
  have hA : Apart (ShX X) (OwnF L J (upd H i H')) (RdF J R) := fams_apart (w := w') hL hX (fun a b hb => (hf' a b hb).2.1) hinj' (fun a b hb => ⟨(hrd' a b hb).2.2.1, (hrd' a b hb).2.2.2.2.1, (hrd' a b hb).2.2.2.2.2⟩)
  have happ : ∀ op ∈ MemOp.ofEvents (J + 1 + i) fn pos es, op.g = 0 ∨ (J < op.g ∧ ∀ x, op.act.touch? = some x → ¬ ShX X x.loc → x.loc.isMemory = true ∧ x.kind ≠ .atomic) ∨ op.act.touch? = none := fun op hop => by
    obtain ⟨e, he, rfl⟩ := Go.Conc.mem_ofEvents hop
    exact .inr (.inl ⟨by simp only; omega, hpl e he⟩)
  refine ⟨by simp [h.size], fun a x ha hJ hx => ?_, fun a ha => ?_, hct.appW hA (by omega) (by omega) (hok _ rfl), kn_app h.kn happ, over_app h.over (over_of happ), by rw [deaf_apart (by omega), h.deaf0], fun a ha => ?_, fun a ha hst => ?_, fun a ha hst => ?_, hpay, seen_app2 h.seen hsz hlow, Nat.le_trans h.n0 hsz, h.lo, ⟨h.lw.1, Nat.le_trans h.lw.2 hsz⟩, hf', hinj', hrd'⟩
  · rw [get_map_set _ _ _ _ (by omega)] at hx
    obtain ⟨y, hy, rfl⟩ := Option.map_eq_some_iff.1 hx
    have hq := h.old a y ha hJ hy
    rw [woken_quitsD hq, deaf_apart (by omega)]
    exact hq
  · by_cases e : a = i
    · subst e
      exact ⟨g', get_map_set_same _ _ _ (by rw [h.size]; omega), by rw [upd_same, upd_same]; exact hs'⟩
    · obtain ⟨x, hx, hsx⟩ := h.wk a ha
      refine ⟨x, by rw [get_map_set _ _ _ _ (by omega), hx, Option.map_some, hsx.woken (h.lo a ha).1 h.n0], ?_⟩
      rw [upd_ne D _ e, upd_ne H _ e]
      exact hsx.rely (hrx a ha e) (h.lo a ha).1 h.n0
  · by_cases e : a = i
    · subst e; rw [Deaf_own, h.deafW a ha, upd_same]; exact hdeaf
    · rw [deaf_apart (hne a e), h.deafW a ha, upd_ne D _ e]
  · by_cases e : a = i
    · subst e; rw [upd_same] at hst; exact hrel hst
    · rw [upd_ne D _ e] at hst
      obtain ⟨r, hr⟩ := h.rel a ha hst
      exact ⟨r, hr.app (hr.1.appOther g_of_ofEvents (by omega)) (norel_of hnr)⟩
  · by_cases e : a = i
    · subst e; rw [upd_same] at hst; exact hhas hst
    · rw [upd_ne D _ e] at hst
      exact (hrx a ha e).cell.trans (h.has a ha hst)
/-- A STEP OF THE STARTER's. -/
theorem Com2.step0 (hL : L.Ok) (hX : XOk L X) (h : Com2 P L X J M K val j gs w t D H Lo R d0 Lw q) {a a' : Goroutine} {fn : FuncId} {pos : String} {es : Array Event}
    (hsz : w.heap.size ≤ w'.heap.size) (hhalf : ∀ b, Half L w b → Half L w' b) (hback : ∀ b, b < w.heap.size → Half L w' b → Half L w b)
    (hrx : ∀ i, i < j → RX L (Lo i) (H i) i w w')
    (hok : ∀ op ∈ MemOp.ofEvents 0 fn pos es, Ok0 (ShX X) (OwnF L J H) (RdF J R) (J + j) op) (hlow : ∀ e ∈ es, LowT w'.heap.size (MemAct.ofEvent e)) (hnr : ∀ e ∈ es, e.loc ≠ .mark (.release (stA L.Wg))) (hpay : PayAt L.C L.n w') :
    Com2 P L X J M K val j ((gs.map (woken P a a' w')).setIfInBounds 0 a') w' (t ++ MemOp.ofEvents 0 fn pos es) D H Lo R (deafBehind d0 es) Lw q := by
  have happ : ∀ op ∈ MemOp.ofEvents 0 fn pos es, op.g = 0 ∨ (J < op.g ∧ ∀ x, op.act.touch? = some x → ¬ ShX X x.loc → x.loc.isMemory = true ∧ x.kind ≠ .atomic) ∨ op.act.touch? = none := fun op hop => by
    obtain ⟨e, he, rfl⟩ := Go.Conc.mem_ofEvents hop
    exact .inl rfl
  refine ⟨by simp [h.size], fun i x hi hJ hx => ?_, fun i hi => ?_, h.ct.app0 (h.apart hL hX) hok, kn_app h.kn happ, over_app h.over (over_of happ), by rw [Deaf_own, h.deaf0], fun i hi => by rw [deaf_apart (by omega), h.deafW i hi], fun i hi hst => ?_, fun i hi hst => (hrx i hi).cell.trans (h.has i hi hst), hpay, seen_app2 h.seen hsz hlow, Nat.le_trans h.n0 hsz, h.lo, ⟨h.lw.1, Nat.le_trans h.lw.2 hsz⟩, fun i b hb => ?_, h.hinj, fun i b hb => ?_⟩
  · rw [get_map_set _ _ _ _ (by omega)] at hx
    obtain ⟨y, hy, rfl⟩ := Option.map_eq_some_iff.1 hx
    have hq := h.old i y hi hJ hy
    rw [woken_quitsD hq, deaf_apart (by omega)]
    exact hq
  · obtain ⟨x, hx, hsx⟩ := h.wk i hi
    exact ⟨x, by rw [get_map_set _ _ _ _ (by omega), hx, Option.map_some, hsx.woken (h.lo i hi).1 h.n0], hsx.rely (hrx i hi) (h.lo i hi).1 h.n0⟩
  · obtain ⟨r, hr⟩ := h.rel i hi hst
    exact ⟨r, hr.app (hr.1.appOther g_of_ofEvents (by omega)) (norel_of hnr)⟩
  · obtain ⟨x, y, z⟩ := h.hf i b hb
    exact ⟨x, hhalf b y, by omega⟩
  · obtain ⟨x1, x2, x3, x4, x5, x6⟩ := h.rd i b hb
    have h1 := (h.lo i x1).2
    have h2 := h.lw.2
    exact ⟨x1, x2, x3, x4, x5, fun hh => x6 (hback b (by omega) hh)⟩
theorem CT.other {Sh : Loc → Prop} {Own Rd Rd' : Nat → Loc → Prop} {n : Nat} (h : CT Sh Own Rd t n) (he : ∀ k, k ≤ n → ∀ l, Rd' k l ↔ Rd k l) : CT Sh Own Rd' t n :=
  ⟨h.quiet, h.own, fun k k1 kn l hl => h.rd k k1 kn l ((he k kn l).1 hl), fun l hs hl => h.free l hs fun k k1 kn => ⟨(hl k k1 kn).1, fun x => (hl k k1 kn).2 ((he k kn l).2 x)⟩, h.mine, h.nr, h.gs⟩
/-- THE go STATEMENT. -/
theorem Com2.spawn (hL : L.Ok) (hX : XOk L X) (h : Com2 P L X J M K val j gs w t D H Lo R 0 Lw q) {a' child : Goroutine} {x y : MemOp} {m : Nat} {Rd : Nat → Prop} (hx : x.g = 0 ∧ x.act = .go (J + 1 + j)) (hy : y.g = J + 1 + j ∧ y.act = .start)
    (hRd : ∀ b, Rd b → b < w.heap.size ∧ b ≠ L.C ∧ b ≠ L.Wg ∧ ¬ X b ∧ ¬ Half L w b)
    (hc : Goes P false (RX L w.heap.size none j) (DX L Rd none j) (AtMk P L M K w.heap.size Rd j (val j)) m child w) :
    Com2 P L X J M K val (j + 1) ((gs.setIfInBounds 0 a').push child) w (t ++ #[x, y]) (upd D j ⟨7, m + 1 + (M + 1 + K), 0⟩) H (upd Lo j w.heap.size) (upd R j Rd) 0 w.heap.size q := by
  have hm : ∀ op ∈ #[x, y], op = x ∨ op = y := by intro op hop; simpa using hop
  have hst : ∀ op ∈ #[x, y], op.act ≠ .mark .disable ∧ op.act ≠ .mark .enable := by
    intro op hop
    rcases hm op hop with rfl | rfl
    · rw [hx.2]; exact ⟨by simp, by simp⟩
    · rw [hy.2]; exact ⟨by simp, by simp⟩
  have happ : ∀ op ∈ #[x, y], op.g = 0 ∨ (J < op.g ∧ ∀ x, op.act.touch? = some x → ¬ ShX X x.loc → x.loc.isMemory = true ∧ x.kind ≠ .atomic) ∨ op.act.touch? = none := by
    intro op hop
    rcases hm op hop with rfl | rfl
    · rw [hx.2]; exact .inr (.inr rfl)
    · rw [hy.2]; exact .inr (.inr rfl)
  have hHj : H j = none := by
    cases e : H j with
    | none => rfl
    | some b => have := (h.hf j b e).1; omega
  have hrd' : ∀ i b, upd R j Rd i b → i < j + 1 ∧ b < upd Lo j w.heap.size i ∧ b ≠ L.C ∧ b ≠ L.Wg ∧ ¬ X b ∧ ¬ Half L w b := by
    intro i b hb
    by_cases e : i = j
    · subst e
      rw [upd_same] at hb ⊢
      obtain ⟨h1, h2⟩ := hRd b hb
      exact ⟨by omega, h1, h2⟩
    · rw [upd_ne R _ e] at hb
      rw [upd_ne Lo _ e]
      obtain ⟨h1, h2⟩ := h.rd i b hb
      exact ⟨by omega, h2⟩
  have hA : Apart (ShX X) (OwnF L J H) (RdF J (upd R j Rd)) := fams_apart (w := w) hL hX (fun a b hb => (h.hf a b hb).2.1) h.hinj (fun a b hb => ⟨(hrd' a b hb).2.2.1, (hrd' a b hb).2.2.2.2.1, (hrd' a b hb).2.2.2.2.2⟩)
  have hct0 : CT (ShX X) (OwnF L J H) (RdF J (upd R j Rd)) t (J + j) := CT.other h.ct fun k hk l => by
    constructor
    · rintro ⟨i, rfl, a, rfl, hb⟩
      rw [upd_ne R _ (by omega)] at hb
      exact ⟨i, rfl, a, rfl, hb⟩
    · rintro ⟨i, rfl, a, rfl, hb⟩
      exact ⟨i, rfl, a, rfl, by rw [upd_ne R _ (by omega)]; exact hb⟩
  have eJ : J + j + 1 = J + 1 + j := by omega
  have hct : CT (ShX X) (OwnF L J H) (RdF J (upd R j Rd)) (t ++ #[x, y]) (J + (j + 1)) := by
    have := hct0.fork hA (x := x) (y := y) ⟨hx.1, by rw [eJ]; exact hx.2⟩ ⟨by rw [eJ]; exact hy.1, hy.2⟩ h.deaf0
    exact this
  have hlo : ∀ i, i < j + 1 → L.N0 ≤ upd Lo j w.heap.size i ∧ upd Lo j w.heap.size i ≤ w.heap.size := fun i hi => by
    by_cases e : i = j
    · subst e; rw [upd_same]; exact ⟨h.n0, Nat.le_refl _⟩
    · rw [upd_ne Lo _ e]
      have h1 := h.lo i (by omega)
      exact ⟨h1.1, Nat.le_trans h1.2 h.lw.2⟩
  refine ⟨by simp [h.size]; omega, fun i g hi hJ hg => ?_, fun i hi => ?_, hct, kn_app h.kn happ, over_app h.over (over_of happ), by rw [Deaf_still t 0 _ hst, h.deaf0], fun i hi => ?_, fun i hi hs => ?_, fun i hi hs => ?_, h.pay, fun op hop => ?_, h.n0, hlo, ⟨h.n0, Nat.le_refl _⟩, fun i b hb => ?_, h.hinj, hrd'⟩
  · rw [Array.getElem?_push_lt (by simp [h.size]; omega), ← Array.getElem?_eq_getElem, Array.getElem?_setIfInBounds_ne (by omega)] at hg
    rw [Deaf_still t _ _ hst]
    exact h.old i g hi hJ hg
  · rcases Nat.lt_or_ge i j with hlt | hge
    · obtain ⟨g, hg, hsg⟩ := h.wk i hlt
      refine ⟨g, ?_, by rw [upd_ne D _ (by omega), upd_ne Lo _ (by omega), upd_ne R _ (by omega)]; exact hsg⟩
      rw [Array.getElem?_push_lt (by simp [h.size]; omega), ← Array.getElem?_eq_getElem, Array.getElem?_setIfInBounds_ne (by omega)]
      exact hg
    · obtain rfl : i = j := by omega
      refine ⟨child, ?_, by rw [upd_same, upd_same, upd_same, hHj]; exact .pre hc⟩
      rw [show J + 1 + i = (gs.setIfInBounds 0 a').size by simp [h.size], Array.getElem?_push_size]
  · rw [Deaf_still t _ _ hst]
    rcases Nat.lt_or_ge i j with hlt | hge
    · rw [h.deafW i hlt, upd_ne D _ (by omega)]
    · obtain rfl : i = j := by omega
      rw [upd_same]
      exact Deaf_absent fun a op ha e => by have := h.ct.gs a op ha; omega
  · rcases Nat.lt_or_ge i j with hlt | hge
    · rw [upd_ne D _ (by omega)] at hs
      obtain ⟨r, hr⟩ := h.rel i hlt hs
      refine ⟨r, hr.app (hr.1.appNot fun op hop => ?_) fun op hop => ?_⟩
      · rcases hm op hop with rfl | rfl
        · rw [hx.1]; omega
        · rw [hy.1]; omega
      · rcases hm op hop with rfl | rfl
        · rw [hx.2]; simp
        · rw [hy.2]; simp
    · obtain rfl : i = j := by omega
      rw [upd_same] at hs
      simp at hs
  · rcases Nat.lt_or_ge i j with hlt | hge
    · rw [upd_ne D _ (by omega)] at hs
      exact h.has i hlt hs
    · obtain rfl : i = j := by omega
      rw [upd_same] at hs
      simp at hs
  · rcases Array.mem_append.1 hop with h1 | h1
    · exact h.seen op h1
    · rcases hm op h1 with rfl | rfl
      · exact LowT.none (by rw [hx.2]; rfl)
      · exact LowT.none (by rw [hy.2]; rfl)
  · obtain ⟨h1, h2⟩ := h.hf i b hb
    exact ⟨by omega, h2⟩
/-- A STEP OF AN OLDER ONE that only leaves. -/
theorem Com2.stepOld (hL : L.Ok) (hX : XOk L X) (h : Com2 P L X J M K val j gs w t D H Lo R d0 Lw q) {k n : Nat} (h1 : 1 ≤ k) (hJ : k ≤ J) {g g' : Goroutine} {fn : FuncId} {pos : String} {es : Array Event} (hm : ∀ e ∈ es, e.mute = true) (hq : QuitsD P n (deafBehind (Deaf t k) es) g') :
    Com2 P L X J M K val j ((gs.map (woken P g g' w)).setIfInBounds k g') w (t ++ MemOp.ofEvents k fn pos es) D H Lo R d0 Lw (upd q k n) := by
  have happ : ∀ op ∈ MemOp.ofEvents k fn pos es, op.g = 0 ∨ (J < op.g ∧ ∀ x, op.act.touch? = some x → ¬ ShX X x.loc → x.loc.isMemory = true ∧ x.kind ≠ .atomic) ∨ op.act.touch? = none := fun op hop => by
    obtain ⟨e, he, rfl⟩ := Go.Conc.mem_ofEvents hop
    exact .inr (.inr (touch_mute (hm e he)))
  have hnr : ∀ e ∈ es, e.loc ≠ .mark (.release (stA L.Wg)) := fun e he hl => by
    have := hm e he
    unfold Event.mute at this
    obtain ⟨loc, wr, sy⟩ := e
    simp only at hl
    subst hl
    cases this
  refine ⟨by simp [h.size], fun i x hi hi2 hx => ?_, fun i hi => ?_, h.ct.appW (h.apart hL hX) h1 (by omega) (fun op hop => ?_), kn_app h.kn happ, over_app h.over (over_of happ), by rw [deaf_apart (by omega), h.deaf0], fun i hi => by rw [deaf_apart (by omega), h.deafW i hi], fun i hi hst => ?_, h.has, h.pay, seen_app2 h.seen (Nat.le_refl _) (fun e he => LowT.none (touch_mute (hm e he))), h.n0, h.lo, h.lw, h.hf, h.hinj, h.rd⟩
  · by_cases e : i = k
    · subst e
      rw [get_map_set_same _ _ _ (by rw [h.size]; omega)] at hx
      cases hx
      rw [upd_same, Deaf_own]
      exact hq
    · rw [get_map_set _ _ _ _ (fun e' => e e'.symm)] at hx
      obtain ⟨y, hy, rfl⟩ := Option.map_eq_some_iff.1 hx
      have hqi := h.old i y hi hi2 hy
      rw [woken_quitsD hqi, deaf_apart e, upd_ne q _ e]
      exact hqi
  · obtain ⟨x, hx, hsx⟩ := h.wk i hi
    exact ⟨x, by rw [get_map_set _ _ _ _ (by omega), hx, Option.map_some, hsx.woken (h.lo i hi).1 h.n0], hsx⟩
  · have := touch_none_of hm op hop
    obtain ⟨e, he, rfl⟩ := Go.Conc.mem_ofEvents hop
    exact ⟨rfl, fun x hx => by rw [this] at hx; cases hx⟩
  · obtain ⟨r, hr⟩ := h.rel i hi hst
    exact ⟨r, hr.app (hr.1.appOther g_of_ofEvents (by omega)) (norel_of hnr)⟩
end
end Go.Proofs.Ytoipkpndfgcmcaa.Crew
