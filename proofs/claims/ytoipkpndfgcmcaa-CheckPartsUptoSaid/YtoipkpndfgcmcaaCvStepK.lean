/-
  A goroutine whose frames are calm but for what stands behind a piece of its lowest frame's text: its step in the world with hidden blocks and without that text is its step in the true one. The condition stands in each theorem. No program in sight.
-/
import Derived.Test.YtoipkpndfgcmcaaCvRuns
namespace Go.Proofs.Ytoipkpndfgcmcaa.Veils
open Go Go.Conc
set_option linter.unusedVariables false
def plus (fr : Frame) (x : List Item) : Frame := { fr with todo := fr.todo ++ x }
def tip (k : List Item) : List Frame → List Item
  | [] => k
  | _ :: _ => []
def ext (k : List Item) : List Frame → List Frame
  | [] => []
  | c :: pl => plus c (tip k pl) :: ext k pl
theorem plus_nil (fr : Frame) : plus fr [] = fr := by unfold plus; rw [List.append_nil]
theorem finish_plus {fr : Frame} (h : fr.todo ≠ []) (x : List Item) (v : Value) : (plus fr x).finish v = plus (fr.finish v) x := by
  obtain ⟨fn, tmps, todo, defers, mode, kind, round⟩ := fr
  cases todo with
  | nil => exact absurd rfl h
  | cons it t =>
    cases it with
    | inRegion ops l => cases l <;> simp [plus, Frame.finish]
    | _ => simp [plus, Frame.finish]
theorem finish_ne {fr : Frame} (h : fr.todo ≠ []) (v : Value) : True := trivial
section
variable {P : Program} {F : FuncId → Bool} {X : Nat → Prop} {k : List Item}
/-- A frame that waits. -/
def Waits (P : Program) (F : FuncId → Bool) (c : Frame) : Prop := FrCalm P F c ∧ c.mode = .run ∧ c.todo ≠ []
structure OnGoK (P : Program) (X : Nat → Prop) (k : List Item) (fr : Frame) (pl cs : List Frame) (v w : World) (fr' : Frame) (pl' : List Frame) (v' : World) : Prop where
  real : ∃ w' es, stepG P true (G (plus fr (tip k pl)) (ext k pl ++ cs)) w = .go (G (plus fr' (tip k pl')) (ext k pl' ++ cs)) w' es ∧ Veil X v' w' ∧ Keep X w w' ∧ w'.drawn + v.drawn = v'.drawn + w.drawn ∧ v'.tape = v.tape ∧ w'.tape = w.tape ∧ w.drawn ≤ w'.drawn ∧ w.heap.size ≤ w'.heap.size ∧ ∀ e ∈ es, FineE X w'.heap.size e
def Step2 (P : Program) (F : FuncId → Bool) (X : Nat → Prop) (k : List Item) (fr : Frame) (pl : List Frame) (F0 : Frame) (v : World) (S : GStep) : Prop :=
  (∃ fr' pl' v' es', S = .go (G fr' (pl' ++ [F0])) v' es' ∧ FrCalm P F fr' ∧ ModeOk fr' ∧ (∀ c ∈ pl', Waits P F c) ∧
    ∀ cs w, Veil X v w → (∀ j q, w.drawn + j < gaft (stepG P true (G (plus fr (tip k pl)) (ext k pl ++ cs)) w) → v.tape (v.drawn + j) q = w.tape (w.drawn + j) q) → OnGoK P X k fr pl cs v w fr' pl' v')
  ∨ (pl = [] ∧ ∃ x v' es', S = .go (G (F0.finish x) []) v' es')
  ∨ (∃ ch v' es', S = .go (G { fr with mode := .panicking ch } (pl ++ [F0])) v' es')
  ∨ (∃ o v' es', S = .ended o v' es')
theorem Step2.ctl {fr fr' : Frame} {pl : List Frame} {F0 : Frame} {v : World} (h : ∀ x cs w, (x = [] ∨ x = tip k pl) → stepG P true (G (plus fr x) cs) w = .go (G (plus fr' x) cs) w #[]) (hc : FrCalm P F fr') (hm : ModeOk fr') (hpl : ∀ c ∈ pl, Waits P F c) : Step2 P F X k fr pl F0 v (stepG P true (G fr (pl ++ [F0])) v) :=
  .inl ⟨fr', pl, v, #[], by have := h [] (pl ++ [F0]) v (.inl rfl); rwa [plus_nil, plus_nil] at this, hc, hm, hpl, fun cs w hv _ => ⟨w, #[], h _ _ _ (.inr rfl), hv, Keep.refl _ _, by omega, rfl, rfl, Nat.le_refl _, Nat.le_refl _, fun e he => by simp at he⟩⟩
theorem Step2.bad {fr : Frame} {pl : List Frame} {F0 : Frame} {v : World} {o : Outcome} {v' : World} {es : Array Event} (h : stepG P true (G fr (pl ++ [F0])) v = .ended o v' es) : Step2 P F X k fr pl F0 v (stepG P true (G fr (pl ++ [F0])) v) := .inr (.inr (.inr ⟨o, v', es, h⟩))
theorem exitTo_app {id : Nat} : ∀ {t t' : List Item} {x : List Item}, exitTo id t = some t' → exitTo id (t ++ x) = some (t' ++ x)
  | [], _, _, h => by cases h
  | i :: t, t', x, h => by
    rw [List.cons_append]
    unfold exitTo at h ⊢
    cases i with
    | inBlock j =>
      simp only at h ⊢
      split at h
      · rename_i e
        simp only [e, if_true]
        injection h with h
        rw [h]
      · rename_i e
        simp only [e]
        exact exitTo_app h
    | _ => first | (simp only at h ⊢; exact exitTo_app h) | cases h
/-- The step of an operation. -/
theorem step_operK (hF : FnsCalm P F) {fn : FuncId} {tmps : Array Value} {ops : Array Oper} {i : Nat} {rest : List Nat} {kk : List Item} {o : Oper} (ho : ops[i]? = some o) (hw : Region.wanted o (yielded ops tmps) = true) (pl : List Frame) (F0 : Frame) (v : World)
    (hc : FrCalm P F ⟨fn, tmps, .inRegion ops (i :: rest) :: kk, [], .run, .normal, none⟩) (hpl : ∀ c ∈ pl, Waits P F c) (hnv : NoView v) :
    Step2 P F X k ⟨fn, tmps, .inRegion ops (i :: rest) :: kk, [], .run, .normal, none⟩ pl F0 v (stepG P true (G ⟨fn, tmps, .inRegion ops (i :: rest) :: kk, [], .run, .normal, none⟩ (pl ++ [F0])) v) := by
  have hall : ops.all (calm P F) = true := hc.todo _ List.mem_cons_self
  have hcalm : calm P F o = true := by
    obtain ⟨hi, rfl⟩ := Array.getElem?_eq_some_iff.1 ho
    exact Array.all_eq_true.1 hall i hi
  obtain ⟨fr, hfr⟩ : ∃ fr : Frame, (⟨fn, tmps, .inRegion ops (i :: rest) :: kk, [], .run, .normal, none⟩ : Frame) = fr := ⟨_, rfl⟩
  have hCalm : Calm P X F (execOp fr.eval o) := calm_exec hcalm fr.eval (fun f => rfl)
  have hst : ∀ x cs w, stepG P true (G (plus fr x) cs) w = stepG.apply P true (plus fr x) cs none (execOp fr.eval o) w := by
    intro x cs w
    subst hfr
    simp [plus, G, stepG, stepG.exec, stepG.oper, Frame.oper?, ho, hw]
    rfl
  have hk : ∀ x, ((plus fr x).kind == CallKind.early) = false := by intro x; rw [← hfr]; rfl
  have htodo : fr.todo = .inRegion ops (i :: rest) :: kk := by rw [← hfr]
  have htodo2 : ∀ x, (plus fr x).todo = .inRegion ops (i :: rest) :: (kk ++ x) := by intro x; rw [← hfr]; rfl
  have hne : fr.todo ≠ [] := by rw [htodo]; simp
  have hfn : ∀ x, (plus fr x).fn = fr.fn := fun x => rfl
  have hmode : ∀ x, (plus fr x).mode = .run := by intro x; rw [← hfr]; rfl
  have hval : ∀ y cs w x w', (execOp fr.eval o).run P w = .ok (.value x) w' → stepG P true (G (plus fr y) cs) w = .go (G (plus (fr.finish x) y) cs) w' (seen P fr.fn ((execOp fr.eval o).events P w #[])) := by
    intro y cs w x w' hr
    rw [hst, ← finish_plus hne]
    simp [stepG.apply, hr, G, hk, GStep.after, hfn]
  have hskip : ∀ y cs w w', (execOp fr.eval o).run P w = .ok .skip w' → stepG P true (G (plus fr y) cs) w = .go (G (plus (fr.finish undef) y) cs) w' (seen P fr.fn ((execOp fr.eval o).events P w #[])) := by
    intro y cs w w' hr
    rw [hst, ← finish_plus hne]
    simp [stepG.apply, hr, G, hk, GStep.after, hfn]
  have hent : ∀ y cs w f args w', (execOp fr.eval o).run P w = .ok (.enter f args) w' → stepG P true (G (plus fr y) cs) w = .go (G (Frame.enter P f args .normal) (plus fr y :: cs)) w' (seen P fr.fn ((execOp fr.eval o).events P w #[])) := by
    intro y cs w f args w' hr
    rw [hst]
    simp [stepG.apply, hr, G, hk, GStep.after, htodo2, hfn]
  have hpan : ∀ y cs w x w', (execOp fr.eval o).run P w = .halt (.panic x) w' → stepG P true (G (plus fr y) cs) w = .go (G ((plus fr y).raise [{ v := x, recovered := false }]) cs) w' (seen P fr.fn ((execOp fr.eval o).events P w #[])) := by
    intro y cs w x w' hr
    rw [hst]
    simp [stepG.apply, hr, G, hk, GStep.after, hfn]
  have hend : ∀ y cs w x w', (execOp fr.eval o).run P w = .halt x w' → OkHalt x → (∀ y, x ≠ .panic y) → ∃ oc es, stepG P true (G (plus fr y) cs) w = .ended oc w' es := by
    intro y cs w x w' hr hx hy
    rw [hst]
    cases x with
    | stuck s => exact ⟨.stuck s ((plus fr y).pos P), _, by simp [stepG.apply, hr, hk, GStep.after]; rfl⟩
    | unsupported u =>
      refine ⟨.unsupported u ((plus fr y).pos P), seen P fr.fn ((execOp fr.eval o).events P w #[]), ?_⟩
      cases u <;> first | exact absurd rfl (hx _) | simp [stepG.apply, hr, hk, GStep.after, hfn]
    | panic y => exact absurd rfl (hy y)
    | _ => exact hx.elim
  have haft : ∀ y cs w, gaft (stepG P true (G (plus fr y) cs) w) = aft ((execOp fr.eval o).run P w) ∨ ¬ NoView w := by
    intro y cs w
    by_cases hw : NoView w
    · left
      cases hr : (execOp fr.eval o).run P w with
      | ok n w' =>
        have hn := hCalm.next w n w' hr
        cases n with
        | value x => rw [hval y cs w x w' hr]; rfl
        | skip => rw [hskip y cs w w' hr]; rfl
        | enter f args => rw [hent y cs w f args w' hr]; rfl
        | _ => exact hn.elim
      | halt x w' =>
        have hx := hCalm.kin.hal w hw x w' hr
        by_cases hp : ∃ y, x = .panic y
        · obtain ⟨z, rfl⟩ := hp
          rw [hpan y cs w z w' hr]; rfl
        · obtain ⟨oc, es, he⟩ := hend y cs w x w' hr hx (fun y e => hp ⟨y, e⟩)
          rw [he]; rfl
    · exact .inr hw
  have hon : ∀ cs w n v' fr' pl', Veil X v w → (∀ j q, w.drawn + j < gaft (stepG P true (G (plus fr (tip k pl)) (ext k pl ++ cs)) w) → v.tape (v.drawn + j) q = w.tape (w.drawn + j) q) → (execOp fr.eval o).run P v = .ok n v' →
      (∀ w', (execOp fr.eval o).run P w = .ok n w' → stepG P true (G (plus fr (tip k pl)) (ext k pl ++ cs)) w = .go (G (plus fr' (tip k pl')) (ext k pl' ++ cs)) w' (seen P fr.fn ((execOp fr.eval o).events P w #[]))) → OnGoK P X k fr pl cs v w fr' pl' v' := by
    intro cs w n v' fr' pl' hv ht hr hg
    obtain ⟨w', e1, e2, e3, e4, e5, e6, e7⟩ := hCalm.kin.sim v w n v' hv (fun j q hj => by
      rcases hv.real with hnw | ⟨hd, htp⟩
      · rw [(haft _ (ext k pl ++ cs) w).resolve_right (fun h => h hnw)] at ht
        exact ht j q hj
      · rw [hd, htp]) hr
    have hm := hCalm.kin.mono v hv.novv
    rw [hr] at hm
    have hm1 := hm.1
    have hm2 := hm.2.2
    rw [hv.size, e2.size] at hm2
    obtain ⟨evs, h1, h2⟩ := e7 #[]
    refine ⟨w', _, hg w' e1, e2, e3, e4, e5, e6, by omega, hm2, fun e he => ?_⟩
    have := seen_sub _ _ e he
    rw [h1] at this
    exact h2 e (by simpa using this)
  rw [hfr] at hc ⊢
  cases hr : (execOp fr.eval o).run P v with
  | ok n v' =>
    have hn := hCalm.next v n v' hr
    have hmo : ModeOk fr := .inl (by rw [← hfr])
    cases n with
    | value x =>
      refine .inl ⟨fr.finish x, pl, v', _, by have := hval [] (pl ++ [F0]) v x v' hr; rwa [plus_nil, plus_nil] at this, hc.finish x, .inl ?_, hpl, fun cs w hv ht => hon cs w _ v' _ _ hv ht hr (fun w' h => hval _ _ w x w' h)⟩
      unfold Frame.finish
      rw [htodo, ← hfr]
    | skip =>
      refine .inl ⟨fr.finish undef, pl, v', _, by have := hskip [] (pl ++ [F0]) v v' hr; rwa [plus_nil, plus_nil] at this, hc.finish undef, .inl ?_, hpl, fun cs w hv ht => hon cs w _ v' _ _ hv ht hr (fun w' h => hskip _ _ w w' h)⟩
      unfold Frame.finish
      rw [htodo, ← hfr]
    | enter f args =>
      refine .inl ⟨Frame.enter P f args .normal, fr :: pl, v', _, by have := hent [] (pl ++ [F0]) v f args v' hr; rwa [plus_nil] at this, FrCalm.enter hF hn args, .inl rfl, fun c hcm => ?_, fun cs w hv ht => hon cs w _ v' _ _ hv ht hr (fun w' h => by
        have := hent (tip k pl) (ext k pl ++ cs) w f args w' h
        rw [show tip k (fr :: pl) = [] from rfl, plus_nil]
        exact this)⟩
      rcases List.mem_cons.1 hcm with rfl | hcm
      · exact ⟨hc, by rw [← hfr], hne⟩
      · exact hpl c hcm
    | _ => exact hn.elim
  | halt x v' =>
    have hx := hCalm.kin.hal v hnv x v' hr
    by_cases hp : ∃ y, x = .panic y
    · obtain ⟨y, rfl⟩ := hp
      have hra : fr.raise [{ v := y, recovered := false }] = { fr with mode := .panicking [{ v := y, recovered := false }] } := by rw [← hfr]; rfl
      have := hpan [] (pl ++ [F0]) v y v' hr
      rw [plus_nil, hra] at this
      exact .inr (.inr (.inl ⟨[{ v := y, recovered := false }], v', _, this⟩))
    · obtain ⟨oc, es, he⟩ := hend [] (pl ++ [F0]) v x v' hr hx (fun y e => hp ⟨y, e⟩)
      rw [plus_nil] at he
      exact Step2.bad he
/-- EVERY STEP of a calm goroutine. -/
theorem step_calmK (hF : FnsCalm P F) {fr : Frame} {pl : List Frame} (hc : FrCalm P F fr) (hm : ModeOk fr) (hpl : ∀ c ∈ pl, Waits P F c) (hb : pl = [] → fr.mode = .run → fr.todo ≠ []) (F0 : Frame) (v : World) (hnv : NoView v) :
    Step2 P F X k fr pl F0 v (stepG P true (G fr (pl ++ [F0])) v) := by
  obtain ⟨fn, tmps, todo, defers, mode, kind, round⟩ := fr
  have h3 : defers = [] := hc.defers
  have h4 : kind = .normal := hc.kind
  have h5 : round = none := hc.round
  subst h3 h4 h5
  rcases hm with hm | hm
  · have hm : mode = .run := hm
    subst hm
    have hret : (∀ x cs w, (x = [] ∨ x = tip k pl) → stepG P true (G (plus ⟨fn, tmps, todo, [], .run, .normal, none⟩ x) cs) w = .go (G (plus ⟨fn, tmps, todo, [], .returning, .normal, none⟩ x) cs) w #[]) → Step2 P F X k ⟨fn, tmps, todo, [], .run, .normal, none⟩ pl F0 v (stepG P true (G ⟨fn, tmps, todo, [], .run, .normal, none⟩ (pl ++ [F0])) v) :=
      fun h => Step2.ctl h ⟨hc.fn, hc.todo, rfl, rfl, rfl⟩ (.inr rfl) hpl
    have hto : ∀ t : List Item, (∀ it ∈ t, itemCalm P F it = true) → (∀ x cs w, (x = [] ∨ x = tip k pl) → stepG P true (G (plus ⟨fn, tmps, todo, [], .run, .normal, none⟩ x) cs) w = .go (G (plus ⟨fn, tmps, t, [], .run, .normal, none⟩ x) cs) w #[]) → Step2 P F X k ⟨fn, tmps, todo, [], .run, .normal, none⟩ pl F0 v (stepG P true (G ⟨fn, tmps, todo, [], .run, .normal, none⟩ (pl ++ [F0])) v) :=
      fun t ht h => Step2.ctl h ⟨hc.fn, ht, rfl, rfl, rfl⟩ (.inl rfl) hpl
    cases todo with
    | nil =>
      have hx : tip k pl = [] := by
        cases pl with
        | nil => exact absurd rfl (hb rfl rfl)
        | cons c l => rfl
      exact hret (fun x cs w hxx => by
        have : x = [] := by rcases hxx with h | h; exact h; rw [h, hx]
        subst this
        simp [plus, stepG, stepG.exec, G])
    | cons it kk =>
      have hit : itemCalm P F it = true := hc.todo it List.mem_cons_self
      have hk : ∀ i ∈ kk, itemCalm P F i = true := fun i hi => hc.todo i (List.mem_cons_of_mem _ hi)
      have two : ∀ a b : Item, itemCalm P F a = true → itemCalm P F b = true → ∀ i ∈ a :: b :: kk, itemCalm P F i = true := fun a b ha hb i hi => by
        rcases List.mem_cons.1 hi with rfl | hi
        · exact ha
        rcases List.mem_cons.1 hi with rfl | hi
        · exact hb
        · exact hk i hi
      have one : ∀ a : Item, itemCalm P F a = true → ∀ i ∈ a :: kk, itemCalm P F i = true := fun a ha i hi => by
        rcases List.mem_cons.1 hi with rfl | hi
        · exact ha
        · exact hk i hi
      cases it with
      | code c =>
        cases c with
        | skip => exact hto kk hk (fun x cs w _ => by simp [plus, stepG, stepG.exec, G])
        | label l => exact hto kk hk (fun x cs w _ => by simp [plus, stepG, stepG.exec, G])
        | ret => exact hret (fun x cs w _ => by simp [plus, stepG, stepG.exec, G])
        | seq a b =>
          have h : codeCalm P F a = true ∧ codeCalm P F b = true := by simpa [itemCalm, codeCalm] using hit
          exact hto _ (two (.code a) (.code b) h.1 h.2) (fun x cs w _ => by simp [plus, stepG, stepG.exec, G])
        | cond c a b =>
          have h : codeCalm P F a = true ∧ codeCalm P F b = true := by simpa [itemCalm, codeCalm] using hit
          by_cases hb : ∃ t, (⟨fn, tmps, .code (.cond c a b) :: kk, [], .run, .normal, none⟩ : Frame).eval c = .bool t
          · obtain ⟨t, ht⟩ := hb
            refine hto _ (one (.code (if t then a else b)) (by cases t <;> simp [itemCalm, h])) (fun x cs w _ => by simp [plus, stepG, stepG.exec, G, show ∀ y, (⟨fn, tmps, y, [], .run, .normal, none⟩ : Frame).eval c = .bool t from fun _ => ht])
          · have : ∃ oc es, stepG P true (G ⟨fn, tmps, .code (.cond c a b) :: kk, [], .run, .normal, none⟩ (pl ++ [F0])) v = .ended oc v es := by
              simp only [stepG, stepG.exec, G]
              split
              · rename_i t ht
                exact absurd ⟨t, ht⟩ hb
              · exact ⟨_, _, rfl⟩
            obtain ⟨oc, es, he⟩ := this
            exact Step2.bad he
        | block id c => exact hto _ (two (.code c) (.inBlock id) (by simpa [itemCalm, codeCalm] using hit) rfl) (fun x cs w _ => by simp [plus, stepG, stepG.exec, G])
        | loop c => exact hto _ (two (.code c) (.inLoop c) (by simpa [itemCalm, codeCalm] using hit) (by simpa [itemCalm, codeCalm] using hit)) (fun x cs w _ => by simp [plus, stepG, stepG.exec, G])
        | scope c => exact hto _ (two (.code c) (.inScope c) (by simpa [itemCalm, codeCalm] using hit) (by simpa [itemCalm, codeCalm] using hit)) (fun x cs w _ => by simp [plus, stepG, stepG.exec, G])
        | exit id =>
          cases he : exitTo id kk with
          | some kk' => exact hto kk' (fun i hi => hk i (exitTo_sub he i hi)) (fun x cs w _ => by simp [plus, stepG, stepG.exec, G, exitTo_app he])
          | none =>
            have : ∃ oc es, stepG P true (G ⟨fn, tmps, .code (.exit id) :: kk, [], .run, .normal, none⟩ (pl ++ [F0])) v = .ended oc v es := by
              simp only [stepG, stepG.exec, G, he]
              exact ⟨_, _, rfl⟩
            obtain ⟨oc, es, he⟩ := this
            exact Step2.bad he
        | region id ops draw =>
          have ho : itemCalm P F (.inRegion ops []) = true := by simpa [itemCalm, codeCalm] using hit
          cases draw with
          | false => exact hto (.inRegion ops (List.range ops.size) :: kk) (one _ (by simpa [itemCalm] using ho)) (fun x cs w _ => by simp [plus, stepG, stepG.exec, G])
          | true =>
            have hs : ∀ x cs w, stepG P true (G (plus ⟨fn, tmps, .code (.region id ops true) :: kk, [], .run, .normal, none⟩ x) cs) w = .go (G (plus ⟨fn, tmps, .inRegion ops (Region.schedule (P.follows .mixedOrders) ops (w.tape w.drawn (.order fn id))) :: kk, [], .run, .normal, none⟩ x) cs) { w with drawn := w.drawn + 1 } #[] := fun x cs w => by
              simp [plus, stepG, stepG.exec, G, choose, Sem.run, Question.forced, Question.cut]
            refine .inl ⟨⟨fn, tmps, .inRegion ops (Region.schedule (P.follows .mixedOrders) ops (v.tape v.drawn (.order fn id))) :: kk, [], .run, .normal, none⟩, pl, _, #[], by have := hs [] (pl ++ [F0]) v; rwa [plus_nil, plus_nil] at this, ⟨hc.fn, one _ (by simpa [itemCalm] using ho), rfl, rfl, rfl⟩, .inl rfl, hpl, fun cs w hv ht => ?_⟩
            have h0 := ht 0 (.order fn id) (by rw [hs]; exact Nat.lt_succ_self _)
            rw [Nat.add_zero, Nat.add_zero] at h0
            refine ⟨{ w with drawn := w.drawn + 1 }, #[], by rw [hs, h0], ⟨hv.size, hv.same, hv.dark, hv.dim, hv.os, hv.out, hv.real.imp (fun h => h) fun x => ⟨by show v.drawn + 1 = w.drawn + 1; rw [x.1], x.2⟩⟩, ⟨fun _ _ => rfl, fun _ h => h⟩, by show w.drawn + 1 + v.drawn = v.drawn + 1 + w.drawn; omega, rfl, rfl, Nat.le_succ _, Nat.le_refl _, fun e he => by simp at he⟩
        | _ => cases hit
      | inBlock id => exact hto kk hk (fun x cs w _ => by simp [plus, stepG, stepG.exec, G])
      | inScope c => exact hto kk hk (fun x cs w _ => by simp [plus, stepG, stepG.exec, G])
      | inLoop c => exact hto _ (two (.code c) (.inLoop c) (by simpa [itemCalm] using hit) (by simpa [itemCalm] using hit)) (fun x cs w _ => by simp [plus, stepG, stepG.exec, G])
      | inRegion ops l =>
        cases l with
        | nil => exact hto kk hk (fun x cs w _ => by simp [plus, stepG, stepG.exec, G])
        | cons i rest =>
          by_cases hw : ((ops[i]?).map (Region.wanted · (yielded ops tmps))).getD false = true
          · cases ho : ops[i]? with
            | none => rw [ho] at hw; cases hw
            | some o =>
              rw [ho] at hw
              exact step_operK hF ho hw pl F0 v hc hpl hnv
          · have hw : ((ops[i]?).map (Region.wanted · (yielded ops tmps))).getD false = false := by simpa using hw
            refine Step2.ctl (fr' := (⟨fn, tmps, .inRegion ops (i :: rest) :: kk, [], .run, .normal, none⟩ : Frame).finish undef) (fun x cs w _ => by rw [← finish_plus (by simp)]; simp [plus, stepG, stepG.exec, G, hw]) (hc.finish undef) (.inl ?_) hpl
            unfold Frame.finish
            rfl
      | _ => cases hit
  · have hm : mode = .returning := hm
    subst hm
    obtain ⟨fd, hfn⟩ := hc.fn
    have hun : ∀ cs w, stepG P true (G ⟨fn, tmps, todo, [], .returning, .normal, none⟩ cs) w = GStep.after (seen P fn ((results fd tmps).events P w #[])) (match (results fd tmps).run P w with
        | .ok x w => doReturn P true ⟨fn, tmps, todo, [], .returning, .normal, none⟩ cs none x w
        | .halt (.stuck s) w => .ended (.stuck s ((⟨fn, tmps, todo, [], .returning, .normal, none⟩ : Frame).pos P)) w
        | .halt _ w => .ended (.stuck "return: the result variables cannot be read" ((⟨fn, tmps, todo, [], .returning, .normal, none⟩ : Frame).pos P)) w) := by
      intro cs w
      simp only [stepG, unwind, G, hfn, Sem.runT_eq]
      cases (results fd tmps).run P w with
      | ok y w1 => rfl
      | halt y w1 => cases y <;> rfl
    have hKr : Kin P X (results fd tmps) := Kin.results fd tmps
    cases hr : (results fd tmps).run P v with
    | halt x v' =>
      have : ∃ o es, stepG P true (G ⟨fn, tmps, todo, [], .returning, .normal, none⟩ (pl ++ [F0])) v = .ended o v' es := by
        have e := hun (pl ++ [F0]) v
        rw [hr] at e
        cases x <;> exact ⟨_, _, e⟩
      obtain ⟨o, es, he⟩ := this
      exact Step2.bad he
    | ok x v' =>
      cases pl with
      | nil =>
        have e := hun ([] ++ [F0]) v
        rw [hr] at e
        exact .inr (.inl ⟨rfl, x, v', _, e⟩)
      | cons c pl' =>
        obtain ⟨hcc, hcm, hcn⟩ := hpl c List.mem_cons_self
        have hgo0 : ∀ (c : Frame) cs w y w', (results fd tmps).run P w = .ok y w' → stepG P true (G ⟨fn, tmps, todo, [], .returning, .normal, none⟩ (c :: cs)) w = .go (G (c.finish y) cs) w' (seen P fn ((results fd tmps).events P w #[])) := by
          intro c cs w y w' h
          rw [hun, h]
          simp [doReturn, GStep.after, G]
        have hgo : ∀ cs w y w', (results fd tmps).run P w = .ok y w' → stepG P true (G (plus ⟨fn, tmps, todo, [], .returning, .normal, none⟩ (tip k (c :: pl'))) (ext k (c :: pl') ++ cs)) w = .go (G (plus (c.finish y) (tip k pl')) (ext k pl' ++ cs)) w' (seen P fn ((results fd tmps).events P w #[])) := by
          intro cs w y w' h
          rw [show tip k (c :: pl') = [] from rfl, plus_nil, ← finish_plus hcn]
          exact hgo0 _ _ w y w' h
        have hunk : ∀ cs w, stepG P true (G (plus ⟨fn, tmps, todo, [], .returning, .normal, none⟩ (tip k (c :: pl'))) (ext k (c :: pl') ++ cs)) w = stepG P true (G ⟨fn, tmps, todo, [], .returning, .normal, none⟩ (ext k (c :: pl') ++ cs)) w := fun cs w => by rw [show tip k (c :: pl') = [] from rfl, plus_nil]
        refine .inl ⟨c.finish x, pl', v', _, hgo0 c (pl' ++ [F0]) v x v' hr, hcc.finish x, .inl ?_, fun d hd => hpl d (List.mem_cons_of_mem _ hd), fun cs w hv ht => ?_⟩
        · unfold Frame.finish
          split <;> exact hcm
        · have ht' : ∀ j q, w.drawn + j < aft ((results fd tmps).run P w) → v.tape (v.drawn + j) q = w.tape (w.drawn + j) q := fun j q hj => ht j q (by
            cases hq : (results fd tmps).run P w with
            | ok y w1 => rw [hgo cs w y w1 hq]; rw [hq] at hj; exact hj
            | halt y w1 =>
              rw [hq] at hj
              rw [hunk, hun, hq]
              cases y <;> exact hj)
          obtain ⟨w', e1, e2, e3, e4, e5, e6, e7⟩ := hKr.sim v w x v' hv ht' hr
          have hm := hKr.mono v hv.novv
          rw [hr] at hm
          have hm1 := hm.1
          have hm2 := hm.2.2
          rw [hv.size, e2.size] at hm2
          obtain ⟨evs, h1, h2⟩ := e7 #[]
          refine ⟨w', _, hgo cs w x w' e1, e2, e3, e4, e5, e6, by omega, hm2, fun e he => ?_⟩
          have := seen_sub _ _ e he
          rw [h1] at this
          exact h2 e (by simpa using this)
end
end Go.Proofs.Ytoipkpndfgcmcaa.Veils
