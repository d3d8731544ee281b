/-
  A goroutine whose frames are calm: its step in the world with hidden blocks is its step in the true one, whoever waits below. The condition stands in each theorem. No program in sight.
-/
import Derived.Test.YtoipkpndfgcmcaaCvCalm
import Derived.Conc.Own
namespace Go.Proofs.Ytoipkpndfgcmcaa.Veils
open Go Go.Conc
set_option linter.unusedVariables false

def codeCalm (P : Program) (F : FuncId → Bool) : Code → Bool
  | .skip | .ret | .exit _ | .label _ => true
  | .seq a b => codeCalm P F a && codeCalm P F b
  | .cond _ a b => codeCalm P F a && codeCalm P F b
  | .block _ c | .loop c | .scope c => codeCalm P F c
  | .region _ ops _ => ops.all (calm P F)
  | _ => false
def itemCalm (P : Program) (F : FuncId → Bool) : Item → Bool
  | .code c | .inLoop c | .inScope c => codeCalm P F c
  | .inBlock _ => true
  | .inRegion ops _ => ops.all (calm P F)
  | _ => false
/-- The functions of the set: their text is calm; their results lie in slots. -/
structure FnsCalm (P : Program) (F : FuncId → Bool) : Prop where
  fn : ∀ f, F f = true → ∃ fn body, P.funcs[f]? = some fn ∧ fn.body = some body ∧ codeCalm P F body = true
structure FrCalm (P : Program) (F : FuncId → Bool) (fr : Frame) : Prop where
  fn : ∃ fd, P.funcs[fr.fn]? = some fd
  todo : ∀ it ∈ fr.todo, itemCalm P F it = true
  defers : fr.defers = []
  kind : fr.kind = .normal
  round : fr.roundOf = none
section
variable {P : Program} {F : FuncId → Bool} {X : Nat → Prop}
theorem FrCalm.finish {fr : Frame} (h : FrCalm P F fr) (v : Value) : FrCalm P F (fr.finish v) := by
  obtain ⟨h1, h2, h3, h4, h5⟩ := h
  unfold Frame.finish
  split
  · rename_i ops i rest k hk
    refine ⟨h1, fun it hit => ?_, h3, h4, h5⟩
    rcases List.mem_cons.1 hit with rfl | hit
    · exact h2 (.inRegion ops (i :: rest)) (by rw [hk]; simp)
    · exact h2 it (by rw [hk]; simp [hit])
  · rename_i k hk
    have := h2 _ (by rw [hk]; exact List.mem_cons_self)
    cases this
  · rename_i k hk
    have := h2 _ (by rw [hk]; exact List.mem_cons_self)
    cases this
  · rename_i k hk
    have := h2 _ (by rw [hk]; exact List.mem_cons_self)
    cases this
  · rename_i k hk
    have := h2 _ (by rw [hk]; exact List.mem_cons_self)
    cases this
  · exact ⟨h1, h2, h3, h4, h5⟩
theorem FrCalm.enter (hF : FnsCalm P F) {f : FuncId} (hf : F f = true) (args : Array Value) : FrCalm P F (Frame.enter P f args .normal) := by
  obtain ⟨fn, body, h1, h2, h3⟩ := hF.fn f hf
  refine ⟨⟨fn, h1⟩, fun it hit => ?_, rfl, rfl, rfl⟩
  have : it = .code body := by
    simp only [Frame.enter, h1, Option.bind_some, h2, Option.getD_some, List.mem_singleton] at hit
    exact hit
  rw [this]
  exact h3
theorem exitTo_sub {id : Nat} : ∀ {k k' : List Item}, exitTo id k = some k' → ∀ it ∈ k', it ∈ k
  | [], _, h => by cases h
  | i :: k, k', h => by
    intro it hit
    unfold exitTo at h
    split at h
    · rename_i e
      split at h
      · injection h with h
        subst h
        injection e with e1 e2
        subst e2
        exact List.mem_cons_of_mem _ hit
      · injection e with e1 e2
        subst e2
        exact List.mem_cons_of_mem _ (exitTo_sub h it hit)
    · rename_i e
      injection e with e1 e2
      subst e2
      exact List.mem_cons_of_mem _ (exitTo_sub h it hit)
    · rename_i e
      cases e
theorem Kin.foldlM {α β : Type} {f : β → α → Sem β} (hf : ∀ b a, Kin P X (f b a)) : ∀ (l : List α) (b : β), Kin P X (l.foldlM f b)
  | [], b => Kin.pure b
  | a :: l, b => by
    rw [List.foldlM_cons]
    exact Kin.bind (hf b a) fun b' => Kin.foldlM hf l b'
theorem Kin.mapM {α β : Type} {f : α → Sem β} (hf : ∀ a, Kin P X (f a)) (xs : Array α) : Kin P X (xs.mapM f) := by
  rw [Array.mapM_eq_foldlM, ← Array.foldlM_toList]
  exact Kin.foldlM (fun b a => Kin.bind (hf a) fun _ => Kin.pure _) _ _
theorem Kin.results (fn : Func) (tmps : Array Value) : Kin P X (Go.results fn tmps) := by
  unfold Go.results
  refine Kin.bind (Kin.mapM (fun a => ?_) _) (fun _ => Kin.pure _)
  split
  · exact Kin.pure _
  · exact Kin.bind (Kin.asAddr _) fun _ => Kin.loadVar _ _
theorem seen_sub (fn : FuncId) (es : Array Event) : ∀ e ∈ seen P fn es, e ∈ es := by
  intro e he
  unfold seen at he
  dsimp only at he
  rw [← Array.foldl_toList] at he
  have key : ∀ (l : List Event) (q : Bool) (kept : Array Event), (∀ x ∈ kept, x ∈ es) → (∀ x ∈ l, x ∈ es) → ∀ x ∈ (l.foldl (fun (x : Bool × Array Event) e => match e.loc with
      | .mark (.extern f) => ((P.funcs[f]?).any (·.norace), x.2)
      | _ => (x.1, if x.1 && !e.sync then x.2 else x.2.push e)) (q, kept)).2, x ∈ es := by
    intro l
    induction l with
    | nil => intro q kept h _ x hx; exact h x hx
    | cons y l ih =>
      intro q kept h hl x hx
      rw [List.foldl_cons] at hx
      dsimp only at hx
      split at hx
      · exact ih _ _ h (fun z hz => hl z (List.mem_cons_of_mem _ hz)) x hx
      · refine ih _ _ (fun z hz => ?_) (fun z hz => hl z (List.mem_cons_of_mem _ hz)) x hx
        split at hz
        · exact h z hz
        · rcases Array.mem_push.1 hz with h1 | h1
          · exact h z h1
          · rw [h1]; exact hl y List.mem_cons_self
  exact key es.toList _ #[] (fun x hx => by simp at hx) (fun x hx => Array.mem_toList_iff.1 hx) e he
def gaft : GStep → Nat
  | .go _ w _ => w.drawn
  | .ended _ w _ => w.drawn
  | _ => 0
def ModeOk (fr : Frame) : Prop := fr.mode = .run ∨ fr.mode = .returning
structure OnGo (P : Program) (X : Nat → Prop) (fr : Frame) (pl cs : List Frame) (v w : World) (fr' : Frame) (pl' : List Frame) (v' : World) : Prop where
  real : ∃ w' es, stepG P true (G fr (pl ++ cs)) w = .go (G fr' (pl' ++ cs)) w' es ∧ Veil X v' w' ∧ Keep X w w' ∧ w'.drawn + v.drawn = v'.drawn + w.drawn ∧ v'.tape = v.tape ∧ w'.tape = w.tape ∧ w.drawn ≤ w'.drawn ∧ w.heap.size ≤ w'.heap.size ∧ ∀ e ∈ es, FineE X w'.heap.size e
def Step1 (P : Program) (F : FuncId → Bool) (X : Nat → Prop) (fr : Frame) (pl : List Frame) (F0 : Frame) (v : World) (S : GStep) : Prop :=
  (∃ fr' pl' v' es', S = .go (G fr' (pl' ++ [F0])) v' es' ∧ FrCalm P F fr' ∧ ModeOk fr' ∧ (∀ c ∈ pl', FrCalm P F c ∧ c.mode = .run) ∧
    ∀ cs w, Veil X v w → (∀ j q, w.drawn + j < gaft (stepG P true (G fr (pl ++ cs)) w) → v.tape (v.drawn + j) q = w.tape (w.drawn + j) q) → OnGo P X fr pl cs v w fr' pl' v')
  ∨ (pl = [] ∧ ∃ x v' es', S = .go (G (F0.finish x) []) v' es')
  ∨ (∃ ch v' es', S = .go (G { fr with mode := .panicking ch } (pl ++ [F0])) v' es')
  ∨ (∃ o v' es', S = .ended o v' es')
theorem Step1.ctl {fr fr' : Frame} {pl : List Frame} {F0 : Frame} {v : World} (h : ∀ cs w, stepG P true (G fr cs) w = .go (G fr' cs) w #[]) (hc : FrCalm P F fr') (hm : ModeOk fr') (hpl : ∀ c ∈ pl, FrCalm P F c ∧ c.mode = .run) : Step1 P F X fr pl F0 v (stepG P true (G fr (pl ++ [F0])) v) :=
  .inl ⟨fr', pl, v, #[], h _ _, hc, hm, hpl, fun cs w hv _ => ⟨w, #[], h _ _, hv, Keep.refl _ _, by omega, rfl, rfl, Nat.le_refl _, Nat.le_refl _, fun e he => by simp at he⟩⟩
theorem Step1.bad {fr : Frame} {pl : List Frame} {F0 : Frame} {v : World} {o : Outcome} {v' : World} {es : Array Event} (h : stepG P true (G fr (pl ++ [F0])) v = .ended o v' es) : Step1 P F X fr pl F0 v (stepG P true (G fr (pl ++ [F0])) v) := .inr (.inr (.inr ⟨o, v', es, h⟩))
theorem FrCalm.todo_ {fr : Frame} (h : FrCalm P F fr) {t : List Item} (ht : ∀ it ∈ t, itemCalm P F it = true) (m : FrameMode) : FrCalm P F { fr with todo := t, mode := m } := ⟨h.fn, ht, h.defers, h.kind, h.round⟩
/-- The step of an operation. -/
theorem step_oper (hF : FnsCalm P F) {fn : FuncId} {tmps : Array Value} {ops : Array Oper} {i : Nat} {rest : List Nat} {k : List Item} {o : Oper} (ho : ops[i]? = some o) (hw : Region.wanted o (yielded ops tmps) = true) (pl : List Frame) (F0 : Frame) (v : World)
    (hc : FrCalm P F ⟨fn, tmps, .inRegion ops (i :: rest) :: k, [], .run, .normal, none⟩) (hpl : ∀ c ∈ pl, FrCalm P F c ∧ c.mode = .run) (hnv : NoView v) :
    Step1 P F X ⟨fn, tmps, .inRegion ops (i :: rest) :: k, [], .run, .normal, none⟩ pl F0 v (stepG P true (G ⟨fn, tmps, .inRegion ops (i :: rest) :: k, [], .run, .normal, none⟩ (pl ++ [F0])) v) := by
  have hall : ops.all (calm P F) = true := hc.todo _ List.mem_cons_self
  have hcalm : calm P F o = true := by
    obtain ⟨hi, rfl⟩ := Array.getElem?_eq_some_iff.1 ho
    exact Array.all_eq_true.1 hall i hi
  obtain ⟨fr, hfr⟩ : ∃ fr : Frame, (⟨fn, tmps, .inRegion ops (i :: rest) :: k, [], .run, .normal, none⟩ : Frame) = fr := ⟨_, rfl⟩
  have hCalm : Calm P X F (execOp fr.eval o) := calm_exec hcalm fr.eval (fun f => rfl)
  have hst : ∀ cs w, stepG P true (G fr cs) w = stepG.apply P true fr cs none (execOp fr.eval o) w := by
    intro cs w
    subst hfr
    simp [G, stepG, stepG.exec, stepG.oper, Frame.oper?, ho, hw]
  have hk : (fr.kind == CallKind.early) = false := by rw [← hfr]; rfl
  have htodo : fr.todo = .inRegion ops (i :: rest) :: k := by rw [← hfr]
  have hval : ∀ cs w x w', (execOp fr.eval o).run P w = .ok (.value x) w' → stepG P true (G fr cs) w = .go (G (fr.finish x) cs) w' (seen P fr.fn ((execOp fr.eval o).events P w #[])) := by
    intro cs w x w' hr
    rw [hst]
    simp [stepG.apply, hr, G, hk, GStep.after]
  have hskip : ∀ cs w w', (execOp fr.eval o).run P w = .ok .skip w' → stepG P true (G fr cs) w = .go (G (fr.finish undef) cs) w' (seen P fr.fn ((execOp fr.eval o).events P w #[])) := by
    intro cs w w' hr
    rw [hst]
    simp [stepG.apply, hr, G, hk, GStep.after]
  have hent : ∀ cs w f args w', (execOp fr.eval o).run P w = .ok (.enter f args) w' → stepG P true (G fr cs) w = .go (G (Frame.enter P f args .normal) (fr :: cs)) w' (seen P fr.fn ((execOp fr.eval o).events P w #[])) := by
    intro cs w f args w' hr
    rw [hst]
    simp [stepG.apply, hr, G, hk, GStep.after, htodo]
  have hpan : ∀ cs w x w', (execOp fr.eval o).run P w = .halt (.panic x) w' → stepG P true (G fr cs) w = .go (G (fr.raise [{ v := x, recovered := false }]) cs) w' (seen P fr.fn ((execOp fr.eval o).events P w #[])) := by
    intro cs w x w' hr
    rw [hst]
    simp [stepG.apply, hr, G, hk, GStep.after]
  have hend : ∀ cs w x w', (execOp fr.eval o).run P w = .halt x w' → OkHalt x → (∀ y, x ≠ .panic y) → ∃ oc es, stepG P true (G fr cs) w = .ended oc w' es := by
    intro cs w x w' hr hx hy
    rw [hst]
    cases x with
    | stuck s => exact ⟨.stuck s (fr.pos P), _, by simp [stepG.apply, hr, hk, GStep.after]; rfl⟩
    | unsupported u =>
      refine ⟨.unsupported u (fr.pos P), seen P fr.fn ((execOp fr.eval o).events P w #[]), ?_⟩
      cases u <;> first | exact absurd rfl (hx _) | simp [stepG.apply, hr, hk, GStep.after]
    | panic y => exact absurd rfl (hy y)
    | _ => exact hx.elim
  have haft : ∀ cs w, gaft (stepG P true (G fr cs) w) = aft ((execOp fr.eval o).run P w) ∨ ¬ NoView w := by
    intro cs w
    by_cases hw : NoView w
    · left
      cases hr : (execOp fr.eval o).run P w with
      | ok n w' =>
        have hn := hCalm.next w n w' hr
        cases n with
        | value x => rw [hval cs w x w' hr]; rfl
        | skip => rw [hskip cs w w' hr]; rfl
        | enter f args => rw [hent cs w f args w' hr]; rfl
        | _ => exact hn.elim
      | halt x w' =>
        have hx := hCalm.kin.hal w hw x w' hr
        by_cases hp : ∃ y, x = .panic y
        · obtain ⟨y, rfl⟩ := hp
          rw [hpan cs w y w' hr]; rfl
        · obtain ⟨oc, es, he⟩ := hend cs w x w' hr hx (fun y e => hp ⟨y, e⟩)
          rw [he]; rfl
    · exact .inr hw
  have hon : ∀ cs w n v' fr' pl', Veil X v w → (∀ j q, w.drawn + j < gaft (stepG P true (G fr (pl ++ cs)) w) → v.tape (v.drawn + j) q = w.tape (w.drawn + j) q) → (execOp fr.eval o).run P v = .ok n v' →
      (∀ w', (execOp fr.eval o).run P w = .ok n w' → stepG P true (G fr (pl ++ cs)) w = .go (G fr' (pl' ++ cs)) w' (seen P fr.fn ((execOp fr.eval o).events P w #[]))) → OnGo P X fr pl cs v w fr' pl' v' := by
    intro cs w n v' fr' pl' hv ht hr hg
    obtain ⟨w', e1, e2, e3, e4, e5, e6, e7⟩ := hCalm.kin.sim v w n v' hv (fun j q hj => by
      rcases hv.real with hnw | ⟨hd, htp⟩
      · rw [(haft (pl ++ cs) w).resolve_right (fun h => h hnw)] at ht
        exact ht j q hj
      · rw [hd, htp]) hr
    have hm := hCalm.kin.mono v hv.novv
    rw [hr] at hm
    have hm1 := hm.1
    have hm2 := hm.2.2
    rw [hv.size, e2.size] at hm2
    obtain ⟨evs, h1, h2⟩ := e7 #[]
    refine ⟨w', _, hg w' e1, e2, e3, e4, e5, e6, by omega, hm2, fun e he => ?_⟩
    have := seen_sub _ _ e he
    rw [h1] at this
    exact h2 e (by simpa using this)
  rw [hfr] at hc ⊢
  cases hr : (execOp fr.eval o).run P v with
  | ok n v' =>
    have hn := hCalm.next v n v' hr
    have hmo : ModeOk fr := .inl (by rw [← hfr])
    cases n with
    | value x =>
      refine .inl ⟨_, pl, v', _, hval _ v x v' hr, hc.finish x, .inl ?_, hpl, fun cs w hv ht => hon cs w _ v' _ _ hv ht hr (fun w' h => hval _ w x w' h)⟩
      unfold Frame.finish
      rw [htodo, ← hfr]
    | skip =>
      refine .inl ⟨_, pl, v', _, hskip _ v v' hr, hc.finish undef, .inl ?_, hpl, fun cs w hv ht => hon cs w _ v' _ _ hv ht hr (fun w' h => hskip _ w w' h)⟩
      unfold Frame.finish
      rw [htodo, ← hfr]
    | enter f args =>
      refine .inl ⟨_, fr :: pl, v', _, hent _ v f args v' hr, FrCalm.enter hF hn args, .inl rfl, fun c hcm => ?_, fun cs w hv ht => hon cs w _ v' _ _ hv ht hr (fun w' h => hent _ w f args w' h)⟩
      rcases List.mem_cons.1 hcm with rfl | hcm
      · exact ⟨hc, by rw [← hfr]⟩
      · exact hpl c hcm
    | _ => exact hn.elim
  | halt x v' =>
    have hx := hCalm.kin.hal v hnv x v' hr
    by_cases hp : ∃ y, x = .panic y
    · obtain ⟨y, rfl⟩ := hp
      have hra : fr.raise [{ v := y, recovered := false }] = { fr with mode := .panicking [{ v := y, recovered := false }] } := by rw [← hfr]; rfl
      exact .inr (.inr (.inl ⟨[{ v := y, recovered := false }], v', _, hra ▸ hpan _ v y v' hr⟩))
    · obtain ⟨oc, es, he⟩ := hend (pl ++ [F0]) v x v' hr hx (fun y e => hp ⟨y, e⟩)
      exact Step1.bad he
/-- EVERY STEP of a calm goroutine. -/
theorem step_calm (hF : FnsCalm P F) {fr : Frame} {pl : List Frame} (hc : FrCalm P F fr) (hm : ModeOk fr) (hpl : ∀ c ∈ pl, FrCalm P F c ∧ c.mode = .run) (F0 : Frame) (v : World) (hnv : NoView v) :
    Step1 P F X fr pl F0 v (stepG P true (G fr (pl ++ [F0])) v) := by
  obtain ⟨fn, tmps, todo, defers, mode, kind, round⟩ := fr
  have h3 : defers = [] := hc.defers
  have h4 : kind = .normal := hc.kind
  have h5 : round = none := hc.round
  subst h3 h4 h5
  rcases hm with hm | hm
  · have hm : mode = .run := hm
    subst hm
    have hret : (∀ cs w, stepG P true (G ⟨fn, tmps, todo, [], .run, .normal, none⟩ cs) w = .go (G ⟨fn, tmps, todo, [], .returning, .normal, none⟩ cs) w #[]) → Step1 P F X ⟨fn, tmps, todo, [], .run, .normal, none⟩ pl F0 v (stepG P true (G ⟨fn, tmps, todo, [], .run, .normal, none⟩ (pl ++ [F0])) v) :=
      fun h => Step1.ctl h ⟨hc.fn, hc.todo, rfl, rfl, rfl⟩ (.inr rfl) hpl
    have hto : ∀ t : List Item, (∀ it ∈ t, itemCalm P F it = true) → (∀ cs w, stepG P true (G ⟨fn, tmps, todo, [], .run, .normal, none⟩ cs) w = .go (G ⟨fn, tmps, t, [], .run, .normal, none⟩ cs) w #[]) → Step1 P F X ⟨fn, tmps, todo, [], .run, .normal, none⟩ pl F0 v (stepG P true (G ⟨fn, tmps, todo, [], .run, .normal, none⟩ (pl ++ [F0])) v) :=
      fun t ht h => Step1.ctl h ⟨hc.fn, ht, rfl, rfl, rfl⟩ (.inl rfl) hpl
    cases todo with
    | nil => exact hret (fun cs w => by simp [stepG, stepG.exec, G])
    | cons it k =>
      have hit : itemCalm P F it = true := hc.todo it List.mem_cons_self
      have hk : ∀ i ∈ k, itemCalm P F i = true := fun i hi => hc.todo i (List.mem_cons_of_mem _ hi)
      have two : ∀ a b : Item, itemCalm P F a = true → itemCalm P F b = true → ∀ i ∈ a :: b :: k, itemCalm P F i = true := fun a b ha hb i hi => by
        rcases List.mem_cons.1 hi with rfl | hi
        · exact ha
        rcases List.mem_cons.1 hi with rfl | hi
        · exact hb
        · exact hk i hi
      have one : ∀ a : Item, itemCalm P F a = true → ∀ i ∈ a :: k, itemCalm P F i = true := fun a ha i hi => by
        rcases List.mem_cons.1 hi with rfl | hi
        · exact ha
        · exact hk i hi
      cases it with
      | code c =>
        cases c with
        | skip => exact hto k hk (fun cs w => by simp [stepG, stepG.exec, G])
        | label l => exact hto k hk (fun cs w => by simp [stepG, stepG.exec, G])
        | ret => exact hret (fun cs w => by simp [stepG, stepG.exec, G])
        | seq a b =>
          have h : codeCalm P F a = true ∧ codeCalm P F b = true := by simpa [itemCalm, codeCalm] using hit
          exact hto _ (two (.code a) (.code b) h.1 h.2) (fun cs w => by simp [stepG, stepG.exec, G])
        | cond c a b =>
          have h : codeCalm P F a = true ∧ codeCalm P F b = true := by simpa [itemCalm, codeCalm] using hit
          by_cases hb : ∃ t, (⟨fn, tmps, .code (.cond c a b) :: k, [], .run, .normal, none⟩ : Frame).eval c = .bool t
          · obtain ⟨t, ht⟩ := hb
            refine hto _ (one (.code (if t then a else b)) (by cases t <;> simp [itemCalm, h])) (fun cs w => by simp [stepG, stepG.exec, G, ht])
          · have : ∃ oc es, stepG P true (G ⟨fn, tmps, .code (.cond c a b) :: k, [], .run, .normal, none⟩ (pl ++ [F0])) v = .ended oc v es := by
              simp only [stepG, stepG.exec, G]
              split
              · rename_i t ht
                exact absurd ⟨t, ht⟩ hb
              · exact ⟨_, _, rfl⟩
            obtain ⟨oc, es, he⟩ := this
            exact Step1.bad he
        | block id c => exact hto _ (two (.code c) (.inBlock id) (by simpa [itemCalm, codeCalm] using hit) rfl) (fun cs w => by simp [stepG, stepG.exec, G])
        | loop c => exact hto _ (two (.code c) (.inLoop c) (by simpa [itemCalm, codeCalm] using hit) (by simpa [itemCalm, codeCalm] using hit)) (fun cs w => by simp [stepG, stepG.exec, G])
        | scope c => exact hto _ (two (.code c) (.inScope c) (by simpa [itemCalm, codeCalm] using hit) (by simpa [itemCalm, codeCalm] using hit)) (fun cs w => by simp [stepG, stepG.exec, G])
        | exit id =>
          cases he : exitTo id k with
          | some k' => exact hto k' (fun i hi => hk i (exitTo_sub he i hi)) (fun cs w => by simp [stepG, stepG.exec, G, he])
          | none =>
            have : ∃ oc es, stepG P true (G ⟨fn, tmps, .code (.exit id) :: k, [], .run, .normal, none⟩ (pl ++ [F0])) v = .ended oc v es := by
              simp only [stepG, stepG.exec, G, he]
              exact ⟨_, _, rfl⟩
            obtain ⟨oc, es, he⟩ := this
            exact Step1.bad he
        | region id ops draw =>
          have ho : itemCalm P F (.inRegion ops []) = true := by simpa [itemCalm, codeCalm] using hit
          cases draw with
          | false => exact hto (.inRegion ops (List.range ops.size) :: k) (one _ (by simpa [itemCalm] using ho)) (fun cs w => by simp [stepG, stepG.exec, G])
          | true =>
            have hs : ∀ cs w, stepG P true (G ⟨fn, tmps, .code (.region id ops true) :: k, [], .run, .normal, none⟩ cs) w = .go (G ⟨fn, tmps, .inRegion ops (Region.schedule (P.follows .mixedOrders) ops (w.tape w.drawn (.order fn id))) :: k, [], .run, .normal, none⟩ cs) { w with drawn := w.drawn + 1 } #[] := fun cs w => by
              simp [stepG, stepG.exec, G, choose, Sem.run, Question.forced, Question.cut]
            refine .inl ⟨_, pl, _, #[], hs _ _, ⟨hc.fn, one _ (by simpa [itemCalm] using ho), rfl, rfl, rfl⟩, .inl rfl, hpl, fun cs w hv ht => ?_⟩
            have h0 := ht 0 (.order fn id) (by rw [hs]; exact Nat.lt_succ_self _)
            rw [Nat.add_zero, Nat.add_zero] at h0
            refine ⟨{ w with drawn := w.drawn + 1 }, #[], by rw [hs, h0], ⟨hv.size, hv.same, hv.dark, hv.dim, hv.os, hv.out, hv.real.imp (fun h => h) fun x => ⟨by show v.drawn + 1 = w.drawn + 1; rw [x.1], x.2⟩⟩, ⟨fun _ _ => rfl, fun _ h => h⟩, by show w.drawn + 1 + v.drawn = v.drawn + 1 + w.drawn; omega, rfl, rfl, Nat.le_succ _, Nat.le_refl _, fun e he => by simp at he⟩
        | _ => cases hit
      | inBlock id => exact hto k hk (fun cs w => by simp [stepG, stepG.exec, G])
      | inScope c => exact hto k hk (fun cs w => by simp [stepG, stepG.exec, G])
      | inLoop c => exact hto _ (two (.code c) (.inLoop c) (by simpa [itemCalm] using hit) (by simpa [itemCalm] using hit)) (fun cs w => by simp [stepG, stepG.exec, G])
      | inRegion ops l =>
        cases l with
        | nil => exact hto k hk (fun cs w => by simp [stepG, stepG.exec, G])
        | cons i rest =>
          by_cases hw : ((ops[i]?).map (Region.wanted · (yielded ops tmps))).getD false = true
          · cases ho : ops[i]? with
            | none => rw [ho] at hw; cases hw
            | some o =>
              rw [ho] at hw
              exact step_oper hF ho hw pl F0 v hc hpl hnv
          · have hw : ((ops[i]?).map (Region.wanted · (yielded ops tmps))).getD false = false := by simpa using hw
            refine Step1.ctl (fr' := (⟨fn, tmps, .inRegion ops (i :: rest) :: k, [], .run, .normal, none⟩ : Frame).finish undef) (fun cs w => by simp [stepG, stepG.exec, G, hw]) (hc.finish undef) (.inl ?_) hpl
            unfold Frame.finish
            rfl
      | _ => cases hit
  · have hm : mode = .returning := hm
    subst hm
    obtain ⟨fd, hfn⟩ := hc.fn
    have hun : ∀ cs w, stepG P true (G ⟨fn, tmps, todo, [], .returning, .normal, none⟩ cs) w = GStep.after (seen P fn ((results fd tmps).events P w #[])) (match (results fd tmps).run P w with
        | .ok x w => doReturn P true ⟨fn, tmps, todo, [], .returning, .normal, none⟩ cs none x w
        | .halt (.stuck s) w => .ended (.stuck s ((⟨fn, tmps, todo, [], .returning, .normal, none⟩ : Frame).pos P)) w
        | .halt _ w => .ended (.stuck "return: the result variables cannot be read" ((⟨fn, tmps, todo, [], .returning, .normal, none⟩ : Frame).pos P)) w) := by
      intro cs w
      simp only [stepG, unwind, G, hfn, Sem.runT_eq]
      cases (results fd tmps).run P w with
      | ok y w1 => rfl
      | halt y w1 => cases y <;> rfl
    have hKr : Kin P X (results fd tmps) := Kin.results fd tmps
    cases hr : (results fd tmps).run P v with
    | halt x v' =>
      have : ∃ o es, stepG P true (G ⟨fn, tmps, todo, [], .returning, .normal, none⟩ (pl ++ [F0])) v = .ended o v' es := by
        have e := hun (pl ++ [F0]) v
        rw [hr] at e
        cases x <;> exact ⟨_, _, e⟩
      obtain ⟨o, es, he⟩ := this
      exact Step1.bad he
    | ok x v' =>
      cases pl with
      | nil =>
        have e := hun ([] ++ [F0]) v
        rw [hr] at e
        exact .inr (.inl ⟨rfl, x, v', _, e⟩)
      | cons c pl' =>
        obtain ⟨hcc, hcm⟩ := hpl c List.mem_cons_self
        have hgo : ∀ cs w y w', (results fd tmps).run P w = .ok y w' → stepG P true (G ⟨fn, tmps, todo, [], .returning, .normal, none⟩ (c :: pl' ++ cs)) w = .go (G (c.finish y) (pl' ++ cs)) w' (seen P fn ((results fd tmps).events P w #[])) := by
          intro cs w y w' h
          rw [hun, h]
          simp [doReturn, GStep.after, G]
        refine .inl ⟨c.finish x, pl', v', _, hgo [F0] v x v' hr, hcc.finish x, .inl ?_, fun d hd => hpl d (List.mem_cons_of_mem _ hd), fun cs w hv ht => ?_⟩
        · unfold Frame.finish
          split <;> exact hcm
        · have ht' : ∀ j q, w.drawn + j < aft ((results fd tmps).run P w) → v.tape (v.drawn + j) q = w.tape (w.drawn + j) q := fun j q hj => ht j q (by
            cases hq : (results fd tmps).run P w with
            | ok y w1 => rw [hgo cs w y w1 hq]; rw [hq] at hj; exact hj
            | halt y w1 =>
              rw [hq] at hj
              rw [hun, hq]
              cases y <;> exact hj)
          obtain ⟨w', e1, e2, e3, e4, e5, e6, e7⟩ := hKr.sim v w x v' hv ht' hr
          have hm := hKr.mono v hv.novv
          rw [hr] at hm
          have hm1 := hm.1
          have hm2 := hm.2.2
          rw [hv.size, e2.size] at hm2
          obtain ⟨evs, h1, h2⟩ := e7 #[]
          refine ⟨w', _, hgo cs w x w' e1, e2, e3, e4, e5, e6, by omega, hm2, fun e he => ?_⟩
          have := seen_sub _ _ e he
          rw [h1] at this
          exact h2 e (by simpa using this)
end
end Go.Proofs.Ytoipkpndfgcmcaa.Veils
