/-
  From what a call does alone, on every tape, to what it does while others draw from the tape and some blocks are hidden: 'Runs'. The conditions stand in each theorem. No program in sight.
-/
import Derived.Test.YtoipkpndfgcmcaaCvStep
import Derived.Conc.Beside
namespace Go.Proofs.Ytoipkpndfgcmcaa.Veils
open Go Go.Conc
set_option linter.unusedVariables false

/-- Goroutine 0 comes to a stop, whatever the others draw ahead of each of its steps. -/
inductive Runs (P : Program) (D : World → World → Array Event → Prop) (Stop : Goroutine → World → Prop) : Goroutine → World → Prop
  | stop {g : Goroutine} {w : World} : (∀ d, Stop g (w.at d)) → Runs P D Stop g w
  | step {g : Goroutine} {w : World} (gf : Nat → Goroutine) (wf : Nat → World) (ef : Nat → Array Event) : g.status = .running → (∀ d, stepG P true g (w.at d) = .go (gf d) (wf d) (ef d)) → (∀ d, D (w.at d) (wf d) (ef d)) → (∀ d, Runs P D Stop (gf d) (wf d)) → Runs P D Stop g w
theorem Runs.of_step {P : Program} {D : World → World → Array Event → Prop} {Stop : Goroutine → World → Prop} {g : Goroutine} {w : World} (hr : g.status = .running)
    (h : ∀ d, ∃ g' w' es, stepG P true g (w.at d) = .go g' w' es ∧ D (w.at d) w' es ∧ Runs P D Stop g' w') : Runs P D Stop g w :=
  .step (fun d => Classical.choose (h d)) (fun d => Classical.choose (Classical.choose_spec (h d))) (fun d => Classical.choose (Classical.choose_spec (Classical.choose_spec (h d)))) hr
    (fun d => (Classical.choose_spec (Classical.choose_spec (Classical.choose_spec (h d)))).1) (fun d => (Classical.choose_spec (Classical.choose_spec (Classical.choose_spec (h d)))).2.1) (fun d => (Classical.choose_spec (Classical.choose_spec (Classical.choose_spec (h d)))).2.2)
section
variable {P : Program}
/-- The frame below which a lone run never comes back. -/
def pit : Frame := { fn := 0, tmps := #[], todo := [], defers := [{ target := .builtin .make #[] 0 #[], args := #[] }], mode := .run, kind := .normal }
theorem pit_finish (x : Value) : pit.finish x = pit := rfl
def Home (m : Machine) : Prop := ∃ fr v, m = lone fr [pit] v ∧ fr.mode = .returning
theorem lone_inj {fr fr' : Frame} {cs cs' : List Frame} {w w' : World} (h : lone fr cs w = lone fr' cs' w') : fr = fr' ∧ cs = cs' ∧ w = w' := by
  unfold lone at h
  injection h with h1 h2 h3
  have h2 : (#[{ frame := fr, callers := cs, status := .running, dying := none }] : Array Goroutine) = #[{ frame := fr', callers := cs', status := .running, dying := none }] := by first | exact h2 | exact h1
  have h2 : ({ frame := fr, callers := cs, status := .running, dying := none } : Goroutine) = { frame := fr', callers := cs', status := .running, dying := none } := by simpa using h2
  injection h2 with a b
  exact ⟨a, b, by first | exact h1 | exact h2 | exact h3⟩
theorem runN_ended {m : Machine} {o : Outcome} {w : World} (h : step P m = .ended o w) : ∀ (n : Nat) (m' : Machine), runN P (n + 1) m ≠ .next m' := fun n m' e => by
  unfold runN at e
  rw [h] at e
  cases e
theorem runN_next {m m1 m' : Machine} {n : Nat} (h : step P m = .next m1) (e : runN P (n + 1) m = .next m') : runN P n m1 = .next m' := by
  unfold runN at e
  rw [h] at e
  exact e
/-- The frame at the bottom, left alone: the run ends without coming home. -/
theorem pit_bad (mo : FrameMode) (hmo : mo ≠ .run) (v : World) : ∃ o w, step P (lone { pit with mode := mo } [] v) = .ended o w := by
  refine ⟨.stuck "make, new: Elab turns them into operations of their own" (({ pit with mode := mo, defers := [] } : Frame).pos P), v, step_lone_ended ?_⟩
  have hi : ∀ w, (invoke (.builtin .make #[] 0 #[]) #[]).run P w = .halt (.stuck "make, new: Elab turns them into operations of their own") w := fun w => rfl
  cases mo with
  | run => exact absurd rfl hmo
  | returning => simp [stepG, unwind, pit, callDeferred, hi]
  | panicking ch => simp [stepG, unwind, pit, callDeferred, hi]
theorem pit_away : ∀ (n : Nat) (v : World) (m : Machine), runN P n (lone pit [] v) = .next m → ¬ Home m := by
  intro n v m h
  have h1 : step P (lone pit [] v) = .next (lone { pit with mode := .returning } [] v) := step_lone_go (by simp [stepG, stepG.exec, pit])
  have no : ∀ (fr : Frame) (v : World), ¬ Home (lone fr [] v) := fun fr v ⟨fr', v', e, _⟩ => by
    have := (lone_inj e).2.1
    cases this
  match n, h with
  | 0, h =>
    have : lone pit [] v = m := by unfold runN at h; cases h; rfl
    rw [← this]
    exact no _ _
  | 1, h =>
    have h := runN_next h1 h
    have : lone { pit with mode := .returning } [] v = m := by unfold runN at h; cases h; rfl
    rw [← this]
    exact no _ _
  | n + 2, h =>
    have h := runN_next h1 h
    obtain ⟨o, w, he⟩ := pit_bad (P := P) .returning (by simp) v
    exact absurd h (runN_ended he n m)
theorem panic_away {F : FuncId → Bool} (hF : FnsCalm P F) : ∀ (n : Nat) (pl : List Frame) (fr : Frame) (ch : List PanicEntry) (v : World) (m : Machine), fr.mode = .panicking ch → fr.defers = [] → (∃ fd, P.funcs[fr.fn]? = some fd) → (∀ c ∈ pl, FrCalm P F c ∧ c.mode = .run) → runN P n (lone fr (pl ++ [pit]) v) = .next m → ¬ Home m := by
  intro n
  induction n with
  | zero =>
    intro pl fr ch v m hm _ _ _ h ⟨fr', v', e, hr⟩
    unfold runN at h
    cases h
    have := (lone_inj e).1
    rw [this, hr] at hm
    cases hm
  | succ n ih =>
    intro pl fr ch v m hm hd hf hpl h
    obtain ⟨fd, hfn⟩ := hf
    have hcatch : fr.catches P = false := by unfold Frame.catches; rw [hfn]
    have hst : ∀ (c : Frame) (rest : List Frame), step P (lone fr (c :: rest) v) = .next (lone (c.raise ch) rest v) := fun c rest => step_lone_go (by
      obtain ⟨fn, tmps, todo, defers, mode, kind, round⟩ := fr
      subst hm hd
      simp [stepG, unwind, hcatch])
    cases pl with
    | nil =>
      have h := runN_next (hst pit []) h
      have hp : pit.raise ch = { pit with mode := .panicking ch } := rfl
      rw [hp] at h
      obtain ⟨o, w, he⟩ := pit_bad (P := P) (.panicking ch) (by simp) v
      cases n with
      | zero =>
        unfold runN at h
        cases h
        rintro ⟨fr', v', e, _⟩
        have := (lone_inj e).2.1
        cases this
      | succ n => exact absurd h (runN_ended he n m)
    | cons c pl' =>
      obtain ⟨hcc, hcm⟩ := hpl c List.mem_cons_self
      have h := runN_next (hst c (pl' ++ [pit])) h
      have hp : c.raise ch = { c with mode := .panicking ch } := by unfold Frame.raise; rw [hcm]
      rw [hp] at h
      exact ih pl' { c with mode := .panicking ch } ch v m rfl hcc.defers hcc.fn (fun d hd => hpl d (List.mem_cons_of_mem _ hd)) h
structure St where
  fr : Frame
  pl : List Frame
  w : World
def OkSt (P : Program) (F : FuncId → Bool) (s : St) : Prop := FrCalm P F s.fr ∧ ModeOk s.fr ∧ ∀ c ∈ s.pl, FrCalm P F c ∧ c.mode = .run
theorem G_inj {fr fr' : Frame} {a b cs : List Frame} (h : G fr (a ++ cs) = G fr' (b ++ cs)) : fr = fr' ∧ a = b := by
  unfold G at h
  injection h with h1 h2
  exact ⟨h1, List.append_cancel_right h2⟩
/-! the lone world of a true one -/
open Classical in
/-- The world with the hidden blocks, and those that are no plain object, emptied. -/
noncomputable def veilW (X : Nat → Prop) (w : World) : World := { w with heap := w.heap.mapIdx fun b o => if X b then .stringIter .empty 0 else if Obj.plain o then o else dimO o }
/-- The hidden blocks are rows of cells. -/
def Rows (X : Nat → Prop) (w : World) : Prop := ∀ b, X b → ∃ c e, w.heap[b]? = some (.cells c e) ∧ 0 < c.size
theorem veilW_at {X : Nat → Prop} (w : World) (b : Nat) : (veilW X w).heap[b]? = (w.heap[b]?).map fun o => open Classical in if X b then .stringIter .empty 0 else if Obj.plain o then o else dimO o := by
  unfold veilW
  simp
theorem veilW_veil {X : Nat → Prop} {w : World} (h : Rows X w) : Veil X (veilW X w) w := by
  refine ⟨by simp [veilW], fun b hb hv => ?_, fun b hb => ?_, fun b o ho hn => ?_, rfl, rfl, .inr ⟨rfl, rfl⟩⟩
  · rw [veilW_at]
    cases hw : w.heap[b]? with
    | none => rfl
    | some o =>
      have hp : Obj.plain o := Classical.byContradiction fun hn => hv ⟨o, hw, hn⟩
      simp [hb, hp]
  · obtain ⟨c, e, h1, h2⟩ := h b hb
    refine ⟨?_, c, e, h1, h2⟩
    rw [veilW_at, h1]
    simp [hb]
  · rw [veilW_at, ho]
    by_cases hb : X b
    · obtain ⟨c, e, h1, h2⟩ := h b hb
      rw [ho] at h1
      injection h1 with h1
      subst h1
      exact absurd trivial hn
    · simp [hb, hn]
/-- A veiled world is known by the true one. -/
theorem Veil.heap_eq {X : Nat → Prop} {v w : World} (h : Veil X v w) : v.heap = (veilW X w).heap := by
  apply Array.ext_getElem?
  intro b
  rw [veilW_at]
  by_cases hb : X b
  · obtain ⟨h1, c, e, h2, _⟩ := h.dark b hb
    rw [h1, h2]
    simp [hb]
  · by_cases hv : Vw w b
    · obtain ⟨o, h1, h2⟩ := hv
      rw [h.dim b o h1 h2, h1]
      simp [hb, h2]
    · rw [h.same b hb hv]
      cases hw : w.heap[b]? with
      | none => rfl
      | some o =>
        have hp : Obj.plain o := Classical.byContradiction fun hn => hv ⟨o, hw, hn⟩
        simp [hb, hp]
/-- A world beside one that parts from it in the tape alone. -/
theorem veil_self {v u : World} (h1 : v.heap = u.heap) (h2 : v.os = u.os) (h3 : v.output = u.output) (h4 : NoView u) : Veil (fun _ => False) v u :=
  ⟨by rw [h1], fun b _ _ => by rw [h1], fun b hb => hb.elim, fun b o ho hn => absurd (h4 b o ho) hn, h2, h3, .inl h4⟩
theorem veil_self' {v u : World} (h : Veil (fun _ => False) v u) (hn : NoView u) : v.heap = u.heap := by
  apply Array.ext_getElem?
  intro b
  exact h.same b id fun ⟨o, h1, h2⟩ => h2 (hn b o h1)
/-- What a lone step tells of the true one. -/
structure Pair (P : Program) (X : Nat → Prop) (u : World) (v w : World) (gs : GStep) (g' : Goroutine) (v' : World) : Prop where
  go : ∃ w' es, gs = .go g' w' es ∧ v'.heap = (veilW X w').heap ∧ v'.os = w'.os ∧ v'.output = w'.output ∧ Keep X w w' ∧ w'.drawn + v.drawn = v'.drawn + w.drawn ∧ v'.tape = v.tape ∧ w'.tape = w.tape ∧ w.drawn ≤ w'.drawn ∧ w.heap.size ≤ w'.heap.size ∧ (∀ e ∈ es, FineE X w'.heap.size e)
theorem Rows.keep {X : Nat → Prop} {w w' : World} (h : Rows X w) (hk : ∀ b, X b → w'.heap[b]? = w.heap[b]?) : Rows X w' := fun b hb => let ⟨c, e, h1, h2⟩ := h b hb; ⟨c, e, (hk b hb).trans h1, h2⟩
theorem pair_step {F : FuncId → Bool} {X : Nat → Prop} (hF : FnsCalm P F) {fr : Frame} {pl : List Frame} (hc : FrCalm P F fr) (hm : ModeOk fr) (hpl : ∀ c ∈ pl, FrCalm P F c ∧ c.mode = .run) (cs : List Frame) (v w : World) (hX : Rows X w) (hh : v.heap = (veilW X w).heap) (ho : v.os = w.os) (hout : v.output = w.output)
    (ht : ∀ j q, w.drawn + j < gaft (stepG P true (G fr (pl ++ [pit])) (veilW X w)) → v.tape (v.drawn + j) q = w.tape (w.drawn + j) q) :
    (∃ fr' pl' v' es', stepG P true (G fr (pl ++ [pit])) v = .go (G fr' (pl' ++ [pit])) v' es' ∧ FrCalm P F fr' ∧ ModeOk fr' ∧ (∀ c ∈ pl', FrCalm P F c ∧ c.mode = .run) ∧
      (∃ w' es, stepG P true (G fr (pl ++ cs)) w = .go (G fr' (pl' ++ cs)) w' es ∧ v'.heap = (veilW X w').heap ∧ v'.os = w'.os ∧ v'.output = w'.output ∧ Keep X w w' ∧ w'.drawn + v.drawn = v'.drawn + w.drawn ∧ v'.tape = v.tape ∧ w'.tape = w.tape ∧ w.drawn ≤ w'.drawn ∧ w.heap.size ≤ w'.heap.size ∧ (∀ e ∈ es, FineE X w'.heap.size e) ∧ gaft (stepG P true (G fr (pl ++ [pit])) (veilW X w)) = w'.drawn))
    ∨ (pl = [] ∧ ∃ x v' es', stepG P true (G fr (pl ++ [pit])) v = .go (G (pit.finish x) []) v' es')
    ∨ (∃ ch v' es', stepG P true (G fr (pl ++ [pit])) v = .go (G { fr with mode := .panicking ch } (pl ++ [pit])) v' es')
    ∨ (∃ o v' es', stepG P true (G fr (pl ++ [pit])) v = .ended o v' es') := by
  have hvw := veilW_veil hX
  have hnu : NoView (veilW X w) := hvw.novv
  have hnv : NoView v := fun b o e => hnu b o (by rw [← hh]; exact e)
  rcases step_calm hF hc hm hpl pit v hnv (X := fun _ => False) with ⟨fr', pl', v', es', hst, hc', hm', hpl', hon⟩ | h | h | h
  · obtain ⟨u', e1, hu1, huv, _, hud, hut1, hut2, _, _, _⟩ := (hon [pit] (veilW X w) (veil_self hh ho hout hnu) ht).real
    have hpn : NoView u' := by
      have := huv.novv
      have hmm : ∀ (b : Nat) (o : Obj), u'.heap[b]? = some o → Obj.plain o := fun b o e => Classical.byContradiction fun hn => by
        rcases huv.real with h | ⟨h, _⟩
        · exact hn (h b o e)
        · have := huv.dim b o e hn
          have hk := (step_calm hF hc hm hpl pit (veilW X w) hnu (X := fun _ => False))
          rcases hk with ⟨fr2, pl2, v2, es2, hst2, _, _, _, hon2⟩ | ⟨_, x, v2, es2, hst2⟩ | ⟨ch, v2, es2, hst2⟩ | ⟨o2, v2, es2, hst2⟩
          · rw [hu1] at hst2
            injection hst2 with _ hw2 _
            have hself : Veil (fun _ => False) (veilW X w) (veilW X w) := veil_self rfl rfl rfl hnu
            obtain ⟨w2, e2, hr2, hv2, _⟩ := (hon2 [pit] (veilW X w) hself (fun j q _ => rfl)).real
            rw [hu1] at hr2
            injection hr2 with _ hw3 _
            subst hw2 hw3
            exact hn (hv2.novv b o e)
          · rw [hu1] at hst2
            injection hst2 with h1 _ _
            have := congrArg Goroutine.callers h1
            simp [G] at this
          · rw [hu1] at hst2
            injection hst2 with h1 _ _
            have hfr : fr' = { fr with mode := .panicking ch } := (congrArg Goroutine.frame h1)
            rcases hm' with h2 | h2 <;> (rw [hfr] at h2; cases h2)
          · rw [hu1] at hst2
            cases hst2
      exact hmm
    -- the veiled world's own step, and the true one's
    rcases step_calm hF hc hm hpl pit (veilW X w) hnu (X := X) with ⟨fr2, pl2, u2, es2, hst2, _, _, _, hon2⟩ | ⟨_, x, v2, es2, hst2⟩ | ⟨ch, v2, es2, hst2⟩ | ⟨o2, v2, es2, hst2⟩
    · rw [hu1] at hst2
      injection hst2 with h1 h2 _
      obtain ⟨r1, r2⟩ := G_inj h1
      subst r1 r2 h2
      obtain ⟨w', es, hr, hv, hk, hd, _, htw, hle, hsz, hfine⟩ := (hon2 cs w hvw (fun j q _ => rfl)).real
      have hdw : w'.drawn = u'.drawn := by
        have : w'.drawn + w.drawn = u'.drawn + w.drawn := hd
        omega
      have hud' : u'.drawn + v.drawn = v'.drawn + w.drawn := hud
      refine .inl ⟨fr', pl', v', es', hst, hc', hm', hpl', w', es, hr, ?_, ?_, ?_, hk, by omega, hut1, htw, hle, hsz, hfine, ?_⟩
      · rw [veil_self' huv hpn]
        exact hv.heap_eq
      · rw [huv.os]; exact hv.os
      · rw [huv.out]; exact hv.out
      · rw [hu1, hdw]; rfl
    · rw [hu1] at hst2
      injection hst2 with h1 _ _
      have := congrArg Goroutine.callers h1
      simp [G] at this
    · rw [hu1] at hst2
      injection hst2 with h1 _ _
      have hfr : fr' = { fr with mode := .panicking ch } := (congrArg Goroutine.frame h1)
      rcases hm' with h2 | h2 <;> (rw [hfr] at h2; cases h2)
    · rw [hu1] at hst2
      cases hst2
  · exact .inr (.inl h)
  · exact .inr (.inr (.inl h))
  · exact .inr (.inr (.inr h))
theorem seq_runs {F : FuncId → Bool} {X : Nat → Prop} (hF : FnsCalm P F) {D : World → World → Array Event → Prop} {Stop : Goroutine → World → Prop} {Fin : Frame → World → Prop} {fr0 : Frame} (cs : List Frame) {w0 : World}
    (hc : FrCalm P F fr0) (hm : ModeOk fr0) (hX : Rows X w0)
    (hlone : ∀ t, ∃ N fr v', runN P N (lone fr0 [pit] { veilW X w0 with tape := t, drawn := 0 }) = .next (lone fr [pit] v') ∧ fr.mode = .returning ∧ Fin fr v')
    (hD : ∀ (w w' : World) (es : Array Event), (∀ b, X b → w'.heap[b]? = w.heap[b]?) → w'.tape = w.tape → w.heap.size ≤ w'.heap.size → (∀ e ∈ es, FineE X w'.heap.size e) → D w w' es)
    (hStop : ∀ fr v' w', Fin fr v' → fr.mode = .returning → v'.heap = (veilW X w').heap → v'.os = w'.os → v'.output = w'.output → Keep X w0 w' → w'.tape = w0.tape → Stop (G fr cs) w') :
    Runs P D Stop (G fr0 cs) w0 := by
  classical
  refine Classical.byContradiction fun hbad => ?_
  let good : St → Prop := fun s => OkSt P F s ∧ ¬ Runs P D Stop (G s.fr (s.pl ++ cs)) s.w
  have hex : ∀ s : St, good s → ∃ d, ¬ ∃ g' w' es, stepG P true (G s.fr (s.pl ++ cs)) (s.w.at d) = .go g' w' es ∧ D (s.w.at d) w' es ∧ Runs P D Stop g' w' := fun s hs =>
    Classical.byContradiction fun hn => hs.2 (Runs.of_step rfl fun d => Classical.byContradiction fun h => hn ⟨d, h⟩)
  let dd : St → Nat := fun s => if h : good s then Classical.choose (hex s h) else 0
  have hdd : ∀ s, good s → ¬ ∃ g' w' es, stepG P true (G s.fr (s.pl ++ cs)) (s.w.at (dd s)) = .go g' w' es ∧ D (s.w.at (dd s)) w' es ∧ Runs P D Stop g' w' := fun s hs => by
    have : dd s = Classical.choose (hex s hs) := dif_pos hs
    rw [this]
    exact Classical.choose_spec (hex s hs)
  let nxt : St → St → Prop := fun s s' => ∃ es, stepG P true (G s.fr (s.pl ++ cs)) (s.w.at (dd s)) = .go (G s'.fr (s'.pl ++ cs)) s'.w es
  have huni : ∀ s a b, nxt s a → nxt s b → a = b := fun s a b ⟨e1, h1⟩ ⟨e2, h2⟩ => by
    rw [h1] at h2
    injection h2 with h3 h4
    obtain ⟨x, y⟩ := G_inj h3
    cases a; cases b
    simp only at x y h4
    subst x y h4
    rfl
  let nx : St → St := fun s => if h : ∃ s', nxt s s' then Classical.choose h else s
  have hnx : ∀ s s', nxt s s' → nx s = s' := fun s s' h => by
    have he : ∃ s', nxt s s' := ⟨s', h⟩
    have : nx s = Classical.choose he := dif_pos he
    rw [this]
    exact huni s _ _ (Classical.choose_spec he) h
  let S : Nat → St := fun i => Nat.rec ⟨fr0, [], w0⟩ (fun _ s => nx s) i
  have hS0 : S 0 = ⟨fr0, [], w0⟩ := rfl
  have hSs : ∀ i, S (i + 1) = nx (S i) := fun i => rfl
  let mm : St → Nat := fun s => gaft (stepG P true (G s.fr (s.pl ++ [pit])) (veilW X (s.w.at (dd s)))) - dd s
  let pos : Nat → Nat := fun i => Nat.rec 0 (fun k p => p + mm (S k)) i
  have hp0 : pos 0 = 0 := rfl
  have hps : ∀ i, pos (i + 1) = pos i + mm (S i) := fun i => rfl
  have hmono : ∀ i k, i ≤ k → pos i ≤ pos k := fun i k h => by
    induction h with
    | refl => exact Nat.le_refl _
    | step h ih => exact Nat.le_trans ih (by rw [hps]; exact Nat.le_add_right _ _)
  let τ : Nat → Question → Nat := fun x q => if h : ∃ i, pos i ≤ x ∧ x < pos (i + 1) then (S (Classical.choose h)).w.tape (dd (S (Classical.choose h)) + (x - pos (Classical.choose h))) q else 0
  have hτ : ∀ i j q, j < mm (S i) → τ (pos i + j) q = (S i).w.tape (dd (S i) + j) q := fun i j q hj => by
    have h : ∃ k, pos k ≤ pos i + j ∧ pos i + j < pos (k + 1) := ⟨i, Nat.le_add_right _ _, by rw [hps]; omega⟩
    have e : τ (pos i + j) q = (S (Classical.choose h)).w.tape (dd (S (Classical.choose h)) + (pos i + j - pos (Classical.choose h))) q := dif_pos h
    obtain ⟨h1, h2⟩ := Classical.choose_spec h
    have hk : Classical.choose h = i := by
      rcases Nat.lt_trichotomy (Classical.choose h) i with hlt | heq | hgt
      · have h3 : pos (Classical.choose h + 1) ≤ pos i := hmono _ _ hlt
        omega
      · exact heq
      · have h3 : pos (i + 1) ≤ pos (Classical.choose h) := hmono _ _ hgt
        rw [hps] at h3
        omega
    rw [e, hk, Nat.add_sub_cancel_left]
  obtain ⟨N, frN, vN, hrun, hmN, hfin⟩ := hlone τ
  have claim : ∀ i, i ≤ N → ∃ v, runN P i (lone fr0 [pit] { veilW X w0 with tape := τ, drawn := 0 }) = .next (lone (S i).fr ((S i).pl ++ [pit]) v) ∧ good (S i) ∧ (v.heap = (veilW X (S i).w).heap ∧ v.os = (S i).w.os ∧ v.output = (S i).w.output ∧ Rows X (S i).w) ∧ v.drawn = pos i ∧ v.tape = τ ∧ Keep X w0 (S i).w ∧ (S i).w.tape = w0.tape := by
    intro i
    induction i with
    | zero =>
      intro _
      refine ⟨{ veilW X w0 with tape := τ, drawn := 0 }, rfl, ⟨⟨hc, hm, fun c hc => by cases hc⟩, hbad⟩, ⟨rfl, rfl, rfl, hX⟩, rfl, rfl, Keep.refl _ _, rfl⟩
    | succ i ih =>
      intro hi
      obtain ⟨v, hr, hg, hv, hdr, htp, hkeep, htw⟩ := ih (by omega)
      obtain ⟨⟨hc1, hm1, hpl1⟩, hnr⟩ := hg
      have hrest : ∃ n, N = i + (n + 1) := ⟨N - i - 1, by omega⟩
      obtain ⟨n, hn⟩ := hrest
      have hrun2 : runN P (n + 1) (lone (S i).fr ((S i).pl ++ [pit]) v) = .next (lone frN [pit] vN) := by
        have := hrun
        rw [hn, runN_add, hr] at this
        exact this
      have hhome : Home (lone frN [pit] vN) := ⟨frN, vN, rfl, hmN⟩
      have hgo : ∀ {g' : Frame} {cs' : List Frame} {v' : World} {es : Array Event}, stepG P true (G (S i).fr ((S i).pl ++ [pit])) v = .go (G g' cs') v' es → step P (lone (S i).fr ((S i).pl ++ [pit]) v) = .next (lone g' cs' v') := fun h => step_lone_go (by
        have : stepG P true { frame := (S i).fr, callers := (S i).pl ++ [pit], status := .running, dying := none } v = _ := h
        rw [this]
        rfl)
      obtain ⟨hv1, hv2, hv3, hv4⟩ := hv
      have hX' : Rows X ((S i).w.at (dd (S i))) := hv4
      rcases pair_step hF hc1 hm1 hpl1 cs v ((S i).w.at (dd (S i))) hX' hv1 hv2 hv3 (fun j q hj => by
          rw [htp, hdr]
          exact hτ i j q (by
            show j < gaft _ - dd (S i)
            have hj : dd (S i) + j < gaft (stepG P true (G (S i).fr ((S i).pl ++ [pit])) (veilW X ((S i).w.at (dd (S i))))) := hj
            omega)) with ⟨fr', pl', v', es', hst, hc', hm', hpl', w', es, hreal, hq1, hq2, hq3, hk', hd', ht1, ht2, hge, hsz, hfine, hgf⟩ | ⟨hpl0, x, v', es', hst⟩ | ⟨ch, v', es', hst⟩ | ⟨o, v', es', hst⟩
      · skip
        have hnext : S (i + 1) = ⟨fr', pl', w'⟩ := by rw [hSs]; exact hnx _ _ ⟨es, hreal⟩
        have hDD : D ((S i).w.at (dd (S i))) w' es := hD _ _ _ (fun b hb => hk'.same b (.inl hb)) ht2 hsz hfine
        have hnr' : ¬ Runs P D Stop (G fr' (pl' ++ cs)) w' := fun h => hdd (S i) ⟨⟨hc1, hm1, hpl1⟩, hnr⟩ ⟨_, _, _, hreal, hDD, h⟩
        have hmm : mm (S i) + dd (S i) = w'.drawn := by
          show gaft _ - dd (S i) + dd (S i) = w'.drawn
          rw [hgf]
          have hge : dd (S i) ≤ w'.drawn := hge
          omega
        refine ⟨v', ?_, by rw [hnext]; exact ⟨⟨hc', hm', hpl'⟩, hnr'⟩, by rw [hnext]; exact ⟨hq1, hq2, hq3, hX'.keep fun b hb => hk'.same b (.inl hb)⟩, ?_, ht1.trans htp, by rw [hnext]; exact hkeep.trans ⟨hk'.same, hk'.back⟩, by rw [hnext]; exact ht2.trans htw⟩
        · rw [runN_add, hr, hnext]
          show runN P 1 _ = _
          unfold runN
          rw [hgo hst]
          rfl
        · rw [hps, ← hdr]
          have hd' : w'.drawn + v.drawn = v'.drawn + dd (S i) := hd'
          omega
      · have hst2 := hgo (g' := pit.finish x) (cs' := []) hst
        rw [pit_finish] at hst2
        exact absurd hhome (pit_away n v' _ (runN_next hst2 hrun2))
      · exact absurd hhome (panic_away hF n (S i).pl { (S i).fr with mode := .panicking ch } ch v' _ rfl hc1.defers hc1.fn hpl1 (runN_next (hgo hst) hrun2))
      · have hst2 : step P (lone (S i).fr ((S i).pl ++ [pit]) v) = .ended o v' := step_lone_ended (by
          have : stepG P true { frame := (S i).fr, callers := (S i).pl ++ [pit], status := .running, dying := none } v = _ := hst
          rw [this]
          rfl)
        exact absurd hrun2 (runN_ended hst2 n _)
  obtain ⟨v, hr, hg, hv, _, _, hkeep, htw⟩ := claim N (Nat.le_refl _)
  rw [hr] at hrun
  injection hrun with hrun
  obtain ⟨e1, e2, e3⟩ := lone_inj hrun
  have hpl : (S N).pl = [] := by
    cases h : (S N).pl with
    | nil => rfl
    | cons c l => rw [h] at e2; simp at e2
  refine hg.2 (.stop fun d => ?_)
  rw [hpl, List.nil_append, e1]
  obtain ⟨hv1, hv2, hv3, _⟩ := hv
  rw [e3] at hv1 hv2 hv3
  exact hStop frN vN ((S N).w.at d) hfin hmN hv1 hv2 hv3 ⟨hkeep.same, hkeep.back⟩ htw
end
end Go.Proofs.Ytoipkpndfgcmcaa.Veils
