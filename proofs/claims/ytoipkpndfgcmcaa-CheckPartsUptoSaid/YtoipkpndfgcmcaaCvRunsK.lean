/-
  From what a piece of a function's text does alone, on every tape, to what it does while others draw from the tape and some blocks are hidden, whatever text stands behind it. The conditions stand in each theorem. No program in sight.
-/
import Derived.Test.YtoipkpndfgcmcaaCvStepK
namespace Go.Proofs.Ytoipkpndfgcmcaa.Veils
open Go Go.Conc
set_option linter.unusedVariables false
section
variable {P : Program}
def Home2 (m : Machine) : Prop := ∃ fr v, m = lone fr [pit] v ∧ ∀ ch, fr.mode ≠ .panicking ch
theorem pit_away2 : ∀ (n : Nat) (v : World) (m : Machine), runN P n (lone pit [] v) = .next m → ¬ Home2 m := by
  intro n v m h
  have h1 : step P (lone pit [] v) = .next (lone { pit with mode := .returning } [] v) := step_lone_go (by simp [stepG, stepG.exec, pit])
  have no : ∀ (fr : Frame) (v : World), ¬ Home2 (lone fr [] v) := fun fr v ⟨fr', v', e, _⟩ => by
    have := (lone_inj e).2.1
    cases this
  match n, h with
  | 0, h =>
    have : lone pit [] v = m := by unfold runN at h; cases h; rfl
    rw [← this]
    exact no _ _
  | 1, h =>
    have h := runN_next h1 h
    have : lone { pit with mode := .returning } [] v = m := by unfold runN at h; cases h; rfl
    rw [← this]
    exact no _ _
  | n + 2, h =>
    have h := runN_next h1 h
    obtain ⟨o, w, he⟩ := pit_bad (P := P) .returning (by simp) v
    exact absurd h (runN_ended he n m)
theorem panic_away2 {F : FuncId → Bool} (hF : FnsCalm P F) : ∀ (n : Nat) (pl : List Frame) (fr : Frame) (ch : List PanicEntry) (v : World) (m : Machine), fr.mode = .panicking ch → fr.defers = [] → (∃ fd, P.funcs[fr.fn]? = some fd) → (∀ c ∈ pl, Waits P F c) → runN P n (lone fr (pl ++ [pit]) v) = .next m → ¬ Home2 m := by
  intro n
  induction n with
  | zero =>
    intro pl fr ch v m hm _ _ _ h ⟨fr', v', e, hr⟩
    unfold runN at h
    cases h
    have := (lone_inj e).1
    rw [this] at hm
    exact hr ch hm
  | succ n ih =>
    intro pl fr ch v m hm hd hf hpl h
    obtain ⟨fd, hfn⟩ := hf
    have hcatch : fr.catches P = false := by unfold Frame.catches; rw [hfn]
    have hst : ∀ (c : Frame) (rest : List Frame), step P (lone fr (c :: rest) v) = .next (lone (c.raise ch) rest v) := fun c rest => step_lone_go (by
      obtain ⟨fn, tmps, todo, defers, mode, kind, round⟩ := fr
      subst hm hd
      simp [stepG, unwind, hcatch])
    cases pl with
    | nil =>
      have h := runN_next (hst pit []) h
      have hp : pit.raise ch = { pit with mode := .panicking ch } := rfl
      rw [hp] at h
      obtain ⟨o, w, he⟩ := pit_bad (P := P) (.panicking ch) (by simp) v
      cases n with
      | zero =>
        unfold runN at h
        cases h
        rintro ⟨fr', v', e, _⟩
        have := (lone_inj e).2.1
        cases this
      | succ n => exact absurd h (runN_ended he n m)
    | cons c pl' =>
      obtain ⟨hcc, hcm, _⟩ := hpl c List.mem_cons_self
      have h := runN_next (hst c (pl' ++ [pit])) h
      have hp : c.raise ch = { c with mode := .panicking ch } := by unfold Frame.raise; rw [hcm]
      rw [hp] at h
      exact ih pl' { c with mode := .panicking ch } ch v m rfl hcc.defers hcc.fn (fun d hd => hpl d (List.mem_cons_of_mem _ hd)) h
def OkSt2 (P : Program) (F : FuncId → Bool) (s : St) : Prop := FrCalm P F s.fr ∧ ModeOk s.fr ∧ ∀ c ∈ s.pl, Waits P F c
theorem ret_step {F : FuncId → Bool} (hF : FnsCalm P F) {fr : Frame} (hc : FrCalm P F fr) (hm : fr.mode = .returning) (F0 : Frame) (v : World) :
    (∃ x v' es, stepG P true (G fr [F0]) v = .go (G (F0.finish x) []) v' es) ∨ (∃ o v' es, stepG P true (G fr [F0]) v = .ended o v' es) := by
  obtain ⟨fn, tmps, todo, defers, mode, kind, round⟩ := fr
  have h3 : defers = [] := hc.defers
  have h4 : kind = .normal := hc.kind
  have h5 : round = none := hc.round
  have hm : mode = .returning := hm
  subst h3 h4 h5 hm
  obtain ⟨fd, hfn⟩ := hc.fn
  have hun : stepG P true (G ⟨fn, tmps, todo, [], .returning, .normal, none⟩ [F0]) v = GStep.after (seen P fn ((results fd tmps).events P v #[])) (match (results fd tmps).run P v with
      | .ok x w => doReturn P true ⟨fn, tmps, todo, [], .returning, .normal, none⟩ [F0] none x w
      | .halt (.stuck s) w => .ended (.stuck s ((⟨fn, tmps, todo, [], .returning, .normal, none⟩ : Frame).pos P)) w
      | .halt _ w => .ended (.stuck "return: the result variables cannot be read" ((⟨fn, tmps, todo, [], .returning, .normal, none⟩ : Frame).pos P)) w) := by
    simp only [stepG, unwind, G, hfn, Sem.runT_eq]
    cases (results fd tmps).run P v with
    | ok y w1 => rfl
    | halt y w1 => cases y <;> rfl
  cases hr : (results fd tmps).run P v with
  | halt x v' =>
    rw [hr] at hun
    right
    cases x <;> exact ⟨_, _, _, hun⟩
  | ok x v' =>
    rw [hr] at hun
    left
    exact ⟨x, v', _, hun⟩
/-- Two states of a goroutine that part above the same ground. -/
theorem plus_inj {k : List Item} {fr fr' : Frame} {pl pl' cs : List Frame} (h : G (plus fr (tip k pl)) (ext k pl ++ cs) = G (plus fr' (tip k pl')) (ext k pl' ++ cs)) : fr = fr' ∧ pl = pl' := by
  have un : ∀ {a b : Frame} {x : List Item}, plus a x = plus b x → a = b := fun {a b x} e => by
    obtain ⟨a1, a2, a3, a4, a5, a6, a7⟩ := a
    obtain ⟨b1, b2, b3, b4, b5, b6, b7⟩ := b
    unfold plus at e
    injection e with e1 e2 e3 e4 e5 e6 e7
    simp only at e1 e2 e3 e4 e5 e6 e7
    have e3 := List.append_cancel_right e3
    subst e1 e2 e3 e4 e5 e6 e7
    rfl
  have key : ∀ (p q : List Frame), ext k p = ext k q → p = q := by
    intro p
    induction p with
    | nil => intro q e; cases q with
      | nil => rfl
      | cons c l => cases e
    | cons c l ih => intro q e; cases q with
      | nil => cases e
      | cons d m =>
        unfold ext at e
        injection e with e1 e2
        have := ih m e2
        subst this
        rw [un e1]
  obtain ⟨h1, h2⟩ := G_inj h
  have hp := key _ _ h2
  subst hp
  exact ⟨un h1, rfl⟩
theorem pair_stepK {F : FuncId → Bool} {X : Nat → Prop} (hF : FnsCalm P F) {fr : Frame} {pl : List Frame} (hc : FrCalm P F fr) (hm : ModeOk fr) (hpl : ∀ c ∈ pl, Waits P F c) (hb : pl = [] → fr.mode = .run → fr.todo ≠ []) (k : List Item) (cs : List Frame) (v w : World) (hX : Rows X w) (hh : v.heap = (veilW X w).heap) (ho : v.os = w.os) (hout : v.output = w.output)
    (ht : ∀ j q, w.drawn + j < gaft (stepG P true (G fr (pl ++ [pit])) (veilW X w)) → v.tape (v.drawn + j) q = w.tape (w.drawn + j) q) :
    (∃ fr' pl' v' es', stepG P true (G fr (pl ++ [pit])) v = .go (G fr' (pl' ++ [pit])) v' es' ∧ FrCalm P F fr' ∧ ModeOk fr' ∧ (∀ c ∈ pl', Waits P F c) ∧
      (∃ w' es, stepG P true (G (plus fr (tip k pl)) (ext k pl ++ cs)) w = .go (G (plus fr' (tip k pl')) (ext k pl' ++ cs)) w' es ∧ v'.heap = (veilW X w').heap ∧ v'.os = w'.os ∧ v'.output = w'.output ∧ Keep X w w' ∧ w'.drawn + v.drawn = v'.drawn + w.drawn ∧ v'.tape = v.tape ∧ w'.tape = w.tape ∧ w.drawn ≤ w'.drawn ∧ w.heap.size ≤ w'.heap.size ∧ (∀ e ∈ es, FineE X w'.heap.size e) ∧ gaft (stepG P true (G fr (pl ++ [pit])) (veilW X w)) = w'.drawn))
    ∨ (pl = [] ∧ ∃ x v' es', stepG P true (G fr (pl ++ [pit])) v = .go (G (pit.finish x) []) v' es')
    ∨ (∃ ch v' es', stepG P true (G fr (pl ++ [pit])) v = .go (G { fr with mode := .panicking ch } (pl ++ [pit])) v' es')
    ∨ (∃ o v' es', stepG P true (G fr (pl ++ [pit])) v = .ended o v' es') := by
  have hvw := veilW_veil hX
  have hnu : NoView (veilW X w) := hvw.novv
  have hnv : NoView v := fun b o e => hnu b o (by rw [← hh]; exact e)
  have hpl0 : ∀ c ∈ pl, FrCalm P F c ∧ c.mode = .run := fun c hc => ⟨(hpl c hc).1, (hpl c hc).2.1⟩
  rcases step_calm hF hc hm hpl0 pit v hnv (X := fun _ => False) with ⟨fr', pl', v', es', hst, hc', hm', hpl', hon⟩ | h | h | h
  · obtain ⟨u', e1, hu1, huv, _, hud, hut1, hut2, _, _, _⟩ := (hon [pit] (veilW X w) (veil_self hh ho hout hnu) ht).real
    have hpn : NoView u' := by
      have := huv.novv
      have hmm : ∀ (b : Nat) (o : Obj), u'.heap[b]? = some o → Obj.plain o := fun b o e => Classical.byContradiction fun hn => by
        rcases huv.real with h | ⟨h, _⟩
        · exact hn (h b o e)
        · have := huv.dim b o e hn
          have hk := (step_calm hF hc hm hpl0 pit (veilW X w) hnu (X := fun _ => False))
          rcases hk with ⟨fr2, pl2, v2, es2, hst2, _, _, _, hon2⟩ | ⟨_, x, v2, es2, hst2⟩ | ⟨ch, v2, es2, hst2⟩ | ⟨o2, v2, es2, hst2⟩
          · rw [hu1] at hst2
            injection hst2 with _ hw2 _
            have hself : Veil (fun _ => False) (veilW X w) (veilW X w) := veil_self rfl rfl rfl hnu
            obtain ⟨w2, e2, hr2, hv2, _⟩ := (hon2 [pit] (veilW X w) hself (fun j q _ => rfl)).real
            rw [hu1] at hr2
            injection hr2 with _ hw3 _
            subst hw2 hw3
            exact hn (hv2.novv b o e)
          · rw [hu1] at hst2
            injection hst2 with h1 _ _
            have := congrArg Goroutine.callers h1
            simp [G] at this
          · rw [hu1] at hst2
            injection hst2 with h1 _ _
            have hfr : fr' = { fr with mode := .panicking ch } := (congrArg Goroutine.frame h1)
            rcases hm' with h2 | h2 <;> (rw [hfr] at h2; cases h2)
          · rw [hu1] at hst2
            cases hst2
      exact hmm
    -- the veiled world's own step, and the true one's
    rcases step_calmK hF hc hm hpl hb pit (veilW X w) hnu (X := X) (k := k) with ⟨fr2, pl2, u2, es2, hst2, _, _, hpl2, hon2⟩ | ⟨_, x, v2, es2, hst2⟩ | ⟨ch, v2, es2, hst2⟩ | ⟨o2, v2, es2, hst2⟩
    · rw [hu1] at hst2
      injection hst2 with h1 h2 _
      obtain ⟨r1, r2⟩ := G_inj h1
      subst r1 r2 h2
      obtain ⟨w', es, hr, hv, hk, hd, _, htw, hle, hsz, hfine⟩ := (hon2 cs w hvw (fun j q _ => rfl)).real
      have hdw : w'.drawn = u'.drawn := by
        have : w'.drawn + w.drawn = u'.drawn + w.drawn := hd
        omega
      have hud' : u'.drawn + v.drawn = v'.drawn + w.drawn := hud
      refine .inl ⟨fr', pl', v', es', hst, hc', hm', hpl2, w', es, hr, ?_, ?_, ?_, hk, by omega, hut1, htw, hle, hsz, hfine, ?_⟩
      · rw [veil_self' huv hpn]
        exact hv.heap_eq
      · rw [huv.os]; exact hv.os
      · rw [huv.out]; exact hv.out
      · rw [hu1, hdw]; rfl
    · rw [hu1] at hst2
      injection hst2 with h1 _ _
      have := congrArg Goroutine.callers h1
      simp [G] at this
    · rw [hu1] at hst2
      injection hst2 with h1 _ _
      have hfr : fr' = { fr with mode := .panicking ch } := (congrArg Goroutine.frame h1)
      rcases hm' with h2 | h2 <;> (rw [hfr] at h2; cases h2)
    · rw [hu1] at hst2
      cases hst2
  · exact .inr (.inl h)
  · exact .inr (.inr (.inl h))
  · exact .inr (.inr (.inr h))
theorem seg_runs {F : FuncId → Bool} {X : Nat → Prop} (hF : FnsCalm P F) {D : World → World → Array Event → Prop} {Stop : Goroutine → World → Prop} {Fin : Frame → World → Prop} {fr0 : Frame} (k : List Item) (cs : List Frame) {w0 : World}
    (hc : FrCalm P F fr0) (hm : fr0.mode = .run) (hX : Rows X w0)
    (hlone : ∀ t, ∃ N fr v', runN P N (lone fr0 [pit] { veilW X w0 with tape := t, drawn := 0 }) = .next (lone fr [pit] v') ∧ fr.mode = .run ∧ fr.todo = [] ∧ Fin fr v')
    (hD : ∀ (w w' : World) (es : Array Event), (∀ b, X b → w'.heap[b]? = w.heap[b]?) → w'.tape = w.tape → w.heap.size ≤ w'.heap.size → (∀ e ∈ es, FineE X w'.heap.size e) → D w w' es)
    (hStop : ∀ fr v' w', Fin fr v' → fr.mode = .run → fr.todo = [] → v'.heap = (veilW X w').heap → v'.os = w'.os → v'.output = w'.output → Keep X w0 w' → w'.tape = w0.tape → Stop (G (plus fr k) cs) w') :
    Runs P D Stop (G (plus fr0 k) cs) w0 := by
  classical
  refine Classical.byContradiction fun hbad => ?_
  let good : St → Prop := fun s => OkSt2 P F s ∧ ¬ Runs P D Stop (G (plus s.fr (tip k s.pl)) (ext k s.pl ++ cs)) s.w
  have hex : ∀ s : St, good s → ∃ d, ¬ ∃ g' w' es, stepG P true (G (plus s.fr (tip k s.pl)) (ext k s.pl ++ cs)) (s.w.at d) = .go g' w' es ∧ D (s.w.at d) w' es ∧ Runs P D Stop g' w' := fun s hs =>
    Classical.byContradiction fun hn => hs.2 (Runs.of_step rfl fun d => Classical.byContradiction fun h => hn ⟨d, h⟩)
  let dd : St → Nat := fun s => if h : good s then Classical.choose (hex s h) else 0
  have hdd : ∀ s, good s → ¬ ∃ g' w' es, stepG P true (G (plus s.fr (tip k s.pl)) (ext k s.pl ++ cs)) (s.w.at (dd s)) = .go g' w' es ∧ D (s.w.at (dd s)) w' es ∧ Runs P D Stop g' w' := fun s hs => by
    have : dd s = Classical.choose (hex s hs) := dif_pos hs
    rw [this]
    exact Classical.choose_spec (hex s hs)
  let nxt : St → St → Prop := fun s s' => ∃ es, stepG P true (G (plus s.fr (tip k s.pl)) (ext k s.pl ++ cs)) (s.w.at (dd s)) = .go (G (plus s'.fr (tip k s'.pl)) (ext k s'.pl ++ cs)) s'.w es
  have huni : ∀ s a b, nxt s a → nxt s b → a = b := fun s a b ⟨e1, h1⟩ ⟨e2, h2⟩ => by
    rw [h1] at h2
    injection h2 with h3 h4
    obtain ⟨x, y⟩ := plus_inj h3
    cases a; cases b
    simp only at x y h4
    subst x y h4
    rfl
  let nx : St → St := fun s => if h : ∃ s', nxt s s' then Classical.choose h else s
  have hnx : ∀ s s', nxt s s' → nx s = s' := fun s s' h => by
    have he : ∃ s', nxt s s' := ⟨s', h⟩
    have : nx s = Classical.choose he := dif_pos he
    rw [this]
    exact huni s _ _ (Classical.choose_spec he) h
  let S : Nat → St := fun i => Nat.rec ⟨fr0, [], w0⟩ (fun _ s => nx s) i
  have hS0 : S 0 = ⟨fr0, [], w0⟩ := rfl
  have hSs : ∀ i, S (i + 1) = nx (S i) := fun i => rfl
  let mm : St → Nat := fun s => gaft (stepG P true (G s.fr (s.pl ++ [pit])) (veilW X (s.w.at (dd s)))) - dd s
  let pos : Nat → Nat := fun i => Nat.rec 0 (fun k p => p + mm (S k)) i
  have hp0 : pos 0 = 0 := rfl
  have hps : ∀ i, pos (i + 1) = pos i + mm (S i) := fun i => rfl
  have hmono : ∀ i k, i ≤ k → pos i ≤ pos k := fun i k h => by
    induction h with
    | refl => exact Nat.le_refl _
    | step h ih => exact Nat.le_trans ih (by rw [hps]; exact Nat.le_add_right _ _)
  let τ : Nat → Question → Nat := fun x q => if h : ∃ i, pos i ≤ x ∧ x < pos (i + 1) then (S (Classical.choose h)).w.tape (dd (S (Classical.choose h)) + (x - pos (Classical.choose h))) q else 0
  have hτ : ∀ i j q, j < mm (S i) → τ (pos i + j) q = (S i).w.tape (dd (S i) + j) q := fun i j q hj => by
    have h : ∃ k, pos k ≤ pos i + j ∧ pos i + j < pos (k + 1) := ⟨i, Nat.le_add_right _ _, by rw [hps]; omega⟩
    have e : τ (pos i + j) q = (S (Classical.choose h)).w.tape (dd (S (Classical.choose h)) + (pos i + j - pos (Classical.choose h))) q := dif_pos h
    obtain ⟨h1, h2⟩ := Classical.choose_spec h
    have hk : Classical.choose h = i := by
      rcases Nat.lt_trichotomy (Classical.choose h) i with hlt | heq | hgt
      · have h3 : pos (Classical.choose h + 1) ≤ pos i := hmono _ _ hlt
        omega
      · exact heq
      · have h3 : pos (i + 1) ≤ pos (Classical.choose h) := hmono _ _ hgt
        rw [hps] at h3
        omega
    rw [e, hk, Nat.add_sub_cancel_left]
  obtain ⟨N, frN, vN, hrun, hmN, htN, hfin⟩ := hlone τ
  have claim : ∀ i, i ≤ N → ∃ v, runN P i (lone fr0 [pit] { veilW X w0 with tape := τ, drawn := 0 }) = .next (lone (S i).fr ((S i).pl ++ [pit]) v) ∧ good (S i) ∧ (v.heap = (veilW X (S i).w).heap ∧ v.os = (S i).w.os ∧ v.output = (S i).w.output ∧ Rows X (S i).w) ∧ v.drawn = pos i ∧ v.tape = τ ∧ Keep X w0 (S i).w ∧ (S i).w.tape = w0.tape := by
    intro i
    induction i with
    | zero =>
      intro _
      refine ⟨{ veilW X w0 with tape := τ, drawn := 0 }, rfl, ⟨⟨hc, .inl hm, fun c hc => by cases hc⟩, hbad⟩, ⟨rfl, rfl, rfl, hX⟩, rfl, rfl, Keep.refl _ _, rfl⟩
    | succ i ih =>
      intro hi
      obtain ⟨v, hr, hg, hv, hdr, htp, hkeep, htw⟩ := ih (by omega)
      obtain ⟨⟨hc1, hm1, hpl1⟩, hnr⟩ := hg
      have hrest : ∃ n, N = i + (n + 1) := ⟨N - i - 1, by omega⟩
      obtain ⟨n, hn⟩ := hrest
      have hrun2 : runN P (n + 1) (lone (S i).fr ((S i).pl ++ [pit]) v) = .next (lone frN [pit] vN) := by
        have := hrun
        rw [hn, runN_add, hr] at this
        exact this
      have hhome : Home2 (lone frN [pit] vN) := ⟨frN, vN, rfl, fun ch => by rw [hmN]; simp⟩
      have hgo : ∀ {g' : Frame} {cs' : List Frame} {v' : World} {es : Array Event}, stepG P true (G (S i).fr ((S i).pl ++ [pit])) v = .go (G g' cs') v' es → step P (lone (S i).fr ((S i).pl ++ [pit]) v) = .next (lone g' cs' v') := fun h => step_lone_go (by
        have : stepG P true { frame := (S i).fr, callers := (S i).pl ++ [pit], status := .running, dying := none } v = _ := h
        rw [this]
        rfl)
      have hb : (S i).pl = [] → (S i).fr.mode = .run → (S i).fr.todo ≠ [] := fun hp hmr hto => by
        rw [hp] at hrun2
        have h1 : step P (lone (S i).fr ([] ++ [pit]) v) = .next (lone { (S i).fr with mode := .returning } [pit] v) := step_lone_go (by
          generalize (S i).fr = f at hc1 hmr hto
          obtain ⟨fn, tmps, todo, defers, mode, kind, round⟩ := f
          have h5 : round = none := hc1.round
          have h6 : mode = .run := hmr
          have h7 : todo = [] := hto
          subst h5 h6 h7
          simp [stepG, stepG.exec])
        have hrun3 := runN_next h1 hrun2
        cases n with
        | zero =>
          unfold runN at hrun3
          injection hrun3 with hrun3
          have := (lone_inj hrun3).1
          rw [← this] at hmN
          cases hmN
        | succ n =>
          have hc2 : FrCalm P F { (S i).fr with mode := .returning } := ⟨hc1.fn, hc1.todo, hc1.defers, hc1.kind, hc1.round⟩
          rcases ret_step hF hc2 rfl pit v with ⟨x, v', es, hst⟩ | ⟨o, v', es, hst⟩
          · have hst2 : step P (lone { (S i).fr with mode := .returning } [pit] v) = .next (lone (pit.finish x) [] v') := step_lone_go (by
              have : stepG P true { frame := { (S i).fr with mode := .returning }, callers := [pit], status := .running, dying := none } v = _ := hst
              rw [this]
              rfl)
            rw [pit_finish] at hst2
            exact absurd hhome (pit_away2 n v' _ (runN_next hst2 hrun3))
          · have hst2 : step P (lone { (S i).fr with mode := .returning } [pit] v) = .ended o v' := step_lone_ended (by
              have : stepG P true { frame := { (S i).fr with mode := .returning }, callers := [pit], status := .running, dying := none } v = _ := hst
              rw [this]
              rfl)
            exact absurd hrun3 (runN_ended hst2 n _)
      obtain ⟨hv1, hv2, hv3, hv4⟩ := hv
      have hX' : Rows X ((S i).w.at (dd (S i))) := hv4
      rcases pair_stepK hF hc1 hm1 hpl1 hb k cs v ((S i).w.at (dd (S i))) hX' hv1 hv2 hv3 (fun j q hj => by
          rw [htp, hdr]
          exact hτ i j q (by
            show j < gaft _ - dd (S i)
            have hj : dd (S i) + j < gaft (stepG P true (G (S i).fr ((S i).pl ++ [pit])) (veilW X ((S i).w.at (dd (S i))))) := hj
            omega)) with ⟨fr', pl', v', es', hst, hc', hm', hpl', w', es, hreal, hq1, hq2, hq3, hk', hd', ht1, ht2, hge, hsz, hfine, hgf⟩ | ⟨hpl0, x, v', es', hst⟩ | ⟨ch, v', es', hst⟩ | ⟨o, v', es', hst⟩
      · skip
        have hnext : S (i + 1) = ⟨fr', pl', w'⟩ := by rw [hSs]; exact hnx _ _ ⟨es, hreal⟩
        have hDD : D ((S i).w.at (dd (S i))) w' es := hD _ _ _ (fun b hb => hk'.same b (.inl hb)) ht2 hsz hfine
        have hnr' : ¬ Runs P D Stop (G (plus fr' (tip k pl')) (ext k pl' ++ cs)) w' := fun h => hdd (S i) ⟨⟨hc1, hm1, hpl1⟩, hnr⟩ ⟨_, _, _, hreal, hDD, h⟩
        have hmm : mm (S i) + dd (S i) = w'.drawn := by
          show gaft _ - dd (S i) + dd (S i) = w'.drawn
          rw [hgf]
          have hge : dd (S i) ≤ w'.drawn := hge
          omega
        refine ⟨v', ?_, by rw [hnext]; exact ⟨⟨hc', hm', hpl'⟩, hnr'⟩, by rw [hnext]; exact ⟨hq1, hq2, hq3, hX'.keep fun b hb => hk'.same b (.inl hb)⟩, ?_, ht1.trans htp, by rw [hnext]; exact hkeep.trans ⟨hk'.same, hk'.back⟩, by rw [hnext]; exact ht2.trans htw⟩
        · rw [runN_add, hr, hnext]
          show runN P 1 _ = _
          unfold runN
          rw [hgo hst]
          rfl
        · rw [hps, ← hdr]
          have hd' : w'.drawn + v.drawn = v'.drawn + dd (S i) := hd'
          omega
      · have hst2 := hgo (g' := pit.finish x) (cs' := []) hst
        rw [pit_finish] at hst2
        exact absurd hhome (pit_away2 n v' _ (runN_next hst2 hrun2))
      · exact absurd hhome (panic_away2 hF n (S i).pl { (S i).fr with mode := .panicking ch } ch v' _ rfl hc1.defers hc1.fn hpl1 (runN_next (hgo hst) hrun2))
      · have hst2 : step P (lone (S i).fr ((S i).pl ++ [pit]) v) = .ended o v' := step_lone_ended (by
          have : stepG P true { frame := (S i).fr, callers := (S i).pl ++ [pit], status := .running, dying := none } v = _ := hst
          rw [this]
          rfl)
        exact absurd hrun2 (runN_ended hst2 n _)
  obtain ⟨v, hr, hg, hv, _, _, hkeep, htw⟩ := claim N (Nat.le_refl _)
  rw [hr] at hrun
  injection hrun with hrun
  obtain ⟨e1, e2, e3⟩ := lone_inj hrun
  have hpl : (S N).pl = [] := by
    cases h : (S N).pl with
    | nil => rfl
    | cons c l => rw [h] at e2; simp at e2
  refine hg.2 (.stop fun d => ?_)
  rw [hpl, e1]
  obtain ⟨hv1, hv2, hv3, _⟩ := hv
  rw [e3] at hv1 hv2 hv3
  exact hStop frN vN ((S N).w.at d) hfin hmN htN hv1 hv2 hv3 ⟨hkeep.same, hkeep.back⟩ htw
end
end Go.Proofs.Ytoipkpndfgcmcaa.Veils
