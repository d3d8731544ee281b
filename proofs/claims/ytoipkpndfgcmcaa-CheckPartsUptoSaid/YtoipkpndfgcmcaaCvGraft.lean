/-
  A piece of a function's text, whatever text stands behind it: from what it does alone, on every tape, to what it does while others draw from the tape and some blocks are hidden. The conditions stand in each theorem. No program in sight.
-/
import Derived.Test.YtoipkpndfgcmcaaCvStepG
import Derived.Test.YtoipkpndfgcmcaaCvRunsK
namespace Go.Proofs.Ytoipkpndfgcmcaa.Veils
open Go Go.Conc
set_option linter.unusedVariables false
section
variable {P : Program}
/-- The text with another in the place of its last, empty part. -/
def graftf (rest : Code) : Code → Code
  | .seq a b => .seq a (graftf rest b)
  | _ => rest
/-- A row of calm parts with an empty last one. -/
def tailed (P : Program) (F : FuncId → Bool) : Code → Bool
  | .skip => true
  | .seq a b => codeCalm P F a && tailed P F b
  | _ => false
structure StG where
  fr : Frame
  pl : List Frame
  w : World
  c : Code
def LF (s : StG) : Frame := plus s.fr (tip [.code s.c] s.pl)
def LC (s : StG) : List Frame := ext [.code s.c] s.pl ++ [pit]
def RF (rest : Code) (k : List Item) (s : StG) : Frame := plus s.fr (tip (.code (graftf rest s.c) :: k) s.pl)
def RC (rest : Code) (k : List Item) (cs : List Frame) (s : StG) : List Frame := ext (.code (graftf rest s.c) :: k) s.pl ++ cs
/-- The text that is left behind a step. -/
def nextc (s : StG) : Code := match s.pl, s.fr.todo, s.fr.mode, s.c with
  | [], [], .run, .seq _ b => b
  | _, _, _, c => c
def OkG (P : Program) (F : FuncId → Bool) (s : StG) : Prop := FrCalm P F s.fr ∧ ModeOk s.fr ∧ (∀ c ∈ s.pl, Waits P F c) ∧ tailed P F s.c = true
theorem tailed_calm {F : FuncId → Bool} : ∀ {c : Code}, tailed P F c = true → codeCalm P F c = true
  | .skip, _ => rfl
  | .seq a b, h => by
    have h : codeCalm P F a = true ∧ tailed P F b = true := by simpa [tailed] using h
    simp [codeCalm, h.1, tailed_calm h.2]
theorem ext_waits {F : FuncId → Bool} {c : Code} (hc : tailed P F c = true) : ∀ {pl : List Frame}, (∀ x ∈ pl, Waits P F x) → ∀ x ∈ ext [.code c] pl, Waits P F x
  | [], _, x, hx => by cases hx
  | y :: pl, h, x, hx => by
    rcases List.mem_cons.1 hx with rfl | hx
    · obtain ⟨h1, h2, h3⟩ := h y List.mem_cons_self
      refine ⟨⟨h1.fn, fun it hit => ?_, h1.defers, h1.kind, h1.round⟩, h2, fun e => h3 (List.append_eq_nil_iff.1 e).1⟩
      rcases List.mem_append.1 hit with hit | hit
      · exact h1.todo it hit
      · cases pl with
        | nil => rw [List.mem_singleton.1 hit]; exact tailed_calm hc
        | cons z l => cases hit
    · exact ext_waits hc (fun z hz => h z (List.mem_cons_of_mem _ hz)) x hx
theorem pair_stepG {F : FuncId → Bool} {X : Nat → Prop} (hF : FnsCalm P F) {fr : Frame} {pl : List Frame} (hc : FrCalm P F fr) (hm : ModeOk fr) (hpl : ∀ c ∈ pl, Waits P F c) (hb : pl = [] → fr.mode = .run → fr.todo ≠ []) (kl k : List Item) (hkl : ∀ id, exitTo id kl = none) (cs : List Frame) (v w : World) (hX : Rows X w) (hh : v.heap = (veilW X w).heap) (ho : v.os = w.os) (hout : v.output = w.output)
    (ht : ∀ j q, w.drawn + j < gaft (stepG P true (G (plus fr (tip kl pl)) (ext kl pl ++ [pit])) (veilW X w)) → v.tape (v.drawn + j) q = w.tape (w.drawn + j) q) :
    (∃ fr' pl' v' es', stepG P true (G (plus fr (tip kl pl)) (ext kl pl ++ [pit])) v = .go (G (plus fr' (tip kl pl')) (ext kl pl' ++ [pit])) v' es' ∧ FrCalm P F fr' ∧ ModeOk fr' ∧ (∀ c ∈ pl', Waits P F c) ∧
      (∃ w' es, stepG P true (G (plus fr (tip k pl)) (ext k pl ++ cs)) w = .go (G (plus fr' (tip k pl')) (ext k pl' ++ cs)) w' es ∧ v'.heap = (veilW X w').heap ∧ v'.os = w'.os ∧ v'.output = w'.output ∧ Keep X w w' ∧ w'.drawn + v.drawn = v'.drawn + w.drawn ∧ v'.tape = v.tape ∧ w'.tape = w.tape ∧ w.drawn ≤ w'.drawn ∧ w.heap.size ≤ w'.heap.size ∧ (∀ e ∈ es, FineE X w'.heap.size e) ∧ gaft (stepG P true (G (plus fr (tip kl pl)) (ext kl pl ++ [pit])) (veilW X w)) = w'.drawn))
    ∨ (pl = [] ∧ ∃ x v' es', stepG P true (G (plus fr (tip kl pl)) (ext kl pl ++ [pit])) v = .go (G (pit.finish x) []) v' es')
    ∨ (∃ ch v' es', stepG P true (G (plus fr (tip kl pl)) (ext kl pl ++ [pit])) v = .go (G { plus fr (tip kl pl) with mode := .panicking ch } (ext kl pl ++ [pit])) v' es')
    ∨ (∃ o v' es', stepG P true (G (plus fr (tip kl pl)) (ext kl pl ++ [pit])) v = .ended o v' es') := by
  have hvw := veilW_veil hX
  have hnu : NoView (veilW X w) := hvw.novv
  have hnv : NoView v := fun b o e => hnu b o (by rw [← hh]; exact e)
  rcases step_calmG hF hc hm hpl hb hkl pit v hnv (X := fun _ => False) (k := kl) with ⟨fr', pl', v', es', hst, hc', hm', hpl', hon⟩ | h | h | h
  · obtain ⟨u', e1, hu1, huv, _, hud, hut1, hut2, _, _, _⟩ := (hon [pit] (veilW X w) (veil_self hh ho hout hnu) ht).real
    have hpn : NoView u' := by
      have := huv.novv
      have hmm : ∀ (b : Nat) (o : Obj), u'.heap[b]? = some o → Obj.plain o := fun b o e => Classical.byContradiction fun hn => by
        rcases huv.real with h | ⟨h, _⟩
        · exact hn (h b o e)
        · have := huv.dim b o e hn
          have hk := (step_calmG hF hc hm hpl hb hkl pit (veilW X w) hnu (X := fun _ => False) (k := kl))
          rcases hk with ⟨fr2, pl2, v2, es2, hst2, _, _, _, hon2⟩ | ⟨_, x, v2, es2, hst2⟩ | ⟨ch, v2, es2, hst2⟩ | ⟨o2, v2, es2, hst2⟩
          · rw [hu1] at hst2
            injection hst2 with _ hw2 _
            have hself : Veil (fun _ => False) (veilW X w) (veilW X w) := veil_self rfl rfl rfl hnu
            obtain ⟨w2, e2, hr2, hv2, _⟩ := (hon2 [pit] (veilW X w) hself (fun j q _ => rfl)).real
            rw [hu1] at hr2
            injection hr2 with _ hw3 _
            subst hw2 hw3
            exact hn (hv2.novv b o e)
          · rw [hu1] at hst2
            injection hst2 with h1 _ _
            have := congrArg Goroutine.callers h1
            simp [G] at this
          · rw [hu1] at hst2
            injection hst2 with h1 _ _
            have hfr : (plus fr' (tip kl pl')).mode = .panicking ch := congrArg Frame.mode (congrArg Goroutine.frame h1)
            have hfr : fr'.mode = .panicking ch := hfr
            rcases hm' with h2 | h2 <;> (rw [hfr] at h2; cases h2)
          · rw [hu1] at hst2
            cases hst2
      exact hmm
    -- the veiled world's own step, and the true one's
    rcases step_calmG hF hc hm hpl hb hkl pit (veilW X w) hnu (X := X) (k := k) with ⟨fr2, pl2, u2, es2, hst2, _, _, hpl2, hon2⟩ | ⟨_, x, v2, es2, hst2⟩ | ⟨ch, v2, es2, hst2⟩ | ⟨o2, v2, es2, hst2⟩
    · rw [hu1] at hst2
      injection hst2 with h1 h2 _
      obtain ⟨r1, r2⟩ := plus_inj h1
      subst r1 r2 h2
      obtain ⟨w', es, hr, hv, hk, hd, _, htw, hle, hsz, hfine⟩ := (hon2 cs w hvw (fun j q _ => rfl)).real
      have hdw : w'.drawn = u'.drawn := by
        have : w'.drawn + w.drawn = u'.drawn + w.drawn := hd
        omega
      have hud' : u'.drawn + v.drawn = v'.drawn + w.drawn := hud
      refine .inl ⟨fr', pl', v', es', hst, hc', hm', hpl2, w', es, hr, ?_, ?_, ?_, hk, by omega, hut1, htw, hle, hsz, hfine, ?_⟩
      · rw [veil_self' huv hpn]
        exact hv.heap_eq
      · rw [huv.os]; exact hv.os
      · rw [huv.out]; exact hv.out
      · rw [hu1, hdw]; rfl
    · rw [hu1] at hst2
      injection hst2 with h1 _ _
      have := congrArg Goroutine.callers h1
      simp [G] at this
    · rw [hu1] at hst2
      injection hst2 with h1 _ _
      have hfr : (plus fr' (tip kl pl')).mode = .panicking ch := congrArg Frame.mode (congrArg Goroutine.frame h1)
      have hfr : fr'.mode = .panicking ch := hfr
      rcases hm' with h2 | h2 <;> (rw [hfr] at h2; cases h2)
    · rw [hu1] at hst2
      cases hst2
  · exact .inr (.inl h)
  · exact .inr (.inr (.inl h))
  · exact .inr (.inr (.inr h))
theorem graft_runs {F : FuncId → Bool} {X : Nat → Prop} (hF : FnsCalm P F) {D : World → World → Array Event → Prop} {Stop : Goroutine → World → Prop} {Fin : Frame → World → Prop} {fr0 : Frame} (rest c0 : Code) (k : List Item) (cs : List Frame) {w0 : World}
    (hc : FrCalm P F fr0) (hm : fr0.mode = .run) (h00 : fr0.todo = []) (htl : tailed P F c0 = true) (hX : Rows X w0)
    (hlone : ∀ t, ∃ N fr v', runN P N (lone (plus fr0 [.code c0]) [pit] { veilW X w0 with tape := t, drawn := 0 }) = .next (lone fr [pit] v') ∧ fr.mode = .run ∧ fr.todo = [] ∧ Fin fr v')
    (hD : ∀ (w w' : World) (es : Array Event), (∀ b, X b → w'.heap[b]? = w.heap[b]?) → w'.tape = w.tape → w.heap.size ≤ w'.heap.size → (∀ e ∈ es, FineE X w'.heap.size e) → D w w' es)
    (hStop : ∀ fr v' w', Fin fr v' → fr.mode = .run → fr.todo = [] → v'.heap = (veilW X w').heap → v'.os = w'.os → v'.output = w'.output → Keep X w0 w' → w'.tape = w0.tape → Stop (G (plus fr (.code rest :: k)) cs) w') :
    Runs P D Stop (G (plus fr0 (.code (graftf rest c0) :: k)) cs) w0 := by
  classical
  refine Classical.byContradiction fun hbad => ?_
  let good : StG → Prop := fun s => OkG P F s ∧ ¬ Runs P D Stop (G (RF rest k s) (RC rest k cs s)) s.w
  have hex : ∀ s : StG, good s → ∃ d, ¬ ∃ g' w' es, stepG P true (G (RF rest k s) (RC rest k cs s)) (s.w.at d) = .go g' w' es ∧ D (s.w.at d) w' es ∧ Runs P D Stop g' w' := fun s hs =>
    Classical.byContradiction fun hn => hs.2 (Runs.of_step rfl fun d => Classical.byContradiction fun h => hn ⟨d, h⟩)
  let dd : StG → Nat := fun s => if h : good s then Classical.choose (hex s h) else 0
  have hdd : ∀ s, good s → ¬ ∃ g' w' es, stepG P true (G (RF rest k s) (RC rest k cs s)) (s.w.at (dd s)) = .go g' w' es ∧ D (s.w.at (dd s)) w' es ∧ Runs P D Stop g' w' := fun s hs => by
    have : dd s = Classical.choose (hex s hs) := dif_pos hs
    rw [this]
    exact Classical.choose_spec (hex s hs)
  let nxt : StG → StG → Prop := fun s s' => s'.c = nextc s ∧ ∃ es, stepG P true (G (RF rest k s) (RC rest k cs s)) (s.w.at (dd s)) = .go (G (RF rest k s') (RC rest k cs s')) s'.w es
  have huni : ∀ s a b, nxt s a → nxt s b → a = b := fun s a b ⟨c1, e1, h1⟩ ⟨c2, e2, h2⟩ => by
    rw [h1] at h2
    injection h2 with h3 h4
    obtain ⟨af, ap, aw, ac⟩ := a
    obtain ⟨bf, bp, bw, bc⟩ := b
    simp only at c1 c2 h4
    subst c1 c2 h4
    obtain ⟨x, y⟩ := plus_inj h3
    subst x y
    rfl
  let nx : StG → StG := fun s => if h : ∃ s', nxt s s' then Classical.choose h else s
  have hnx : ∀ s s', nxt s s' → nx s = s' := fun s s' h => by
    have he : ∃ s', nxt s s' := ⟨s', h⟩
    have : nx s = Classical.choose he := dif_pos he
    rw [this]
    exact huni s _ _ (Classical.choose_spec he) h
  let S : Nat → StG := fun i => Nat.rec ⟨fr0, [], w0, c0⟩ (fun _ s => nx s) i
  have hS0 : S 0 = ⟨fr0, [], w0, c0⟩ := rfl
  have hSs : ∀ i, S (i + 1) = nx (S i) := fun i => rfl
  let mm : StG → Nat := fun s => gaft (stepG P true (G (LF s) (LC s)) (veilW X (s.w.at (dd s)))) - dd s
  let pos : Nat → Nat := fun i => Nat.rec 0 (fun k p => p + mm (S k)) i
  have hp0 : pos 0 = 0 := rfl
  have hps : ∀ i, pos (i + 1) = pos i + mm (S i) := fun i => rfl
  have hmono : ∀ i k, i ≤ k → pos i ≤ pos k := fun i k h => by
    induction h with
    | refl => exact Nat.le_refl _
    | step h ih => exact Nat.le_trans ih (by rw [hps]; exact Nat.le_add_right _ _)
  let τ : Nat → Question → Nat := fun x q => if h : ∃ i, pos i ≤ x ∧ x < pos (i + 1) then (S (Classical.choose h)).w.tape (dd (S (Classical.choose h)) + (x - pos (Classical.choose h))) q else 0
  have hτ : ∀ i j q, j < mm (S i) → τ (pos i + j) q = (S i).w.tape (dd (S i) + j) q := fun i j q hj => by
    have h : ∃ k, pos k ≤ pos i + j ∧ pos i + j < pos (k + 1) := ⟨i, Nat.le_add_right _ _, by rw [hps]; omega⟩
    have e : τ (pos i + j) q = (S (Classical.choose h)).w.tape (dd (S (Classical.choose h)) + (pos i + j - pos (Classical.choose h))) q := dif_pos h
    obtain ⟨h1, h2⟩ := Classical.choose_spec h
    have hk : Classical.choose h = i := by
      rcases Nat.lt_trichotomy (Classical.choose h) i with hlt | heq | hgt
      · have h3 : pos (Classical.choose h + 1) ≤ pos i := hmono _ _ hlt
        omega
      · exact heq
      · have h3 : pos (i + 1) ≤ pos (Classical.choose h) := hmono _ _ hgt
        rw [hps] at h3
        omega
    rw [e, hk, Nat.add_sub_cancel_left]
  obtain ⟨N, frN, vN, hrun, hmN, htN, hfin⟩ := hlone τ
  have claim : ∀ i, i ≤ N → ∃ v, runN P i (lone (plus fr0 [.code c0]) [pit] { veilW X w0 with tape := τ, drawn := 0 }) = .next (lone (LF (S i)) (LC (S i)) v) ∧ good (S i) ∧ (v.heap = (veilW X (S i).w).heap ∧ v.os = (S i).w.os ∧ v.output = (S i).w.output ∧ Rows X (S i).w) ∧ v.drawn = pos i ∧ v.tape = τ ∧ Keep X w0 (S i).w ∧ (S i).w.tape = w0.tape := by
    intro i
    induction i with
    | zero =>
      intro _
      refine ⟨{ veilW X w0 with tape := τ, drawn := 0 }, rfl, ⟨⟨hc, .inl hm, (fun c hc => by cases hc), htl⟩, hbad⟩, ⟨rfl, rfl, rfl, hX⟩, rfl, rfl, Keep.refl _ _, rfl⟩
    | succ i ih =>
      intro hi
      obtain ⟨v, hr, hg, hv, hdr, htp, hkeep, htw⟩ := ih (by omega)
      obtain ⟨⟨hc1, hm1, hpl1, htl1⟩, hnr⟩ := hg
      have hrest : ∃ n, N = i + (n + 1) := ⟨N - i - 1, by omega⟩
      obtain ⟨n, hn⟩ := hrest
      have hrun2 : runN P (n + 1) (lone (LF (S i)) (LC (S i)) v) = .next (lone frN [pit] vN) := by
        have := hrun
        rw [hn, runN_add, hr] at this
        exact this
      have hhome : Home2 (lone frN [pit] vN) := ⟨frN, vN, rfl, fun ch => by rw [hmN]; simp⟩
      have hgo : ∀ {g' : Frame} {cs' : List Frame} {v' : World} {es : Array Event}, stepG P true (G (LF (S i)) (LC (S i))) v = .go (G g' cs') v' es → step P (lone (LF (S i)) (LC (S i)) v) = .next (lone g' cs' v') := fun h => step_lone_go (by
        have : stepG P true { frame := LF (S i), callers := LC (S i), status := .running, dying := none } v = _ := h
        rw [this]
        rfl)
      obtain ⟨hv1, hv2, hv3, hv4⟩ := hv
      have hX' : Rows X ((S i).w.at (dd (S i))) := hv4
      by_cases hbot : (S i).pl = [] ∧ (S i).fr.mode = .run ∧ (S i).fr.todo = []
      · -- between two parts
        obtain ⟨hp, hmr, hto⟩ := hbot
        generalize hSi : S i = s at hc1 hm1 hpl1 htl1 hnr hv1 hv2 hv3 hv4 hX' hp hmr hto hr hrun2 hdr hkeep htw
        obtain ⟨fr, pl, w, c⟩ := s
        simp only at hc1 hm1 hpl1 htl1 hnr hv1 hv2 hv3 hv4 hX' hp hmr hto hdr hkeep htw
        subst hp
        obtain ⟨fn, tmps, todo, defers, mode, kind, round⟩ := fr
        have h5 : round = none := hc1.round
        have h6 : mode = .run := hmr
        have h7 : todo = [] := hto
        subst h5 h6 h7
        cases c with
        | skip =>
          exfalso
          have h1 : step P (lone (LF ⟨⟨fn, tmps, [], defers, .run, kind, none⟩, [], w, .skip⟩) (LC ⟨⟨fn, tmps, [], defers, .run, kind, none⟩, [], w, .skip⟩) v) = .next (lone ⟨fn, tmps, [], defers, .run, kind, none⟩ [pit] v) := step_lone_go (by
            simp [LF, LC, plus, tip, ext, stepG, stepG.exec])
          have hrun3 := runN_next h1 hrun2
          cases n with
          | zero =>
            unfold runN at hrun3
            injection hrun3 with hrun3
            obtain ⟨e1, _, e3⟩ := lone_inj hrun3
            refine hnr (.stop fun d => ?_)
            have := hStop frN vN (w.at d) hfin hmN htN (by rw [← e3]; exact hv1) (by rw [← e3]; exact hv2) (by rw [← e3]; exact hv3) ⟨hkeep.same, hkeep.back⟩ htw
            rw [← e1] at this
            exact this
          | succ n =>
            have h2 : step P (lone ⟨fn, tmps, [], defers, .run, kind, none⟩ [pit] v) = .next (lone ⟨fn, tmps, [], defers, .returning, kind, none⟩ [pit] v) := step_lone_go (by simp [stepG, stepG.exec])
            have hrun4 := runN_next h2 hrun3
            cases n with
            | zero =>
              unfold runN at hrun4
              injection hrun4 with hrun4
              have := (lone_inj hrun4).1
              rw [← this] at hmN
              cases hmN
            | succ n =>
              have hc2 : FrCalm P F ⟨fn, tmps, [], defers, .returning, kind, none⟩ := ⟨hc1.fn, hc1.todo, hc1.defers, hc1.kind, rfl⟩
              rcases ret_step hF hc2 rfl pit v with ⟨x, v', es, hst⟩ | ⟨o, v', es, hst⟩
              · have hst2 : step P (lone ⟨fn, tmps, [], defers, .returning, kind, none⟩ [pit] v) = .next (lone (pit.finish x) [] v') := step_lone_go (by
                  have : stepG P true { frame := ⟨fn, tmps, [], defers, .returning, kind, none⟩, callers := [pit], status := .running, dying := none } v = _ := hst
                  rw [this]
                  rfl)
                rw [pit_finish] at hst2
                exact absurd hhome (pit_away2 n v' _ (runN_next hst2 hrun4))
              · have hst2 : step P (lone ⟨fn, tmps, [], defers, .returning, kind, none⟩ [pit] v) = .ended o v' := step_lone_ended (by
                  have : stepG P true { frame := ⟨fn, tmps, [], defers, .returning, kind, none⟩, callers := [pit], status := .running, dying := none } v = _ := hst
                  rw [this]
                  rfl)
                exact absurd hrun4 (runN_ended hst2 n _)
        | seq x y =>
          have htt : codeCalm P F x = true ∧ tailed P F y = true := by simpa [tailed] using htl1
          let s' : StG := ⟨⟨fn, tmps, [.code x], defers, .run, kind, none⟩, [], w.at (dd ⟨⟨fn, tmps, [], defers, .run, kind, none⟩, [], w, .seq x y⟩), y⟩
          have hreal : stepG P true (G (RF rest k ⟨⟨fn, tmps, [], defers, .run, kind, none⟩, [], w, .seq x y⟩) (RC rest k cs ⟨⟨fn, tmps, [], defers, .run, kind, none⟩, [], w, .seq x y⟩)) (w.at (dd ⟨⟨fn, tmps, [], defers, .run, kind, none⟩, [], w, .seq x y⟩)) = .go (G (RF rest k s') (RC rest k cs s')) s'.w #[] := by
            simp [RF, RC, plus, tip, ext, graftf, stepG, stepG.exec, G, s']
          have hst : stepG P true (G (LF ⟨⟨fn, tmps, [], defers, .run, kind, none⟩, [], w, .seq x y⟩) (LC ⟨⟨fn, tmps, [], defers, .run, kind, none⟩, [], w, .seq x y⟩)) v = .go (G (LF s') (LC s')) v #[] := by
            simp [LF, LC, plus, tip, ext, stepG, stepG.exec, G, s']
          have hst0 : ∀ u, stepG P true (G (LF ⟨⟨fn, tmps, [], defers, .run, kind, none⟩, [], w, .seq x y⟩) (LC ⟨⟨fn, tmps, [], defers, .run, kind, none⟩, [], w, .seq x y⟩)) u = .go (G (LF s') (LC s')) u #[] := fun u => by
            simp [LF, LC, plus, tip, ext, stepG, stepG.exec, G, s']
          have hnext : S (i + 1) = s' := by rw [hSs, hSi]; exact hnx _ _ ⟨rfl, _, hreal⟩
          have hDD : D (w.at (dd ⟨⟨fn, tmps, [], defers, .run, kind, none⟩, [], w, .seq x y⟩)) s'.w #[] := hD _ _ _ (fun b hb => rfl) rfl (Nat.le_refl _) (fun e he => by simp at he)
          have hgood : good ⟨⟨fn, tmps, [], defers, .run, kind, none⟩, [], w, .seq x y⟩ := ⟨⟨hc1, hm1, hpl1, htl1⟩, hnr⟩
          have hnr' : ¬ Runs P D Stop (G (RF rest k s') (RC rest k cs s')) s'.w := fun h => hdd _ hgood ⟨_, _, _, hreal, hDD, h⟩
          have hc' : FrCalm P F s'.fr := ⟨hc1.fn, fun it hit => by
            have : it = .code x := List.mem_singleton.1 hit
            rw [this]
            exact htt.1, hc1.defers, hc1.kind, rfl⟩
          have hmm : mm (S i) = 0 := by
            rw [hSi]
            show gaft _ - _ = 0
            rw [hst0]
            show dd _ - dd _ = 0
            omega
          refine ⟨v, ?_, by rw [hnext]; exact ⟨⟨hc', .inl rfl, hpl1, htt.2⟩, hnr'⟩, by rw [hnext]; exact ⟨hv1, hv2, hv3, hv4⟩, ?_, htp, by rw [hnext]; exact ⟨hkeep.same, hkeep.back⟩, by rw [hnext]; exact htw⟩
          · rw [runN_add, hr, hnext]
            show runN P 1 _ = _
            unfold runN
            rw [show step P (lone (LF ⟨⟨fn, tmps, [], defers, .run, kind, none⟩, [], w, .seq x y⟩) (LC ⟨⟨fn, tmps, [], defers, .run, kind, none⟩, [], w, .seq x y⟩) v) = .next (lone (LF s') (LC s') v) from step_lone_go (by
              have : stepG P true { frame := LF ⟨⟨fn, tmps, [], defers, .run, kind, none⟩, [], w, .seq x y⟩, callers := LC ⟨⟨fn, tmps, [], defers, .run, kind, none⟩, [], w, .seq x y⟩, status := .running, dying := none } v = _ := hst
              rw [this]
              rfl)]
            rfl
          · rw [hps, hmm, Nat.add_zero]
            exact hdr
        | _ => simp [tailed] at htl1
      have hb : (S i).pl = [] → (S i).fr.mode = .run → (S i).fr.todo ≠ [] := fun h1 h2 h3 => hbot ⟨h1, h2, h3⟩
      have hkl : ∀ id, exitTo id [Item.code (S i).c] = none := fun id => rfl
      rcases pair_stepG hF hc1 hm1 hpl1 hb [.code (S i).c] (.code (graftf rest (S i).c) :: k) hkl cs v ((S i).w.at (dd (S i))) hX' hv1 hv2 hv3 (fun j q hj => by
          rw [htp, hdr]
          exact hτ i j q (by
            show j < gaft _ - dd (S i)
            have hj : dd (S i) + j < gaft (stepG P true (G (LF (S i)) (LC (S i))) (veilW X ((S i).w.at (dd (S i))))) := hj
            omega)) with ⟨fr', pl', v', es', hst, hc', hm', hpl', w', es, hreal, hq1, hq2, hq3, hk', hd', ht1, ht2, hge, hsz, hfine, hgf⟩ | ⟨hpl0, x, v', es', hst⟩ | ⟨ch, v', es', hst⟩ | ⟨o, v', es', hst⟩
      · skip
        have hnc : nextc (S i) = (S i).c := by
          unfold nextc
          split
          · rename_i h1 h2 h3 h4
            exact absurd h2 (hb h1 h3)
          · rfl
        have hnext : S (i + 1) = ⟨fr', pl', w', (S i).c⟩ := by rw [hSs]; exact hnx _ _ ⟨hnc.symm, es, hreal⟩
        have hDD : D ((S i).w.at (dd (S i))) w' es := hD _ _ _ (fun b hb => hk'.same b (.inl hb)) ht2 hsz hfine
        have hnr' : ¬ Runs P D Stop (G (RF rest k ⟨fr', pl', w', (S i).c⟩) (RC rest k cs ⟨fr', pl', w', (S i).c⟩)) w' := fun h => hdd (S i) ⟨⟨hc1, hm1, hpl1, htl1⟩, hnr⟩ ⟨_, _, _, hreal, hDD, h⟩
        have hmm : mm (S i) + dd (S i) = w'.drawn := by
          show gaft _ - dd (S i) + dd (S i) = w'.drawn
          have hgf : gaft (stepG P true (G (LF (S i)) (LC (S i))) (veilW X ((S i).w.at (dd (S i))))) = w'.drawn := hgf
          rw [hgf]
          have hge : dd (S i) ≤ w'.drawn := hge
          omega
        refine ⟨v', ?_, by rw [hnext]; exact ⟨⟨hc', hm', hpl', htl1⟩, hnr'⟩, by rw [hnext]; exact ⟨hq1, hq2, hq3, hX'.keep fun b hb => hk'.same b (.inl hb)⟩, ?_, ht1.trans htp, by rw [hnext]; exact hkeep.trans ⟨hk'.same, hk'.back⟩, by rw [hnext]; exact ht2.trans htw⟩
        · rw [runN_add, hr, hnext]
          show runN P 1 _ = _
          unfold runN
          rw [hgo hst]
          rfl
        · rw [hps, ← hdr]
          have hd' : w'.drawn + v.drawn = v'.drawn + dd (S i) := hd'
          omega
      · have hst2 := hgo (g' := pit.finish x) (cs' := []) hst
        rw [pit_finish] at hst2
        exact absurd hhome (pit_away2 n v' _ (runN_next hst2 hrun2))
      · exact absurd hhome (panic_away2 hF n (ext [.code (S i).c] (S i).pl) { LF (S i) with mode := .panicking ch } ch v' _ rfl hc1.defers hc1.fn (ext_waits htl1 hpl1) (runN_next (hgo hst) hrun2))
      · have hst2 : step P (lone (LF (S i)) (LC (S i)) v) = .ended o v' := step_lone_ended (by
          have : stepG P true { frame := LF (S i), callers := LC (S i), status := .running, dying := none } v = _ := hst
          rw [this]
          rfl)
        exact absurd hrun2 (runN_ended hst2 n _)
  obtain ⟨v, hr, hg, hv, _, _, hkeep, htw⟩ := claim N (Nat.le_refl _)
  rw [hr] at hrun
  injection hrun with hrun
  obtain ⟨e1, e2, e3⟩ := lone_inj hrun
  have hpl : (S N).pl = [] := by
    cases h : (S N).pl with
    | nil => rfl
    | cons c l =>
      unfold LC at e2
      rw [h] at e2
      simp [ext] at e2
  rw [← e1] at htN
  unfold LF at htN
  rw [hpl] at htN
  simp [plus, tip] at htN
end
end Go.Proofs.Ytoipkpndfgcmcaa.Veils
