/-
  n workers at once and their starter beside older ones that only leave: the starter's step; from the loop that starts them to the moment behind Wait, on every tape. The conditions stand in each theorem. No program in sight.
-/
import Derived.Test.YtoipkpndfgcmcaaCvTurn
namespace Go.Proofs.Ytoipkpndfgcmcaa.Crew
open Go Go.Conc Go.ConcN Go.RowKit Go.Proofs.Ytoipkpndfgcmcaa.Veils
open Go.ConcR (KK wgBlock WgAt stA smA rd wr mk Payload DC0 Bk g_of_ofEvents bk_of_mute ofEvent_loc_mark ofEvent_cell deafBehind_cons deafBehind_one ofEvent_mk)
set_option linter.unusedVariables false
set_option linter.unusedSectionVars false
variable [Payload]
section
variable (P : Program) (L : Lay) (X : Nat → Prop) (J : Nat) (Anch : Goroutine → World → Prop)
/-- Behind the join: all others only leave; all is handed over. -/
def Ended (m : Machine) (t : Trace) : Prop :=
  ∃ (gs : Array Goroutine) (a : Goroutine) (w : World) (sl : Option (Nat × Nat)) (q : Nat → Nat), m = crowd gs w sl ∧ gs.size = J + L.n + 1 ∧ gs[0]? = some a ∧ a.status = .running ∧ Anch a w ∧ Leavers P t gs q ∧ Past2 X w.heap.size (J + L.n) t
end
section
variable {P : Program} {L : Lay} {X : Nat → Prop} {J M K : Nat} {val : Nat → Value} {vals : List Value} {Anch AnchW : Goroutine → World → Prop} {j : Nat} {gs : Array Goroutine} {w w' : World} {sl : Option (Nat × Nat)} {t : Trace} {D : Nat → WD} {H : Nat → Option Nat} {Lo : Nat → Nat} {R : Nat → Nat → Prop} {d0 Lw : Nat} {q : Nat → Nat} {tag : CTag} {f0 : Nat} {a a' : Goroutine} {st sm : Int}
theorem WS.quits {Low i : Nat} {Rd : Nat → Prop} {v : Value} {b : Option Nat} {s m d : Nat} {g : Goroutine} (h : WS P L M K Low Rd i v b s m d g w) (hs : s = 1) : QuitsD P m d g := by
  cases h with
  | pre _ => cases hs
  | post _ => cases hs
  | lib h => exact h.quits hs
/-- BEHIND THE JOIN. -/
theorem ended_of (hL : L.Ok) (hX : XOk L X) (hcom : Com2 P L X J M K val L.n gs w t D H Lo R 0 Lw q) (ha : gs[0]? = some a) (hrun : a.status = .running) (hq : AllQuit L.n D) (hgo : stepG P true a w = .go a' w #[mk (.acquire (stA L.Wg))]) (hr' : a'.status = .running) (hA : Anch a' w) :
    ∃ m₁ ops, runT P (crowd gs w sl) 0 = (.next m₁, ops) ∧ Ended P L X J Anch m₁ (t ++ ops) := by
  have hrunT := runT_crowd_go (P := P) (sl := sl) (i := 0) ha (by simpa using hgo)
  have hnt : ∀ op ∈ MemOp.ofEvents 0 a.frame.fn a.frame.place #[mk (.acquire (stA L.Wg))], op.g = 0 ∧ op.act = .mark (.acquire (stA L.Wg)) := fun op hop => by
    obtain ⟨e, he, rfl⟩ := Go.Conc.mem_ofEvents hop
    simp at he
    subst he
    exact ⟨rfl, rfl⟩
  have hcom' := hcom.step0 hL hX (a := a) (a' := a') (fn := a.frame.fn) (pos := a.frame.place) (es := #[mk (.acquire (stA L.Wg))]) (Nat.le_refl _) (fun _ h => h) (fun _ _ h => h) (fun i _ => RX.refl w) (fun op hop => ⟨(hnt op hop).1, fun x hx => by rw [(hnt op hop).2] at hx; cases hx⟩) (by intro e he; simp at he; subst he; exact LowT.none rfl) (by intro e he; simp at he; subst he; simp [mk]) hcom.pay
  refine ⟨_, _, hrunT, ?_⟩
  have e1 : MemOp.ofEvents 0 a.frame.fn a.frame.place #[mk (.acquire (stA L.Wg))] = #[{ g := 0, fn := a.frame.fn, pos := a.frame.place, act := .mark (.acquire (stA L.Wg)) }] := by rw [ofEvents_eq]; simp [ofEvent_mk]
  have hy : (t ++ MemOp.ofEvents 0 a.frame.fn a.frame.place #[mk (.acquire (stA L.Wg))])[t.size]? = some { g := 0, fn := a.frame.fn, pos := a.frame.place, act := .mark (.acquire (stA L.Wg)) } := by rw [e1]; simp
  have hh : (t ++ MemOp.ofEvents 0 a.frame.fn a.frame.place #[mk (.acquire (stA L.Wg))]).heard t.size := ⟨0, by simp [Trace.g?, hy], by rw [deaf_old (Nat.le_refl _)]; exact hcom.deaf0⟩
  generalize ht' : t ++ MemOp.ofEvents 0 a.frame.fn a.frame.place #[mk (.acquire (stA L.Wg))] = t' at hy hh hcom' ⊢
  have hin : ∀ i g, t'.g? i = some g → J < g → t'.counts i → HappensBefore t' i t.size := by
    intro i g hg hJ hc
    obtain ⟨op, hop, rfl⟩ := Option.map_eq_some_iff.1 hg
    have hle := hcom'.ct.gs i op hop
    obtain ⟨r, hr⟩ := hcom.rel (op.g - (J + 1)) (by omega) (by rw [hq _ (by omega)]; omega)
    have hrt : r < t.size := lt_of_act? hr.1.act
    obtain ⟨hrb, hrn⟩ : RelN (stA L.Wg) t' (J + 1 + (op.g - (J + 1))) r := ht' ▸ hr.app (hr.1.appOther (fun op hop => (hnt op hop).1) (by omega)) (fun op hop => by rw [(hnt op hop).2]; simp)
    have edge : HappensBefore t' r t.size := .single (.inr ⟨.marked hrt (.inr hrb.act) (act?_of hy) (fun k h1 _ => hrn k h1), hrb.heard, hh⟩)
    have hg1 : t'.g? i = some (J + 1 + (op.g - (J + 1))) := by rw [hg]; congr 1; omega
    have hle : i ≤ r := Nat.le_of_not_lt fun hlt => hrb.after i hlt hg1 hc
    rcases Nat.lt_or_ge i r with hlt | hge
    · exact .trans (.single (.inl ⟨hlt, _, hg1, hrb.g⟩)) edge
    · obtain rfl : i = r := by omega
      exact edge
  have hkn : ∀ i x, touchAt t' i = some x → ¬ ShX X x.loc → Knows t' 0 i := fun i x hx hs => by
    rcases hcom'.kn i x hx hs with h1 | ⟨g, h1, h2, h3⟩
    · exact h1
    · exact ⟨t.size, _, hy, rfl, .inr (hin i g h1 h2 h3)⟩
  refine ⟨_, a', w, sl, fun i => if i ≤ J then q i else (D (i - (J + 1))).fuel, rfl, by have := hcom'.size; omega, get_map_set_same _ _ _ (by rw [hcom.size]; omega), hr', hA, ⟨fun i g hi hg => ?_, fun i hi => ?_⟩, ⟨⟨hcom'.ct.quiet, fun _ _ _ _ h => h.elim, fun _ _ _ _ h => h.elim, fun l hs _ i x hx he => hkn i x hx (he ▸ hs), fun l hs _ i x hx he _ => hkn i x hx (he ▸ hs), hcom'.ct.nr, hcom'.ct.gs⟩, fun i g hg hne hc => ?_, ?_, hcom'.seen⟩⟩
  · by_cases hJ : i ≤ J
    · simp only [if_pos hJ]
      exact hcom'.old i g hi hJ hg
    · simp only [if_neg hJ]
      have hlt := (Array.getElem?_eq_some_iff.1 hg).1
      rw [hcom'.size] at hlt
      obtain ⟨i', rfl⟩ : ∃ i', i = J + 1 + i' := ⟨i - (J + 1), by omega⟩
      obtain ⟨g', hg', hs⟩ := hcom'.wk i' (by omega)
      rw [hg] at hg'
      cases hg'
      rw [show J + 1 + i' - (J + 1) = i' by omega, hcom'.deafW i' (by omega)]
      exact hs.quits (hq i' (by omega))
  · rw [hcom'.size] at hi
    exact Deaf_absent fun x op hx e => by have := hcom'.ct.gs x op hx; omega
  · rcases Nat.lt_or_ge J g with hJ | hJ
    · exact ⟨t.size, by simp [Trace.g?, hy], hin i g hg hJ hc⟩
    · exact hcom'.over i g hg hne hJ hc
  · exact hcom'.deaf0
/-- THE LOAD IN Wait. -/
theorem lookStep (hL : L.Ok) (hX : XOk L X) (hn : L.n < 2147483648) (ha : gs[0]? = some a) (hcom : Com2 P L X J M K val L.n gs w t D H Lo R 1 Lw q) (hwg : WgAt L.ty L.Wg w st sm) (hmode : ConcN.Mode L.n D .w1 st sm)
    (h : GQ P L X Lw (AtLook P L X vals Anch AnchW Lw) f0 a w) :
    Moves P L X J M K val vals Anch AnchW gs w sl t 0 (phi L.n (Vc L.n D) .w1 + Ssum L.n D, f0 + 2 * Fsum L.n D + 2 * sumTo (J + 1) q) := by
  rcases Goes.cases h with hstop | ⟨m', rfl, hstep⟩
  · obtain ⟨_, hall⟩ := hstop w (.refl w)
    obtain ⟨ho, rfl, rfl, _⟩ := hmode.open_inv trivial
    have hV := Vc_le L.n D
    obtain ⟨a', hgo, h0, hne⟩ := hall (Vc L.n D) (by omega) (by simpa [pend] using hwg)
    by_cases hv : Vc L.n D = 0
    · obtain ⟨m₂, hk⟩ := h0 hv
      refine bookQ hL hX ha hcom hgo (.refl L.Wg w) hwg bk_rd (.back hk) ?_ (.inl (by simp only [phi]; omega))
      have e : ((Vc L.n D + pend .w1 : Nat) : Int) * KK = 0 := by rw [hv]; simp [pend]
      rw [e]
      exact .fin trivial (allQuit_of ho hv)
    · obtain ⟨m₂, hk⟩ := hne hv
      exact bookQ hL hX ha hcom hgo (.refl L.Wg w) hwg bk_rd (.swap hk) (hmode.reopen trivial trivial rfl (fun vs e => by cases e; omega)) (.inl (by simp only [phi]; omega))
  · obtain ⟨a', w', es, hgo, hD, hg'⟩ := hstep w (.refl w)
    exact idleQ hL hX ha hcom hwg hmode hgo hD (.look hg') (by omega)
set_option maxHeartbeats 1600000 in
/-- THE STARTER's STEP. -/
theorem stepCaller2 (hL : L.Ok) (hX : XOk L X) (hn : L.n < 2147483648)
    (hAn : ∀ Lw g w, AnchW g w → ∃ m, GQ P L X Lw (AtLook P L X vals Anch AnchW Lw) m g w)
    (hl : vals.length = L.n) (hv : ∀ i, i < L.n → vals[i]? = some (val i))
    (ha : gs[0]? = some a) (hss : SS P L X M K val vals Anch AnchW tag j f0 d0 Lw a w) (hcom : Com2 P L X J M K val j gs w t D H Lo R d0 Lw q) (hwg : WgAt L.ty L.Wg w st sm) (hmode : ConcN.Mode j D tag st sm) (hrun : a.status = .running) :
    (∃ m₁ ops, runT P (crowd gs w sl) 0 = (.next m₁, ops) ∧ Ended P L X J Anch m₁ (t ++ ops)) ∨
    Moves P L X J M K val vals Anch AnchW gs w sl t 0 (phi L.n (Vc j D) tag + Ssum j D, f0 + 2 * Fsum j D + 2 * sumTo (J + 1) q) := by
  have hVj := Vc_le j D
  cases hss with
  | off hr h =>
    rcases Goes.cases h with hstop | ⟨m', rfl, hstep⟩
    · obtain ⟨_, a', hgo, m₂, hk⟩ := hstop w (.refl w)
      exact .inr (bookQ hL hX ha hcom hgo (.refl L.Wg w) hwg bk_dis (.up hr hk) (hmode.reopen trivial trivial rfl (by simp)) (.inl (by simp only [phi]; omega)))
    · obtain ⟨a', w', es, hgo, hD, hg'⟩ := hstep w (.refl w)
      exact .inr (idleQ hL hX ha hcom hwg hmode hgo hD (.off hr hg') (by omega))
  | up hr h =>
    rename_i r
    rcases Goes.cases h with hstop | ⟨m', rfl, hstep⟩
    · obtain ⟨_, hall⟩ := hstop w (.refl w)
      obtain ⟨ho, rfl, rfl, _⟩ := hmode.open_inv trivial
      obtain ⟨a', hgo, m₂, hk⟩ := hall (Vc (L.n - (r + 1)) D) (by omega) (by simpa [pend] using hwg)
      refine .inr (bookQ hL hX ha hcom hgo (aside_setCell w (stA L.Wg) _) (hwg.setSt _) bk_rw (.on hr hk) ?_ (.inl (by simp only [phi]; omega)))
      have e : (((Vc (L.n - (r + 1)) D : Nat) : Int) + 1) * KK = ((Vc (L.n - (r + 1)) D + pend (.sp r 3) : Nat) : Int) * KK := by simp [pend]
      rw [e]
      exact .opn trivial ho (by simp)
    · obtain ⟨a', w', es, hgo, hD, hg'⟩ := hstep w (.refl w)
      exact .inr (idleQ hL hX ha hcom hwg hmode hgo hD (.up hr hg') (by omega))
  | on hr h =>
    rcases Goes.cases h with hstop | ⟨m', rfl, hstep⟩
    · obtain ⟨_, a', hgo, m₂, hk⟩ := hstop w (.refl w)
      exact .inr (bookQ hL hX ha hcom hgo (.refl L.Wg w) hwg bk_en (.go hr hk) (hmode.reopen trivial trivial rfl (by simp)) (.inl (by simp only [phi]; omega)))
    · obtain ⟨a', w', es, hgo, hD, hg'⟩ := hstep w (.refl w)
      exact .inr (idleQ hL hX ha hcom hwg hmode hgo hD (.on hr hg') (by omega))
  | go hr h =>
    rename_i r
    rcases Goes.cases h with hstop | ⟨m', rfl, hstep⟩
    · obtain ⟨_, a', child, Rd, hsp, _, hRd, hwk0, hnext⟩ := hstop w (.refl w)
      obtain ⟨m₂, hwk⟩ := hwk0 hcom.pay
      obtain ⟨ho, rfl, rfl, _⟩ := hmode.open_inv trivial
      have hrun' := runT_crowd_spawn (P := P) (sl := sl) (i := 0) ha (by simpa using hsp)
      rw [hcom.size] at hrun'
      have hcom' := hcom.spawn hL hX (a' := a') (x := { g := 0, fn := a.frame.fn, pos := a.frame.place, act := .go (J + 1 + (L.n - (r + 1))) }) (y := { g := J + 1 + (L.n - (r + 1)), fn := child.frame.fn, pos := a.frame.place, act := .start }) ⟨rfl, rfl⟩ ⟨rfl, rfl⟩ hRd hwk
      generalize m₂ + 1 + (M + 1 + K) = m₂ at hcom'
      have eV : Vc (L.n - (r + 1) + 1) (upd D (L.n - (r + 1)) ⟨7, m₂, 0⟩) = Vc (L.n - (r + 1)) D + 1 := by
        simp only [Vc, sumTo, upd_same]
        rw [sumTo_upd_out D _ cnt (Nat.le_refl _)]; rfl
      have eS : Ssum (L.n - (r + 1) + 1) (upd D (L.n - (r + 1)) ⟨7, m₂, 0⟩) = Ssum (L.n - (r + 1)) D + 7 := by
        simp only [Ssum, sumTo, upd_same]
        rw [sumTo_upd_out D _ WD.stage (Nat.le_refl _)]
      have ho' : OpenSt (L.n - (r + 1) + 1) (upd D (L.n - (r + 1)) ⟨7, m₂, 0⟩) := fun i hi => by
        by_cases e : i = L.n - (r + 1)
        · subst e; rw [upd_same]; simp
        · rw [upd_ne D _ e]; exact ho i (by omega)
      have ha' : ((gs.setIfInBounds 0 a').push child)[0]? = some a' := by
        rw [Array.getElem?_push_lt (by simp [hcom.size]; omega), ← Array.getElem?_eq_getElem, Array.getElem?_setIfInBounds_self_of_lt (by rw [hcom.size]; omega)]
      have ej : L.n - (r + 1) + 1 = L.n - r := by omega
      rw [ej] at hcom' eV eS ho'
      have est : ∀ tag', pend tag' = 0 → ((Vc (L.n - (r + 1)) D + pend (.sp r 2) : Nat) : Int) * KK = ((Vc (L.n - r) (upd D (L.n - (r + 1)) ⟨7, m₂, 0⟩) + pend tag' : Nat) : Int) * KK := fun tag' hp => by rw [eV, hp]; simp [pend]
      cases r with
      | zero =>
        obtain ⟨m₃, hk⟩ := hnext
        simp only [Nat.sub_zero] at hrun' hcom' eV eS ho' est
        refine .inr ⟨_, _, (phi L.n (Vc L.n (upd D (L.n - (0 + 1)) ⟨7, m₂, 0⟩)) .kd + Ssum L.n (upd D (L.n - (0 + 1)) ⟨7, m₂, 0⟩), m₃ + 2 * Fsum L.n (upd D (L.n - (0 + 1)) ⟨7, m₂, 0⟩) + 2 * sumTo (J + 1) q), hrun', Prod.Lex.left _ _ (by simp only [phi]; omega),
          _, w, sl, L.n, _, _, _, _, q, .kd, m₃, 0, _, a', _, _, rfl, ha', .in_ hk, hcom', hwg, ?_, rfl⟩
        rw [est .kd rfl]
        exact .opn trivial ho' (by simp)
      | succ r' =>
        obtain ⟨m₃, hk⟩ := hnext
        refine .inr ⟨_, _, (phi L.n (Vc (L.n - (r' + 1)) (upd D (L.n - (r' + 1 + 1)) ⟨7, m₂, 0⟩)) (.sp r' 5) + Ssum (L.n - (r' + 1)) (upd D (L.n - (r' + 1 + 1)) ⟨7, m₂, 0⟩), m₃ + 2 * Fsum (L.n - (r' + 1)) (upd D (L.n - (r' + 1 + 1)) ⟨7, m₂, 0⟩) + 2 * sumTo (J + 1) q), hrun', Prod.Lex.left _ _ (by simp only [phi]; omega),
          _, w, sl, L.n - (r' + 1), _, _, _, _, q, .sp r' 5, m₃, 0, _, a', _, _, rfl, ha', .off (by omega) hk, hcom', hwg, ?_, rfl⟩
        rw [est (.sp r' 5) rfl]
        exact .opn trivial ho' (by simp)
    · obtain ⟨a', w', es, hgo, hD, hg'⟩ := hstep w (.refl w)
      exact .inr (idleQ hL hX ha hcom hwg hmode hgo hD (.go hr hg') (by omega))
  | in_ h =>
    rcases Goes.cases h with hstop | ⟨m', rfl, hstep⟩
    · obtain ⟨_, a', hgo, m₂, hk⟩ := hstop w (.refl w)
      exact .inr (bookQ hL hX ha hcom hgo (.refl L.Wg w) hwg bk_dis (.anch hk) (hmode.reopen trivial trivial rfl (by simp)) (.inl (by simp only [phi]; omega)))
    · obtain ⟨a', w', es, hgo, hD, hg'⟩ := hstep w (.refl w)
      exact .inr (idleQ hL hX ha hcom hwg hmode hgo hD (.in_ hg') (by omega))
  | anch h =>
    rcases Goes.cases h with hstop | ⟨m', rfl, hstep⟩
    · obtain ⟨m₂, hk⟩ := hAn Lw a w (hstop w (.refl w))
      obtain ⟨m₁, ops, μ', h1, h2, h3⟩ := lookStep (sl := sl) hL hX hn ha hcom hwg (hmode.reopen trivial trivial rfl (by simp)) hk
      exact .inr ⟨m₁, ops, μ', h1, lt2_trans h2 (Prod.Lex.left _ _ (by simp only [phi]; omega)), h3⟩
    · obtain ⟨a', w', es, hgo, hD, hg'⟩ := hstep w (.refl w)
      exact .inr (idleQ hL hX ha hcom hwg hmode hgo hD (.anch hg') (by omega))
  | look h => exact .inr (lookStep hL hX hn ha hcom hwg hmode h)
  | swap h =>
    rename_i vs
    rcases Goes.cases h with hstop | ⟨m', rfl, hstep⟩
    · obtain ⟨_, hall⟩ := hstop w (.refl w)
      obtain ⟨ho, rfl, rfl, hw2⟩ := hmode.open_inv trivial
      obtain ⟨hle, h1⟩ := hw2 vs rfl
      obtain ⟨hhit, hmiss⟩ := hall (Vc L.n D) (by omega) (by simpa [pend] using hwg)
      by_cases e : Vc L.n D = vs
      · obtain ⟨a', hgo, m₂, hk⟩ := hhit e
        exact .inr (bookQ hL hX ha hcom hgo (aside_setCell w (stA L.Wg) _) (hwg.setSt _) bk_rw (.sem hk) (.reg trivial ho (by omega)) (.inl (by simp only [phi]; omega)))
      · obtain ⟨a', hgo, m₂, hk⟩ := hmiss e
        exact .inr (bookQ hL hX ha hcom hgo (.refl L.Wg w) hwg bk_rd (.anch hk) (hmode.reopen trivial trivial rfl (by simp)) (.inl (by simp only [phi]; omega)))
    · obtain ⟨a', w', es, hgo, hD, hg'⟩ := hstep w (.refl w)
      exact .inr (idleQ hL hX ha hcom hwg hmode hgo hD (.swap hg') (by omega))
  | sem h =>
    rcases Goes.cases h with hstop | ⟨m', rfl, hstep⟩
    · obtain ⟨_, hoff, hblk, htake⟩ := hstop w (.refl w)
      cases hmode with
      | opn h1 _ _ => exact h1.elim
      | reg h1 h2 h3 => exact .inr (bookQ hL hX ha hcom (hblk ⟨_, hwg⟩) (.refl L.Wg w) hwg (by simp) (.blk hstop) (.reg trivial h2 h3) (.inr ⟨rfl, by omega⟩))
      | last La h1 h2 h3 h4 => exact .inr (bookQ hL hX ha hcom (hblk ⟨_, hwg⟩) (.refl L.Wg w) hwg (by simp) (.blk hstop) (.last La trivial h2 h3 h4) (.inr ⟨rfl, by omega⟩))
      | sema h2 =>
        obtain ⟨a', hgo, m₂, hk⟩ := htake hwg
        exact .inr (bookQ hL hX ha hcom hgo (aside_setCell w (smA L.Wg) _) (hwg.setSm 0) bk_sem (.last hk) (.fin trivial h2) (.inl (by simp only [phi]; omega)))
      | fin h1 _ => exact h1.elim
    · obtain ⟨a', w', es, hgo, hD, hg'⟩ := hstep w (.refl w)
      exact .inr (idleQ hL hX ha hcom hwg hmode hgo hD (.sem hg') (by omega))
  | blk h => simp at hrun
  | last h =>
    rcases Goes.cases h with hstop | ⟨m', rfl, hstep⟩
    · obtain ⟨_, hx⟩ := hstop w (.refl w)
      obtain ⟨hq, rfl, rfl⟩ := hmode.fin_inv trivial
      obtain ⟨a', hgo, m₂, hk⟩ := hx hwg
      exact .inr (bookQ hL hX ha hcom hgo (.refl L.Wg w) hwg bk_rd (.back hk) (.fin trivial hq) (.inl (by simp only [phi]; omega)))
    · obtain ⟨a', w', es, hgo, hD, hg'⟩ := hstep w (.refl w)
      exact .inr (idleQ hL hX ha hcom hwg hmode hgo hD (.last hg') (by omega))
  | back h =>
    rcases Goes.cases h with hstop | ⟨m', rfl, hstep⟩
    · obtain ⟨_, a', hgo, m₂, hk⟩ := hstop w (.refl w)
      obtain ⟨hq, rfl, rfl⟩ := hmode.fin_inv trivial
      exact .inr (bookQ hL hX ha hcom hgo (.refl L.Wg w) hwg bk_en (.hear hk) (.fin trivial hq) (.inl (by simp only [phi]; omega)))
    · obtain ⟨a', w', es, hgo, hD, hg'⟩ := hstep w (.refl w)
      exact .inr (idleQ hL hX ha hcom hwg hmode hgo hD (.back hg') (by omega))
  | hear h =>
    rcases Goes.cases h with hstop | ⟨m', rfl, hstep⟩
    · obtain ⟨_, a', hgo, hfin⟩ := hstop w (.refl w)
      obtain ⟨hq, rfl, rfl⟩ := hmode.fin_inv trivial
      obtain ⟨hr', hA⟩ := hfin (full_of hl hv hcom.pay fun i hi => hcom.has i hi (by rw [hq i hi]; omega))
      exact .inl (ended_of hL hX hcom ha hrun hq hgo hr' hA)
    · obtain ⟨a', w', es, hgo, hD, hg'⟩ := hstep w (.refl w)
      exact .inr (idleQ hL hX ha hcom hwg hmode hgo hD (.hear hg') (by omega))
theorem SS.f_awake (hAr : ∀ g w, AnchW g w → g.status = .running) (hss : SS P L X M K val vals Anch AnchW tag j f0 d0 Lw a w) (ha : gs[0]? = some a) (hcom : Com2 P L X J M K val j gs w t D H Lo R d0 Lw q) : ∀ g ∈ gs, awake g := by
  intro g hg tm
  obtain ⟨i, hi⟩ := Array.mem_iff_getElem?.1 hg
  rcases Nat.eq_zero_or_pos i with rfl | hp
  · rw [ha] at hi; cases hi
    rcases hss.status hAr with ⟨hs, _⟩ | ⟨hs, _⟩ <;> rw [hs] <;> simp
  · by_cases hJ : i ≤ J
    · rcases (hcom.old i g hp hJ hi).status with h | h <;> rw [h] <;> simp
    · have hlt := (Array.getElem?_eq_some_iff.1 hi).1
      rw [hcom.size] at hlt
      obtain ⟨i', rfl⟩ : ∃ i', i = J + 1 + i' := ⟨i - (J + 1), by omega⟩
      obtain ⟨g', hg', hs⟩ := hcom.wk i' (by omega)
      rw [hi] at hg'; cases hg'
      rcases hs.status (hcom.lo i' (by omega)).1 hcom.n0 with h | h <;> rw [h] <;> simp
/-- NO DEADLOCK. -/
theorem someone_runs2 (hAr : ∀ g w, AnchW g w → g.status = .running) (ha : gs[0]? = some a) (hss : SS P L X M K val vals Anch AnchW tag j f0 d0 Lw a w) (hcom : Com2 P L X J M K val j gs w t D H Lo R d0 Lw q) (hmode : ConcN.Mode j D tag st sm) :
    ∃ (i : Nat) (g : Goroutine), gs[i]? = some g ∧ g.status = .running := by
  rcases hss.status hAr with ⟨hs, _⟩ | ⟨_, rfl⟩
  · exact ⟨0, a, ha, hs⟩
  · cases hmode with
    | opn h1 _ _ => exact h1.elim
    | reg _ _ h3 =>
      obtain ⟨i, hi, h5⟩ := exists_counted h3
      obtain ⟨g, hg, hs⟩ := hcom.wk i hi
      exact ⟨J + 1 + i, g, hg, hs.running (by omega)⟩
    | last La _ h2 h3 _ =>
      obtain ⟨g, hg, hs⟩ := hcom.wk La h2
      exact ⟨J + 1 + La, g, hg, hs.running (by omega)⟩
    | fin h1 _ => exact h1.elim
theorem turn2 (hL : L.Ok) (hX : XOk L X) (hn : L.n < 2147483648) (hAr : ∀ g w, AnchW g w → g.status = .running)
    (hAn : ∀ Lw g w, AnchW g w → ∃ m, GQ P L X Lw (AtLook P L X vals Anch AnchW Lw) m g w)
    (hl : vals.length = L.n) (hv : ∀ i, i < L.n → vals[i]? = some (val i)) : ∀ μ m t, Inv2 P L X J M K val vals Anch AnchW μ m t →
    (∃ m₁ ops, stepT P m = (.next m₁, ops) ∧ Ended P L X J Anch m₁ (t ++ ops)) ∨ (∃ m₁ ops μ', stepT P m = (.next m₁, ops) ∧ Lt2 μ' μ ∧ Inv2 P L X J M K val vals Anch AnchW μ' m₁ (t ++ ops)) := by
  rintro μ m t ⟨gs, w, sl, j, D, H, Lo, R, q, tag, f0, d0, Lw, a, st, sm, rfl, ha, hss, hcom, hwg, hmode, rfl⟩
  obtain ⟨i, g, d, sl', hg, hrun, hstep⟩ := crowd_pick (P := P) (w := w) (sl := sl) (hss.f_awake hAr ha hcom) (someone_runs2 hAr ha hss hcom hmode)
  rw [hstep]
  have hss' := hss.rely (RQ.at w d)
  have hcom' := hcom.at d
  have hwg' : WgAt L.ty L.Wg (w.at d) st sm := hwg
  rcases Nat.eq_zero_or_pos i with rfl | hp
  · rw [ha] at hg; cases hg
    exact stepCaller2 (sl := sl') hL hX hn hAn hl hv ha hss' hcom' hwg' hmode hrun
  · by_cases hJ : i ≤ J
    · exact .inr (oldStep2 (sl := sl') hL hX hAr ha hss' hcom' hwg' hmode hp hJ hg hrun)
    · have hlt := (Array.getElem?_eq_some_iff.1 hg).1
      rw [hcom.size] at hlt
      obtain ⟨i', rfl⟩ : ∃ i', i = J + 1 + i' := ⟨i - (J + 1), by omega⟩
      exact .inr (stepWorker2 (sl := sl') hL hX hAr hn ha hss' hcom' hwg' hmode (by omega) hg hrun)
theorem turns2 (hL : L.Ok) (hX : XOk L X) (hn : L.n < 2147483648) (hAr : ∀ g w, AnchW g w → g.status = .running)
    (hAn : ∀ Lw g w, AnchW g w → ∃ m, GQ P L X Lw (AtLook P L X vals Anch AnchW Lw) m g w)
    (hl : vals.length = L.n) (hv : ∀ i, i < L.n → vals[i]? = some (val i)) : ∀ μ m t, Inv2 P L X J M K val vals Anch AnchW μ m t → ∃ N m' t', runNT P N m t = (.next m', t') ∧ Ended P L X J Anch m' t' := by
  intro μ
  induction μ using (Prod.lex Nat.lt_wfRel Nat.lt_wfRel).wf.induction with
  | _ μ ih =>
    intro m t hI
    rcases turn2 hL hX hn hAr hAn hl hv μ m t hI with ⟨m₁, ops, h1, h2⟩ | ⟨m₁, ops, μ', h1, h2, h3⟩
    · exact ⟨1, m₁, t ++ ops, by rw [runNT_succ_next h1]; rfl, h2⟩
    · obtain ⟨N, m', t', e1, e2⟩ := ih μ' h2 m₁ (t ++ ops) h3
      exact ⟨N + 1, m', t', by rw [runNT_succ_next h1]; exact e1, e2⟩
/-- FROM THE LOOP THAT STARTS THEM TO THE MOMENT BEHIND Wait, ON EVERY TAPE. -/
theorem crew_runs (hL : L.Ok) (hX : XOk L X) (hn : L.n < 2147483648) (hAr : ∀ g w, AnchW g w → g.status = .running)
    (hAn : ∀ Lw g w, AnchW g w → ∃ m, GQ P L X Lw (AtLook P L X vals Anch AnchW Lw) m g w)
    (hl : vals.length = L.n) (hv : ∀ i, i < L.n → vals[i]? = some (val i)) (hN : L.N0 = w.heap.size)
    (hz : gs.size = J + 1) (ha : gs[0]? = some a) (hLe : Leavers P t gs q) (hP : Past2 X w.heap.size J t) (hwg : WgAt L.ty L.Wg w 0 0) (hpay : PayAt L.C L.n w)
    (h : Starts P L X M K val (Fin0 P L X AnchW) L.n w.heap.size a w) : ∃ N m' t', runNT P N (crowd gs w sl) t = (.next m', t') ∧ Ended P L X J Anch m' t' := by
  have hcom : Com2 P L X J M K val 0 gs w t (fun _ => ⟨0, 0, 0⟩) (fun _ => none) (fun _ => 0) (fun _ _ => False) 0 w.heap.size q := by
    refine ⟨by omega, fun i g h1 h2 hg => hLe.old i g h1 hg, fun i hi => by omega, ?_, fun i x hx hs => .inl ?_, fun i g hg hne _ hc => hP.over i g hg hne hc, hP.hears, fun i hi => by omega, fun i hi => by omega, fun i hi => by omega, hpay, hP.seen, by omega, fun i hi => by omega, ⟨by omega, Nat.le_refl _⟩, fun i b hb => (by cases hb), fun i i' b hb => (by cases hb), fun i b hb => (hb : False).elim⟩
    · refine ⟨hP.ct.quiet, fun k k1 kJ l hl => ?_, fun k k1 kJ l hl => ?_, fun l hs _ => hP.ct.free l hs fun k _ _ => ⟨id, id⟩, fun l hs _ => hP.ct.mine l hs fun k _ _ => id, hP.ct.nr, hP.ct.gs⟩
      · obtain ⟨i, rfl, _⟩ := hl; omega
      · obtain ⟨i, rfl, _⟩ := hl; omega
    · exact hP.ct.free x.loc hs (fun k _ _ => ⟨id, id⟩) i x hx rfl
  have hmode : ∀ tag, isOpen tag → pend tag = 0 → (∀ vs, tag ≠ .w2 vs) → ConcN.Mode 0 (fun _ => (⟨0, 0, 0⟩ : WD)) tag 0 0 := fun tag h1 h2 h3 => by
    have := ConcN.Mode.opn (j := 0) (D := fun _ => (⟨0, 0, 0⟩ : WD)) h1 (fun i hi => by omega) (fun vs e => absurd e (h3 vs))
    simpa [Vc, sumTo, h2] using this
  have hInv : ∃ μ, Inv2 P L X J M K val vals Anch AnchW μ (crowd gs w sl) t := by
    generalize hnn : L.n = n at h
    cases n with
    | zero =>
      obtain ⟨m, hk⟩ := h
      have hc : SS P L X M K val vals Anch AnchW .kd L.n m 0 w.heap.size a w := .in_ hk
      rw [hnn] at hc
      exact ⟨_, gs, w, sl, 0, _, _, _, _, q, .kd, m, 0, _, a, 0, 0, rfl, ha, hc, hcom, hwg, hmode .kd trivial rfl (by simp), rfl⟩
    | succ r =>
      obtain ⟨m, hk⟩ := h
      have hc := SS.off (vals := vals) (Anch := Anch) (by omega) hk
      rw [hnn, Nat.sub_self] at hc
      exact ⟨_, gs, w, sl, 0, _, _, _, _, q, .sp r 5, m, 0, _, a, 0, 0, rfl, ha, hc, hcom, hwg, hmode (.sp r 5) trivial rfl (by simp), rfl⟩
  obtain ⟨μ, hI⟩ := hInv
  exact turns2 hL hX hn hAr hAn hl hv μ _ _ hI
end
end Go.Proofs.Ytoipkpndfgcmcaa.Crew
