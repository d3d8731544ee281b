/-
  n workers at once and their starter beside older ones that only leave: a worker's step, wherever it stands, keeps the invariant. The conditions stand in each theorem. No program in sight.
-/
import Derived.Test.YtoipkpndfgcmcaaCvInv
namespace Go.Proofs.Ytoipkpndfgcmcaa.Crew
open Go Go.Conc Go.ConcN Go.RowKit Go.Proofs.Ytoipkpndfgcmcaa.Veils
open Go.ConcR (KK wgBlock WgAt stA smA rd wr mk Payload DC0 Bk g_of_ofEvents bk_of_mute ofEvent_loc_mark ofEvent_cell deafBehind_cons deafBehind_one ofEvent_mk)
set_option linter.unusedVariables false
set_option linter.unusedSectionVars false
variable [Payload]
section
variable {P : Program} {L : Lay} {X : Nat → Prop} {J M K : Nat} {val : Nat → Value} {vals : List Value} {Anch AnchW : Goroutine → World → Prop} {j : Nat} {gs : Array Goroutine} {w w' : World} {sl : Option (Nat × Nat)} {t : Trace} {D : Nat → WD} {H : Nat → Option Nat} {Lo : Nat → Nat} {R : Nat → Nat → Prop} {d0 Lw : Nat} {q : Nat → Nat} {tag : CTag} {f0 : Nat} {a : Goroutine} {st sm : Int}
set_option maxHeartbeats 1600000 in
theorem libStep2 (hL : L.Ok) (hX : XOk L X) (hAr : ∀ g w, AnchW g w → g.status = .running) (hn : L.n < 2147483648)
    (ha : gs[0]? = some a) (hss : SS P L X M K val vals Anch AnchW tag j f0 d0 Lw a w) (hcom : Com2 P L X J M K val j gs w t D H Lo R d0 Lw q) (hwg : WgAt L.ty L.Wg w st sm) (hmode : ConcN.Mode j D tag st sm)
    {i : Nat} (hi : i < j) {g : Goroutine} (hg : gs[J + 1 + i]? = some g) (hrun : g.status = .running) {s m dd : Nat} (hst : (D i).stage = s) (hfu : m ≤ (D i).fuel) (hde : (D i).deaf = dd)
    (hs : WSit P L.ty L.Wg L.C L.n no2 no2 L.N0 (i + 1) (val i) s m dd g w) :
    Moves P L X J M K val vals Anch AnchW gs w sl t (J + 1 + i) (phi L.n (Vc j D) tag + Ssum j D, f0 + 2 * Fsum j D + 2 * sumTo (J + 1) q) := by
  have hb := hss.bound
  have hVj := Vc_le j D
  have hdk : Deaf t (J + 1 + i) = dd := by rw [hcom.deafW i hi, hde]
  have hW := hcom.wgLive hL
  have bookG : ∀ {g' : Goroutine} {w' : World} {es : Array Event} {s' m' dd' : Nat} {st' sm' : Int}, stepG P false g w = .go g' w' es → Aside L.Wg w w' → WgAt L.ty L.Wg w' st' sm' → (∀ e ∈ es, Bk L.Wg e) →
      (∀ jx e, es[jx]? = some e → (MemAct.ofEvent e).touch? = none ∨ 0 < deafBehind dd (es.extract 0 jx)) → WSit P L.ty L.Wg L.C L.n no2 no2 L.N0 (i + 1) (val i) s' m' dd' g' w' → deafBehind dd es = dd' → s ≤ 6 →
      (∀ tag', (tag' = tag ∨ (tag = .blk ∧ tag' = .w3)) → (mayWake P g = true → g'.status = .running → tag' ≠ .blk) → ConcN.Mode j (upd D i ⟨s', m', dd'⟩) tag' st' sm') → ((s' < s ∧ cnt ⟨s', m', dd'⟩ ≤ cnt (D i)) ∨ (s' = s ∧ m' + 1 ≤ m)) →
      Moves P L X J M K val vals Anch AnchW gs w sl t (J + 1 + i) (phi L.n (Vc j D) tag + Ssum j D, f0 + 2 * Fsum j D + 2 * sumTo (J + 1) q) := by
    intro g' w' es s' m' dd' st' sm' hgo hAs hwg' hbk hd hs' hdd h6 hmode' hlt
    obtain ⟨cs, hcs1, hcs2⟩ := hcom.pay
    exact workerStep2 hL hX hAr ha hss hcom hi hg hgo (.inl rfl) (fun h => absurd rfl h) (fun b _ => (half_of_aside hL hAs b).1) (RQ.of_wg hL hAs ⟨_, _, hwg'⟩) (fun i' _ _ => RX.of_wg hL hAs ⟨_, _, hwg'⟩ fun r hr => (hcom.own_ne hL hr).2) (.lib hs')
      (fun _ _ => okW_Bk hX hbk) (low_Bk (by rw [hAs.size]; exact hW) hbk) (norel_of_Bk hbk) (pl_Bk hX hbk) (by rw [hde]; exact hdd)
      (fun _ => let ⟨r, hr⟩ := hcom.rel i hi (by omega); ⟨r, hr.app (hr.1.book hdk _ _ hbk hd) (norel_of (norel_of_Bk hbk))⟩) (fun _ => (cell_of_block (hAs.block L.C hL.hCW) i).trans (hcom.has i hi (by omega))) ⟨cs, (hAs.block L.C hL.hCW).trans hcs1, hcs2⟩ hwg' hmode'
      (by rw [hst]; exact hlt.imp id fun x => ⟨x.1, Nat.le_trans x.2 hfu⟩)
  have book : ∀ {g' : Goroutine} {w' : World} {es : Array Event} {s' m' dd' : Nat} {st' sm' : Int}, stepG P false g w = .go g' w' es → Aside L.Wg w w' → WgAt L.ty L.Wg w' st' sm' → (∀ e ∈ es, Bk L.Wg e) →
      (∀ jx e, es[jx]? = some e → (MemAct.ofEvent e).touch? = none ∨ 0 < deafBehind dd (es.extract 0 jx)) → WSit P L.ty L.Wg L.C L.n no2 no2 L.N0 (i + 1) (val i) s' m' dd' g' w' → deafBehind dd es = dd' → s ≤ 6 →
      ConcN.Mode j (upd D i ⟨s', m', dd'⟩) tag st' sm' → ((s' < s ∧ cnt ⟨s', m', dd'⟩ ≤ cnt (D i)) ∨ (s' = s ∧ m' + 1 ≤ m)) →
      Moves P L X J M K val vals Anch AnchW gs w sl t (J + 1 + i) (phi L.n (Vc j D) tag + Ssum j D, f0 + 2 * Fsum j D + 2 * sumTo (J + 1) q) :=
    fun hgo hAs hwg' hbk hd hs' hdd h6 hmode' hlt => bookG hgo hAs hwg' hbk hd hs' hdd h6 (fun _ ht _ => hmode'.retag ht) hlt
  have idle : ∀ {g' : Goroutine} {m' : Nat}, stepG P false g w = .go g' w #[] → WSit P L.ty L.Wg L.C L.n no2 no2 L.N0 (i + 1) (val i) s m' dd g' w → m' + 1 = m → s ≤ 6 → s ≠ 1 →
      Moves P L X J M K val vals Anch AnchW gs w sl t (J + 1 + i) (phi L.n (Vc j D) tag + Ssum j D, f0 + 2 * Fsum j D + 2 * sumTo (J + 1) q) := by
    intro g' m' hgo hs' hm h6 h1
    exact book hgo (.refl L.Wg w) hwg (by simp) (by simp) hs' rfl h6 (by have := hmode.same (i := i) m' dd; rwa [hst] at this) (.inr ⟨rfl, by omega⟩)
  cases hs with
  | r0 h =>
    rcases Goes.cases h with hstop | ⟨m', rfl, hstep⟩
    · obtain ⟨_, hhas, g', hgo, m₂, hk⟩ := hstop w (RW.refl w)
      refine workerStep2 hL hX hAr ha hss hcom hi hg hgo (.inl rfl) (fun h => absurd rfl h) (fun _ _ h => h) (.refl w) (fun _ _ _ => RX.refl w) (.lib (.k1 hk)) (fun _ _ op hop => by
          obtain ⟨e, he, rfl⟩ := Go.Conc.mem_ofEvents hop
          simp at he
          subst he
          exact ⟨rfl, fun x hx => by cases hx⟩) (by intro e he; simp at he; subst he; exact LowT.none rfl) (by intro e he; simp at he; subst he; simp [mk]) (by intro e he x hx; simp at he; subst he; cases hx) (by rw [hde]; rfl)
        (fun _ => ⟨t.size, RelBy.new hdk _ _, fun ix hix hx => ?_⟩) (fun _ => by simpa using hhas) hcom.pay hwg (fun _ ht _ => (hmode.counted hi (by omega) (.inl rfl) _ _).retag ht) (.inl ⟨by omega, by simp [cnt, hst]⟩)
      have hlt := lt_of_act? hx
      rw [show (MemOp.ofEvents (J + 1 + i) g.frame.fn g.frame.place #[mk (.releaseMerge (stA L.Wg))]) = #[{ g := J + 1 + i, fn := g.frame.fn, pos := g.frame.place, act := .mark (.releaseMerge (stA L.Wg)) }] by rw [ofEvents_eq]; simp [ofEvent_mk]] at hlt
      simp at hlt
      omega
    · obtain ⟨g', w', es, hgo, ⟨hac, hev⟩, hg'⟩ := hstep w (RW.refl w)
      simp only [Nat.add_sub_cancel] at hac
      have hno : ∀ {e : Event}, e ∈ es → ∀ x, (MemAct.ofEvent e).touch? = some x → ∃ a, x.loc = .cell a ∧ a.block = L.Wg ∧ x.kind ≠ .plain ∧ x.kind ≠ .said := fun {e} he x hx => by
        rcases ((hev e he).1 g.frame.fn g.frame.place).2 x hx with ⟨⟨a, h1, h2⟩, h3⟩ | h3 | h3
        · exact ⟨a, h1, h2, h3⟩
        · exact h3.elim
        · exact h3.1.elim
      refine workerStep2 hL hX hAr ha hss hcom hi hg hgo (.inl rfl) (fun h => absurd rfl h) (fun b _ => (half_of_cell hL hac b).1) (RQ.of_cell hL hac) (fun i' _ e => RX.of_cell hL hac e fun r hr => (hcom.own_ne hL hr).1) (.lib (.r0 hg')) (fun _ _ op hop => ?_) (fun e he => ?_) (fun e he => (hev e he).2.2.2) (fun e he x hx hs => ?_)
        (by rw [hde]; exact deafBehind_idle (fun e he => ⟨(hev e he).2.1, (hev e he).2.2.1⟩) 0) (fun h => by omega) (fun h => by omega) (hac.pay hcom.pay) (hwg.of_block (hac.block L.Wg (Ne.symm hL.hCW)))
        (fun _ ht _ => Mode.retag (by have := hmode.same (i := i) m' 0; rwa [hst] at this) ht) (.inr ⟨hst.symm, by omega⟩)
      · obtain ⟨e, he, rfl⟩ := Go.Conc.mem_ofEvents hop
        refine ⟨rfl, fun x hx => .inl ?_⟩
        obtain ⟨a, h1, h2, h3⟩ := hno he x hx
        exact ⟨⟨a, h1, by rw [h2]; exact hX.wg⟩, h3⟩
      · intro x hx
        obtain ⟨a, h1, h2, _⟩ := hno he x hx
        rw [h1]
        show a.block < _
        rw [h2, hac.size]
        exact hW
      · obtain ⟨a, h1, h2, h3⟩ := hno he x hx
        exact absurd ⟨a, h1, by rw [h2]; exact hX.wg⟩ hs
  | k1 h =>
    rcases Goes.cases h with hstop | ⟨m', rfl, hstep⟩
    · obtain ⟨_, g', hgo, m₂, hk⟩ := hstop w (RW.refl w)
      exact book hgo (.refl L.Wg w) hwg (by intro e he; simp at he; subst he; exact .inl rfl) (by intro jx e he; exact .inl (by have := Array.mem_of_getElem? he; simp at this; subst this; rfl)) (.d1 hk) rfl (by omega)
        (hmode.counted hi (by omega) (.inr rfl) _ _) (.inl ⟨by omega, by simp [cnt, hst]⟩)
    · obtain ⟨g', w', es, hgo, ⟨rfl, rfl⟩, hg'⟩ := hstep w (RW.refl w)
      exact idle hgo (.k1 hg') rfl (by omega) (by omega)
  | d1 h =>
    rcases Goes.cases h with hstop | ⟨m', rfl, hstep⟩
    · obtain ⟨_, hall⟩ := hstop w (RW.refl w)
      have hc1 : cnt (D i) = 1 := by simp [cnt, hst]
      have hV1 : 1 ≤ Vc j D := by have := le_sumTo (f := fun x => cnt (D x)) hi; simp only [Vc]; omega
      have bk2 : ∀ e ∈ #[rd (stA L.Wg), wr (stA L.Wg)], Bk L.Wg e := by intro e he; simp at he; rcases he with rfl | rfl <;> exact bk_cell _ _ rfl
      have df2 : ∀ jx e, (#[rd (stA L.Wg), wr (stA L.Wg)] : Array Event)[jx]? = some e → (MemAct.ofEvent e).touch? = none ∨ 0 < deafBehind 1 ((#[rd (stA L.Wg), wr (stA L.Wg)] : Array Event).extract 0 jx) := by
        intro jx e he
        match jx, he with
        | 0, _ => exact .inr (by simp [deafBehind])
        | 1, _ => exact .inr (by simp [deafBehind, rd])
        | jx + 2, he => simp at he
      have hq0 : ∀ q, cnt (⟨1, q, 1⟩ : WD) = 0 := fun _ => rfl
      have opq : ∀ q, OpenSt j D → OpenSt j (upd D i ⟨1, q, 1⟩) := fun q h a ha => by
        by_cases e : a = i
        · subst e; rw [upd_same]; simp
        · rw [upd_ne D _ e]; exact h a ha
      cases hmode with
      | opn h1 h2 h3 =>
        obtain ⟨v, hv⟩ : ∃ v, Vc j D + pend tag = v + 1 := ⟨Vc j D + pend tag - 1, by omega⟩
        rw [hv] at hwg
        have hw1 : WgAt L.ty L.Wg w (((v : Nat) + 1) * KK + ((0 : Nat) : Int)) 0 := by simpa using hwg
        obtain ⟨g', hgo, _, hq⟩ := hall v 0 (by omega) (by omega) hw1
        obtain ⟨q, hq⟩ := hq (by omega)
        have hv' : Vc j (upd D i ⟨1, q, 1⟩) + pend tag = v := by have := Vc_upd D (⟨1, q, 1⟩ : WD) hi; have := hq0 q; omega
        refine book hgo (aside_setCell w (stA L.Wg) _) (hwg.setSt _) bk2 df2 (.quit hq) rfl (by omega) ?_ (.inl ⟨by omega, by simp [cnt]⟩)
        have e : ((v : Nat) : Int) * KK + ((0 : Nat) : Int) = ((Vc j (upd D i ⟨1, q, 1⟩) + pend tag : Nat) : Int) * KK := by rw [hv']; simp
        rw [e]
        exact .opn h1 (opq q h2) (fun vs ev => by have := h3 vs ev; omega)
      | reg h1 h2 h3 =>
        obtain ⟨v, hv⟩ : ∃ v, Vc j D = v + 1 := ⟨Vc j D - 1, by omega⟩
        rw [hv] at hwg
        have hp : pend tag = 0 := by cases tag <;> first | rfl | exact h1.elim
        have hw1 : WgAt L.ty L.Wg w (((v : Nat) + 1) * KK + ((1 : Nat) : Int)) 0 := by simpa using hwg
        obtain ⟨g', hgo, hl, hq⟩ := hall v 1 (by omega) (by omega) hw1
        by_cases hv0 : v = 0
        · subst hv0
          obtain ⟨m₂, hk⟩ := hl ⟨rfl, rfl⟩
          refine book hgo (aside_setCell w (stA L.Wg) _) (hwg.setSt _) bk2 df2 (.d2 hk) rfl (by omega) ?_ (.inl ⟨by omega, by simp [cnt]⟩)
          have hoth : ∀ a, a < j → a ≠ i → (D a).stage = 1 := fun a ha e => by
            have c0 := others_uncounted hi hv hc1 a ha e
            have := h2 a ha
            simp only [cnt] at c0
            split at c0 <;> omega
          have := ConcN.Mode.last (j := j) (D := upd D i ⟨4, m₂, 1⟩) (tag := tag) i h1 hi (by rw [upd_same]; simp) (fun a ha e => by rw [upd_ne D _ e]; exact hoth a ha e)
          rw [upd_same] at this
          simpa using this
        · obtain ⟨q, hq⟩ := hq (by omega)
          have hv' : Vc j (upd D i ⟨1, q, 1⟩) = v := by have := Vc_upd D (⟨1, q, 1⟩ : WD) hi; have := hq0 q; omega
          refine book hgo (aside_setCell w (stA L.Wg) _) (hwg.setSt _) bk2 df2 (.quit hq) rfl (by omega) ?_ (.inl ⟨by omega, by simp [cnt]⟩)
          have e : ((v : Nat) : Int) * KK + ((1 : Nat) : Int) = ((Vc j (upd D i ⟨1, q, 1⟩) : Nat) : Int) * KK + 1 := by rw [hv']; simp
          rw [e]
          exact .reg h1 (opq q h2) (by omega)
      | last L _ h2 h3 h4 =>
        by_cases e : i = L
        · subst e; omega
        · have := h4 i hi e; omega
      | sema h2 => have := h2 i hi; omega
      | fin _ h2 => have := h2 i hi; omega
    · obtain ⟨g', w', es, hgo, ⟨rfl, rfl⟩, hg'⟩ := hstep w (RW.refl w)
      exact idle hgo (.d1 hg') rfl (by omega) (by omega)
  | d2 h =>
    rcases Goes.cases h with hstop | ⟨m', rfl, hstep⟩
    · obtain ⟨_, hx⟩ := hstop w (RW.refl w)
      obtain ⟨hW3, hoth, rfl, rfl⟩ := hmode.isLast hi (by omega)
      simp only [hst] at hwg
      obtain ⟨g', hgo, m₂, hk⟩ := hx (by simpa using hwg)
      refine book hgo (.refl L.Wg w) hwg (by intro e he; simp at he; subst he; exact bk_cell _ _ rfl) (by intro jx e he; match jx, he with | 0, _ => exact .inr (by simp [deafBehind]) | jx + 1, he => simp at he) (.d3 hk) rfl (by omega) ?_ (.inl ⟨by omega, by simp [cnt]⟩)
      have := ConcN.Mode.last (j := j) (D := upd D i ⟨3, m₂, 1⟩) (tag := tag) i hW3 hi (by rw [upd_same]; simp) (fun a ha e => by rw [upd_ne D _ e]; exact hoth a ha e)
      rw [upd_same] at this
      simpa using this
    · obtain ⟨g', w', es, hgo, ⟨rfl, rfl⟩, hg'⟩ := hstep w (RW.refl w)
      exact idle hgo (.d2 hg') rfl (by omega) (by omega)
  | d3 h =>
    rcases Goes.cases h with hstop | ⟨m', rfl, hstep⟩
    · obtain ⟨_, hx⟩ := hstop w (RW.refl w)
      obtain ⟨hW3, hoth, rfl, rfl⟩ := hmode.isLast hi (by omega)
      simp only [hst] at hwg
      obtain ⟨g', hgo, m₂, hk⟩ := hx (by simpa using hwg)
      refine book hgo (aside_setCell w (stA L.Wg) _) (hwg.setSt 0) (by intro e he; simp at he; subst he; exact bk_cell _ _ rfl) (by intro jx e he; match jx, he with | 0, _ => exact .inr (by simp [deafBehind]) | jx + 1, he => simp at he) (.d4 hk) rfl (by omega) ?_ (.inl ⟨by omega, by simp [cnt]⟩)
      have := ConcN.Mode.last (j := j) (D := upd D i ⟨2, m₂, 1⟩) (tag := tag) i hW3 hi (by rw [upd_same]; simp) (fun a ha e => by rw [upd_ne D _ e]; exact hoth a ha e)
      rw [upd_same] at this
      simpa using this
    · obtain ⟨g', w', es, hgo, ⟨rfl, rfl⟩, hg'⟩ := hstep w (RW.refl w)
      exact idle hgo (.d3 hg') rfl (by omega) (by omega)
  | d4 h =>
    rcases Goes.cases h with hstop | ⟨m', rfl, hstep⟩
    · obtain ⟨_, hmw, hx⟩ := hstop w (RW.refl w)
      obtain ⟨hW3, hoth, rfl, rfl⟩ := hmode.isLast hi (by omega)
      simp only [hst] at hwg
      obtain ⟨g', hgo, q, hq⟩ := hx (by simpa using hwg)
      have hrun' : g'.status = .running := by
        cases q with
        | zero => exact absurd hq.2 (by decide)
        | succ q => exact hq.elim (fun x => absurd x.2 (by decide)) (fun x => x.1)
      refine bookG hgo (aside_setCell w (smA L.Wg) _) (hwg.setSm 1) (es := semEvents (smA L.Wg)) ?_ ?_ (.quit hq) (by simp [deafBehind, semEvents]) (by omega) ?_ (.inl ⟨by omega, by simp [cnt]⟩)
      · intro e he
        simp [semEvents] at he
        rcases he with rfl | rfl | rfl | rfl
        · exact .inl rfl
        · exact bk_cell _ _ rfl
        · exact bk_cell _ _ rfl
        · exact .inr (.inl rfl)
      · intro jx e he
        match jx, he with
        | 0, he => simp [semEvents] at he; subst he; exact .inl rfl
        | 1, _ => exact .inr (by simp [deafBehind, semEvents])
        | 2, _ => exact .inr (by simp [deafBehind, semEvents])
        | 3, he => simp [semEvents] at he; subst he; exact .inl rfl
        | jx + 4, he => simp [semEvents] at he
      · intro tag' ht hw
        have hnb := hw hmw hrun'
        have e3 : tag' = .w3 := by
          rcases ht with rfl | ⟨_, rfl⟩
          · cases tag' <;> first | rfl | exact hW3.elim | exact absurd rfl hnb
          · rfl
        subst e3
        simp only [if_true]
        exact .sema fun a ha => by
          by_cases e : a = i
          · subst e; rw [upd_same]
          · rw [upd_ne D _ e]; exact hoth a ha e
    · obtain ⟨g', w', es, hgo, ⟨rfl, rfl⟩, hg'⟩ := hstep w (RW.refl w)
      exact idle hgo (.d4 hg') rfl (by omega) (by omega)
  | quit h =>
    cases m with
    | zero => rw [h.1] at hrun; cases hrun
    | succ qn =>
      rcases h with ⟨hf, _⟩ | ⟨_, g', es, hmute, hstep, hq⟩
      · rw [hf] at hrun; cases hrun
      · have hbk : ∀ e ∈ es, Bk L.Wg e := fun e he => bk_of_mute (hmute e he)
        have hno : ∀ jx e, es[jx]? = some e → (MemAct.ofEvent e).touch? = none ∨ 0 < deafBehind dd (es.extract 0 jx) := fun jx e he => .inl (by
          rcases bk_of_mute (Wg := L.Wg) (hmute e (Array.mem_of_getElem? he)) with h1 | h1 | ⟨a, wr, rfl, _⟩
          · rw [ofEvent_loc_mark h1]; rfl
          · rw [ofEvent_loc_mark h1]; rfl
          · have := hmute _ (Array.mem_of_getElem? he); simp [Event.mute] at this)
        exact book (hstep w) (.refl L.Wg w) hwg hbk hno (.quit hq) rfl (by omega) (by have := hmode.same (i := i) qn (deafBehind dd es); rwa [hst] at this) (.inr ⟨rfl, Nat.le_refl _⟩)
/-- WORKER NUMBER i's STEP. -/
theorem stepWorker2 (hL : L.Ok) (hX : XOk L X) (hAr : ∀ g w, AnchW g w → g.status = .running) (hn : L.n < 2147483648)
    (ha : gs[0]? = some a) (hss : SS P L X M K val vals Anch AnchW tag j f0 d0 Lw a w) (hcom : Com2 P L X J M K val j gs w t D H Lo R d0 Lw q) (hwg : WgAt L.ty L.Wg w st sm) (hmode : ConcN.Mode j D tag st sm)
    {i : Nat} (hi : i < j) {g : Goroutine} (hg : gs[J + 1 + i]? = some g) (hrun : g.status = .running) :
    Moves P L X J M K val vals Anch AnchW gs w sl t (J + 1 + i) (phi L.n (Vc j D) tag + Ssum j D, f0 + 2 * Fsum j D + 2 * sumTo (J + 1) q) := by
  obtain ⟨g₁, hg₁, hs⟩ := hcom.wk i hi
  obtain rfl : g = g₁ := by rw [hg] at hg₁; exact Option.some.inj hg₁
  generalize hst : (D i).stage = s at hs
  generalize hfu : (D i).fuel = m at hs
  generalize hde : (D i).deaf = dd at hs
  generalize hHi : H i = bb at hs
  have hW := hcom.wgLive hL
  have hC : L.C < w.heap.size := Nat.lt_of_lt_of_le hL.hC hcom.n0
  have idle : ∀ {g' : Goroutine} {w' : World} {es : Array Event} {m' : Nat}, (D i).stage = 7 → (D i).deaf = 0 → stepG P false g w = .go g' w' es → DX L (R i) (H i) i w w' es → WS P L M K (Lo i) (R i) i (val i) (H i) 7 m' 0 g' w' → m' + 1 ≤ (D i).fuel →
      Moves P L X J M K val vals Anch AnchW gs w sl t (J + 1 + i) (phi L.n (Vc j D) tag + Ssum j D, f0 + 2 * Fsum j D + 2 * sumTo (J + 1) q) := by
    intro g' w' es m' hst hde hgo hD hs' hm
    have hbh : ∀ r, H i = some r → Half L w r := fun r hr => (hcom.hf i r hr).2.1
    have eup : upd H i (H i) = H := by
      funext x
      by_cases hx : x = i
      · rw [hx, upd_same]
      · rw [upd_ne H _ hx]
    refine workerStep2 hL hX hAr ha hss hcom hi hg hgo (.inl rfl) (fun h => absurd rfl h) (fun b _ => hD.half' b) (RQ.of_DX hL hD hbh) (fun i' hi' e => RX.of_DX hL hD hbh e fun r hr => ⟨fun x => e (hcom.hinj _ _ _ hr x), (hcom.own_ne hL hr).1⟩) hs'
      (fun H2 e2 => okW_EvX (by rw [e2, eup]) hD.evs) (EvX.low hD.evs) (EvX.norel hD.evs) (EvX.pl hD.evs) (by rw [hde]; exact deafBehind_idle (EvX.still hD.evs) 0) (fun h => by omega) (fun h => by omega) (hD.pay hcom.pay)
      (hwg.of_block (hD.block L.Wg (Ne.symm hL.hCW) fun x => (hcom.own_ne hL x).2 rfl)) (fun _ ht _ => Mode.retag (by have := hmode.same (i := i) m' 0; rwa [hst] at this) ht) (.inr ⟨hst.symm, hm⟩)
  cases hs with
  | pre h =>
    rcases Goes.cases h with hstop | ⟨m', rfl, hstep⟩
    · obtain ⟨_, g', cs, hgo, hk⟩ := hstop w (RX.refl w)
      refine workerStep2 hL hX hAr ha hss hcom hi hg hgo (H' := some w.heap.size) (.inr ⟨hHi, rfl, half_alloc w cs hcom.n0⟩) (fun _ => by rw [World.size_alloc]; omega) (fun b hb hh => ⟨hh.1, hh.2.imp fun cs x => by rwa [Below.heap_alloc _ _ _ hb] at x⟩)
        (RQ.of_alloc w _ hW hC) (fun i' hi' e => RX.of_alloc w _ hW hC fun r hr => (hcom.hf i' r hr).2.2) (.post hk)
        (fun _ _ op hop => by simp [MemOp.ofEvents] at hop) (by simp) (by simp) (by simp) (by rw [hde]; rfl) (fun h => by omega) (fun h => by omega) (let ⟨cs, h1, h2⟩ := hcom.pay; ⟨cs, (Below.heap_alloc _ _ _ hC).trans h1, h2⟩) (hwg.of_block (Below.heap_alloc _ _ _ hW)) (fun _ ht _ => Mode.retag (by have := hmode.same (i := i) (M + 1 + K) 0; rwa [hst] at this) ht) (.inr ⟨hst.symm, by omega⟩)
    · obtain ⟨g', w', es, hgo, hD, hg'⟩ := hstep w (RX.refl w)
      rw [← hHi] at hD hg'
      exact idle hst hde hgo hD (by rw [hHi] at hg' ⊢; exact .pre hg') (by omega)
  | post h =>
    rename_i b m0
    rcases Goes.cases h with hstop | ⟨m', rfl, hstep⟩
    · exact libStep2 hL hX hAr hn ha hss hcom hwg hmode hi hg hrun hst (m := K) (by omega) hde (.r0 (by simpa [AtEnd1] using hstop w (RX.refl w)))
    · obtain ⟨g', w', es, hgo, hD, hg'⟩ := hstep w (RX.refl w)
      rw [← hHi] at hD hg'
      exact idle hst hde hgo hD (by rw [hHi] at hg' ⊢; exact .post hg') (by omega)
  | lib h => exact libStep2 hL hX hAr hn ha hss hcom hwg hmode hi hg hrun hst (m := m) (by omega) hde h
end
end Go.Proofs.Ytoipkpndfgcmcaa.Crew
