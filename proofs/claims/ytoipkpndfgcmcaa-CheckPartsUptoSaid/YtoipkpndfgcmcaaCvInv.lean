/-
  n workers at once and their starter beside older ones that only leave: the invariant with its measure; whatever step of a worker's, of an older one's, of the starter's keeps it. The conditions stand in each theorem. No program in sight.
-/
import Derived.Test.YtoipkpndfgcmcaaCvCom
namespace Go.Proofs.Ytoipkpndfgcmcaa.Crew
open Go Go.Conc Go.ConcN Go.RowKit Go.Proofs.Ytoipkpndfgcmcaa.Veils
open Go.ConcR (KK wgBlock WgAt stA smA rd wr mk Payload DC0 Bk g_of_ofEvents bk_of_mute ofEvent_loc_mark ofEvent_cell deafBehind_cons deafBehind_one ofEvent_mk)
set_option linter.unusedVariables false
set_option linter.unusedSectionVars false
variable [Payload]

section
variable {L : Lay} {w w₁ : World} {Low i : Nat} {b : Option Nat}
theorem half_of_cell (hL : L.Ok) (h : AsideCell L.C L.n i w w₁) (r : Nat) : Half L w₁ r ↔ Half L w r := by
  constructor
  · rintro ⟨h1, cs, h2⟩
    exact ⟨h1, cs, by rw [← h.block r (by have := hL.hC; omega)]; exact h2⟩
  · rintro ⟨h1, cs, h2⟩
    exact ⟨h1, cs, by rw [h.block r (by have := hL.hC; omega)]; exact h2⟩
theorem RQ.of_cell (hL : L.Ok) (h : AsideCell L.C L.n i w w₁) : RQ L w w₁ :=
  ⟨h.tape, h.os, h.output, Nat.le_of_eq h.size.symm, fun r _ hC _ _ => h.block r hC, fun r => (half_of_cell hL h r).2, fun ⟨st, sm, hl⟩ => ⟨st, sm, hl.of_block (h.block L.Wg (Ne.symm hL.hCW))⟩, h.pay⟩
theorem RX.of_cell (hL : L.Ok) (h : AsideCell L.C L.n i w w₁) {i' : Nat} (hne : i' ≠ i) (hb : ∀ r, b = some r → r ≠ L.C) : RX L Low b i' w w₁ :=
  ⟨Nat.le_of_eq h.size.symm, fun r _ _ hC _ _ => h.block r hC, fun r => (half_of_cell hL h r).2, fun r e => h.block r (hb r e), fun ⟨st, sm, hl⟩ => ⟨st, sm, hl.of_block (h.block L.Wg (Ne.symm hL.hCW))⟩, h.pay, h.cells i' hne⟩
end
section
variable (P : Program) (L : Lay) (X : Nat → Prop) (J M K : Nat) (val : Nat → Value) (vals : List Value) (Anch AnchW : Goroutine → World → Prop)
def Inv2 (μ : Nat × Nat) (m : Machine) (t : Trace) : Prop :=
  ∃ (gs : Array Goroutine) (w : World) (sl : Option (Nat × Nat)) (j : Nat) (D : Nat → WD) (H : Nat → Option Nat) (Lo : Nat → Nat) (R : Nat → Nat → Prop) (q : Nat → Nat) (tag : CTag) (f0 d0 Lw : Nat) (a : Goroutine) (st sm : Int),
    m = crowd gs w sl ∧ gs[0]? = some a ∧ SS P L X M K val vals Anch AnchW tag j f0 d0 Lw a w ∧ Com2 P L X J M K val j gs w t D H Lo R d0 Lw q ∧ WgAt L.ty L.Wg w st sm ∧ ConcN.Mode j D tag st sm ∧
    μ = (phi L.n (Vc j D) tag + Ssum j D, f0 + 2 * Fsum j D + 2 * sumTo (J + 1) q)
/-- One step of goroutine k, behind which the invariant stands with a lesser measure. -/
def Moves (gs : Array Goroutine) (w : World) (sl : Option (Nat × Nat)) (t : Trace) (k : Nat) (μ : Nat × Nat) : Prop :=
  ∃ m₁ ops μ', runT P (crowd gs w sl) k = (.next m₁, ops) ∧ Lt2 μ' μ ∧ Inv2 P L X J M K val vals Anch AnchW μ' m₁ (t ++ ops)
end
section
variable {P : Program} {L : Lay} {X : Nat → Prop} {J M K : Nat} {val : Nat → Value} {vals : List Value} {Anch AnchW : Goroutine → World → Prop} {j : Nat} {gs : Array Goroutine} {w w' : World} {sl : Option (Nat × Nat)} {t : Trace} {D : Nat → WD} {H : Nat → Option Nat} {Lo : Nat → Nat} {R : Nat → Nat → Prop} {d0 Lw : Nat} {q : Nat → Nat} {tag tag' : CTag} {f0 f' : Nat} {a a' : Goroutine} {st sm st' sm' : Int} {es : Array Event}
theorem SS.bound (h : SS P L X M K val vals Anch AnchW tag j f0 d0 Lw a w) : j + pend tag ≤ L.n := by
  cases h <;> simp only [pend] <;> (try simp) <;> omega
theorem Com2.wgLive (h : Com2 P L X J M K val j gs w t D H Lo R d0 Lw q) (hL : L.Ok) : L.Wg < w.heap.size := Nat.lt_of_lt_of_le hL.hW h.n0
theorem Com2.own_ne (h : Com2 P L X J M K val j gs w t D H Lo R d0 Lw q) (hL : L.Ok) {i r : Nat} (e : H i = some r) : r ≠ L.C ∧ r ≠ L.Wg :=
  ⟨fun x => hL.nC (w := w) (x ▸ (h.hf i r e).2.1), fun x => hL.nW (w := w) (x ▸ (h.hf i r e).2.1)⟩
/-- WHATEVER STEP OF WORKER NUMBER i. -/
theorem workerStep2 (hL : L.Ok) (hX : XOk L X) (hAr : ∀ g w, AnchW g w → g.status = .running)
    (ha : gs[0]? = some a) (hss : SS P L X M K val vals Anch AnchW tag j f0 d0 Lw a w) (hcom : Com2 P L X J M K val j gs w t D H Lo R d0 Lw q)
    {i : Nat} (hi : i < j) {g g' : Goroutine} {s' m' dd' : Nat} {H' : Option Nat} (hg : gs[J + 1 + i]? = some g) (hgo : stepG P false g w = .go g' w' es)
    (hH : H' = H i ∨ (H i = none ∧ H' = some w.heap.size ∧ Half L w' w.heap.size))
    (hHsz : H' ≠ H i → w.heap.size < w'.heap.size) (hback : ∀ b, b < w.heap.size → Half L w' b → Half L w b)
    (hA2 : RQ L w w') (hrx : ∀ i', i' < j → i' ≠ i → RX L (Lo i') (H i') i' w w')
    (hs' : WS P L M K (Lo i) (R i) i (val i) H' s' m' dd' g' w')
    (hok : ∀ H2, H2 = upd H i H' → ∀ op ∈ MemOp.ofEvents (J + 1 + i) g.frame.fn g.frame.place es, OkW (ShX X) (OwnF L J H2) (RdF J R) (J + 1 + i) op) (hlow : ∀ e ∈ es, LowT w'.heap.size (MemAct.ofEvent e)) (hnr : ∀ e ∈ es, e.loc ≠ .mark (.release (stA L.Wg)))
    (hpl : ∀ e ∈ es, ∀ x, (MemAct.ofEvent e).touch? = some x → ¬ ShX X x.loc → x.loc.isMemory = true ∧ x.kind ≠ .atomic)
    (hdeaf : deafBehind (D i).deaf es = dd')
    (hrel : s' ≤ 6 → ∃ r, RelN (stA L.Wg) (t ++ MemOp.ofEvents (J + 1 + i) g.frame.fn g.frame.place es) (J + 1 + i) r)
    (hhas : s' ≤ 6 → Has L.C i (val i) w') (hpay : PayAt L.C L.n w') (hwg : WgAt L.ty L.Wg w' st' sm')
    (hmode : ∀ tag', (tag' = tag ∨ (tag = .blk ∧ tag' = .w3)) → (mayWake P g = true → g'.status = .running → tag' ≠ .blk) → ConcN.Mode j (upd D i ⟨s', m', dd'⟩) tag' st' sm')
    (hlt : (s' < (D i).stage ∧ cnt ⟨s', m', dd'⟩ ≤ cnt (D i)) ∨ (s' = (D i).stage ∧ m' + 1 ≤ (D i).fuel)) :
    Moves P L X J M K val vals Anch AnchW gs w sl t (J + 1 + i) (phi L.n (Vc j D) tag + Ssum j D, f0 + 2 * Fsum j D + 2 * sumTo (J + 1) q) := by
  obtain ⟨tag', f', hss', hf', htag, hwk⟩ := hss.wokenBy hAr hA2 g g'
  have hrun := runT_crowd_go (P := P) (sl := sl) (i := J + 1 + i) hg (by rw [show (J + 1 + i == 0) = false by simp]; exact hgo)
  have e1 := sumTo_upd D (⟨s', m', dd'⟩ : WD) cnt hi
  have e2 := sumTo_upd D (⟨s', m', dd'⟩ : WD) WD.stage hi
  have e3 := sumTo_upd D (⟨s', m', dd'⟩ : WD) WD.fuel hi
  refine ⟨_, _, (phi L.n (Vc j (upd D i ⟨s', m', dd'⟩)) tag' + Ssum j (upd D i ⟨s', m', dd'⟩), f' + 2 * Fsum j (upd D i ⟨s', m', dd'⟩) + 2 * sumTo (J + 1) q), hrun, ?_,
    _, w', sl, j, upd D i ⟨s', m', dd'⟩, upd H i H', Lo, R, q, tag', f', d0, Lw, woken P g g' w' a, st', sm', rfl, by rw [get_map_set _ _ _ _ (by omega), ha]; rfl, hss', hcom.stepW hL hX hi hH hA2.size hHsz hA2.half hback hrx hs' hok hlow hnr hpl hdeaf hrel hhas hpay, hwg, hmode tag' htag hwk, rfl⟩
  rw [phi_retag L.n _ htag]
  simp only [Vc, Ssum, Fsum] at *
  rcases hlt with ⟨h1, h2⟩ | ⟨h1, h2⟩
  · refine Prod.Lex.left _ _ ?_
    have := phi_mono L.n (v' := sumTo j fun a => cnt (upd D i ⟨s', m', dd'⟩ a)) (v := sumTo j fun a => cnt (D a)) (by omega) tag
    omega
  · have ec : cnt (⟨s', m', dd'⟩ : WD) = cnt (D i) := by simp only [cnt, h1]
    have ev : (sumTo j fun a => cnt (upd D i ⟨s', m', dd'⟩ a)) = sumTo j fun a => cnt (D a) := by omega
    have es' : (sumTo j fun a => (upd D i ⟨s', m', dd'⟩ a).stage) = sumTo j fun a => (D a).stage := by omega
    rw [ev, es']
    refine Prod.Lex.right _ ?_
    omega
/-- AN OLDER ONE's STEP. -/
theorem oldStep2 (hL : L.Ok) (hX : XOk L X) (hAr : ∀ g w, AnchW g w → g.status = .running)
    (ha : gs[0]? = some a) (hss : SS P L X M K val vals Anch AnchW tag j f0 d0 Lw a w) (hcom : Com2 P L X J M K val j gs w t D H Lo R d0 Lw q) (hwg : WgAt L.ty L.Wg w st sm) (hmode : ConcN.Mode j D tag st sm)
    {k : Nat} (h1 : 1 ≤ k) (hJ : k ≤ J) {g : Goroutine} (hg : gs[k]? = some g) (hrun : g.status = .running) :
    Moves P L X J M K val vals Anch AnchW gs w sl t k (phi L.n (Vc j D) tag + Ssum j D, f0 + 2 * Fsum j D + 2 * sumTo (J + 1) q) := by
  have hq := hcom.old k g h1 hJ hg
  cases hqk : q k with
  | zero =>
    rw [hqk] at hq
    have := hq.1
    rw [hrun] at this
    cases this
  | succ n =>
    rw [hqk] at hq
    rcases hq with ⟨hf, _⟩ | ⟨_, g', es, hm, hst, hq'⟩
    · rw [hrun] at hf; cases hf
    obtain ⟨tag', f', hss', hf', htag, hwk⟩ := hss.wokenBy hAr (RQ.refl w) g g'
    have hrun' := runT_crowd_go (P := P) (sl := sl) (i := k) hg (by rw [show (k == 0) = false by simp; omega]; exact hst w)
    have e3 := sumTo_upd q n id (i := k) (j := J + 1) (by omega)
    have e3 : sumTo (J + 1) (upd q k n) + (n + 1) = sumTo (J + 1) q + n := by simpa [hqk] using e3
    refine ⟨_, _, (phi L.n (Vc j D) tag' + Ssum j D, f' + 2 * Fsum j D + 2 * sumTo (J + 1) (upd q k n)), hrun', ?_,
      _, w, sl, j, D, H, Lo, R, upd q k n, tag', f', d0, Lw, woken P g g' w a, st, sm, rfl, by rw [get_map_set _ _ _ _ (by omega), ha]; rfl, hss', hcom.stepOld hL hX h1 hJ hm hq', hwg, hmode.retag htag, rfl⟩
    rw [phi_retag L.n _ htag]
    refine Prod.Lex.right _ ?_
    omega
/-- WHATEVER STEP OF THE STARTER's THAT IS NO go STATEMENT. -/
theorem callerStep2 (hL : L.Ok) (hX : XOk L X) (ha : gs[0]? = some a) (hcom : Com2 P L X J M K val j gs w t D H Lo R d0 Lw q) (hgo : stepG P true a w = .go a' w' es)
    (hsz : w.heap.size ≤ w'.heap.size) (hhalf : ∀ b, Half L w b → Half L w' b) (hback : ∀ b, b < w.heap.size → Half L w' b → Half L w b)
    (hrx : ∀ i, i < j → RX L (Lo i) (H i) i w w')
    (hok : ∀ op ∈ MemOp.ofEvents 0 a.frame.fn a.frame.place es, Ok0 (ShX X) (OwnF L J H) (RdF J R) (J + j) op) (hlow : ∀ e ∈ es, LowT w'.heap.size (MemAct.ofEvent e)) (hnr : ∀ e ∈ es, e.loc ≠ .mark (.release (stA L.Wg))) (hpay : PayAt L.C L.n w')
    (hss' : SS P L X M K val vals Anch AnchW tag' j f' (deafBehind d0 es) Lw a' w') (hwg : WgAt L.ty L.Wg w' st' sm') (hmode : ConcN.Mode j D tag' st' sm')
    (hlt : phi L.n (Vc j D) tag' < phi L.n (Vc j D) tag ∨ (phi L.n (Vc j D) tag' = phi L.n (Vc j D) tag ∧ f' < f0)) :
    Moves P L X J M K val vals Anch AnchW gs w sl t 0 (phi L.n (Vc j D) tag + Ssum j D, f0 + 2 * Fsum j D + 2 * sumTo (J + 1) q) := by
  have hrun := runT_crowd_go (P := P) (sl := sl) (i := 0) ha (by simpa using hgo)
  refine ⟨_, _, (phi L.n (Vc j D) tag' + Ssum j D, f' + 2 * Fsum j D + 2 * sumTo (J + 1) q), hrun, ?_,
    _, w', sl, j, D, H, Lo, R, q, tag', f', deafBehind d0 es, Lw, a', st', sm', rfl, get_map_set_same _ _ _ (by rw [hcom.size]; omega), hss', hcom.step0 hL hX hsz hhalf hback hrx hok hlow hnr hpay, hwg, hmode, rfl⟩
  rcases hlt with h | ⟨h1, h2⟩
  · exact Prod.Lex.left _ _ (by omega)
  · rw [h1]; exact Prod.Lex.right _ (by omega)
/-! which entries of a step's list are admitted -/
theorem low_Bk (hb : L.Wg < w'.heap.size) (h : ∀ e ∈ es, Bk L.Wg e) : ∀ e ∈ es, LowT w'.heap.size (MemAct.ofEvent e) := fun e he => LowT.of (by
  rcases h e he with h1 | h1 | ⟨a, wr, rfl, ha⟩
  · rw [ofEvent_loc_mark h1]; trivial
  · rw [ofEvent_loc_mark h1]; trivial
  · rw [ofEvent_cell]; show a.block < _; rw [ha]; exact hb)
theorem pl_Bk (hX : XOk L X) (h : ∀ e ∈ es, Bk L.Wg e) : ∀ e ∈ es, ∀ x, (MemAct.ofEvent e).touch? = some x → ¬ ShX X x.loc → x.loc.isMemory = true ∧ x.kind ≠ .atomic := fun e he x hx hs => by
  rcases h e he with h1 | h1 | ⟨a, wr, rfl, ha⟩
  · rw [ofEvent_loc_mark h1] at hx; cases hx
  · rw [ofEvent_loc_mark h1] at hx; cases hx
  · rw [ofEvent_cell] at hx
    simp only [MemAct.touch?, Option.some.injEq] at hx
    subst hx
    exact absurd ⟨a, rfl, by rw [ha]; exact hX.wg⟩ hs
theorem okW_Bk (hX : XOk L X) {Own Rd : Nat → Loc → Prop} {k : Nat} {fn : FuncId} {pos : String} (h : ∀ e ∈ es, Bk L.Wg e) : ∀ op ∈ MemOp.ofEvents k fn pos es, OkW (ShX X) Own Rd k op := fun op hop =>
  ⟨(okW_of_Bk (Own := Own) (Rd := Rd) h op hop).1, fun x hx => ((okW_of_Bk (Own := Own) (Rd := Rd) h op hop).2 x hx).imp (fun ⟨⟨a, h1, h2⟩, h3⟩ => ⟨⟨a, h1, by rw [h2]; exact hX.wg⟩, h3⟩) id⟩
theorem ok0_Bk (hX : XOk L X) {Own Rd : Nat → Loc → Prop} {n : Nat} {fn : FuncId} {pos : String} (h : ∀ e ∈ es, Bk L.Wg e) : ∀ op ∈ MemOp.ofEvents 0 fn pos es, Ok0 (ShX X) Own Rd n op := fun op hop => by
  obtain ⟨e, he, rfl⟩ := Go.Conc.mem_ofEvents hop
  refine ⟨rfl, fun x hx => ?_⟩
  rcases h e he with h1 | h1 | ⟨a, wr, rfl, ha⟩
  · simp only [ofEvent_loc_mark h1] at hx; cases hx
  · simp only [ofEvent_loc_mark h1] at hx; cases hx
  · simp only [ofEvent_cell, MemAct.touch?, Option.some.injEq] at hx
    subst hx
    exact .inl ⟨⟨a, rfl, by rw [ha]; exact hX.wg⟩, by simp⟩
/-- A worker's own idle step. -/
theorem okW_EvX {i : Nat} {b : Option Nat} {H2 : Nat → Option Nat} (hH : H2 i = b) {fn : FuncId} {pos : String} (h : ∀ e ∈ es, EvX L (R i) b i w' e) : ∀ op ∈ MemOp.ofEvents (J + 1 + i) fn pos es, OkW (ShX X) (OwnF L J H2) (RdF J R) (J + 1 + i) op := fun op hop => by
  obtain ⟨e, he, rfl⟩ := Go.Conc.mem_ofEvents hop
  refine ⟨rfl, fun x hx => ?_⟩
  rcases h e he with ⟨a, wr', rfl, hlt, h1⟩ | h1
  · simp only [ofEvent_cell, MemAct.touch?, Option.some.injEq] at hx
    subst hx
    rcases h1 with ⟨h1, rfl⟩ | rfl | h1
    · exact .inr (.inr ⟨⟨i, rfl, a, rfl, h1⟩, rfl⟩)
    · exact .inr (.inl ⟨i, rfl, .inl rfl⟩)
    · exact .inr (.inl ⟨i, rfl, .inr ⟨a, rfl, by rw [hH]; exact h1⟩⟩)
  · simp only [ofEvent_loc_mark h1] at hx; cases hx
theorem EvX.low {Rd : Nat → Prop} {i : Nat} {b : Option Nat} (h : ∀ e ∈ es, EvX L Rd b i w' e) : ∀ e ∈ es, LowT w'.heap.size (MemAct.ofEvent e) := fun e he => LowT.of (by
  rcases h e he with ⟨a, wr', rfl, hlt, h1⟩ | h1
  · rw [ofEvent_cell]; exact hlt
  · rw [ofEvent_loc_mark h1]; trivial)
theorem EvX.pl {Rd : Nat → Prop} {i : Nat} {b : Option Nat} (h : ∀ e ∈ es, EvX L Rd b i w' e) : ∀ e ∈ es, ∀ x, (MemAct.ofEvent e).touch? = some x → ¬ ShX X x.loc → x.loc.isMemory = true ∧ x.kind ≠ .atomic := fun e he x hx hs => by
  rcases h e he with ⟨a, wr', rfl, hlt, h1⟩ | h1
  · rw [ofEvent_cell] at hx
    simp only [MemAct.touch?, Option.some.injEq] at hx
    subst hx
    exact ⟨rfl, by simp⟩
  · rw [ofEvent_loc_mark h1] at hx; cases hx
theorem EvX.still {Rd : Nat → Prop} {i : Nat} {b : Option Nat} (h : ∀ e ∈ es, EvX L Rd b i w' e) : ∀ e ∈ es, e.loc ≠ .mark .disable ∧ e.loc ≠ .mark .enable := fun e he => by
  rcases h e he with ⟨a, wr', rfl, hlt, h1⟩ | h1
  · simp
  · rw [h1]; simp
theorem EvX.norel {Rd : Nat → Prop} {i : Nat} {b : Option Nat} (h : ∀ e ∈ es, EvX L Rd b i w' e) : ∀ e ∈ es, e.loc ≠ .mark (.release (stA L.Wg)) := fun e he => by
  rcases h e he with ⟨a, wr', rfl, hlt, h1⟩ | h1
  · simp
  · rw [h1]; simp
/-- The starter's own idle step. -/
theorem ok0_EvQ (hX : XOk L X) (hcom : Com2 P L X J M K val j gs w t D H Lo R d0 Lw q) {fn : FuncId} {pos : String} (h : ∀ e ∈ es, EvQ L X Lw w w' e) : ∀ op ∈ MemOp.ofEvents 0 fn pos es, Ok0 (ShX X) (OwnF L J H) (RdF J R) (J + j) op := fun op hop => by
  obtain ⟨e, he, rfl⟩ := Go.Conc.mem_ofEvents hop
  refine ⟨rfl, fun x hx => ?_⟩
  rcases h e he with ⟨a, wr', rfl, h1, h2, h3, h4, h5⟩ | h1 | ⟨a, h1, ha⟩
  · simp only [ofEvent_cell, MemAct.touch?, Option.some.injEq] at hx
    subst hx
    refine .inr ⟨fun ⟨a', e, hs⟩ => ?_, fun k k1 kj ho => ?_, fun hw k k1 kj hr => ?_⟩
    · cases e; exact h1 hs
    · obtain ⟨i, rfl, ho⟩ := ho
      rcases ho with e | ⟨a', e, ho⟩
      · cases e; exact h2 rfl
      · cases e; exact h3 (hcom.hf _ _ ho).2.1
    · obtain ⟨i, rfl, a', e, hr⟩ := hr
      cases e
      have := h5 hw
      obtain ⟨r1, r2, _⟩ := hcom.rd _ _ hr
      have := (hcom.lo _ r1).2
      omega
  · simp only [ofEvent_loc_mark h1] at hx; cases hx
  · rcases h1 with rfl | rfl <;> (simp only [MemAct.ofEvent, MemAct.touch?, Option.some.injEq] at hx; subst hx; exact .inl ⟨⟨a, rfl, by rw [ha]; exact hX.wg⟩, by simp⟩)
theorem EvQ.low (hb : L.Wg < w'.heap.size) (h : ∀ e ∈ es, EvQ L X Lw w w' e) : ∀ e ∈ es, LowT w'.heap.size (MemAct.ofEvent e) := fun e he => LowT.of (by
  rcases h e he with ⟨a, wr', rfl, h1, h2, h3, h4, h5⟩ | h1 | ⟨a, h1, ha⟩
  · rw [ofEvent_cell]; exact h4
  · rw [ofEvent_loc_mark h1]; trivial
  · rcases h1 with rfl | rfl <;> (show a.block < _; rw [ha]; exact hb))
theorem EvQ.still (h : ∀ e ∈ es, EvQ L X Lw w w' e) : ∀ e ∈ es, e.loc ≠ .mark .disable ∧ e.loc ≠ .mark .enable := fun e he => by
  rcases h e he with ⟨a, wr', rfl, h1, h2, h3, h4, h5⟩ | h1 | ⟨a, h1, ha⟩
  · simp
  · rw [h1]; simp
  · rcases h1 with rfl | rfl <;> simp
theorem EvQ.norel (h : ∀ e ∈ es, EvQ L X Lw w w' e) : ∀ e ∈ es, e.loc ≠ .mark (.release (stA L.Wg)) := fun e he => by
  rcases h e he with ⟨a, wr', rfl, h1, h2, h3, h4, h5⟩ | h1 | ⟨a, h1, ha⟩
  · simp
  · rw [h1]; simp
  · rcases h1 with rfl | rfl <;> simp
/-- AN IDLE STEP OF THE STARTER's. -/
theorem idleQ (hL : L.Ok) (hX : XOk L X) (ha : gs[0]? = some a) (hcom : Com2 P L X J M K val j gs w t D H Lo R d0 Lw q) (hwg : WgAt L.ty L.Wg w st sm) (hmode : ConcN.Mode j D tag st sm)
    (hgo : stepG P true a w = .go a' w' es) (hD : DQ L X Lw w w' es) (hss' : SS P L X M K val vals Anch AnchW tag j f' d0 Lw a' w') (hf : f' < f0) :
    Moves P L X J M K val vals Anch AnchW gs w sl t 0 (phi L.n (Vc j D) tag + Ssum j D, f0 + 2 * Fsum j D + 2 * sumTo (J + 1) q) := by
  have hW : L.Wg < w.heap.size := hcom.wgLive hL
  have hC : L.C < w.heap.size := Nat.lt_of_lt_of_le hL.hC hcom.n0
  have hWb := hD.block L.Wg hW (.inl (Nat.lt_of_lt_of_le hL.hW hcom.lw.1))
  have hCb := hD.block L.C hC (.inl (Nat.lt_of_lt_of_le hL.hC hcom.lw.1))
  obtain ⟨cs, hc1, hc2⟩ := hcom.pay
  have hdf : deafBehind d0 es = d0 := deafBehind_idle (EvQ.still hD.evs) d0
  exact callerStep2 hL hX ha hcom hgo hD.size (fun b hb => ⟨hb.1, hb.2.imp fun cs x => by rw [hD.block b (Array.getElem?_eq_some_iff.1 x).1 (.inr hb)]; exact x⟩) (fun b _ => hD.half b)
    (fun i hi => RX.of_DQ hL hD (hcom.lo i hi).2 hcom.lw.1 hcom.n0 fun r hr => (hcom.hf i r hr).2)
    (ok0_EvQ hX hcom hD.evs) (EvQ.low (Nat.lt_of_lt_of_le hW hD.size) hD.evs) (EvQ.norel hD.evs) ⟨cs, hCb.trans hc1, hc2⟩ (by rw [hdf]; exact hss') (hwg.of_block hWb) hmode (.inr ⟨rfl, hf⟩)
/-- A STEP OF THE LIBRARY's BOOKKEEPING, by the starter. -/
theorem bookQ (hL : L.Ok) (hX : XOk L X) (ha : gs[0]? = some a) (hcom : Com2 P L X J M K val j gs w t D H Lo R d0 Lw q)
    (hgo : stepG P true a w = .go a' w' es) (hAs : Aside L.Wg w w') (hwg' : WgAt L.ty L.Wg w' st' sm') (hbk : ∀ e ∈ es, Bk L.Wg e) (hss' : SS P L X M K val vals Anch AnchW tag' j f' (deafBehind d0 es) Lw a' w')
    (hmode' : ConcN.Mode j D tag' st' sm') (hlt : phi L.n (Vc j D) tag' < phi L.n (Vc j D) tag ∨ (phi L.n (Vc j D) tag' = phi L.n (Vc j D) tag ∧ f' < f0)) :
    Moves P L X J M K val vals Anch AnchW gs w sl t 0 (phi L.n (Vc j D) tag + Ssum j D, f0 + 2 * Fsum j D + 2 * sumTo (J + 1) q) := by
  obtain ⟨cs, hc1, hc2⟩ := hcom.pay
  exact callerStep2 hL hX ha hcom hgo (Nat.le_of_eq hAs.size.symm) (fun b => (half_of_aside hL hAs b).2) (fun b _ => (half_of_aside hL hAs b).1)
    (fun i _ => RX.of_wg hL hAs ⟨_, _, hwg'⟩ fun r hr => (hcom.own_ne hL hr).2) (ok0_Bk hX hbk) (low_Bk (by rw [hAs.size]; exact hcom.wgLive hL) hbk) (norel_of_Bk hbk) ⟨cs, (hAs.block L.C hL.hCW).trans hc1, hc2⟩ hss' hwg' hmode' hlt
end
end Go.Proofs.Ytoipkpndfgcmcaa.Crew
