/-
  (*WaitGroup).Add(1) and Wait, as the starter calls them beside its workers and older ones. The conditions stand in each theorem.
-/
import Derived.Test.YtoipkpndfgcmcaaRows
import Derived.Conc.WgGenN3
import Derived.KernelRfl
import Derived.Test.YtoipkpndfgcmcaaCheckOwnM03

/-
  n workers at once and their starter beside older ones that only leave: the invariant with its measure; whatever step of a worker's, of an older one's, of the starter's keeps it. The conditions stand in each theorem. No program in sight.
-/
namespace Go.Proofs.Ytoipkpndfgcmcaa.Crew
open Go Go.Conc Go.ConcN Go.RowKit Go.Proofs.Ytoipkpndfgcmcaa.Veils
open Go.ConcR (KK wgBlock WgAt stA smA rd wr mk Payload DC0 Bk g_of_ofEvents bk_of_mute ofEvent_loc_mark ofEvent_cell deafBehind_cons deafBehind_one ofEvent_mk)
set_option linter.unusedVariables false
set_option linter.unusedSectionVars false
variable [Payload]

section
variable {L : Lay} {w w₁ : World} {Low i : Nat} {b : Option Nat}
theorem half_of_cell (hL : L.Ok) (h : AsideCell L.C L.n i w w₁) (r : Nat) : Half L w₁ r ↔ Half L w r := by
  constructor
  · rintro ⟨h1, cs, h2⟩
    exact ⟨h1, cs, by rw [← h.block r (by have := hL.hC; omega)]; exact h2⟩
  · rintro ⟨h1, cs, h2⟩
    exact ⟨h1, cs, by rw [h.block r (by have := hL.hC; omega)]; exact h2⟩
theorem RQ.of_cell (hL : L.Ok) (h : AsideCell L.C L.n i w w₁) : RQ L w w₁ :=
  ⟨h.tape, h.os, h.output, Nat.le_of_eq h.size.symm, fun r _ hC _ _ => h.block r hC, fun r => (half_of_cell hL h r).2, fun ⟨st, sm, hl⟩ => ⟨st, sm, hl.of_block (h.block L.Wg (Ne.symm hL.hCW))⟩, h.pay⟩
theorem RX.of_cell (hL : L.Ok) (h : AsideCell L.C L.n i w w₁) {i' : Nat} (hne : i' ≠ i) (hb : ∀ r, b = some r → r ≠ L.C) : RX L Low b i' w w₁ :=
  ⟨Nat.le_of_eq h.size.symm, fun r _ _ hC _ _ => h.block r hC, fun r => (half_of_cell hL h r).2, fun r e => h.block r (hb r e), fun ⟨st, sm, hl⟩ => ⟨st, sm, hl.of_block (h.block L.Wg (Ne.symm hL.hCW))⟩, h.pay, h.cells i' hne⟩
end
section
variable (P : Program) (L : Lay) (X : Nat → Prop) (J M K : Nat) (val : Nat → Value) (vals : List Value) (Anch AnchW : Goroutine → World → Prop)
def Inv2 (μ : Nat × Nat) (m : Machine) (t : Trace) : Prop :=
  ∃ (gs : Array Goroutine) (w : World) (sl : Option (Nat × Nat)) (j : Nat) (D : Nat → WD) (H : Nat → Option Nat) (Lo : Nat → Nat) (R : Nat → Nat → Prop) (q : Nat → Nat) (tag : CTag) (f0 d0 Lw : Nat) (a : Goroutine) (st sm : Int),
    m = crowd gs w sl ∧ gs[0]? = some a ∧ SS P L X M K val vals Anch AnchW tag j f0 d0 Lw a w ∧ Com2 P L X J M K val j gs w t D H Lo R d0 Lw q ∧ WgAt L.ty L.Wg w st sm ∧ ConcN.Mode j D tag st sm ∧
    μ = (phi L.n (Vc j D) tag + Ssum j D, f0 + 2 * Fsum j D + 2 * sumTo (J + 1) q)
/-- One step of goroutine k, behind which the invariant stands with a lesser measure. -/
def Moves (gs : Array Goroutine) (w : World) (sl : Option (Nat × Nat)) (t : Trace) (k : Nat) (μ : Nat × Nat) : Prop :=
  ∃ m₁ ops μ', runT P (crowd gs w sl) k = (.next m₁, ops) ∧ Lt2 μ' μ ∧ Inv2 P L X J M K val vals Anch AnchW μ' m₁ (t ++ ops)
end
section
variable {P : Program} {L : Lay} {X : Nat → Prop} {J M K : Nat} {val : Nat → Value} {vals : List Value} {Anch AnchW : Goroutine → World → Prop} {j : Nat} {gs : Array Goroutine} {w w' : World} {sl : Option (Nat × Nat)} {t : Trace} {D : Nat → WD} {H : Nat → Option Nat} {Lo : Nat → Nat} {R : Nat → Nat → Prop} {d0 Lw : Nat} {q : Nat → Nat} {tag tag' : CTag} {f0 f' : Nat} {a a' : Goroutine} {st sm st' sm' : Int} {es : Array Event}
theorem SS.bound (h : SS P L X M K val vals Anch AnchW tag j f0 d0 Lw a w) : j + pend tag ≤ L.n := by
  cases h <;> simp only [pend] <;> (try simp) <;> omega
theorem Com2.wgLive (h : Com2 P L X J M K val j gs w t D H Lo R d0 Lw q) (hL : L.Ok) : L.Wg < w.heap.size := Nat.lt_of_lt_of_le hL.hW h.n0
theorem Com2.own_ne (h : Com2 P L X J M K val j gs w t D H Lo R d0 Lw q) (hL : L.Ok) {i r : Nat} (e : H i = some r) : r ≠ L.C ∧ r ≠ L.Wg :=
  ⟨fun x => hL.nC (w := w) (x ▸ (h.hf i r e).2.1), fun x => hL.nW (w := w) (x ▸ (h.hf i r e).2.1)⟩
/-- WHATEVER STEP OF WORKER NUMBER i. -/
theorem workerStep2 (hL : L.Ok) (hX : XOk L X) (hAr : ∀ g w, AnchW g w → g.status = .running)
    (ha : gs[0]? = some a) (hss : SS P L X M K val vals Anch AnchW tag j f0 d0 Lw a w) (hcom : Com2 P L X J M K val j gs w t D H Lo R d0 Lw q)
    {i : Nat} (hi : i < j) {g g' : Goroutine} {s' m' dd' : Nat} {H' : Option Nat} (hg : gs[J + 1 + i]? = some g) (hgo : stepG P false g w = .go g' w' es)
    (hH : H' = H i ∨ (H i = none ∧ H' = some w.heap.size ∧ Half L w' w.heap.size))
    (hHsz : H' ≠ H i → w.heap.size < w'.heap.size) (hback : ∀ b, b < w.heap.size → Half L w' b → Half L w b)
    (hA2 : RQ L w w') (hrx : ∀ i', i' < j → i' ≠ i → RX L (Lo i') (H i') i' w w')
    (hs' : WS P L M K (Lo i) (R i) i (val i) H' s' m' dd' g' w')
    (hok : ∀ H2, H2 = upd H i H' → ∀ op ∈ MemOp.ofEvents (J + 1 + i) g.frame.fn g.frame.place es, OkW (ShX X) (OwnF L J H2) (RdF J R) (J + 1 + i) op) (hlow : ∀ e ∈ es, LowT w'.heap.size (MemAct.ofEvent e)) (hnr : ∀ e ∈ es, e.loc ≠ .mark (.release (stA L.Wg)))
    (hpl : ∀ e ∈ es, ∀ x, (MemAct.ofEvent e).touch? = some x → ¬ ShX X x.loc → x.loc.isMemory = true ∧ x.kind ≠ .atomic)
    (hdeaf : deafBehind (D i).deaf es = dd')
    (hrel : s' ≤ 6 → ∃ r, RelN (stA L.Wg) (t ++ MemOp.ofEvents (J + 1 + i) g.frame.fn g.frame.place es) (J + 1 + i) r)
    (hhas : s' ≤ 6 → Has L.C i (val i) w') (hpay : PayAt L.C L.n w') (hwg : WgAt L.ty L.Wg w' st' sm')
    (hmode : ∀ tag', (tag' = tag ∨ (tag = .blk ∧ tag' = .w3)) → (mayWake P g = true → g'.status = .running → tag' ≠ .blk) → ConcN.Mode j (upd D i ⟨s', m', dd'⟩) tag' st' sm')
    (hlt : (s' < (D i).stage ∧ cnt ⟨s', m', dd'⟩ ≤ cnt (D i)) ∨ (s' = (D i).stage ∧ m' + 1 ≤ (D i).fuel)) :
    Moves P L X J M K val vals Anch AnchW gs w sl t (J + 1 + i) (phi L.n (Vc j D) tag + Ssum j D, f0 + 2 * Fsum j D + 2 * sumTo (J + 1) q) := by
  obtain ⟨tag', f', hss', hf', htag, hwk⟩ := hss.wokenBy hAr hA2 g g'
  have hrun := runT_crowd_go (P := P) (sl := sl) (i := J + 1 + i) hg (by rw [show (J + 1 + i == 0) = false by simp]; exact hgo)
  have e1 := sumTo_upd D (⟨s', m', dd'⟩ : WD) cnt hi
  have e2 := sumTo_upd D (⟨s', m', dd'⟩ : WD) WD.stage hi
  have e3 := sumTo_upd D (⟨s', m', dd'⟩ : WD) WD.fuel hi
  refine ⟨_, _, (phi L.n (Vc j (upd D i ⟨s', m', dd'⟩)) tag' + Ssum j (upd D i ⟨s', m', dd'⟩), f' + 2 * Fsum j (upd D i ⟨s', m', dd'⟩) + 2 * sumTo (J + 1) q), hrun, ?_,
    _, w', sl, j, upd D i ⟨s', m', dd'⟩, upd H i H', Lo, R, q, tag', f', d0, Lw, woken P g g' w' a, st', sm', rfl, by rw [get_map_set _ _ _ _ (by omega), ha]; rfl, hss', hcom.stepW hL hX hi hH hA2.size hHsz hA2.half hback hrx hs' hok hlow hnr hpl hdeaf hrel hhas hpay, hwg, hmode tag' htag hwk, rfl⟩
  rw [phi_retag L.n _ htag]
  simp only [Vc, Ssum, Fsum] at *
  rcases hlt with ⟨h1, h2⟩ | ⟨h1, h2⟩
  · refine Prod.Lex.left _ _ ?_
    have := phi_mono L.n (v' := sumTo j fun a => cnt (upd D i ⟨s', m', dd'⟩ a)) (v := sumTo j fun a => cnt (D a)) (by omega) tag
    omega
  · have ec : cnt (⟨s', m', dd'⟩ : WD) = cnt (D i) := by simp only [cnt, h1]
    have ev : (sumTo j fun a => cnt (upd D i ⟨s', m', dd'⟩ a)) = sumTo j fun a => cnt (D a) := by omega
    have es' : (sumTo j fun a => (upd D i ⟨s', m', dd'⟩ a).stage) = sumTo j fun a => (D a).stage := by omega
    rw [ev, es']
    refine Prod.Lex.right _ ?_
    omega
/-- AN OLDER ONE's STEP. -/
theorem oldStep2 (hL : L.Ok) (hX : XOk L X) (hAr : ∀ g w, AnchW g w → g.status = .running)
    (ha : gs[0]? = some a) (hss : SS P L X M K val vals Anch AnchW tag j f0 d0 Lw a w) (hcom : Com2 P L X J M K val j gs w t D H Lo R d0 Lw q) (hwg : WgAt L.ty L.Wg w st sm) (hmode : ConcN.Mode j D tag st sm)
    {k : Nat} (h1 : 1 ≤ k) (hJ : k ≤ J) {g : Goroutine} (hg : gs[k]? = some g) (hrun : g.status = .running) :
    Moves P L X J M K val vals Anch AnchW gs w sl t k (phi L.n (Vc j D) tag + Ssum j D, f0 + 2 * Fsum j D + 2 * sumTo (J + 1) q) := by
  have hq := hcom.old k g h1 hJ hg
  cases hqk : q k with
  | zero =>
    rw [hqk] at hq
    have := hq.1
    rw [hrun] at this
    cases this
  | succ n =>
    rw [hqk] at hq
    rcases hq with ⟨hf, _⟩ | ⟨_, g', es, hm, hst, hq'⟩
    · rw [hrun] at hf; cases hf
    obtain ⟨tag', f', hss', hf', htag, hwk⟩ := hss.wokenBy hAr (RQ.refl w) g g'
    have hrun' := runT_crowd_go (P := P) (sl := sl) (i := k) hg (by rw [show (k == 0) = false by simp; omega]; exact hst w)
    have e3 := sumTo_upd q n id (i := k) (j := J + 1) (by omega)
    have e3 : sumTo (J + 1) (upd q k n) + (n + 1) = sumTo (J + 1) q + n := by simpa [hqk] using e3
    refine ⟨_, _, (phi L.n (Vc j D) tag' + Ssum j D, f' + 2 * Fsum j D + 2 * sumTo (J + 1) (upd q k n)), hrun', ?_,
      _, w, sl, j, D, H, Lo, R, upd q k n, tag', f', d0, Lw, woken P g g' w a, st, sm, rfl, by rw [get_map_set _ _ _ _ (by omega), ha]; rfl, hss', hcom.stepOld hL hX h1 hJ hm hq', hwg, hmode.retag htag, rfl⟩
    rw [phi_retag L.n _ htag]
    refine Prod.Lex.right _ ?_
    omega
/-- WHATEVER STEP OF THE STARTER's THAT IS NO go STATEMENT. -/
theorem callerStep2 (hL : L.Ok) (hX : XOk L X) (ha : gs[0]? = some a) (hcom : Com2 P L X J M K val j gs w t D H Lo R d0 Lw q) (hgo : stepG P true a w = .go a' w' es)
    (hsz : w.heap.size ≤ w'.heap.size) (hhalf : ∀ b, Half L w b → Half L w' b) (hback : ∀ b, b < w.heap.size → Half L w' b → Half L w b)
    (hrx : ∀ i, i < j → RX L (Lo i) (H i) i w w')
    (hok : ∀ op ∈ MemOp.ofEvents 0 a.frame.fn a.frame.place es, Ok0 (ShX X) (OwnF L J H) (RdF J R) (J + j) op) (hlow : ∀ e ∈ es, LowT w'.heap.size (MemAct.ofEvent e)) (hnr : ∀ e ∈ es, e.loc ≠ .mark (.release (stA L.Wg))) (hpay : PayAt L.C L.n w')
    (hss' : SS P L X M K val vals Anch AnchW tag' j f' (deafBehind d0 es) Lw a' w') (hwg : WgAt L.ty L.Wg w' st' sm') (hmode : ConcN.Mode j D tag' st' sm')
    (hlt : phi L.n (Vc j D) tag' < phi L.n (Vc j D) tag ∨ (phi L.n (Vc j D) tag' = phi L.n (Vc j D) tag ∧ f' < f0)) :
    Moves P L X J M K val vals Anch AnchW gs w sl t 0 (phi L.n (Vc j D) tag + Ssum j D, f0 + 2 * Fsum j D + 2 * sumTo (J + 1) q) := by
  have hrun := runT_crowd_go (P := P) (sl := sl) (i := 0) ha (by simpa using hgo)
  refine ⟨_, _, (phi L.n (Vc j D) tag' + Ssum j D, f' + 2 * Fsum j D + 2 * sumTo (J + 1) q), hrun, ?_,
    _, w', sl, j, D, H, Lo, R, q, tag', f', deafBehind d0 es, Lw, a', st', sm', rfl, get_map_set_same _ _ _ (by rw [hcom.size]; omega), hss', hcom.step0 hL hX hsz hhalf hback hrx hok hlow hnr hpay, hwg, hmode, rfl⟩
  rcases hlt with h | ⟨h1, h2⟩
  · exact Prod.Lex.left _ _ (by omega)
  · rw [h1]; exact Prod.Lex.right _ (by omega)
/-! which entries of a step's list are admitted -/
theorem low_Bk (hb : L.Wg < w'.heap.size) (h : ∀ e ∈ es, Bk L.Wg e) : ∀ e ∈ es, LowT w'.heap.size (MemAct.ofEvent e) := fun e he => LowT.of (by
  rcases h e he with h1 | h1 | ⟨a, wr, rfl, ha⟩
  · rw [ofEvent_loc_mark h1]; trivial
  · rw [ofEvent_loc_mark h1]; trivial
  · rw [ofEvent_cell]; show a.block < _; rw [ha]; exact hb)
theorem pl_Bk (hX : XOk L X) (h : ∀ e ∈ es, Bk L.Wg e) : ∀ e ∈ es, ∀ x, (MemAct.ofEvent e).touch? = some x → ¬ ShX X x.loc → x.loc.isMemory = true ∧ x.kind ≠ .atomic := fun e he x hx hs => by
  rcases h e he with h1 | h1 | ⟨a, wr, rfl, ha⟩
  · rw [ofEvent_loc_mark h1] at hx; cases hx
  · rw [ofEvent_loc_mark h1] at hx; cases hx
  · rw [ofEvent_cell] at hx
    simp only [MemAct.touch?, Option.some.injEq] at hx
    subst hx
    exact absurd ⟨a, rfl, by rw [ha]; exact hX.wg⟩ hs
theorem okW_Bk (hX : XOk L X) {Own Rd : Nat → Loc → Prop} {k : Nat} {fn : FuncId} {pos : String} (h : ∀ e ∈ es, Bk L.Wg e) : ∀ op ∈ MemOp.ofEvents k fn pos es, OkW (ShX X) Own Rd k op := fun op hop =>
  ⟨(okW_of_Bk (Own := Own) (Rd := Rd) h op hop).1, fun x hx => ((okW_of_Bk (Own := Own) (Rd := Rd) h op hop).2 x hx).imp (fun ⟨⟨a, h1, h2⟩, h3⟩ => ⟨⟨a, h1, by rw [h2]; exact hX.wg⟩, h3⟩) id⟩
theorem ok0_Bk (hX : XOk L X) {Own Rd : Nat → Loc → Prop} {n : Nat} {fn : FuncId} {pos : String} (h : ∀ e ∈ es, Bk L.Wg e) : ∀ op ∈ MemOp.ofEvents 0 fn pos es, Ok0 (ShX X) Own Rd n op := fun op hop => by
  obtain ⟨e, he, rfl⟩ := Go.Conc.mem_ofEvents hop
  refine ⟨rfl, fun x hx => ?_⟩
  rcases h e he with h1 | h1 | ⟨a, wr, rfl, ha⟩
  · simp only [ofEvent_loc_mark h1] at hx; cases hx
  · simp only [ofEvent_loc_mark h1] at hx; cases hx
  · simp only [ofEvent_cell, MemAct.touch?, Option.some.injEq] at hx
    subst hx
    exact .inl ⟨⟨a, rfl, by rw [ha]; exact hX.wg⟩, by simp⟩
/-- A worker's own idle step. -/
theorem okW_EvX {i : Nat} {b : Option Nat} {H2 : Nat → Option Nat} (hH : H2 i = b) {fn : FuncId} {pos : String} (h : ∀ e ∈ es, EvX L (R i) b i w' e) : ∀ op ∈ MemOp.ofEvents (J + 1 + i) fn pos es, OkW (ShX X) (OwnF L J H2) (RdF J R) (J + 1 + i) op := fun op hop => by
  obtain ⟨e, he, rfl⟩ := Go.Conc.mem_ofEvents hop
  refine ⟨rfl, fun x hx => ?_⟩
  rcases h e he with ⟨a, wr', rfl, hlt, h1⟩ | h1
  · simp only [ofEvent_cell, MemAct.touch?, Option.some.injEq] at hx
    subst hx
    rcases h1 with ⟨h1, rfl⟩ | rfl | h1
    · exact .inr (.inr ⟨⟨i, rfl, a, rfl, h1⟩, rfl⟩)
    · exact .inr (.inl ⟨i, rfl, .inl rfl⟩)
    · exact .inr (.inl ⟨i, rfl, .inr ⟨a, rfl, by rw [hH]; exact h1⟩⟩)
  · simp only [ofEvent_loc_mark h1] at hx; cases hx
theorem EvX.low {Rd : Nat → Prop} {i : Nat} {b : Option Nat} (h : ∀ e ∈ es, EvX L Rd b i w' e) : ∀ e ∈ es, LowT w'.heap.size (MemAct.ofEvent e) := fun e he => LowT.of (by
  rcases h e he with ⟨a, wr', rfl, hlt, h1⟩ | h1
  · rw [ofEvent_cell]; exact hlt
  · rw [ofEvent_loc_mark h1]; trivial)
theorem EvX.pl {Rd : Nat → Prop} {i : Nat} {b : Option Nat} (h : ∀ e ∈ es, EvX L Rd b i w' e) : ∀ e ∈ es, ∀ x, (MemAct.ofEvent e).touch? = some x → ¬ ShX X x.loc → x.loc.isMemory = true ∧ x.kind ≠ .atomic := fun e he x hx hs => by
  rcases h e he with ⟨a, wr', rfl, hlt, h1⟩ | h1
  · rw [ofEvent_cell] at hx
    simp only [MemAct.touch?, Option.some.injEq] at hx
    subst hx
    exact ⟨rfl, by simp⟩
  · rw [ofEvent_loc_mark h1] at hx; cases hx
theorem EvX.still {Rd : Nat → Prop} {i : Nat} {b : Option Nat} (h : ∀ e ∈ es, EvX L Rd b i w' e) : ∀ e ∈ es, e.loc ≠ .mark .disable ∧ e.loc ≠ .mark .enable := fun e he => by
  rcases h e he with ⟨a, wr', rfl, hlt, h1⟩ | h1
  · simp
  · rw [h1]; simp
theorem EvX.norel {Rd : Nat → Prop} {i : Nat} {b : Option Nat} (h : ∀ e ∈ es, EvX L Rd b i w' e) : ∀ e ∈ es, e.loc ≠ .mark (.release (stA L.Wg)) := fun e he => by
  rcases h e he with ⟨a, wr', rfl, hlt, h1⟩ | h1
  · simp
  · rw [h1]; simp
/-- The starter's own idle step. -/
theorem ok0_EvQ (hX : XOk L X) (hcom : Com2 P L X J M K val j gs w t D H Lo R d0 Lw q) {fn : FuncId} {pos : String} (h : ∀ e ∈ es, EvQ L X Lw w w' e) : ∀ op ∈ MemOp.ofEvents 0 fn pos es, Ok0 (ShX X) (OwnF L J H) (RdF J R) (J + j) op := fun op hop => by
  obtain ⟨e, he, rfl⟩ := Go.Conc.mem_ofEvents hop
  refine ⟨rfl, fun x hx => ?_⟩
  rcases h e he with ⟨a, wr', rfl, h1, h2, h3, h4, h5⟩ | h1 | ⟨a, h1, ha⟩
  · simp only [ofEvent_cell, MemAct.touch?, Option.some.injEq] at hx
    subst hx
    refine .inr ⟨fun ⟨a', e, hs⟩ => ?_, fun k k1 kj ho => ?_, fun hw k k1 kj hr => ?_⟩
    · cases e; exact h1 hs
    · obtain ⟨i, rfl, ho⟩ := ho
      rcases ho with e | ⟨a', e, ho⟩
      · cases e; exact h2 rfl
      · cases e; exact h3 (hcom.hf _ _ ho).2.1
    · obtain ⟨i, rfl, a', e, hr⟩ := hr
      cases e
      have := h5 hw
      obtain ⟨r1, r2, _⟩ := hcom.rd _ _ hr
      have := (hcom.lo _ r1).2
      omega
  · simp only [ofEvent_loc_mark h1] at hx; cases hx
  · rcases h1 with rfl | rfl <;> (simp only [MemAct.ofEvent, MemAct.touch?, Option.some.injEq] at hx; subst hx; exact .inl ⟨⟨a, rfl, by rw [ha]; exact hX.wg⟩, by simp⟩)
theorem EvQ.low (hb : L.Wg < w'.heap.size) (h : ∀ e ∈ es, EvQ L X Lw w w' e) : ∀ e ∈ es, LowT w'.heap.size (MemAct.ofEvent e) := fun e he => LowT.of (by
  rcases h e he with ⟨a, wr', rfl, h1, h2, h3, h4, h5⟩ | h1 | ⟨a, h1, ha⟩
  · rw [ofEvent_cell]; exact h4
  · rw [ofEvent_loc_mark h1]; trivial
  · rcases h1 with rfl | rfl <;> (show a.block < _; rw [ha]; exact hb))
theorem EvQ.still (h : ∀ e ∈ es, EvQ L X Lw w w' e) : ∀ e ∈ es, e.loc ≠ .mark .disable ∧ e.loc ≠ .mark .enable := fun e he => by
  rcases h e he with ⟨a, wr', rfl, h1, h2, h3, h4, h5⟩ | h1 | ⟨a, h1, ha⟩
  · simp
  · rw [h1]; simp
  · rcases h1 with rfl | rfl <;> simp
theorem EvQ.norel (h : ∀ e ∈ es, EvQ L X Lw w w' e) : ∀ e ∈ es, e.loc ≠ .mark (.release (stA L.Wg)) := fun e he => by
  rcases h e he with ⟨a, wr', rfl, h1, h2, h3, h4, h5⟩ | h1 | ⟨a, h1, ha⟩
  · simp
  · rw [h1]; simp
  · rcases h1 with rfl | rfl <;> simp
/-- AN IDLE STEP OF THE STARTER's. -/
theorem idleQ (hL : L.Ok) (hX : XOk L X) (ha : gs[0]? = some a) (hcom : Com2 P L X J M K val j gs w t D H Lo R d0 Lw q) (hwg : WgAt L.ty L.Wg w st sm) (hmode : ConcN.Mode j D tag st sm)
    (hgo : stepG P true a w = .go a' w' es) (hD : DQ L X Lw w w' es) (hss' : SS P L X M K val vals Anch AnchW tag j f' d0 Lw a' w') (hf : f' < f0) :
    Moves P L X J M K val vals Anch AnchW gs w sl t 0 (phi L.n (Vc j D) tag + Ssum j D, f0 + 2 * Fsum j D + 2 * sumTo (J + 1) q) := by
  have hW : L.Wg < w.heap.size := hcom.wgLive hL
  have hC : L.C < w.heap.size := Nat.lt_of_lt_of_le hL.hC hcom.n0
  have hWb := hD.block L.Wg hW (.inl (Nat.lt_of_lt_of_le hL.hW hcom.lw.1))
  have hCb := hD.block L.C hC (.inl (Nat.lt_of_lt_of_le hL.hC hcom.lw.1))
  obtain ⟨cs, hc1, hc2⟩ := hcom.pay
  have hdf : deafBehind d0 es = d0 := deafBehind_idle (EvQ.still hD.evs) d0
  exact callerStep2 hL hX ha hcom hgo hD.size (fun b hb => ⟨hb.1, hb.2.imp fun cs x => by rw [hD.block b (Array.getElem?_eq_some_iff.1 x).1 (.inr hb)]; exact x⟩) (fun b _ => hD.half b)
    (fun i hi => RX.of_DQ hL hD (hcom.lo i hi).2 hcom.lw.1 hcom.n0 fun r hr => (hcom.hf i r hr).2)
    (ok0_EvQ hX hcom hD.evs) (EvQ.low (Nat.lt_of_lt_of_le hW hD.size) hD.evs) (EvQ.norel hD.evs) ⟨cs, hCb.trans hc1, hc2⟩ (by rw [hdf]; exact hss') (hwg.of_block hWb) hmode (.inr ⟨rfl, hf⟩)
/-- A STEP OF THE LIBRARY's BOOKKEEPING, by the starter. -/
theorem bookQ (hL : L.Ok) (hX : XOk L X) (ha : gs[0]? = some a) (hcom : Com2 P L X J M K val j gs w t D H Lo R d0 Lw q)
    (hgo : stepG P true a w = .go a' w' es) (hAs : Go.Conc.Aside L.Wg w w') (hwg' : WgAt L.ty L.Wg w' st' sm') (hbk : ∀ e ∈ es, Bk L.Wg e) (hss' : SS P L X M K val vals Anch AnchW tag' j f' (deafBehind d0 es) Lw a' w')
    (hmode' : ConcN.Mode j D tag' st' sm') (hlt : phi L.n (Vc j D) tag' < phi L.n (Vc j D) tag ∨ (phi L.n (Vc j D) tag' = phi L.n (Vc j D) tag ∧ f' < f0)) :
    Moves P L X J M K val vals Anch AnchW gs w sl t 0 (phi L.n (Vc j D) tag + Ssum j D, f0 + 2 * Fsum j D + 2 * sumTo (J + 1) q) := by
  obtain ⟨cs, hc1, hc2⟩ := hcom.pay
  exact callerStep2 hL hX ha hcom hgo (Nat.le_of_eq hAs.size.symm) (fun b => (half_of_aside hL hAs b).2) (fun b _ => (half_of_aside hL hAs b).1)
    (fun i _ => RX.of_wg hL hAs ⟨_, _, hwg'⟩ fun r hr => (hcom.own_ne hL hr).2) (ok0_Bk hX hbk) (low_Bk (by rw [hAs.size]; exact hcom.wgLive hL) hbk) (norel_of_Bk hbk) ⟨cs, (hAs.block L.C hL.hCW).trans hc1, hc2⟩ hss' hwg' hmode' hlt
end
end Go.Proofs.Ytoipkpndfgcmcaa.Crew

/-
  n workers at once and their starter beside older ones that only leave: a worker's step, wherever it stands, keeps the invariant. The conditions stand in each theorem. No program in sight.
-/
namespace Go.Proofs.Ytoipkpndfgcmcaa.Crew
open Go Go.Conc Go.ConcN Go.RowKit Go.Proofs.Ytoipkpndfgcmcaa.Veils
open Go.ConcR (KK wgBlock WgAt stA smA rd wr mk Payload DC0 Bk g_of_ofEvents bk_of_mute ofEvent_loc_mark ofEvent_cell deafBehind_cons deafBehind_one ofEvent_mk)
set_option linter.unusedVariables false
set_option linter.unusedSectionVars false
variable [Payload]
section
variable {P : Program} {L : Lay} {X : Nat → Prop} {J M K : Nat} {val : Nat → Value} {vals : List Value} {Anch AnchW : Goroutine → World → Prop} {j : Nat} {gs : Array Goroutine} {w w' : World} {sl : Option (Nat × Nat)} {t : Trace} {D : Nat → WD} {H : Nat → Option Nat} {Lo : Nat → Nat} {R : Nat → Nat → Prop} {d0 Lw : Nat} {q : Nat → Nat} {tag : CTag} {f0 : Nat} {a : Goroutine} {st sm : Int}
set_option maxHeartbeats 1600000 in
theorem libStep2 (hL : L.Ok) (hX : XOk L X) (hAr : ∀ g w, AnchW g w → g.status = .running) (hn : L.n < 2147483648)
    (ha : gs[0]? = some a) (hss : SS P L X M K val vals Anch AnchW tag j f0 d0 Lw a w) (hcom : Com2 P L X J M K val j gs w t D H Lo R d0 Lw q) (hwg : WgAt L.ty L.Wg w st sm) (hmode : ConcN.Mode j D tag st sm)
    {i : Nat} (hi : i < j) {g : Goroutine} (hg : gs[J + 1 + i]? = some g) (hrun : g.status = .running) {s m dd : Nat} (hst : (D i).stage = s) (hfu : m ≤ (D i).fuel) (hde : (D i).deaf = dd)
    (hs : WSit P L.ty L.Wg L.C L.n no2 no2 L.N0 (i + 1) (val i) s m dd g w) :
    Moves P L X J M K val vals Anch AnchW gs w sl t (J + 1 + i) (phi L.n (Vc j D) tag + Ssum j D, f0 + 2 * Fsum j D + 2 * sumTo (J + 1) q) := by
  have hb := hss.bound
  have hVj := Vc_le j D
  have hdk : Deaf t (J + 1 + i) = dd := by rw [hcom.deafW i hi, hde]
  have hW := hcom.wgLive hL
  have bookG : ∀ {g' : Goroutine} {w' : World} {es : Array Event} {s' m' dd' : Nat} {st' sm' : Int}, stepG P false g w = .go g' w' es → Go.Conc.Aside L.Wg w w' → WgAt L.ty L.Wg w' st' sm' → (∀ e ∈ es, Bk L.Wg e) →
      (∀ jx e, es[jx]? = some e → (MemAct.ofEvent e).touch? = none ∨ 0 < deafBehind dd (es.extract 0 jx)) → WSit P L.ty L.Wg L.C L.n no2 no2 L.N0 (i + 1) (val i) s' m' dd' g' w' → deafBehind dd es = dd' → s ≤ 6 →
      (∀ tag', (tag' = tag ∨ (tag = .blk ∧ tag' = .w3)) → (mayWake P g = true → g'.status = .running → tag' ≠ .blk) → ConcN.Mode j (upd D i ⟨s', m', dd'⟩) tag' st' sm') → ((s' < s ∧ cnt ⟨s', m', dd'⟩ ≤ cnt (D i)) ∨ (s' = s ∧ m' + 1 ≤ m)) →
      Moves P L X J M K val vals Anch AnchW gs w sl t (J + 1 + i) (phi L.n (Vc j D) tag + Ssum j D, f0 + 2 * Fsum j D + 2 * sumTo (J + 1) q) := by
    intro g' w' es s' m' dd' st' sm' hgo hAs hwg' hbk hd hs' hdd h6 hmode' hlt
    obtain ⟨cs, hcs1, hcs2⟩ := hcom.pay
    exact workerStep2 hL hX hAr ha hss hcom hi hg hgo (.inl rfl) (fun h => absurd rfl h) (fun b _ => (half_of_aside hL hAs b).1) (RQ.of_wg hL hAs ⟨_, _, hwg'⟩) (fun i' _ _ => RX.of_wg hL hAs ⟨_, _, hwg'⟩ fun r hr => (hcom.own_ne hL hr).2) (.lib hs')
      (fun _ _ => okW_Bk hX hbk) (low_Bk (by rw [hAs.size]; exact hW) hbk) (norel_of_Bk hbk) (pl_Bk hX hbk) (by rw [hde]; exact hdd)
      (fun _ => let ⟨r, hr⟩ := hcom.rel i hi (by omega); ⟨r, hr.app (hr.1.book hdk _ _ hbk hd) (norel_of (norel_of_Bk hbk))⟩) (fun _ => (cell_of_block (hAs.block L.C hL.hCW) i).trans (hcom.has i hi (by omega))) ⟨cs, (hAs.block L.C hL.hCW).trans hcs1, hcs2⟩ hwg' hmode'
      (by rw [hst]; exact hlt.imp id fun x => ⟨x.1, Nat.le_trans x.2 hfu⟩)
  have book : ∀ {g' : Goroutine} {w' : World} {es : Array Event} {s' m' dd' : Nat} {st' sm' : Int}, stepG P false g w = .go g' w' es → Go.Conc.Aside L.Wg w w' → WgAt L.ty L.Wg w' st' sm' → (∀ e ∈ es, Bk L.Wg e) →
      (∀ jx e, es[jx]? = some e → (MemAct.ofEvent e).touch? = none ∨ 0 < deafBehind dd (es.extract 0 jx)) → WSit P L.ty L.Wg L.C L.n no2 no2 L.N0 (i + 1) (val i) s' m' dd' g' w' → deafBehind dd es = dd' → s ≤ 6 →
      ConcN.Mode j (upd D i ⟨s', m', dd'⟩) tag st' sm' → ((s' < s ∧ cnt ⟨s', m', dd'⟩ ≤ cnt (D i)) ∨ (s' = s ∧ m' + 1 ≤ m)) →
      Moves P L X J M K val vals Anch AnchW gs w sl t (J + 1 + i) (phi L.n (Vc j D) tag + Ssum j D, f0 + 2 * Fsum j D + 2 * sumTo (J + 1) q) :=
    fun hgo hAs hwg' hbk hd hs' hdd h6 hmode' hlt => bookG hgo hAs hwg' hbk hd hs' hdd h6 (fun _ ht _ => hmode'.retag ht) hlt
  have idle : ∀ {g' : Goroutine} {m' : Nat}, stepG P false g w = .go g' w #[] → WSit P L.ty L.Wg L.C L.n no2 no2 L.N0 (i + 1) (val i) s m' dd g' w → m' + 1 = m → s ≤ 6 → s ≠ 1 →
      Moves P L X J M K val vals Anch AnchW gs w sl t (J + 1 + i) (phi L.n (Vc j D) tag + Ssum j D, f0 + 2 * Fsum j D + 2 * sumTo (J + 1) q) := by
    intro g' m' hgo hs' hm h6 h1
    exact book hgo (.refl L.Wg w) hwg (by simp) (by simp) hs' rfl h6 (by have := hmode.same (i := i) m' dd; rwa [hst] at this) (.inr ⟨rfl, by omega⟩)
  cases hs with
  | r0 h =>
    rcases Goes.cases h with hstop | ⟨m', rfl, hstep⟩
    · obtain ⟨_, hhas, g', hgo, m₂, hk⟩ := hstop w (RW.refl w)
      refine workerStep2 hL hX hAr ha hss hcom hi hg hgo (.inl rfl) (fun h => absurd rfl h) (fun _ _ h => h) (.refl w) (fun _ _ _ => RX.refl w) (.lib (.k1 hk)) (fun _ _ op hop => by
          obtain ⟨e, he, rfl⟩ := Go.Conc.mem_ofEvents hop
          simp at he
          subst he
          exact ⟨rfl, fun x hx => by cases hx⟩) (by intro e he; simp at he; subst he; exact LowT.none rfl) (by intro e he; simp at he; subst he; simp [mk]) (by intro e he x hx; simp at he; subst he; cases hx) (by rw [hde]; rfl)
        (fun _ => ⟨t.size, RelBy.new hdk _ _, fun ix hix hx => ?_⟩) (fun _ => by simpa using hhas) hcom.pay hwg (fun _ ht _ => (hmode.counted hi (by omega) (.inl rfl) _ _).retag ht) (.inl ⟨by omega, by simp [cnt, hst]⟩)
      have hlt := lt_of_act? hx
      rw [show (MemOp.ofEvents (J + 1 + i) g.frame.fn g.frame.place #[mk (.releaseMerge (stA L.Wg))]) = #[{ g := J + 1 + i, fn := g.frame.fn, pos := g.frame.place, act := .mark (.releaseMerge (stA L.Wg)) }] by rw [ofEvents_eq]; simp [ofEvent_mk]] at hlt
      simp at hlt
      omega
    · obtain ⟨g', w', es, hgo, ⟨hac, hev⟩, hg'⟩ := hstep w (RW.refl w)
      simp only [Nat.add_sub_cancel] at hac
      have hno : ∀ {e : Event}, e ∈ es → ∀ x, (MemAct.ofEvent e).touch? = some x → ∃ a, x.loc = .cell a ∧ a.block = L.Wg ∧ x.kind ≠ .plain ∧ x.kind ≠ .said := fun {e} he x hx => by
        rcases ((hev e he).1 g.frame.fn g.frame.place).2 x hx with ⟨⟨a, h1, h2⟩, h3⟩ | h3 | h3
        · exact ⟨a, h1, h2, h3⟩
        · exact h3.elim
        · exact h3.1.elim
      refine workerStep2 hL hX hAr ha hss hcom hi hg hgo (.inl rfl) (fun h => absurd rfl h) (fun b _ => (half_of_cell hL hac b).1) (RQ.of_cell hL hac) (fun i' _ e => RX.of_cell hL hac e fun r hr => (hcom.own_ne hL hr).1) (.lib (.r0 hg')) (fun _ _ op hop => ?_) (fun e he => ?_) (fun e he => (hev e he).2.2.2) (fun e he x hx hs => ?_)
        (by rw [hde]; exact deafBehind_idle (fun e he => ⟨(hev e he).2.1, (hev e he).2.2.1⟩) 0) (fun h => by omega) (fun h => by omega) (hac.pay hcom.pay) (hwg.of_block (hac.block L.Wg (Ne.symm hL.hCW)))
        (fun _ ht _ => Mode.retag (by have := hmode.same (i := i) m' 0; rwa [hst] at this) ht) (.inr ⟨hst.symm, by omega⟩)
      · obtain ⟨e, he, rfl⟩ := Go.Conc.mem_ofEvents hop
        refine ⟨rfl, fun x hx => .inl ?_⟩
        obtain ⟨a, h1, h2, h3⟩ := hno he x hx
        exact ⟨⟨a, h1, by rw [h2]; exact hX.wg⟩, h3⟩
      · intro x hx
        obtain ⟨a, h1, h2, _⟩ := hno he x hx
        rw [h1]
        show a.block < _
        rw [h2, hac.size]
        exact hW
      · obtain ⟨a, h1, h2, h3⟩ := hno he x hx
        exact absurd ⟨a, h1, by rw [h2]; exact hX.wg⟩ hs
  | k1 h =>
    rcases Goes.cases h with hstop | ⟨m', rfl, hstep⟩
    · obtain ⟨_, g', hgo, m₂, hk⟩ := hstop w (RW.refl w)
      exact book hgo (.refl L.Wg w) hwg (by intro e he; simp at he; subst he; exact .inl rfl) (by intro jx e he; exact .inl (by have := Array.mem_of_getElem? he; simp at this; subst this; rfl)) (.d1 hk) rfl (by omega)
        (hmode.counted hi (by omega) (.inr rfl) _ _) (.inl ⟨by omega, by simp [cnt, hst]⟩)
    · obtain ⟨g', w', es, hgo, ⟨rfl, rfl⟩, hg'⟩ := hstep w (RW.refl w)
      exact idle hgo (.k1 hg') rfl (by omega) (by omega)
  | d1 h =>
    rcases Goes.cases h with hstop | ⟨m', rfl, hstep⟩
    · obtain ⟨_, hall⟩ := hstop w (RW.refl w)
      have hc1 : cnt (D i) = 1 := by simp [cnt, hst]
      have hV1 : 1 ≤ Vc j D := by have := le_sumTo (f := fun x => cnt (D x)) hi; simp only [Vc]; omega
      have bk2 : ∀ e ∈ #[rd (stA L.Wg), wr (stA L.Wg)], Bk L.Wg e := by intro e he; simp at he; rcases he with rfl | rfl <;> exact bk_cell _ _ rfl
      have df2 : ∀ jx e, (#[rd (stA L.Wg), wr (stA L.Wg)] : Array Event)[jx]? = some e → (MemAct.ofEvent e).touch? = none ∨ 0 < deafBehind 1 ((#[rd (stA L.Wg), wr (stA L.Wg)] : Array Event).extract 0 jx) := by
        intro jx e he
        match jx, he with
        | 0, _ => exact .inr (by simp [deafBehind])
        | 1, _ => exact .inr (by simp [deafBehind, rd])
        | jx + 2, he => simp at he
      have hq0 : ∀ q, cnt (⟨1, q, 1⟩ : WD) = 0 := fun _ => rfl
      have opq : ∀ q, OpenSt j D → OpenSt j (upd D i ⟨1, q, 1⟩) := fun q h a ha => by
        by_cases e : a = i
        · subst e; rw [upd_same]; simp
        · rw [upd_ne D _ e]; exact h a ha
      cases hmode with
      | opn h1 h2 h3 =>
        obtain ⟨v, hv⟩ : ∃ v, Vc j D + pend tag = v + 1 := ⟨Vc j D + pend tag - 1, by omega⟩
        rw [hv] at hwg
        have hw1 : WgAt L.ty L.Wg w (((v : Nat) + 1) * KK + ((0 : Nat) : Int)) 0 := by simpa using hwg
        obtain ⟨g', hgo, _, hq⟩ := hall v 0 (by omega) (by omega) hw1
        obtain ⟨q, hq⟩ := hq (by omega)
        have hv' : Vc j (upd D i ⟨1, q, 1⟩) + pend tag = v := by have := Vc_upd D (⟨1, q, 1⟩ : WD) hi; have := hq0 q; omega
        refine book hgo (aside_setCell w (stA L.Wg) _) (hwg.setSt _) bk2 df2 (.quit hq) rfl (by omega) ?_ (.inl ⟨by omega, by simp [cnt]⟩)
        have e : ((v : Nat) : Int) * KK + ((0 : Nat) : Int) = ((Vc j (upd D i ⟨1, q, 1⟩) + pend tag : Nat) : Int) * KK := by rw [hv']; simp
        rw [e]
        exact .opn h1 (opq q h2) (fun vs ev => by have := h3 vs ev; omega)
      | reg h1 h2 h3 =>
        obtain ⟨v, hv⟩ : ∃ v, Vc j D = v + 1 := ⟨Vc j D - 1, by omega⟩
        rw [hv] at hwg
        have hp : pend tag = 0 := by cases tag <;> first | rfl | exact h1.elim
        have hw1 : WgAt L.ty L.Wg w (((v : Nat) + 1) * KK + ((1 : Nat) : Int)) 0 := by simpa using hwg
        obtain ⟨g', hgo, hl, hq⟩ := hall v 1 (by omega) (by omega) hw1
        by_cases hv0 : v = 0
        · subst hv0
          obtain ⟨m₂, hk⟩ := hl ⟨rfl, rfl⟩
          refine book hgo (aside_setCell w (stA L.Wg) _) (hwg.setSt _) bk2 df2 (.d2 hk) rfl (by omega) ?_ (.inl ⟨by omega, by simp [cnt]⟩)
          have hoth : ∀ a, a < j → a ≠ i → (D a).stage = 1 := fun a ha e => by
            have c0 := others_uncounted hi hv hc1 a ha e
            have := h2 a ha
            simp only [cnt] at c0
            split at c0 <;> omega
          have := ConcN.Mode.last (j := j) (D := upd D i ⟨4, m₂, 1⟩) (tag := tag) i h1 hi (by rw [upd_same]; simp) (fun a ha e => by rw [upd_ne D _ e]; exact hoth a ha e)
          rw [upd_same] at this
          simpa using this
        · obtain ⟨q, hq⟩ := hq (by omega)
          have hv' : Vc j (upd D i ⟨1, q, 1⟩) = v := by have := Vc_upd D (⟨1, q, 1⟩ : WD) hi; have := hq0 q; omega
          refine book hgo (aside_setCell w (stA L.Wg) _) (hwg.setSt _) bk2 df2 (.quit hq) rfl (by omega) ?_ (.inl ⟨by omega, by simp [cnt]⟩)
          have e : ((v : Nat) : Int) * KK + ((1 : Nat) : Int) = ((Vc j (upd D i ⟨1, q, 1⟩) : Nat) : Int) * KK + 1 := by rw [hv']; simp
          rw [e]
          exact .reg h1 (opq q h2) (by omega)
      | last L _ h2 h3 h4 =>
        by_cases e : i = L
        · subst e; omega
        · have := h4 i hi e; omega
      | sema h2 => have := h2 i hi; omega
      | fin _ h2 => have := h2 i hi; omega
    · obtain ⟨g', w', es, hgo, ⟨rfl, rfl⟩, hg'⟩ := hstep w (RW.refl w)
      exact idle hgo (.d1 hg') rfl (by omega) (by omega)
  | d2 h =>
    rcases Goes.cases h with hstop | ⟨m', rfl, hstep⟩
    · obtain ⟨_, hx⟩ := hstop w (RW.refl w)
      obtain ⟨hW3, hoth, rfl, rfl⟩ := hmode.isLast hi (by omega)
      simp only [hst] at hwg
      obtain ⟨g', hgo, m₂, hk⟩ := hx (by simpa using hwg)
      refine book hgo (.refl L.Wg w) hwg (by intro e he; simp at he; subst he; exact bk_cell _ _ rfl) (by intro jx e he; match jx, he with | 0, _ => exact .inr (by simp [deafBehind]) | jx + 1, he => simp at he) (.d3 hk) rfl (by omega) ?_ (.inl ⟨by omega, by simp [cnt]⟩)
      have := ConcN.Mode.last (j := j) (D := upd D i ⟨3, m₂, 1⟩) (tag := tag) i hW3 hi (by rw [upd_same]; simp) (fun a ha e => by rw [upd_ne D _ e]; exact hoth a ha e)
      rw [upd_same] at this
      simpa using this
    · obtain ⟨g', w', es, hgo, ⟨rfl, rfl⟩, hg'⟩ := hstep w (RW.refl w)
      exact idle hgo (.d2 hg') rfl (by omega) (by omega)
  | d3 h =>
    rcases Goes.cases h with hstop | ⟨m', rfl, hstep⟩
    · obtain ⟨_, hx⟩ := hstop w (RW.refl w)
      obtain ⟨hW3, hoth, rfl, rfl⟩ := hmode.isLast hi (by omega)
      simp only [hst] at hwg
      obtain ⟨g', hgo, m₂, hk⟩ := hx (by simpa using hwg)
      refine book hgo (aside_setCell w (stA L.Wg) _) (hwg.setSt 0) (by intro e he; simp at he; subst he; exact bk_cell _ _ rfl) (by intro jx e he; match jx, he with | 0, _ => exact .inr (by simp [deafBehind]) | jx + 1, he => simp at he) (.d4 hk) rfl (by omega) ?_ (.inl ⟨by omega, by simp [cnt]⟩)
      have := ConcN.Mode.last (j := j) (D := upd D i ⟨2, m₂, 1⟩) (tag := tag) i hW3 hi (by rw [upd_same]; simp) (fun a ha e => by rw [upd_ne D _ e]; exact hoth a ha e)
      rw [upd_same] at this
      simpa using this
    · obtain ⟨g', w', es, hgo, ⟨rfl, rfl⟩, hg'⟩ := hstep w (RW.refl w)
      exact idle hgo (.d3 hg') rfl (by omega) (by omega)
  | d4 h =>
    rcases Goes.cases h with hstop | ⟨m', rfl, hstep⟩
    · obtain ⟨_, hmw, hx⟩ := hstop w (RW.refl w)
      obtain ⟨hW3, hoth, rfl, rfl⟩ := hmode.isLast hi (by omega)
      simp only [hst] at hwg
      obtain ⟨g', hgo, q, hq⟩ := hx (by simpa using hwg)
      have hrun' : g'.status = .running := by
        cases q with
        | zero => exact absurd hq.2 (by decide)
        | succ q => exact hq.elim (fun x => absurd x.2 (by decide)) (fun x => x.1)
      refine bookG hgo (aside_setCell w (smA L.Wg) _) (hwg.setSm 1) (es := semEvents (smA L.Wg)) ?_ ?_ (.quit hq) (by simp [deafBehind, semEvents]) (by omega) ?_ (.inl ⟨by omega, by simp [cnt]⟩)
      · intro e he
        simp [semEvents] at he
        rcases he with rfl | rfl | rfl | rfl
        · exact .inl rfl
        · exact bk_cell _ _ rfl
        · exact bk_cell _ _ rfl
        · exact .inr (.inl rfl)
      · intro jx e he
        match jx, he with
        | 0, he => simp [semEvents] at he; subst he; exact .inl rfl
        | 1, _ => exact .inr (by simp [deafBehind, semEvents])
        | 2, _ => exact .inr (by simp [deafBehind, semEvents])
        | 3, he => simp [semEvents] at he; subst he; exact .inl rfl
        | jx + 4, he => simp [semEvents] at he
      · intro tag' ht hw
        have hnb := hw hmw hrun'
        have e3 : tag' = .w3 := by
          rcases ht with rfl | ⟨_, rfl⟩
          · cases tag' <;> first | rfl | exact hW3.elim | exact absurd rfl hnb
          · rfl
        subst e3
        simp only [if_true]
        exact .sema fun a ha => by
          by_cases e : a = i
          · subst e; rw [upd_same]
          · rw [upd_ne D _ e]; exact hoth a ha e
    · obtain ⟨g', w', es, hgo, ⟨rfl, rfl⟩, hg'⟩ := hstep w (RW.refl w)
      exact idle hgo (.d4 hg') rfl (by omega) (by omega)
  | quit h =>
    cases m with
    | zero => rw [h.1] at hrun; cases hrun
    | succ qn =>
      rcases h with ⟨hf, _⟩ | ⟨_, g', es, hmute, hstep, hq⟩
      · rw [hf] at hrun; cases hrun
      · have hbk : ∀ e ∈ es, Bk L.Wg e := fun e he => bk_of_mute (hmute e he)
        have hno : ∀ jx e, es[jx]? = some e → (MemAct.ofEvent e).touch? = none ∨ 0 < deafBehind dd (es.extract 0 jx) := fun jx e he => .inl (by
          rcases bk_of_mute (Wg := L.Wg) (hmute e (Array.mem_of_getElem? he)) with h1 | h1 | ⟨a, wr, rfl, _⟩
          · rw [ofEvent_loc_mark h1]; rfl
          · rw [ofEvent_loc_mark h1]; rfl
          · have := hmute _ (Array.mem_of_getElem? he); simp [Event.mute] at this)
        exact book (hstep w) (.refl L.Wg w) hwg hbk hno (.quit hq) rfl (by omega) (by have := hmode.same (i := i) qn (deafBehind dd es); rwa [hst] at this) (.inr ⟨rfl, Nat.le_refl _⟩)
/-- WORKER NUMBER i's STEP. -/
theorem stepWorker2 (hL : L.Ok) (hX : XOk L X) (hAr : ∀ g w, AnchW g w → g.status = .running) (hn : L.n < 2147483648)
    (ha : gs[0]? = some a) (hss : SS P L X M K val vals Anch AnchW tag j f0 d0 Lw a w) (hcom : Com2 P L X J M K val j gs w t D H Lo R d0 Lw q) (hwg : WgAt L.ty L.Wg w st sm) (hmode : ConcN.Mode j D tag st sm)
    {i : Nat} (hi : i < j) {g : Goroutine} (hg : gs[J + 1 + i]? = some g) (hrun : g.status = .running) :
    Moves P L X J M K val vals Anch AnchW gs w sl t (J + 1 + i) (phi L.n (Vc j D) tag + Ssum j D, f0 + 2 * Fsum j D + 2 * sumTo (J + 1) q) := by
  obtain ⟨g₁, hg₁, hs⟩ := hcom.wk i hi
  obtain rfl : g = g₁ := by rw [hg] at hg₁; exact Option.some.inj hg₁
  generalize hst : (D i).stage = s at hs
  generalize hfu : (D i).fuel = m at hs
  generalize hde : (D i).deaf = dd at hs
  generalize hHi : H i = bb at hs
  have hW := hcom.wgLive hL
  have hC : L.C < w.heap.size := Nat.lt_of_lt_of_le hL.hC hcom.n0
  have idle : ∀ {g' : Goroutine} {w' : World} {es : Array Event} {m' : Nat}, (D i).stage = 7 → (D i).deaf = 0 → stepG P false g w = .go g' w' es → DX L (R i) (H i) i w w' es → WS P L M K (Lo i) (R i) i (val i) (H i) 7 m' 0 g' w' → m' + 1 ≤ (D i).fuel →
      Moves P L X J M K val vals Anch AnchW gs w sl t (J + 1 + i) (phi L.n (Vc j D) tag + Ssum j D, f0 + 2 * Fsum j D + 2 * sumTo (J + 1) q) := by
    intro g' w' es m' hst hde hgo hD hs' hm
    have hbh : ∀ r, H i = some r → Half L w r := fun r hr => (hcom.hf i r hr).2.1
    have eup : upd H i (H i) = H := by
      funext x
      by_cases hx : x = i
      · rw [hx, upd_same]
      · rw [upd_ne H _ hx]
    refine workerStep2 hL hX hAr ha hss hcom hi hg hgo (.inl rfl) (fun h => absurd rfl h) (fun b _ => hD.half' b) (RQ.of_DX hL hD hbh) (fun i' hi' e => RX.of_DX hL hD hbh e fun r hr => ⟨fun x => e (hcom.hinj _ _ _ hr x), (hcom.own_ne hL hr).1⟩) hs'
      (fun H2 e2 => okW_EvX (by rw [e2, eup]) hD.evs) (EvX.low hD.evs) (EvX.norel hD.evs) (EvX.pl hD.evs) (by rw [hde]; exact deafBehind_idle (EvX.still hD.evs) 0) (fun h => by omega) (fun h => by omega) (hD.pay hcom.pay)
      (hwg.of_block (hD.block L.Wg (Ne.symm hL.hCW) fun x => (hcom.own_ne hL x).2 rfl)) (fun _ ht _ => Mode.retag (by have := hmode.same (i := i) m' 0; rwa [hst] at this) ht) (.inr ⟨hst.symm, hm⟩)
  cases hs with
  | pre h =>
    rcases Goes.cases h with hstop | ⟨m', rfl, hstep⟩
    · obtain ⟨_, g', cs, hgo, hk⟩ := hstop w (RX.refl w)
      refine workerStep2 hL hX hAr ha hss hcom hi hg hgo (H' := some w.heap.size) (.inr ⟨hHi, rfl, half_alloc w cs hcom.n0⟩) (fun _ => by rw [World.size_alloc]; omega) (fun b hb hh => ⟨hh.1, hh.2.imp fun cs x => by rwa [Below.heap_alloc _ _ _ hb] at x⟩)
        (RQ.of_alloc w _ hW hC) (fun i' hi' e => RX.of_alloc w _ hW hC fun r hr => (hcom.hf i' r hr).2.2) (.post hk)
        (fun _ _ op hop => by simp [MemOp.ofEvents] at hop) (by simp) (by simp) (by simp) (by rw [hde]; rfl) (fun h => by omega) (fun h => by omega) (let ⟨cs, h1, h2⟩ := hcom.pay; ⟨cs, (Below.heap_alloc _ _ _ hC).trans h1, h2⟩) (hwg.of_block (Below.heap_alloc _ _ _ hW)) (fun _ ht _ => Mode.retag (by have := hmode.same (i := i) (M + 1 + K) 0; rwa [hst] at this) ht) (.inr ⟨hst.symm, by omega⟩)
    · obtain ⟨g', w', es, hgo, hD, hg'⟩ := hstep w (RX.refl w)
      rw [← hHi] at hD hg'
      exact idle hst hde hgo hD (by rw [hHi] at hg' ⊢; exact .pre hg') (by omega)
  | post h =>
    rename_i b m0
    rcases Goes.cases h with hstop | ⟨m', rfl, hstep⟩
    · exact libStep2 hL hX hAr hn ha hss hcom hwg hmode hi hg hrun hst (m := K) (by omega) hde (.r0 (by simpa [AtEnd1] using hstop w (RX.refl w)))
    · obtain ⟨g', w', es, hgo, hD, hg'⟩ := hstep w (RX.refl w)
      rw [← hHi] at hD hg'
      exact idle hst hde hgo hD (by rw [hHi] at hg' ⊢; exact .post hg') (by omega)
  | lib h => exact libStep2 hL hX hAr hn ha hss hcom hwg hmode hi hg hrun hst (m := m) (by omega) hde h
end
end Go.Proofs.Ytoipkpndfgcmcaa.Crew

/-
  n workers at once and their starter beside older ones that only leave: the starter's step; from the loop that starts them to the moment behind Wait, on every tape. The conditions stand in each theorem. No program in sight.
-/
namespace Go.Proofs.Ytoipkpndfgcmcaa.Crew
open Go Go.Conc Go.ConcN Go.RowKit Go.Proofs.Ytoipkpndfgcmcaa.Veils
open Go.ConcR (KK wgBlock WgAt stA smA rd wr mk Payload DC0 Bk g_of_ofEvents bk_of_mute ofEvent_loc_mark ofEvent_cell deafBehind_cons deafBehind_one ofEvent_mk)
set_option linter.unusedVariables false
set_option linter.unusedSectionVars false
variable [Payload]
section
variable (P : Program) (L : Lay) (X : Nat → Prop) (J : Nat) (Anch : Goroutine → World → Prop)
/-- Behind the join: all others only leave; all is handed over. -/
def Ended (m : Machine) (t : Trace) : Prop :=
  ∃ (gs : Array Goroutine) (a : Goroutine) (w : World) (sl : Option (Nat × Nat)) (q : Nat → Nat), m = crowd gs w sl ∧ gs.size = J + L.n + 1 ∧ gs[0]? = some a ∧ a.status = .running ∧ Anch a w ∧ Leavers P t gs q ∧ Past2 X w.heap.size (J + L.n) t
end
section
variable {P : Program} {L : Lay} {X : Nat → Prop} {J M K : Nat} {val : Nat → Value} {vals : List Value} {Anch AnchW : Goroutine → World → Prop} {j : Nat} {gs : Array Goroutine} {w w' : World} {sl : Option (Nat × Nat)} {t : Trace} {D : Nat → WD} {H : Nat → Option Nat} {Lo : Nat → Nat} {R : Nat → Nat → Prop} {d0 Lw : Nat} {q : Nat → Nat} {tag : CTag} {f0 : Nat} {a a' : Goroutine} {st sm : Int}
theorem WS.quits {Low i : Nat} {Rd : Nat → Prop} {v : Value} {b : Option Nat} {s m d : Nat} {g : Goroutine} (h : WS P L M K Low Rd i v b s m d g w) (hs : s = 1) : QuitsD P m d g := by
  cases h with
  | pre _ => cases hs
  | post _ => cases hs
  | lib h => exact h.quits hs
/-- BEHIND THE JOIN. -/
theorem ended_of (hL : L.Ok) (hX : XOk L X) (hcom : Com2 P L X J M K val L.n gs w t D H Lo R 0 Lw q) (ha : gs[0]? = some a) (hrun : a.status = .running) (hq : AllQuit L.n D) (hgo : stepG P true a w = .go a' w #[mk (.acquire (stA L.Wg))]) (hr' : a'.status = .running) (hA : Anch a' w) :
    ∃ m₁ ops, runT P (crowd gs w sl) 0 = (.next m₁, ops) ∧ Ended P L X J Anch m₁ (t ++ ops) := by
  have hrunT := runT_crowd_go (P := P) (sl := sl) (i := 0) ha (by simpa using hgo)
  have hnt : ∀ op ∈ MemOp.ofEvents 0 a.frame.fn a.frame.place #[mk (.acquire (stA L.Wg))], op.g = 0 ∧ op.act = .mark (.acquire (stA L.Wg)) := fun op hop => by
    obtain ⟨e, he, rfl⟩ := Go.Conc.mem_ofEvents hop
    simp at he
    subst he
    exact ⟨rfl, rfl⟩
  have hcom' := hcom.step0 hL hX (a := a) (a' := a') (fn := a.frame.fn) (pos := a.frame.place) (es := #[mk (.acquire (stA L.Wg))]) (Nat.le_refl _) (fun _ h => h) (fun _ _ h => h) (fun i _ => RX.refl w) (fun op hop => ⟨(hnt op hop).1, fun x hx => by rw [(hnt op hop).2] at hx; cases hx⟩) (by intro e he; simp at he; subst he; exact LowT.none rfl) (by intro e he; simp at he; subst he; simp [mk]) hcom.pay
  refine ⟨_, _, hrunT, ?_⟩
  have e1 : MemOp.ofEvents 0 a.frame.fn a.frame.place #[mk (.acquire (stA L.Wg))] = #[{ g := 0, fn := a.frame.fn, pos := a.frame.place, act := .mark (.acquire (stA L.Wg)) }] := by rw [ofEvents_eq]; simp [ofEvent_mk]
  have hy : (t ++ MemOp.ofEvents 0 a.frame.fn a.frame.place #[mk (.acquire (stA L.Wg))])[t.size]? = some { g := 0, fn := a.frame.fn, pos := a.frame.place, act := .mark (.acquire (stA L.Wg)) } := by rw [e1]; simp
  have hh : (t ++ MemOp.ofEvents 0 a.frame.fn a.frame.place #[mk (.acquire (stA L.Wg))]).heard t.size := ⟨0, by simp [Trace.g?, hy], by rw [deaf_old (Nat.le_refl _)]; exact hcom.deaf0⟩
  generalize ht' : t ++ MemOp.ofEvents 0 a.frame.fn a.frame.place #[mk (.acquire (stA L.Wg))] = t' at hy hh hcom' ⊢
  have hin : ∀ i g, t'.g? i = some g → J < g → t'.counts i → HappensBefore t' i t.size := by
    intro i g hg hJ hc
    obtain ⟨op, hop, rfl⟩ := Option.map_eq_some_iff.1 hg
    have hle := hcom'.ct.gs i op hop
    obtain ⟨r, hr⟩ := hcom.rel (op.g - (J + 1)) (by omega) (by rw [hq _ (by omega)]; omega)
    have hrt : r < t.size := lt_of_act? hr.1.act
    obtain ⟨hrb, hrn⟩ : RelN (stA L.Wg) t' (J + 1 + (op.g - (J + 1))) r := ht' ▸ hr.app (hr.1.appOther (fun op hop => (hnt op hop).1) (by omega)) (fun op hop => by rw [(hnt op hop).2]; simp)
    have edge : HappensBefore t' r t.size := .single (.inr ⟨.marked hrt (.inr hrb.act) (act?_of hy) (fun k h1 _ => hrn k h1), hrb.heard, hh⟩)
    have hg1 : t'.g? i = some (J + 1 + (op.g - (J + 1))) := by rw [hg]; congr 1; omega
    have hle : i ≤ r := Nat.le_of_not_lt fun hlt => hrb.after i hlt hg1 hc
    rcases Nat.lt_or_ge i r with hlt | hge
    · exact .trans (.single (.inl ⟨hlt, _, hg1, hrb.g⟩)) edge
    · obtain rfl : i = r := by omega
      exact edge
  have hkn : ∀ i x, touchAt t' i = some x → ¬ ShX X x.loc → Knows t' 0 i := fun i x hx hs => by
    rcases hcom'.kn i x hx hs with h1 | ⟨g, h1, h2, h3⟩
    · exact h1
    · exact ⟨t.size, _, hy, rfl, .inr (hin i g h1 h2 h3)⟩
  refine ⟨_, a', w, sl, fun i => if i ≤ J then q i else (D (i - (J + 1))).fuel, rfl, by have := hcom'.size; omega, get_map_set_same _ _ _ (by rw [hcom.size]; omega), hr', hA, ⟨fun i g hi hg => ?_, fun i hi => ?_⟩, ⟨⟨hcom'.ct.quiet, fun _ _ _ _ h => h.elim, fun _ _ _ _ h => h.elim, fun l hs _ i x hx he => hkn i x hx (he ▸ hs), fun l hs _ i x hx he _ => hkn i x hx (he ▸ hs), hcom'.ct.nr, hcom'.ct.gs⟩, fun i g hg hne hc => ?_, ?_, hcom'.seen⟩⟩
  · by_cases hJ : i ≤ J
    · simp only [if_pos hJ]
      exact hcom'.old i g hi hJ hg
    · simp only [if_neg hJ]
      have hlt := (Array.getElem?_eq_some_iff.1 hg).1
      rw [hcom'.size] at hlt
      obtain ⟨i', rfl⟩ : ∃ i', i = J + 1 + i' := ⟨i - (J + 1), by omega⟩
      obtain ⟨g', hg', hs⟩ := hcom'.wk i' (by omega)
      rw [hg] at hg'
      cases hg'
      rw [show J + 1 + i' - (J + 1) = i' by omega, hcom'.deafW i' (by omega)]
      exact hs.quits (hq i' (by omega))
  · rw [hcom'.size] at hi
    exact Deaf_absent fun x op hx e => by have := hcom'.ct.gs x op hx; omega
  · rcases Nat.lt_or_ge J g with hJ | hJ
    · exact ⟨t.size, by simp [Trace.g?, hy], hin i g hg hJ hc⟩
    · exact hcom'.over i g hg hne hJ hc
  · exact hcom'.deaf0
/-- THE LOAD IN Wait. -/
theorem lookStep (hL : L.Ok) (hX : XOk L X) (hn : L.n < 2147483648) (ha : gs[0]? = some a) (hcom : Com2 P L X J M K val L.n gs w t D H Lo R 1 Lw q) (hwg : WgAt L.ty L.Wg w st sm) (hmode : ConcN.Mode L.n D .w1 st sm)
    (h : GQ P L X Lw (AtLook P L X vals Anch AnchW Lw) f0 a w) :
    Moves P L X J M K val vals Anch AnchW gs w sl t 0 (phi L.n (Vc L.n D) .w1 + Ssum L.n D, f0 + 2 * Fsum L.n D + 2 * sumTo (J + 1) q) := by
  rcases Goes.cases h with hstop | ⟨m', rfl, hstep⟩
  · obtain ⟨_, hall⟩ := hstop w (.refl w)
    obtain ⟨ho, rfl, rfl, _⟩ := hmode.open_inv trivial
    have hV := Vc_le L.n D
    obtain ⟨a', hgo, h0, hne⟩ := hall (Vc L.n D) (by omega) (by simpa [pend] using hwg)
    by_cases hv : Vc L.n D = 0
    · obtain ⟨m₂, hk⟩ := h0 hv
      refine bookQ hL hX ha hcom hgo (.refl L.Wg w) hwg bk_rd (.back hk) ?_ (.inl (by simp only [phi]; omega))
      have e : ((Vc L.n D + pend .w1 : Nat) : Int) * KK = 0 := by rw [hv]; simp [pend]
      rw [e]
      exact .fin trivial (allQuit_of ho hv)
    · obtain ⟨m₂, hk⟩ := hne hv
      exact bookQ hL hX ha hcom hgo (.refl L.Wg w) hwg bk_rd (.swap hk) (hmode.reopen trivial trivial rfl (fun vs e => by cases e; omega)) (.inl (by simp only [phi]; omega))
  · obtain ⟨a', w', es, hgo, hD, hg'⟩ := hstep w (.refl w)
    exact idleQ hL hX ha hcom hwg hmode hgo hD (.look hg') (by omega)
set_option maxHeartbeats 1600000 in
/-- THE STARTER's STEP. -/
theorem stepCaller2 (hL : L.Ok) (hX : XOk L X) (hn : L.n < 2147483648)
    (hAn : ∀ Lw g w, AnchW g w → ∃ m, GQ P L X Lw (AtLook P L X vals Anch AnchW Lw) m g w)
    (hl : vals.length = L.n) (hv : ∀ i, i < L.n → vals[i]? = some (val i))
    (ha : gs[0]? = some a) (hss : SS P L X M K val vals Anch AnchW tag j f0 d0 Lw a w) (hcom : Com2 P L X J M K val j gs w t D H Lo R d0 Lw q) (hwg : WgAt L.ty L.Wg w st sm) (hmode : ConcN.Mode j D tag st sm) (hrun : a.status = .running) :
    (∃ m₁ ops, runT P (crowd gs w sl) 0 = (.next m₁, ops) ∧ Ended P L X J Anch m₁ (t ++ ops)) ∨
    Moves P L X J M K val vals Anch AnchW gs w sl t 0 (phi L.n (Vc j D) tag + Ssum j D, f0 + 2 * Fsum j D + 2 * sumTo (J + 1) q) := by
  have hVj := Vc_le j D
  cases hss with
  | off hr h =>
    rcases Goes.cases h with hstop | ⟨m', rfl, hstep⟩
    · obtain ⟨_, a', hgo, m₂, hk⟩ := hstop w (.refl w)
      exact .inr (bookQ hL hX ha hcom hgo (.refl L.Wg w) hwg bk_dis (.up hr hk) (hmode.reopen trivial trivial rfl (by simp)) (.inl (by simp only [phi]; omega)))
    · obtain ⟨a', w', es, hgo, hD, hg'⟩ := hstep w (.refl w)
      exact .inr (idleQ hL hX ha hcom hwg hmode hgo hD (.off hr hg') (by omega))
  | up hr h =>
    rename_i r
    rcases Goes.cases h with hstop | ⟨m', rfl, hstep⟩
    · obtain ⟨_, hall⟩ := hstop w (.refl w)
      obtain ⟨ho, rfl, rfl, _⟩ := hmode.open_inv trivial
      obtain ⟨a', hgo, m₂, hk⟩ := hall (Vc (L.n - (r + 1)) D) (by omega) (by simpa [pend] using hwg)
      refine .inr (bookQ hL hX ha hcom hgo (aside_setCell w (stA L.Wg) _) (hwg.setSt _) bk_rw (.on hr hk) ?_ (.inl (by simp only [phi]; omega)))
      have e : (((Vc (L.n - (r + 1)) D : Nat) : Int) + 1) * KK = ((Vc (L.n - (r + 1)) D + pend (.sp r 3) : Nat) : Int) * KK := by simp [pend]
      rw [e]
      exact .opn trivial ho (by simp)
    · obtain ⟨a', w', es, hgo, hD, hg'⟩ := hstep w (.refl w)
      exact .inr (idleQ hL hX ha hcom hwg hmode hgo hD (.up hr hg') (by omega))
  | on hr h =>
    rcases Goes.cases h with hstop | ⟨m', rfl, hstep⟩
    · obtain ⟨_, a', hgo, m₂, hk⟩ := hstop w (.refl w)
      exact .inr (bookQ hL hX ha hcom hgo (.refl L.Wg w) hwg bk_en (.go hr hk) (hmode.reopen trivial trivial rfl (by simp)) (.inl (by simp only [phi]; omega)))
    · obtain ⟨a', w', es, hgo, hD, hg'⟩ := hstep w (.refl w)
      exact .inr (idleQ hL hX ha hcom hwg hmode hgo hD (.on hr hg') (by omega))
  | go hr h =>
    rename_i r
    rcases Goes.cases h with hstop | ⟨m', rfl, hstep⟩
    · obtain ⟨_, a', child, Rd, hsp, _, hRd, hwk0, hnext⟩ := hstop w (.refl w)
      obtain ⟨m₂, hwk⟩ := hwk0 hcom.pay
      obtain ⟨ho, rfl, rfl, _⟩ := hmode.open_inv trivial
      have hrun' := runT_crowd_spawn (P := P) (sl := sl) (i := 0) ha (by simpa using hsp)
      rw [hcom.size] at hrun'
      have hcom' := hcom.spawn hL hX (a' := a') (x := { g := 0, fn := a.frame.fn, pos := a.frame.place, act := .go (J + 1 + (L.n - (r + 1))) }) (y := { g := J + 1 + (L.n - (r + 1)), fn := child.frame.fn, pos := a.frame.place, act := .start }) ⟨rfl, rfl⟩ ⟨rfl, rfl⟩ hRd hwk
      generalize m₂ + 1 + (M + 1 + K) = m₂ at hcom'
      have eV : Vc (L.n - (r + 1) + 1) (upd D (L.n - (r + 1)) ⟨7, m₂, 0⟩) = Vc (L.n - (r + 1)) D + 1 := by
        simp only [Vc, sumTo, upd_same]
        rw [sumTo_upd_out D _ cnt (Nat.le_refl _)]; rfl
      have eS : Ssum (L.n - (r + 1) + 1) (upd D (L.n - (r + 1)) ⟨7, m₂, 0⟩) = Ssum (L.n - (r + 1)) D + 7 := by
        simp only [Ssum, sumTo, upd_same]
        rw [sumTo_upd_out D _ WD.stage (Nat.le_refl _)]
      have ho' : OpenSt (L.n - (r + 1) + 1) (upd D (L.n - (r + 1)) ⟨7, m₂, 0⟩) := fun i hi => by
        by_cases e : i = L.n - (r + 1)
        · subst e; rw [upd_same]; simp
        · rw [upd_ne D _ e]; exact ho i (by omega)
      have ha' : ((gs.setIfInBounds 0 a').push child)[0]? = some a' := by
        rw [Array.getElem?_push_lt (by simp [hcom.size]; omega), ← Array.getElem?_eq_getElem, Array.getElem?_setIfInBounds_self_of_lt (by rw [hcom.size]; omega)]
      have ej : L.n - (r + 1) + 1 = L.n - r := by omega
      rw [ej] at hcom' eV eS ho'
      have est : ∀ tag', pend tag' = 0 → ((Vc (L.n - (r + 1)) D + pend (.sp r 2) : Nat) : Int) * KK = ((Vc (L.n - r) (upd D (L.n - (r + 1)) ⟨7, m₂, 0⟩) + pend tag' : Nat) : Int) * KK := fun tag' hp => by rw [eV, hp]; simp [pend]
      cases r with
      | zero =>
        obtain ⟨m₃, hk⟩ := hnext
        simp only [Nat.sub_zero] at hrun' hcom' eV eS ho' est
        refine .inr ⟨_, _, (phi L.n (Vc L.n (upd D (L.n - (0 + 1)) ⟨7, m₂, 0⟩)) .kd + Ssum L.n (upd D (L.n - (0 + 1)) ⟨7, m₂, 0⟩), m₃ + 2 * Fsum L.n (upd D (L.n - (0 + 1)) ⟨7, m₂, 0⟩) + 2 * sumTo (J + 1) q), hrun', Prod.Lex.left _ _ (by simp only [phi]; omega),
          _, w, sl, L.n, _, _, _, _, q, .kd, m₃, 0, _, a', _, _, rfl, ha', .in_ hk, hcom', hwg, ?_, rfl⟩
        rw [est .kd rfl]
        exact .opn trivial ho' (by simp)
      | succ r' =>
        obtain ⟨m₃, hk⟩ := hnext
        refine .inr ⟨_, _, (phi L.n (Vc (L.n - (r' + 1)) (upd D (L.n - (r' + 1 + 1)) ⟨7, m₂, 0⟩)) (.sp r' 5) + Ssum (L.n - (r' + 1)) (upd D (L.n - (r' + 1 + 1)) ⟨7, m₂, 0⟩), m₃ + 2 * Fsum (L.n - (r' + 1)) (upd D (L.n - (r' + 1 + 1)) ⟨7, m₂, 0⟩) + 2 * sumTo (J + 1) q), hrun', Prod.Lex.left _ _ (by simp only [phi]; omega),
          _, w, sl, L.n - (r' + 1), _, _, _, _, q, .sp r' 5, m₃, 0, _, a', _, _, rfl, ha', .off (by omega) hk, hcom', hwg, ?_, rfl⟩
        rw [est (.sp r' 5) rfl]
        exact .opn trivial ho' (by simp)
    · obtain ⟨a', w', es, hgo, hD, hg'⟩ := hstep w (.refl w)
      exact .inr (idleQ hL hX ha hcom hwg hmode hgo hD (.go hr hg') (by omega))
  | in_ h =>
    rcases Goes.cases h with hstop | ⟨m', rfl, hstep⟩
    · obtain ⟨_, a', hgo, m₂, hk⟩ := hstop w (.refl w)
      exact .inr (bookQ hL hX ha hcom hgo (.refl L.Wg w) hwg bk_dis (.anch hk) (hmode.reopen trivial trivial rfl (by simp)) (.inl (by simp only [phi]; omega)))
    · obtain ⟨a', w', es, hgo, hD, hg'⟩ := hstep w (.refl w)
      exact .inr (idleQ hL hX ha hcom hwg hmode hgo hD (.in_ hg') (by omega))
  | anch h =>
    rcases Goes.cases h with hstop | ⟨m', rfl, hstep⟩
    · obtain ⟨m₂, hk⟩ := hAn Lw a w (hstop w (.refl w))
      obtain ⟨m₁, ops, μ', h1, h2, h3⟩ := lookStep (sl := sl) hL hX hn ha hcom hwg (hmode.reopen trivial trivial rfl (by simp)) hk
      exact .inr ⟨m₁, ops, μ', h1, lt2_trans h2 (Prod.Lex.left _ _ (by simp only [phi]; omega)), h3⟩
    · obtain ⟨a', w', es, hgo, hD, hg'⟩ := hstep w (.refl w)
      exact .inr (idleQ hL hX ha hcom hwg hmode hgo hD (.anch hg') (by omega))
  | look h => exact .inr (lookStep hL hX hn ha hcom hwg hmode h)
  | swap h =>
    rename_i vs
    rcases Goes.cases h with hstop | ⟨m', rfl, hstep⟩
    · obtain ⟨_, hall⟩ := hstop w (.refl w)
      obtain ⟨ho, rfl, rfl, hw2⟩ := hmode.open_inv trivial
      obtain ⟨hle, h1⟩ := hw2 vs rfl
      obtain ⟨hhit, hmiss⟩ := hall (Vc L.n D) (by omega) (by simpa [pend] using hwg)
      by_cases e : Vc L.n D = vs
      · obtain ⟨a', hgo, m₂, hk⟩ := hhit e
        exact .inr (bookQ hL hX ha hcom hgo (aside_setCell w (stA L.Wg) _) (hwg.setSt _) bk_rw (.sem hk) (.reg trivial ho (by omega)) (.inl (by simp only [phi]; omega)))
      · obtain ⟨a', hgo, m₂, hk⟩ := hmiss e
        exact .inr (bookQ hL hX ha hcom hgo (.refl L.Wg w) hwg bk_rd (.anch hk) (hmode.reopen trivial trivial rfl (by simp)) (.inl (by simp only [phi]; omega)))
    · obtain ⟨a', w', es, hgo, hD, hg'⟩ := hstep w (.refl w)
      exact .inr (idleQ hL hX ha hcom hwg hmode hgo hD (.swap hg') (by omega))
  | sem h =>
    rcases Goes.cases h with hstop | ⟨m', rfl, hstep⟩
    · obtain ⟨_, hoff, hblk, htake⟩ := hstop w (.refl w)
      cases hmode with
      | opn h1 _ _ => exact h1.elim
      | reg h1 h2 h3 => exact .inr (bookQ hL hX ha hcom (hblk ⟨_, hwg⟩) (.refl L.Wg w) hwg (by simp) (.blk hstop) (.reg trivial h2 h3) (.inr ⟨rfl, by omega⟩))
      | last La h1 h2 h3 h4 => exact .inr (bookQ hL hX ha hcom (hblk ⟨_, hwg⟩) (.refl L.Wg w) hwg (by simp) (.blk hstop) (.last La trivial h2 h3 h4) (.inr ⟨rfl, by omega⟩))
      | sema h2 =>
        obtain ⟨a', hgo, m₂, hk⟩ := htake hwg
        exact .inr (bookQ hL hX ha hcom hgo (aside_setCell w (smA L.Wg) _) (hwg.setSm 0) bk_sem (.last hk) (.fin trivial h2) (.inl (by simp only [phi]; omega)))
      | fin h1 _ => exact h1.elim
    · obtain ⟨a', w', es, hgo, hD, hg'⟩ := hstep w (.refl w)
      exact .inr (idleQ hL hX ha hcom hwg hmode hgo hD (.sem hg') (by omega))
  | blk h => simp at hrun
  | last h =>
    rcases Goes.cases h with hstop | ⟨m', rfl, hstep⟩
    · obtain ⟨_, hx⟩ := hstop w (.refl w)
      obtain ⟨hq, rfl, rfl⟩ := hmode.fin_inv trivial
      obtain ⟨a', hgo, m₂, hk⟩ := hx hwg
      exact .inr (bookQ hL hX ha hcom hgo (.refl L.Wg w) hwg bk_rd (.back hk) (.fin trivial hq) (.inl (by simp only [phi]; omega)))
    · obtain ⟨a', w', es, hgo, hD, hg'⟩ := hstep w (.refl w)
      exact .inr (idleQ hL hX ha hcom hwg hmode hgo hD (.last hg') (by omega))
  | back h =>
    rcases Goes.cases h with hstop | ⟨m', rfl, hstep⟩
    · obtain ⟨_, a', hgo, m₂, hk⟩ := hstop w (.refl w)
      obtain ⟨hq, rfl, rfl⟩ := hmode.fin_inv trivial
      exact .inr (bookQ hL hX ha hcom hgo (.refl L.Wg w) hwg bk_en (.hear hk) (.fin trivial hq) (.inl (by simp only [phi]; omega)))
    · obtain ⟨a', w', es, hgo, hD, hg'⟩ := hstep w (.refl w)
      exact .inr (idleQ hL hX ha hcom hwg hmode hgo hD (.back hg') (by omega))
  | hear h =>
    rcases Goes.cases h with hstop | ⟨m', rfl, hstep⟩
    · obtain ⟨_, a', hgo, hfin⟩ := hstop w (.refl w)
      obtain ⟨hq, rfl, rfl⟩ := hmode.fin_inv trivial
      obtain ⟨hr', hA⟩ := hfin (full_of hl hv hcom.pay fun i hi => hcom.has i hi (by rw [hq i hi]; omega))
      exact .inl (ended_of hL hX hcom ha hrun hq hgo hr' hA)
    · obtain ⟨a', w', es, hgo, hD, hg'⟩ := hstep w (.refl w)
      exact .inr (idleQ hL hX ha hcom hwg hmode hgo hD (.hear hg') (by omega))
theorem SS.f_awake (hAr : ∀ g w, AnchW g w → g.status = .running) (hss : SS P L X M K val vals Anch AnchW tag j f0 d0 Lw a w) (ha : gs[0]? = some a) (hcom : Com2 P L X J M K val j gs w t D H Lo R d0 Lw q) : ∀ g ∈ gs, awake g := by
  intro g hg tm
  obtain ⟨i, hi⟩ := Array.mem_iff_getElem?.1 hg
  rcases Nat.eq_zero_or_pos i with rfl | hp
  · rw [ha] at hi; cases hi
    rcases hss.status hAr with ⟨hs, _⟩ | ⟨hs, _⟩ <;> rw [hs] <;> simp
  · by_cases hJ : i ≤ J
    · rcases (hcom.old i g hp hJ hi).status with h | h <;> rw [h] <;> simp
    · have hlt := (Array.getElem?_eq_some_iff.1 hi).1
      rw [hcom.size] at hlt
      obtain ⟨i', rfl⟩ : ∃ i', i = J + 1 + i' := ⟨i - (J + 1), by omega⟩
      obtain ⟨g', hg', hs⟩ := hcom.wk i' (by omega)
      rw [hi] at hg'; cases hg'
      rcases hs.status (hcom.lo i' (by omega)).1 hcom.n0 with h | h <;> rw [h] <;> simp
/-- NO DEADLOCK. -/
theorem someone_runs2 (hAr : ∀ g w, AnchW g w → g.status = .running) (ha : gs[0]? = some a) (hss : SS P L X M K val vals Anch AnchW tag j f0 d0 Lw a w) (hcom : Com2 P L X J M K val j gs w t D H Lo R d0 Lw q) (hmode : ConcN.Mode j D tag st sm) :
    ∃ (i : Nat) (g : Goroutine), gs[i]? = some g ∧ g.status = .running := by
  rcases hss.status hAr with ⟨hs, _⟩ | ⟨_, rfl⟩
  · exact ⟨0, a, ha, hs⟩
  · cases hmode with
    | opn h1 _ _ => exact h1.elim
    | reg _ _ h3 =>
      obtain ⟨i, hi, h5⟩ := exists_counted h3
      obtain ⟨g, hg, hs⟩ := hcom.wk i hi
      exact ⟨J + 1 + i, g, hg, hs.running (by omega)⟩
    | last La _ h2 h3 _ =>
      obtain ⟨g, hg, hs⟩ := hcom.wk La h2
      exact ⟨J + 1 + La, g, hg, hs.running (by omega)⟩
    | fin h1 _ => exact h1.elim
theorem turn2 (hL : L.Ok) (hX : XOk L X) (hn : L.n < 2147483648) (hAr : ∀ g w, AnchW g w → g.status = .running)
    (hAn : ∀ Lw g w, AnchW g w → ∃ m, GQ P L X Lw (AtLook P L X vals Anch AnchW Lw) m g w)
    (hl : vals.length = L.n) (hv : ∀ i, i < L.n → vals[i]? = some (val i)) : ∀ μ m t, Inv2 P L X J M K val vals Anch AnchW μ m t →
    (∃ m₁ ops, stepT P m = (.next m₁, ops) ∧ Ended P L X J Anch m₁ (t ++ ops)) ∨ (∃ m₁ ops μ', stepT P m = (.next m₁, ops) ∧ Lt2 μ' μ ∧ Inv2 P L X J M K val vals Anch AnchW μ' m₁ (t ++ ops)) := by
  rintro μ m t ⟨gs, w, sl, j, D, H, Lo, R, q, tag, f0, d0, Lw, a, st, sm, rfl, ha, hss, hcom, hwg, hmode, rfl⟩
  obtain ⟨i, g, d, sl', hg, hrun, hstep⟩ := crowd_pick (P := P) (w := w) (sl := sl) (hss.f_awake hAr ha hcom) (someone_runs2 hAr ha hss hcom hmode)
  rw [hstep]
  have hss' := hss.rely (RQ.at w d)
  have hcom' := hcom.at d
  have hwg' : WgAt L.ty L.Wg (w.at d) st sm := hwg
  rcases Nat.eq_zero_or_pos i with rfl | hp
  · rw [ha] at hg; cases hg
    exact stepCaller2 (sl := sl') hL hX hn hAn hl hv ha hss' hcom' hwg' hmode hrun
  · by_cases hJ : i ≤ J
    · exact .inr (oldStep2 (sl := sl') hL hX hAr ha hss' hcom' hwg' hmode hp hJ hg hrun)
    · have hlt := (Array.getElem?_eq_some_iff.1 hg).1
      rw [hcom.size] at hlt
      obtain ⟨i', rfl⟩ : ∃ i', i = J + 1 + i' := ⟨i - (J + 1), by omega⟩
      exact .inr (stepWorker2 (sl := sl') hL hX hAr hn ha hss' hcom' hwg' hmode (by omega) hg hrun)
theorem turns2 (hL : L.Ok) (hX : XOk L X) (hn : L.n < 2147483648) (hAr : ∀ g w, AnchW g w → g.status = .running)
    (hAn : ∀ Lw g w, AnchW g w → ∃ m, GQ P L X Lw (AtLook P L X vals Anch AnchW Lw) m g w)
    (hl : vals.length = L.n) (hv : ∀ i, i < L.n → vals[i]? = some (val i)) : ∀ μ m t, Inv2 P L X J M K val vals Anch AnchW μ m t → ∃ N m' t', runNT P N m t = (.next m', t') ∧ Ended P L X J Anch m' t' := by
  intro μ
  induction μ using (Prod.lex Nat.lt_wfRel Nat.lt_wfRel).wf.induction with
  | _ μ ih =>
    intro m t hI
    rcases turn2 hL hX hn hAr hAn hl hv μ m t hI with ⟨m₁, ops, h1, h2⟩ | ⟨m₁, ops, μ', h1, h2, h3⟩
    · exact ⟨1, m₁, t ++ ops, by rw [runNT_succ_next h1]; rfl, h2⟩
    · obtain ⟨N, m', t', e1, e2⟩ := ih μ' h2 m₁ (t ++ ops) h3
      exact ⟨N + 1, m', t', by rw [runNT_succ_next h1]; exact e1, e2⟩
/-- FROM THE LOOP THAT STARTS THEM TO THE MOMENT BEHIND Wait, ON EVERY TAPE. -/
theorem crew_runs (hL : L.Ok) (hX : XOk L X) (hn : L.n < 2147483648) (hAr : ∀ g w, AnchW g w → g.status = .running)
    (hAn : ∀ Lw g w, AnchW g w → ∃ m, GQ P L X Lw (AtLook P L X vals Anch AnchW Lw) m g w)
    (hl : vals.length = L.n) (hv : ∀ i, i < L.n → vals[i]? = some (val i)) (hN : L.N0 = w.heap.size)
    (hz : gs.size = J + 1) (ha : gs[0]? = some a) (hLe : Leavers P t gs q) (hP : Past2 X w.heap.size J t) (hwg : WgAt L.ty L.Wg w 0 0) (hpay : PayAt L.C L.n w)
    (h : Starts P L X M K val (Fin0 P L X AnchW) L.n w.heap.size a w) : ∃ N m' t', runNT P N (crowd gs w sl) t = (.next m', t') ∧ Ended P L X J Anch m' t' := by
  have hcom : Com2 P L X J M K val 0 gs w t (fun _ => ⟨0, 0, 0⟩) (fun _ => none) (fun _ => 0) (fun _ _ => False) 0 w.heap.size q := by
    refine ⟨by omega, fun i g h1 h2 hg => hLe.old i g h1 hg, fun i hi => by omega, ?_, fun i x hx hs => .inl ?_, fun i g hg hne _ hc => hP.over i g hg hne hc, hP.hears, fun i hi => by omega, fun i hi => by omega, fun i hi => by omega, hpay, hP.seen, by omega, fun i hi => by omega, ⟨by omega, Nat.le_refl _⟩, fun i b hb => (by cases hb), fun i i' b hb => (by cases hb), fun i b hb => (hb : False).elim⟩
    · refine ⟨hP.ct.quiet, fun k k1 kJ l hl => ?_, fun k k1 kJ l hl => ?_, fun l hs _ => hP.ct.free l hs fun k _ _ => ⟨id, id⟩, fun l hs _ => hP.ct.mine l hs fun k _ _ => id, hP.ct.nr, hP.ct.gs⟩
      · obtain ⟨i, rfl, _⟩ := hl; omega
      · obtain ⟨i, rfl, _⟩ := hl; omega
    · exact hP.ct.free x.loc hs (fun k _ _ => ⟨id, id⟩) i x hx rfl
  have hmode : ∀ tag, isOpen tag → pend tag = 0 → (∀ vs, tag ≠ .w2 vs) → ConcN.Mode 0 (fun _ => (⟨0, 0, 0⟩ : WD)) tag 0 0 := fun tag h1 h2 h3 => by
    have := ConcN.Mode.opn (j := 0) (D := fun _ => (⟨0, 0, 0⟩ : WD)) h1 (fun i hi => by omega) (fun vs e => absurd e (h3 vs))
    simpa [Vc, sumTo, h2] using this
  have hInv : ∃ μ, Inv2 P L X J M K val vals Anch AnchW μ (crowd gs w sl) t := by
    generalize hnn : L.n = n at h
    cases n with
    | zero =>
      obtain ⟨m, hk⟩ := h
      have hc : SS P L X M K val vals Anch AnchW .kd L.n m 0 w.heap.size a w := .in_ hk
      rw [hnn] at hc
      exact ⟨_, gs, w, sl, 0, _, _, _, _, q, .kd, m, 0, _, a, 0, 0, rfl, ha, hc, hcom, hwg, hmode .kd trivial rfl (by simp), rfl⟩
    | succ r =>
      obtain ⟨m, hk⟩ := h
      have hc := SS.off (vals := vals) (Anch := Anch) (by omega) hk
      rw [hnn, Nat.sub_self] at hc
      exact ⟨_, gs, w, sl, 0, _, _, _, _, q, .sp r 5, m, 0, _, a, 0, 0, rfl, ha, hc, hcom, hwg, hmode (.sp r 5) trivial rfl (by simp), rfl⟩
  obtain ⟨μ, hI⟩ := hInv
  exact turns2 hL hX hn hAr hAn hl hv μ _ _ hI
end
end Go.Proofs.Ytoipkpndfgcmcaa.Crew

/-
  The whole machine, goroutine 0 at a given state beside others that only leave: how one state leads to the next; a further block is hidden before it is made. The conditions stand in each theorem. No program in sight.
-/
namespace Go.Proofs.Ytoipkpndfgcmcaa.Crew
open Go Go.Conc Go.ConcN Go.RowKit Go.Proofs.Ytoipkpndfgcmcaa.Veils
set_option linter.unusedVariables false
/-- Goroutine 0 stands so; J others only leave. -/
def Mach (P : Program) (X : Nat → Prop) (J : Nat) (S : Goroutine → World → Prop) (m : Machine) (t : Trace) : Prop :=
  ∃ (gs : Array Goroutine) (a : Goroutine) (w : World) (sl : Option (Nat × Nat)) (q : Nat → Nat), m = crowd gs w sl ∧ gs.size = J + 1 ∧ gs[0]? = some a ∧ S a w ∧ Leavers P t gs q ∧ Past2 X w.heap.size J t
/-- The machine comes there. -/
def Leads (P : Program) (m : Machine) (t : Trace) (Q : Machine → Trace → Prop) : Prop := ∃ N m' t', runNT P N m t = (.next m', t') ∧ Q m' t'
theorem runNT_on {P : Program} : ∀ (N M : Nat) (m m' : Machine) (t t' : Trace), runNT P N m t = (.next m', t') → runNT P (N + M) m t = runNT P M m' t'
  | 0, M, m, m', t, t', h => by
      simp only [runNT] at h
      injection h with h1 h2
      injection h1 with h1
      subst h1 h2
      rw [Nat.zero_add]
  | N + 1, M, m, m', t, t', h => by
      rw [show N + 1 + M = (N + M) + 1 by omega]
      simp only [runNT] at h ⊢
      cases hs : stepT P m with
      | mk r ops =>
        rw [hs] at h
        cases r with
        | next m1 =>
          simp only at h ⊢
          exact runNT_on N M m1 m' _ t' h
        | _ => simp only at h; cases h
section
variable {P : Program} {X : Nat → Prop} {J : Nat} {S S' : Goroutine → World → Prop} {m : Machine} {t : Trace} {Q R : Machine → Trace → Prop}
theorem Leads.here (h : Q m t) : Leads P m t Q := ⟨0, m, t, rfl, h⟩
theorem Leads.bind (h : Leads P m t Q) (k : ∀ m' t', Q m' t' → Leads P m' t' R) : Leads P m t R := by
  obtain ⟨N, m1, t1, h1, h2⟩ := h
  obtain ⟨M, m2, t2, h3, h4⟩ := k m1 t1 h2
  exact ⟨N + M, m2, t2, by rw [runNT_on N M _ _ _ _ h1]; exact h3, h4⟩
theorem Leads.mono (h : Leads P m t Q) (k : ∀ m' t', Q m' t' → R m' t') : Leads P m t R := h.bind fun m' t' h => .here (k m' t' h)
theorem Mach.mono (h : Mach P X J S m t) (k : ∀ a w, S a w → S' a w) : Mach P X J S' m t :=
  let ⟨gs, a, w, sl, q, h1, h2, h3, h4, h5, h6⟩ := h; ⟨gs, a, w, sl, q, h1, h2, h3, k a w h4, h5, h6⟩
theorem Mach.runs (h : Mach P X J S m t) (k : ∀ a w, S a w → Runs P (DF X) S' a w) : Leads P m t (Mach P X J S') := by
  obtain ⟨gs, a, w, sl, q, rfl, h2, h3, h4, h5, h6⟩ := h
  obtain ⟨N, gs', a', w', sl', t', q', e1, e2, e3, e4, e5, e6⟩ := runs_beside (k a w h4) gs sl t q w.drawn h2 h3 h5 h6
  exact ⟨N, _, t', e1, gs', a', w', sl', q', rfl, e2, e3, e4, e5, e6⟩
theorem past_hide {B b : Nat} (h : Past2 X B J t) (hb : B ≤ b) : Past2 (fun r => X r ∨ r = b) B J t := by
  have hno : ∀ (op : MemOp) (x : Touch), op ∈ t → op.act.touch? = some x → ShX (fun r => X r ∨ r = b) x.loc → ShX X x.loc := fun op x hop hx ⟨a, h1, h2⟩ => by
    rcases h2 with h2 | h2
    · exact ⟨a, h1, h2⟩
    · have := h.seen op hop x hx
      rw [h1] at this
      have : a.block < B := this
      omega
  have hsh : ∀ l, ¬ ShX (fun r => X r ∨ r = b) l → ¬ ShX X l := fun l hl ⟨a, h1, h2⟩ => hl ⟨a, h1, .inl h2⟩
  refine ⟨⟨fun i op x hi hx hs => h.ct.quiet i op x hi hx (hno op x (Array.mem_of_getElem? hi) hx hs), h.ct.own, h.ct.rd, fun l hl => h.ct.free l (hsh l hl), fun l hl => h.ct.mine l (hsh l hl), h.ct.nr, h.ct.gs⟩, h.over, h.hears, h.seen⟩
theorem Mach.hide {b : Nat} (h : Mach P X J S m t) (hb : ∀ a w, S a w → w.heap.size ≤ b) : Mach P (fun r => X r ∨ r = b) J S m t :=
  let ⟨gs, a, w, sl, q, h1, h2, h3, h4, h5, h6⟩ := h; ⟨gs, a, w, sl, q, h1, h2, h3, h4, h5, past_hide h6 (hb a w h4)⟩
end
end Go.Proofs.Ytoipkpndfgcmcaa.Crew

/-
  The last step beside others that only leave: the run ends, and all is well. The conditions stand in each theorem. No program in sight.
-/
namespace Go.Proofs.Ytoipkpndfgcmcaa.Crew
open Go Go.Conc Go.ConcN Go.RowKit Go.Proofs.Ytoipkpndfgcmcaa.Veils
set_option linter.unusedVariables false
/-- Goroutine 0 stands at the step that ends the run. -/
def AtDone (P : Program) (X : Nat → Prop) (Post : Value → World → Prop) (g : Goroutine) (w : World) : Prop :=
  g.status = .running ∧ ∀ d, ∃ v es, stepG P true g (w.at d) = .ended (.done v) (w.at d) es ∧ (∀ e ∈ es, FineE X w.heap.size e) ∧ Post v (w.at d)
def EInv (P : Program) (X : Nat → Prop) (J : Nat) (Post : Value → World → Prop) (μ : Nat) (m : Machine) (t : Trace) : Prop :=
  ∃ (gs : Array Goroutine) (a : Goroutine) (w : World) (sl : Option (Nat × Nat)) (q : Nat → Nat), m = crowd gs w sl ∧ gs.size = J + 1 ∧ gs[0]? = some a ∧ AtDone P X Post a w ∧ Leavers P t gs q ∧ Past2 X w.heap.size J t ∧ μ = sumTo gs.size q
section
variable {P : Program} {X : Nat → Prop} {J : Nat} {Post : Value → World → Prop} {S : Goroutine → World → Prop} {m : Machine} {t : Trace}
theorem end_step (μ : Nat) (m : Machine) (t : Trace) (h : EInv P X J Post μ m t) :
    (∃ o w ops, stepT P m = (.ended o w, ops) ∧ Go.Conc.Good P Post m o w (t ++ ops)) ∨ (∃ m' ops μ', stepT P m = (.next m', ops) ∧ μ' < μ ∧ EInv P X J Post μ' m' (t ++ ops)) := by
  obtain ⟨gs, a, w, sl, q, rfl, hz, h0, ⟨hrun, hend⟩, hL, hP, rfl⟩ := h
  obtain ⟨i, g, d, sl', hi, hg, hst⟩ := crowd_pick (P := P) (w := w) (sl := sl) (all_awake0 h0 hrun hL) ⟨0, a, h0, hrun⟩
  rcases Nat.eq_zero_or_pos i with rfl | hpos
  · obtain rfl : g = a := by rw [h0] at hi; exact (Option.some.inj hi).symm
    obtain ⟨v, es, he, hes, hpost⟩ := hend d
    have hrunT := runT_many_ended (P := P) (sl := sl') (i := 0) hi (show stepG P (0 == 0) g (w.at d) = _ from he)
    have hP' : Past2 X w.heap.size J (t ++ MemOp.ofEvents 0 g.frame.fn g.frame.place es) := hP.own (Nat.le_refl _) hes
    refine .inl ⟨_, _, _, hst.trans hrunT, v, rfl, hpost, hP'.ct.nr, hP'.over, ⟨fun x hx => ?_, rfl⟩, fun j x hx hj => ?_⟩
    · obtain ⟨j, hj⟩ := List.mem_iff_getElem?.1 hx
      rw [List.getElem?_drop] at hj
      exact ⟨_, (hL.old (1 + j) x (by omega) (by simpa [crowd] using hj)).leaves⟩
    · have hq := hL.old j x (by omega) hx
      refine ⟨q j, ?_⟩
      have e : (t ++ MemOp.ofEvents 0 g.frame.fn g.frame.place es).deaf j (t ++ MemOp.ofEvents 0 g.frame.fn g.frame.place es).size = Deaf t j :=
        Deaf_other t (g := j) (g' := 0) (by omega) _ (fun op hop => by obtain ⟨e, _, rfl⟩ := Go.Conc.mem_ofEvents hop; rfl)
      rw [e]
      exact hq.hears _
  · have hq := hL.old i g hpos hi
    have hi0 : (i == 0) = false := by simp; omega
    have hlt : i < gs.size := (Array.getElem?_eq_some_iff.1 hi).1
    cases hqi : q i with
    | zero => rw [hqi] at hq; rw [hq.1] at hg; cases hg
    | succ k =>
      rw [hqi] at hq
      rcases hq with ⟨hf, _⟩ | ⟨_, g', es, hm, hstp, hq'⟩
      · rw [hf] at hg; cases hg
      have hrunT := runT_crowd_go (P := P) (sl := sl') (i := i) hi (by rw [hi0]; exact hstp (w.at d))
      have hsz : ((gs.map (woken P g g' (w.at d))).setIfInBounds i g').size = gs.size := by simp
      have hsum : sumTo gs.size (upd q i k) + (k + 1) = sumTo gs.size q + k := by
        have := sumTo_upd q k id hlt
        simpa [hqi] using this
      refine .inr ⟨_, _, sumTo gs.size (upd q i k), hst.trans hrunT, by omega, _, a, w.at d, sl', upd q i k, rfl, by simp [hz], ?_, ⟨hrun, fun d' => hend d'⟩, ⟨fun j x hj hx => ?_, fun j hj => by
        rw [Deaf_other t (g' := i) (by simp at hj; omega) _ (fun op hop => by obtain ⟨e, _, rfl⟩ := Go.Conc.mem_ofEvents hop; rfl)]
        exact hL.above j (by simpa using hj)⟩, hP.mute (by omega) (by omega) hm, by rw [hsz]⟩
      · have hne : i ≠ 0 := by omega
        rw [Array.getElem?_setIfInBounds_ne hne, Array.getElem?_map, h0]
        simp [woken_run hrun]
      · by_cases hji : i = j
        · subst hji
          rw [Array.getElem?_setIfInBounds_self_of_lt (by simpa using hlt)] at hx
          obtain rfl := Option.some.inj hx
          rw [upd_same, Deaf_own]
          exact hq'
        · rw [Array.getElem?_setIfInBounds_ne hji, Array.getElem?_map] at hx
          obtain ⟨y, hy, rfl⟩ := Option.map_eq_some_iff.1 hx
          have hqj := hL.old j y hj hy
          rw [woken_quitsD hqj, upd_ne q k (Ne.symm hji), Deaf_other t hji _ (fun op hop => by obtain ⟨e, _, rfl⟩ := Go.Conc.mem_ofEvents hop; rfl)]
          exact hqj
/-- THE RUN ENDS. -/
theorem Mach.ends (h : Mach P X J S m t) (k : ∀ a w, S a w → AtDone P X Post a w) :
    ∃ N last o w' t', runNT P (N + 1) m t = (.ended o w', t') ∧ runN P N m = .next last ∧ step P last = .ended o w' ∧ Go.Conc.Good P Post last o w' t' := by
  obtain ⟨gs, a, w, sl, q, h1, h2, h3, h4, h5, h6⟩ := h
  exact run_of_inv Nat.lt_wfRel.wf (EInv P X J Post) (Go.Conc.Good P Post) end_step _ _ _ ⟨gs, a, w, sl, q, h1, h2, h3, k a w h4, h5, h6, rfl⟩
/-- .. from whence it leads there. -/
theorem Leads.ends (h : Leads P m t (Mach P X J S)) (k : ∀ a w, S a w → AtDone P X Post a w) :
    ∃ N last o w' t', runNT P (N + 1) m t = (.ended o w', t') ∧ runN P N m = .next last ∧ step P last = .ended o w' ∧ Go.Conc.Good P Post last o w' t' := by
  obtain ⟨N, m1, t1, h1, h2⟩ := h
  obtain ⟨M, last, o, w', t', e1, e2, e3, e4⟩ := h2.ends k
  have hn : runN P N m = .next m1 := by rw [← runNT_fst _ _ _ t, h1]
  exact ⟨N + M, last, o, w', t', by rw [Nat.add_assoc, runNT_on N (M + 1) _ _ _ _ h1]; exact e1, by rw [runN_add, hn]; exact e2, e3, e4⟩
/-- Alone, at the beginning. -/
theorem mach_one (g : Goroutine) (W : World) (hS : S g W) : Mach P X 0 S (solo g W) #[] := by
  refine ⟨#[g], g, W, none, fun _ => 0, rfl, rfl, rfl, hS, leavers_one P g, ⟨⟨?_, fun k h1 h2 => by omega, fun k h1 h2 => by omega, ?_, ?_, fun said => ?_, ?_⟩, ?_, rfl, by simp⟩⟩
  · intro i op x hi; simp at hi
  · intro l _ _ i a ha; simp [touchAt, Trace.act?] at ha
  · intro l _ _ i a ha; simp [touchAt, Trace.act?] at ha
  · rintro ⟨i, j, _, ⟨a, b, ha, _⟩, _⟩
    simp [Trace.act?] at ha
  · intro i op hi; simp at hi
  · intro i g hg; simp [Trace.g?] at hg
end
end Go.Proofs.Ytoipkpndfgcmcaa.Crew

/-
  The library's functions of the wait group under this program's numbers; the payload's cells are uint32s. No assumption.
-/
namespace Go.Proofs.Ytoipkpndfgcmcaa.Crew
open Go Go.Conc Go.ConcR Go.RowKit Go.Conc.Lib Go.ConcR.Gen

abbrev link : Go.Conc.Lib.WgLink := { add := 60, done := 63, wait := 55, relMerge := 74, disable := 64, enable := 66, inBubble := 72, associate := 75, fatal := 76, uOr := 77, uAdd := 78, raceRead := 79, uLoad := 65, uStore := 80, disassociate := 70, semrelease := 81, acquire := 67, isAssociated := 68, uCas := 69, raceWrite := 71, semacquire := 73, orU64 := 84, addU64 := 85, loadU64 := 82, storeU64 := 86, casU64 := 83, tWgP := 102, tUP := 106, tAssoc := 112, tWg := 96, tAU := 94, tU64 := 92, tUint := 76, tU32 := 40, tPU32 := 110, tPAU := 118, tPU64 := 120, tNoCopy := 89, tANoCopy := 90, tAlign64 := 91 }
theorem wgLib : Go.Conc.Lib.WgLib Try.prog link :=
  ⟨Try.func60, Try.func63, Try.func55, Try.func74, Try.func64, Try.func66, Try.func72, Try.func75, Try.func76, Try.func77, Try.func78, Try.func79, Try.func65, Try.func80, Try.func70, Try.func81, Try.func67, Try.func68, Try.func69, Try.func71, Try.func73, Try.func84, Try.func85, Try.func82, Try.func86, Try.func83, Try.underlying102, Try.runUnderlying102, Try.sizeOf102, Try.isAgg102, Try.zeroValue102, Try.underlying106, Try.runUnderlying106, Try.sizeOf106, Try.isAgg106, Try.zeroValue106, Try.underlying112, Try.runUnderlying112, Try.sizeOf112, Try.isAgg112, Try.zeroValue112, Try.underlying96, Try.runUnderlying96, Try.sizeOf96, Try.isAgg96, Try.zeroValue96, Try.underlying94, Try.runUnderlying94, Try.sizeOf94, Try.isAgg94, Try.zeroValue94, Try.underlying92, Try.runUnderlying92, Try.sizeOf92, Try.isAgg92, Try.zeroValue92, Try.underlying76, Try.runUnderlying76, Try.sizeOf76, Try.isAgg76, Try.zeroValue76, Try.underlying40, Try.runUnderlying40, Try.sizeOf40, Try.isAgg40, Try.zeroValue40, Try.underlying110, Try.runUnderlying110, Try.sizeOf110, Try.isAgg110, Try.zeroValue110, Try.underlying118, Try.runUnderlying118, Try.sizeOf118, Try.isAgg118, Try.zeroValue118, Try.underlying120, Try.runUnderlying120, Try.sizeOf120, Try.isAgg120, Try.zeroValue120, Try.underlying0, Try.runUnderlying0, Try.sizeOf0, Try.isAgg0, Try.zeroValue0, Try.underlying3, Try.runUnderlying3, Try.sizeOf3, Try.isAgg3, Try.zeroValue3, Try.underlying4, Try.runUnderlying4, Try.sizeOf4, Try.isAgg4, Try.zeroValue4, Try.underlying9, Try.runUnderlying9, Try.sizeOf9, Try.isAgg9, Try.zeroValue9, Try.underlying20, Try.runUnderlying20, Try.sizeOf20, Try.isAgg20, Try.zeroValue20, Try.underlying21, Try.runUnderlying21, Try.sizeOf21, Try.isAgg21, Try.zeroValue21, (by kernel_rfl), (by kernel_rfl)⟩
instance : Payload := ⟨40⟩
end Go.Proofs.Ytoipkpndfgcmcaa.Crew

namespace Go.Proofs.Ytoipkpndfgcmcaa.Crew
open Go Go.Conc Go.ConcN Go.RowKit Go.Conc.Lib Go.ConcR.Gen Go.ConcN.Gen
open Go.ConcR (KK wgBlock WgAt stA smA rd wr mk Payload DC0)
set_option linter.unusedVariables false
set_option linter.unusedSectionVars false
set_option linter.unusedSimpArgs false
section
variable {L : Lay} {X : Nat → Prop} {Lw : Nat}
theorem dq_none {w : World} {es : Array Event} (h : ∀ e ∈ es, False) : DQ L X Lw w w es := ⟨rfl, rfl, rfl, Nat.le_refl _, fun _ _ _ => rfl, fun _ h => h, fun e he => (h e he).elim⟩
theorem fq_rely {F : World → Prop} (hF2 : ∀ w w', RQ L w w' → F w → F w') {w w₁ : World} (h : F w ∧ WgLive L.ty L.Wg w) (r : RQ L w w₁) : F w₁ ∧ WgLive L.ty L.Wg w₁ := ⟨hF2 _ _ r h.1, r.live h.2⟩
theorem evq_said_read {w w' : World} {a : Addr} (h : a.block = L.Wg) : EvQ L X Lw w w' ⟨.mark (.read a), false, true⟩ := .inr (.inr ⟨a, .inl rfl, h⟩)
theorem evq_said_write {w w' : World} {a : Addr} (h : a.block = L.Wg) : EvQ L X Lw w w' ⟨.mark (.write a), false, true⟩ := .inr (.inr ⟨a, .inr rfl, h⟩)
theorem setWg_rq (hL : L.Ok) {w : World} {st sm : Int} (h : WgAt L.ty L.Wg w st sm) (v : Int) : RQ L w (w.setCell (stA L.Wg) (.int .u64 v)) := RQ.of_wg hL (aside_setCell w (stA L.Wg) _) ⟨_, _, h.setSt v⟩
theorem setSm_rq (hL : L.Ok) {w : World} {st sm : Int} (h : WgAt L.ty L.Wg w st sm) (v : Int) : RQ L w (w.setCell (smA L.Wg) (.int .u32 v)) := RQ.of_wg hL (aside_setCell w (smA L.Wg) _) ⟨_, _, h.setSm v⟩
end
section
variable {L : Lay} {X : Nat → Prop} {M K : Nat} {val : Nat → Value} {lk : WgLink} {j Lw : Nat} {Next : Nat → Goroutine → World → Prop} {F : World → Prop}
  {b₀ : Frame} {a₀ : Act} {ops₀ : Array Oper} {i₀ : Nat} {rest₀ : List Nat} {k₀ : List Item} {cs : List Frame} {mT : Nat}
set_option maxRecDepth 100000 in
set_option maxHeartbeats 8000000 in
theorem addQ {P : Program} (H : WgLib P lk) (hL : L.Ok) (hF2 : ∀ w w', RQ L w w' → F w → F w')
    (hT : ∀ w, F w → WgLive L.ty L.Wg w → GQ P L X Lw (AtGo P L X M K val j Next) mT (G (b₀.at (a₀.put ((ops₀[i₀]?).bind (·.dst)) (.tuple #[])) (.inRegion ops₀ rest₀ :: k₀)) cs) w)
    (w : World) (hF : F w ∧ WgLive L.ty L.Wg w) :
    GQ P L X Lw (AtOff P L X M K val Lw j Next) 12
      (G ((base lk.add).at ⟨#[.pointer (some ⟨L.Wg, 0, none⟩), .int .i64 1, undef, undef, undef, undef, undef, undef, undef, undef, undef, undef, undef, undef, undef, undef, undef, undef, undef, undef, undef, undef, undef, undef, undef, undef, undef, undef, undef, undef, undef, undef, undef, undef, undef, undef, undef, undef, undef, undef, undef, undef, undef, undef, undef, undef, undef, undef, undef, undef, undef, undef, undef, undef, undef, undef, undef, undef, undef, undef, undef, undef, undef, undef, undef, undef, undef, undef, undef, undef, undef, undef, undef, undef, undef, undef, undef, undef, undef, undef, undef, undef, undef, undef, undef, undef, undef, undef, undef, undef, undef, undef, undef, undef, undef, undef, undef, undef, undef, undef, undef, undef, undef, undef, undef, undef, undef, undef, undef, undef, undef, undef, undef, undef, undef, undef, undef], []⟩ [.code (body_add lk)]) (b₀.at a₀ (.inRegion ops₀ (i₀ :: rest₀) :: k₀) :: cs)) w := by
  lib_facts
  simp only [GQ, body_add, addFn, Option.getD_some]
  repeat (first
    | (refine Goes.step rfl (fun _ h₁ => ?_)
       replace hF := (fq_rely hF2) hF h₁
       clear h₁
       rw [stepG_seq]
       simp only [goes_go]
       refine ⟨by refine dq_none ?_; intro e he; simp at he, ?_⟩)
    | (refine Goes.step rfl (fun _ h₁ => ?_)
       replace hF := (fq_rely hF2) hF h₁
       clear h₁
       rw [stepG_region_end]
       simp only [goes_go]
       refine ⟨by refine dq_none ?_; intro e he; simp at he, ?_⟩)
    | (refine Goes.step rfl (fun _ h₁ => ?_)
       replace hF := (fq_rely hF2) hF h₁
       clear h₁
       rw [stepG_skip]
       simp only [goes_go]
       refine ⟨by refine dq_none ?_; intro e he; simp at he, ?_⟩)
    | (refine Goes.step rfl (fun _ h₁ => ?_)
       replace hF := (fq_rely hF2) hF h₁
       clear h₁
       rw [stepG_block]
       simp only [goes_go]
       refine ⟨by refine dq_none ?_; intro e he; simp at he, ?_⟩)
    | (refine Goes.step rfl (fun _ h₁ => ?_)
       replace hF := (fq_rely hF2) hF h₁
       clear h₁
       rw [stepG_loop]
       simp only [goes_go]
       refine ⟨by refine dq_none ?_; intro e he; simp at he, ?_⟩)
    | (refine Goes.step rfl (fun _ h₁ => ?_)
       replace hF := (fq_rely hF2) hF h₁
       clear h₁
       rw [stepG_inLoop]
       simp only [goes_go]
       refine ⟨by refine dq_none ?_; intro e he; simp at he, ?_⟩)
    | (refine Goes.step rfl (fun _ h₁ => ?_)
       replace hF := (fq_rely hF2) hF h₁
       clear h₁
       rw [stepG_inBlock]
       simp only [goes_go]
       refine ⟨by refine dq_none ?_; intro e he; simp at he, ?_⟩)
    | (refine Goes.step rfl (fun _ h₁ => ?_)
       replace hF := (fq_rely hF2) hF h₁
       clear h₁
       rw [stepG_label]
       simp only [goes_go]
       refine ⟨by refine dq_none ?_; intro e he; simp at he, ?_⟩)
    | (refine Goes.step rfl (fun _ h₁ => ?_)
       replace hF := (fq_rely hF2) hF h₁
       clear h₁
       rw [stepG_region]
       simp only [goes_go, List.size_toArray, List.length_cons, List.length_nil, Nat.reduceAdd, Nat.zero_add, List.range, List.range.loop]
       refine ⟨by refine dq_none ?_; intro e he; simp at he, ?_⟩)
    | (refine Goes.step rfl (fun _ h₁ => ?_)
       replace hF := (fq_rely hF2) hF h₁
       clear h₁
       rw [stepG_unwanted rfl rfl]
       simp only [goes_go]
       refine ⟨by refine dq_none ?_; intro e he; simp at he, ?_⟩
       walk_nrm)
    | (refine Goes.step rfl (fun _ h₁ => ?_)
       replace hF := (fq_rely hF2) hF h₁
       clear h₁
       rw [stepG_cond (t := true) rfl]
       simp only [goes_go, if_true, if_false, Bool.false_eq_true, ↓reduceIte]
       refine ⟨by refine dq_none ?_; intro e he; simp at he, ?_⟩)
    | (refine Goes.step rfl (fun _ h₁ => ?_)
       replace hF := (fq_rely hF2) hF h₁
       clear h₁
       rw [stepG_cond (t := false) rfl]
       simp only [goes_go, if_true, if_false, Bool.false_eq_true, ↓reduceIte]
       refine ⟨by refine dq_none ?_; intro e he; simp at he, ?_⟩)
    | (refine Goes.step rfl (fun _ h₁ => ?_)
       replace hF := (fq_rely hF2) hF h₁
       clear h₁
       fail_if_success (rw [stepG_ret'])
       fail_if_success (rw [stepG_end])
       refine goes_oper_k rfl rfl (by k_ne) (fun K hK => ?_)
       go_simp
       refine hK _ _ ⟨?_, ?_⟩
       · refine dq_none ?_; intro e he; have hm := mem_listed he; simp [go_sem, *] at hm
       clear hK K
       try w_num)
    )
  refine Goes.stop (fun w₁ h₁ => ?_)
  replace hF := fq_rely hF2 hF h₁
  clear h₁
  refine ⟨rfl, _, stepG_mark0 .disable (by simp) rfl rfl (by k_ne) rfl H.f_disable (x_disable_n lk) (x_disable_b lk) (x_disable_x lk) (x_disable_f lk), 40, ?_⟩
  simp only [GQ]
  walk_nrm
  repeat (first
    | (refine Goes.step rfl (fun _ h₁ => ?_)
       replace hF := (fq_rely hF2) hF h₁
       clear h₁
       rw [stepG_seq]
       simp only [goes_go]
       refine ⟨by refine dq_none ?_; intro e he; simp at he, ?_⟩)
    | (refine Goes.step rfl (fun _ h₁ => ?_)
       replace hF := (fq_rely hF2) hF h₁
       clear h₁
       rw [stepG_region_end]
       simp only [goes_go]
       refine ⟨by refine dq_none ?_; intro e he; simp at he, ?_⟩)
    | (refine Goes.step rfl (fun _ h₁ => ?_)
       replace hF := (fq_rely hF2) hF h₁
       clear h₁
       rw [stepG_skip]
       simp only [goes_go]
       refine ⟨by refine dq_none ?_; intro e he; simp at he, ?_⟩)
    | (refine Goes.step rfl (fun _ h₁ => ?_)
       replace hF := (fq_rely hF2) hF h₁
       clear h₁
       rw [stepG_block]
       simp only [goes_go]
       refine ⟨by refine dq_none ?_; intro e he; simp at he, ?_⟩)
    | (refine Goes.step rfl (fun _ h₁ => ?_)
       replace hF := (fq_rely hF2) hF h₁
       clear h₁
       rw [stepG_loop]
       simp only [goes_go]
       refine ⟨by refine dq_none ?_; intro e he; simp at he, ?_⟩)
    | (refine Goes.step rfl (fun _ h₁ => ?_)
       replace hF := (fq_rely hF2) hF h₁
       clear h₁
       rw [stepG_inLoop]
       simp only [goes_go]
       refine ⟨by refine dq_none ?_; intro e he; simp at he, ?_⟩)
    | (refine Goes.step rfl (fun _ h₁ => ?_)
       replace hF := (fq_rely hF2) hF h₁
       clear h₁
       rw [stepG_inBlock]
       simp only [goes_go]
       refine ⟨by refine dq_none ?_; intro e he; simp at he, ?_⟩)
    | (refine Goes.step rfl (fun _ h₁ => ?_)
       replace hF := (fq_rely hF2) hF h₁
       clear h₁
       rw [stepG_label]
       simp only [goes_go]
       refine ⟨by refine dq_none ?_; intro e he; simp at he, ?_⟩)
    | (refine Goes.step rfl (fun _ h₁ => ?_)
       replace hF := (fq_rely hF2) hF h₁
       clear h₁
       rw [stepG_region]
       simp only [goes_go, List.size_toArray, List.length_cons, List.length_nil, Nat.reduceAdd, Nat.zero_add, List.range, List.range.loop]
       refine ⟨by refine dq_none ?_; intro e he; simp at he, ?_⟩)
    | (refine Goes.step rfl (fun _ h₁ => ?_)
       replace hF := (fq_rely hF2) hF h₁
       clear h₁
       rw [stepG_unwanted rfl rfl]
       simp only [goes_go]
       refine ⟨by refine dq_none ?_; intro e he; simp at he, ?_⟩
       walk_nrm)
    | (refine Goes.step rfl (fun _ h₁ => ?_)
       replace hF := (fq_rely hF2) hF h₁
       clear h₁
       rw [stepG_cond (t := true) rfl]
       simp only [goes_go, if_true, if_false, Bool.false_eq_true, ↓reduceIte]
       refine ⟨by refine dq_none ?_; intro e he; simp at he, ?_⟩)
    | (refine Goes.step rfl (fun _ h₁ => ?_)
       replace hF := (fq_rely hF2) hF h₁
       clear h₁
       rw [stepG_cond (t := false) rfl]
       simp only [goes_go, if_true, if_false, Bool.false_eq_true, ↓reduceIte]
       refine ⟨by refine dq_none ?_; intro e he; simp at he, ?_⟩)
    | (refine Goes.step rfl (fun _ h₁ => ?_)
       replace hF := (fq_rely hF2) hF h₁
       clear h₁
       fail_if_success (rw [stepG_ret'])
       fail_if_success (rw [stepG_end])
       refine goes_oper_k rfl rfl (by k_ne) (fun K hK => ?_)
       go_simp
       refine hK _ _ ⟨?_, ?_⟩
       · refine dq_none ?_; intro e he; have hm := mem_listed he; simp [go_sem, *] at hm
       clear hK K
       try w_num)
    )
  refine Goes.step rfl (fun _ h₁ => ?_)
  replace hF := (fq_rely hF2) hF h₁
  clear h₁
  rw [stepG_defer rfl rfl (by k_ne) rfl]
  simp only [goes_go]
  refine ⟨by refine dq_none ?_; intro e he; simp at he, ?_⟩
  walk_nrm
  repeat (first
    | (refine Goes.step rfl (fun _ h₁ => ?_)
       replace hF := (fq_rely hF2) hF h₁
       clear h₁
       rw [stepG_seq]
       simp only [goes_go]
       refine ⟨by refine dq_none ?_; intro e he; simp at he, ?_⟩)
    | (refine Goes.step rfl (fun _ h₁ => ?_)
       replace hF := (fq_rely hF2) hF h₁
       clear h₁
       rw [stepG_region_end]
       simp only [goes_go]
       refine ⟨by refine dq_none ?_; intro e he; simp at he, ?_⟩)
    | (refine Goes.step rfl (fun _ h₁ => ?_)
       replace hF := (fq_rely hF2) hF h₁
       clear h₁
       rw [stepG_skip]
       simp only [goes_go]
       refine ⟨by refine dq_none ?_; intro e he; simp at he, ?_⟩)
    | (refine Goes.step rfl (fun _ h₁ => ?_)
       replace hF := (fq_rely hF2) hF h₁
       clear h₁
       rw [stepG_block]
       simp only [goes_go]
       refine ⟨by refine dq_none ?_; intro e he; simp at he, ?_⟩)
    | (refine Goes.step rfl (fun _ h₁ => ?_)
       replace hF := (fq_rely hF2) hF h₁
       clear h₁
       rw [stepG_loop]
       simp only [goes_go]
       refine ⟨by refine dq_none ?_; intro e he; simp at he, ?_⟩)
    | (refine Goes.step rfl (fun _ h₁ => ?_)
       replace hF := (fq_rely hF2) hF h₁
       clear h₁
       rw [stepG_inLoop]
       simp only [goes_go]
       refine ⟨by refine dq_none ?_; intro e he; simp at he, ?_⟩)
    | (refine Goes.step rfl (fun _ h₁ => ?_)
       replace hF := (fq_rely hF2) hF h₁
       clear h₁
       rw [stepG_inBlock]
       simp only [goes_go]
       refine ⟨by refine dq_none ?_; intro e he; simp at he, ?_⟩)
    | (refine Goes.step rfl (fun _ h₁ => ?_)
       replace hF := (fq_rely hF2) hF h₁
       clear h₁
       rw [stepG_label]
       simp only [goes_go]
       refine ⟨by refine dq_none ?_; intro e he; simp at he, ?_⟩)
    | (refine Goes.step rfl (fun _ h₁ => ?_)
       replace hF := (fq_rely hF2) hF h₁
       clear h₁
       rw [stepG_region]
       simp only [goes_go, List.size_toArray, List.length_cons, List.length_nil, Nat.reduceAdd, Nat.zero_add, List.range, List.range.loop]
       refine ⟨by refine dq_none ?_; intro e he; simp at he, ?_⟩)
    | (refine Goes.step rfl (fun _ h₁ => ?_)
       replace hF := (fq_rely hF2) hF h₁
       clear h₁
       rw [stepG_unwanted rfl rfl]
       simp only [goes_go]
       refine ⟨by refine dq_none ?_; intro e he; simp at he, ?_⟩
       walk_nrm)
    | (refine Goes.step rfl (fun _ h₁ => ?_)
       replace hF := (fq_rely hF2) hF h₁
       clear h₁
       rw [stepG_cond (t := true) rfl]
       simp only [goes_go, if_true, if_false, Bool.false_eq_true, ↓reduceIte]
       refine ⟨by refine dq_none ?_; intro e he; simp at he, ?_⟩)
    | (refine Goes.step rfl (fun _ h₁ => ?_)
       replace hF := (fq_rely hF2) hF h₁
       clear h₁
       rw [stepG_cond (t := false) rfl]
       simp only [goes_go, if_true, if_false, Bool.false_eq_true, ↓reduceIte]
       refine ⟨by refine dq_none ?_; intro e he; simp at he, ?_⟩)
    | (refine Goes.step rfl (fun _ h₁ => ?_)
       replace hF := (fq_rely hF2) hF h₁
       clear h₁
       fail_if_success (rw [stepG_ret'])
       fail_if_success (rw [stepG_end])
       refine goes_oper_k rfl rfl (by k_ne) (fun K hK => ?_)
       go_simp
       refine hK _ _ ⟨?_, ?_⟩
       · refine dq_none ?_; intro e he; have hm := mem_listed he; simp [go_sem, *] at hm
       clear hK K
       try w_num)
    )
  refine Goes.step rfl (fun _ h₁ => ?_)
  replace hF := (fq_rely hF2) hF h₁
  clear h₁
  rw [stepG_entry_pure (.bool false) rfl rfl (by k_ne) rfl H.f_inBubble (x_inBubble_n lk) (x_inBubble_b lk) (x_inBubble_x lk) (x_inBubble_f lk)]
  simp only [goes_go]
  refine ⟨by refine dq_none ?_; intro e he; simp at he, ?_⟩
  walk_nrm
  repeat (first
    | (refine Goes.step rfl (fun _ h₁ => ?_)
       replace hF := (fq_rely hF2) hF h₁
       clear h₁
       rw [stepG_seq]
       simp only [goes_go]
       refine ⟨by refine dq_none ?_; intro e he; simp at he, ?_⟩)
    | (refine Goes.step rfl (fun _ h₁ => ?_)
       replace hF := (fq_rely hF2) hF h₁
       clear h₁
       rw [stepG_region_end]
       simp only [goes_go]
       refine ⟨by refine dq_none ?_; intro e he; simp at he, ?_⟩)
    | (refine Goes.step rfl (fun _ h₁ => ?_)
       replace hF := (fq_rely hF2) hF h₁
       clear h₁
       rw [stepG_skip]
       simp only [goes_go]
       refine ⟨by refine dq_none ?_; intro e he; simp at he, ?_⟩)
    | (refine Goes.step rfl (fun _ h₁ => ?_)
       replace hF := (fq_rely hF2) hF h₁
       clear h₁
       rw [stepG_block]
       simp only [goes_go]
       refine ⟨by refine dq_none ?_; intro e he; simp at he, ?_⟩)
    | (refine Goes.step rfl (fun _ h₁ => ?_)
       replace hF := (fq_rely hF2) hF h₁
       clear h₁
       rw [stepG_loop]
       simp only [goes_go]
       refine ⟨by refine dq_none ?_; intro e he; simp at he, ?_⟩)
    | (refine Goes.step rfl (fun _ h₁ => ?_)
       replace hF := (fq_rely hF2) hF h₁
       clear h₁
       rw [stepG_inLoop]
       simp only [goes_go]
       refine ⟨by refine dq_none ?_; intro e he; simp at he, ?_⟩)
    | (refine Goes.step rfl (fun _ h₁ => ?_)
       replace hF := (fq_rely hF2) hF h₁
       clear h₁
       rw [stepG_inBlock]
       simp only [goes_go]
       refine ⟨by refine dq_none ?_; intro e he; simp at he, ?_⟩)
    | (refine Goes.step rfl (fun _ h₁ => ?_)
       replace hF := (fq_rely hF2) hF h₁
       clear h₁
       rw [stepG_label]
       simp only [goes_go]
       refine ⟨by refine dq_none ?_; intro e he; simp at he, ?_⟩)
    | (refine Goes.step rfl (fun _ h₁ => ?_)
       replace hF := (fq_rely hF2) hF h₁
       clear h₁
       rw [stepG_region]
       simp only [goes_go, List.size_toArray, List.length_cons, List.length_nil, Nat.reduceAdd, Nat.zero_add, List.range, List.range.loop]
       refine ⟨by refine dq_none ?_; intro e he; simp at he, ?_⟩)
    | (refine Goes.step rfl (fun _ h₁ => ?_)
       replace hF := (fq_rely hF2) hF h₁
       clear h₁
       rw [stepG_unwanted rfl rfl]
       simp only [goes_go]
       refine ⟨by refine dq_none ?_; intro e he; simp at he, ?_⟩
       walk_nrm)
    | (refine Goes.step rfl (fun _ h₁ => ?_)
       replace hF := (fq_rely hF2) hF h₁
       clear h₁
       rw [stepG_cond (t := true) rfl]
       simp only [goes_go, if_true, if_false, Bool.false_eq_true, ↓reduceIte]
       refine ⟨by refine dq_none ?_; intro e he; simp at he, ?_⟩)
    | (refine Goes.step rfl (fun _ h₁ => ?_)
       replace hF := (fq_rely hF2) hF h₁
       clear h₁
       rw [stepG_cond (t := false) rfl]
       simp only [goes_go, if_true, if_false, Bool.false_eq_true, ↓reduceIte]
       refine ⟨by refine dq_none ?_; intro e he; simp at he, ?_⟩)
    | (refine Goes.step rfl (fun _ h₁ => ?_)
       replace hF := (fq_rely hF2) hF h₁
       clear h₁
       fail_if_success (rw [stepG_ret'])
       fail_if_success (rw [stepG_end])
       refine goes_oper_k rfl rfl (by k_ne) (fun K hK => ?_)
       go_simp
       refine hK _ _ ⟨?_, ?_⟩
       · refine dq_none ?_; intro e he; have hm := mem_listed he; simp [go_sem, *] at hm
       clear hK K
       try w_num)
    )
  refine Goes.step rfl (fun _ h₁ => ?_)
  replace hF := (fq_rely hF2) hF h₁
  clear h₁
  refine goes_call rfl rfl (by k_ne) rfl H.f_uAdd (nm_uAdd lk) rfl ⟨by refine dq_none ?_; intro e he; simp at he, ?_⟩
  walk_nrmf uAddFn
  repeat (first
    | (refine Goes.step rfl (fun _ h₁ => ?_)
       replace hF := (fq_rely hF2) hF h₁
       clear h₁
       rw [stepG_seq]
       simp only [goes_go]
       refine ⟨by refine dq_none ?_; intro e he; simp at he, ?_⟩)
    | (refine Goes.step rfl (fun _ h₁ => ?_)
       replace hF := (fq_rely hF2) hF h₁
       clear h₁
       rw [stepG_region_end]
       simp only [goes_go]
       refine ⟨by refine dq_none ?_; intro e he; simp at he, ?_⟩)
    | (refine Goes.step rfl (fun _ h₁ => ?_)
       replace hF := (fq_rely hF2) hF h₁
       clear h₁
       rw [stepG_skip]
       simp only [goes_go]
       refine ⟨by refine dq_none ?_; intro e he; simp at he, ?_⟩)
    | (refine Goes.step rfl (fun _ h₁ => ?_)
       replace hF := (fq_rely hF2) hF h₁
       clear h₁
       rw [stepG_block]
       simp only [goes_go]
       refine ⟨by refine dq_none ?_; intro e he; simp at he, ?_⟩)
    | (refine Goes.step rfl (fun _ h₁ => ?_)
       replace hF := (fq_rely hF2) hF h₁
       clear h₁
       rw [stepG_loop]
       simp only [goes_go]
       refine ⟨by refine dq_none ?_; intro e he; simp at he, ?_⟩)
    | (refine Goes.step rfl (fun _ h₁ => ?_)
       replace hF := (fq_rely hF2) hF h₁
       clear h₁
       rw [stepG_inLoop]
       simp only [goes_go]
       refine ⟨by refine dq_none ?_; intro e he; simp at he, ?_⟩)
    | (refine Goes.step rfl (fun _ h₁ => ?_)
       replace hF := (fq_rely hF2) hF h₁
       clear h₁
       rw [stepG_inBlock]
       simp only [goes_go]
       refine ⟨by refine dq_none ?_; intro e he; simp at he, ?_⟩)
    | (refine Goes.step rfl (fun _ h₁ => ?_)
       replace hF := (fq_rely hF2) hF h₁
       clear h₁
       rw [stepG_label]
       simp only [goes_go]
       refine ⟨by refine dq_none ?_; intro e he; simp at he, ?_⟩)
    | (refine Goes.step rfl (fun _ h₁ => ?_)
       replace hF := (fq_rely hF2) hF h₁
       clear h₁
       rw [stepG_region]
       simp only [goes_go, List.size_toArray, List.length_cons, List.length_nil, Nat.reduceAdd, Nat.zero_add, List.range, List.range.loop]
       refine ⟨by refine dq_none ?_; intro e he; simp at he, ?_⟩)
    | (refine Goes.step rfl (fun _ h₁ => ?_)
       replace hF := (fq_rely hF2) hF h₁
       clear h₁
       rw [stepG_unwanted rfl rfl]
       simp only [goes_go]
       refine ⟨by refine dq_none ?_; intro e he; simp at he, ?_⟩
       walk_nrm)
    | (refine Goes.step rfl (fun _ h₁ => ?_)
       replace hF := (fq_rely hF2) hF h₁
       clear h₁
       rw [stepG_cond (t := true) rfl]
       simp only [goes_go, if_true, if_false, Bool.false_eq_true, ↓reduceIte]
       refine ⟨by refine dq_none ?_; intro e he; simp at he, ?_⟩)
    | (refine Goes.step rfl (fun _ h₁ => ?_)
       replace hF := (fq_rely hF2) hF h₁
       clear h₁
       rw [stepG_cond (t := false) rfl]
       simp only [goes_go, if_true, if_false, Bool.false_eq_true, ↓reduceIte]
       refine ⟨by refine dq_none ?_; intro e he; simp at he, ?_⟩)
    | (refine Goes.step rfl (fun _ h₁ => ?_)
       replace hF := (fq_rely hF2) hF h₁
       clear h₁
       fail_if_success (rw [stepG_ret'])
       fail_if_success (rw [stepG_end])
       refine goes_oper_k rfl rfl (by k_ne) (fun K hK => ?_)
       go_simp
       refine hK _ _ ⟨?_, ?_⟩
       · refine dq_none ?_; intro e he; have hm := mem_listed he; simp [go_sem, *] at hm
       clear hK K
       try w_num)
    )
  refine Goes.stop (fun w₂ h₂ => ?_)
  replace hF := fq_rely hF2 hF h₂
  clear h₂
  refine ⟨rfl, fun v hv hw => ?_⟩
  rcases Nat.eq_zero_or_pos v with rfl | hvp
  · -- the count is now 1
    replace hw : WgAt L.ty L.Wg w₂ 0 0 := by simpa using hw
    have z : (((0 : Nat) : Int) + 1) * KK = KK := by simp
    rw [z]
    have e0 : IntKind.u64.wrap (0 + 4294967296) = KK := by decide
    refine ⟨_, (stepG_add_atomic rfl rfl (by k_ne) rfl H.f_addU64 (x_addU64_n lk) (x_addU64_b lk) (x_addU64_x lk) .u64 (x_addU64_f lk) rfl rfl hw.cellSt (hw.thaw 0)).trans (by rw [e0]; rfl), 110, ?_⟩
    replace hF : F (w₂.setCell (stA L.Wg) (.int .u64 KK)) ∧ WgLive L.ty L.Wg (w₂.setCell (stA L.Wg) (.int .u64 KK)) := ⟨hF2 _ _ (setWg_rq hL hw KK) hF.1, ⟨_, _, hw.setSt _⟩⟩
    clear hw
    simp only [GQ, KK] at hF ⊢
    walk_nrm
    repeat (first
      | (refine Goes.step rfl (fun _ h₁ => ?_)
         replace hF := (fq_rely hF2) hF h₁
         clear h₁
         rw [stepG_seq]
         simp only [goes_go]
         refine ⟨by refine dq_none ?_; intro e he; simp at he, ?_⟩)
      | (refine Goes.step rfl (fun _ h₁ => ?_)
         replace hF := (fq_rely hF2) hF h₁
         clear h₁
         rw [stepG_region_end]
         simp only [goes_go]
         refine ⟨by refine dq_none ?_; intro e he; simp at he, ?_⟩)
      | (refine Goes.step rfl (fun _ h₁ => ?_)
         replace hF := (fq_rely hF2) hF h₁
         clear h₁
         rw [stepG_skip]
         simp only [goes_go]
         refine ⟨by refine dq_none ?_; intro e he; simp at he, ?_⟩)
      | (refine Goes.step rfl (fun _ h₁ => ?_)
         replace hF := (fq_rely hF2) hF h₁
         clear h₁
         rw [stepG_block]
         simp only [goes_go]
         refine ⟨by refine dq_none ?_; intro e he; simp at he, ?_⟩)
      | (refine Goes.step rfl (fun _ h₁ => ?_)
         replace hF := (fq_rely hF2) hF h₁
         clear h₁
         rw [stepG_loop]
         simp only [goes_go]
         refine ⟨by refine dq_none ?_; intro e he; simp at he, ?_⟩)
      | (refine Goes.step rfl (fun _ h₁ => ?_)
         replace hF := (fq_rely hF2) hF h₁
         clear h₁
         rw [stepG_inLoop]
         simp only [goes_go]
         refine ⟨by refine dq_none ?_; intro e he; simp at he, ?_⟩)
      | (refine Goes.step rfl (fun _ h₁ => ?_)
         replace hF := (fq_rely hF2) hF h₁
         clear h₁
         rw [stepG_inBlock]
         simp only [goes_go]
         refine ⟨by refine dq_none ?_; intro e he; simp at he, ?_⟩)
      | (refine Goes.step rfl (fun _ h₁ => ?_)
         replace hF := (fq_rely hF2) hF h₁
         clear h₁
         rw [stepG_label]
         simp only [goes_go]
         refine ⟨by refine dq_none ?_; intro e he; simp at he, ?_⟩)
      | (refine Goes.step rfl (fun _ h₁ => ?_)
         replace hF := (fq_rely hF2) hF h₁
         clear h₁
         rw [stepG_region]
         simp only [goes_go, List.size_toArray, List.length_cons, List.length_nil, Nat.reduceAdd, Nat.zero_add, List.range, List.range.loop]
         refine ⟨by refine dq_none ?_; intro e he; simp at he, ?_⟩)
      | (refine Goes.step rfl (fun _ h₁ => ?_)
         replace hF := (fq_rely hF2) hF h₁
         clear h₁
         rw [stepG_unwanted rfl rfl]
         simp only [goes_go]
         refine ⟨by refine dq_none ?_; intro e he; simp at he, ?_⟩
         walk_nrm)
      | (refine Goes.step rfl (fun _ h₁ => ?_)
         replace hF := (fq_rely hF2) hF h₁
         clear h₁
         rw [stepG_cond (t := true) rfl]
         simp only [goes_go, if_true, if_false, Bool.false_eq_true, ↓reduceIte]
         refine ⟨by refine dq_none ?_; intro e he; simp at he, ?_⟩)
      | (refine Goes.step rfl (fun _ h₁ => ?_)
         replace hF := (fq_rely hF2) hF h₁
         clear h₁
         rw [stepG_cond (t := false) rfl]
         simp only [goes_go, if_true, if_false, Bool.false_eq_true, ↓reduceIte]
         refine ⟨by refine dq_none ?_; intro e he; simp at he, ?_⟩)
      | (refine Goes.step rfl (fun _ h₁ => ?_)
         replace hF := (fq_rely hF2) hF h₁
         clear h₁
         fail_if_success (rw [stepG_ret'])
         fail_if_success (rw [stepG_end])
         refine goes_oper_k rfl rfl (by k_ne) (fun K hK => ?_)
         go_simp
         refine hK _ _ ⟨?_, ?_⟩
         · refine dq_none ?_; intro e he; have hm := mem_listed he; simp [go_sem, *] at hm
         clear hK K
         try w_num)
      )
    refine Goes.step rfl (fun _ h₁ => ?_)
    replace hF := (fq_rely hF2) hF h₁
    clear h₁
    rw [stepG_ret']
    simp only [goes_go]
    refine ⟨by refine dq_none ?_; intro e he; simp at he, ?_⟩
    refine Goes.step rfl (fun _ h₁ => ?_)
    replace hF := (fq_rely hF2) hF h₁
    clear h₁
    refine goes_leave1 rfl rfl H.f_uAdd rfl ⟨by refine dq_none ?_; intro e he; simp at he, ?_⟩
    walk_nrm
    repeat (first
      | (refine Goes.step rfl (fun _ h₁ => ?_)
         replace hF := (fq_rely hF2) hF h₁
         clear h₁
         rw [stepG_seq]
         simp only [goes_go]
         refine ⟨by refine dq_none ?_; intro e he; simp at he, ?_⟩)
      | (refine Goes.step rfl (fun _ h₁ => ?_)
         replace hF := (fq_rely hF2) hF h₁
         clear h₁
         rw [stepG_region_end]
         simp only [goes_go]
         refine ⟨by refine dq_none ?_; intro e he; simp at he, ?_⟩)
      | (refine Goes.step rfl (fun _ h₁ => ?_)
         replace hF := (fq_rely hF2) hF h₁
         clear h₁
         rw [stepG_skip]
         simp only [goes_go]
         refine ⟨by refine dq_none ?_; intro e he; simp at he, ?_⟩)
      | (refine Goes.step rfl (fun _ h₁ => ?_)
         replace hF := (fq_rely hF2) hF h₁
         clear h₁
         rw [stepG_block]
         simp only [goes_go]
         refine ⟨by refine dq_none ?_; intro e he; simp at he, ?_⟩)
      | (refine Goes.step rfl (fun _ h₁ => ?_)
         replace hF := (fq_rely hF2) hF h₁
         clear h₁
         rw [stepG_loop]
         simp only [goes_go]
         refine ⟨by refine dq_none ?_; intro e he; simp at he, ?_⟩)
      | (refine Goes.step rfl (fun _ h₁ => ?_)
         replace hF := (fq_rely hF2) hF h₁
         clear h₁
         rw [stepG_inLoop]
         simp only [goes_go]
         refine ⟨by refine dq_none ?_; intro e he; simp at he, ?_⟩)
      | (refine Goes.step rfl (fun _ h₁ => ?_)
         replace hF := (fq_rely hF2) hF h₁
         clear h₁
         rw [stepG_inBlock]
         simp only [goes_go]
         refine ⟨by refine dq_none ?_; intro e he; simp at he, ?_⟩)
      | (refine Goes.step rfl (fun _ h₁ => ?_)
         replace hF := (fq_rely hF2) hF h₁
         clear h₁
         rw [stepG_label]
         simp only [goes_go]
         refine ⟨by refine dq_none ?_; intro e he; simp at he, ?_⟩)
      | (refine Goes.step rfl (fun _ h₁ => ?_)
         replace hF := (fq_rely hF2) hF h₁
         clear h₁
         rw [stepG_region]
         simp only [goes_go, List.size_toArray, List.length_cons, List.length_nil, Nat.reduceAdd, Nat.zero_add, List.range, List.range.loop]
         refine ⟨by refine dq_none ?_; intro e he; simp at he, ?_⟩)
      | (refine Goes.step rfl (fun _ h₁ => ?_)
         replace hF := (fq_rely hF2) hF h₁
         clear h₁
         rw [stepG_unwanted rfl rfl]
         simp only [goes_go]
         refine ⟨by refine dq_none ?_; intro e he; simp at he, ?_⟩
         walk_nrm)
      | (refine Goes.step rfl (fun _ h₁ => ?_)
         replace hF := (fq_rely hF2) hF h₁
         clear h₁
         rw [stepG_cond (t := true) rfl]
         simp only [goes_go, if_true, if_false, Bool.false_eq_true, ↓reduceIte]
         refine ⟨by refine dq_none ?_; intro e he; simp at he, ?_⟩)
      | (refine Goes.step rfl (fun _ h₁ => ?_)
         replace hF := (fq_rely hF2) hF h₁
         clear h₁
         rw [stepG_cond (t := false) rfl]
         simp only [goes_go, if_true, if_false, Bool.false_eq_true, ↓reduceIte]
         refine ⟨by refine dq_none ?_; intro e he; simp at he, ?_⟩)
      | (refine Goes.step rfl (fun _ h₁ => ?_)
         replace hF := (fq_rely hF2) hF h₁
         clear h₁
         fail_if_success (rw [stepG_ret'])
         fail_if_success (rw [stepG_end])
         refine goes_oper_k rfl rfl (by k_ne) (fun K hK => ?_)
         go_simp
         refine hK _ _ ⟨?_, ?_⟩
         · refine dq_none ?_; intro e he; have hm := mem_listed he; simp [go_sem, *] at hm
         clear hK K
         try w_num)
      )
    refine Goes.step rfl (fun _ h₁ => ?_)
    replace hF := (fq_rely hF2) hF h₁
    clear h₁
    refine goes_oper_k rfl rfl (by k_ne) (fun Kx hKx => ?_)
    have hcv := run_convert_to_unsafe (P := P) H.underlying_tPU32 H.underlying_tUP H.room_tU32 (WgLive.cell1 hF.2).choose_spec
    have hce := fun es => events_convert_to_unsafe (P := P) H.underlying_tPU32 H.underlying_tUP H.room_tU32 (WgLive.cell1 hF.2).choose_spec es
    go_simp
    refine hKx _ _ ⟨?_, ?_⟩
    · refine dq_none ?_; intro e he; have hm := mem_listed he; simp [go_sem, hce] at hm
    clear hKx Kx hcv hce
    refine Goes.step rfl (fun _ h₁ => ?_)
    replace hF := (fq_rely hF2) hF h₁
    clear h₁
    rw [stepG_markAt .read (by simp) rfl rfl (by k_ne) rfl H.f_raceRead (x_raceRead_n lk) (x_raceRead_b lk) (x_raceRead_x lk) (x_raceRead_f lk) (ad := ⟨L.Wg, 1, none⟩) (by simp [Act.eval])]
    simp only [goes_go]
    refine ⟨⟨rfl, rfl, rfl, Nat.le_refl _, fun _ _ _ => rfl, fun _ h => h, fun e he => ?_⟩, ?_⟩
    · rw [Array.mem_singleton] at he
      subst he
      exact evq_said_read rfl
    walk_nrm
    repeat (first
      | (refine Goes.step rfl (fun _ h₁ => ?_)
         replace hF := (fq_rely hF2) hF h₁
         clear h₁
         rw [stepG_seq]
         simp only [goes_go]
         refine ⟨by refine dq_none ?_; intro e he; simp at he, ?_⟩)
      | (refine Goes.step rfl (fun _ h₁ => ?_)
         replace hF := (fq_rely hF2) hF h₁
         clear h₁
         rw [stepG_region_end]
         simp only [goes_go]
         refine ⟨by refine dq_none ?_; intro e he; simp at he, ?_⟩)
      | (refine Goes.step rfl (fun _ h₁ => ?_)
         replace hF := (fq_rely hF2) hF h₁
         clear h₁
         rw [stepG_skip]
         simp only [goes_go]
         refine ⟨by refine dq_none ?_; intro e he; simp at he, ?_⟩)
      | (refine Goes.step rfl (fun _ h₁ => ?_)
         replace hF := (fq_rely hF2) hF h₁
         clear h₁
         rw [stepG_block]
         simp only [goes_go]
         refine ⟨by refine dq_none ?_; intro e he; simp at he, ?_⟩)
      | (refine Goes.step rfl (fun _ h₁ => ?_)
         replace hF := (fq_rely hF2) hF h₁
         clear h₁
         rw [stepG_loop]
         simp only [goes_go]
         refine ⟨by refine dq_none ?_; intro e he; simp at he, ?_⟩)
      | (refine Goes.step rfl (fun _ h₁ => ?_)
         replace hF := (fq_rely hF2) hF h₁
         clear h₁
         rw [stepG_inLoop]
         simp only [goes_go]
         refine ⟨by refine dq_none ?_; intro e he; simp at he, ?_⟩)
      | (refine Goes.step rfl (fun _ h₁ => ?_)
         replace hF := (fq_rely hF2) hF h₁
         clear h₁
         rw [stepG_inBlock]
         simp only [goes_go]
         refine ⟨by refine dq_none ?_; intro e he; simp at he, ?_⟩)
      | (refine Goes.step rfl (fun _ h₁ => ?_)
         replace hF := (fq_rely hF2) hF h₁
         clear h₁
         rw [stepG_label]
         simp only [goes_go]
         refine ⟨by refine dq_none ?_; intro e he; simp at he, ?_⟩)
      | (refine Goes.step rfl (fun _ h₁ => ?_)
         replace hF := (fq_rely hF2) hF h₁
         clear h₁
         rw [stepG_region]
         simp only [goes_go, List.size_toArray, List.length_cons, List.length_nil, Nat.reduceAdd, Nat.zero_add, List.range, List.range.loop]
         refine ⟨by refine dq_none ?_; intro e he; simp at he, ?_⟩)
      | (refine Goes.step rfl (fun _ h₁ => ?_)
         replace hF := (fq_rely hF2) hF h₁
         clear h₁
         rw [stepG_unwanted rfl rfl]
         simp only [goes_go]
         refine ⟨by refine dq_none ?_; intro e he; simp at he, ?_⟩
         walk_nrm)
      | (refine Goes.step rfl (fun _ h₁ => ?_)
         replace hF := (fq_rely hF2) hF h₁
         clear h₁
         rw [stepG_cond (t := true) rfl]
         simp only [goes_go, if_true, if_false, Bool.false_eq_true, ↓reduceIte]
         refine ⟨by refine dq_none ?_; intro e he; simp at he, ?_⟩)
      | (refine Goes.step rfl (fun _ h₁ => ?_)
         replace hF := (fq_rely hF2) hF h₁
         clear h₁
         rw [stepG_cond (t := false) rfl]
         simp only [goes_go, if_true, if_false, Bool.false_eq_true, ↓reduceIte]
         refine ⟨by refine dq_none ?_; intro e he; simp at he, ?_⟩)
      | (refine Goes.step rfl (fun _ h₁ => ?_)
         replace hF := (fq_rely hF2) hF h₁
         clear h₁
         fail_if_success (rw [stepG_ret'])
         fail_if_success (rw [stepG_end])
         refine goes_oper_k rfl rfl (by k_ne) (fun K hK => ?_)
         go_simp
         refine hK _ _ ⟨?_, ?_⟩
         · refine dq_none ?_; intro e he; have hm := mem_listed he; simp [go_sem, *] at hm
         clear hK K
         try w_num)
      )
    refine Goes.step rfl (fun _ h₁ => ?_)
    replace hF := (fq_rely hF2) hF h₁
    clear h₁
    rw [stepG_ret']
    simp only [goes_go]
    refine ⟨by refine dq_none ?_; intro e he; simp at he, ?_⟩
    refine Goes.stop (fun w₃ h₃ => ?_)
    replace hF := fq_rely hF2 hF h₃
    clear h₃
    refine ⟨rfl, _, stepG_unwind_entry (v := .tuple #[]) (evs := #[mk .enable]) rfl H.f_enable (x_enable_n lk) (x_enable_b lk) (x_enable_x lk) (x_enable_f lk) (by simp [Extern.Race.none_]) (by simp [mk]) (by simp [mk]), mT + 1, ?_⟩
    simp only [GQ]
    refine Goes.step rfl (fun _ h₁ => ?_)
    replace hF := (fq_rely hF2) hF h₁
    clear h₁
    refine goes_leave0 rfl rfl H.f_add rfl ⟨by refine dq_none ?_; intro e he; simp at he, ?_⟩
    walk_nrm
    exact hT _ hF.1 hF.2

  · -- it is more
    obtain ⟨V, hV⟩ : ∃ V : Int, V = (v : Int) + 1 := ⟨_, rfl⟩
    obtain ⟨S, hS⟩ : ∃ S : Int, S = V * KK := ⟨_, rfl⟩
    have eS : IntKind.u64.wrap ((v : Int) * KK + 4294967296) = S := by rw [IntKind.wrap_u64, hS, hV]; simp only [KK]; omega
    rw [← hV, ← hS]
    have a1 : S / 4294967296 = V := by rw [hS]; simp only [KK]; omega
    have b1 : bits .and .u64 S 2147483648 = 0 := by rw [hS, hV]; have := st_flag (v + 1) 0 (by omega) (by omega); simpa [KK] using this
    have b2 : bits .and .u64 S 2147483647 = 0 := by rw [hS, hV]; have := st_waiters (v + 1) 0 (by omega) (by omega); simpa [KK] using this
    have c1 : IntKind.i32.wrap V = V := by rw [IntKind.wrap_i32]; omega
    have hV1 : 1 < V := by omega
    have hV2 : V < 2147483648 := by omega
    have q1 : (V == 1) = false := by simp; omega
    have q2 : decide (V = 1) = false := decide_eq_false (by omega)
    have q3 : decide (V < 0) = false := decide_eq_false (by omega)
    have q4 : decide (0 < V) = true := decide_eq_true (by omega)
    have q5 : (V == 0) = false := by simp; omega
    have q6 : decide (V = 0) = false := decide_eq_false (by omega)
    refine ⟨_, (stepG_add_atomic rfl rfl (by k_ne) rfl H.f_addU64 (x_addU64_n lk) (x_addU64_b lk) (x_addU64_x lk) .u64 (x_addU64_f lk) rfl rfl hw.cellSt (hw.thaw 0)).trans (by rw [eS]; rfl), 110, ?_⟩
    replace hF : F (w₂.setCell (stA L.Wg) (.int .u64 S)) ∧ WgLive L.ty L.Wg (w₂.setCell (stA L.Wg) (.int .u64 S)) := ⟨hF2 _ _ (setWg_rq hL hw S) hF.1, ⟨_, _, hw.setSt _⟩⟩
    clear hw hS hV eS
    simp only [GQ]
    walk_nrm
    repeat (first
      | (refine Goes.step rfl (fun _ h₁ => ?_)
         replace hF := (fq_rely hF2) hF h₁
         clear h₁
         rw [stepG_seq]
         simp only [goes_go]
         refine ⟨by refine dq_none ?_; intro e he; simp at he, ?_⟩)
      | (refine Goes.step rfl (fun _ h₁ => ?_)
         replace hF := (fq_rely hF2) hF h₁
         clear h₁
         rw [stepG_region_end]
         simp only [goes_go]
         refine ⟨by refine dq_none ?_; intro e he; simp at he, ?_⟩)
      | (refine Goes.step rfl (fun _ h₁ => ?_)
         replace hF := (fq_rely hF2) hF h₁
         clear h₁
         rw [stepG_skip]
         simp only [goes_go]
         refine ⟨by refine dq_none ?_; intro e he; simp at he, ?_⟩)
      | (refine Goes.step rfl (fun _ h₁ => ?_)
         replace hF := (fq_rely hF2) hF h₁
         clear h₁
         rw [stepG_block]
         simp only [goes_go]
         refine ⟨by refine dq_none ?_; intro e he; simp at he, ?_⟩)
      | (refine Goes.step rfl (fun _ h₁ => ?_)
         replace hF := (fq_rely hF2) hF h₁
         clear h₁
         rw [stepG_loop]
         simp only [goes_go]
         refine ⟨by refine dq_none ?_; intro e he; simp at he, ?_⟩)
      | (refine Goes.step rfl (fun _ h₁ => ?_)
         replace hF := (fq_rely hF2) hF h₁
         clear h₁
         rw [stepG_inLoop]
         simp only [goes_go]
         refine ⟨by refine dq_none ?_; intro e he; simp at he, ?_⟩)
      | (refine Goes.step rfl (fun _ h₁ => ?_)
         replace hF := (fq_rely hF2) hF h₁
         clear h₁
         rw [stepG_inBlock]
         simp only [goes_go]
         refine ⟨by refine dq_none ?_; intro e he; simp at he, ?_⟩)
      | (refine Goes.step rfl (fun _ h₁ => ?_)
         replace hF := (fq_rely hF2) hF h₁
         clear h₁
         rw [stepG_label]
         simp only [goes_go]
         refine ⟨by refine dq_none ?_; intro e he; simp at he, ?_⟩)
      | (refine Goes.step rfl (fun _ h₁ => ?_)
         replace hF := (fq_rely hF2) hF h₁
         clear h₁
         rw [stepG_region]
         simp only [goes_go, List.size_toArray, List.length_cons, List.length_nil, Nat.reduceAdd, Nat.zero_add, List.range, List.range.loop]
         refine ⟨by refine dq_none ?_; intro e he; simp at he, ?_⟩)
      | (refine Goes.step rfl (fun _ h₁ => ?_)
         replace hF := (fq_rely hF2) hF h₁
         clear h₁
         rw [stepG_unwanted rfl rfl]
         simp only [goes_go]
         refine ⟨by refine dq_none ?_; intro e he; simp at he, ?_⟩
         walk_nrm)
      | (refine Goes.step rfl (fun _ h₁ => ?_)
         replace hF := (fq_rely hF2) hF h₁
         clear h₁
         rw [stepG_cond (t := true) rfl]
         simp only [goes_go, if_true, if_false, Bool.false_eq_true, ↓reduceIte]
         refine ⟨by refine dq_none ?_; intro e he; simp at he, ?_⟩)
      | (refine Goes.step rfl (fun _ h₁ => ?_)
         replace hF := (fq_rely hF2) hF h₁
         clear h₁
         rw [stepG_cond (t := false) rfl]
         simp only [goes_go, if_true, if_false, Bool.false_eq_true, ↓reduceIte]
         refine ⟨by refine dq_none ?_; intro e he; simp at he, ?_⟩)
      | (refine Goes.step rfl (fun _ h₁ => ?_)
         replace hF := (fq_rely hF2) hF h₁
         clear h₁
         fail_if_success (rw [stepG_ret'])
         fail_if_success (rw [stepG_end])
         refine goes_oper_k rfl rfl (by k_ne) (fun K hK => ?_)
         go_simp
         refine hK _ _ ⟨?_, ?_⟩
         · refine dq_none ?_; intro e he; have hm := mem_listed he; simp [go_sem, *] at hm
         clear hK K
         try w_num)
      )
    refine Goes.step rfl (fun _ h₁ => ?_)
    replace hF := (fq_rely hF2) hF h₁
    clear h₁
    rw [stepG_ret']
    simp only [goes_go]
    refine ⟨by refine dq_none ?_; intro e he; simp at he, ?_⟩
    refine Goes.step rfl (fun _ h₁ => ?_)
    replace hF := (fq_rely hF2) hF h₁
    clear h₁
    refine goes_leave1 rfl rfl H.f_uAdd rfl ⟨by refine dq_none ?_; intro e he; simp at he, ?_⟩
    walk_nrm
    repeat (first
      | (refine Goes.step rfl (fun _ h₁ => ?_)
         replace hF := (fq_rely hF2) hF h₁
         clear h₁
         rw [stepG_seq]
         simp only [goes_go]
         refine ⟨by refine dq_none ?_; intro e he; simp at he, ?_⟩)
      | (refine Goes.step rfl (fun _ h₁ => ?_)
         replace hF := (fq_rely hF2) hF h₁
         clear h₁
         rw [stepG_region_end]
         simp only [goes_go]
         refine ⟨by refine dq_none ?_; intro e he; simp at he, ?_⟩)
      | (refine Goes.step rfl (fun _ h₁ => ?_)
         replace hF := (fq_rely hF2) hF h₁
         clear h₁
         rw [stepG_skip]
         simp only [goes_go]
         refine ⟨by refine dq_none ?_; intro e he; simp at he, ?_⟩)
      | (refine Goes.step rfl (fun _ h₁ => ?_)
         replace hF := (fq_rely hF2) hF h₁
         clear h₁
         rw [stepG_block]
         simp only [goes_go]
         refine ⟨by refine dq_none ?_; intro e he; simp at he, ?_⟩)
      | (refine Goes.step rfl (fun _ h₁ => ?_)
         replace hF := (fq_rely hF2) hF h₁
         clear h₁
         rw [stepG_loop]
         simp only [goes_go]
         refine ⟨by refine dq_none ?_; intro e he; simp at he, ?_⟩)
      | (refine Goes.step rfl (fun _ h₁ => ?_)
         replace hF := (fq_rely hF2) hF h₁
         clear h₁
         rw [stepG_inLoop]
         simp only [goes_go]
         refine ⟨by refine dq_none ?_; intro e he; simp at he, ?_⟩)
      | (refine Goes.step rfl (fun _ h₁ => ?_)
         replace hF := (fq_rely hF2) hF h₁
         clear h₁
         rw [stepG_inBlock]
         simp only [goes_go]
         refine ⟨by refine dq_none ?_; intro e he; simp at he, ?_⟩)
      | (refine Goes.step rfl (fun _ h₁ => ?_)
         replace hF := (fq_rely hF2) hF h₁
         clear h₁
         rw [stepG_label]
         simp only [goes_go]
         refine ⟨by refine dq_none ?_; intro e he; simp at he, ?_⟩)
      | (refine Goes.step rfl (fun _ h₁ => ?_)
         replace hF := (fq_rely hF2) hF h₁
         clear h₁
         rw [stepG_region]
         simp only [goes_go, List.size_toArray, List.length_cons, List.length_nil, Nat.reduceAdd, Nat.zero_add, List.range, List.range.loop]
         refine ⟨by refine dq_none ?_; intro e he; simp at he, ?_⟩)
      | (refine Goes.step rfl (fun _ h₁ => ?_)
         replace hF := (fq_rely hF2) hF h₁
         clear h₁
         rw [stepG_unwanted rfl rfl]
         simp only [goes_go]
         refine ⟨by refine dq_none ?_; intro e he; simp at he, ?_⟩
         walk_nrm)
      | (refine Goes.step rfl (fun _ h₁ => ?_)
         replace hF := (fq_rely hF2) hF h₁
         clear h₁
         rw [stepG_cond (t := true) rfl]
         simp only [goes_go, if_true, if_false, Bool.false_eq_true, ↓reduceIte]
         refine ⟨by refine dq_none ?_; intro e he; simp at he, ?_⟩)
      | (refine Goes.step rfl (fun _ h₁ => ?_)
         replace hF := (fq_rely hF2) hF h₁
         clear h₁
         rw [stepG_cond (t := false) rfl]
         simp only [goes_go, if_true, if_false, Bool.false_eq_true, ↓reduceIte]
         refine ⟨by refine dq_none ?_; intro e he; simp at he, ?_⟩)
      | (refine Goes.step rfl (fun _ h₁ => ?_)
         replace hF := (fq_rely hF2) hF h₁
         clear h₁
         fail_if_success (rw [stepG_ret'])
         fail_if_success (rw [stepG_end])
         refine goes_oper_k rfl rfl (by k_ne) (fun K hK => ?_)
         go_simp
         refine hK _ _ ⟨?_, ?_⟩
         · refine dq_none ?_; intro e he; have hm := mem_listed he; simp [go_sem, *] at hm
         clear hK K
         try w_num)
      )
    refine Goes.step rfl (fun _ h₁ => ?_)
    replace hF := (fq_rely hF2) hF h₁
    clear h₁
    rw [stepG_ret']
    simp only [goes_go]
    refine ⟨by refine dq_none ?_; intro e he; simp at he, ?_⟩
    refine Goes.stop (fun w₃ h₃ => ?_)
    replace hF := fq_rely hF2 hF h₃
    clear h₃
    refine ⟨rfl, _, stepG_unwind_entry (v := .tuple #[]) (evs := #[mk .enable]) rfl H.f_enable (x_enable_n lk) (x_enable_b lk) (x_enable_x lk) (x_enable_f lk) (by simp [Extern.Race.none_]) (by simp [mk]) (by simp [mk]), mT + 1, ?_⟩
    simp only [GQ]
    refine Goes.step rfl (fun _ h₁ => ?_)
    replace hF := (fq_rely hF2) hF h₁
    clear h₁
    refine goes_leave0 rfl rfl H.f_add rfl ⟨by refine dq_none ?_; intro e he; simp at he, ?_⟩
    walk_nrm
    exact hT _ hF.1 hF.2
end
end Go.Proofs.Ytoipkpndfgcmcaa.Crew
