/-
  The whole machine, goroutine 0 at a given state beside others that only leave: how one state leads to the next; a further block is hidden before it is made. The conditions stand in each theorem. No program in sight.
-/
import Derived.Test.YtoipkpndfgcmcaaCvGo
namespace Go.Proofs.Ytoipkpndfgcmcaa.Crew
open Go Go.Conc Go.ConcN Go.RowKit Go.Proofs.Ytoipkpndfgcmcaa.Veils
set_option linter.unusedVariables false
/-- Goroutine 0 stands so; J others only leave. -/
def Mach (P : Program) (X : Nat → Prop) (J : Nat) (S : Goroutine → World → Prop) (m : Machine) (t : Trace) : Prop :=
  ∃ (gs : Array Goroutine) (a : Goroutine) (w : World) (sl : Option (Nat × Nat)) (q : Nat → Nat), m = crowd gs w sl ∧ gs.size = J + 1 ∧ gs[0]? = some a ∧ S a w ∧ Leavers P t gs q ∧ Past2 X w.heap.size J t
/-- The machine comes there. -/
def Leads (P : Program) (m : Machine) (t : Trace) (Q : Machine → Trace → Prop) : Prop := ∃ N m' t', runNT P N m t = (.next m', t') ∧ Q m' t'
theorem runNT_on {P : Program} : ∀ (N M : Nat) (m m' : Machine) (t t' : Trace), runNT P N m t = (.next m', t') → runNT P (N + M) m t = runNT P M m' t'
  | 0, M, m, m', t, t', h => by
      simp only [runNT] at h
      injection h with h1 h2
      injection h1 with h1
      subst h1 h2
      rw [Nat.zero_add]
  | N + 1, M, m, m', t, t', h => by
      rw [show N + 1 + M = (N + M) + 1 by omega]
      simp only [runNT] at h ⊢
      cases hs : stepT P m with
      | mk r ops =>
        rw [hs] at h
        cases r with
        | next m1 =>
          simp only at h ⊢
          exact runNT_on N M m1 m' _ t' h
        | _ => simp only at h; cases h
section
variable {P : Program} {X : Nat → Prop} {J : Nat} {S S' : Goroutine → World → Prop} {m : Machine} {t : Trace} {Q R : Machine → Trace → Prop}
theorem Leads.here (h : Q m t) : Leads P m t Q := ⟨0, m, t, rfl, h⟩
theorem Leads.bind (h : Leads P m t Q) (k : ∀ m' t', Q m' t' → Leads P m' t' R) : Leads P m t R := by
  obtain ⟨N, m1, t1, h1, h2⟩ := h
  obtain ⟨M, m2, t2, h3, h4⟩ := k m1 t1 h2
  exact ⟨N + M, m2, t2, by rw [runNT_on N M _ _ _ _ h1]; exact h3, h4⟩
theorem Leads.mono (h : Leads P m t Q) (k : ∀ m' t', Q m' t' → R m' t') : Leads P m t R := h.bind fun m' t' h => .here (k m' t' h)
theorem Mach.mono (h : Mach P X J S m t) (k : ∀ a w, S a w → S' a w) : Mach P X J S' m t :=
  let ⟨gs, a, w, sl, q, h1, h2, h3, h4, h5, h6⟩ := h; ⟨gs, a, w, sl, q, h1, h2, h3, k a w h4, h5, h6⟩
theorem Mach.runs (h : Mach P X J S m t) (k : ∀ a w, S a w → Runs P (DF X) S' a w) : Leads P m t (Mach P X J S') := by
  obtain ⟨gs, a, w, sl, q, rfl, h2, h3, h4, h5, h6⟩ := h
  obtain ⟨N, gs', a', w', sl', t', q', e1, e2, e3, e4, e5, e6⟩ := runs_beside (k a w h4) gs sl t q w.drawn h2 h3 h5 h6
  exact ⟨N, _, t', e1, gs', a', w', sl', q', rfl, e2, e3, e4, e5, e6⟩
theorem past_hide {B b : Nat} (h : Past2 X B J t) (hb : B ≤ b) : Past2 (fun r => X r ∨ r = b) B J t := by
  have hno : ∀ (op : MemOp) (x : Touch), op ∈ t → op.act.touch? = some x → ShX (fun r => X r ∨ r = b) x.loc → ShX X x.loc := fun op x hop hx ⟨a, h1, h2⟩ => by
    rcases h2 with h2 | h2
    · exact ⟨a, h1, h2⟩
    · have := h.seen op hop x hx
      rw [h1] at this
      have : a.block < B := this
      omega
  have hsh : ∀ l, ¬ ShX (fun r => X r ∨ r = b) l → ¬ ShX X l := fun l hl ⟨a, h1, h2⟩ => hl ⟨a, h1, .inl h2⟩
  refine ⟨⟨fun i op x hi hx hs => h.ct.quiet i op x hi hx (hno op x (Array.mem_of_getElem? hi) hx hs), h.ct.own, h.ct.rd, fun l hl => h.ct.free l (hsh l hl), fun l hl => h.ct.mine l (hsh l hl), h.ct.nr, h.ct.gs⟩, h.over, h.hears, h.seen⟩
theorem Mach.hide {b : Nat} (h : Mach P X J S m t) (hb : ∀ a w, S a w → w.heap.size ≤ b) : Mach P (fun r => X r ∨ r = b) J S m t :=
  let ⟨gs, a, w, sl, q, h1, h2, h3, h4, h5, h6⟩ := h; ⟨gs, a, w, sl, q, h1, h2, h3, h4, h5, past_hide h6 (hb a w h4)⟩
end
end Go.Proofs.Ytoipkpndfgcmcaa.Crew
