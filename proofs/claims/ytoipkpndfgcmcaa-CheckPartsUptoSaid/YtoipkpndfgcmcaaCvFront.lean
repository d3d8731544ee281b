/-
  The beginning of a function's text, walked alone; what a veiled world shows; the state of a machine named; the last step of a run. The conditions stand in each theorem. No program in sight.
-/
import Derived.Test.YtoipkpndfgcmcaaCvGraft
import Derived.Test.YtoipkpndfgcmcaaCvEnd
import Derived.Test.YtoipkpndfgcmcaaCvParts2
namespace Go.Proofs.Ytoipkpndfgcmcaa.Crew
open Go Go.Conc Go.ConcN Go.RowKit Go.Conc.Lib Go.ConcR.Gen Go.ConcN.Gen Go.Proofs.Ytoipkpndfgcmcaa.Veils
set_option linter.unusedVariables false
/-- The first k parts of a row, with an empty last one. -/
def front : Nat → Code → Code
  | k + 1, .seq a b => .seq a (front k b)
  | _, _ => .skip
theorem lone_of_front {P : Program} {c : Code} {b : Frame} {a : Act} {v : World} {R : Act → World → Prop} (h : c.wp P (fun e a' w' => e = .normal ∧ R a' w') a v) :
    ∃ N fr v', runN P N (lone (b.at a [.code c]) [pit] v) = .next (lone fr [pit] v') ∧ fr.mode = .run ∧ fr.todo = [] ∧ ∃ a', fr = b.at a' [] ∧ R a' v' := by
  obtain ⟨e, a', w', ⟨rfl, q⟩, arr⟩ := h b [] [pit]
  obtain ⟨n, hn⟩ := arr
  exact ⟨n, _, w', hn, rfl, rfl, a', rfl, q⟩
theorem cell_veil {X : Nat → Prop} {w : World} {a : Addr} {x : Value} (h : (veilW X w).cell? a = some x) : w.cell? a = some x := by
  unfold World.cell? at h ⊢
  rw [veilW_at] at h
  cases hw : w.heap[a.block]? with
  | none => rw [hw] at h; exact h
  | some o =>
    rw [hw] at h
    by_cases hx : X a.block
    · simp [hx] at h
    · by_cases hp : Obj.plain o
      · simpa [hx, hp] using h
      · exfalso
        cases o <;> first | exact hp trivial | simp [hx, hp, dimO] at h
section
variable {P : Program} {X : Nat → Prop} {J : Nat} {S S' : Goroutine → World → Prop} {m : Machine} {t : Trace} {Q : Machine → Trace → Prop}
/-- The state that the machine is in, named. -/
theorem Mach.pin (h : Mach P X J S m t) : ∃ a w, S a w ∧ Mach P X J (fun a' w' => a' = a ∧ w' = w) m t := by
  obtain ⟨gs, a, w, sl, q, h1, h2, h3, h4, h5, h6⟩ := h
  exact ⟨a, w, h4, gs, a, w, sl, q, h1, h2, h3, ⟨rfl, rfl⟩, h5, h6⟩
theorem Mach.named {a : Goroutine} {w : World} (h : Mach P X J (fun a' w' => a' = a ∧ w' = w) m t) (k : S a w) : Mach P X J S m t :=
  h.mono fun a' w' ⟨e1, e2⟩ => by subst e1 e2; exact k
/-- The run's last step. -/
theorem stepG_last {fn : Func} {b : Frame} {a : Act} {todo : List Item} {v : Value} {w : World} (hn : b.kind = .normal) (hd : a.defers = []) (hf : P.funcs[b.fn]? = some fn)
    (hr : (results fn a.tmps).run P w = .ok v w) (he : (results fn a.tmps).events P w #[] = #[]) (hin : P.inits.idxOf? b.fn = none) :
    stepG P true (G { b.at a todo with mode := .returning } []) w = .ended (.done v) w #[] := by
  simp [hin, G, stepG, unwind, doReturn, Frame.at, hn, hd, hf, hr, he, seen, GStep.after]
end
end Go.Proofs.Ytoipkpndfgcmcaa.Crew
