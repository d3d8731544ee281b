/-
  Calls of function values, deferred and not, and a recover that finds nothing, in company. The conditions stand in each theorem. No program in sight.
-/
import Derived.Conc.DeferLaws
import Derived.Conc.QuitsD
import Derived.Conc.CompanyDraw
namespace Go.Proofs.Ytoipkpndfgcmcaa.Crew
open Go Go.Conc
set_option linter.unusedVariables false
set_option linter.unusedSectionVars false
set_option linter.unusedSimpArgs false
section
variable {P : Program} {main : Bool} {b : Frame} {a : Act} {k : List Item} {cs : List Frame} {w : World} {ops : Array Oper} {i : Nat} {rest : List Nat} {o : Oper} {f : FuncId} {fn : Func} {caps : Array Value} {x : Operand} {c : Code}
/-- A function value is called. -/
theorem run_call_value (hop : o.op = .call { callee := .value x, args := #[], argTypes := #[] }) (hx : a.eval x = .func (.func f) #[] caps)
    (hf : P.funcs[f]? = some fn) (hname : (fn.name == "runtime.NumGoroutine") = false) (hb : fn.body.isNone = false) : (execOp a.eval o).run P w = .ok (.enter f caps) w ∧ (execOp a.eval o).events P w #[] = #[] := by
  have h1 : ¬ fn.name = "runtime.NumGoroutine" := by simpa using hname
  have h2 : ¬ fn.body = none := by cases hx : fn.body <;> simp_all
  unfold execOp
  constructor <;> simp [hop, resolve, Deferred.ofValue, invoke, callFunc, hf, h1, h2, hx]
theorem goes_callv {K : Goroutine → World → Array Event → Prop} (ho : ops[i]? = some o) (hw : Region.wanted o (yielded ops a.tmps) = true) (hk : b.kind ≠ .early) (hop : o.op = .call { callee := .value x, args := #[], argTypes := #[] }) (hx : a.eval x = .func (.func f) #[] caps)
    (hf : P.funcs[f]? = some fn) (hname : (fn.name == "runtime.NumGoroutine") = false) (hb : fn.body = some c)
    (h : K (G ((base f).at { tmps := caps ++ Array.replicate (fn.ntmps - caps.size) undef, defers := [] } [.code c]) (b.at a (.inRegion ops (i :: rest) :: k) :: cs)) w #[]) :
    (stepG P main (G (b.at a (.inRegion ops (i :: rest) :: k)) cs) w).goes K := by
  have hb' : fn.body.isNone = false := by rw [hb]; rfl
  rw [stepG_enter ho hw hk (run_call_value hop hx hf hname hb').1, enter_at _ hf hb]
  have : listed P b.fn a o w = #[] := by unfold listed; rw [(run_call_value hop hx hf hname hb').2]; exact seen_none P _
  rw [this]
  exact h
/-- The deferred call of a function value. -/
def dcallv (f : FuncId) (caps : Array Value) : Deferred := { target := .fn (.func f) caps, args := #[] }
theorem stepG_deferv (ho : ops[i]? = some o) (hw : Region.wanted o (yielded ops a.tmps) = true) (hk : b.kind ≠ .early)
    (hop : o.op = .defer { callee := .value x, args := #[], argTypes := #[] }) (hx : a.eval x = .func (.func f) #[] caps) :
    stepG P main (G (b.at a (.inRegion ops (i :: rest) :: k)) cs) w = .go (G (b.at (Act.put ⟨a.tmps, dcallv f caps :: a.defers⟩ o.dst undef) (.inRegion ops rest :: k)) cs) w #[] := by
  have hr : (execOp a.eval o).run P w = .ok (.defer (dcallv f caps)) w := by
    unfold execOp
    simp [hop, resolve, Deferred.ofValue, hx, dcallv]
  have he : (execOp a.eval o).events P w #[] = #[] := by
    unfold execOp
    simp [hop, resolve, Deferred.ofValue, hx]
  have hfin : (b.at ⟨a.tmps, dcallv f caps :: a.defers⟩ (.inRegion ops (i :: rest) :: k)).finish undef = b.at (Act.put ⟨a.tmps, dcallv f caps :: a.defers⟩ o.dst undef) (.inRegion ops rest :: k) := by rw [Frame.finish_at, ho]; rfl
  have hk' : (b.kind == CallKind.early) = false := by simpa using hk
  rw [stepG_oper ho hw, ← hfin]
  simp [stepG.apply, hr, he, G, Frame.at, hk', GStep.after, seen_none]
theorem stepG_unwind_enterv {todo : List Item} {ds : List Deferred} (hd : a.defers = dcallv f caps :: ds) (hf : P.funcs[f]? = some fn) (hname : (fn.name == "runtime.NumGoroutine") = false) (hb : fn.body = some c) :
    stepG P main (G { b.at a todo with mode := .returning } cs) w =
      .go (G ((baseD f).at { tmps := caps ++ Array.replicate (fn.ntmps - caps.size) undef, defers := [] } [.code c]) ({ b.at ⟨a.tmps, ds⟩ todo with mode := .returning } :: cs)) w #[] := by
  have h1 : ¬ fn.name = "runtime.NumGoroutine" := by simpa using hname
  rw [← enter_atD caps hf hb]
  simp [G, stepG, unwind, callDeferred, Frame.at, hd, dcallv, invoke, callFunc, hf, h1, hb, GStep.after, seen_none]
/-- A recover with nothing to recover from. -/
theorem stepG_recover0 {cl : Frame} (ho : ops[i]? = some o) (hw : Region.wanted o (yielded ops a.tmps) = true) (hop : o.op = .call { callee := .builtin .recover, args := #[], argTypes := #[] }) (hc : cl.mode = .returning) :
    stepG P main (G ((baseD f).at a (.inRegion ops (i :: rest) :: k)) (cl :: cs)) w = .go (G ((baseD f).at (a.put o.dst .nilIface) (.inRegion ops rest :: k)) (cl :: cs)) w #[] := by
  have hr : (execOp a.eval o).run P w = .ok .recover w := by
    unfold execOp
    simp [hop, resolve, invoke, builtin]
  have he : (execOp a.eval o).events P w #[] = #[] := by
    unfold execOp
    simp [hop, resolve, invoke, builtin]
  have hfin : ((baseD f).at a (.inRegion ops (i :: rest) :: k)).finish .nilIface = (baseD f).at (a.put o.dst .nilIface) (.inRegion ops rest :: k) := by rw [Frame.finish_at, ho]; rfl
  have hro : ((baseD f).at a (.inRegion ops (i :: rest) :: k)).roundOf = none := rfl
  have htr : tryRecover ((baseD f).at a (.inRegion ops (i :: rest) :: k)) (cl :: cs) = none := by
    simp [tryRecover, baseD, Frame.at, hc]
  rw [stepG_oper ho hw, ← hfin]
  have hk' : ((baseD f).kind == CallKind.early) = false := rfl
  simp only [Frame.at, G] at hro htr ⊢
  simp [stepG.apply, hr, he, hro, htr, hk', GStep.after, seen_none]
end
/-! the orders of a region that draws -/
def orders (md : Region.Mode) (ops : Array Oper) : Nat → Array Bool → List Nat → List (List Nat)
  | 0, _, acc => [acc.reverse]
  | fuel + 1, listed, acc => match Region.ready md ops listed with
    | [] => [acc.reverse]
    | rs => rs.flatMap fun i => orders md ops fuel (listed.setIfInBounds i true) (i :: acc)
theorem orders_go (md : Region.Mode) (ops : Array Oper) : ∀ (fuel t : Nat) (listed : Array Bool) (acc : List Nat), Region.linearise.go md ops fuel t listed acc ∈ orders md ops fuel listed acc
  | 0, t, listed, acc => by simp [Region.linearise.go, orders]
  | fuel + 1, t, listed, acc => by
      simp only [Region.linearise.go, orders]
      change (match (Region.ready md ops listed)[t % (Region.ready md ops listed).length]? with
        | some i => Region.linearise.go md ops fuel (t / (Region.ready md ops listed).length) (listed.setIfInBounds i true) (i :: acc)
        | none => acc.reverse) ∈ _
      cases hr : Region.ready md ops listed with
      | nil => simp
      | cons x xs =>
        have hlt : t % (x :: xs).length < (x :: xs).length := Nat.mod_lt _ (by simp)
        rw [List.getElem?_eq_getElem hlt]
        simp only []
        exact List.mem_flatMap.2 ⟨_, List.getElem_mem hlt, orders_go md ops fuel _ _ _⟩
theorem orders_mem (ops : Array Oper) (t : Nat) : Region.schedule true ops t ∈ orders .any ops ops.size (Array.replicate ops.size false) [] := by
  simp only [Region.schedule, Bool.true_or, if_true]
  exact orders_go _ _ _ _ _ _
end Go.Proofs.Ytoipkpndfgcmcaa.Crew
