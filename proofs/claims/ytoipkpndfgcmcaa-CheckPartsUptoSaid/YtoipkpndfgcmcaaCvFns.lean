/-
  The functions of this program that are calm by their text. No assumption.
-/
import Derived.Test.YtoipkpndfgcmcaaCvRunsK
import Derived.Test.YtoipkpndfgcmcaaRows
import Derived.KernelRfl
namespace Go.Proofs.Ytoipkpndfgcmcaa.Crew
open Go Go.Conc Go.Proofs.Ytoipkpndfgcmcaa.Veils
def calmL : List Nat := [16, 20, 23, 37, 27, 50, 59, 33, 48, 57, 52]
def calmF (f : FuncId) : Bool := calmL.contains f
theorem calm_all : calmL.all (fun f => match Try.prog.funcs[f]? with
  | some fn => match fn.body with
    | some b => codeCalm Try.prog calmF b
    | none => false
  | none => false) = true := by kernel_rfl
theorem fns : FnsCalm Try.prog calmF := ⟨fun f hf => by
  have h := List.all_eq_true.1 calm_all f (by simpa [calmF] using hf)
  cases h1 : Try.prog.funcs[f]? with
  | none => rw [h1] at h; cases h
  | some fn =>
    rw [h1] at h
    cases h2 : fn.body with
    | none => simp only [h2] at h; cases h
    | some b =>
      simp only [h2] at h
      exact ⟨fn, b, rfl, h2, h⟩⟩
end Go.Proofs.Ytoipkpndfgcmcaa.Crew
