/-
  CheckParts is true of every list of parts whose bulk is at most 2^20: the sum of the parts by goroutines is the document's, each time, and no part is changed.
-/
import Derived.Test.YtoipkpndfgcmcaaRows
import Derived.Test.YtoipkpndfgcmcaaOpen
import Derived.Test.YtoipkpndfgcmcaaCpOpen
import Derived.Test.YtoipkpndfgcmcaaCheckPartsW
import Derived.Test.YtoipkpndfgcmcaaCvHolds
namespace Go.Proofs.Ytoipkpndfgcmcaa.checkParts
open Go.RowKit Go.ChangeShapes Go.WideShapes Go.ChangeAt Go.Conc Go.Proofs.Ytoipkpndfgcmcaa.Crew
set_option linter.unusedVariables false

theorem own : ownKnob Try.prog.godebug = none := by kernel_rfl
theorem laidOut : laidOutB Try.prog = true := by kernel_rfl

set_option maxRecDepth 100000 in
theorem lifted (os : Os) (started : os.Started) (H : Type) (enc : TypeId × Value → H) (F : Stop.Interp) :
    ReturnsInLeavingWide {} Try.checked os 9 .any ((Rows.OpenSpec.upto Rows.checkPartsSpec).pre6 enc Try.prog Try.f9 Rows.checkPartsUptoRow.domain false) (((Rows.OpenSpec.upto Rows.checkPartsSpec).at F).post enc Try.prog Try.f9 false true false false) := by
  refine leaving_of_cond_sized (C := Try.checked) (s := Rows.OpenSpec.upto Rows.checkPartsSpec) (k := Rows.uptoSmall) rfl own started Try.func9
    (OpenSpec.witness (enc := enc) (C := Try.checked) (s := Rows.OpenSpec.upto Rows.checkPartsSpec) (k := Rows.uptoSmall) rfl false ⟨#[], #[.slice none 0 0], []⟩ 8 (by kernel_rfl) (by kernel_rfl) (by kernel_rfl)
      (x := ([.nil], [], [])) (by kernel_rfl) rfl (by kernel_rfl)) ?_
  intro W base args ds gs before hval0 hW hcnd hk _
  have hval : ∀ (j : Nat) t v, Try.f9.params[j]? = some t → args[j]? = some v → Value.okWide Try.prog W .any base t v := hval0
  have hW' : DataW.Whole enc Try.prog Try.f9.params.toList Rows.checkPartsSpec.vars false W args.toList ds gs before := hW
  obtain ⟨p, q, hA0, hV, rfl, hfz, hnd⟩ := hW
  have hA : DataW.TrodAll enc Try.prog W 0 (fun _ => true) true Try.f9.params.toList args.toList ds p := hA0
  rw [Try.params9] at hA hval
  obtain ⟨v0, vs0, d0, ds0, p0, q0, hargs, rfl, rfl, h0, r0⟩ := trodAll_cons hA
  obtain ⟨rfl, rfl, rfl⟩ := trodAll_nil r0
  obtain rfl : args = #[v0] := by cases args; simp_all
  obtain ⟨rfl, rfl⟩ := trodVars_none hV
  obtain ⟨a0, n0, c0, rfl⟩ := okWide_slice Try.underlying62 (hval 0 62 v0 rfl rfl)
  have k0 := h0
  have lt0 : ∀ x ∈ p0, x.block < W.heap.size := by obtain ⟨m, hm⟩ := k0; exact DataW.trod_lt m _ _ _ hm
  have hb0 := small_all hk d0 (by simp)
  obtain ⟨hn, ps, sl, hp, hB⟩ := open_parts hb0 h0
  clear hA0 hval0
  obtain ⟨M, last, o, w', t', h1, h2, h3, h4⟩ := checkParts_run (cap := c0) hp hB hn
  refine ⟨M, last, o, w', t', h1, h2, h3, h4.mono fun v hp => ?_⟩
  obtain ⟨he, bel⟩ := hp
  subst he
  exact ⟨_, _, _, [], _, [], hW', trodAll_mk1 (shut_bool Try.underlying4 _), (trodAll_cons_mk (Below.trod laidOut (by kernel_rfl) (of_decide_eq_true (by kernel_rfl)) k0 bel lt0) (trodAll_mk0)), rfl, bel.frame _, fun h => by cases h⟩

theorem over : Rows.checkPartsUptoRow.holds Try.pinned (Rows.OpenSpec.upto Rows.checkPartsSpec) :=
  holds_of_cond_leaving 9 Try.f9 rfl rfl rfl rfl rfl rfl rfl ⟨rfl, rfl, rfl, rfl, rfl⟩ rfl rfl rfl rfl rfl (by kernel_rfl) Try.func9 (by kernel_rfl)
    (of_decide_eq_true (by kernel_rfl)) (by unfold Func.isWrapper; first | (rw [if_pos (by decide +kernel)]; kernel_rfl) | (rw [if_neg (by decide +kernel)]; exact ⟨rfl, rfl⟩))
    (fun os started H enc _ F => lifted os started H enc F)

theorem proved : Rows.CheckPartsUptoSaid := over
#print axioms proved
end Go.Proofs.Ytoipkpndfgcmcaa.checkParts
