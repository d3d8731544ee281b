/-
  container/heap's up, down, Push, Pop over the heap of what may stand next: the walks over the Go text.
-/
import Derived.Test.YtmcpbmadjpjckaaGrHeapW
namespace Go.Proofs.Ytmcpbmadjpjckaa
open Go.RowKit

theorem info_less : (Try.prog.info? 69).map (fun i => (i.methods.find? (·.name == "Less")).map (fun m => (m.path, m.func))) = some (some (#[], some (68, false))) := by kernel_rfl
theorem meth_gen {gN : Nat} {w : World} {v : Value} {name : String} {K : Nat} (fuel : Nat) (hm : (Try.prog.info? 69).map (fun i => (i.methods.find? (·.name == name)).map (fun m => (m.path, m.func))) = some (some (#[], some (K, false))))
    (h : w.cell? ⟨gN, 0, none⟩ = some v) : (method (fuel + 1) 69 (.pointer (some ⟨gN, 0, none⟩)) name).run Try.prog w = .ok (K, v) w := by
  obtain ⟨i, hi, hf⟩ := Option.map_eq_some_iff.1 hm
  obtain ⟨m, hm2, hp⟩ := Option.map_eq_some_iff.1 hf
  simp only [Prod.mk.injEq] at hp
  obtain ⟨hp1, hp2⟩ := hp
  have hs : ∀ x y : String, (Builtin.ssaWrapNilChk_ #[69] 69 #[.pointer (some ⟨gN, 0, none⟩), strVal x, strVal y]).run Try.prog w = .ok (.pointer (some ⟨gN, 0, none⟩)) w := fun _ _ => rfl
  unfold method
  simp [typeInfo, hi, hm2, hp1, hp2, follow, receiverAt, run_underlying Try.underlying69, hs, Place.get, loadVar, go_sem, h]
theorem info_swap : (Try.prog.info? 69).map (fun i => (i.methods.find? (·.name == "Swap")).map (fun m => (m.path, m.func))) = some (some (#[], some (69, false))) := by kernel_rfl
theorem info_len : (Try.prog.info? 69).map (fun i => (i.methods.find? (·.name == "Len")).map (fun m => (m.path, m.func))) = some (some (#[], some (35, false))) := by kernel_rfl
theorem meth_push (gN : Nat) (w : World) : (method 213 69 (.pointer (some ⟨gN, 0, none⟩)) "Push").run Try.prog w = .ok (71, .pointer (some ⟨gN, 0, none⟩)) w := by kernel_rfl
theorem meth_pop (gN : Nat) (w : World) : (method 213 69 (.pointer (some ⟨gN, 0, none⟩)) "Pop").run Try.prog w = .ok (70, .pointer (some ⟨gN, 0, none⟩)) w := by kernel_rfl
/-- The heap after some exchanges. -/
structure HpX (W W' : World) (gN B n : Nat) (rv : Value) (f f' : Nat → Nat × Nat) : Prop where
  mem : HpS W' gN B n rv f'
  bag : ∀ S, Bag n f S → Bag n f' S
  chg : Chg W W' (Ht gN rv)
def hv (gN : Nat) : Value := .iface 69 (.pointer (some ⟨gN, 0, none⟩))
section
variable {W : World} {gN B n : Nat} {rv : Value} {f : Nat → Nat × Nat}
set_option maxRecDepth 100000 in
set_option maxHeartbeats 1000000 in
theorem up_any (h : HpS W gN B n rv f) (hg : gN < B) (hn : n ≤ 1000000) {j : Nat} (hj : j < n) (hu : HpUp n f j) :
    Calls Try.prog 43 #[.iface 69 (.pointer (some ⟨gN, 0, none⟩)), .int .i64 (j : Int)] W fun e W' => e = .returned (.tuple #[]) ∧ ∃ f', HpX W W' gN B n rv f f' ∧ Hp n f' := by
  obtain ⟨A, c, rfl⟩ := h.own.shape
  have HH := hide h
  have HU := hide hu
  clear h hu
  go_enter Try.func43, Try.ntmps43
  go_wp2_with fail
  go_loopg [1] j (fun q t W' => ∃ (k : Nat) (f' : Nat → Nat × Nat), t = .int .i64 (k : Int) ∧ k ≤ q ∧ k < n ∧ HpX W W' gN B n (.slice A n c) f f' ∧ HpUp n f' k)
  case atStart => exact ⟨j, f, rfl, Nat.le_refl _, hj, ⟨unhide HH, fun _ h => h, Chg.refl _ _⟩, unhide HU⟩
  case round =>
    clear HH HU
    obtain ⟨k, f', rfl, hkq, hkn, hx, hu⟩ := hrel
    have hk0 : (0 : Int) ≤ (k : Int) := by omega
    by_cases hk : k = 0
    · subst hk
      have HX := hide hx
      have HD := hide (hu.done (.inl rfl))
      clear hx hu
      go_wp2_with fail
      refine bodyPost_end (results_none rfl _ _ _) rfl ?_
      exact ⟨rfl, f', unhide HX, unhide HD⟩
    · obtain ⟨p, hp⟩ : ∃ p, (k - 1) / 2 = p := ⟨_, rfl⟩
      have hpI : ((k : Int) - 1) / 2 = (p : Int) := by omega
      have hkI : (0 : Int) ≤ (k : Int) - 1 := by omega
      have hpk : ¬ (p : Int) = (k : Int) := by omega
      have hml := meth_gen 212 info_less (hx.mem.blk.cell 0)
      have hL := hide (less_any hx.mem.own (i := k) (j := p) hkn (by omega))
      by_cases hlt : (f' k).1 < (f' p).1
      · rw [decide_eq_true hlt] at hL
        have HX := hide hx
        have HU2 := hide (hu.step (by omega) hkn (by rw [hp]; exact hlt))
        clear hx hu
        go_wp2_with fail
        refine (unhide hL).mono ?_
        rintro e w1 ⟨rfl, a1, hw1⟩
        have hmem1 : HpS w1 gN B n (.slice A n c) f' := by rw [hw1]; exact ⟨(unhide HX).mem.blk.drewN a1, (unhide HX).mem.own⟩
        have hch1 : Chg W w1 (Ht gN (.slice A n c)) := by rw [hw1]; have h := (unhide HX).chg; exact ⟨h.os, h.tape, h.output, h.size, h.block⟩
        have hms := meth_gen 212 info_swap (hmem1.blk.cell 0)
        have hS := hide (swap_any hmem1.own (i := p) (j := k) (by omega) hkn)
        have HM1 := hide hmem1
        have HC1 := hide hch1
        clear hw1 hmem1 hch1 hL hml
        go_wp2_with fail
        refine (unhide hS).mono ?_
        rintro e w2 ⟨rfl, ho2, hc2⟩
        have hX2 : HpX W w2 gN B n (.slice A n c) f (swp f' p k) := ⟨⟨hc2.blk (unhide HM1).blk (fun e => by have := ((unhide HM1).own.lt gN e).1; omega), ho2⟩, fun S h => ((unhide HX).bag S h).swp (by omega) hkn, (unhide HC1).trans hc2 (fun i hi e => .inr e)⟩
        have HX2 := hide hX2
        clear ho2 hc2 hX2 hS hms
        go_wp2_with fail
        go_roundg p
        case rel => exact ⟨p, swp f' p k, rfl, Nat.le_refl _, by omega, unhide HX2, by have h := unhide HU2; rw [hp] at h; exact h⟩
        case measure => omega
      · rw [decide_eq_false hlt] at hL
        have HX := hide hx
        have HD := hide (hu.done (.inr (by rw [hp]; omega)))
        clear hx hu
        go_wp2_with fail
        refine (unhide hL).mono ?_
        rintro e w1 ⟨rfl, a1, hw1⟩
        have hX1 : HpX W w1 gN B n (.slice A n c) f f' := by
          rw [hw1]
          have h := (unhide HX).chg
          exact ⟨⟨(unhide HX).mem.blk.drewN a1, (unhide HX).mem.own⟩, (unhide HX).bag, ⟨h.os, h.tape, h.output, h.size, h.block⟩⟩
        have HX1 := hide hX1
        clear hw1 hX1 hL hml
        go_wp2_with fail
        refine bodyPost_end (results_none rfl _ _ _) rfl ?_
        exact ⟨rfl, f', unhide HX1, unhide HD⟩
/-- What down answers: a yes or no, and the heap. -/
def DownOut (W : World) (gN B N m : Nat) (rv : Value) (f : Nat → Nat × Nat) (e : Ending) (W' : World) : Prop := ∃ b : Bool, e = .returned (.bool b) ∧ ∃ f', HpX W W' gN B N rv f f' ∧ Hp m f' ∧ ∀ k, m ≤ k → f' k = f k
set_option maxRecDepth 100000 in
set_option maxHeartbeats 4000000 in
theorem down_any {N m : Nat} (h : HpS W gN B N rv f) (hg : gN < B) (hn : N ≤ 1000000) (hmN : m ≤ N) (hu : HpDn m f 0) :
    Calls Try.prog 44 #[.iface 69 (.pointer (some ⟨gN, 0, none⟩)), .int .i64 0, .int .i64 (m : Int)] W (DownOut W gN B N m rv f) := by
  obtain ⟨A, c, rfl⟩ := h.own.shape
  have HH := hide h
  have HU := hide hu
  clear h hu
  go_enter Try.func44, Try.ntmps44
  go_wp2_with fail
  go_loopg [7] (m + 1) (fun q t W' => ∃ (k : Nat) (f' : Nat → Nat × Nat), t = .int .i64 (k : Int) ∧ m - k + 1 ≤ q + (if k = 0 then 0 else 1) ∧ k ≤ m ∧ HpX W W' gN B N (.slice A N c) f f' ∧ HpDn m f' k ∧ (∀ d, m ≤ d → f' d = f d))
  case atStart => exact ⟨0, f, rfl, by simp, Nat.zero_le _, ⟨unhide HH, fun _ h => h, Chg.refl _ _⟩, unhide HU, fun _ _ => rfl⟩
  case round =>
    clear HH HU
    obtain ⟨k, f', rfl, hkq, hkm, hx, hu, ht⟩ := hrel
    have hq : m - k ≤ gk := by split at hkq <;> omega
    clear hkq
    have hk0 : (0 : Int) ≤ (k : Int) := by omega
    have HX := hide hx
    have HM0 := hide hx.mem
    have HC0 := hide hx.chg
    have HU := hide hu
    have HT := hide ht
    clear hx hu ht
    by_cases h1 : 2 * k + 1 < m
    · obtain ⟨j1, hj1⟩ : ∃ j, 2 * k + 1 = j := ⟨_, rfl⟩
      have e1 : 2 * (k : Int) + 1 = (j1 : Int) := by omega
      have h1I : ¬ (m : Int) ≤ (j1 : Int) := by omega
      have h1J : (j1 : Int) < (m : Int) := by omega
      obtain ⟨j2, hj2⟩ : ∃ j, 2 * k + 2 = j := ⟨_, rfl⟩
      have e2 : (j1 : Int) + 1 = (j2 : Int) := by omega
      have hj1l : k < j1 ∧ j1 < m ∧ (j1 - 1) / 2 = k := by omega
      by_cases h2 : j2 < m
      · have h2I : (j2 : Int) < (m : Int) := by omega
        have hj2l : k < j2 ∧ (j2 - 1) / 2 = k := by omega
        by_cases hc2 : (f' j2).1 < (f' j1).1
        · have hml1 := meth_gen 212 info_less ((unhide HM0).blk.cell 0)
          have hL1 := hide (less_any (unhide HM0).own (i := j2) (j := j1) (by omega) (by omega))
          rw [decide_eq_true hc2] at hL1
          go_wp2_with fail
          refine (unhide hL1).mono ?_
          rintro e w1 ⟨rfl, a1, hw1⟩
          have HM1 := hide (show HpS w1 gN B N (.slice A N c) f' by rw [hw1]; exact ⟨(unhide HM0).blk.drewN a1, (unhide HM0).own⟩)
          have HC1 := hide (show Chg W w1 (Ht gN (.slice A N c)) by rw [hw1]; have h := unhide HC0; exact ⟨h.os, h.tape, h.output, h.size, h.block⟩)
          clear hw1 hL1 hml1
          have hmin : ∀ d, 0 < d → d < m → (d - 1) / 2 = k → (f' j2).1 ≤ (f' d).1 := fun d h0 hd hk => by
            rcases (show d = 2 * k + 1 ∨ d = 2 * k + 2 by omega) with e | e <;> subst e
            · rw [hj1]; omega
            · rw [hj2]; exact Nat.le_refl _
          have HMIN := hide hmin
          clear hmin
          by_cases hlt : (f' j2).1 < (f' k).1
          · have hml2 := meth_gen 212 info_less ((unhide HM1).blk.cell 0)
            have hL2 := hide (less_any (unhide HM1).own (i := j2) (j := k) (by omega) (by omega))
            rw [decide_eq_true hlt] at hL2
            go_wp2_with fail
            refine (unhide hL2).mono ?_
            rintro e w2 ⟨rfl, a2, hw2⟩
            have HM2 := hide (show HpS w2 gN B N (.slice A N c) f' by rw [hw2]; exact ⟨(unhide HM1).blk.drewN a2, (unhide HM1).own⟩)
            have HC2 := hide (show Chg W w2 (Ht gN (.slice A N c)) by rw [hw2]; have h := unhide HC1; exact ⟨h.os, h.tape, h.output, h.size, h.block⟩)
            clear hw2 hL2 hml2
            have HU2 := hide ((unhide HU).step (c := j2) (by omega) (by omega) (by omega) (unhide HMIN) hlt)
            have hms3 := meth_gen 212 info_swap ((unhide HM2).blk.cell 0)
            have hS3 := hide (swap_any (unhide HM2).own (i := k) (j := j2) (by omega) (by omega))
            go_wp2_with fail
            refine (unhide hS3).mono ?_
            rintro e w3 ⟨rfl, ho3, hc3⟩
            have hX3 : HpX W w3 gN B N (.slice A N c) f (swp f' k j2) := ⟨⟨hc3.blk (unhide HM2).blk (fun e => by have := ((unhide HM2).own.lt gN e).1; omega), ho3⟩, fun S h => ((unhide HX).bag S h).swp (by omega) (by omega), (unhide HC2).trans hc3 (fun i hi e => .inr e)⟩
            have HXB := hide hX3
            clear ho3 hc3 hX3 hS3 hms3
            go_wp2_with fail
            go_roundg (m - j2)
            case rel => exact ⟨j2, swp f' k j2, rfl, by split <;> omega, by omega, unhide HXB, unhide HU2, fun d hd => by rw [swp_o (by omega) (by omega)]; exact unhide HT d hd⟩
            case measure => omega
          · have hml2 := meth_gen 212 info_less ((unhide HM1).blk.cell 0)
            have hL2 := hide (less_any (unhide HM1).own (i := j2) (j := k) (by omega) (by omega))
            rw [decide_eq_false hlt] at hL2
            go_wp2_with fail
            refine (unhide hL2).mono ?_
            rintro e w2 ⟨rfl, a2, hw2⟩
            have HM2 := hide (show HpS w2 gN B N (.slice A N c) f' by rw [hw2]; exact ⟨(unhide HM1).blk.drewN a2, (unhide HM1).own⟩)
            have HC2 := hide (show Chg W w2 (Ht gN (.slice A N c)) by rw [hw2]; have h := unhide HC1; exact ⟨h.os, h.tape, h.output, h.size, h.block⟩)
            clear hw2 hL2 hml2
            have HD := hide ((unhide HU).done (fun d hd0 hdm hdk => by have := unhide HMIN d hd0 hdm hdk; omega))
            go_wp2_with fail
            go_ret
            exact ⟨_, rfl, f', ⟨unhide HM2, (unhide HX).bag, unhide HC2⟩, unhide HD, unhide HT⟩
        · have hml1 := meth_gen 212 info_less ((unhide HM0).blk.cell 0)
          have hL1 := hide (less_any (unhide HM0).own (i := j2) (j := j1) (by omega) (by omega))
          rw [decide_eq_false hc2] at hL1
          go_wp2_with fail
          refine (unhide hL1).mono ?_
          rintro e w1 ⟨rfl, a1, hw1⟩
          have HM1 := hide (show HpS w1 gN B N (.slice A N c) f' by rw [hw1]; exact ⟨(unhide HM0).blk.drewN a1, (unhide HM0).own⟩)
          have HC1 := hide (show Chg W w1 (Ht gN (.slice A N c)) by rw [hw1]; have h := unhide HC0; exact ⟨h.os, h.tape, h.output, h.size, h.block⟩)
          clear hw1 hL1 hml1
          have hmin : ∀ d, 0 < d → d < m → (d - 1) / 2 = k → (f' j1).1 ≤ (f' d).1 := fun d h0 hd hk => by
            rcases (show d = 2 * k + 1 ∨ d = 2 * k + 2 by omega) with e | e <;> subst e
            · rw [hj1]; exact Nat.le_refl _
            · rw [hj2]; omega
          have HMIN := hide hmin
          clear hmin
          by_cases hlt : (f' j1).1 < (f' k).1
          · have hml2 := meth_gen 212 info_less ((unhide HM1).blk.cell 0)
            have hL2 := hide (less_any (unhide HM1).own (i := j1) (j := k) (by omega) (by omega))
            rw [decide_eq_true hlt] at hL2
            go_wp2_with fail
            refine (unhide hL2).mono ?_
            rintro e w2 ⟨rfl, a2, hw2⟩
            have HM2 := hide (show HpS w2 gN B N (.slice A N c) f' by rw [hw2]; exact ⟨(unhide HM1).blk.drewN a2, (unhide HM1).own⟩)
            have HC2 := hide (show Chg W w2 (Ht gN (.slice A N c)) by rw [hw2]; have h := unhide HC1; exact ⟨h.os, h.tape, h.output, h.size, h.block⟩)
            clear hw2 hL2 hml2
            have HU2 := hide ((unhide HU).step (c := j1) (by omega) (by omega) (by omega) (unhide HMIN) hlt)
            have hms3 := meth_gen 212 info_swap ((unhide HM2).blk.cell 0)
            have hS3 := hide (swap_any (unhide HM2).own (i := k) (j := j1) (by omega) (by omega))
            go_wp2_with fail
            refine (unhide hS3).mono ?_
            rintro e w3 ⟨rfl, ho3, hc3⟩
            have hX3 : HpX W w3 gN B N (.slice A N c) f (swp f' k j1) := ⟨⟨hc3.blk (unhide HM2).blk (fun e => by have := ((unhide HM2).own.lt gN e).1; omega), ho3⟩, fun S h => ((unhide HX).bag S h).swp (by omega) (by omega), (unhide HC2).trans hc3 (fun i hi e => .inr e)⟩
            have HXB := hide hX3
            clear ho3 hc3 hX3 hS3 hms3
            go_wp2_with fail
            go_roundg (m - j1)
            case rel => exact ⟨j1, swp f' k j1, rfl, by split <;> omega, by omega, unhide HXB, unhide HU2, fun d hd => by rw [swp_o (by omega) (by omega)]; exact unhide HT d hd⟩
            case measure => omega
          · have hml2 := meth_gen 212 info_less ((unhide HM1).blk.cell 0)
            have hL2 := hide (less_any (unhide HM1).own (i := j1) (j := k) (by omega) (by omega))
            rw [decide_eq_false hlt] at hL2
            go_wp2_with fail
            refine (unhide hL2).mono ?_
            rintro e w2 ⟨rfl, a2, hw2⟩
            have HM2 := hide (show HpS w2 gN B N (.slice A N c) f' by rw [hw2]; exact ⟨(unhide HM1).blk.drewN a2, (unhide HM1).own⟩)
            have HC2 := hide (show Chg W w2 (Ht gN (.slice A N c)) by rw [hw2]; have h := unhide HC1; exact ⟨h.os, h.tape, h.output, h.size, h.block⟩)
            clear hw2 hL2 hml2
            have HD := hide ((unhide HU).done (fun d hd0 hdm hdk => by have := unhide HMIN d hd0 hdm hdk; omega))
            go_wp2_with fail
            go_ret
            exact ⟨_, rfl, f', ⟨unhide HM2, (unhide HX).bag, unhide HC2⟩, unhide HD, unhide HT⟩
      · have h2I : ¬ (j2 : Int) < (m : Int) := by omega
        have hmin : ∀ d, 0 < d → d < m → (d - 1) / 2 = k → (f' j1).1 ≤ (f' d).1 := fun d h0 hd hk => by
          obtain rfl : d = 2 * k + 1 := by omega
          rw [hj1]; exact Nat.le_refl _
        have HMIN := hide hmin
        clear hmin
        by_cases hlt : (f' j1).1 < (f' k).1
        · have hml1 := meth_gen 212 info_less ((unhide HM0).blk.cell 0)
          have hL1 := hide (less_any (unhide HM0).own (i := j1) (j := k) (by omega) (by omega))
          rw [decide_eq_true hlt] at hL1
          go_wp2_with fail
          refine (unhide hL1).mono ?_
          rintro e w1 ⟨rfl, a1, hw1⟩
          have HM1 := hide (show HpS w1 gN B N (.slice A N c) f' by rw [hw1]; exact ⟨(unhide HM0).blk.drewN a1, (unhide HM0).own⟩)
          have HC1 := hide (show Chg W w1 (Ht gN (.slice A N c)) by rw [hw1]; have h := unhide HC0; exact ⟨h.os, h.tape, h.output, h.size, h.block⟩)
          clear hw1 hL1 hml1
          have HU2 := hide ((unhide HU).step (c := j1) (by omega) (by omega) (by omega) (unhide HMIN) hlt)
          have hms2 := meth_gen 212 info_swap ((unhide HM1).blk.cell 0)
          have hS2 := hide (swap_any (unhide HM1).own (i := k) (j := j1) (by omega) (by omega))
          go_wp2_with fail
          refine (unhide hS2).mono ?_
          rintro e w2 ⟨rfl, ho2, hc2⟩
          have hX2 : HpX W w2 gN B N (.slice A N c) f (swp f' k j1) := ⟨⟨hc2.blk (unhide HM1).blk (fun e => by have := ((unhide HM1).own.lt gN e).1; omega), ho2⟩, fun S h => ((unhide HX).bag S h).swp (by omega) (by omega), (unhide HC1).trans hc2 (fun i hi e => .inr e)⟩
          have HXB := hide hX2
          clear ho2 hc2 hX2 hS2 hms2
          go_wp2_with fail
          go_roundg (m - j1)
          case rel => exact ⟨j1, swp f' k j1, rfl, by split <;> omega, by omega, unhide HXB, unhide HU2, fun d hd => by rw [swp_o (by omega) (by omega)]; exact unhide HT d hd⟩
          case measure => omega
        · have hml1 := meth_gen 212 info_less ((unhide HM0).blk.cell 0)
          have hL1 := hide (less_any (unhide HM0).own (i := j1) (j := k) (by omega) (by omega))
          rw [decide_eq_false hlt] at hL1
          go_wp2_with fail
          refine (unhide hL1).mono ?_
          rintro e w1 ⟨rfl, a1, hw1⟩
          have HM1 := hide (show HpS w1 gN B N (.slice A N c) f' by rw [hw1]; exact ⟨(unhide HM0).blk.drewN a1, (unhide HM0).own⟩)
          have HC1 := hide (show Chg W w1 (Ht gN (.slice A N c)) by rw [hw1]; have h := unhide HC0; exact ⟨h.os, h.tape, h.output, h.size, h.block⟩)
          clear hw1 hL1 hml1
          have HD := hide ((unhide HU).done (fun d hd0 hdm hdk => by have := unhide HMIN d hd0 hdm hdk; omega))
          go_wp2_with fail
          go_ret
          exact ⟨_, rfl, f', ⟨unhide HM1, (unhide HX).bag, unhide HC1⟩, unhide HD, unhide HT⟩
    · have h1I : (m : Int) ≤ 2 * (k : Int) + 1 := by omega
      have HD := hide ((unhide HU).done (fun d hd0 hdm hdk => by omega))
      go_wp2_with fail
      go_ret
      exact ⟨_, rfl, f', ⟨unhide HM0, (unhide HX).bag, unhide HC0⟩, unhide HD, unhide HT⟩
end
end Go.Proofs.Ytmcpbmadjpjckaa
