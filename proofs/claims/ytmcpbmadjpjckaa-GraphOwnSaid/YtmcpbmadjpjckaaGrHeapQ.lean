/-
  container/heap's Push and Pop over the heap of what may stand next: the walks over the Go text.
-/
import Derived.Test.YtmcpbmadjpjckaaGrHeapP
namespace Go.Proofs.Ytmcpbmadjpjckaa
open Go.RowKit

theorem len_ready (w : World) (A : Option Addr) (n c : Nat) : Calls Try.prog 35 #[.slice A n c] w fun e w' => e = .returned (.int .i64 (n : Int)) ∧ w = w' := by
  go_enter Try.func35, Try.ntmps35
  go_wp2
  go_ret
  exact ⟨rfl, rfl⟩
/-- A heap in memory, with what it holds. -/
structure HpM (W : World) (gN B n : Nat) (rv : Value) (f : Nat → Nat × Nat) (S : Nat × Nat → Prop) : Prop where
  mem : HpS W gN B n rv f
  hp : Hp n f
  bag : Bag n f S
section
variable {W : World} {gN B n : Nat} {rv : Value} {f : Nat → Nat × Nat} {S : Nat × Nat → Prop}
set_option maxRecDepth 100000 in
set_option maxHeartbeats 1000000 in
theorem heapPush_any (h : HpM W gN B n rv f S) (hg : gN < B) (hB : B ≤ W.heap.size) (hn : n ≤ 900000) (a b : Nat) (hS : ¬ S (a, b)) :
    Calls Try.prog 34 #[.iface 69 (.pointer (some ⟨gN, 0, none⟩)), .iface 70 (.agg #[.int .i64 (a : Int), .int .i64 (b : Int)])] W fun e W' => e = .returned (.tuple #[]) ∧ ∃ rv' f', HpM W' gN B (n + 1) rv' f' (fun y => S y ∨ y = (a, b)) ∧ Chg W W' (Ht gN rv) ∧ Nx W rv rv' := by
  have hP := hide (mPush_any h.mem hg hB (by omega) a b)
  have hmp := meth_push gN
  have HH := hide h
  clear h
  go_enter Try.func34, Try.ntmps34
  go_wp2_with fail
  refine (unhide hP).mono ?_
  rintro e w1 ⟨rfl, rv1, hm1, hc1, hn1⟩
  obtain ⟨A1, c1, rfl⟩ := hm1.own.shape
  have hml := meth_gen 212 info_len (hm1.blk.cell 0)
  have hL := hide (len_ready w1 A1 (n + 1) c1)
  have hU := hide (up_any hm1 hg (by omega) (j := n) (by omega) ((unhide HH).hp.push (a, b)))
  have hw1 : IntKind.i64.wrap (((n + 1 : Nat) : Int) - 1) = (n : Int) := by rw [IntWalk.i64_in _ (by omega)]; omega
  obtain ⟨M, hM⟩ : ∃ M, n + 1 = M := ⟨_, rfl⟩
  rw [hM] at hml hL hU hw1
  have hw2 : (M : Int) - 1 = (n : Int) := by omega
  have HC1 := hide hc1
  have HM := Lib.hid hM
  have HN1 := hide (show Nx W rv (.slice A1 M c1) from by rw [← HM.out]; exact hn1)
  clear hm1 hc1 hP hmp hM hn1
  go_wp2_with fail
  refine (unhide hL).mono ?_
  rintro e w2 ⟨rfl, rfl⟩
  clear hL hml
  go_wp2_with fail
  refine (unhide hU).mono ?_
  rintro e w3 ⟨rfl, f3, hx3, hp3⟩
  have H3 := hide (show HpM w3 gN B (n + 1) (.slice A1 M c1) f3 (fun y => S y ∨ y = (a, b)) from by
    have e := HM.out
    subst e
    exact ⟨hx3.mem, hp3, hx3.bag _ ((unhide HH).bag.push hS)⟩)
  have HC3 := hide ((unhide HC1).trans hx3.chg (fun i hi h => by
    rcases h with h | h
    · exact .inl h
    · rcases unhide HN1 with h2 | ⟨g, h2, h3⟩
      · exact .inr (h2 ▸ h)
      · rw [h2] at h; injection h with h; omega))
  clear hx3 hp3 hU
  go_wp2_with fail
  refine bodyPost_end (results_none rfl _ _ _) rfl ?_
  exact ⟨rfl, _, f3, unhide H3, unhide HC3, unhide HN1⟩
set_option maxRecDepth 100000 in
set_option maxHeartbeats 1000000 in
theorem heapPop_any (h : HpM W gN B (n + 1) rv f S) (hg : gN < B) (hB : B ≤ W.heap.size) (hn : n ≤ 900000) :
    Calls Try.prog 36 #[.iface 69 (.pointer (some ⟨gN, 0, none⟩))] W fun e W' => e = .returned (.iface 70 (.agg #[iv (f 0).1, iv (f 0).2])) ∧ ∃ rv' f', HpM W' gN B n rv' f' (fun y => S y ∧ y ≠ f 0) ∧ Chg W W' (Ht gN rv) ∧ Nx W rv rv' := by
  obtain ⟨A, c, rfl⟩ := h.mem.own.shape
  have hml := meth_gen 212 info_len (h.mem.blk.cell 0)
  have hms := meth_gen 212 info_swap (h.mem.blk.cell 0)
  have hL := hide (len_ready W A (n + 1) c)
  have hSw := hide (swap_any h.mem.own (i := 0) (j := n) (by omega) (by omega))
  have HH := hide h
  obtain ⟨M, hM⟩ : ∃ M, n + 1 = M := ⟨_, rfl⟩
  rw [hM] at hml hL hms hSw
  have hw2 : (M : Int) - 1 = (n : Int) := by omega
  have hn0 : (0 : Int) ≤ (n : Int) := by omega
  have HM := Lib.hid hM
  clear h hM
  go_enter Try.func36, Try.ntmps36
  go_wp2_with fail
  refine (unhide hL).mono ?_
  rintro e w2 ⟨rfl, rfl⟩
  clear hL hml
  go_wp2_with fail
  refine (unhide hSw).mono ?_
  rintro e w3 ⟨rfl, ho3, hc3⟩
  have hm3 : HpS w3 gN B M (.slice A M c) (swp f 0 n) := by
    have e := HM.out
    subst e
    exact ⟨hc3.blk (unhide HH).mem.blk (fun e => by have := ((unhide HH).mem.own.lt gN e).1; omega), ho3⟩
  have hb3 : Bag (n + 1) (swp f 0 n) S := (unhide HH).bag.swp (by omega) (by omega)
  have hc3' : Chg W w3 (Ht gN (.slice A M c)) := hc3.more (fun i e => .inr e)
  have hD := hide (down_any (N := M) (m := n) hm3 hg (by have := HM.out; omega) (by have := HM.out; omega) (unhide HH).hp.pop)
  have HC3 := hide hc3'
  have HB3 := hide hb3
  clear ho3 hc3 hm3 hc3' hb3 hSw hms
  go_wp2_with fail
  refine (unhide hD).mono ?_
  rintro e w4 ⟨bb, rfl, f4, hx4, hp4, ht4⟩
  have hmp := meth_pop gN
  have hP := hide (mPop_any (n := n) (show HpS w4 gN B (n + 1) (.slice A M c) f4 from by rw [HM.out]; exact hx4.mem) hg (Nat.le_trans hB (Nat.le_trans (unhide HC3).size hx4.chg.size)) (by omega))
  have hfe : f4 n = f 0 := (ht4 n (Nat.le_refl _)).trans swp_j
  have HB4 := hide (show Bag (n + 1) f4 S from by have h := hx4.bag S (by rw [← HM.out]; exact unhide HB3); rw [← HM.out] at h; exact h)
  have HP4 := hide hp4
  have HC4 := hide ((unhide HC3).trans hx4.chg (fun _ _ h => h))
  have HFE := Lib.hid hfe
  clear hx4 hp4 ht4 hfe hD
  go_wp2_with fail
  refine (unhide hP).mono ?_
  rintro e w5 ⟨rfl, rv5, hm5, hc5, hn5⟩
  have H5 := hide (show HpM w5 gN B n rv5 f4 (fun y => S y ∧ y ≠ f 0) from ⟨hm5, unhide HP4, by rw [← HFE.out]; exact (unhide HB4).pop⟩)
  have e := HM.out
  subst e
  have HC5 := hide ((unhide HC4).trans hc5 (fun _ _ h => h))
  have HN5 := hide (show Nx W (.slice A (n + 1) c) rv5 from by
    rcases hn5 with h | ⟨g, h1, h2⟩
    · exact .inl h
    · exact .inr ⟨g, h1, Nat.le_trans (unhide HC4).size h2⟩)
  clear hm5 hc5 hn5 hP hmp
  rw [HFE.out]
  go_wp2_with fail
  go_ret
  exact ⟨rfl, rv5, f4, unhide H5, unhide HC5, unhide HN5⟩
end
end Go.Proofs.Ytmcpbmadjpjckaa
