/-
  The iterator over a column's runs: its contract, for every loop body that keeps the column: the walk over the Go text. Condition: fewer than 2^47 bytes.
-/
import Derived.RangeFuncNested
import Derived.RangeFuncBound
import Derived.RangeFuncCalls
import Derived.RangeFuncLeaves
import Derived.Shelf.Abstract
import Derived.Shelf.RegionOpen
import Derived.WalkKit
import Derived.OwnWalkIn
import Derived.TacticsInMore
import Derived.LoopNIn
import Derived.LoopIn
import Derived.Sort.QuietIn
import Derived.Test.YteambdbcjcfdeaaColSum
namespace Go.Proofs.Yteambdbcjcfdeaa
open Go.RowKit Go.Shelf
attribute [local go_sem] Oper.semAt_some

/-- A run: a number, and how many. -/
abbrev Run := { p : UInt32 × Nat // p.2 ≤ 140737488355328 }
def encR (x : Run) : Array Value := #[.int .u32 (x.1.1.toNat : Int), .int .i64 (x.1.2 : Int)]
/-- What a loop body keeps: the column, and the box in which its slice lies. -/
def KeepC (bx : Nat) (A : Option Addr) (n : Nat) (W W' : World) : Prop := ∀ p : Addr, (p.block = bx ∨ (0 < n ∧ ∃ ad, A = some ad ∧ p.block = ad.block)) → W'.cell? p = W.cell? p
section
variable {bx : Nat} {A : Option Addr} {W W' W2 : World} {B n : Nat} {xs : List Value}
theorem KeepC.refl : KeepC bx A n W W := fun _ _ => rfl
theorem KeepC.trans (h : KeepC bx A n W W') (k : KeepC bx A n W' W2) : KeepC bx A n W W2 := fun p hp => (k p hp).trans (h p hp)
theorem KeepC.drewN (h : KeepC bx A n W W') (q : Nat) : KeepC bx A n W (W'.drewN q) := fun p hp => h p hp
theorem KeepC.box (h : KeepC bx A n W W') : W'.cell? ⟨bx, 0, none⟩ = W.cell? ⟨bx, 0, none⟩ := h _ (.inl rfl)
theorem KeepC.reads (h : KeepC bx A n W W') (hr : Reads W B 1 A n xs) : Reads W' B 1 A n xs :=
  ⟨hr.1, fun hn => by
    obtain ⟨ad, e, hb, hc⟩ := hr.2 hn
    exact ⟨ad, e, hb, fun j u hu => (h _ (.inr ⟨hn, ad, e, block_of_add ad j⟩)).trans (hc j u hu)⟩⟩
theorem KeepC.of_chg {S : Nat → Prop} (hc : Chg W W' S) (hb : bx < W.heap.size) (h1 : ¬ S bx) (h2 : 0 < n → ∀ ad, A = some ad → ad.block < W.heap.size ∧ ¬ S ad.block) : KeepC bx A n W W' := fun p hp => by
  rcases hp with e | ⟨hn, ad, e, e2⟩
  · exact World.cell?_of_block (hc.block _ (by rw [e]; exact hb) (by rw [e]; exact h1))
  · exact World.cell?_of_block (hc.block _ (by rw [e2]; exact (h2 hn ad e).1) (by rw [e2]; exact (h2 hn ad e).2))
theorem KeepC.set_ {q : Addr} (u : Value) (h1 : bx ≠ q.block) (h2 : 0 < n → ∀ ad, A = some ad → ad.block ≠ q.block) : KeepC bx A n W (W.setCell q u) := fun p hp => by
  refine World.cell?_setCell_other W q p u (fun e => ?_)
  subst e
  rcases hp with e | ⟨hn, ad, e, e2⟩
  · exact h1 e.symm
  · exact h2 hn ad e e2.symm
end
theorem keepC_t {bx n : Nat} {A : Option Addr} {X Y Z : World} (h : KeepC bx A n X Y) (k : KeepC bx A n Y Z) : KeepC bx A n X Z := h.trans k
theorem keepC_b {bx n : Nat} {A : Option Addr} {w : World} (hb : bx < w.heap.size) (hA : 0 < n → ∀ ad, A = some ad → ad.block < w.heap.size) (W : World) (l : Nat) (o o' : Obj) (hl : w.heap.size ≤ l) (_ : W.heap[l]? = some o) (_ : o.isCells = false) (_ : o.isWalk = false) : KeepC bx A n W (W.putObj l o') := fun p hp => by
  refine World.cell?_of_block (World.putObj_heap_other ?_)
  rcases hp with e | ⟨hn, ad, e, e2⟩
  · omega
  · have := hA hn ad e; omega

/-- Does the number at k stand at i, too? -/
theorem run_more {c : List UInt32} {k : Nat} {x y : UInt32} (hy : c[k]? = some y) (h : (y.toNat : Int) = (x.toNat : Int)) : c[k]? = some x := by
  rw [hy]; congr 1; exact UInt32.toNat_inj.1 (by omega)

set_option maxRecDepth 100000 in
set_option maxHeartbeats 2000000 in
theorem runs1_in (n : Nat) (hn : 1 ≤ n) (l bx : Nat) (A : Option Addr) (len cap B : Nat) (c : List UInt32) (hN : len ≤ 140737488355328) (J Jx : List Run → World → Prop) (W : World)
    (hJd : ∀ pre w q, J pre w → J pre (w.drewN q))
    (hY : ∀ pre x W1, J pre W1 → pre.length < (runs c).length → YieldAt Fence.wide (n - 1) Try.prog l (encR x) W1 fun e W' =>
      (e = .returned (.bool true) ∧ J (pre ++ [x]) W' ∧ KeepC bx A len W1 W') ∨ (e = .returned (.bool false) ∧ Jx (pre ++ [x]) W'))
    (hbx : W.cell? ⟨bx, 0, none⟩ = some (.slice A len cap)) (hr : Reads W B 1 A len (c.map uw)) (h0 : J [] W) :
    CallsIn Fence.wide n Try.prog 83 #[.func (.yield l) #[] #[], .pointer (some ⟨bx, 0, none⟩)] W fun e W' => (∃ v, e = .returned v) ∧
      ((∃ xs, xs.map (·.1) = runs c ∧ J xs W') ∨ (∃ pre, True ∧ Jx pre W')) := by
  have hlen : c.length = len := by have := hr.1; simpa using this
  have HY := hide hY
  have HJD := hide hJd
  have HR := hide hr
  clear hY hJd hr
  refine callsIn_of_wp Try.func83 rfl trivial ?_ rfl
  simp only [Try.ntmps83, List.size_toArray, List.length_cons, List.length_nil, Nat.reduceAdd, Nat.reduceSub, Array.replicate_succ, Array.replicate_zero, List.push_toArray, List.append_toArray, List.nil_append, List.cons_append]
  gi_wp2
  gi_loopw [3] (fun t wr => ∃ (i : Nat) (pre : List Run), i ≤ len ∧ t = .int .i64 (i : Int) ∧ runs c = pre.map (·.1) ++ runs (c.drop i) ∧ J pre wr ∧ KeepC bx A len W wr) (fun t _ => len - (intOf t).toNat)
  case atStart => exact ⟨0, [], by omega, rfl, rfl, h0, KeepC.refl⟩
  case round =>
    obtain ⟨i, pre, hi, rfl, hruns, hJ, hK⟩ := hrel
    have hbxr : wr.cell? ⟨bx, 0, none⟩ = some (.slice A len cap) := hK.box.trans hbx
    by_cases hlt : i < len
    · obtain ⟨b, off, x, rfl, _, hx, hc⟩ := (hK.reads (unhide HR)).num hlt
      obtain ⟨X, hX⟩ : ∃ X, x.toNat = X := ⟨_, rfl⟩
      rw [hX] at hc
      have HRR := hide (hK.reads (unhide HR))
      have HJ := hide hJ
      have HK := hide hK
      have HRU := Lib.hid hruns
      have HX := Lib.hid hX
      have hi0 : (0 : Int) ≤ (i : Int) := by omega
      have hil : (i : Int) < (len : Int) := by omega
      clear hJ hK hruns hX hbx
      gi_wp2
      obtain ⟨wo, rfl⟩ : ∃ wo : World, wo = wr := ⟨_, rfl⟩
      gi_loopw [4] (fun t wr => ∃ k m : Nat, i ≤ k ∧ k ≤ len ∧ t = .int .i64 (k : Int) ∧ (∀ j, i ≤ j → j < k → c[j]? = some x) ∧ wr = wo.drewN m) (fun t _ => len - (intOf t).toNat)
      case atStart => exact ⟨i, 0, by omega, by omega, rfl, fun j h1 h2 => by omega, rfl⟩
      case round =>
        obtain ⟨k, m, hik, hkl, rfl, hall, rfl⟩ := hrel
        have HALL := hide hall
        have hk0 : (0 : Int) ≤ (k : Int) := by omega
        clear hall
        by_cases hk : k < len
        · obtain ⟨b', off', y, e, _, hy, hcy⟩ := (unhide HRR).num hk
          cases e
          obtain ⟨Y, hY⟩ : ∃ Y, y.toNat = Y := ⟨_, rfl⟩
          rw [hY] at hcy
          have hd : decide ((k : Int) < (len : Int)) = true := by simpa using hk
          have hkn : (k : Int) < (len : Int) := by omega
          by_cases hxy : Y = X
          · subst hxy
            have hyx : c[k]? = some x := run_more hy (by rw [hY, HX.out])
            have HYX := hide hyx
            clear hy hY hyx
            gi_wp2
            gi_quiet (fail)
            gi_wp2
            go_roundw
            case rel =>
              refine ⟨k + 1, m + nq, by omega, by omega, by go_num, fun j h1 h2 => ?_, by first | rfl | rw [World.drewN_drewN]⟩
              by_cases e : j = k
              · subst e; exact unhide HYX
              · exact unhide HALL j h1 (by omega)
            case measure => simp [intOf]; omega
          · have hb : ((Y : Int) == (X : Int)) = false := by simp; omega
            have hne : c[k]? ≠ some x := fun e => hxy (by rw [hy] at e; cases e; rw [← hY, HX.out])
            have HNE := hide hne
            clear hy hY hne
            gi_wp2
            gi_quiet (fail)
            obtain ⟨wq, hwq⟩ : ∃ wq, (wo.drewN m).drewN nq = wq := ⟨_, rfl⟩
            have hJq : J pre wq := by rw [← hwq]; exact unhide HJD _ _ _ (unhide HJD _ _ _ (unhide HJ))
            have hKq : KeepC bx (some ⟨b, off, none⟩) len W wq := by rw [← hwq]; exact ((unhide HK).drewN m).drewN nq
            have hki : i < k := by
              rcases Nat.lt_or_ge i k with h | h
              · exact h
              · obtain rfl : k = i := by omega
                exact absurd hx (unhide HNE)
            have hru := runs_at hx hki (unhide HALL) (.inr (unhide HNE))
            obtain ⟨L, hL⟩ : ∃ L, k - i = L := ⟨_, rfl⟩
            rw [hL] at hru
            have hLI : (k : Int) - (i : Int) = (L : Int) := by omega
            have hbq : wq.cell? ⟨bx, 0, none⟩ = some (.slice (some ⟨b, off, none⟩) len cap) := by rw [← hwq]; exact hbxr
            have hcq : wq.cell? ⟨b, off + i, none⟩ = some (.int .u32 (X : Int)) := by rw [← hwq]; exact hc
            have hle : L ≤ 140737488355328 := by omega
            have hnl : pre.length < (runs c).length := by rw [HRU.out, hru, List.length_append, List.length_map, List.length_cons]; omega
            obtain ⟨fn, tmps, assign, body, hy2, hRn⟩ := unhide HY pre ⟨(x, L), hle⟩ wq hJq hnl
            simp only [encR, HX.out] at hy2
            have hrun : runs c = (pre ++ [(⟨(x, L), hle⟩ : Run)]).map (·.1) ++ runs (c.drop k) := by rw [HRU.out, hru, List.map_append, List.append_assoc]; rfl
            have HRUN := Lib.hid hrun
            have HKQ := hide hKq
            rw [hwq]
            clear hJq hKq hru hL hwq hrun hnl HJ HK
            gi_wp2
            refine hRn.mono ?_
            rintro e W3 (⟨rfl, hJ3, hk3⟩ | ⟨rfl, hJx3⟩)
            · have HJ3 := hide hJ3
              have HK3 := hide ((unhide HKQ).trans hk3)
              clear hJ3 hk3
              gi_wp2
              go_roundw
              case rel => exact ⟨k, pre ++ [(⟨(x, L), hle⟩ : Run)], by omega, rfl, HRUN.out, unhide HJ3, unhide HK3⟩
              case measure => simp [intOf]; omega
            · have HJ3 := hide hJx3
              clear hJx3
              gi_wp2
              refine bodyPost_ret (results_none rfl _ _ _) rfl ?_
              exact ⟨⟨_, rfl⟩, .inr ⟨_, trivial, unhide HJ3⟩⟩
        · have hd : decide ((k : Int) < (len : Int)) = false := by simpa using hk
          gi_wp2
          gi_quiet (fail)
          obtain ⟨wq, hwq⟩ : ∃ wq, (wo.drewN m).drewN nq = wq := ⟨_, rfl⟩
          have hJq : J pre wq := by rw [← hwq]; exact unhide HJD _ _ _ (unhide HJD _ _ _ (unhide HJ))
          have hKq : KeepC bx (some ⟨b, off, none⟩) len W wq := by rw [← hwq]; exact ((unhide HK).drewN m).drewN nq
          have hki : i < k := by
            rcases Nat.lt_or_ge i k with h | h
            · exact h
            · omega
          have hru := runs_at hx hki (unhide HALL) (.inl (by omega))
          obtain ⟨L, hL⟩ : ∃ L, k - i = L := ⟨_, rfl⟩
          rw [hL] at hru
          have hLI : (k : Int) - (i : Int) = (L : Int) := by omega
          have hbq : wq.cell? ⟨bx, 0, none⟩ = some (.slice (some ⟨b, off, none⟩) len cap) := by rw [← hwq]; exact hbxr
          have hcq : wq.cell? ⟨b, off + i, none⟩ = some (.int .u32 (X : Int)) := by rw [← hwq]; exact hc
          have hle : L ≤ 140737488355328 := by omega
          have hnl : pre.length < (runs c).length := by rw [HRU.out, hru, List.length_append, List.length_map, List.length_cons]; omega
          obtain ⟨fn, tmps, assign, body, hy2, hRn⟩ := unhide HY pre ⟨(x, L), hle⟩ wq hJq hnl
          simp only [encR, HX.out] at hy2
          have hrun : runs c = (pre ++ [(⟨(x, L), hle⟩ : Run)]).map (·.1) ++ runs (c.drop k) := by rw [HRU.out, hru, List.map_append, List.append_assoc]; rfl
          have HRUN := Lib.hid hrun
          have HKQ := hide hKq
          rw [hwq]
          clear hJq hKq hru hL hwq hrun hnl HJ HK
          gi_wp2
          refine hRn.mono ?_
          rintro e W3 (⟨rfl, hJ3, hk3⟩ | ⟨rfl, hJx3⟩)
          · have HJ3 := hide hJ3
            have HK3 := hide ((unhide HKQ).trans hk3)
            clear hJ3 hk3
            gi_wp2
            go_roundw
            case rel => exact ⟨k, pre ++ [(⟨(x, L), hle⟩ : Run)], by omega, rfl, HRUN.out, unhide HJ3, unhide HK3⟩
            case measure => simp [intOf]; omega
          · have HJ3 := hide hJx3
            clear hJx3
            gi_wp2
            refine bodyPost_ret (results_none rfl _ _ _) rfl ?_
            exact ⟨⟨_, rfl⟩, .inr ⟨_, trivial, unhide HJ3⟩⟩
    · obtain rfl : i = len := by omega
      rw [List.drop_of_length_le (by omega), runs_nil, List.append_nil] at hruns
      have HRU := Lib.hid hruns
      have HJ := hide hJ
      clear hruns hJ hK
      gi_wp2
      go_end0
      exact ⟨⟨_, rfl⟩, .inl ⟨pre, HRU.out.symm, unhide HJ⟩⟩
end Go.Proofs.Yteambdbcjcfdeaa
