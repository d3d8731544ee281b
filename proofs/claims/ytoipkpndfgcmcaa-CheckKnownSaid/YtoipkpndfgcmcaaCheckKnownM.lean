/-
  CheckKnown is true: the chapter's examples. A closed statement. Condition: none.
-/
import Derived.KernelRfl
import Derived.Test.YtoipkpndfgcmcaaRows
import Derived.RangeFuncNested
import Derived.RangeFuncBound
import Derived.RangeFuncCalls
import Derived.RangeFuncLeaves
import Derived.Shelf.Abstract
import Derived.Shelf.RegionOpen
import Derived.WalkKit
import Derived.OwnWalkIn
import Derived.TacticsInMore
import Derived.LoopNIn
import Derived.LoopIn
import Derived.RangeFuncFrom
import Derived.Deep.RegionHeld3
import Derived.Conc.LeavingOf
import Derived.Test.YtoipkpndfgcmcaaCheckKnownM00
import Derived.Test.YtoipkpndfgcmcaaCheckKnownM03
import Derived.Test.YtoipkpndfgcmcaaCheckKnownM05
import Derived.Test.YtoipkpndfgcmcaaCheckKnownM07
import Derived.Test.YtoipkpndfgcmcaaCheckKnownM08

/-
  CheckKnown's drawn region, operation by operation, in the whole machine: Seal and Whole by example. The conditions stand in each theorem. (Printed by wip/k7gen.py.)
-/
namespace Go.Proofs.Ytoipkpndfgcmcaa.Crew
open Go Go.Conc Go.ConcN Go.RowKit Go.Conc.Lib Go.ConcR.Gen Go.ConcN.Gen Go.Proofs.Ytoipkpndfgcmcaa.Veils
set_option linter.unusedVariables false
set_option linter.unusedSectionVars false
def O7of (c : Code) : Array Oper := opsOf (seqHead (seqHead (seqTails 5 c)))
def C7of (c : Code) : Code := seqTail (seqHead (seqTails 5 c))
def R7of (c : Code) : Code := seqTails 6 c
def lit13 : List UInt8 := [49, 50, 51, 52, 53, 54, 55, 56, 57, 38, 57, 244, 203]
theorem seal_nine : (sealed nineB == lit13) = true := by decide +kernel
theorem seal_nil : (sealed [] == [0, 0, 0, 0]) = true := by decide +kernel
theorem whole_0 : whole [] = false := by decide +kernel
theorem whole_3 : whole [0, 0, 0] = false := by decide +kernel
theorem whole_4 : whole [0, 0, 0, 0] = true := by decide +kernel
theorem sum_sealed : upd 0 (sealed nineB) = 558161692 := by decide +kernel
/-- Bytes that the region has made. -/
def By (W : World) (X : Nat → Prop) (w : World) (n : Nat) (xs : List UInt8) (v : Value) : Prop :=
  ∃ g c, v = .slice (some ⟨g, 0, none⟩) n c ∧ n ≤ c ∧ W.heap.size ≤ g ∧ (∀ r, X r → r < g) ∧ Reads w w.heap.size 1 (some ⟨g, 0, none⟩) n (xs.map bv)
section
variable {W w w' v' : World} {X : Nat → Prop} {T : Array Value} {ls : Array Bool} {l : List Nat} {k : List Item} {n j : Nat} {xs : List UInt8} {v : Value}
theorem By.go (h : By W X w n xs v) (hb : Below w.heap.size w w') : By W X w' n xs v :=
  let ⟨g, c, e, h1, h2, h3, h4⟩ := h; ⟨g, c, e, h1, h2, h3, (h4.below hb).more hb.size⟩
theorem By.at (h : By W X w n xs v) (d : Nat) : By W X (w.at d) n xs v :=
  let ⟨g, c, e, h1, h2, h3, h4⟩ := h; ⟨g, c, e, h1, h2, h3, h4⟩
theorem By.mark (h : By W X w n xs v) (b : Nat) : By W X (markAt w b) n xs v :=
  let ⟨g, c, e, h1, h2, h3, h4⟩ := h; ⟨g, c, e, h1, h2, h3, h4.1, fun hn => let ⟨ad, e1, e2, e3⟩ := h4.2 hn; ⟨ad, e1, by rw [(markAt_rest w b).1]; exact e2, fun j u hu => (markAt_cell w b _).trans (e3 j u hu)⟩⟩
theorem By.new (hW : Wn W X w) (t : TypeId) (xs : List UInt8) (hn : xs.length = n) : By W X (w.alloc (.cells (xs.map bv).toArray t)) n xs (.slice (some ⟨w.heap.size, 0, none⟩) n n) := by
  have hk : Blk (w.alloc (.cells (xs.map bv).toArray t)) w.heap.size t (xs.map bv).toArray := Blk.new _ _ _
  refine ⟨w.heap.size, n, rfl, Nat.le_refl _, hW.below.size, fun r hx => (hW.at_ r hx).2, by simp [hn], fun h => ⟨_, rfl, by simp, fun j u hu => ?_⟩⟩
  have := hk.cell j
  rw [show (⟨w.heap.size, 0, none⟩ : Addr).add j = ⟨w.heap.size, j, none⟩ from by cases j <;> simp [Addr.add]]
  rw [this]
  simpa using hu
theorem reads_veil1 {B g d : Nat} {t : Tape} {ys : List Value} (h : Reads w B 1 (some ⟨g, 0, none⟩) n ys) (hX : ∀ r, X r → r < g) : Reads { veilW X w with tape := t, drawn := d } B 1 (some ⟨g, 0, none⟩) n ys :=
  ⟨h.1, fun hn => by
    obtain ⟨ad, e, hb, hc⟩ := h.2 hn
    exact ⟨ad, e, hb, fun j u hu => veil_cell (fun hx => by cases e; rw [block_of_add] at hx; exact Nat.lt_irrefl _ (hX _ hx)) (hc j u hu)⟩⟩
/-! what each operation comes to -/
def bytes7 : Nat → Option (Nat × List UInt8)
  | 0 => some (9, nineB)
  | 1 => some (13, (sealed nineB))
  | 2 => some (13, lit13)
  | 3 => some (13, lit13)
  | 7 => some (4, (sealed []))
  | 8 => some (4, [0, 0, 0, 0])
  | 16 => some (3, [0, 0, 0])
  | 20 => some (4, [0, 0, 0, 0])
  | 25 => some (9, nineB)
  | 26 => some (13, (sealed nineB))
  | _ => none
def kv7 : Nat → Value
  | 4 => .bool true
  | 9 => .bool true
  | 21 => .bool true
  | 27 => .int .u32 558161692
  | _ => .bool false
def Ok7 (W : World) (X : Nat → Prop) (w : World) (j : Nat) (v : Value) : Prop := match bytes7 j with
  | some p => By W X w p.1 p.2 v
  | none => v = kv7 j
theorem Ok7.go (h : Ok7 W X w j v) (hb : Below w.heap.size w w') : Ok7 W X w' j v := by
  unfold Ok7 at h ⊢
  revert h
  cases bytes7 j with
  | none => exact id
  | some p => exact fun h => h.go hb
theorem Ok7.at (h : Ok7 W X w j v) (d : Nat) : Ok7 W X (w.at d) j v := by
  unfold Ok7 at h ⊢
  revert h
  cases bytes7 j with
  | none => exact id
  | some p => exact fun h => h.at d
theorem Ok7.mark (h : Ok7 W X w j v) (b : Nat) : Ok7 W X (markAt w b) j v := by
  unfold Ok7 at h ⊢
  revert h
  cases bytes7 j with
  | none => exact id
  | some p => exact fun h => h.mark b
/-- The state between two operations. -/
structure Ph7 (W : World) (X : Nat → Prop) (ls : Array Bool) (T : Array Value) (w : World) : Prop where
  sz : T.size = 158
  done : ∀ j, j < 30 → ls.getD j false = true → ∃ v, T[63 + j]? = some v ∧ Ok7 W X w j v
  wn : Wn W X w
theorem on7 {ls : Array Bool} {i j : Nat} (h : (ls.setIfInBounds i true).getD j false = true) : j = i ∨ ls.getD j false = true := by
  by_cases e : j = i
  · exact .inl e
  · refine .inr ?_
    rw [Array.getD_eq_getD_getElem?, Array.getElem?_setIfInBounds_ne (Ne.symm e), ← Array.getD_eq_getD_getElem?] at h
    exact h
theorem Ph7.put (h : Ph7 W X ls T w) {i : Nat} (hi : i < 30) (hv : Ok7 W X w' i v) (hb : Below w.heap.size w w') : Ph7 W X (ls.setIfInBounds i true) (T.setIfInBounds (63 + i) v) w' := by
  refine ⟨by simpa using h.sz, fun j hj hl => ?_, h.wn.go hb⟩
  by_cases e : j = i
  · subst e
    have := h.sz
    exact ⟨v, Array.getElem?_setIfInBounds_self_of_lt (by omega), hv⟩
  · rw [Array.getElem?_setIfInBounds_ne (by omega)]
    obtain ⟨u, h1, h2⟩ := h.done j hj ((on7 hl).resolve_left e)
    exact ⟨u, h1, h2.go hb⟩
theorem Ph7.at (h : Ph7 W X ls T w) (d : Nat) : Ph7 W X ls T (w.at d) := ⟨h.sz, fun j hj hl => let ⟨v, h1, h2⟩ := h.done j hj hl; ⟨v, h1, h2.at d⟩, h.wn.at d⟩
theorem Wn.mark (h : Wn W X w) {b : Nat} (hb : W.heap.size ≤ b) (hX : ¬ X b) : Wn W X (markAt w b) := by
  obtain ⟨q1, q2, q3, q4⟩ := markAt_rest w b
  refine ⟨⟨q3.trans h.below.os, q2.trans h.below.tape, q4.trans h.below.output, by rw [q1]; exact h.below.size, fun i hi => ?_⟩, h.rows.keep fun c hx => markAt_other w _ c fun e => hX (e ▸ hx), fun r hx => by rw [q1]; exact h.at_ r hx⟩
  rw [markAt_other w _ i (by omega)]
  exact h.below.block i hi
theorem Ph7.marked (h : Ph7 W X ls T w) {i b : Nat} (hi : i < 30) (hb : W.heap.size ≤ b) (hX : ¬ X b) (hv : Ok7 W X w i v) : Ph7 W X (ls.setIfInBounds i true) (T.setIfInBounds (63 + i) v) (markAt w b) := by
  refine ⟨by simpa using h.sz, fun j hj hl => ?_, h.wn.mark hb hX⟩
  by_cases e : j = i
  · subst e
    have := h.sz
    exact ⟨v, Array.getElem?_setIfInBounds_self_of_lt (by omega), hv.mark b⟩
  · rw [Array.getElem?_setIfInBounds_ne (by omega)]
    obtain ⟨u, h1, h2⟩ := h.done j hj ((on7 hl).resolve_left e)
    exact ⟨u, h1, h2.mark b⟩
/-- Behind an operation. -/
def N7 (W : World) (X : Nat → Prop) (ls : Array Bool) (ops : Array Oper) (k : List Item) (l : List Nat) (g : Goroutine) (w : World) : Prop := ∃ T, g = InR 12 ops k T l [] ∧ Ph7 W X ls T w
/-! the calls, in the veiled world -/
def QB (X : Nat → Prop) (w : World) (n : Nat) (xs : List UInt8) (x : Value) (v' : World) : Prop :=
  (∃ g c, x = .slice (some ⟨g, 0, none⟩) n c ∧ n ≤ c ∧ w.heap.size ≤ g ∧ Reads v' v'.heap.size 1 (some ⟨g, 0, none⟩) n (xs.map bv)) ∧ ∃ tp, Below w.heap.size { veilW X w with tape := tp, drawn := 0 } v'
def QV (X : Nat → Prop) (w : World) (u : Value) (x : Value) (v' : World) : Prop := x = u ∧ ∃ tp, Below w.heap.size { veilW X w with tape := tp, drawn := 0 } v'
theorem QB.put (h : Ph7 W X ls T w) {i : Nat} (hi : i < 30) {x : Value} (hq : QB X w n xs x v') (ha : Aft X w v' w') (hk : bytes7 i = some (n, xs)) : Ph7 W X (ls.setIfInBounds i true) (T.setIfInBounds (63 + i) x) w' := by
  obtain ⟨⟨g, c, rfl, h1, h2, h3⟩, tp, hb⟩ := hq
  refine h.put hi ?_ (ha.below hb)
  unfold Ok7
  rw [hk]
  exact ⟨g, c, rfl, h1, Nat.le_trans h.wn.below.size h2, fun r hx => Nat.lt_of_lt_of_le (h.wn.at_ r hx).2 h2, h3.1, fun hn => let ⟨ad, e1, e2, e3⟩ := h3.2 hn; ⟨ad, e1, by rw [← ha.size]; exact e2, fun j u hu => ha.cell (e3 j u hu)⟩⟩
theorem QV.put (h : Ph7 W X ls T w) {i : Nat} (hi : i < 30) {x u : Value} (hq : QV X w u x v') (ha : Aft X w v' w') (hk : bytes7 i = none) (hu : kv7 i = u) : Ph7 W X (ls.setIfInBounds i true) (T.setIfInBounds (63 + i) x) w' := by
  obtain ⟨rfl, tp, hb⟩ := hq
  refine h.put hi ?_ (ha.below hb)
  unfold Ok7
  rw [hk]
  exact hu.symm
theorem free_all {g : FuncId} (h : slotFree g = true) (k : Nat) : slotK g k = 0 := by
  simp only [slotFree, Bool.and_eq_true, bne_iff_ne, ne_eq] at h
  simp [slotK, h]
theorem v_nine (tp : Tape) : Calls Try.prog 41 #[] { veilW X w with tape := tp, drawn := 0 } fun e v' => ∃ x, e = .returned x ∧ QB X w 9 nineB x v' := by
  have e : ({ veilW X w with tape := tp, drawn := 0 } : World).heap.size = w.heap.size := veil_size _ w
  refine (nine_any _).mono fun e' v' ⟨h1, h2, h3, h4⟩ => ⟨_, h1, ⟨_, _, rfl, Nat.le_refl _, Nat.le_of_eq e.symm, h2.more h4⟩, tp, ?_⟩
  rw [e] at h3
  exact h3
theorem v_seal {A : Option Addr} {c : Nat} (hr : ∀ tp, Reads { veilW X w with tape := tp, drawn := 0 } w.heap.size 1 A n (xs.map bv)) (hn : n + 4 ≤ 140737488355328) (tp : Tape) : Calls Try.prog 30 #[.slice A n c] { veilW X w with tape := tp, drawn := 0 } fun e v' => ∃ x, e = .returned x ∧ QB X w (n + 4) (sealed xs) x v' := by
  have e : ({ veilW X w with tape := tp, drawn := 0 } : World).heap.size = w.heap.size := veil_size _ w
  refine (seal_any A n c w.heap.size xs _ (hr tp) hn (Nat.le_of_eq e.symm)).mono fun e' v' ⟨v, h1, h2, h3⟩ => ?_
  obtain ⟨g, cap, hv, hg, hlt⟩ := h2.form (by omega)
  subst hv
  rw [e] at h3 hg
  exact ⟨_, h1, ⟨g, cap, rfl, own_capA h2, hg, Reads.of_own h2⟩, tp, h3⟩
theorem v_same {A B : Option Addr} {m c d : Nat} {ys : List UInt8} {b : Bool} (hx : ∀ tp, Reads { veilW X w with tape := tp, drawn := 0 } w.heap.size 1 A n (xs.map bv)) (hy : ∀ tp, Reads { veilW X w with tape := tp, drawn := 0 } w.heap.size 1 B m (ys.map bv)) (hn : n ≤ 140737488355328) (hb : (xs == ys) = b) (tp : Tape) : Calls Try.prog 23 #[.slice A n c, .slice B m d] { veilW X w with tape := tp, drawn := 0 } fun e v' => ∃ x, e = .returned x ∧ QV X w (.bool b) x v' := by
  have e : ({ veilW X w with tape := tp, drawn := 0 } : World).heap.size = w.heap.size := veil_size _ w
  refine (same_any A B n c m d xs ys _ w.heap.size (hx tp) (hy tp) hn (Nat.le_of_eq e.symm)).mono fun e' v' ⟨h1, h2⟩ => ⟨_, h1, by rw [hb], tp, ?_⟩
  rw [e] at h2
  exact h2
theorem v_whole {A : Option Addr} {c : Nat} {b : Bool} (hr : ∀ tp, Reads { veilW X w with tape := tp, drawn := 0 } w.heap.size 1 A n (xs.map bv)) (hn : n ≤ 140737488355328) (hc : n ≤ c) (hb : whole xs = b) (tp : Tape) : Calls Try.prog 28 #[.slice A n c] { veilW X w with tape := tp, drawn := 0 } fun e v' => ∃ x, e = .returned x ∧ QV X w (.bool b) x v' := by
  have e : ({ veilW X w with tape := tp, drawn := 0 } : World).heap.size = w.heap.size := veil_size _ w
  refine (whole_any A n c w.heap.size xs _ (hr tp) hn (Nat.le_of_eq e.symm) hc).mono fun e' v' ⟨h1, h2⟩ => ⟨_, h1, by rw [hb], tp, ?_⟩
  rw [e] at h2
  exact h2
theorem v_sum {A : Option Addr} {c q : Nat} (hr : ∀ tp, Reads { veilW X w with tape := tp, drawn := 0 } w.heap.size 1 A n (xs.map bv)) (hn : n ≤ 140737488355328) (hq : upd 0 xs = q) (tp : Tape) : Calls Try.prog 24 #[.slice A n c] { veilW X w with tape := tp, drawn := 0 } fun e v' => ∃ x, e = .returned x ∧ QV X w (.int .u32 (q : Int)) x v' := by
  have e : ({ veilW X w with tape := tp, drawn := 0 } : World).heap.size = w.heap.size := veil_size _ w
  refine (sum_any xs A n c w.heap.size _ (hr tp) hn (Nat.le_of_eq e.symm)).mono fun e' v' ⟨h1, h2⟩ => ⟨_, h1, by rw [hq], tp, ?_⟩
  rw [e] at h2
  exact h2
theorem p_not {f : FuncId} {o : Oper} {a t : Nat} {b : Bool} (hop : o.op = .unOp .not t (.tmp a)) (ha : T[a]? = some (.bool b)) (w : World) : (execOp (⟨T, []⟩ : Act).eval o).run Try.prog w = .ok (.value (.bool (!b))) w := by
  unfold execOp
  simp only [hop, ev_tmp ha]
  show (Op.unary _ _ >>= fun v => (Pure.pure (Next.value v) : Sem Next)).run _ _ = _
  rw [Sem.run_bind]
  rfl
theorem run_mk4 (w : World) : (Instr.makeSlice 29 (.int .i64 4) (.int .i64 4)).run Try.prog w = .ok (.slice (some ⟨w.heap.size, 0, none⟩) 4 4) (w.alloc (.cells (([0, 0, 0, 0] : List UInt8).map bv).toArray 5)) := by kernel_rfl
theorem run_mk3 (w : World) : (Instr.makeSlice 29 (.int .i64 3) (.int .i64 3)).run Try.prog w = .ok (.slice (some ⟨w.heap.size, 0, none⟩) 3 3) (w.alloc (.cells (([0, 0, 0] : List UInt8).map bv).toArray 5)) := by kernel_rfl
theorem o7_0 : ∃ o, (O7of (bodyOf Try.f12))[0]? = some o ∧ o.op = .call { callee := .value (.func 41), args := #[], argTypes := #[] } ∧ o.dst = some 63 ∧ o.guard = none ∧ True ∧ opCalm Try.prog calmF D0 o = true := ⟨_, rfl, rfl, rfl, rfl, trivial, by kernel_rfl⟩
theorem o7_1 : ∃ o, (O7of (bodyOf Try.f12))[1]? = some o ∧ o.op = .call { callee := .value (.func 30), args := #[.tmp 63], argTypes := #[29] } ∧ o.dst = some 64 ∧ o.guard = none ∧ (∀ d ∈ [0], d ∈ depsOf o) ∧ opCalm Try.prog calmF D0 o = true := ⟨_, rfl, rfl, rfl, rfl, by decide, by kernel_rfl⟩
theorem o7_2 : ∃ o, (O7of (bodyOf Try.f12))[2]? = some o ∧ o.op = .buildSlice 29 13 #[(0, .const (.int .u8 49)), (1, .const (.int .u8 50)), (2, .const (.int .u8 51)), (3, .const (.int .u8 52)), (4, .const (.int .u8 53)), (5, .const (.int .u8 54)), (6, .const (.int .u8 55)), (7, .const (.int .u8 56)), (8, .const (.int .u8 57)), (9, .const (.int .u8 38)), (10, .const (.int .u8 57)), (11, .const (.int .u8 244)), (12, .const (.int .u8 203))] ∧ o.dst = some 65 ∧ o.guard = none ∧ True ∧ opCalm Try.prog calmF D0 o = true := ⟨_, rfl, rfl, rfl, rfl, trivial, by kernel_rfl⟩
theorem o7_3 : ∃ o, (O7of (bodyOf Try.f12))[3]? = some o ∧ o.op = .convert 29 29 (.tmp 65) ∧ o.dst = some 66 ∧ o.guard = none ∧ (∀ d ∈ [2], d ∈ depsOf o) ∧ True := ⟨_, rfl, rfl, rfl, rfl, by decide, trivial⟩
theorem o7_4 : ∃ o, (O7of (bodyOf Try.f12))[4]? = some o ∧ o.op = .call { callee := .value (.func 23), args := #[.tmp 64, .tmp 66], argTypes := #[29, 29] } ∧ o.dst = some 67 ∧ o.guard = none ∧ (∀ d ∈ [1, 3], d ∈ depsOf o) ∧ opCalm Try.prog calmF D0 o = true := ⟨_, rfl, rfl, rfl, rfl, by decide, by kernel_rfl⟩
theorem o7_5 : ∃ o, (O7of (bodyOf Try.f12))[5]? = some o ∧ o.op = .unOp .not 4 (.tmp 67) ∧ o.dst = some 68 ∧ o.guard = none ∧ (∀ d ∈ [4], d ∈ depsOf o) ∧ opCalm Try.prog calmF D0 o = true := ⟨_, rfl, rfl, rfl, rfl, by decide, by kernel_rfl⟩
theorem o7_6 : ∃ o, (O7of (bodyOf Try.f12))[6]? = some o ∧ o.op = .move (.tmp 68) ∧ o.dst = some 69 ∧ o.guard = none ∧ (∀ d ∈ [5], d ∈ depsOf o) ∧ opCalm Try.prog calmF D0 o = true := ⟨_, rfl, rfl, rfl, rfl, by decide, by kernel_rfl⟩
theorem o7_7 : ∃ o, (O7of (bodyOf Try.f12))[7]? = some o ∧ o.op = .call { callee := .value (.func 30), args := #[.const (.slice none 0 0)], argTypes := #[29] } ∧ o.dst = some 70 ∧ o.guard = some (6, false) ∧ (∀ d ∈ [6], d ∈ depsOf o) ∧ opCalm Try.prog calmF D0 o = true := ⟨_, rfl, rfl, rfl, rfl, by decide, by kernel_rfl⟩
theorem o7_8 : ∃ o, (O7of (bodyOf Try.f12))[8]? = some o ∧ o.op = .makeSlice 29 (.const (.int .i64 4)) (.const (.int .i64 4)) ∧ o.dst = some 71 ∧ o.guard = some (6, false) ∧ (∀ d ∈ [6], d ∈ depsOf o) ∧ opCalm Try.prog calmF D0 o = true := ⟨_, rfl, rfl, rfl, rfl, by decide, by kernel_rfl⟩
theorem o7_9 : ∃ o, (O7of (bodyOf Try.f12))[9]? = some o ∧ o.op = .call { callee := .value (.func 23), args := #[.tmp 70, .tmp 71], argTypes := #[29, 29] } ∧ o.dst = some 72 ∧ o.guard = some (6, false) ∧ (∀ d ∈ [6, 7, 8], d ∈ depsOf o) ∧ opCalm Try.prog calmF D0 o = true := ⟨_, rfl, rfl, rfl, rfl, by decide, by kernel_rfl⟩
theorem o7_10 : ∃ o, (O7of (bodyOf Try.f12))[10]? = some o ∧ o.op = .unOp .not 4 (.tmp 72) ∧ o.dst = some 73 ∧ o.guard = some (6, false) ∧ (∀ d ∈ [6, 9], d ∈ depsOf o) ∧ opCalm Try.prog calmF D0 o = true := ⟨_, rfl, rfl, rfl, rfl, by decide, by kernel_rfl⟩
theorem o7_11 : ∃ o, (O7of (bodyOf Try.f12))[11]? = some o ∧ o.op = .pick (.tmp 69) (.const (.bool true)) (.tmp 73) ∧ o.dst = some 74 ∧ o.guard = none ∧ (∀ d ∈ [6, 10], d ∈ depsOf o) ∧ opCalm Try.prog calmF D0 o = true := ⟨_, rfl, rfl, rfl, rfl, by decide, by kernel_rfl⟩
theorem o7_12 : ∃ o, (O7of (bodyOf Try.f12))[12]? = some o ∧ o.op = .move (.tmp 74) ∧ o.dst = some 75 ∧ o.guard = none ∧ (∀ d ∈ [11], d ∈ depsOf o) ∧ opCalm Try.prog calmF D0 o = true := ⟨_, rfl, rfl, rfl, rfl, by decide, by kernel_rfl⟩
theorem o7_13 : ∃ o, (O7of (bodyOf Try.f12))[13]? = some o ∧ o.op = .call { callee := .value (.func 28), args := #[.const (.slice none 0 0)], argTypes := #[29] } ∧ o.dst = some 76 ∧ o.guard = some (12, false) ∧ (∀ d ∈ [12], d ∈ depsOf o) ∧ opCalm Try.prog calmF D0 o = true := ⟨_, rfl, rfl, rfl, rfl, by decide, by kernel_rfl⟩
theorem o7_14 : ∃ o, (O7of (bodyOf Try.f12))[14]? = some o ∧ o.op = .pick (.tmp 75) (.const (.bool true)) (.tmp 76) ∧ o.dst = some 77 ∧ o.guard = none ∧ (∀ d ∈ [12, 13], d ∈ depsOf o) ∧ opCalm Try.prog calmF D0 o = true := ⟨_, rfl, rfl, rfl, rfl, by decide, by kernel_rfl⟩
theorem o7_15 : ∃ o, (O7of (bodyOf Try.f12))[15]? = some o ∧ o.op = .move (.tmp 77) ∧ o.dst = some 78 ∧ o.guard = none ∧ (∀ d ∈ [14], d ∈ depsOf o) ∧ opCalm Try.prog calmF D0 o = true := ⟨_, rfl, rfl, rfl, rfl, by decide, by kernel_rfl⟩
theorem o7_16 : ∃ o, (O7of (bodyOf Try.f12))[16]? = some o ∧ o.op = .makeSlice 29 (.const (.int .i64 3)) (.const (.int .i64 3)) ∧ o.dst = some 79 ∧ o.guard = some (15, false) ∧ (∀ d ∈ [15], d ∈ depsOf o) ∧ opCalm Try.prog calmF D0 o = true := ⟨_, rfl, rfl, rfl, rfl, by decide, by kernel_rfl⟩
theorem o7_17 : ∃ o, (O7of (bodyOf Try.f12))[17]? = some o ∧ o.op = .call { callee := .value (.func 28), args := #[.tmp 79], argTypes := #[29] } ∧ o.dst = some 80 ∧ o.guard = some (15, false) ∧ (∀ d ∈ [15, 16], d ∈ depsOf o) ∧ opCalm Try.prog calmF D0 o = true := ⟨_, rfl, rfl, rfl, rfl, by decide, by kernel_rfl⟩
theorem o7_18 : ∃ o, (O7of (bodyOf Try.f12))[18]? = some o ∧ o.op = .pick (.tmp 78) (.const (.bool true)) (.tmp 80) ∧ o.dst = some 81 ∧ o.guard = none ∧ (∀ d ∈ [15, 17], d ∈ depsOf o) ∧ opCalm Try.prog calmF D0 o = true := ⟨_, rfl, rfl, rfl, rfl, by decide, by kernel_rfl⟩
theorem o7_19 : ∃ o, (O7of (bodyOf Try.f12))[19]? = some o ∧ o.op = .move (.tmp 81) ∧ o.dst = some 82 ∧ o.guard = none ∧ (∀ d ∈ [18], d ∈ depsOf o) ∧ opCalm Try.prog calmF D0 o = true := ⟨_, rfl, rfl, rfl, rfl, by decide, by kernel_rfl⟩
theorem o7_20 : ∃ o, (O7of (bodyOf Try.f12))[20]? = some o ∧ o.op = .makeSlice 29 (.const (.int .i64 4)) (.const (.int .i64 4)) ∧ o.dst = some 83 ∧ o.guard = some (19, false) ∧ (∀ d ∈ [19], d ∈ depsOf o) ∧ opCalm Try.prog calmF D0 o = true := ⟨_, rfl, rfl, rfl, rfl, by decide, by kernel_rfl⟩
theorem o7_21 : ∃ o, (O7of (bodyOf Try.f12))[21]? = some o ∧ o.op = .call { callee := .value (.func 28), args := #[.tmp 83], argTypes := #[29] } ∧ o.dst = some 84 ∧ o.guard = some (19, false) ∧ (∀ d ∈ [19, 20], d ∈ depsOf o) ∧ opCalm Try.prog calmF D0 o = true := ⟨_, rfl, rfl, rfl, rfl, by decide, by kernel_rfl⟩
theorem o7_22 : ∃ o, (O7of (bodyOf Try.f12))[22]? = some o ∧ o.op = .unOp .not 4 (.tmp 84) ∧ o.dst = some 85 ∧ o.guard = some (19, false) ∧ (∀ d ∈ [19, 21], d ∈ depsOf o) ∧ opCalm Try.prog calmF D0 o = true := ⟨_, rfl, rfl, rfl, rfl, by decide, by kernel_rfl⟩
theorem o7_23 : ∃ o, (O7of (bodyOf Try.f12))[23]? = some o ∧ o.op = .pick (.tmp 82) (.const (.bool true)) (.tmp 85) ∧ o.dst = some 86 ∧ o.guard = none ∧ (∀ d ∈ [19, 22], d ∈ depsOf o) ∧ opCalm Try.prog calmF D0 o = true := ⟨_, rfl, rfl, rfl, rfl, by decide, by kernel_rfl⟩
theorem o7_24 : ∃ o, (O7of (bodyOf Try.f12))[24]? = some o ∧ o.op = .move (.tmp 86) ∧ o.dst = some 87 ∧ o.guard = none ∧ (∀ d ∈ [23], d ∈ depsOf o) ∧ opCalm Try.prog calmF D0 o = true := ⟨_, rfl, rfl, rfl, rfl, by decide, by kernel_rfl⟩
theorem o7_25 : ∃ o, (O7of (bodyOf Try.f12))[25]? = some o ∧ o.op = .call { callee := .value (.func 41), args := #[], argTypes := #[] } ∧ o.dst = some 88 ∧ o.guard = some (24, false) ∧ (∀ d ∈ [24], d ∈ depsOf o) ∧ opCalm Try.prog calmF D0 o = true := ⟨_, rfl, rfl, rfl, rfl, by decide, by kernel_rfl⟩
theorem o7_26 : ∃ o, (O7of (bodyOf Try.f12))[26]? = some o ∧ o.op = .call { callee := .value (.func 30), args := #[.tmp 88], argTypes := #[29] } ∧ o.dst = some 89 ∧ o.guard = some (24, false) ∧ (∀ d ∈ [24, 25], d ∈ depsOf o) ∧ opCalm Try.prog calmF D0 o = true := ⟨_, rfl, rfl, rfl, rfl, by decide, by kernel_rfl⟩
theorem o7_27 : ∃ o, (O7of (bodyOf Try.f12))[27]? = some o ∧ o.op = .call { callee := .value (.func 24), args := #[.tmp 89], argTypes := #[29] } ∧ o.dst = some 90 ∧ o.guard = some (24, false) ∧ (∀ d ∈ [24, 26], d ∈ depsOf o) ∧ opCalm Try.prog calmF D0 o = true := ⟨_, rfl, rfl, rfl, rfl, by decide, by kernel_rfl⟩
theorem o7_28 : ∃ o, (O7of (bodyOf Try.f12))[28]? = some o ∧ o.op = .binOp .neq 40 (.tmp 90) (.const (.int .u32 558161692)) 40 ∧ o.dst = some 91 ∧ o.guard = some (24, false) ∧ (∀ d ∈ [24, 27], d ∈ depsOf o) ∧ opCalm Try.prog calmF D0 o = true := ⟨_, rfl, rfl, rfl, rfl, by decide, by kernel_rfl⟩
theorem o7_29 : ∃ o, (O7of (bodyOf Try.f12))[29]? = some o ∧ o.op = .pick (.tmp 87) (.const (.bool true)) (.tmp 91) ∧ o.dst = some 92 ∧ o.guard = none ∧ (∀ d ∈ [24, 28], d ∈ depsOf o) ∧ opCalm Try.prog calmF D0 o = true := ⟨_, rfl, rfl, rfl, rfl, by decide, by kernel_rfl⟩
theorem s7_0 (h : Ph7 W X ls T w) (haf : ∀ o, (O7of (bodyOf Try.f12))[0]? = some o → ∀ e ∈ o.after, Region.binds .any e = true → ls.getD e.on false = true) :
    Runs Try.prog (DF X) (N7 W X (ls.setIfInBounds 0 true) (O7of (bodyOf Try.f12)) k l) (InR 12 (O7of (bodyOf Try.f12)) k T (0 :: l) []) w := by
  obtain ⟨o, ho, hop, hd, hg, hdep, hc⟩ := o7_0
  refine hand_call (Q := QB X w 9 nineB) ho (wanted_none hg) hop (by rfl) Try.func41 (by rfl) (by rfl) rfl (vs := #[]) (by simp) (fun k hk => absurd hk (by simp)) h.wn.rows (fun tp => v_nine tp) (fun x v' w' hQ ha => ?_)
  rw [hd]
  exact .stop fun d => ⟨_, rfl, (QB.put h (i := 0) (by decide) hQ ha rfl).at d⟩
theorem s7_1 (h : Ph7 W X ls T w) (haf : ∀ o, (O7of (bodyOf Try.f12))[1]? = some o → ∀ e ∈ o.after, Region.binds .any e = true → ls.getD e.on false = true) :
    Runs Try.prog (DF X) (N7 W X (ls.setIfInBounds 1 true) (O7of (bodyOf Try.f12)) k l) (InR 12 (O7of (bodyOf Try.f12)) k T (1 :: l) []) w := by
  obtain ⟨o, ho, hop, hd, hg, hdep, hc⟩ := o7_1
  obtain ⟨v0, e0, b0⟩ := h.done 0 (by decide) (deps_done (haf o ho) (hdep 0 (by decide)))
  obtain ⟨g0, c0, rfl, hc0, hg0, hX0, r0⟩ := (b0 : By W X w 9 nineB v0)
  refine hand_call (Q := QB X w 13 (sealed nineB)) ho (wanted_none hg) hop (by rfl) Try.func30 (by rfl) (by rfl) rfl (vs := #[.slice (some ⟨g0, 0, none⟩) 9 c0]) (by simp [ev_tmp e0]) (fun k _ => free_all (by rfl) k) h.wn.rows (fun tp => v_seal (fun _ => reads_veil1 r0 hX0) (by decide) tp) (fun x v' w' hQ ha => ?_)
  rw [hd]
  exact .stop fun d => ⟨_, rfl, (QB.put h (i := 1) (by decide) hQ ha rfl).at d⟩
theorem s7_2 (h : Ph7 W X ls T w) (haf : ∀ o, (O7of (bodyOf Try.f12))[2]? = some o → ∀ e ∈ o.after, Region.binds .any e = true → ls.getD e.on false = true) :
    Runs Try.prog (DF X) (N7 W X (ls.setIfInBounds 2 true) (O7of (bodyOf Try.f12)) k l) (InR 12 (O7of (bodyOf Try.f12)) k T (2 :: l) []) w := by
  obtain ⟨o, ho, hop, hd, hg, hdep, hc⟩ := o7_2
  have hr : ∀ w : World, (execOp (⟨T, []⟩ : Act).eval o).run Try.prog w = .ok (.value (.slice (some ⟨w.heap.size, 0, none⟩) 13 13)) (w.alloc (.cells (lit13.map bv).toArray 5)) := fun w => by
    obtain ⟨i, z, q1, q2, q3, q4, q5, q6⟩ := (elem_u8).ex
    unfold execOp
    simp only [hop]
    show (Instr.buildSlice _ _ _ >>= fun v => (Pure.pure (Next.value v) : Sem Next)).run _ _ = _
    rw [Sem.run_bind, run_buildSlice w 29 5 13 _ (lit13.map bv).toArray i z q1 q2 q3 (by rw [q4]; omega) (by rw [q4]; omega) ?_]
    · rfl
    · rw [q4]
      have hl : ((#[(0, .const (.int .u8 49)), (1, .const (.int .u8 50)), (2, .const (.int .u8 51)), (3, .const (.int .u8 52)), (4, .const (.int .u8 53)), (5, .const (.int .u8 54)), (6, .const (.int .u8 55)), (7, .const (.int .u8 56)), (8, .const (.int .u8 57)), (9, .const (.int .u8 38)), (10, .const (.int .u8 57)), (11, .const (.int .u8 244)), (12, .const (.int .u8 203))] : Array (Nat × Operand)).map fun (i, x) => (i, (⟨T, []⟩ : Act).eval x)).toList = ((lit13.map bv).zipIdx 0).map fun x => (x.2, x.1) := by
        simp [Act.eval, List.zipIdx, lit13, bv]
      rw [hl]
      exact Great.fill_flat _ _ (fun v hv => by
        obtain ⟨b, _, rfl⟩ := List.mem_map.1 hv
        rfl) (by simp [lit13])
  refine hand_calm ho (wanted_none hg) hc h.wn.rows hr fun d => ?_
  rw [hd]
  exact .stop fun d' => ⟨_, rfl, ((h.at d).put (i := 2) (by decide) (show Ok7 W X _ 2 _ from By.new (h.wn.at d) _ lit13 rfl) ((Below.refl _ _).alloc (Nat.le_refl _) _)).at d'⟩
theorem s7_3 (h : Ph7 W X ls T w) (haf : ∀ o, (O7of (bodyOf Try.f12))[3]? = some o → ∀ e ∈ o.after, Region.binds .any e = true → ls.getD e.on false = true) :
    Runs Try.prog (DF X) (N7 W X (ls.setIfInBounds 3 true) (O7of (bodyOf Try.f12)) k l) (InR 12 (O7of (bodyOf Try.f12)) k T (3 :: l) []) w := by
  obtain ⟨o, ho, hop, hd, hg, hdep, hc⟩ := o7_3
  obtain ⟨v2, e2, b2⟩ := h.done 2 (by decide) (deps_done (haf o ho) (hdep 2 (by decide)))
  obtain ⟨g2, c2, rfl, hc2, hg2, hX2, r2⟩ := (b2 : By W X w 13 lit13 v2)
  have hr : ∀ w : World, (execOp (⟨T, []⟩ : Act).eval o).run Try.prog w = .ok (.value (.slice (some ⟨g2, 0, none⟩) 13 c2)) (markAt w g2) := fun w => by
    unfold execOp
    simp only [hop, ev_tmp e2]
    show (Go.convert _ _ _ >>= fun v => (Pure.pure (Next.value v) : Sem Next)).run _ _ = _
    rw [Sem.run_bind, run_mark]
    rfl
  have he : ∀ w : World, (execOp (⟨T, []⟩ : Act).eval o).events Try.prog w #[] = #[] := fun w => by
    unfold execOp
    simp only [hop, ev_tmp e2]
    show (Go.convert _ _ _ >>= fun v => (Pure.pure (Next.value v) : Sem Next)).events _ _ _ = _
    rw [Sem.events_bind, run_mark, events_mark]
    rfl
  refine hand_make ho (wanted_none hg) hr he (fun w => by rw [(markAt_rest w _).1]; exact Nat.le_refl _) fun d => ?_
  rw [hd]
  exact .stop fun d' => ⟨_, rfl, ((h.at d).marked (i := 3) (by decide) hg2 (fun x => Nat.lt_irrefl _ (hX2 _ x)) (show Ok7 W X _ 3 _ from ⟨g2, c2, rfl, hc2, hg2, hX2, r2⟩)).at d'⟩
theorem s7_4 (h : Ph7 W X ls T w) (haf : ∀ o, (O7of (bodyOf Try.f12))[4]? = some o → ∀ e ∈ o.after, Region.binds .any e = true → ls.getD e.on false = true) :
    Runs Try.prog (DF X) (N7 W X (ls.setIfInBounds 4 true) (O7of (bodyOf Try.f12)) k l) (InR 12 (O7of (bodyOf Try.f12)) k T (4 :: l) []) w := by
  obtain ⟨o, ho, hop, hd, hg, hdep, hc⟩ := o7_4
  obtain ⟨v1, e1, b1⟩ := h.done 1 (by decide) (deps_done (haf o ho) (hdep 1 (by decide)))
  obtain ⟨g1, c1, rfl, hc1, hg1, hX1, r1⟩ := (b1 : By W X w 13 (sealed nineB) v1)
  obtain ⟨v3, e3, b3⟩ := h.done 3 (by decide) (deps_done (haf o ho) (hdep 3 (by decide)))
  obtain ⟨g3, c3, rfl, hc3, hg3, hX3, r3⟩ := (b3 : By W X w 13 lit13 v3)
  refine hand_call (Q := QV X w (.bool true)) ho (wanted_none hg) hop (by rfl) Try.func23 (by rfl) (by rfl) rfl (vs := #[.slice (some ⟨g1, 0, none⟩) 13 c1, .slice (some ⟨g3, 0, none⟩) 13 c3]) (by simp [ev_tmp e1, ev_tmp e3]) (fun k _ => free_all (by rfl) k) h.wn.rows (fun tp => v_same (fun _ => reads_veil1 r1 hX1) (fun _ => reads_veil1 r3 hX3) (by decide) seal_nine tp) (fun x v' w' hQ ha => ?_)
  rw [hd]
  exact .stop fun d => ⟨_, rfl, (QV.put h (i := 4) (by decide) hQ ha rfl rfl).at d⟩
theorem s7_5 (h : Ph7 W X ls T w) (haf : ∀ o, (O7of (bodyOf Try.f12))[5]? = some o → ∀ e ∈ o.after, Region.binds .any e = true → ls.getD e.on false = true) :
    Runs Try.prog (DF X) (N7 W X (ls.setIfInBounds 5 true) (O7of (bodyOf Try.f12)) k l) (InR 12 (O7of (bodyOf Try.f12)) k T (5 :: l) []) w := by
  obtain ⟨o, ho, hop, hd, hg, hdep, hc⟩ := o7_5
  obtain ⟨v4, e4, b4⟩ := h.done 4 (by decide) (deps_done (haf o ho) (hdep 4 (by decide)))
  obtain rfl : v4 = .bool true := b4
  refine hand_pure ho (wanted_none hg) hc h.wn.rows (p_not (f := 0) hop e4) ?_
  rw [hd]
  exact .stop fun d => ⟨_, rfl, (h.put (i := 5) (by decide) (show Ok7 W X w 5 (.bool false) from rfl) (Below.refl _ _)).at d⟩
theorem s7_6 (h : Ph7 W X ls T w) (haf : ∀ o, (O7of (bodyOf Try.f12))[6]? = some o → ∀ e ∈ o.after, Region.binds .any e = true → ls.getD e.on false = true) :
    Runs Try.prog (DF X) (N7 W X (ls.setIfInBounds 6 true) (O7of (bodyOf Try.f12)) k l) (InR 12 (O7of (bodyOf Try.f12)) k T (6 :: l) []) w := by
  obtain ⟨o, ho, hop, hd, hg, hdep, hc⟩ := o7_6
  obtain ⟨v5, e5, b5⟩ := h.done 5 (by decide) (deps_done (haf o ho) (hdep 5 (by decide)))
  obtain rfl : v5 = .bool false := b5
  refine hand_pure ho (wanted_none hg) hc h.wn.rows (p_move hop e5) ?_
  rw [hd]
  exact .stop fun d => ⟨_, rfl, (h.put (i := 6) (by decide) (show Ok7 W X w 6 (.bool false) from rfl) (Below.refl _ _)).at d⟩
theorem s7_7 (h : Ph7 W X ls T w) (haf : ∀ o, (O7of (bodyOf Try.f12))[7]? = some o → ∀ e ∈ o.after, Region.binds .any e = true → ls.getD e.on false = true) :
    Runs Try.prog (DF X) (N7 W X (ls.setIfInBounds 7 true) (O7of (bodyOf Try.f12)) k l) (InR 12 (O7of (bodyOf Try.f12)) k T (7 :: l) []) w := by
  obtain ⟨o, ho, hop, hd, hg, hdep, hc⟩ := o7_7
  obtain ⟨v6, e6, b6⟩ := h.done 6 (by decide) (deps_done (haf o ho) (hdep 6 (by decide)))
  obtain rfl : v6 = .bool false := b6
  obtain ⟨og, hog, _, hogd, _⟩ := o7_6
  refine hand_call (Q := QB X w 4 (sealed [])) ho (wanted_guard hg hog hogd e6) hop (by rfl) Try.func30 (by rfl) (by rfl) rfl (vs := #[.slice none 0 0]) (by simp [Act.eval]) (fun k _ => free_all (by rfl) k) h.wn.rows (fun tp => v_seal (xs := []) (fun _ => Reads.none_) (by decide) tp) (fun x v' w' hQ ha => ?_)
  rw [hd]
  exact .stop fun d => ⟨_, rfl, (QB.put h (i := 7) (by decide) hQ ha rfl).at d⟩
theorem s7_8 (h : Ph7 W X ls T w) (haf : ∀ o, (O7of (bodyOf Try.f12))[8]? = some o → ∀ e ∈ o.after, Region.binds .any e = true → ls.getD e.on false = true) :
    Runs Try.prog (DF X) (N7 W X (ls.setIfInBounds 8 true) (O7of (bodyOf Try.f12)) k l) (InR 12 (O7of (bodyOf Try.f12)) k T (8 :: l) []) w := by
  obtain ⟨o, ho, hop, hd, hg, hdep, hc⟩ := o7_8
  obtain ⟨v6, e6, b6⟩ := h.done 6 (by decide) (deps_done (haf o ho) (hdep 6 (by decide)))
  obtain rfl : v6 = .bool false := b6
  obtain ⟨og, hog, _, hogd, _⟩ := o7_6
  have hr : ∀ w : World, (execOp (⟨T, []⟩ : Act).eval o).run Try.prog w = .ok (.value (.slice (some ⟨w.heap.size, 0, none⟩) 4 4)) (w.alloc (.cells (([0, 0, 0, 0] : List UInt8).map bv).toArray 5)) := fun w => by
    unfold execOp
    simp only [hop]
    show (Instr.makeSlice _ _ _ >>= fun v => (Pure.pure (Next.value v) : Sem Next)).run _ _ = _
    rw [Sem.run_bind, show (⟨T, []⟩ : Act).eval (.const (.int .i64 4)) = .int .i64 4 from rfl, run_mk4]
    rfl
  refine hand_calm ho (wanted_guard hg hog hogd e6) hc h.wn.rows hr fun d => ?_
  rw [hd]
  exact .stop fun d' => ⟨_, rfl, ((h.at d).put (i := 8) (by decide) (show Ok7 W X _ 8 _ from By.new (h.wn.at d) _ [0, 0, 0, 0] rfl) ((Below.refl _ _).alloc (Nat.le_refl _) _)).at d'⟩
theorem s7_9 (h : Ph7 W X ls T w) (haf : ∀ o, (O7of (bodyOf Try.f12))[9]? = some o → ∀ e ∈ o.after, Region.binds .any e = true → ls.getD e.on false = true) :
    Runs Try.prog (DF X) (N7 W X (ls.setIfInBounds 9 true) (O7of (bodyOf Try.f12)) k l) (InR 12 (O7of (bodyOf Try.f12)) k T (9 :: l) []) w := by
  obtain ⟨o, ho, hop, hd, hg, hdep, hc⟩ := o7_9
  obtain ⟨v6, e6, b6⟩ := h.done 6 (by decide) (deps_done (haf o ho) (hdep 6 (by decide)))
  obtain rfl : v6 = .bool false := b6
  obtain ⟨v7, e7, b7⟩ := h.done 7 (by decide) (deps_done (haf o ho) (hdep 7 (by decide)))
  obtain ⟨g7, c7, rfl, hc7, hg7, hX7, r7⟩ := (b7 : By W X w 4 (sealed []) v7)
  obtain ⟨v8, e8, b8⟩ := h.done 8 (by decide) (deps_done (haf o ho) (hdep 8 (by decide)))
  obtain ⟨g8, c8, rfl, hc8, hg8, hX8, r8⟩ := (b8 : By W X w 4 [0, 0, 0, 0] v8)
  obtain ⟨og, hog, _, hogd, _⟩ := o7_6
  refine hand_call (Q := QV X w (.bool true)) ho (wanted_guard hg hog hogd e6) hop (by rfl) Try.func23 (by rfl) (by rfl) rfl (vs := #[.slice (some ⟨g7, 0, none⟩) 4 c7, .slice (some ⟨g8, 0, none⟩) 4 c8]) (by simp [ev_tmp e7, ev_tmp e8]) (fun k _ => free_all (by rfl) k) h.wn.rows (fun tp => v_same (fun _ => reads_veil1 r7 hX7) (fun _ => reads_veil1 r8 hX8) (by decide) seal_nil tp) (fun x v' w' hQ ha => ?_)
  rw [hd]
  exact .stop fun d => ⟨_, rfl, (QV.put h (i := 9) (by decide) hQ ha rfl rfl).at d⟩
theorem s7_10 (h : Ph7 W X ls T w) (haf : ∀ o, (O7of (bodyOf Try.f12))[10]? = some o → ∀ e ∈ o.after, Region.binds .any e = true → ls.getD e.on false = true) :
    Runs Try.prog (DF X) (N7 W X (ls.setIfInBounds 10 true) (O7of (bodyOf Try.f12)) k l) (InR 12 (O7of (bodyOf Try.f12)) k T (10 :: l) []) w := by
  obtain ⟨o, ho, hop, hd, hg, hdep, hc⟩ := o7_10
  obtain ⟨v6, e6, b6⟩ := h.done 6 (by decide) (deps_done (haf o ho) (hdep 6 (by decide)))
  obtain rfl : v6 = .bool false := b6
  obtain ⟨v9, e9, b9⟩ := h.done 9 (by decide) (deps_done (haf o ho) (hdep 9 (by decide)))
  obtain rfl : v9 = .bool true := b9
  obtain ⟨og, hog, _, hogd, _⟩ := o7_6
  refine hand_pure ho (wanted_guard hg hog hogd e6) hc h.wn.rows (p_not (f := 0) hop e9) ?_
  rw [hd]
  exact .stop fun d => ⟨_, rfl, (h.put (i := 10) (by decide) (show Ok7 W X w 10 (.bool false) from rfl) (Below.refl _ _)).at d⟩
theorem s7_11 (h : Ph7 W X ls T w) (haf : ∀ o, (O7of (bodyOf Try.f12))[11]? = some o → ∀ e ∈ o.after, Region.binds .any e = true → ls.getD e.on false = true) :
    Runs Try.prog (DF X) (N7 W X (ls.setIfInBounds 11 true) (O7of (bodyOf Try.f12)) k l) (InR 12 (O7of (bodyOf Try.f12)) k T (11 :: l) []) w := by
  obtain ⟨o, ho, hop, hd, hg, hdep, hc⟩ := o7_11
  obtain ⟨v6, e6, b6⟩ := h.done 6 (by decide) (deps_done (haf o ho) (hdep 6 (by decide)))
  obtain rfl : v6 = .bool false := b6
  obtain ⟨v10, e10, b10⟩ := h.done 10 (by decide) (deps_done (haf o ho) (hdep 10 (by decide)))
  obtain rfl : v10 = .bool false := b10
  refine hand_pure ho (wanted_none hg) hc h.wn.rows (p_pick_or hop e6 e10) ?_
  rw [hd]
  exact .stop fun d => ⟨_, rfl, (h.put (i := 11) (by decide) (show Ok7 W X w 11 (.bool false) from rfl) (Below.refl _ _)).at d⟩
theorem s7_12 (h : Ph7 W X ls T w) (haf : ∀ o, (O7of (bodyOf Try.f12))[12]? = some o → ∀ e ∈ o.after, Region.binds .any e = true → ls.getD e.on false = true) :
    Runs Try.prog (DF X) (N7 W X (ls.setIfInBounds 12 true) (O7of (bodyOf Try.f12)) k l) (InR 12 (O7of (bodyOf Try.f12)) k T (12 :: l) []) w := by
  obtain ⟨o, ho, hop, hd, hg, hdep, hc⟩ := o7_12
  obtain ⟨v11, e11, b11⟩ := h.done 11 (by decide) (deps_done (haf o ho) (hdep 11 (by decide)))
  obtain rfl : v11 = .bool false := b11
  refine hand_pure ho (wanted_none hg) hc h.wn.rows (p_move hop e11) ?_
  rw [hd]
  exact .stop fun d => ⟨_, rfl, (h.put (i := 12) (by decide) (show Ok7 W X w 12 (.bool false) from rfl) (Below.refl _ _)).at d⟩
theorem s7_13 (h : Ph7 W X ls T w) (haf : ∀ o, (O7of (bodyOf Try.f12))[13]? = some o → ∀ e ∈ o.after, Region.binds .any e = true → ls.getD e.on false = true) :
    Runs Try.prog (DF X) (N7 W X (ls.setIfInBounds 13 true) (O7of (bodyOf Try.f12)) k l) (InR 12 (O7of (bodyOf Try.f12)) k T (13 :: l) []) w := by
  obtain ⟨o, ho, hop, hd, hg, hdep, hc⟩ := o7_13
  obtain ⟨v12, e12, b12⟩ := h.done 12 (by decide) (deps_done (haf o ho) (hdep 12 (by decide)))
  obtain rfl : v12 = .bool false := b12
  obtain ⟨og, hog, _, hogd, _⟩ := o7_12
  refine hand_call (Q := QV X w (.bool false)) ho (wanted_guard hg hog hogd e12) hop (by rfl) Try.func28 (by rfl) (by rfl) rfl (vs := #[.slice none 0 0]) (by simp [Act.eval]) (fun k _ => free_all (by rfl) k) h.wn.rows (fun tp => v_whole (xs := []) (fun _ => Reads.none_) (by decide) (by decide) whole_0 tp) (fun x v' w' hQ ha => ?_)
  rw [hd]
  exact .stop fun d => ⟨_, rfl, (QV.put h (i := 13) (by decide) hQ ha rfl rfl).at d⟩
theorem s7_14 (h : Ph7 W X ls T w) (haf : ∀ o, (O7of (bodyOf Try.f12))[14]? = some o → ∀ e ∈ o.after, Region.binds .any e = true → ls.getD e.on false = true) :
    Runs Try.prog (DF X) (N7 W X (ls.setIfInBounds 14 true) (O7of (bodyOf Try.f12)) k l) (InR 12 (O7of (bodyOf Try.f12)) k T (14 :: l) []) w := by
  obtain ⟨o, ho, hop, hd, hg, hdep, hc⟩ := o7_14
  obtain ⟨v12, e12, b12⟩ := h.done 12 (by decide) (deps_done (haf o ho) (hdep 12 (by decide)))
  obtain rfl : v12 = .bool false := b12
  obtain ⟨v13, e13, b13⟩ := h.done 13 (by decide) (deps_done (haf o ho) (hdep 13 (by decide)))
  obtain rfl : v13 = .bool false := b13
  refine hand_pure ho (wanted_none hg) hc h.wn.rows (p_pick_or hop e12 e13) ?_
  rw [hd]
  exact .stop fun d => ⟨_, rfl, (h.put (i := 14) (by decide) (show Ok7 W X w 14 (.bool false) from rfl) (Below.refl _ _)).at d⟩
theorem s7_15 (h : Ph7 W X ls T w) (haf : ∀ o, (O7of (bodyOf Try.f12))[15]? = some o → ∀ e ∈ o.after, Region.binds .any e = true → ls.getD e.on false = true) :
    Runs Try.prog (DF X) (N7 W X (ls.setIfInBounds 15 true) (O7of (bodyOf Try.f12)) k l) (InR 12 (O7of (bodyOf Try.f12)) k T (15 :: l) []) w := by
  obtain ⟨o, ho, hop, hd, hg, hdep, hc⟩ := o7_15
  obtain ⟨v14, e14, b14⟩ := h.done 14 (by decide) (deps_done (haf o ho) (hdep 14 (by decide)))
  obtain rfl : v14 = .bool false := b14
  refine hand_pure ho (wanted_none hg) hc h.wn.rows (p_move hop e14) ?_
  rw [hd]
  exact .stop fun d => ⟨_, rfl, (h.put (i := 15) (by decide) (show Ok7 W X w 15 (.bool false) from rfl) (Below.refl _ _)).at d⟩
theorem s7_16 (h : Ph7 W X ls T w) (haf : ∀ o, (O7of (bodyOf Try.f12))[16]? = some o → ∀ e ∈ o.after, Region.binds .any e = true → ls.getD e.on false = true) :
    Runs Try.prog (DF X) (N7 W X (ls.setIfInBounds 16 true) (O7of (bodyOf Try.f12)) k l) (InR 12 (O7of (bodyOf Try.f12)) k T (16 :: l) []) w := by
  obtain ⟨o, ho, hop, hd, hg, hdep, hc⟩ := o7_16
  obtain ⟨v15, e15, b15⟩ := h.done 15 (by decide) (deps_done (haf o ho) (hdep 15 (by decide)))
  obtain rfl : v15 = .bool false := b15
  obtain ⟨og, hog, _, hogd, _⟩ := o7_15
  have hr : ∀ w : World, (execOp (⟨T, []⟩ : Act).eval o).run Try.prog w = .ok (.value (.slice (some ⟨w.heap.size, 0, none⟩) 3 3)) (w.alloc (.cells (([0, 0, 0] : List UInt8).map bv).toArray 5)) := fun w => by
    unfold execOp
    simp only [hop]
    show (Instr.makeSlice _ _ _ >>= fun v => (Pure.pure (Next.value v) : Sem Next)).run _ _ = _
    rw [Sem.run_bind, show (⟨T, []⟩ : Act).eval (.const (.int .i64 3)) = .int .i64 3 from rfl, run_mk3]
    rfl
  refine hand_calm ho (wanted_guard hg hog hogd e15) hc h.wn.rows hr fun d => ?_
  rw [hd]
  exact .stop fun d' => ⟨_, rfl, ((h.at d).put (i := 16) (by decide) (show Ok7 W X _ 16 _ from By.new (h.wn.at d) _ [0, 0, 0] rfl) ((Below.refl _ _).alloc (Nat.le_refl _) _)).at d'⟩
theorem s7_17 (h : Ph7 W X ls T w) (haf : ∀ o, (O7of (bodyOf Try.f12))[17]? = some o → ∀ e ∈ o.after, Region.binds .any e = true → ls.getD e.on false = true) :
    Runs Try.prog (DF X) (N7 W X (ls.setIfInBounds 17 true) (O7of (bodyOf Try.f12)) k l) (InR 12 (O7of (bodyOf Try.f12)) k T (17 :: l) []) w := by
  obtain ⟨o, ho, hop, hd, hg, hdep, hc⟩ := o7_17
  obtain ⟨v15, e15, b15⟩ := h.done 15 (by decide) (deps_done (haf o ho) (hdep 15 (by decide)))
  obtain rfl : v15 = .bool false := b15
  obtain ⟨v16, e16, b16⟩ := h.done 16 (by decide) (deps_done (haf o ho) (hdep 16 (by decide)))
  obtain ⟨g16, c16, rfl, hc16, hg16, hX16, r16⟩ := (b16 : By W X w 3 [0, 0, 0] v16)
  obtain ⟨og, hog, _, hogd, _⟩ := o7_15
  refine hand_call (Q := QV X w (.bool false)) ho (wanted_guard hg hog hogd e15) hop (by rfl) Try.func28 (by rfl) (by rfl) rfl (vs := #[.slice (some ⟨g16, 0, none⟩) 3 c16]) (by simp [ev_tmp e16]) (fun k _ => free_all (by rfl) k) h.wn.rows (fun tp => v_whole (fun _ => reads_veil1 r16 hX16) (by decide) hc16 whole_3 tp) (fun x v' w' hQ ha => ?_)
  rw [hd]
  exact .stop fun d => ⟨_, rfl, (QV.put h (i := 17) (by decide) hQ ha rfl rfl).at d⟩
theorem s7_18 (h : Ph7 W X ls T w) (haf : ∀ o, (O7of (bodyOf Try.f12))[18]? = some o → ∀ e ∈ o.after, Region.binds .any e = true → ls.getD e.on false = true) :
    Runs Try.prog (DF X) (N7 W X (ls.setIfInBounds 18 true) (O7of (bodyOf Try.f12)) k l) (InR 12 (O7of (bodyOf Try.f12)) k T (18 :: l) []) w := by
  obtain ⟨o, ho, hop, hd, hg, hdep, hc⟩ := o7_18
  obtain ⟨v15, e15, b15⟩ := h.done 15 (by decide) (deps_done (haf o ho) (hdep 15 (by decide)))
  obtain rfl : v15 = .bool false := b15
  obtain ⟨v17, e17, b17⟩ := h.done 17 (by decide) (deps_done (haf o ho) (hdep 17 (by decide)))
  obtain rfl : v17 = .bool false := b17
  refine hand_pure ho (wanted_none hg) hc h.wn.rows (p_pick_or hop e15 e17) ?_
  rw [hd]
  exact .stop fun d => ⟨_, rfl, (h.put (i := 18) (by decide) (show Ok7 W X w 18 (.bool false) from rfl) (Below.refl _ _)).at d⟩
theorem s7_19 (h : Ph7 W X ls T w) (haf : ∀ o, (O7of (bodyOf Try.f12))[19]? = some o → ∀ e ∈ o.after, Region.binds .any e = true → ls.getD e.on false = true) :
    Runs Try.prog (DF X) (N7 W X (ls.setIfInBounds 19 true) (O7of (bodyOf Try.f12)) k l) (InR 12 (O7of (bodyOf Try.f12)) k T (19 :: l) []) w := by
  obtain ⟨o, ho, hop, hd, hg, hdep, hc⟩ := o7_19
  obtain ⟨v18, e18, b18⟩ := h.done 18 (by decide) (deps_done (haf o ho) (hdep 18 (by decide)))
  obtain rfl : v18 = .bool false := b18
  refine hand_pure ho (wanted_none hg) hc h.wn.rows (p_move hop e18) ?_
  rw [hd]
  exact .stop fun d => ⟨_, rfl, (h.put (i := 19) (by decide) (show Ok7 W X w 19 (.bool false) from rfl) (Below.refl _ _)).at d⟩
theorem s7_20 (h : Ph7 W X ls T w) (haf : ∀ o, (O7of (bodyOf Try.f12))[20]? = some o → ∀ e ∈ o.after, Region.binds .any e = true → ls.getD e.on false = true) :
    Runs Try.prog (DF X) (N7 W X (ls.setIfInBounds 20 true) (O7of (bodyOf Try.f12)) k l) (InR 12 (O7of (bodyOf Try.f12)) k T (20 :: l) []) w := by
  obtain ⟨o, ho, hop, hd, hg, hdep, hc⟩ := o7_20
  obtain ⟨v19, e19, b19⟩ := h.done 19 (by decide) (deps_done (haf o ho) (hdep 19 (by decide)))
  obtain rfl : v19 = .bool false := b19
  obtain ⟨og, hog, _, hogd, _⟩ := o7_19
  have hr : ∀ w : World, (execOp (⟨T, []⟩ : Act).eval o).run Try.prog w = .ok (.value (.slice (some ⟨w.heap.size, 0, none⟩) 4 4)) (w.alloc (.cells (([0, 0, 0, 0] : List UInt8).map bv).toArray 5)) := fun w => by
    unfold execOp
    simp only [hop]
    show (Instr.makeSlice _ _ _ >>= fun v => (Pure.pure (Next.value v) : Sem Next)).run _ _ = _
    rw [Sem.run_bind, show (⟨T, []⟩ : Act).eval (.const (.int .i64 4)) = .int .i64 4 from rfl, run_mk4]
    rfl
  refine hand_calm ho (wanted_guard hg hog hogd e19) hc h.wn.rows hr fun d => ?_
  rw [hd]
  exact .stop fun d' => ⟨_, rfl, ((h.at d).put (i := 20) (by decide) (show Ok7 W X _ 20 _ from By.new (h.wn.at d) _ [0, 0, 0, 0] rfl) ((Below.refl _ _).alloc (Nat.le_refl _) _)).at d'⟩
theorem s7_21 (h : Ph7 W X ls T w) (haf : ∀ o, (O7of (bodyOf Try.f12))[21]? = some o → ∀ e ∈ o.after, Region.binds .any e = true → ls.getD e.on false = true) :
    Runs Try.prog (DF X) (N7 W X (ls.setIfInBounds 21 true) (O7of (bodyOf Try.f12)) k l) (InR 12 (O7of (bodyOf Try.f12)) k T (21 :: l) []) w := by
  obtain ⟨o, ho, hop, hd, hg, hdep, hc⟩ := o7_21
  obtain ⟨v19, e19, b19⟩ := h.done 19 (by decide) (deps_done (haf o ho) (hdep 19 (by decide)))
  obtain rfl : v19 = .bool false := b19
  obtain ⟨v20, e20, b20⟩ := h.done 20 (by decide) (deps_done (haf o ho) (hdep 20 (by decide)))
  obtain ⟨g20, c20, rfl, hc20, hg20, hX20, r20⟩ := (b20 : By W X w 4 [0, 0, 0, 0] v20)
  obtain ⟨og, hog, _, hogd, _⟩ := o7_19
  refine hand_call (Q := QV X w (.bool true)) ho (wanted_guard hg hog hogd e19) hop (by rfl) Try.func28 (by rfl) (by rfl) rfl (vs := #[.slice (some ⟨g20, 0, none⟩) 4 c20]) (by simp [ev_tmp e20]) (fun k _ => free_all (by rfl) k) h.wn.rows (fun tp => v_whole (fun _ => reads_veil1 r20 hX20) (by decide) hc20 whole_4 tp) (fun x v' w' hQ ha => ?_)
  rw [hd]
  exact .stop fun d => ⟨_, rfl, (QV.put h (i := 21) (by decide) hQ ha rfl rfl).at d⟩
theorem s7_22 (h : Ph7 W X ls T w) (haf : ∀ o, (O7of (bodyOf Try.f12))[22]? = some o → ∀ e ∈ o.after, Region.binds .any e = true → ls.getD e.on false = true) :
    Runs Try.prog (DF X) (N7 W X (ls.setIfInBounds 22 true) (O7of (bodyOf Try.f12)) k l) (InR 12 (O7of (bodyOf Try.f12)) k T (22 :: l) []) w := by
  obtain ⟨o, ho, hop, hd, hg, hdep, hc⟩ := o7_22
  obtain ⟨v19, e19, b19⟩ := h.done 19 (by decide) (deps_done (haf o ho) (hdep 19 (by decide)))
  obtain rfl : v19 = .bool false := b19
  obtain ⟨v21, e21, b21⟩ := h.done 21 (by decide) (deps_done (haf o ho) (hdep 21 (by decide)))
  obtain rfl : v21 = .bool true := b21
  obtain ⟨og, hog, _, hogd, _⟩ := o7_19
  refine hand_pure ho (wanted_guard hg hog hogd e19) hc h.wn.rows (p_not (f := 0) hop e21) ?_
  rw [hd]
  exact .stop fun d => ⟨_, rfl, (h.put (i := 22) (by decide) (show Ok7 W X w 22 (.bool false) from rfl) (Below.refl _ _)).at d⟩
theorem s7_23 (h : Ph7 W X ls T w) (haf : ∀ o, (O7of (bodyOf Try.f12))[23]? = some o → ∀ e ∈ o.after, Region.binds .any e = true → ls.getD e.on false = true) :
    Runs Try.prog (DF X) (N7 W X (ls.setIfInBounds 23 true) (O7of (bodyOf Try.f12)) k l) (InR 12 (O7of (bodyOf Try.f12)) k T (23 :: l) []) w := by
  obtain ⟨o, ho, hop, hd, hg, hdep, hc⟩ := o7_23
  obtain ⟨v19, e19, b19⟩ := h.done 19 (by decide) (deps_done (haf o ho) (hdep 19 (by decide)))
  obtain rfl : v19 = .bool false := b19
  obtain ⟨v22, e22, b22⟩ := h.done 22 (by decide) (deps_done (haf o ho) (hdep 22 (by decide)))
  obtain rfl : v22 = .bool false := b22
  refine hand_pure ho (wanted_none hg) hc h.wn.rows (p_pick_or hop e19 e22) ?_
  rw [hd]
  exact .stop fun d => ⟨_, rfl, (h.put (i := 23) (by decide) (show Ok7 W X w 23 (.bool false) from rfl) (Below.refl _ _)).at d⟩
theorem s7_24 (h : Ph7 W X ls T w) (haf : ∀ o, (O7of (bodyOf Try.f12))[24]? = some o → ∀ e ∈ o.after, Region.binds .any e = true → ls.getD e.on false = true) :
    Runs Try.prog (DF X) (N7 W X (ls.setIfInBounds 24 true) (O7of (bodyOf Try.f12)) k l) (InR 12 (O7of (bodyOf Try.f12)) k T (24 :: l) []) w := by
  obtain ⟨o, ho, hop, hd, hg, hdep, hc⟩ := o7_24
  obtain ⟨v23, e23, b23⟩ := h.done 23 (by decide) (deps_done (haf o ho) (hdep 23 (by decide)))
  obtain rfl : v23 = .bool false := b23
  refine hand_pure ho (wanted_none hg) hc h.wn.rows (p_move hop e23) ?_
  rw [hd]
  exact .stop fun d => ⟨_, rfl, (h.put (i := 24) (by decide) (show Ok7 W X w 24 (.bool false) from rfl) (Below.refl _ _)).at d⟩
theorem s7_25 (h : Ph7 W X ls T w) (haf : ∀ o, (O7of (bodyOf Try.f12))[25]? = some o → ∀ e ∈ o.after, Region.binds .any e = true → ls.getD e.on false = true) :
    Runs Try.prog (DF X) (N7 W X (ls.setIfInBounds 25 true) (O7of (bodyOf Try.f12)) k l) (InR 12 (O7of (bodyOf Try.f12)) k T (25 :: l) []) w := by
  obtain ⟨o, ho, hop, hd, hg, hdep, hc⟩ := o7_25
  obtain ⟨v24, e24, b24⟩ := h.done 24 (by decide) (deps_done (haf o ho) (hdep 24 (by decide)))
  obtain rfl : v24 = .bool false := b24
  obtain ⟨og, hog, _, hogd, _⟩ := o7_24
  refine hand_call (Q := QB X w 9 nineB) ho (wanted_guard hg hog hogd e24) hop (by rfl) Try.func41 (by rfl) (by rfl) rfl (vs := #[]) (by simp) (fun k hk => absurd hk (by simp)) h.wn.rows (fun tp => v_nine tp) (fun x v' w' hQ ha => ?_)
  rw [hd]
  exact .stop fun d => ⟨_, rfl, (QB.put h (i := 25) (by decide) hQ ha rfl).at d⟩
theorem s7_26 (h : Ph7 W X ls T w) (haf : ∀ o, (O7of (bodyOf Try.f12))[26]? = some o → ∀ e ∈ o.after, Region.binds .any e = true → ls.getD e.on false = true) :
    Runs Try.prog (DF X) (N7 W X (ls.setIfInBounds 26 true) (O7of (bodyOf Try.f12)) k l) (InR 12 (O7of (bodyOf Try.f12)) k T (26 :: l) []) w := by
  obtain ⟨o, ho, hop, hd, hg, hdep, hc⟩ := o7_26
  obtain ⟨v24, e24, b24⟩ := h.done 24 (by decide) (deps_done (haf o ho) (hdep 24 (by decide)))
  obtain rfl : v24 = .bool false := b24
  obtain ⟨v25, e25, b25⟩ := h.done 25 (by decide) (deps_done (haf o ho) (hdep 25 (by decide)))
  obtain ⟨g25, c25, rfl, hc25, hg25, hX25, r25⟩ := (b25 : By W X w 9 nineB v25)
  obtain ⟨og, hog, _, hogd, _⟩ := o7_24
  refine hand_call (Q := QB X w 13 (sealed nineB)) ho (wanted_guard hg hog hogd e24) hop (by rfl) Try.func30 (by rfl) (by rfl) rfl (vs := #[.slice (some ⟨g25, 0, none⟩) 9 c25]) (by simp [ev_tmp e25]) (fun k _ => free_all (by rfl) k) h.wn.rows (fun tp => v_seal (fun _ => reads_veil1 r25 hX25) (by decide) tp) (fun x v' w' hQ ha => ?_)
  rw [hd]
  exact .stop fun d => ⟨_, rfl, (QB.put h (i := 26) (by decide) hQ ha rfl).at d⟩
theorem s7_27 (h : Ph7 W X ls T w) (haf : ∀ o, (O7of (bodyOf Try.f12))[27]? = some o → ∀ e ∈ o.after, Region.binds .any e = true → ls.getD e.on false = true) :
    Runs Try.prog (DF X) (N7 W X (ls.setIfInBounds 27 true) (O7of (bodyOf Try.f12)) k l) (InR 12 (O7of (bodyOf Try.f12)) k T (27 :: l) []) w := by
  obtain ⟨o, ho, hop, hd, hg, hdep, hc⟩ := o7_27
  obtain ⟨v24, e24, b24⟩ := h.done 24 (by decide) (deps_done (haf o ho) (hdep 24 (by decide)))
  obtain rfl : v24 = .bool false := b24
  obtain ⟨v26, e26, b26⟩ := h.done 26 (by decide) (deps_done (haf o ho) (hdep 26 (by decide)))
  obtain ⟨g26, c26, rfl, hc26, hg26, hX26, r26⟩ := (b26 : By W X w 13 (sealed nineB) v26)
  obtain ⟨og, hog, _, hogd, _⟩ := o7_24
  refine hand_call (Q := QV X w (.int .u32 558161692)) ho (wanted_guard hg hog hogd e24) hop (by rfl) Try.func24 (by rfl) (by rfl) rfl (vs := #[.slice (some ⟨g26, 0, none⟩) 13 c26]) (by simp [ev_tmp e26]) (fun k _ => free_all (by rfl) k) h.wn.rows (fun tp => v_sum (fun _ => reads_veil1 r26 hX26) (by decide) sum_sealed tp) (fun x v' w' hQ ha => ?_)
  rw [hd]
  exact .stop fun d => ⟨_, rfl, (QV.put h (i := 27) (by decide) hQ ha rfl rfl).at d⟩
theorem s7_28 (h : Ph7 W X ls T w) (haf : ∀ o, (O7of (bodyOf Try.f12))[28]? = some o → ∀ e ∈ o.after, Region.binds .any e = true → ls.getD e.on false = true) :
    Runs Try.prog (DF X) (N7 W X (ls.setIfInBounds 28 true) (O7of (bodyOf Try.f12)) k l) (InR 12 (O7of (bodyOf Try.f12)) k T (28 :: l) []) w := by
  obtain ⟨o, ho, hop, hd, hg, hdep, hc⟩ := o7_28
  obtain ⟨v24, e24, b24⟩ := h.done 24 (by decide) (deps_done (haf o ho) (hdep 24 (by decide)))
  obtain rfl : v24 = .bool false := b24
  obtain ⟨v27, e27, b27⟩ := h.done 27 (by decide) (deps_done (haf o ho) (hdep 27 (by decide)))
  obtain rfl : v27 = .int .u32 558161692 := b27
  obtain ⟨og, hog, _, hogd, _⟩ := o7_24
  refine hand_pure ho (wanted_guard hg hog hogd e24) hc h.wn.rows (p_neqc (z := false) hop e27 (by decide)) ?_
  rw [hd]
  exact .stop fun d => ⟨_, rfl, (h.put (i := 28) (by decide) (show Ok7 W X w 28 (.bool false) from rfl) (Below.refl _ _)).at d⟩
theorem s7_29 (h : Ph7 W X ls T w) (haf : ∀ o, (O7of (bodyOf Try.f12))[29]? = some o → ∀ e ∈ o.after, Region.binds .any e = true → ls.getD e.on false = true) :
    Runs Try.prog (DF X) (N7 W X (ls.setIfInBounds 29 true) (O7of (bodyOf Try.f12)) k l) (InR 12 (O7of (bodyOf Try.f12)) k T (29 :: l) []) w := by
  obtain ⟨o, ho, hop, hd, hg, hdep, hc⟩ := o7_29
  obtain ⟨v24, e24, b24⟩ := h.done 24 (by decide) (deps_done (haf o ho) (hdep 24 (by decide)))
  obtain rfl : v24 = .bool false := b24
  obtain ⟨v28, e28, b28⟩ := h.done 28 (by decide) (deps_done (haf o ho) (hdep 28 (by decide)))
  obtain rfl : v28 = .bool false := b28
  refine hand_pure ho (wanted_none hg) hc h.wn.rows (p_pick_or hop e24 e28) ?_
  rw [hd]
  exact .stop fun d => ⟨_, rfl, (h.put (i := 29) (by decide) (show Ok7 W X w 29 (.bool false) from rfl) (Below.refl _ _)).at d⟩
theorem size7 : (O7of (bodyOf Try.f12)).size = 30 := by kernel_rfl
theorem acyc7 : (List.range 30).all (fun i => match (O7of (bodyOf Try.f12))[i]? with
  | some o => o.after.toList.all fun e => decide (e.on < i)
  | none => true) = true := by kernel_rfl
theorem acyc7' (i : Nat) (o : Oper) (ho : (O7of (bodyOf Try.f12))[i]? = some o) (e : Edge) (he : e ∈ o.after) : e.on < i := by
  have hi : i < 30 := by
    have := (Array.getElem?_eq_some_iff.1 ho).1
    rwa [size7] at this
  have h := List.all_eq_true.1 acyc7 i (List.mem_range.2 hi)
  rw [ho] at h
  have := List.all_eq_true.1 h e (Array.mem_toList_iff.2 he)
  simpa using this
theorem step7 (i : Nat) (hi : i < (O7of (bodyOf Try.f12)).size) (haf : ∀ o, (O7of (bodyOf Try.f12))[i]? = some o → ∀ e ∈ o.after, Region.binds .any e = true → ls.getD e.on false = true) (h : Ph7 W X ls T w) :
    Runs Try.prog (DF X) (N7 W X (ls.setIfInBounds i true) (O7of (bodyOf Try.f12)) k l) (InR 12 (O7of (bodyOf Try.f12)) k T (i :: l) []) w := by
  rw [size7] at hi
  have hcase : i = 0 ∨ i = 1 ∨ i = 2 ∨ i = 3 ∨ i = 4 ∨ i = 5 ∨ i = 6 ∨ i = 7 ∨ i = 8 ∨ i = 9 ∨ i = 10 ∨ i = 11 ∨ i = 12 ∨ i = 13 ∨ i = 14 ∨ i = 15 ∨ i = 16 ∨ i = 17 ∨ i = 18 ∨ i = 19 ∨ i = 20 ∨ i = 21 ∨ i = 22 ∨ i = 23 ∨ i = 24 ∨ i = 25 ∨ i = 26 ∨ i = 27 ∨ i = 28 ∨ i = 29 := by omega
  rcases hcase with rfl | rfl | rfl | rfl | rfl | rfl | rfl | rfl | rfl | rfl | rfl | rfl | rfl | rfl | rfl | rfl | rfl | rfl | rfl | rfl | rfl | rfl | rfl | rfl | rfl | rfl | rfl | rfl | rfl | rfl
  · exact s7_0 h haf
  · exact s7_1 h haf
  · exact s7_2 h haf
  · exact s7_3 h haf
  · exact s7_4 h haf
  · exact s7_5 h haf
  · exact s7_6 h haf
  · exact s7_7 h haf
  · exact s7_8 h haf
  · exact s7_9 h haf
  · exact s7_10 h haf
  · exact s7_11 h haf
  · exact s7_12 h haf
  · exact s7_13 h haf
  · exact s7_14 h haf
  · exact s7_15 h haf
  · exact s7_16 h haf
  · exact s7_17 h haf
  · exact s7_18 h haf
  · exact s7_19 h haf
  · exact s7_20 h haf
  · exact s7_21 h haf
  · exact s7_22 h haf
  · exact s7_23 h haf
  · exact s7_24 h haf
  · exact s7_25 h haf
  · exact s7_26 h haf
  · exact s7_27 h haf
  · exact s7_28 h haf
  · exact s7_29 h haf
end
end Go.Proofs.Ytoipkpndfgcmcaa.Crew

/-
  Forge: the walk. Condition: fewer than 2^47 bytes.
-/
namespace Go.Proofs.Ytoipkpndfgcmcaa
open Go.RowKit
theorem back_val (y : Nat) (h : y < 2147483648) : bits BinOp.or IntKind.u32 ((y : Int) * 2) 1 = ((2 * y + 1 : Nat) : Int) := by
  rw [show (y : Int) * 2 = ((2 * y : Nat) : Int) by omega, show (1 : Int) = ((1 : Nat) : Int) from rfl, u32_or_nat _ 1 (by omega) (by omega)]
  congr 1
  exact nat_join 1 (2 * y) 1 (by omega) (by omega)
theorem back_any (r : Nat) (w : World) (h : r < U32) : Calls Try.prog 46 #[.int .u32 (r : Int)] w fun e w' => e = .returned (.int .u32 (bk r : Nat)) ∧ w = w' := by
  have hr : (r : Int) < 4294967296 := by unfold U32 at h; omega
  by_cases ht : r / 2147483648 = 1
  · have hx := xor_u32 r POLY h (by decide)
    rw [show ((POLY : Nat) : Int) = 3988292384 from rfl] at hx
    have hc : (((r : Int) / 2147483648) == 1) = true := by simp; omega
    have hb : bk r = 2 * (r ^^^ POLY) + 1 := by unfold bk; rw [if_pos ht]
    have htop := top_xor h (b := POLY) (by decide)
    rw [ht, show POLY / 2147483648 = 1 by decide] at htop
    rw [hb]
    generalize r ^^^ POLY = y at hx htop
    have hv := back_val y (by omega)
    go_enter Try.func46, Try.ntmps46
    go_wp2
    go_ret
    exact ⟨by rw [show ((2 * y + 1 : Nat) : Int) = 2 * (y : Int) + 1 by omega]; rfl, rfl⟩
  · have hb : bk r = 2 * r := by unfold bk; rw [if_neg ht]
    have hc : (((r : Int) / 2147483648) == 1) = false := by simp; omega
    have hv : (r : Int) * 2 = ((2 * r : Nat) : Int) := by omega
    rw [hb]
    go_enter Try.func46, Try.ntmps46
    go_wp2
    go_ret
    exact ⟨by rw [show ((2 * r : Nat) : Int) = 2 * (r : Int) by omega]; rfl, rfl⟩
end Go.Proofs.Ytoipkpndfgcmcaa

/-
  slices.Backward over bytes: its contract. Condition: fewer than 2^47 bytes.
-/
namespace Go.Proofs.Ytoipkpndfgcmcaa
open Go.RowKit Go.Shelf
attribute [local go_sem] Oper.semAt_some

/-- What has come when k rounds are over: the last k bytes, the last first. -/
def came (zs : List UInt8) (k : Nat) : List (Nat × UInt8) := (List.range k).map fun j => (zs.length - 1 - j, zs[zs.length - 1 - j]?.getD 0)
theorem came_succ (zs : List UInt8) (k : Nat) : came zs (k + 1) = came zs k ++ [(zs.length - 1 - k, zs[zs.length - 1 - k]?.getD 0)] := by simp [came, List.range_succ]
theorem came_length (zs : List UInt8) (k : Nat) : (came zs k).length = k := by simp [came]

/-- What a round keeps: what lay below n₀, and the iterator's box. -/
def KpB (n₀ Bs : Nat) (W W' : World) : Prop := Below n₀ W W' ∧ ∀ v, W.cell? ⟨Bs, 0, none⟩ = some v → W'.cell? ⟨Bs, 0, none⟩ = some v
theorem kpB_t {n₀ Bs : Nat} {A B C : World} (h : KpB n₀ Bs A B) (k : KpB n₀ Bs B C) : KpB n₀ Bs A C := ⟨h.1.trans k.1, fun v hv => k.2 v (h.2 v hv)⟩
theorem kpB_b {n₀ Bs : Nat} {w : World} (hn : n₀ ≤ w.heap.size) (W : World) (l : Nat) (o o' : Obj) (hl : w.heap.size ≤ l) (h : W.heap[l]? = some o) (hc : o.isCells = false) (hw : o.isWalk = false) : KpB n₀ Bs W (W.putObj l o') :=
  ⟨belowK_b hn W l o o' hl h hc hw, fun _ hv => cell_kept hv (grownBy_putObj' W l o') (fun r e => by cases e; exact ⟨_, h, hc⟩)⟩

set_option maxRecDepth 100000 in
set_option maxHeartbeats 2000000 in
theorem backward1_in (F : Fence) (n : Nat) (h8 : F.fn 56) (hro : F.round = none) (hn : 1 ≤ n) (l Bs n₀ cap : Nat) (A : Option Addr) (zs : List UInt8) (hreach : zs.length ≤ 140737488355328) (J Jx : List (Nat × UInt8) → World → Prop)
    (hY : ∀ pre x W, J pre W → pre.length < zs.length → YieldAt F (n - 1) Try.prog l #[.int .i64 (x.1 : Int), .int .u8 (x.2.toNat : Int)] W fun e W' =>
      (e = .returned (.bool true) ∧ J (pre ++ [x]) W' ∧ KpB n₀ Bs W W') ∨ (e = .returned (.bool false) ∧ Jx (pre ++ [x]) W'))
    (W : World) (hBs : W.cell? ⟨Bs, 0, none⟩ = some (.slice A zs.length cap)) (hc : Reads W n₀ 1 A zs.length (zs.map bv)) (h0 : J [] W) :
    CallsIn F n Try.prog 56 #[.func (.yield l) #[] #[], .pointer (some ⟨Bs, 0, none⟩)] W fun e W' => (∃ v, e = .returned v) ∧
      ((∃ ys, ys = came zs zs.length ∧ J ys W') ∨ (∃ pre, (∃ k, k ≤ zs.length ∧ pre = came zs k) ∧ Jx pre W')) := by
  refine callsIn_of_wp Try.func56 rfl h8 ?_ hro
  simp only [Try.ntmps56, List.size_toArray, List.length_cons, List.length_nil, Nat.reduceAdd, Nat.reduceSub, Array.replicate_succ, Array.replicate_zero, List.push_toArray, List.append_toArray, List.nil_append, List.cons_append]
  gi_wp2
  gi_loopw [3] (fun i wr => ∃ k : Nat, k ≤ zs.length ∧ i = .int .i64 ((zs.length : Int) - 1 - (k : Int)) ∧ J (came zs k) wr ∧ KpB n₀ Bs W wr)
    (fun i _ => (intOf i + 1).toNat)
  case atStart => exact ⟨0, Nat.zero_le _, by simp, h0, Below.refl _ _, fun _ h => h⟩
  case round =>
    obtain ⟨k, hk, rfl, hJs, hnx, hbx⟩ := hrel
    have hbox := hbx _ hBs
    by_cases hlt : k < zs.length
    · obtain ⟨M, hM⟩ : ∃ M, zs.length - 1 - k = M := ⟨_, rfl⟩
      have hMi : (zs.length : Int) - 1 - (k : Int) = (M : Int) := by omega
      rw [hMi]
      obtain ⟨b, off, u, rfl, hbl, hx, hcc, _⟩ := hc.at0 (k := M) (by omega)
      rw [List.getElem?_map] at hx
      obtain ⟨d, hd, rfl⟩ := Option.map_eq_some_iff.1 hx
      have hcell : wr.cell? ⟨b, off + M, none⟩ = some (.int .u8 (d.toNat : Int)) := (hnx.cell (p := ⟨b, off + M, none⟩) hbl).trans hcc
      obtain ⟨fn, tmps, assign, body, hy, hR⟩ := hY _ (M, d) wr hJs (by rw [came_length]; exact hlt)
      dsimp only at hy
      have hcs : came zs (k + 1) = came zs k ++ [(M, d)] := by rw [came_succ, hM, hd]; rfl
      have hM0 : (0 : Int) ≤ (M : Int) := by omega
      have hM1 : (M : Int) < (zs.length : Int) := by omega
      gi_wp2
      refine hR.mono ?_
      rintro e W3 (⟨rfl, hJ3, hk3⟩ | ⟨rfl, hJx3⟩)
      · gi_wp2
        go_roundw
        case rel => exact ⟨k + 1, by omega, by simp; omega, by rw [hcs]; exact hJ3, kpB_t ⟨hnx, hbx⟩ hk3⟩
        case measure => simp [intOf]
      · gi_wp2
        refine bodyPost_ret (results_none rfl _ _ _) rfl ?_
        exact ⟨⟨_, rfl⟩, .inr ⟨_, ⟨k + 1, by omega, hcs.symm⟩, hJx3⟩⟩
    · obtain rfl : k = zs.length := by omega
      have hneg : (zs.length : Int) - 1 - (zs.length : Int) = -1 := by omega
      rw [hneg]
      gi_wp2
      go_end0
      exact ⟨⟨_, rfl⟩, .inl ⟨_, rfl, hJs⟩⟩
end Go.Proofs.Ytoipkpndfgcmcaa

/-
  Forge as plain mathematics: four bytes at a place give a text any sum, and no other four do. No program in sight.
-/
namespace Go.Proofs.Ytoipkpndfgcmcaa
open Go.RowKit

/-- The register of which the bytes make y. -/
def inv (y : Nat) (l : List UInt8) : Nat := l.foldr (fun c y => bn 8 y ^^^ c.toNat) y
theorem inv_lt {y : Nat} (h : y < U32) (l : List UInt8) : inv y l < U32 := by
  induction l with
  | nil => exact h
  | cons c l ih => exact xor_lt (bn_lt ih 8) (u8_lt c)
theorem crc_inv {y : Nat} (h : y < U32) (l : List UInt8) : crc (inv y l) l = y := by
  induction l with
  | nil => rfl
  | cons c l ih =>
    rw [crc_cons]
    have e : tk (inv y (c :: l)) c = inv y l := by
      show stp8 ((bn 8 (inv y l) ^^^ c.toNat) ^^^ c.toNat) = _
      rw [xor_cancel, stp8_sn, sn_bn (inv_lt h l)]
    rw [e, ih]
theorem crc_inj {a b : Nat} (ha : a < U32) (hb : b < U32) (l : List UInt8) (h : crc a l = crc b l) : a = b := by
  induction l generalizing a b with
  | nil => exact h
  | cons c l ih =>
    rw [crc_cons, crc_cons] at h
    have := ih (tk_lt ha c) (tk_lt hb c) h
    unfold tk at this
    rw [stp8_sn, stp8_sn] at this
    have := sn_inj (xor_lt ha (u8_lt c)) (xor_lt hb (u8_lt c)) this
    have := congrArg (· ^^^ c.toNat) this
    simpa only [xor_cancel] using this
/-- The number of the four bytes. -/
def fq (bs : List UInt8) (p x : Nat) : Nat := bn 32 (inv (x ^^^ ONES) (bs.drop (p + 4))) ^^^ crc ONES (bs.take p)
/-- The bytes with the four of the number q at the place. -/
def at4 (bs : List UInt8) (p q : Nat) : List UInt8 := bs.take p ++ (le4 q ++ bs.drop (p + 4))
def forged (bs : List UInt8) (p x : Nat) : List UInt8 := at4 bs p (fq bs p x)
theorem fq_lt (bs : List UInt8) (p : Nat) {x : Nat} (hx : x < U32) : fq bs p x < U32 := xor_lt (bn_lt (inv_lt (xor_lt hx ones_lt) _) _) (crc_lt ones_lt _)
theorem at4_len {bs : List UInt8} {p : Nat} (q : Nat) (h : p + 4 ≤ bs.length) : (at4 bs p q).length = bs.length := by
  simp only [at4, List.length_append, List.length_take, List.length_drop, le4_len]
  omega
theorem at4_sum (bs : List UInt8) (p q : Nat) (hq : q < U32) : upd 0 (at4 bs p q) = crc (sn 32 (crc ONES (bs.take p) ^^^ q)) (bs.drop (p + 4)) ^^^ ONES := by
  unfold upd at4
  rw [Nat.zero_xor, crc_append, crc_append, feed4 _ _ hq]
theorem forged_sum (bs : List UInt8) (p : Nat) {x : Nat} (hx : x < U32) : upd 0 (forged bs p x) = x := by
  unfold forged
  rw [at4_sum _ _ _ (fq_lt bs p hx)]
  have e : crc ONES (bs.take p) ^^^ fq bs p x = bn 32 (inv (x ^^^ ONES) (bs.drop (p + 4))) := by
    unfold fq
    rw [Nat.xor_comm, xor_cancel]
  rw [e, sn_bn (inv_lt (xor_lt hx ones_lt) _), crc_inv (xor_lt hx ones_lt), xor_cancel]
theorem at4_inj (bs : List UInt8) (p : Nat) {q r : Nat} (hq : q < U32) (hr : r < U32) (h : upd 0 (at4 bs p q) = upd 0 (at4 bs p r)) : q = r := by
  rw [at4_sum _ _ _ hq, at4_sum _ _ _ hr] at h
  have h := congrArg (· ^^^ ONES) h
  simp only [xor_cancel] at h
  have hc := crc_lt ones_lt (bs.take p)
  have h := crc_inj (sn_lt (xor_lt hc hq) _) (sn_lt (xor_lt hc hr) _) _ h
  have h := sn_inj (xor_lt hc hq) (xor_lt hc hr) h
  have h := congrArg (crc ONES (bs.take p) ^^^ ·) h
  simpa only [← Nat.xor_assoc, Nat.xor_self, Nat.zero_xor] using h
/-- No other four bytes at the place give that sum. -/
theorem forged_only (bs : List UInt8) (p q : Nat) (hq : q < U32) : forged bs p (upd 0 (at4 bs p q)) = at4 bs p q := by
  have hx : upd 0 (at4 bs p q) < U32 := upd_lt (by decide) _
  have := forged_sum bs p hx
  unfold forged at this ⊢
  rw [at4_inj bs p (fq_lt bs p hx) hq this]
theorem forged_iff (bs : List UInt8) (p q : Nat) (hq : q < U32) {x : Nat} (hx : x < U32) : upd 0 (at4 bs p q) = x ↔ at4 bs p q = forged bs p x := by
  constructor
  · rintro rfl
    exact (forged_only bs p q hq).symm
  · intro h
    rw [h, forged_sum bs p hx]
theorem sealed_sum (bs : List UInt8) : upd 0 (bs ++ le4 (upd 0 bs)) = 558161692 := by
  have h : whole (bs ++ le4 (upd 0 bs)) = true := by
    rw [whole_long (m := bs.length) (by simp [le4_len])]
    simp
  rw [whole_sum] at h
  simp only [Bool.and_eq_true, beq_iff_eq] at h
  exact h.2
theorem inv_snoc (y : Nat) (l : List UInt8) (c : UInt8) : inv y (l ++ [c]) = inv (bn 8 y ^^^ c.toNat) l := by unfold inv; rw [List.foldr_append]; rfl
end Go.Proofs.Ytoipkpndfgcmcaa

/-
  Forge: the walk. Condition: fewer than 2^47 bytes.
-/
namespace Go.Proofs.Ytoipkpndfgcmcaa
open Go.RowKit Go.Shelf
attribute [local go_sem] Oper.semAt_some

theorem backward_in (F : Fence) (n : Nat) (h5 : F.fn 45) (hro : F.round = none) (a : Option Addr) (len cap : Nat) (w : World) :
    CallsIn F n Try.prog 45 #[.slice a len cap] w fun e w' => e = .returned (.func (.func 56) #[] #[.pointer (some ⟨w.heap.size, 0, none⟩)]) ∧ w' = w.alloc (.cells #[.slice a len cap] 29) := by
  refine callsIn_of_wp Try.func45 rfl h5 ?_ hro
  simp only [Try.ntmps45, List.size_toArray, List.length_cons, List.length_nil, Nat.reduceAdd, Nat.reduceSub, Array.replicate_succ, Array.replicate_zero, List.push_toArray, List.append_toArray, List.nil_append, List.cons_append]
  gi_wp2
  go_ret
  exact ⟨rfl, rfl⟩

theorem backward_stops (F : Fence) (n : Nat) (h7 : F.fn 56) (hro : F.round = none) (hn : 1 ≤ n) (Bs n₀ cap : Nat) (A : Option Addr) (zs : List UInt8) (hreach : zs.length ≤ 140737488355328) (w : World) (hBs : Bs < w.heap.size) (hn₀ : n₀ ≤ w.heap.size)
    (hc : w.cell? ⟨Bs, 0, none⟩ = some (.slice A zs.length cap)) (hI : Reads w n₀ 1 A zs.length (zs.map bv)) :
    SeqStopsK F n Try.prog 56 #[.pointer (some ⟨Bs, 0, none⟩)] (fun x : Nat × UInt8 => #[Value.int .i64 (x.1 : Int), Value.int .u8 (x.2.toNat : Int)]) (KpB n₀ Bs) (fun ys => ys = came zs zs.length) (fun _ => True) zs.length w := fun l J Jx W hW _ _ hY h0 => by
  have hc' := (hW.cell (p := ⟨Bs, 0, none⟩) hBs).trans hc
  refine (backward1_in F n h7 hro hn l Bs n₀ cap A zs hreach J Jx hY W hc' (hI.below (hW.mono hn₀)) h0).mono ?_
  rintro e W' ⟨he, ⟨ys, rfl, hj⟩ | ⟨pre, ⟨k, hk, rfl⟩, hj⟩⟩
  · exact ⟨he, .inl ⟨_, rfl, hj⟩⟩
  · exact ⟨he, .inr ⟨_, trivial, hj⟩⟩

/-- The register behind what has come. -/
def regs (y : Nat) (l : List (Nat × UInt8)) : Nat := l.foldl (fun y x => bn 8 y ^^^ x.2.toNat) y
theorem regs_snoc (y : Nat) (l : List (Nat × UInt8)) (x : Nat × UInt8) : regs y (l ++ [x]) = bn 8 (regs y l) ^^^ x.2.toNat := by simp [regs]
theorem regs_lt {y : Nat} (h : y < U32) (l : List (Nat × UInt8)) : regs y l < U32 := by
  induction l generalizing y with
  | nil => exact h
  | cons x l ih => exact ih (xor_lt (bn_lt h 8) (u8_lt x.2))
theorem regs_came (y : Nat) (zs : List UInt8) (k : Nat) (hk : k ≤ zs.length) : regs y (came zs k) = inv y (zs.drop (zs.length - k)) := by
  induction k with
  | zero => simp [came, regs, inv]
  | succ k ih =>
    rw [came_succ, regs_snoc, ih (by omega)]
    have hl : zs.length - 1 - k < zs.length := by omega
    rw [show zs.length - k = zs.length - (k + 1) + 1 by omega]
    conv => rhs; rw [List.drop_eq_getElem_cons (i := zs.length - (k + 1)) (by omega)]
    have e : zs[zs.length - 1 - k]?.getD 0 = zs[zs.length - (k + 1)] := by
      rw [List.getElem?_eq_getElem hl]
      simp only [Option.getD_some]
      congr 1
      omega
    show bn 8 (inv y _) ^^^ (zs[zs.length - 1 - k]?.getD 0).toNat = _
    rw [e]
    rfl
theorem regs_all (y : Nat) (zs : List UInt8) : regs y (came zs zs.length) = inv y zs := by
  rw [regs_came y zs zs.length (Nat.le_refl _)]
  simp

theorem cell_lt {W : World} {b o : Nat} {v : Value} (h : W.cell? ⟨b, o, none⟩ = some v) : b < W.heap.size := by
  rcases Nat.lt_or_ge b W.heap.size with h' | h'
  · exact h'
  · simp [World.cell?, Array.getElem?_eq_none h'] at h
theorem cell_of_box_l {W : World} {B : Nat} {v : Value} {t : TypeId} (h : W.heap[B]? = some (.cells #[v] t (0, 0))) : W.cell? ⟨B, 0, none⟩ = some v ∧ W.frozen? ⟨B, 0, none⟩ = false := by
  constructor <;> simp [World.cell?, World.frozen?, h]
theorem cell_new_l (W : World) (v : Value) (t : TypeId) : (W.alloc (.cells #[v] t)).cell? ⟨W.heap.size, 0, none⟩ = some v ∧ (W.alloc (.cells #[v] t)).frozen? ⟨W.heap.size, 0, none⟩ = false := by
  have h := World.alloc_heap_new W (.cells #[v] t)
  exact cell_of_box_l h
theorem cell_alloc_l {W : World} {a : Addr} {v : Value} (o : Obj) (h : W.cell? a = some v) : (W.alloc o).cell? a = some v := cell_kept h (World.grownBy_alloc W o none) (fun r e => by cases e)
theorem frozen_alloc_l {W : World} {a : Addr} {v : Value} (o : Obj) (h : W.cell? a = some v) (hf : W.frozen? a = false) : (W.alloc o).frozen? a = false := (frozen_kept h (World.grownBy_alloc W o none) (fun r e => by cases e)).trans hf
/-- Four new bytes 0. -/
structure Four (W : World) (g : Nat) : Prop where
  c0 : W.cell? ⟨g, 0, none⟩ = some (.int .u8 0)
  c1 : W.cell? ⟨g, 1, none⟩ = some (.int .u8 0)
  c2 : W.cell? ⟨g, 2, none⟩ = some (.int .u8 0)
  c3 : W.cell? ⟨g, 3, none⟩ = some (.int .u8 0)
  f : ∀ i, W.frozen? ⟨g, i, none⟩ = false
theorem Four.new (W : World) (t : TypeId) : Four (W.alloc (.cells #[.int .u8 0, .int .u8 0, .int .u8 0, .int .u8 0] t)) W.heap.size := by
  have h := Blk.new W t #[.int .u8 0, .int .u8 0, .int .u8 0, .int .u8 0]
  exact ⟨h.cell 0, h.cell 1, h.cell 2, h.cell 3, fun i => h.frozen i⟩
theorem Four.below {W W' : World} {g B : Nat} (h : Four W g) (hb : Below B W W') (hg : g < B) : Four W' g :=
  ⟨(hb.cell (p := ⟨g, 0, none⟩) hg).trans h.c0, (hb.cell (p := ⟨g, 1, none⟩) hg).trans h.c1, (hb.cell (p := ⟨g, 2, none⟩) hg).trans h.c2, (hb.cell (p := ⟨g, 3, none⟩) hg).trans h.c3, fun i => by
    have := hb.block g hg
    have e := h.f i
    unfold World.frozen? at e ⊢
    rw [this]
    exact e⟩
theorem four_far {w : World} {b g : Nat} {v a0 a1 a2 a3 : Value} (h : w.cell? ⟨b, 0, none⟩ = some v) (hn : b ≠ g) : ((((w.setCell ⟨g, 0, none⟩ a0).setCell ⟨g, 1, none⟩ a1).setCell ⟨g, 2, none⟩ a2).setCell ⟨g, 3, none⟩ a3).cell? ⟨b, 0, none⟩ = some v :=
  cell_far (cell_far (cell_far (cell_far h hn _) hn _) hn _) hn _
/-- The four cells behind the store. -/
theorem four_set {w : World} {g : Nat} (h0 : w.cell? ⟨g, 0, none⟩ = some (.int .u8 0)) (h1 : w.cell? ⟨g, 1, none⟩ = some (.int .u8 0)) (h2 : w.cell? ⟨g, 2, none⟩ = some (.int .u8 0)) (h3 : w.cell? ⟨g, 3, none⟩ = some (.int .u8 0)) (a0 a1 a2 a3 : Value) : ∀ j u, ([a0, a1, a2, a3] : List Value)[j]? = some u → ((((w.setCell ⟨g, 0, none⟩ a0).setCell ⟨g, 1, none⟩ a1).setCell ⟨g, 2, none⟩ a2).setCell ⟨g, 3, none⟩ a3).cell? ⟨g, j, none⟩ = some u := by
  have o : ∀ (W : World) (i k : Nat) (a : Value), i ≠ k → (W.setCell ⟨g, k, none⟩ a).cell? ⟨g, i, none⟩ = W.cell? ⟨g, i, none⟩ := fun W i k a hne => World.cell?_setCell_other W ⟨g, k, none⟩ ⟨g, i, none⟩ a (fun e => hne (by cases e; rfl))
  have s : ∀ (W : World) (k : Nat) (a v : Value), W.cell? ⟨g, k, none⟩ = some v → (W.setCell ⟨g, k, none⟩ a).cell? ⟨g, k, none⟩ = some a := fun W k a v h => World.cell?_setCell_same' W ⟨g, k, none⟩ a (by rw [h]; rfl)
  intro j u hu
  match j, hu with
  | 0, hu => cases hu; rw [o _ _ _ _ (by omega), o _ _ _ _ (by omega), o _ _ _ _ (by omega), s _ _ _ _ h0]
  | 1, hu => cases hu; rw [o _ _ _ _ (by omega), o _ _ _ _ (by omega), s _ _ _ (.int .u8 0) (by rw [o _ _ _ _ (by omega)]; exact h1)]
  | 2, hu => cases hu; rw [o _ _ _ _ (by omega), s _ _ _ (.int .u8 0) (by rw [o _ _ _ _ (by omega), o _ _ _ _ (by omega)]; exact h2)]
  | 3, hu => cases hu; rw [s _ _ _ (.int .u8 0) (by rw [o _ _ _ _ (by omega), o _ _ _ _ (by omega), o _ _ _ _ (by omega)]; exact h3)]
  | _ + 4, hu => cases hu
/-- What the tail wants of the world behind the four bytes. -/
structure Tail (w : World) (D G q : Nat) (W : World) : Prop where
  bel : Below w.heap.size w W
  dd : W.heap[D]? = some (.deferred (some []))
  rd : Reads W (G + 1) 1 (some ⟨G, 0, none⟩) 4 ((le4 q).map bv)
  lt : G < W.heap.size
theorem Tail.of_set {w W : World} {D G q : Nat} {a0 a1 a2 a3 : Value} (hb : Below w.heap.size w W) (hd : W.heap[D]? = some (.deferred (some []))) (hg : w.heap.size ≤ G) (hl : G < W.heap.size) (hq : (le4 q).map bv = [a0, a1, a2, a3])
    (h0 : W.cell? ⟨G, 0, none⟩ = some (.int .u8 0)) (h1 : W.cell? ⟨G, 1, none⟩ = some (.int .u8 0)) (h2 : W.cell? ⟨G, 2, none⟩ = some (.int .u8 0)) (h3 : W.cell? ⟨G, 3, none⟩ = some (.int .u8 0)) :
    Tail w D G q ((((W.setCell ⟨G, 0, none⟩ a0).setCell ⟨G, 1, none⟩ a1).setCell ⟨G, 2, none⟩ a2).setCell ⟨G, 3, none⟩ a3) := by
  have hne : ∀ (V : World) (i : Nat) (a : Value), V.heap[D]? = some (.deferred (some [])) → (V.setCell ⟨G, i, none⟩ a).heap[D]? = some (.deferred (some [])) := fun V i a h => (KeepsOthers.setCell V ⟨G, i, none⟩ a).same D _ h rfl
  refine ⟨(((hb.setCell (p := ⟨G, 0, none⟩) hg _).setCell (p := ⟨G, 1, none⟩) hg _).setCell (p := ⟨G, 2, none⟩) hg _).setCell (p := ⟨G, 3, none⟩) hg _, hne _ _ _ (hne _ _ _ (hne _ _ _ (hne _ _ _ hd))), ?_, by simpa [World.setCell] using hl⟩
  rw [hq]
  refine ⟨rfl, fun _ => ⟨_, rfl, Nat.lt_succ_self _, fun j u hu => ?_⟩⟩
  rw [add0, Nat.zero_add]
  exact four_set h0 h1 h2 h3 a0 a1 a2 a3 j u hu
theorem bn_succ' (n a : Nat) : bn (n + 1) a = bk (bn n a) := by rw [Nat.add_comm, bn_add]; rfl

/-- The three parts put side by side, whatever world lies behind the four bytes. -/
theorem tail_concat {w W3 W4 : World} {D G q n c p B zl C' gb : Nat} {A A' : Option Addr} {bs zs : List UInt8} (T1 : Tail w D G q W3) (hr : Reads w B 1 A n (bs.map bv)) (hB : B ≤ w.heap.size) (hn : n ≤ 140737488355328) (hpn : p ≤ n)
    (hz : Reads w w.heap.size 1 A' zl (zs.map bv)) (htot : p + (4 + zl) = n) (hb : Below W3.heap.size W3 W4) (hk : Blk W4 gb 29 #[.slice A p c, .slice (some ⟨G, 0, none⟩) 4 4, .slice A' zl C']) :
    Calls Try.prog 49 #[.slice (some ⟨gb, 0, none⟩) 3 3] W4 fun e w' => ∃ v, e = .returned v ∧ w'.ownsRow w.heap.size 5 1 v n ((bs.take p ++ (le4 q ++ zs)).map bv) ∧ Below w.heap.size w w' ∧ w'.heap[D]? = some (.deferred (some [])) := by
  have hb4 : Below w.heap.size w W4 := T1.bel.trans (hb.mono T1.bel.size)
  have cL : ∀ (i : Nat) (x : Part), [(⟨A, p, c, bs.take p⟩ : Part), ⟨some ⟨G, 0, none⟩, 4, 4, le4 q⟩, ⟨A', zl, C', zs⟩][i]? = some x →
      W4.cell? ⟨gb, i, none⟩ = some (.slice x.A x.n x.c) ∧ Reads W4 W4.heap.size 1 x.A x.n (x.bs.map bv) := by
    intro i x hx
    match i, hx with
    | 0, hx =>
      simp only [List.getElem?_cons_zero, Option.some.injEq] at hx
      subst hx
      exact ⟨hk.cell 0, (((hr.upto_ hpn).below (hb4.mono hB)).more (Nat.le_trans hB hb4.size))⟩
    | 1, hx =>
      simp only [List.getElem?_cons_succ, List.getElem?_cons_zero, Option.some.injEq] at hx
      subst hx
      exact ⟨hk.cell 1, (T1.rd.below (hb.mono (by have := T1.lt; omega))).more (by have := T1.lt; have := hb.size; omega)⟩
    | 2, hx =>
      simp only [List.getElem?_cons_succ, List.getElem?_cons_zero, Option.some.injEq] at hx
      subst hx
      exact ⟨hk.cell 2, (hz.below hb4).more hb4.size⟩
    | i + 3, hx => simp at hx
  have e1 : total [(⟨A, p, c, bs.take p⟩ : Part), ⟨some ⟨G, 0, none⟩, 4, 4, le4 q⟩, ⟨A', zl, C', zs⟩] = n := by simp [total]; omega
  have e2 : joined [(⟨A, p, c, bs.take p⟩ : Part), ⟨some ⟨G, 0, none⟩, 4, 4, le4 q⟩, ⟨A', zl, C', zs⟩] = bs.take p ++ (le4 q ++ zs) := by simp [joined]
  have hC := concat_any [⟨A, p, c, bs.take p⟩, ⟨some ⟨G, 0, none⟩, 4, 4, le4 q⟩, ⟨A', zl, C', zs⟩] gb W4.heap.size W4 (Nat.le_refl _) hk.lt (by simp) (by rw [e1]; exact hn) cL
  rw [e1, e2] at hC
  refine hC.mono ?_
  rintro e w' ⟨v, rfl, ho, hb'⟩
  refine ⟨v, rfl, ho.base hb4.size, hb4.trans (hb'.mono hb4.size), ?_⟩
  have hD : D < W3.heap.size := (Array.getElem?_eq_some_iff.1 T1.dd).1
  rw [hb'.block D (by have := hb.size; omega), hb.block D hD]
  exact T1.dd

theorem done_put {w w5 : World} {D n B : Nat} {e : TypeId} {v : Value} {xs : List Value} (hD : w.heap.size ≤ D) (hd : w5.heap[D]? = some (.deferred (some []))) (ho : w5.ownsRow B e 1 v n xs) (hb : Below w.heap.size w w5) (o : Obj) :
    (w5.putObj D o).ownsRow B e 1 v n xs ∧ Below w.heap.size w (w5.putObj D o) := by
  have hc : Chg w5 (w5.putObj D o) (· = D) := ⟨rfl, rfl, rfl, by simp [World.putObj], fun k _ hn => World.putObj_heap_other hn⟩
  refine ⟨hc.own ho (fun i hi e => ?_), ⟨hb.os, hb.tape, hb.output, by simpa [World.putObj] using hb.size, fun k hk => (World.putObj_heap_other (by omega)).trans (hb.block k hk)⟩⟩
  subst e
  rcases ho.2 with ⟨rfl, _⟩ | ⟨g, cap, cur, rfl, _, hg, _⟩
  · simp [Value.ownBlock] at hi
  · obtain rfl : g = i := by simpa [Value.ownBlock] using hi
    rw [hd] at hg
    cases hg

set_option maxRecDepth 100000 in
set_option maxHeartbeats 2000000 in
theorem forge_any (A : Option Addr) (n c B p x : Nat) (bs : List UInt8) (w : World) (hr : Reads w B 1 A n (bs.map bv)) (hn : n ≤ 140737488355328) (hB : B ≤ w.heap.size) (hx : x < U32) (hcap : n ≤ c) (hp : p + 4 ≤ n) :
    Calls Try.prog 22 #[.slice A n c, .int .i64 (p : Int), .int .u32 (x : Int)] w fun e w' => ∃ v, e = .returned (.tuple #[v, .int .i64 0]) ∧ w'.ownsRow w.heap.size 5 1 v n ((forged bs p x).map bv) ∧ Below w.heap.size w w' := by
  have hlen : bs.length = n := by have := hr.1; simpa using this
  have hBB := hB
  have hd1 : decide ((p : Int) < 0) = false := by simp
  have hd2 : decide ((n : Int) - 4 < (p : Int)) = false := by simp; omega
  have hnot := not_u32 x hx
  obtain ⟨y, hy⟩ : ∃ y, x ^^^ ONES = y := ⟨_, rfl⟩
  rw [hy] at hnot
  have hyl : y < U32 := hy ▸ xor_lt hx ones_lt
  obtain ⟨P4, hP4⟩ : ∃ k, p + 4 = k := ⟨_, rfl⟩
  have hs4 : IntKind.i64.wrap ((p : Int) + 4) = (P4 : Int) := by rw [IntWalk.i64_in _ (by omega)]; omega
  have hn4 : IntKind.i64.wrap ((n : Int) - 4) = (n : Int) - 4 := IntWalk.i64_in _ (by omega)
  have hb1 : (P4 : Int) ≤ (n : Int) := by omega
  have hb2 : (n : Int) ≤ (c : Int) := by omega
  have hb3 : (P4 : Int) ≤ (c : Int) := by omega
  have hb0 : (0 : Int) ≤ (P4 : Int) := by omega
  have hcut := hr.cut (k := P4) (cap := c) (by omega) hcap
  obtain ⟨A', hA'⟩ : ∃ A', (if c = P4 then A else A.map (·.add (P4 * 1))) = A' := ⟨_, rfl⟩
  rw [hA'] at hcut
  obtain ⟨⟨iE, zE, eE1, eE2, eE3, eE4, eE5, eE6⟩, _⟩ := elem_u8
  have hsl := fun W => run_cut eE1 eE2 eE4 A c (k := P4) (n := n) (by omega) W
  rw [hA'] at hsl
  clear eE1 eE2 eE3 eE4 eE5 eE6
  refine (callsIn_wide (n := 3)).1 ?_
  refine callsIn_of_wp_marks Try.func22 rfl trivial ?_ rfl
  simp only [Try.ntmps22, List.size_toArray, List.length_cons, List.length_nil, Nat.reduceAdd, Nat.reduceSub, Array.replicate_succ, Array.replicate_zero, List.push_toArray, List.append_toArray, List.nil_append, List.cons_append]
  gi_wp2_with (refine ⟨trivial, ?_⟩; gi_at_call 45; refine (backward_in _ _ trivial rfl _ _ _ _).mono ?_; rintro e w1 ⟨rfl, rfl⟩)
  obtain ⟨zs, hzs⟩ : ∃ zs, bs.drop P4 = zs := ⟨_, rfl⟩
  have hzl : n - P4 = zs.length := by rw [← hzs, List.length_drop, hlen]
  rw [Nat.mul_one, ← List.map_drop, hzs, hzl] at hcut
  rw [hzl]
  obtain ⟨C', hC'⟩ : ∃ k, c - P4 = k := ⟨_, rfl⟩
  rw [hC']
  simp only [hzl, hC'] at hsl
  have hs := cell_new_l w (.int .u32 (y : Int)) 40
  have hb := cell_new_l (w.alloc (.cells #[.int .u32 (y : Int)] 40)) (.slice A' zs.length C') 29
  rw [World.size_alloc] at hb
  have hB0 : Below w.heap.size w ((w.alloc (.cells #[.int .u32 (y : Int)] 40)).alloc (.cells #[.slice A' zs.length C'] 29)) := ((Below.refl _ w).alloc (Nat.le_refl _) _).alloc (by simp) _
  refine wpIn_rangeFunc_ownF (F := Fence.wide) rfl (by omega) (gf := 56) (lb := #[.pointer (some ⟨w.heap.size + 1, 0, none⟩)]) rfl trivial (enters_of Try.func56 (by kernel_rfl) rfl)
    (backward_stops Fence.wide 2 trivial rfl (by omega) (w.heap.size + 1) w.heap.size C' A' zs (by omega) _ (by simp) (by simp; omega) hb.1 ((hcut.more hB).below hB0)) kpB_t (kpB_b (by simp; omega)) (Below.refl _ _) (fun _ => rfl)
    (fun pre W => (W.cell? ⟨w.heap.size, 0, none⟩ = some (.int .u32 (regs y pre : Nat)) ∧ W.frozen? ⟨w.heap.size, 0, none⟩ = false) ∧ Below w.heap.size w W)
    (fun _ _ _ => False)
    (OwnFrom.and (Own.from (fun s A B row hs hg hr => ⟨cell_kept hs.1 hg hr, (frozen_kept hs.1 hg hr).trans hs.2⟩) _) (ownFrom_below (Nat.le_refl _) (by simp; omega)))
    (fun _ _ _ _ _ hs _ _ => hs)
    ⟨⟨cell_alloc_l _ hs.1, frozen_alloc_l _ hs.1 hs.2⟩, hB0⟩
    (fun x' => { tmps := #[.slice A n c, .int .i64 (p : Int), .int .u32 (x : Int), undef, undef, undef, .slice none 0 0, .int .i64 0, .pointer (some ⟨w.heap.size, 0, none⟩), undef, .int .u8 (x'.2.toNat : Int), undef, .int .i64 (p : Int), .bool false, .bool false, .int .i64 (p : Int), .slice A n c, .int .i64 (n : Int), .int .i64 ((n : Int) - 4), .bool false, .bool false, .int .u32 (x : Int), .int .u32 (y : Int), .slice A n c, .int .i64 (p : Int), .int .i64 (P4 : Int), .slice A' zs.length C', .func (.func 56) #[] #[.pointer (some ⟨w.heap.size + 1, 0, none⟩)], .int .i64 (x'.1 : Int), .int .u8 (x'.2.toNat : Int), undef, undef, undef, undef, undef, undef, undef, undef, undef, undef, undef, undef, undef, undef, undef, undef, undef, undef, undef, undef, undef, undef, undef, undef, undef, undef, undef, undef, undef, undef, undef], defers := [] }) ?assign ?body ?done ?stop
  case assign =>
    intro l x W K hK
    gi_wp2
    exact hK
  case body =>
    rintro l pre x' W ⟨⟨hc, hf⟩, hB⟩ _
    have hl0 := regs_lt hyl pre
    have hsn := regs_snoc y pre x'
    obtain ⟨r0, hr0⟩ : ∃ r, regs y pre = r := ⟨_, rfl⟩
    rw [hr0] at hc hl0 hsn
    gi_wp2
    gi_loopw [30] (fun i wr => ∃ j : Nat, j ≤ 8 ∧ i = .int .i64 (j : Int) ∧ (wr.cell? ⟨w.heap.size, 0, none⟩ = some (.int .u32 (bn j r0 : Nat)) ∧ wr.frozen? ⟨w.heap.size, 0, none⟩ = false) ∧ Below w.heap.size w wr ∧ KeepsOthers W wr ∧ KpB w.heap.size (w.heap.size + 1) W wr)
      (fun i _ => (8 - intOf i).toNat)
    case atStart => exact ⟨0, by omega, rfl, ⟨hc, hf⟩, hB, KeepsOthers.refl _, Below.refl _ _, fun _ h => h⟩
    case round =>
      obtain ⟨j, hj, rfl, ⟨hcj, hfj⟩, hBj, hKj, hPj⟩ := hrel
      by_cases hlt : j < 8
      · have hbl := bn_lt hl0 j
        have hbs := bn_succ' j r0
        obtain ⟨rj, hrj⟩ : ∃ r, bn j r0 = r := ⟨_, rfl⟩
        rw [hrj] at hcj hbl hbs
        gi_wp2_with (refine ⟨trivial, ?_⟩; gi_at_call 46; refine (CallsIn.inRound l (callsIn_wide.2 (back_any rj _ hbl))).mono ?_; rintro e w2 ⟨rfl, rfl⟩)
        go_roundw
        case rel => exact ⟨j + 1, by omega, by simp, ⟨by rw [hbs]; exact World.cell?_setCell_same' _ _ _ (by rw [hcj]; rfl), by rw [World.frozen?_setCell]; exact hfj⟩, hBj.setCell (p := ⟨w.heap.size, 0, none⟩) (Nat.le_refl _) _, hKj.trans (KeepsOthers.setCell _ _ _), kpB_t hPj ⟨(Below.refl _ _).setCell (p := ⟨w.heap.size, 0, none⟩) (Nat.le_refl _) _, fun v hv => by rw [World.cell?_setCell_other _ _ _ _ (by simp)]; exact hv⟩⟩
        case measure => simp [intOf]; omega
      · obtain rfl : j = 8 := by omega
        have hv := xor_u32 (bn 8 r0) x'.2.toNat (bn_lt hl0 8) (u8_lt _)
        rw [← hsn] at hv
        obtain ⟨r8, hr8⟩ : ∃ r, bn 8 r0 = r := ⟨_, rfl⟩
        rw [hr8] at hv hcj
        obtain ⟨r9, hr9⟩ : ∃ r, regs y (pre ++ [x']) = r := ⟨_, rfl⟩
        rw [hr9] at hv
        have hmod : (x'.2.toNat : Int) % 4294967296 = (x'.2.toNat : Int) := by have := x'.2.toNat_lt; omega
        gi_wp2
        exact ⟨hKj.trans (KeepsOthers.setCell _ _ _), kpB_t hPj ⟨(Below.refl _ _).setCell (p := ⟨w.heap.size, 0, none⟩) (Nat.le_refl _) _, fun v hv => by rw [World.cell?_setCell_other _ _ _ _ (by simp)]; exact hv⟩, ⟨by rw [hr9]; exact World.cell?_setCell_same' _ _ _ (by rw [hcj]; rfl), by rw [World.frozen?_setCell]; exact hfj⟩, hBj.setCell (p := ⟨w.heap.size, 0, none⟩) (Nat.le_refl _) _⟩
  case done =>
    rintro D ys W hD rfl ⟨⟨hc, hf⟩, hB⟩ hK
    rw [regs_all] at hc
    obtain ⟨R0, hR0⟩ : ∃ r, inv y zs = r := ⟨_, rfl⟩
    have hRl : R0 < U32 := hR0 ▸ inv_lt hyl zs
    rw [hR0] at hc
    gi_wp2
    gi_loopw [39] (fun i wr => ∃ j : Nat, j ≤ 32 ∧ i = .int .i64 (j : Int) ∧ (wr.cell? ⟨w.heap.size, 0, none⟩ = some (.int .u32 (bn j R0 : Nat)) ∧ wr.frozen? ⟨w.heap.size, 0, none⟩ = false) ∧ Below w.heap.size w wr ∧ wr.heap[D]? = some (.deferred (some [])))
      (fun i _ => (32 - intOf i).toNat)
    case atStart => exact ⟨0, by omega, rfl, ⟨hc, hf⟩, hB, hK⟩
    case round =>
      obtain ⟨j, hj, rfl, ⟨hcj, hfj⟩, hBj, hKj⟩ := hrel
      by_cases hlt : j < 32
      · have hbl := bn_lt hRl j
        have hbs := bn_succ' j R0
        obtain ⟨rj, hrj⟩ : ∃ r, bn j R0 = r := ⟨_, rfl⟩
        rw [hrj] at hcj hbl hbs
        gi_wp2_with (refine ⟨trivial, ?_⟩; gi_at_call 46; refine (callsIn_wide.2 (back_any rj _ hbl)).mono ?_; rintro e w2 ⟨rfl, rfl⟩)
        go_roundw
        case rel => exact ⟨j + 1, by omega, by simp, ⟨by rw [hbs]; exact World.cell?_setCell_same' _ _ _ (by rw [hcj]; rfl), by rw [World.frozen?_setCell]; exact hfj⟩, hBj.setCell (p := ⟨w.heap.size, 0, none⟩) (Nat.le_refl _) _, (KeepsOthers.setCell _ _ _).same D _ hKj rfl⟩
        case measure => simp [intOf]; omega
      · obtain rfl : j = 32 := by omega
        obtain ⟨R, hR⟩ : ∃ r, bn 32 R0 = r := ⟨_, rfl⟩
        rw [hR] at hcj
        gi_wp2
        obtain ⟨T, hT⟩ : ∃ r, crc ONES (bs.take p) = r := ⟨_, rfl⟩
        have hTl : T < U32 := hT ▸ crc_lt ones_lt _
        have hTk : ∀ w', Below wr.heap.size wr w' → Hid (Calls Try.prog 48 #[.int .u32 4294967295, .slice A p c] w' fun e w2 => e = .returned (.int .u32 (T : Int)) ∧ Below w'.heap.size w' w2) := fun w' h => hide <| by
          have h2 := hBj.trans (h.mono hBj.size)
          have := take_any ONES (bs.take p) A p c B w' ones_lt ((hr.below (h2.mono hBB)).upto_ (by omega)) (by omega) (Nat.le_trans hBB h2.size)
          rw [hT] at this
          exact this
        have hxq := xor_u32 R T (hR ▸ bn_lt hRl 32) hTl
        obtain ⟨q, hq⟩ : ∃ q, R ^^^ T = q := ⟨_, rfl⟩
        rw [hq] at hxq
        have hBy := fun w => hide (bytes_any q w)
        obtain ⟨x0, x1, x2, x3, hx4⟩ := le4c_lit q
        rw [hx4] at hBy
        have hbs0 : w.heap.size < wr.heap.size := cell_lt hcj
        have HBj := hide hBj
        have HKj := hide hKj
        have HQX : Hid ((le4 q).map bv = [.int .u8 x0, .int .u8 x1, .int .u8 x2, .int .u8 x3]) := by show _ = _; rw [← le4c_list, hx4]
        have hn0 : w.heap.size ≠ wr.heap.size := by omega
        have hp0 : (0 : Int) ≤ (p : Int) := by omega
        have hp1 : (p : Int) ≤ (c : Int) := by omega
        clear hBj hKj
        refine wpIn_wide.2 ?_
        go_region_held3 (fun w' => w'.cell? ⟨w.heap.size, 0, none⟩ = some (.int .u32 (R : Int))) (first | go_keep | exact four_far d2 hn1 | exact four_far d2 hn0) ((first
          | (go_at_call 48; refine (unhide (hTk _ (by first | exact below_drewN (Below.refl _ _) 1 | exact (below_drewN (Below.refl _ _) 1).alloc (Nat.le_refl _) _))).mono ?_; rintro e w1 ⟨rfl, hb1⟩
             have d1 : w1.cell? ⟨w.heap.size, 0, none⟩ = some (.int .u32 (R : Int)) := (hb1.cell (p := ⟨w.heap.size, 0, none⟩) (by first | exact hbs0 | (simp; omega))).trans (by first | exact hcj | exact cell_alloc_l _ hcj)
             have HB1 := hide hb1
             have hz1 := hb1.size
             have hn1 : w.heap.size ≠ w1.heap.size := by (first | (simp at hz1; omega) | (have := hz1; simp at this; omega))
             first
               | (have F1 : Four w1 wr.heap.size := (Four.new wr.drew 60).below hb1 (by simp)
                  have hzf : wr.heap.size < w1.heap.size := by (simp at hz1; omega))
               | skip
             clear hb1)
          | (go_at_call 47; refine (unhide (hBy _)).mono ?_; rintro e w2 ⟨rfl, hb2⟩
             have d2 : w2.cell? ⟨w.heap.size, 0, none⟩ = some (.int .u32 (R : Int)) := (hb2.cell (p := ⟨w.heap.size, 0, none⟩) (by first | exact Nat.lt_of_lt_of_le hbs0 hz1 | (simp at hz1 ⊢; omega))).trans (by first | exact d1 | exact cell_alloc_l _ d1)
             have HB2 := hide hb2
             first
               | (obtain ⟨m0, m1, m2, m3, mf⟩ := (Four.new w1 60).below hb2 (by simp)
                  have mf0 := mf 0; have mf1 := mf 1; have mf2 := mf 2; have mf3 := mf 3; clear mf)
               | (obtain ⟨m0, m1, m2, m3, mf⟩ := F1.below hb2 hzf
                  have mf0 := mf 0; have mf1 := mf 1; have mf2 := mf 2; have mf3 := mf 3; clear mf F1)
               | skip
             clear hb2)))
        focus
          have hb : Below wr.heap.size wr w2 := Below.trans (b := wr.drew) (below_drewN (Below.refl _ _) 1) ((unhide HB1).trans ((unhide HB2).mono hz1))
          have T1 : Tail w D w2.heap.size q (w2.alloc (.cells #[.int .u8 x0, .int .u8 x1, .int .u8 x2, .int .u8 x3] 60)) := by
            have hb' := (unhide HBj).trans (hb.mono (unhide HBj).size)
            refine ⟨hb'.alloc hb'.size _, ?_, reads_lit w2 _ rfl _ _ 4 rfl _ (by rw [HQX.out]), by simp⟩
            have hDl := (Array.getElem?_eq_some_iff.1 (unhide HKj)).1
            have e := hb.block D hDl
            exact (Below.heap_alloc w2 _ D (by have := hb.size; omega)).trans (e.trans (unhide HKj))
          obtain ⟨G, hG⟩ : ∃ G, w2.heap.size = G := ⟨_, rfl⟩
          obtain ⟨W3, hW3⟩ : ∃ W3, w2.alloc (.cells #[.int .u8 x0, .int .u8 x1, .int .u8 x2, .int .u8 x3] 60) = W3 := ⟨_, rfl⟩
          rw [hG, hW3] at T1
          rw [hG, hW3]
        rotate_left
        focus
          have hb : Below wr.heap.size wr w2 := Below.trans (b := wr.drew) (below_drewN (Below.refl _ _) 1) ((unhide HB1).trans (((Below.refl _ _).alloc (Nat.le_refl _) _ |>.trans ((unhide HB2).mono (by simp))).mono hz1))
          have T1 : Tail w D w1.heap.size q ((((w2.setCell ⟨w1.heap.size, 0, none⟩ (.int .u8 x0)).setCell ⟨w1.heap.size, 1, none⟩ (.int .u8 x1)).setCell ⟨w1.heap.size, 2, none⟩ (.int .u8 x2)).setCell ⟨w1.heap.size, 3, none⟩ (.int .u8 x3)) := by
            have hb' := (unhide HBj).trans (hb.mono (unhide HBj).size)
            have hz2 := (unhide HB2).size
            simp at hz1 hz2
            exact Tail.of_set hb' ((hb.block D (Array.getElem?_eq_some_iff.1 (unhide HKj)).1).trans (unhide HKj)) (by have := (unhide HBj).size; omega) (by omega) HQX.out m0 m1 m2 m3
          obtain ⟨G, hG⟩ : ∃ G, w1.heap.size = G := ⟨_, rfl⟩
          rw [hG] at T1
          rw [hG]
          obtain ⟨W3, hW3⟩ : ∃ W3, ((((w2.setCell ⟨G, 0, none⟩ (.int .u8 x0)).setCell ⟨G, 1, none⟩ (.int .u8 x1)).setCell ⟨G, 2, none⟩ (.int .u8 x2)).setCell ⟨G, 3, none⟩ (.int .u8 x3)) = W3 := ⟨_, rfl⟩
          rw [hW3] at T1
          rw [hW3]
        rotate_left
        focus
          have ha : Below wr.heap.size wr.drew (wr.drew.alloc (.cells #[.int .u8 0, .int .u8 0, .int .u8 0, .int .u8 0] 60)) := (Below.refl _ wr.drew).alloc (Nat.le_refl _) _
          have hb : Below wr.heap.size wr w2 := Below.trans (b := wr.drew) (below_drewN (Below.refl _ _) 1) (ha.trans (((unhide HB1).trans ((unhide HB2).mono hz1)).mono (by simp)))
          have T1 : Tail w D wr.heap.size q ((((w2.setCell ⟨wr.heap.size, 0, none⟩ (.int .u8 x0)).setCell ⟨wr.heap.size, 1, none⟩ (.int .u8 x1)).setCell ⟨wr.heap.size, 2, none⟩ (.int .u8 x2)).setCell ⟨wr.heap.size, 3, none⟩ (.int .u8 x3)) := by
            have hb' := (unhide HBj).trans (hb.mono (unhide HBj).size)
            have hz2 := (unhide HB2).size
            simp at hz1 hz2
            exact Tail.of_set hb' ((hb.block D (Array.getElem?_eq_some_iff.1 (unhide HKj)).1).trans (unhide HKj)) (by have := (unhide HBj).size; omega) (by omega) HQX.out m0 m1 m2 m3
          obtain ⟨G, hG⟩ : ∃ G, wr.heap.size = G := ⟨_, rfl⟩
          rw [hG] at T1
          rw [hG]
          obtain ⟨W3, hW3⟩ : ∃ W3, ((((w2.setCell ⟨G, 0, none⟩ (.int .u8 x0)).setCell ⟨G, 1, none⟩ (.int .u8 x1)).setCell ⟨G, 2, none⟩ (.int .u8 x2)).setCell ⟨G, 3, none⟩ (.int .u8 x3)) = W3 := ⟨_, rfl⟩
          rw [hW3] at T1
          rw [hW3]
        all_goals
          gi_wp2
          have hC4 : ∀ W4 gb, Below W3.heap.size W3 W4 → Blk W4 gb 29 #[.slice A p c, .slice (some ⟨G, 0, none⟩) 4 4, .slice A' zs.length C'] → Hid (Calls Try.prog 49 #[.slice (some ⟨gb, 0, none⟩) 3 3] W4 fun e w' => ∃ v, e = .returned v ∧ w'.ownsRow w.heap.size 5 1 v n ((bs.take p ++ (le4 q ++ zs)).map bv) ∧ Below w.heap.size w w' ∧ w'.heap[D]? = some (.deferred (some []))) :=
            fun W4 gb h1 h2 => hide (tail_concat T1 hr hBB hn (by omega) (hcut.more hBB) (by omega) h1 h2)
          clear hBy hTk hW3 HBj HKj HB1 HB2 hb
          refine wpIn_wide.2 ?_
          go_region_held3 (fun w' => True) (trivial) ((first
            | (go_at_call 49; refine (unhide (hC4 _ _ ?_ ?_)).mono ?_; exact ((Below.refl _ _).alloc (Nat.le_refl _) _).drew; exact (Blk.new _ _ _).drew; rintro e w5 ⟨v5, rfl, ho5, hb5, hd5⟩)))
          gi_wp2
          refine ⟨by simp, .inl ⟨_, _, rfl, run_takeDeferred hd5, ?_⟩⟩
          have hfin := done_put (by simp at hD; omega) hd5 ho5 hb5 (.deferred none)
          have hfg : forged bs p x = bs.take p ++ (le4 q ++ zs) := by
            unfold forged at4 fq
            rw [hP4, hzs, hy, hR0, hR, hT, hq]
          rw [hfg]
          exact ⟨.tuple #[v5, .int .i64 0], by simp [results, Try.results22, go_sem], v5, rfl, hfin.1, hfin.2⟩
  case stop =>
    rintro D c pre W _ _ h _
    exact h.elim
end Go.Proofs.Ytoipkpndfgcmcaa

/-
  What is left of CheckKnown behind its drawn region, walked alone: the examples of Forge and of no stream. The conditions stand in each theorem.
-/
namespace Go.Proofs.Ytoipkpndfgcmcaa.Crew
open Go Go.RowKit
set_option linter.unusedVariables false
set_option linter.unusedSimpArgs false
theorem forge_bad (A : Option Addr) (n c x : Nat) (k : Int) (w : World) (hn : n ≤ 140737488355328) (h2 : k ≤ 9223372036854775807) (hk : k < 0 ∨ (n : Int) - 4 < k) :
    Calls Try.prog 22 #[.slice A n c, .int .i64 k, .int .u32 (x : Int)] w fun e w' => e = .returned (.tuple #[.slice none 0 0, .int .i64 2]) ∧ w = w' := by
  by_cases h : k < 0
  · go_enter Try.func22, Try.ntmps22
    go_wp2
    go_ret2
    exact ⟨rfl, rfl⟩
  · have h' : (n : Int) - 4 < k := by omega
    have h0 : 0 ≤ k := by omega
    go_enter Try.func22, Try.ntmps22
    go_wp2
    go_ret2
    exact ⟨rfl, rfl⟩
theorem forged_4 : forged [0, 0, 0, 0] 0 4294967295 = [255, 255, 255, 255] := by decide +kernel
theorem reads_row (w : World) (t : TypeId) (xs : List UInt8) (n : Nat) (hn : xs.length = n) : Reads (w.alloc (.cells (xs.map bv).toArray t)) (w.heap.size + 1) 1 (some ⟨w.heap.size, 0, none⟩) n (xs.map bv) := by
  have hk : Blk (w.alloc (.cells (xs.map bv).toArray t)) w.heap.size t (xs.map bv).toArray := Blk.new _ _ _
  refine ⟨by simp [hn], fun h => ⟨_, rfl, by simp, fun j u hu => ?_⟩⟩
  have := hk.cell j
  rw [show (⟨w.heap.size, 0, none⟩ : Addr).add j = ⟨w.heap.size, j, none⟩ from by cases j <;> simp [Addr.add]]
  rw [this]
  simpa using hu
theorem reads_row4 (w : World) : Reads (w.alloc (.cells #[.int .u8 0, .int .u8 0, .int .u8 0, .int .u8 0] 5)) (w.heap.size + 1) 1 (some ⟨w.heap.size, 0, none⟩) 4 (([0, 0, 0, 0] : List UInt8).map bv) := reads_row w _ [0, 0, 0, 0] 4 rfl
theorem reads_row255 (w : World) : Reads (w.alloc (.cells #[.int .u8 255, .int .u8 255, .int .u8 255, .int .u8 255] 5)) (w.heap.size + 1) 1 (some ⟨w.heap.size, 0, none⟩) 4 (([255, 255, 255, 255] : List UInt8).map bv) := reads_row w _ [255, 255, 255, 255] 4 rfl
set_option maxRecDepth 100000 in
set_option maxHeartbeats 4000000 in
theorem kn_rest (v : World) (T : Array Value) (hT : T.size = 158) :
    (R7of (bodyOf Try.f12)).wp Try.prog (bodyPost Try.prog Try.f12 fun e w' => e = .returned (.bool true) ∧ Below v.heap.size v w') { tmps := T, defers := [] } v := by
  obtain ⟨g, rfl, hg⟩ := array_lit T 158 hT
  have HB0 := hide (Below.refl v.heap.size v)
  have HE0 : ∀ w, Hid (Calls Try.prog 22 #[.slice none 0 0, .int .i64 0, .int .u32 0] w fun e w' => e = .returned (.tuple #[.slice none 0 0, .int .i64 2]) ∧ w = w') := fun w => hide (forge_bad none 0 0 0 0 w (by omega) (by omega) (by omega))
  have HE2 : ∀ w A, Hid (Calls Try.prog 22 #[.slice A 5 5, .int .i64 2, .int .u32 1] w fun e w' => e = .returned (.tuple #[.slice none 0 0, .int .i64 2]) ∧ w = w') := fun w A => hide (forge_bad A 5 5 1 2 w (by omega) (by omega) (by omega))
  have HE1 : ∀ w A, Hid (Calls Try.prog 22 #[.slice A 5 5, .int .i64 (-1), .int .u32 1] w fun e w' => e = .returned (.tuple #[.slice none 0 0, .int .i64 2]) ∧ w = w') := fun w A => hide (forge_bad A 5 5 1 (-1) w (by omega) (by omega) (by omega))
  have HF : ∀ w' : World, Hid (Calls Try.prog 22 #[.slice (some ⟨w'.heap.size, 0, none⟩) 4 4, .int .i64 0, .int .u32 4294967295] (w'.alloc (.cells #[.int .u8 0, .int .u8 0, .int .u8 0, .int .u8 0] 5)) fun e w2 => ∃ A c, e = .returned (.tuple #[.slice A 4 c, .int .i64 0]) ∧ Reads w2 w2.heap.size 1 A 4 (([255, 255, 255, 255] : List UInt8).map bv) ∧ Below w'.heap.size w' w2) := fun w' => hide <|
    (forge_any (some ⟨w'.heap.size, 0, none⟩) 4 4 (w'.heap.size + 1) 0 4294967295 [0, 0, 0, 0] _ (reads_row4 w') (by omega) (by simp) (by decide) (by omega) (by omega)).mono fun e w2 ⟨u, h1, h2, h3⟩ => by
      rw [forged_4] at h2
      obtain ⟨A, c, rfl⟩ := h2.shape
      exact ⟨A, c, h1, Reads.of_own h2, ((Below.refl _ _).alloc (Nat.le_refl _) _).trans (h3.mono (by simp))⟩
  have hm4 : ∀ W, (Instr.makeSlice 29 (.int .i64 4) (.int .i64 4)).run Try.prog W = .ok (.slice (some ⟨W.heap.size, 0, none⟩) 4 4) (W.alloc (.cells #[.int .u8 0, .int .u8 0, .int .u8 0, .int .u8 0] 5)) := fun W => by kernel_rfl
  have hm5 : ∀ W, (Instr.makeSlice 29 (.int .i64 5) (.int .i64 5)).run Try.prog W = .ok (.slice (some ⟨W.heap.size, 0, none⟩) 5 5) (W.alloc (.cells #[.int .u8 0, .int .u8 0, .int .u8 0, .int .u8 0, .int .u8 0] 5)) := fun W => by kernel_rfl
  have HN := fun x w => hide (num_any x w)
  have HNi := fun w => hide (nine_any w)
  have HSu := fun w => hide (stSum_nil w)
  have HLe := fun w => hide (stLen_nil w)
  have HW := fun A n c w => hide (stWrite_nil A n c w)
  clear hT hg
  simp only [R7of, seqTails, seqTail, bodyOf, Try.f12, Option.getD_some, List.range, List.range.loop, List.map_cons, List.map_nil]
  go_wp2_with (go_at_call 22; (with_reducible refine (unhide (HE0 _)).mono ?_); rintro e w1 ⟨rfl, rfl⟩)
  go_wp2_with (go_at_call 22; (with_reducible refine (unhide (HF v)).mono ?_); rintro e w1 ⟨A, c, rfl, hr1, hb1⟩)
  have HR1 := hide hr1
  have HB1 := hide hb1
  clear hr1 hb1 HF
  go_wp2_with (go_at_call 22; (with_reducible refine (unhide (HE2 _ _)).mono ?_); rintro e w2 ⟨rfl, rfl⟩)
  go_wp2_with (go_at_call 22; (with_reducible refine (unhide (HE1 _ _)).mono ?_); rintro e w2 ⟨rfl, rfl⟩)
  go_wp2_with (go_at_call 41; (with_reducible refine (unhide (HNi _)).mono ?_); rintro e w2 ⟨rfl, _, hb2, _⟩)
  have HB2 : Hid (Below w1.heap.size w1 w2) := hide ((((Below.refl _ _).alloc (Nat.le_refl _) _).alloc (by simp) _).trans (hb2.mono (by simp; omega)))
  clear hb2
  have HS : ∀ gb, gb = w2.heap.size → Hid (Calls Try.prog 23 #[.slice A 4 c, .slice (some ⟨gb, 0, none⟩) 4 4] (w2.alloc (.cells #[.int .u8 255, .int .u8 255, .int .u8 255, .int .u8 255] 5)) fun e w3 => e = .returned (.bool true) ∧ Below w1.heap.size w1 w3) := fun gb e => hide <| by
    subst e
    have h1 : Below w1.heap.size w1 (w2.alloc (.cells #[.int .u8 255, .int .u8 255, .int .u8 255, .int .u8 255] 5)) := (unhide HB2).alloc (unhide HB2).size _
    refine (same_any A (some ⟨w2.heap.size, 0, none⟩) 4 c 4 4 [255, 255, 255, 255] [255, 255, 255, 255] _ (w2.heap.size + 1) (((unhide HR1).below h1).more (by have := (unhide HB2).size; omega)) (reads_row255 w2) (by omega) (by simp)).mono fun e w3 ⟨h2, h3⟩ => ⟨by rw [h2]; rfl, h1.trans (h3.mono (by have := (unhide HB2).size; simp; omega))⟩
  go_wp2_with (go_at_call 18; (with_reducible refine (unhide (HW _ _ _ _)).mono ?_); rintro e w3 ⟨rfl, rfl⟩)
  go_wp2_with (go_at_call 19; (with_reducible refine (unhide (HN _ _)).mono ?_); rintro e w3 ⟨rfl, rfl⟩)
  go_wp2_with (go_at_call 19; (with_reducible refine (unhide (HN _ _)).mono ?_); rintro e w3 ⟨rfl, rfl⟩)
  go_wp2_with (go_at_call 23; (with_reducible refine (unhide (HS _ rfl)).mono ?_); rintro e w4 ⟨rfl, hb4⟩)
  have HB4 := hide hb4
  clear hb4
  go_wp2_with (go_at_call 19; (with_reducible refine (unhide (HN _ _)).mono ?_); rintro e w3 ⟨rfl, rfl⟩)
  go_wp2_with (go_at_call 19; (with_reducible refine (unhide (HN _ _)).mono ?_); rintro e w3 ⟨rfl, rfl⟩)
  go_wp2_with (go_at_call 19; (with_reducible refine (unhide (HN _ _)).mono ?_); rintro e w3 ⟨rfl, rfl⟩)
  go_wp2_with (go_at_call 39; (with_reducible refine (unhide (HSu _)).mono ?_); rintro e w5 ⟨rfl, rfl⟩)
  go_wp2_with (go_at_call 40; (with_reducible refine (unhide (HLe _)).mono ?_); rintro e w5 ⟨rfl, rfl⟩)
  go_ret
  exact ⟨rfl, (unhide HB1).trans ((unhide HB4).mono (unhide HB1).size)⟩
end Go.Proofs.Ytoipkpndfgcmcaa.Crew

/-
  A calm run of which the known bound of made rows lies below the world's own size. The conditions stand in each theorem.
-/
namespace Go.Proofs.Ytoipkpndfgcmcaa.Veils
open Go Go.Conc
set_option linter.unusedVariables false
section
variable {P : Program} {F : FuncId → Bool} {X : Nat → Prop}
theorem seq_runs_at (hF : FnsCalm P F) {D : World → World → Array Event → Prop} {Stop : Goroutine → World → Prop} {Fin : Frame → World → Prop} {fr0 : Frame} (cs : List Frame) {w0 : World} {B : Nat} (hXB : ∀ b, X b → b < B) (hB0 : B ≤ w0.heap.size)
    (hc : FrCalm P F B fr0) (hm : ModeOk fr0) (hX : Rows X w0)
    (hlone : ∀ t, ∃ N fr v', runN P N (lone fr0 [pit] { veilW X w0 with tape := t, drawn := 0 }) = .next (lone fr [pit] v') ∧ fr.mode = .returning ∧ Fin fr v')
    (hD : ∀ (w w' : World) (es : Array Event), (∀ b, X b → w'.heap[b]? = w.heap[b]?) → w'.tape = w.tape → w.heap.size ≤ w'.heap.size → (∀ e ∈ es, FineE X w'.heap.size e) → D w w' es)
    (hStop : ∀ fr v' w', Fin fr v' → fr.mode = .returning → v'.heap = (veilW X w').heap → v'.os = w'.os → v'.output = w'.output → Keep X w0 w' → w'.tape = w0.tape → Stop (G fr cs) w') :
    Runs P D Stop (G fr0 cs) w0 := by
  classical
  have htip : ∀ pl : List Frame, tip [] pl = [] := fun pl => by cases pl <;> rfl
  have hext : ∀ pl : List Frame, ext [] pl = pl := fun pl => by
    induction pl with
    | nil => rfl
    | cons c l ih => rw [ext, htip, plus_nil, ih]
  have cfg_nil : ∀ (fr : Frame) (pl cs : List Frame), cfg [] fr pl cs = G fr (pl ++ cs) := fun fr pl cs => by
    rw [cfg, htip, hext, plus_nil]
  refine Classical.byContradiction fun hbad => ?_
  let good : St → Prop := fun s => OkSt P F B (kinds fr0) s.fr s.pl ∧ ¬ Runs P D Stop (G s.fr (s.pl ++ cs)) s.w
  have hex : ∀ s : St, good s → ∃ d, ¬ ∃ g' w' es, stepG P true (G s.fr (s.pl ++ cs)) (s.w.at d) = .go g' w' es ∧ D (s.w.at d) w' es ∧ Runs P D Stop g' w' := fun s hs =>
    Classical.byContradiction fun hn => hs.2 (Runs.of_step rfl fun d => Classical.byContradiction fun h => hn ⟨d, h⟩)
  let dd : St → Nat := fun s => if h : good s then Classical.choose (hex s h) else 0
  have hdd : ∀ s, good s → ¬ ∃ g' w' es, stepG P true (G s.fr (s.pl ++ cs)) (s.w.at (dd s)) = .go g' w' es ∧ D (s.w.at (dd s)) w' es ∧ Runs P D Stop g' w' := fun s hs => by
    have : dd s = Classical.choose (hex s hs) := dif_pos hs
    rw [this]
    exact Classical.choose_spec (hex s hs)
  let nxt : St → St → Prop := fun s s' => ∃ es, stepG P true (G s.fr (s.pl ++ cs)) (s.w.at (dd s)) = .go (G s'.fr (s'.pl ++ cs)) s'.w es
  have huni : ∀ s a b, nxt s a → nxt s b → a = b := fun s a b ⟨e1, h1⟩ ⟨e2, h2⟩ => by
    rw [h1] at h2
    injection h2 with h3 h4
    obtain ⟨x, y⟩ := G_inj h3
    cases a; cases b
    simp only at x y h4
    subst x y h4
    rfl
  let nx : St → St := fun s => if h : ∃ s', nxt s s' then Classical.choose h else s
  have hnx : ∀ s s', nxt s s' → nx s = s' := fun s s' h => by
    have he : ∃ s', nxt s s' := ⟨s', h⟩
    have : nx s = Classical.choose he := dif_pos he
    rw [this]
    exact huni s _ _ (Classical.choose_spec he) h
  let S : Nat → St := fun i => Nat.rec ⟨fr0, [], w0⟩ (fun _ s => nx s) i
  have hS0 : S 0 = ⟨fr0, [], w0⟩ := rfl
  have hSs : ∀ i, S (i + 1) = nx (S i) := fun i => rfl
  let mm : St → Nat := fun s => gaft (stepG P true (G s.fr (s.pl ++ [pit])) (veilW X (s.w.at (dd s)))) - dd s
  let pos : Nat → Nat := fun i => Nat.rec 0 (fun k p => p + mm (S k)) i
  have hp0 : pos 0 = 0 := rfl
  have hps : ∀ i, pos (i + 1) = pos i + mm (S i) := fun i => rfl
  have hmono : ∀ i k, i ≤ k → pos i ≤ pos k := fun i k h => by
    induction h with
    | refl => exact Nat.le_refl _
    | step h ih => exact Nat.le_trans ih (by rw [hps]; exact Nat.le_add_right _ _)
  let τ : Nat → Question → Nat := fun x q => if h : ∃ i, pos i ≤ x ∧ x < pos (i + 1) then (S (Classical.choose h)).w.tape (dd (S (Classical.choose h)) + (x - pos (Classical.choose h))) q else 0
  have hτ : ∀ i j q, j < mm (S i) → τ (pos i + j) q = (S i).w.tape (dd (S i) + j) q := fun i j q hj => by
    have h : ∃ k, pos k ≤ pos i + j ∧ pos i + j < pos (k + 1) := ⟨i, Nat.le_add_right _ _, by rw [hps]; omega⟩
    have e : τ (pos i + j) q = (S (Classical.choose h)).w.tape (dd (S (Classical.choose h)) + (pos i + j - pos (Classical.choose h))) q := dif_pos h
    obtain ⟨h1, h2⟩ := Classical.choose_spec h
    have hk : Classical.choose h = i := by
      rcases Nat.lt_trichotomy (Classical.choose h) i with hlt | heq | hgt
      · have h3 : pos (Classical.choose h + 1) ≤ pos i := hmono _ _ hlt
        omega
      · exact heq
      · have h3 : pos (i + 1) ≤ pos (Classical.choose h) := hmono _ _ hgt
        rw [hps] at h3
        omega
    rw [e, hk, Nat.add_sub_cancel_left]
  obtain ⟨N, frN, vN, hrun, hmN, hfin⟩ := hlone τ
  have claim : ∀ i, i ≤ N → ∃ v, runN P i (lone fr0 [pit] { veilW X w0 with tape := τ, drawn := 0 }) = .next (lone (S i).fr ((S i).pl ++ [pit]) v) ∧ good (S i) ∧ (v.heap = (veilW X (S i).w).heap ∧ v.os = (S i).w.os ∧ v.output = (S i).w.output ∧ Rows X (S i).w ∧ B ≤ (S i).w.heap.size) ∧ v.drawn = pos i ∧ v.tape = τ ∧ Keep X w0 (S i).w ∧ (S i).w.tape = w0.tape := by
    intro i
    induction i with
    | zero =>
      intro _
      refine ⟨{ veilW X w0 with tape := τ, drawn := 0 }, rfl, ⟨⟨hc, hm, (fun c hc => by cases hc), rfl⟩, hbad⟩, ⟨rfl, rfl, rfl, hX, hB0⟩, rfl, rfl, Keep.refl _ _, rfl⟩
    | succ i ih =>
      intro hi
      obtain ⟨v, hr, hg, hv, hdr, htp, hkeep, htw⟩ := ih (by omega)
      obtain ⟨hok1, hnr⟩ := hg
      have hrest : ∃ n, N = i + (n + 1) := ⟨N - i - 1, by omega⟩
      obtain ⟨n, hn⟩ := hrest
      have hrun2 : runN P (n + 1) (lone (S i).fr ((S i).pl ++ [pit]) v) = .next (lone frN [pit] vN) := by
        have := hrun
        rw [hn, runN_add, hr] at this
        exact this
      have hhome : Home (lone frN [pit] vN) := ⟨frN, vN, rfl, fun ch => by rw [hmN]; simp⟩
      have hgo : ∀ {g' : Frame} {cs' : List Frame} {v' : World} {es : Array Event}, stepG P true (G (S i).fr ((S i).pl ++ [pit])) v = .go (G g' cs') v' es → step P (lone (S i).fr ((S i).pl ++ [pit]) v) = .next (lone g' cs' v') := fun h => step_lone_go (by
        have : stepG P true { frame := (S i).fr, callers := (S i).pl ++ [pit], status := .running, dying := none } v = _ := h
        rw [this]
        rfl)
      obtain ⟨hv1, hv2, hv3, hv4, hv5⟩ := hv
      have hX' : Rows X ((S i).w.at (dd (S i))) := hv4
      have hps0 := pair_step hF hok1 hXB [] [] (.inr ⟨rfl, rfl⟩) (fun id => rfl) cs v ((S i).w.at (dd (S i))) hX' hv5 hv1 hv2 hv3
      simp only [cfg_nil, hext] at hps0
      rcases hps0 (fun j q hj => by
          rw [htp, hdr]
          exact hτ i j q (by
            show j < gaft _ - dd (S i)
            have hj : dd (S i) + j < gaft (stepG P true (G (S i).fr ((S i).pl ++ [pit])) (veilW X ((S i).w.at (dd (S i))))) := hj
            omega)) with ⟨fr', pl', v', es', hst, hok', w', es, hreal, hq1, hq2, hq3, hk', hd', ht1, ht2, hge, hsz, hfine, hgf⟩ | ⟨hpl0, x, v', es', hst⟩ | ⟨fp, ch, v', es', hst, hnv', hfp, hmk⟩ | ⟨o, v', es', hst⟩
      · skip
        have hnext : S (i + 1) = ⟨fr', pl', w'⟩ := by rw [hSs]; exact hnx _ _ ⟨es, hreal⟩
        have hDD : D ((S i).w.at (dd (S i))) w' es := hD _ _ _ (fun b hb => hk'.same b (.inl hb)) ht2 hsz hfine
        have hnr' : ¬ Runs P D Stop (G fr' (pl' ++ cs)) w' := fun h => hdd (S i) ⟨hok1, hnr⟩ ⟨_, _, _, hreal, hDD, h⟩
        have hmm : mm (S i) + dd (S i) = w'.drawn := by
          show gaft _ - dd (S i) + dd (S i) = w'.drawn
          rw [hgf]
          have hge : dd (S i) ≤ w'.drawn := hge
          omega
        refine ⟨v', ?_, by rw [hnext]; exact ⟨hok', hnr'⟩, by rw [hnext]; exact ⟨hq1, hq2, hq3, hX'.keep fun b hb => hk'.same b (.inl hb), Nat.le_trans hv5 hsz⟩, ?_, ht1.trans htp, by rw [hnext]; exact hkeep.trans ⟨hk'.same, hk'.back⟩, by rw [hnext]; exact ht2.trans htw⟩
        · rw [runN_add, hr, hnext]
          show runN P 1 _ = _
          unfold runN
          rw [hgo hst]
          rfl
        · rw [hps, ← hdr]
          have hd' : w'.drawn + v.drawn = v'.drawn + dd (S i) := hd'
          omega
      · have hst2 := hgo (g' := pit.finish x) (cs' := []) hst
        rw [pit_finish] at hst2
        exact absurd hhome (pit_away n v' _ (runN_next hst2 hrun2))
      · exact absurd hhome (panic_away n (S i).pl { fp with mode := .panicking ch } ch v' _ rfl hmk hnv' hfp hok1.waits (runN_next (hgo hst) hrun2))
      · have hst2 : step P (lone (S i).fr ((S i).pl ++ [pit]) v) = .ended o v' := step_lone_ended (by
          have : stepG P true { frame := (S i).fr, callers := (S i).pl ++ [pit], status := .running, dying := none } v = _ := hst
          rw [this]
          rfl)
        exact absurd hrun2 (runN_ended hst2 n _)
  obtain ⟨v, hr, hg, hv, _, _, hkeep, htw⟩ := claim N (Nat.le_refl _)
  rw [hr] at hrun
  injection hrun with hrun
  obtain ⟨e1, e2, e3⟩ := lone_inj hrun
  have hpl : (S N).pl = [] := by
    cases h : (S N).pl with
    | nil => rfl
    | cons c l => rw [h] at e2; simp at e2
  refine hg.2 (.stop fun d => ?_)
  rw [hpl, List.nil_append, e1]
  obtain ⟨hv1, hv2, hv3, _⟩ := hv
  rw [e3] at hv1 hv2 hv3
  exact hStop frN vN ((S N).w.at d) hfin hmN hv1 hv2 hv3 ⟨hkeep.same, hkeep.back⟩ htw
end
end Go.Proofs.Ytoipkpndfgcmcaa.Veils

/-
  CheckKnown: from its entry to its end, in the whole machine. The conditions stand in each theorem.
-/
namespace Go.Proofs.Ytoipkpndfgcmcaa.Crew
open Go Go.Conc Go.ConcN Go.RowKit Go.Conc.Lib Go.ConcR.Gen Go.ConcN.Gen Go.Proofs.Ytoipkpndfgcmcaa.Veils
set_option linter.unusedVariables false
set_option linter.unusedSectionVars false
/-- The law's frame. -/
def fr12 (T : Array Value) (k : List Item) : Frame := (base 12).at ⟨T, []⟩ k
set_option maxRecDepth 100000 in
theorem enter12 : Frame.enter Try.prog 12 #[] .normal = plus (fr12 (Array.replicate 158 undef) []) (.code (graftf (seqTails 4 (bodyOf Try.f12)) (front 4 (bodyOf Try.f12))) :: []) := by kernel_rfl
theorem tailed12 : tailed Try.prog calmF (slotK 12) (front 4 (bodyOf Try.f12)) = true := by kernel_rfl
theorem calm12 : codeCalm Try.prog calmF (slotK 12) (R7of (bodyOf Try.f12)) = true := by kernel_rfl
theorem inits12 : Try.prog.inits.idxOf? 12 = none := by kernel_rfl
theorem text5 : seqTails 4 (bodyOf Try.f12) = .seq (.seq (.region 5 (O5of (bodyOf Try.f12)) false) (C5of (bodyOf Try.f12))) (R5of (bodyOf Try.f12)) := by kernel_rfl
theorem text7 : R5of (bodyOf Try.f12) = .seq (.seq (.region 7 (O7of (bodyOf Try.f12)) true) (C7of (bodyOf Try.f12))) (R7of (bodyOf Try.f12)) := by kernel_rfl
theorem cond5 : ∃ x, C5of (bodyOf Try.f12) = .cond (.tmp 62) x .skip := ⟨_, rfl⟩
theorem cond7 : ∃ x, C7of (bodyOf Try.f12) = .cond (.tmp 92) x .skip := ⟨_, rfl⟩
theorem mixed12 : Try.prog.follows .mixedOrders = true := by kernel_rfl
theorem size5 : (O5of (bodyOf Try.f12)).size = 25 := by kernel_rfl
theorem slots12 (B : Nat) {T : Array Value} (h : T.getD 65 undef = undef ∨ ∃ a n c, T.getD 65 undef = .slice (some a) n c ∧ B ≤ a.block) (k : Nat) : OkV B (slotK 12 k) (T.getD k undef) := by
  by_cases e : k = 65
  · subst e
    exact h
  · have : slotK 12 k = 0 := by
      have hk : (k == 65) = false := by simp [e]
      unfold slotK
      rw [hk]
      rfl
    rw [this]
    trivial
theorem rep65 : (Array.replicate 158 undef : Array Value).getD 65 undef = undef := by
  rw [Array.getD_eq_getD_getElem?, Array.getElem?_replicate]
  rfl
section
variable {W : World} {q : Nat}
/-- Behind the beginning. -/
def S12 (W : World) (g : Goroutine) (w : World) : Prop := ∃ T, g = G (fr12 T [.code (seqTails 4 (bodyOf Try.f12))]) [] ∧ KnT T ∧ Below W.heap.size W w
theorem kn_start : Runs Try.prog (DF fun _ => False) (S12 W) (G (Frame.enter Try.prog 12 #[] .normal) []) W := by
  rw [enter12]
  have e : ∀ (tp : Tape), ({ veilW (fun _ => False) W with tape := tp, drawn := 0 } : World).heap.size = W.heap.size := fun tp => veil_size _ W
  refine graft_runs (F := calmF) (X := fun _ => False) fns (Fin := fun fr v' => ∃ tp a', fr = (base 12).at a' [] ∧ KnFin { veilW (fun _ => False) W with tape := tp, drawn := 0 } a' v') _ _ _ _
    ⟨⟨_, Try.func12⟩, fun it hit => (by cases hit), fun d hd => (by cases hd), rfl, fun k => slots12 _ (.inl rep65) k⟩ rfl rfl tailed12 (fun b hb => hb.elim) (fun tp => ?_) (fun w w' es _ _ hsz hes => ⟨hsz, hes⟩) ?_
  · obtain ⟨n', fr, v', h1, h2, h3, a', h4, h5⟩ := lone_of_front (b := base 12) (kn_front { veilW (fun _ => False) W with tape := tp, drawn := 0 })
    exact ⟨n', fr, v', h1, h2, h3, tp, a', h4, h5⟩
  · rintro fr v' w' ⟨tp, a', rfl, hd, hT, hb⟩ _ _ hh hos hout hk ht
    rw [e] at hb
    refine ⟨a'.tmps, ?_, hT, below_veil hk hh hos hout ht hb⟩
    obtain ⟨T', d'⟩ := a'
    have : d' = [] := hd
    subst this
    rfl
/-- Behind the region with Parts. -/
def D12 (W : World) (X : Nat → Prop) (g : Goroutine) (w : World) : Prop := ∃ T, g = G (fr12 T [.code (R5of (bodyOf Try.f12))]) [] ∧ T.size = 158 ∧ Wn W X w
theorem kn_region5 {m : Machine} {t : Trace} (hq : TakeQ 140737488355328 q) (h : Mach Try.prog (fun _ => False) 0 (S12 W) m t) : Leads Try.prog m t fun m t => ∃ X Jm, Mach Try.prog X Jm (D12 W X) m t := by
  obtain ⟨xc, hxc⟩ := cond5
  refine (h.runs (S' := KNx W (fun _ => False) [.code (C5of (bodyOf Try.f12)), .code (R5of (bodyOf Try.f12))] 0 [0, 1, 2, 3, 4, 5, 6, 7, 8, 9, 10, 11, 12, 13, 14, 15, 16, 17, 18, 19, 20, 21, 22, 23, 24]) fun g w ⟨T, e, hT, hb⟩ => ?_).bind fun m1 t1 h1 => ?_
  · rw [e, text5]
    refine Runs.of_step rfl fun d => ⟨_, _, _, stepG_seq, ⟨Nat.le_refl _, fun e he => by simp at he⟩, ?_⟩
    refine Runs.of_step rfl fun d => ⟨_, _, _, stepG_seq, ⟨Nat.le_refl _, fun e he => by simp at he⟩, ?_⟩
    refine Runs.of_step rfl fun d => ⟨_, _, _, stepG_region, ⟨Nat.le_refl _, fun e he => by simp at he⟩, ?_⟩
    rw [size5]
    exact .stop fun d => ⟨T, 0, 0, 0, rfl, hT, fun j hj => absurd hj (by omega), fun hl => absurd hl (by omega), fun hl => absurd hl (by omega), fun hl => absurd hl (by omega), ⟨below_at (below_at (below_at (below_at hb _) _) _) _, fun b hb => hb.elim, fun r hx => hx.elim⟩⟩
  · refine (kn_chain hq ⟨_, _, h1⟩).bind fun m2 t2 ⟨X, Jm, h2⟩ => ?_
    refine (h2.runs (S' := D12 W X) fun g w ⟨T, g1, g2, g3, e, hP⟩ => ?_).mono fun m3 t3 h3 => ⟨X, Jm, h3⟩
    have e24 : T[62]? = some (.bool false) := hP.done 24 (by omega) (by omega)
    rw [e]
    refine hand_end ?_
    rw [hxc]
    refine Runs.of_step rfl fun d => ⟨_, _, _, stepG_cond (t := false) (ev_tmp e24), ⟨Nat.le_refl _, fun e he => by simp at he⟩, ?_⟩
    refine Runs.of_step rfl fun d => ⟨_, _, _, stepG_skip, ⟨Nat.le_refl _, fun e he => by simp at he⟩, ?_⟩
    exact .stop fun d => ⟨T, rfl, hP.kn.sz, ((hP.wn.at _).at _).at _⟩
/-- The state between two operations of the drawn region, in the machine. -/
def At7 (W : World) (X : Nat → Prop) (Jm : Nat) (k : List Item) (ls : Array Bool) (l : List Nat) (m : Machine) (t : Trace) : Prop := Mach Try.prog X Jm (N7 W X ls (O7of (bodyOf Try.f12)) k l) m t
/-- Behind the drawn region. -/
def D127 (W : World) (X : Nat → Prop) (g : Goroutine) (w : World) : Prop := ∃ T B, g = G (fr12 T [.code (R7of (bodyOf Try.f12))]) [] ∧ T.size = 158 ∧ Wn W X w ∧ (∀ r, X r → r < B) ∧ B ≤ w.heap.size ∧ ∃ a n c, T.getD 65 undef = .slice (some a) n c ∧ B ≤ a.block
theorem kn_region7 {X : Nat → Prop} {Jm : Nat} {m : Machine} {t : Trace} (h : Mach Try.prog X Jm (D12 W X) m t) : Leads Try.prog m t (Mach Try.prog X Jm (D127 W X)) := by
  obtain ⟨xc, hxc⟩ := cond7
  refine (h.runs (S' := fun g w => ∃ tp, N7 W X (Array.replicate 30 false) (O7of (bodyOf Try.f12)) [.code (C7of (bodyOf Try.f12)), .code (R7of (bodyOf Try.f12))] (Region.schedule true (O7of (bodyOf Try.f12)) tp) g w) fun g w ⟨T, e, hT, hW⟩ => ?_).bind fun m1 t1 h1 => ?_
  · rw [e, text7]
    refine Runs.of_step rfl fun d => ⟨_, _, _, stepG_seq, ⟨Nat.le_refl _, fun e he => by simp at he⟩, ?_⟩
    refine Runs.of_step rfl fun d => ⟨_, _, _, stepG_seq, ⟨Nat.le_refl _, fun e he => by simp at he⟩, ?_⟩
    refine Runs.of_step rfl fun d => ⟨_, _, _, stepG_region_draw, ⟨Nat.le_refl _, fun e he => by simp at he⟩, ?_⟩
    rw [mixed12]
    refine .stop fun d => ⟨_, T, rfl, hT, fun j _ hl => ?_, ⟨below_at hW.below _, hW.rows, hW.at_⟩⟩
    rw [Array.getD_eq_getD_getElem?, Array.getElem?_replicate] at hl
    split at hl <;> cases hl
  · obtain ⟨g, w, ⟨tp, hN⟩, h1⟩ := h1.pin
    have hord := ord_schedule _ acyc7' tp
    rw [size7] at hord
    have hA : At7 W X Jm [.code (C7of (bodyOf Try.f12)), .code (R7of (bodyOf Try.f12))] (Array.replicate 30 false) (Region.schedule true (O7of (bodyOf Try.f12)) tp) m1 t1 := h1.named hN
    refine (drawn_leads (At := At7 W X Jm [.code (C7of (bodyOf Try.f12)), .code (R7of (bodyOf Try.f12))]) (fun ls i l m t hi haf hM => Mach.runs hM fun a w ⟨T, e, hP⟩ => by rw [e]; exact step7 i hi haf hP) hord hA).bind fun m2 t2 ⟨ls', hall, h2⟩ => ?_
    refine Mach.runs h2 fun g w ⟨T, e, hP⟩ => ?_
    obtain ⟨v29, e29, b29⟩ := hP.done 29 (by omega) (hall 29 (by rw [size7]; omega))
    obtain rfl : v29 = .bool false := b29
    obtain ⟨v2, e2, b2⟩ := hP.done 2 (by omega) (hall 2 (by rw [size7]; omega))
    obtain ⟨g2, c2, rfl, hc2, hg2, hX2, r2⟩ := (b2 : By W X w 13 lit13 v2)
    obtain ⟨ad, ea, hlt, _⟩ := r2.2 (by omega)
    cases ea
    rw [e]
    refine hand_end ?_
    rw [hxc]
    refine Runs.of_step rfl fun d => ⟨_, _, _, stepG_cond (t := false) (ev_tmp e29), ⟨Nat.le_refl _, fun e he => by simp at he⟩, ?_⟩
    refine Runs.of_step rfl fun d => ⟨_, _, _, stepG_skip, ⟨Nat.le_refl _, fun e he => by simp at he⟩, ?_⟩
    exact .stop fun d => ⟨T, g2, rfl, hP.sz, ((hP.wn.at _).at _).at _, hX2, Nat.le_of_lt hlt, ⟨g2, 0, none⟩, 13, c2, by rw [Array.getD_eq_getD_getElem?, e2]; rfl, Nat.le_refl _⟩
/-- At the law's return. -/
def Ret12 (W : World) (g : Goroutine) (w : World) : Prop :=
  ∃ a' todo, g = G { (base 12).at a' todo with mode := .returning } [] ∧ a'.defers = [] ∧ a'.tmps.getD 0 undef = .bool true ∧ Below W.heap.size W w
theorem kn_ends {X : Nat → Prop} (g : Goroutine) (w : World) (hg : D127 W X g w) : Runs Try.prog (DF X) (Ret12 W) g w := by
  obtain ⟨T, B, rfl, hT, hW, hXB, hBw, h65⟩ := hg
  have hs1 := hW.below.size
  refine seq_runs_at (F := calmF) (X := X) fns (Fin := fun fr v' => ∃ a' todo, fr = { (base 12).at a' todo with mode := .returning } ∧ a'.defers = [] ∧ ∃ x, (results Try.f12 a'.tmps).run Try.prog v' = .ok x v' ∧ (Ending.returned x = .returned (.bool true) ∧ ∃ t, Below w.heap.size { veilW X w with tape := t, drawn := 0 } v')) [] hXB hBw
    ⟨⟨_, Try.func12⟩, fun it hit => ?_, fun d hd => (by cases hd), rfl, fun k => slots12 B (.inr h65) k⟩ (.inl rfl) hW.rows (fun tp => ?_) (fun w w' es _ _ hsz hes => ⟨hsz, hes⟩) ?_
  · obtain rfl := List.mem_singleton.1 hit
    exact calm12
  · have e : ({ veilW X w with tape := tp, drawn := 0 } : World).heap.size = w.heap.size := veil_size _ w
    obtain ⟨n', fr, v', h1, h2, a', todo, h3, h4, x, h5, h6, h7⟩ := lone_of_body (b := base 12) (kn_rest { veilW X w with tape := tp, drawn := 0 } T hT) (fun e w h => ⟨_, h.1⟩)
    rw [e] at h7
    exact ⟨n', fr, v', h1, h2, a', todo, h3, h4, x, h5, h6, tp, h7⟩
  · rintro fr v' w' ⟨a', todo, rfl, h4, x, h5, h6, tp, h7⟩ _ hh hos hout hk ht
    have hx : x = a'.tmps.getD 0 undef := by
      have := results_tmp (t := 0) (fn := Try.f12) rfl a'.tmps Try.prog v'
      rw [this] at h5
      cases h5
      rfl
    have hb := below_veil hk hh hos hout ht h7
    refine ⟨a', todo, rfl, h4, ?_, hW.below.trans (hb.mono hs1)⟩
    injection h6 with h6
    rw [← hx, h6]
theorem ret_done12 {X : Nat → Prop} (g : Goroutine) (w : World) (h : Ret12 W g w) : AtDone Try.prog X (fun v w' => v = .bool true ∧ Below W.heap.size W w') g w := by
  obtain ⟨a', todo, rfl, hd, hx, hb⟩ := h
  refine ⟨rfl, fun d => ⟨.bool true, #[], ?_, fun e he => by simp at he, rfl, below_at hb d⟩⟩
  rw [stepG_last rfl hd Try.func12 (results_tmp (t := 0) rfl _ Try.prog (w.at d)) (events_results_tmp (t := 0) rfl _ _) inits12, hx]
/-- CHECKKNOWN. -/
theorem checkKnown_run (W : World) :
    ∃ M last o w' t', runNT Try.prog (M + 1) (solo (G (Frame.enter Try.prog 12 #[] .normal) []) W) #[] = (.ended o w', t') ∧ runN Try.prog M (solo (G (Frame.enter Try.prog 12 #[] .normal) []) W) = .next last ∧
      step Try.prog last = .ended o w' ∧ Conc.Good Try.prog (fun v w' => v = .bool true ∧ Below W.heap.size W w') last o w' t' := by
  obtain ⟨q, hq⟩ := take_co 140737488355328 (Nat.le_refl _)
  have h0 : Mach Try.prog (fun _ => False) 0 (fun g w => g = G (Frame.enter Try.prog 12 #[] .normal) [] ∧ w = W) (solo (G (Frame.enter Try.prog 12 #[] .normal) []) W) #[] := mach_one _ _ ⟨rfl, rfl⟩
  have hl : Leads Try.prog (solo (G (Frame.enter Try.prog 12 #[] .normal) []) W) #[] (fun m t => ∃ X J, Mach Try.prog X J (Ret12 W) m t) := by
    refine (h0.runs fun a w hs => by
      rw [hs.1, hs.2]
      exact kn_start).bind fun m1 t1 h1 => ?_
    refine (kn_region5 hq h1).bind fun m2 t2 ⟨X, Jm, h2⟩ => ?_
    refine (kn_region7 h2).bind fun m3 t3 h3 => ?_
    exact (h3.runs fun a w k => kn_ends a w k).mono fun m4 t4 h4 => ⟨_, _, h4⟩
  obtain ⟨N, m1, t1, h1, X, J, h2⟩ := hl
  exact Leads.ends (X := X) (J := J) ⟨N, m1, t1, h1, h2⟩ fun a w hs => ret_done12 a w hs
end
end Go.Proofs.Ytoipkpndfgcmcaa.Crew

namespace Go.Proofs.Ytoipkpndfgcmcaa.checkKnown
open Go.RowKit Go.ChangeShapes Go.WideShapes Go.ChangeAt
set_option linter.unusedVariables false

theorem own : ownKnob Try.prog.godebug = none := by kernel_rfl
theorem laidOut : laidOutB Try.prog = true := by kernel_rfl

set_option maxRecDepth 100000 in
theorem lifted (os : Os) (started : os.Started) (H : Type) (enc : TypeId × Value → H) :
    ReturnsInLeavingWide {} Try.checked os 12 .any (Rows.checkKnownSpec.pre6 enc Try.prog Try.f12 Rows.checkKnownRow.domain false) (Rows.checkKnownSpec.post enc Try.prog Try.f12 false true false false) := by
  refine returnsInLeavingWide_of_change_sized (C := Try.checked) own started Try.func12
    (ChangeSpec.witness6 (enc := enc) (C := Try.checked) false ⟨#[], #[], []⟩ 8 (by kernel_rfl) (by kernel_rfl) (by kernel_rfl) (by kernel_rfl)) ?_
  intro W base args ds gs before hval0 hW hcnd hsz0 _
  have hsz : (DataW.weightsEach Try.prog (Try.f12.params.toList ++ Rows.checkKnownSpec.plain.varTypes Try.prog) (ds ++ gs)).all (· ≤ reachBytes) = true := hsz0
  clear hsz0
  have hW' := hW
  obtain ⟨p, q, hA0, hV, rfl, hfz, hnd⟩ := hW
  have hA : DataW.TrodAll enc Try.prog W 0 (fun _ => true) true Try.f12.params.toList args.toList ds p := hA0
  rw [Try.params12] at hA hsz
  obtain ⟨hargs, rfl, rfl⟩ := trodAll_nil hA
  obtain rfl : args = #[] := by cases args; simp_all
  obtain ⟨rfl, rfl⟩ := trodVars_none hV
  clear hA0 hval0
  obtain ⟨M, last, o, w', t', h1, h2, h3, h4⟩ := Crew.checkKnown_run W
  refine ⟨M, last, o, w', t', h1, h2, h3, h4.mono fun v hp => ?_⟩
  obtain ⟨he, bel⟩ := hp
  subst he
  exact ⟨_, _, _, [], _, [], hW', trodAll_mk1 (shut_bool Try.underlying4 _), trodAll_mk0, rfl, bel.frame _, fun h => by cases h⟩

theorem over : Rows.checkKnownRow.holds Try.pinned (OpenSpec.ofChange Rows.checkKnownSpec) :=
  OpenClaim.holds_of_wide_leaving 12 Try.f12 rfl rfl rfl rfl rfl rfl rfl ⟨rfl, rfl, rfl, rfl, rfl⟩ rfl rfl rfl rfl rfl (by kernel_rfl) Try.func12 (by kernel_rfl)
    (of_decide_eq_true (by kernel_rfl)) (by unfold Func.isWrapper; first | (rw [if_pos (by decide +kernel)]; kernel_rfl) | (rw [if_neg (by decide +kernel)]; exact ⟨rfl, rfl⟩))
    (fun os started H enc _ => lifted os started H enc)

theorem proved : Rows.CheckKnownSaid := over
#print axioms proved
end Go.Proofs.Ytoipkpndfgcmcaa.checkKnown
