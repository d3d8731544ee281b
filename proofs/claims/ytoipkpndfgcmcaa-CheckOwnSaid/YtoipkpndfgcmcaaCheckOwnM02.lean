/-
  The step of a calm goroutine, whatever it is. The condition stands in each theorem. No program in sight.
-/
import Derived.Conc.Own
import Derived.Test.YtoipkpndfgcmcaaCheckOwnM01

/-
  The operations that are calm by their text: they come to a value, to nothing or into a function of a given set, and a hidden block does not disturb them. The condition stands in each theorem. No program in sight. (Printed by wip/cvcalm.py.)
-/
namespace Go.Proofs.Ytoipkpndfgcmcaa.Veils
open Go
set_option linter.unusedVariables false
section
variable {P : Program} {X : Nat → Prop}
theorem Kin.under {β : Type} {t : TypeId} {d : TypeDesc} (hU : P.underlying t = some d) {f : TypeDesc → Sem β} (hf : Kin P X (f d)) : Kin P X (Go.underlying t >>= f) := by
  unfold Go.underlying
  rw [bind_assoc]
  refine Kin.bindP ?_
  rw [hU]
  exact hf
theorem Kin.equalInt (d : Nat) (t : TypeId) (k : IntKind) (hU : P.underlying t = some (.int k)) (x y : Value) : Kin P X (Op.equalIn (d + 1) t x y) := by
  unfold Op.equalIn
  refine Kin.under hU ?_
  (repeat' (first
    | contradiction
    | (intro b v a v' h; cases b <;> (simp [Go.unsupported, Go.mark, Sem.run] at h; done))
    | (intro v a v' h; first | (cases h; done) | (simp [Go.stuck, Go.unsupported, Sem.run] at h; done))
    | with_reducible exact Kin.pure _
    | with_reducible exact Kin.stuck _
    | exact Kin.unsupported _ (fun g hg => by cases hg)
    | with_reducible exact Kin.goPanic _
    | with_reducible exact Kin.load _
    | with_reducible exact Kin.store _ _
    | with_reducible exact Kin.choose _
    | with_reducible exact Kin.noRoom
    | with_reducible exact Kin.frozen _
    | with_reducible exact Kin.newRow _ _
    | with_reducible exact Kin.typeInfo _
    | with_reducible exact Kin.underlying _
    | with_reducible exact Kin.zeroValue _
    | with_reducible exact Kin.sizeOf _
    | with_reducible exact Kin.isAgg _
    | with_reducible exact Kin.loadCells _ _
    | with_reducible exact Kin.storeCells _ _ _
    | with_reducible exact Kin.loadVar _ _
    | with_reducible exact Kin.storeVar _ _ _
    | with_reducible exact Kin.newVar _ _
    | with_reducible exact Kin.elemOf _
    | with_reducible exact Kin.part _ _ _
    | with_reducible exact Kin.askRoom _
    | with_reducible exact Kin.runtimePanic _
    | with_reducible exact Kin.boundsPanic _ _ _ _
    | with_reducible exact Kin.asIntOf _
    | with_reducible exact Kin.asBool _
    | with_reducible exact Kin.asString _
    | with_reducible exact Kin.asAgg _
    | with_reducible exact Kin.asAddr _
    | with_reducible exact Kin.asInt _
    | with_reducible exact Kin.numberAt _
    | with_reducible exact Kin.behindNumber _
    | with_reducible exact Kin.noView _
    | with_reducible exact Kin.asNumber _ _
    | with_reducible exact Kin.byteOf _
    | with_reducible exact Kin.twoPlaces _ _
    | with_reducible exact Kin.unsafeAdd2 _ _ _ _
    | with_reducible exact Kin.addrSub _ _ _
    | with_reducible exact Kin.addrCmp _ _ _
    | with_reducible exact Kin.addrMod _ _ _
    | with_reducible exact Kin.unsafeAdd _ _ _ _
    | with_reducible exact Kin.movedNumber _ _ _
    | with_reducible exact Kin.movedPointer _ _ _
    | with_reducible exact Kin.intArith _ _ _ _
    | with_reducible exact Kin.intDiv _ _ _ _
    | with_reducible exact Kin.intBits _ _ _ _
    | with_reducible exact Kin.intCmp _ _ _
    | with_reducible exact Kin.shift _ _ _ _ _
    | with_reducible exact Kin.floatArith _ _ _ _
    | with_reducible exact Kin.floatCmp _ _ _ _
    | with_reducible exact Kin.stringOp _ _ _
    | with_reducible exact Kin.intToInt _ _
    | with_reducible exact Kin.floatToInt _ _ _
    | with_reducible exact Kin.floatToFloat _ _ _
    | with_reducible exact Kin.arithC _ _ _ _
    | with_reducible exact Kin.cmpC _ _ _ _
    | with_reducible exact Kin.convC _ _ _
    | with_reducible exact Kin.addC _ _
    | with_reducible exact Kin.subC _ _
    | with_reducible exact Kin.mulC _ _
    | with_reducible exact Kin.quoC _ _
    | with_reducible exact Kin.product _ _ _ _
    | with_reducible exact Kin.corrected _ _ _ _ _
    | with_reducible exact Kin.quotient _ _ _ _
    | with_reducible exact Kin.complexOp _ _ _ _ _ _
    | with_reducible exact Kin.sureAddr _
    | with_reducible exact Kin.partAt _ _ _
    | with_reducible exact Kin.fieldPlace _ _
    | with_reducible exact Kin.sliceBound _ _ _
    | with_reducible exact Kin.sliceBounds _ _ _ _ _ _
    | with_reducible exact Kin.slice _ _ _ _ _
    | with_reducible exact Kin.lenOf _
    | with_reducible exact Kin.firstCells _ _ _
    | with_reducible refine Kin.bindP ?_
    | with_reducible refine Kin.bind ?_ (fun _ => ?_)
    | with_reducible refine Kin.ite _ ?_ ?_
    | split
    | dsimp only))
theorem Kin.equalBool (d : Nat) (t : TypeId) (hU : P.underlying t = some .bool) (x y : Value) : Kin P X (Op.equalIn (d + 1) t x y) := by
  unfold Op.equalIn
  refine Kin.under hU ?_
  (repeat' (first
    | contradiction
    | (intro b v a v' h; cases b <;> (simp [Go.unsupported, Go.mark, Sem.run] at h; done))
    | (intro v a v' h; first | (cases h; done) | (simp [Go.stuck, Go.unsupported, Sem.run] at h; done))
    | with_reducible exact Kin.pure _
    | with_reducible exact Kin.stuck _
    | exact Kin.unsupported _ (fun g hg => by cases hg)
    | with_reducible exact Kin.goPanic _
    | with_reducible exact Kin.load _
    | with_reducible exact Kin.store _ _
    | with_reducible exact Kin.choose _
    | with_reducible exact Kin.noRoom
    | with_reducible exact Kin.frozen _
    | with_reducible exact Kin.newRow _ _
    | with_reducible exact Kin.typeInfo _
    | with_reducible exact Kin.underlying _
    | with_reducible exact Kin.zeroValue _
    | with_reducible exact Kin.sizeOf _
    | with_reducible exact Kin.isAgg _
    | with_reducible exact Kin.loadCells _ _
    | with_reducible exact Kin.storeCells _ _ _
    | with_reducible exact Kin.loadVar _ _
    | with_reducible exact Kin.storeVar _ _ _
    | with_reducible exact Kin.newVar _ _
    | with_reducible exact Kin.elemOf _
    | with_reducible exact Kin.part _ _ _
    | with_reducible exact Kin.askRoom _
    | with_reducible exact Kin.runtimePanic _
    | with_reducible exact Kin.boundsPanic _ _ _ _
    | with_reducible exact Kin.asIntOf _
    | with_reducible exact Kin.asBool _
    | with_reducible exact Kin.asString _
    | with_reducible exact Kin.asAgg _
    | with_reducible exact Kin.asAddr _
    | with_reducible exact Kin.asInt _
    | with_reducible exact Kin.numberAt _
    | with_reducible exact Kin.behindNumber _
    | with_reducible exact Kin.noView _
    | with_reducible exact Kin.asNumber _ _
    | with_reducible exact Kin.byteOf _
    | with_reducible exact Kin.twoPlaces _ _
    | with_reducible exact Kin.unsafeAdd2 _ _ _ _
    | with_reducible exact Kin.addrSub _ _ _
    | with_reducible exact Kin.addrCmp _ _ _
    | with_reducible exact Kin.addrMod _ _ _
    | with_reducible exact Kin.unsafeAdd _ _ _ _
    | with_reducible exact Kin.movedNumber _ _ _
    | with_reducible exact Kin.movedPointer _ _ _
    | with_reducible exact Kin.intArith _ _ _ _
    | with_reducible exact Kin.intDiv _ _ _ _
    | with_reducible exact Kin.intBits _ _ _ _
    | with_reducible exact Kin.intCmp _ _ _
    | with_reducible exact Kin.shift _ _ _ _ _
    | with_reducible exact Kin.floatArith _ _ _ _
    | with_reducible exact Kin.floatCmp _ _ _ _
    | with_reducible exact Kin.stringOp _ _ _
    | with_reducible exact Kin.intToInt _ _
    | with_reducible exact Kin.floatToInt _ _ _
    | with_reducible exact Kin.floatToFloat _ _ _
    | with_reducible exact Kin.arithC _ _ _ _
    | with_reducible exact Kin.cmpC _ _ _ _
    | with_reducible exact Kin.convC _ _ _
    | with_reducible exact Kin.addC _ _
    | with_reducible exact Kin.subC _ _
    | with_reducible exact Kin.mulC _ _
    | with_reducible exact Kin.quoC _ _
    | with_reducible exact Kin.product _ _ _ _
    | with_reducible exact Kin.corrected _ _ _ _ _
    | with_reducible exact Kin.quotient _ _ _ _
    | with_reducible exact Kin.complexOp _ _ _ _ _ _
    | with_reducible exact Kin.sureAddr _
    | with_reducible exact Kin.partAt _ _ _
    | with_reducible exact Kin.fieldPlace _ _
    | with_reducible exact Kin.sliceBound _ _ _
    | with_reducible exact Kin.sliceBounds _ _ _ _ _ _
    | with_reducible exact Kin.slice _ _ _ _ _
    | with_reducible exact Kin.lenOf _
    | with_reducible exact Kin.firstCells _ _ _
    | with_reducible refine Kin.bindP ?_
    | with_reducible refine Kin.bind ?_ (fun _ => ?_)
    | with_reducible refine Kin.ite _ ?_ ?_
    | split
    | dsimp only))
theorem Kin.guardInt (d : Nat) (t : TypeId) (k : IntKind) (hU : P.underlying t = some (.int k)) (x y : Value) : Kin P X (Op.eqGuardIn (d + 1) t x y) := by
  unfold Op.eqGuardIn
  refine Kin.under hU ?_
  (repeat' (first
    | contradiction
    | (intro b v a v' h; cases b <;> (simp [Go.unsupported, Go.mark, Sem.run] at h; done))
    | (intro v a v' h; first | (cases h; done) | (simp [Go.stuck, Go.unsupported, Sem.run] at h; done))
    | with_reducible exact Kin.pure _
    | with_reducible exact Kin.stuck _
    | exact Kin.unsupported _ (fun g hg => by cases hg)
    | with_reducible exact Kin.goPanic _
    | with_reducible exact Kin.load _
    | with_reducible exact Kin.store _ _
    | with_reducible exact Kin.choose _
    | with_reducible exact Kin.noRoom
    | with_reducible exact Kin.frozen _
    | with_reducible exact Kin.newRow _ _
    | with_reducible exact Kin.typeInfo _
    | with_reducible exact Kin.underlying _
    | with_reducible exact Kin.zeroValue _
    | with_reducible exact Kin.sizeOf _
    | with_reducible exact Kin.isAgg _
    | with_reducible exact Kin.loadCells _ _
    | with_reducible exact Kin.storeCells _ _ _
    | with_reducible exact Kin.loadVar _ _
    | with_reducible exact Kin.storeVar _ _ _
    | with_reducible exact Kin.newVar _ _
    | with_reducible exact Kin.elemOf _
    | with_reducible exact Kin.part _ _ _
    | with_reducible exact Kin.askRoom _
    | with_reducible exact Kin.runtimePanic _
    | with_reducible exact Kin.boundsPanic _ _ _ _
    | with_reducible exact Kin.asIntOf _
    | with_reducible exact Kin.asBool _
    | with_reducible exact Kin.asString _
    | with_reducible exact Kin.asAgg _
    | with_reducible exact Kin.asAddr _
    | with_reducible exact Kin.asInt _
    | with_reducible exact Kin.numberAt _
    | with_reducible exact Kin.behindNumber _
    | with_reducible exact Kin.noView _
    | with_reducible exact Kin.asNumber _ _
    | with_reducible exact Kin.byteOf _
    | with_reducible exact Kin.twoPlaces _ _
    | with_reducible exact Kin.unsafeAdd2 _ _ _ _
    | with_reducible exact Kin.addrSub _ _ _
    | with_reducible exact Kin.addrCmp _ _ _
    | with_reducible exact Kin.addrMod _ _ _
    | with_reducible exact Kin.unsafeAdd _ _ _ _
    | with_reducible exact Kin.movedNumber _ _ _
    | with_reducible exact Kin.movedPointer _ _ _
    | with_reducible exact Kin.intArith _ _ _ _
    | with_reducible exact Kin.intDiv _ _ _ _
    | with_reducible exact Kin.intBits _ _ _ _
    | with_reducible exact Kin.intCmp _ _ _
    | with_reducible exact Kin.shift _ _ _ _ _
    | with_reducible exact Kin.floatArith _ _ _ _
    | with_reducible exact Kin.floatCmp _ _ _ _
    | with_reducible exact Kin.stringOp _ _ _
    | with_reducible exact Kin.intToInt _ _
    | with_reducible exact Kin.floatToInt _ _ _
    | with_reducible exact Kin.floatToFloat _ _ _
    | with_reducible exact Kin.arithC _ _ _ _
    | with_reducible exact Kin.cmpC _ _ _ _
    | with_reducible exact Kin.convC _ _ _
    | with_reducible exact Kin.addC _ _
    | with_reducible exact Kin.subC _ _
    | with_reducible exact Kin.mulC _ _
    | with_reducible exact Kin.quoC _ _
    | with_reducible exact Kin.product _ _ _ _
    | with_reducible exact Kin.corrected _ _ _ _ _
    | with_reducible exact Kin.quotient _ _ _ _
    | with_reducible exact Kin.complexOp _ _ _ _ _ _
    | with_reducible exact Kin.sureAddr _
    | with_reducible exact Kin.partAt _ _ _
    | with_reducible exact Kin.fieldPlace _ _
    | with_reducible exact Kin.sliceBound _ _ _
    | with_reducible exact Kin.sliceBounds _ _ _ _ _ _
    | with_reducible exact Kin.slice _ _ _ _ _
    | with_reducible exact Kin.lenOf _
    | with_reducible exact Kin.firstCells _ _ _
    | with_reducible refine Kin.bindP ?_
    | with_reducible refine Kin.bind ?_ (fun _ => ?_)
    | with_reducible refine Kin.ite _ ?_ ?_
    | split
    | dsimp only))
theorem Kin.guardBool (d : Nat) (t : TypeId) (hU : P.underlying t = some .bool) (x y : Value) : Kin P X (Op.eqGuardIn (d + 1) t x y) := by
  unfold Op.eqGuardIn
  refine Kin.under hU ?_
  (repeat' (first
    | contradiction
    | (intro b v a v' h; cases b <;> (simp [Go.unsupported, Go.mark, Sem.run] at h; done))
    | (intro v a v' h; first | (cases h; done) | (simp [Go.stuck, Go.unsupported, Sem.run] at h; done))
    | with_reducible exact Kin.pure _
    | with_reducible exact Kin.stuck _
    | exact Kin.unsupported _ (fun g hg => by cases hg)
    | with_reducible exact Kin.goPanic _
    | with_reducible exact Kin.load _
    | with_reducible exact Kin.store _ _
    | with_reducible exact Kin.choose _
    | with_reducible exact Kin.noRoom
    | with_reducible exact Kin.frozen _
    | with_reducible exact Kin.newRow _ _
    | with_reducible exact Kin.typeInfo _
    | with_reducible exact Kin.underlying _
    | with_reducible exact Kin.zeroValue _
    | with_reducible exact Kin.sizeOf _
    | with_reducible exact Kin.isAgg _
    | with_reducible exact Kin.loadCells _ _
    | with_reducible exact Kin.storeCells _ _ _
    | with_reducible exact Kin.loadVar _ _
    | with_reducible exact Kin.storeVar _ _ _
    | with_reducible exact Kin.newVar _ _
    | with_reducible exact Kin.elemOf _
    | with_reducible exact Kin.part _ _ _
    | with_reducible exact Kin.askRoom _
    | with_reducible exact Kin.runtimePanic _
    | with_reducible exact Kin.boundsPanic _ _ _ _
    | with_reducible exact Kin.asIntOf _
    | with_reducible exact Kin.asBool _
    | with_reducible exact Kin.asString _
    | with_reducible exact Kin.asAgg _
    | with_reducible exact Kin.asAddr _
    | with_reducible exact Kin.asInt _
    | with_reducible exact Kin.numberAt _
    | with_reducible exact Kin.behindNumber _
    | with_reducible exact Kin.noView _
    | with_reducible exact Kin.asNumber _ _
    | with_reducible exact Kin.byteOf _
    | with_reducible exact Kin.twoPlaces _ _
    | with_reducible exact Kin.unsafeAdd2 _ _ _ _
    | with_reducible exact Kin.addrSub _ _ _
    | with_reducible exact Kin.addrCmp _ _ _
    | with_reducible exact Kin.addrMod _ _ _
    | with_reducible exact Kin.unsafeAdd _ _ _ _
    | with_reducible exact Kin.movedNumber _ _ _
    | with_reducible exact Kin.movedPointer _ _ _
    | with_reducible exact Kin.intArith _ _ _ _
    | with_reducible exact Kin.intDiv _ _ _ _
    | with_reducible exact Kin.intBits _ _ _ _
    | with_reducible exact Kin.intCmp _ _ _
    | with_reducible exact Kin.shift _ _ _ _ _
    | with_reducible exact Kin.floatArith _ _ _ _
    | with_reducible exact Kin.floatCmp _ _ _ _
    | with_reducible exact Kin.stringOp _ _ _
    | with_reducible exact Kin.intToInt _ _
    | with_reducible exact Kin.floatToInt _ _ _
    | with_reducible exact Kin.floatToFloat _ _ _
    | with_reducible exact Kin.arithC _ _ _ _
    | with_reducible exact Kin.cmpC _ _ _ _
    | with_reducible exact Kin.convC _ _ _
    | with_reducible exact Kin.addC _ _
    | with_reducible exact Kin.subC _ _
    | with_reducible exact Kin.mulC _ _
    | with_reducible exact Kin.quoC _ _
    | with_reducible exact Kin.product _ _ _ _
    | with_reducible exact Kin.corrected _ _ _ _ _
    | with_reducible exact Kin.quotient _ _ _ _
    | with_reducible exact Kin.complexOp _ _ _ _ _ _
    | with_reducible exact Kin.sureAddr _
    | with_reducible exact Kin.partAt _ _ _
    | with_reducible exact Kin.fieldPlace _ _
    | with_reducible exact Kin.sliceBound _ _ _
    | with_reducible exact Kin.sliceBounds _ _ _ _ _ _
    | with_reducible exact Kin.slice _ _ _ _ _
    | with_reducible exact Kin.lenOf _
    | with_reducible exact Kin.firstCells _ _ _
    | with_reducible refine Kin.bindP ?_
    | with_reducible refine Kin.bind ?_ (fun _ => ?_)
    | with_reducible refine Kin.ite _ ?_ ?_
    | split
    | dsimp only))
theorem flat1_or {t : TypeId} (h : flat1 P t = true) : (∃ k, P.underlying t = some (.int k)) ∨ P.underlying t = some .bool := by
  unfold flat1 at h
  split at h
  · exact .inl ⟨_, by assumption⟩
  · exact .inr (by assumption)
  · cases h
theorem intT_or {t : TypeId} (h : intT P t = true) : ∃ k, P.underlying t = some (.int k) := by
  unfold intT at h
  split at h
  · exact ⟨_, by assumption⟩
  · cases h
theorem bytesT_or {t : TypeId} (h : bytesT P t = true) : ∃ e, P.underlying t = some (.slice e) ∧ P.underlying e = some (.int .u8) := by
  unfold bytesT at h
  split at h
  · split at h
    · exact ⟨_, by assumption, by assumption⟩
    · cases h
  · cases h
theorem ptrT_or {t : TypeId} (h : ptrT P t = true) : ∃ e, P.underlying t = some (.pointer e) := by
  unfold ptrT at h
  split at h
  · exact ⟨_, by assumption⟩
  · cases h
theorem Kin.equal1 (d : Nat) {t : TypeId} (h : flat1 P t = true) (x y : Value) : Kin P X (Op.equalIn (d + 1) t x y) := by
  rcases flat1_or h with ⟨k, hU⟩ | hU
  · exact Kin.equalInt d t k hU x y
  · exact Kin.equalBool d t hU x y
theorem Kin.guard1 (d : Nat) {t : TypeId} (h : flat1 P t = true) (x y : Value) : Kin P X (Op.eqGuardIn (d + 1) t x y) := by
  rcases flat1_or h with ⟨k, hU⟩ | hU
  · exact Kin.guardInt d t k hU x y
  · exact Kin.guardBool d t hU x y
theorem Kin.equalArr (d : Nat) {t e : TypeId} {n : Nat} (hU : P.underlying t = some (.array n e)) (h : flat1 P e = true) (x y : Value) : Kin P X (Op.equalIn (d + 1 + 1) t x y) := by
  unfold Op.equalIn
  refine Kin.under hU ?_
  (repeat' (first
    | contradiction
    | (intro b v a v' h; cases b <;> (simp [Go.unsupported, Go.mark, Sem.run] at h; done))
    | (intro v a v' h; first | (cases h; done) | (simp [Go.stuck, Go.unsupported, Sem.run] at h; done))
    | with_reducible exact Kin.pure _
    | with_reducible exact Kin.stuck _
    | exact Kin.unsupported _ (fun g hg => by cases hg)
    | with_reducible exact Kin.goPanic _
    | with_reducible exact Kin.load _
    | with_reducible exact Kin.store _ _
    | with_reducible exact Kin.choose _
    | with_reducible exact Kin.noRoom
    | with_reducible exact Kin.frozen _
    | with_reducible exact Kin.newRow _ _
    | (refine Kin.forInRange (fun _ _ => ?_) _ _)
    | (refine Kin.equal1 _ (by have hq : TypeDesc.array _ _ = TypeDesc.array _ _ := (by assumption); cases hq; exact h) _ _)
    | with_reducible exact Kin.typeInfo _
    | with_reducible exact Kin.underlying _
    | with_reducible exact Kin.zeroValue _
    | with_reducible exact Kin.sizeOf _
    | with_reducible exact Kin.isAgg _
    | with_reducible exact Kin.loadCells _ _
    | with_reducible exact Kin.storeCells _ _ _
    | with_reducible exact Kin.loadVar _ _
    | with_reducible exact Kin.storeVar _ _ _
    | with_reducible exact Kin.newVar _ _
    | with_reducible exact Kin.elemOf _
    | with_reducible exact Kin.part _ _ _
    | with_reducible exact Kin.askRoom _
    | with_reducible exact Kin.runtimePanic _
    | with_reducible exact Kin.boundsPanic _ _ _ _
    | with_reducible exact Kin.asIntOf _
    | with_reducible exact Kin.asBool _
    | with_reducible exact Kin.asString _
    | with_reducible exact Kin.asAgg _
    | with_reducible exact Kin.asAddr _
    | with_reducible exact Kin.asInt _
    | with_reducible exact Kin.numberAt _
    | with_reducible exact Kin.behindNumber _
    | with_reducible exact Kin.noView _
    | with_reducible exact Kin.asNumber _ _
    | with_reducible exact Kin.byteOf _
    | with_reducible exact Kin.twoPlaces _ _
    | with_reducible exact Kin.unsafeAdd2 _ _ _ _
    | with_reducible exact Kin.addrSub _ _ _
    | with_reducible exact Kin.addrCmp _ _ _
    | with_reducible exact Kin.addrMod _ _ _
    | with_reducible exact Kin.unsafeAdd _ _ _ _
    | with_reducible exact Kin.movedNumber _ _ _
    | with_reducible exact Kin.movedPointer _ _ _
    | with_reducible exact Kin.intArith _ _ _ _
    | with_reducible exact Kin.intDiv _ _ _ _
    | with_reducible exact Kin.intBits _ _ _ _
    | with_reducible exact Kin.intCmp _ _ _
    | with_reducible exact Kin.shift _ _ _ _ _
    | with_reducible exact Kin.floatArith _ _ _ _
    | with_reducible exact Kin.floatCmp _ _ _ _
    | with_reducible exact Kin.stringOp _ _ _
    | with_reducible exact Kin.intToInt _ _
    | with_reducible exact Kin.floatToInt _ _ _
    | with_reducible exact Kin.floatToFloat _ _ _
    | with_reducible exact Kin.arithC _ _ _ _
    | with_reducible exact Kin.cmpC _ _ _ _
    | with_reducible exact Kin.convC _ _ _
    | with_reducible exact Kin.addC _ _
    | with_reducible exact Kin.subC _ _
    | with_reducible exact Kin.mulC _ _
    | with_reducible exact Kin.quoC _ _
    | with_reducible exact Kin.product _ _ _ _
    | with_reducible exact Kin.corrected _ _ _ _ _
    | with_reducible exact Kin.quotient _ _ _ _
    | with_reducible exact Kin.complexOp _ _ _ _ _ _
    | with_reducible exact Kin.sureAddr _
    | with_reducible exact Kin.partAt _ _ _
    | with_reducible exact Kin.fieldPlace _ _
    | with_reducible exact Kin.sliceBound _ _ _
    | with_reducible exact Kin.sliceBounds _ _ _ _ _ _
    | with_reducible exact Kin.slice _ _ _ _ _
    | with_reducible exact Kin.lenOf _
    | with_reducible exact Kin.firstCells _ _ _
    | with_reducible refine Kin.bindP ?_
    | with_reducible refine Kin.bind ?_ (fun _ => ?_)
    | with_reducible refine Kin.ite _ ?_ ?_
    | split
    | dsimp only))
theorem Kin.guardArr (d : Nat) {t e : TypeId} {n : Nat} (hU : P.underlying t = some (.array n e)) (h : flat1 P e = true) (x y : Value) : Kin P X (Op.eqGuardIn (d + 1 + 1) t x y) := by
  unfold Op.eqGuardIn
  refine Kin.under hU ?_
  (repeat' (first
    | contradiction
    | (intro b v a v' h; cases b <;> (simp [Go.unsupported, Go.mark, Sem.run] at h; done))
    | (intro v a v' h; first | (cases h; done) | (simp [Go.stuck, Go.unsupported, Sem.run] at h; done))
    | with_reducible exact Kin.pure _
    | with_reducible exact Kin.stuck _
    | exact Kin.unsupported _ (fun g hg => by cases hg)
    | with_reducible exact Kin.goPanic _
    | with_reducible exact Kin.load _
    | with_reducible exact Kin.store _ _
    | with_reducible exact Kin.choose _
    | with_reducible exact Kin.noRoom
    | with_reducible exact Kin.frozen _
    | with_reducible exact Kin.newRow _ _
    | (refine Kin.forInRange (fun _ _ => ?_) _ _)
    | (refine Kin.guard1 _ (by have hq : TypeDesc.array _ _ = TypeDesc.array _ _ := (by assumption); cases hq; exact h) _ _)
    | with_reducible exact Kin.typeInfo _
    | with_reducible exact Kin.underlying _
    | with_reducible exact Kin.zeroValue _
    | with_reducible exact Kin.sizeOf _
    | with_reducible exact Kin.isAgg _
    | with_reducible exact Kin.loadCells _ _
    | with_reducible exact Kin.storeCells _ _ _
    | with_reducible exact Kin.loadVar _ _
    | with_reducible exact Kin.storeVar _ _ _
    | with_reducible exact Kin.newVar _ _
    | with_reducible exact Kin.elemOf _
    | with_reducible exact Kin.part _ _ _
    | with_reducible exact Kin.askRoom _
    | with_reducible exact Kin.runtimePanic _
    | with_reducible exact Kin.boundsPanic _ _ _ _
    | with_reducible exact Kin.asIntOf _
    | with_reducible exact Kin.asBool _
    | with_reducible exact Kin.asString _
    | with_reducible exact Kin.asAgg _
    | with_reducible exact Kin.asAddr _
    | with_reducible exact Kin.asInt _
    | with_reducible exact Kin.numberAt _
    | with_reducible exact Kin.behindNumber _
    | with_reducible exact Kin.noView _
    | with_reducible exact Kin.asNumber _ _
    | with_reducible exact Kin.byteOf _
    | with_reducible exact Kin.twoPlaces _ _
    | with_reducible exact Kin.unsafeAdd2 _ _ _ _
    | with_reducible exact Kin.addrSub _ _ _
    | with_reducible exact Kin.addrCmp _ _ _
    | with_reducible exact Kin.addrMod _ _ _
    | with_reducible exact Kin.unsafeAdd _ _ _ _
    | with_reducible exact Kin.movedNumber _ _ _
    | with_reducible exact Kin.movedPointer _ _ _
    | with_reducible exact Kin.intArith _ _ _ _
    | with_reducible exact Kin.intDiv _ _ _ _
    | with_reducible exact Kin.intBits _ _ _ _
    | with_reducible exact Kin.intCmp _ _ _
    | with_reducible exact Kin.shift _ _ _ _ _
    | with_reducible exact Kin.floatArith _ _ _ _
    | with_reducible exact Kin.floatCmp _ _ _ _
    | with_reducible exact Kin.stringOp _ _ _
    | with_reducible exact Kin.intToInt _ _
    | with_reducible exact Kin.floatToInt _ _ _
    | with_reducible exact Kin.floatToFloat _ _ _
    | with_reducible exact Kin.arithC _ _ _ _
    | with_reducible exact Kin.cmpC _ _ _ _
    | with_reducible exact Kin.convC _ _ _
    | with_reducible exact Kin.addC _ _
    | with_reducible exact Kin.subC _ _
    | with_reducible exact Kin.mulC _ _
    | with_reducible exact Kin.quoC _ _
    | with_reducible exact Kin.product _ _ _ _
    | with_reducible exact Kin.corrected _ _ _ _ _
    | with_reducible exact Kin.quotient _ _ _ _
    | with_reducible exact Kin.complexOp _ _ _ _ _ _
    | with_reducible exact Kin.sureAddr _
    | with_reducible exact Kin.partAt _ _ _
    | with_reducible exact Kin.fieldPlace _ _
    | with_reducible exact Kin.sliceBound _ _ _
    | with_reducible exact Kin.sliceBounds _ _ _ _ _ _
    | with_reducible exact Kin.slice _ _ _ _ _
    | with_reducible exact Kin.lenOf _
    | with_reducible exact Kin.firstCells _ _ _
    | with_reducible refine Kin.bindP ?_
    | with_reducible refine Kin.bind ?_ (fun _ => ?_)
    | with_reducible refine Kin.ite _ ?_ ?_
    | split
    | dsimp only))
theorem Kin.equalFlat {t : TypeId} (h : flatT P t = true) (x y : Value) : Kin P X (Op.equal t x y) := by
  show Kin P X (Op.equalIn (9998 + 1 + 1) t x y)
  unfold flatT at h
  by_cases h1 : flat1 P t = true
  · exact Kin.equal1 _ h1 x y
  · have h := ((Bool.or_eq_true _ _).mp h).resolve_left h1
    split at h
    · exact Kin.equalArr _ (by assumption) h x y
    · cases h
theorem Kin.guardFlat {t : TypeId} (h : flatT P t = true) (x y : Value) : Kin P X (Op.eqGuardIn Op.maxDepth t x y) := by
  show Kin P X (Op.eqGuardIn (9998 + 1 + 1) t x y)
  unfold flatT at h
  by_cases h1 : flat1 P t = true
  · exact Kin.guard1 _ h1 x y
  · have h := ((Bool.or_eq_true _ _).mp h).resolve_left h1
    split at h
    · exact Kin.guardArr _ (by assumption) h x y
    · cases h
theorem Kin.equalNil {t e : TypeId} (hU : P.underlying t = some (.pointer e)) (x y : Value) (hxy : x = .pointer none ∨ y = .pointer none) : Kin P X (Op.equal t x y) := by
  show Kin P X (Op.equalIn (9999 + 1) t x y)
  unfold Op.equalIn
  refine Kin.under hU ?_
  rcases hxy with rfl | rfl
  · cases y <;> first | exact Kin.pure _ | exact Kin.stuck _
  · cases x with
    | pointer p => cases p <;> exact Kin.pure _
    | _ => exact Kin.stuck _
def fzO (a : Addr) (n : Nat) : Obj → Obj
  | .cells c e (lo, hi) => .cells c e (if (lo == hi) = true then (a.off, a.off + n) else (min lo a.off, max hi (a.off + n)))
  | o => o
theorem fz_no (a : Addr) (n : Nat) {o : Obj} (h : ¬ Obj.plain o) : fzO a n o = o := by cases o <;> first | rfl | exact absurd trivial h
theorem fz_plain (a : Addr) (n : Nat) {o : Obj} (h : Obj.plain o) : Obj.plain (fzO a n o) := by cases o <;> first | trivial | exact h
theorem fz_dim (a : Addr) (n : Nat) (o : Obj) : fzO a n (dimO o) = dimO o := by cases o <;> rfl
theorem freeze_at (w : World) (a : Addr) (n b : Nat) : (w.freeze a n).heap[b]? = (w.heap[b]?).map fun o => if n ≠ 0 ∧ a.block = b then fzO a n o else o := by
  unfold World.freeze
  by_cases hn : n = 0
  · simp [hn]
  · simp only [hn, if_false, Array.getElem?_modify]
    by_cases hb : a.block = b
    · simp only [hb, if_true]
      cases w.heap[b]? with
      | none => rfl
      | some o => cases o <;> simp [fzO, hn]
    · simp [hb]
theorem freeze_rest (w : World) (a : Addr) (n : Nat) : (w.freeze a n).heap.size = w.heap.size ∧ (w.freeze a n).tape = w.tape ∧ (w.freeze a n).drawn = w.drawn ∧ (w.freeze a n).os = w.os ∧ (w.freeze a n).output = w.output := by
  unfold World.freeze
  split <;> simp
theorem freeze_vw (w : World) (a : Addr) (n b : Nat) {o : Obj} (h : (w.freeze a n).heap[b]? = some o) (ho : ¬ Obj.plain o) : w.heap[b]? = some o := by
  rw [freeze_at] at h
  cases hb : w.heap[b]? with
  | none => rw [hb] at h; cases h
  | some o1 =>
    rw [hb] at h
    simp only [Option.map_some, Option.some.injEq] at h
    by_cases h1 : Obj.plain o1
    · exfalso
      refine ho ?_
      rw [← h]
      split
      · exact fz_plain a n h1
      · exact h1
    · rw [fz_no a n h1, ite_self] at h
      rw [h]
theorem freeze_keep (w : World) (a : Addr) (n b : Nat) {o : Obj} (h : w.heap[b]? = some o) (ho : ¬ Obj.plain o) : (w.freeze a n).heap[b]? = some o := by
  rw [freeze_at, h]
  simp [fz_no a n ho]
theorem NoView.freeze {w : World} (h : NoView w) (a : Addr) (n : Nat) : NoView (w.freeze a n) := fun b o ho => by
  by_cases hp : Obj.plain o
  · exact hp
  · exact h b o (freeze_vw w a n b ho hp)
theorem freeze_sim {a : Addr} {n : Nat} {v w : World} (hv : Veil X v w) (hX : ¬ X a.block) (x : Unit) (v' : World) (h : (Go.freeze a n).run P v = .ok x v') : Out P X (Go.freeze a n) v w x v' := by
  cases h
  obtain ⟨v1, v2, v3, v4, v5⟩ := freeze_rest v a n
  obtain ⟨w1, w2, w3, w4, w5⟩ := freeze_rest w a n
  have hfx : ∀ (u : World) b, X b → (u.freeze a n).heap[b]? = u.heap[b]? := fun u b hb => by
    rw [freeze_at]
    have hne : ¬ (n ≠ 0 ∧ a.block = b) := fun ⟨_, e⟩ => hX (e ▸ hb)
    simp only [hne, if_false]
    cases u.heap[b]? <;> rfl
  refine ⟨w.freeze a n, rfl, ⟨by rw [v1, w1, hv.size], fun b hb hbv => ?_, fun b hb => ?_, fun b o hbo hbn => ?_, by rw [v4, w4, hv.os], by rw [v5, w5, hv.out], ?_⟩, ⟨fun b hb => ?_, fun b ⟨o, h1, h2⟩ => ⟨o, freeze_vw w a n b h1 h2, h2⟩⟩, by show (w.freeze a n).drawn + v.drawn = (v.freeze a n).drawn + w.drawn; rw [v3, w3]; omega, v2, w2, fun es => ⟨#[], by simp [Sem.events, Go.freeze, Sem.runT], fun e he => by simp at he⟩⟩
  · rw [freeze_at, freeze_at, hv.same b hb fun ⟨o, h1, h2⟩ => hbv ⟨o, freeze_keep w a n b h1 h2, h2⟩]
  · rw [hfx v b hb, hfx w b hb]
    exact hv.dark b hb
  · rw [freeze_at, hv.dim b o (freeze_vw w a n b hbo hbn) hbn]
    simp [fz_dim]
  · rcases hv.real with h | ⟨h1, h2⟩
    · exact .inl (h.freeze a n)
    · exact .inr ⟨by rw [v3, w3, h1], by rw [v2, w2, h2]⟩
  · rcases hb with hb | ⟨o, h1, h2⟩
    · exact hfx w b hb
    · rw [freeze_keep w a n b h1 h2, h1]
theorem shape_sim1 {r : Nat} {v w : World} (hv : Veil X v w) (hX : ¬ X r) {x : Option (TypeId × Nat)} {v' : World} (h : (Go.shape r).run P v = .ok x v') : Out P X (Go.shape r) v w x v' := by
  cases h
  have hs : w.shape? r = v.shape? r := by
    unfold World.shape?
    by_cases hV : Vw w r
    · obtain ⟨o, h1, h2⟩ := hV
      rw [hv.dim _ _ h1 h2, h1]
      cases o <;> first | rfl | exact absurd trivial h2
    · rw [hv.same _ hX hV]
  exact ⟨w, by simp only [Go.shape, Sem.run, hs], hv, Keep.refl _ _, by omega, rfl, rfl, fun es => ⟨#[], by simp [Sem.events, Go.shape, Sem.runT], fun e he => by simp at he⟩⟩
/-- A row just made is marked. -/
theorem Kin.markStringish {a : Addr} (hX : ¬ X a.block) : Kin P X (Go.markStringish a) := by
  unfold Go.markStringish
  refine Kin.bind ⟨fun w _ x w' h => (by cases h), shape_mono _, fun v w x v' hv _ h => shape_sim1 hv hX h⟩ fun s => ?_
  split
  · refine ⟨fun w _ x w' h => (by cases h), fun w hw => ⟨?_, hw.freeze _ _, ?_⟩, fun v w x v' hv _ h => freeze_sim (a := { block := a.block, off := _ }) hv hX x v' h⟩
    · rw [(freeze_rest w _ _).2.2.1]; exact Nat.le_refl _
    · rw [(freeze_rest w _ _).1]; exact Nat.le_refl _
  · exact Kin.pure _
theorem ask_rest {α : Type} : ∀ (m : Ask α) (w : World), (w.ask m).2.heap = w.heap ∧ w.drawn ≤ (w.ask m).2.drawn
  | .done a, w => ⟨rfl, Nat.le_refl _⟩
  | .ask what range k, w => by
    unfold World.ask
    dsimp only
    split
    · exact ask_rest (k 0) w
    · obtain ⟨h1, h2⟩ := ask_rest (k ((Question.extern what range).cut (w.tape w.drawn (Question.extern what range)))) { w with drawn := w.drawn + 1 }
      exact ⟨h1, Nat.le_trans (Nat.le_succ _) h2⟩
theorem sys_mono (c : Sys) : MonoP P (Go.sys c) := fun w hw => by
  have h : (w.sys c).2.heap = w.heap ∧ w.drawn ≤ (w.sys c).2.drawn := by
    have := ask_rest (Kernel.perform c w.os) w
    unfold World.sys
    split
    · exact ⟨rfl, Nat.le_refl _⟩
    · rename_i heq
      rw [heq] at this
      exact this
  show w.drawn ≤ (w.sys c).2.drawn ∧ NoView (w.sys c).2 ∧ w.heap.size ≤ (w.sys c).2.heap.size
  exact ⟨h.2, fun b o ho => hw b o (by rw [← h.1]; exact ho), by rw [h.1]; exact Nat.le_refl _⟩
theorem never_bind {α β : Type} {s : Sem α} {f : α → Sem β} (h : ∀ a v b v', (f a).run P v ≠ .ok b v') : ∀ v b v', (s >>= f).run P v ≠ .ok b v' := fun v b v' e => by
  rw [Sem.run_bind] at e
  cases hs : s.run P v with
  | halt x w1 => rw [hs] at e; cases e
  | ok a w1 => rw [hs] at e; exact h a w1 b v' e
theorem never_panicNil : ∀ v b v', (Go.runtimePanic .panicNil : Sem Value).run P v ≠ .ok b v' := by
  unfold Go.runtimePanic
  dsimp only
  repeat (first | (refine never_bind fun _ => ?_) | (intro v b v' h; cases h; done))
theorem Kin.panic (x : Value) : Kin P X (Instr.panic x) := by
  cases x with
  | iface t v => exact Kin.goPanic _
  | nilIface =>
    have hp : HalP P Instr.panicnil := by
      unfold Instr.panicnil
      refine HalP.bind ⟨sys_mono _, fun w _ x w' h => by cases h⟩ fun r => ?_
      split
      · exact HalP.of (Kin.bindP (Kin.pure _))
      · exact HalP.of (Kin.stuck _)
    have hq : ∀ n : Int, HalP P (if (n == 1) = true then Go.goPanic .nilIface else Go.runtimePanic .panicNil : Sem Value) := fun n => HalP.of (Kin.ite _ (Kin.goPanic _) (Kin.runtimePanic _))
    have hall : HalP P (Instr.panicnil >>= fun n => (if (n == 1) = true then Go.goPanic .nilIface else Go.runtimePanic .panicNil : Sem Value)) := HalP.bind hp hq
    refine Kin.dead hall.2 hall.1 (fun v a v' h => ?_)
    have h : (Instr.panicnil >>= fun n => (if (n == 1) = true then Go.goPanic .nilIface else Go.runtimePanic .panicNil : Sem Value)).run P v = .ok a v' := h
    rw [Sem.run_bind] at h
    cases hr : Instr.panicnil.run P v with
    | halt y w' => rw [hr] at h; cases h
    | ok n v1 =>
      rw [hr] at h
      simp only [Result.andThen_ok] at h
      split at h
      · cases h
      · exact never_panicNil _ _ _ h
  | _ => exact Kin.stuck _
theorem Kin.eqGuard (op : BinOp) (t : TypeId) (h : isEq op = true → flatT P t = true) (x y : Operand) (a b : Value) : Kin P X (Go.eqGuard op t x y a b) := by
  by_cases he : isEq op = true
  · have hf := h he
    unfold Go.eqGuard
    (repeat' (first
    | contradiction
    | (intro b v a v' h; cases b <;> (simp [Go.unsupported, Go.mark, Sem.run] at h; done))
    | (intro v a v' h; first | (cases h; done) | (simp [Go.stuck, Go.unsupported, Sem.run] at h; done))
    | with_reducible exact Kin.pure _
    | with_reducible exact Kin.stuck _
    | exact Kin.unsupported _ (fun g hg => by cases hg)
    | with_reducible exact Kin.goPanic _
    | with_reducible exact Kin.load _
    | with_reducible exact Kin.store _ _
    | with_reducible exact Kin.choose _
    | with_reducible exact Kin.noRoom
    | with_reducible exact Kin.frozen _
    | with_reducible exact Kin.newRow _ _
    | with_reducible exact Kin.guardFlat hf _ _
    | with_reducible exact Kin.typeInfo _
    | with_reducible exact Kin.underlying _
    | with_reducible exact Kin.zeroValue _
    | with_reducible exact Kin.sizeOf _
    | with_reducible exact Kin.isAgg _
    | with_reducible exact Kin.loadCells _ _
    | with_reducible exact Kin.storeCells _ _ _
    | with_reducible exact Kin.loadVar _ _
    | with_reducible exact Kin.storeVar _ _ _
    | with_reducible exact Kin.newVar _ _
    | with_reducible exact Kin.elemOf _
    | with_reducible exact Kin.part _ _ _
    | with_reducible exact Kin.askRoom _
    | with_reducible exact Kin.runtimePanic _
    | with_reducible exact Kin.boundsPanic _ _ _ _
    | with_reducible exact Kin.asIntOf _
    | with_reducible exact Kin.asBool _
    | with_reducible exact Kin.asString _
    | with_reducible exact Kin.asAgg _
    | with_reducible exact Kin.asAddr _
    | with_reducible exact Kin.asInt _
    | with_reducible exact Kin.numberAt _
    | with_reducible exact Kin.behindNumber _
    | with_reducible exact Kin.noView _
    | with_reducible exact Kin.asNumber _ _
    | with_reducible exact Kin.byteOf _
    | with_reducible exact Kin.twoPlaces _ _
    | with_reducible exact Kin.unsafeAdd2 _ _ _ _
    | with_reducible exact Kin.addrSub _ _ _
    | with_reducible exact Kin.addrCmp _ _ _
    | with_reducible exact Kin.addrMod _ _ _
    | with_reducible exact Kin.unsafeAdd _ _ _ _
    | with_reducible exact Kin.movedNumber _ _ _
    | with_reducible exact Kin.movedPointer _ _ _
    | with_reducible exact Kin.intArith _ _ _ _
    | with_reducible exact Kin.intDiv _ _ _ _
    | with_reducible exact Kin.intBits _ _ _ _
    | with_reducible exact Kin.intCmp _ _ _
    | with_reducible exact Kin.shift _ _ _ _ _
    | with_reducible exact Kin.floatArith _ _ _ _
    | with_reducible exact Kin.floatCmp _ _ _ _
    | with_reducible exact Kin.stringOp _ _ _
    | with_reducible exact Kin.intToInt _ _
    | with_reducible exact Kin.floatToInt _ _ _
    | with_reducible exact Kin.floatToFloat _ _ _
    | with_reducible exact Kin.arithC _ _ _ _
    | with_reducible exact Kin.cmpC _ _ _ _
    | with_reducible exact Kin.convC _ _ _
    | with_reducible exact Kin.addC _ _
    | with_reducible exact Kin.subC _ _
    | with_reducible exact Kin.mulC _ _
    | with_reducible exact Kin.quoC _ _
    | with_reducible exact Kin.product _ _ _ _
    | with_reducible exact Kin.corrected _ _ _ _ _
    | with_reducible exact Kin.quotient _ _ _ _
    | with_reducible exact Kin.complexOp _ _ _ _ _ _
    | with_reducible exact Kin.sureAddr _
    | with_reducible exact Kin.partAt _ _ _
    | with_reducible exact Kin.fieldPlace _ _
    | with_reducible exact Kin.sliceBound _ _ _
    | with_reducible exact Kin.sliceBounds _ _ _ _ _ _
    | with_reducible exact Kin.slice _ _ _ _ _
    | with_reducible exact Kin.lenOf _
    | with_reducible exact Kin.firstCells _ _ _
    | with_reducible refine Kin.bindP ?_
    | with_reducible refine Kin.bind ?_ (fun _ => ?_)
    | with_reducible refine Kin.ite _ ?_ ?_
    | split
    | dsimp only))
  · have : (op matches .eql | .neq) = false := by cases op <;> first | rfl | exact absurd rfl he
    unfold Go.eqGuard
    cases op <;> first | exact absurd rfl he | exact Kin.pure _
theorem Kin.binOp (op : BinOp) (t : TypeId) (h : isEq op = true → flatT P t = true) (x y : Value) : Kin P X (Go.binOp op t x y) := by
  by_cases he : isEq op = true
  · have hf := h he
    unfold Go.binOp
    (repeat' (first
    | contradiction
    | (intro b v a v' h; cases b <;> (simp [Go.unsupported, Go.mark, Sem.run] at h; done))
    | (intro v a v' h; first | (cases h; done) | (simp [Go.stuck, Go.unsupported, Sem.run] at h; done))
    | with_reducible exact Kin.pure _
    | with_reducible exact Kin.stuck _
    | exact Kin.unsupported _ (fun g hg => by cases hg)
    | with_reducible exact Kin.goPanic _
    | with_reducible exact Kin.load _
    | with_reducible exact Kin.store _ _
    | with_reducible exact Kin.choose _
    | with_reducible exact Kin.noRoom
    | with_reducible exact Kin.frozen _
    | with_reducible exact Kin.newRow _ _
    | with_reducible exact Kin.equalFlat hf _ _
    | with_reducible exact Kin.shift _ _ _ _ _
    | with_reducible exact Kin.typeInfo _
    | with_reducible exact Kin.underlying _
    | with_reducible exact Kin.zeroValue _
    | with_reducible exact Kin.sizeOf _
    | with_reducible exact Kin.isAgg _
    | with_reducible exact Kin.loadCells _ _
    | with_reducible exact Kin.storeCells _ _ _
    | with_reducible exact Kin.loadVar _ _
    | with_reducible exact Kin.storeVar _ _ _
    | with_reducible exact Kin.newVar _ _
    | with_reducible exact Kin.elemOf _
    | with_reducible exact Kin.part _ _ _
    | with_reducible exact Kin.askRoom _
    | with_reducible exact Kin.runtimePanic _
    | with_reducible exact Kin.boundsPanic _ _ _ _
    | with_reducible exact Kin.asIntOf _
    | with_reducible exact Kin.asBool _
    | with_reducible exact Kin.asString _
    | with_reducible exact Kin.asAgg _
    | with_reducible exact Kin.asAddr _
    | with_reducible exact Kin.asInt _
    | with_reducible exact Kin.numberAt _
    | with_reducible exact Kin.behindNumber _
    | with_reducible exact Kin.noView _
    | with_reducible exact Kin.asNumber _ _
    | with_reducible exact Kin.byteOf _
    | with_reducible exact Kin.twoPlaces _ _
    | with_reducible exact Kin.unsafeAdd2 _ _ _ _
    | with_reducible exact Kin.addrSub _ _ _
    | with_reducible exact Kin.addrCmp _ _ _
    | with_reducible exact Kin.addrMod _ _ _
    | with_reducible exact Kin.unsafeAdd _ _ _ _
    | with_reducible exact Kin.movedNumber _ _ _
    | with_reducible exact Kin.movedPointer _ _ _
    | with_reducible exact Kin.intArith _ _ _ _
    | with_reducible exact Kin.intDiv _ _ _ _
    | with_reducible exact Kin.intBits _ _ _ _
    | with_reducible exact Kin.intCmp _ _ _
    | with_reducible exact Kin.shift _ _ _ _ _
    | with_reducible exact Kin.floatArith _ _ _ _
    | with_reducible exact Kin.floatCmp _ _ _ _
    | with_reducible exact Kin.stringOp _ _ _
    | with_reducible exact Kin.intToInt _ _
    | with_reducible exact Kin.floatToInt _ _ _
    | with_reducible exact Kin.floatToFloat _ _ _
    | with_reducible exact Kin.arithC _ _ _ _
    | with_reducible exact Kin.cmpC _ _ _ _
    | with_reducible exact Kin.convC _ _ _
    | with_reducible exact Kin.addC _ _
    | with_reducible exact Kin.subC _ _
    | with_reducible exact Kin.mulC _ _
    | with_reducible exact Kin.quoC _ _
    | with_reducible exact Kin.product _ _ _ _
    | with_reducible exact Kin.corrected _ _ _ _ _
    | with_reducible exact Kin.quotient _ _ _ _
    | with_reducible exact Kin.complexOp _ _ _ _ _ _
    | with_reducible exact Kin.sureAddr _
    | with_reducible exact Kin.partAt _ _ _
    | with_reducible exact Kin.fieldPlace _ _
    | with_reducible exact Kin.sliceBound _ _ _
    | with_reducible exact Kin.sliceBounds _ _ _ _ _ _
    | with_reducible exact Kin.slice _ _ _ _ _
    | with_reducible exact Kin.lenOf _
    | with_reducible exact Kin.firstCells _ _ _
    | with_reducible refine Kin.bindP ?_
    | with_reducible refine Kin.bind ?_ (fun _ => ?_)
    | with_reducible refine Kin.ite _ ?_ ?_
    | split
    | dsimp only))
  · unfold Go.binOp
    (repeat' (first
    | contradiction
    | (intro b v a v' h; cases b <;> (simp [Go.unsupported, Go.mark, Sem.run] at h; done))
    | (intro v a v' h; first | (cases h; done) | (simp [Go.stuck, Go.unsupported, Sem.run] at h; done))
    | with_reducible exact Kin.pure _
    | with_reducible exact Kin.stuck _
    | exact Kin.unsupported _ (fun g hg => by cases hg)
    | with_reducible exact Kin.goPanic _
    | with_reducible exact Kin.load _
    | with_reducible exact Kin.store _ _
    | with_reducible exact Kin.choose _
    | with_reducible exact Kin.noRoom
    | with_reducible exact Kin.frozen _
    | with_reducible exact Kin.newRow _ _
    | with_reducible exact absurd rfl he
    | (exact absurd rfl he)
    | with_reducible exact Kin.shift _ _ _ _ _
    | with_reducible exact Kin.typeInfo _
    | with_reducible exact Kin.underlying _
    | with_reducible exact Kin.zeroValue _
    | with_reducible exact Kin.sizeOf _
    | with_reducible exact Kin.isAgg _
    | with_reducible exact Kin.loadCells _ _
    | with_reducible exact Kin.storeCells _ _ _
    | with_reducible exact Kin.loadVar _ _
    | with_reducible exact Kin.storeVar _ _ _
    | with_reducible exact Kin.newVar _ _
    | with_reducible exact Kin.elemOf _
    | with_reducible exact Kin.part _ _ _
    | with_reducible exact Kin.askRoom _
    | with_reducible exact Kin.runtimePanic _
    | with_reducible exact Kin.boundsPanic _ _ _ _
    | with_reducible exact Kin.asIntOf _
    | with_reducible exact Kin.asBool _
    | with_reducible exact Kin.asString _
    | with_reducible exact Kin.asAgg _
    | with_reducible exact Kin.asAddr _
    | with_reducible exact Kin.asInt _
    | with_reducible exact Kin.numberAt _
    | with_reducible exact Kin.behindNumber _
    | with_reducible exact Kin.noView _
    | with_reducible exact Kin.asNumber _ _
    | with_reducible exact Kin.byteOf _
    | with_reducible exact Kin.twoPlaces _ _
    | with_reducible exact Kin.unsafeAdd2 _ _ _ _
    | with_reducible exact Kin.addrSub _ _ _
    | with_reducible exact Kin.addrCmp _ _ _
    | with_reducible exact Kin.addrMod _ _ _
    | with_reducible exact Kin.unsafeAdd _ _ _ _
    | with_reducible exact Kin.movedNumber _ _ _
    | with_reducible exact Kin.movedPointer _ _ _
    | with_reducible exact Kin.intArith _ _ _ _
    | with_reducible exact Kin.intDiv _ _ _ _
    | with_reducible exact Kin.intBits _ _ _ _
    | with_reducible exact Kin.intCmp _ _ _
    | with_reducible exact Kin.shift _ _ _ _ _
    | with_reducible exact Kin.floatArith _ _ _ _
    | with_reducible exact Kin.floatCmp _ _ _ _
    | with_reducible exact Kin.stringOp _ _ _
    | with_reducible exact Kin.intToInt _ _
    | with_reducible exact Kin.floatToInt _ _ _
    | with_reducible exact Kin.floatToFloat _ _ _
    | with_reducible exact Kin.arithC _ _ _ _
    | with_reducible exact Kin.cmpC _ _ _ _
    | with_reducible exact Kin.convC _ _ _
    | with_reducible exact Kin.addC _ _
    | with_reducible exact Kin.subC _ _
    | with_reducible exact Kin.mulC _ _
    | with_reducible exact Kin.quoC _ _
    | with_reducible exact Kin.product _ _ _ _
    | with_reducible exact Kin.corrected _ _ _ _ _
    | with_reducible exact Kin.quotient _ _ _ _
    | with_reducible exact Kin.complexOp _ _ _ _ _ _
    | with_reducible exact Kin.sureAddr _
    | with_reducible exact Kin.partAt _ _ _
    | with_reducible exact Kin.fieldPlace _ _
    | with_reducible exact Kin.sliceBound _ _ _
    | with_reducible exact Kin.sliceBounds _ _ _ _ _ _
    | with_reducible exact Kin.slice _ _ _ _ _
    | with_reducible exact Kin.lenOf _
    | with_reducible exact Kin.firstCells _ _ _
    | with_reducible refine Kin.bindP ?_
    | with_reducible refine Kin.bind ?_ (fun _ => ?_)
    | with_reducible refine Kin.ite _ ?_ ?_
    | split
    | dsimp only))
theorem Kin.convert (s d : TypeId) (hs : intT P s = true) (hd : intT P d = true) (x : Value) : Kin P X (Go.convert s d x) := by
  obtain ⟨k1, h1⟩ := intT_or hs
  obtain ⟨k2, h2⟩ := intT_or hd
  unfold Go.convert
  refine Kin.under h1 (Kin.under h2 ?_)
  (repeat' (first
    | contradiction
    | (intro b v a v' h; cases b <;> (simp [Go.unsupported, Go.mark, Sem.run] at h; done))
    | (intro v a v' h; first | (cases h; done) | (simp [Go.stuck, Go.unsupported, Sem.run] at h; done))
    | with_reducible exact Kin.pure _
    | with_reducible exact Kin.stuck _
    | exact Kin.unsupported _ (fun g hg => by cases hg)
    | with_reducible exact Kin.goPanic _
    | with_reducible exact Kin.load _
    | with_reducible exact Kin.store _ _
    | with_reducible exact Kin.choose _
    | with_reducible exact Kin.noRoom
    | with_reducible exact Kin.frozen _
    | with_reducible exact Kin.newRow _ _
    | with_reducible exact Kin.intToInt _ _
    | with_reducible exact Kin.floatToInt _ _ _
    | with_reducible exact Kin.typeInfo _
    | with_reducible exact Kin.underlying _
    | with_reducible exact Kin.zeroValue _
    | with_reducible exact Kin.sizeOf _
    | with_reducible exact Kin.isAgg _
    | with_reducible exact Kin.loadCells _ _
    | with_reducible exact Kin.storeCells _ _ _
    | with_reducible exact Kin.loadVar _ _
    | with_reducible exact Kin.storeVar _ _ _
    | with_reducible exact Kin.newVar _ _
    | with_reducible exact Kin.elemOf _
    | with_reducible exact Kin.part _ _ _
    | with_reducible exact Kin.askRoom _
    | with_reducible exact Kin.runtimePanic _
    | with_reducible exact Kin.boundsPanic _ _ _ _
    | with_reducible exact Kin.asIntOf _
    | with_reducible exact Kin.asBool _
    | with_reducible exact Kin.asString _
    | with_reducible exact Kin.asAgg _
    | with_reducible exact Kin.asAddr _
    | with_reducible exact Kin.asInt _
    | with_reducible exact Kin.numberAt _
    | with_reducible exact Kin.behindNumber _
    | with_reducible exact Kin.noView _
    | with_reducible exact Kin.asNumber _ _
    | with_reducible exact Kin.byteOf _
    | with_reducible exact Kin.twoPlaces _ _
    | with_reducible exact Kin.unsafeAdd2 _ _ _ _
    | with_reducible exact Kin.addrSub _ _ _
    | with_reducible exact Kin.addrCmp _ _ _
    | with_reducible exact Kin.addrMod _ _ _
    | with_reducible exact Kin.unsafeAdd _ _ _ _
    | with_reducible exact Kin.movedNumber _ _ _
    | with_reducible exact Kin.movedPointer _ _ _
    | with_reducible exact Kin.intArith _ _ _ _
    | with_reducible exact Kin.intDiv _ _ _ _
    | with_reducible exact Kin.intBits _ _ _ _
    | with_reducible exact Kin.intCmp _ _ _
    | with_reducible exact Kin.shift _ _ _ _ _
    | with_reducible exact Kin.floatArith _ _ _ _
    | with_reducible exact Kin.floatCmp _ _ _ _
    | with_reducible exact Kin.stringOp _ _ _
    | with_reducible exact Kin.intToInt _ _
    | with_reducible exact Kin.floatToInt _ _ _
    | with_reducible exact Kin.floatToFloat _ _ _
    | with_reducible exact Kin.arithC _ _ _ _
    | with_reducible exact Kin.cmpC _ _ _ _
    | with_reducible exact Kin.convC _ _ _
    | with_reducible exact Kin.addC _ _
    | with_reducible exact Kin.subC _ _
    | with_reducible exact Kin.mulC _ _
    | with_reducible exact Kin.quoC _ _
    | with_reducible exact Kin.product _ _ _ _
    | with_reducible exact Kin.corrected _ _ _ _ _
    | with_reducible exact Kin.quotient _ _ _ _
    | with_reducible exact Kin.complexOp _ _ _ _ _ _
    | with_reducible exact Kin.sureAddr _
    | with_reducible exact Kin.partAt _ _ _
    | with_reducible exact Kin.fieldPlace _ _
    | with_reducible exact Kin.sliceBound _ _ _
    | with_reducible exact Kin.sliceBounds _ _ _ _ _ _
    | with_reducible exact Kin.slice _ _ _ _ _
    | with_reducible exact Kin.lenOf _
    | with_reducible exact Kin.firstCells _ _ _
    | with_reducible refine Kin.bindP ?_
    | with_reducible refine Kin.bind ?_ (fun _ => ?_)
    | with_reducible refine Kin.ite _ ?_ ?_
    | split
    | dsimp only))
theorem Kin.followBlind : ∀ (l : List FieldStep) (t : TypeId) (x : Option Value), Kin P X (Go.followBlind l t x)
  | [], t, x => Kin.pure _
  | s :: rest, t, x => by
    have ih : ∀ t x, Kin P X (Go.followBlind rest t x) := Kin.followBlind rest
    unfold Go.followBlind
    (repeat' (first
      | contradiction
      | (intro b v a v' h; cases b <;> (simp [Go.unsupported, Go.mark, Sem.run] at h; done))
      | (intro v a v' h; first | (cases h; done) | (simp [Go.stuck, Go.unsupported, Sem.run] at h; done))
      | with_reducible exact Kin.pure _
      | with_reducible exact Kin.stuck _
      | exact Kin.unsupported _ (fun g hg => by cases hg)
      | with_reducible exact Kin.goPanic _
      | with_reducible exact Kin.load _
      | with_reducible exact Kin.store _ _
      | with_reducible exact Kin.choose _
      | with_reducible exact Kin.noRoom
      | with_reducible exact Kin.frozen _
      | with_reducible exact Kin.newRow _ _
      | with_reducible exact ih _ _
      | with_reducible exact Kin.typeInfo _
      | with_reducible exact Kin.underlying _
      | with_reducible exact Kin.zeroValue _
      | with_reducible exact Kin.sizeOf _
      | with_reducible exact Kin.isAgg _
      | with_reducible exact Kin.loadCells _ _
      | with_reducible exact Kin.storeCells _ _ _
      | with_reducible exact Kin.loadVar _ _
      | with_reducible exact Kin.storeVar _ _ _
      | with_reducible exact Kin.newVar _ _
      | with_reducible exact Kin.elemOf _
      | with_reducible exact Kin.part _ _ _
      | with_reducible exact Kin.askRoom _
      | with_reducible exact Kin.runtimePanic _
      | with_reducible exact Kin.boundsPanic _ _ _ _
      | with_reducible exact Kin.asIntOf _
      | with_reducible exact Kin.asBool _
      | with_reducible exact Kin.asString _
      | with_reducible exact Kin.asAgg _
      | with_reducible exact Kin.asAddr _
      | with_reducible exact Kin.asInt _
      | with_reducible exact Kin.numberAt _
      | with_reducible exact Kin.behindNumber _
      | with_reducible exact Kin.noView _
      | with_reducible exact Kin.asNumber _ _
      | with_reducible exact Kin.byteOf _
      | with_reducible exact Kin.twoPlaces _ _
      | with_reducible exact Kin.unsafeAdd2 _ _ _ _
      | with_reducible exact Kin.addrSub _ _ _
      | with_reducible exact Kin.addrCmp _ _ _
      | with_reducible exact Kin.addrMod _ _ _
      | with_reducible exact Kin.unsafeAdd _ _ _ _
      | with_reducible exact Kin.movedNumber _ _ _
      | with_reducible exact Kin.movedPointer _ _ _
      | with_reducible exact Kin.intArith _ _ _ _
      | with_reducible exact Kin.intDiv _ _ _ _
      | with_reducible exact Kin.intBits _ _ _ _
      | with_reducible exact Kin.intCmp _ _ _
      | with_reducible exact Kin.shift _ _ _ _ _
      | with_reducible exact Kin.floatArith _ _ _ _
      | with_reducible exact Kin.floatCmp _ _ _ _
      | with_reducible exact Kin.stringOp _ _ _
      | with_reducible exact Kin.intToInt _ _
      | with_reducible exact Kin.floatToInt _ _ _
      | with_reducible exact Kin.floatToFloat _ _ _
      | with_reducible exact Kin.arithC _ _ _ _
      | with_reducible exact Kin.cmpC _ _ _ _
      | with_reducible exact Kin.convC _ _ _
      | with_reducible exact Kin.addC _ _
      | with_reducible exact Kin.subC _ _
      | with_reducible exact Kin.mulC _ _
      | with_reducible exact Kin.quoC _ _
      | with_reducible exact Kin.product _ _ _ _
      | with_reducible exact Kin.corrected _ _ _ _ _
      | with_reducible exact Kin.quotient _ _ _ _
      | with_reducible exact Kin.complexOp _ _ _ _ _ _
      | with_reducible exact Kin.sureAddr _
      | with_reducible exact Kin.partAt _ _ _
      | with_reducible exact Kin.fieldPlace _ _
      | with_reducible exact Kin.sliceBound _ _ _
      | with_reducible exact Kin.sliceBounds _ _ _ _ _ _
      | with_reducible exact Kin.slice _ _ _ _ _
      | with_reducible exact Kin.lenOf _
      | with_reducible exact Kin.firstCells _ _ _
      | with_reducible refine Kin.bindP ?_
      | with_reducible refine Kin.bind ?_ (fun _ => ?_)
      | with_reducible refine Kin.ite _ ?_ ?_
      | split
      | dsimp only))
theorem Kin.nilAhead : ∀ (n : Nat) (t : TypeId) (v : Value) (s : String), Kin P X (Go.nilAhead n t v s)
  | 0, t, v, s => Kin.pure _
  | n + 1, t, v, s => by
    have ih : ∀ t v s, Kin P X (Go.nilAhead n t v s) := Kin.nilAhead n
    unfold Go.nilAhead
    (repeat' (first
      | contradiction
      | (intro b v a v' h; cases b <;> (simp [Go.unsupported, Go.mark, Sem.run] at h; done))
      | (intro v a v' h; first | (cases h; done) | (simp [Go.stuck, Go.unsupported, Sem.run] at h; done))
      | with_reducible exact Kin.pure _
      | with_reducible exact Kin.stuck _
      | exact Kin.unsupported _ (fun g hg => by cases hg)
      | with_reducible exact Kin.goPanic _
      | with_reducible exact Kin.load _
      | with_reducible exact Kin.store _ _
      | with_reducible exact Kin.choose _
      | with_reducible exact Kin.noRoom
      | with_reducible exact Kin.frozen _
      | with_reducible exact Kin.newRow _ _
      | with_reducible exact ih _ _ _
      | with_reducible exact Kin.followBlind _ _ _
      | with_reducible exact Kin.typeInfo _
      | with_reducible exact Kin.underlying _
      | with_reducible exact Kin.zeroValue _
      | with_reducible exact Kin.sizeOf _
      | with_reducible exact Kin.isAgg _
      | with_reducible exact Kin.loadCells _ _
      | with_reducible exact Kin.storeCells _ _ _
      | with_reducible exact Kin.loadVar _ _
      | with_reducible exact Kin.storeVar _ _ _
      | with_reducible exact Kin.newVar _ _
      | with_reducible exact Kin.elemOf _
      | with_reducible exact Kin.part _ _ _
      | with_reducible exact Kin.askRoom _
      | with_reducible exact Kin.runtimePanic _
      | with_reducible exact Kin.boundsPanic _ _ _ _
      | with_reducible exact Kin.asIntOf _
      | with_reducible exact Kin.asBool _
      | with_reducible exact Kin.asString _
      | with_reducible exact Kin.asAgg _
      | with_reducible exact Kin.asAddr _
      | with_reducible exact Kin.asInt _
      | with_reducible exact Kin.numberAt _
      | with_reducible exact Kin.behindNumber _
      | with_reducible exact Kin.noView _
      | with_reducible exact Kin.asNumber _ _
      | with_reducible exact Kin.byteOf _
      | with_reducible exact Kin.twoPlaces _ _
      | with_reducible exact Kin.unsafeAdd2 _ _ _ _
      | with_reducible exact Kin.addrSub _ _ _
      | with_reducible exact Kin.addrCmp _ _ _
      | with_reducible exact Kin.addrMod _ _ _
      | with_reducible exact Kin.unsafeAdd _ _ _ _
      | with_reducible exact Kin.movedNumber _ _ _
      | with_reducible exact Kin.movedPointer _ _ _
      | with_reducible exact Kin.intArith _ _ _ _
      | with_reducible exact Kin.intDiv _ _ _ _
      | with_reducible exact Kin.intBits _ _ _ _
      | with_reducible exact Kin.intCmp _ _ _
      | with_reducible exact Kin.shift _ _ _ _ _
      | with_reducible exact Kin.floatArith _ _ _ _
      | with_reducible exact Kin.floatCmp _ _ _ _
      | with_reducible exact Kin.stringOp _ _ _
      | with_reducible exact Kin.intToInt _ _
      | with_reducible exact Kin.floatToInt _ _ _
      | with_reducible exact Kin.floatToFloat _ _ _
      | with_reducible exact Kin.arithC _ _ _ _
      | with_reducible exact Kin.cmpC _ _ _ _
      | with_reducible exact Kin.convC _ _ _
      | with_reducible exact Kin.addC _ _
      | with_reducible exact Kin.subC _ _
      | with_reducible exact Kin.mulC _ _
      | with_reducible exact Kin.quoC _ _
      | with_reducible exact Kin.product _ _ _ _
      | with_reducible exact Kin.corrected _ _ _ _ _
      | with_reducible exact Kin.quotient _ _ _ _
      | with_reducible exact Kin.complexOp _ _ _ _ _ _
      | with_reducible exact Kin.sureAddr _
      | with_reducible exact Kin.partAt _ _ _
      | with_reducible exact Kin.fieldPlace _ _
      | with_reducible exact Kin.sliceBound _ _ _
      | with_reducible exact Kin.sliceBounds _ _ _ _ _ _
      | with_reducible exact Kin.slice _ _ _ _ _
      | with_reducible exact Kin.lenOf _
      | with_reducible exact Kin.firstCells _ _ _
      | with_reducible refine Kin.bindP ?_
      | with_reducible refine Kin.bind ?_ (fun _ => ?_)
      | with_reducible refine Kin.ite _ ?_ ?_
      | split
      | dsimp only))
end
end Go.Proofs.Ytoipkpndfgcmcaa.Veils

/-
  The operations that are calm by their text: they come to a value, to nothing, into a function of a given set or into a round of a calm loop, and a hidden block does not disturb them. The condition stands in each theorem. No program in sight.
-/
namespace Go.Proofs.Ytoipkpndfgcmcaa.Veils
open Go
set_option linter.unusedVariables false
section
variable {P : Program} {X : Nat → Prop}
/-! loops, and rows of deferred calls -/
def isLD : Obj → Prop
  | .loop _ | .deferred _ => True
  | _ => False
theorem LD_open {v w : World} {l : Nat} {o : Obj} (hv : Veil X v w) (h : v.heap[l]? = some o) (ho : isLD o) : ¬ X l ∧ ¬ Vw w l ∧ w.heap[l]? = some o := by
  have h1 : ¬ X l := fun hx => by
    rw [(hv.dark l hx).1] at h
    cases h
    exact ho
  have h2 : ¬ Vw w l := fun ⟨o', e1, e2⟩ => by
    rw [hv.dim l o' e1 e2] at h
    cases h
    cases o' <;> exact ho
  exact ⟨h1, h2, (hv.same l h1 h2).symm.trans h⟩
/-- As Kin, where the block is a loop or a row of deferred calls. -/
structure KinO (P : Program) (X : Nat → Prop) (l : Nat) {α : Type} (s : Sem α) : Prop where
  hal : ∀ w, NoView w → (∃ o, w.heap[l]? = some o ∧ isLD o) → ∀ x w', s.run P w = .halt x w' → OkHalt x
  mono : ∀ w, NoView w → (∃ o, w.heap[l]? = some o ∧ isLD o) → Mono1 w (s.run P w)
  sim : ∀ (v w : World) (a : α) (v' : World), Veil X v w → (∃ o, v.heap[l]? = some o ∧ isLD o) → (∀ j q, w.drawn + j < aft (s.run P w) → v.tape (v.drawn + j) q = w.tape (w.drawn + j) q) → s.run P v = .ok a v' → Out P X s v w a v'
theorem KinO.of {l : Nat} {α : Type} {s : Sem α} (h : Kin P X s) : KinO P X l s := ⟨fun w hw _ => h.hal w hw, fun w hw _ => h.mono w hw, fun v w a v' hv _ => h.sim v w a v' hv⟩
theorem KinO.bind {l : Nat} {α β : Type} {s : Sem α} {f : α → Sem β} (hs : KinO P X l s) (hf : ∀ a, Kin P X (f a)) : KinO P X l (s >>= f) := by
  obtain ⟨hal, mono, sim⟩ := hs
  refine ⟨fun w hw hl x w' h => ?_, fun w hw hl => ?_, fun v w b v' hv hl ht h => ?_⟩
  · rw [Sem.run_bind] at h
    have h1 := mono w hw hl
    cases hr : s.run P w with
    | halt y w1 => rw [hr] at h; cases h; exact hal w hw hl _ _ hr
    | ok a w1 =>
      rw [hr] at h h1
      exact (hf a).hal w1 h1.2.1 _ _ h
  · rw [Sem.run_bind]
    have h1 := mono w hw hl
    cases hr : s.run P w with
    | halt x w' => rw [hr] at h1; exact h1
    | ok a w1 =>
      rw [hr] at h1
      have h2 := (hf a).mono w1 h1.2.1
      simp only [Result.andThen_ok]
      cases hr2 : (f a).run P w1 with
      | halt x w' => rw [hr2] at h2; exact ⟨Nat.le_trans h1.1 h2.1, h2.2⟩
      | ok b w' => rw [hr2] at h2; exact ⟨Nat.le_trans h1.1 h2.1, h2.2.1, Nat.le_trans h1.2.2 h2.2.2⟩
  · have hlw : ∃ o, w.heap[l]? = some o ∧ isLD o := let ⟨o, h1, h2⟩ := hl; ⟨o, (LD_open hv h1 h2).2.2, h2⟩
    rw [Sem.run_bind] at h
    cases hr : s.run P v with
    | halt x w' => rw [hr] at h; cases h
    | ok a v1 =>
      rw [hr] at h
      simp only [Result.andThen_ok] at h
      have hle : NoView w → aft (s.run P w) ≤ aft ((s >>= f).run P w) := fun hnw => by
        have hm := mono w hnw hlw
        rw [Sem.run_bind]
        cases hq : s.run P w with
        | halt x w' => exact Nat.le_refl _
        | ok a1 w1 =>
          rw [hq] at hm
          exact ((hf a1).mono w1 hm.2.1).aft
      obtain ⟨w1, e1, v1w, k1, d1, t1, t2, g1⟩ := sim v w a v1 hv hl (fun j q hj => by
        rcases hv.real with hnw | ⟨hd, htp⟩
        · exact ht j q (by have := hle hnw; omega)
        · rw [hd, htp]) hr
      have hbw : (s >>= f).run P w = (f a).run P w1 := by rw [Sem.run_bind, e1]; rfl
      rw [hbw] at ht
      have hmv := mono v hv.novv hl
      rw [hr] at hmv
      have hd1 : w.drawn ≤ w1.drawn := by have := hmv.1; omega
      obtain ⟨k, hk⟩ : ∃ k, w1.drawn = w.drawn + k := ⟨w1.drawn - w.drawn, by omega⟩
      obtain ⟨w', e2, v2w, k2, d2, t3, t4, g2⟩ := (hf a).sim v1 w1 b v' v1w (fun j q hj => by
        have := ht (k + j) q (by omega)
        rw [t1, t2, hk, show v1.drawn + j = v.drawn + (k + j) by omega, this, show w.drawn + k + j = w.drawn + (k + j) by omega]) h
      refine ⟨w', hbw.trans e2, v2w, k1.trans k2, by omega, t3.trans t1, t4.trans t2, fun es => ?_⟩
      obtain ⟨ev1, h1, f1⟩ := g1 es
      obtain ⟨ev2, h2, f2⟩ := g2 (es ++ ev1)
      have hsz : w1.heap.size ≤ w'.heap.size := by
        have := (hf a).mono v1 v1w.novv
        rw [h] at this
        have h5 := this.2.2
        rw [v1w.size, v2w.size] at h5
        exact h5
      refine ⟨ev1 ++ ev2, ?_, fun e he => ?_⟩
      · have hb := Sem.runT_bind' P s f w es
        have hs1 : s.runT P w es = (.ok a w1, es ++ ev1) := by rw [Sem.runT_eq, e1, h1]
        have hs2 : (f a).runT P w1 (es ++ ev1) = (.ok b w', es ++ ev1 ++ ev2) := by rw [Sem.runT_eq, e2, h2]
        unfold Sem.events
        show ((s.bind f).runT P w es).2 = _
        rw [hb, hs1]
        dsimp only
        rw [hs2, Array.append_assoc]
      · rcases Array.mem_append.1 he with h | h
        · exact (f1 e h).mono hsz
        · exact f2 e h
theorem KinO.ite {l : Nat} {α : Type} (c : Prop) [Decidable c] {x y : Sem α} (hx : KinO P X l x) (hy : KinO P X l y) : KinO P X l (if c then x else y) := by split <;> assumption
/-- What stands behind a first part that never comes to a value. -/
theorem Kin.never {α β : Type} {s : Sem α} {f : α → Sem β} (hs : Kin P X s) (hn : ∀ v a v', s.run P v ≠ .ok a v') : Kin P X (s >>= f) := by
  have hr : ∀ w, ∃ x w', s.run P w = .halt x w' ∧ (s >>= f).run P w = .halt x w' := fun w => by
    rw [Sem.run_bind]
    cases h : s.run P w with
    | ok a w' => exact absurd h (hn _ _ _)
    | halt x w' => exact ⟨x, w', rfl, rfl⟩
  refine Kin.dead (fun w hw x w' h => ?_) (fun w hw => ?_) (fun v a v' h => ?_)
  · obtain ⟨y, w1, h1, h2⟩ := hr w
    rw [h2] at h
    cases h
    exact hs.hal w hw _ _ h1
  · obtain ⟨y, w1, h1, h2⟩ := hr w
    have := hs.mono w hw
    rw [h1] at this
    rw [h2]
    exact this
  · obtain ⟨y, w1, h1, h2⟩ := hr v
    rw [h2] at h
    cases h
theorem never_bind' {α β : Type} {s : Sem α} {f : α → Sem β} (h : ∀ v a v', s.run P v ≠ .ok a v') : ∀ v b v', (s >>= f).run P v ≠ .ok b v' := fun v b v' e => by
  rw [Sem.run_bind] at e
  cases hs : s.run P v with
  | halt x w1 => rw [hs] at e; cases e
  | ok a w1 => exact h _ _ _ hs
theorem never_error (m : String) {α : Type} : ∀ v (b : α) v', (Go.runtimePanic (.error m) : Sem α).run P v ≠ .ok b v' := by
  unfold Go.runtimePanic
  dsimp only
  repeat (first | (refine never_bind fun _ => ?_) | (intro v b v' h; cases h; done))
theorem never_nil {α : Type} : ∀ v (b : α) v', (Go.runtimePanic .nilDeref : Sem α).run P v ≠ .ok b v' := by
  unfold Go.runtimePanic
  dsimp only
  repeat (first | (refine never_bind fun _ => ?_) | (intro v b v' h; cases h; done))
theorem never_stuck (m : String) {α : Type} : ∀ v (b : α) v', (Go.stuck m : Sem α).run P v ≠ .ok b v' := fun v b v' h => by cases h
theorem setO_at (w : World) (l b : Nat) (o : Obj) (hl : l < w.heap.size) : (w.heap.setIfInBounds l o)[b]? = if b = l then some o else w.heap[b]? := by
  rw [Array.getElem?_setIfInBounds]
  by_cases h : l = b
  · subst h
    simp [hl]
  · simp [h, Ne.symm h]
theorem KinO.setObj {l : Nat} (o : Obj) (ho : Obj.plain o) (hc : o.isChan = false) : KinO P X l (Go.setObj l o) := by
  have hrun : ∀ w : World, (∃ o, w.heap[l]? = some o ∧ isLD o) → (Go.setObj l o).run P w = .ok () { w with heap := w.heap.setIfInBounds l o } := fun w ⟨o', h1, h2⟩ => by
    cases o' <;> first | exact h2.elim | simp only [Go.setObj, Sem.run, h1]
  have hnv : ∀ w : World, l < w.heap.size → NoView w → NoView { w with heap := w.heap.setIfInBounds l o } := fun w hl hw b x e => by
    have e : (w.heap.setIfInBounds l o)[b]? = some x := e
    rw [setO_at w l b o hl] at e
    split at e
    · cases e; exact ho
    · exact hw b x e
  refine ⟨fun w hw hl x w' h => ?_, fun w hw hl => ?_, fun v w a v' hv hl _ h => ?_⟩
  · rw [hrun w hl] at h; cases h
  · have hlt : l < w.heap.size := let ⟨o', h1, _⟩ := hl; (Array.getElem?_eq_some_iff.1 h1).1
    rw [hrun w hl]
    exact ⟨Nat.le_refl _, hnv w hlt hw, by simp⟩
  · obtain ⟨o', h1, h2⟩ := hl
    obtain ⟨hX, hV, hw1⟩ := LD_open hv h1 h2
    have hlv : l < v.heap.size := (Array.getElem?_eq_some_iff.1 h1).1
    have hlw : l < w.heap.size := (Array.getElem?_eq_some_iff.1 hw1).1
    rw [hrun v ⟨o', h1, h2⟩] at h
    cases h
    have hvw : ∀ b, Vw { w with heap := w.heap.setIfInBounds l o } b → Vw w b ∧ b ≠ l := fun b ⟨x, e1, e2⟩ => by
      have e1 : (w.heap.setIfInBounds l o)[b]? = some x := e1
      rw [setO_at w l b o hlw] at e1
      split at e1
      · cases e1; exact absurd ho e2
      · rename_i hne
        exact ⟨⟨x, e1, e2⟩, hne⟩
    refine ⟨{ w with heap := w.heap.setIfInBounds l o }, hrun w ⟨o', hw1, h2⟩, ⟨by simp [hv.size], fun b hb hbv => ?_, fun b hb => ?_, fun b x e1 e2 => ?_, hv.os, hv.out, hv.real.imp (hnv w hlw) id⟩, ⟨fun b hb => ?_, fun b hb => (hvw b hb).1⟩, by show w.drawn + v.drawn = v.drawn + w.drawn; omega, rfl, rfl, fun es => ⟨#[⟨.obj l, true, false⟩], ?_, fun e he => ?_⟩⟩
    · show (v.heap.setIfInBounds l o)[b]? = (w.heap.setIfInBounds l o)[b]?
      rw [setO_at v l b o hlv, setO_at w l b o hlw]
      by_cases hbl : b = l
      · simp [hbl]
      · simp only [hbl, if_false]
        refine hv.same b hb fun ⟨x, e1, e2⟩ => hbv ⟨x, ?_, e2⟩
        show (w.heap.setIfInBounds l o)[b]? = some x
        rw [setO_at w l b o hlw, if_neg hbl]
        exact e1
    · have hbl : b ≠ l := fun e => hX (e ▸ hb)
      show (v.heap.setIfInBounds l o)[b]? = _ ∧ ∃ c e, (w.heap.setIfInBounds l o)[b]? = _ ∧ _
      rw [setO_at v l b o hlv, setO_at w l b o hlw, if_neg hbl, if_neg hbl]
      exact hv.dark b hb
    · obtain ⟨⟨y, e3, e4⟩, hbl⟩ := hvw b ⟨x, e1, e2⟩
      show (v.heap.setIfInBounds l o)[b]? = _
      rw [setO_at v l b o hlv, if_neg hbl]
      have e1 : (w.heap.setIfInBounds l o)[b]? = some x := e1
      rw [setO_at w l b o hlw, if_neg hbl] at e1
      exact hv.dim b x e1 e2
    · have hbl : b ≠ l := fun e => by
        rcases hb with hb | hb
        · exact hX (e ▸ hb)
        · exact hV (e ▸ hb)
      show (w.heap.setIfInBounds l o)[b]? = _
      rw [setO_at w l b o hlw, if_neg hbl]
    · have : (Go.setObj l o).runT P w es = (.ok () { w with heap := w.heap.setIfInBounds l o }, es.push ⟨.obj l, true, o.isChan⟩) := by
        cases o' <;> first | exact h2.elim | simp only [Go.setObj, Sem.runT, hw1]
      unfold Sem.events
      rw [this, hc, Array.push_eq_append]
    · simp only [List.mem_toArray, List.mem_cons, List.not_mem_nil, or_false] at he
      subst he
      exact .inr (.inl ⟨l, rfl, hX, by show l < (w.heap.setIfInBounds l o).size; simpa using hlw, .inr rfl⟩)
/-- A loop, or a row of deferred calls, is read. -/
theorem Kin.getLD {l : Nat} {β : Type} {f : Obj → Sem β} (h1 : ∀ o, isLD o → Obj.plain o → KinO P X l (f o)) (h2 : ∀ o, ¬ isLD o → Kin P X (f o) ∧ ∀ v a v', (f o).run P v ≠ .ok a v') : Kin P X (Go.getObj l >>= f) := by
  have hrun : ∀ (w : World) (o : Obj), w.heap[l]? = some o → isLD o → (Go.getObj l >>= f).run P w = (f o).run P w := fun w o e1 e2 => by
    rw [Sem.run_bind]
    cases o <;> first | exact e2.elim | simp only [Go.getObj, Sem.run, e1, Result.andThen_ok]
  have hno : ∀ w, NoView w → (¬ ∃ o, w.heap[l]? = some o ∧ isLD o) → (∀ x w', (Go.getObj l >>= f).run P w = .halt x w' → OkHalt x) ∧ Mono1 w ((Go.getObj l >>= f).run P w) ∧ ∀ a w', (Go.getObj l >>= f).run P w ≠ .ok a w' := fun w hw hn => by
    rw [Sem.run_bind]
    cases hg : (Go.getObj l).run P w with
    | halt x w' =>
      have hm := getObj_mono (P := P) l w hw
      rw [hg] at hm
      refine ⟨fun y w1 e => ?_, hm, fun a w1 e => by cases e⟩
      cases e
      exact getObj_hal l w hw _ _ hg
    | ok o w' =>
      have hm := getObj_mono (P := P) l w hw
      rw [hg] at hm
      have ho : w.heap[l]? = some o ∧ w' = w := by
        simp only [Go.getObj, Sem.run] at hg
        split at hg
        · cases hg
        · rename_i hq
          cases hg
          exact ⟨hq, rfl⟩
        · cases hg
      obtain ⟨ho, rfl⟩ := ho
      have hnl : ¬ isLD o := fun h => hn ⟨o, ho, h⟩
      simp only [Result.andThen_ok]
      exact ⟨(h2 o hnl).1.hal _ hw, (h2 o hnl).1.mono _ hw, (h2 o hnl).2 _⟩
  refine ⟨fun w hw x w' h => ?_, fun w hw => ?_, fun v w a v' hv ht h => ?_⟩
  · by_cases hn : ∃ o, w.heap[l]? = some o ∧ isLD o
    · obtain ⟨o, e1, e2⟩ := hn
      rw [hrun w o e1 e2] at h
      exact (h1 o e2 (hw l o e1)).hal w hw ⟨o, e1, e2⟩ x w' h
    · exact (hno w hw hn).1 x w' h
  · by_cases hn : ∃ o, w.heap[l]? = some o ∧ isLD o
    · obtain ⟨o, e1, e2⟩ := hn
      rw [hrun w o e1 e2]
      exact (h1 o e2 (hw l o e1)).mono w hw ⟨o, e1, e2⟩
    · exact (hno w hw hn).2.1
  · by_cases hn : ∃ o, v.heap[l]? = some o ∧ isLD o
    · obtain ⟨o, e1, e2⟩ := hn
      obtain ⟨hX, hV, hw1⟩ := LD_open hv e1 e2
      rw [hrun v o e1 e2] at h
      rw [hrun w o hw1 e2] at ht
      obtain ⟨w', g1, g2, g3, g4, g5, g6, g7⟩ := (h1 o e2 (hv.novv l o e1)).sim v w a v' hv ⟨o, e1, e2⟩ ht h
      have hsz : w.heap.size ≤ w'.heap.size := by
        have := (h1 o e2 (hv.novv l o e1)).mono v hv.novv ⟨o, e1, e2⟩
        rw [h] at this
        have h5 := this.2.2
        rw [hv.size, g2.size] at h5
        exact h5
      refine ⟨w', (hrun w o hw1 e2).trans g1, g2, g3, g4, g5, g6, fun es => ?_⟩
      obtain ⟨ev2, k1, k2⟩ := g7 (es ++ #[⟨.obj l, false, false⟩])
      refine ⟨#[⟨.obj l, false, false⟩] ++ ev2, ?_, fun e he => ?_⟩
      · have hb := Sem.runT_bind' P (Go.getObj l) f w es
        have hs1 : (Go.getObj l).runT P w es = (.ok o w, es ++ #[⟨.obj l, false, false⟩]) := by
          cases o <;> first | exact e2.elim | (simp only [Go.getObj, Sem.runT, hw1, Array.push_eq_append]; rfl)
        have hs2 : (f o).runT P w (es ++ #[⟨.obj l, false, false⟩]) = (.ok a w', es ++ #[⟨.obj l, false, false⟩] ++ ev2) := by rw [Sem.runT_eq, g1, k1]
        unfold Sem.events
        show (((Go.getObj l).bind f).runT P w es).2 = _
        rw [hb, hs1]
        dsimp only
        rw [hs2, Array.append_assoc]
      · rcases Array.mem_append.1 he with h | h
        · simp only [List.mem_toArray, List.mem_cons, List.not_mem_nil, or_false] at h
          subst h
          exact .inr (.inl ⟨l, rfl, hX, Nat.lt_of_lt_of_le (Array.getElem?_eq_some_iff.1 hw1).1 hsz, .inl rfl⟩)
        · exact k2 e h
    · exact absurd h ((hno v hv.novv hn).2.2 a v')
theorem Kin.getLoop {l : Nat} {β : Type} {f : Loop → Sem β} (h : ∀ r, LoopOk r → KinO P X l (f r)) : Kin P X (Instr.getLoop l >>= f) := by
  unfold Instr.getLoop
  rw [bind_assoc]
  refine Kin.getLD (fun o ho hp => ?_) (fun o ho => ?_)
  · cases o with
    | loop r =>
      have := h r hp
      simpa using this
    | deferred ds => exact KinO.of (Kin.never (Kin.stuck _) (never_stuck _))
    | _ => exact ho.elim
  · cases o <;> first | exact absurd trivial ho | exact ⟨Kin.never (Kin.stuck _) (never_stuck _), never_bind' (never_stuck _)⟩
theorem Kin.beginRound (l : Nat) : Kin P X (Instr.beginRound l) := by
  unfold Instr.beginRound
  refine Kin.getLoop fun r hr => KinO.bind (KinO.setObj _ ⟨hr.fn, hr.assign, hr.body, hr.pend⟩ rfl) fun _ => ?_
  split <;> first | exact Kin.pure _ | exact Kin.runtimePanic _
theorem Kin.endRound (l : Nat) (j : Option Code) (hj : PendOk j) : Kin P X (Instr.endRound l j) := by
  unfold Instr.endRound
  refine Kin.getLoop fun r hr => KinO.bind (KinO.setObj _ ⟨hr.fn, hr.assign, hr.body, ?_⟩ rfl) fun _ => Kin.pure _
  exact hj
theorem Kin.endLoop (l : Nat) : Kin P X (Instr.endLoop l) := by
  unfold Instr.endLoop
  refine Kin.getLoop fun r hr => ?_
  dsimp only
  refine KinO.ite _ (KinO.of (Kin.never (Kin.runtimePanic _) (never_error _))) ?_
  refine KinO.bind (KinO.setObj _ ⟨hr.fn, hr.assign, hr.body, hr.pend⟩ rfl) fun _ => Kin.pure _
theorem Kin.takeDeferred (l : Nat) : Kin P X (Instr.takeDeferred l) := by
  unfold Instr.takeDeferred
  refine Kin.getLD (fun o ho hp => ?_) (fun o ho => ?_)
  · cases o with
    | loop r => exact KinO.of (Kin.stuck _)
    | deferred ds =>
      cases ds with
      | none => exact KinO.of (Kin.stuck _)
      | some ds => exact KinO.bind (KinO.setObj _ trivial rfl) fun _ => Kin.pure _
    | _ => exact ho.elim
  · cases o <;> first | exact absurd trivial ho | exact ⟨Kin.stuck _, never_stuck _⟩
theorem Kin.enterLoop (fn : FuncId) (tmps : Array Value) (params : Array Tmp) (assign body : Code) (h : ∀ defers, LoopOk { state := .ready, pending := none, fn, tmps, params, assign, body, defers }) : Kin P X (Instr.enterLoop fn tmps params assign body none) := by
  unfold Instr.enterLoop
  dsimp only
  refine Kin.bind (Kin.newObj _ rfl) fun r => ?_
  rw [pure_bind]
  exact Kin.bind (Kin.newObj _ (h r)) fun _ => Kin.pure _
theorem getObj_ok {l : Nat} {w w' : World} {o : Obj} (h : (Go.getObj l).run P w = .ok o w') : w.heap[l]? = some o ∧ w' = w := by
  simp only [Go.getObj, Sem.run] at h
  split at h
  · cases h
  · rename_i hq
    cases h
    exact ⟨hq, rfl⟩
  · cases h
theorem getLoop_ok {l : Nat} {w w' : World} {r : Loop} (h : (Instr.getLoop l).run P w = .ok r w') : w.heap[l]? = some (.loop r) ∧ w' = w := by
  unfold Instr.getLoop at h
  rw [Sem.run_bind] at h
  cases hg : (Go.getObj l).run P w with
  | halt x w1 => rw [hg] at h; cases h
  | ok o w1 =>
    obtain ⟨h1, rfl⟩ := getObj_ok hg
    rw [hg] at h
    simp only [Result.andThen_ok] at h
    cases o <;> first | (cases h; exact ⟨h1, rfl⟩) | cases h
theorem endLoop_val {l : Nat} {w w' : World} {j : Option Code} (hw : NoView w) (h : (Instr.endLoop l).run P w = .ok j w') : PendOk j := by
  unfold Instr.endLoop at h
  rw [Sem.run_bind] at h
  cases hg : (Instr.getLoop l).run P w with
  | halt x w1 => rw [hg] at h; cases h
  | ok r w1 =>
    obtain ⟨h1, rfl⟩ := getLoop_ok hg
    rw [hg] at h
    simp only [Result.andThen_ok] at h
    split at h
    · exact absurd h (never_bind' (never_error _) _ _ _)
    · have hr : (Go.setObj l (.loop { r with state := .exhausted })).run P w1 = .ok () { w1 with heap := w1.heap.setIfInBounds l (.loop { r with state := .exhausted }) } := by simp only [Go.setObj, Sem.run, h1]
      have h : ((Go.setObj l (.loop { r with state := .exhausted })) >>= fun _ => (Pure.pure r.pending : Sem (Option Code))).run P w1 = .ok j w' := h
      rw [Sem.run_bind, hr] at h
      cases h
      exact (hw l _ h1).pend
theorem take_val {l : Nat} {w w' : World} {ds : List Deferred} (hw : NoView w) (h : (Instr.takeDeferred l).run P w = .ok ds w') : ds = [] := by
  unfold Instr.takeDeferred at h
  rw [Sem.run_bind] at h
  cases hg : (Go.getObj l).run P w with
  | halt x w1 => rw [hg] at h; cases h
  | ok o w1 =>
    obtain ⟨h1, rfl⟩ := getObj_ok hg
    rw [hg] at h
    simp only [Result.andThen_ok] at h
    cases o with
    | deferred d =>
      cases d with
      | none => cases h
      | some d =>
        have hd : d = [] := hw l _ h1
        have hr : (Go.setObj l (.deferred none)).run P w1 = .ok () { w1 with heap := w1.heap.setIfInBounds l (.deferred none) } := by simp only [Go.setObj, Sem.run, h1]
        have h : ((Go.setObj l (.deferred none)) >>= fun _ => (Pure.pure d : Sem (List Deferred))).run P w1 = .ok ds w' := h
        rw [Sem.run_bind, hr] at h
        cases h
        exact hd
    | _ => cases h
theorem enterLoop_val {fn : FuncId} {tmps : Array Value} {params : Array Tmp} {assign body : Code} {w w' : World} {x : Nat × List Deferred} (h : (Instr.enterLoop fn tmps params assign body none).run P w = .ok x w') : ∃ l r, x = (l, [{ target := .collected r, args := #[] }]) := by
  cases h
  exact ⟨_, _, rfl⟩
/-! what an operation comes to -/
/-- What a slot may hold. -/
def OkV (B : Nat) : Nat → Value → Prop
  | 0, _ => True
  | 1, v => v = undef ∨ v = .nilFunc ∨ ∃ bs : Array Value, bs.size = 1 ∧ v = .func (.func back1) #[] bs
  | 2, v => v = undef ∨ ∃ l, v = .func (.yield l) #[] #[]
  | _, v => v = undef ∨ ∃ a n c, v = .slice (some a) n c ∧ B ≤ a.block
theorem OkV.undef_ (B : Nat) : ∀ k, OkV B k undef
  | 0 => trivial
  | 1 => .inl rfl
  | 2 => .inl rfl
  | _ + 3 => .inl rfl
theorem OkV.mono {B B' : Nat} (h : B' ≤ B) : ∀ {k : Nat} {v : Value}, OkV B k v → OkV B' k v
  | 0, _, _ => trivial
  | 1, _, h1 => h1
  | 2, _, h1 => h1
  | _ + 3, _, h1 => h1.imp id fun ⟨a, n, c, e, hb⟩ => ⟨a, n, c, e, Nat.le_trans h hb⟩
/-- Into which functions it may come. -/
def NextOk (P : Program) (F : FuncId → Bool) (B : Nat) : Next → Prop
  | .value _ | .skip => True
  | .enter f args => F f = true ∧ ∀ k, k < args.size → OkV B (slotK f k) (args.getD k undef)
  | .round _ f _ a b => (∃ fd, P.funcs[f]? = some fd) ∧ codeCalm P F D0 a = true ∧ codeCalm P F D0 b = true
  | _ => False
structure Calm (P : Program) (X : Nat → Prop) (F : FuncId → Bool) (B : Nat) (s : Sem Next) : Prop where
  kin : Kin P X s
  next : ∀ w n w', NoView w → s.run P w = .ok n w' → NextOk P F B n
variable {B : Nat} {F : FuncId → Bool}
theorem Calm.v {s : Sem Value} (h : Kin P X s) : Calm P X F B (do pure (.value (← s))) :=
  ⟨Kin.bind h fun _ => Kin.pure _, fun w n w' _ hr => by
    rw [Sem.run_bind] at hr
    cases hs : s.run P w with
    | halt x w1 => rw [hs] at hr; cases hr
    | ok a w1 => rw [hs] at hr; cases hr; trivial⟩
theorem Calm.u {s : Sem Unit} (h : Kin P X s) : Calm P X F B (do s; pure .skip) :=
  ⟨Kin.bind h fun _ => Kin.pure _, fun w n w' _ hr => by
    rw [Sem.run_bind] at hr
    cases hs : s.run P w with
    | halt x w1 => rw [hs] at hr; cases hr
    | ok a w1 => rw [hs] at hr; cases hr; trivial⟩
theorem Calm.pureV (x : Value) : Calm P X F B (Pure.pure (.value x)) := ⟨Kin.pure _, fun w n w' _ hr => by cases hr; trivial⟩
theorem Calm.no {s : Sem Next} (h : Kin P X s) (hn : ∀ w n w', s.run P w ≠ .ok n w') : Calm P X F B s := ⟨h, fun w n w' _ hr => absurd hr (hn _ _ _)⟩
theorem Calm.bind {α : Type} {s : Sem α} {f : α → Sem Next} (h : Kin P X s) (k : ∀ a, Calm P X F B (f a)) : Calm P X F B (s >>= f) :=
  ⟨Kin.bind h fun a => (k a).kin, fun w n w' hw hr => by
    rw [Sem.run_bind] at hr
    have hm := h.mono w hw
    cases hs : s.run P w with
    | halt x w1 => rw [hs] at hr; cases hr
    | ok a w1 =>
      rw [hs] at hr hm
      exact (k a).next w1 n w' hm.2.1 hr⟩
theorem Calm.bindP {f : Program → Sem Next} (k : Calm P X F B (f P)) : Calm P X F B (Go.program >>= f) :=
  ⟨Kin.bindP k.kin, fun w n w' hw hr => by
    rw [Sem.run_bind] at hr
    exact k.next w n w' hw hr⟩
theorem Calm.ite (c : Prop) [Decidable c] {x y : Sem Next} (hx : Calm P X F B x) (hy : Calm P X F B y) : Calm P X F B (if c then x else y) := by split <;> assumption
theorem Calm.callFunc {f : FuncId} {args : Array Value} (hF : F f = true) (hf : fnOk P f = true) (ha : ∀ k, k < args.size → OkV B (slotK f k) (args.getD k undef)) : Calm P X F B (Go.callFunc f args) := by
  unfold fnOk at hf
  unfold Go.callFunc
  refine Calm.bindP ?_
  cases hfn : P.funcs[f]? with
  | none => rw [hfn] at hf; cases hf
  | some fn =>
    rw [hfn] at hf
    simp only [Bool.and_eq_true] at hf
    obtain ⟨hb, hn⟩ := hf
    dsimp only
    have h1 : (fn.name == "runtime.NumGoroutine") = false := by simpa using hn
    have h2 : fn.body.isNone = false := by cases hbd : fn.body <;> simp_all
    rw [h1, h2]
    exact ⟨Kin.pure _, fun w n w' _ hr => by cases hr; exact ⟨hF, ha⟩⟩
theorem callFunc_no {f : FuncId} {args : Array Value} (hf : fnOk P f = true) {w w' : World} {x : Value} (h : (Go.callFunc f args).run P w = .ok (.value x) w') : False := by
  unfold fnOk at hf
  unfold Go.callFunc at h
  rw [Sem.run_bind] at h
  have h : (match P.funcs[f]? with
    | none => Go.stuck "call: no such function"
    | some fn => _ : Sem Next).run P w = .ok (.value x) w' := h
  cases hfn : P.funcs[f]? with
  | none => rw [hfn] at hf; cases hf
  | some fn =>
    rw [hfn] at hf h
    simp only [Bool.and_eq_true] at hf
    obtain ⟨hb, hn⟩ := hf
    dsimp only at h
    have h1 : (fn.name == "runtime.NumGoroutine") = false := by simpa using hn
    have h2 : fn.body.isNone = false := by cases hbd : fn.body <;> simp_all
    rw [h1, h2] at h
    cases h
theorem Calm.yield (l : Nat) (args : Array Value) (hL : ∀ r, LoopOk r → LoopCalm P F r) : Calm P X F B (Instr.yield l args) := by
  refine ⟨?_, fun w n w' hw h => ?_⟩
  · unfold Instr.yield
    refine Kin.getLoop fun r hr => KinO.of ?_
    dsimp only
    split
    · exact Kin.never (Kin.stuck _) (never_stuck _)
    · exact Kin.pure _
  · unfold Instr.yield at h
    rw [Sem.run_bind] at h
    cases hg : (Instr.getLoop l).run P w with
    | halt x w1 => rw [hg] at h; cases h
    | ok r w1 =>
      obtain ⟨h1, rfl⟩ := getLoop_ok hg
      rw [hg] at h
      simp only [Result.andThen_ok] at h
      split at h
      · exact absurd h (never_bind' (never_stuck _) _ _ _)
      · cases h
        obtain ⟨k1, k2, k3, _⟩ := hL r (hw l _ h1)
        exact ⟨k1, k2, k3⟩
end
end Go.Proofs.Ytoipkpndfgcmcaa.Veils

/-
  The operations that are calm by their text, all of them: what each comes to, what it may leave in its slot. The condition stands in each theorem. No program in sight.
-/
namespace Go.Proofs.Ytoipkpndfgcmcaa.Veils
open Go
set_option linter.unusedVariables false
section
variable {P : Program} {X : Nat → Prop} {B : Nat} {F : FuncId → Bool}
theorem ptrT_or' {t : TypeId} (h : ptrT P t = true) : ∃ e, P.underlying t = some (.pointer e) := ptrT_or h
theorem nilO_val {y : Operand} (h : nilO y = true) (ρ : Operand → Value) (hc : ∀ v, ρ (.const v) = v) : ρ y = .pointer none := by
  cases y with
  | const v =>
    cases v with
    | pointer p => cases p <;> first | exact hc _ | cases h
    | _ => cases h
  | _ => cases h
theorem Kin.eqGuardNil (op : BinOp) (t : TypeId) (x y : Operand) (a : Value) : Kin P X (Go.eqGuard op t x y a (.pointer none)) := by
  unfold Go.eqGuard
  cases op <;> first | exact Kin.pure _ | (cases a <;> exact Kin.pure _)
theorem Kin.binOpNil (op : BinOp) (he : isEq op = true) {t e : TypeId} (hU : P.underlying t = some (.pointer e)) (x : Value) : Kin P X (Go.binOp op t x (.pointer none)) := by
  cases op <;> first
    | (cases he; done)
    | (cases x <;> first
        | exact Kin.bind (Kin.equalNil hU _ _ (.inr rfl)) fun _ => Kin.pure _)
theorem Kin.convertSame {s : TypeId} (h : bytesT P s = true) {x : Value} (hx : x = undef ∨ ∃ a n c, x = .slice (some a) n c ∧ ¬ X a.block) : Kin P X (Go.convert s s x) := by
  obtain ⟨e, h1, h2⟩ := bytesT_or h
  unfold Go.convert
  refine Kin.under h1 (Kin.under h1 ?_)
  rcases hx with rfl | ⟨a, n, c, rfl, hX⟩
  · exact Kin.unsupported _ (fun g hg => by cases hg)
  · dsimp only
    refine Kin.under h2 ?_
    simp only [beq_self_eq_true]
    exact Kin.bind (Kin.markStringish hX) fun _ => Kin.pure _
theorem calm_exec {D : Nat → Nat} {o : Oper} (h : opCalm P F D o = true) (ρ : Operand → Value) (hρ : ∀ f, ρ (.func f) = .func (.func f) #[] #[]) (hc : ∀ v, ρ (.const v) = v) (hs : ∀ k, OkV B (D k) (ρ (.tmp k))) (hX : ∀ b, X b → b < B) (hL : ∀ r, LoopOk r → LoopCalm P F r) : Calm P X F B (execOp ρ o) := by
  unfold opCalm at h
  unfold execOp
  generalize hop : o.op = op at h ⊢
  cases op with
  | move x => exact ⟨Kin.pure _, fun w n w' _ hr => by cases hr; trivial⟩
  | assign x => exact ⟨Kin.pure _, fun w n w' _ hr => by cases hr; trivial⟩
  | pick c a b =>
    refine ⟨Kin.bind (Kin.asBool _) (fun t => Kin.pure _), fun w n w' _ hr => ?_⟩
    have hr : ((Go.asBool (ρ c)) >>= fun t => (Pure.pure (Next.value (if t = true then ρ a else ρ b)) : Sem Next)).run P w = .ok n w' := hr
    rw [Sem.run_bind] at hr
    cases hs : (Go.asBool (ρ c)).run P w with
    | halt x w1 => rw [hs] at hr; cases hr
    | ok t w1 => rw [hs] at hr; cases hr; trivial
  | alloc e => exact Calm.v (Kin.alloc _ _ _)
  | box e x => exact Calm.v (Kin.bind (Kin.newVar _ _) fun _ => Kin.pure _)
  | build t ps => exact Calm.v (Kin.build _ _)
  | buildSlice t n ps => exact Calm.v (Kin.buildSlice _ _ _)
  | load t a => exact Calm.v (Kin.loadAt _ _)
  | store t a x => exact Calm.u (Kin.storeAt _ _ _)
  | unOp op t x => exact Calm.v (Kin.unary _ _)
  | makeInterface t x => exact Calm.v (Kin.makeInterface _ _)
  | makeFunc f a c => exact Calm.v (Kin.pure _)
  | makeSlice t x y => exact Calm.v (Kin.makeSlice _ _ _)
  | slice t x a b c => exact Calm.v (Kin.sliceAt _ _ _ _ _)
  | fieldAddr t x f => exact Calm.v (Kin.fieldAt _ _ _)
  | indexAddr t x y => exact Calm.v (Kin.indexAt _ _ _)
  | extract x n => exact Calm.v (Kin.extract _ _)
  | sliceToArrayPointer t x => exact Calm.v (Kin.arrayAt _ _)
  | panic x => exact Calm.v (Kin.panic _)
  | convert s d x =>
    rw [Bool.or_eq_true] at h
    rcases h with h | h
    · rw [Bool.and_eq_true] at h
      exact Calm.v (Kin.convert _ _ h.1 h.2 _)
    · simp only [Bool.and_eq_true] at h
      obtain ⟨⟨h1, h2⟩, h3⟩ := h
      obtain rfl : s = d := by simpa using h1
      cases x with
      | tmp k =>
        have hk : D k = 3 := by simpa using h3
        have := hs k
        rw [hk] at this
        refine Calm.v (Kin.convertSame h2 ?_)
        rcases this with h4 | ⟨a, n, c, h4, h5⟩
        · exact .inl h4
        · exact .inr ⟨a, n, c, h4, fun hx => by have := hX _ hx; omega⟩
      | _ => cases h3
  | binOp op t x y z =>
    rw [Bool.or_eq_true, Bool.or_eq_true] at h
    by_cases hn : (ptrT P t && nilO y) = true ∧ isEq op = true
    · obtain ⟨hn, he⟩ := hn
      rw [Bool.and_eq_true] at hn
      obtain ⟨e, hU⟩ := ptrT_or hn.1
      dsimp only
      rw [nilO_val hn.2 ρ hc]
      exact Calm.v (Kin.bind (Kin.eqGuardNil _ _ _ _ _) fun _ => Kin.binOpNil _ he hU _)
    · have h : isEq op = true → flatT P t = true := fun he => by
        rcases h with (h | h) | h
        · rw [he] at h; cases h
        · exact h
        · exact absurd ⟨h, he⟩ hn
      exact Calm.v (Kin.bind (Kin.eqGuard _ _ h _ _ _ _) fun _ => Kin.binOp _ _ h _ _)
  | nilCheck x =>
    dsimp only
    split
    · exact ⟨Kin.runtimePanic _, fun w n w' _ hr => by cases hr⟩
    · exact ⟨Kin.runtimePanic _, fun w n w' _ hr => by cases hr⟩
    · exact ⟨Kin.runtimePanic _, fun w n w' _ hr => by cases hr⟩
    · split
      · exact ⟨Kin.runtimePanic _, fun w n w' _ hr => by cases hr⟩
      · exact Calm.bindP (Calm.bind (Kin.nilAhead _ _ _ _) fun r => Calm.ite _ (Calm.bind (Kin.unsupported _ (fun g hg => by cases hg)) fun _ => Calm.pureV _) (Calm.pureV _))
      · exact ⟨Kin.pure _, fun w n w' _ hr => by cases hr; trivial⟩
    · exact ⟨Kin.pure _, fun w n w' _ hr => by cases hr; trivial⟩
  | call c =>
    obtain ⟨callee, args, ats⟩ := c
    cases callee with
    | builtin b =>
      cases b with
      | len => exact Calm.v (Kin.len _ _ _)
      | cap => exact Calm.v (Kin.cap _ _ _)
      | append => exact Calm.v (Kin.append _ _ _)
      | copy => exact Calm.v (Kin.copy _ _ _)
      | _ => cases h
    | invoke r n => cases h
    | value x =>
      cases x with
      | func f =>
        simp only [Bool.and_eq_true] at h
        obtain ⟨⟨hF, hf⟩, ha⟩ := h
        show Calm P X F B (Deferred.ofValue (ρ (.func f)) (args.map ρ) >>= fun d => invoke d.target d.args)
        rw [hρ]
        show Calm P X F B (callFunc f ((#[] ++ args.map ρ) ++ #[]))
        refine Calm.callFunc hF hf fun k hk => ?_
        have hk : k < args.size := by simpa using hk
        have hz : slotK f k = 0 := by simpa using List.all_eq_true.1 ha k (List.mem_range.2 hk)
        rw [hz]
        trivial
      | tmp k =>
        have hk : D k = 2 := by simpa using h
        have h2 := hs k
        rw [hk] at h2
        show Calm P X F B (Deferred.ofValue (ρ (.tmp k)) (args.map ρ) >>= fun d => invoke d.target d.args)
        rcases h2 with h2 | ⟨l, h2⟩
        · rw [h2]
          exact Calm.no (Kin.never (Kin.stuck _) (never_stuck _)) (never_bind' (never_stuck _))
        · rw [h2]
          exact Calm.yield l _ hL
      | _ => cases h
  | _ => cases h
/-- What is done ahead of a row made. -/
theorem row_bind {α β : Type} {s : Sem α} {f : α → Sem β} {Q : Nat → β → Prop} (hs : Kin P (fun _ => False) s) (hf : ∀ a n w b w', NoView w → n ≤ w.heap.size → (f a).run P w = .ok b w' → Q n b) : ∀ n w b w', NoView w → n ≤ w.heap.size → (s >>= f).run P w = .ok b w' → Q n b := fun n w b w' hw hn h => by
  rw [Sem.run_bind] at h
  have hm := hs.mono w hw
  cases hr : s.run P w with
  | halt x w1 => rw [hr] at h; cases h
  | ok a w1 =>
    rw [hr] at h hm
    exact hf a n w1 b w' hm.2.1 (Nat.le_trans hn hm.2.2) h
theorem buildSlice_val {t : TypeId} {len : Nat} {ps : Array (Nat × Value)} : ∀ n w b w', NoView w → n ≤ w.heap.size → (Instr.buildSlice t len ps).run P w = .ok b w' → ∃ a m c, b = .slice (some a) m c ∧ n ≤ a.block := by
  unfold Instr.buildSlice
  refine row_bind (Kin.underlying _) fun d => ?_
  split
  · refine row_bind (Kin.sizeOf _) fun size => ?_
    dsimp only
    split
    · refine row_bind (Kin.unsupported _ (fun g hg => by cases hg)) fun _ => ?_
      split
      · refine row_bind (Kin.pure _) fun z => ?_
        intro n w b w' hw hn h
        split at h
        · cases h
          exact ⟨_, _, _, rfl, hn⟩
        · cases h
      · refine row_bind (Kin.zeroValue _) fun y => row_bind (Kin.pure _) fun z => ?_
        intro n w b w' hw hn h
        split at h
        · cases h
          exact ⟨_, _, _, rfl, hn⟩
        · cases h
    · split
      · refine row_bind (Kin.pure _) fun z => ?_
        intro n w b w' hw hn h
        split at h
        · cases h
          exact ⟨_, _, _, rfl, hn⟩
        · cases h
      · refine row_bind (Kin.zeroValue _) fun y => row_bind (Kin.pure _) fun z => ?_
        intro n w b w' hw hn h
        split at h
        · cases h
          exact ⟨_, _, _, rfl, hn⟩
        · cases h
  · intro n w b w' _ _ h
    cases h
theorem v_ok {s : Sem Value} {w w' : World} {x : Value} (h : (do pure (Next.value (← s)) : Sem Next).run P w = .ok (.value x) w') : s.run P w = .ok x w' := by
  rw [Sem.run_bind] at h
  cases hs : s.run P w with
  | halt y w1 => rw [hs] at h; cases h
  | ok a w1 => rw [hs] at h; cases h; rfl
/-- What an operation leaves in its slot. -/
theorem exec_val {D : Nat → Nat} {o : Oper} (h : calm P F D o = true) (ρ : Operand → Value) (hρ : ∀ f, ρ (.func f) = .func (.func f) #[] #[]) (hc : ∀ v, ρ (.const v) = v) (hs : ∀ k, OkV B (D k) (ρ (.tmp k))) {w w' : World} {x : Value} (hw : NoView w) (hB : B ≤ w.heap.size)
    (hr : (execOp ρ o).run P w = .ok (.value x) w') {d : Nat} (hd : o.dst = some d) : OkV B (D d) x := by
  rw [calm, Bool.and_eq_true] at h
  obtain ⟨h1, h2⟩ := h
  unfold dstCalm at h1
  unfold opCalm at h2
  rw [hd] at h1
  dsimp only at h1
  unfold execOp at hr
  generalize hk : D d = κ at h1 ⊢
  match κ, h1 with
  | 0, _ => trivial
  | 1, h1 =>
    generalize hop : o.op = op at h1 h2 hr
    cases op with
    | makeFunc f a c =>
      cases f with
      | func f =>
        simp only [Bool.and_eq_true] at h1
        obtain ⟨⟨e1, e2⟩, e3⟩ := h1
        obtain rfl : f = back1 := by simpa using e1
        have ha : a = #[] := by
          have : a.size = 0 := by simpa using e2
          exact Array.eq_empty_of_size_eq_zero this
        subst ha
        have hr := v_ok hr
        cases hr
        exact .inr (.inr ⟨c.map ρ, by simpa using e3, by simp⟩)
      | _ => cases h1
    | assign y =>
      cases hr
      cases y with
      | tmp s =>
        have hk : D s = 1 := by simpa using h1
        have := hs s
        rw [hk] at this
        exact this
      | const v =>
        cases v <;> first | (rw [hc]; exact .inr (.inl rfl)) | cases h1
      | _ => cases h1
    | move y =>
      cases hr
      cases y with
      | tmp s =>
        have hk : D s = 1 := by simpa using h1
        have := hs s
        rw [hk] at this
        exact this
      | _ => cases h1
    | call c =>
      obtain ⟨callee, args, ats⟩ := c
      cases callee with
      | value y =>
        cases y with
        | func f =>
          exfalso
          simp only [Bool.and_eq_true] at h2
          have hr : (Deferred.ofValue (ρ (.func f)) (args.map ρ) >>= fun d => invoke d.target d.args).run P w = .ok (.value x) w' := hr
          rw [hρ] at hr
          exact callFunc_no h2.1.2 hr
        | _ => cases h1
      | _ => cases h1
    | _ => cases h1
  | 2, h1 =>
    generalize hop : o.op = op at h1 h2 hr
    cases op with
    | move y =>
      cases hr
      cases y with
      | tmp s =>
        have hk : D s = 2 := by simpa using h1
        have := hs s
        rw [hk] at this
        exact this
      | _ => cases h1
    | _ => cases h1
  | n + 3, h1 =>
    generalize hop : o.op = op at h1 h2 hr
    cases op with
    | buildSlice t len ps =>
      exact .inr (buildSlice_val B w x w' hw hB (v_ok hr))
    | _ => cases h1
/-- The call of a range over a function. -/
def rangeCall (ρ : Operand → Value) (f : Operand) (l : Nat) : Sem Next := do
  let d ← resolve ρ { callee := .value f, args := #[.const (.func (.yield l) #[] #[])], argTypes := #[] } 0
  invoke d.target d.args
theorem calm_range {ρ : Operand → Value} {k l : Nat} (hc : ∀ v, ρ (.const v) = v) (hs : OkV B 1 (ρ (.tmp k))) (hF : F back1 = true) (hf : fnOk P back1 = true) : Calm P X F B (rangeCall ρ (.tmp k) l) := by
  show Calm P X F B (Deferred.ofValue (ρ (.tmp k)) (#[Operand.const (.func (.yield l) #[] #[])].map ρ) >>= fun d => invoke d.target d.args)
  have ha : #[Operand.const (.func (.yield l) #[] #[])].map ρ = #[.func (.yield l) #[] #[]] := by simp [hc]
  rw [ha]
  rcases hs with h | h | ⟨bs, h1, h2⟩
  · rw [h]
    exact Calm.no (Kin.never (Kin.stuck _) (never_stuck _)) (never_bind' (never_stuck _))
  · rw [h]
    exact (Calm.no (Kin.runtimePanic _) never_nil : Calm P X F B (Go.runtimePanic .nilDeref))
  · rw [h2]
    show Calm P X F B (callFunc back1 ((#[] ++ #[.func (.yield l) #[] #[]]) ++ bs))
    refine Calm.callFunc hF hf fun k hk => ?_
    have hsz : ((#[] ++ #[Value.func (.yield l) #[] #[]]) ++ bs).size = 2 := by simp [h1]
    rw [hsz] at hk
    match k, hk with
    | 0, _ => exact .inr ⟨l, by simp [Array.getD]⟩
    | 1, _ => exact trivial
theorem range_no {ρ : Operand → Value} {k l : Nat} (hc : ∀ v, ρ (.const v) = v) (hs : OkV B 1 (ρ (.tmp k))) (hf : fnOk P back1 = true) {w w' : World} {n : Next} (hr : (rangeCall ρ (.tmp k) l).run P w = .ok n w') : ∃ args, n = .enter back1 args := by
  have hr : (Deferred.ofValue (ρ (.tmp k)) (#[Operand.const (.func (.yield l) #[] #[])].map ρ) >>= fun d => invoke d.target d.args).run P w = .ok n w' := hr
  rcases hs with h | h | ⟨bs, h1, h2⟩
  · rw [h] at hr
    exact absurd hr (never_bind' (never_stuck _) _ _ _)
  · rw [h] at hr
    exact absurd hr (never_nil _ _ _)
  · rw [h2] at hr
    have hr : (callFunc back1 ((#[] ++ #[Operand.const (.func (.yield l) #[] #[])].map ρ) ++ bs)).run P w = .ok n w' := hr
    unfold fnOk at hf
    unfold callFunc at hr
    rw [Sem.run_bind] at hr
    cases hfn : P.funcs[back1]? with
    | none => rw [hfn] at hf; cases hf
    | some fn =>
      rw [hfn] at hf
      simp only [Bool.and_eq_true] at hf
      obtain ⟨hb, hn⟩ := hf
      have h1 : (fn.name == "runtime.NumGoroutine") = false := by simpa using hn
      have h2 : fn.body.isNone = false := by cases hbd : fn.body <;> simp_all
      simp only [Go.program, Sem.run, Result.andThen_ok, hfn, h1, h2] at hr
      cases hr
      exact ⟨_, rfl⟩
end
end Go.Proofs.Ytoipkpndfgcmcaa.Veils

/-
  A goroutine whose frames are calm, but for what stands behind a piece of its lowest frame's text, in two worlds (one with hidden blocks) in which other texts stand there and others wait below: its step in the one is its step in the other. The condition stands in each theorem. No program in sight.
-/
namespace Go.Proofs.Ytoipkpndfgcmcaa.Veils
open Go Go.Conc
set_option linter.unusedVariables false
def kinds (fr : Frame) : Nat → Nat := match fr.roundOf with
  | none => slotK fr.fn
  | some _ => D0
def itemCalm (P : Program) (F : FuncId → Bool) (D : Nat → Nat) : Item → Bool
  | .code c | .inLoop c | .inScope c => codeCalm P F D c
  | .inBlock _ | .inRangeFunc _ | .endRangeFunc _ | .beginRound => true
  | .inRegion ops _ => ops.all (calm P F D)
  | _ => false
/-- The functions of the set: their text is calm. -/
structure FnsCalm (P : Program) (F : FuncId → Bool) : Prop where
  fn : ∀ f, F f = true → ∃ fn body, P.funcs[f]? = some fn ∧ fn.body = some body ∧ codeCalm P F (slotK f) body = true
  loop : ∀ r, LoopOk r ↔ LoopCalm P F r
  back : ∀ fd, P.funcs[back0]? = some fd → ∃ t, fd.results = #[.tmp t] ∧ slotK back0 t = 1
def Marks (ds : List Deferred) : Prop := ∀ d ∈ ds, ∃ r, d.target = .collected r
structure FrCalm (P : Program) (F : FuncId → Bool) (B : Nat) (fr : Frame) : Prop where
  fn : ∃ fd, P.funcs[fr.fn]? = some fd
  todo : ∀ it ∈ fr.todo, itemCalm P F (kinds fr) it = true
  defers : Marks fr.defers
  kind : fr.kind = .normal
  slots : ∀ k, OkV B (kinds fr k) (fr.tmps.getD k undef)
/-- What a waiting frame waits for. -/
def LinkOk (c fr : Frame) : Prop := ∀ o d, c.oper? = some o → o.dst = some d → kinds c d = 0 ∨ (kinds c d = 1 ∧ fr.fn = back0 ∧ fr.roundOf = none)
def Linked (K : Nat → Nat) : Frame → List Frame → Prop
  | fr, [] => kinds fr = K
  | fr, c :: pl => LinkOk c fr ∧ Linked K c pl
theorem kinds_eq {fr fr' : Frame} (h1 : fr'.fn = fr.fn) (h2 : fr'.roundOf = fr.roundOf) : kinds fr' = kinds fr := by unfold kinds; rw [h1, h2]
theorem Linked.of {K : Nat → Nat} {fr fr' : Frame} (h1 : fr'.fn = fr.fn) (h2 : fr'.roundOf = fr.roundOf) : ∀ {pl : List Frame}, Linked K fr pl → Linked K fr' pl
  | [], h => (kinds_eq h1 h2).trans h
  | c :: pl, ⟨h, hl⟩ => ⟨fun o d ho hd => (h o d ho hd).imp id fun x => ⟨x.1, h1.trans x.2.1, h2.trans x.2.2⟩, hl⟩
theorem Linked.to {K : Nat → Nat} {fr fr' : Frame} {pl : List Frame} (h : Linked K fr pl) (h1 : fr'.fn = fr.fn) (h2 : fr'.roundOf = fr.roundOf) : Linked K fr' pl := Linked.of h1 h2 h
def plus (fr : Frame) (x : List Item) : Frame := { fr with todo := fr.todo ++ x }
def tip (k : List Item) : List Frame → List Item
  | [] => k
  | _ :: _ => []
def ext (k : List Item) : List Frame → List Frame
  | [] => []
  | c :: pl => plus c (tip k pl) :: ext k pl
theorem plus_nil (fr : Frame) : plus fr [] = fr := by unfold plus; rw [List.append_nil]
theorem finish_plus {fr : Frame} (h : fr.todo ≠ []) (x : List Item) (v : Value) : (plus fr x).finish v = plus (fr.finish v) x := by
  obtain ⟨fn, tmps, todo, defers, mode, kind, round⟩ := fr
  cases todo with
  | nil => exact absurd rfl h
  | cons it t =>
    cases it with
    | inRegion ops l => cases l <;> simp [plus, Frame.finish]
    | _ => simp [plus, Frame.finish]
/-- A frame that waits. -/
def Waits (P : Program) (F : FuncId → Bool) (B : Nat) (c : Frame) : Prop := FrCalm P F B c ∧ c.mode = .run ∧ c.todo ≠ []
def ModeOk (fr : Frame) : Prop := fr.mode = .run ∨ fr.mode = .returning
/-- A goroutine's frames, calm. -/
structure OkSt (P : Program) (F : FuncId → Bool) (B : Nat) (K : Nat → Nat) (fr : Frame) (pl : List Frame) : Prop where
  calm : FrCalm P F B fr
  mode : ModeOk fr
  waits : ∀ c ∈ pl, Waits P F B c
  link : Linked K fr pl
def gaft : GStep → Nat
  | .go _ w _ => w.drawn
  | .ended _ w _ => w.drawn
  | _ => 0
def cfg (k : List Item) (fr : Frame) (pl cs : List Frame) : Goroutine := G (plus fr (tip k pl)) (ext k pl ++ cs)
section
variable {P : Program} {F : FuncId → Bool} {X : Nat → Prop} {B : Nat} {K : Nat → Nat} {k kl : List Item}
theorem getD_set (tmps : Array Value) (d k : Nat) (v : Value) : (tmps.setIfInBounds d v).getD k undef = if k = d ∧ d < tmps.size then v else tmps.getD k undef := by
  rw [Array.getD_eq_getD_getElem?, Array.getD_eq_getD_getElem?, Array.getElem?_setIfInBounds]
  by_cases h : d = k
  · subst h
    by_cases hl : d < tmps.size
    · simp [hl]
    · simp [hl]
  · simp [h, Ne.symm h]
theorem FrCalm.finish {fr : Frame} (h : FrCalm P F B fr) (v : Value) (hv : ∀ o d, fr.oper? = some o → o.dst = some d → OkV B (kinds fr d) v) : FrCalm P F B (fr.finish v) := by
  obtain ⟨fn, tmps, todo, defers, mode, kind, round⟩ := fr
  obtain ⟨h1, h2, h3, h4, h5⟩ := h
  unfold Frame.finish
  dsimp only
  split
  · rename_i ops i rest k
    refine ⟨h1, fun it hit => ?_, h3, h4, ?_⟩
    · rcases List.mem_cons.1 hit with rfl | hit
      · exact h2 (.inRegion ops (i :: rest)) (by simp)
      · exact h2 it (by simp [hit])
    · intro k'
      show OkV B (kinds _ k') (Array.getD (match (ops[i]?).bind (·.dst) with | some d => tmps.setIfInBounds d v | none => tmps) k' undef)
      cases ho : ops[i]? with
      | none => exact h5 k'
      | some o =>
        simp only [Option.bind_some]
        cases hd : o.dst with
        | none => exact h5 k'
        | some d =>
          simp only
          rw [getD_set]
          split
          · rename_i e
            rw [e.1]
            exact hv o d ho hd
          · exact h5 k'
  · rename_i l k
    refine ⟨h1, fun it hit => ?_, h3, h4, h5⟩
    rcases List.mem_cons.1 hit with rfl | hit
    · rfl
    · exact h2 it (by simp [hit])
  · rename_i k
    exact ⟨h1, fun it hit => h2 it (by simp [hit]), h3, h4, h5⟩
  · have := h2 _ List.mem_cons_self
    cases this
  · have := h2 _ List.mem_cons_self
    cases this
  · exact ⟨h1, h2, h3, h4, h5⟩
theorem finish_rest (fr : Frame) (v : Value) (h : ∀ it ∈ fr.todo, itemCalm P F (kinds fr) it = true) : (fr.finish v).fn = fr.fn ∧ (fr.finish v).roundOf = fr.roundOf ∧ (fr.finish v).mode = fr.mode ∧ (fr.finish v).defers = fr.defers := by
  unfold Frame.finish
  split <;> exact ⟨rfl, rfl, rfl, rfl⟩
theorem FrCalm.enter (hF : FnsCalm P F) {f : FuncId} (hf : F f = true) (args : Array Value) (ha : ∀ k, k < args.size → OkV B (slotK f k) (args.getD k undef)) : FrCalm P F B (Frame.enter P f args .normal) := by
  obtain ⟨fn, body, h1, h2, h3⟩ := hF.fn f hf
  refine ⟨⟨fn, h1⟩, fun it hit => ?_, fun d hd => (by cases hd), rfl, fun k => ?_⟩
  · have : it = .code body := by
      simp only [Frame.enter, h1, Option.bind_some, h2, Option.getD_some, List.mem_singleton] at hit
      exact hit
    rw [this]
    exact h3
  · show OkV B (slotK f k) ((args ++ Array.replicate _ undef).getD k undef)
    by_cases hk : k < args.size
    · rw [Array.getD_eq_getD_getElem?, Array.getElem?_append_left hk, ← Array.getD_eq_getD_getElem?]
      exact ha k hk
    · rw [Array.getD_eq_getD_getElem?, Array.getElem?_append_right (by omega), Array.getElem?_replicate]
      have : ∀ c : Prop, [Decidable c] → (if c then some undef else none).getD undef = undef := fun c _ => by split <;> rfl
      rw [this]
      exact OkV.undef_ _ _
theorem FrCalm.round_ {l : Nat} {f : FuncId} {tmps : Array Value} {a b : Code} (hf : ∃ fd, P.funcs[f]? = some fd) (ha : codeCalm P F D0 a = true) (hb : codeCalm P F D0 b = true) : FrCalm P F B (Frame.round l f tmps a b .normal) := by
  refine ⟨hf, fun it hit => ?_, fun d hd => (by cases hd), rfl, fun k => trivial⟩
  have hit : it ∈ [Item.code a, .beginRound, .code b] := hit
  rcases List.mem_cons.1 hit with rfl | hit
  · exact ha
  rcases List.mem_cons.1 hit with rfl | hit
  · rfl
  rcases List.mem_cons.1 hit with rfl | hit
  · exact hb
  · cases hit
theorem exitTo_sub {id : Nat} : ∀ {k k' : List Item}, exitTo id k = some k' → ∀ it ∈ k', it ∈ k
  | [], _, h => by cases h
  | i :: k, k', h => by
    intro it hit
    unfold exitTo at h
    split at h
    · rename_i e
      split at h
      · injection h with h
        subst h
        injection e with e1 e2
        subst e2
        exact List.mem_cons_of_mem _ hit
      · injection e with e1 e2
        subst e2
        exact List.mem_cons_of_mem _ (exitTo_sub h it hit)
    · rename_i e
      injection e with e1 e2
      subst e2
      exact List.mem_cons_of_mem _ (exitTo_sub h it hit)
    · rename_i e
      cases e
theorem exitTo_app {id : Nat} : ∀ {t t' : List Item} {x : List Item}, exitTo id t = some t' → exitTo id (t ++ x) = some (t' ++ x)
  | [], _, _, h => by cases h
  | i :: t, t', x, h => by
    rw [List.cons_append]
    unfold exitTo at h ⊢
    cases i with
    | inBlock j =>
      simp only at h ⊢
      split at h
      · rename_i e
        injection h with h
        subst h
        simp only [e, if_true]
      · rename_i e
        simp only [e]
        exact exitTo_app h
    | _ => first | (simp only at h ⊢; exact exitTo_app h) | cases h
theorem exitTo_none {id : Nat} : ∀ {t x : List Item}, exitTo id t = none → exitTo id x = none → exitTo id (t ++ x) = none
  | [], _, _, h => h
  | i :: t, x, h, hx => by
    rw [List.cons_append]
    unfold exitTo at h ⊢
    cases i with
    | inBlock j =>
      simp only at h ⊢
      split at h
      · cases h
      · rename_i e
        simp only [e]
        exact exitTo_none h hx
    | _ => first | (simp only at h ⊢; exact exitTo_none h hx) | simp
theorem Kin.results (fn : Func) (tmps : Array Value) : Kin P X (Go.results fn tmps) := by
  unfold Go.results
  refine Kin.bind (Kin.mapM (fun a => ?_) _) (fun _ => Kin.pure _)
  split
  · exact Kin.pure _
  · exact Kin.bind (Kin.asAddr _) fun _ => Kin.loadVar _ _
theorem seen_sub (fn : FuncId) (es : Array Event) : ∀ e ∈ seen P fn es, e ∈ es := by
  intro e he
  unfold seen at he
  dsimp only at he
  rw [← Array.foldl_toList] at he
  have key : ∀ (l : List Event) (q : Bool) (kept : Array Event), (∀ x ∈ kept, x ∈ es) → (∀ x ∈ l, x ∈ es) → ∀ x ∈ (l.foldl (fun (x : Bool × Array Event) e => match e.loc with
      | .mark (.extern f) => ((P.funcs[f]?).any (·.norace), x.2)
      | _ => (x.1, if x.1 && !e.sync then x.2 else x.2.push e)) (q, kept)).2, x ∈ es := by
    intro l
    induction l with
    | nil => intro q kept h _ x hx; exact h x hx
    | cons y l ih =>
      intro q kept h hl x hx
      rw [List.foldl_cons] at hx
      dsimp only at hx
      split at hx
      · exact ih _ _ h (fun z hz => hl z (List.mem_cons_of_mem _ hz)) x hx
      · refine ih _ _ (fun z hz => ?_) (fun z hz => hl z (List.mem_cons_of_mem _ hz)) x hx
        split at hz
        · exact h z hz
        · rcases Array.mem_push.1 hz with h1 | h1
          · exact h z h1
          · rw [h1]; exact hl y List.mem_cons_self
  exact key es.toList _ #[] (fun x hx => by simp at hx) (fun x hx => Array.mem_toList_iff.1 hx) e he
structure OnGo (P : Program) (X : Nat → Prop) (k : List Item) (fr : Frame) (pl cs : List Frame) (v w : World) (fr' : Frame) (pl' : List Frame) (v' : World) : Prop where
  real : ∃ w' es, stepG P true (cfg k fr pl cs) w = .go (cfg k fr' pl' cs) w' es ∧ Veil X v' w' ∧ Keep X w w' ∧ w'.drawn + v.drawn = v'.drawn + w.drawn ∧ v'.tape = v.tape ∧ w'.tape = w.tape ∧ w.drawn ≤ w'.drawn ∧ w.heap.size ≤ w'.heap.size ∧ ∀ e ∈ es, FineE X w'.heap.size e
def StepS (P : Program) (F : FuncId → Bool) (B : Nat) (K : Nat → Nat) (X : Nat → Prop) (kl k : List Item) (fr : Frame) (pl : List Frame) (F0 : Frame) (v : World) (S : GStep) : Prop :=
  (∃ fr' pl' v' es', S = .go (cfg kl fr' pl' [F0]) v' es' ∧ OkSt P F B K fr' pl' ∧ NoView v' ∧ v.heap.size ≤ v'.heap.size ∧
    ∀ cs w, Veil X v w → (∀ j q, w.drawn + j < gaft (stepG P true (cfg k fr pl cs) w) → v.tape (v.drawn + j) q = w.tape (w.drawn + j) q) → OnGo P X k fr pl cs v w fr' pl' v')
  ∨ (pl = [] ∧ ∃ x v' es', S = .go (G (F0.finish x) []) v' es')
  ∨ (∃ fr' : Frame, ∃ ch v' es', S = .go (G { fr' with mode := .panicking ch } (ext kl pl ++ [F0])) v' es' ∧ NoView v' ∧ (∃ fd, P.funcs[fr'.fn]? = some fd) ∧ Marks fr'.defers)
  ∨ (∃ o v' es', S = .ended o v' es')
theorem StepS.ctl {fr fr' : Frame} {pl : List Frame} {F0 : Frame} {v : World} (hnv : NoView v) (h : ∀ x cs w, (x = tip kl pl ∨ x = tip k pl) → stepG P true (G (plus fr x) cs) w = .go (G (plus fr' x) cs) w #[]) (hok : OkSt P F B K fr' pl) : StepS P F B K X kl k fr pl F0 v (stepG P true (cfg kl fr pl [F0]) v) :=
  .inl ⟨fr', pl, v, #[], h _ _ _ (.inl rfl), hok, hnv, Nat.le_refl _, fun cs w hv _ => ⟨w, #[], h _ _ _ (.inr rfl), hv, Keep.refl _ _, by omega, rfl, rfl, Nat.le_refl _, Nat.le_refl _, fun e he => by simp at he⟩⟩
theorem StepS.bad {fr : Frame} {pl : List Frame} {F0 : Frame} {v : World} {o : Outcome} {v' : World} {es : Array Event} (h : stepG P true (cfg kl fr pl [F0]) v = .ended o v' es) : StepS P F B K X kl k fr pl F0 v (stepG P true (cfg kl fr pl [F0]) v) := .inr (.inr (.inr ⟨o, v', es, h⟩))
/-- A step that does one piece of work. -/
theorem sem_step {α : Type} {s : Sem α} (hK : Kin P X s) {fr fr' : Frame} {pl pl' : List Frame} {F0 : Frame} {v v' : World} {a : α} (hnv : NoView v)
    (haft : ∀ cs w, NoView w → gaft (stepG P true (cfg k fr pl cs) w) = aft (s.run P w)) (hr : s.run P v = .ok a v')
    (hgo : ∀ kk cs w w', (kk = kl ∨ kk = k) → s.run P w = .ok a w' → ∃ es, stepG P true (cfg kk fr pl cs) w = .go (cfg kk fr' pl' cs) w' es ∧ ∀ e ∈ es, e ∈ s.events P w #[])
    (hok : OkSt P F B K fr' pl') : StepS P F B K X kl k fr pl F0 v (stepG P true (cfg kl fr pl [F0]) v) := by
  obtain ⟨es0, h0, _⟩ := hgo kl [F0] v v' (.inl rfl) hr
  have hmm := hK.mono v hnv
  rw [hr] at hmm
  refine .inl ⟨fr', pl', v', es0, h0, hok, hmm.2.1, hmm.2.2, fun cs w hv ht => ?_⟩
  obtain ⟨w', e1, e2, e3, e4, e5, e6, e7⟩ := hK.sim v w a v' hv (fun j q hj => by
    rcases hv.real with hnw | ⟨hd, htp⟩
    · rw [haft cs w hnw] at ht
      exact ht j q hj
    · rw [hd, htp]) hr
  obtain ⟨es, hg, hes⟩ := hgo k cs w w' (.inr rfl) e1
  have hm1 := hmm.1
  have hm2 := hmm.2.2
  rw [hv.size, e2.size] at hm2
  obtain ⟨evs, h1, h2⟩ := e7 #[]
  refine ⟨w', es, hg, e2, e3, e4, e5, e6, by omega, hm2, fun e he => ?_⟩
  have := hes e he
  rw [h1] at this
  exact h2 e (by simpa using this)
theorem exec_links {D : Nat → Nat} {o : Oper} (h : calm P F D o = true) (ρ : Operand → Value) (hρ : ∀ f, ρ (.func f) = .func (.func f) #[] #[]) {w w' : World} {n : Next} (hr : (execOp ρ o).run P w = .ok n w') (hn : ∀ x, n ≠ .value x) {d : Nat} (hd : o.dst = some d) :
    D d = 0 ∨ (D d = 1 ∧ ∃ args, n = .enter back0 args) := by
  rw [calm, Bool.and_eq_true] at h
  obtain ⟨h1, h2⟩ := h
  unfold dstCalm at h1
  unfold opCalm at h2
  rw [hd] at h1
  dsimp only at h1
  unfold execOp at hr
  have hv : ∀ s : Sem Value, (do pure (Next.value (← s)) : Sem Next).run P w = .ok n w' → False := fun s e => by
    rw [Sem.run_bind] at e
    cases hs : s.run P w with
    | halt y w1 => rw [hs] at e; cases e
    | ok a w1 => rw [hs] at e; cases e; exact hn _ rfl
  generalize hk : D d = κ at h1 ⊢
  match κ, h1 with
  | 0, _ => exact .inl rfl
  | 1, h1 =>
    generalize hop : o.op = op at h1 h2 hr
    cases op with
    | makeFunc f a c => exact (hv _ hr).elim
    | assign y => cases hr; exact absurd rfl (hn _)
    | move y => cases hr; exact absurd rfl (hn _)
    | call c =>
      obtain ⟨callee, args, ats⟩ := c
      cases callee with
      | value y =>
        cases y with
        | func f =>
          simp only [Bool.and_eq_true] at h2
          obtain rfl : f = back0 := by simpa using h1
          have hr : (Deferred.ofValue (ρ (.func back0)) (args.map ρ) >>= fun d => invoke d.target d.args).run P w = .ok n w' := hr
          rw [hρ] at hr
          have hr : (callFunc back0 ((#[] ++ args.map ρ) ++ #[])).run P w = .ok n w' := hr
          have hf := h2.1.2
          unfold fnOk at hf
          unfold callFunc at hr
          rw [Sem.run_bind] at hr
          cases hfn : P.funcs[back0]? with
          | none => rw [hfn] at hf; cases hf
          | some fn =>
            rw [hfn] at hf
            simp only [Bool.and_eq_true] at hf
            obtain ⟨hb, hn'⟩ := hf
            have h1 : (fn.name == "runtime.NumGoroutine") = false := by simpa using hn'
            have h2 : fn.body.isNone = false := by cases hbd : fn.body <;> simp_all
            simp only [Go.program, Sem.run, Result.andThen_ok, hfn, h1, h2] at hr
            cases hr
            exact .inr ⟨rfl, _, rfl⟩
        | _ => cases h1
      | _ => cases h1
    | _ => cases h1
  | 2, h1 =>
    generalize hop : o.op = op at h1 h2 hr
    cases op with
    | move y => cases hr; exact absurd rfl (hn _)
    | _ => cases h1
  | n + 3, h1 =>
    generalize hop : o.op = op at h1 h2 hr
    cases op with
    | buildSlice t len ps => exact (hv _ hr).elim
    | _ => cases h1
end
end Go.Proofs.Ytoipkpndfgcmcaa.Veils

namespace Go.Proofs.Ytoipkpndfgcmcaa.Veils
open Go Go.Conc
set_option linter.unusedVariables false
set_option linter.unusedSimpArgs false
section
variable {P : Program} {F : FuncId → Bool} {X : Nat → Prop} {B : Nat} {K : Nat → Nat} {k kl : List Item}
/-- What waits is let go on. -/
theorem FrCalm.wake {c fr : Frame} (hc : FrCalm P F B c) (hl : LinkOk c fr) {x : Value} (hx : fr.fn = back0 → fr.roundOf = none → OkV B 1 x) : FrCalm P F B (c.finish x) :=
  hc.finish x fun o d ho hd => by
    rcases hl o d ho hd with h | ⟨h1, h2, h3⟩
    · rw [h]; trivial
    · rw [h1]; exact hx h2 h3
theorem OkSt.wake {fr c : Frame} {pl : List Frame} (h : OkSt P F B K fr (c :: pl)) {x : Value} (hx : fr.fn = back0 → fr.roundOf = none → OkV B 1 x) : OkSt P F B K (c.finish x) pl := by
  obtain ⟨h1, h2, h3⟩ := h.waits c List.mem_cons_self
  obtain ⟨e1, e2, e3, e4⟩ := finish_rest (P := P) (F := F) c x h1.todo
  exact ⟨h1.wake h.link.1 hx, .inl (e3.trans h2), fun d hd => h.waits d (List.mem_cons_of_mem _ hd), Linked.of e1 e2 h.link.2⟩
/-- The step of an operation. -/
theorem step_oper (hF : FnsCalm P F) (hXB : ∀ b, X b → b < B) {fn : FuncId} {tmps : Array Value} {ops : Array Oper} {i : Nat} {rest : List Nat} {kk : List Item} {defers : List Deferred} {round : Option Nat} {o : Oper} (ho : ops[i]? = some o) (hw : Region.wanted o (yielded ops tmps) = true) (pl : List Frame) (F0 : Frame) (v : World)
    (hok : OkSt P F B K ⟨fn, tmps, .inRegion ops (i :: rest) :: kk, defers, .run, .normal, round⟩ pl) (hnv : NoView v) (hB : B ≤ v.heap.size) :
    StepS P F B K X kl k ⟨fn, tmps, .inRegion ops (i :: rest) :: kk, defers, .run, .normal, round⟩ pl F0 v (stepG P true (cfg kl ⟨fn, tmps, .inRegion ops (i :: rest) :: kk, defers, .run, .normal, round⟩ pl [F0]) v) := by
  obtain ⟨hc, _, hpl, hlink⟩ := hok
  have hall : ops.all (calm P F (kinds ⟨fn, tmps, .inRegion ops (i :: rest) :: kk, defers, .run, .normal, round⟩)) = true := hc.todo _ List.mem_cons_self
  obtain ⟨fr, hfr⟩ : ∃ fr : Frame, (⟨fn, tmps, .inRegion ops (i :: rest) :: kk, defers, .run, .normal, round⟩ : Frame) = fr := ⟨_, rfl⟩
  have hcalm : calm P F (kinds fr) o = true := by
    rw [← hfr]
    obtain ⟨hi, rfl⟩ := Array.getElem?_eq_some_iff.1 ho
    exact Array.all_eq_true.1 hall i hi
  have hcalm2 : opCalm P F (kinds fr) o = true := by rw [calm, Bool.and_eq_true] at hcalm; exact hcalm.2
  have hnd : ∀ c, o.op ≠ .defer c := fun c e => by
    unfold opCalm at hcalm2
    rw [e] at hcalm2
    cases hcalm2
  have hoper : fr.oper? = some o := by rw [← hfr]; exact ho
  rw [hfr] at hc hlink ⊢
  have hCalm : Calm P X F B (execOp fr.eval o) := calm_exec hcalm2 fr.eval (fun f => rfl) (fun v => rfl) (fun k => hc.slots k) hXB (fun r h => (hF.loop r).1 h)
  have hst : ∀ x cs w, stepG P true (G (plus fr x) cs) w = stepG.apply P true (plus fr x) cs none (execOp fr.eval o) w := by
    intro x cs w
    subst hfr
    cases round with
    | none =>
      simp [plus, G, stepG, stepG.exec, stepG.oper, Frame.oper?, ho, hw]
      rfl
    | some l =>
      simp only [plus, G, stepG, stepG.exec, stepG.oper, Frame.oper?, List.cons_append, ho, hw, Option.map_some, Option.getD_some, if_true]
      split
      · rename_i h
        exact absurd h (hnd _)
      · rfl
  have hk : ∀ x, ((plus fr x).kind == CallKind.early) = false := by intro x; rw [← hfr]; rfl
  have htodo : fr.todo = .inRegion ops (i :: rest) :: kk := by rw [← hfr]
  have htodo2 : ∀ x, (plus fr x).todo = .inRegion ops (i :: rest) :: (kk ++ x) := by intro x; rw [← hfr]; rfl
  have hne : fr.todo ≠ [] := by rw [htodo]; simp
  have hfn : ∀ x, (plus fr x).fn = fr.fn := fun x => rfl
  have hmode : fr.mode = .run := by rw [← hfr]
  have hval : ∀ y cs w x w', (execOp fr.eval o).run P w = .ok (.value x) w' → stepG P true (G (plus fr y) cs) w = .go (G (plus (fr.finish x) y) cs) w' (seen P fr.fn ((execOp fr.eval o).events P w #[])) := by
    intro y cs w x w' hr
    rw [hst, ← finish_plus hne]
    simp [stepG.apply, hr, G, hk, GStep.after, hfn]
  have hskip : ∀ y cs w w', (execOp fr.eval o).run P w = .ok .skip w' → stepG P true (G (plus fr y) cs) w = .go (G (plus (fr.finish undef) y) cs) w' (seen P fr.fn ((execOp fr.eval o).events P w #[])) := by
    intro y cs w w' hr
    rw [hst, ← finish_plus hne]
    simp [stepG.apply, hr, G, hk, GStep.after, hfn]
  have hent : ∀ y cs w f args w', (execOp fr.eval o).run P w = .ok (.enter f args) w' → stepG P true (G (plus fr y) cs) w = .go (G (Frame.enter P f args .normal) (plus fr y :: cs)) w' (seen P fr.fn ((execOp fr.eval o).events P w #[])) := by
    intro y cs w f args w' hr
    rw [hst]
    simp [stepG.apply, hr, G, hk, GStep.after, htodo2, hfn]
  have hrnd : ∀ y cs w l f t a b w', (execOp fr.eval o).run P w = .ok (.round l f t a b) w' → stepG P true (G (plus fr y) cs) w = .go (G (Frame.round l f t a b .normal) (plus fr y :: cs)) w' (seen P fr.fn ((execOp fr.eval o).events P w #[])) := by
    intro y cs w l f t a b w' hr
    rw [hst]
    simp [stepG.apply, hr, G, hk, GStep.after, htodo2, hfn]
  have hpan : ∀ y cs w x w', (execOp fr.eval o).run P w = .halt (.panic x) w' → stepG P true (G (plus fr y) cs) w = .go (G ((plus fr y).raise [{ v := x, recovered := false }]) cs) w' (seen P fr.fn ((execOp fr.eval o).events P w #[])) := by
    intro y cs w x w' hr
    rw [hst]
    simp [stepG.apply, hr, G, hk, GStep.after, hfn]
  have hend : ∀ y cs w x w', (execOp fr.eval o).run P w = .halt x w' → OkHalt x → (∀ y, x ≠ .panic y) → ∃ oc es, stepG P true (G (plus fr y) cs) w = .ended oc w' es := by
    intro y cs w x w' hr hx hy
    rw [hst]
    cases x with
    | stuck s => exact ⟨.stuck s ((plus fr y).pos P), _, by simp [stepG.apply, hr, hk, GStep.after]; rfl⟩
    | unsupported u =>
      refine ⟨.unsupported u ((plus fr y).pos P), seen P fr.fn ((execOp fr.eval o).events P w #[]), ?_⟩
      cases u <;> first | exact absurd rfl (hx _) | simp [stepG.apply, hr, hk, GStep.after, hfn]
    | panic y => exact absurd rfl (hy y)
    | _ => exact hx.elim
  have haft : ∀ cs w, NoView w → gaft (stepG P true (cfg k fr pl cs) w) = aft ((execOp fr.eval o).run P w) := by
    intro cs w hw
    unfold cfg
    cases hr : (execOp fr.eval o).run P w with
    | ok n w' =>
      have hn := hCalm.next w n w' hw hr
      cases n with
      | value x => rw [hval _ _ w x w' hr]; rfl
      | skip => rw [hskip _ _ w w' hr]; rfl
      | enter f args => rw [hent _ _ w f args w' hr]; rfl
      | round l f t a b => rw [hrnd _ _ w l f t a b w' hr]; rfl
      | _ => exact hn.elim
    | halt x w' =>
      have hx := hCalm.kin.hal w hw x w' hr
      by_cases hp : ∃ y, x = .panic y
      · obtain ⟨z, rfl⟩ := hp
        rw [hpan _ _ w z w' hr]; rfl
      · obtain ⟨oc, es, he⟩ := hend _ _ w x w' hr hx (fun y e => hp ⟨y, e⟩)
        rw [he]; rfl
  cases hr : (execOp fr.eval o).run P v with
  | ok n v' =>
    have hn := hCalm.next v n v' hnv hr
    have hfin : ∀ x : Value, (∀ d, o.dst = some d → OkV B (kinds fr d) x) → OkSt P F B K (fr.finish x) pl := fun x hx => by
      obtain ⟨e1, e2, e3, e4⟩ := finish_rest (P := P) (F := F) fr x hc.todo
      exact ⟨hc.finish x fun o' d h1 h2 => by rw [hoper] at h1; cases h1; exact hx d h2, .inl (e3.trans hmode), hpl, Linked.of e1 e2 hlink⟩
    have hdown : ∀ fr' : Frame, FrCalm P F B fr' → fr'.mode = .run → LinkOk fr fr' → OkSt P F B K fr' (fr :: pl) := fun fr' h1 h2 h3 =>
      ⟨h1, .inl h2, fun c hcm => by
        rcases List.mem_cons.1 hcm with rfl | hcm
        · exact ⟨hc, hmode, hne⟩
        · exact hpl c hcm, h3, hlink⟩
    cases n with
    | value x => exact sem_step hCalm.kin hnv haft hr (fun kk cs w w' _ h => ⟨_, hval _ _ w x w' h, fun e he => seen_sub _ _ e he⟩) (hfin x fun d hd => exec_val hcalm fr.eval (fun f => rfl) (fun v => rfl) (fun k => hc.slots k) hnv hB hr hd)
    | skip => exact sem_step hCalm.kin hnv haft hr (fun kk cs w w' _ h => ⟨_, hskip _ _ w w' h, fun e he => seen_sub _ _ e he⟩) (hfin undef fun d hd => OkV.undef_ _ _)
    | enter f args =>
      refine sem_step (fr' := Frame.enter P f args .normal) (pl' := fr :: pl) hCalm.kin hnv haft hr (fun kk cs w w' _ h => ⟨seen P fr.fn ((execOp fr.eval o).events P w #[]), ?_, fun e he => seen_sub _ _ e he⟩) (hdown _ (FrCalm.enter hF hn.1 args hn.2) rfl fun o' d h1 h2 => ?_)
      · have := hent (tip kk pl) (ext kk pl ++ cs) w f args w' h
        unfold cfg
        rw [show tip kk (fr :: pl) = [] from rfl, plus_nil]
        exact this
      · rw [hoper] at h1
        cases h1
        rcases exec_links hcalm fr.eval (fun f => rfl) hr (fun x e => by cases e) h2 with h | ⟨h, a, e⟩
        · exact .inl h
        · cases e
          exact .inr ⟨h, rfl, rfl⟩
    | round l f t a b =>
      refine sem_step (fr' := Frame.round l f t a b .normal) (pl' := fr :: pl) hCalm.kin hnv haft hr (fun kk cs w w' _ h => ⟨seen P fr.fn ((execOp fr.eval o).events P w #[]), ?_, fun e he => seen_sub _ _ e he⟩) (hdown _ (FrCalm.round_ hn.1 hn.2.1 hn.2.2) rfl fun o' d h1 h2 => ?_)
      · have := hrnd (tip kk pl) (ext kk pl ++ cs) w l f t a b w' h
        unfold cfg
        rw [show tip kk (fr :: pl) = [] from rfl, plus_nil]
        exact this
      · rw [hoper] at h1
        cases h1
        rcases exec_links hcalm fr.eval (fun f => rfl) hr (fun x e => by cases e) h2 with h | ⟨h, a, e⟩
        · exact .inl h
        · cases e
    | _ => exact hn.elim
  | halt x v' =>
    have hx := hCalm.kin.hal v hnv x v' hr
    by_cases hp : ∃ y, x = .panic y
    · obtain ⟨y, rfl⟩ := hp
      have hra : (plus fr (tip kl pl)).raise [{ v := y, recovered := false }] = { plus fr (tip kl pl) with mode := .panicking [{ v := y, recovered := false }] } := by rw [← hfr]; rfl
      have := hpan (tip kl pl) (ext kl pl ++ [F0]) v y v' hr
      rw [hra] at this
      have hmm := hCalm.kin.mono v hnv
      rw [hr] at hmm
      have hnv' : NoView v' := hmm.2
      exact .inr (.inr (.inl ⟨plus fr (tip kl pl), [{ v := y, recovered := false }], v', _, this, hnv', hc.fn, hc.defers⟩))
    · obtain ⟨oc, es, he⟩ := hend (tip kl pl) (ext kl pl ++ [F0]) v x v' hr hx (fun y e => hp ⟨y, e⟩)
      exact StepS.bad he
end
end Go.Proofs.Ytoipkpndfgcmcaa.Veils
