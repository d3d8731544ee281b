/-
  The operations that are calm by their text: they come to a value, to nothing or into a function of a given set, and a hidden block does not disturb them. The condition stands in each theorem. No program in sight. (Printed by wip/cvcalm.py.)
-/
import Derived.Test.YtoipkpndfgcmcaaCvOps
namespace Go.Proofs.Ytoipkpndfgcmcaa.Veils
open Go
set_option linter.unusedVariables false
section
variable {P : Program} {X : Nat → Prop}
theorem Kin.under {β : Type} {t : TypeId} {d : TypeDesc} (hU : P.underlying t = some d) {f : TypeDesc → Sem β} (hf : Kin P X (f d)) : Kin P X (Go.underlying t >>= f) := by
  unfold Go.underlying
  rw [bind_assoc]
  refine Kin.bindP ?_
  rw [hU]
  exact hf
theorem Kin.equalInt (t : TypeId) (k : IntKind) (hU : P.underlying t = some (.int k)) (x y : Value) : Kin P X (Op.equal t x y) := by
  show Kin P X (Op.equalIn (9999 + 1) t x y)
  unfold Op.equalIn
  refine Kin.under hU ?_
  (repeat' (first
    | contradiction
    | (intro b v a v' h; cases b <;> (simp [Go.unsupported, Go.mark, Sem.run] at h; done))
    | (intro v a v' h; first | (cases h; done) | (simp [Go.stuck, Go.unsupported, Sem.run] at h; done))
    | with_reducible exact Kin.pure _
    | with_reducible exact Kin.stuck _
    | exact Kin.unsupported _ (fun g hg => by cases hg)
    | with_reducible exact Kin.goPanic _
    | with_reducible exact Kin.load _
    | with_reducible exact Kin.store _ _
    | with_reducible exact Kin.choose _
    | with_reducible exact Kin.noRoom
    | with_reducible exact Kin.frozen _
    | with_reducible exact Kin.newRow _ _
    | with_reducible exact Kin.typeInfo _
    | with_reducible exact Kin.underlying _
    | with_reducible exact Kin.zeroValue _
    | with_reducible exact Kin.sizeOf _
    | with_reducible exact Kin.isAgg _
    | with_reducible exact Kin.loadCells _ _
    | with_reducible exact Kin.storeCells _ _ _
    | with_reducible exact Kin.loadVar _ _
    | with_reducible exact Kin.storeVar _ _ _
    | with_reducible exact Kin.newVar _ _
    | with_reducible exact Kin.elemOf _
    | with_reducible exact Kin.part _ _ _
    | with_reducible exact Kin.askRoom _
    | with_reducible exact Kin.runtimePanic _
    | with_reducible exact Kin.boundsPanic _ _ _ _
    | with_reducible exact Kin.asIntOf _
    | with_reducible exact Kin.asBool _
    | with_reducible exact Kin.asString _
    | with_reducible exact Kin.asAgg _
    | with_reducible exact Kin.asAddr _
    | with_reducible exact Kin.asInt _
    | with_reducible exact Kin.numberAt _
    | with_reducible exact Kin.behindNumber _
    | with_reducible exact Kin.noView _
    | with_reducible exact Kin.asNumber _ _
    | with_reducible exact Kin.byteOf _
    | with_reducible exact Kin.twoPlaces _ _
    | with_reducible exact Kin.unsafeAdd2 _ _ _ _
    | with_reducible exact Kin.addrSub _ _ _
    | with_reducible exact Kin.addrCmp _ _ _
    | with_reducible exact Kin.addrMod _ _ _
    | with_reducible exact Kin.unsafeAdd _ _ _ _
    | with_reducible exact Kin.movedNumber _ _ _
    | with_reducible exact Kin.movedPointer _ _ _
    | with_reducible exact Kin.intArith _ _ _ _
    | with_reducible exact Kin.intDiv _ _ _ _
    | with_reducible exact Kin.intBits _ _ _ _
    | with_reducible exact Kin.intCmp _ _ _
    | with_reducible exact Kin.shift _ _ _ _ _
    | with_reducible exact Kin.floatArith _ _ _ _
    | with_reducible exact Kin.floatCmp _ _ _ _
    | with_reducible exact Kin.stringOp _ _ _
    | with_reducible exact Kin.intToInt _ _
    | with_reducible exact Kin.floatToInt _ _ _
    | with_reducible exact Kin.floatToFloat _ _ _
    | with_reducible exact Kin.arithC _ _ _ _
    | with_reducible exact Kin.cmpC _ _ _ _
    | with_reducible exact Kin.convC _ _ _
    | with_reducible exact Kin.addC _ _
    | with_reducible exact Kin.subC _ _
    | with_reducible exact Kin.mulC _ _
    | with_reducible exact Kin.quoC _ _
    | with_reducible exact Kin.product _ _ _ _
    | with_reducible exact Kin.corrected _ _ _ _ _
    | with_reducible exact Kin.quotient _ _ _ _
    | with_reducible exact Kin.complexOp _ _ _ _ _ _
    | with_reducible exact Kin.sureAddr _
    | with_reducible exact Kin.partAt _ _ _
    | with_reducible exact Kin.fieldPlace _ _
    | with_reducible exact Kin.sliceBound _ _ _
    | with_reducible exact Kin.sliceBounds _ _ _ _ _ _
    | with_reducible exact Kin.slice _ _ _ _ _
    | with_reducible exact Kin.lenOf _
    | with_reducible exact Kin.firstCells _ _ _
    | with_reducible refine Kin.bindP ?_
    | with_reducible refine Kin.bind ?_ (fun _ => ?_)
    | with_reducible refine Kin.ite _ ?_ ?_
    | split
    | dsimp only))
theorem Kin.equalBool (t : TypeId) (hU : P.underlying t = some .bool) (x y : Value) : Kin P X (Op.equal t x y) := by
  show Kin P X (Op.equalIn (9999 + 1) t x y)
  unfold Op.equalIn
  refine Kin.under hU ?_
  (repeat' (first
    | contradiction
    | (intro b v a v' h; cases b <;> (simp [Go.unsupported, Go.mark, Sem.run] at h; done))
    | (intro v a v' h; first | (cases h; done) | (simp [Go.stuck, Go.unsupported, Sem.run] at h; done))
    | with_reducible exact Kin.pure _
    | with_reducible exact Kin.stuck _
    | exact Kin.unsupported _ (fun g hg => by cases hg)
    | with_reducible exact Kin.goPanic _
    | with_reducible exact Kin.load _
    | with_reducible exact Kin.store _ _
    | with_reducible exact Kin.choose _
    | with_reducible exact Kin.noRoom
    | with_reducible exact Kin.frozen _
    | with_reducible exact Kin.newRow _ _
    | with_reducible exact Kin.typeInfo _
    | with_reducible exact Kin.underlying _
    | with_reducible exact Kin.zeroValue _
    | with_reducible exact Kin.sizeOf _
    | with_reducible exact Kin.isAgg _
    | with_reducible exact Kin.loadCells _ _
    | with_reducible exact Kin.storeCells _ _ _
    | with_reducible exact Kin.loadVar _ _
    | with_reducible exact Kin.storeVar _ _ _
    | with_reducible exact Kin.newVar _ _
    | with_reducible exact Kin.elemOf _
    | with_reducible exact Kin.part _ _ _
    | with_reducible exact Kin.askRoom _
    | with_reducible exact Kin.runtimePanic _
    | with_reducible exact Kin.boundsPanic _ _ _ _
    | with_reducible exact Kin.asIntOf _
    | with_reducible exact Kin.asBool _
    | with_reducible exact Kin.asString _
    | with_reducible exact Kin.asAgg _
    | with_reducible exact Kin.asAddr _
    | with_reducible exact Kin.asInt _
    | with_reducible exact Kin.numberAt _
    | with_reducible exact Kin.behindNumber _
    | with_reducible exact Kin.noView _
    | with_reducible exact Kin.asNumber _ _
    | with_reducible exact Kin.byteOf _
    | with_reducible exact Kin.twoPlaces _ _
    | with_reducible exact Kin.unsafeAdd2 _ _ _ _
    | with_reducible exact Kin.addrSub _ _ _
    | with_reducible exact Kin.addrCmp _ _ _
    | with_reducible exact Kin.addrMod _ _ _
    | with_reducible exact Kin.unsafeAdd _ _ _ _
    | with_reducible exact Kin.movedNumber _ _ _
    | with_reducible exact Kin.movedPointer _ _ _
    | with_reducible exact Kin.intArith _ _ _ _
    | with_reducible exact Kin.intDiv _ _ _ _
    | with_reducible exact Kin.intBits _ _ _ _
    | with_reducible exact Kin.intCmp _ _ _
    | with_reducible exact Kin.shift _ _ _ _ _
    | with_reducible exact Kin.floatArith _ _ _ _
    | with_reducible exact Kin.floatCmp _ _ _ _
    | with_reducible exact Kin.stringOp _ _ _
    | with_reducible exact Kin.intToInt _ _
    | with_reducible exact Kin.floatToInt _ _ _
    | with_reducible exact Kin.floatToFloat _ _ _
    | with_reducible exact Kin.arithC _ _ _ _
    | with_reducible exact Kin.cmpC _ _ _ _
    | with_reducible exact Kin.convC _ _ _
    | with_reducible exact Kin.addC _ _
    | with_reducible exact Kin.subC _ _
    | with_reducible exact Kin.mulC _ _
    | with_reducible exact Kin.quoC _ _
    | with_reducible exact Kin.product _ _ _ _
    | with_reducible exact Kin.corrected _ _ _ _ _
    | with_reducible exact Kin.quotient _ _ _ _
    | with_reducible exact Kin.complexOp _ _ _ _ _ _
    | with_reducible exact Kin.sureAddr _
    | with_reducible exact Kin.partAt _ _ _
    | with_reducible exact Kin.fieldPlace _ _
    | with_reducible exact Kin.sliceBound _ _ _
    | with_reducible exact Kin.sliceBounds _ _ _ _ _ _
    | with_reducible exact Kin.slice _ _ _ _ _
    | with_reducible exact Kin.lenOf _
    | with_reducible exact Kin.firstCells _ _ _
    | with_reducible refine Kin.bindP ?_
    | with_reducible refine Kin.bind ?_ (fun _ => ?_)
    | with_reducible refine Kin.ite _ ?_ ?_
    | split
    | dsimp only))
theorem Kin.guardInt (t : TypeId) (k : IntKind) (hU : P.underlying t = some (.int k)) (x y : Value) : Kin P X (Op.eqGuardIn Op.maxDepth t x y) := by
  show Kin P X (Op.eqGuardIn (9999 + 1) t x y)
  unfold Op.eqGuardIn
  refine Kin.under hU ?_
  (repeat' (first
    | contradiction
    | (intro b v a v' h; cases b <;> (simp [Go.unsupported, Go.mark, Sem.run] at h; done))
    | (intro v a v' h; first | (cases h; done) | (simp [Go.stuck, Go.unsupported, Sem.run] at h; done))
    | with_reducible exact Kin.pure _
    | with_reducible exact Kin.stuck _
    | exact Kin.unsupported _ (fun g hg => by cases hg)
    | with_reducible exact Kin.goPanic _
    | with_reducible exact Kin.load _
    | with_reducible exact Kin.store _ _
    | with_reducible exact Kin.choose _
    | with_reducible exact Kin.noRoom
    | with_reducible exact Kin.frozen _
    | with_reducible exact Kin.newRow _ _
    | with_reducible exact Kin.typeInfo _
    | with_reducible exact Kin.underlying _
    | with_reducible exact Kin.zeroValue _
    | with_reducible exact Kin.sizeOf _
    | with_reducible exact Kin.isAgg _
    | with_reducible exact Kin.loadCells _ _
    | with_reducible exact Kin.storeCells _ _ _
    | with_reducible exact Kin.loadVar _ _
    | with_reducible exact Kin.storeVar _ _ _
    | with_reducible exact Kin.newVar _ _
    | with_reducible exact Kin.elemOf _
    | with_reducible exact Kin.part _ _ _
    | with_reducible exact Kin.askRoom _
    | with_reducible exact Kin.runtimePanic _
    | with_reducible exact Kin.boundsPanic _ _ _ _
    | with_reducible exact Kin.asIntOf _
    | with_reducible exact Kin.asBool _
    | with_reducible exact Kin.asString _
    | with_reducible exact Kin.asAgg _
    | with_reducible exact Kin.asAddr _
    | with_reducible exact Kin.asInt _
    | with_reducible exact Kin.numberAt _
    | with_reducible exact Kin.behindNumber _
    | with_reducible exact Kin.noView _
    | with_reducible exact Kin.asNumber _ _
    | with_reducible exact Kin.byteOf _
    | with_reducible exact Kin.twoPlaces _ _
    | with_reducible exact Kin.unsafeAdd2 _ _ _ _
    | with_reducible exact Kin.addrSub _ _ _
    | with_reducible exact Kin.addrCmp _ _ _
    | with_reducible exact Kin.addrMod _ _ _
    | with_reducible exact Kin.unsafeAdd _ _ _ _
    | with_reducible exact Kin.movedNumber _ _ _
    | with_reducible exact Kin.movedPointer _ _ _
    | with_reducible exact Kin.intArith _ _ _ _
    | with_reducible exact Kin.intDiv _ _ _ _
    | with_reducible exact Kin.intBits _ _ _ _
    | with_reducible exact Kin.intCmp _ _ _
    | with_reducible exact Kin.shift _ _ _ _ _
    | with_reducible exact Kin.floatArith _ _ _ _
    | with_reducible exact Kin.floatCmp _ _ _ _
    | with_reducible exact Kin.stringOp _ _ _
    | with_reducible exact Kin.intToInt _ _
    | with_reducible exact Kin.floatToInt _ _ _
    | with_reducible exact Kin.floatToFloat _ _ _
    | with_reducible exact Kin.arithC _ _ _ _
    | with_reducible exact Kin.cmpC _ _ _ _
    | with_reducible exact Kin.convC _ _ _
    | with_reducible exact Kin.addC _ _
    | with_reducible exact Kin.subC _ _
    | with_reducible exact Kin.mulC _ _
    | with_reducible exact Kin.quoC _ _
    | with_reducible exact Kin.product _ _ _ _
    | with_reducible exact Kin.corrected _ _ _ _ _
    | with_reducible exact Kin.quotient _ _ _ _
    | with_reducible exact Kin.complexOp _ _ _ _ _ _
    | with_reducible exact Kin.sureAddr _
    | with_reducible exact Kin.partAt _ _ _
    | with_reducible exact Kin.fieldPlace _ _
    | with_reducible exact Kin.sliceBound _ _ _
    | with_reducible exact Kin.sliceBounds _ _ _ _ _ _
    | with_reducible exact Kin.slice _ _ _ _ _
    | with_reducible exact Kin.lenOf _
    | with_reducible exact Kin.firstCells _ _ _
    | with_reducible refine Kin.bindP ?_
    | with_reducible refine Kin.bind ?_ (fun _ => ?_)
    | with_reducible refine Kin.ite _ ?_ ?_
    | split
    | dsimp only))
theorem Kin.guardBool (t : TypeId) (hU : P.underlying t = some .bool) (x y : Value) : Kin P X (Op.eqGuardIn Op.maxDepth t x y) := by
  show Kin P X (Op.eqGuardIn (9999 + 1) t x y)
  unfold Op.eqGuardIn
  refine Kin.under hU ?_
  (repeat' (first
    | contradiction
    | (intro b v a v' h; cases b <;> (simp [Go.unsupported, Go.mark, Sem.run] at h; done))
    | (intro v a v' h; first | (cases h; done) | (simp [Go.stuck, Go.unsupported, Sem.run] at h; done))
    | with_reducible exact Kin.pure _
    | with_reducible exact Kin.stuck _
    | exact Kin.unsupported _ (fun g hg => by cases hg)
    | with_reducible exact Kin.goPanic _
    | with_reducible exact Kin.load _
    | with_reducible exact Kin.store _ _
    | with_reducible exact Kin.choose _
    | with_reducible exact Kin.noRoom
    | with_reducible exact Kin.frozen _
    | with_reducible exact Kin.newRow _ _
    | with_reducible exact Kin.typeInfo _
    | with_reducible exact Kin.underlying _
    | with_reducible exact Kin.zeroValue _
    | with_reducible exact Kin.sizeOf _
    | with_reducible exact Kin.isAgg _
    | with_reducible exact Kin.loadCells _ _
    | with_reducible exact Kin.storeCells _ _ _
    | with_reducible exact Kin.loadVar _ _
    | with_reducible exact Kin.storeVar _ _ _
    | with_reducible exact Kin.newVar _ _
    | with_reducible exact Kin.elemOf _
    | with_reducible exact Kin.part _ _ _
    | with_reducible exact Kin.askRoom _
    | with_reducible exact Kin.runtimePanic _
    | with_reducible exact Kin.boundsPanic _ _ _ _
    | with_reducible exact Kin.asIntOf _
    | with_reducible exact Kin.asBool _
    | with_reducible exact Kin.asString _
    | with_reducible exact Kin.asAgg _
    | with_reducible exact Kin.asAddr _
    | with_reducible exact Kin.asInt _
    | with_reducible exact Kin.numberAt _
    | with_reducible exact Kin.behindNumber _
    | with_reducible exact Kin.noView _
    | with_reducible exact Kin.asNumber _ _
    | with_reducible exact Kin.byteOf _
    | with_reducible exact Kin.twoPlaces _ _
    | with_reducible exact Kin.unsafeAdd2 _ _ _ _
    | with_reducible exact Kin.addrSub _ _ _
    | with_reducible exact Kin.addrCmp _ _ _
    | with_reducible exact Kin.addrMod _ _ _
    | with_reducible exact Kin.unsafeAdd _ _ _ _
    | with_reducible exact Kin.movedNumber _ _ _
    | with_reducible exact Kin.movedPointer _ _ _
    | with_reducible exact Kin.intArith _ _ _ _
    | with_reducible exact Kin.intDiv _ _ _ _
    | with_reducible exact Kin.intBits _ _ _ _
    | with_reducible exact Kin.intCmp _ _ _
    | with_reducible exact Kin.shift _ _ _ _ _
    | with_reducible exact Kin.floatArith _ _ _ _
    | with_reducible exact Kin.floatCmp _ _ _ _
    | with_reducible exact Kin.stringOp _ _ _
    | with_reducible exact Kin.intToInt _ _
    | with_reducible exact Kin.floatToInt _ _ _
    | with_reducible exact Kin.floatToFloat _ _ _
    | with_reducible exact Kin.arithC _ _ _ _
    | with_reducible exact Kin.cmpC _ _ _ _
    | with_reducible exact Kin.convC _ _ _
    | with_reducible exact Kin.addC _ _
    | with_reducible exact Kin.subC _ _
    | with_reducible exact Kin.mulC _ _
    | with_reducible exact Kin.quoC _ _
    | with_reducible exact Kin.product _ _ _ _
    | with_reducible exact Kin.corrected _ _ _ _ _
    | with_reducible exact Kin.quotient _ _ _ _
    | with_reducible exact Kin.complexOp _ _ _ _ _ _
    | with_reducible exact Kin.sureAddr _
    | with_reducible exact Kin.partAt _ _ _
    | with_reducible exact Kin.fieldPlace _ _
    | with_reducible exact Kin.sliceBound _ _ _
    | with_reducible exact Kin.sliceBounds _ _ _ _ _ _
    | with_reducible exact Kin.slice _ _ _ _ _
    | with_reducible exact Kin.lenOf _
    | with_reducible exact Kin.firstCells _ _ _
    | with_reducible refine Kin.bindP ?_
    | with_reducible refine Kin.bind ?_ (fun _ => ?_)
    | with_reducible refine Kin.ite _ ?_ ?_
    | split
    | dsimp only))
/-- A type of whole numbers, or of truths. -/
def flatT (P : Program) (t : TypeId) : Bool := match P.underlying t with | some (.int _) | some .bool => true | _ => false
def intT (P : Program) (t : TypeId) : Bool := match P.underlying t with | some (.int _) => true | _ => false
theorem flatT_or {t : TypeId} (h : flatT P t = true) : (∃ k, P.underlying t = some (.int k)) ∨ P.underlying t = some .bool := by
  unfold flatT at h
  split at h
  · exact .inl ⟨_, by assumption⟩
  · exact .inr (by assumption)
  · cases h
theorem intT_or {t : TypeId} (h : intT P t = true) : ∃ k, P.underlying t = some (.int k) := by
  unfold intT at h
  split at h
  · exact ⟨_, by assumption⟩
  · cases h
theorem Kin.equalFlat {t : TypeId} (h : flatT P t = true) (x y : Value) : Kin P X (Op.equal t x y) := by
  rcases flatT_or h with ⟨k, hU⟩ | hU
  · exact Kin.equalInt t k hU x y
  · exact Kin.equalBool t hU x y
theorem Kin.guardFlat {t : TypeId} (h : flatT P t = true) (x y : Value) : Kin P X (Op.eqGuardIn Op.maxDepth t x y) := by
  rcases flatT_or h with ⟨k, hU⟩ | hU
  · exact Kin.guardInt t k hU x y
  · exact Kin.guardBool t hU x y
def isEq : BinOp → Bool
  | .eql | .neq => true
  | _ => false
theorem Kin.eqGuard (op : BinOp) (t : TypeId) (h : isEq op = true → flatT P t = true) (x y : Operand) (a b : Value) : Kin P X (Go.eqGuard op t x y a b) := by
  by_cases he : isEq op = true
  · have hf := h he
    unfold Go.eqGuard
    (repeat' (first
    | contradiction
    | (intro b v a v' h; cases b <;> (simp [Go.unsupported, Go.mark, Sem.run] at h; done))
    | (intro v a v' h; first | (cases h; done) | (simp [Go.stuck, Go.unsupported, Sem.run] at h; done))
    | with_reducible exact Kin.pure _
    | with_reducible exact Kin.stuck _
    | exact Kin.unsupported _ (fun g hg => by cases hg)
    | with_reducible exact Kin.goPanic _
    | with_reducible exact Kin.load _
    | with_reducible exact Kin.store _ _
    | with_reducible exact Kin.choose _
    | with_reducible exact Kin.noRoom
    | with_reducible exact Kin.frozen _
    | with_reducible exact Kin.newRow _ _
    | with_reducible exact Kin.guardFlat hf _ _
    | with_reducible exact Kin.typeInfo _
    | with_reducible exact Kin.underlying _
    | with_reducible exact Kin.zeroValue _
    | with_reducible exact Kin.sizeOf _
    | with_reducible exact Kin.isAgg _
    | with_reducible exact Kin.loadCells _ _
    | with_reducible exact Kin.storeCells _ _ _
    | with_reducible exact Kin.loadVar _ _
    | with_reducible exact Kin.storeVar _ _ _
    | with_reducible exact Kin.newVar _ _
    | with_reducible exact Kin.elemOf _
    | with_reducible exact Kin.part _ _ _
    | with_reducible exact Kin.askRoom _
    | with_reducible exact Kin.runtimePanic _
    | with_reducible exact Kin.boundsPanic _ _ _ _
    | with_reducible exact Kin.asIntOf _
    | with_reducible exact Kin.asBool _
    | with_reducible exact Kin.asString _
    | with_reducible exact Kin.asAgg _
    | with_reducible exact Kin.asAddr _
    | with_reducible exact Kin.asInt _
    | with_reducible exact Kin.numberAt _
    | with_reducible exact Kin.behindNumber _
    | with_reducible exact Kin.noView _
    | with_reducible exact Kin.asNumber _ _
    | with_reducible exact Kin.byteOf _
    | with_reducible exact Kin.twoPlaces _ _
    | with_reducible exact Kin.unsafeAdd2 _ _ _ _
    | with_reducible exact Kin.addrSub _ _ _
    | with_reducible exact Kin.addrCmp _ _ _
    | with_reducible exact Kin.addrMod _ _ _
    | with_reducible exact Kin.unsafeAdd _ _ _ _
    | with_reducible exact Kin.movedNumber _ _ _
    | with_reducible exact Kin.movedPointer _ _ _
    | with_reducible exact Kin.intArith _ _ _ _
    | with_reducible exact Kin.intDiv _ _ _ _
    | with_reducible exact Kin.intBits _ _ _ _
    | with_reducible exact Kin.intCmp _ _ _
    | with_reducible exact Kin.shift _ _ _ _ _
    | with_reducible exact Kin.floatArith _ _ _ _
    | with_reducible exact Kin.floatCmp _ _ _ _
    | with_reducible exact Kin.stringOp _ _ _
    | with_reducible exact Kin.intToInt _ _
    | with_reducible exact Kin.floatToInt _ _ _
    | with_reducible exact Kin.floatToFloat _ _ _
    | with_reducible exact Kin.arithC _ _ _ _
    | with_reducible exact Kin.cmpC _ _ _ _
    | with_reducible exact Kin.convC _ _ _
    | with_reducible exact Kin.addC _ _
    | with_reducible exact Kin.subC _ _
    | with_reducible exact Kin.mulC _ _
    | with_reducible exact Kin.quoC _ _
    | with_reducible exact Kin.product _ _ _ _
    | with_reducible exact Kin.corrected _ _ _ _ _
    | with_reducible exact Kin.quotient _ _ _ _
    | with_reducible exact Kin.complexOp _ _ _ _ _ _
    | with_reducible exact Kin.sureAddr _
    | with_reducible exact Kin.partAt _ _ _
    | with_reducible exact Kin.fieldPlace _ _
    | with_reducible exact Kin.sliceBound _ _ _
    | with_reducible exact Kin.sliceBounds _ _ _ _ _ _
    | with_reducible exact Kin.slice _ _ _ _ _
    | with_reducible exact Kin.lenOf _
    | with_reducible exact Kin.firstCells _ _ _
    | with_reducible refine Kin.bindP ?_
    | with_reducible refine Kin.bind ?_ (fun _ => ?_)
    | with_reducible refine Kin.ite _ ?_ ?_
    | split
    | dsimp only))
  · have : (op matches .eql | .neq) = false := by cases op <;> first | rfl | exact absurd rfl he
    unfold Go.eqGuard
    cases op <;> first | exact absurd rfl he | exact Kin.pure _
theorem Kin.binOp (op : BinOp) (t : TypeId) (h : isEq op = true → flatT P t = true) (x y : Value) : Kin P X (Go.binOp op t x y) := by
  by_cases he : isEq op = true
  · have hf := h he
    unfold Go.binOp
    (repeat' (first
    | contradiction
    | (intro b v a v' h; cases b <;> (simp [Go.unsupported, Go.mark, Sem.run] at h; done))
    | (intro v a v' h; first | (cases h; done) | (simp [Go.stuck, Go.unsupported, Sem.run] at h; done))
    | with_reducible exact Kin.pure _
    | with_reducible exact Kin.stuck _
    | exact Kin.unsupported _ (fun g hg => by cases hg)
    | with_reducible exact Kin.goPanic _
    | with_reducible exact Kin.load _
    | with_reducible exact Kin.store _ _
    | with_reducible exact Kin.choose _
    | with_reducible exact Kin.noRoom
    | with_reducible exact Kin.frozen _
    | with_reducible exact Kin.newRow _ _
    | with_reducible exact Kin.equalFlat hf _ _
    | with_reducible exact Kin.shift _ _ _ _ _
    | with_reducible exact Kin.typeInfo _
    | with_reducible exact Kin.underlying _
    | with_reducible exact Kin.zeroValue _
    | with_reducible exact Kin.sizeOf _
    | with_reducible exact Kin.isAgg _
    | with_reducible exact Kin.loadCells _ _
    | with_reducible exact Kin.storeCells _ _ _
    | with_reducible exact Kin.loadVar _ _
    | with_reducible exact Kin.storeVar _ _ _
    | with_reducible exact Kin.newVar _ _
    | with_reducible exact Kin.elemOf _
    | with_reducible exact Kin.part _ _ _
    | with_reducible exact Kin.askRoom _
    | with_reducible exact Kin.runtimePanic _
    | with_reducible exact Kin.boundsPanic _ _ _ _
    | with_reducible exact Kin.asIntOf _
    | with_reducible exact Kin.asBool _
    | with_reducible exact Kin.asString _
    | with_reducible exact Kin.asAgg _
    | with_reducible exact Kin.asAddr _
    | with_reducible exact Kin.asInt _
    | with_reducible exact Kin.numberAt _
    | with_reducible exact Kin.behindNumber _
    | with_reducible exact Kin.noView _
    | with_reducible exact Kin.asNumber _ _
    | with_reducible exact Kin.byteOf _
    | with_reducible exact Kin.twoPlaces _ _
    | with_reducible exact Kin.unsafeAdd2 _ _ _ _
    | with_reducible exact Kin.addrSub _ _ _
    | with_reducible exact Kin.addrCmp _ _ _
    | with_reducible exact Kin.addrMod _ _ _
    | with_reducible exact Kin.unsafeAdd _ _ _ _
    | with_reducible exact Kin.movedNumber _ _ _
    | with_reducible exact Kin.movedPointer _ _ _
    | with_reducible exact Kin.intArith _ _ _ _
    | with_reducible exact Kin.intDiv _ _ _ _
    | with_reducible exact Kin.intBits _ _ _ _
    | with_reducible exact Kin.intCmp _ _ _
    | with_reducible exact Kin.shift _ _ _ _ _
    | with_reducible exact Kin.floatArith _ _ _ _
    | with_reducible exact Kin.floatCmp _ _ _ _
    | with_reducible exact Kin.stringOp _ _ _
    | with_reducible exact Kin.intToInt _ _
    | with_reducible exact Kin.floatToInt _ _ _
    | with_reducible exact Kin.floatToFloat _ _ _
    | with_reducible exact Kin.arithC _ _ _ _
    | with_reducible exact Kin.cmpC _ _ _ _
    | with_reducible exact Kin.convC _ _ _
    | with_reducible exact Kin.addC _ _
    | with_reducible exact Kin.subC _ _
    | with_reducible exact Kin.mulC _ _
    | with_reducible exact Kin.quoC _ _
    | with_reducible exact Kin.product _ _ _ _
    | with_reducible exact Kin.corrected _ _ _ _ _
    | with_reducible exact Kin.quotient _ _ _ _
    | with_reducible exact Kin.complexOp _ _ _ _ _ _
    | with_reducible exact Kin.sureAddr _
    | with_reducible exact Kin.partAt _ _ _
    | with_reducible exact Kin.fieldPlace _ _
    | with_reducible exact Kin.sliceBound _ _ _
    | with_reducible exact Kin.sliceBounds _ _ _ _ _ _
    | with_reducible exact Kin.slice _ _ _ _ _
    | with_reducible exact Kin.lenOf _
    | with_reducible exact Kin.firstCells _ _ _
    | with_reducible refine Kin.bindP ?_
    | with_reducible refine Kin.bind ?_ (fun _ => ?_)
    | with_reducible refine Kin.ite _ ?_ ?_
    | split
    | dsimp only))
  · unfold Go.binOp
    (repeat' (first
    | contradiction
    | (intro b v a v' h; cases b <;> (simp [Go.unsupported, Go.mark, Sem.run] at h; done))
    | (intro v a v' h; first | (cases h; done) | (simp [Go.stuck, Go.unsupported, Sem.run] at h; done))
    | with_reducible exact Kin.pure _
    | with_reducible exact Kin.stuck _
    | exact Kin.unsupported _ (fun g hg => by cases hg)
    | with_reducible exact Kin.goPanic _
    | with_reducible exact Kin.load _
    | with_reducible exact Kin.store _ _
    | with_reducible exact Kin.choose _
    | with_reducible exact Kin.noRoom
    | with_reducible exact Kin.frozen _
    | with_reducible exact Kin.newRow _ _
    | with_reducible exact absurd rfl he
    | (exact absurd rfl he)
    | with_reducible exact Kin.shift _ _ _ _ _
    | with_reducible exact Kin.typeInfo _
    | with_reducible exact Kin.underlying _
    | with_reducible exact Kin.zeroValue _
    | with_reducible exact Kin.sizeOf _
    | with_reducible exact Kin.isAgg _
    | with_reducible exact Kin.loadCells _ _
    | with_reducible exact Kin.storeCells _ _ _
    | with_reducible exact Kin.loadVar _ _
    | with_reducible exact Kin.storeVar _ _ _
    | with_reducible exact Kin.newVar _ _
    | with_reducible exact Kin.elemOf _
    | with_reducible exact Kin.part _ _ _
    | with_reducible exact Kin.askRoom _
    | with_reducible exact Kin.runtimePanic _
    | with_reducible exact Kin.boundsPanic _ _ _ _
    | with_reducible exact Kin.asIntOf _
    | with_reducible exact Kin.asBool _
    | with_reducible exact Kin.asString _
    | with_reducible exact Kin.asAgg _
    | with_reducible exact Kin.asAddr _
    | with_reducible exact Kin.asInt _
    | with_reducible exact Kin.numberAt _
    | with_reducible exact Kin.behindNumber _
    | with_reducible exact Kin.noView _
    | with_reducible exact Kin.asNumber _ _
    | with_reducible exact Kin.byteOf _
    | with_reducible exact Kin.twoPlaces _ _
    | with_reducible exact Kin.unsafeAdd2 _ _ _ _
    | with_reducible exact Kin.addrSub _ _ _
    | with_reducible exact Kin.addrCmp _ _ _
    | with_reducible exact Kin.addrMod _ _ _
    | with_reducible exact Kin.unsafeAdd _ _ _ _
    | with_reducible exact Kin.movedNumber _ _ _
    | with_reducible exact Kin.movedPointer _ _ _
    | with_reducible exact Kin.intArith _ _ _ _
    | with_reducible exact Kin.intDiv _ _ _ _
    | with_reducible exact Kin.intBits _ _ _ _
    | with_reducible exact Kin.intCmp _ _ _
    | with_reducible exact Kin.shift _ _ _ _ _
    | with_reducible exact Kin.floatArith _ _ _ _
    | with_reducible exact Kin.floatCmp _ _ _ _
    | with_reducible exact Kin.stringOp _ _ _
    | with_reducible exact Kin.intToInt _ _
    | with_reducible exact Kin.floatToInt _ _ _
    | with_reducible exact Kin.floatToFloat _ _ _
    | with_reducible exact Kin.arithC _ _ _ _
    | with_reducible exact Kin.cmpC _ _ _ _
    | with_reducible exact Kin.convC _ _ _
    | with_reducible exact Kin.addC _ _
    | with_reducible exact Kin.subC _ _
    | with_reducible exact Kin.mulC _ _
    | with_reducible exact Kin.quoC _ _
    | with_reducible exact Kin.product _ _ _ _
    | with_reducible exact Kin.corrected _ _ _ _ _
    | with_reducible exact Kin.quotient _ _ _ _
    | with_reducible exact Kin.complexOp _ _ _ _ _ _
    | with_reducible exact Kin.sureAddr _
    | with_reducible exact Kin.partAt _ _ _
    | with_reducible exact Kin.fieldPlace _ _
    | with_reducible exact Kin.sliceBound _ _ _
    | with_reducible exact Kin.sliceBounds _ _ _ _ _ _
    | with_reducible exact Kin.slice _ _ _ _ _
    | with_reducible exact Kin.lenOf _
    | with_reducible exact Kin.firstCells _ _ _
    | with_reducible refine Kin.bindP ?_
    | with_reducible refine Kin.bind ?_ (fun _ => ?_)
    | with_reducible refine Kin.ite _ ?_ ?_
    | split
    | dsimp only))
theorem Kin.convert (s d : TypeId) (hs : intT P s = true) (hd : intT P d = true) (x : Value) : Kin P X (Go.convert s d x) := by
  obtain ⟨k1, h1⟩ := intT_or hs
  obtain ⟨k2, h2⟩ := intT_or hd
  unfold Go.convert
  refine Kin.under h1 (Kin.under h2 ?_)
  (repeat' (first
    | contradiction
    | (intro b v a v' h; cases b <;> (simp [Go.unsupported, Go.mark, Sem.run] at h; done))
    | (intro v a v' h; first | (cases h; done) | (simp [Go.stuck, Go.unsupported, Sem.run] at h; done))
    | with_reducible exact Kin.pure _
    | with_reducible exact Kin.stuck _
    | exact Kin.unsupported _ (fun g hg => by cases hg)
    | with_reducible exact Kin.goPanic _
    | with_reducible exact Kin.load _
    | with_reducible exact Kin.store _ _
    | with_reducible exact Kin.choose _
    | with_reducible exact Kin.noRoom
    | with_reducible exact Kin.frozen _
    | with_reducible exact Kin.newRow _ _
    | with_reducible exact Kin.intToInt _ _
    | with_reducible exact Kin.floatToInt _ _ _
    | with_reducible exact Kin.typeInfo _
    | with_reducible exact Kin.underlying _
    | with_reducible exact Kin.zeroValue _
    | with_reducible exact Kin.sizeOf _
    | with_reducible exact Kin.isAgg _
    | with_reducible exact Kin.loadCells _ _
    | with_reducible exact Kin.storeCells _ _ _
    | with_reducible exact Kin.loadVar _ _
    | with_reducible exact Kin.storeVar _ _ _
    | with_reducible exact Kin.newVar _ _
    | with_reducible exact Kin.elemOf _
    | with_reducible exact Kin.part _ _ _
    | with_reducible exact Kin.askRoom _
    | with_reducible exact Kin.runtimePanic _
    | with_reducible exact Kin.boundsPanic _ _ _ _
    | with_reducible exact Kin.asIntOf _
    | with_reducible exact Kin.asBool _
    | with_reducible exact Kin.asString _
    | with_reducible exact Kin.asAgg _
    | with_reducible exact Kin.asAddr _
    | with_reducible exact Kin.asInt _
    | with_reducible exact Kin.numberAt _
    | with_reducible exact Kin.behindNumber _
    | with_reducible exact Kin.noView _
    | with_reducible exact Kin.asNumber _ _
    | with_reducible exact Kin.byteOf _
    | with_reducible exact Kin.twoPlaces _ _
    | with_reducible exact Kin.unsafeAdd2 _ _ _ _
    | with_reducible exact Kin.addrSub _ _ _
    | with_reducible exact Kin.addrCmp _ _ _
    | with_reducible exact Kin.addrMod _ _ _
    | with_reducible exact Kin.unsafeAdd _ _ _ _
    | with_reducible exact Kin.movedNumber _ _ _
    | with_reducible exact Kin.movedPointer _ _ _
    | with_reducible exact Kin.intArith _ _ _ _
    | with_reducible exact Kin.intDiv _ _ _ _
    | with_reducible exact Kin.intBits _ _ _ _
    | with_reducible exact Kin.intCmp _ _ _
    | with_reducible exact Kin.shift _ _ _ _ _
    | with_reducible exact Kin.floatArith _ _ _ _
    | with_reducible exact Kin.floatCmp _ _ _ _
    | with_reducible exact Kin.stringOp _ _ _
    | with_reducible exact Kin.intToInt _ _
    | with_reducible exact Kin.floatToInt _ _ _
    | with_reducible exact Kin.floatToFloat _ _ _
    | with_reducible exact Kin.arithC _ _ _ _
    | with_reducible exact Kin.cmpC _ _ _ _
    | with_reducible exact Kin.convC _ _ _
    | with_reducible exact Kin.addC _ _
    | with_reducible exact Kin.subC _ _
    | with_reducible exact Kin.mulC _ _
    | with_reducible exact Kin.quoC _ _
    | with_reducible exact Kin.product _ _ _ _
    | with_reducible exact Kin.corrected _ _ _ _ _
    | with_reducible exact Kin.quotient _ _ _ _
    | with_reducible exact Kin.complexOp _ _ _ _ _ _
    | with_reducible exact Kin.sureAddr _
    | with_reducible exact Kin.partAt _ _ _
    | with_reducible exact Kin.fieldPlace _ _
    | with_reducible exact Kin.sliceBound _ _ _
    | with_reducible exact Kin.sliceBounds _ _ _ _ _ _
    | with_reducible exact Kin.slice _ _ _ _ _
    | with_reducible exact Kin.lenOf _
    | with_reducible exact Kin.firstCells _ _ _
    | with_reducible refine Kin.bindP ?_
    | with_reducible refine Kin.bind ?_ (fun _ => ?_)
    | with_reducible refine Kin.ite _ ?_ ?_
    | split
    | dsimp only))
theorem Kin.followBlind : ∀ (l : List FieldStep) (t : TypeId) (x : Option Value), Kin P X (Go.followBlind l t x)
  | [], t, x => Kin.pure _
  | s :: rest, t, x => by
    have ih : ∀ t x, Kin P X (Go.followBlind rest t x) := Kin.followBlind rest
    unfold Go.followBlind
    (repeat' (first
      | contradiction
      | (intro b v a v' h; cases b <;> (simp [Go.unsupported, Go.mark, Sem.run] at h; done))
      | (intro v a v' h; first | (cases h; done) | (simp [Go.stuck, Go.unsupported, Sem.run] at h; done))
      | with_reducible exact Kin.pure _
      | with_reducible exact Kin.stuck _
      | exact Kin.unsupported _ (fun g hg => by cases hg)
      | with_reducible exact Kin.goPanic _
      | with_reducible exact Kin.load _
      | with_reducible exact Kin.store _ _
      | with_reducible exact Kin.choose _
      | with_reducible exact Kin.noRoom
      | with_reducible exact Kin.frozen _
      | with_reducible exact Kin.newRow _ _
      | with_reducible exact ih _ _
      | with_reducible exact Kin.typeInfo _
      | with_reducible exact Kin.underlying _
      | with_reducible exact Kin.zeroValue _
      | with_reducible exact Kin.sizeOf _
      | with_reducible exact Kin.isAgg _
      | with_reducible exact Kin.loadCells _ _
      | with_reducible exact Kin.storeCells _ _ _
      | with_reducible exact Kin.loadVar _ _
      | with_reducible exact Kin.storeVar _ _ _
      | with_reducible exact Kin.newVar _ _
      | with_reducible exact Kin.elemOf _
      | with_reducible exact Kin.part _ _ _
      | with_reducible exact Kin.askRoom _
      | with_reducible exact Kin.runtimePanic _
      | with_reducible exact Kin.boundsPanic _ _ _ _
      | with_reducible exact Kin.asIntOf _
      | with_reducible exact Kin.asBool _
      | with_reducible exact Kin.asString _
      | with_reducible exact Kin.asAgg _
      | with_reducible exact Kin.asAddr _
      | with_reducible exact Kin.asInt _
      | with_reducible exact Kin.numberAt _
      | with_reducible exact Kin.behindNumber _
      | with_reducible exact Kin.noView _
      | with_reducible exact Kin.asNumber _ _
      | with_reducible exact Kin.byteOf _
      | with_reducible exact Kin.twoPlaces _ _
      | with_reducible exact Kin.unsafeAdd2 _ _ _ _
      | with_reducible exact Kin.addrSub _ _ _
      | with_reducible exact Kin.addrCmp _ _ _
      | with_reducible exact Kin.addrMod _ _ _
      | with_reducible exact Kin.unsafeAdd _ _ _ _
      | with_reducible exact Kin.movedNumber _ _ _
      | with_reducible exact Kin.movedPointer _ _ _
      | with_reducible exact Kin.intArith _ _ _ _
      | with_reducible exact Kin.intDiv _ _ _ _
      | with_reducible exact Kin.intBits _ _ _ _
      | with_reducible exact Kin.intCmp _ _ _
      | with_reducible exact Kin.shift _ _ _ _ _
      | with_reducible exact Kin.floatArith _ _ _ _
      | with_reducible exact Kin.floatCmp _ _ _ _
      | with_reducible exact Kin.stringOp _ _ _
      | with_reducible exact Kin.intToInt _ _
      | with_reducible exact Kin.floatToInt _ _ _
      | with_reducible exact Kin.floatToFloat _ _ _
      | with_reducible exact Kin.arithC _ _ _ _
      | with_reducible exact Kin.cmpC _ _ _ _
      | with_reducible exact Kin.convC _ _ _
      | with_reducible exact Kin.addC _ _
      | with_reducible exact Kin.subC _ _
      | with_reducible exact Kin.mulC _ _
      | with_reducible exact Kin.quoC _ _
      | with_reducible exact Kin.product _ _ _ _
      | with_reducible exact Kin.corrected _ _ _ _ _
      | with_reducible exact Kin.quotient _ _ _ _
      | with_reducible exact Kin.complexOp _ _ _ _ _ _
      | with_reducible exact Kin.sureAddr _
      | with_reducible exact Kin.partAt _ _ _
      | with_reducible exact Kin.fieldPlace _ _
      | with_reducible exact Kin.sliceBound _ _ _
      | with_reducible exact Kin.sliceBounds _ _ _ _ _ _
      | with_reducible exact Kin.slice _ _ _ _ _
      | with_reducible exact Kin.lenOf _
      | with_reducible exact Kin.firstCells _ _ _
      | with_reducible refine Kin.bindP ?_
      | with_reducible refine Kin.bind ?_ (fun _ => ?_)
      | with_reducible refine Kin.ite _ ?_ ?_
      | split
      | dsimp only))
theorem Kin.nilAhead : ∀ (n : Nat) (t : TypeId) (v : Value) (s : String), Kin P X (Go.nilAhead n t v s)
  | 0, t, v, s => Kin.pure _
  | n + 1, t, v, s => by
    have ih : ∀ t v s, Kin P X (Go.nilAhead n t v s) := Kin.nilAhead n
    unfold Go.nilAhead
    (repeat' (first
      | contradiction
      | (intro b v a v' h; cases b <;> (simp [Go.unsupported, Go.mark, Sem.run] at h; done))
      | (intro v a v' h; first | (cases h; done) | (simp [Go.stuck, Go.unsupported, Sem.run] at h; done))
      | with_reducible exact Kin.pure _
      | with_reducible exact Kin.stuck _
      | exact Kin.unsupported _ (fun g hg => by cases hg)
      | with_reducible exact Kin.goPanic _
      | with_reducible exact Kin.load _
      | with_reducible exact Kin.store _ _
      | with_reducible exact Kin.choose _
      | with_reducible exact Kin.noRoom
      | with_reducible exact Kin.frozen _
      | with_reducible exact Kin.newRow _ _
      | with_reducible exact ih _ _ _
      | with_reducible exact Kin.followBlind _ _ _
      | with_reducible exact Kin.typeInfo _
      | with_reducible exact Kin.underlying _
      | with_reducible exact Kin.zeroValue _
      | with_reducible exact Kin.sizeOf _
      | with_reducible exact Kin.isAgg _
      | with_reducible exact Kin.loadCells _ _
      | with_reducible exact Kin.storeCells _ _ _
      | with_reducible exact Kin.loadVar _ _
      | with_reducible exact Kin.storeVar _ _ _
      | with_reducible exact Kin.newVar _ _
      | with_reducible exact Kin.elemOf _
      | with_reducible exact Kin.part _ _ _
      | with_reducible exact Kin.askRoom _
      | with_reducible exact Kin.runtimePanic _
      | with_reducible exact Kin.boundsPanic _ _ _ _
      | with_reducible exact Kin.asIntOf _
      | with_reducible exact Kin.asBool _
      | with_reducible exact Kin.asString _
      | with_reducible exact Kin.asAgg _
      | with_reducible exact Kin.asAddr _
      | with_reducible exact Kin.asInt _
      | with_reducible exact Kin.numberAt _
      | with_reducible exact Kin.behindNumber _
      | with_reducible exact Kin.noView _
      | with_reducible exact Kin.asNumber _ _
      | with_reducible exact Kin.byteOf _
      | with_reducible exact Kin.twoPlaces _ _
      | with_reducible exact Kin.unsafeAdd2 _ _ _ _
      | with_reducible exact Kin.addrSub _ _ _
      | with_reducible exact Kin.addrCmp _ _ _
      | with_reducible exact Kin.addrMod _ _ _
      | with_reducible exact Kin.unsafeAdd _ _ _ _
      | with_reducible exact Kin.movedNumber _ _ _
      | with_reducible exact Kin.movedPointer _ _ _
      | with_reducible exact Kin.intArith _ _ _ _
      | with_reducible exact Kin.intDiv _ _ _ _
      | with_reducible exact Kin.intBits _ _ _ _
      | with_reducible exact Kin.intCmp _ _ _
      | with_reducible exact Kin.shift _ _ _ _ _
      | with_reducible exact Kin.floatArith _ _ _ _
      | with_reducible exact Kin.floatCmp _ _ _ _
      | with_reducible exact Kin.stringOp _ _ _
      | with_reducible exact Kin.intToInt _ _
      | with_reducible exact Kin.floatToInt _ _ _
      | with_reducible exact Kin.floatToFloat _ _ _
      | with_reducible exact Kin.arithC _ _ _ _
      | with_reducible exact Kin.cmpC _ _ _ _
      | with_reducible exact Kin.convC _ _ _
      | with_reducible exact Kin.addC _ _
      | with_reducible exact Kin.subC _ _
      | with_reducible exact Kin.mulC _ _
      | with_reducible exact Kin.quoC _ _
      | with_reducible exact Kin.product _ _ _ _
      | with_reducible exact Kin.corrected _ _ _ _ _
      | with_reducible exact Kin.quotient _ _ _ _
      | with_reducible exact Kin.complexOp _ _ _ _ _ _
      | with_reducible exact Kin.sureAddr _
      | with_reducible exact Kin.partAt _ _ _
      | with_reducible exact Kin.fieldPlace _ _
      | with_reducible exact Kin.sliceBound _ _ _
      | with_reducible exact Kin.sliceBounds _ _ _ _ _ _
      | with_reducible exact Kin.slice _ _ _ _ _
      | with_reducible exact Kin.lenOf _
      | with_reducible exact Kin.firstCells _ _ _
      | with_reducible refine Kin.bindP ?_
      | with_reducible refine Kin.bind ?_ (fun _ => ?_)
      | with_reducible refine Kin.ite _ ?_ ?_
      | split
      | dsimp only))
/-- Into which functions it may come. -/
def NextOk (F : FuncId → Bool) : Next → Prop
  | .value _ | .skip => True
  | .enter f _ => F f = true
  | _ => False
structure Calm (P : Program) (X : Nat → Prop) (F : FuncId → Bool) (s : Sem Next) : Prop where
  kin : Kin P X s
  next : ∀ w n w', s.run P w = .ok n w' → NextOk F n
theorem Calm.v {F : FuncId → Bool} {s : Sem Value} (h : Kin P X s) : Calm P X F (do pure (.value (← s))) :=
  ⟨Kin.bind h fun _ => Kin.pure _, fun w n w' hr => by
    rw [Sem.run_bind] at hr
    cases hs : s.run P w with
    | halt x w1 => rw [hs] at hr; cases hr
    | ok a w1 => rw [hs] at hr; cases hr; trivial⟩
theorem Calm.u {F : FuncId → Bool} {s : Sem Unit} (h : Kin P X s) : Calm P X F (do s; pure .skip) :=
  ⟨Kin.bind h fun _ => Kin.pure _, fun w n w' hr => by
    rw [Sem.run_bind] at hr
    cases hs : s.run P w with
    | halt x w1 => rw [hs] at hr; cases hr
    | ok a w1 => rw [hs] at hr; cases hr; trivial⟩
theorem Calm.pureV {F : FuncId → Bool} (x : Value) : Calm P X F (Pure.pure (.value x)) := ⟨Kin.pure _, fun w n w' hr => by cases hr; trivial⟩
theorem Calm.bind {F : FuncId → Bool} {α : Type} {s : Sem α} {f : α → Sem Next} (h : Kin P X s) (k : ∀ a, Calm P X F (f a)) : Calm P X F (s >>= f) :=
  ⟨Kin.bind h fun a => (k a).kin, fun w n w' hr => by
    rw [Sem.run_bind] at hr
    cases hs : s.run P w with
    | halt x w1 => rw [hs] at hr; cases hr
    | ok a w1 => rw [hs] at hr; exact (k a).next w1 n w' hr⟩
theorem Calm.bindP {F : FuncId → Bool} {f : Program → Sem Next} (k : Calm P X F (f P)) : Calm P X F (Go.program >>= f) :=
  ⟨Kin.bindP k.kin, fun w n w' hr => by
    rw [Sem.run_bind] at hr
    exact k.next w n w' hr⟩
theorem Calm.ite {F : FuncId → Bool} (c : Prop) [Decidable c] {x y : Sem Next} (hx : Calm P X F x) (hy : Calm P X F y) : Calm P X F (if c then x else y) := by split <;> assumption
def calm (P : Program) (F : FuncId → Bool) (o : Oper) : Bool :=
  match o.op with
  | .move _ | .assign _ | .pick _ _ _ | .alloc _ | .buildSlice _ _ _ | .load _ _ | .store _ _ _ | .nilCheck _ | .unOp _ _ _ | .makeInterface _ _ | .slice _ _ _ _ _ | .fieldAddr _ _ _ | .indexAddr _ _ _ | .extract _ _ | .makeSlice _ _ _ => true
  | .binOp op t _ _ _ => !isEq op || flatT P t
  | .convert s d _ => intT P s && intT P d
  | .call { callee := .builtin .len, .. } | .call { callee := .builtin .cap, .. } | .call { callee := .builtin .append, .. } | .call { callee := .builtin .copy, .. } => true
  | .call { callee := .value (.func f), .. } => F f && (match P.funcs[f]? with | some fn => fn.body.isSome && !(fn.name == "runtime.NumGoroutine") | none => false)
  | _ => false
theorem calm_exec {F : FuncId → Bool} {o : Oper} (h : calm P F o = true) (ρ : Operand → Value) (hρ : ∀ f, ρ (.func f) = .func (.func f) #[] #[]) : Calm P X F (execOp ρ o) := by
  unfold calm at h
  unfold execOp
  generalize hop : o.op = op at h ⊢
  cases op with
  | move x => exact ⟨Kin.pure _, fun w n w' hr => by cases hr; trivial⟩
  | assign x => exact ⟨Kin.pure _, fun w n w' hr => by cases hr; trivial⟩
  | pick c a b =>
    refine ⟨Kin.bind (Kin.asBool _) (fun t => Kin.pure _), fun w n w' hr => ?_⟩
    have hr : ((Go.asBool (ρ c)) >>= fun t => (Pure.pure (Next.value (if t = true then ρ a else ρ b)) : Sem Next)).run P w = .ok n w' := hr
    rw [Sem.run_bind] at hr
    cases hs : (Go.asBool (ρ c)).run P w with
    | halt x w1 => rw [hs] at hr; cases hr
    | ok t w1 => rw [hs] at hr; cases hr; trivial
  | alloc e => exact Calm.v (Kin.alloc _ _ _)
  | buildSlice t n ps => exact Calm.v (Kin.buildSlice _ _ _)
  | load t a => exact Calm.v (Kin.loadAt _ _)
  | store t a x => exact Calm.u (Kin.storeAt _ _ _)
  | unOp op t x => exact Calm.v (Kin.unary _ _)
  | makeInterface t x => exact Calm.v (Kin.makeInterface _ _)
  | makeSlice t x y => exact Calm.v (Kin.makeSlice _ _ _)
  | slice t x a b c => exact Calm.v (Kin.sliceAt _ _ _ _ _)
  | fieldAddr t x f => exact Calm.v (Kin.fieldAt _ _ _)
  | indexAddr t x y => exact Calm.v (Kin.indexAt _ _ _)
  | extract x n => exact Calm.v (Kin.extract _ _)
  | convert s d x =>
    rw [Bool.and_eq_true] at h
    exact Calm.v (Kin.convert _ _ h.1 h.2 _)
  | binOp op t x y z =>
    have h : isEq op = true → flatT P t = true := fun he => by simpa [he] using h
    exact Calm.v (Kin.bind (Kin.eqGuard _ _ h _ _ _ _) fun _ => Kin.binOp _ _ h _ _)
  | nilCheck x =>
    dsimp only
    split
    · exact ⟨Kin.runtimePanic _, fun w n w' hr => by cases hr⟩
    · exact ⟨Kin.runtimePanic _, fun w n w' hr => by cases hr⟩
    · exact ⟨Kin.runtimePanic _, fun w n w' hr => by cases hr⟩
    · split
      · exact ⟨Kin.runtimePanic _, fun w n w' hr => by cases hr⟩
      · exact Calm.bindP (Calm.bind (Kin.nilAhead _ _ _ _) fun r => Calm.ite _ (Calm.bind (Kin.unsupported _ (fun g hg => by cases hg)) fun _ => Calm.pureV _) (Calm.pureV _))
      · exact ⟨Kin.pure _, fun w n w' hr => by cases hr; trivial⟩
    · exact ⟨Kin.pure _, fun w n w' hr => by cases hr; trivial⟩
  | call c =>
    obtain ⟨callee, args, ats⟩ := c
    cases callee with
    | builtin b =>
      cases b with
      | len => exact Calm.v (Kin.len _ _ _)
      | cap => exact Calm.v (Kin.cap _ _ _)
      | append => exact Calm.v (Kin.append _ _ _)
      | copy => exact Calm.v (Kin.copy _ _ _)
      | _ => cases h
    | invoke r n => cases h
    | value x =>
      cases x with
      | func f =>
        simp only [Bool.and_eq_true] at h
        obtain ⟨hF, hf⟩ := h
        cases hfn : P.funcs[f]? with
        | none => rw [hfn] at hf; cases hf
        | some fn =>
          rw [hfn] at hf
          simp only [Bool.and_eq_true] at hf
          obtain ⟨hb, hn⟩ := hf
          show Calm P X F (Deferred.ofValue (ρ (.func f)) (args.map ρ) >>= fun d => invoke d.target d.args)
          rw [hρ]
          show Calm P X F (callFunc f ((#[] ++ args.map ρ) ++ #[]))
          unfold callFunc
          refine Calm.bindP ?_
          rw [hfn]
          dsimp only
          have h1 : (fn.name == "runtime.NumGoroutine") = false := by simpa using hn
          have h2 : fn.body.isNone = false := by cases hbd : fn.body <;> simp_all
          rw [h1, h2]
          exact ⟨Kin.pure _, fun w n w' hr => by cases hr; exact hF⟩
      | _ => cases h
  | _ => cases h
end
end Go.Proofs.Ytoipkpndfgcmcaa.Veils
