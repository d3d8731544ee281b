/-
  Operations that a hidden block does not disturb: what each may be is told by 'calm'. The condition stands in each theorem. No program in sight. (Printed by wip/cvops.py.)
-/
import GoSem.Dispatch
import Derived.Test.YtoipkpndfgcmcaaCheckOwnM00

namespace Go.Proofs.Ytoipkpndfgcmcaa.Veils
open Go
set_option linter.unusedVariables false
set_option linter.unusedSimpArgs false
section
variable {P : Program} {X : Nat → Prop}
theorem Kin.stuck {α : Type} (w : String) : Kin P X (Go.stuck w : Sem α) := Kin.halt _ trivial
theorem Kin.unsupported {α : Type} (w : Unsupported) (h : ∀ g, w ≠ .initOrder g) : Kin P X (Go.unsupported w : Sem α) := Kin.halt _ h
theorem Kin.goPanic {α : Type} (w : Value) : Kin P X (Go.goPanic w : Sem α) := Kin.halt _ trivial
theorem Kin.newRow (e : TypeId) (c : Array Value) : Kin P X (Go.newRow e c) := Kin.bind (Kin.newObj _ trivial) (fun _ => Kin.pure _)
theorem Kin.typeInfo (t : TypeId) : Kin P X (Go.typeInfo t) := by
  unfold Go.typeInfo
  (repeat' (first
    | contradiction
    | (intro b v a v' h; cases b <;> (simp [Go.unsupported, Go.mark, Sem.run] at h; done))
    | (intro v a v' h; first | (cases h; done) | (simp [Go.stuck, Go.unsupported, Sem.run] at h; done))
    | with_reducible exact Kin.pure _
    | with_reducible exact Kin.stuck _
    | exact Kin.unsupported _ (fun g hg => by cases hg)
    | with_reducible exact Kin.goPanic _
    | with_reducible exact Kin.load _
    | with_reducible exact Kin.store _ _
    | with_reducible exact Kin.choose _
    | with_reducible exact Kin.noRoom
    | with_reducible exact Kin.frozen _
    | with_reducible exact Kin.newRow _ _
    | with_reducible refine Kin.bindP ?_
    | with_reducible refine Kin.bind ?_ (fun _ => ?_)
    | with_reducible refine Kin.ite _ ?_ ?_
    | split
    | dsimp only))
theorem Kin.underlying (t : TypeId) : Kin P X (Go.underlying t) := by
  unfold Go.underlying
  (repeat' (first
    | contradiction
    | (intro b v a v' h; cases b <;> (simp [Go.unsupported, Go.mark, Sem.run] at h; done))
    | (intro v a v' h; first | (cases h; done) | (simp [Go.stuck, Go.unsupported, Sem.run] at h; done))
    | with_reducible exact Kin.pure _
    | with_reducible exact Kin.stuck _
    | exact Kin.unsupported _ (fun g hg => by cases hg)
    | with_reducible exact Kin.goPanic _
    | with_reducible exact Kin.load _
    | with_reducible exact Kin.store _ _
    | with_reducible exact Kin.choose _
    | with_reducible exact Kin.noRoom
    | with_reducible exact Kin.frozen _
    | with_reducible exact Kin.newRow _ _
    | with_reducible exact Kin.typeInfo _
    | with_reducible refine Kin.bindP ?_
    | with_reducible refine Kin.bind ?_ (fun _ => ?_)
    | with_reducible refine Kin.ite _ ?_ ?_
    | split
    | dsimp only))
theorem Kin.zeroValue (t : TypeId) : Kin P X (Go.zeroValue t) := by
  unfold Go.zeroValue
  (repeat' (first
    | contradiction
    | (intro b v a v' h; cases b <;> (simp [Go.unsupported, Go.mark, Sem.run] at h; done))
    | (intro v a v' h; first | (cases h; done) | (simp [Go.stuck, Go.unsupported, Sem.run] at h; done))
    | with_reducible exact Kin.pure _
    | with_reducible exact Kin.stuck _
    | exact Kin.unsupported _ (fun g hg => by cases hg)
    | with_reducible exact Kin.goPanic _
    | with_reducible exact Kin.load _
    | with_reducible exact Kin.store _ _
    | with_reducible exact Kin.choose _
    | with_reducible exact Kin.noRoom
    | with_reducible exact Kin.frozen _
    | with_reducible exact Kin.newRow _ _
    | with_reducible exact Kin.typeInfo _
    | with_reducible exact Kin.underlying _
    | with_reducible refine Kin.bindP ?_
    | with_reducible refine Kin.bind ?_ (fun _ => ?_)
    | with_reducible refine Kin.ite _ ?_ ?_
    | split
    | dsimp only))
theorem Kin.sizeOf (t : TypeId) : Kin P X (Go.sizeOf t) := by
  unfold Go.sizeOf
  (repeat' (first
    | contradiction
    | (intro b v a v' h; cases b <;> (simp [Go.unsupported, Go.mark, Sem.run] at h; done))
    | (intro v a v' h; first | (cases h; done) | (simp [Go.stuck, Go.unsupported, Sem.run] at h; done))
    | with_reducible exact Kin.pure _
    | with_reducible exact Kin.stuck _
    | exact Kin.unsupported _ (fun g hg => by cases hg)
    | with_reducible exact Kin.goPanic _
    | with_reducible exact Kin.load _
    | with_reducible exact Kin.store _ _
    | with_reducible exact Kin.choose _
    | with_reducible exact Kin.noRoom
    | with_reducible exact Kin.frozen _
    | with_reducible exact Kin.newRow _ _
    | with_reducible exact Kin.typeInfo _
    | with_reducible exact Kin.underlying _
    | with_reducible refine Kin.bindP ?_
    | with_reducible refine Kin.bind ?_ (fun _ => ?_)
    | with_reducible refine Kin.ite _ ?_ ?_
    | split
    | dsimp only))
theorem Kin.isAgg (t : TypeId) : Kin P X (Go.isAgg t) := by
  unfold Go.isAgg
  (repeat' (first
    | contradiction
    | (intro b v a v' h; cases b <;> (simp [Go.unsupported, Go.mark, Sem.run] at h; done))
    | (intro v a v' h; first | (cases h; done) | (simp [Go.stuck, Go.unsupported, Sem.run] at h; done))
    | with_reducible exact Kin.pure _
    | with_reducible exact Kin.stuck _
    | exact Kin.unsupported _ (fun g hg => by cases hg)
    | with_reducible exact Kin.goPanic _
    | with_reducible exact Kin.load _
    | with_reducible exact Kin.store _ _
    | with_reducible exact Kin.choose _
    | with_reducible exact Kin.noRoom
    | with_reducible exact Kin.frozen _
    | with_reducible exact Kin.newRow _ _
    | with_reducible exact Kin.typeInfo _
    | with_reducible exact Kin.underlying _
    | with_reducible refine Kin.bindP ?_
    | with_reducible refine Kin.bind ?_ (fun _ => ?_)
    | with_reducible refine Kin.ite _ ?_ ?_
    | split
    | dsimp only))
theorem Kin.loadCellsFrom (a : Addr) : ∀ (n i : Nat) (acc : Array Value), Kin P X (Go.loadCellsFrom a i n acc)
  | 0, _, _ => Kin.pure _
  | n + 1, i, acc => Kin.bind (Kin.load _) fun v => Kin.loadCellsFrom a n (i + 1) (acc.push v)
theorem Kin.loadCells (a : Addr) (n : Nat) : Kin P X (Go.loadCells a n) := Kin.loadCellsFrom a n 0 #[]
theorem Kin.storeCells (a : Addr) : ∀ (vs : List Value) (i : Nat), Kin P X (Go.storeCells a vs i)
  | [], _ => Kin.pure _
  | v :: rest, i => Kin.bind (Kin.store _ _) fun _ => Kin.storeCells a rest (i + 1)
theorem Kin.loadVar (t : TypeId) (a : Addr) : Kin P X (Go.loadVar t a) := by
  unfold Go.loadVar
  (repeat' (first
    | contradiction
    | (intro b v a v' h; cases b <;> (simp [Go.unsupported, Go.mark, Sem.run] at h; done))
    | (intro v a v' h; first | (cases h; done) | (simp [Go.stuck, Go.unsupported, Sem.run] at h; done))
    | with_reducible exact Kin.pure _
    | with_reducible exact Kin.stuck _
    | exact Kin.unsupported _ (fun g hg => by cases hg)
    | with_reducible exact Kin.goPanic _
    | with_reducible exact Kin.load _
    | with_reducible exact Kin.store _ _
    | with_reducible exact Kin.choose _
    | with_reducible exact Kin.noRoom
    | with_reducible exact Kin.frozen _
    | with_reducible exact Kin.newRow _ _
    | with_reducible exact Kin.typeInfo _
    | with_reducible exact Kin.underlying _
    | with_reducible exact Kin.zeroValue _
    | with_reducible exact Kin.sizeOf _
    | with_reducible exact Kin.isAgg _
    | with_reducible exact Kin.loadCells _ _
    | with_reducible exact Kin.storeCells _ _ _
    | with_reducible refine Kin.bindP ?_
    | with_reducible refine Kin.bind ?_ (fun _ => ?_)
    | with_reducible refine Kin.ite _ ?_ ?_
    | split
    | dsimp only))
theorem Kin.storeVar (t : TypeId) (a : Addr) (v : Value) : Kin P X (Go.storeVar t a v) := by
  unfold Go.storeVar
  (repeat' (first
    | contradiction
    | (intro b v a v' h; cases b <;> (simp [Go.unsupported, Go.mark, Sem.run] at h; done))
    | (intro v a v' h; first | (cases h; done) | (simp [Go.stuck, Go.unsupported, Sem.run] at h; done))
    | with_reducible exact Kin.pure _
    | with_reducible exact Kin.stuck _
    | exact Kin.unsupported _ (fun g hg => by cases hg)
    | with_reducible exact Kin.goPanic _
    | with_reducible exact Kin.load _
    | with_reducible exact Kin.store _ _
    | with_reducible exact Kin.choose _
    | with_reducible exact Kin.noRoom
    | with_reducible exact Kin.frozen _
    | with_reducible exact Kin.newRow _ _
    | with_reducible exact Kin.typeInfo _
    | with_reducible exact Kin.underlying _
    | with_reducible exact Kin.zeroValue _
    | with_reducible exact Kin.sizeOf _
    | with_reducible exact Kin.isAgg _
    | with_reducible exact Kin.loadCells _ _
    | with_reducible exact Kin.storeCells _ _ _
    | with_reducible refine Kin.bindP ?_
    | with_reducible refine Kin.bind ?_ (fun _ => ?_)
    | with_reducible refine Kin.ite _ ?_ ?_
    | split
    | dsimp only))
theorem Kin.newVar (t : TypeId) (v : Value) : Kin P X (Go.newVar t v) := by
  unfold Go.newVar
  (repeat' (first
    | contradiction
    | (intro b v a v' h; cases b <;> (simp [Go.unsupported, Go.mark, Sem.run] at h; done))
    | (intro v a v' h; first | (cases h; done) | (simp [Go.stuck, Go.unsupported, Sem.run] at h; done))
    | with_reducible exact Kin.pure _
    | with_reducible exact Kin.stuck _
    | exact Kin.unsupported _ (fun g hg => by cases hg)
    | with_reducible exact Kin.goPanic _
    | with_reducible exact Kin.load _
    | with_reducible exact Kin.store _ _
    | with_reducible exact Kin.choose _
    | with_reducible exact Kin.noRoom
    | with_reducible exact Kin.frozen _
    | with_reducible exact Kin.newRow _ _
    | with_reducible exact Kin.typeInfo _
    | with_reducible exact Kin.underlying _
    | with_reducible exact Kin.zeroValue _
    | with_reducible exact Kin.sizeOf _
    | with_reducible exact Kin.isAgg _
    | with_reducible exact Kin.loadCells _ _
    | with_reducible exact Kin.storeCells _ _ _
    | with_reducible refine Kin.bindP ?_
    | with_reducible refine Kin.bind ?_ (fun _ => ?_)
    | with_reducible refine Kin.ite _ ?_ ?_
    | split
    | dsimp only))
theorem Kin.elemOf (t : TypeId) : Kin P X (Go.elemOf t) := by
  unfold Go.elemOf
  (repeat' (first
    | contradiction
    | (intro b v a v' h; cases b <;> (simp [Go.unsupported, Go.mark, Sem.run] at h; done))
    | (intro v a v' h; first | (cases h; done) | (simp [Go.stuck, Go.unsupported, Sem.run] at h; done))
    | with_reducible exact Kin.pure _
    | with_reducible exact Kin.stuck _
    | exact Kin.unsupported _ (fun g hg => by cases hg)
    | with_reducible exact Kin.goPanic _
    | with_reducible exact Kin.load _
    | with_reducible exact Kin.store _ _
    | with_reducible exact Kin.choose _
    | with_reducible exact Kin.noRoom
    | with_reducible exact Kin.frozen _
    | with_reducible exact Kin.newRow _ _
    | with_reducible exact Kin.typeInfo _
    | with_reducible exact Kin.underlying _
    | with_reducible exact Kin.zeroValue _
    | with_reducible exact Kin.sizeOf _
    | with_reducible exact Kin.isAgg _
    | with_reducible exact Kin.loadCells _ _
    | with_reducible exact Kin.storeCells _ _ _
    | with_reducible refine Kin.bindP ?_
    | with_reducible refine Kin.bind ?_ (fun _ => ?_)
    | with_reducible refine Kin.ite _ ?_ ?_
    | split
    | dsimp only))
theorem Kin.part (t : TypeId) (cs : Array Value) (off : Nat) : Kin P X (Go.part t cs off) := by
  unfold Go.part
  (repeat' (first
    | contradiction
    | (intro b v a v' h; cases b <;> (simp [Go.unsupported, Go.mark, Sem.run] at h; done))
    | (intro v a v' h; first | (cases h; done) | (simp [Go.stuck, Go.unsupported, Sem.run] at h; done))
    | with_reducible exact Kin.pure _
    | with_reducible exact Kin.stuck _
    | exact Kin.unsupported _ (fun g hg => by cases hg)
    | with_reducible exact Kin.goPanic _
    | with_reducible exact Kin.load _
    | with_reducible exact Kin.store _ _
    | with_reducible exact Kin.choose _
    | with_reducible exact Kin.noRoom
    | with_reducible exact Kin.frozen _
    | with_reducible exact Kin.newRow _ _
    | with_reducible exact Kin.typeInfo _
    | with_reducible exact Kin.underlying _
    | with_reducible exact Kin.zeroValue _
    | with_reducible exact Kin.sizeOf _
    | with_reducible exact Kin.isAgg _
    | with_reducible exact Kin.loadCells _ _
    | with_reducible exact Kin.storeCells _ _ _
    | with_reducible refine Kin.bindP ?_
    | with_reducible refine Kin.bind ?_ (fun _ => ?_)
    | with_reducible refine Kin.ite _ ?_ ?_
    | split
    | dsimp only))
theorem Kin.askRoom (n : Nat) : Kin P X (Go.askRoom n) := by
  unfold Go.askRoom
  (repeat' (first
    | contradiction
    | (intro b v a v' h; cases b <;> (simp [Go.unsupported, Go.mark, Sem.run] at h; done))
    | (intro v a v' h; first | (cases h; done) | (simp [Go.stuck, Go.unsupported, Sem.run] at h; done))
    | with_reducible exact Kin.pure _
    | with_reducible exact Kin.stuck _
    | exact Kin.unsupported _ (fun g hg => by cases hg)
    | with_reducible exact Kin.goPanic _
    | with_reducible exact Kin.load _
    | with_reducible exact Kin.store _ _
    | with_reducible exact Kin.choose _
    | with_reducible exact Kin.noRoom
    | with_reducible exact Kin.frozen _
    | with_reducible exact Kin.newRow _ _
    | with_reducible exact Kin.typeInfo _
    | with_reducible exact Kin.underlying _
    | with_reducible exact Kin.zeroValue _
    | with_reducible exact Kin.sizeOf _
    | with_reducible exact Kin.isAgg _
    | with_reducible exact Kin.loadCells _ _
    | with_reducible exact Kin.storeCells _ _ _
    | with_reducible refine Kin.bindP ?_
    | with_reducible refine Kin.bind ?_ (fun _ => ?_)
    | with_reducible refine Kin.ite _ ?_ ?_
    | split
    | dsimp only))
theorem Kin.runtimePanic {α : Type} (e : RuntimeError) : Kin P X (Go.runtimePanic e : Sem α) := by
  unfold Go.runtimePanic
  (repeat' (first
    | contradiction
    | (intro b v a v' h; cases b <;> (simp [Go.unsupported, Go.mark, Sem.run] at h; done))
    | (intro v a v' h; first | (cases h; done) | (simp [Go.stuck, Go.unsupported, Sem.run] at h; done))
    | with_reducible exact Kin.pure _
    | with_reducible exact Kin.stuck _
    | exact Kin.unsupported _ (fun g hg => by cases hg)
    | with_reducible exact Kin.goPanic _
    | with_reducible exact Kin.load _
    | with_reducible exact Kin.store _ _
    | with_reducible exact Kin.choose _
    | with_reducible exact Kin.noRoom
    | with_reducible exact Kin.frozen _
    | with_reducible exact Kin.newRow _ _
    | with_reducible exact Kin.typeInfo _
    | with_reducible exact Kin.underlying _
    | with_reducible exact Kin.zeroValue _
    | with_reducible exact Kin.sizeOf _
    | with_reducible exact Kin.isAgg _
    | with_reducible exact Kin.loadCells _ _
    | with_reducible exact Kin.storeCells _ _ _
    | with_reducible exact Kin.loadVar _ _
    | with_reducible exact Kin.storeVar _ _ _
    | with_reducible exact Kin.newVar _ _
    | with_reducible exact Kin.elemOf _
    | with_reducible exact Kin.part _ _ _
    | with_reducible exact Kin.askRoom _
    | with_reducible refine Kin.bindP ?_
    | with_reducible refine Kin.bind ?_ (fun _ => ?_)
    | with_reducible refine Kin.ite _ ?_ ?_
    | split
    | dsimp only))
theorem Kin.boundsPanic {α : Type} (k : IntKind) (x y : Int) (c : BoundsCode) : Kin P X (Go.boundsPanic k x y c : Sem α) := by
  unfold Go.boundsPanic
  (repeat' (first
    | contradiction
    | (intro b v a v' h; cases b <;> (simp [Go.unsupported, Go.mark, Sem.run] at h; done))
    | (intro v a v' h; first | (cases h; done) | (simp [Go.stuck, Go.unsupported, Sem.run] at h; done))
    | with_reducible exact Kin.pure _
    | with_reducible exact Kin.stuck _
    | exact Kin.unsupported _ (fun g hg => by cases hg)
    | with_reducible exact Kin.goPanic _
    | with_reducible exact Kin.load _
    | with_reducible exact Kin.store _ _
    | with_reducible exact Kin.choose _
    | with_reducible exact Kin.noRoom
    | with_reducible exact Kin.frozen _
    | with_reducible exact Kin.newRow _ _
    | with_reducible refine Kin.map _ ?_
    | with_reducible exact Kin.typeInfo _
    | with_reducible exact Kin.underlying _
    | with_reducible exact Kin.zeroValue _
    | with_reducible exact Kin.sizeOf _
    | with_reducible exact Kin.isAgg _
    | with_reducible exact Kin.loadCells _ _
    | with_reducible exact Kin.storeCells _ _ _
    | with_reducible exact Kin.loadVar _ _
    | with_reducible exact Kin.storeVar _ _ _
    | with_reducible exact Kin.newVar _ _
    | with_reducible exact Kin.elemOf _
    | with_reducible exact Kin.part _ _ _
    | with_reducible exact Kin.askRoom _
    | with_reducible exact Kin.runtimePanic _
    | with_reducible refine Kin.bindP ?_
    | with_reducible refine Kin.bind ?_ (fun _ => ?_)
    | with_reducible refine Kin.ite _ ?_ ?_
    | split
    | dsimp only))
theorem Kin.asIntOf (v : Value) : Kin P X (Go.asIntOf v) := by
  unfold Go.asIntOf
  (repeat' (first
    | contradiction
    | (intro b v a v' h; cases b <;> (simp [Go.unsupported, Go.mark, Sem.run] at h; done))
    | (intro v a v' h; first | (cases h; done) | (simp [Go.stuck, Go.unsupported, Sem.run] at h; done))
    | with_reducible exact Kin.pure _
    | with_reducible exact Kin.stuck _
    | exact Kin.unsupported _ (fun g hg => by cases hg)
    | with_reducible exact Kin.goPanic _
    | with_reducible exact Kin.load _
    | with_reducible exact Kin.store _ _
    | with_reducible exact Kin.choose _
    | with_reducible exact Kin.noRoom
    | with_reducible exact Kin.frozen _
    | with_reducible exact Kin.newRow _ _
    | with_reducible exact Kin.typeInfo _
    | with_reducible exact Kin.underlying _
    | with_reducible exact Kin.zeroValue _
    | with_reducible exact Kin.sizeOf _
    | with_reducible exact Kin.isAgg _
    | with_reducible exact Kin.loadCells _ _
    | with_reducible exact Kin.storeCells _ _ _
    | with_reducible exact Kin.loadVar _ _
    | with_reducible exact Kin.storeVar _ _ _
    | with_reducible exact Kin.newVar _ _
    | with_reducible exact Kin.elemOf _
    | with_reducible exact Kin.part _ _ _
    | with_reducible exact Kin.askRoom _
    | with_reducible exact Kin.runtimePanic _
    | with_reducible exact Kin.boundsPanic _ _ _ _
    | with_reducible refine Kin.bindP ?_
    | with_reducible refine Kin.bind ?_ (fun _ => ?_)
    | with_reducible refine Kin.ite _ ?_ ?_
    | split
    | dsimp only))
theorem Kin.asBool (v : Value) : Kin P X (Go.asBool v) := by
  unfold Go.asBool
  (repeat' (first
    | contradiction
    | (intro b v a v' h; cases b <;> (simp [Go.unsupported, Go.mark, Sem.run] at h; done))
    | (intro v a v' h; first | (cases h; done) | (simp [Go.stuck, Go.unsupported, Sem.run] at h; done))
    | with_reducible exact Kin.pure _
    | with_reducible exact Kin.stuck _
    | exact Kin.unsupported _ (fun g hg => by cases hg)
    | with_reducible exact Kin.goPanic _
    | with_reducible exact Kin.load _
    | with_reducible exact Kin.store _ _
    | with_reducible exact Kin.choose _
    | with_reducible exact Kin.noRoom
    | with_reducible exact Kin.frozen _
    | with_reducible exact Kin.newRow _ _
    | with_reducible exact Kin.typeInfo _
    | with_reducible exact Kin.underlying _
    | with_reducible exact Kin.zeroValue _
    | with_reducible exact Kin.sizeOf _
    | with_reducible exact Kin.isAgg _
    | with_reducible exact Kin.loadCells _ _
    | with_reducible exact Kin.storeCells _ _ _
    | with_reducible exact Kin.loadVar _ _
    | with_reducible exact Kin.storeVar _ _ _
    | with_reducible exact Kin.newVar _ _
    | with_reducible exact Kin.elemOf _
    | with_reducible exact Kin.part _ _ _
    | with_reducible exact Kin.askRoom _
    | with_reducible exact Kin.runtimePanic _
    | with_reducible exact Kin.boundsPanic _ _ _ _
    | with_reducible exact Kin.asIntOf _
    | with_reducible refine Kin.bindP ?_
    | with_reducible refine Kin.bind ?_ (fun _ => ?_)
    | with_reducible refine Kin.ite _ ?_ ?_
    | split
    | dsimp only))
theorem Kin.asString (v : Value) : Kin P X (Go.asString v) := by
  unfold Go.asString
  (repeat' (first
    | contradiction
    | (intro b v a v' h; cases b <;> (simp [Go.unsupported, Go.mark, Sem.run] at h; done))
    | (intro v a v' h; first | (cases h; done) | (simp [Go.stuck, Go.unsupported, Sem.run] at h; done))
    | with_reducible exact Kin.pure _
    | with_reducible exact Kin.stuck _
    | exact Kin.unsupported _ (fun g hg => by cases hg)
    | with_reducible exact Kin.goPanic _
    | with_reducible exact Kin.load _
    | with_reducible exact Kin.store _ _
    | with_reducible exact Kin.choose _
    | with_reducible exact Kin.noRoom
    | with_reducible exact Kin.frozen _
    | with_reducible exact Kin.newRow _ _
    | with_reducible exact Kin.typeInfo _
    | with_reducible exact Kin.underlying _
    | with_reducible exact Kin.zeroValue _
    | with_reducible exact Kin.sizeOf _
    | with_reducible exact Kin.isAgg _
    | with_reducible exact Kin.loadCells _ _
    | with_reducible exact Kin.storeCells _ _ _
    | with_reducible exact Kin.loadVar _ _
    | with_reducible exact Kin.storeVar _ _ _
    | with_reducible exact Kin.newVar _ _
    | with_reducible exact Kin.elemOf _
    | with_reducible exact Kin.part _ _ _
    | with_reducible exact Kin.askRoom _
    | with_reducible exact Kin.runtimePanic _
    | with_reducible exact Kin.boundsPanic _ _ _ _
    | with_reducible exact Kin.asIntOf _
    | with_reducible exact Kin.asBool _
    | with_reducible refine Kin.bindP ?_
    | with_reducible refine Kin.bind ?_ (fun _ => ?_)
    | with_reducible refine Kin.ite _ ?_ ?_
    | split
    | dsimp only))
theorem Kin.asAgg (v : Value) : Kin P X (Go.asAgg v) := by
  unfold Go.asAgg
  (repeat' (first
    | contradiction
    | (intro b v a v' h; cases b <;> (simp [Go.unsupported, Go.mark, Sem.run] at h; done))
    | (intro v a v' h; first | (cases h; done) | (simp [Go.stuck, Go.unsupported, Sem.run] at h; done))
    | with_reducible exact Kin.pure _
    | with_reducible exact Kin.stuck _
    | exact Kin.unsupported _ (fun g hg => by cases hg)
    | with_reducible exact Kin.goPanic _
    | with_reducible exact Kin.load _
    | with_reducible exact Kin.store _ _
    | with_reducible exact Kin.choose _
    | with_reducible exact Kin.noRoom
    | with_reducible exact Kin.frozen _
    | with_reducible exact Kin.newRow _ _
    | with_reducible exact Kin.typeInfo _
    | with_reducible exact Kin.underlying _
    | with_reducible exact Kin.zeroValue _
    | with_reducible exact Kin.sizeOf _
    | with_reducible exact Kin.isAgg _
    | with_reducible exact Kin.loadCells _ _
    | with_reducible exact Kin.storeCells _ _ _
    | with_reducible exact Kin.loadVar _ _
    | with_reducible exact Kin.storeVar _ _ _
    | with_reducible exact Kin.newVar _ _
    | with_reducible exact Kin.elemOf _
    | with_reducible exact Kin.part _ _ _
    | with_reducible exact Kin.askRoom _
    | with_reducible exact Kin.runtimePanic _
    | with_reducible exact Kin.boundsPanic _ _ _ _
    | with_reducible exact Kin.asIntOf _
    | with_reducible exact Kin.asBool _
    | with_reducible exact Kin.asString _
    | with_reducible refine Kin.bindP ?_
    | with_reducible refine Kin.bind ?_ (fun _ => ?_)
    | with_reducible refine Kin.ite _ ?_ ?_
    | split
    | dsimp only))
theorem Kin.asAddr (v : Value) : Kin P X (Go.asAddr v) := by
  unfold Go.asAddr
  (repeat' (first
    | contradiction
    | (intro b v a v' h; cases b <;> (simp [Go.unsupported, Go.mark, Sem.run] at h; done))
    | (intro v a v' h; first | (cases h; done) | (simp [Go.stuck, Go.unsupported, Sem.run] at h; done))
    | with_reducible exact Kin.pure _
    | with_reducible exact Kin.stuck _
    | exact Kin.unsupported _ (fun g hg => by cases hg)
    | with_reducible exact Kin.goPanic _
    | with_reducible exact Kin.load _
    | with_reducible exact Kin.store _ _
    | with_reducible exact Kin.choose _
    | with_reducible exact Kin.noRoom
    | with_reducible exact Kin.frozen _
    | with_reducible exact Kin.newRow _ _
    | with_reducible exact Kin.typeInfo _
    | with_reducible exact Kin.underlying _
    | with_reducible exact Kin.zeroValue _
    | with_reducible exact Kin.sizeOf _
    | with_reducible exact Kin.isAgg _
    | with_reducible exact Kin.loadCells _ _
    | with_reducible exact Kin.storeCells _ _ _
    | with_reducible exact Kin.loadVar _ _
    | with_reducible exact Kin.storeVar _ _ _
    | with_reducible exact Kin.newVar _ _
    | with_reducible exact Kin.elemOf _
    | with_reducible exact Kin.part _ _ _
    | with_reducible exact Kin.askRoom _
    | with_reducible exact Kin.runtimePanic _
    | with_reducible exact Kin.boundsPanic _ _ _ _
    | with_reducible exact Kin.asIntOf _
    | with_reducible exact Kin.asBool _
    | with_reducible exact Kin.asString _
    | with_reducible exact Kin.asAgg _
    | with_reducible refine Kin.bindP ?_
    | with_reducible refine Kin.bind ?_ (fun _ => ?_)
    | with_reducible refine Kin.ite _ ?_ ?_
    | split
    | dsimp only))
theorem Kin.asInt (v : Value) : Kin P X (Go.asInt v) := by
  unfold Go.asInt
  (repeat' (first
    | contradiction
    | (intro b v a v' h; cases b <;> (simp [Go.unsupported, Go.mark, Sem.run] at h; done))
    | (intro v a v' h; first | (cases h; done) | (simp [Go.stuck, Go.unsupported, Sem.run] at h; done))
    | with_reducible exact Kin.pure _
    | with_reducible exact Kin.stuck _
    | exact Kin.unsupported _ (fun g hg => by cases hg)
    | with_reducible exact Kin.goPanic _
    | with_reducible exact Kin.load _
    | with_reducible exact Kin.store _ _
    | with_reducible exact Kin.choose _
    | with_reducible exact Kin.noRoom
    | with_reducible exact Kin.frozen _
    | with_reducible exact Kin.newRow _ _
    | with_reducible exact Kin.typeInfo _
    | with_reducible exact Kin.underlying _
    | with_reducible exact Kin.zeroValue _
    | with_reducible exact Kin.sizeOf _
    | with_reducible exact Kin.isAgg _
    | with_reducible exact Kin.loadCells _ _
    | with_reducible exact Kin.storeCells _ _ _
    | with_reducible exact Kin.loadVar _ _
    | with_reducible exact Kin.storeVar _ _ _
    | with_reducible exact Kin.newVar _ _
    | with_reducible exact Kin.elemOf _
    | with_reducible exact Kin.part _ _ _
    | with_reducible exact Kin.askRoom _
    | with_reducible exact Kin.runtimePanic _
    | with_reducible exact Kin.boundsPanic _ _ _ _
    | with_reducible exact Kin.asIntOf _
    | with_reducible exact Kin.asBool _
    | with_reducible exact Kin.asString _
    | with_reducible exact Kin.asAgg _
    | with_reducible exact Kin.asAddr _
    | with_reducible refine Kin.bindP ?_
    | with_reducible refine Kin.bind ?_ (fun _ => ?_)
    | with_reducible refine Kin.ite _ ?_ ?_
    | split
    | dsimp only))
def lookS {γ : Type} (r : Nat) (pick : Obj → Option γ) : Sem (Option γ) := .shape r fun s => if s.isSome then .pure none else .getObj r fun o => .pure (pick o)
def pickN : Obj → Option (Addr × Bool)
  | .number a l => some (a, l)
  | _ => none
def pickV : Obj → Option (Addr × TypeId)
  | .view a t => some (a, t)
  | _ => none
theorem number_eq (r : Nat) : Go.numberAt r = lookS r pickN := by
  unfold Go.numberAt lookS Go.shape Go.getObj
  show Sem.shape r _ = Sem.shape r _
  congr 1
  funext s
  show (if s.isSome = true then _ else _) = (if s.isSome = true then _ else _)
  split
  · rfl
  · show Sem.getObj r _ = Sem.getObj r _
    congr 1
    funext o
    cases o <;> rfl
theorem view_eq (r : Nat) : Go.viewAt r = lookS r pickV := by
  unfold Go.viewAt lookS Go.shape Go.getObj
  show Sem.shape r _ = Sem.shape r _
  congr 1
  funext s
  show (if s.isSome = true then _ else _) = (if s.isSome = true then _ else _)
  split
  · rfl
  · show Sem.getObj r _ = Sem.getObj r _
    congr 1
    funext o
    cases o <;> rfl
def cellsB : Obj → Bool
  | .cells _ _ _ => true
  | _ => false
def shapeB : Obj → Option (TypeId × Nat)
  | .cells c e _ => some (e, c.size)
  | _ => none
theorem look_run {γ : Type} {r : Nat} {pick : Obj → Option γ} {u : World} {o : Obj} (ho : u.heap[r]? = some o) :
    (lookS r pick).run P u = .ok (if cellsB o then none else pick o) u ∧ ∀ es, (lookS r pick).events P u es = es ++ (if cellsB o then #[] else #[⟨.obj r, false, o.isChan⟩]) := by
  have hs : u.shape? r = shapeB o := by unfold World.shape?; rw [ho]; cases o <;> rfl
  refine ⟨?_, fun es => ?_⟩
  · cases o <;> simp [lookS, Sem.run, World.shape?, ho, cellsB]
  · show (Sem.runT P (if (u.shape? r).isSome = true then Sem.pure none else Sem.getObj r fun o => .pure (pick o)) u es).2 = _
    rw [hs]
    cases o <;> simp only [Option.isSome_none, Option.isSome_some, Bool.false_eq_true, if_false, if_true, Sem.runT, ho, cellsB, shapeB, Array.append_empty, Array.push_eq_append]
theorem look_none {γ : Type} {r : Nat} {pick : Obj → Option γ} {u : World} (ho : u.heap[r]? = none) (x : Option γ) (u' : World) : (lookS r pick).run P u ≠ .ok x u' := by
  simp [lookS, Sem.run, World.shape?, ho]
theorem look_sim {γ : Type} {r : Nat} {pick : Obj → Option γ} {v w : World} (hv : Veil X v w) (hp : pick (.stringIter .empty 0) = none) (hq : ∀ o, w.heap[r]? = some o → ¬ Obj.plain o → pick (dimO o) = pick o) {x : Option γ} {v' : World} (h : (lookS r pick).run P v = .ok x v') : Out P X (lookS r pick) v w x v' := by
  cases hr : v.heap[r]? with
  | none => exact absurd h (look_none hr x v')
  | some ov =>
    have h1 := (look_run (P := P) (pick := pick) hr).1
    rw [h1] at h
    have out : ∀ o, w.heap[r]? = some o → (if cellsB o then none else pick o) = (if cellsB ov then none else pick ov) → (cellsB o = false → ¬ X r) → Out P X (lookS r pick) v w x v' := fun o ho he hx => by
      cases h
      obtain ⟨h2, h3⟩ := look_run (P := P) (pick := pick) ho
      rw [he] at h2
      refine ⟨w, h2, hv, Keep.refl _ _, by omega, rfl, rfl, fun es => ⟨_, h3 es, fun e he => ?_⟩⟩
      cases hc : cellsB o with
      | true => rw [hc] at he; simp at he
      | false =>
        rw [hc] at he
        simp only [Bool.false_eq_true, if_false, List.mem_toArray, List.mem_cons, List.not_mem_nil, or_false] at he
        subst he
        exact .inr (.inl ⟨r, rfl, hx hc, (Array.getElem?_eq_some_iff.1 ho).1, .inl rfl⟩)
    by_cases hX : X r
    · obtain ⟨h2, c, e, h3, _⟩ := hv.dark r hX
      rw [hr] at h2
      injection h2 with h2
      subst h2
      exact out _ h3 (by rw [hp, ite_self]; rfl) (fun hc => by cases hc)
    · by_cases hV : Vw w r
      · obtain ⟨o, ho, hn⟩ := hV
        have h2 := hv.dim r o ho hn
        rw [hr] at h2
        injection h2 with h2
        subst h2
        exact out o ho (by
          rw [hq o ho hn]
          have h3 : cellsB o = false := by cases o <;> first | rfl | exact absurd trivial hn
          have h4 : cellsB (dimO o) = false := by cases o <;> rfl
          rw [h3, h4]) (fun _ => hX)
      · have h2 := hv.same r hX hV
        rw [hr] at h2
        exact out ov h2.symm rfl (fun _ => hX)
theorem look_hal {γ : Type} (r : Nat) (pick : Obj → Option γ) (w : World) (hw : NoView w) (x : Halt) (w' : World) (h : (lookS r pick).run P w = .halt x w') : OkHalt x := by
  cases hr : w.heap[r]? with
  | none => simp [lookS, Sem.run, World.shape?, hr] at h; rw [← h.1]; trivial
  | some o => rw [(look_run (P := P) hr).1] at h; cases h
theorem look_mono {γ : Type} (r : Nat) (pick : Obj → Option γ) (w : World) (hw : NoView w) : Mono1 w ((lookS r pick).run P w) := by
  cases hr : w.heap[r]? with
  | none => simp [lookS, Sem.run, World.shape?, hr, Mono1, hw]
  | some o => rw [(look_run (P := P) hr).1]; exact ⟨Nat.le_refl _, hw, Nat.le_refl _⟩
theorem Kin.numberAt (r : Nat) : Kin P X (Go.numberAt r) := by
  rw [number_eq]
  refine ⟨look_hal r pickN, look_mono r pickN, fun v w x v' hv _ h => look_sim hv rfl (fun o ho h2 => ?_) h⟩
  cases o <;> first | rfl | exact absurd trivial h2
/-- A block is asked whether it is memory seen as another type, and where it is nothing comes to a value. -/
theorem Kin.viewB {β : Type} (r : Nat) {f : Option (Addr × TypeId) → Sem β} (hf : ∀ s, Kin P X (f s)) (hn : ∀ s, s.isSome = true → ∀ v b v', (f s).run P v ≠ .ok b v') : Kin P X (Go.viewAt r >>= f) := by
  rw [view_eq]
  refine Kin.bind' (look_hal _ _) (look_mono _ _) (fun v w x v' hv _ h hb => ?_) hf
  refine look_sim hv rfl (fun o ho h2 => ?_) h
  cases o with
  | view a t =>
    have hd := hv.dim _ _ ho h2
    rw [(look_run (P := P) hd).1] at h
    cases h
    obtain ⟨b, v2, hb⟩ := hb
    exact absurd hb (hn _ rfl _ _ _)
  | _ => first | rfl | exact absurd trivial h2
theorem Kin.behindNumber (a : Addr) : Kin P X (Go.behindNumber a) := by
  unfold Go.behindNumber
  (repeat' (first
    | contradiction
    | (intro b v a v' h; cases b <;> (simp [Go.unsupported, Go.mark, Sem.run] at h; done))
    | (intro v a v' h; first | (cases h; done) | (simp [Go.stuck, Go.unsupported, Sem.run] at h; done))
    | with_reducible exact Kin.pure _
    | with_reducible exact Kin.stuck _
    | exact Kin.unsupported _ (fun g hg => by cases hg)
    | with_reducible exact Kin.goPanic _
    | with_reducible exact Kin.load _
    | with_reducible exact Kin.store _ _
    | with_reducible exact Kin.choose _
    | with_reducible exact Kin.noRoom
    | with_reducible exact Kin.frozen _
    | with_reducible exact Kin.newRow _ _
    | with_reducible exact Kin.typeInfo _
    | with_reducible exact Kin.underlying _
    | with_reducible exact Kin.zeroValue _
    | with_reducible exact Kin.sizeOf _
    | with_reducible exact Kin.isAgg _
    | with_reducible exact Kin.loadCells _ _
    | with_reducible exact Kin.storeCells _ _ _
    | with_reducible exact Kin.loadVar _ _
    | with_reducible exact Kin.storeVar _ _ _
    | with_reducible exact Kin.newVar _ _
    | with_reducible exact Kin.elemOf _
    | with_reducible exact Kin.part _ _ _
    | with_reducible exact Kin.askRoom _
    | with_reducible exact Kin.runtimePanic _
    | with_reducible exact Kin.boundsPanic _ _ _ _
    | with_reducible exact Kin.asIntOf _
    | with_reducible exact Kin.asBool _
    | with_reducible exact Kin.asString _
    | with_reducible exact Kin.asAgg _
    | with_reducible exact Kin.asAddr _
    | with_reducible exact Kin.asInt _
    | with_reducible exact Kin.numberAt _
    | with_reducible refine Kin.bindP ?_
    | with_reducible refine Kin.bind ?_ (fun _ => ?_)
    | with_reducible refine Kin.ite _ ?_ ?_
    | split
    | dsimp only))
theorem Kin.asNumber (a : Addr) (l : Bool) : Kin P X (Go.asNumber a l) := Kin.bind (Kin.newObj _ trivial) (fun _ => Kin.pure _)
theorem Kin.noView (a : Addr) : Kin P X (Go.noView a) := by
  unfold Go.noView
  (repeat' (first
    | contradiction
    | (intro b v a v' h; cases b <;> (simp [Go.unsupported, Go.mark, Sem.run] at h; done))
    | (intro v a v' h; first | (cases h; done) | (simp [Go.stuck, Go.unsupported, Sem.run] at h; done))
    | with_reducible exact Kin.pure _
    | with_reducible exact Kin.stuck _
    | exact Kin.unsupported _ (fun g hg => by cases hg)
    | with_reducible exact Kin.goPanic _
    | with_reducible exact Kin.load _
    | with_reducible exact Kin.store _ _
    | with_reducible exact Kin.choose _
    | with_reducible exact Kin.noRoom
    | with_reducible exact Kin.frozen _
    | with_reducible exact Kin.newRow _ _
    | with_reducible refine Kin.viewB _ (fun _ => ?_) (fun s hs v b v' h => by simp [hs, Go.unsupported, Sem.run_bind, Sem.run] at h)
    | with_reducible exact Kin.typeInfo _
    | with_reducible exact Kin.underlying _
    | with_reducible exact Kin.zeroValue _
    | with_reducible exact Kin.sizeOf _
    | with_reducible exact Kin.isAgg _
    | with_reducible exact Kin.loadCells _ _
    | with_reducible exact Kin.storeCells _ _ _
    | with_reducible exact Kin.loadVar _ _
    | with_reducible exact Kin.storeVar _ _ _
    | with_reducible exact Kin.newVar _ _
    | with_reducible exact Kin.elemOf _
    | with_reducible exact Kin.part _ _ _
    | with_reducible exact Kin.askRoom _
    | with_reducible exact Kin.runtimePanic _
    | with_reducible exact Kin.boundsPanic _ _ _ _
    | with_reducible exact Kin.asIntOf _
    | with_reducible exact Kin.asBool _
    | with_reducible exact Kin.asString _
    | with_reducible exact Kin.asAgg _
    | with_reducible exact Kin.asAddr _
    | with_reducible exact Kin.asInt _
    | with_reducible exact Kin.numberAt _
    | with_reducible refine Kin.bindP ?_
    | with_reducible refine Kin.bind ?_ (fun _ => ?_)
    | with_reducible refine Kin.ite _ ?_ ?_
    | split
    | dsimp only))
theorem Kin.byteOf (a : Addr) : Kin P X (Go.byteOf a) := by
  unfold Go.byteOf
  (repeat' (first
    | contradiction
    | (intro b v a v' h; cases b <;> (simp [Go.unsupported, Go.mark, Sem.run] at h; done))
    | (intro v a v' h; first | (cases h; done) | (simp [Go.stuck, Go.unsupported, Sem.run] at h; done))
    | with_reducible exact Kin.pure _
    | with_reducible exact Kin.stuck _
    | exact Kin.unsupported _ (fun g hg => by cases hg)
    | with_reducible exact Kin.goPanic _
    | with_reducible exact Kin.load _
    | with_reducible exact Kin.store _ _
    | with_reducible exact Kin.choose _
    | with_reducible exact Kin.noRoom
    | with_reducible exact Kin.frozen _
    | with_reducible exact Kin.newRow _ _
    | with_reducible refine Kin.shapeB _ (fun _ => ?_) ?_
    | with_reducible exact Kin.typeInfo _
    | with_reducible exact Kin.underlying _
    | with_reducible exact Kin.zeroValue _
    | with_reducible exact Kin.sizeOf _
    | with_reducible exact Kin.isAgg _
    | with_reducible exact Kin.loadCells _ _
    | with_reducible exact Kin.storeCells _ _ _
    | with_reducible exact Kin.loadVar _ _
    | with_reducible exact Kin.storeVar _ _ _
    | with_reducible exact Kin.newVar _ _
    | with_reducible exact Kin.elemOf _
    | with_reducible exact Kin.part _ _ _
    | with_reducible exact Kin.askRoom _
    | with_reducible exact Kin.runtimePanic _
    | with_reducible exact Kin.boundsPanic _ _ _ _
    | with_reducible exact Kin.asIntOf _
    | with_reducible exact Kin.asBool _
    | with_reducible exact Kin.asString _
    | with_reducible exact Kin.asAgg _
    | with_reducible exact Kin.asAddr _
    | with_reducible exact Kin.asInt _
    | with_reducible exact Kin.numberAt _
    | with_reducible exact Kin.behindNumber _
    | with_reducible exact Kin.noView _
    | with_reducible exact Kin.asNumber _ _
    | with_reducible refine Kin.bindP ?_
    | with_reducible refine Kin.bind ?_ (fun _ => ?_)
    | with_reducible refine Kin.ite _ ?_ ?_
    | split
    | dsimp only))
theorem Kin.twoPlaces (a b : Addr) : Kin P X (Op.twoPlaces a b) := by
  unfold Op.twoPlaces
  (repeat' (first
    | contradiction
    | (intro b v a v' h; cases b <;> (simp [Go.unsupported, Go.mark, Sem.run] at h; done))
    | (intro v a v' h; first | (cases h; done) | (simp [Go.stuck, Go.unsupported, Sem.run] at h; done))
    | with_reducible exact Kin.pure _
    | with_reducible exact Kin.stuck _
    | exact Kin.unsupported _ (fun g hg => by cases hg)
    | with_reducible exact Kin.goPanic _
    | with_reducible exact Kin.load _
    | with_reducible exact Kin.store _ _
    | with_reducible exact Kin.choose _
    | with_reducible exact Kin.noRoom
    | with_reducible exact Kin.frozen _
    | with_reducible exact Kin.newRow _ _
    | with_reducible exact Kin.typeInfo _
    | with_reducible exact Kin.underlying _
    | with_reducible exact Kin.zeroValue _
    | with_reducible exact Kin.sizeOf _
    | with_reducible exact Kin.isAgg _
    | with_reducible exact Kin.loadCells _ _
    | with_reducible exact Kin.storeCells _ _ _
    | with_reducible exact Kin.loadVar _ _
    | with_reducible exact Kin.storeVar _ _ _
    | with_reducible exact Kin.newVar _ _
    | with_reducible exact Kin.elemOf _
    | with_reducible exact Kin.part _ _ _
    | with_reducible exact Kin.askRoom _
    | with_reducible exact Kin.runtimePanic _
    | with_reducible exact Kin.boundsPanic _ _ _ _
    | with_reducible exact Kin.asIntOf _
    | with_reducible exact Kin.asBool _
    | with_reducible exact Kin.asString _
    | with_reducible exact Kin.asAgg _
    | with_reducible exact Kin.asAddr _
    | with_reducible exact Kin.asInt _
    | with_reducible exact Kin.numberAt _
    | with_reducible exact Kin.behindNumber _
    | with_reducible exact Kin.noView _
    | with_reducible exact Kin.asNumber _ _
    | with_reducible exact Kin.byteOf _
    | with_reducible refine Kin.bindP ?_
    | with_reducible refine Kin.bind ?_ (fun _ => ?_)
    | with_reducible refine Kin.ite _ ?_ ?_
    | split
    | dsimp only))
theorem Kin.addrSub (k : IntKind) (a b : Addr) : Kin P X (Op.addrSub k a b) := by
  unfold Op.addrSub
  (repeat' (first
    | contradiction
    | (intro b v a v' h; cases b <;> (simp [Go.unsupported, Go.mark, Sem.run] at h; done))
    | (intro v a v' h; first | (cases h; done) | (simp [Go.stuck, Go.unsupported, Sem.run] at h; done))
    | with_reducible exact Kin.pure _
    | with_reducible exact Kin.stuck _
    | exact Kin.unsupported _ (fun g hg => by cases hg)
    | with_reducible exact Kin.goPanic _
    | with_reducible exact Kin.load _
    | with_reducible exact Kin.store _ _
    | with_reducible exact Kin.choose _
    | with_reducible exact Kin.noRoom
    | with_reducible exact Kin.frozen _
    | with_reducible exact Kin.newRow _ _
    | with_reducible exact Kin.typeInfo _
    | with_reducible exact Kin.underlying _
    | with_reducible exact Kin.zeroValue _
    | with_reducible exact Kin.sizeOf _
    | with_reducible exact Kin.isAgg _
    | with_reducible exact Kin.loadCells _ _
    | with_reducible exact Kin.storeCells _ _ _
    | with_reducible exact Kin.loadVar _ _
    | with_reducible exact Kin.storeVar _ _ _
    | with_reducible exact Kin.newVar _ _
    | with_reducible exact Kin.elemOf _
    | with_reducible exact Kin.part _ _ _
    | with_reducible exact Kin.askRoom _
    | with_reducible exact Kin.runtimePanic _
    | with_reducible exact Kin.boundsPanic _ _ _ _
    | with_reducible exact Kin.asIntOf _
    | with_reducible exact Kin.asBool _
    | with_reducible exact Kin.asString _
    | with_reducible exact Kin.asAgg _
    | with_reducible exact Kin.asAddr _
    | with_reducible exact Kin.asInt _
    | with_reducible exact Kin.numberAt _
    | with_reducible exact Kin.behindNumber _
    | with_reducible exact Kin.noView _
    | with_reducible exact Kin.asNumber _ _
    | with_reducible exact Kin.byteOf _
    | with_reducible exact Kin.twoPlaces _ _
    | with_reducible refine Kin.bindP ?_
    | with_reducible refine Kin.bind ?_ (fun _ => ?_)
    | with_reducible refine Kin.ite _ ?_ ?_
    | split
    | dsimp only))
theorem Kin.addrCmp (op : BinOp) (a b : Addr) : Kin P X (Op.addrCmp op a b) := by
  unfold Op.addrCmp
  (repeat' (first
    | contradiction
    | (intro b v a v' h; cases b <;> (simp [Go.unsupported, Go.mark, Sem.run] at h; done))
    | (intro v a v' h; first | (cases h; done) | (simp [Go.stuck, Go.unsupported, Sem.run] at h; done))
    | with_reducible exact Kin.pure _
    | with_reducible exact Kin.stuck _
    | exact Kin.unsupported _ (fun g hg => by cases hg)
    | with_reducible exact Kin.goPanic _
    | with_reducible exact Kin.load _
    | with_reducible exact Kin.store _ _
    | with_reducible exact Kin.choose _
    | with_reducible exact Kin.noRoom
    | with_reducible exact Kin.frozen _
    | with_reducible exact Kin.newRow _ _
    | with_reducible exact Kin.typeInfo _
    | with_reducible exact Kin.underlying _
    | with_reducible exact Kin.zeroValue _
    | with_reducible exact Kin.sizeOf _
    | with_reducible exact Kin.isAgg _
    | with_reducible exact Kin.loadCells _ _
    | with_reducible exact Kin.storeCells _ _ _
    | with_reducible exact Kin.loadVar _ _
    | with_reducible exact Kin.storeVar _ _ _
    | with_reducible exact Kin.newVar _ _
    | with_reducible exact Kin.elemOf _
    | with_reducible exact Kin.part _ _ _
    | with_reducible exact Kin.askRoom _
    | with_reducible exact Kin.runtimePanic _
    | with_reducible exact Kin.boundsPanic _ _ _ _
    | with_reducible exact Kin.asIntOf _
    | with_reducible exact Kin.asBool _
    | with_reducible exact Kin.asString _
    | with_reducible exact Kin.asAgg _
    | with_reducible exact Kin.asAddr _
    | with_reducible exact Kin.asInt _
    | with_reducible exact Kin.numberAt _
    | with_reducible exact Kin.behindNumber _
    | with_reducible exact Kin.noView _
    | with_reducible exact Kin.asNumber _ _
    | with_reducible exact Kin.byteOf _
    | with_reducible exact Kin.twoPlaces _ _
    | with_reducible refine Kin.bindP ?_
    | with_reducible refine Kin.bind ?_ (fun _ => ?_)
    | with_reducible refine Kin.ite _ ?_ ?_
    | split
    | dsimp only))
theorem Kin.addrMod (k : IntKind) (a : Addr) (n : Int) : Kin P X (Op.addrMod k a n) := by
  unfold Op.addrMod
  (repeat' (first
    | contradiction
    | (intro b v a v' h; cases b <;> (simp [Go.unsupported, Go.mark, Sem.run] at h; done))
    | (intro v a v' h; first | (cases h; done) | (simp [Go.stuck, Go.unsupported, Sem.run] at h; done))
    | with_reducible exact Kin.pure _
    | with_reducible exact Kin.stuck _
    | exact Kin.unsupported _ (fun g hg => by cases hg)
    | with_reducible exact Kin.goPanic _
    | with_reducible exact Kin.load _
    | with_reducible exact Kin.store _ _
    | with_reducible exact Kin.choose _
    | with_reducible exact Kin.noRoom
    | with_reducible exact Kin.frozen _
    | with_reducible exact Kin.newRow _ _
    | with_reducible refine Kin.shapeB _ (fun _ => ?_) ?_
    | with_reducible exact Kin.typeInfo _
    | with_reducible exact Kin.underlying _
    | with_reducible exact Kin.zeroValue _
    | with_reducible exact Kin.sizeOf _
    | with_reducible exact Kin.isAgg _
    | with_reducible exact Kin.loadCells _ _
    | with_reducible exact Kin.storeCells _ _ _
    | with_reducible exact Kin.loadVar _ _
    | with_reducible exact Kin.storeVar _ _ _
    | with_reducible exact Kin.newVar _ _
    | with_reducible exact Kin.elemOf _
    | with_reducible exact Kin.part _ _ _
    | with_reducible exact Kin.askRoom _
    | with_reducible exact Kin.runtimePanic _
    | with_reducible exact Kin.boundsPanic _ _ _ _
    | with_reducible exact Kin.asIntOf _
    | with_reducible exact Kin.asBool _
    | with_reducible exact Kin.asString _
    | with_reducible exact Kin.asAgg _
    | with_reducible exact Kin.asAddr _
    | with_reducible exact Kin.asInt _
    | with_reducible exact Kin.numberAt _
    | with_reducible exact Kin.behindNumber _
    | with_reducible exact Kin.noView _
    | with_reducible exact Kin.asNumber _ _
    | with_reducible exact Kin.byteOf _
    | with_reducible exact Kin.twoPlaces _ _
    | with_reducible refine Kin.bindP ?_
    | with_reducible refine Kin.bind ?_ (fun _ => ?_)
    | with_reducible refine Kin.ite _ ?_ ?_
    | split
    | dsimp only))
theorem Kin.unsafeAdd2 (ts : Array TypeId) (t : TypeId) (p : Option Addr) (l : Value) : Kin P X (Builtin.unsafeAdd_ ts t #[.pointer p, l]) := by
  refine Kin.bind (s := Go.asInt l) (Kin.asInt l) (fun n => ?_)
  (repeat' (first
    | contradiction
    | (intro b v a v' h; cases b <;> (simp [Go.unsupported, Go.mark, Sem.run] at h; done))
    | (intro v a v' h; first | (cases h; done) | (simp [Go.stuck, Go.unsupported, Sem.run] at h; done))
    | with_reducible exact Kin.pure _
    | with_reducible exact Kin.stuck _
    | exact Kin.unsupported _ (fun g hg => by cases hg)
    | with_reducible exact Kin.goPanic _
    | with_reducible exact Kin.load _
    | with_reducible exact Kin.store _ _
    | with_reducible exact Kin.choose _
    | with_reducible exact Kin.noRoom
    | with_reducible exact Kin.frozen _
    | with_reducible exact Kin.newRow _ _
    | with_reducible refine Kin.shapeB _ (fun _ => ?_) ?_
    | with_reducible refine Kin.viewB _ (fun _ => ?_) (fun s hs v b v' h => by simp [hs, Go.unsupported, Sem.run_bind, Sem.run] at h)
    | with_reducible exact Kin.typeInfo _
    | with_reducible exact Kin.underlying _
    | with_reducible exact Kin.zeroValue _
    | with_reducible exact Kin.sizeOf _
    | with_reducible exact Kin.isAgg _
    | with_reducible exact Kin.loadCells _ _
    | with_reducible exact Kin.storeCells _ _ _
    | with_reducible exact Kin.loadVar _ _
    | with_reducible exact Kin.storeVar _ _ _
    | with_reducible exact Kin.newVar _ _
    | with_reducible exact Kin.elemOf _
    | with_reducible exact Kin.part _ _ _
    | with_reducible exact Kin.askRoom _
    | with_reducible exact Kin.runtimePanic _
    | with_reducible exact Kin.boundsPanic _ _ _ _
    | with_reducible exact Kin.asIntOf _
    | with_reducible exact Kin.asBool _
    | with_reducible exact Kin.asString _
    | with_reducible exact Kin.asAgg _
    | with_reducible exact Kin.asAddr _
    | with_reducible exact Kin.asInt _
    | with_reducible exact Kin.numberAt _
    | with_reducible exact Kin.behindNumber _
    | with_reducible exact Kin.noView _
    | with_reducible exact Kin.asNumber _ _
    | with_reducible exact Kin.byteOf _
    | with_reducible exact Kin.twoPlaces _ _
    | with_reducible refine Kin.bindP ?_
    | with_reducible refine Kin.bind ?_ (fun _ => ?_)
    | with_reducible refine Kin.ite _ ?_ ?_
    | split
    | dsimp only))
theorem Kin.unsafeAdd (ts : Array TypeId) (t : TypeId) (x y : Value) : Kin P X (Builtin.unsafeAdd_ ts t #[x, y]) := by
  cases x with
  | pointer p => exact Kin.unsafeAdd2 ts t p y
  | _ => exact Kin.halt _ trivial
theorem Kin.movedNumber (t : TypeId) (x y : Value) : Kin P X (Go.movedNumber t x y) := by
  unfold Go.movedNumber
  (repeat' (first
    | contradiction
    | (intro b v a v' h; cases b <;> (simp [Go.unsupported, Go.mark, Sem.run] at h; done))
    | (intro v a v' h; first | (cases h; done) | (simp [Go.stuck, Go.unsupported, Sem.run] at h; done))
    | with_reducible exact Kin.pure _
    | with_reducible exact Kin.stuck _
    | exact Kin.unsupported _ (fun g hg => by cases hg)
    | with_reducible exact Kin.goPanic _
    | with_reducible exact Kin.load _
    | with_reducible exact Kin.store _ _
    | with_reducible exact Kin.choose _
    | with_reducible exact Kin.noRoom
    | with_reducible exact Kin.frozen _
    | with_reducible exact Kin.newRow _ _
    | with_reducible exact Kin.typeInfo _
    | with_reducible exact Kin.underlying _
    | with_reducible exact Kin.zeroValue _
    | with_reducible exact Kin.sizeOf _
    | with_reducible exact Kin.isAgg _
    | with_reducible exact Kin.loadCells _ _
    | with_reducible exact Kin.storeCells _ _ _
    | with_reducible exact Kin.loadVar _ _
    | with_reducible exact Kin.storeVar _ _ _
    | with_reducible exact Kin.newVar _ _
    | with_reducible exact Kin.elemOf _
    | with_reducible exact Kin.part _ _ _
    | with_reducible exact Kin.askRoom _
    | with_reducible exact Kin.runtimePanic _
    | with_reducible exact Kin.boundsPanic _ _ _ _
    | with_reducible exact Kin.asIntOf _
    | with_reducible exact Kin.asBool _
    | with_reducible exact Kin.asString _
    | with_reducible exact Kin.asAgg _
    | with_reducible exact Kin.asAddr _
    | with_reducible exact Kin.asInt _
    | with_reducible exact Kin.numberAt _
    | with_reducible exact Kin.behindNumber _
    | with_reducible exact Kin.noView _
    | with_reducible exact Kin.asNumber _ _
    | with_reducible exact Kin.byteOf _
    | with_reducible exact Kin.twoPlaces _ _
    | with_reducible exact Kin.unsafeAdd2 _ _ _ _
    | with_reducible exact Kin.addrSub _ _ _
    | with_reducible exact Kin.addrCmp _ _ _
    | with_reducible exact Kin.addrMod _ _ _
    | with_reducible exact Kin.unsafeAdd _ _ _ _
    | with_reducible refine Kin.bindP ?_
    | with_reducible refine Kin.bind ?_ (fun _ => ?_)
    | with_reducible refine Kin.ite _ ?_ ?_
    | split
    | dsimp only))
theorem Kin.movedPointer (t : TypeId) (x y : Value) : Kin P X (Go.movedPointer t x y) := by
  unfold Go.movedPointer
  (repeat' (first
    | contradiction
    | (intro b v a v' h; cases b <;> (simp [Go.unsupported, Go.mark, Sem.run] at h; done))
    | (intro v a v' h; first | (cases h; done) | (simp [Go.stuck, Go.unsupported, Sem.run] at h; done))
    | with_reducible exact Kin.pure _
    | with_reducible exact Kin.stuck _
    | exact Kin.unsupported _ (fun g hg => by cases hg)
    | with_reducible exact Kin.goPanic _
    | with_reducible exact Kin.load _
    | with_reducible exact Kin.store _ _
    | with_reducible exact Kin.choose _
    | with_reducible exact Kin.noRoom
    | with_reducible exact Kin.frozen _
    | with_reducible exact Kin.newRow _ _
    | with_reducible exact Kin.typeInfo _
    | with_reducible exact Kin.underlying _
    | with_reducible exact Kin.zeroValue _
    | with_reducible exact Kin.sizeOf _
    | with_reducible exact Kin.isAgg _
    | with_reducible exact Kin.loadCells _ _
    | with_reducible exact Kin.storeCells _ _ _
    | with_reducible exact Kin.loadVar _ _
    | with_reducible exact Kin.storeVar _ _ _
    | with_reducible exact Kin.newVar _ _
    | with_reducible exact Kin.elemOf _
    | with_reducible exact Kin.part _ _ _
    | with_reducible exact Kin.askRoom _
    | with_reducible exact Kin.runtimePanic _
    | with_reducible exact Kin.boundsPanic _ _ _ _
    | with_reducible exact Kin.asIntOf _
    | with_reducible exact Kin.asBool _
    | with_reducible exact Kin.asString _
    | with_reducible exact Kin.asAgg _
    | with_reducible exact Kin.asAddr _
    | with_reducible exact Kin.asInt _
    | with_reducible exact Kin.numberAt _
    | with_reducible exact Kin.behindNumber _
    | with_reducible exact Kin.noView _
    | with_reducible exact Kin.asNumber _ _
    | with_reducible exact Kin.byteOf _
    | with_reducible exact Kin.twoPlaces _ _
    | with_reducible exact Kin.unsafeAdd2 _ _ _ _
    | with_reducible exact Kin.addrSub _ _ _
    | with_reducible exact Kin.addrCmp _ _ _
    | with_reducible exact Kin.addrMod _ _ _
    | with_reducible exact Kin.unsafeAdd _ _ _ _
    | with_reducible refine Kin.bindP ?_
    | with_reducible refine Kin.bind ?_ (fun _ => ?_)
    | with_reducible refine Kin.ite _ ?_ ?_
    | split
    | dsimp only))
theorem Kin.intArith (op : BinOp) (k : IntKind) (x y : Int) : Kin P X (Op.intArith op k x y) := by
  unfold Op.intArith
  (repeat' (first
    | contradiction
    | (intro b v a v' h; cases b <;> (simp [Go.unsupported, Go.mark, Sem.run] at h; done))
    | (intro v a v' h; first | (cases h; done) | (simp [Go.stuck, Go.unsupported, Sem.run] at h; done))
    | with_reducible exact Kin.pure _
    | with_reducible exact Kin.stuck _
    | exact Kin.unsupported _ (fun g hg => by cases hg)
    | with_reducible exact Kin.goPanic _
    | with_reducible exact Kin.load _
    | with_reducible exact Kin.store _ _
    | with_reducible exact Kin.choose _
    | with_reducible exact Kin.noRoom
    | with_reducible exact Kin.frozen _
    | with_reducible exact Kin.newRow _ _
    | with_reducible exact Kin.typeInfo _
    | with_reducible exact Kin.underlying _
    | with_reducible exact Kin.zeroValue _
    | with_reducible exact Kin.sizeOf _
    | with_reducible exact Kin.isAgg _
    | with_reducible exact Kin.loadCells _ _
    | with_reducible exact Kin.storeCells _ _ _
    | with_reducible exact Kin.loadVar _ _
    | with_reducible exact Kin.storeVar _ _ _
    | with_reducible exact Kin.newVar _ _
    | with_reducible exact Kin.elemOf _
    | with_reducible exact Kin.part _ _ _
    | with_reducible exact Kin.askRoom _
    | with_reducible exact Kin.runtimePanic _
    | with_reducible exact Kin.boundsPanic _ _ _ _
    | with_reducible exact Kin.asIntOf _
    | with_reducible exact Kin.asBool _
    | with_reducible exact Kin.asString _
    | with_reducible exact Kin.asAgg _
    | with_reducible exact Kin.asAddr _
    | with_reducible exact Kin.asInt _
    | with_reducible exact Kin.numberAt _
    | with_reducible exact Kin.behindNumber _
    | with_reducible exact Kin.noView _
    | with_reducible exact Kin.asNumber _ _
    | with_reducible exact Kin.byteOf _
    | with_reducible exact Kin.twoPlaces _ _
    | with_reducible exact Kin.unsafeAdd2 _ _ _ _
    | with_reducible exact Kin.addrSub _ _ _
    | with_reducible exact Kin.addrCmp _ _ _
    | with_reducible exact Kin.addrMod _ _ _
    | with_reducible exact Kin.unsafeAdd _ _ _ _
    | with_reducible exact Kin.movedNumber _ _ _
    | with_reducible exact Kin.movedPointer _ _ _
    | with_reducible refine Kin.bindP ?_
    | with_reducible refine Kin.bind ?_ (fun _ => ?_)
    | with_reducible refine Kin.ite _ ?_ ?_
    | split
    | dsimp only))
theorem Kin.intDiv (op : BinOp) (k : IntKind) (x y : Int) : Kin P X (Op.intDiv op k x y) := by
  unfold Op.intDiv
  (repeat' (first
    | contradiction
    | (intro b v a v' h; cases b <;> (simp [Go.unsupported, Go.mark, Sem.run] at h; done))
    | (intro v a v' h; first | (cases h; done) | (simp [Go.stuck, Go.unsupported, Sem.run] at h; done))
    | with_reducible exact Kin.pure _
    | with_reducible exact Kin.stuck _
    | exact Kin.unsupported _ (fun g hg => by cases hg)
    | with_reducible exact Kin.goPanic _
    | with_reducible exact Kin.load _
    | with_reducible exact Kin.store _ _
    | with_reducible exact Kin.choose _
    | with_reducible exact Kin.noRoom
    | with_reducible exact Kin.frozen _
    | with_reducible exact Kin.newRow _ _
    | with_reducible exact Kin.typeInfo _
    | with_reducible exact Kin.underlying _
    | with_reducible exact Kin.zeroValue _
    | with_reducible exact Kin.sizeOf _
    | with_reducible exact Kin.isAgg _
    | with_reducible exact Kin.loadCells _ _
    | with_reducible exact Kin.storeCells _ _ _
    | with_reducible exact Kin.loadVar _ _
    | with_reducible exact Kin.storeVar _ _ _
    | with_reducible exact Kin.newVar _ _
    | with_reducible exact Kin.elemOf _
    | with_reducible exact Kin.part _ _ _
    | with_reducible exact Kin.askRoom _
    | with_reducible exact Kin.runtimePanic _
    | with_reducible exact Kin.boundsPanic _ _ _ _
    | with_reducible exact Kin.asIntOf _
    | with_reducible exact Kin.asBool _
    | with_reducible exact Kin.asString _
    | with_reducible exact Kin.asAgg _
    | with_reducible exact Kin.asAddr _
    | with_reducible exact Kin.asInt _
    | with_reducible exact Kin.numberAt _
    | with_reducible exact Kin.behindNumber _
    | with_reducible exact Kin.noView _
    | with_reducible exact Kin.asNumber _ _
    | with_reducible exact Kin.byteOf _
    | with_reducible exact Kin.twoPlaces _ _
    | with_reducible exact Kin.unsafeAdd2 _ _ _ _
    | with_reducible exact Kin.addrSub _ _ _
    | with_reducible exact Kin.addrCmp _ _ _
    | with_reducible exact Kin.addrMod _ _ _
    | with_reducible exact Kin.unsafeAdd _ _ _ _
    | with_reducible exact Kin.movedNumber _ _ _
    | with_reducible exact Kin.movedPointer _ _ _
    | with_reducible exact Kin.intArith _ _ _ _
    | with_reducible refine Kin.bindP ?_
    | with_reducible refine Kin.bind ?_ (fun _ => ?_)
    | with_reducible refine Kin.ite _ ?_ ?_
    | split
    | dsimp only))
theorem Kin.intBits (op : BinOp) (k : IntKind) (x y : Int) : Kin P X (Op.intBits op k x y) := by
  unfold Op.intBits
  (repeat' (first
    | contradiction
    | (intro b v a v' h; cases b <;> (simp [Go.unsupported, Go.mark, Sem.run] at h; done))
    | (intro v a v' h; first | (cases h; done) | (simp [Go.stuck, Go.unsupported, Sem.run] at h; done))
    | with_reducible exact Kin.pure _
    | with_reducible exact Kin.stuck _
    | exact Kin.unsupported _ (fun g hg => by cases hg)
    | with_reducible exact Kin.goPanic _
    | with_reducible exact Kin.load _
    | with_reducible exact Kin.store _ _
    | with_reducible exact Kin.choose _
    | with_reducible exact Kin.noRoom
    | with_reducible exact Kin.frozen _
    | with_reducible exact Kin.newRow _ _
    | with_reducible exact Kin.typeInfo _
    | with_reducible exact Kin.underlying _
    | with_reducible exact Kin.zeroValue _
    | with_reducible exact Kin.sizeOf _
    | with_reducible exact Kin.isAgg _
    | with_reducible exact Kin.loadCells _ _
    | with_reducible exact Kin.storeCells _ _ _
    | with_reducible exact Kin.loadVar _ _
    | with_reducible exact Kin.storeVar _ _ _
    | with_reducible exact Kin.newVar _ _
    | with_reducible exact Kin.elemOf _
    | with_reducible exact Kin.part _ _ _
    | with_reducible exact Kin.askRoom _
    | with_reducible exact Kin.runtimePanic _
    | with_reducible exact Kin.boundsPanic _ _ _ _
    | with_reducible exact Kin.asIntOf _
    | with_reducible exact Kin.asBool _
    | with_reducible exact Kin.asString _
    | with_reducible exact Kin.asAgg _
    | with_reducible exact Kin.asAddr _
    | with_reducible exact Kin.asInt _
    | with_reducible exact Kin.numberAt _
    | with_reducible exact Kin.behindNumber _
    | with_reducible exact Kin.noView _
    | with_reducible exact Kin.asNumber _ _
    | with_reducible exact Kin.byteOf _
    | with_reducible exact Kin.twoPlaces _ _
    | with_reducible exact Kin.unsafeAdd2 _ _ _ _
    | with_reducible exact Kin.addrSub _ _ _
    | with_reducible exact Kin.addrCmp _ _ _
    | with_reducible exact Kin.addrMod _ _ _
    | with_reducible exact Kin.unsafeAdd _ _ _ _
    | with_reducible exact Kin.movedNumber _ _ _
    | with_reducible exact Kin.movedPointer _ _ _
    | with_reducible exact Kin.intArith _ _ _ _
    | with_reducible exact Kin.intDiv _ _ _ _
    | with_reducible refine Kin.bindP ?_
    | with_reducible refine Kin.bind ?_ (fun _ => ?_)
    | with_reducible refine Kin.ite _ ?_ ?_
    | split
    | dsimp only))
theorem Kin.intCmp (op : BinOp) (x y : Int) : Kin P X (Op.intCmp op x y) := by
  unfold Op.intCmp
  (repeat' (first
    | contradiction
    | (intro b v a v' h; cases b <;> (simp [Go.unsupported, Go.mark, Sem.run] at h; done))
    | (intro v a v' h; first | (cases h; done) | (simp [Go.stuck, Go.unsupported, Sem.run] at h; done))
    | with_reducible exact Kin.pure _
    | with_reducible exact Kin.stuck _
    | exact Kin.unsupported _ (fun g hg => by cases hg)
    | with_reducible exact Kin.goPanic _
    | with_reducible exact Kin.load _
    | with_reducible exact Kin.store _ _
    | with_reducible exact Kin.choose _
    | with_reducible exact Kin.noRoom
    | with_reducible exact Kin.frozen _
    | with_reducible exact Kin.newRow _ _
    | with_reducible exact Kin.typeInfo _
    | with_reducible exact Kin.underlying _
    | with_reducible exact Kin.zeroValue _
    | with_reducible exact Kin.sizeOf _
    | with_reducible exact Kin.isAgg _
    | with_reducible exact Kin.loadCells _ _
    | with_reducible exact Kin.storeCells _ _ _
    | with_reducible exact Kin.loadVar _ _
    | with_reducible exact Kin.storeVar _ _ _
    | with_reducible exact Kin.newVar _ _
    | with_reducible exact Kin.elemOf _
    | with_reducible exact Kin.part _ _ _
    | with_reducible exact Kin.askRoom _
    | with_reducible exact Kin.runtimePanic _
    | with_reducible exact Kin.boundsPanic _ _ _ _
    | with_reducible exact Kin.asIntOf _
    | with_reducible exact Kin.asBool _
    | with_reducible exact Kin.asString _
    | with_reducible exact Kin.asAgg _
    | with_reducible exact Kin.asAddr _
    | with_reducible exact Kin.asInt _
    | with_reducible exact Kin.numberAt _
    | with_reducible exact Kin.behindNumber _
    | with_reducible exact Kin.noView _
    | with_reducible exact Kin.asNumber _ _
    | with_reducible exact Kin.byteOf _
    | with_reducible exact Kin.twoPlaces _ _
    | with_reducible exact Kin.unsafeAdd2 _ _ _ _
    | with_reducible exact Kin.addrSub _ _ _
    | with_reducible exact Kin.addrCmp _ _ _
    | with_reducible exact Kin.addrMod _ _ _
    | with_reducible exact Kin.unsafeAdd _ _ _ _
    | with_reducible exact Kin.movedNumber _ _ _
    | with_reducible exact Kin.movedPointer _ _ _
    | with_reducible exact Kin.intArith _ _ _ _
    | with_reducible exact Kin.intDiv _ _ _ _
    | with_reducible exact Kin.intBits _ _ _ _
    | with_reducible refine Kin.bindP ?_
    | with_reducible refine Kin.bind ?_ (fun _ => ?_)
    | with_reducible refine Kin.ite _ ?_ ?_
    | split
    | dsimp only))
theorem Kin.shift (op : BinOp) (k : IntKind) (x : Int) (yk : IntKind) (y : Int) : Kin P X (Op.shift op k x yk y) := by
  unfold Op.shift
  (repeat' (first
    | contradiction
    | (intro b v a v' h; cases b <;> (simp [Go.unsupported, Go.mark, Sem.run] at h; done))
    | (intro v a v' h; first | (cases h; done) | (simp [Go.stuck, Go.unsupported, Sem.run] at h; done))
    | with_reducible exact Kin.pure _
    | with_reducible exact Kin.stuck _
    | exact Kin.unsupported _ (fun g hg => by cases hg)
    | with_reducible exact Kin.goPanic _
    | with_reducible exact Kin.load _
    | with_reducible exact Kin.store _ _
    | with_reducible exact Kin.choose _
    | with_reducible exact Kin.noRoom
    | with_reducible exact Kin.frozen _
    | with_reducible exact Kin.newRow _ _
    | with_reducible exact Kin.typeInfo _
    | with_reducible exact Kin.underlying _
    | with_reducible exact Kin.zeroValue _
    | with_reducible exact Kin.sizeOf _
    | with_reducible exact Kin.isAgg _
    | with_reducible exact Kin.loadCells _ _
    | with_reducible exact Kin.storeCells _ _ _
    | with_reducible exact Kin.loadVar _ _
    | with_reducible exact Kin.storeVar _ _ _
    | with_reducible exact Kin.newVar _ _
    | with_reducible exact Kin.elemOf _
    | with_reducible exact Kin.part _ _ _
    | with_reducible exact Kin.askRoom _
    | with_reducible exact Kin.runtimePanic _
    | with_reducible exact Kin.boundsPanic _ _ _ _
    | with_reducible exact Kin.asIntOf _
    | with_reducible exact Kin.asBool _
    | with_reducible exact Kin.asString _
    | with_reducible exact Kin.asAgg _
    | with_reducible exact Kin.asAddr _
    | with_reducible exact Kin.asInt _
    | with_reducible exact Kin.numberAt _
    | with_reducible exact Kin.behindNumber _
    | with_reducible exact Kin.noView _
    | with_reducible exact Kin.asNumber _ _
    | with_reducible exact Kin.byteOf _
    | with_reducible exact Kin.twoPlaces _ _
    | with_reducible exact Kin.unsafeAdd2 _ _ _ _
    | with_reducible exact Kin.addrSub _ _ _
    | with_reducible exact Kin.addrCmp _ _ _
    | with_reducible exact Kin.addrMod _ _ _
    | with_reducible exact Kin.unsafeAdd _ _ _ _
    | with_reducible exact Kin.movedNumber _ _ _
    | with_reducible exact Kin.movedPointer _ _ _
    | with_reducible exact Kin.intArith _ _ _ _
    | with_reducible exact Kin.intDiv _ _ _ _
    | with_reducible exact Kin.intBits _ _ _ _
    | with_reducible exact Kin.intCmp _ _ _
    | with_reducible refine Kin.bindP ?_
    | with_reducible refine Kin.bind ?_ (fun _ => ?_)
    | with_reducible refine Kin.ite _ ?_ ?_
    | split
    | dsimp only))
theorem Kin.floatArith (op : BinOp) (k : FloatKind) (x y : Nat) : Kin P X (Op.floatArith op k x y) := by
  unfold Op.floatArith
  (repeat' (first
    | contradiction
    | (intro b v a v' h; cases b <;> (simp [Go.unsupported, Go.mark, Sem.run] at h; done))
    | (intro v a v' h; first | (cases h; done) | (simp [Go.stuck, Go.unsupported, Sem.run] at h; done))
    | with_reducible exact Kin.pure _
    | with_reducible exact Kin.stuck _
    | exact Kin.unsupported _ (fun g hg => by cases hg)
    | with_reducible exact Kin.goPanic _
    | with_reducible exact Kin.load _
    | with_reducible exact Kin.store _ _
    | with_reducible exact Kin.choose _
    | with_reducible exact Kin.noRoom
    | with_reducible exact Kin.frozen _
    | with_reducible exact Kin.newRow _ _
    | with_reducible exact Kin.typeInfo _
    | with_reducible exact Kin.underlying _
    | with_reducible exact Kin.zeroValue _
    | with_reducible exact Kin.sizeOf _
    | with_reducible exact Kin.isAgg _
    | with_reducible exact Kin.loadCells _ _
    | with_reducible exact Kin.storeCells _ _ _
    | with_reducible exact Kin.loadVar _ _
    | with_reducible exact Kin.storeVar _ _ _
    | with_reducible exact Kin.newVar _ _
    | with_reducible exact Kin.elemOf _
    | with_reducible exact Kin.part _ _ _
    | with_reducible exact Kin.askRoom _
    | with_reducible exact Kin.runtimePanic _
    | with_reducible exact Kin.boundsPanic _ _ _ _
    | with_reducible exact Kin.asIntOf _
    | with_reducible exact Kin.asBool _
    | with_reducible exact Kin.asString _
    | with_reducible exact Kin.asAgg _
    | with_reducible exact Kin.asAddr _
    | with_reducible exact Kin.asInt _
    | with_reducible exact Kin.numberAt _
    | with_reducible exact Kin.behindNumber _
    | with_reducible exact Kin.noView _
    | with_reducible exact Kin.asNumber _ _
    | with_reducible exact Kin.byteOf _
    | with_reducible exact Kin.twoPlaces _ _
    | with_reducible exact Kin.unsafeAdd2 _ _ _ _
    | with_reducible exact Kin.addrSub _ _ _
    | with_reducible exact Kin.addrCmp _ _ _
    | with_reducible exact Kin.addrMod _ _ _
    | with_reducible exact Kin.unsafeAdd _ _ _ _
    | with_reducible exact Kin.movedNumber _ _ _
    | with_reducible exact Kin.movedPointer _ _ _
    | with_reducible exact Kin.intArith _ _ _ _
    | with_reducible exact Kin.intDiv _ _ _ _
    | with_reducible exact Kin.intBits _ _ _ _
    | with_reducible exact Kin.intCmp _ _ _
    | with_reducible exact Kin.shift _ _ _ _ _
    | with_reducible refine Kin.bindP ?_
    | with_reducible refine Kin.bind ?_ (fun _ => ?_)
    | with_reducible refine Kin.ite _ ?_ ?_
    | split
    | dsimp only))
theorem Kin.floatCmp (op : BinOp) (k : FloatKind) (x y : Nat) : Kin P X (Op.floatCmp op k x y) := by
  unfold Op.floatCmp
  (repeat' (first
    | contradiction
    | (intro b v a v' h; cases b <;> (simp [Go.unsupported, Go.mark, Sem.run] at h; done))
    | (intro v a v' h; first | (cases h; done) | (simp [Go.stuck, Go.unsupported, Sem.run] at h; done))
    | with_reducible exact Kin.pure _
    | with_reducible exact Kin.stuck _
    | exact Kin.unsupported _ (fun g hg => by cases hg)
    | with_reducible exact Kin.goPanic _
    | with_reducible exact Kin.load _
    | with_reducible exact Kin.store _ _
    | with_reducible exact Kin.choose _
    | with_reducible exact Kin.noRoom
    | with_reducible exact Kin.frozen _
    | with_reducible exact Kin.newRow _ _
    | with_reducible exact Kin.typeInfo _
    | with_reducible exact Kin.underlying _
    | with_reducible exact Kin.zeroValue _
    | with_reducible exact Kin.sizeOf _
    | with_reducible exact Kin.isAgg _
    | with_reducible exact Kin.loadCells _ _
    | with_reducible exact Kin.storeCells _ _ _
    | with_reducible exact Kin.loadVar _ _
    | with_reducible exact Kin.storeVar _ _ _
    | with_reducible exact Kin.newVar _ _
    | with_reducible exact Kin.elemOf _
    | with_reducible exact Kin.part _ _ _
    | with_reducible exact Kin.askRoom _
    | with_reducible exact Kin.runtimePanic _
    | with_reducible exact Kin.boundsPanic _ _ _ _
    | with_reducible exact Kin.asIntOf _
    | with_reducible exact Kin.asBool _
    | with_reducible exact Kin.asString _
    | with_reducible exact Kin.asAgg _
    | with_reducible exact Kin.asAddr _
    | with_reducible exact Kin.asInt _
    | with_reducible exact Kin.numberAt _
    | with_reducible exact Kin.behindNumber _
    | with_reducible exact Kin.noView _
    | with_reducible exact Kin.asNumber _ _
    | with_reducible exact Kin.byteOf _
    | with_reducible exact Kin.twoPlaces _ _
    | with_reducible exact Kin.unsafeAdd2 _ _ _ _
    | with_reducible exact Kin.addrSub _ _ _
    | with_reducible exact Kin.addrCmp _ _ _
    | with_reducible exact Kin.addrMod _ _ _
    | with_reducible exact Kin.unsafeAdd _ _ _ _
    | with_reducible exact Kin.movedNumber _ _ _
    | with_reducible exact Kin.movedPointer _ _ _
    | with_reducible exact Kin.intArith _ _ _ _
    | with_reducible exact Kin.intDiv _ _ _ _
    | with_reducible exact Kin.intBits _ _ _ _
    | with_reducible exact Kin.intCmp _ _ _
    | with_reducible exact Kin.shift _ _ _ _ _
    | with_reducible exact Kin.floatArith _ _ _ _
    | with_reducible refine Kin.bindP ?_
    | with_reducible refine Kin.bind ?_ (fun _ => ?_)
    | with_reducible refine Kin.ite _ ?_ ?_
    | split
    | dsimp only))
theorem Kin.stringOp (op : BinOp) (x y : ByteArray) : Kin P X (Op.stringOp op x y) := by
  unfold Op.stringOp
  (repeat' (first
    | contradiction
    | (intro b v a v' h; cases b <;> (simp [Go.unsupported, Go.mark, Sem.run] at h; done))
    | (intro v a v' h; first | (cases h; done) | (simp [Go.stuck, Go.unsupported, Sem.run] at h; done))
    | with_reducible exact Kin.pure _
    | with_reducible exact Kin.stuck _
    | exact Kin.unsupported _ (fun g hg => by cases hg)
    | with_reducible exact Kin.goPanic _
    | with_reducible exact Kin.load _
    | with_reducible exact Kin.store _ _
    | with_reducible exact Kin.choose _
    | with_reducible exact Kin.noRoom
    | with_reducible exact Kin.frozen _
    | with_reducible exact Kin.newRow _ _
    | with_reducible exact Kin.typeInfo _
    | with_reducible exact Kin.underlying _
    | with_reducible exact Kin.zeroValue _
    | with_reducible exact Kin.sizeOf _
    | with_reducible exact Kin.isAgg _
    | with_reducible exact Kin.loadCells _ _
    | with_reducible exact Kin.storeCells _ _ _
    | with_reducible exact Kin.loadVar _ _
    | with_reducible exact Kin.storeVar _ _ _
    | with_reducible exact Kin.newVar _ _
    | with_reducible exact Kin.elemOf _
    | with_reducible exact Kin.part _ _ _
    | with_reducible exact Kin.askRoom _
    | with_reducible exact Kin.runtimePanic _
    | with_reducible exact Kin.boundsPanic _ _ _ _
    | with_reducible exact Kin.asIntOf _
    | with_reducible exact Kin.asBool _
    | with_reducible exact Kin.asString _
    | with_reducible exact Kin.asAgg _
    | with_reducible exact Kin.asAddr _
    | with_reducible exact Kin.asInt _
    | with_reducible exact Kin.numberAt _
    | with_reducible exact Kin.behindNumber _
    | with_reducible exact Kin.noView _
    | with_reducible exact Kin.asNumber _ _
    | with_reducible exact Kin.byteOf _
    | with_reducible exact Kin.twoPlaces _ _
    | with_reducible exact Kin.unsafeAdd2 _ _ _ _
    | with_reducible exact Kin.addrSub _ _ _
    | with_reducible exact Kin.addrCmp _ _ _
    | with_reducible exact Kin.addrMod _ _ _
    | with_reducible exact Kin.unsafeAdd _ _ _ _
    | with_reducible exact Kin.movedNumber _ _ _
    | with_reducible exact Kin.movedPointer _ _ _
    | with_reducible exact Kin.intArith _ _ _ _
    | with_reducible exact Kin.intDiv _ _ _ _
    | with_reducible exact Kin.intBits _ _ _ _
    | with_reducible exact Kin.intCmp _ _ _
    | with_reducible exact Kin.shift _ _ _ _ _
    | with_reducible exact Kin.floatArith _ _ _ _
    | with_reducible exact Kin.floatCmp _ _ _ _
    | with_reducible refine Kin.bindP ?_
    | with_reducible refine Kin.bind ?_ (fun _ => ?_)
    | with_reducible refine Kin.ite _ ?_ ?_
    | split
    | dsimp only))
theorem Kin.intToInt (k : IntKind) (n : Int) : Kin P X (Conv.intToInt k n) := by
  unfold Conv.intToInt
  (repeat' (first
    | contradiction
    | (intro b v a v' h; cases b <;> (simp [Go.unsupported, Go.mark, Sem.run] at h; done))
    | (intro v a v' h; first | (cases h; done) | (simp [Go.stuck, Go.unsupported, Sem.run] at h; done))
    | with_reducible exact Kin.pure _
    | with_reducible exact Kin.stuck _
    | exact Kin.unsupported _ (fun g hg => by cases hg)
    | with_reducible exact Kin.goPanic _
    | with_reducible exact Kin.load _
    | with_reducible exact Kin.store _ _
    | with_reducible exact Kin.choose _
    | with_reducible exact Kin.noRoom
    | with_reducible exact Kin.frozen _
    | with_reducible exact Kin.newRow _ _
    | with_reducible exact Kin.typeInfo _
    | with_reducible exact Kin.underlying _
    | with_reducible exact Kin.zeroValue _
    | with_reducible exact Kin.sizeOf _
    | with_reducible exact Kin.isAgg _
    | with_reducible exact Kin.loadCells _ _
    | with_reducible exact Kin.storeCells _ _ _
    | with_reducible exact Kin.loadVar _ _
    | with_reducible exact Kin.storeVar _ _ _
    | with_reducible exact Kin.newVar _ _
    | with_reducible exact Kin.elemOf _
    | with_reducible exact Kin.part _ _ _
    | with_reducible exact Kin.askRoom _
    | with_reducible exact Kin.runtimePanic _
    | with_reducible exact Kin.boundsPanic _ _ _ _
    | with_reducible exact Kin.asIntOf _
    | with_reducible exact Kin.asBool _
    | with_reducible exact Kin.asString _
    | with_reducible exact Kin.asAgg _
    | with_reducible exact Kin.asAddr _
    | with_reducible exact Kin.asInt _
    | with_reducible exact Kin.numberAt _
    | with_reducible exact Kin.behindNumber _
    | with_reducible exact Kin.noView _
    | with_reducible exact Kin.asNumber _ _
    | with_reducible exact Kin.byteOf _
    | with_reducible exact Kin.twoPlaces _ _
    | with_reducible exact Kin.unsafeAdd2 _ _ _ _
    | with_reducible exact Kin.addrSub _ _ _
    | with_reducible exact Kin.addrCmp _ _ _
    | with_reducible exact Kin.addrMod _ _ _
    | with_reducible exact Kin.unsafeAdd _ _ _ _
    | with_reducible exact Kin.movedNumber _ _ _
    | with_reducible exact Kin.movedPointer _ _ _
    | with_reducible exact Kin.intArith _ _ _ _
    | with_reducible exact Kin.intDiv _ _ _ _
    | with_reducible exact Kin.intBits _ _ _ _
    | with_reducible exact Kin.intCmp _ _ _
    | with_reducible exact Kin.shift _ _ _ _ _
    | with_reducible exact Kin.floatArith _ _ _ _
    | with_reducible exact Kin.floatCmp _ _ _ _
    | with_reducible exact Kin.stringOp _ _ _
    | with_reducible refine Kin.bindP ?_
    | with_reducible refine Kin.bind ?_ (fun _ => ?_)
    | with_reducible refine Kin.ite _ ?_ ?_
    | split
    | dsimp only))
theorem Kin.floatToInt (s : FloatKind) (b : Nat) (d : IntKind) : Kin P X (Conv.floatToInt s b d) := by
  unfold Conv.floatToInt
  (repeat' (first
    | contradiction
    | (intro b v a v' h; cases b <;> (simp [Go.unsupported, Go.mark, Sem.run] at h; done))
    | (intro v a v' h; first | (cases h; done) | (simp [Go.stuck, Go.unsupported, Sem.run] at h; done))
    | with_reducible exact Kin.pure _
    | with_reducible exact Kin.stuck _
    | exact Kin.unsupported _ (fun g hg => by cases hg)
    | with_reducible exact Kin.goPanic _
    | with_reducible exact Kin.load _
    | with_reducible exact Kin.store _ _
    | with_reducible exact Kin.choose _
    | with_reducible exact Kin.noRoom
    | with_reducible exact Kin.frozen _
    | with_reducible exact Kin.newRow _ _
    | with_reducible exact Kin.typeInfo _
    | with_reducible exact Kin.underlying _
    | with_reducible exact Kin.zeroValue _
    | with_reducible exact Kin.sizeOf _
    | with_reducible exact Kin.isAgg _
    | with_reducible exact Kin.loadCells _ _
    | with_reducible exact Kin.storeCells _ _ _
    | with_reducible exact Kin.loadVar _ _
    | with_reducible exact Kin.storeVar _ _ _
    | with_reducible exact Kin.newVar _ _
    | with_reducible exact Kin.elemOf _
    | with_reducible exact Kin.part _ _ _
    | with_reducible exact Kin.askRoom _
    | with_reducible exact Kin.runtimePanic _
    | with_reducible exact Kin.boundsPanic _ _ _ _
    | with_reducible exact Kin.asIntOf _
    | with_reducible exact Kin.asBool _
    | with_reducible exact Kin.asString _
    | with_reducible exact Kin.asAgg _
    | with_reducible exact Kin.asAddr _
    | with_reducible exact Kin.asInt _
    | with_reducible exact Kin.numberAt _
    | with_reducible exact Kin.behindNumber _
    | with_reducible exact Kin.noView _
    | with_reducible exact Kin.asNumber _ _
    | with_reducible exact Kin.byteOf _
    | with_reducible exact Kin.twoPlaces _ _
    | with_reducible exact Kin.unsafeAdd2 _ _ _ _
    | with_reducible exact Kin.addrSub _ _ _
    | with_reducible exact Kin.addrCmp _ _ _
    | with_reducible exact Kin.addrMod _ _ _
    | with_reducible exact Kin.unsafeAdd _ _ _ _
    | with_reducible exact Kin.movedNumber _ _ _
    | with_reducible exact Kin.movedPointer _ _ _
    | with_reducible exact Kin.intArith _ _ _ _
    | with_reducible exact Kin.intDiv _ _ _ _
    | with_reducible exact Kin.intBits _ _ _ _
    | with_reducible exact Kin.intCmp _ _ _
    | with_reducible exact Kin.shift _ _ _ _ _
    | with_reducible exact Kin.floatArith _ _ _ _
    | with_reducible exact Kin.floatCmp _ _ _ _
    | with_reducible exact Kin.stringOp _ _ _
    | with_reducible exact Kin.intToInt _ _
    | with_reducible refine Kin.bindP ?_
    | with_reducible refine Kin.bind ?_ (fun _ => ?_)
    | with_reducible refine Kin.ite _ ?_ ?_
    | split
    | dsimp only))
theorem Kin.floatToFloat (s : FloatKind) (b : Nat) (d : FloatKind) : Kin P X (Conv.floatToFloat s b d) := by
  unfold Conv.floatToFloat
  (repeat' (first
    | contradiction
    | (intro b v a v' h; cases b <;> (simp [Go.unsupported, Go.mark, Sem.run] at h; done))
    | (intro v a v' h; first | (cases h; done) | (simp [Go.stuck, Go.unsupported, Sem.run] at h; done))
    | with_reducible exact Kin.pure _
    | with_reducible exact Kin.stuck _
    | exact Kin.unsupported _ (fun g hg => by cases hg)
    | with_reducible exact Kin.goPanic _
    | with_reducible exact Kin.load _
    | with_reducible exact Kin.store _ _
    | with_reducible exact Kin.choose _
    | with_reducible exact Kin.noRoom
    | with_reducible exact Kin.frozen _
    | with_reducible exact Kin.newRow _ _
    | with_reducible exact Kin.typeInfo _
    | with_reducible exact Kin.underlying _
    | with_reducible exact Kin.zeroValue _
    | with_reducible exact Kin.sizeOf _
    | with_reducible exact Kin.isAgg _
    | with_reducible exact Kin.loadCells _ _
    | with_reducible exact Kin.storeCells _ _ _
    | with_reducible exact Kin.loadVar _ _
    | with_reducible exact Kin.storeVar _ _ _
    | with_reducible exact Kin.newVar _ _
    | with_reducible exact Kin.elemOf _
    | with_reducible exact Kin.part _ _ _
    | with_reducible exact Kin.askRoom _
    | with_reducible exact Kin.runtimePanic _
    | with_reducible exact Kin.boundsPanic _ _ _ _
    | with_reducible exact Kin.asIntOf _
    | with_reducible exact Kin.asBool _
    | with_reducible exact Kin.asString _
    | with_reducible exact Kin.asAgg _
    | with_reducible exact Kin.asAddr _
    | with_reducible exact Kin.asInt _
    | with_reducible exact Kin.numberAt _
    | with_reducible exact Kin.behindNumber _
    | with_reducible exact Kin.noView _
    | with_reducible exact Kin.asNumber _ _
    | with_reducible exact Kin.byteOf _
    | with_reducible exact Kin.twoPlaces _ _
    | with_reducible exact Kin.unsafeAdd2 _ _ _ _
    | with_reducible exact Kin.addrSub _ _ _
    | with_reducible exact Kin.addrCmp _ _ _
    | with_reducible exact Kin.addrMod _ _ _
    | with_reducible exact Kin.unsafeAdd _ _ _ _
    | with_reducible exact Kin.movedNumber _ _ _
    | with_reducible exact Kin.movedPointer _ _ _
    | with_reducible exact Kin.intArith _ _ _ _
    | with_reducible exact Kin.intDiv _ _ _ _
    | with_reducible exact Kin.intBits _ _ _ _
    | with_reducible exact Kin.intCmp _ _ _
    | with_reducible exact Kin.shift _ _ _ _ _
    | with_reducible exact Kin.floatArith _ _ _ _
    | with_reducible exact Kin.floatCmp _ _ _ _
    | with_reducible exact Kin.stringOp _ _ _
    | with_reducible exact Kin.intToInt _ _
    | with_reducible exact Kin.floatToInt _ _ _
    | with_reducible refine Kin.bindP ?_
    | with_reducible refine Kin.bind ?_ (fun _ => ?_)
    | with_reducible refine Kin.ite _ ?_ ?_
    | split
    | dsimp only))
theorem Kin.arithC (op : BinOp) (k : FloatKind) (x y : Nat) : Kin P X (Op.Complex.arith op k x y) := by
  unfold Op.Complex.arith
  (repeat' (first
    | contradiction
    | (intro b v a v' h; cases b <;> (simp [Go.unsupported, Go.mark, Sem.run] at h; done))
    | (intro v a v' h; first | (cases h; done) | (simp [Go.stuck, Go.unsupported, Sem.run] at h; done))
    | with_reducible exact Kin.pure _
    | with_reducible exact Kin.stuck _
    | exact Kin.unsupported _ (fun g hg => by cases hg)
    | with_reducible exact Kin.goPanic _
    | with_reducible exact Kin.load _
    | with_reducible exact Kin.store _ _
    | with_reducible exact Kin.choose _
    | with_reducible exact Kin.noRoom
    | with_reducible exact Kin.frozen _
    | with_reducible exact Kin.newRow _ _
    | with_reducible exact Kin.typeInfo _
    | with_reducible exact Kin.underlying _
    | with_reducible exact Kin.zeroValue _
    | with_reducible exact Kin.sizeOf _
    | with_reducible exact Kin.isAgg _
    | with_reducible exact Kin.loadCells _ _
    | with_reducible exact Kin.storeCells _ _ _
    | with_reducible exact Kin.loadVar _ _
    | with_reducible exact Kin.storeVar _ _ _
    | with_reducible exact Kin.newVar _ _
    | with_reducible exact Kin.elemOf _
    | with_reducible exact Kin.part _ _ _
    | with_reducible exact Kin.askRoom _
    | with_reducible exact Kin.runtimePanic _
    | with_reducible exact Kin.boundsPanic _ _ _ _
    | with_reducible exact Kin.asIntOf _
    | with_reducible exact Kin.asBool _
    | with_reducible exact Kin.asString _
    | with_reducible exact Kin.asAgg _
    | with_reducible exact Kin.asAddr _
    | with_reducible exact Kin.asInt _
    | with_reducible exact Kin.numberAt _
    | with_reducible exact Kin.behindNumber _
    | with_reducible exact Kin.noView _
    | with_reducible exact Kin.asNumber _ _
    | with_reducible exact Kin.byteOf _
    | with_reducible exact Kin.twoPlaces _ _
    | with_reducible exact Kin.unsafeAdd2 _ _ _ _
    | with_reducible exact Kin.addrSub _ _ _
    | with_reducible exact Kin.addrCmp _ _ _
    | with_reducible exact Kin.addrMod _ _ _
    | with_reducible exact Kin.unsafeAdd _ _ _ _
    | with_reducible exact Kin.movedNumber _ _ _
    | with_reducible exact Kin.movedPointer _ _ _
    | with_reducible exact Kin.intArith _ _ _ _
    | with_reducible exact Kin.intDiv _ _ _ _
    | with_reducible exact Kin.intBits _ _ _ _
    | with_reducible exact Kin.intCmp _ _ _
    | with_reducible exact Kin.shift _ _ _ _ _
    | with_reducible exact Kin.floatArith _ _ _ _
    | with_reducible exact Kin.floatCmp _ _ _ _
    | with_reducible exact Kin.stringOp _ _ _
    | with_reducible exact Kin.intToInt _ _
    | with_reducible exact Kin.floatToInt _ _ _
    | with_reducible exact Kin.floatToFloat _ _ _
    | with_reducible refine Kin.bindP ?_
    | with_reducible refine Kin.bind ?_ (fun _ => ?_)
    | with_reducible refine Kin.ite _ ?_ ?_
    | split
    | dsimp only))
theorem Kin.cmpC (op : BinOp) (k : FloatKind) (x y : Nat) : Kin P X (Op.Complex.cmp op k x y) := by
  unfold Op.Complex.cmp
  (repeat' (first
    | contradiction
    | (intro b v a v' h; cases b <;> (simp [Go.unsupported, Go.mark, Sem.run] at h; done))
    | (intro v a v' h; first | (cases h; done) | (simp [Go.stuck, Go.unsupported, Sem.run] at h; done))
    | with_reducible exact Kin.pure _
    | with_reducible exact Kin.stuck _
    | exact Kin.unsupported _ (fun g hg => by cases hg)
    | with_reducible exact Kin.goPanic _
    | with_reducible exact Kin.load _
    | with_reducible exact Kin.store _ _
    | with_reducible exact Kin.choose _
    | with_reducible exact Kin.noRoom
    | with_reducible exact Kin.frozen _
    | with_reducible exact Kin.newRow _ _
    | with_reducible exact Kin.typeInfo _
    | with_reducible exact Kin.underlying _
    | with_reducible exact Kin.zeroValue _
    | with_reducible exact Kin.sizeOf _
    | with_reducible exact Kin.isAgg _
    | with_reducible exact Kin.loadCells _ _
    | with_reducible exact Kin.storeCells _ _ _
    | with_reducible exact Kin.loadVar _ _
    | with_reducible exact Kin.storeVar _ _ _
    | with_reducible exact Kin.newVar _ _
    | with_reducible exact Kin.elemOf _
    | with_reducible exact Kin.part _ _ _
    | with_reducible exact Kin.askRoom _
    | with_reducible exact Kin.runtimePanic _
    | with_reducible exact Kin.boundsPanic _ _ _ _
    | with_reducible exact Kin.asIntOf _
    | with_reducible exact Kin.asBool _
    | with_reducible exact Kin.asString _
    | with_reducible exact Kin.asAgg _
    | with_reducible exact Kin.asAddr _
    | with_reducible exact Kin.asInt _
    | with_reducible exact Kin.numberAt _
    | with_reducible exact Kin.behindNumber _
    | with_reducible exact Kin.noView _
    | with_reducible exact Kin.asNumber _ _
    | with_reducible exact Kin.byteOf _
    | with_reducible exact Kin.twoPlaces _ _
    | with_reducible exact Kin.unsafeAdd2 _ _ _ _
    | with_reducible exact Kin.addrSub _ _ _
    | with_reducible exact Kin.addrCmp _ _ _
    | with_reducible exact Kin.addrMod _ _ _
    | with_reducible exact Kin.unsafeAdd _ _ _ _
    | with_reducible exact Kin.movedNumber _ _ _
    | with_reducible exact Kin.movedPointer _ _ _
    | with_reducible exact Kin.intArith _ _ _ _
    | with_reducible exact Kin.intDiv _ _ _ _
    | with_reducible exact Kin.intBits _ _ _ _
    | with_reducible exact Kin.intCmp _ _ _
    | with_reducible exact Kin.shift _ _ _ _ _
    | with_reducible exact Kin.floatArith _ _ _ _
    | with_reducible exact Kin.floatCmp _ _ _ _
    | with_reducible exact Kin.stringOp _ _ _
    | with_reducible exact Kin.intToInt _ _
    | with_reducible exact Kin.floatToInt _ _ _
    | with_reducible exact Kin.floatToFloat _ _ _
    | with_reducible exact Kin.arithC _ _ _ _
    | with_reducible refine Kin.bindP ?_
    | with_reducible refine Kin.bind ?_ (fun _ => ?_)
    | with_reducible refine Kin.ite _ ?_ ?_
    | split
    | dsimp only))
theorem Kin.convC (s : FloatKind) (x : Nat) (d : FloatKind) : Kin P X (Op.Complex.conv s x d) := by
  unfold Op.Complex.conv
  (repeat' (first
    | contradiction
    | (intro b v a v' h; cases b <;> (simp [Go.unsupported, Go.mark, Sem.run] at h; done))
    | (intro v a v' h; first | (cases h; done) | (simp [Go.stuck, Go.unsupported, Sem.run] at h; done))
    | with_reducible exact Kin.pure _
    | with_reducible exact Kin.stuck _
    | exact Kin.unsupported _ (fun g hg => by cases hg)
    | with_reducible exact Kin.goPanic _
    | with_reducible exact Kin.load _
    | with_reducible exact Kin.store _ _
    | with_reducible exact Kin.choose _
    | with_reducible exact Kin.noRoom
    | with_reducible exact Kin.frozen _
    | with_reducible exact Kin.newRow _ _
    | with_reducible exact Kin.typeInfo _
    | with_reducible exact Kin.underlying _
    | with_reducible exact Kin.zeroValue _
    | with_reducible exact Kin.sizeOf _
    | with_reducible exact Kin.isAgg _
    | with_reducible exact Kin.loadCells _ _
    | with_reducible exact Kin.storeCells _ _ _
    | with_reducible exact Kin.loadVar _ _
    | with_reducible exact Kin.storeVar _ _ _
    | with_reducible exact Kin.newVar _ _
    | with_reducible exact Kin.elemOf _
    | with_reducible exact Kin.part _ _ _
    | with_reducible exact Kin.askRoom _
    | with_reducible exact Kin.runtimePanic _
    | with_reducible exact Kin.boundsPanic _ _ _ _
    | with_reducible exact Kin.asIntOf _
    | with_reducible exact Kin.asBool _
    | with_reducible exact Kin.asString _
    | with_reducible exact Kin.asAgg _
    | with_reducible exact Kin.asAddr _
    | with_reducible exact Kin.asInt _
    | with_reducible exact Kin.numberAt _
    | with_reducible exact Kin.behindNumber _
    | with_reducible exact Kin.noView _
    | with_reducible exact Kin.asNumber _ _
    | with_reducible exact Kin.byteOf _
    | with_reducible exact Kin.twoPlaces _ _
    | with_reducible exact Kin.unsafeAdd2 _ _ _ _
    | with_reducible exact Kin.addrSub _ _ _
    | with_reducible exact Kin.addrCmp _ _ _
    | with_reducible exact Kin.addrMod _ _ _
    | with_reducible exact Kin.unsafeAdd _ _ _ _
    | with_reducible exact Kin.movedNumber _ _ _
    | with_reducible exact Kin.movedPointer _ _ _
    | with_reducible exact Kin.intArith _ _ _ _
    | with_reducible exact Kin.intDiv _ _ _ _
    | with_reducible exact Kin.intBits _ _ _ _
    | with_reducible exact Kin.intCmp _ _ _
    | with_reducible exact Kin.shift _ _ _ _ _
    | with_reducible exact Kin.floatArith _ _ _ _
    | with_reducible exact Kin.floatCmp _ _ _ _
    | with_reducible exact Kin.stringOp _ _ _
    | with_reducible exact Kin.intToInt _ _
    | with_reducible exact Kin.floatToInt _ _ _
    | with_reducible exact Kin.floatToFloat _ _ _
    | with_reducible exact Kin.arithC _ _ _ _
    | with_reducible exact Kin.cmpC _ _ _ _
    | with_reducible refine Kin.bindP ?_
    | with_reducible refine Kin.bind ?_ (fun _ => ?_)
    | with_reducible refine Kin.ite _ ?_ ?_
    | split
    | dsimp only))
theorem Kin.addC (x y : Nat) : Kin P X (Op.Complex.add x y) := Kin.arithC _ _ _ _
theorem Kin.subC (x y : Nat) : Kin P X (Op.Complex.sub x y) := Kin.arithC _ _ _ _
theorem Kin.mulC (x y : Nat) : Kin P X (Op.Complex.mul x y) := Kin.arithC _ _ _ _
theorem Kin.quoC (x y : Nat) : Kin P X (Op.Complex.quo x y) := Kin.arithC _ _ _ _
theorem Kin.product (a b c d : Nat) : Kin P X (Op.Complex.product a b c d) := by
  unfold Op.Complex.product
  (repeat' (first
    | contradiction
    | (intro b v a v' h; cases b <;> (simp [Go.unsupported, Go.mark, Sem.run] at h; done))
    | (intro v a v' h; first | (cases h; done) | (simp [Go.stuck, Go.unsupported, Sem.run] at h; done))
    | with_reducible exact Kin.pure _
    | with_reducible exact Kin.stuck _
    | exact Kin.unsupported _ (fun g hg => by cases hg)
    | with_reducible exact Kin.goPanic _
    | with_reducible exact Kin.load _
    | with_reducible exact Kin.store _ _
    | with_reducible exact Kin.choose _
    | with_reducible exact Kin.noRoom
    | with_reducible exact Kin.frozen _
    | with_reducible exact Kin.newRow _ _
    | with_reducible exact Kin.typeInfo _
    | with_reducible exact Kin.underlying _
    | with_reducible exact Kin.zeroValue _
    | with_reducible exact Kin.sizeOf _
    | with_reducible exact Kin.isAgg _
    | with_reducible exact Kin.loadCells _ _
    | with_reducible exact Kin.storeCells _ _ _
    | with_reducible exact Kin.loadVar _ _
    | with_reducible exact Kin.storeVar _ _ _
    | with_reducible exact Kin.newVar _ _
    | with_reducible exact Kin.elemOf _
    | with_reducible exact Kin.part _ _ _
    | with_reducible exact Kin.askRoom _
    | with_reducible exact Kin.runtimePanic _
    | with_reducible exact Kin.boundsPanic _ _ _ _
    | with_reducible exact Kin.asIntOf _
    | with_reducible exact Kin.asBool _
    | with_reducible exact Kin.asString _
    | with_reducible exact Kin.asAgg _
    | with_reducible exact Kin.asAddr _
    | with_reducible exact Kin.asInt _
    | with_reducible exact Kin.numberAt _
    | with_reducible exact Kin.behindNumber _
    | with_reducible exact Kin.noView _
    | with_reducible exact Kin.asNumber _ _
    | with_reducible exact Kin.byteOf _
    | with_reducible exact Kin.twoPlaces _ _
    | with_reducible exact Kin.unsafeAdd2 _ _ _ _
    | with_reducible exact Kin.addrSub _ _ _
    | with_reducible exact Kin.addrCmp _ _ _
    | with_reducible exact Kin.addrMod _ _ _
    | with_reducible exact Kin.unsafeAdd _ _ _ _
    | with_reducible exact Kin.movedNumber _ _ _
    | with_reducible exact Kin.movedPointer _ _ _
    | with_reducible exact Kin.intArith _ _ _ _
    | with_reducible exact Kin.intDiv _ _ _ _
    | with_reducible exact Kin.intBits _ _ _ _
    | with_reducible exact Kin.intCmp _ _ _
    | with_reducible exact Kin.shift _ _ _ _ _
    | with_reducible exact Kin.floatArith _ _ _ _
    | with_reducible exact Kin.floatCmp _ _ _ _
    | with_reducible exact Kin.stringOp _ _ _
    | with_reducible exact Kin.intToInt _ _
    | with_reducible exact Kin.floatToInt _ _ _
    | with_reducible exact Kin.floatToFloat _ _ _
    | with_reducible exact Kin.arithC _ _ _ _
    | with_reducible exact Kin.cmpC _ _ _ _
    | with_reducible exact Kin.convC _ _ _
    | with_reducible exact Kin.addC _ _
    | with_reducible exact Kin.subC _ _
    | with_reducible exact Kin.mulC _ _
    | with_reducible exact Kin.quoC _ _
    | with_reducible refine Kin.bindP ?_
    | with_reducible refine Kin.bind ?_ (fun _ => ?_)
    | with_reducible refine Kin.ite _ ?_ ?_
    | split
    | dsimp only))
theorem Kin.corrected (s a b c d : Nat) : Kin P X (Op.Complex.corrected s a b c d) := by
  unfold Op.Complex.corrected
  (repeat' (first
    | contradiction
    | (intro b v a v' h; cases b <;> (simp [Go.unsupported, Go.mark, Sem.run] at h; done))
    | (intro v a v' h; first | (cases h; done) | (simp [Go.stuck, Go.unsupported, Sem.run] at h; done))
    | with_reducible exact Kin.pure _
    | with_reducible exact Kin.stuck _
    | exact Kin.unsupported _ (fun g hg => by cases hg)
    | with_reducible exact Kin.goPanic _
    | with_reducible exact Kin.load _
    | with_reducible exact Kin.store _ _
    | with_reducible exact Kin.choose _
    | with_reducible exact Kin.noRoom
    | with_reducible exact Kin.frozen _
    | with_reducible exact Kin.newRow _ _
    | with_reducible exact Kin.typeInfo _
    | with_reducible exact Kin.underlying _
    | with_reducible exact Kin.zeroValue _
    | with_reducible exact Kin.sizeOf _
    | with_reducible exact Kin.isAgg _
    | with_reducible exact Kin.loadCells _ _
    | with_reducible exact Kin.storeCells _ _ _
    | with_reducible exact Kin.loadVar _ _
    | with_reducible exact Kin.storeVar _ _ _
    | with_reducible exact Kin.newVar _ _
    | with_reducible exact Kin.elemOf _
    | with_reducible exact Kin.part _ _ _
    | with_reducible exact Kin.askRoom _
    | with_reducible exact Kin.runtimePanic _
    | with_reducible exact Kin.boundsPanic _ _ _ _
    | with_reducible exact Kin.asIntOf _
    | with_reducible exact Kin.asBool _
    | with_reducible exact Kin.asString _
    | with_reducible exact Kin.asAgg _
    | with_reducible exact Kin.asAddr _
    | with_reducible exact Kin.asInt _
    | with_reducible exact Kin.numberAt _
    | with_reducible exact Kin.behindNumber _
    | with_reducible exact Kin.noView _
    | with_reducible exact Kin.asNumber _ _
    | with_reducible exact Kin.byteOf _
    | with_reducible exact Kin.twoPlaces _ _
    | with_reducible exact Kin.unsafeAdd2 _ _ _ _
    | with_reducible exact Kin.addrSub _ _ _
    | with_reducible exact Kin.addrCmp _ _ _
    | with_reducible exact Kin.addrMod _ _ _
    | with_reducible exact Kin.unsafeAdd _ _ _ _
    | with_reducible exact Kin.movedNumber _ _ _
    | with_reducible exact Kin.movedPointer _ _ _
    | with_reducible exact Kin.intArith _ _ _ _
    | with_reducible exact Kin.intDiv _ _ _ _
    | with_reducible exact Kin.intBits _ _ _ _
    | with_reducible exact Kin.intCmp _ _ _
    | with_reducible exact Kin.shift _ _ _ _ _
    | with_reducible exact Kin.floatArith _ _ _ _
    | with_reducible exact Kin.floatCmp _ _ _ _
    | with_reducible exact Kin.stringOp _ _ _
    | with_reducible exact Kin.intToInt _ _
    | with_reducible exact Kin.floatToInt _ _ _
    | with_reducible exact Kin.floatToFloat _ _ _
    | with_reducible exact Kin.arithC _ _ _ _
    | with_reducible exact Kin.cmpC _ _ _ _
    | with_reducible exact Kin.convC _ _ _
    | with_reducible exact Kin.addC _ _
    | with_reducible exact Kin.subC _ _
    | with_reducible exact Kin.mulC _ _
    | with_reducible exact Kin.quoC _ _
    | with_reducible refine Kin.bindP ?_
    | with_reducible refine Kin.bind ?_ (fun _ => ?_)
    | with_reducible refine Kin.ite _ ?_ ?_
    | split
    | dsimp only))
theorem Kin.quotient (a b c d : Nat) : Kin P X (Op.Complex.quotient a b c d) := by
  unfold Op.Complex.quotient
  (repeat' (first
    | contradiction
    | (intro b v a v' h; cases b <;> (simp [Go.unsupported, Go.mark, Sem.run] at h; done))
    | (intro v a v' h; first | (cases h; done) | (simp [Go.stuck, Go.unsupported, Sem.run] at h; done))
    | with_reducible exact Kin.pure _
    | with_reducible exact Kin.stuck _
    | exact Kin.unsupported _ (fun g hg => by cases hg)
    | with_reducible exact Kin.goPanic _
    | with_reducible exact Kin.load _
    | with_reducible exact Kin.store _ _
    | with_reducible exact Kin.choose _
    | with_reducible exact Kin.noRoom
    | with_reducible exact Kin.frozen _
    | with_reducible exact Kin.newRow _ _
    | with_reducible exact Kin.typeInfo _
    | with_reducible exact Kin.underlying _
    | with_reducible exact Kin.zeroValue _
    | with_reducible exact Kin.sizeOf _
    | with_reducible exact Kin.isAgg _
    | with_reducible exact Kin.loadCells _ _
    | with_reducible exact Kin.storeCells _ _ _
    | with_reducible exact Kin.loadVar _ _
    | with_reducible exact Kin.storeVar _ _ _
    | with_reducible exact Kin.newVar _ _
    | with_reducible exact Kin.elemOf _
    | with_reducible exact Kin.part _ _ _
    | with_reducible exact Kin.askRoom _
    | with_reducible exact Kin.runtimePanic _
    | with_reducible exact Kin.boundsPanic _ _ _ _
    | with_reducible exact Kin.asIntOf _
    | with_reducible exact Kin.asBool _
    | with_reducible exact Kin.asString _
    | with_reducible exact Kin.asAgg _
    | with_reducible exact Kin.asAddr _
    | with_reducible exact Kin.asInt _
    | with_reducible exact Kin.numberAt _
    | with_reducible exact Kin.behindNumber _
    | with_reducible exact Kin.noView _
    | with_reducible exact Kin.asNumber _ _
    | with_reducible exact Kin.byteOf _
    | with_reducible exact Kin.twoPlaces _ _
    | with_reducible exact Kin.unsafeAdd2 _ _ _ _
    | with_reducible exact Kin.addrSub _ _ _
    | with_reducible exact Kin.addrCmp _ _ _
    | with_reducible exact Kin.addrMod _ _ _
    | with_reducible exact Kin.unsafeAdd _ _ _ _
    | with_reducible exact Kin.movedNumber _ _ _
    | with_reducible exact Kin.movedPointer _ _ _
    | with_reducible exact Kin.intArith _ _ _ _
    | with_reducible exact Kin.intDiv _ _ _ _
    | with_reducible exact Kin.intBits _ _ _ _
    | with_reducible exact Kin.intCmp _ _ _
    | with_reducible exact Kin.shift _ _ _ _ _
    | with_reducible exact Kin.floatArith _ _ _ _
    | with_reducible exact Kin.floatCmp _ _ _ _
    | with_reducible exact Kin.stringOp _ _ _
    | with_reducible exact Kin.intToInt _ _
    | with_reducible exact Kin.floatToInt _ _ _
    | with_reducible exact Kin.floatToFloat _ _ _
    | with_reducible exact Kin.arithC _ _ _ _
    | with_reducible exact Kin.cmpC _ _ _ _
    | with_reducible exact Kin.convC _ _ _
    | with_reducible exact Kin.addC _ _
    | with_reducible exact Kin.subC _ _
    | with_reducible exact Kin.mulC _ _
    | with_reducible exact Kin.quoC _ _
    | with_reducible exact Kin.product _ _ _ _
    | with_reducible exact Kin.corrected _ _ _ _ _
    | with_reducible refine Kin.bindP ?_
    | with_reducible refine Kin.bind ?_ (fun _ => ?_)
    | with_reducible refine Kin.ite _ ?_ ?_
    | split
    | dsimp only))
theorem Kin.complexOp (op : BinOp) (k : FloatKind) (a b c d : Nat) : Kin P X (Op.complexOp op k a b c d) := by
  unfold Op.complexOp
  (repeat' (first
    | contradiction
    | (intro b v a v' h; cases b <;> (simp [Go.unsupported, Go.mark, Sem.run] at h; done))
    | (intro v a v' h; first | (cases h; done) | (simp [Go.stuck, Go.unsupported, Sem.run] at h; done))
    | with_reducible exact Kin.pure _
    | with_reducible exact Kin.stuck _
    | exact Kin.unsupported _ (fun g hg => by cases hg)
    | with_reducible exact Kin.goPanic _
    | with_reducible exact Kin.load _
    | with_reducible exact Kin.store _ _
    | with_reducible exact Kin.choose _
    | with_reducible exact Kin.noRoom
    | with_reducible exact Kin.frozen _
    | with_reducible exact Kin.newRow _ _
    | with_reducible exact Kin.typeInfo _
    | with_reducible exact Kin.underlying _
    | with_reducible exact Kin.zeroValue _
    | with_reducible exact Kin.sizeOf _
    | with_reducible exact Kin.isAgg _
    | with_reducible exact Kin.loadCells _ _
    | with_reducible exact Kin.storeCells _ _ _
    | with_reducible exact Kin.loadVar _ _
    | with_reducible exact Kin.storeVar _ _ _
    | with_reducible exact Kin.newVar _ _
    | with_reducible exact Kin.elemOf _
    | with_reducible exact Kin.part _ _ _
    | with_reducible exact Kin.askRoom _
    | with_reducible exact Kin.runtimePanic _
    | with_reducible exact Kin.boundsPanic _ _ _ _
    | with_reducible exact Kin.asIntOf _
    | with_reducible exact Kin.asBool _
    | with_reducible exact Kin.asString _
    | with_reducible exact Kin.asAgg _
    | with_reducible exact Kin.asAddr _
    | with_reducible exact Kin.asInt _
    | with_reducible exact Kin.numberAt _
    | with_reducible exact Kin.behindNumber _
    | with_reducible exact Kin.noView _
    | with_reducible exact Kin.asNumber _ _
    | with_reducible exact Kin.byteOf _
    | with_reducible exact Kin.twoPlaces _ _
    | with_reducible exact Kin.unsafeAdd2 _ _ _ _
    | with_reducible exact Kin.addrSub _ _ _
    | with_reducible exact Kin.addrCmp _ _ _
    | with_reducible exact Kin.addrMod _ _ _
    | with_reducible exact Kin.unsafeAdd _ _ _ _
    | with_reducible exact Kin.movedNumber _ _ _
    | with_reducible exact Kin.movedPointer _ _ _
    | with_reducible exact Kin.intArith _ _ _ _
    | with_reducible exact Kin.intDiv _ _ _ _
    | with_reducible exact Kin.intBits _ _ _ _
    | with_reducible exact Kin.intCmp _ _ _
    | with_reducible exact Kin.shift _ _ _ _ _
    | with_reducible exact Kin.floatArith _ _ _ _
    | with_reducible exact Kin.floatCmp _ _ _ _
    | with_reducible exact Kin.stringOp _ _ _
    | with_reducible exact Kin.intToInt _ _
    | with_reducible exact Kin.floatToInt _ _ _
    | with_reducible exact Kin.floatToFloat _ _ _
    | with_reducible exact Kin.arithC _ _ _ _
    | with_reducible exact Kin.cmpC _ _ _ _
    | with_reducible exact Kin.convC _ _ _
    | with_reducible exact Kin.addC _ _
    | with_reducible exact Kin.subC _ _
    | with_reducible exact Kin.mulC _ _
    | with_reducible exact Kin.quoC _ _
    | with_reducible exact Kin.product _ _ _ _
    | with_reducible exact Kin.corrected _ _ _ _ _
    | with_reducible exact Kin.quotient _ _ _ _
    | with_reducible refine Kin.bindP ?_
    | with_reducible refine Kin.bind ?_ (fun _ => ?_)
    | with_reducible refine Kin.ite _ ?_ ?_
    | split
    | dsimp only))
theorem Kin.unary (op : UnOp) (x : Value) : Kin P X (Op.unary op x) := by
  unfold Op.unary
  (repeat' (first
    | contradiction
    | (intro b v a v' h; cases b <;> (simp [Go.unsupported, Go.mark, Sem.run] at h; done))
    | (intro v a v' h; first | (cases h; done) | (simp [Go.stuck, Go.unsupported, Sem.run] at h; done))
    | with_reducible exact Kin.pure _
    | with_reducible exact Kin.stuck _
    | exact Kin.unsupported _ (fun g hg => by cases hg)
    | with_reducible exact Kin.goPanic _
    | with_reducible exact Kin.load _
    | with_reducible exact Kin.store _ _
    | with_reducible exact Kin.choose _
    | with_reducible exact Kin.noRoom
    | with_reducible exact Kin.frozen _
    | with_reducible exact Kin.newRow _ _
    | with_reducible exact Kin.typeInfo _
    | with_reducible exact Kin.underlying _
    | with_reducible exact Kin.zeroValue _
    | with_reducible exact Kin.sizeOf _
    | with_reducible exact Kin.isAgg _
    | with_reducible exact Kin.loadCells _ _
    | with_reducible exact Kin.storeCells _ _ _
    | with_reducible exact Kin.loadVar _ _
    | with_reducible exact Kin.storeVar _ _ _
    | with_reducible exact Kin.newVar _ _
    | with_reducible exact Kin.elemOf _
    | with_reducible exact Kin.part _ _ _
    | with_reducible exact Kin.askRoom _
    | with_reducible exact Kin.runtimePanic _
    | with_reducible exact Kin.boundsPanic _ _ _ _
    | with_reducible exact Kin.asIntOf _
    | with_reducible exact Kin.asBool _
    | with_reducible exact Kin.asString _
    | with_reducible exact Kin.asAgg _
    | with_reducible exact Kin.asAddr _
    | with_reducible exact Kin.asInt _
    | with_reducible exact Kin.numberAt _
    | with_reducible exact Kin.behindNumber _
    | with_reducible exact Kin.noView _
    | with_reducible exact Kin.asNumber _ _
    | with_reducible exact Kin.byteOf _
    | with_reducible exact Kin.twoPlaces _ _
    | with_reducible exact Kin.unsafeAdd2 _ _ _ _
    | with_reducible exact Kin.addrSub _ _ _
    | with_reducible exact Kin.addrCmp _ _ _
    | with_reducible exact Kin.addrMod _ _ _
    | with_reducible exact Kin.unsafeAdd _ _ _ _
    | with_reducible exact Kin.movedNumber _ _ _
    | with_reducible exact Kin.movedPointer _ _ _
    | with_reducible exact Kin.intArith _ _ _ _
    | with_reducible exact Kin.intDiv _ _ _ _
    | with_reducible exact Kin.intBits _ _ _ _
    | with_reducible exact Kin.intCmp _ _ _
    | with_reducible exact Kin.shift _ _ _ _ _
    | with_reducible exact Kin.floatArith _ _ _ _
    | with_reducible exact Kin.floatCmp _ _ _ _
    | with_reducible exact Kin.stringOp _ _ _
    | with_reducible exact Kin.intToInt _ _
    | with_reducible exact Kin.floatToInt _ _ _
    | with_reducible exact Kin.floatToFloat _ _ _
    | with_reducible exact Kin.arithC _ _ _ _
    | with_reducible exact Kin.cmpC _ _ _ _
    | with_reducible exact Kin.convC _ _ _
    | with_reducible exact Kin.addC _ _
    | with_reducible exact Kin.subC _ _
    | with_reducible exact Kin.mulC _ _
    | with_reducible exact Kin.quoC _ _
    | with_reducible exact Kin.product _ _ _ _
    | with_reducible exact Kin.corrected _ _ _ _ _
    | with_reducible exact Kin.quotient _ _ _ _
    | with_reducible exact Kin.complexOp _ _ _ _ _ _
    | with_reducible refine Kin.bindP ?_
    | with_reducible refine Kin.bind ?_ (fun _ => ?_)
    | with_reducible refine Kin.ite _ ?_ ?_
    | split
    | dsimp only))
theorem Kin.extract (t : Value) (i : Nat) : Kin P X (Instr.extract t i) := by
  unfold Instr.extract
  (repeat' (first
    | contradiction
    | (intro b v a v' h; cases b <;> (simp [Go.unsupported, Go.mark, Sem.run] at h; done))
    | (intro v a v' h; first | (cases h; done) | (simp [Go.stuck, Go.unsupported, Sem.run] at h; done))
    | with_reducible exact Kin.pure _
    | with_reducible exact Kin.stuck _
    | exact Kin.unsupported _ (fun g hg => by cases hg)
    | with_reducible exact Kin.goPanic _
    | with_reducible exact Kin.load _
    | with_reducible exact Kin.store _ _
    | with_reducible exact Kin.choose _
    | with_reducible exact Kin.noRoom
    | with_reducible exact Kin.frozen _
    | with_reducible exact Kin.newRow _ _
    | with_reducible exact Kin.typeInfo _
    | with_reducible exact Kin.underlying _
    | with_reducible exact Kin.zeroValue _
    | with_reducible exact Kin.sizeOf _
    | with_reducible exact Kin.isAgg _
    | with_reducible exact Kin.loadCells _ _
    | with_reducible exact Kin.storeCells _ _ _
    | with_reducible exact Kin.loadVar _ _
    | with_reducible exact Kin.storeVar _ _ _
    | with_reducible exact Kin.newVar _ _
    | with_reducible exact Kin.elemOf _
    | with_reducible exact Kin.part _ _ _
    | with_reducible exact Kin.askRoom _
    | with_reducible exact Kin.runtimePanic _
    | with_reducible exact Kin.boundsPanic _ _ _ _
    | with_reducible exact Kin.asIntOf _
    | with_reducible exact Kin.asBool _
    | with_reducible exact Kin.asString _
    | with_reducible exact Kin.asAgg _
    | with_reducible exact Kin.asAddr _
    | with_reducible exact Kin.asInt _
    | with_reducible exact Kin.numberAt _
    | with_reducible exact Kin.behindNumber _
    | with_reducible exact Kin.noView _
    | with_reducible exact Kin.asNumber _ _
    | with_reducible exact Kin.byteOf _
    | with_reducible exact Kin.twoPlaces _ _
    | with_reducible exact Kin.unsafeAdd2 _ _ _ _
    | with_reducible exact Kin.addrSub _ _ _
    | with_reducible exact Kin.addrCmp _ _ _
    | with_reducible exact Kin.addrMod _ _ _
    | with_reducible exact Kin.unsafeAdd _ _ _ _
    | with_reducible exact Kin.movedNumber _ _ _
    | with_reducible exact Kin.movedPointer _ _ _
    | with_reducible exact Kin.intArith _ _ _ _
    | with_reducible exact Kin.intDiv _ _ _ _
    | with_reducible exact Kin.intBits _ _ _ _
    | with_reducible exact Kin.intCmp _ _ _
    | with_reducible exact Kin.shift _ _ _ _ _
    | with_reducible exact Kin.floatArith _ _ _ _
    | with_reducible exact Kin.floatCmp _ _ _ _
    | with_reducible exact Kin.stringOp _ _ _
    | with_reducible exact Kin.intToInt _ _
    | with_reducible exact Kin.floatToInt _ _ _
    | with_reducible exact Kin.floatToFloat _ _ _
    | with_reducible exact Kin.arithC _ _ _ _
    | with_reducible exact Kin.cmpC _ _ _ _
    | with_reducible exact Kin.convC _ _ _
    | with_reducible exact Kin.addC _ _
    | with_reducible exact Kin.subC _ _
    | with_reducible exact Kin.mulC _ _
    | with_reducible exact Kin.quoC _ _
    | with_reducible exact Kin.product _ _ _ _
    | with_reducible exact Kin.corrected _ _ _ _ _
    | with_reducible exact Kin.quotient _ _ _ _
    | with_reducible exact Kin.complexOp _ _ _ _ _ _
    | with_reducible refine Kin.bindP ?_
    | with_reducible refine Kin.bind ?_ (fun _ => ?_)
    | with_reducible refine Kin.ite _ ?_ ?_
    | split
    | dsimp only))
theorem Kin.makeInterface (t : TypeId) (x : Value) : Kin P X (Instr.makeInterface t x) := by
  unfold Instr.makeInterface
  (repeat' (first
    | contradiction
    | (intro b v a v' h; cases b <;> (simp [Go.unsupported, Go.mark, Sem.run] at h; done))
    | (intro v a v' h; first | (cases h; done) | (simp [Go.stuck, Go.unsupported, Sem.run] at h; done))
    | with_reducible exact Kin.pure _
    | with_reducible exact Kin.stuck _
    | exact Kin.unsupported _ (fun g hg => by cases hg)
    | with_reducible exact Kin.goPanic _
    | with_reducible exact Kin.load _
    | with_reducible exact Kin.store _ _
    | with_reducible exact Kin.choose _
    | with_reducible exact Kin.noRoom
    | with_reducible exact Kin.frozen _
    | with_reducible exact Kin.newRow _ _
    | with_reducible exact Kin.typeInfo _
    | with_reducible exact Kin.underlying _
    | with_reducible exact Kin.zeroValue _
    | with_reducible exact Kin.sizeOf _
    | with_reducible exact Kin.isAgg _
    | with_reducible exact Kin.loadCells _ _
    | with_reducible exact Kin.storeCells _ _ _
    | with_reducible exact Kin.loadVar _ _
    | with_reducible exact Kin.storeVar _ _ _
    | with_reducible exact Kin.newVar _ _
    | with_reducible exact Kin.elemOf _
    | with_reducible exact Kin.part _ _ _
    | with_reducible exact Kin.askRoom _
    | with_reducible exact Kin.runtimePanic _
    | with_reducible exact Kin.boundsPanic _ _ _ _
    | with_reducible exact Kin.asIntOf _
    | with_reducible exact Kin.asBool _
    | with_reducible exact Kin.asString _
    | with_reducible exact Kin.asAgg _
    | with_reducible exact Kin.asAddr _
    | with_reducible exact Kin.asInt _
    | with_reducible exact Kin.numberAt _
    | with_reducible exact Kin.behindNumber _
    | with_reducible exact Kin.noView _
    | with_reducible exact Kin.asNumber _ _
    | with_reducible exact Kin.byteOf _
    | with_reducible exact Kin.twoPlaces _ _
    | with_reducible exact Kin.unsafeAdd2 _ _ _ _
    | with_reducible exact Kin.addrSub _ _ _
    | with_reducible exact Kin.addrCmp _ _ _
    | with_reducible exact Kin.addrMod _ _ _
    | with_reducible exact Kin.unsafeAdd _ _ _ _
    | with_reducible exact Kin.movedNumber _ _ _
    | with_reducible exact Kin.movedPointer _ _ _
    | with_reducible exact Kin.intArith _ _ _ _
    | with_reducible exact Kin.intDiv _ _ _ _
    | with_reducible exact Kin.intBits _ _ _ _
    | with_reducible exact Kin.intCmp _ _ _
    | with_reducible exact Kin.shift _ _ _ _ _
    | with_reducible exact Kin.floatArith _ _ _ _
    | with_reducible exact Kin.floatCmp _ _ _ _
    | with_reducible exact Kin.stringOp _ _ _
    | with_reducible exact Kin.intToInt _ _
    | with_reducible exact Kin.floatToInt _ _ _
    | with_reducible exact Kin.floatToFloat _ _ _
    | with_reducible exact Kin.arithC _ _ _ _
    | with_reducible exact Kin.cmpC _ _ _ _
    | with_reducible exact Kin.convC _ _ _
    | with_reducible exact Kin.addC _ _
    | with_reducible exact Kin.subC _ _
    | with_reducible exact Kin.mulC _ _
    | with_reducible exact Kin.quoC _ _
    | with_reducible exact Kin.product _ _ _ _
    | with_reducible exact Kin.corrected _ _ _ _ _
    | with_reducible exact Kin.quotient _ _ _ _
    | with_reducible exact Kin.complexOp _ _ _ _ _ _
    | with_reducible refine Kin.bindP ?_
    | with_reducible refine Kin.bind ?_ (fun _ => ?_)
    | with_reducible refine Kin.ite _ ?_ ?_
    | split
    | dsimp only))
theorem Kin.alloc (e : TypeId) (b : Bool) (o : Value) : Kin P X (Instr.alloc e b o) := by
  unfold Instr.alloc
  (repeat' (first
    | contradiction
    | (intro b v a v' h; cases b <;> (simp [Go.unsupported, Go.mark, Sem.run] at h; done))
    | (intro v a v' h; first | (cases h; done) | (simp [Go.stuck, Go.unsupported, Sem.run] at h; done))
    | with_reducible exact Kin.pure _
    | with_reducible exact Kin.stuck _
    | exact Kin.unsupported _ (fun g hg => by cases hg)
    | with_reducible exact Kin.goPanic _
    | with_reducible exact Kin.load _
    | with_reducible exact Kin.store _ _
    | with_reducible exact Kin.choose _
    | with_reducible exact Kin.noRoom
    | with_reducible exact Kin.frozen _
    | with_reducible exact Kin.newRow _ _
    | with_reducible exact Kin.typeInfo _
    | with_reducible exact Kin.underlying _
    | with_reducible exact Kin.zeroValue _
    | with_reducible exact Kin.sizeOf _
    | with_reducible exact Kin.isAgg _
    | with_reducible exact Kin.loadCells _ _
    | with_reducible exact Kin.storeCells _ _ _
    | with_reducible exact Kin.loadVar _ _
    | with_reducible exact Kin.storeVar _ _ _
    | with_reducible exact Kin.newVar _ _
    | with_reducible exact Kin.elemOf _
    | with_reducible exact Kin.part _ _ _
    | with_reducible exact Kin.askRoom _
    | with_reducible exact Kin.runtimePanic _
    | with_reducible exact Kin.boundsPanic _ _ _ _
    | with_reducible exact Kin.asIntOf _
    | with_reducible exact Kin.asBool _
    | with_reducible exact Kin.asString _
    | with_reducible exact Kin.asAgg _
    | with_reducible exact Kin.asAddr _
    | with_reducible exact Kin.asInt _
    | with_reducible exact Kin.numberAt _
    | with_reducible exact Kin.behindNumber _
    | with_reducible exact Kin.noView _
    | with_reducible exact Kin.asNumber _ _
    | with_reducible exact Kin.byteOf _
    | with_reducible exact Kin.twoPlaces _ _
    | with_reducible exact Kin.unsafeAdd2 _ _ _ _
    | with_reducible exact Kin.addrSub _ _ _
    | with_reducible exact Kin.addrCmp _ _ _
    | with_reducible exact Kin.addrMod _ _ _
    | with_reducible exact Kin.unsafeAdd _ _ _ _
    | with_reducible exact Kin.movedNumber _ _ _
    | with_reducible exact Kin.movedPointer _ _ _
    | with_reducible exact Kin.intArith _ _ _ _
    | with_reducible exact Kin.intDiv _ _ _ _
    | with_reducible exact Kin.intBits _ _ _ _
    | with_reducible exact Kin.intCmp _ _ _
    | with_reducible exact Kin.shift _ _ _ _ _
    | with_reducible exact Kin.floatArith _ _ _ _
    | with_reducible exact Kin.floatCmp _ _ _ _
    | with_reducible exact Kin.stringOp _ _ _
    | with_reducible exact Kin.intToInt _ _
    | with_reducible exact Kin.floatToInt _ _ _
    | with_reducible exact Kin.floatToFloat _ _ _
    | with_reducible exact Kin.arithC _ _ _ _
    | with_reducible exact Kin.cmpC _ _ _ _
    | with_reducible exact Kin.convC _ _ _
    | with_reducible exact Kin.addC _ _
    | with_reducible exact Kin.subC _ _
    | with_reducible exact Kin.mulC _ _
    | with_reducible exact Kin.quoC _ _
    | with_reducible exact Kin.product _ _ _ _
    | with_reducible exact Kin.corrected _ _ _ _ _
    | with_reducible exact Kin.quotient _ _ _ _
    | with_reducible exact Kin.complexOp _ _ _ _ _ _
    | with_reducible refine Kin.bindP ?_
    | with_reducible refine Kin.bind ?_ (fun _ => ?_)
    | with_reducible refine Kin.ite _ ?_ ?_
    | split
    | dsimp only))
theorem Kin.box (e : TypeId) (o : Value) : Kin P X (Instr.box e o) := by
  unfold Instr.box
  (repeat' (first
    | contradiction
    | (intro b v a v' h; cases b <;> (simp [Go.unsupported, Go.mark, Sem.run] at h; done))
    | (intro v a v' h; first | (cases h; done) | (simp [Go.stuck, Go.unsupported, Sem.run] at h; done))
    | with_reducible exact Kin.pure _
    | with_reducible exact Kin.stuck _
    | exact Kin.unsupported _ (fun g hg => by cases hg)
    | with_reducible exact Kin.goPanic _
    | with_reducible exact Kin.load _
    | with_reducible exact Kin.store _ _
    | with_reducible exact Kin.choose _
    | with_reducible exact Kin.noRoom
    | with_reducible exact Kin.frozen _
    | with_reducible exact Kin.newRow _ _
    | with_reducible exact Kin.typeInfo _
    | with_reducible exact Kin.underlying _
    | with_reducible exact Kin.zeroValue _
    | with_reducible exact Kin.sizeOf _
    | with_reducible exact Kin.isAgg _
    | with_reducible exact Kin.loadCells _ _
    | with_reducible exact Kin.storeCells _ _ _
    | with_reducible exact Kin.loadVar _ _
    | with_reducible exact Kin.storeVar _ _ _
    | with_reducible exact Kin.newVar _ _
    | with_reducible exact Kin.elemOf _
    | with_reducible exact Kin.part _ _ _
    | with_reducible exact Kin.askRoom _
    | with_reducible exact Kin.runtimePanic _
    | with_reducible exact Kin.boundsPanic _ _ _ _
    | with_reducible exact Kin.asIntOf _
    | with_reducible exact Kin.asBool _
    | with_reducible exact Kin.asString _
    | with_reducible exact Kin.asAgg _
    | with_reducible exact Kin.asAddr _
    | with_reducible exact Kin.asInt _
    | with_reducible exact Kin.numberAt _
    | with_reducible exact Kin.behindNumber _
    | with_reducible exact Kin.noView _
    | with_reducible exact Kin.asNumber _ _
    | with_reducible exact Kin.byteOf _
    | with_reducible exact Kin.twoPlaces _ _
    | with_reducible exact Kin.unsafeAdd2 _ _ _ _
    | with_reducible exact Kin.addrSub _ _ _
    | with_reducible exact Kin.addrCmp _ _ _
    | with_reducible exact Kin.addrMod _ _ _
    | with_reducible exact Kin.unsafeAdd _ _ _ _
    | with_reducible exact Kin.movedNumber _ _ _
    | with_reducible exact Kin.movedPointer _ _ _
    | with_reducible exact Kin.intArith _ _ _ _
    | with_reducible exact Kin.intDiv _ _ _ _
    | with_reducible exact Kin.intBits _ _ _ _
    | with_reducible exact Kin.intCmp _ _ _
    | with_reducible exact Kin.shift _ _ _ _ _
    | with_reducible exact Kin.floatArith _ _ _ _
    | with_reducible exact Kin.floatCmp _ _ _ _
    | with_reducible exact Kin.stringOp _ _ _
    | with_reducible exact Kin.intToInt _ _
    | with_reducible exact Kin.floatToInt _ _ _
    | with_reducible exact Kin.floatToFloat _ _ _
    | with_reducible exact Kin.arithC _ _ _ _
    | with_reducible exact Kin.cmpC _ _ _ _
    | with_reducible exact Kin.convC _ _ _
    | with_reducible exact Kin.addC _ _
    | with_reducible exact Kin.subC _ _
    | with_reducible exact Kin.mulC _ _
    | with_reducible exact Kin.quoC _ _
    | with_reducible exact Kin.product _ _ _ _
    | with_reducible exact Kin.corrected _ _ _ _ _
    | with_reducible exact Kin.quotient _ _ _ _
    | with_reducible exact Kin.complexOp _ _ _ _ _ _
    | with_reducible refine Kin.bindP ?_
    | with_reducible refine Kin.bind ?_ (fun _ => ?_)
    | with_reducible refine Kin.ite _ ?_ ?_
    | split
    | dsimp only))
theorem Kin.buildSlice (t : TypeId) (n : Nat) (ps : Array (Nat × Value)) : Kin P X (Instr.buildSlice t n ps) := by
  unfold Instr.buildSlice
  (repeat' (first
    | contradiction
    | (intro b v a v' h; cases b <;> (simp [Go.unsupported, Go.mark, Sem.run] at h; done))
    | (intro v a v' h; first | (cases h; done) | (simp [Go.stuck, Go.unsupported, Sem.run] at h; done))
    | with_reducible exact Kin.pure _
    | with_reducible exact Kin.stuck _
    | exact Kin.unsupported _ (fun g hg => by cases hg)
    | with_reducible exact Kin.goPanic _
    | with_reducible exact Kin.load _
    | with_reducible exact Kin.store _ _
    | with_reducible exact Kin.choose _
    | with_reducible exact Kin.noRoom
    | with_reducible exact Kin.frozen _
    | with_reducible exact Kin.newRow _ _
    | with_reducible exact Kin.typeInfo _
    | with_reducible exact Kin.underlying _
    | with_reducible exact Kin.zeroValue _
    | with_reducible exact Kin.sizeOf _
    | with_reducible exact Kin.isAgg _
    | with_reducible exact Kin.loadCells _ _
    | with_reducible exact Kin.storeCells _ _ _
    | with_reducible exact Kin.loadVar _ _
    | with_reducible exact Kin.storeVar _ _ _
    | with_reducible exact Kin.newVar _ _
    | with_reducible exact Kin.elemOf _
    | with_reducible exact Kin.part _ _ _
    | with_reducible exact Kin.askRoom _
    | with_reducible exact Kin.runtimePanic _
    | with_reducible exact Kin.boundsPanic _ _ _ _
    | with_reducible exact Kin.asIntOf _
    | with_reducible exact Kin.asBool _
    | with_reducible exact Kin.asString _
    | with_reducible exact Kin.asAgg _
    | with_reducible exact Kin.asAddr _
    | with_reducible exact Kin.asInt _
    | with_reducible exact Kin.numberAt _
    | with_reducible exact Kin.behindNumber _
    | with_reducible exact Kin.noView _
    | with_reducible exact Kin.asNumber _ _
    | with_reducible exact Kin.byteOf _
    | with_reducible exact Kin.twoPlaces _ _
    | with_reducible exact Kin.unsafeAdd2 _ _ _ _
    | with_reducible exact Kin.addrSub _ _ _
    | with_reducible exact Kin.addrCmp _ _ _
    | with_reducible exact Kin.addrMod _ _ _
    | with_reducible exact Kin.unsafeAdd _ _ _ _
    | with_reducible exact Kin.movedNumber _ _ _
    | with_reducible exact Kin.movedPointer _ _ _
    | with_reducible exact Kin.intArith _ _ _ _
    | with_reducible exact Kin.intDiv _ _ _ _
    | with_reducible exact Kin.intBits _ _ _ _
    | with_reducible exact Kin.intCmp _ _ _
    | with_reducible exact Kin.shift _ _ _ _ _
    | with_reducible exact Kin.floatArith _ _ _ _
    | with_reducible exact Kin.floatCmp _ _ _ _
    | with_reducible exact Kin.stringOp _ _ _
    | with_reducible exact Kin.intToInt _ _
    | with_reducible exact Kin.floatToInt _ _ _
    | with_reducible exact Kin.floatToFloat _ _ _
    | with_reducible exact Kin.arithC _ _ _ _
    | with_reducible exact Kin.cmpC _ _ _ _
    | with_reducible exact Kin.convC _ _ _
    | with_reducible exact Kin.addC _ _
    | with_reducible exact Kin.subC _ _
    | with_reducible exact Kin.mulC _ _
    | with_reducible exact Kin.quoC _ _
    | with_reducible exact Kin.product _ _ _ _
    | with_reducible exact Kin.corrected _ _ _ _ _
    | with_reducible exact Kin.quotient _ _ _ _
    | with_reducible exact Kin.complexOp _ _ _ _ _ _
    | with_reducible refine Kin.bindP ?_
    | with_reducible refine Kin.bind ?_ (fun _ => ?_)
    | with_reducible refine Kin.ite _ ?_ ?_
    | split
    | dsimp only))
theorem Kin.sureAddr (x : Value) : Kin P X (Instr.sureAddr x) := by
  unfold Instr.sureAddr
  (repeat' (first
    | contradiction
    | (intro b v a v' h; cases b <;> (simp [Go.unsupported, Go.mark, Sem.run] at h; done))
    | (intro v a v' h; first | (cases h; done) | (simp [Go.stuck, Go.unsupported, Sem.run] at h; done))
    | with_reducible exact Kin.pure _
    | with_reducible exact Kin.stuck _
    | exact Kin.unsupported _ (fun g hg => by cases hg)
    | with_reducible exact Kin.goPanic _
    | with_reducible exact Kin.load _
    | with_reducible exact Kin.store _ _
    | with_reducible exact Kin.choose _
    | with_reducible exact Kin.noRoom
    | with_reducible exact Kin.frozen _
    | with_reducible exact Kin.newRow _ _
    | with_reducible exact Kin.typeInfo _
    | with_reducible exact Kin.underlying _
    | with_reducible exact Kin.zeroValue _
    | with_reducible exact Kin.sizeOf _
    | with_reducible exact Kin.isAgg _
    | with_reducible exact Kin.loadCells _ _
    | with_reducible exact Kin.storeCells _ _ _
    | with_reducible exact Kin.loadVar _ _
    | with_reducible exact Kin.storeVar _ _ _
    | with_reducible exact Kin.newVar _ _
    | with_reducible exact Kin.elemOf _
    | with_reducible exact Kin.part _ _ _
    | with_reducible exact Kin.askRoom _
    | with_reducible exact Kin.runtimePanic _
    | with_reducible exact Kin.boundsPanic _ _ _ _
    | with_reducible exact Kin.asIntOf _
    | with_reducible exact Kin.asBool _
    | with_reducible exact Kin.asString _
    | with_reducible exact Kin.asAgg _
    | with_reducible exact Kin.asAddr _
    | with_reducible exact Kin.asInt _
    | with_reducible exact Kin.numberAt _
    | with_reducible exact Kin.behindNumber _
    | with_reducible exact Kin.noView _
    | with_reducible exact Kin.asNumber _ _
    | with_reducible exact Kin.byteOf _
    | with_reducible exact Kin.twoPlaces _ _
    | with_reducible exact Kin.unsafeAdd2 _ _ _ _
    | with_reducible exact Kin.addrSub _ _ _
    | with_reducible exact Kin.addrCmp _ _ _
    | with_reducible exact Kin.addrMod _ _ _
    | with_reducible exact Kin.unsafeAdd _ _ _ _
    | with_reducible exact Kin.movedNumber _ _ _
    | with_reducible exact Kin.movedPointer _ _ _
    | with_reducible exact Kin.intArith _ _ _ _
    | with_reducible exact Kin.intDiv _ _ _ _
    | with_reducible exact Kin.intBits _ _ _ _
    | with_reducible exact Kin.intCmp _ _ _
    | with_reducible exact Kin.shift _ _ _ _ _
    | with_reducible exact Kin.floatArith _ _ _ _
    | with_reducible exact Kin.floatCmp _ _ _ _
    | with_reducible exact Kin.stringOp _ _ _
    | with_reducible exact Kin.intToInt _ _
    | with_reducible exact Kin.floatToInt _ _ _
    | with_reducible exact Kin.floatToFloat _ _ _
    | with_reducible exact Kin.arithC _ _ _ _
    | with_reducible exact Kin.cmpC _ _ _ _
    | with_reducible exact Kin.convC _ _ _
    | with_reducible exact Kin.addC _ _
    | with_reducible exact Kin.subC _ _
    | with_reducible exact Kin.mulC _ _
    | with_reducible exact Kin.quoC _ _
    | with_reducible exact Kin.product _ _ _ _
    | with_reducible exact Kin.corrected _ _ _ _ _
    | with_reducible exact Kin.quotient _ _ _ _
    | with_reducible exact Kin.complexOp _ _ _ _ _ _
    | with_reducible refine Kin.bindP ?_
    | with_reducible refine Kin.bind ?_ (fun _ => ?_)
    | with_reducible refine Kin.ite _ ?_ ?_
    | split
    | dsimp only))
theorem Kin.loadAt (t : TypeId) (x : Value) : Kin P X (Instr.loadAt t x) := by
  unfold Instr.loadAt
  (repeat' (first
    | contradiction
    | (intro b v a v' h; cases b <;> (simp [Go.unsupported, Go.mark, Sem.run] at h; done))
    | (intro v a v' h; first | (cases h; done) | (simp [Go.stuck, Go.unsupported, Sem.run] at h; done))
    | with_reducible exact Kin.pure _
    | with_reducible exact Kin.stuck _
    | exact Kin.unsupported _ (fun g hg => by cases hg)
    | with_reducible exact Kin.goPanic _
    | with_reducible exact Kin.load _
    | with_reducible exact Kin.store _ _
    | with_reducible exact Kin.choose _
    | with_reducible exact Kin.noRoom
    | with_reducible exact Kin.frozen _
    | with_reducible exact Kin.newRow _ _
    | with_reducible exact Kin.typeInfo _
    | with_reducible exact Kin.underlying _
    | with_reducible exact Kin.zeroValue _
    | with_reducible exact Kin.sizeOf _
    | with_reducible exact Kin.isAgg _
    | with_reducible exact Kin.loadCells _ _
    | with_reducible exact Kin.storeCells _ _ _
    | with_reducible exact Kin.loadVar _ _
    | with_reducible exact Kin.storeVar _ _ _
    | with_reducible exact Kin.newVar _ _
    | with_reducible exact Kin.elemOf _
    | with_reducible exact Kin.part _ _ _
    | with_reducible exact Kin.askRoom _
    | with_reducible exact Kin.runtimePanic _
    | with_reducible exact Kin.boundsPanic _ _ _ _
    | with_reducible exact Kin.asIntOf _
    | with_reducible exact Kin.asBool _
    | with_reducible exact Kin.asString _
    | with_reducible exact Kin.asAgg _
    | with_reducible exact Kin.asAddr _
    | with_reducible exact Kin.asInt _
    | with_reducible exact Kin.numberAt _
    | with_reducible exact Kin.behindNumber _
    | with_reducible exact Kin.noView _
    | with_reducible exact Kin.asNumber _ _
    | with_reducible exact Kin.byteOf _
    | with_reducible exact Kin.twoPlaces _ _
    | with_reducible exact Kin.unsafeAdd2 _ _ _ _
    | with_reducible exact Kin.addrSub _ _ _
    | with_reducible exact Kin.addrCmp _ _ _
    | with_reducible exact Kin.addrMod _ _ _
    | with_reducible exact Kin.unsafeAdd _ _ _ _
    | with_reducible exact Kin.movedNumber _ _ _
    | with_reducible exact Kin.movedPointer _ _ _
    | with_reducible exact Kin.intArith _ _ _ _
    | with_reducible exact Kin.intDiv _ _ _ _
    | with_reducible exact Kin.intBits _ _ _ _
    | with_reducible exact Kin.intCmp _ _ _
    | with_reducible exact Kin.shift _ _ _ _ _
    | with_reducible exact Kin.floatArith _ _ _ _
    | with_reducible exact Kin.floatCmp _ _ _ _
    | with_reducible exact Kin.stringOp _ _ _
    | with_reducible exact Kin.intToInt _ _
    | with_reducible exact Kin.floatToInt _ _ _
    | with_reducible exact Kin.floatToFloat _ _ _
    | with_reducible exact Kin.arithC _ _ _ _
    | with_reducible exact Kin.cmpC _ _ _ _
    | with_reducible exact Kin.convC _ _ _
    | with_reducible exact Kin.addC _ _
    | with_reducible exact Kin.subC _ _
    | with_reducible exact Kin.mulC _ _
    | with_reducible exact Kin.quoC _ _
    | with_reducible exact Kin.product _ _ _ _
    | with_reducible exact Kin.corrected _ _ _ _ _
    | with_reducible exact Kin.quotient _ _ _ _
    | with_reducible exact Kin.complexOp _ _ _ _ _ _
    | with_reducible exact Kin.sureAddr _
    | with_reducible refine Kin.bindP ?_
    | with_reducible refine Kin.bind ?_ (fun _ => ?_)
    | with_reducible refine Kin.ite _ ?_ ?_
    | split
    | dsimp only))
theorem Kin.storeAt (t : TypeId) (x y : Value) : Kin P X (Instr.storeAt t x y) := by
  unfold Instr.storeAt
  (repeat' (first
    | contradiction
    | (intro b v a v' h; cases b <;> (simp [Go.unsupported, Go.mark, Sem.run] at h; done))
    | (intro v a v' h; first | (cases h; done) | (simp [Go.stuck, Go.unsupported, Sem.run] at h; done))
    | with_reducible exact Kin.pure _
    | with_reducible exact Kin.stuck _
    | exact Kin.unsupported _ (fun g hg => by cases hg)
    | with_reducible exact Kin.goPanic _
    | with_reducible exact Kin.load _
    | with_reducible exact Kin.store _ _
    | with_reducible exact Kin.choose _
    | with_reducible exact Kin.noRoom
    | with_reducible exact Kin.frozen _
    | with_reducible exact Kin.newRow _ _
    | with_reducible exact Kin.typeInfo _
    | with_reducible exact Kin.underlying _
    | with_reducible exact Kin.zeroValue _
    | with_reducible exact Kin.sizeOf _
    | with_reducible exact Kin.isAgg _
    | with_reducible exact Kin.loadCells _ _
    | with_reducible exact Kin.storeCells _ _ _
    | with_reducible exact Kin.loadVar _ _
    | with_reducible exact Kin.storeVar _ _ _
    | with_reducible exact Kin.newVar _ _
    | with_reducible exact Kin.elemOf _
    | with_reducible exact Kin.part _ _ _
    | with_reducible exact Kin.askRoom _
    | with_reducible exact Kin.runtimePanic _
    | with_reducible exact Kin.boundsPanic _ _ _ _
    | with_reducible exact Kin.asIntOf _
    | with_reducible exact Kin.asBool _
    | with_reducible exact Kin.asString _
    | with_reducible exact Kin.asAgg _
    | with_reducible exact Kin.asAddr _
    | with_reducible exact Kin.asInt _
    | with_reducible exact Kin.numberAt _
    | with_reducible exact Kin.behindNumber _
    | with_reducible exact Kin.noView _
    | with_reducible exact Kin.asNumber _ _
    | with_reducible exact Kin.byteOf _
    | with_reducible exact Kin.twoPlaces _ _
    | with_reducible exact Kin.unsafeAdd2 _ _ _ _
    | with_reducible exact Kin.addrSub _ _ _
    | with_reducible exact Kin.addrCmp _ _ _
    | with_reducible exact Kin.addrMod _ _ _
    | with_reducible exact Kin.unsafeAdd _ _ _ _
    | with_reducible exact Kin.movedNumber _ _ _
    | with_reducible exact Kin.movedPointer _ _ _
    | with_reducible exact Kin.intArith _ _ _ _
    | with_reducible exact Kin.intDiv _ _ _ _
    | with_reducible exact Kin.intBits _ _ _ _
    | with_reducible exact Kin.intCmp _ _ _
    | with_reducible exact Kin.shift _ _ _ _ _
    | with_reducible exact Kin.floatArith _ _ _ _
    | with_reducible exact Kin.floatCmp _ _ _ _
    | with_reducible exact Kin.stringOp _ _ _
    | with_reducible exact Kin.intToInt _ _
    | with_reducible exact Kin.floatToInt _ _ _
    | with_reducible exact Kin.floatToFloat _ _ _
    | with_reducible exact Kin.arithC _ _ _ _
    | with_reducible exact Kin.cmpC _ _ _ _
    | with_reducible exact Kin.convC _ _ _
    | with_reducible exact Kin.addC _ _
    | with_reducible exact Kin.subC _ _
    | with_reducible exact Kin.mulC _ _
    | with_reducible exact Kin.quoC _ _
    | with_reducible exact Kin.product _ _ _ _
    | with_reducible exact Kin.corrected _ _ _ _ _
    | with_reducible exact Kin.quotient _ _ _ _
    | with_reducible exact Kin.complexOp _ _ _ _ _ _
    | with_reducible exact Kin.sureAddr _
    | with_reducible refine Kin.bindP ?_
    | with_reducible refine Kin.bind ?_ (fun _ => ?_)
    | with_reducible refine Kin.ite _ ?_ ?_
    | split
    | dsimp only))
theorem Kin.partAt (a : Addr) (m n : Nat) : Kin P X (Go.partAt a m n) := by
  unfold Go.partAt
  (repeat' (first
    | contradiction
    | (intro b v a v' h; cases b <;> (simp [Go.unsupported, Go.mark, Sem.run] at h; done))
    | (intro v a v' h; first | (cases h; done) | (simp [Go.stuck, Go.unsupported, Sem.run] at h; done))
    | with_reducible exact Kin.pure _
    | with_reducible exact Kin.stuck _
    | exact Kin.unsupported _ (fun g hg => by cases hg)
    | with_reducible exact Kin.goPanic _
    | with_reducible exact Kin.load _
    | with_reducible exact Kin.store _ _
    | with_reducible exact Kin.choose _
    | with_reducible exact Kin.noRoom
    | with_reducible exact Kin.frozen _
    | with_reducible exact Kin.newRow _ _
    | with_reducible refine Kin.shapeB _ (fun _ => ?_) ?_
    | with_reducible exact Kin.typeInfo _
    | with_reducible exact Kin.underlying _
    | with_reducible exact Kin.zeroValue _
    | with_reducible exact Kin.sizeOf _
    | with_reducible exact Kin.isAgg _
    | with_reducible exact Kin.loadCells _ _
    | with_reducible exact Kin.storeCells _ _ _
    | with_reducible exact Kin.loadVar _ _
    | with_reducible exact Kin.storeVar _ _ _
    | with_reducible exact Kin.newVar _ _
    | with_reducible exact Kin.elemOf _
    | with_reducible exact Kin.part _ _ _
    | with_reducible exact Kin.askRoom _
    | with_reducible exact Kin.runtimePanic _
    | with_reducible exact Kin.boundsPanic _ _ _ _
    | with_reducible exact Kin.asIntOf _
    | with_reducible exact Kin.asBool _
    | with_reducible exact Kin.asString _
    | with_reducible exact Kin.asAgg _
    | with_reducible exact Kin.asAddr _
    | with_reducible exact Kin.asInt _
    | with_reducible exact Kin.numberAt _
    | with_reducible exact Kin.behindNumber _
    | with_reducible exact Kin.noView _
    | with_reducible exact Kin.asNumber _ _
    | with_reducible exact Kin.byteOf _
    | with_reducible exact Kin.twoPlaces _ _
    | with_reducible exact Kin.unsafeAdd2 _ _ _ _
    | with_reducible exact Kin.addrSub _ _ _
    | with_reducible exact Kin.addrCmp _ _ _
    | with_reducible exact Kin.addrMod _ _ _
    | with_reducible exact Kin.unsafeAdd _ _ _ _
    | with_reducible exact Kin.movedNumber _ _ _
    | with_reducible exact Kin.movedPointer _ _ _
    | with_reducible exact Kin.intArith _ _ _ _
    | with_reducible exact Kin.intDiv _ _ _ _
    | with_reducible exact Kin.intBits _ _ _ _
    | with_reducible exact Kin.intCmp _ _ _
    | with_reducible exact Kin.shift _ _ _ _ _
    | with_reducible exact Kin.floatArith _ _ _ _
    | with_reducible exact Kin.floatCmp _ _ _ _
    | with_reducible exact Kin.stringOp _ _ _
    | with_reducible exact Kin.intToInt _ _
    | with_reducible exact Kin.floatToInt _ _ _
    | with_reducible exact Kin.floatToFloat _ _ _
    | with_reducible exact Kin.arithC _ _ _ _
    | with_reducible exact Kin.cmpC _ _ _ _
    | with_reducible exact Kin.convC _ _ _
    | with_reducible exact Kin.addC _ _
    | with_reducible exact Kin.subC _ _
    | with_reducible exact Kin.mulC _ _
    | with_reducible exact Kin.quoC _ _
    | with_reducible exact Kin.product _ _ _ _
    | with_reducible exact Kin.corrected _ _ _ _ _
    | with_reducible exact Kin.quotient _ _ _ _
    | with_reducible exact Kin.complexOp _ _ _ _ _ _
    | with_reducible exact Kin.sureAddr _
    | with_reducible refine Kin.bindP ?_
    | with_reducible refine Kin.bind ?_ (fun _ => ?_)
    | with_reducible refine Kin.ite _ ?_ ?_
    | split
    | dsimp only))
theorem Kin.fieldPlace (a : Addr) (f : Field) : Kin P X (Go.fieldPlace a f) := by
  unfold Go.fieldPlace
  (repeat' (first
    | contradiction
    | (intro b v a v' h; cases b <;> (simp [Go.unsupported, Go.mark, Sem.run] at h; done))
    | (intro v a v' h; first | (cases h; done) | (simp [Go.stuck, Go.unsupported, Sem.run] at h; done))
    | with_reducible exact Kin.pure _
    | with_reducible exact Kin.stuck _
    | exact Kin.unsupported _ (fun g hg => by cases hg)
    | with_reducible exact Kin.goPanic _
    | with_reducible exact Kin.load _
    | with_reducible exact Kin.store _ _
    | with_reducible exact Kin.choose _
    | with_reducible exact Kin.noRoom
    | with_reducible exact Kin.frozen _
    | with_reducible exact Kin.newRow _ _
    | with_reducible exact Kin.typeInfo _
    | with_reducible exact Kin.underlying _
    | with_reducible exact Kin.zeroValue _
    | with_reducible exact Kin.sizeOf _
    | with_reducible exact Kin.isAgg _
    | with_reducible exact Kin.loadCells _ _
    | with_reducible exact Kin.storeCells _ _ _
    | with_reducible exact Kin.loadVar _ _
    | with_reducible exact Kin.storeVar _ _ _
    | with_reducible exact Kin.newVar _ _
    | with_reducible exact Kin.elemOf _
    | with_reducible exact Kin.part _ _ _
    | with_reducible exact Kin.askRoom _
    | with_reducible exact Kin.runtimePanic _
    | with_reducible exact Kin.boundsPanic _ _ _ _
    | with_reducible exact Kin.asIntOf _
    | with_reducible exact Kin.asBool _
    | with_reducible exact Kin.asString _
    | with_reducible exact Kin.asAgg _
    | with_reducible exact Kin.asAddr _
    | with_reducible exact Kin.asInt _
    | with_reducible exact Kin.numberAt _
    | with_reducible exact Kin.behindNumber _
    | with_reducible exact Kin.noView _
    | with_reducible exact Kin.asNumber _ _
    | with_reducible exact Kin.byteOf _
    | with_reducible exact Kin.twoPlaces _ _
    | with_reducible exact Kin.unsafeAdd2 _ _ _ _
    | with_reducible exact Kin.addrSub _ _ _
    | with_reducible exact Kin.addrCmp _ _ _
    | with_reducible exact Kin.addrMod _ _ _
    | with_reducible exact Kin.unsafeAdd _ _ _ _
    | with_reducible exact Kin.movedNumber _ _ _
    | with_reducible exact Kin.movedPointer _ _ _
    | with_reducible exact Kin.intArith _ _ _ _
    | with_reducible exact Kin.intDiv _ _ _ _
    | with_reducible exact Kin.intBits _ _ _ _
    | with_reducible exact Kin.intCmp _ _ _
    | with_reducible exact Kin.shift _ _ _ _ _
    | with_reducible exact Kin.floatArith _ _ _ _
    | with_reducible exact Kin.floatCmp _ _ _ _
    | with_reducible exact Kin.stringOp _ _ _
    | with_reducible exact Kin.intToInt _ _
    | with_reducible exact Kin.floatToInt _ _ _
    | with_reducible exact Kin.floatToFloat _ _ _
    | with_reducible exact Kin.arithC _ _ _ _
    | with_reducible exact Kin.cmpC _ _ _ _
    | with_reducible exact Kin.convC _ _ _
    | with_reducible exact Kin.addC _ _
    | with_reducible exact Kin.subC _ _
    | with_reducible exact Kin.mulC _ _
    | with_reducible exact Kin.quoC _ _
    | with_reducible exact Kin.product _ _ _ _
    | with_reducible exact Kin.corrected _ _ _ _ _
    | with_reducible exact Kin.quotient _ _ _ _
    | with_reducible exact Kin.complexOp _ _ _ _ _ _
    | with_reducible exact Kin.sureAddr _
    | with_reducible exact Kin.partAt _ _ _
    | with_reducible refine Kin.bindP ?_
    | with_reducible refine Kin.bind ?_ (fun _ => ?_)
    | with_reducible refine Kin.ite _ ?_ ?_
    | split
    | dsimp only))
theorem Kin.fieldAt (t : TypeId) (x : Value) (f : Nat) : Kin P X (Instr.fieldAt t x f) := by
  unfold Instr.fieldAt
  (repeat' (first
    | contradiction
    | (intro b v a v' h; cases b <;> (simp [Go.unsupported, Go.mark, Sem.run] at h; done))
    | (intro v a v' h; first | (cases h; done) | (simp [Go.stuck, Go.unsupported, Sem.run] at h; done))
    | with_reducible exact Kin.pure _
    | with_reducible exact Kin.stuck _
    | exact Kin.unsupported _ (fun g hg => by cases hg)
    | with_reducible exact Kin.goPanic _
    | with_reducible exact Kin.load _
    | with_reducible exact Kin.store _ _
    | with_reducible exact Kin.choose _
    | with_reducible exact Kin.noRoom
    | with_reducible exact Kin.frozen _
    | with_reducible exact Kin.newRow _ _
    | with_reducible exact Kin.typeInfo _
    | with_reducible exact Kin.underlying _
    | with_reducible exact Kin.zeroValue _
    | with_reducible exact Kin.sizeOf _
    | with_reducible exact Kin.isAgg _
    | with_reducible exact Kin.loadCells _ _
    | with_reducible exact Kin.storeCells _ _ _
    | with_reducible exact Kin.loadVar _ _
    | with_reducible exact Kin.storeVar _ _ _
    | with_reducible exact Kin.newVar _ _
    | with_reducible exact Kin.elemOf _
    | with_reducible exact Kin.part _ _ _
    | with_reducible exact Kin.askRoom _
    | with_reducible exact Kin.runtimePanic _
    | with_reducible exact Kin.boundsPanic _ _ _ _
    | with_reducible exact Kin.asIntOf _
    | with_reducible exact Kin.asBool _
    | with_reducible exact Kin.asString _
    | with_reducible exact Kin.asAgg _
    | with_reducible exact Kin.asAddr _
    | with_reducible exact Kin.asInt _
    | with_reducible exact Kin.numberAt _
    | with_reducible exact Kin.behindNumber _
    | with_reducible exact Kin.noView _
    | with_reducible exact Kin.asNumber _ _
    | with_reducible exact Kin.byteOf _
    | with_reducible exact Kin.twoPlaces _ _
    | with_reducible exact Kin.unsafeAdd2 _ _ _ _
    | with_reducible exact Kin.addrSub _ _ _
    | with_reducible exact Kin.addrCmp _ _ _
    | with_reducible exact Kin.addrMod _ _ _
    | with_reducible exact Kin.unsafeAdd _ _ _ _
    | with_reducible exact Kin.movedNumber _ _ _
    | with_reducible exact Kin.movedPointer _ _ _
    | with_reducible exact Kin.intArith _ _ _ _
    | with_reducible exact Kin.intDiv _ _ _ _
    | with_reducible exact Kin.intBits _ _ _ _
    | with_reducible exact Kin.intCmp _ _ _
    | with_reducible exact Kin.shift _ _ _ _ _
    | with_reducible exact Kin.floatArith _ _ _ _
    | with_reducible exact Kin.floatCmp _ _ _ _
    | with_reducible exact Kin.stringOp _ _ _
    | with_reducible exact Kin.intToInt _ _
    | with_reducible exact Kin.floatToInt _ _ _
    | with_reducible exact Kin.floatToFloat _ _ _
    | with_reducible exact Kin.arithC _ _ _ _
    | with_reducible exact Kin.cmpC _ _ _ _
    | with_reducible exact Kin.convC _ _ _
    | with_reducible exact Kin.addC _ _
    | with_reducible exact Kin.subC _ _
    | with_reducible exact Kin.mulC _ _
    | with_reducible exact Kin.quoC _ _
    | with_reducible exact Kin.product _ _ _ _
    | with_reducible exact Kin.corrected _ _ _ _ _
    | with_reducible exact Kin.quotient _ _ _ _
    | with_reducible exact Kin.complexOp _ _ _ _ _ _
    | with_reducible exact Kin.sureAddr _
    | with_reducible exact Kin.partAt _ _ _
    | with_reducible exact Kin.fieldPlace _ _
    | with_reducible refine Kin.bindP ?_
    | with_reducible refine Kin.bind ?_ (fun _ => ?_)
    | with_reducible refine Kin.ite _ ?_ ?_
    | split
    | dsimp only))
theorem Kin.indexAt (t : TypeId) (x y : Value) : Kin P X (Instr.indexAt t x y) := by
  unfold Instr.indexAt
  (repeat' (first
    | contradiction
    | (intro b v a v' h; cases b <;> (simp [Go.unsupported, Go.mark, Sem.run] at h; done))
    | (intro v a v' h; first | (cases h; done) | (simp [Go.stuck, Go.unsupported, Sem.run] at h; done))
    | with_reducible exact Kin.pure _
    | with_reducible exact Kin.stuck _
    | exact Kin.unsupported _ (fun g hg => by cases hg)
    | with_reducible exact Kin.goPanic _
    | with_reducible exact Kin.load _
    | with_reducible exact Kin.store _ _
    | with_reducible exact Kin.choose _
    | with_reducible exact Kin.noRoom
    | with_reducible exact Kin.frozen _
    | with_reducible exact Kin.newRow _ _
    | with_reducible exact Kin.typeInfo _
    | with_reducible exact Kin.underlying _
    | with_reducible exact Kin.zeroValue _
    | with_reducible exact Kin.sizeOf _
    | with_reducible exact Kin.isAgg _
    | with_reducible exact Kin.loadCells _ _
    | with_reducible exact Kin.storeCells _ _ _
    | with_reducible exact Kin.loadVar _ _
    | with_reducible exact Kin.storeVar _ _ _
    | with_reducible exact Kin.newVar _ _
    | with_reducible exact Kin.elemOf _
    | with_reducible exact Kin.part _ _ _
    | with_reducible exact Kin.askRoom _
    | with_reducible exact Kin.runtimePanic _
    | with_reducible exact Kin.boundsPanic _ _ _ _
    | with_reducible exact Kin.asIntOf _
    | with_reducible exact Kin.asBool _
    | with_reducible exact Kin.asString _
    | with_reducible exact Kin.asAgg _
    | with_reducible exact Kin.asAddr _
    | with_reducible exact Kin.asInt _
    | with_reducible exact Kin.numberAt _
    | with_reducible exact Kin.behindNumber _
    | with_reducible exact Kin.noView _
    | with_reducible exact Kin.asNumber _ _
    | with_reducible exact Kin.byteOf _
    | with_reducible exact Kin.twoPlaces _ _
    | with_reducible exact Kin.unsafeAdd2 _ _ _ _
    | with_reducible exact Kin.addrSub _ _ _
    | with_reducible exact Kin.addrCmp _ _ _
    | with_reducible exact Kin.addrMod _ _ _
    | with_reducible exact Kin.unsafeAdd _ _ _ _
    | with_reducible exact Kin.movedNumber _ _ _
    | with_reducible exact Kin.movedPointer _ _ _
    | with_reducible exact Kin.intArith _ _ _ _
    | with_reducible exact Kin.intDiv _ _ _ _
    | with_reducible exact Kin.intBits _ _ _ _
    | with_reducible exact Kin.intCmp _ _ _
    | with_reducible exact Kin.shift _ _ _ _ _
    | with_reducible exact Kin.floatArith _ _ _ _
    | with_reducible exact Kin.floatCmp _ _ _ _
    | with_reducible exact Kin.stringOp _ _ _
    | with_reducible exact Kin.intToInt _ _
    | with_reducible exact Kin.floatToInt _ _ _
    | with_reducible exact Kin.floatToFloat _ _ _
    | with_reducible exact Kin.arithC _ _ _ _
    | with_reducible exact Kin.cmpC _ _ _ _
    | with_reducible exact Kin.convC _ _ _
    | with_reducible exact Kin.addC _ _
    | with_reducible exact Kin.subC _ _
    | with_reducible exact Kin.mulC _ _
    | with_reducible exact Kin.quoC _ _
    | with_reducible exact Kin.product _ _ _ _
    | with_reducible exact Kin.corrected _ _ _ _ _
    | with_reducible exact Kin.quotient _ _ _ _
    | with_reducible exact Kin.complexOp _ _ _ _ _ _
    | with_reducible exact Kin.sureAddr _
    | with_reducible exact Kin.partAt _ _ _
    | with_reducible exact Kin.fieldPlace _ _
    | with_reducible refine Kin.bindP ?_
    | with_reducible refine Kin.bind ?_ (fun _ => ?_)
    | with_reducible refine Kin.ite _ ?_ ?_
    | split
    | dsimp only))
theorem Kin.sliceBound (x : Value) (y : Nat) (c : BoundsCode) : Kin P X (Instr.sliceBound x y c) := by
  unfold Instr.sliceBound
  (repeat' (first
    | contradiction
    | (intro b v a v' h; cases b <;> (simp [Go.unsupported, Go.mark, Sem.run] at h; done))
    | (intro v a v' h; first | (cases h; done) | (simp [Go.stuck, Go.unsupported, Sem.run] at h; done))
    | with_reducible exact Kin.pure _
    | with_reducible exact Kin.stuck _
    | exact Kin.unsupported _ (fun g hg => by cases hg)
    | with_reducible exact Kin.goPanic _
    | with_reducible exact Kin.load _
    | with_reducible exact Kin.store _ _
    | with_reducible exact Kin.choose _
    | with_reducible exact Kin.noRoom
    | with_reducible exact Kin.frozen _
    | with_reducible exact Kin.newRow _ _
    | with_reducible exact Kin.typeInfo _
    | with_reducible exact Kin.underlying _
    | with_reducible exact Kin.zeroValue _
    | with_reducible exact Kin.sizeOf _
    | with_reducible exact Kin.isAgg _
    | with_reducible exact Kin.loadCells _ _
    | with_reducible exact Kin.storeCells _ _ _
    | with_reducible exact Kin.loadVar _ _
    | with_reducible exact Kin.storeVar _ _ _
    | with_reducible exact Kin.newVar _ _
    | with_reducible exact Kin.elemOf _
    | with_reducible exact Kin.part _ _ _
    | with_reducible exact Kin.askRoom _
    | with_reducible exact Kin.runtimePanic _
    | with_reducible exact Kin.boundsPanic _ _ _ _
    | with_reducible exact Kin.asIntOf _
    | with_reducible exact Kin.asBool _
    | with_reducible exact Kin.asString _
    | with_reducible exact Kin.asAgg _
    | with_reducible exact Kin.asAddr _
    | with_reducible exact Kin.asInt _
    | with_reducible exact Kin.numberAt _
    | with_reducible exact Kin.behindNumber _
    | with_reducible exact Kin.noView _
    | with_reducible exact Kin.asNumber _ _
    | with_reducible exact Kin.byteOf _
    | with_reducible exact Kin.twoPlaces _ _
    | with_reducible exact Kin.unsafeAdd2 _ _ _ _
    | with_reducible exact Kin.addrSub _ _ _
    | with_reducible exact Kin.addrCmp _ _ _
    | with_reducible exact Kin.addrMod _ _ _
    | with_reducible exact Kin.unsafeAdd _ _ _ _
    | with_reducible exact Kin.movedNumber _ _ _
    | with_reducible exact Kin.movedPointer _ _ _
    | with_reducible exact Kin.intArith _ _ _ _
    | with_reducible exact Kin.intDiv _ _ _ _
    | with_reducible exact Kin.intBits _ _ _ _
    | with_reducible exact Kin.intCmp _ _ _
    | with_reducible exact Kin.shift _ _ _ _ _
    | with_reducible exact Kin.floatArith _ _ _ _
    | with_reducible exact Kin.floatCmp _ _ _ _
    | with_reducible exact Kin.stringOp _ _ _
    | with_reducible exact Kin.intToInt _ _
    | with_reducible exact Kin.floatToInt _ _ _
    | with_reducible exact Kin.floatToFloat _ _ _
    | with_reducible exact Kin.arithC _ _ _ _
    | with_reducible exact Kin.cmpC _ _ _ _
    | with_reducible exact Kin.convC _ _ _
    | with_reducible exact Kin.addC _ _
    | with_reducible exact Kin.subC _ _
    | with_reducible exact Kin.mulC _ _
    | with_reducible exact Kin.quoC _ _
    | with_reducible exact Kin.product _ _ _ _
    | with_reducible exact Kin.corrected _ _ _ _ _
    | with_reducible exact Kin.quotient _ _ _ _
    | with_reducible exact Kin.complexOp _ _ _ _ _ _
    | with_reducible exact Kin.sureAddr _
    | with_reducible exact Kin.partAt _ _ _
    | with_reducible exact Kin.fieldPlace _ _
    | with_reducible refine Kin.bindP ?_
    | with_reducible refine Kin.bind ?_ (fun _ => ?_)
    | with_reducible refine Kin.ite _ ?_ ?_
    | split
    | dsimp only))
theorem Kin.sliceBounds (b : Bool) (l c : Nat) (x y z : Option Value) : Kin P X (Instr.sliceBounds b l c x y z) := by
  unfold Instr.sliceBounds
  (repeat' (first
    | contradiction
    | (intro b v a v' h; cases b <;> (simp [Go.unsupported, Go.mark, Sem.run] at h; done))
    | (intro v a v' h; first | (cases h; done) | (simp [Go.stuck, Go.unsupported, Sem.run] at h; done))
    | with_reducible exact Kin.pure _
    | with_reducible exact Kin.stuck _
    | exact Kin.unsupported _ (fun g hg => by cases hg)
    | with_reducible exact Kin.goPanic _
    | with_reducible exact Kin.load _
    | with_reducible exact Kin.store _ _
    | with_reducible exact Kin.choose _
    | with_reducible exact Kin.noRoom
    | with_reducible exact Kin.frozen _
    | with_reducible exact Kin.newRow _ _
    | with_reducible exact Kin.typeInfo _
    | with_reducible exact Kin.underlying _
    | with_reducible exact Kin.zeroValue _
    | with_reducible exact Kin.sizeOf _
    | with_reducible exact Kin.isAgg _
    | with_reducible exact Kin.loadCells _ _
    | with_reducible exact Kin.storeCells _ _ _
    | with_reducible exact Kin.loadVar _ _
    | with_reducible exact Kin.storeVar _ _ _
    | with_reducible exact Kin.newVar _ _
    | with_reducible exact Kin.elemOf _
    | with_reducible exact Kin.part _ _ _
    | with_reducible exact Kin.askRoom _
    | with_reducible exact Kin.runtimePanic _
    | with_reducible exact Kin.boundsPanic _ _ _ _
    | with_reducible exact Kin.asIntOf _
    | with_reducible exact Kin.asBool _
    | with_reducible exact Kin.asString _
    | with_reducible exact Kin.asAgg _
    | with_reducible exact Kin.asAddr _
    | with_reducible exact Kin.asInt _
    | with_reducible exact Kin.numberAt _
    | with_reducible exact Kin.behindNumber _
    | with_reducible exact Kin.noView _
    | with_reducible exact Kin.asNumber _ _
    | with_reducible exact Kin.byteOf _
    | with_reducible exact Kin.twoPlaces _ _
    | with_reducible exact Kin.unsafeAdd2 _ _ _ _
    | with_reducible exact Kin.addrSub _ _ _
    | with_reducible exact Kin.addrCmp _ _ _
    | with_reducible exact Kin.addrMod _ _ _
    | with_reducible exact Kin.unsafeAdd _ _ _ _
    | with_reducible exact Kin.movedNumber _ _ _
    | with_reducible exact Kin.movedPointer _ _ _
    | with_reducible exact Kin.intArith _ _ _ _
    | with_reducible exact Kin.intDiv _ _ _ _
    | with_reducible exact Kin.intBits _ _ _ _
    | with_reducible exact Kin.intCmp _ _ _
    | with_reducible exact Kin.shift _ _ _ _ _
    | with_reducible exact Kin.floatArith _ _ _ _
    | with_reducible exact Kin.floatCmp _ _ _ _
    | with_reducible exact Kin.stringOp _ _ _
    | with_reducible exact Kin.intToInt _ _
    | with_reducible exact Kin.floatToInt _ _ _
    | with_reducible exact Kin.floatToFloat _ _ _
    | with_reducible exact Kin.arithC _ _ _ _
    | with_reducible exact Kin.cmpC _ _ _ _
    | with_reducible exact Kin.convC _ _ _
    | with_reducible exact Kin.addC _ _
    | with_reducible exact Kin.subC _ _
    | with_reducible exact Kin.mulC _ _
    | with_reducible exact Kin.quoC _ _
    | with_reducible exact Kin.product _ _ _ _
    | with_reducible exact Kin.corrected _ _ _ _ _
    | with_reducible exact Kin.quotient _ _ _ _
    | with_reducible exact Kin.complexOp _ _ _ _ _ _
    | with_reducible exact Kin.sureAddr _
    | with_reducible exact Kin.partAt _ _ _
    | with_reducible exact Kin.fieldPlace _ _
    | with_reducible exact Kin.sliceBound _ _ _
    | with_reducible refine Kin.bindP ?_
    | with_reducible refine Kin.bind ?_ (fun _ => ?_)
    | with_reducible refine Kin.ite _ ?_ ?_
    | split
    | dsimp only))
theorem Kin.slice (t : TypeId) (v : Value) (x y z : Option Value) : Kin P X (Instr.slice t v x y z) := by
  unfold Instr.slice
  (repeat' (first
    | contradiction
    | (intro b v a v' h; cases b <;> (simp [Go.unsupported, Go.mark, Sem.run] at h; done))
    | (intro v a v' h; first | (cases h; done) | (simp [Go.stuck, Go.unsupported, Sem.run] at h; done))
    | with_reducible exact Kin.pure _
    | with_reducible exact Kin.stuck _
    | exact Kin.unsupported _ (fun g hg => by cases hg)
    | with_reducible exact Kin.goPanic _
    | with_reducible exact Kin.load _
    | with_reducible exact Kin.store _ _
    | with_reducible exact Kin.choose _
    | with_reducible exact Kin.noRoom
    | with_reducible exact Kin.frozen _
    | with_reducible exact Kin.newRow _ _
    | with_reducible exact Kin.typeInfo _
    | with_reducible exact Kin.underlying _
    | with_reducible exact Kin.zeroValue _
    | with_reducible exact Kin.sizeOf _
    | with_reducible exact Kin.isAgg _
    | with_reducible exact Kin.loadCells _ _
    | with_reducible exact Kin.storeCells _ _ _
    | with_reducible exact Kin.loadVar _ _
    | with_reducible exact Kin.storeVar _ _ _
    | with_reducible exact Kin.newVar _ _
    | with_reducible exact Kin.elemOf _
    | with_reducible exact Kin.part _ _ _
    | with_reducible exact Kin.askRoom _
    | with_reducible exact Kin.runtimePanic _
    | with_reducible exact Kin.boundsPanic _ _ _ _
    | with_reducible exact Kin.asIntOf _
    | with_reducible exact Kin.asBool _
    | with_reducible exact Kin.asString _
    | with_reducible exact Kin.asAgg _
    | with_reducible exact Kin.asAddr _
    | with_reducible exact Kin.asInt _
    | with_reducible exact Kin.numberAt _
    | with_reducible exact Kin.behindNumber _
    | with_reducible exact Kin.noView _
    | with_reducible exact Kin.asNumber _ _
    | with_reducible exact Kin.byteOf _
    | with_reducible exact Kin.twoPlaces _ _
    | with_reducible exact Kin.unsafeAdd2 _ _ _ _
    | with_reducible exact Kin.addrSub _ _ _
    | with_reducible exact Kin.addrCmp _ _ _
    | with_reducible exact Kin.addrMod _ _ _
    | with_reducible exact Kin.unsafeAdd _ _ _ _
    | with_reducible exact Kin.movedNumber _ _ _
    | with_reducible exact Kin.movedPointer _ _ _
    | with_reducible exact Kin.intArith _ _ _ _
    | with_reducible exact Kin.intDiv _ _ _ _
    | with_reducible exact Kin.intBits _ _ _ _
    | with_reducible exact Kin.intCmp _ _ _
    | with_reducible exact Kin.shift _ _ _ _ _
    | with_reducible exact Kin.floatArith _ _ _ _
    | with_reducible exact Kin.floatCmp _ _ _ _
    | with_reducible exact Kin.stringOp _ _ _
    | with_reducible exact Kin.intToInt _ _
    | with_reducible exact Kin.floatToInt _ _ _
    | with_reducible exact Kin.floatToFloat _ _ _
    | with_reducible exact Kin.arithC _ _ _ _
    | with_reducible exact Kin.cmpC _ _ _ _
    | with_reducible exact Kin.convC _ _ _
    | with_reducible exact Kin.addC _ _
    | with_reducible exact Kin.subC _ _
    | with_reducible exact Kin.mulC _ _
    | with_reducible exact Kin.quoC _ _
    | with_reducible exact Kin.product _ _ _ _
    | with_reducible exact Kin.corrected _ _ _ _ _
    | with_reducible exact Kin.quotient _ _ _ _
    | with_reducible exact Kin.complexOp _ _ _ _ _ _
    | with_reducible exact Kin.sureAddr _
    | with_reducible exact Kin.partAt _ _ _
    | with_reducible exact Kin.fieldPlace _ _
    | with_reducible exact Kin.sliceBound _ _ _
    | with_reducible exact Kin.sliceBounds _ _ _ _ _ _
    | with_reducible refine Kin.bindP ?_
    | with_reducible refine Kin.bind ?_ (fun _ => ?_)
    | with_reducible refine Kin.ite _ ?_ ?_
    | split
    | dsimp only))
theorem Kin.sliceAt (t : TypeId) (v : Value) (x y z : Option Value) : Kin P X (Instr.sliceAt t v x y z) := by
  unfold Instr.sliceAt
  (repeat' (first
    | contradiction
    | (intro b v a v' h; cases b <;> (simp [Go.unsupported, Go.mark, Sem.run] at h; done))
    | (intro v a v' h; first | (cases h; done) | (simp [Go.stuck, Go.unsupported, Sem.run] at h; done))
    | with_reducible exact Kin.pure _
    | with_reducible exact Kin.stuck _
    | exact Kin.unsupported _ (fun g hg => by cases hg)
    | with_reducible exact Kin.goPanic _
    | with_reducible exact Kin.load _
    | with_reducible exact Kin.store _ _
    | with_reducible exact Kin.choose _
    | with_reducible exact Kin.noRoom
    | with_reducible exact Kin.frozen _
    | with_reducible exact Kin.newRow _ _
    | with_reducible exact Kin.typeInfo _
    | with_reducible exact Kin.underlying _
    | with_reducible exact Kin.zeroValue _
    | with_reducible exact Kin.sizeOf _
    | with_reducible exact Kin.isAgg _
    | with_reducible exact Kin.loadCells _ _
    | with_reducible exact Kin.storeCells _ _ _
    | with_reducible exact Kin.loadVar _ _
    | with_reducible exact Kin.storeVar _ _ _
    | with_reducible exact Kin.newVar _ _
    | with_reducible exact Kin.elemOf _
    | with_reducible exact Kin.part _ _ _
    | with_reducible exact Kin.askRoom _
    | with_reducible exact Kin.runtimePanic _
    | with_reducible exact Kin.boundsPanic _ _ _ _
    | with_reducible exact Kin.asIntOf _
    | with_reducible exact Kin.asBool _
    | with_reducible exact Kin.asString _
    | with_reducible exact Kin.asAgg _
    | with_reducible exact Kin.asAddr _
    | with_reducible exact Kin.asInt _
    | with_reducible exact Kin.numberAt _
    | with_reducible exact Kin.behindNumber _
    | with_reducible exact Kin.noView _
    | with_reducible exact Kin.asNumber _ _
    | with_reducible exact Kin.byteOf _
    | with_reducible exact Kin.twoPlaces _ _
    | with_reducible exact Kin.unsafeAdd2 _ _ _ _
    | with_reducible exact Kin.addrSub _ _ _
    | with_reducible exact Kin.addrCmp _ _ _
    | with_reducible exact Kin.addrMod _ _ _
    | with_reducible exact Kin.unsafeAdd _ _ _ _
    | with_reducible exact Kin.movedNumber _ _ _
    | with_reducible exact Kin.movedPointer _ _ _
    | with_reducible exact Kin.intArith _ _ _ _
    | with_reducible exact Kin.intDiv _ _ _ _
    | with_reducible exact Kin.intBits _ _ _ _
    | with_reducible exact Kin.intCmp _ _ _
    | with_reducible exact Kin.shift _ _ _ _ _
    | with_reducible exact Kin.floatArith _ _ _ _
    | with_reducible exact Kin.floatCmp _ _ _ _
    | with_reducible exact Kin.stringOp _ _ _
    | with_reducible exact Kin.intToInt _ _
    | with_reducible exact Kin.floatToInt _ _ _
    | with_reducible exact Kin.floatToFloat _ _ _
    | with_reducible exact Kin.arithC _ _ _ _
    | with_reducible exact Kin.cmpC _ _ _ _
    | with_reducible exact Kin.convC _ _ _
    | with_reducible exact Kin.addC _ _
    | with_reducible exact Kin.subC _ _
    | with_reducible exact Kin.mulC _ _
    | with_reducible exact Kin.quoC _ _
    | with_reducible exact Kin.product _ _ _ _
    | with_reducible exact Kin.corrected _ _ _ _ _
    | with_reducible exact Kin.quotient _ _ _ _
    | with_reducible exact Kin.complexOp _ _ _ _ _ _
    | with_reducible exact Kin.sureAddr _
    | with_reducible exact Kin.partAt _ _ _
    | with_reducible exact Kin.fieldPlace _ _
    | with_reducible exact Kin.sliceBound _ _ _
    | with_reducible exact Kin.sliceBounds _ _ _ _ _ _
    | with_reducible exact Kin.slice _ _ _ _ _
    | with_reducible refine Kin.bindP ?_
    | with_reducible refine Kin.bind ?_ (fun _ => ?_)
    | with_reducible refine Kin.ite _ ?_ ?_
    | split
    | dsimp only))
theorem Kin.makeSlice (t : TypeId) (x y : Value) : Kin P X (Instr.makeSlice t x y) := by
  unfold Instr.makeSlice
  (repeat' (first
    | contradiction
    | (intro b v a v' h; cases b <;> (simp [Go.unsupported, Go.mark, Sem.run] at h; done))
    | (intro v a v' h; first | (cases h; done) | (simp [Go.stuck, Go.unsupported, Sem.run] at h; done))
    | with_reducible exact Kin.pure _
    | with_reducible exact Kin.stuck _
    | exact Kin.unsupported _ (fun g hg => by cases hg)
    | with_reducible exact Kin.goPanic _
    | with_reducible exact Kin.load _
    | with_reducible exact Kin.store _ _
    | with_reducible exact Kin.choose _
    | with_reducible exact Kin.noRoom
    | with_reducible exact Kin.frozen _
    | with_reducible exact Kin.newRow _ _
    | with_reducible exact Kin.typeInfo _
    | with_reducible exact Kin.underlying _
    | with_reducible exact Kin.zeroValue _
    | with_reducible exact Kin.sizeOf _
    | with_reducible exact Kin.isAgg _
    | with_reducible exact Kin.loadCells _ _
    | with_reducible exact Kin.storeCells _ _ _
    | with_reducible exact Kin.loadVar _ _
    | with_reducible exact Kin.storeVar _ _ _
    | with_reducible exact Kin.newVar _ _
    | with_reducible exact Kin.elemOf _
    | with_reducible exact Kin.part _ _ _
    | with_reducible exact Kin.askRoom _
    | with_reducible exact Kin.runtimePanic _
    | with_reducible exact Kin.boundsPanic _ _ _ _
    | with_reducible exact Kin.asIntOf _
    | with_reducible exact Kin.asBool _
    | with_reducible exact Kin.asString _
    | with_reducible exact Kin.asAgg _
    | with_reducible exact Kin.asAddr _
    | with_reducible exact Kin.asInt _
    | with_reducible exact Kin.numberAt _
    | with_reducible exact Kin.behindNumber _
    | with_reducible exact Kin.noView _
    | with_reducible exact Kin.asNumber _ _
    | with_reducible exact Kin.byteOf _
    | with_reducible exact Kin.twoPlaces _ _
    | with_reducible exact Kin.unsafeAdd2 _ _ _ _
    | with_reducible exact Kin.addrSub _ _ _
    | with_reducible exact Kin.addrCmp _ _ _
    | with_reducible exact Kin.addrMod _ _ _
    | with_reducible exact Kin.unsafeAdd _ _ _ _
    | with_reducible exact Kin.movedNumber _ _ _
    | with_reducible exact Kin.movedPointer _ _ _
    | with_reducible exact Kin.intArith _ _ _ _
    | with_reducible exact Kin.intDiv _ _ _ _
    | with_reducible exact Kin.intBits _ _ _ _
    | with_reducible exact Kin.intCmp _ _ _
    | with_reducible exact Kin.shift _ _ _ _ _
    | with_reducible exact Kin.floatArith _ _ _ _
    | with_reducible exact Kin.floatCmp _ _ _ _
    | with_reducible exact Kin.stringOp _ _ _
    | with_reducible exact Kin.intToInt _ _
    | with_reducible exact Kin.floatToInt _ _ _
    | with_reducible exact Kin.floatToFloat _ _ _
    | with_reducible exact Kin.arithC _ _ _ _
    | with_reducible exact Kin.cmpC _ _ _ _
    | with_reducible exact Kin.convC _ _ _
    | with_reducible exact Kin.addC _ _
    | with_reducible exact Kin.subC _ _
    | with_reducible exact Kin.mulC _ _
    | with_reducible exact Kin.quoC _ _
    | with_reducible exact Kin.product _ _ _ _
    | with_reducible exact Kin.corrected _ _ _ _ _
    | with_reducible exact Kin.quotient _ _ _ _
    | with_reducible exact Kin.complexOp _ _ _ _ _ _
    | with_reducible exact Kin.sureAddr _
    | with_reducible exact Kin.partAt _ _ _
    | with_reducible exact Kin.fieldPlace _ _
    | with_reducible exact Kin.sliceBound _ _ _
    | with_reducible exact Kin.sliceBounds _ _ _ _ _ _
    | with_reducible exact Kin.slice _ _ _ _ _
    | with_reducible refine Kin.bindP ?_
    | with_reducible refine Kin.bind ?_ (fun _ => ?_)
    | with_reducible refine Kin.ite _ ?_ ?_
    | split
    | dsimp only))
theorem Kin.foldlM {α β : Type} {f : β → α → Sem β} (hf : ∀ b a, Kin P X (f b a)) : ∀ (l : List α) (b : β), Kin P X (l.foldlM f b)
  | [], b => Kin.pure b
  | a :: l, b => by
    rw [List.foldlM_cons]
    exact Kin.bind (hf b a) fun b' => Kin.foldlM hf l b'
theorem Kin.mapM {α β : Type} {f : α → Sem β} (hf : ∀ a, Kin P X (f a)) (xs : Array α) : Kin P X (xs.mapM f) := by
  rw [Array.mapM_eq_foldlM, ← Array.foldlM_toList]
  exact Kin.foldlM (fun b a => Kin.bind (hf a) fun _ => Kin.pure _) _ _
theorem Kin.forInList {α β : Type} {f : α → β → Sem (ForInStep β)} (hf : ∀ a b, Kin P X (f a b)) : ∀ (l : List α) (b : β), Kin P X (forIn l b f)
  | [], b => by simpa using Kin.pure b
  | a :: l, b => by
    rw [List.forIn_cons]
    refine Kin.bind (hf a b) fun r => ?_
    cases r with
    | done b => exact Kin.pure _
    | yield b => exact Kin.forInList hf l b
theorem Kin.forInRange {β : Type} {f : Nat → β → Sem (ForInStep β)} (hf : ∀ a b, Kin P X (f a b)) (r : Std.Legacy.Range) (b : β) : Kin P X (forIn r b f) := by
  rw [Std.Legacy.Range.forIn_eq_forIn_range']
  exact Kin.forInList hf _ _
theorem Kin.build (t : TypeId) (ps : Array (Nat × Value)) : Kin P X (Instr.build t ps) := by
  unfold Instr.build
  (repeat' (first
    | contradiction
    | (intro b v a v' h; cases b <;> (simp [Go.unsupported, Go.mark, Sem.run] at h; done))
    | (intro v a v' h; first | (cases h; done) | (simp [Go.stuck, Go.unsupported, Sem.run] at h; done))
    | with_reducible exact Kin.pure _
    | with_reducible exact Kin.stuck _
    | exact Kin.unsupported _ (fun g hg => by cases hg)
    | with_reducible exact Kin.goPanic _
    | with_reducible exact Kin.load _
    | with_reducible exact Kin.store _ _
    | with_reducible exact Kin.choose _
    | with_reducible exact Kin.noRoom
    | with_reducible exact Kin.frozen _
    | with_reducible exact Kin.newRow _ _
    | with_reducible refine Kin.mapM (fun _ => ?_) _
    | with_reducible exact Kin.typeInfo _
    | with_reducible exact Kin.underlying _
    | with_reducible exact Kin.zeroValue _
    | with_reducible exact Kin.sizeOf _
    | with_reducible exact Kin.isAgg _
    | with_reducible exact Kin.loadCells _ _
    | with_reducible exact Kin.storeCells _ _ _
    | with_reducible exact Kin.loadVar _ _
    | with_reducible exact Kin.storeVar _ _ _
    | with_reducible exact Kin.newVar _ _
    | with_reducible exact Kin.elemOf _
    | with_reducible exact Kin.part _ _ _
    | with_reducible exact Kin.askRoom _
    | with_reducible exact Kin.runtimePanic _
    | with_reducible exact Kin.boundsPanic _ _ _ _
    | with_reducible exact Kin.asIntOf _
    | with_reducible exact Kin.asBool _
    | with_reducible exact Kin.asString _
    | with_reducible exact Kin.asAgg _
    | with_reducible exact Kin.asAddr _
    | with_reducible exact Kin.asInt _
    | with_reducible exact Kin.numberAt _
    | with_reducible exact Kin.behindNumber _
    | with_reducible exact Kin.noView _
    | with_reducible exact Kin.asNumber _ _
    | with_reducible exact Kin.byteOf _
    | with_reducible exact Kin.twoPlaces _ _
    | with_reducible exact Kin.unsafeAdd2 _ _ _ _
    | with_reducible exact Kin.addrSub _ _ _
    | with_reducible exact Kin.addrCmp _ _ _
    | with_reducible exact Kin.addrMod _ _ _
    | with_reducible exact Kin.unsafeAdd _ _ _ _
    | with_reducible exact Kin.movedNumber _ _ _
    | with_reducible exact Kin.movedPointer _ _ _
    | with_reducible exact Kin.intArith _ _ _ _
    | with_reducible exact Kin.intDiv _ _ _ _
    | with_reducible exact Kin.intBits _ _ _ _
    | with_reducible exact Kin.intCmp _ _ _
    | with_reducible exact Kin.shift _ _ _ _ _
    | with_reducible exact Kin.floatArith _ _ _ _
    | with_reducible exact Kin.floatCmp _ _ _ _
    | with_reducible exact Kin.stringOp _ _ _
    | with_reducible exact Kin.intToInt _ _
    | with_reducible exact Kin.floatToInt _ _ _
    | with_reducible exact Kin.floatToFloat _ _ _
    | with_reducible exact Kin.arithC _ _ _ _
    | with_reducible exact Kin.cmpC _ _ _ _
    | with_reducible exact Kin.convC _ _ _
    | with_reducible exact Kin.addC _ _
    | with_reducible exact Kin.subC _ _
    | with_reducible exact Kin.mulC _ _
    | with_reducible exact Kin.quoC _ _
    | with_reducible exact Kin.product _ _ _ _
    | with_reducible exact Kin.corrected _ _ _ _ _
    | with_reducible exact Kin.quotient _ _ _ _
    | with_reducible exact Kin.complexOp _ _ _ _ _ _
    | with_reducible exact Kin.sureAddr _
    | with_reducible exact Kin.partAt _ _ _
    | with_reducible exact Kin.fieldPlace _ _
    | with_reducible exact Kin.sliceBound _ _ _
    | with_reducible exact Kin.sliceBounds _ _ _ _ _ _
    | with_reducible exact Kin.slice _ _ _ _ _
    | with_reducible refine Kin.bindP ?_
    | with_reducible refine Kin.bind ?_ (fun _ => ?_)
    | with_reducible refine Kin.ite _ ?_ ?_
    | split
    | dsimp only))
theorem Kin.arrayAt (t : TypeId) (x : Value) : Kin P X (Instr.arrayAt t x) := by
  unfold Instr.arrayAt
  (repeat' (first
    | contradiction
    | (intro b v a v' h; cases b <;> (simp [Go.unsupported, Go.mark, Sem.run] at h; done))
    | (intro v a v' h; first | (cases h; done) | (simp [Go.stuck, Go.unsupported, Sem.run] at h; done))
    | with_reducible exact Kin.pure _
    | with_reducible exact Kin.stuck _
    | exact Kin.unsupported _ (fun g hg => by cases hg)
    | with_reducible exact Kin.goPanic _
    | with_reducible exact Kin.load _
    | with_reducible exact Kin.store _ _
    | with_reducible exact Kin.choose _
    | with_reducible exact Kin.noRoom
    | with_reducible exact Kin.frozen _
    | with_reducible exact Kin.newRow _ _
    | with_reducible exact Kin.typeInfo _
    | with_reducible exact Kin.underlying _
    | with_reducible exact Kin.zeroValue _
    | with_reducible exact Kin.sizeOf _
    | with_reducible exact Kin.isAgg _
    | with_reducible exact Kin.loadCells _ _
    | with_reducible exact Kin.storeCells _ _ _
    | with_reducible exact Kin.loadVar _ _
    | with_reducible exact Kin.storeVar _ _ _
    | with_reducible exact Kin.newVar _ _
    | with_reducible exact Kin.elemOf _
    | with_reducible exact Kin.part _ _ _
    | with_reducible exact Kin.askRoom _
    | with_reducible exact Kin.runtimePanic _
    | with_reducible exact Kin.boundsPanic _ _ _ _
    | with_reducible exact Kin.asIntOf _
    | with_reducible exact Kin.asBool _
    | with_reducible exact Kin.asString _
    | with_reducible exact Kin.asAgg _
    | with_reducible exact Kin.asAddr _
    | with_reducible exact Kin.asInt _
    | with_reducible exact Kin.numberAt _
    | with_reducible exact Kin.behindNumber _
    | with_reducible exact Kin.noView _
    | with_reducible exact Kin.asNumber _ _
    | with_reducible exact Kin.byteOf _
    | with_reducible exact Kin.twoPlaces _ _
    | with_reducible exact Kin.unsafeAdd2 _ _ _ _
    | with_reducible exact Kin.addrSub _ _ _
    | with_reducible exact Kin.addrCmp _ _ _
    | with_reducible exact Kin.addrMod _ _ _
    | with_reducible exact Kin.unsafeAdd _ _ _ _
    | with_reducible exact Kin.movedNumber _ _ _
    | with_reducible exact Kin.movedPointer _ _ _
    | with_reducible exact Kin.intArith _ _ _ _
    | with_reducible exact Kin.intDiv _ _ _ _
    | with_reducible exact Kin.intBits _ _ _ _
    | with_reducible exact Kin.intCmp _ _ _
    | with_reducible exact Kin.shift _ _ _ _ _
    | with_reducible exact Kin.floatArith _ _ _ _
    | with_reducible exact Kin.floatCmp _ _ _ _
    | with_reducible exact Kin.stringOp _ _ _
    | with_reducible exact Kin.intToInt _ _
    | with_reducible exact Kin.floatToInt _ _ _
    | with_reducible exact Kin.floatToFloat _ _ _
    | with_reducible exact Kin.arithC _ _ _ _
    | with_reducible exact Kin.cmpC _ _ _ _
    | with_reducible exact Kin.convC _ _ _
    | with_reducible exact Kin.addC _ _
    | with_reducible exact Kin.subC _ _
    | with_reducible exact Kin.mulC _ _
    | with_reducible exact Kin.quoC _ _
    | with_reducible exact Kin.product _ _ _ _
    | with_reducible exact Kin.corrected _ _ _ _ _
    | with_reducible exact Kin.quotient _ _ _ _
    | with_reducible exact Kin.complexOp _ _ _ _ _ _
    | with_reducible exact Kin.sureAddr _
    | with_reducible exact Kin.partAt _ _ _
    | with_reducible exact Kin.fieldPlace _ _
    | with_reducible exact Kin.sliceBound _ _ _
    | with_reducible exact Kin.sliceBounds _ _ _ _ _ _
    | with_reducible exact Kin.slice _ _ _ _ _
    | with_reducible refine Kin.bindP ?_
    | with_reducible refine Kin.bind ?_ (fun _ => ?_)
    | with_reducible refine Kin.ite _ ?_ ?_
    | split
    | dsimp only))
theorem Kin.len (ts : Array TypeId) (t : TypeId) (args : Array Value) : Kin P X (Builtin.len_ ts t args) := by
  unfold Builtin.len_
  (repeat' (first
    | contradiction
    | (intro b v a v' h; cases b <;> (simp [Go.unsupported, Go.mark, Sem.run] at h; done))
    | (intro v a v' h; first | (cases h; done) | (simp [Go.stuck, Go.unsupported, Sem.run] at h; done))
    | with_reducible exact Kin.pure _
    | with_reducible exact Kin.stuck _
    | exact Kin.unsupported _ (fun g hg => by cases hg)
    | with_reducible exact Kin.goPanic _
    | with_reducible exact Kin.load _
    | with_reducible exact Kin.store _ _
    | with_reducible exact Kin.choose _
    | with_reducible exact Kin.noRoom
    | with_reducible exact Kin.frozen _
    | with_reducible exact Kin.newRow _ _
    | with_reducible refine Kin.getObjB _ (fun _ => ?_) ?_ ?_
    | with_reducible exact Kin.typeInfo _
    | with_reducible exact Kin.underlying _
    | with_reducible exact Kin.zeroValue _
    | with_reducible exact Kin.sizeOf _
    | with_reducible exact Kin.isAgg _
    | with_reducible exact Kin.loadCells _ _
    | with_reducible exact Kin.storeCells _ _ _
    | with_reducible exact Kin.loadVar _ _
    | with_reducible exact Kin.storeVar _ _ _
    | with_reducible exact Kin.newVar _ _
    | with_reducible exact Kin.elemOf _
    | with_reducible exact Kin.part _ _ _
    | with_reducible exact Kin.askRoom _
    | with_reducible exact Kin.runtimePanic _
    | with_reducible exact Kin.boundsPanic _ _ _ _
    | with_reducible exact Kin.asIntOf _
    | with_reducible exact Kin.asBool _
    | with_reducible exact Kin.asString _
    | with_reducible exact Kin.asAgg _
    | with_reducible exact Kin.asAddr _
    | with_reducible exact Kin.asInt _
    | with_reducible exact Kin.numberAt _
    | with_reducible exact Kin.behindNumber _
    | with_reducible exact Kin.noView _
    | with_reducible exact Kin.asNumber _ _
    | with_reducible exact Kin.byteOf _
    | with_reducible exact Kin.twoPlaces _ _
    | with_reducible exact Kin.unsafeAdd2 _ _ _ _
    | with_reducible exact Kin.addrSub _ _ _
    | with_reducible exact Kin.addrCmp _ _ _
    | with_reducible exact Kin.addrMod _ _ _
    | with_reducible exact Kin.unsafeAdd _ _ _ _
    | with_reducible exact Kin.movedNumber _ _ _
    | with_reducible exact Kin.movedPointer _ _ _
    | with_reducible exact Kin.intArith _ _ _ _
    | with_reducible exact Kin.intDiv _ _ _ _
    | with_reducible exact Kin.intBits _ _ _ _
    | with_reducible exact Kin.intCmp _ _ _
    | with_reducible exact Kin.shift _ _ _ _ _
    | with_reducible exact Kin.floatArith _ _ _ _
    | with_reducible exact Kin.floatCmp _ _ _ _
    | with_reducible exact Kin.stringOp _ _ _
    | with_reducible exact Kin.intToInt _ _
    | with_reducible exact Kin.floatToInt _ _ _
    | with_reducible exact Kin.floatToFloat _ _ _
    | with_reducible exact Kin.arithC _ _ _ _
    | with_reducible exact Kin.cmpC _ _ _ _
    | with_reducible exact Kin.convC _ _ _
    | with_reducible exact Kin.addC _ _
    | with_reducible exact Kin.subC _ _
    | with_reducible exact Kin.mulC _ _
    | with_reducible exact Kin.quoC _ _
    | with_reducible exact Kin.product _ _ _ _
    | with_reducible exact Kin.corrected _ _ _ _ _
    | with_reducible exact Kin.quotient _ _ _ _
    | with_reducible exact Kin.complexOp _ _ _ _ _ _
    | with_reducible exact Kin.sureAddr _
    | with_reducible exact Kin.partAt _ _ _
    | with_reducible exact Kin.fieldPlace _ _
    | with_reducible exact Kin.sliceBound _ _ _
    | with_reducible exact Kin.sliceBounds _ _ _ _ _ _
    | with_reducible exact Kin.slice _ _ _ _ _
    | with_reducible refine Kin.bindP ?_
    | with_reducible refine Kin.bind ?_ (fun _ => ?_)
    | with_reducible refine Kin.ite _ ?_ ?_
    | split
    | dsimp only))
theorem Kin.cap (ts : Array TypeId) (t : TypeId) (args : Array Value) : Kin P X (Builtin.cap_ ts t args) := by
  unfold Builtin.cap_
  (repeat' (first
    | contradiction
    | (intro b v a v' h; cases b <;> (simp [Go.unsupported, Go.mark, Sem.run] at h; done))
    | (intro v a v' h; first | (cases h; done) | (simp [Go.stuck, Go.unsupported, Sem.run] at h; done))
    | with_reducible exact Kin.pure _
    | with_reducible exact Kin.stuck _
    | exact Kin.unsupported _ (fun g hg => by cases hg)
    | with_reducible exact Kin.goPanic _
    | with_reducible exact Kin.load _
    | with_reducible exact Kin.store _ _
    | with_reducible exact Kin.choose _
    | with_reducible exact Kin.noRoom
    | with_reducible exact Kin.frozen _
    | with_reducible exact Kin.newRow _ _
    | with_reducible refine Kin.getObjB _ (fun _ => ?_) ?_ ?_
    | with_reducible exact Kin.typeInfo _
    | with_reducible exact Kin.underlying _
    | with_reducible exact Kin.zeroValue _
    | with_reducible exact Kin.sizeOf _
    | with_reducible exact Kin.isAgg _
    | with_reducible exact Kin.loadCells _ _
    | with_reducible exact Kin.storeCells _ _ _
    | with_reducible exact Kin.loadVar _ _
    | with_reducible exact Kin.storeVar _ _ _
    | with_reducible exact Kin.newVar _ _
    | with_reducible exact Kin.elemOf _
    | with_reducible exact Kin.part _ _ _
    | with_reducible exact Kin.askRoom _
    | with_reducible exact Kin.runtimePanic _
    | with_reducible exact Kin.boundsPanic _ _ _ _
    | with_reducible exact Kin.asIntOf _
    | with_reducible exact Kin.asBool _
    | with_reducible exact Kin.asString _
    | with_reducible exact Kin.asAgg _
    | with_reducible exact Kin.asAddr _
    | with_reducible exact Kin.asInt _
    | with_reducible exact Kin.numberAt _
    | with_reducible exact Kin.behindNumber _
    | with_reducible exact Kin.noView _
    | with_reducible exact Kin.asNumber _ _
    | with_reducible exact Kin.byteOf _
    | with_reducible exact Kin.twoPlaces _ _
    | with_reducible exact Kin.unsafeAdd2 _ _ _ _
    | with_reducible exact Kin.addrSub _ _ _
    | with_reducible exact Kin.addrCmp _ _ _
    | with_reducible exact Kin.addrMod _ _ _
    | with_reducible exact Kin.unsafeAdd _ _ _ _
    | with_reducible exact Kin.movedNumber _ _ _
    | with_reducible exact Kin.movedPointer _ _ _
    | with_reducible exact Kin.intArith _ _ _ _
    | with_reducible exact Kin.intDiv _ _ _ _
    | with_reducible exact Kin.intBits _ _ _ _
    | with_reducible exact Kin.intCmp _ _ _
    | with_reducible exact Kin.shift _ _ _ _ _
    | with_reducible exact Kin.floatArith _ _ _ _
    | with_reducible exact Kin.floatCmp _ _ _ _
    | with_reducible exact Kin.stringOp _ _ _
    | with_reducible exact Kin.intToInt _ _
    | with_reducible exact Kin.floatToInt _ _ _
    | with_reducible exact Kin.floatToFloat _ _ _
    | with_reducible exact Kin.arithC _ _ _ _
    | with_reducible exact Kin.cmpC _ _ _ _
    | with_reducible exact Kin.convC _ _ _
    | with_reducible exact Kin.addC _ _
    | with_reducible exact Kin.subC _ _
    | with_reducible exact Kin.mulC _ _
    | with_reducible exact Kin.quoC _ _
    | with_reducible exact Kin.product _ _ _ _
    | with_reducible exact Kin.corrected _ _ _ _ _
    | with_reducible exact Kin.quotient _ _ _ _
    | with_reducible exact Kin.complexOp _ _ _ _ _ _
    | with_reducible exact Kin.sureAddr _
    | with_reducible exact Kin.partAt _ _ _
    | with_reducible exact Kin.fieldPlace _ _
    | with_reducible exact Kin.sliceBound _ _ _
    | with_reducible exact Kin.sliceBounds _ _ _ _ _ _
    | with_reducible exact Kin.slice _ _ _ _ _
    | with_reducible refine Kin.bindP ?_
    | with_reducible refine Kin.bind ?_ (fun _ => ?_)
    | with_reducible refine Kin.ite _ ?_ ?_
    | split
    | dsimp only))
theorem Kin.lenOf (x : Value) : Kin P X (Builtin.lenOf x) := by
  unfold Builtin.lenOf
  (repeat' (first
    | contradiction
    | (intro b v a v' h; cases b <;> (simp [Go.unsupported, Go.mark, Sem.run] at h; done))
    | (intro v a v' h; first | (cases h; done) | (simp [Go.stuck, Go.unsupported, Sem.run] at h; done))
    | with_reducible exact Kin.pure _
    | with_reducible exact Kin.stuck _
    | exact Kin.unsupported _ (fun g hg => by cases hg)
    | with_reducible exact Kin.goPanic _
    | with_reducible exact Kin.load _
    | with_reducible exact Kin.store _ _
    | with_reducible exact Kin.choose _
    | with_reducible exact Kin.noRoom
    | with_reducible exact Kin.frozen _
    | with_reducible exact Kin.newRow _ _
    | with_reducible exact Kin.typeInfo _
    | with_reducible exact Kin.underlying _
    | with_reducible exact Kin.zeroValue _
    | with_reducible exact Kin.sizeOf _
    | with_reducible exact Kin.isAgg _
    | with_reducible exact Kin.loadCells _ _
    | with_reducible exact Kin.storeCells _ _ _
    | with_reducible exact Kin.loadVar _ _
    | with_reducible exact Kin.storeVar _ _ _
    | with_reducible exact Kin.newVar _ _
    | with_reducible exact Kin.elemOf _
    | with_reducible exact Kin.part _ _ _
    | with_reducible exact Kin.askRoom _
    | with_reducible exact Kin.runtimePanic _
    | with_reducible exact Kin.boundsPanic _ _ _ _
    | with_reducible exact Kin.asIntOf _
    | with_reducible exact Kin.asBool _
    | with_reducible exact Kin.asString _
    | with_reducible exact Kin.asAgg _
    | with_reducible exact Kin.asAddr _
    | with_reducible exact Kin.asInt _
    | with_reducible exact Kin.numberAt _
    | with_reducible exact Kin.behindNumber _
    | with_reducible exact Kin.noView _
    | with_reducible exact Kin.asNumber _ _
    | with_reducible exact Kin.byteOf _
    | with_reducible exact Kin.twoPlaces _ _
    | with_reducible exact Kin.unsafeAdd2 _ _ _ _
    | with_reducible exact Kin.addrSub _ _ _
    | with_reducible exact Kin.addrCmp _ _ _
    | with_reducible exact Kin.addrMod _ _ _
    | with_reducible exact Kin.unsafeAdd _ _ _ _
    | with_reducible exact Kin.movedNumber _ _ _
    | with_reducible exact Kin.movedPointer _ _ _
    | with_reducible exact Kin.intArith _ _ _ _
    | with_reducible exact Kin.intDiv _ _ _ _
    | with_reducible exact Kin.intBits _ _ _ _
    | with_reducible exact Kin.intCmp _ _ _
    | with_reducible exact Kin.shift _ _ _ _ _
    | with_reducible exact Kin.floatArith _ _ _ _
    | with_reducible exact Kin.floatCmp _ _ _ _
    | with_reducible exact Kin.stringOp _ _ _
    | with_reducible exact Kin.intToInt _ _
    | with_reducible exact Kin.floatToInt _ _ _
    | with_reducible exact Kin.floatToFloat _ _ _
    | with_reducible exact Kin.arithC _ _ _ _
    | with_reducible exact Kin.cmpC _ _ _ _
    | with_reducible exact Kin.convC _ _ _
    | with_reducible exact Kin.addC _ _
    | with_reducible exact Kin.subC _ _
    | with_reducible exact Kin.mulC _ _
    | with_reducible exact Kin.quoC _ _
    | with_reducible exact Kin.product _ _ _ _
    | with_reducible exact Kin.corrected _ _ _ _ _
    | with_reducible exact Kin.quotient _ _ _ _
    | with_reducible exact Kin.complexOp _ _ _ _ _ _
    | with_reducible exact Kin.sureAddr _
    | with_reducible exact Kin.partAt _ _ _
    | with_reducible exact Kin.fieldPlace _ _
    | with_reducible exact Kin.sliceBound _ _ _
    | with_reducible exact Kin.sliceBounds _ _ _ _ _ _
    | with_reducible exact Kin.slice _ _ _ _ _
    | with_reducible refine Kin.bindP ?_
    | with_reducible refine Kin.bind ?_ (fun _ => ?_)
    | with_reducible refine Kin.ite _ ?_ ?_
    | split
    | dsimp only))
theorem Kin.firstCells (s n : Nat) (x : Value) : Kin P X (Builtin.firstCells s n x) := by
  unfold Builtin.firstCells
  (repeat' (first
    | contradiction
    | (intro b v a v' h; cases b <;> (simp [Go.unsupported, Go.mark, Sem.run] at h; done))
    | (intro v a v' h; first | (cases h; done) | (simp [Go.stuck, Go.unsupported, Sem.run] at h; done))
    | with_reducible exact Kin.pure _
    | with_reducible exact Kin.stuck _
    | exact Kin.unsupported _ (fun g hg => by cases hg)
    | with_reducible exact Kin.goPanic _
    | with_reducible exact Kin.load _
    | with_reducible exact Kin.store _ _
    | with_reducible exact Kin.choose _
    | with_reducible exact Kin.noRoom
    | with_reducible exact Kin.frozen _
    | with_reducible exact Kin.newRow _ _
    | with_reducible exact Kin.typeInfo _
    | with_reducible exact Kin.underlying _
    | with_reducible exact Kin.zeroValue _
    | with_reducible exact Kin.sizeOf _
    | with_reducible exact Kin.isAgg _
    | with_reducible exact Kin.loadCells _ _
    | with_reducible exact Kin.storeCells _ _ _
    | with_reducible exact Kin.loadVar _ _
    | with_reducible exact Kin.storeVar _ _ _
    | with_reducible exact Kin.newVar _ _
    | with_reducible exact Kin.elemOf _
    | with_reducible exact Kin.part _ _ _
    | with_reducible exact Kin.askRoom _
    | with_reducible exact Kin.runtimePanic _
    | with_reducible exact Kin.boundsPanic _ _ _ _
    | with_reducible exact Kin.asIntOf _
    | with_reducible exact Kin.asBool _
    | with_reducible exact Kin.asString _
    | with_reducible exact Kin.asAgg _
    | with_reducible exact Kin.asAddr _
    | with_reducible exact Kin.asInt _
    | with_reducible exact Kin.numberAt _
    | with_reducible exact Kin.behindNumber _
    | with_reducible exact Kin.noView _
    | with_reducible exact Kin.asNumber _ _
    | with_reducible exact Kin.byteOf _
    | with_reducible exact Kin.twoPlaces _ _
    | with_reducible exact Kin.unsafeAdd2 _ _ _ _
    | with_reducible exact Kin.addrSub _ _ _
    | with_reducible exact Kin.addrCmp _ _ _
    | with_reducible exact Kin.addrMod _ _ _
    | with_reducible exact Kin.unsafeAdd _ _ _ _
    | with_reducible exact Kin.movedNumber _ _ _
    | with_reducible exact Kin.movedPointer _ _ _
    | with_reducible exact Kin.intArith _ _ _ _
    | with_reducible exact Kin.intDiv _ _ _ _
    | with_reducible exact Kin.intBits _ _ _ _
    | with_reducible exact Kin.intCmp _ _ _
    | with_reducible exact Kin.shift _ _ _ _ _
    | with_reducible exact Kin.floatArith _ _ _ _
    | with_reducible exact Kin.floatCmp _ _ _ _
    | with_reducible exact Kin.stringOp _ _ _
    | with_reducible exact Kin.intToInt _ _
    | with_reducible exact Kin.floatToInt _ _ _
    | with_reducible exact Kin.floatToFloat _ _ _
    | with_reducible exact Kin.arithC _ _ _ _
    | with_reducible exact Kin.cmpC _ _ _ _
    | with_reducible exact Kin.convC _ _ _
    | with_reducible exact Kin.addC _ _
    | with_reducible exact Kin.subC _ _
    | with_reducible exact Kin.mulC _ _
    | with_reducible exact Kin.quoC _ _
    | with_reducible exact Kin.product _ _ _ _
    | with_reducible exact Kin.corrected _ _ _ _ _
    | with_reducible exact Kin.quotient _ _ _ _
    | with_reducible exact Kin.complexOp _ _ _ _ _ _
    | with_reducible exact Kin.sureAddr _
    | with_reducible exact Kin.partAt _ _ _
    | with_reducible exact Kin.fieldPlace _ _
    | with_reducible exact Kin.sliceBound _ _ _
    | with_reducible exact Kin.sliceBounds _ _ _ _ _ _
    | with_reducible exact Kin.slice _ _ _ _ _
    | with_reducible refine Kin.bindP ?_
    | with_reducible refine Kin.bind ?_ (fun _ => ?_)
    | with_reducible refine Kin.ite _ ?_ ?_
    | split
    | dsimp only))
theorem Kin.copy (ts : Array TypeId) (t : TypeId) (args : Array Value) : Kin P X (Builtin.copy_ ts t args) := by
  unfold Builtin.copy_
  (repeat' (first
    | contradiction
    | (intro b v a v' h; cases b <;> (simp [Go.unsupported, Go.mark, Sem.run] at h; done))
    | (intro v a v' h; first | (cases h; done) | (simp [Go.stuck, Go.unsupported, Sem.run] at h; done))
    | with_reducible exact Kin.pure _
    | with_reducible exact Kin.stuck _
    | exact Kin.unsupported _ (fun g hg => by cases hg)
    | with_reducible exact Kin.goPanic _
    | with_reducible exact Kin.load _
    | with_reducible exact Kin.store _ _
    | with_reducible exact Kin.choose _
    | with_reducible exact Kin.noRoom
    | with_reducible exact Kin.frozen _
    | with_reducible exact Kin.newRow _ _
    | with_reducible exact Kin.typeInfo _
    | with_reducible exact Kin.underlying _
    | with_reducible exact Kin.zeroValue _
    | with_reducible exact Kin.sizeOf _
    | with_reducible exact Kin.isAgg _
    | with_reducible exact Kin.loadCells _ _
    | with_reducible exact Kin.storeCells _ _ _
    | with_reducible exact Kin.loadVar _ _
    | with_reducible exact Kin.storeVar _ _ _
    | with_reducible exact Kin.newVar _ _
    | with_reducible exact Kin.elemOf _
    | with_reducible exact Kin.part _ _ _
    | with_reducible exact Kin.askRoom _
    | with_reducible exact Kin.runtimePanic _
    | with_reducible exact Kin.boundsPanic _ _ _ _
    | with_reducible exact Kin.asIntOf _
    | with_reducible exact Kin.asBool _
    | with_reducible exact Kin.asString _
    | with_reducible exact Kin.asAgg _
    | with_reducible exact Kin.asAddr _
    | with_reducible exact Kin.asInt _
    | with_reducible exact Kin.numberAt _
    | with_reducible exact Kin.behindNumber _
    | with_reducible exact Kin.noView _
    | with_reducible exact Kin.asNumber _ _
    | with_reducible exact Kin.byteOf _
    | with_reducible exact Kin.twoPlaces _ _
    | with_reducible exact Kin.unsafeAdd2 _ _ _ _
    | with_reducible exact Kin.addrSub _ _ _
    | with_reducible exact Kin.addrCmp _ _ _
    | with_reducible exact Kin.addrMod _ _ _
    | with_reducible exact Kin.unsafeAdd _ _ _ _
    | with_reducible exact Kin.movedNumber _ _ _
    | with_reducible exact Kin.movedPointer _ _ _
    | with_reducible exact Kin.intArith _ _ _ _
    | with_reducible exact Kin.intDiv _ _ _ _
    | with_reducible exact Kin.intBits _ _ _ _
    | with_reducible exact Kin.intCmp _ _ _
    | with_reducible exact Kin.shift _ _ _ _ _
    | with_reducible exact Kin.floatArith _ _ _ _
    | with_reducible exact Kin.floatCmp _ _ _ _
    | with_reducible exact Kin.stringOp _ _ _
    | with_reducible exact Kin.intToInt _ _
    | with_reducible exact Kin.floatToInt _ _ _
    | with_reducible exact Kin.floatToFloat _ _ _
    | with_reducible exact Kin.arithC _ _ _ _
    | with_reducible exact Kin.cmpC _ _ _ _
    | with_reducible exact Kin.convC _ _ _
    | with_reducible exact Kin.addC _ _
    | with_reducible exact Kin.subC _ _
    | with_reducible exact Kin.mulC _ _
    | with_reducible exact Kin.quoC _ _
    | with_reducible exact Kin.product _ _ _ _
    | with_reducible exact Kin.corrected _ _ _ _ _
    | with_reducible exact Kin.quotient _ _ _ _
    | with_reducible exact Kin.complexOp _ _ _ _ _ _
    | with_reducible exact Kin.sureAddr _
    | with_reducible exact Kin.partAt _ _ _
    | with_reducible exact Kin.fieldPlace _ _
    | with_reducible exact Kin.sliceBound _ _ _
    | with_reducible exact Kin.sliceBounds _ _ _ _ _ _
    | with_reducible exact Kin.slice _ _ _ _ _
    | with_reducible exact Kin.lenOf _
    | with_reducible exact Kin.firstCells _ _ _
    | with_reducible refine Kin.bindP ?_
    | with_reducible refine Kin.bind ?_ (fun _ => ?_)
    | with_reducible refine Kin.ite _ ?_ ?_
    | split
    | dsimp only))
def MonoP (P : Program) {α : Type} (s : Sem α) : Prop := ∀ w, NoView w → Mono1 w (s.run P w)
theorem MonoP.pure {α : Type} (a : α) : MonoP P (Pure.pure a : Sem α) := fun w hw => ⟨Nat.le_refl _, hw, Nat.le_refl _⟩
theorem MonoP.halt {α : Type} (x : Halt) : MonoP P (Sem.halt x : Sem α) := fun w hw => ⟨Nat.le_refl _, hw⟩
theorem MonoP.bind {α β : Type} {s : Sem α} {f : α → Sem β} (h : MonoP P s) (k : ∀ a, MonoP P (f a)) : MonoP P (s >>= f) := bind_mono h k
theorem MonoP.noRoom : MonoP P (Go.mark .noRoom) := (Kin.noRoom (X := fun _ => False)).mono
theorem MonoP.unsupported {α : Type} (x : Unsupported) : MonoP P (Go.unsupported x : Sem α) := MonoP.halt _
theorem holds_mono (a : Addr) (n : Nat) : MonoP P (Builtin.holdsCells a n) := by
  unfold Builtin.holdsCells
  refine MonoP.bind (shape_mono _) (fun s => ?_)
  split <;> exact MonoP.pure _
theorem mayShare_mono (size sLen n : Nat) (base : Option Addr) (x : Value) : MonoP P (Builtin.mayShare size sLen n base x) := by
  unfold Builtin.mayShare
  (repeat' (first
    | exact MonoP.pure _
    | exact MonoP.halt _
    | exact holds_mono _ _
    | exact (Kin.frozen (X := fun _ => False) _).mono
    | with_reducible refine MonoP.bind ?_ (fun _ => ?_)
    | split
    | dsimp only))
def HalP (P : Program) {α : Type} (s : Sem α) : Prop := MonoP P s ∧ ∀ w, NoView w → ∀ x w', s.run P w = .halt x w' → OkHalt x
theorem HalP.pure {α : Type} (a : α) : HalP P (Pure.pure a : Sem α) := ⟨MonoP.pure a, fun w _ x w' h => by cases h⟩
theorem HalP.bind {α β : Type} {s : Sem α} {f : α → Sem β} (h : HalP P s) (k : ∀ a, HalP P (f a)) : HalP P (s >>= f) := ⟨MonoP.bind h.1 fun a => (k a).1, bind_hal h.1 h.2 fun a => (k a).2⟩
theorem HalP.of {α : Type} {s : Sem α} (h : Kin P (fun _ => False) s) : HalP P s := ⟨h.mono, h.hal⟩
theorem HalP.noRoom : HalP P (Go.mark .noRoom) := HalP.of Kin.noRoom
theorem HalP.unsupported {α : Type} (x : Unsupported) (hx : ∀ g, x ≠ .initOrder g) : HalP P (Go.unsupported x : Sem α) := HalP.of (Kin.unsupported x hx)
theorem holds_hal (a : Addr) (n : Nat) : HalP P (Builtin.holdsCells a n) := by
  unfold Builtin.holdsCells
  refine HalP.bind ⟨shape_mono _, fun w _ x w' h => by cases h⟩ (fun s => ?_)
  split <;> exact HalP.pure _
theorem mayShare_hal (size sLen n : Nat) (base : Option Addr) (x : Value) : HalP P (Builtin.mayShare size sLen n base x) := by
  unfold Builtin.mayShare
  (repeat' (first
    | exact HalP.pure _
    | exact holds_hal _ _
    | exact HalP.of (Kin.frozen _)
    | with_reducible refine HalP.bind ?_ (fun _ => ?_)
    | split
    | dsimp only))
theorem Kin.noMem {α : Type} (size sLen n : Nat) (base : Option Addr) (x : Value) {f : Bool → Sem α} (hm : ∀ b, HalP P (f b)) (hd : ∀ b v a v', (f b).run P v ≠ .ok a v') : Kin P X (Builtin.mayShare size sLen n base x >>= f) := by
  refine Kin.dead (HalP.bind (mayShare_hal size sLen n base x) hm).2 (HalP.bind (mayShare_hal size sLen n base x) hm).1 (fun v a v' h => ?_)
  rw [Sem.run_bind] at h
  cases hr : (Builtin.mayShare size sLen n base x).run P v with
  | halt y w' => rw [hr] at h; cases h
  | ok b v1 =>
    rw [hr] at h
    exact hd b v1 a v' h
set_option maxHeartbeats 16000000 in
theorem Kin.append (ts : Array TypeId) (t : TypeId) (args : Array Value) : Kin P X (Builtin.append_ ts t args) := by
  unfold Builtin.append_
  (repeat' (first
    | contradiction
    | (intro b v a v' h; cases b <;> (simp [Go.unsupported, Go.mark, Sem.run] at h; done))
    | (intro v a v' h; first | (cases h; done) | (simp [Go.stuck, Go.unsupported, Sem.run] at h; done))
    | with_reducible exact Kin.pure _
    | with_reducible exact Kin.stuck _
    | exact Kin.unsupported _ (fun g hg => by cases hg)
    | with_reducible exact Kin.goPanic _
    | with_reducible exact Kin.load _
    | with_reducible exact Kin.store _ _
    | with_reducible exact Kin.choose _
    | with_reducible exact Kin.noRoom
    | with_reducible exact Kin.frozen _
    | with_reducible exact Kin.newRow _ _
    | with_reducible refine Kin.noMem _ _ _ _ _ (fun b => ?_) ?_
    | with_reducible exact HalP.noRoom
    | (exact HalP.unsupported _ (fun g hg => by cases hg))
    | with_reducible refine HalP.bind ?_ (fun _ => ?_)
    | with_reducible exact Kin.typeInfo _
    | with_reducible exact Kin.underlying _
    | with_reducible exact Kin.zeroValue _
    | with_reducible exact Kin.sizeOf _
    | with_reducible exact Kin.isAgg _
    | with_reducible exact Kin.loadCells _ _
    | with_reducible exact Kin.storeCells _ _ _
    | with_reducible exact Kin.loadVar _ _
    | with_reducible exact Kin.storeVar _ _ _
    | with_reducible exact Kin.newVar _ _
    | with_reducible exact Kin.elemOf _
    | with_reducible exact Kin.part _ _ _
    | with_reducible exact Kin.askRoom _
    | with_reducible exact Kin.runtimePanic _
    | with_reducible exact Kin.boundsPanic _ _ _ _
    | with_reducible exact Kin.asIntOf _
    | with_reducible exact Kin.asBool _
    | with_reducible exact Kin.asString _
    | with_reducible exact Kin.asAgg _
    | with_reducible exact Kin.asAddr _
    | with_reducible exact Kin.asInt _
    | with_reducible exact Kin.numberAt _
    | with_reducible exact Kin.behindNumber _
    | with_reducible exact Kin.noView _
    | with_reducible exact Kin.asNumber _ _
    | with_reducible exact Kin.byteOf _
    | with_reducible exact Kin.twoPlaces _ _
    | with_reducible exact Kin.unsafeAdd2 _ _ _ _
    | with_reducible exact Kin.addrSub _ _ _
    | with_reducible exact Kin.addrCmp _ _ _
    | with_reducible exact Kin.addrMod _ _ _
    | with_reducible exact Kin.unsafeAdd _ _ _ _
    | with_reducible exact Kin.movedNumber _ _ _
    | with_reducible exact Kin.movedPointer _ _ _
    | with_reducible exact Kin.intArith _ _ _ _
    | with_reducible exact Kin.intDiv _ _ _ _
    | with_reducible exact Kin.intBits _ _ _ _
    | with_reducible exact Kin.intCmp _ _ _
    | with_reducible exact Kin.shift _ _ _ _ _
    | with_reducible exact Kin.floatArith _ _ _ _
    | with_reducible exact Kin.floatCmp _ _ _ _
    | with_reducible exact Kin.stringOp _ _ _
    | with_reducible exact Kin.intToInt _ _
    | with_reducible exact Kin.floatToInt _ _ _
    | with_reducible exact Kin.floatToFloat _ _ _
    | with_reducible exact Kin.arithC _ _ _ _
    | with_reducible exact Kin.cmpC _ _ _ _
    | with_reducible exact Kin.convC _ _ _
    | with_reducible exact Kin.addC _ _
    | with_reducible exact Kin.subC _ _
    | with_reducible exact Kin.mulC _ _
    | with_reducible exact Kin.quoC _ _
    | with_reducible exact Kin.product _ _ _ _
    | with_reducible exact Kin.corrected _ _ _ _ _
    | with_reducible exact Kin.quotient _ _ _ _
    | with_reducible exact Kin.complexOp _ _ _ _ _ _
    | with_reducible exact Kin.sureAddr _
    | with_reducible exact Kin.partAt _ _ _
    | with_reducible exact Kin.fieldPlace _ _
    | with_reducible exact Kin.sliceBound _ _ _
    | with_reducible exact Kin.sliceBounds _ _ _ _ _ _
    | with_reducible exact Kin.slice _ _ _ _ _
    | with_reducible exact Kin.lenOf _
    | with_reducible exact Kin.firstCells _ _ _
    | with_reducible refine Kin.bindP ?_
    | with_reducible refine Kin.bind ?_ (fun _ => ?_)
    | with_reducible refine Kin.ite _ ?_ ?_
    | split
    | dsimp only))
end
end Go.Proofs.Ytoipkpndfgcmcaa.Veils
