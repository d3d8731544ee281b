/-
  n workers at once, each of which may make one block of its own; their starter, which makes what it likes, waits for them and goes on: what each suffers and what each may do; where each stands. The conditions stand in each definition. No program in sight.
-/
import Derived.Test.YtoipkpndfgcmcaaCvWalk
import Derived.Conc.CrowdStepC2
import Derived.Conc.CrowdRun
namespace Go.Proofs.Ytoipkpndfgcmcaa.Crew
open Go Go.Conc Go.ConcN Go.RowKit Go.Proofs.Ytoipkpndfgcmcaa.Veils
open Go.ConcR (KK wgBlock WgAt stA smA rd wr mk Payload DC0 Bk)
set_option linter.unusedVariables false
set_option linter.unusedSectionVars false
variable [Payload]

/-- The place: the group's block, the payload's, how many, where the phase's blocks begin, the type of a worker's own block. -/
structure Lay where
  ty : TypeId
  Wg : Nat
  C : Nat
  n : Nat
  N0 : Nat
  eH : TypeId
variable (L : Lay)
def Half (w : World) (b : Nat) : Prop := L.N0 ≤ b ∧ ∃ cs, w.heap[b]? = some (.cells cs L.eH)
/-- What the starter suffers. -/
structure RQ (w w₁ : World) : Prop where
  tape : w₁.tape = w.tape
  os : w₁.os = w.os
  out : w₁.output = w.output
  size : w.heap.size ≤ w₁.heap.size
  block : ∀ b, b < w.heap.size → b ≠ L.C → b ≠ L.Wg → ¬ Half L w b → w₁.heap[b]? = w.heap[b]?
  half : ∀ b, Half L w b → Half L w₁ b
  live : WgLive L.ty L.Wg w → WgLive L.ty L.Wg w₁
  pay : PayAt L.C L.n w → PayAt L.C L.n w₁
/-- What worker number i suffers, its own block being b. -/
structure RX (Low : Nat) (b : Option Nat) (i : Nat) (w w₁ : World) : Prop where
  size : w.heap.size ≤ w₁.heap.size
  block : ∀ r, r < Low → r < w.heap.size → r ≠ L.C → r ≠ L.Wg → ¬ Half L w r → w₁.heap[r]? = w.heap[r]?
  half : ∀ r, Half L w r → Half L w₁ r
  own : ∀ r, b = some r → w₁.heap[r]? = w.heap[r]?
  live : WgLive L.ty L.Wg w → WgLive L.ty L.Wg w₁
  pay : PayAt L.C L.n w → PayAt L.C L.n w₁
  cell : w₁.cell? ⟨L.C, i, none⟩ = w.cell? ⟨L.C, i, none⟩
/-- What the starter's own step may be while its blocks from Lw on are nobody else's. -/
def EvQ (X : Nat → Prop) (Lw : Nat) (w w' : World) (e : Event) : Prop :=
  (∃ a wr', e = ⟨.cell a, wr', false⟩ ∧ ¬ X a.block ∧ a.block ≠ L.C ∧ ¬ Half L w a.block ∧ a.block < w'.heap.size ∧ (wr' = true → Lw ≤ a.block)) ∨ e.loc = .mark .noRoom ∨ (∃ a, (e = ⟨.mark (.read a), false, true⟩ ∨ e = ⟨.mark (.write a), false, true⟩) ∧ a.block = L.Wg)
structure DQ (X : Nat → Prop) (Lw : Nat) (w w' : World) (es : Array Event) : Prop where
  tape : w'.tape = w.tape
  os : w'.os = w.os
  out : w'.output = w.output
  size : w.heap.size ≤ w'.heap.size
  block : ∀ b, b < w.heap.size → (b < Lw ∨ Half L w b) → w'.heap[b]? = w.heap[b]?
  half : ∀ b, Half L w' b → Half L w b
  evs : ∀ e ∈ es, EvQ L X Lw w w' e
def EvX (Rd : Nat → Prop) (b : Option Nat) (i : Nat) (w' : World) (e : Event) : Prop :=
  (∃ a wr', e = ⟨.cell a, wr', false⟩ ∧ a.block < w'.heap.size ∧ ((Rd a.block ∧ wr' = false) ∨ a = ⟨L.C, i, none⟩ ∨ b = some a.block)) ∨ e.loc = .mark .noRoom
structure DX (Rd : Nat → Prop) (b : Option Nat) (i : Nat) (w w' : World) (es : Array Event) : Prop where
  tape : w'.tape = w.tape
  os : w'.os = w.os
  out : w'.output = w.output
  size : w'.heap.size = w.heap.size
  block : ∀ r, r ≠ L.C → b ≠ some r → w'.heap[r]? = w.heap[r]?
  half : ∀ r, Half L w r → Half L w' r
  half' : ∀ r, Half L w' r → Half L w r
  pay : PayAt L.C L.n w → PayAt L.C L.n w'
  cells : ∀ i', i' ≠ i → w'.cell? ⟨L.C, i', none⟩ = w.cell? ⟨L.C, i', none⟩
  evs : ∀ e ∈ es, EvX L Rd b i w' e
section
variable {L} {w w₁ w₂ : World}
theorem RQ.refl (w : World) : RQ L w w := ⟨rfl, rfl, rfl, Nat.le_refl _, fun _ _ _ _ _ => rfl, fun _ h => h, id, id⟩
/-- A block that is no worker's own stays so. -/
theorem RQ.nohalf (h : RQ L w w₁) {b : Nat} (hb : b < w.heap.size) (hC : b ≠ L.C) (hW : b ≠ L.Wg) (hn : ¬ Half L w b) : ¬ Half L w₁ b := fun ⟨h1, cs, h2⟩ => hn ⟨h1, cs, by rw [← h.block b hb hC hW hn]; exact h2⟩
theorem RQ.trans (h : RQ L w w₁) (k : RQ L w₁ w₂) : RQ L w w₂ :=
  ⟨k.tape.trans h.tape, k.os.trans h.os, k.out.trans h.out, Nat.le_trans h.size k.size, fun b hb hC hW hn => (k.block b (Nat.lt_of_lt_of_le hb h.size) hC hW (h.nohalf hb hC hW hn)).trans (h.block b hb hC hW hn), fun b hb => k.half b (h.half b hb), fun x => k.live (h.live x), fun x => k.pay (h.pay x)⟩
theorem RQ.at (w : World) (d : Nat) : RQ L w (w.at d) := ⟨rfl, rfl, rfl, Nat.le_refl _, fun _ _ _ _ _ => rfl, fun _ h => h, id, id⟩
variable {Low i : Nat} {b : Option Nat}
theorem RX.refl (w : World) : RX L Low b i w w := ⟨Nat.le_refl _, fun _ _ _ _ _ _ => rfl, fun _ h => h, fun _ _ => rfl, id, id, rfl⟩
theorem RX.nohalf (h : RX L Low b i w w₁) {r : Nat} (hl : r < Low) (hr : r < w.heap.size) (hC : r ≠ L.C) (hW : r ≠ L.Wg) (hn : ¬ Half L w r) : ¬ Half L w₁ r := fun ⟨h1, cs, h2⟩ => hn ⟨h1, cs, by rw [← h.block r hl hr hC hW hn]; exact h2⟩
theorem RX.trans (h : RX L Low b i w w₁) (k : RX L Low b i w₁ w₂) : RX L Low b i w w₂ :=
  ⟨Nat.le_trans h.size k.size, fun r hl hr hC hW hn => (k.block r hl (Nat.lt_of_lt_of_le hr h.size) hC hW (h.nohalf hl hr hC hW hn)).trans (h.block r hl hr hC hW hn), fun r x => k.half r (h.half r x), fun r x => (k.own r x).trans (h.own r x), fun x => k.live (h.live x), fun x => k.pay (h.pay x), k.cell.trans h.cell⟩
theorem RX.at (w : World) (d : Nat) : RX L Low b i w (w.at d) := ⟨Nat.le_refl _, fun _ _ _ _ _ _ => rfl, fun _ h => h, fun _ _ => rfl, id, id, rfl⟩
/-- Where the place is sound. -/
structure Lay.Ok (L : Lay) : Prop where
  hW : L.Wg < L.N0
  hC : L.C < L.N0
  hCW : L.C ≠ L.Wg
theorem Lay.Ok.nW (h : L.Ok) : ¬ Half L w L.Wg := fun x => by have := x.1; have := h.hW; omega
theorem Lay.Ok.nC (h : L.Ok) : ¬ Half L w L.C := fun x => by have := x.1; have := h.hC; omega
/-- A worker's idle step, for the starter. -/
theorem RQ.of_DX {Rd : Nat → Prop} {es : Array Event} (hL : L.Ok) (h : DX L Rd b i w w₁ es) (hb : ∀ r, b = some r → Half L w r) : RQ L w w₁ :=
  ⟨h.tape, h.os, h.out, Nat.le_of_eq h.size.symm, fun r _ hC _ hn => h.block r hC (fun e => hn (hb r e)), h.half, fun ⟨st, sm, hl⟩ => ⟨st, sm, hl.of_block (h.block L.Wg (Ne.symm hL.hCW) (fun e => hL.nW (hb _ e)))⟩, h.pay⟩
/-- .. for another worker. -/
theorem RX.of_DX {Rd : Nat → Prop} {es : Array Event} {i' Low' : Nat} {b' : Option Nat} (hL : L.Ok) (h : DX L Rd b i w w₁ es) (hb : ∀ r, b = some r → Half L w r) (hi : i' ≠ i) (hbb : ∀ r, b' = some r → b ≠ some r ∧ r ≠ L.C) : RX L Low' b' i' w w₁ :=
  ⟨Nat.le_of_eq h.size.symm, fun r _ _ hC _ hn => h.block r hC (fun e => hn (hb r e)), h.half, fun r e => h.block r (hbb r e).2 (hbb r e).1, fun ⟨st, sm, hl⟩ => ⟨st, sm, hl.of_block (h.block L.Wg (Ne.symm hL.hCW) (fun e => hL.nW (hb _ e)))⟩, h.pay, h.cells i' hi⟩
/-- A turn of the group's block. -/
theorem half_of_aside (hL : L.Ok) (h : Aside L.Wg w w₁) (r : Nat) : Half L w₁ r ↔ Half L w r := by
  constructor
  · rintro ⟨h1, cs, h2⟩
    exact ⟨h1, cs, by rw [← h.block r (by have := hL.hW; omega)]; exact h2⟩
  · rintro ⟨h1, cs, h2⟩
    exact ⟨h1, cs, by rw [h.block r (by have := hL.hW; omega)]; exact h2⟩
theorem pay_of_aside (hL : L.Ok) (h : Aside L.Wg w w₁) (hp : PayAt L.C L.n w) : PayAt L.C L.n w₁ := let ⟨cs, h1, h2⟩ := hp; ⟨cs, (h.block L.C hL.hCW).trans h1, h2⟩
theorem RQ.of_wg (hL : L.Ok) (h : Aside L.Wg w w₁) (hl : WgLive L.ty L.Wg w₁) : RQ L w w₁ :=
  ⟨h.tape, h.os, h.output, Nat.le_of_eq h.size.symm, fun r _ _ hW _ => h.block r hW, fun r => (half_of_aside hL h r).2, fun _ => hl, pay_of_aside hL h⟩
theorem RX.of_wg (hL : L.Ok) (h : Aside L.Wg w w₁) (hl : WgLive L.ty L.Wg w₁) (hb : ∀ r, b = some r → r ≠ L.Wg) : RX L Low b i w w₁ :=
  ⟨Nat.le_of_eq h.size.symm, fun r _ _ _ hW _ => h.block r hW, fun r => (half_of_aside hL h r).2, fun r e => h.block r (hb r e), fun _ => hl, pay_of_aside hL h, cell_of_block (h.block L.C hL.hCW) i⟩
/-- The starter's step, for a worker. -/
theorem RX.of_DQ {X : Nat → Prop} {Lw : Nat} {es : Array Event} (hL : L.Ok) (h : DQ L X Lw w w₁ es) (hLw : Low ≤ Lw) (hN : L.N0 ≤ Lw) (hs : L.N0 ≤ w.heap.size) (hb : ∀ r, b = some r → Half L w r ∧ r < w.heap.size) : RX L Low b i w w₁ := by
  have hC := h.block L.C (Nat.lt_of_lt_of_le hL.hC hs) (.inl (Nat.lt_of_lt_of_le hL.hC hN))
  have hW := h.block L.Wg (Nat.lt_of_lt_of_le hL.hW hs) (.inl (Nat.lt_of_lt_of_le hL.hW hN))
  exact ⟨h.size, fun r hl hr _ _ _ => h.block r hr (.inl (Nat.lt_of_lt_of_le hl hLw)), fun r hr => ⟨hr.1, hr.2.imp fun cs x => by
      have := (Array.getElem?_eq_some_iff.1 x).1
      rw [h.block r this (.inr ⟨hr.1, cs, x⟩)]; exact x⟩, fun r e => h.block r (hb r e).2 (.inr (hb r e).1), fun ⟨st, sm, hl⟩ => ⟨st, sm, hl.of_block hW⟩, fun ⟨cs, h1, h2⟩ => ⟨cs, hC.trans h1, h2⟩, cell_of_block hC i⟩
/-- A new block of a worker's own. -/
theorem half_alloc (w : World) (cs : Array Value) (hs : L.N0 ≤ w.heap.size) : Half L (w.alloc (.cells cs L.eH)) w.heap.size := ⟨hs, cs, heap_alloc_new w _⟩
theorem half_old {w : World} {o : Obj} {r : Nat} (h : Half L w r) : Half L (w.alloc o) r := ⟨h.1, h.2.imp fun cs x => by rw [Below.heap_alloc _ _ _ (Array.getElem?_eq_some_iff.1 x).1]; exact x⟩
theorem RQ.of_alloc (w : World) (o : Obj) (hW : L.Wg < w.heap.size) (hC : L.C < w.heap.size) : RQ L w (w.alloc o) :=
  ⟨rfl, rfl, rfl, by rw [World.size_alloc]; omega, fun r hr _ _ _ => Below.heap_alloc _ _ _ hr, fun r => half_old, fun ⟨st, sm, hl⟩ => ⟨st, sm, hl.of_block (Below.heap_alloc _ _ _ hW)⟩, fun ⟨cs, h1, h2⟩ => ⟨cs, (Below.heap_alloc _ _ _ hC).trans h1, h2⟩⟩
theorem RX.of_alloc (w : World) (o : Obj) (hW : L.Wg < w.heap.size) (hC : L.C < w.heap.size) (hb : ∀ r, b = some r → r < w.heap.size) : RX L Low b i w (w.alloc o) :=
  ⟨by rw [World.size_alloc]; omega, fun r _ hr _ _ _ => Below.heap_alloc _ _ _ hr, fun r => half_old, fun r e => Below.heap_alloc _ _ _ (hb r e), fun ⟨st, sm, hl⟩ => ⟨st, sm, hl.of_block (Below.heap_alloc _ _ _ hW)⟩, fun ⟨cs, h1, h2⟩ => ⟨cs, (Below.heap_alloc _ _ _ hC).trans h1, h2⟩, cell_of_block (Below.heap_alloc _ _ _ hC) i⟩
/-- What the library's own walk of a worker suffers is less. -/
theorem RX.rw_ (h : RX L Low b i w w₁) (hl : L.N0 ≤ Low) (hs : L.N0 ≤ w.heap.size) : RW L.ty L.Wg L.C L.n L.N0 i w w₁ :=
  ⟨fun r hr hW hC => h.block r (by omega) (by omega) hC hW (fun x => by have := x.1; omega), h.live, h.pay, h.cell⟩
end
end Go.Proofs.Ytoipkpndfgcmcaa.Crew
