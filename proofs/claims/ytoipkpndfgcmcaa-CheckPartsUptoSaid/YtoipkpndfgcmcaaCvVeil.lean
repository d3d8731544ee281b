/-
  Two worlds alike but for hidden blocks and the tape: what comes to a value in the one comes to the same in the other, touching no hidden block and saying no mark. The condition is each theorem's own. No program in sight.
-/
import Derived.Conc.Events
import Derived.Lib.Hide
namespace Go.Proofs.Ytoipkpndfgcmcaa.Veils
open Go
set_option linter.unusedVariables false

/-- An object that the walk may meet: no memory seen as another type (but where nothing can be seen), no variable that waits. -/
def Obj.plain : Obj → Prop
  | .view a _ => a.spot.isSome = true
  | .pending _ _ => False
  | _ => True
/-- What stands in the place of an object that is not plain. -/
def dimO : Obj → Obj
  | .view _ _ => .view ⟨0, 0, some 0⟩ 0
  | _ => .stringIter .empty 0
theorem dim_plain (o : Obj) : Obj.plain (dimO o) := by cases o <;> first | trivial | rfl
def NoView (w : World) : Prop := ∀ (b : Nat) (o : Obj), w.heap[b]? = some o → Obj.plain o
def OkHalt : Halt → Prop
  | .stuck _ | .panic _ => True
  | .unsupported u => ∀ g, u ≠ .initOrder g
  | _ => False
/-- The blocks of the true world that are no plain object. -/
def Vw (w : World) (b : Nat) : Prop := ∃ o, w.heap[b]? = some o ∧ ¬ Obj.plain o
/-- v: the world with the hidden blocks X, and those that are no plain object, emptied; w: the true one. Either there is no block of the second kind, or the two ask the same tape at the same place. -/
structure Veil (X : Nat → Prop) (v w : World) : Prop where
  size : v.heap.size = w.heap.size
  same : ∀ b, ¬ X b → ¬ Vw w b → v.heap[b]? = w.heap[b]?
  dark : ∀ b, X b → v.heap[b]? = some (.stringIter .empty 0) ∧ ∃ c e, w.heap[b]? = some (.cells c e) ∧ 0 < c.size
  dim : ∀ (b : Nat) (o : Obj), w.heap[b]? = some o → ¬ Obj.plain o → v.heap[b]? = some (dimO o)
  os : v.os = w.os
  out : v.output = w.output
  real : NoView w ∨ (v.drawn = w.drawn ∧ v.tape = w.tape)
theorem Veil.novv {X : Nat → Prop} {v w : World} (h : Veil X v w) : NoView v := fun b o e => by
  by_cases hX : X b
  · obtain ⟨he, _⟩ := h.dark _ hX
    rw [he] at e
    cases e
    trivial
  · by_cases hV : Vw w b
    · obtain ⟨o', h1, h2⟩ := hV
      rw [h.dim _ _ h1 h2] at e
      injection e with e
      rw [← e]
      exact dim_plain o'
    · rw [h.same _ hX hV] at e
      exact Classical.byContradiction fun hn => hV ⟨o, e, hn⟩
/-- The hidden blocks, and those that are no plain object, stand; no other becomes such. -/
structure Keep (X : Nat → Prop) (w w' : World) : Prop where
  same : ∀ b, X b ∨ Vw w b → w'.heap[b]? = w.heap[b]?
  back : ∀ b, Vw w' b → Vw w b
theorem Keep.refl (X : Nat → Prop) (w : World) : Keep X w w := ⟨fun _ _ => rfl, fun _ h => h⟩
theorem Keep.vw {X : Nat → Prop} {w w' : World} (h : Keep X w w') {b : Nat} (hb : Vw w b) : Vw w' b := let ⟨o, h1, h2⟩ := hb; ⟨o, (h.same b (.inr ⟨o, h1, h2⟩)).trans h1, h2⟩
theorem Keep.trans {X : Nat → Prop} {w w1 w2 : World} (h : Keep X w w1) (k : Keep X w1 w2) : Keep X w w2 := ⟨fun b hb => (k.same b (hb.imp (fun x => x) fun x => h.vw x)).trans (h.same b hb), fun b hb => h.back b (k.back b hb)⟩
def FineE (X : Nat → Prop) (n : Nat) (e : Event) : Prop :=
  (∃ a, e.loc = .cell a ∧ ¬ X a.block ∧ a.block < n ∧ e.sync = false) ∨ (∃ r, e.loc = .obj r ∧ ¬ X r ∧ r < n ∧ e.write = false) ∨ e.loc = .mark .noRoom
theorem FineE.mono {X : Nat → Prop} {n m : Nat} {e : Event} (h : FineE X n e) (hn : n ≤ m) : FineE X m e := by
  rcases h with ⟨a, h1, h2, h3, h4⟩ | ⟨r, h1, h2, h3, h4⟩ | h
  · exact .inl ⟨a, h1, h2, by omega, h4⟩
  · exact .inr (.inl ⟨r, h1, h2, by omega, h4⟩)
  · exact .inr (.inr h)
def aft {α : Type} : Result α → Nat
  | .ok _ w => w.drawn
  | .halt _ w => w.drawn
def Mono1 {α : Type} (w : World) : Result α → Prop
  | .ok _ w' => w.drawn ≤ w'.drawn ∧ NoView w' ∧ w.heap.size ≤ w'.heap.size
  | .halt _ w' => w.drawn ≤ w'.drawn
theorem Mono1.aft {α : Type} {w : World} {r : Result α} (h : Mono1 w r) : w.drawn ≤ aft r := by
  cases r with
  | ok a w' => exact h.1
  | halt x w' => exact h
/-- What follows a result. -/
structure Out (P : Program) (X : Nat → Prop) {α : Type} (s : Sem α) (v w : World) (a : α) (v' : World) : Prop where
  get : ∃ w', s.run P w = .ok a w' ∧ Veil X v' w' ∧ Keep X w w' ∧ w'.drawn + v.drawn = v'.drawn + w.drawn ∧ v'.tape = v.tape ∧ w'.tape = w.tape ∧ ∀ es, ∃ evs, s.events P w es = es ++ evs ∧ ∀ e ∈ evs, FineE X w'.heap.size e
structure Kin (P : Program) (X : Nat → Prop) {α : Type} (s : Sem α) : Prop where
  hal : ∀ w, NoView w → ∀ x w', s.run P w = .halt x w' → OkHalt x
  mono : ∀ w, NoView w → Mono1 w (s.run P w)
  sim : ∀ (v w : World) (a : α) (v' : World), Veil X v w → (∀ j q, w.drawn + j < aft (s.run P w) → v.tape (v.drawn + j) q = w.tape (w.drawn + j) q) → s.run P v = .ok a v' → Out P X s v w a v'
section
variable {P : Program} {X : Nat → Prop} {α β : Type}
theorem Kin.pure (a : α) : Kin P X (Pure.pure a : Sem α) :=
  ⟨fun w _ x w' h => (by cases h), fun w h => ⟨Nat.le_refl _, h, Nat.le_refl _⟩, fun v w a' v' hv _ h => by
    cases h
    exact ⟨w, rfl, hv, Keep.refl _ _, by omega, rfl, rfl, fun es => ⟨#[], by simp, fun e he => by simp at he⟩⟩⟩
theorem Kin.halt (x : Halt) (hx : OkHalt x) : Kin P X (Sem.halt x : Sem α) :=
  ⟨fun w _ y w' h => (by cases h; exact hx), fun w _ => Nat.le_refl _, fun v w a' v' _ _ h => by cases h⟩
/-- What follows a first part: the first part is looked at where the second comes to a value alone. -/
theorem Kin.bind' {s : Sem α} {f : α → Sem β} (hal : ∀ w, NoView w → ∀ x w', s.run P w = .halt x w' → OkHalt x) (mono : ∀ w, NoView w → Mono1 w (s.run P w))
    (sim : ∀ (v w : World) (a : α) (v' : World), Veil X v w → (∀ j q, w.drawn + j < aft (s.run P w) → v.tape (v.drawn + j) q = w.tape (w.drawn + j) q) → s.run P v = .ok a v' → (∃ b v2, (f a).run P v' = .ok b v2) → Out P X s v w a v')
    (hf : ∀ a, Kin P X (f a)) : Kin P X (s >>= f) := by
  refine ⟨fun w hw x w' h => ?_, fun w hw => ?_, fun v w b v' hv ht h => ?_⟩
  · rw [Sem.run_bind] at h
    have h1 := mono w hw
    cases hr : s.run P w with
    | halt y w1 => rw [hr] at h; cases h; exact hal w hw _ _ hr
    | ok a w1 =>
      rw [hr] at h h1
      exact (hf a).hal w1 h1.2.1 _ _ h
  · rw [Sem.run_bind]
    have h1 := mono w hw
    cases hr : s.run P w with
    | halt x w' => rw [hr] at h1; exact h1
    | ok a w1 =>
      rw [hr] at h1
      have h2 := (hf a).mono w1 h1.2.1
      simp only [Result.andThen_ok]
      cases hr2 : (f a).run P w1 with
      | halt x w' => rw [hr2] at h2; exact Nat.le_trans h1.1 h2
      | ok b w' => rw [hr2] at h2; exact ⟨Nat.le_trans h1.1 h2.1, h2.2.1, Nat.le_trans h1.2.2 h2.2.2⟩
  · rw [Sem.run_bind] at h
    cases hr : s.run P v with
    | halt x w' => rw [hr] at h; cases h
    | ok a v1 =>
      rw [hr] at h
      simp only [Result.andThen_ok] at h
      have hle : NoView w → aft (s.run P w) ≤ aft ((s >>= f).run P w) := fun hnw => by
        have hm := mono w hnw
        rw [Sem.run_bind]
        cases hq : s.run P w with
        | halt x w' => exact Nat.le_refl _
        | ok a1 w1 =>
          rw [hq] at hm
          exact ((hf a1).mono w1 hm.2.1).aft
      obtain ⟨w1, e1, v1w, k1, d1, t1, t2, g1⟩ := sim v w a v1 hv (fun j q hj => by
        rcases hv.real with hnw | ⟨hd, htp⟩
        · exact ht j q (by have := hle hnw; omega)
        · rw [hd, htp]) hr ⟨b, v', h⟩
      have hbw : (s >>= f).run P w = (f a).run P w1 := by rw [Sem.run_bind, e1]; rfl
      rw [hbw] at ht
      have hmv := mono v hv.novv
      rw [hr] at hmv
      have hd1 : w.drawn ≤ w1.drawn := by have := hmv.1; omega
      obtain ⟨k, hk⟩ : ∃ k, w1.drawn = w.drawn + k := ⟨w1.drawn - w.drawn, by omega⟩
      obtain ⟨w', e2, v2w, k2, d2, t3, t4, g2⟩ := (hf a).sim v1 w1 b v' v1w (fun j q hj => by
        have := ht (k + j) q (by omega)
        rw [t1, t2, hk, show v1.drawn + j = v.drawn + (k + j) by omega, this, show w.drawn + k + j = w.drawn + (k + j) by omega]) h
      refine ⟨w', hbw.trans e2, v2w, k1.trans k2, by omega, t3.trans t1, t4.trans t2, fun es => ?_⟩
      obtain ⟨ev1, h1, f1⟩ := g1 es
      obtain ⟨ev2, h2, f2⟩ := g2 (es ++ ev1)
      have hsz : w1.heap.size ≤ w'.heap.size := by
        have := (hf a).mono v1 v1w.novv
        rw [h] at this
        have h5 := this.2.2
        rw [v1w.size, v2w.size] at h5
        exact h5
      refine ⟨ev1 ++ ev2, ?_, fun e he => ?_⟩
      · have hb := Sem.runT_bind' P s f w es
        have hs1 : s.runT P w es = (.ok a w1, es ++ ev1) := by rw [Sem.runT_eq, e1, h1]
        have hs2 : (f a).runT P w1 (es ++ ev1) = (.ok b w', es ++ ev1 ++ ev2) := by rw [Sem.runT_eq, e2, h2]
        unfold Sem.events
        show ((s.bind f).runT P w es).2 = _
        rw [hb, hs1]
        dsimp only
        rw [hs2, Array.append_assoc]
      · rcases Array.mem_append.1 he with h | h
        · exact (f1 e h).mono hsz
        · exact f2 e h
theorem Kin.bind {s : Sem α} {f : α → Sem β} (hs : Kin P X s) (hf : ∀ a, Kin P X (f a)) : Kin P X (s >>= f) := Kin.bind' hs.hal hs.mono (fun v w a v' hv ht h _ => hs.sim v w a v' hv ht h) hf
theorem Veil.cell {v w : World} (h : Veil X v w) {a : Addr} {x : Value} (hx : v.cell? a = some x) : ¬ X a.block ∧ a.block < v.heap.size ∧ v.heap[a.block]? = w.heap[a.block]? ∧ ¬ Vw w a.block := by
  have hn : ¬ X a.block := fun hX => by
    obtain ⟨he, _⟩ := h.dark _ hX
    unfold World.cell? at hx
    rw [he] at hx
    cases hx
  have hn2 : ¬ Vw w a.block := fun hV => by
    obtain ⟨o', h1, h2⟩ := hV
    have he := h.dim _ _ h1 h2
    unfold World.cell? at hx
    rw [he] at hx
    cases o' <;> cases hx
  refine ⟨hn, ?_, h.same _ hn hn2, hn2⟩
  unfold World.cell? at hx
  rcases Nat.lt_or_ge a.block v.heap.size with hl | hl
  · exact hl
  · rw [Array.getElem?_eq_none hl] at hx
    cases hx
theorem noCell_ok {w : World} (h : NoView w) (a : Addr) (s : String) : OkHalt (w.noCell a s) := by
  unfold World.noCell
  split
  · rename_i e
    exact (h _ _ e).elim
  · exact fun g hg => by cases hg
  · trivial
theorem seen_no (w : World) {at_ : Addr} (u : TypeId) (k : Addr) (m : Bool) (h : at_.spot.isSome = true) : ∃ y, w.seen P at_ u k m = .error y := by
  unfold World.seen
  rw [h, Bool.or_true]
  exact ⟨_, rfl⟩
theorem farLoad_no {w : World} (h : NoView w) (a : Addr) (m : Bool) : ∃ x, w.farLoad P a m = .error x ∧ OkHalt x := by
  unfold World.farLoad
  split
  · rename_i at_ u e
    have hs : at_.spot.isSome = true := h _ _ e
    obtain ⟨y, hy⟩ := seen_no (P := P) w u a m hs
    have : w.viewLoad P at_ u a m = .error y := by unfold World.viewLoad; rw [hy]; rfl
    rw [this]
    exact ⟨_, rfl, fun g hg => by cases hg⟩
  · exact ⟨_, rfl, noCell_ok h _ _⟩
theorem farStore_no {w : World} (h : NoView w) (a : Addr) (u : Value) (m : Bool) : ∃ x, w.farStore P a u m = .error x ∧ OkHalt x := by
  unfold World.farStore
  split
  · rename_i at_ t e
    have hs : at_.spot.isSome = true := h _ _ e
    obtain ⟨y, hy⟩ := seen_no (P := P) w t a m hs
    have : ∃ z, w.viewStore P at_ t a u m = .error z := by
      unfold World.viewStore
      rw [hy]
      by_cases ht : (!tight P P.depth t) = true
      · simp only [ht, if_true]
        exact ⟨_, rfl⟩
      · simp only [ht]
        exact ⟨_, rfl⟩
    obtain ⟨z, hz⟩ := this
    rw [hz]
    exact ⟨_, rfl, fun g hg => by cases hg⟩
  · exact ⟨_, rfl, noCell_ok h _ _⟩
theorem Kin.load (a : Addr) : Kin P X (Go.load a) := by
  refine ⟨fun w hw x w' h => ?_, fun w hw => ?_, fun v w x v' hv _ h => ?_⟩
  · simp only [Go.load, Sem.run] at h
    cases hc : w.cell? a with
    | some y => rw [hc] at h; cases h
    | none =>
      obtain ⟨y, hy, hk⟩ := farLoad_no (P := P) hw a false
      rw [hc] at h
      simp only [show (Mode.plain == Mode.atomic) = false from rfl, hy] at h
      cases h
      exact hk
  · simp only [Go.load, Sem.run]
    cases hc : w.cell? a with
    | some x => exact ⟨Nat.le_refl _, hw, Nat.le_refl _⟩
    | none =>
      obtain ⟨x, hx, _⟩ := farLoad_no (P := P) hw a false
      simp only [show (Mode.plain == Mode.atomic) = false from rfl, hx]
      exact Nat.le_refl _
  · simp only [Go.load, Sem.run] at h
    cases hc : v.cell? a with
    | none =>
      obtain ⟨y, hy, _⟩ := farLoad_no (P := P) hv.novv a false
      rw [hc] at h
      simp only [show (Mode.plain == Mode.atomic) = false from rfl, hy] at h
      cases h
    | some y =>
      rw [hc] at h
      cases h
      obtain ⟨hX, hl, he, hV⟩ := hv.cell hc
      have hw : w.cell? a = some x := by rw [← hc]; unfold World.cell?; rw [he]
      refine ⟨w, by simp only [Go.load, Sem.run, hw], hv, Keep.refl _ _, by omega, rfl, rfl, fun es => ⟨#[⟨.cell a, false, false⟩], ?_, fun e h1 => ?_⟩⟩
      · simp only [Sem.events, Go.load, Sem.runT, hw]
        rfl
      · simp only [List.mem_toArray, List.mem_cons, List.not_mem_nil, or_false] at h1
        subst h1
        exact .inl ⟨a, rfl, hX, by rw [← hv.size]; exact hl, rfl⟩
theorem setCell_at (w : World) (a : Addr) (u : Value) (b : Nat) : (w.setCell a u).heap[b]? = if b = a.block then (w.heap[b]?).map fun
      | .cells c elem frozen => .cells (if a.spot.isSome then c else c.setIfInBounds a.off u) elem frozen
      | o => o else w.heap[b]? := by
  unfold World.setCell
  dsimp only
  rw [Array.getElem?_modify]
  by_cases h : a.block = b
  · rw [if_pos h, if_pos h.symm]
    congr 1
  · rw [if_neg h, if_neg (fun e => h e.symm)]
theorem NoView.set_ {w : World} (h : NoView w) (a : Addr) (u : Value) : NoView (w.setCell a u) := fun b x e => by
  rw [setCell_at] at e
  split at e
  · cases hb : w.heap[b]? with
    | none => rw [hb] at e; cases e
    | some o =>
      rw [hb] at e
      simp only [Option.map_some, Option.some.injEq] at e
      have := h b o hb
      subst e
      cases o <;> first | exact this | trivial
  · exact h b x e
theorem vw_set (w : World) (a : Addr) (u : Value) (b : Nat) : Vw (w.setCell a u) b ↔ Vw w b := by
  unfold Vw
  rw [setCell_at]
  split
  · cases hb : w.heap[b]? with
    | none => simp
    | some o =>
      cases o <;> simp [Obj.plain]
  · exact Iff.rfl
theorem Kin.store (a : Addr) (u : Value) : Kin P X (Go.store a u) := by
  have hbad : ∀ w : World, (∀ x, u ≠ .agg x) → (∀ x, u ≠ .tuple x) → (Go.store a u).run P w = match w.cell? a with
      | some _ => if w.frozen? a then .halt (.unsupported (.unsafePointer "a write to bytes that a string shares")) w else .ok () (w.setCell a u)
      | none => match w.farStore P a u false with
        | .ok (w, _) => .ok () w
        | .error h => .halt h w := by
    intro w h1 h2
    cases u <;> first | rfl | exact absurd rfl (h1 _) | exact absurd rfl (h2 _)
  have hne : (∃ x, u = .agg x) ∨ (∃ x, u = .tuple x) ∨ ((∀ x, u ≠ .agg x) ∧ ∀ x, u ≠ .tuple x) := by
    cases u <;> simp
  rcases hne with ⟨x, rfl⟩ | ⟨x, rfl⟩ | ⟨h1, h2⟩
  · exact ⟨fun w _ x w' h => (by cases h; trivial), fun w _ => Nat.le_refl _, fun v w x v' _ _ h => by cases h⟩
  · exact ⟨fun w _ x w' h => (by cases h; trivial), fun w _ => Nat.le_refl _, fun v w x v' _ _ h => by cases h⟩
  · refine ⟨fun w hw x w' h => ?_, fun w hw => ?_, fun v w x v' hv _ h => ?_⟩
    · rw [hbad w h1 h2] at h
      cases hc : w.cell? a with
      | some y =>
        rw [hc] at h
        dsimp only at h
        split at h
        · cases h
          exact fun g hg => by cases hg
        · cases h
      | none =>
        obtain ⟨y, hy, hk⟩ := farStore_no (P := P) hw a u false
        rw [hc] at h
        simp only [hy] at h
        cases h
        exact hk
    · rw [hbad w h1 h2]
      cases hc : w.cell? a with
      | some x =>
        dsimp only
        split
        · exact Nat.le_refl _
        · exact ⟨Nat.le_refl _, hw.set_ a u, by simp [World.setCell]⟩
      | none =>
        obtain ⟨x, hx, _⟩ := farStore_no (P := P) hw a u false
        simp only [hx]
        exact Nat.le_refl _
    · rw [hbad v h1 h2] at h
      cases hc : v.cell? a with
      | none =>
        obtain ⟨y, hy, _⟩ := farStore_no (P := P) hv.novv a u false
        rw [hc] at h
        simp only [hy] at h
        cases h
      | some y =>
        rw [hc] at h
        dsimp only at h
        split at h
        · cases h
        · rename_i hfz
          cases h
          obtain ⟨hX, hl, he, hV⟩ := hv.cell hc
          have hw : w.cell? a = some y := by rw [← hc]; unfold World.cell?; rw [he]
          have hf : w.frozen? a = false := by
            have : w.frozen? a = v.frozen? a := by unfold World.frozen?; rw [he]
            rw [this]
            exact Bool.not_eq_true _ ▸ hfz
          have hr : (Go.store a u).run P w = .ok () (w.setCell a u) := by
            rw [hbad w h1 h2, hw]
            simp [hf]
          refine ⟨w.setCell a u, hr, ⟨by simp [World.setCell, hv.size], fun b hb hbv => ?_, fun b hb => ?_, fun b o hbo hbn => ?_, hv.os, hv.out, hv.real.imp (fun h => h.set_ a u) id⟩, ⟨fun b hb => by rw [setCell_at, if_neg (fun e : b = a.block => hb.elim (fun hb => hX (e ▸ hb)) (fun hb => hV (e ▸ hb)))], fun b hb => (vw_set w a u b).1 hb⟩, by show w.drawn + v.drawn = v.drawn + w.drawn; omega, rfl, rfl, fun es => ⟨#[⟨.cell a, true, false⟩], ?_, fun e h3 => ?_⟩⟩
          · rw [setCell_at, setCell_at]
            split
            · rename_i e
              subst e
              rw [he]
            · exact hv.same b hb (fun x => hbv ((vw_set w a u b).2 x))
          · have hne : b ≠ a.block := fun e => hX (e ▸ hb)
            rw [setCell_at, setCell_at, if_neg hne, if_neg hne]
            exact hv.dark b hb
          · have hb := (vw_set w a u b).1 ⟨o, hbo, hbn⟩
            have hne : b ≠ a.block := fun e => hV (e ▸ hb)
            rw [setCell_at, if_neg hne] at hbo ⊢
            exact hv.dim b o hbo hbn
          · unfold Sem.events Go.store
            cases u <;> first | exact absurd rfl (h1 _) | exact absurd rfl (h2 _) | (simp only [Sem.runT, hw, hf]; rfl)
          · simp only [List.mem_toArray, List.mem_cons, List.not_mem_nil, or_false] at h3
            subst h3
            exact .inl ⟨a, rfl, hX, by simp only [World.setCell, Array.size_modify]; rw [← hv.size]; exact hl, rfl⟩
theorem Kin.newObj (o : Obj) (ho : Obj.plain o) : Kin P X (Go.newObj o) := by
  have hnv : ∀ w : World, NoView w → NoView { w with heap := w.heap.push o } := fun w hw b a h => by
    have h : (w.heap.push o)[b]? = some a := h
    rw [Array.getElem?_push] at h
    split at h
    · injection h with h
      exact h ▸ ho
    · exact hw b a h
  refine ⟨fun w _ x w' h => (by cases h), fun w hw => ⟨Nat.le_refl _, hnv w hw, by show w.heap.size ≤ (w.heap.push _).size; simp⟩, fun v w x v' hv _ h => ?_⟩
  have h : Result.ok v.heap.size { v with heap := v.heap.push o } = Result.ok x v' := h
  injection h with h1 h2
  subst h1 h2
  refine ⟨{ w with heap := w.heap.push o }, by rw [hv.size]; rfl, ⟨by simp [hv.size], fun b hb hbv => ?_, fun b hb => ?_, fun b o' h1 h2 => ?_, hv.os, hv.out, hv.real.imp (hnv w) id⟩, ⟨fun b hb => ?_, fun b ⟨o', h1, h2⟩ => ?_⟩, by show w.drawn + v.drawn = v.drawn + w.drawn; omega, rfl, rfl, fun es => ⟨#[], by simp [Sem.events, Go.newObj, Sem.runT], fun e he => by simp at he⟩⟩
  · show (v.heap.push _)[b]? = (w.heap.push _)[b]?
    by_cases hl : b = w.heap.size
    · rw [Array.getElem?_push, Array.getElem?_push, hv.size, if_pos hl, if_pos hl]
    · have hbv : ¬ Vw w b := fun ⟨o', h1, h2⟩ => hbv ⟨o', by
        show (w.heap.push _)[b]? = _
        rw [Array.getElem?_push, if_neg hl]
        exact h1, h2⟩
      rw [Array.getElem?_push, Array.getElem?_push, hv.size, hv.same b hb hbv]
  · obtain ⟨he1, c2, e2, he2, hc2⟩ := hv.dark b hb
    refine ⟨?_, c2, e2, ?_, hc2⟩
    · show (v.heap.push _)[b]? = _
      have := (Array.getElem?_eq_some_iff.1 he1).1
      rw [Array.getElem?_push, if_neg (by omega)]
      exact he1
    · show (w.heap.push _)[b]? = _
      have := (Array.getElem?_eq_some_iff.1 he2).1
      rw [Array.getElem?_push, if_neg (by omega)]
      exact he2
  · have h1 : (w.heap.push o)[b]? = some o' := h1
    rw [Array.getElem?_push] at h1
    split at h1
    · injection h1 with h1
      exact absurd ho (h1 ▸ h2)
    · have hd := hv.dim b o' h1 h2
      show (v.heap.push _)[b]? = _
      have := (Array.getElem?_eq_some_iff.1 hd).1
      rw [Array.getElem?_push, if_neg (by omega)]
      exact hd
  · have hlt : b < w.heap.size := by
      rcases hb with hb | ⟨o', h1, _⟩
      · obtain ⟨_, c2, e2, he2, _⟩ := hv.dark b hb
        exact (Array.getElem?_eq_some_iff.1 he2).1
      · exact (Array.getElem?_eq_some_iff.1 h1).1
    show (w.heap.push _)[b]? = _
    rw [Array.getElem?_push, if_neg (by omega)]
  · have h1 : (w.heap.push o)[b]? = some o' := h1
    rw [Array.getElem?_push] at h1
    split at h1
    · injection h1 with h1
      exact absurd ho (h1 ▸ h2)
    · exact ⟨o', h1, h2⟩
theorem Kin.choose (q : Question) : Kin P X (Go.choose q) := by
  refine ⟨fun w hw x w' h => ?_, fun w hw => ?_, fun v w x v' hv ht h => ?_⟩
  · simp only [Go.choose, Sem.run] at h
    split at h <;> cases h
  · simp only [Go.choose, Sem.run]
    split
    · exact ⟨Nat.le_refl _, hw, Nat.le_refl _⟩
    · exact ⟨Nat.le_succ _, hw, Nat.le_refl _⟩
  · simp only [Go.choose, Sem.run] at h ht
    split at h
    · rename_i hq
      cases h
      exact ⟨w, by simp only [Go.choose, Sem.run, hq, if_true], hv, Keep.refl _ _, by omega, rfl, rfl, fun es => ⟨#[], by simp [Sem.events, Go.choose, Sem.runT, hq], fun e he => by simp at he⟩⟩
    · rename_i hq
      rw [if_neg hq] at ht
      have h0 := ht 0 q (by simp [aft])
      cases h
      rw [Nat.add_zero, Nat.add_zero] at h0
      refine ⟨{ w with drawn := w.drawn + 1 }, by simp only [Go.choose, Sem.run]; rw [if_neg hq, h0], ⟨hv.size, hv.same, hv.dark, hv.dim, hv.os, hv.out, hv.real.imp id fun x => ⟨by show v.drawn + 1 = w.drawn + 1; rw [x.1], x.2⟩⟩, ⟨fun _ _ => rfl, fun _ h => h⟩, by show w.drawn + 1 + v.drawn = v.drawn + 1 + w.drawn; omega, rfl, rfl, fun es => ⟨#[], by simp [Sem.events, Go.choose, Sem.runT, hq], fun e he => by simp at he⟩⟩
theorem Kin.program : Kin P X Go.program :=
  ⟨fun w _ x w' h => (by cases h), fun w hw => ⟨Nat.le_refl _, hw, Nat.le_refl _⟩, fun v w x v' hv _ h => by
    cases h
    exact ⟨w, rfl, hv, Keep.refl _ _, by omega, rfl, rfl, fun es => ⟨#[], by simp [Sem.events, Go.program, Sem.runT], fun e he => by simp at he⟩⟩⟩
theorem Kin.noRoom : Kin P X (Go.mark .noRoom) :=
  ⟨fun w _ x w' h => (by cases h), fun w hw => ⟨Nat.le_refl _, hw, Nat.le_refl _⟩, fun v w x v' hv _ h => by
    cases h
    exact ⟨w, rfl, hv, Keep.refl _ _, by omega, rfl, rfl, fun es => ⟨#[⟨.mark .noRoom, false, true⟩], by simp [Sem.events, Go.mark, Sem.runT], fun e he => by
      simp only [List.mem_toArray, List.mem_cons, List.not_mem_nil, or_false] at he
      subst he
      exact .inr (.inr rfl)⟩⟩⟩
theorem Kin.frozen (a : Addr) : Kin P X (Go.frozen a) := by
  refine ⟨fun w _ x w' h => (by cases h), fun w hw => ⟨Nat.le_refl _, hw, Nat.le_refl _⟩, fun v w x v' hv _ h => ?_⟩
  cases h
  have hf : w.frozen? a = v.frozen? a := by
    unfold World.frozen?
    by_cases hX : X a.block
    · obtain ⟨he1, c2, e2, he2, _⟩ := hv.dark _ hX
      rw [he1, he2]
      simp
    · by_cases hV : Vw w a.block
      · obtain ⟨o, h1, h2⟩ := hV
        rw [hv.dim _ _ h1 h2, h1]
        cases o <;> first | rfl | exact absurd trivial h2
      · rw [hv.same _ hX hV]
  exact ⟨w, by simp only [Go.frozen, Sem.run, hf], hv, Keep.refl _ _, by omega, rfl, rfl, fun es => ⟨#[], by simp [Sem.events, Go.frozen, Sem.runT], fun e he => by simp at he⟩⟩
theorem getObj_hal (r : Nat) (w : World) (hw : NoView w) (x : Halt) (w' : World) (h : (Go.getObj r).run P w = .halt x w') : OkHalt x := by
  simp only [Go.getObj, Sem.run] at h
  split at h
  · cases h; trivial
  · cases h
  · cases h; trivial
/-- A block that lies open. -/
theorem getObj_sim {r : Nat} {v w : World} (hv : Veil X v w) (hX : ¬ X r) (hV : ¬ Vw w r) {x : Obj} {v' : World} (h : (Go.getObj r).run P v = .ok x v') : Out P X (Go.getObj r) v w x v' := by
  have he := hv.same r hX hV
  cases hr : v.heap[r]? with
  | none => simp only [Go.getObj, Sem.run, hr] at h; cases h
  | some o =>
    have hrw : w.heap[r]? = some o := by rw [← he, hr]
    cases o
    case cells => simp only [Go.getObj, Sem.run, hr] at h; cases h
    all_goals
      (simp only [Go.getObj, Sem.run, hr] at h
       cases h
       refine ⟨w, by simp only [Go.getObj, Sem.run, hrw], hv, Keep.refl _ _, by omega, rfl, rfl, fun es => ⟨#[⟨.obj r, false, Obj.isChan _⟩], by simp only [Sem.events, Go.getObj, Sem.runT, hrw]; rfl, fun e h1 => ?_⟩⟩
       simp only [List.mem_toArray, List.mem_cons, List.not_mem_nil, or_false] at h1
       subst h1
       exact .inr (.inl ⟨r, rfl, hX, (Array.getElem?_eq_some_iff.1 hrw).1, rfl⟩))
theorem shape_sim {r : Nat} {v w : World} (hv : Veil X v w) (hX : ¬ X r) (hV : ¬ Vw w r) {x : Option (TypeId × Nat)} {v' : World} (h : (Go.shape r).run P v = .ok x v') : Out P X (Go.shape r) v w x v' := by
  cases h
  have hs : w.shape? r = v.shape? r := by unfold World.shape?; rw [hv.same r hX hV]
  exact ⟨w, by simp only [Go.shape, Sem.run, hs], hv, Keep.refl _ _, by omega, rfl, rfl, fun es => ⟨#[], by simp [Sem.events, Go.shape, Sem.runT], fun e he => by simp at he⟩⟩
theorem shape_mono (r : Nat) (w : World) (hw : NoView w) : Mono1 w ((Go.shape r).run P w) := ⟨Nat.le_refl _, hw, Nat.le_refl _⟩
theorem getObj_mono (r : Nat) (w : World) (hw : NoView w) : Mono1 w ((Go.getObj r).run P w) := by
  simp only [Go.getObj, Sem.run]
  split
  · exact Nat.le_refl _
  · exact ⟨Nat.le_refl _, hw, Nat.le_refl _⟩
  · exact Nat.le_refl _
theorem pure_mono (a : α) (w : World) (hw : NoView w) : Mono1 w ((Pure.pure a : Sem α).run P w) := ⟨Nat.le_refl _, hw, Nat.le_refl _⟩
theorem bind_mono {s : Sem α} {f : α → Sem β} (hs : ∀ w, NoView w → Mono1 w (s.run P w)) (hf : ∀ a w, NoView w → Mono1 w ((f a).run P w)) (w : World) (hw : NoView w) : Mono1 w ((s >>= f).run P w) := by
  rw [Sem.run_bind]
  have h1 := hs w hw
  cases hr : s.run P w with
  | halt x w' => rw [hr] at h1; exact h1
  | ok a w1 =>
    rw [hr] at h1
    have h2 := hf a w1 h1.2.1
    simp only [Result.andThen_ok]
    cases hr2 : (f a).run P w1 with
    | halt x w' => rw [hr2] at h2; exact Nat.le_trans h1.1 h2
    | ok b w' => rw [hr2] at h2; exact ⟨Nat.le_trans h1.1 h2.1, h2.2.1, Nat.le_trans h1.2.2 h2.2.2⟩
theorem bind_hal {s : Sem α} {f : α → Sem β} (hm : ∀ w, NoView w → Mono1 w (s.run P w)) (hs : ∀ w, NoView w → ∀ x w', s.run P w = .halt x w' → OkHalt x) (hf : ∀ a w, NoView w → ∀ x w', (f a).run P w = .halt x w' → OkHalt x) (w : World) (hw : NoView w) (x : Halt) (w' : World) (h : (s >>= f).run P w = .halt x w') : OkHalt x := by
  rw [Sem.run_bind] at h
  have h1 := hm w hw
  cases hr : s.run P w with
  | halt y w1 => rw [hr] at h; cases h; exact hs w hw _ _ hr
  | ok a w1 =>
    rw [hr] at h h1
    exact hf a w1 h1.2.1 _ _ h
/-- A block's shape is asked, and without one nothing comes to a value. -/
theorem Kin.shapeB (r : Nat) {f : Option (TypeId × Nat) → Sem β} (hf : ∀ s, Kin P X (f s)) (hn : ∀ v a v', (f none).run P v ≠ .ok a v') : Kin P X (Go.shape r >>= f) := by
  refine Kin.bind' (fun w _ x w' h => by cases h) (shape_mono r) (fun v w a v' hv _ h hb => ?_) hf
  have hd : v.shape? r = none → False := fun this => by
    simp only [Go.shape, Sem.run, this] at h
    cases h
    obtain ⟨b, v2, hb⟩ := hb
    exact hn _ _ _ hb
  refine shape_sim hv (fun hX => hd ?_) (fun ⟨o, h1, h2⟩ => hd ?_) h
  · unfold World.shape?
    rw [(hv.dark r hX).1]
  · unfold World.shape?
    rw [hv.dim r o h1 h2]
    cases o <;> rfl
theorem Kin.getObjB (r : Nat) {f : Obj → Sem β} (hf : ∀ s, Kin P X (f s)) (hn : ∀ v a v', (f (.stringIter .empty 0)).run P v ≠ .ok a v') (hn2 : ∀ v a v', (f (.view ⟨0, 0, some 0⟩ 0)).run P v ≠ .ok a v') : Kin P X (Go.getObj r >>= f) := by
  refine Kin.bind' (getObj_hal r) (getObj_mono r) (fun v w a v' hv _ h hb => ?_) hf
  have hd : v.heap[r]? = some (.stringIter .empty 0) → False := fun hd => by
    simp only [Go.getObj, Sem.run, hd] at h
    cases h
    obtain ⟨b, v2, hb⟩ := hb
    exact hn _ _ _ hb
  have hd2 : v.heap[r]? = some (.view ⟨0, 0, some 0⟩ 0) → False := fun hd => by
    simp only [Go.getObj, Sem.run, hd] at h
    cases h
    obtain ⟨b, v2, hb⟩ := hb
    exact hn2 _ _ _ hb
  refine getObj_sim hv (fun hX => hd (hv.dark r hX).1) (fun ⟨o, h1, h2⟩ => ?_) h
  have := hv.dim r o h1 h2
  cases o with
  | view _ _ => exact hd2 this
  | _ => exact hd this
/-- What comes to one and the same in every world that hides the block. -/
theorem Kin.const {s : Sem α} (a : α) (hh : ∀ w, NoView w → ∀ x w', s.run P w = .halt x w' → OkHalt x) (hm : ∀ w, NoView w → Mono1 w (s.run P w)) (h : ∀ v w : World, Veil X v w → s.run P v = .ok a v ∧ s.run P w = .ok a w ∧ ∀ es, s.events P w es = es) : Kin P X s :=
  ⟨hh, hm, fun v w x v' hv _ hr => by
    obtain ⟨h1, h2, h3⟩ := h v w hv
    rw [h1] at hr
    cases hr
    exact ⟨w, h2, hv, Keep.refl _ _, by omega, rfl, rfl, fun es => ⟨#[], by rw [h3]; simp, fun e he => by simp at he⟩⟩⟩
theorem Kin.bindP {f : Program → Sem β} (hf : Kin P X (f P)) : Kin P X (Go.program >>= f) := by
  have e : ∀ w, (Go.program >>= f).run P w = (f P).run P w := fun w => by rw [Sem.run_bind]; rfl
  refine ⟨fun w hw x w' h => by rw [e] at h; exact hf.hal w hw x w' h, fun w hw => by rw [e]; exact hf.mono w hw, fun v w a v' hv ht h => ?_⟩
  rw [e] at h ht
  obtain ⟨w', h1, h2, hk, h3, h4, h5, h6⟩ := hf.sim v w a v' hv ht h
  exact ⟨w', (e w).trans h1, h2, hk, h3, h4, h5, fun es => by
    obtain ⟨evs, h7, h8⟩ := h6 es
    exact ⟨evs, h7, h8⟩⟩
/-- What never comes to a value. -/
theorem Kin.dead {s : Sem α} (hh : ∀ w, NoView w → ∀ x w', s.run P w = .halt x w' → OkHalt x) (hm : ∀ w, NoView w → Mono1 w (s.run P w)) (h : ∀ v a v', s.run P v ≠ .ok a v') : Kin P X s := ⟨hh, hm, fun v _ a v' _ _ e => absurd e (h v a v')⟩
theorem Kin.map (f : α → β) {s : Sem α} (h : Kin P X s) : Kin P X (f <$> s) := Kin.bind h fun a => Kin.pure (f a)
theorem Kin.ite (c : Prop) [Decidable c] {x y : Sem α} (hx : Kin P X x) (hy : Kin P X y) : Kin P X (if c then x else y) := by split <;> assumption
end
end Go.Proofs.Ytoipkpndfgcmcaa.Veils
