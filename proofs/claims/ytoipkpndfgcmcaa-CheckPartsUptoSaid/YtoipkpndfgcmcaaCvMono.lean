/-
  The starter's stages under a weaker anchor; the starter's own steps that make memory and write into what is still its own. The conditions stand in each theorem.
-/
import Derived.Test.YtoipkpndfgcmcaaCvWait
import Derived.Test.YtoipkpndfgcmcaaCvWork3
import Derived.Conc.CrowdMono
namespace Go.Proofs.Ytoipkpndfgcmcaa.Crew
open Go Go.Conc Go.ConcN Go.RowKit Go.Conc.Lib Go.ConcR.Gen Go.ConcN.Gen Go.Proofs.Ytoipkpndfgcmcaa.Veils
open Go.ConcR (KK wgBlock WgAt stA smA rd wr mk Payload DC0)
set_option linter.unusedVariables false
set_option linter.unusedSectionVars false
set_option linter.unusedSimpArgs false
section
variable {P : Program} {L : Lay} {X : Nat → Prop} {vals : List Value} {A A' B B' : Goroutine → World → Prop} {Lw vs : Nat} {g : Goroutine} {w : World}
theorem AtHear.mono (hA : ∀ g w, A g w → A' g w) (h : AtHear P L vals A g w) : AtHear P L vals A' g w := let ⟨h1, g', h2, h3⟩ := h; ⟨h1, g', h2, fun f => ⟨(h3 f).1, hA _ _ (h3 f).2⟩⟩
theorem AtBack.mono (hA : ∀ g w, A g w → A' g w) (h : AtBack P L X vals A Lw g w) : AtBack P L X vals A' Lw g w := let ⟨h1, g', h2, m, h3⟩ := h; ⟨h1, g', h2, m, goes_mono (fun _ _ x => x.mono hA) h3⟩
theorem AtLast.mono (hA : ∀ g w, A g w → A' g w) (h : AtLast P L X vals A Lw g w) : AtLast P L X vals A' Lw g w := ⟨h.1, fun x => let ⟨g', h2, m, h3⟩ := h.2 x; ⟨g', h2, m, goes_mono (fun _ _ x => x.mono hA) h3⟩⟩
theorem AtSem.mono (hA : ∀ g w, A g w → A' g w) (h : AtSem P L X vals A Lw g w) : AtSem P L X vals A' Lw g w := ⟨h.1, h.2.1, h.2.2.1, fun x => let ⟨g', h2, m, h3⟩ := h.2.2.2 x; ⟨g', h2, m, goes_mono (fun _ _ x => x.mono hA) h3⟩⟩
theorem AtSwap.mono (hA : ∀ g w, A g w → A' g w) (hB : ∀ g w, B g w → B' g w) (h : AtSwap P L X vals A B Lw vs g w) : AtSwap P L X vals A' B' Lw vs g w :=
  ⟨h.1, fun v hv hw => ⟨fun e => let ⟨g', h2, m, h3⟩ := (h.2 v hv hw).1 e; ⟨g', h2, m, goes_mono (fun _ _ x => x.mono hA) h3⟩, fun e => let ⟨g', h2, m, h3⟩ := (h.2 v hv hw).2 e; ⟨g', h2, m, goes_mono hB h3⟩⟩⟩
theorem AtLook.mono (hA : ∀ g w, A g w → A' g w) (hB : ∀ g w, B g w → B' g w) (h : AtLook P L X vals A B Lw g w) : AtLook P L X vals A' B' Lw g w :=
  ⟨h.1, fun v hv hw => let ⟨g', h2, h3, h4⟩ := h.2 v hv hw; ⟨g', h2, fun e => let ⟨m, h5⟩ := h3 e; ⟨m, goes_mono (fun _ _ x => x.mono hA) h5⟩, fun e => let ⟨m, h5⟩ := h4 e; ⟨m, goes_mono (fun _ _ x => x.mono hA hB) h5⟩⟩⟩
theorem AtIn.mono (hB : ∀ g w, B g w → B' g w) (h : AtIn P L X B Lw g w) : AtIn P L X B' Lw g w := let ⟨h1, g', h2, m, h3⟩ := h; ⟨h1, g', h2, m, goes_mono hB h3⟩
end
/-- The place of Parts' memory. -/
abbrev lay (N n : Nat) : Lay := ⟨96, N + 2, N, n, N + 3, 99⟩
theorem lay_ok (N n : Nat) : (lay N n).Ok := ⟨by show N + 2 < N + 3; omega, by show N < N + 3; omega, by show N ≠ N + 2; omega⟩
/-- A block of one cell. -/
def One (b : Nat) (t : TypeId) (v : Value) (w : World) : Prop := w.heap[b]? = some (.cells #[v] t)
section
variable {N n : Nat} {X : Nat → Prop} {Lw b : Nat} {t : TypeId} {u v : Value} {w w₁ : World}
theorem One.lt (h : One b t v w) : b < w.heap.size := (Array.getElem?_eq_some_iff.1 h).1
theorem One.nohalf (h : One b t v w) (ht : t ≠ 99) : ¬ Half (lay N n) w b := fun ⟨_, cs, h2⟩ => by
  unfold One at h
  rw [h] at h2
  injection h2 with h2
  injection h2 with _ h3
  exact ht h3
theorem One.cell (h : One b t v w) : w.cell? ⟨b, 0, none⟩ = some v := by simp [World.cell?, show w.heap[b]? = _ from h]
theorem One.frozen (h : One b t v w) : w.frozen? ⟨b, 0, none⟩ = false := by simp [World.frozen?, show w.heap[b]? = _ from h]
theorem One.rely (h : One b t v w) (ht : t ≠ 99) (h1 : b ≠ N) (h2 : b ≠ N + 2) (r : RQ (lay N n) w w₁) : One b t v w₁ := (r.block b h.lt h1 h2 (h.nohalf ht)).trans h
theorem One.alloc (h : One b t v w) (o : Obj) : One b t v (w.alloc o) := (Below.heap_alloc _ _ _ h.lt).trans h
theorem One.new (w : World) (t : TypeId) (v : Value) : One w.heap.size t v (w.alloc (.cells #[v] t)) := heap_alloc_new w _
theorem One.set_ (h : One b t u w) (v : Value) : One b t v (w.setCell ⟨b, 0, none⟩ v) := by
  unfold One at h ⊢
  rw [setCell_eq_setRow w b 0 #[u] t (0, 0) _ h, setRow_heap w b _ _ t _ h]
  simp
theorem One.far {c : Nat} {k : Nat} (h : One b t u w) (hc : b ≠ c) (v : Value) : One b t u (w.setCell ⟨c, k, none⟩ v) := ((aside_setCell w ⟨c, k, none⟩ v).block b hc).trans h
theorem One.ne {c : Nat} {t' : TypeId} (h : One b t u w) (h' : One c t' v w) (ht : t ≠ t') : b ≠ c := fun e => by
  subst e
  unfold One at h h'
  rw [h] at h'
  injection h' with h'
  injection h' with _ h3
  exact ht h3
theorem half_one (h : One b t u w) (ht : t ≠ 99) (v : Value) (r : Nat) : Half (lay N n) (w.setCell ⟨b, 0, none⟩ v) r ↔ Half (lay N n) w r := by
  by_cases e : r = b
  · subst e
    exact ⟨fun x => absurd x ((h.set_ v).nohalf ht), fun x => absurd x (h.nohalf ht)⟩
  · have := (aside_setCell w ⟨b, 0, none⟩ v).block r e
    exact ⟨fun ⟨h1, cs, h2⟩ => ⟨h1, cs, by rw [← this]; exact h2⟩, fun ⟨h1, cs, h2⟩ => ⟨h1, cs, by rw [this]; exact h2⟩⟩
theorem half_alloc_back (w : World) (cs : Array Value) (ht : t ≠ 99) (r : Nat) (h : Half (lay N n) (w.alloc (.cells cs t)) r) : Half (lay N n) w r := by
  obtain ⟨h1, ds, h2⟩ := h
  by_cases e : r < w.heap.size
  · exact ⟨h1, ds, by rw [← Below.heap_alloc w (.cells cs t) r e]; exact h2⟩
  · have hs := (Array.getElem?_eq_some_iff.1 h2).1
    rw [World.size_alloc] at hs
    obtain rfl : r = w.heap.size := by omega
    rw [heap_alloc_new] at h2
    injection h2 with h2
    injection h2 with _ h3
    exact absurd h3 ht
theorem dq_alloc (w : World) (cs : Array Value) (ht : t ≠ 99) {es : Array Event} (h : ∀ e ∈ es, False) : DQ (lay N n) X Lw w (w.alloc (.cells cs t)) es :=
  ⟨rfl, rfl, rfl, by rw [World.size_alloc]; omega, fun b hb _ => Below.heap_alloc _ _ _ hb, half_alloc_back w cs ht, fun e he => (h e he).elim⟩
theorem dq_set (h : One b t u w) (ht : t ≠ 99) (hb : N + 3 ≤ b) (hl : Lw ≤ b) (hX : ∀ r, X r → r < N + 3) (v : Value) : DQ (lay N n) X Lw w (w.setCell ⟨b, 0, none⟩ v) #[⟨.cell ⟨b, 0, none⟩, true, false⟩] := by
  have hA := aside_setCell w ⟨b, 0, none⟩ v
  refine ⟨hA.tape, hA.os, hA.output, Nat.le_of_eq hA.size.symm, fun r _ hr => hA.block r ?_, fun r => (half_one h ht v r).1, fun e he => ?_⟩
  · intro e
    have e' : r = b := e
    subst e'
    rcases hr with hr | hr
    · omega
    · exact h.nohalf ht hr
  · rw [Array.mem_singleton] at he
    subst he
    exact .inl ⟨_, true, rfl, fun x => by have := hX _ x; show False; have hb' : N + 3 ≤ b := hb; have : b < N + 3 := this; omega, by show b ≠ N; omega, h.nohalf ht, by rw [hA.size]; exact h.lt, fun _ => hl⟩
theorem dq_read {es : Array Event} (h : ∀ e ∈ es, EvQ (lay N n) X Lw w w e) : DQ (lay N n) X Lw w w es := ⟨rfl, rfl, rfl, Nat.le_refl _, fun _ _ _ => rfl, fun _ h => h, h⟩
theorem live_alloc {ty : TypeId} {Wg : Nat} (h : WgLive ty Wg w) (o : Obj) : WgLive ty Wg (w.alloc o) := by
  obtain ⟨st, sm, hl⟩ := h
  exact ⟨st, sm, hl.of_block (Below.heap_alloc _ _ _ (Array.getElem?_eq_some_iff.1 hl).1)⟩
theorem live_set {ty : TypeId} {Wg : Nat} (h : WgLive ty Wg w) (hb : Wg ≠ b) (v : Value) : WgLive ty Wg (w.setCell ⟨b, 0, none⟩ v) := by
  obtain ⟨st, sm, hl⟩ := h
  exact ⟨st, sm, hl.of_block ((aside_setCell w ⟨b, 0, none⟩ v).block Wg hb)⟩
end
end Go.Proofs.Ytoipkpndfgcmcaa.Crew
