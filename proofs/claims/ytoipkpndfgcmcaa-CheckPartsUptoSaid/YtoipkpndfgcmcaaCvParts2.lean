/-
  Parts, whole, on every tape, beside others that only leave: from its entry to its return. The conditions stand in each theorem.
-/
import Derived.Test.YtoipkpndfgcmcaaCvParts
import Derived.Test.YtoipkpndfgcmcaaCvRest
import Derived.Test.YtoipkpndfgcmcaaCvFns
namespace Go.Proofs.Ytoipkpndfgcmcaa.Crew
open Go Go.Conc Go.ConcN Go.RowKit Go.Conc.Lib Go.ConcR.Gen Go.ConcN.Gen Go.Proofs.Ytoipkpndfgcmcaa.Veils
open Go.ConcR (Payload)
set_option linter.unusedVariables false
set_option linter.unusedSectionVars false
theorem veil_open {X : Nat → Prop} {w : World} {b : Nat} (hX : ¬ X b) (hV : ¬ Vw w b) : (veilW X w).heap[b]? = w.heap[b]? := by
  rw [veilW_at]
  cases hw : w.heap[b]? with
  | none => rfl
  | some o =>
    have hp : Obj.plain o := Classical.byContradiction fun hn => hV ⟨o, hw, hn⟩
    simp [hX, hp]
theorem veil_size (X : Nat → Prop) (w : World) : (veilW X w).heap.size = w.heap.size := by simp [veilW]
theorem veil_cell {X : Nat → Prop} {w : World} {a : Addr} {x : Value} (hX : ¬ X a.block) (h : w.cell? a = some x) : (veilW X w).cell? a = some x := by
  have hV : ¬ Vw w a.block := fun ⟨o, h1, h2⟩ => by
    unfold World.cell? at h
    rw [h1] at h
    cases o <;> first | exact h2 trivial | cases h
  unfold World.cell? at h ⊢
  rw [veil_open hX hV]
  exact h
/-- What a lone walk leaves below N, it leaves in the true world. -/
theorem below_veil {X : Nat → Prop} {N d : Nat} {t : Tape} {w w' v' : World} (hk : Keep X w w') (hh : v'.heap = (veilW X w').heap) (hos : v'.os = w'.os) (hout : v'.output = w'.output) (ht : w'.tape = w.tape)
    (hb : Below N { veilW X w with tape := t, drawn := d } v') : Below N w w' := by
  refine ⟨hos.symm.trans hb.os, ht, hout.symm.trans hb.output, ?_, fun k hk' => ?_⟩
  · have := hb.size
    rw [hh] at this
    have e : ({ veilW X w with tape := t, drawn := d } : World).heap.size = w.heap.size := veil_size X w
    rw [e, veil_size] at this
    exact this
  · by_cases hX : X k
    · exact hk.same k (.inl hX)
    · by_cases hV : Vw w k
      · exact hk.same k (.inr hV)
      · have hV' : ¬ Vw w' k := fun h => hV (hk.back k h)
        have := hb.block k hk'
        rw [hh, veil_open hX hV'] at this
        exact this.trans (veil_open hX hV)
/-- From a function's text, walked alone, to the state of its return. -/
theorem lone_of_body {P : Program} {fn : Func} {c : Code} {b : Frame} {a : Act} {v : World} {R : Ending → World → Prop} (h : c.wp P (bodyPost P fn R) a v) (hR : ∀ e w, R e w → ∃ x, e = .returned x) :
    ∃ N fr v', runN P N (lone (b.at a [.code c]) [pit] v) = .next (lone fr [pit] v') ∧ fr.mode = .returning ∧ ∃ a' todo, fr = { b.at a' todo with mode := .returning } ∧ a'.defers = [] ∧ ∃ x, (results fn a'.tmps).run P v' = .ok x v' ∧ R (.returned x) v' := by
  obtain ⟨e, a', w', q, arr⟩ := h b [] [pit]
  cases e with
  | normal =>
    obtain ⟨hd, x, hr, hx⟩ := q
    obtain ⟨n, hn⟩ := Steps.trans arr (.one step_end)
    exact ⟨n, _, w', hn, rfl, a', [], rfl, hd, x, hr, hx⟩
  | ret =>
    obtain ⟨hd, x, hr, hx⟩ := q
    obtain ⟨todo, n, hn⟩ := arr
    exact ⟨n, _, w', hn, rfl, a', todo, rfl, hd, x, hr, hx⟩
  | panic ch =>
    obtain ⟨_, hx⟩ := q
    obtain ⟨x, hx⟩ := hR _ _ hx
    cases hx
  | outgrown =>
    obtain ⟨x, hx⟩ := hR _ _ q
    cases hx
  | exit id => exact q.elim
  | goto l => exact q.elim
theorem calm_rest : codeCalm Try.prog calmF (seqTail (R38of (bodyOf Try.f38))) = true := by kernel_rfl
section
variable {W : World} {N n cap : Nat} {a0 : Option Addr} {cs : List Frame} {X : Nat → Prop} {J q Bm : Nat} {ps : List (List UInt8)} {sl : Nat → Option Addr × Nat} {m : Machine} {t : Trace}
/-- At Parts' return. -/
def P3 (W : World) (N : Nat) (X : Nat → Prop) (ps : List (List UInt8)) (cs : List Frame) (g : Goroutine) (w : World) : Prop :=
  ∃ a' todo, g = G { (base 38).at a' todo with mode := .returning } cs ∧ a'.defers = [] ∧ a'.tmps.getD 2 undef = .int .u32 (sumP ps : Nat) ∧ Below N W w ∧ Veils.Rows X w
theorem P3.at {g : Goroutine} {w : World} (h : P3 W N X ps cs g w) (d : Nat) : P3 W N X ps cs g (w.at d) := by
  obtain ⟨a', todo, h1, h2, h3, h4, h5⟩ := h
  exact ⟨a', todo, h1, h2, h3, below_at h4 d, h5⟩
theorem rows_two (hR : Veils.Rows X W) (hXN : ∀ r, X r → r < N) {w : World} (hb : Below N W w) (hl : WgLive 96 (N + 2) w) : Veils.Rows (fun r => X r ∨ r = N + 2) w := by
  intro b hb'
  rcases hb' with hb' | rfl
  · obtain ⟨c, e, h1, h2⟩ := hR b hb'
    exact ⟨c, e, (hb.block b (hXN b hb')).trans h1, h2⟩
  · obtain ⟨st, sm, h⟩ := hl
    exact ⟨_, _, h, by simp⟩
theorem parts_rest (hXN : ∀ r, X r → r < N) (hR : Veils.Rows X W) (ha : Args W N X a0 n ps sl) (hB : ∀ j, j < n → (ps.getD j []).length ≤ 140737488355328) (hn : n < 2147483648) (a : Goroutine) (w : World) (h : BackP N n a0 cap cs a ∧ SF W N n w ∧ Full N (valsP n ps) w) :
    Runs Try.prog (DF fun r => X r ∨ r = N + 2) (P3 W N (fun r => X r ∨ r = N + 2) ps cs) a w := by
  obtain ⟨⟨T, ⟨hT, t0, t3⟩, rfl⟩, hS, hF⟩ := h
  refine Runs.of_step rfl fun d => ⟨_, _, _, stepG_region_end, ⟨Nat.le_refl _, fun e he => by simp at he⟩, ?_⟩
  have hS : SF W N n (w.at d) := hS.rely (RQ.at w d)
  have hF : Full N (valsP n ps) (w.at d) := hF
  generalize w.at d = w at hS hF
  obtain ⟨T', hT'⟩ : ∃ T' : Array Value, T.setIfInBounds 23 (.tuple #[]) = T' := ⟨_, rfl⟩
  have hput : (⟨T, []⟩ : Act).put (((opsOf (seqHead (R38of (bodyOf Try.f38))))[0]?).bind (·.dst)) (.tuple #[]) = ⟨T', []⟩ := by
    rw [← hT']
    rfl
  rw [hput]
  have s0 : T'[0]? = some (.slice a0 n cap) := by rw [← hT', Array.getElem?_setIfInBounds_ne (by omega)]; exact t0
  have s3 : T'[3]? = some (.pointer (some ⟨N + 1, 0, none⟩)) := by rw [← hT', Array.getElem?_setIfInBounds_ne (by omega)]; exact t3
  have hTs : T'.size = 44 := by rw [← hT']; simpa using hT
  have hRw := rows_two hR hXN hS.below hS.live
  have hnX : ∀ b, b ≤ N + 1 → (∀ r, X r → r ≠ b) → ¬ (X b ∨ b = N + 2) := fun b hb hx h => by
    rcases h with h | h
    · exact hx b h rfl
    · omega
  have hXb : ∀ b, N ≤ b → ∀ r, X r → r ≠ b := fun b hb r hr e => by have := hXN r hr; omega
  refine seq_runs (F := calmF) (X := fun r => X r ∨ r = N + 2) fns (Fin := fun fr v' => ∃ a' todo, fr = { (base 38).at a' todo with mode := .returning } ∧ a'.defers = [] ∧ ∃ x, (results Try.f38 a'.tmps).run Try.prog v' = .ok x v' ∧ (Ending.returned x = .returned (.int .u32 (sumP ps : Nat)) ∧ ∃ t, Below w.heap.size { veilW (fun r => X r ∨ r = N + 2) w with tape := t, drawn := 0 } v')) cs
    ⟨⟨_, Try.func38⟩, fun it hit => ?_, rfl, rfl, rfl⟩ (.inl rfl) hRw (fun tp => ?_) (fun w w' es _ _ hsz hes => ⟨hsz, hes⟩) ?_
  · obtain rfl := List.mem_singleton.1 hit
    exact calm_rest
  · have hv : RestW { veilW (fun r => X r ∨ r = N + 2) w with tape := tp, drawn := 0 } N n a0 ps sl := by
      refine ⟨ha.len, ?_, fun k hk => ?_, ?_, fun hp => ?_⟩
      · show N + 1 < (veilW _ w).heap.size
        rw [veil_size]
        exact hS.sums.lt
      · refine veil_cell (hnX N (by omega) (hXb N (Nat.le_refl _))) ?_
        have hF : w.heap[N]? = some (.cells (valsP n ps).toArray Payload.ety) := hF
        simp [World.cell?, hF, valsP, hk, valP]
      · exact veil_cell (hnX (N + 1) (Nat.le_refl _) (hXb _ (by omega))) hS.sums.cell
      · obtain ⟨g, off, h1, h2, h3, h4⟩ := ha.cells hp
        exact ⟨g, off, h1, h2, fun j hj => veil_cell (hnX g (by omega) (fun r hr e => h3 (e ▸ hr))) ((hS.below.cell (p := ⟨g, off + j, none⟩) h2).trans (h4 j hj))⟩
    obtain ⟨n', fr, v', h1, h2, a', todo, h3, h4, x, h5, h6, h7⟩ := lone_of_body (b := base 38) (rest_any hv hn hB T' hTs s0 s3) (fun e w h => ⟨_, h.1⟩)
    refine ⟨n', fr, v', h1, h2, a', todo, h3, h4, x, h5, h6, tp, ?_⟩
    have e : ({ veilW (fun r => X r ∨ r = N + 2) w with tape := tp, drawn := 0 } : World).heap.size = w.heap.size := veil_size _ w
    rw [e] at h7
    exact h7
  · rintro fr v' w' ⟨a', todo, rfl, h4, x, h5, h6, tp, h7⟩ _ hh hos hout hk ht
    have hx : x = a'.tmps.getD 2 undef := by
      have := results_tmp (t := 2) (fn := Try.f38) rfl a'.tmps Try.prog v'
      rw [this] at h5
      cases h5
      rfl
    have hb := below_veil hk hh hos hout ht h7
    refine ⟨a', todo, rfl, h4, ?_, hS.below.trans (hb.mono (by have := hS.n0; omega)), hRw.keep fun b hb => hk.same b (.inl hb)⟩
    injection h6 with h6
    rw [← hx, h6]
variable {b₀ : Frame} {a₀ : Act} {ops₀ : Array Oper} {i₀ : Nat} {rest₀ : List Nat} {k₀ : List Item} {cs₀ : List Frame}
/-- Behind the call of Parts. -/
def P4 (W : World) (N : Nat) (X : Nat → Prop) (g' : Goroutine) (g : Goroutine) (w : World) : Prop := g = g' ∧ Below N W w ∧ Veils.Rows X w
/-- PARTS. -/
theorem parts_runs (hq : TakeQ Bm q) (hXN : ∀ r, X r → r < N) (hR : Veils.Rows X W) (ha : Args W N X a0 n ps sl) (hB : ∀ j, j < n → (ps.getD j []).length ≤ Bm) (hBm : Bm ≤ 140737488355328) (hn : n < 2147483648)
    (h : Mach Try.prog X J (P0 W N n a0 cap (b₀.at a₀ (.inRegion ops₀ (i₀ :: rest₀) :: k₀) :: cs₀)) m t) :
    Leads Try.prog m t (Mach Try.prog (fun r => X r ∨ r = N + 2) (J + n) (P4 W N (fun r => X r ∨ r = N + 2) (G (b₀.at (a₀.put ((ops₀[i₀]?).bind (·.dst)) (.int .u32 (sumP ps : Nat))) (.inRegion ops₀ rest₀ :: k₀)) cs₀))) := by
  refine (parts_wait hq hXN ha hB hn h).bind fun m1 t1 h1 => ?_
  refine (h1.runs fun a w hs => parts_rest hXN hR ha (fun j hj => Nat.le_trans (hB j hj) hBm) hn a w hs).bind fun m2 t2 h2 => ?_
  refine h2.runs fun a w hs => ?_
  refine Runs.of_step (by obtain ⟨_, _, rfl, _⟩ := hs; rfl) fun d => ?_
  obtain ⟨a', todo, rfl, hd, hx, hb, hr⟩ := hs.at d
  refine ⟨_, w.at d, #[], ?_, ⟨Nat.le_refl _, fun e he => by simp at he⟩, .stop fun d' => ⟨rfl, below_at hb d', hr⟩⟩
  rw [stepG_leave rfl hd Try.func38 (results_tmp (t := 2) rfl _ Try.prog (w.at d)) (events_results_tmp (t := 2) rfl _ _), Frame.finish_at, hx]
end
end Go.Proofs.Ytoipkpndfgcmcaa.Crew
