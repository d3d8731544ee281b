/-
  CheckParts: from its entry to its end, in the whole machine. The conditions stand in each theorem.
-/
import Derived.Test.YtoipkpndfgcmcaaCpRest
namespace Go.Proofs.Ytoipkpndfgcmcaa.Crew
open Go Go.Conc Go.ConcN Go.RowKit Go.Conc.Lib Go.ConcR.Gen Go.ConcN.Gen Go.Proofs.Ytoipkpndfgcmcaa.Veils
open Go.ConcR (Payload)
set_option linter.unusedVariables false
set_option linter.unusedSectionVars false
theorem HeldC.keep {m h : Nat} {w w' : World} {qs : List (List UInt8)} {G : Nat → Nat × Nat} (H : HeldC w qs m h G) (hs : w.heap.size ≤ w'.heap.size) (hk : ∀ (p : Addr) (u : Value), p.block < w.heap.size → w.cell? p = some u → w'.cell? p = some u) : HeldC w' qs m h G :=
  ⟨Nat.lt_of_lt_of_le H.lt hs, fun j hj => hk _ _ H.lt (H.row j hj), fun j hj => ⟨(H.each j hj).cap, Nat.lt_of_lt_of_le (H.each j hj).lt hs, fun k u hu => hk ⟨(G j).1, k, none⟩ u (H.each j hj).lt ((H.each j hj).cells k u hu)⟩⟩
theorem enter9 (a0 : Option Addr) (n cap : Nat) : Frame.enter Try.prog 9 #[.slice a0 n cap] .normal = plus (fr9 #[.slice a0 n cap, undef, undef, undef, undef, undef, undef, undef, undef, undef, undef, undef, undef, undef, undef, undef, undef, undef, undef, undef, undef, undef, undef, undef, undef, undef, undef, undef, undef, undef, undef, undef, undef, undef, undef, undef, undef, undef, undef, undef, undef, undef, undef, undef, undef, undef, undef, undef, undef, undef, undef, undef, undef, undef, undef, undef, undef, undef, undef, undef, undef, undef, undef, undef, undef, undef] []) (.code (graftf (seqTails 7 (bodyOf Try.f9)) (front 7 (bodyOf Try.f9))) :: []) := by kernel_rfl
theorem tailed9 : tailed Try.prog calmF (front 7 (bodyOf Try.f9)) = true := by kernel_rfl
theorem calm9 : codeCalm Try.prog calmF (R9of (bodyOf Try.f9)) = true := by kernel_rfl
theorem inits9 : Try.prog.inits.idxOf? 9 = none := by kernel_rfl
section
variable {W : World} {a0 : Option Addr} {n cap : Nat} {ps : List (List UInt8)} {sl : Nat → Option Addr × Nat}
/-- Behind the beginning: the law's own memory. -/
def S1 (W : World) (a0 : Option Addr) (n cap : Nat) (ps : List (List UInt8)) (g : Goroutine) (w : World) : Prop :=
  ∃ h c G, Q1 a0 n cap h c ps g ∧ n + 1 ≤ c ∧ HeldC w (ps ++ [seven]) (n + 1) h G ∧ Below W.heap.size W w
theorem cp_start (hp : PartsIn W W.heap.size a0 n ps sl) (hB : ∀ j, j < n → (ps.getD j []).length ≤ 1048576) (hn : n ≤ 1048576) :
    Runs Try.prog (DF fun _ => False) (S1 W a0 n cap ps) (G (Frame.enter Try.prog 9 #[.slice a0 n cap] .normal) []) W := by
  rw [enter9]
  have e : ∀ (tp : Tape), ({ veilW (fun _ => False) W with tape := tp, drawn := 0 } : World).heap.size = W.heap.size := fun tp => veil_size _ W
  refine graft_runs (F := calmF) (X := fun _ => False) fns (Fin := fun fr v' => ∃ tp a', fr = (base 9).at a' [] ∧ CpFin { veilW (fun _ => False) W with tape := tp, drawn := 0 } a0 n cap ps a' v') _ _ _ _
    ⟨⟨_, Try.func9⟩, fun it hit => (by cases hit), rfl, rfl, rfl⟩ rfl rfl tailed9 (fun b hb => hb.elim) (fun tp => ?_) (fun w w' es _ _ hsz hes => ⟨hsz, hes⟩) ?_
  · have hv : PartsIn { veilW (fun _ => False) W with tape := tp, drawn := 0 } W.heap.size a0 n ps sl := hp.keep fun p u _ hc => veil_cell (fun h => h) hc
    have hf := cp_front { veilW (fun _ => False) W with tape := tp, drawn := 0 } a0 n cap ps sl (by rw [e]; exact hv) hB hn
    obtain ⟨n', fr, v', h1, h2, h3, a', h4, h5⟩ := lone_of_front (b := base 9) hf
    exact ⟨n', fr, v', h1, h2, h3, tp, a', h4, h5⟩
  · rintro fr v' w' ⟨tp, a', rfl, h, c, G, hd, hT, hc, hH, hb⟩ _ _ hh hos hout hk ht
    rw [e] at hb
    refine ⟨h, c, G, ⟨a'.tmps, ?_, hT⟩, hc, hH.keep ?_ fun p u _ hc => ?_, below_veil hk hh hos hout ht hb⟩
    · obtain ⟨T', d'⟩ := a'
      have : d' = [] := hd
      subst this
      rfl
    · rw [hh, veil_size]; exact Nat.le_refl _
    · refine cell_veil (X := fun _ => False) ?_
      unfold World.cell? at hc ⊢
      rw [← hh]
      exact hc
section
variable {h c Bm q : Nat} {G0 : Nat → Nat × Nat} {W1 : World}
def AtH (W1 : World) (a0 : Option Addr) (n cap h c : Nat) (ps : List (List UInt8)) (k : Nat) (m : Machine) (t : Trace) : Prop := ∃ X J, Mach Try.prog X J (fun g w => Hd a0 n cap h c ps k g ∧ W9 W1 X w) m t
theorem W9.next {X : Nat → Prop} {w w' : World} (h9 : W9 W1 X w) (hb : Below w.heap.size w w') (hr : Veils.Rows (fun r => X r ∨ r = w.heap.size + 2) w') : W9 W1 (fun r => X r ∨ r = w.heap.size + 2) w' := by
  refine ⟨h9.below.trans (hb.mono h9.below.size), hr, fun r hrr => ⟨?_, ?_⟩⟩
  · have := h9.below.size
    rcases hrr with h | h
    · exact (h9.at_ r h).1
    · omega
  · obtain ⟨_, _, h1, _⟩ := hr r hrr
    exact (Array.getElem?_eq_some_iff.1 h1).1
theorem cp_round {m : Machine} {t : Trace} {k : Nat} (hk : k < 3) (hq : TakeQ 1048576 q) (hlen : ps.length = n) (hH : HeldC W1 (ps ++ [seven]) (n + 1) h G0) (hB : ∀ j, j < n → (ps.getD j []).length ≤ 1048576) (hn : n ≤ 1048576) (hA : AtH W1 a0 n cap h c ps k m t) : Leads Try.prog m t (AtH W1 a0 n cap h c ps (k + 1)) := by
  obtain ⟨X, J, hM⟩ := hA
  obtain ⟨a, w, ⟨hd, h9⟩, hm⟩ := hM.pin
  refine (hm.runs fun a' w' ⟨e1, e2⟩ => by
    subst e1 e2
    exact runs_of_goes 20 (cp_into (X := X) hk _ _ hd ⟨Below.refl _ _, rfl⟩)).bind fun m1 t1 h1 => ?_
  obtain ⟨a1, w1, ⟨T, hT, hT7, hP0⟩, hm1⟩ := h1.pin
  have hs := h9.below.size
  have ha : Args w w.heap.size X (some ⟨h, 0, none⟩) n ps (fun j => (some ⟨(G0 j).1, 0, none⟩, (G0 j).2)) :=
    ((hH.parts (ps := ps) (n := n) (by omega) hlen fun j hj => qs_at (by omega)).below h9.below).args hs fun r hr => (h9.at_ r hr).1
  refine (parts_runs hq (fun r hr => (h9.at_ r hr).2) h9.rows ha hB (by omega) (by omega) (hm1.named hP0)).bind fun m2 t2 h2 => ?_
  refine (h2.runs fun a w' ⟨e, hb, hr⟩ => runs_of_goes 20 (cp_back hk a w' ⟨T, e, hT, hT7⟩ (h9.next hb hr))).mono fun m3 t3 h3 => ⟨_, _, h3⟩
/-- At the law's return. -/
def Ret9 (W : World) (g : Goroutine) (w : World) : Prop :=
  ∃ a' todo, g = G { (base 9).at a' todo with mode := .returning } [] ∧ a'.defers = [] ∧ a'.tmps.getD 2 undef = .bool true ∧ Below W.heap.size W w
theorem cp_ends {X : Nat → Prop} (hp : PartsIn W W.heap.size a0 n ps sl) (hb1 : Below W.heap.size W W1) (hc : n + 1 ≤ c) (hH : HeldC W1 (ps ++ [seven]) (n + 1) h G0) (hB : ∀ j, j < n → (ps.getD j []).length ≤ 1048576) (hn : n ≤ 1048576) (g : Goroutine) (w : World) (hg : Q2 a0 n cap h c ps g) (h9 : W9 W1 X w) :
    Runs Try.prog (DF X) (Ret9 W) g w := by
  obtain ⟨T, rfl, hT⟩ := hg
  have hs := hb1.size
  have hs1 := h9.below.size
  have hbw : Below W.heap.size W w := hb1.trans (h9.below.mono hs)
  refine seq_runs (F := calmF) (X := X) fns (Fin := fun fr v' => ∃ a' todo, fr = { (base 9).at a' todo with mode := .returning } ∧ a'.defers = [] ∧ ∃ x, (results Try.f9 a'.tmps).run Try.prog v' = .ok x v' ∧ (Ending.returned x = .returned (.bool true) ∧ ∃ t, Below w.heap.size { veilW X w with tape := t, drawn := 0 } v')) []
    ⟨⟨_, Try.func9⟩, fun it hit => ?_, rfl, rfl, rfl⟩ (.inl rfl) h9.rows (fun tp => ?_) (fun w w' es _ _ hsz hes => ⟨hsz, hes⟩) ?_
  · obtain rfl := List.mem_singleton.1 hit
    exact calm9
  · have e : ({ veilW X w with tape := tp, drawn := 0 } : World).heap.size = w.heap.size := veil_size _ w
    have hv : PartsIn { veilW X w with tape := tp, drawn := 0 } W.heap.size a0 n ps sl := hp.keep fun p u hp' hc => veil_cell (fun hx => by have := (h9.at_ _ hx).1; omega) ((hbw.cell hp').trans hc)
    have hvH : HeldC { veilW X w with tape := tp, drawn := 0 } (ps ++ [seven]) (n + 1) h G0 := hH.keep (by rw [e]; exact hs1) fun p u hp' hc => veil_cell (fun hx => by have := (h9.at_ _ hx).1; omega) ((h9.below.cell hp').trans hc)
    obtain ⟨n', fr, v', h1, h2, a', todo, h3, h4, x, h5, h6, h7⟩ := lone_of_body (b := base 9) (cp_rest hv (by rw [e]; omega) hvH hn hB hc T hT) (fun e w h => ⟨_, h.1⟩)
    rw [e] at h7
    exact ⟨n', fr, v', h1, h2, a', todo, h3, h4, x, h5, h6, tp, h7⟩
  · rintro fr v' w' ⟨a', todo, rfl, h4, x, h5, h6, tp, h7⟩ _ hh hos hout hk ht
    have hx : x = a'.tmps.getD 2 undef := by
      have := results_tmp (t := 2) (fn := Try.f9) rfl a'.tmps Try.prog v'
      rw [this] at h5
      cases h5
      rfl
    have hb := below_veil hk hh hos hout ht h7
    refine ⟨a', todo, rfl, h4, ?_, hbw.trans (hb.mono (by omega))⟩
    injection h6 with h6
    rw [← hx, h6]
theorem ret_done {X : Nat → Prop} (g : Goroutine) (w : World) (h : Ret9 W g w) : AtDone Try.prog X (fun v w' => v = .bool true ∧ Below W.heap.size W w') g w := by
  obtain ⟨a', todo, rfl, hd, hx, hb⟩ := h
  refine ⟨rfl, fun d => ⟨.bool true, #[], ?_, fun e he => by simp at he, rfl, below_at hb d⟩⟩
  rw [stepG_last rfl hd Try.func9 (results_tmp (t := 2) rfl _ Try.prog (w.at d)) (events_results_tmp (t := 2) rfl _ _) inits9, hx]
end
/-- CHECKPARTS. -/
theorem checkParts_run (hp : PartsIn W W.heap.size a0 n ps sl) (hB : ∀ j, j < n → (ps.getD j []).length ≤ 1048576) (hn : n ≤ 1048576) :
    ∃ M last o w' t', runNT Try.prog (M + 1) (solo (G (Frame.enter Try.prog 9 #[.slice a0 n cap] .normal) []) W) #[] = (.ended o w', t') ∧ runN Try.prog M (solo (G (Frame.enter Try.prog 9 #[.slice a0 n cap] .normal) []) W) = .next last ∧
      step Try.prog last = .ended o w' ∧ Conc.Good Try.prog (fun v w' => v = .bool true ∧ Below W.heap.size W w') last o w' t' := by
  obtain ⟨q, hq⟩ := take_co 1048576 (by omega)
  have h0 : Mach Try.prog (fun _ => False) 0 (fun g w => g = G (Frame.enter Try.prog 9 #[.slice a0 n cap] .normal) [] ∧ w = W) (solo (G (Frame.enter Try.prog 9 #[.slice a0 n cap] .normal) []) W) #[] := mach_one _ _ ⟨rfl, rfl⟩
  have hl : Leads Try.prog (solo (G (Frame.enter Try.prog 9 #[.slice a0 n cap] .normal) []) W) #[] (fun m t => ∃ X J, Mach Try.prog X J (Ret9 W) m t) := by
    refine (h0.runs fun a w hs => by
      rw [hs.1, hs.2]
      exact cp_start hp hB hn).bind fun m1 t1 h1 => ?_
    obtain ⟨a, W1, ⟨h, c, G0, hQ, hc, hH, hb1⟩, hm⟩ := h1.pin
    have h2 : Leads Try.prog m1 t1 (AtH W1 a0 n cap h c ps 0) := ((hm.named (S := fun g w => Q1 a0 n cap h c ps g ∧ W9 W1 (fun _ => False) w) ⟨hQ, Below.refl _ _, fun b hb => hb.elim, fun r hr => hr.elim⟩).runs fun a w ⟨k1, k2⟩ => runs_of_goes 20 (cp_first (X := fun _ => False) a w k1 k2)).mono fun m2 t2 h2 => ⟨_, _, h2⟩
    refine (((h2.bind fun m t hA => cp_round (by omega) hq hp.len hH hB hn hA).bind fun m t hA => cp_round (by omega) hq hp.len hH hB hn hA).bind fun m t hA => cp_round (by omega) hq hp.len hH hB hn hA).bind fun m3 t3 ⟨X, J, h3⟩ => ?_
    refine (h3.runs fun a w ⟨k1, k2⟩ => runs_of_goes 20 (cp_out (X := X) a w k1 k2)).bind fun m4 t4 h4 => ?_
    exact (h4.runs fun a w ⟨k1, k2⟩ => cp_ends hp hb1 hc hH hB hn a w k1 k2).mono fun m5 t5 h5 => ⟨_, _, h5⟩
  obtain ⟨N, m1, t1, h1, X, J, h2⟩ := hl
  exact Leads.ends (X := X) (J := J) ⟨N, m1, t1, h1, h2⟩ fun a w hs => ret_done a w hs
end
end Go.Proofs.Ytoipkpndfgcmcaa.Crew
