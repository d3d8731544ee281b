/-
  Where the starter and each worker stand; each stands so under what it suffers. The conditions stand in each definition. No program in sight.
-/
import Derived.Test.YtoipkpndfgcmcaaCvSpec
namespace Go.Proofs.Ytoipkpndfgcmcaa.Crew
open Go Go.Conc Go.ConcN Go.RowKit Go.Proofs.Ytoipkpndfgcmcaa.Veils
open Go.ConcR (KK wgBlock WgAt stA smA rd wr mk Payload DC0 Bk)
set_option linter.unusedVariables false
set_option linter.unusedSectionVars false
variable [Payload]

section
variable (P : Program) (L : Lay) (X : Nat → Prop) (M K : Nat)
/-! a worker -/
/-- On its way to its release, by the library's own walk. -/
def AtEnd1 (i : Nat) (v : Value) (g : Goroutine) (w : World) : Prop := Goes P false (RW L.ty L.Wg L.C L.n L.N0 i) (DWs L.Wg no2 no2 L.C L.n (i + 1)) (AtR0 P L.ty L.Wg L.C L.n L.N0 (i + 1) v) K g w
/-- It makes its one block. -/
def AtMk (Low : Nat) (Rd : Nat → Prop) (i : Nat) (v : Value) (g : Goroutine) (w : World) : Prop :=
  g.status = .running ∧ ∃ g' cs, stepG P false g w = .go g' (w.alloc (.cells cs L.eH)) #[] ∧
    Goes P false (RX L Low (some w.heap.size) i) (DX L Rd (some w.heap.size) i) (AtEnd1 P L K i v) M g' (w.alloc (.cells cs L.eH))
inductive WS (Low : Nat) (Rd : Nat → Prop) (i : Nat) (v : Value) : Option Nat → Nat → Nat → Nat → Goroutine → World → Prop
  | pre {m : Nat} {g : Goroutine} {w : World} : Goes P false (RX L Low none i) (DX L Rd none i) (AtMk P L M K Low Rd i v) m g w → WS Low Rd i v none 7 (m + 1 + (M + 1 + K)) 0 g w
  | post {b m : Nat} {g : Goroutine} {w : World} : Goes P false (RX L Low (some b) i) (DX L Rd (some b) i) (AtEnd1 P L K i v) m g w → WS Low Rd i v (some b) 7 (m + 1 + K) 0 g w
  | lib {b : Option Nat} {s m d : Nat} {g : Goroutine} {w : World} : WSit P L.ty L.Wg L.C L.n no2 no2 L.N0 (i + 1) v s m d g w → WS Low Rd i v b s m d g w
/-! the starter -/
variable (val : Nat → Value) (vals : List Value) (Anch AnchW : Goroutine → World → Prop)
def GQ (Lw : Nat) (Stop : Goroutine → World → Prop) (m : Nat) (g : Goroutine) (w : World) : Prop := Goes P true (RQ L) (DQ L X Lw) Stop m g w
/-- The go statement. -/
def AtGo (j : Nat) (Next : Nat → Goroutine → World → Prop) (g : Goroutine) (w : World) : Prop :=
  g.status = .running ∧ ∃ g' child Rd, stepG P true g w = .spawn g' child w #[] ∧ child.status = .running ∧ (∀ b, Rd b → b < w.heap.size ∧ b ≠ L.C ∧ b ≠ L.Wg ∧ ¬ X b ∧ ¬ Half L w b) ∧
    (PayAt L.C L.n w → ∃ m, Goes P false (RX L w.heap.size none j) (DX L Rd none j) (AtMk P L M K w.heap.size Rd j (val j)) m child w) ∧ Next w.heap.size g' w
def AtOn (Lw j : Nat) (Next : Nat → Goroutine → World → Prop) (g : Goroutine) (w : World) : Prop :=
  g.status = .running ∧ ∃ g', stepG P true g w = .go g' w #[mk .enable] ∧ ∃ m, GQ P L X Lw (AtGo P L X M K val j Next) m g' w
def AtUp (Lw j : Nat) (Next : Nat → Goroutine → World → Prop) (g : Goroutine) (w : World) : Prop :=
  g.status = .running ∧ ∀ v : Nat, v < 2147483647 → WgAt L.ty L.Wg w (v * KK) 0 →
    ∃ g', stepG P true g w = .go g' (w.setCell (stA L.Wg) (.int .u64 ((v + 1) * KK))) #[rd (stA L.Wg), wr (stA L.Wg)] ∧ ∃ m, GQ P L X Lw (AtOn P L X M K val Lw j Next) m g' (w.setCell (stA L.Wg) (.int .u64 ((v + 1) * KK)))
def AtOff (Lw j : Nat) (Next : Nat → Goroutine → World → Prop) (g : Goroutine) (w : World) : Prop :=
  g.status = .running ∧ ∃ g', stepG P true g w = .go g' w #[mk .disable] ∧ ∃ m, GQ P L X Lw (AtUp P L X M K val Lw j Next) m g' w
def Starts (Fin : Nat → Goroutine → World → Prop) : Nat → Nat → Goroutine → World → Prop
  | 0, Lw, g, w => Fin Lw g w
  | r + 1, Lw, g, w => ∃ m, GQ P L X Lw (AtOff P L X M K val Lw (L.n - (r + 1)) (Starts Fin r)) m g w
def AtHear (g : Goroutine) (w : World) : Prop := g.status = .running ∧ ∃ g', stepG P true g w = .go g' w #[mk (.acquire (stA L.Wg))] ∧ (Full L.C vals w → g'.status = .running ∧ Anch g' w)
def AtBack (Lw : Nat) (g : Goroutine) (w : World) : Prop := g.status = .running ∧ ∃ g', stepG P true g w = .go g' w #[mk .enable] ∧ ∃ m, GQ P L X Lw (AtHear P L vals Anch) m g' w
def AtLast (Lw : Nat) (g : Goroutine) (w : World) : Prop := g.status = .running ∧ (WgAt L.ty L.Wg w 0 0 → ∃ g', stepG P true g w = .go g' w #[rd (stA L.Wg)] ∧ ∃ m, GQ P L X Lw (AtBack P L X vals Anch Lw) m g' w)
def AtSem (Lw : Nat) (g : Goroutine) (w : World) : Prop :=
  g.status = .running ∧ g.offers = none ∧ ((∃ st, WgAt L.ty L.Wg w st 0) → stepG P true g w = .go { g with status := .blocked } w #[]) ∧
    (WgAt L.ty L.Wg w 0 1 → ∃ g', stepG P true g w = .go g' (w.setCell (smA L.Wg) (.int .u32 0)) (semEvents (smA L.Wg)) ∧ ∃ m, GQ P L X Lw (AtLast P L X vals Anch Lw) m g' (w.setCell (smA L.Wg) (.int .u32 0)))
def AtSwap (Lw vs : Nat) (g : Goroutine) (w : World) : Prop :=
  g.status = .running ∧ ∀ v : Nat, v < 2147483648 → WgAt L.ty L.Wg w (v * KK) 0 →
    (v = vs → ∃ g', stepG P true g w = .go g' (w.setCell (stA L.Wg) (.int .u64 (v * KK + 1))) #[rd (stA L.Wg), wr (stA L.Wg)] ∧ ∃ m, GQ P L X Lw (AtSem P L X vals Anch Lw) m g' (w.setCell (stA L.Wg) (.int .u64 (v * KK + 1)))) ∧
    (v ≠ vs → ∃ g', stepG P true g w = .go g' w #[rd (stA L.Wg)] ∧ ∃ m, GQ P L X Lw AnchW m g' w)
def AtLook (Lw : Nat) (g : Goroutine) (w : World) : Prop :=
  g.status = .running ∧ ∀ v : Nat, v < 2147483648 → WgAt L.ty L.Wg w (v * KK) 0 → ∃ g', stepG P true g w = .go g' w #[rd (stA L.Wg)] ∧
    (v = 0 → ∃ m, GQ P L X Lw (AtBack P L X vals Anch Lw) m g' w) ∧ (v ≠ 0 → ∃ m, GQ P L X Lw (AtSwap P L X vals Anch AnchW Lw v) m g' w)
def AtIn (Lw : Nat) (g : Goroutine) (w : World) : Prop := g.status = .running ∧ ∃ g', stepG P true g w = .go g' w #[mk .disable] ∧ ∃ m, GQ P L X Lw AnchW m g' w
def Fin0 (Lw : Nat) (g : Goroutine) (w : World) : Prop := ∃ m, GQ P L X Lw (AtIn P L X AnchW Lw) m g w
/-- tag, how many are started, fuel, deafness, the bound. -/
inductive SS : CTag → Nat → Nat → Nat → Nat → Goroutine → World → Prop
  | off {r m Lw : Nat} {g : Goroutine} {w : World} : r < L.n → GQ P L X Lw (AtOff P L X M K val Lw (L.n - (r + 1)) (Starts P L X M K val (Fin0 P L X AnchW) r)) m g w → SS (.sp r 5) (L.n - (r + 1)) m 0 Lw g w
  | up {r m Lw : Nat} {g : Goroutine} {w : World} : r < L.n → GQ P L X Lw (AtUp P L X M K val Lw (L.n - (r + 1)) (Starts P L X M K val (Fin0 P L X AnchW) r)) m g w → SS (.sp r 4) (L.n - (r + 1)) m 1 Lw g w
  | on {r m Lw : Nat} {g : Goroutine} {w : World} : r < L.n → GQ P L X Lw (AtOn P L X M K val Lw (L.n - (r + 1)) (Starts P L X M K val (Fin0 P L X AnchW) r)) m g w → SS (.sp r 3) (L.n - (r + 1)) m 1 Lw g w
  | go {r m Lw : Nat} {g : Goroutine} {w : World} : r < L.n → GQ P L X Lw (AtGo P L X M K val (L.n - (r + 1)) (Starts P L X M K val (Fin0 P L X AnchW) r)) m g w → SS (.sp r 2) (L.n - (r + 1)) m 0 Lw g w
  | in_ {m Lw : Nat} {g : Goroutine} {w : World} : GQ P L X Lw (AtIn P L X AnchW Lw) m g w → SS .kd L.n m 0 Lw g w
  | anch {m Lw : Nat} {g : Goroutine} {w : World} : GQ P L X Lw AnchW m g w → SS .anch L.n m 1 Lw g w
  | look {m Lw : Nat} {g : Goroutine} {w : World} : GQ P L X Lw (AtLook P L X vals Anch AnchW Lw) m g w → SS .w1 L.n m 1 Lw g w
  | swap {vs m Lw : Nat} {g : Goroutine} {w : World} : GQ P L X Lw (AtSwap P L X vals Anch AnchW Lw vs) m g w → SS (.w2 vs) L.n m 1 Lw g w
  | sem {m Lw : Nat} {g : Goroutine} {w : World} : GQ P L X Lw (AtSem P L X vals Anch Lw) m g w → SS .w3 L.n (m + 1) 1 Lw g w
  | blk {Lw : Nat} {g : Goroutine} {w : World} : (∀ w₁, RQ L w w₁ → AtSem P L X vals Anch Lw g w₁) → SS .blk L.n 0 1 Lw { g with status := .blocked } w
  | last {m Lw : Nat} {g : Goroutine} {w : World} : GQ P L X Lw (AtLast P L X vals Anch Lw) m g w → SS .w4 L.n m 1 Lw g w
  | back {m Lw : Nat} {g : Goroutine} {w : World} : GQ P L X Lw (AtBack P L X vals Anch Lw) m g w → SS .ke L.n m 1 Lw g w
  | hear {m Lw : Nat} {g : Goroutine} {w : World} : GQ P L X Lw (AtHear P L vals Anch) m g w → SS .acq L.n m 0 Lw g w
end
section
variable {P : Program} {L : Lay} {X : Nat → Prop} {M K : Nat} {val : Nat → Value} {vals : List Value} {Anch AnchW : Goroutine → World → Prop} {w w₁ : World}
theorem WS.rely {Low i : Nat} {Rd : Nat → Prop} {v : Value} {b : Option Nat} {s m d : Nat} {g : Goroutine} (h : WS P L M K Low Rd i v b s m d g w) (hr : RX L Low b i w w₁) (hl : L.N0 ≤ Low) (hs : L.N0 ≤ w.heap.size) : WS P L M K Low Rd i v b s m d g w₁ := by
  cases h with
  | pre h => exact .pre (Goes.rely (fun _ _ _ h1 h2 => h1.trans h2) h hr)
  | post h => exact .post (Goes.rely (fun _ _ _ h1 h2 => h1.trans h2) h hr)
  | lib h => exact .lib (h.rely (by simpa using hr.rw_ hl hs))
theorem WS.status {Low i : Nat} {Rd : Nat → Prop} {v : Value} {b : Option Nat} {s m d : Nat} {g : Goroutine} (h : WS P L M K Low Rd i v b s m d g w) (hl : L.N0 ≤ Low) (hs : L.N0 ≤ w.heap.size) : g.status = .running ∨ g.status = .finished := by
  have h1 : ∀ {g : Goroutine} {w : World}, AtEnd1 P L K i v g w → g.status = .running := fun h => Goes.running (fun _ _ x => x.1) _ (RW.refl _) h
  cases h with
  | pre h => exact .inl (Goes.running (fun _ _ x => x.1) w (RX.refl w) h)
  | post h => exact .inl (Goes.running (fun _ _ x => h1 x) w (RX.refl w) h)
  | lib h => exact h.status
theorem WS.running {Low i : Nat} {Rd : Nat → Prop} {v : Value} {b : Option Nat} {s m d : Nat} {g : Goroutine} (h : WS P L M K Low Rd i v b s m d g w) (hs1 : s ≠ 1) : g.status = .running := by
  have h1 : ∀ {g : Goroutine} {w : World}, AtEnd1 P L K i v g w → g.status = .running := fun h => Goes.running (fun _ _ x => x.1) _ (RW.refl _) h
  cases h with
  | pre h => exact Goes.running (fun _ _ x => x.1) w (RX.refl w) h
  | post h => exact Goes.running (fun _ _ x => h1 x) w (RX.refl w) h
  | lib h => exact h.running_of hs1
theorem WS.woken {Low i : Nat} {Rd : Nat → Prop} {v : Value} {b : Option Nat} {s m d : Nat} {g : Goroutine} (h : WS P L M K Low Rd i v b s m d g w) (hl : L.N0 ≤ Low) (hs : L.N0 ≤ w.heap.size) (a a' : Goroutine) (w' : World) : woken P a a' w' g = g := by
  unfold Go.Conc.woken
  split
  · exact again_running _ (h.status hl hs)
  · rfl
variable {tag : CTag} {j f d Lw : Nat} {a : Goroutine}
theorem SS.rely (h : SS P L X M K val vals Anch AnchW tag j f d Lw a w) (hr : RQ L w w₁) : SS P L X M K val vals Anch AnchW tag j f d Lw a w₁ := by
  have tr : ∀ x y z, RQ L x y → RQ L y z → RQ L x z := fun _ _ _ h1 h2 => h1.trans h2
  cases h with
  | off hn h => exact .off hn (Goes.rely tr h hr)
  | up hn h => exact .up hn (Goes.rely tr h hr)
  | on hn h => exact .on hn (Goes.rely tr h hr)
  | go hn h => exact .go hn (Goes.rely tr h hr)
  | in_ h => exact .in_ (Goes.rely tr h hr)
  | anch h => exact .anch (Goes.rely tr h hr)
  | look h => exact .look (Goes.rely tr h hr)
  | swap h => exact .swap (Goes.rely tr h hr)
  | sem h => exact .sem (Goes.rely tr h hr)
  | blk h => exact .blk (fun w₂ h₂ => h w₂ (hr.trans h₂))
  | last h => exact .last (Goes.rely tr h hr)
  | back h => exact .back (Goes.rely tr h hr)
  | hear h => exact .hear (Goes.rely tr h hr)
theorem SS.status (hAr : ∀ g w, AnchW g w → g.status = .running) (h : SS P L X M K val vals Anch AnchW tag j f d Lw a w) : (a.status = .running ∧ tag ≠ .blk) ∨ (a.status = .blocked ∧ tag = .blk) := by
  cases h with
  | off _ h => exact .inl ⟨Goes.running (fun _ _ x => x.1) w (.refl w) h, by simp⟩
  | up _ h => exact .inl ⟨Goes.running (fun _ _ x => x.1) w (.refl w) h, by simp⟩
  | on _ h => exact .inl ⟨Goes.running (fun _ _ x => x.1) w (.refl w) h, by simp⟩
  | go _ h => exact .inl ⟨Goes.running (fun _ _ x => x.1) w (.refl w) h, by simp⟩
  | in_ h => exact .inl ⟨Goes.running (fun _ _ x => x.1) w (.refl w) h, by simp⟩
  | anch h => exact .inl ⟨Goes.running hAr w (.refl w) h, by simp⟩
  | look h => exact .inl ⟨Goes.running (fun _ _ x => x.1) w (.refl w) h, by simp⟩
  | swap h => exact .inl ⟨Goes.running (fun _ _ x => x.1) w (.refl w) h, by simp⟩
  | sem h => exact .inl ⟨Goes.running (fun _ _ x => x.1) w (.refl w) h, by simp⟩
  | blk h => exact .inr ⟨rfl, rfl⟩
  | last h => exact .inl ⟨Goes.running (fun _ _ x => x.1) w (.refl w) h, by simp⟩
  | back h => exact .inl ⟨Goes.running (fun _ _ x => x.1) w (.refl w) h, by simp⟩
  | hear h => exact .inl ⟨Goes.running (fun _ _ x => x.1) w (.refl w) h, by simp⟩
/-- Under another's step: as it stood; or, blocked, let try again. -/
theorem SS.wokenBy (hAr : ∀ g w, AnchW g w → g.status = .running) (h : SS P L X M K val vals Anch AnchW tag j f d Lw a w) (hr : RQ L w w₁) (g g' : Goroutine) :
    ∃ tag' f', SS P L X M K val vals Anch AnchW tag' j f' d Lw (woken P g g' w₁ a) w₁ ∧ f' ≤ f + 1 ∧ (tag' = tag ∨ (tag = .blk ∧ tag' = .w3)) ∧ (mayWake P g = true → g'.status = .running → tag' ≠ .blk) := by
  have h' := h.rely hr
  unfold Go.Conc.woken
  split
  · rcases h'.status hAr with ⟨hs, hne⟩ | ⟨_, rfl⟩
    · exact ⟨tag, f, by rw [again_running _ (.inl hs)]; exact h', by omega, .inl rfl, fun _ _ => hne⟩
    · cases h' with
      | blk hb =>
        have h3 := hb w₁ (.refl w₁)
        exact ⟨.w3, 0 + 1, by rw [Go.ConcR.again_blocked h3.1 h3.2.1]; exact .sem (Goes.stop hb), by omega, .inr ⟨rfl, rfl⟩, fun _ _ => by simp⟩
  · rename_i hc
    exact ⟨tag, f, h', by omega, .inl rfl, fun h1 h2 => absurd (by simp [h1, h2]) hc⟩
end
end Go.Proofs.Ytoipkpndfgcmcaa.Crew
