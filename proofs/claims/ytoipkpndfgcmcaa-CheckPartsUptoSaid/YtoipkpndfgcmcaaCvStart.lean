/-
  The starter in Parts: the loop that starts the workers, into Wait. The conditions stand in each theorem.
-/
import Derived.Test.YtoipkpndfgcmcaaCvMono
namespace Go.Proofs.Ytoipkpndfgcmcaa.Crew
open Go Go.Conc Go.ConcN Go.RowKit Go.Conc.Lib Go.ConcR.Gen Go.ConcN.Gen Go.Proofs.Ytoipkpndfgcmcaa.Veils
open Go.ConcR (KK wgBlock WgAt stA smA rd wr mk Payload DC0)
set_option linter.unusedVariables false
set_option linter.unusedSectionVars false
set_option linter.unusedSimpArgs false
/-- What Parts is handed. -/
structure Args (W : World) (N : Nat) (X : Nat → Prop) (a0 : Option Addr) (n : Nat) (ps : List (List UInt8)) (sl : Nat → Option Addr × Nat) : Prop where
  len : ps.length = n
  cells : 0 < n → ∃ g off, a0 = some ⟨g, off, none⟩ ∧ g < N ∧ ¬ X g ∧ ∀ j, j < n → W.cell? ⟨g, off + j, none⟩ = some (.slice (sl j).1 (ps.getD j []).length (sl j).2)
  bytes : ∀ j, j < n → 0 < (ps.getD j []).length → ∃ g off, (sl j).1 = some ⟨g, off, none⟩ ∧ g < N ∧ ¬ X g ∧ ∀ k u, ((ps.getD j []).map bv)[k]? = some u → W.cell? ⟨g, off + k, none⟩ = some u
/-- What the starter knows. -/
structure SF (W : World) (N n : Nat) (w : World) : Prop where
  below : Below N W w
  n0 : N + 3 ≤ w.heap.size
  sums : One (N + 1) 87 (.slice (some ⟨N, 0, none⟩) n n) w
  live : WgLive 96 (N + 2) w
/-- .. within a round: its new blocks. -/
structure SI (W : World) (N n Lw : Nat) (cs : List (Nat × TypeId × Value)) (w : World) : Prop where
  sf : SF W N n w
  lw : N + 3 ≤ Lw ∧ Lw ≤ w.heap.size
  live : WgLive 96 (N + 2) w
  at_ : ∀ x ∈ cs, Lw ≤ x.1 ∧ x.2.1 ≠ 99 ∧ One x.1 x.2.1 x.2.2 w
section
variable {W : World} {N n Lw : Nat} {cs : List (Nat × TypeId × Value)} {w w₁ : World}
theorem SF.rely (h : SF W N n w) (r : RQ (lay N n) w w₁) : SF W N n w₁ := by
  have hs := h.n0
  refine ⟨⟨r.os.trans h.below.os, r.tape.trans h.below.tape, r.out.trans h.below.output, Nat.le_trans h.below.size r.size, fun k hk => (r.block k (by omega) (by show k ≠ N; omega) (by show k ≠ N + 2; omega) (fun x => by have : N + 3 ≤ k := x.1; omega)).trans (h.below.block k hk)⟩, Nat.le_trans hs r.size, h.sums.rely (by decide) (by omega) (by omega) r, r.live h.live⟩
theorem SI.rely (h : SI W N n Lw cs w) (r : RQ (lay N n) w w₁) : SI W N n Lw cs w₁ :=
  ⟨h.sf.rely r, ⟨h.lw.1, Nat.le_trans h.lw.2 r.size⟩, r.live h.live, fun x hx => let ⟨h1, h2, h3⟩ := h.at_ x hx; ⟨h1, h2, h3.rely h2 (by have := h.lw.1; omega) (by have := h.lw.1; omega) r⟩⟩
theorem SF.alloc (h : SF W N n w) (o : Obj) : SF W N n (w.alloc o) := ⟨h.below.alloc (by have := h.n0; omega) _, by rw [World.size_alloc]; have := h.n0; omega, h.sums.alloc o, live_alloc h.live o⟩
theorem SI.alloc (h : SI W N n Lw cs w) {t : TypeId} (ht : t ≠ 99) (v : Value) : SI W N n Lw ((w.heap.size, t, v) :: cs) (w.alloc (.cells #[v] t)) := by
  refine ⟨h.sf.alloc _, ⟨h.lw.1, by rw [World.size_alloc]; have := h.lw.2; omega⟩, live_alloc h.live _, fun x hx => ?_⟩
  rcases List.mem_cons.1 hx with rfl | hx
  · exact ⟨h.lw.2, ht, One.new w t v⟩
  · obtain ⟨h1, h2, h3⟩ := h.at_ x hx
    exact ⟨h1, h2, h3.alloc _⟩
theorem SF.set_ (h : SF W N n w) {b : Nat} (hb : N + 3 ≤ b) (v : Value) : SF W N n (w.setCell ⟨b, 0, none⟩ v) := by
  have hA := aside_setCell w ⟨b, 0, none⟩ v
  exact ⟨⟨hA.os.trans h.below.os, hA.tape.trans h.below.tape, hA.output.trans h.below.output, by rw [hA.size]; exact h.below.size, fun k hk => (hA.block k (by show k ≠ b; omega)).trans (h.below.block k hk)⟩, by rw [hA.size]; exact h.n0, h.sums.far (by omega) v, live_set h.live (by omega) v⟩
theorem SI.setI {bP bI : Nat} {vP u : Value} (h : SI W N n Lw [(bP, 29, vP), (bI, 3, u)] w) (v : Value) : SI W N n Lw [(bP, 29, vP), (bI, 3, v)] (w.setCell ⟨bI, 0, none⟩ v) := by
  obtain ⟨a1, a2, a3⟩ := h.at_ (bP, 29, vP) (by simp)
  obtain ⟨b1, b2, b3⟩ := h.at_ (bI, 3, u) (by simp)
  have hw := h.lw.1
  refine ⟨h.sf.set_ (by omega) v, ⟨hw, by rw [(aside_setCell w ⟨bI, 0, none⟩ v).size]; exact h.lw.2⟩, live_set h.live (by omega) v, fun x hx => ?_⟩
  simp only [List.mem_cons, List.not_mem_nil, or_false] at hx
  rcases hx with rfl | rfl
  · exact ⟨a1, a2, One.far a3 (One.ne a3 b3 (show (29 : Nat) ≠ 3 by decide)) v⟩
  · exact ⟨b1, b2, One.set_ b3 v⟩
theorem SI.setP {bP bI : Nat} {vI u : Value} (h : SI W N n Lw [(bP, 29, u), (bI, 3, vI)] w) (v : Value) : SI W N n Lw [(bP, 29, v), (bI, 3, vI)] (w.setCell ⟨bP, 0, none⟩ v) := by
  obtain ⟨a1, a2, a3⟩ := h.at_ (bP, 29, u) (by simp)
  obtain ⟨b1, b2, b3⟩ := h.at_ (bI, 3, vI) (by simp)
  have hw := h.lw.1
  refine ⟨h.sf.set_ (by omega) v, ⟨hw, by rw [(aside_setCell w ⟨bP, 0, none⟩ v).size]; exact h.lw.2⟩, live_set h.live (by omega) v, fun x hx => ?_⟩
  simp only [List.mem_cons, List.not_mem_nil, or_false] at hx
  rcases hx with rfl | rfl
  · exact ⟨a1, a2, One.set_ a3 v⟩
  · exact ⟨b1, b2, One.far b3 (One.ne b3 a3 (show (3 : Nat) ≠ 29 by decide)) v⟩
end
section
variable {main : Bool} {b : Frame} {a : Act} {kk : List Item} {cs : List Frame} {w : World} {ops : Array Oper} {i : Nat} {rest : List Nat} {o : Oper}
theorem stepG_store3 {x y : Operand} (ho : ops[i]? = some o) (hw : Region.wanted o (yielded ops a.tmps) = true) (hk : b.kind ≠ .early) (hop : o.op = .store 3 x y)
    {ad : Addr} {v : Int} {u : Value} (hx : a.eval x = .pointer (some ad)) (hy : a.eval y = .int .i64 v) (hc : w.cell? ad = some u) (hz : w.frozen? ad = false) (hq : (Try.prog.funcs[b.fn]?).any (·.norace) = false) :
    stepG Try.prog main (G (b.at a (.inRegion ops (i :: rest) :: kk)) cs) w = .go (G (b.at (a.put o.dst undef) (.inRegion ops rest :: kk)) cs) (w.setCell ad (.int .i64 v)) #[⟨.cell ad, true, false⟩] := by
  have hr : (execOp a.eval o).run Try.prog w = .ok .skip (w.setCell ad (.int .i64 v)) := by
    unfold execOp
    simp only [hop, hx, hy]
    simp [go_sem, stored, hc, hz]
  have he : (execOp a.eval o).events Try.prog w #[] = #[⟨.cell ad, true, false⟩] := by
    unfold execOp
    simp only [hop, hx, hy]
    simp [go_sem, storedEv, hc, hz]
  rw [stepG_none ho hw hk hr]
  unfold listed
  rw [he, seen_eq hq (by simp)]
theorem stepG_store29 {x y : Operand} (ho : ops[i]? = some o) (hw : Region.wanted o (yielded ops a.tmps) = true) (hk : b.kind ≠ .early) (hop : o.op = .store 29 x y)
    {ad : Addr} {A : Option Addr} {m c : Nat} {u : Value} (hx : a.eval x = .pointer (some ad)) (hy : a.eval y = .slice A m c) (hc : w.cell? ad = some u) (hz : w.frozen? ad = false) (hq : (Try.prog.funcs[b.fn]?).any (·.norace) = false) :
    stepG Try.prog main (G (b.at a (.inRegion ops (i :: rest) :: kk)) cs) w = .go (G (b.at (a.put o.dst undef) (.inRegion ops rest :: kk)) cs) (w.setCell ad (.slice A m c)) #[⟨.cell ad, true, false⟩] := by
  have hr : (execOp a.eval o).run Try.prog w = .ok .skip (w.setCell ad (.slice A m c)) := by
    unfold execOp
    simp only [hop, hx, hy]
    simp [go_sem, stored, hc, hz]
  have he : (execOp a.eval o).events Try.prog w #[] = #[⟨.cell ad, true, false⟩] := by
    have hs := events_store Try.prog w #[] ad (.slice A m c) .plain rfl
    unfold execOp
    simp only [hop, hx, hy]
    simp [go_sem, hs, storedEv, hc, hz]
  rw [stepG_none ho hw hk hr]
  unfold listed
  rw [he, seen_eq hq (by simp)]
theorem loud38 : (Try.prog.funcs[(base 38).fn]?).any (·.norace) = false := by kernel_rfl
end
/-! the places of Parts' text -/
def seqHead : Code → Code
  | .seq x _ => x
  | c => c
def blockOf : Code → Code
  | .block _ c => c
  | c => c
def loopOf : Code → Code
  | .loop c => c
  | c => c
def seqTails : Nat → Code → Code
  | 0, c => c
  | k + 1, c => seqTails k (seqTail c)
/-- The body of the loop that starts the workers, and what stands behind that loop. -/
def L38of (c : Code) : Code := loopOf (blockOf (seqTail (seqHead (seqTails 3 c))))
def R38of (c : Code) : Code := seqTails 4 c
theorem array44 (T : Array Value) (h : T.size = 44) : ∃ v0 v1 v2 v3 v4 v5 v6 v7 v8 v9 v10 v11 v12 v13 v14 v15 v16 v17 v18 v19 v20 v21 v22 v23 v24 v25 v26 v27 v28 v29 v30 v31 v32 v33 v34 v35 v36 v37 v38 v39 v40 v41 v42 v43 : Value, T = #[v0, v1, v2, v3, v4, v5, v6, v7, v8, v9, v10, v11, v12, v13, v14, v15, v16, v17, v18, v19, v20, v21, v22, v23, v24, v25, v26, v27, v28, v29, v30, v31, v32, v33, v34, v35, v36, v37, v38, v39, v40, v41, v42, v43] := by
  obtain ⟨l⟩ := T
  simp only [List.size_toArray] at h
  rcases l with _ | ⟨v0, l⟩
  · simp at h
  rcases l with _ | ⟨v1, l⟩
  · simp at h
  rcases l with _ | ⟨v2, l⟩
  · simp at h
  rcases l with _ | ⟨v3, l⟩
  · simp at h
  rcases l with _ | ⟨v4, l⟩
  · simp at h
  rcases l with _ | ⟨v5, l⟩
  · simp at h
  rcases l with _ | ⟨v6, l⟩
  · simp at h
  rcases l with _ | ⟨v7, l⟩
  · simp at h
  rcases l with _ | ⟨v8, l⟩
  · simp at h
  rcases l with _ | ⟨v9, l⟩
  · simp at h
  rcases l with _ | ⟨v10, l⟩
  · simp at h
  rcases l with _ | ⟨v11, l⟩
  · simp at h
  rcases l with _ | ⟨v12, l⟩
  · simp at h
  rcases l with _ | ⟨v13, l⟩
  · simp at h
  rcases l with _ | ⟨v14, l⟩
  · simp at h
  rcases l with _ | ⟨v15, l⟩
  · simp at h
  rcases l with _ | ⟨v16, l⟩
  · simp at h
  rcases l with _ | ⟨v17, l⟩
  · simp at h
  rcases l with _ | ⟨v18, l⟩
  · simp at h
  rcases l with _ | ⟨v19, l⟩
  · simp at h
  rcases l with _ | ⟨v20, l⟩
  · simp at h
  rcases l with _ | ⟨v21, l⟩
  · simp at h
  rcases l with _ | ⟨v22, l⟩
  · simp at h
  rcases l with _ | ⟨v23, l⟩
  · simp at h
  rcases l with _ | ⟨v24, l⟩
  · simp at h
  rcases l with _ | ⟨v25, l⟩
  · simp at h
  rcases l with _ | ⟨v26, l⟩
  · simp at h
  rcases l with _ | ⟨v27, l⟩
  · simp at h
  rcases l with _ | ⟨v28, l⟩
  · simp at h
  rcases l with _ | ⟨v29, l⟩
  · simp at h
  rcases l with _ | ⟨v30, l⟩
  · simp at h
  rcases l with _ | ⟨v31, l⟩
  · simp at h
  rcases l with _ | ⟨v32, l⟩
  · simp at h
  rcases l with _ | ⟨v33, l⟩
  · simp at h
  rcases l with _ | ⟨v34, l⟩
  · simp at h
  rcases l with _ | ⟨v35, l⟩
  · simp at h
  rcases l with _ | ⟨v36, l⟩
  · simp at h
  rcases l with _ | ⟨v37, l⟩
  · simp at h
  rcases l with _ | ⟨v38, l⟩
  · simp at h
  rcases l with _ | ⟨v39, l⟩
  · simp at h
  rcases l with _ | ⟨v40, l⟩
  · simp at h
  rcases l with _ | ⟨v41, l⟩
  · simp at h
  rcases l with _ | ⟨v42, l⟩
  · simp at h
  rcases l with _ | ⟨v43, l⟩
  · simp at h
  rcases l with _ | ⟨x, l⟩
  · exact ⟨v0, v1, v2, v3, v4, v5, v6, v7, v8, v9, v10, v11, v12, v13, v14, v15, v16, v17, v18, v19, v20, v21, v22, v23, v24, v25, v26, v27, v28, v29, v30, v31, v32, v33, v34, v35, v36, v37, v38, v39, v40, v41, v42, v43, rfl⟩
  · simp at h
section
variable (W : World) (N n : Nat) (a0 : Option Addr) (cap : Nat) (cs : List Frame) (X : Nat → Prop) (vals : List Value)
/-- The head of the loop that starts the workers. -/
def HeadS (j : Nat) (g : Goroutine) : Prop :=
  ∃ T : Array Value, g = G ((base 38).at ⟨T, []⟩ [.code (L38of (bodyOf Try.f38)), .inLoop (L38of (bodyOf Try.f38)), .inBlock 0, .code (R38of (bodyOf Try.f38))]) cs ∧ T.size = 44 ∧ T[0]? = some (.slice a0 n cap) ∧ T[3]? = some (.pointer (some ⟨N + 1, 0, none⟩)) ∧ T[4]? = some (.pointer (some ⟨N + 2, 0, none⟩)) ∧
    T[13]? = some (.slice a0 n cap) ∧ T[14]? = some (.int .i64 n) ∧ T[15]? = some (.int .i64 j)
/-- The frame below Wait. -/
def WaitT (T : Array Value) : Prop := T.size = 44 ∧ T[0]? = some (.slice a0 n cap) ∧ T[3]? = some (.pointer (some ⟨N + 1, 0, none⟩))
def cW (c : Code) (T : Array Value) : Frame := (base 38).at ⟨T, []⟩ (.inRegion (opsOf (seqHead (R38of c))) (0 :: []) :: [.code (seqTail (R38of c))])
def AnW (g : Goroutine) (w : World) : Prop := ∃ T, WaitT N n a0 cap T ∧ AnchQ link (SF W N n) (lay N n) (cW (bodyOf Try.f38) T) cs g w
/-- Back from Wait. -/
def BackP (g : Goroutine) : Prop := ∃ T, WaitT N n a0 cap T ∧ g = G ((base 38).at ((⟨T, []⟩ : Act).put (((opsOf (seqHead (R38of (bodyOf Try.f38))))[0]?).bind (·.dst)) (.tuple #[])) (.inRegion (opsOf (seqHead (R38of (bodyOf Try.f38)))) [] :: [.code (seqTail (R38of (bodyOf Try.f38)))])) cs
def AnE (g : Goroutine) (w : World) : Prop := ∃ n', Goes Try.prog true AtRel (DF X) (fun g w => BackP N n a0 cap cs g ∧ SF W N n w ∧ Full N vals w) n' g w
end
def valP (ps : List (List UInt8)) (j : Nat) : Value := .int .u32 (upd 0 (ps.getD j []) : Nat)
section
variable {W : World} {N n cap : Nat} {a0 : Option Addr} {cs : List Frame} {X : Nat → Prop} {vals : List Value} {Lw : Nat}
theorem sf2 : ∀ w w', RQ (lay N n) w w' → SF W N n w → SF W N n w' := fun _ _ r h => h.rely r
theorem anW_runs (g : Goroutine) (w : World) (h : AnW W N n a0 cap cs g w) : g.status = .running := by
  obtain ⟨T, _, T', rfl, _⟩ := h
  rfl
/-- From the head of Wait's loop. -/
theorem anW_round (g : Goroutine) (w : World) (h : AnW W N n a0 cap cs g w) : ∃ m, GQ Try.prog (lay N n) X Lw (AtLook Try.prog (lay N n) X vals (AnE W N n a0 cap cs X vals) (AnW W N n a0 cap cs) Lw) m g w := by
  obtain ⟨T, hT, hA⟩ := h
  obtain ⟨m, hm⟩ := waitRoundQ (P := Try.prog) (lk := link) (L := lay N n) (X := X) (Lw := Lw) (vals := vals) (F := SF W N n) wgLib (lay_ok N n) sf2 g w hA
  exact ⟨m, goes_mono (fun _ _ x => x.mono (fun g w ⟨k, hk⟩ => ⟨k, goes_mono (fun _ _ y => ⟨⟨T, hT, y.1⟩, y.2⟩) hk⟩) (fun _ _ z => ⟨T, hT, z⟩)) hm⟩
end
end Go.Proofs.Ytoipkpndfgcmcaa.Crew
