/-
  Parts, from its entry to behind Wait, on every tape, beside others that only leave. The conditions stand in each theorem.
-/
import Derived.Test.YtoipkpndfgcmcaaCvStart2
import Derived.Test.YtoipkpndfgcmcaaCvMach
import Derived.Laws.MakeOwn
import Derived.Conc.AppendWalk
namespace Go.Proofs.Ytoipkpndfgcmcaa.Crew
open Go Go.Conc Go.ConcN Go.RowKit Go.Conc.Lib Go.ConcR.Gen Go.ConcN.Gen Go.Proofs.Ytoipkpndfgcmcaa.Veils
open Go.ConcR (KK wgBlock WgAt stA smA rd wr mk Payload DC0)
set_option linter.unusedVariables false
set_option linter.unusedSectionVars false
set_option linter.unusedSimpArgs false
theorem info40 : (Try.prog.info? 40).map (fun i => (i.zero, i.size, i.bytes)) = some (some (.int .u32 0), 1, 4) := by kernel_rfl
section
variable {main : Bool} {b : Frame} {a : Act} {kk : List Item} {cs : List Frame} {w : World} {ops : Array Oper} {i : Nat} {rest : List Nat} {o : Oper}
theorem stepG_store87 {x y : Operand} (ho : ops[i]? = some o) (hw : Region.wanted o (yielded ops a.tmps) = true) (hk : b.kind ≠ .early) (hop : o.op = .store 87 x y)
    {ad : Addr} {A : Option Addr} {m c : Nat} {u : Value} (hx : a.eval x = .pointer (some ad)) (hy : a.eval y = .slice A m c) (hc : w.cell? ad = some u) (hz : w.frozen? ad = false) (hq : (Try.prog.funcs[b.fn]?).any (·.norace) = false) :
    stepG Try.prog main (G (b.at a (.inRegion ops (i :: rest) :: kk)) cs) w = .go (G (b.at (a.put o.dst undef) (.inRegion ops rest :: kk)) cs) (w.setCell ad (.slice A m c)) #[⟨.cell ad, true, false⟩] := by
  have hr : (execOp a.eval o).run Try.prog w = .ok .skip (w.setCell ad (.slice A m c)) := by
    unfold execOp
    simp only [hop, hx, hy]
    simp [go_sem, stored, hc, hz]
  have he : (execOp a.eval o).events Try.prog w #[] = #[⟨.cell ad, true, false⟩] := by
    have hs := events_store Try.prog w #[] ad (.slice A m c) .plain rfl
    unfold execOp
    simp only [hop, hx, hy]
    simp [go_sem, hs, storedEv, hc, hz]
  rw [stepG_none ho hw hk hr]
  unfold listed
  rw [he, seen_eq hq (by simp)]
end
section
variable {W : World} {N n cap : Nat} {a0 : Option Addr} {cs : List Frame} {X : Nat → Prop}
theorem df_of {w w' : World} (hs : w.heap.size ≤ w'.heap.size) {es : Array Event} (h : ∀ e ∈ es, False) : DF X w w' es := ⟨hs, fun e he => (h e he).elim⟩
theorem below_at {w : World} {N : Nat} (h : Below N W w) (d : Nat) : Below N W (w.at d) := ⟨h.os, h.tape, h.output, h.size, h.block⟩
/-- At Parts' entry. -/
def P0 (W : World) (N n : Nat) (a0 : Option Addr) (cap : Nat) (cs : List Frame) (g : Goroutine) (w : World) : Prop :=
  g = G ((base 38).at ⟨#[.slice a0 n cap, undef, undef, undef, undef, undef, undef, undef, undef, undef, undef, undef, undef, undef, undef, undef, undef, undef, undef, undef, undef, undef, undef, undef, undef, undef, undef, undef, undef, undef, undef, undef, undef, undef, undef, undef, undef, undef, undef, undef, undef, undef, undef, undef], []⟩ [.code (bodyOf Try.f38)]) cs ∧ Below N W w ∧ w.heap.size = N
/-- Ahead of the making of the group. -/
structure E1v (W : World) (N n : Nat) (v : Value) (w : World) : Prop where
  below : Below N W w
  size : w.heap.size = N + 2
  pay : PayAt N n w
  sums : One (N + 1) 87 v w
abbrev E1 (W : World) (N n : Nat) (w : World) : Prop := E1v W N n (.slice (some ⟨N, 0, none⟩) n n) w
def P1 (W : World) (N n : Nat) (a0 : Option Addr) (cap : Nat) (cs : List Frame) (g : Goroutine) (w : World) : Prop :=
  ∃ T : Array Value, g = G ((base 38).at ⟨T, []⟩ [.code (seqTails 2 (bodyOf Try.f38))]) cs ∧ T.size = 44 ∧ T[0]? = some (.slice a0 n cap) ∧ T[3]? = some (.pointer (some ⟨N + 1, 0, none⟩)) ∧ E1 W N n w
/-- At the loop's head, none started. -/
def P2 (W : World) (N n : Nat) (a0 : Option Addr) (cap : Nat) (cs : List Frame) (g : Goroutine) (w : World) : Prop :=
  HeadS N n a0 cap cs 0 g ∧ SI W N n (N + 3) [] w ∧ WgAt 96 (N + 2) w 0 0 ∧ PayAt N n w ∧ w.heap.size = N + 3
theorem E1v.store {w : World} {v : Value} (h : E1v W N n v w) : E1 W N n (w.setCell ⟨N + 1, 0, none⟩ (.slice (some ⟨N, 0, none⟩) n n)) := by
  have hA := aside_setCell w ⟨N + 1, 0, none⟩ (.slice (some ⟨N, 0, none⟩) n n)
  obtain ⟨cs0, h3, h4⟩ := h.pay
  exact ⟨⟨hA.os.trans h.below.os, hA.tape.trans h.below.tape, hA.output.trans h.below.output, by rw [hA.size]; exact h.below.size, fun k hk => (hA.block k (by show k ≠ N + 1; omega)).trans (h.below.block k hk)⟩, by rw [hA.size]; exact h.size, ⟨cs0, (hA.block N (by show N ≠ N + 1; omega)).trans h3, h4⟩, h.sums.set_ _⟩
theorem e0_rely {w w₁ : World} (h : Below N W w ∧ w.heap.size = N + 1 ∧ PayAt N n w) (r : AtRel w w₁) : Below N W w₁ ∧ w₁.heap.size = N + 1 ∧ PayAt N n w₁ := by
  obtain ⟨d, rfl⟩ := r
  exact ⟨below_at h.1 d, h.2⟩
theorem E1v.rely {w w₁ : World} {v : Value} (h : E1v W N n v w) (r : AtRel w w₁) : E1v W N n v w₁ := by
  obtain ⟨d, rfl⟩ := r
  exact ⟨below_at h.below d, h.size, h.pay, h.sums⟩
theorem b0_rely {w w₁ : World} (h : Below N W w ∧ w.heap.size = N) (r : AtRel w w₁) : Below N W w₁ ∧ w₁.heap.size = N := by
  obtain ⟨d, rfl⟩ := r
  exact ⟨below_at h.1 d, h.2⟩
set_option maxRecDepth 100000 in
set_option maxHeartbeats 4000000 in
theorem parts_in (hn : n < 2147483648) (g : Goroutine) (w : World) (h : P0 W N n a0 cap cs g w) (hX : ¬ X (N + 1)) : Goes Try.prog true AtRel (DF X) (P1 W N n a0 cap cs) 20 g w := by
  obtain ⟨rfl, hF⟩ := h
  simp only [P1, seqTails, seqTail, bodyOf, Try.f38, Option.getD_some]
  have hsu : Try.prog.underlying 62 = some (.slice (Try.prog.elem 62)) := by kernel_rfl
  have hel := fun w es => events_len_slice (P := Try.prog) (w := w) (es := es) 62 3 a0 n cap hsu
  clear hsu
  obtain ⟨i0, hi, hz0, hz1, hz2⟩ := info_parts info40
  have hmk := fun w => run_make (P := Try.prog) w 87 40 i0 (.int .u32 0) Try.underlying87 hi hz0 .i64 .i64 n n (by omega) (by omega) (by rw [hz2]; omega) (by omega)
  have hme := fun w es => events_make (P := Try.prog) w 87 40 i0 (.int .u32 0) Try.underlying87 hi hz0 .i64 .i64 n n (by omega) (by omega) (by rw [hz2]; omega) (by omega) (by rw [hz2]; simp; omega) es
  simp only [Int.toNat_natCast, hz1, Nat.mul_one] at hmk
  refine Goes.step rfl (fun _ h₁ => ?_)
  replace hF := b0_rely hF h₁
  clear h₁
  rw [stepG_seq]
  simp only [goes_go]
  refine ⟨by refine df_none ?_; intro e he; simp at he, ?_⟩
  refine Goes.step rfl (fun _ h₁ => ?_)
  replace hF := b0_rely hF h₁
  clear h₁
  rw [stepG_region]
  simp only [goes_go, List.size_toArray, List.length_cons, List.length_nil, Nat.reduceAdd, Nat.zero_add, List.range, List.range.loop]
  refine ⟨by refine df_none ?_; intro e he; simp at he, ?_⟩
  refine Goes.step rfl (fun _ h₁ => ?_)
  replace hF := b0_rely hF h₁
  clear h₁
  refine goes_oper_k rfl rfl (by k_ne) (fun K hK => ?_)
  go_simp
  refine hK _ _ ⟨?_, ?_⟩
  · refine df_none ?_; intro e he; have hm := mem_listed he; simp [go_sem, *] at hm
  clear hK K
  try w_num
  refine Goes.step rfl (fun _ h₁ => ?_)
  replace hF := b0_rely hF h₁
  clear h₁
  rw [stepG_region_end]
  simp only [goes_go]
  refine ⟨by refine df_none ?_; intro e he; simp at he, ?_⟩
  refine Goes.step rfl (fun _ h₁ => ?_)
  replace hF := b0_rely hF h₁
  clear h₁
  rw [stepG_seq]
  simp only [goes_go]
  refine ⟨by refine df_none ?_; intro e he; simp at he, ?_⟩
  refine Goes.step rfl (fun _ h₁ => ?_)
  replace hF := b0_rely hF h₁
  clear h₁
  rw [stepG_region]
  simp only [goes_go, List.size_toArray, List.length_cons, List.length_nil, Nat.reduceAdd, Nat.zero_add, List.range, List.range.loop]
  refine ⟨by refine df_none ?_; intro e he; simp at he, ?_⟩
  refine Goes.step rfl (fun _ h₁ => ?_)
  replace hF := b0_rely hF h₁
  clear h₁
  refine goes_oper_k rfl rfl (by k_ne) (fun K hK => ?_)
  go_simp
  refine hK _ _ ⟨?_, ?_⟩
  · refine df_none ?_; intro e he; have hm := mem_listed he; simp [go_sem, *] at hm
  clear hK K
  try w_num
  refine Goes.step rfl (fun _ h₁ => ?_)
  replace hF := b0_rely hF h₁
  clear h₁
  refine goes_oper_k rfl rfl (by k_ne) (fun K hK => ?_)
  go_simp
  refine hK _ _ ⟨?_, ?_⟩
  · refine df_none ?_; intro e he; have hm := mem_listed he; simp [go_sem, *] at hm
  clear hK K
  try w_num
  -- make
  refine Goes.step rfl (fun wx h₁ => ?_)
  replace hF := b0_rely hF h₁
  clear h₁
  refine goes_oper_k rfl rfl (by k_ne) (fun Kx hKx => ?_)
  go_simp
  refine hKx _ _ ⟨?_, ?_⟩
  · refine df_of (by rw [World.size_alloc]; omega) ?_; intro e he; have hm := mem_listed he; simp [go_sem, *] at hm
  clear hKx Kx
  have hE : Below N W (wx.alloc (.cells (madeCells #[Value.int .u32 0] n) 40)) ∧ (wx.alloc (.cells (madeCells #[Value.int .u32 0] n) 40)).heap.size = N + 1 ∧ PayAt N n (wx.alloc (.cells (madeCells #[Value.int .u32 0] n) 40)) := by
    refine ⟨hF.1.alloc (by rw [hF.2]; exact Nat.le_refl _) _, by rw [World.size_alloc, hF.2], madeCells #[Value.int .u32 0] n, ?_, by simp [madeCells]⟩
    have := heap_alloc_new wx (.cells (madeCells #[Value.int .u32 0] n) 40)
    rw [hF.2] at this
    exact this
  try rw [hF.2]
  clear hF hmk hme hel
  generalize wx.alloc _ = wy at hE ⊢
  clear wx
  -- the variable
  refine Goes.step rfl (fun wx h₁ => ?_)
  replace hE := e0_rely hE h₁
  clear h₁
  refine goes_oper_k rfl rfl (by k_ne) (fun Kx hKx => ?_)
  go_simp
  refine hKx _ _ ⟨?_, ?_⟩
  · refine df_of (by rw [World.size_alloc]; omega) ?_; intro e he; have hm := mem_listed he; simp [go_sem, *] at hm
  clear hKx Kx
  have hF : E1v W N n (.slice none 0 0) (wx.alloc (.cells #[.slice none 0 0] 87)) := by
    obtain ⟨h1, h2, cs0, h3, h4⟩ := hE
    refine ⟨h1.alloc (by omega) _, by rw [World.size_alloc, h2], ⟨cs0, (Below.heap_alloc _ _ _ (by omega)).trans h3, h4⟩, ?_⟩
    have := One.new wx 87 (.slice none 0 0)
    rw [h2] at this
    exact this
  try rw [hE.2.1]
  clear hE
  generalize wx.alloc _ = wy at hF ⊢
  clear wx
  refine Goes.step rfl (fun wx h₁ => ?_)
  replace hF := E1v.rely hF h₁
  clear h₁
  rw [stepG_store87 rfl rfl (by k_ne) rfl rfl rfl hF.sums.cell hF.sums.frozen loud38]
  simp only [goes_go]
  refine ⟨⟨by rw [(aside_setCell _ _ _).size]; exact Nat.le_refl _, fun e he => ?_⟩, ?_⟩
  · rw [Array.mem_singleton] at he
    subst he
    exact .inl ⟨_, rfl, hX, by rw [(aside_setCell _ _ _).size]; exact hF.sums.lt, rfl⟩
  replace hF := hF.store
  generalize wx.setCell _ _ = wy at hF ⊢
  clear wx
  walk_nrm
  refine Goes.step rfl (fun _ h₁ => ?_)
  replace hF := E1v.rely hF h₁
  clear h₁
  rw [stepG_region_end]
  simp only [goes_go]
  refine ⟨by refine df_none ?_; intro e he; simp at he, ?_⟩
  exact Goes.stop fun w₁ h₁ => ⟨_, rfl, by simp, by simp, by simp, hF.rely h₁⟩
/-- Behind the making of the group. -/
def F2 (W : World) (N n : Nat) (w : World) : Prop := SI W N n (N + 3) [] w ∧ WgAt 96 (N + 2) w 0 0 ∧ PayAt N n w ∧ w.heap.size = N + 3
theorem f2_rely {w w₁ : World} (h : F2 W N n w) (r : AtRel w w₁) : F2 W N n w₁ := by
  obtain ⟨d, rfl⟩ := r
  exact ⟨h.1.rely (RQ.at w d), h.2⟩
theorem f2_made {w : World} (h : E1 W N n w) : F2 W N n (w.alloc (.cells #[.int .u64 0, .int .u32 0] 96)) := by
  have hs := h.size
  have hw : WgAt 96 (N + 2) (w.alloc (.cells #[.int .u64 0, .int .u32 0] 96)) 0 0 := by
    have := heap_alloc_new w (.cells #[.int .u64 0, .int .u32 0] 96)
    rw [hs] at this
    exact this
  obtain ⟨cs0, h3, h4⟩ := h.pay
  refine ⟨⟨⟨h.below.alloc (by omega) _, by rw [World.size_alloc]; omega, h.sums.alloc _, ⟨_, _, hw⟩⟩, ⟨Nat.le_refl _, by rw [World.size_alloc]; omega⟩, ⟨_, _, hw⟩, by simp⟩, hw, ⟨cs0, (Below.heap_alloc _ _ _ (by omega)).trans h3, h4⟩, by rw [World.size_alloc, hs]⟩
set_option maxRecDepth 100000 in
set_option maxHeartbeats 4000000 in
theorem parts_loop (g : Goroutine) (w : World) (h : P1 W N n a0 cap cs g w) : Goes Try.prog true AtRel (DF X) (P2 W N n a0 cap cs) 20 g w := by
  obtain ⟨T, rfl, hT, t0, t3, hF⟩ := h
  obtain ⟨v0, v1, v2, v3, v4, v5, v6, v7, v8, v9, v10, v11, v12, v13, v14, v15, v16, v17, v18, v19, v20, v21, v22, v23, v24, v25, v26, v27, v28, v29, v30, v31, v32, v33, v34, v35, v36, v37, v38, v39, v40, v41, v42, v43, rfl⟩ := array44 T hT
  simp only [List.getElem?_toArray, List.getElem?_cons_succ, List.getElem?_cons_zero, Option.some.injEq] at t0 t3
  subst t0 t3
  have hsu : Try.prog.underlying 62 = some (.slice (Try.prog.elem 62)) := by kernel_rfl
  have hel := fun w es => events_len_slice (P := Try.prog) (w := w) (es := es) 62 3 a0 n cap hsu
  clear hsu
  simp only [seqTails, seqTail, bodyOf, Try.f38, Option.getD_some]
  refine Goes.step rfl (fun _ h₁ => ?_)
  replace hF := E1v.rely hF h₁
  clear h₁
  rw [stepG_seq]
  simp only [goes_go]
  refine ⟨by refine df_none ?_; intro e he; simp at he, ?_⟩
  refine Goes.step rfl (fun _ h₁ => ?_)
  replace hF := E1v.rely hF h₁
  clear h₁
  rw [stepG_region]
  simp only [goes_go, List.size_toArray, List.length_cons, List.length_nil, Nat.reduceAdd, Nat.zero_add, List.range, List.range.loop]
  refine ⟨by refine df_none ?_; intro e he; simp at he, ?_⟩
  refine Goes.step rfl (fun wx h₁ => ?_)
  replace hF := E1v.rely hF h₁
  clear h₁
  refine goes_oper_k rfl rfl (by k_ne) (fun Kx hKx => ?_)
  go_simp
  refine hKx _ _ ⟨?_, ?_⟩
  · refine df_of (by rw [World.size_alloc]; omega) ?_; intro e he; have hm := mem_listed he; simp [go_sem, *] at hm
  clear hKx Kx
  have hE := f2_made hF
  try rw [hF.size]
  clear hF
  generalize wx.alloc _ = wy at hE ⊢
  clear wx
  refine Goes.step rfl (fun _ h₁ => ?_)
  replace hE := f2_rely hE h₁
  clear h₁
  rw [stepG_region_end]
  simp only [goes_go]
  refine ⟨by refine df_none ?_; intro e he; simp at he, ?_⟩
  refine Goes.step rfl (fun _ h₁ => ?_)
  replace hE := f2_rely hE h₁
  clear h₁
  rw [stepG_seq]
  simp only [goes_go]
  refine ⟨by refine df_none ?_; intro e he; simp at he, ?_⟩
  refine Goes.step rfl (fun _ h₁ => ?_)
  replace hE := f2_rely hE h₁
  clear h₁
  rw [stepG_seq]
  simp only [goes_go]
  refine ⟨by refine df_none ?_; intro e he; simp at he, ?_⟩
  refine Goes.step rfl (fun _ h₁ => ?_)
  replace hE := f2_rely hE h₁
  clear h₁
  rw [stepG_region]
  simp only [goes_go, List.size_toArray, List.length_cons, List.length_nil, Nat.reduceAdd, Nat.zero_add, List.range, List.range.loop]
  refine ⟨by refine df_none ?_; intro e he; simp at he, ?_⟩
  refine Goes.step rfl (fun _ h₁ => ?_)
  replace hE := f2_rely hE h₁
  clear h₁
  refine goes_oper_k rfl rfl (by k_ne) (fun K hK => ?_)
  go_simp
  refine hK _ _ ⟨?_, ?_⟩
  · refine df_none ?_; intro e he; have hm := mem_listed he; simp [go_sem, *] at hm
  clear hK K
  try w_num
  refine Goes.step rfl (fun _ h₁ => ?_)
  replace hE := f2_rely hE h₁
  clear h₁
  refine goes_oper_k rfl rfl (by k_ne) (fun K hK => ?_)
  go_simp
  refine hK _ _ ⟨?_, ?_⟩
  · refine df_none ?_; intro e he; have hm := mem_listed he; simp [go_sem, *] at hm
  clear hK K
  try w_num
  refine Goes.step rfl (fun _ h₁ => ?_)
  replace hE := f2_rely hE h₁
  clear h₁
  refine goes_oper_k rfl rfl (by k_ne) (fun K hK => ?_)
  go_simp
  refine hK _ _ ⟨?_, ?_⟩
  · refine df_none ?_; intro e he; have hm := mem_listed he; simp [go_sem, *] at hm
  clear hK K
  try w_num
  refine Goes.step rfl (fun _ h₁ => ?_)
  replace hE := f2_rely hE h₁
  clear h₁
  rw [stepG_region_end]
  simp only [goes_go]
  refine ⟨by refine df_none ?_; intro e he; simp at he, ?_⟩
  refine Goes.step rfl (fun _ h₁ => ?_)
  replace hE := f2_rely hE h₁
  clear h₁
  rw [stepG_block]
  simp only [goes_go]
  refine ⟨by refine df_none ?_; intro e he; simp at he, ?_⟩
  refine Goes.step rfl (fun _ h₁ => ?_)
  replace hE := f2_rely hE h₁
  clear h₁
  rw [stepG_loop]
  simp only [goes_go]
  refine ⟨by refine df_none ?_; intro e he; simp at he, ?_⟩
  refine Goes.stop fun w₁ h₁ => ?_
  replace hE := f2_rely hE h₁
  exact ⟨⟨_, rfl, by simp, by simp, by simp, by simp, by simp, by simp, by simp⟩, hE⟩
end
/-! the machine -/
section
variable {W : World} {N n cap : Nat} {a0 : Option Addr} {cs : List Frame} {X : Nat → Prop} {J q Bm : Nat} {ps : List (List UInt8)} {sl : Nat → Option Addr × Nat} {m : Machine} {t : Trace}
def valsP (n : Nat) (ps : List (List UInt8)) : List Value := (List.range n).map (valP ps)
/-- From Parts' entry to behind Wait. -/
theorem parts_wait (hq : TakeQ Bm q) (hXN : ∀ r, X r → r < N) (ha : Args W N X a0 n ps sl) (hB : ∀ j, j < n → (ps.getD j []).length ≤ Bm) (hn : n < 2147483648) (h : Mach Try.prog X J (P0 W N n a0 cap cs) m t) :
    Leads Try.prog m t (Mach Try.prog (fun r => X r ∨ r = N + 2) (J + n) (fun g w => BackP N n a0 cap cs g ∧ SF W N n w ∧ Full N (valsP n ps) w)) := by
  have hX1 : ∀ r, (X r ∨ r = N + 2) → r < N + 3 := fun r hr => by
    rcases hr with hr | hr
    · have := hXN r hr; omega
    · omega
  have hXn : ¬ (X N ∨ N = N + 2) := fun hr => by
    rcases hr with hr | hr
    · have := hXN N hr; omega
    · omega
  have hX2 : ¬ (X (N + 1) ∨ N + 1 = N + 2) := fun hr => by
    rcases hr with hr | hr
    · have := hXN _ hr; omega
    · omega
  have ha' : Args W N (fun r => X r ∨ r = N + 2) a0 n ps sl := by
    refine ⟨ha.len, fun hp => ?_, fun j hj hp => ?_⟩
    · obtain ⟨g, off, h1, h2, h3, h4⟩ := ha.cells hp
      exact ⟨g, off, h1, h2, fun x => x.elim h3 (by omega), h4⟩
    · obtain ⟨g, off, h1, h2, h3, h4⟩ := ha.bytes j hj hp
      exact ⟨g, off, h1, h2, fun x => x.elim h3 (by omega), h4⟩
  refine (h.runs fun a w hs => runs_of_goes 20 (parts_in (X := X) hn a w hs (fun x => hX2 (.inl x)))).bind fun m1 t1 h1 => ?_
  refine ((h1.hide (b := N + 2) fun a w ⟨_, _, _, _, _, hE⟩ => by rw [hE.size]; exact Nat.le_refl _).runs fun a w hs => runs_of_goes 20 (parts_loop (X := fun r => X r ∨ r = N + 2) a w hs)).bind fun m2 t2 h2 => ?_
  obtain ⟨gs, a, w, s1, q1, rfl, e1, e2, ⟨hH, hSI, hwg, hpay, hsz⟩, e4, e5⟩ := h2
  have hst := startsFrom (W := W) (N := N) (n := n) (cap := cap) (a0 := a0) (cs := cs) (X := fun r => X r ∨ r = N + 2) (M := 60 + q) (K := 24) (q := q) (Bm := Bm) (ps := ps) (sl := sl) hq (Nat.le_refl _) (Nat.le_refl _) hX1 hX2 ha' hB hn n 0 (by omega) (N + 3) a w hH hSI
  have hst := starts_of (m := 60) W N n a0 cap cs (fun r => X r ∨ r = N + 2) (60 + q) 24 ps hst
  have hcrew := crew_runs (P := Try.prog) (L := lay N n) (X := fun r => X r ∨ r = N + 2) (J := J) (M := 60 + q) (K := 24) (val := valP ps) (vals := valsP n ps) (Anch := AnE W N n a0 cap cs (fun r => X r ∨ r = N + 2) (valsP n ps)) (AnchW := AnW W N n a0 cap cs) (gs := gs) (w := w) (sl := s1) (t := t2) (q := q1) (a := a)
    (lay_ok N n) ⟨fun b hb => hX1 b hb, .inr rfl, hXn⟩ hn anW_runs (fun Lw g w hA => anW_round g w hA) (by simp [valsP]) (fun i hi => by simp [valsP, hi]) hsz.symm e1 e2 e4 e5 hwg hpay (by rw [hsz]; exact hst)
  obtain ⟨N1, m3, t3, r1, gs', a', w', sl', q', rfl, f1, f2, f3, f4, f5, f6⟩ := hcrew
  refine Leads.bind (Q := Mach Try.prog (fun r => X r ∨ r = N + 2) (J + n) (AnE W N n a0 cap cs (fun r => X r ∨ r = N + 2) (valsP n ps))) ⟨N1, _, t3, r1, (⟨gs', a', w', sl', q', rfl, f1, f2, f4, f5, f6⟩ : Mach Try.prog (fun r => X r ∨ r = N + 2) (J + n) (AnE W N n a0 cap cs (fun r => X r ∨ r = N + 2) (valsP n ps)) _ _)⟩ fun m4 t4 h4 => ?_
  exact h4.runs fun a w ⟨k, hk⟩ => runs_of_goes k hk
end
end Go.Proofs.Ytoipkpndfgcmcaa.Crew
