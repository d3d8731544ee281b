/-
  A worker of Parts: its birth; the defer; the sum of its bytes; the store into its own cell; the deferred Done. The conditions stand in each theorem.
-/
import Derived.Test.YtoipkpndfgcmcaaCvTake
import Derived.Test.YtoipkpndfgcmcaaCvFunc
namespace Go.Proofs.Ytoipkpndfgcmcaa.Crew
open Go Go.Conc Go.ConcN Go.RowKit Go.Conc.Lib Go.ConcR.Gen Go.ConcN.Gen Go.Proofs.Ytoipkpndfgcmcaa.Veils
open Go.ConcR (KK wgBlock WgAt stA smA rd wr mk Payload DC0)
set_option linter.unusedVariables false
set_option linter.unusedSectionVars false
set_option linter.unusedSimpArgs false
section
variable {L : Lay} {Low i : Nat} {b : Option Nat} {Rd : Nat → Prop} {w w₁ : World}
/-- A block that stands whatever the others do. -/
structure Sol (L : Lay) (Low : Nat) (Rd : Nat → Prop) (g : Nat) (w : World) : Prop where
  rd : Rd g
  low : g < Low
  lt : g < w.heap.size
  nC : g ≠ L.C
  nW : g ≠ L.Wg
  nH : ¬ Half L w g
theorem Sol.rely {g : Nat} (h : Sol L Low Rd g w) (r : RX L Low b i w w₁) : Sol L Low Rd g w₁ := ⟨h.rd, h.low, Nat.lt_of_lt_of_le h.lt r.size, h.nC, h.nW, r.nohalf h.low h.lt h.nC h.nW h.nH⟩
theorem Sol.cell {g : Nat} (h : Sol L Low Rd g w) (r : RX L Low b i w w₁) (k : Nat) : w₁.cell? ⟨g, k, none⟩ = w.cell? ⟨g, k, none⟩ := cell_of_block (r.block g h.low h.lt h.nC h.nW h.nH) k
theorem Sol.ev {g : Nat} (h : Sol L Low Rd g w) (k : Nat) : EvX L Rd b i w ⟨.cell ⟨g, k, none⟩, false, false⟩ := .inl ⟨_, false, rfl, h.lt, .inl ⟨h.rd, rfl⟩⟩
theorem RX.weak (h : RX L Low b i w w₁) : RX L Low none i w w₁ := ⟨h.size, h.block, h.half, fun r e => (by cases e), h.live, h.pay, h.cell⟩
/-- Its places. -/
structure Pl where
  bG : Nat
  bF : Nat
  bP : Nat
  bS : Nat
  bI : Nat
/-- What it knows of the world until it stores. -/
structure WK (L : Lay) (Low : Nat) (Rd : Nat → Prop) (p : Pl) (j n c : Nat) (A : Option Addr) (bs : List UInt8) (w : World) : Prop where
  sG : Sol L Low Rd p.bG w
  sF : Sol L Low Rd p.bF w
  sP : Sol L Low Rd p.bP w
  sS : Sol L Low Rd p.bS w
  sI : Sol L Low Rd p.bI w
  cG : w.cell? ⟨p.bG, 0, none⟩ = some (.pointer (some ⟨L.Wg, 0, none⟩))
  cF : w.cell? ⟨p.bF, 0, none⟩ = some (.func (.func 54) #[] #[.pointer (some ⟨p.bP, 0, none⟩), .pointer (some ⟨p.bS, 0, none⟩), .pointer (some ⟨p.bI, 0, none⟩)])
  cP : w.cell? ⟨p.bP, 0, none⟩ = some (.slice A n c)
  cS : w.cell? ⟨p.bS, 0, none⟩ = some (.slice (some ⟨L.C, 0, none⟩) L.n L.n)
  cI : w.cell? ⟨p.bI, 0, none⟩ = some (.int .i64 (j : Int))
  bys : Bys L Low Rd A n (bs.map bv) w
  live : WgLive L.ty L.Wg w
  pay : PayAt L.C L.n w
  n0 : L.N0 ≤ w.heap.size
/-- .. and behind it. -/
structure WE (L : Lay) (Low : Nat) (Rd : Nat → Prop) (bG j : Nat) (v : Value) (w : World) : Prop where
  sG : Sol L Low Rd bG w
  cG : w.cell? ⟨bG, 0, none⟩ = some (.pointer (some ⟨L.Wg, 0, none⟩))
  live : WgLive L.ty L.Wg w
  has : Has L.C j v w
variable {p : Pl} {j n c : Nat} {A : Option Addr} {bs : List UInt8}
theorem WK.rely (h : WK L Low Rd p j n c A bs w) (r : RX L Low b i w w₁) : WK L Low Rd p j n c A bs w₁ :=
  ⟨h.sG.rely r, h.sF.rely r, h.sP.rely r, h.sS.rely r, h.sI.rely r, (h.sG.cell r 0).trans h.cG, (h.sF.cell r 0).trans h.cF, (h.sP.cell r 0).trans h.cP, (h.sS.cell r 0).trans h.cS, (h.sI.cell r 0).trans h.cI, h.bys.rely r, r.live h.live, r.pay h.pay, Nat.le_trans h.n0 r.size⟩
theorem WE.rely {bG : Nat} {v : Value} (h : WE L Low Rd bG j v w) (r : RX L Low b j w w₁) : WE L Low Rd bG j v w₁ :=
  ⟨h.sG.rely r, (h.sG.cell r 0).trans h.cG, r.live h.live, (r.cell).trans h.has⟩
theorem WK.cellC (h : WK L Low Rd p j n c A bs w) (hj : j < L.n) : ∃ u, w.cell? ⟨L.C, j, none⟩ = some u ∧ w.frozen? ⟨L.C, j, none⟩ = false := by
  obtain ⟨arr, h1, h2⟩ := h.pay
  exact ⟨arr[j]'(by omega), by simp [World.cell?, h1, h2, hj], by simp [World.frozen?, h1]⟩
theorem asideCell_set (hp : PayAt L.C L.n w) (j : Nat) (v : Value) : AsideCell L.C L.n j w (w.setCell ⟨L.C, j, none⟩ v) := by
  have hA := aside_setCell w ⟨L.C, j, none⟩ v
  obtain ⟨arr, h1, h2⟩ := hp
  have hb : (w.setCell ⟨L.C, j, none⟩ v).heap[L.C]? = some (.cells (arr.setIfInBounds j v) Payload.ety) := by
    rw [setCell_eq_setRow w L.C j arr _ (0, 0) _ h1, setRow_heap w L.C _ _ _ _ h1]
  refine ⟨hA.tape, hA.os, hA.output, hA.size, fun b hb' => hA.block b hb', fun _ => ⟨_, hb, by simpa using h2⟩, fun i' hi' => ?_⟩
  simp [World.cell?, hb, h1, Array.getElem?_setIfInBounds_ne (Ne.symm hi')]
theorem has_set (hp : PayAt L.C L.n w) (hj : j < L.n) (v : Value) : Has L.C j v (w.setCell ⟨L.C, j, none⟩ v) := by
  obtain ⟨arr, h1, h2⟩ := hp
  have hb : (w.setCell ⟨L.C, j, none⟩ v).heap[L.C]? = some (.cells (arr.setIfInBounds j v) Payload.ety) := by
    rw [setCell_eq_setRow w L.C j arr _ (0, 0) _ h1, setRow_heap w L.C _ _ _ _ h1]
  simp [Has, World.cell?, hb, h2, hj]
/-- The store of the sum. -/
theorem WK.store (hL : L.Ok) (h : WK L Low Rd p j n c A bs w) (hj : j < L.n) (v : Value) : WE L Low Rd p.bG j v (w.setCell ⟨L.C, j, none⟩ v) ∧ ∀ b, DX L Rd b j w (w.setCell ⟨L.C, j, none⟩ v) #[⟨.cell ⟨L.C, j, none⟩, true, false⟩] := by
  have hA := asideCell_set h.pay j v
  refine ⟨⟨⟨h.sG.rd, h.sG.low, by rw [hA.size]; exact h.sG.lt, h.sG.nC, h.sG.nW, fun x => h.sG.nH ((half_of_cell hL hA _).1 x)⟩, (cell_of_block (hA.block _ h.sG.nC) 0).trans h.cG, ?_, has_set h.pay hj v⟩, fun b => ⟨hA.tape, hA.os, hA.output, hA.size, fun r hr _ => hA.block r hr, fun r => (half_of_cell hL hA r).2, fun r => (half_of_cell hL hA r).1, hA.pay, hA.cells, fun e he => ?_⟩⟩
  · obtain ⟨st, sm, hl⟩ := h.live
    exact ⟨st, sm, hl.of_block (hA.block L.Wg (Ne.symm hL.hCW))⟩
  · rw [Array.mem_singleton] at he
    subst he
    refine .inl ⟨_, true, rfl, ?_, .inr (.inl rfl)⟩
    rw [hA.size]
    exact Nat.lt_of_lt_of_le hL.hC h.n0
end
section
variable {main : Bool} {b : Frame} {a : Act} {kk : List Item} {cs : List Frame} {w : World} {ops : Array Oper} {i : Nat} {rest : List Nat} {o : Oper}
/-- A plain store of a uint32, as one step. -/
theorem stepG_store40 {x y : Operand} (ho : ops[i]? = some o) (hw : Region.wanted o (yielded ops a.tmps) = true) (hk : b.kind ≠ .early) (hop : o.op = .store 40 x y)
    {ad : Addr} {v : Int} {u : Value} (hx : a.eval x = .pointer (some ad)) (hy : a.eval y = .int .u32 v) (hc : w.cell? ad = some u) (hz : w.frozen? ad = false) (hq : (Try.prog.funcs[b.fn]?).any (·.norace) = false) :
    stepG Try.prog main (G (b.at a (.inRegion ops (i :: rest) :: kk)) cs) w = .go (G (b.at (a.put o.dst undef) (.inRegion ops rest :: kk)) cs) (w.setCell ad (.int .u32 v)) #[⟨.cell ad, true, false⟩] := by
  have hr : (execOp a.eval o).run Try.prog w = .ok .skip (w.setCell ad (.int .u32 v)) := by
    unfold execOp
    simp only [hop, hx, hy]
    simp [go_sem, stored, hc, hz]
  have he : (execOp a.eval o).events Try.prog w #[] = #[⟨.cell ad, true, false⟩] := by
    unfold execOp
    simp only [hop, hx, hy]
    simp [go_sem, storedEv, hc, hz]
  rw [stepG_none ho hw hk hr]
  unfold listed
  rw [he, seen_eq hq (by simp)]
theorem loud54 : (Try.prog.funcs[(base 54).fn]?).any (·.norace) = false := by kernel_rfl
end
/-! the end -/
def botOf (P : Program) : Frame := { (default : Frame) with fn := P.funcs.size, defers := [], mode := .panicking [goexitEntry] }
/-- The literal's own way out: it only leaves. -/
theorem quitsTail (a : Act) (ha : a.defers = []) (todo : List Item) : QuitsD Try.prog 2 0 (G { (baseD 61).at a todo with mode := .returning } [botOf Try.prog]) := by
  refine QuitsD.ctl (g' := G (botOf Try.prog) []) rfl (fun w => ?_) ?_
  · simp [G, stepG, unwind, doReturn, results, Frame.at, ha, baseD, botOf, Try.func61, Try.f61, seen, GStep.after, goexitEntry]
  refine QuitsD.ctl (g' := { G (botOf Try.prog) [] with status := .finished }) rfl (fun w => ?_) ⟨rfl, rfl⟩
  simp [G, stepG, unwind, botOf, goexitEntry, Frame.catches]
  rfl
theorem born_step (caps : Array Value) (hc : caps.size = 2) (w : World) : stepG Try.prog false (born Try.prog (dcallv 61 caps)) w =
    .go (G ((baseD 61).at ⟨caps ++ Array.replicate 3 undef, []⟩ [.code (bodyOf Try.f61)]) [botOf Try.prog]) w #[] := by
  simp [born, dcallv, stepG, unwind, callDeferred, invoke, callFunc, Try.func61, Try.f61, seen, GStep.after, G, Frame.enter, Frame.at, baseD, botOf, bodyOf, hc]
set_option maxRecDepth 100000 in
/-- Done, called by its name. -/
theorem doneQ {P : Program} {lk : WgLink} (H : WgLib P lk) {Own Rd : Nat → Loc → Prop} {Wg C n Low k : Nat} {val : Value} {b₀ : Frame} {a₀ : Act} {ops₀ : Array Oper} {i₀ : Nat} {rest₀ : List Nat} {k₀ : List Item} {cs : List Frame} {qt : Nat}
    (hT : QuitsD P qt 0 (G (b₀.at (a₀.put ((ops₀[i₀]?).bind (·.dst)) (.tuple #[])) (.inRegion ops₀ rest₀ :: k₀)) cs)) (w : World) (hK : WgLive lk.tWg Wg w ∧ Has C (k - 1) val w) :
    Goes P false (RW lk.tWg Wg C n Low (k - 1)) (DWs Wg Own Rd C n k) (AtR0 P lk.tWg Wg C n Low k val) 23 (G ((base lk.done).at ⟨#[.pointer (some ⟨Wg, 0, none⟩), undef, undef, undef], []⟩ [.code (body_done lk)]) (b₀.at a₀ (.inRegion ops₀ (i₀ :: rest₀) :: k₀) :: cs)) w := by
  lib_facts
  have hA := @addNegN _ lk P H Own Rd Wg C n Low k val
  simp only [body_done, body_add, doneFn, addFn, Option.getD_some] at hA ⊢
  u_reg kn_rely hK
  u_op kn_rely hK
  u_in kn_rely hK
  refine goes_call rfl rfl (by k_ne) rfl H.f_add (nm_add lk) rfl ⟨by u_nil, ?_⟩
  walk_nrmf addFn
  refine hA (qt := qt + 3) ?_ _ hK
  q_c stepG_region_end
  q_c stepG_end
  exact QuitsD.leave0 rfl rfl H.f_done rfl hT
section
variable {L : Lay} {Low j K : Nat} {b : Option Nat} {Rd : Nat → Prop} {w : World} {bG : Nat} {v : Value}
set_option maxRecDepth 100000 in
/-- From behind the store. -/
theorem tailQ (hL : L.Ok) (hty : L.ty = 96) (hK : 24 ≤ K) {T T1 : Array Value} {ops ops1 : Array Oper} (hF : WE L Low Rd bG j v w) :
    Goes Try.prog false (RX L Low b j) (DX L Rd b j) (AtEnd1 Try.prog L K j v) 25
      (G ((base 54).at ⟨T, []⟩ [.inRegion ops []]) [(baseD 61).at ⟨T1, [dcallv 62 #[.pointer (some ⟨bG, 0, none⟩)]]⟩ [.inRegion ops1 [1]], botOf Try.prog]) w := by
  refine Goes.step rfl (fun _ h₁ => ?_)
  replace hF := WE.rely hF h₁
  clear h₁
  rw [stepG_region_end]
  simp only [goes_go]
  refine ⟨by refine dx_none ?_; intro e he; simp at he, ?_⟩
  refine Goes.step rfl (fun _ h₁ => ?_)
  replace hF := WE.rely hF h₁
  clear h₁
  rw [stepG_end]
  simp only [goes_go]
  refine ⟨by refine dx_none ?_; intro e he; simp at he, ?_⟩
  refine Goes.step rfl (fun _ h₁ => ?_)
  replace hF := WE.rely hF h₁
  clear h₁
  refine goes_leave0 rfl rfl Try.func54 rfl ⟨by refine dx_none ?_; intro e he; simp at he, ?_⟩
  walk_nrm
  refine Goes.step rfl (fun _ h₁ => ?_)
  replace hF := WE.rely hF h₁
  clear h₁
  rw [stepG_region_end]
  simp only [goes_go]
  refine ⟨by refine dx_none ?_; intro e he; simp at he, ?_⟩
  refine Goes.step rfl (fun _ h₁ => ?_)
  replace hF := WE.rely hF h₁
  clear h₁
  rw [stepG_end]
  simp only [goes_go]
  refine ⟨by refine dx_none ?_; intro e he; simp at he, ?_⟩
  refine Goes.step rfl (fun _ h₁ => ?_)
  replace hF := WE.rely hF h₁
  clear h₁
  rw [stepG_unwind_enterv (f := 62) (caps := #[.pointer (some ⟨bG, 0, none⟩)]) (ds := []) (by split <;> rfl) Try.func62 (by rfl) rfl]
  simp only [goes_go]
  refine ⟨by refine dx_none ?_; intro e he; simp at he, ?_⟩
  walk_nrmf Try.f62
  refine Goes.step rfl (fun _ h₁ => ?_)
  replace hF := WE.rely hF h₁
  clear h₁
  rw [stepG_seq]
  simp only [goes_go]
  refine ⟨by refine dx_none ?_; intro e he; simp at he, ?_⟩
  refine Goes.step rfl (fun _ h₁ => ?_)
  replace hF := WE.rely hF h₁
  clear h₁
  rw [stepG_seq]
  simp only [goes_go]
  refine ⟨by refine dx_none ?_; intro e he; simp at he, ?_⟩
  refine Goes.step rfl (fun _ h₁ => ?_)
  replace hF := WE.rely hF h₁
  clear h₁
  rw [stepG_region]
  simp only [goes_go, List.size_toArray, List.length_cons, List.length_nil, Nat.reduceAdd, Nat.zero_add, List.range, List.range.loop]
  refine ⟨by refine dx_none ?_; intro e he; simp at he, ?_⟩
  refine Goes.step rfl (fun _ h₁ => ?_)
  replace hF := WE.rely hF h₁
  clear h₁
  rw [stepG_recover0 rfl rfl rfl rfl]
  simp only [goes_go]
  refine ⟨by refine dx_none ?_; intro e he; simp at he, ?_⟩
  walk_nrm
  refine Goes.step rfl (fun _ h₁ => ?_)
  replace hF := WE.rely hF h₁
  clear h₁
  refine goes_oper_k rfl rfl (by k_ne) (fun K hK => ?_)
  go_simp
  refine hK _ _ ⟨?_, ?_⟩
  · refine dx_none ?_; intro e he; have hm := mem_listed he; simp [go_sem, *] at hm
  clear hK K
  try w_num
  refine Goes.step rfl (fun _ h₁ => ?_)
  replace hF := WE.rely hF h₁
  clear h₁
  rw [stepG_region_end]
  simp only [goes_go]
  refine ⟨by refine dx_none ?_; intro e he; simp at he, ?_⟩
  refine Goes.step rfl (fun _ h₁ => ?_)
  replace hF := WE.rely hF h₁
  clear h₁
  rw [stepG_seq]
  simp only [goes_go]
  refine ⟨by refine dx_none ?_; intro e he; simp at he, ?_⟩
  refine Goes.step rfl (fun _ h₁ => ?_)
  replace hF := WE.rely hF h₁
  clear h₁
  rw [stepG_region]
  simp only [goes_go, List.size_toArray, List.length_cons, List.length_nil, Nat.reduceAdd, Nat.zero_add, List.range, List.range.loop]
  refine ⟨by refine dx_none ?_; intro e he; simp at he, ?_⟩
  refine Goes.step rfl (fun _ h₁ => ?_)
  replace hF := WE.rely hF h₁
  clear h₁
  refine goes_oper_k rfl rfl (by k_ne) (fun K hK => ?_)
  go_simp
  refine hK _ _ ⟨?_, ?_⟩
  · refine dx_none ?_; intro e he; have hm := mem_listed he; simp [go_sem, *] at hm
  clear hK K
  try w_num
  have hnz : ∀ (w : World) (es : Array Event), Sem.events Try.prog (binOp BinOp.neq 20 Value.nilIface Value.nilIface) w es = es := fun w es => by kernel_rfl
  refine Goes.step rfl (fun _ h₁ => ?_)
  replace hF := WE.rely hF h₁
  clear h₁
  refine goes_oper_k rfl rfl (by k_ne) (fun K hK => ?_)
  go_simp
  refine hK _ _ ⟨?_, ?_⟩
  · refine dx_none ?_; intro e he; have hm := mem_listed he; simp [go_sem, *] at hm
  clear hK K
  try w_num
  clear hnz
  refine Goes.step rfl (fun _ h₁ => ?_)
  replace hF := WE.rely hF h₁
  clear h₁
  rw [stepG_region_end]
  simp only [goes_go]
  refine ⟨by refine dx_none ?_; intro e he; simp at he, ?_⟩
  refine Goes.step rfl (fun _ h₁ => ?_)
  replace hF := WE.rely hF h₁
  clear h₁
  rw [stepG_cond (t := false) (by first | rfl | (simp [Act.eval]; omega))]
  simp only [goes_go, if_true, if_false, Bool.false_eq_true, ↓reduceIte]
  refine ⟨by refine dx_none ?_; intro e he; simp at he, ?_⟩
  refine Goes.step rfl (fun _ h₁ => ?_)
  replace hF := WE.rely hF h₁
  clear h₁
  rw [stepG_skip]
  simp only [goes_go]
  refine ⟨by refine dx_none ?_; intro e he; simp at he, ?_⟩
  refine Goes.step rfl (fun _ h₁ => ?_)
  replace hF := WE.rely hF h₁
  clear h₁
  rw [stepG_region]
  simp only [goes_go, List.size_toArray, List.length_cons, List.length_nil, Nat.reduceAdd, Nat.zero_add, List.range, List.range.loop]
  refine ⟨by refine dx_none ?_; intro e he; simp at he, ?_⟩
  refine Goes.step rfl (fun _ h₁ => ?_)
  replace hF := WE.rely hF h₁
  clear h₁
  refine goes_oper_k rfl rfl (by k_ne) (fun Kx hKx => ?_)
  have hc := hF.cG
  go_simp
  refine hKx _ _ ⟨?_, ?_⟩
  · refine dx_read ?_; intro e he; have hm := mem_listed he; simp [go_sem, *] at hm
    all_goals (subst hm; exact hF.sG.ev _)
  clear hKx Kx hc
  refine Goes.stop (fun w₁ h₁ => ?_)
  replace hF := hF.rely h₁
  clear h₁
  have hK' : WgLive link.tWg L.Wg w₁ ∧ Has L.C (j + 1 - 1) v w₁ := ⟨by have := hF.live; rw [hty] at this; exact this, hF.has⟩
  unfold AtEnd1
  rw [hty]
  refine Goes.mono (n := 24) ?_ hK
  refine Goes.step rfl (fun w₂ h₂ => ?_)
  replace hK' := kn_rely hK' h₂
  clear h₂
  refine goes_call rfl rfl (by k_ne) rfl wgLib.f_done (nm_done link) rfl ⟨by u_nil, ?_⟩
  have hA := @doneQ Try.prog link wgLib no2 no2 L.Wg L.C L.n L.N0 (j + 1) v
  simp only [body_done, doneFn, Option.getD_some] at hA
  walk_nrmf doneFn
  refine hA (qt := 2 + 3) ?_ _ hK'
  q_c stepG_region_end
  q_c stepG_end
  exact QuitsD.leaveD rfl rfl Try.func62 rfl rfl (quitsTail _ rfl _)
end
end Go.Proofs.Ytoipkpndfgcmcaa.Crew
