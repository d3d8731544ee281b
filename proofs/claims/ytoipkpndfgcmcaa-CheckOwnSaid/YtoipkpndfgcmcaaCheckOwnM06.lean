/-
  Small words for regions that only read: a quiet region behind a quiet region. No program in sight.
-/
import Derived.Conc.CrowdMono
import Derived.Laws.MakeOwn
import Derived.Conc.AppendWalk
import Derived.Deep.QuietTactic
import Derived.BigQuiet
import Derived.Test.YtoipkpndfgcmcaaCheckOwnM00
import Derived.Test.YtoipkpndfgcmcaaCheckOwnM04
import Derived.Test.YtoipkpndfgcmcaaCheckOwnM05

/-
  A worker of Parts, whole: from its birth to its release. The conditions stand in each theorem.
-/
namespace Go.Proofs.Ytoipkpndfgcmcaa.Crew
open Go Go.Conc Go.ConcN Go.RowKit Go.Conc.Lib Go.ConcR.Gen Go.ConcN.Gen Go.Proofs.Ytoipkpndfgcmcaa.Veils
open Go.ConcR (KK wgBlock WgAt stA smA rd wr mk Payload DC0)
set_option linter.unusedVariables false
set_option linter.unusedSectionVars false
set_option linter.unusedSimpArgs false
section
variable {main : Bool} {b : Frame} {a : Act} {kk : List Item} {cs : List Frame} {w : World} {ops : Array Oper} {i : Nat} {rest : List Nat} {o : Oper}
theorem stepG_alloc99 (ho : ops[i]? = some o) (hw : Region.wanted o (yielded ops a.tmps) = true) (hk : b.kind ≠ .early) (hop : o.op = .alloc 99) :
    stepG Try.prog main (G (b.at a (.inRegion ops (i :: rest) :: kk)) cs) w = .go (G (b.at (a.put o.dst (.pointer (some ⟨w.heap.size, 0, none⟩))) (.inRegion ops rest :: kk)) cs) (w.alloc (.cells (tabl 0) 99)) #[] := by
  have hr : (execOp a.eval o).run Try.prog w = .ok (.value (.pointer (some ⟨w.heap.size, 0, none⟩))) (w.alloc (.cells (tabl 0) 99)) := by
    unfold execOp
    simp only [hop, tabl_zero]
    simp [go_sem]
  have he : (execOp a.eval o).events Try.prog w #[] = #[] := by
    unfold execOp
    simp only [hop]
    simp [go_sem]
  rw [stepG_value ho hw hk hr]
  unfold listed
  rw [he, seen_none]
end
theorem not_u32 (s : Nat) (h : s < U32) : bits BinOp.xor IntKind.u32 IntKind.u32.max (s : Int) = ((s ^^^ ONES : Nat) : Int) := by
  rw [show IntKind.u32.max = ((ONES : Nat) : Int) by decide, xor_u32 _ _ ones_lt h, Nat.xor_comm]
section
variable {L : Lay} {Low j K M N q n c mT : Nat} {Rd : Nat → Prop} {F : World → Prop} {A : Option Addr} {bs : List UInt8} {v : Value}
  {b₀ : Frame} {a₀ : Act} {ops₀ : Array Oper} {i₀ : Nat} {rest₀ : List Nat} {k₀ : List Item} {cs : List Frame}
set_option maxRecDepth 100000 in
set_option maxHeartbeats 4000000 in
/-- Sum, from its entry to the making of its array; behind that, to its return. -/
theorem sumQ (hq : TakeQ N q) (hL : L.Ok) (heH : L.eH = 99) (hn : n ≤ N)
    (hFr : ∀ w w', F w → RX L Low none j w w' → F w') (hFs : ∀ g w k u T, F w → L.N0 ≤ g → Blk w g L.eH T → F (w.setCell ⟨g, k, none⟩ u)) (hFB : ∀ w, F w → Bys L Low Rd A n (bs.map bv) w ∧ L.N0 ≤ w.heap.size)
    (hM : mT + q + 16 ≤ M)
    (hT : ∀ g w, F w → Goes Try.prog false (RX L Low (some g) j) (DX L Rd (some g) j) (AtEnd1 Try.prog L K j v) mT (G (b₀.at (a₀.put ((ops₀[i₀]?).bind (·.dst)) (.int .u32 (upd 0 bs : Nat))) (.inRegion ops₀ rest₀ :: k₀)) cs) w)
    (w : World) (hF : F w) :
    Goes Try.prog false (RX L Low none j) (DX L Rd none j) (AtMk Try.prog L M K Low Rd j v) 24
      (G ((base 24).at ⟨#[.slice A n c, undef, undef, undef, undef], []⟩ [.code (bodyOf Try.f24)]) (b₀.at a₀ (.inRegion ops₀ (i₀ :: rest₀) :: k₀) :: cs)) w := by
  obtain ⟨s0, hs0⟩ : ∃ s0 : Nat, ONES = s0 := ⟨_, rfl⟩
  have hsl : s0 < U32 := by rw [← hs0]; exact ones_lt
  have e1 : bits BinOp.xor IntKind.u32 IntKind.u32.max 0 = (s0 : Int) := by
    have := not_u32 0 (by unfold U32; omega)
    rw [Nat.zero_xor, hs0] at this
    exact this
  obtain ⟨y, hy⟩ : ∃ y, crc s0 bs = y := ⟨_, rfl⟩
  have hyl : y < U32 := by rw [← hy]; exact crc_lt hsl bs
  have e2 := not_u32 y hyl
  have hU : upd 0 bs = y ^^^ ONES := by unfold upd; rw [Nat.zero_xor, hs0, hy, ← hs0]
  rw [← hU] at e2
  obtain ⟨u, hu⟩ : ∃ u, upd 0 bs = u := ⟨_, rfl⟩
  rw [hu] at e2 hT
  clear hU hu hyl
  have e0 : (if IntKind.u32.signed = true then (-1 : Int) else IntKind.u32.max) = IntKind.u32.max := rfl
  simp only [bodyOf, Try.f24, Option.getD_some]
  refine Goes.step rfl (fun _ h₁ => ?_)
  replace hF := (hFr _ _) hF h₁
  clear h₁
  rw [stepG_seq]
  simp only [goes_go]
  refine ⟨by refine dx_none ?_; intro e he; simp at he, ?_⟩
  refine Goes.step rfl (fun _ h₁ => ?_)
  replace hF := (hFr _ _) hF h₁
  clear h₁
  rw [stepG_region]
  simp only [goes_go, List.size_toArray, List.length_cons, List.length_nil, Nat.reduceAdd, Nat.zero_add, List.range, List.range.loop]
  refine ⟨by refine dx_none ?_; intro e he; simp at he, ?_⟩
  refine Goes.step rfl (fun _ h₁ => ?_)
  replace hF := (hFr _ _) hF h₁
  clear h₁
  refine goes_oper_k rfl rfl (by k_ne) (fun K hK => ?_)
  go_simp
  refine hK _ _ ⟨?_, ?_⟩
  · refine dx_none ?_; intro e he; have hm := mem_listed he; simp [go_sem, *] at hm
  clear hK K
  try w_num
  refine Goes.step rfl (fun _ h₁ => ?_)
  replace hF := (hFr _ _) hF h₁
  clear h₁
  rw [stepG_region_end]
  simp only [goes_go]
  refine ⟨by refine dx_none ?_; intro e he; simp at he, ?_⟩
  refine Goes.step rfl (fun _ h₁ => ?_)
  replace hF := (hFr _ _) hF h₁
  clear h₁
  rw [stepG_seq]
  simp only [goes_go]
  refine ⟨by refine dx_none ?_; intro e he; simp at he, ?_⟩
  refine Goes.step rfl (fun _ h₁ => ?_)
  replace hF := (hFr _ _) hF h₁
  clear h₁
  rw [stepG_region]
  simp only [goes_go, List.size_toArray, List.length_cons, List.length_nil, Nat.reduceAdd, Nat.zero_add, List.range, List.range.loop]
  refine ⟨by refine dx_none ?_; intro e he; simp at he, ?_⟩
  refine Goes.step rfl (fun _ h₁ => ?_)
  replace hF := (hFr _ _) hF h₁
  clear h₁
  refine goes_oper_k rfl rfl (by k_ne) (fun K hK => ?_)
  go_simp
  refine hK _ _ ⟨?_, ?_⟩
  · refine dx_none ?_; intro e he; have hm := mem_listed he; simp [go_sem, *] at hm
  clear hK K
  try w_num
  refine Goes.step rfl (fun _ h₁ => ?_)
  replace hF := (hFr _ _) hF h₁
  clear h₁
  refine goes_call rfl rfl (by k_ne) rfl Try.func26 (by rfl) rfl ⟨by refine dx_none ?_; intro e he; simp at he, ?_⟩
  walk_nrmf Try.f26
  refine Goes.step rfl (fun _ h₁ => ?_)
  replace hF := (hFr _ _) hF h₁
  clear h₁
  rw [stepG_seq]
  simp only [goes_go]
  refine ⟨by refine dx_none ?_; intro e he; simp at he, ?_⟩
  refine Goes.step rfl (fun _ h₁ => ?_)
  replace hF := (hFr _ _) hF h₁
  clear h₁
  rw [stepG_region]
  simp only [goes_go, List.size_toArray, List.length_cons, List.length_nil, Nat.reduceAdd, Nat.zero_add, List.range, List.range.loop]
  refine ⟨by refine dx_none ?_; intro e he; simp at he, ?_⟩
  refine Goes.step rfl (fun _ h₁ => ?_)
  replace hF := (hFr _ _) hF h₁
  clear h₁
  refine goes_oper_k rfl rfl (by k_ne) (fun K hK => ?_)
  go_simp
  refine hK _ _ ⟨?_, ?_⟩
  · refine dx_none ?_; intro e he; have hm := mem_listed he; simp [go_sem, *] at hm
  clear hK K
  try w_num
  refine Goes.step rfl (fun _ h₁ => ?_)
  replace hF := (hFr _ _) hF h₁
  clear h₁
  rw [stepG_region_end]
  simp only [goes_go]
  refine ⟨by refine dx_none ?_; intro e he; simp at he, ?_⟩
  refine Goes.step rfl (fun _ h₁ => ?_)
  replace hF := (hFr _ _) hF h₁
  clear h₁
  rw [stepG_seq]
  simp only [goes_go]
  refine ⟨by refine dx_none ?_; intro e he; simp at he, ?_⟩
  refine Goes.step rfl (fun _ h₁ => ?_)
  replace hF := (hFr _ _) hF h₁
  clear h₁
  rw [stepG_region]
  simp only [goes_go, List.size_toArray, List.length_cons, List.length_nil, Nat.reduceAdd, Nat.zero_add, List.range, List.range.loop]
  refine ⟨by refine dx_none ?_; intro e he; simp at he, ?_⟩
  refine Goes.step rfl (fun _ h₁ => ?_)
  replace hF := (hFr _ _) hF h₁
  clear h₁
  refine goes_oper_k rfl rfl (by k_ne) (fun K hK => ?_)
  go_simp
  refine hK _ _ ⟨?_, ?_⟩
  · refine dx_none ?_; intro e he; have hm := mem_listed he; simp [go_sem, *] at hm
  clear hK K
  try w_num
  refine Goes.step rfl (fun _ h₁ => ?_)
  replace hF := (hFr _ _) hF h₁
  clear h₁
  refine goes_oper_k rfl rfl (by k_ne) (fun K hK => ?_)
  go_simp
  refine hK _ _ ⟨?_, ?_⟩
  · refine dx_none ?_; intro e he; have hm := mem_listed he; simp [go_sem, *] at hm
  clear hK K
  try w_num
  try simp only [e0, e1]
  refine Goes.step rfl (fun _ h₁ => ?_)
  replace hF := (hFr _ _) hF h₁
  clear h₁
  refine goes_oper_k rfl rfl (by k_ne) (fun K hK => ?_)
  go_simp
  refine hK _ _ ⟨?_, ?_⟩
  · refine dx_none ?_; intro e he; have hm := mem_listed he; simp [go_sem, *] at hm
  clear hK K
  try w_num
  refine Goes.step rfl (fun _ h₁ => ?_)
  replace hF := (hFr _ _) hF h₁
  clear h₁
  refine goes_call rfl rfl (by k_ne) rfl Try.func48 (by rfl) rfl ⟨by refine dx_none ?_; intro e he; simp at he, ?_⟩
  walk_nrmf Try.f48
  refine Goes.step rfl (fun _ h₁ => ?_)
  replace hF := (hFr _ _) hF h₁
  clear h₁
  rw [stepG_seq]
  simp only [goes_go]
  refine ⟨by refine dx_none ?_; intro e he; simp at he, ?_⟩
  refine Goes.step rfl (fun _ h₁ => ?_)
  replace hF := (hFr _ _) hF h₁
  clear h₁
  rw [stepG_region]
  simp only [goes_go, List.size_toArray, List.length_cons, List.length_nil, Nat.reduceAdd, Nat.zero_add, List.range, List.range.loop]
  refine ⟨by refine dx_none ?_; intro e he; simp at he, ?_⟩
  refine Goes.step rfl (fun _ h₁ => ?_)
  replace hF := (hFr _ _) hF h₁
  clear h₁
  refine goes_oper_k rfl rfl (by k_ne) (fun K hK => ?_)
  go_simp
  refine hK _ _ ⟨?_, ?_⟩
  · refine dx_none ?_; intro e he; have hm := mem_listed he; simp [go_sem, *] at hm
  clear hK K
  try w_num
  refine Goes.step rfl (fun _ h₁ => ?_)
  replace hF := (hFr _ _) hF h₁
  clear h₁
  rw [stepG_region_end]
  simp only [goes_go]
  refine ⟨by refine dx_none ?_; intro e he; simp at he, ?_⟩
  refine Goes.step rfl (fun _ h₁ => ?_)
  replace hF := (hFr _ _) hF h₁
  clear h₁
  rw [stepG_seq]
  simp only [goes_go]
  refine ⟨by refine dx_none ?_; intro e he; simp at he, ?_⟩
  refine Goes.step rfl (fun _ h₁ => ?_)
  replace hF := (hFr _ _) hF h₁
  clear h₁
  rw [stepG_region]
  simp only [goes_go, List.size_toArray, List.length_cons, List.length_nil, Nat.reduceAdd, Nat.zero_add, List.range, List.range.loop]
  refine ⟨by refine dx_none ?_; intro e he; simp at he, ?_⟩
  refine Goes.stop (fun w₁ h₁ => ?_)
  replace hF := hFr _ _ hF h₁
  clear h₁
  have hB := hFB _ hF
  refine ⟨rfl, _, tabl 0, (stepG_alloc99 rfl rfl (by k_ne) rfl).trans (by rw [heH]), ?_⟩
  have hX : FX L Low j w₁.heap.size F := ⟨fun w w' h r => hFr _ _ h r.weak, fun w k u T h h1 h2 => hFs _ _ _ _ _ h h1 h2⟩
  have hgC : w₁.heap.size ≠ L.C := by have := hL.hC; omega
  have rA : RX L Low none j w₁ (w₁.alloc (.cells (tabl 0) L.eH)) := RX.of_alloc w₁ _ (by have := hL.hW; omega) (by have := hL.hC; omega) (fun r e => by cases e)
  have hF2 : TH L Low Rd F w₁.heap.size (tabl 0) A n (bs.map bv) (w₁.alloc (.cells (tabl 0) L.eH)) := ⟨hFr _ _ hF rA, hB.1.rely rA, Blk.new _ _ _, hB.2⟩
  generalize w₁.heap.size = g at hX hgC hF2 ⊢
  generalize w₁.alloc (.cells (tabl 0) L.eH) = w₂ at hF2 ⊢
  clear hF hB rA
  have hk := hq L Low j Rd F g s0 n c A bs
  simp only [bodyOf, Try.f48, Option.getD_some, seqTail] at hk
  refine Goes.mono (n := (mT + 15) + q + 1) ?_ (by omega)
  walk_nrm
  refine Goes.step rfl (fun _ h₁ => ?_)
  replace hF2 := (TH.rely hX) hF2 h₁
  clear h₁
  rw [stepG_region_end]
  simp only [goes_go]
  refine ⟨by refine dx_none ?_; intro e he; simp at he, ?_⟩
  refine wpC_goes (hk _ hX hL hgC hsl hn hF2) rfl (by k_ne) (fun e a w₃ hh => ?_)
  obtain ⟨rfl, hd, h4, hF3⟩ := hh
  intro todo
  clear hF2 hk
  rw [hy] at h4
  refine Goes.step rfl (fun _ h₁ => ?_)
  replace hF3 := (TH.rely hX) hF3 h₁
  clear h₁
  refine goes_leave1 rfl hd Try.func48 rfl ⟨by refine dx_none ?_; intro e he; simp at he, ?_⟩
  rw [h4]
  walk_nrm
  refine Goes.step rfl (fun _ h₁ => ?_)
  replace hF3 := (TH.rely hX) hF3 h₁
  clear h₁
  refine goes_oper_k rfl rfl (by k_ne) (fun K hK => ?_)
  go_simp
  refine hK _ _ ⟨?_, ?_⟩
  · refine dx_none ?_; intro e he; have hm := mem_listed he; simp [go_sem, *] at hm
  clear hK K
  try w_num
  try simp only [e0, e2]
  refine Goes.step rfl (fun _ h₁ => ?_)
  replace hF3 := (TH.rely hX) hF3 h₁
  clear h₁
  refine goes_oper_k rfl rfl (by k_ne) (fun K hK => ?_)
  go_simp
  refine hK _ _ ⟨?_, ?_⟩
  · refine dx_none ?_; intro e he; have hm := mem_listed he; simp [go_sem, *] at hm
  clear hK K
  try w_num
  refine Goes.step rfl (fun _ h₁ => ?_)
  replace hF3 := (TH.rely hX) hF3 h₁
  clear h₁
  rw [stepG_region_end]
  simp only [goes_go]
  refine ⟨by refine dx_none ?_; intro e he; simp at he, ?_⟩
  refine Goes.step rfl (fun _ h₁ => ?_)
  replace hF3 := (TH.rely hX) hF3 h₁
  clear h₁
  rw [stepG_ret']
  simp only [goes_go]
  refine ⟨by refine dx_none ?_; intro e he; simp at he, ?_⟩
  refine Goes.step rfl (fun _ h₁ => ?_)
  replace hF3 := (TH.rely hX) hF3 h₁
  clear h₁
  refine goes_leave1 rfl rfl Try.func26 rfl ⟨by refine dx_none ?_; intro e he; simp at he, ?_⟩
  walk_nrm
  refine Goes.step rfl (fun _ h₁ => ?_)
  replace hF3 := (TH.rely hX) hF3 h₁
  clear h₁
  refine goes_oper_k rfl rfl (by k_ne) (fun K hK => ?_)
  go_simp
  refine hK _ _ ⟨?_, ?_⟩
  · refine dx_none ?_; intro e he; have hm := mem_listed he; simp [go_sem, *] at hm
  clear hK K
  try w_num
  refine Goes.step rfl (fun _ h₁ => ?_)
  replace hF3 := (TH.rely hX) hF3 h₁
  clear h₁
  rw [stepG_region_end]
  simp only [goes_go]
  refine ⟨by refine dx_none ?_; intro e he; simp at he, ?_⟩
  refine Goes.step rfl (fun _ h₁ => ?_)
  replace hF3 := (TH.rely hX) hF3 h₁
  clear h₁
  rw [stepG_ret']
  simp only [goes_go]
  refine ⟨by refine dx_none ?_; intro e he; simp at he, ?_⟩
  refine Goes.step rfl (fun _ h₁ => ?_)
  replace hF3 := (TH.rely hX) hF3 h₁
  clear h₁
  refine goes_leave1 rfl rfl Try.func24 rfl ⟨by refine dx_none ?_; intro e he; simp at he, ?_⟩
  exact Goes.mono (hT g _ hF3.f) (by omega)
end
end Go.Proofs.Ytoipkpndfgcmcaa.Crew

/-
  A worker of Parts, whole: from its birth, whatever order its region draws. The conditions stand in each theorem.
-/
namespace Go.Proofs.Ytoipkpndfgcmcaa.Crew
open Go Go.Conc Go.ConcN Go.RowKit Go.Conc.Lib Go.ConcR.Gen Go.ConcN.Gen Go.Proofs.Ytoipkpndfgcmcaa.Veils
open Go.ConcR (KK wgBlock WgAt stA smA rd wr mk Payload DC0)
set_option linter.unusedVariables false
set_option linter.unusedSectionVars false
set_option linter.unusedSimpArgs false
section
variable {L : Lay} {Low j n c : Nat} {Rd : Nat → Prop} {p : Pl} {A : Option Addr} {bs : List UInt8} {w : World}
theorem Sol.set_ {g b k : Nat} {T : Array Value} (h : Sol L Low Rd b w) (hg : L.N0 ≤ g) (hb : Blk w g L.eH T) (u : Value) : Sol L Low Rd b (w.setCell ⟨g, k, none⟩ u) ∧ ∀ o, (w.setCell ⟨g, k, none⟩ u).cell? ⟨b, o, none⟩ = w.cell? ⟨b, o, none⟩ := by
  have hA := aside_setCell w ⟨g, k, none⟩ u
  have hne : b ≠ g := fun e => h.nH (by rw [e]; exact ⟨hg, _, hb⟩)
  exact ⟨⟨h.rd, h.low, by rw [hA.size]; exact h.lt, h.nC, h.nW, fun x => h.nH ((half_setCell hb k u b).1 x)⟩, cell_of_block (hA.block b hne)⟩
theorem WK.set_ (hL : L.Ok) (h : WK L Low Rd p j n c A bs w) {g k : Nat} {T : Array Value} (hg : L.N0 ≤ g) (hb : Blk w g L.eH T) (u : Value) : WK L Low Rd p j n c A bs (w.setCell ⟨g, k, none⟩ u) := by
  have hA := aside_setCell w ⟨g, k, none⟩ u
  have hC : L.C ≠ g := by have := hL.hC; omega
  have hW : L.Wg ≠ g := by have := hL.hW; omega
  refine ⟨(h.sG.set_ hg hb u).1, (h.sF.set_ hg hb u).1, (h.sP.set_ hg hb u).1, (h.sS.set_ hg hb u).1, (h.sI.set_ hg hb u).1, ((h.sG.set_ hg hb u).2 0).trans h.cG, ((h.sF.set_ hg hb u).2 0).trans h.cF, ((h.sP.set_ hg hb u).2 0).trans h.cP, ((h.sS.set_ hg hb u).2 0).trans h.cS, ((h.sI.set_ hg hb u).2 0).trans h.cI, h.bys.set_ ⟨hg, _, hb⟩ hb k u, ?_, ?_, by rw [hA.size]; exact h.n0⟩
  · obtain ⟨st, sm, hl⟩ := h.live
    exact ⟨st, sm, hl.of_block (hA.block L.Wg hW)⟩
  · obtain ⟨cs, h1, h2⟩ := h.pay
    exact ⟨cs, (hA.block L.C hC).trans h1, h2⟩
end
def opsOf : Code → Array Oper
  | .region _ ops _ => ops
  | _ => #[]
theorem orders54 : orders .any (opsOf (bodyOf Try.f54)) 6 (Array.replicate 6 false) [] = [[0, 1, 2, 3, 4, 5], [0, 2, 1, 3, 4, 5], [0, 2, 3, 1, 4, 5], [1, 0, 2, 3, 4, 5], [1, 2, 0, 3, 4, 5], [1, 2, 3, 0, 4, 5], [2, 0, 1, 3, 4, 5], [2, 0, 3, 1, 4, 5], [2, 1, 0, 3, 4, 5], [2, 1, 3, 0, 4, 5], [2, 3, 0, 1, 4, 5], [2, 3, 1, 0, 4, 5]] := by kernel_rfl
theorem mixed : Try.prog.follows .mixedOrders = true := by kernel_rfl
section
variable {L : Lay} {Low j K M N q n c : Nat} {Rd : Nat → Prop} {p : Pl} {A : Option Addr} {bs : List UInt8}
set_option maxRecDepth 100000 in
set_option maxHeartbeats 8000000 in
/-- The worker's whole script. -/
theorem workQ (hq : TakeQ N q) (hL : L.Ok) (hty : L.ty = 96) (heH : L.eH = 99) (hK : 24 ≤ K) (hj : j < L.n) (hn : n ≤ N) (hM : 60 + q ≤ M) (w : World) (hF : WK L Low Rd p j n c A bs w) :
    Goes Try.prog false (RX L Low none j) (DX L Rd none j) (AtMk Try.prog L M K Low Rd j (.int .u32 (upd 0 bs : Nat))) 60 (born Try.prog (dcallv 61 #[.pointer (some ⟨p.bG, 0, none⟩), .pointer (some ⟨p.bF, 0, none⟩)])) w := by
  have hlt : (j : Int) < (L.n : Int) := by omega
  have hsu : Try.prog.underlying 87 = some (.slice (Try.prog.elem 87)) := by kernel_rfl
  have hS := fun (b₀ : Frame) (a₀ : Act) (ops₀ : Array Oper) (i₀ : Nat) (rest₀ : List Nat) (k₀ : List Item) (cs : List Frame) (mT : Nat) => sumQ (L := L) (Low := Low) (j := j) (K := K) (M := M) (N := N) (q := q) (n := n) (c := c) (mT := mT) (Rd := Rd) (F := WK L Low Rd p j n c A bs) (A := A) (bs := bs) (v := .int .u32 (upd 0 bs : Nat)) (b₀ := b₀) (a₀ := a₀) (ops₀ := ops₀) (i₀ := i₀) (rest₀ := rest₀) (k₀ := k₀) (cs := cs) hq hL heH hn (fun _ _ h r => h.rely r) (fun _ _ _ _ _ h hg hb => h.set_ hL hg hb _) (fun _ h => ⟨h.bys, h.n0⟩)
  simp only [bodyOf, Try.f24, Option.getD_some] at hS
  refine Goes.step (n := 59) rfl (fun _ h₁ => ?_)
  replace hF := WK.rely hF h₁
  clear h₁
  rw [born_step _ rfl]
  simp only [goes_go]
  refine ⟨by refine dx_none ?_; intro e he; simp at he, ?_⟩
  simp only [bodyOf, Try.f61, Option.getD_some]
  walk_nrm
  refine Goes.step rfl (fun _ h₁ => ?_)
  replace hF := WK.rely hF h₁
  clear h₁
  rw [stepG_seq]
  simp only [goes_go]
  refine ⟨by refine dx_none ?_; intro e he; simp at he, ?_⟩
  refine Goes.step rfl (fun _ h₁ => ?_)
  replace hF := WK.rely hF h₁
  clear h₁
  rw [stepG_region]
  simp only [goes_go, List.size_toArray, List.length_cons, List.length_nil, Nat.reduceAdd, Nat.zero_add, List.range, List.range.loop]
  refine ⟨by refine dx_none ?_; intro e he; simp at he, ?_⟩
  have hmf : ∀ (fn : Fn) (first cap : Array Value) (w : World), (Instr.makeFunc fn first cap).run Try.prog w = .ok (.func fn first cap) w := fun _ _ _ _ => rfl
  have hme : ∀ (fn : Fn) (first cap : Array Value) (w : World) (es : Array Event), (Instr.makeFunc fn first cap).events Try.prog w es = es := fun _ _ _ _ _ => rfl
  refine Goes.step rfl (fun _ h₁ => ?_)
  replace hF := WK.rely hF h₁
  clear h₁
  refine goes_oper_k rfl rfl (by k_ne) (fun K hK => ?_)
  go_simp
  refine hK _ _ ⟨?_, ?_⟩
  · refine dx_none ?_; intro e he; have hm := mem_listed he; simp [go_sem, *] at hm
  clear hK K
  try w_num
  clear hmf hme
  refine Goes.step rfl (fun _ h₁ => ?_)
  replace hF := WK.rely hF h₁
  clear h₁
  rw [stepG_deferv rfl rfl (by k_ne) rfl rfl]
  simp only [goes_go]
  refine ⟨by refine dx_none ?_; intro e he; simp at he, ?_⟩
  walk_nrm
  refine Goes.step rfl (fun _ h₁ => ?_)
  replace hF := WK.rely hF h₁
  clear h₁
  rw [stepG_region_end]
  simp only [goes_go]
  refine ⟨by refine dx_none ?_; intro e he; simp at he, ?_⟩
  refine Goes.step rfl (fun _ h₁ => ?_)
  replace hF := WK.rely hF h₁
  clear h₁
  rw [stepG_region]
  simp only [goes_go, List.size_toArray, List.length_cons, List.length_nil, Nat.reduceAdd, Nat.zero_add, List.range, List.range.loop]
  refine ⟨by refine dx_none ?_; intro e he; simp at he, ?_⟩
  refine Goes.step rfl (fun _ h₁ => ?_)
  replace hF := WK.rely hF h₁
  clear h₁
  refine goes_oper_k rfl rfl (by k_ne) (fun Kx hKx => ?_)
  have hc := hF.cF
  go_simp
  refine hKx _ _ ⟨?_, ?_⟩
  · refine dx_read ?_; intro e he; have hm := mem_listed he; simp [go_sem, *] at hm
    all_goals (subst hm; exact hF.sF.ev _)
  clear hKx Kx hc
  refine Goes.step rfl (fun _ h₁ => ?_)
  replace hF := WK.rely hF h₁
  clear h₁
  refine goes_callv rfl rfl (by k_ne) rfl rfl Try.func54 (by rfl) rfl ⟨by refine dx_none ?_; intro e he; simp at he, ?_⟩
  walk_nrmf Try.f54
  refine Goes.step rfl (fun wx h₁ => ?_)
  replace hF := WK.rely hF h₁
  clear h₁
  rw [stepG_region_draw]
  simp only [goes_go]
  refine ⟨dx_draw _, ?_⟩
  replace hF := WK.rely hF (RX.at (L := L) (Low := Low) (i := j) (b := none) wx (wx.drawn + 1))
  have ho := fun t => orders54 ▸ orders_mem (opsOf (bodyOf Try.f54)) t
  rw [mixed]
  generalize hord : Region.schedule true _ _ = ord
  replace ho : ord ∈ [[0, 1, 2, 3, 4, 5], [0, 2, 1, 3, 4, 5], [0, 2, 3, 1, 4, 5], [1, 0, 2, 3, 4, 5], [1, 2, 0, 3, 4, 5], [1, 2, 3, 0, 4, 5], [2, 0, 1, 3, 4, 5], [2, 0, 3, 1, 4, 5], [2, 1, 0, 3, 4, 5], [2, 1, 3, 0, 4, 5], [2, 3, 0, 1, 4, 5], [2, 3, 1, 0, 4, 5]] := by rw [← hord]; exact ho _
  clear hord
  simp only [List.mem_cons, List.not_mem_nil, or_false] at ho
  rcases ho with rfl | rfl | rfl | rfl | rfl | rfl | rfl | rfl | rfl | rfl | rfl | rfl
  · -- [0, 1, 2, 3, 4, 5]
    refine Goes.step rfl (fun _ h₁ => ?_)
    replace hF := WK.rely hF h₁
    clear h₁
    refine goes_oper_k rfl rfl (by k_ne) (fun Kx hKx => ?_)
    have hc := hF.cS
    go_simp
    refine hKx _ _ ⟨?_, ?_⟩
    · refine dx_read ?_; intro e he; have hm := mem_listed he; simp [go_sem, *] at hm
      all_goals (subst hm; exact hF.sS.ev _)
    clear hKx Kx hc
    refine Goes.step rfl (fun _ h₁ => ?_)
    replace hF := WK.rely hF h₁
    clear h₁
    refine goes_oper_k rfl rfl (by k_ne) (fun Kx hKx => ?_)
    have hc := hF.cI
    go_simp
    refine hKx _ _ ⟨?_, ?_⟩
    · refine dx_read ?_; intro e he; have hm := mem_listed he; simp [go_sem, *] at hm
      all_goals (subst hm; exact hF.sI.ev _)
    clear hKx Kx hc
    refine Goes.step rfl (fun _ h₁ => ?_)
    replace hF := WK.rely hF h₁
    clear h₁
    refine goes_oper_k rfl rfl (by k_ne) (fun Kx hKx => ?_)
    have hc := hF.cP
    go_simp
    refine hKx _ _ ⟨?_, ?_⟩
    · refine dx_read ?_; intro e he; have hm := mem_listed he; simp [go_sem, *] at hm
      all_goals (subst hm; exact hF.sP.ev _)
    clear hKx Kx hc
    refine Goes.step rfl (fun _ h₁ => ?_)
    replace hF := WK.rely hF h₁
    clear h₁
    refine goes_call rfl rfl (by k_ne) rfl Try.func24 (by rfl) rfl ⟨by refine dx_none ?_; intro e he; simp at he, ?_⟩
    walk_nrmf Try.f24
    refine Goes.mono (hS _ _ _ _ _ _ _ 40 (by omega) (fun g wg hFg => ?_) _ hF) (by omega)
    clear hS hF
    have hF := hFg
    clear hFg
    walk_nrm
    have hev := fun w es => events_indexAt_slice (P := Try.prog) (w := w) (es := es) 87 ⟨L.C, 0, none⟩ L.n L.n .i64 (j : Int) hsu (by omega)
    clear hsu
    refine Goes.step rfl (fun _ h₁ => ?_)
    replace hF := WK.rely hF h₁
    clear h₁
    refine goes_oper_k rfl rfl (by k_ne) (fun K hK => ?_)
    go_simp
    refine hK _ _ ⟨?_, ?_⟩
    · refine dx_none ?_; intro e he; have hm := mem_listed he; simp [go_sem, *] at hm
    clear hK K
    try w_num
    clear hev
    refine Goes.step rfl (fun _ h₁ => ?_)
    replace hF := WK.rely hF h₁
    clear h₁
    obtain ⟨u0, hu1, hu2⟩ := hF.cellC hj
    rw [stepG_store40 rfl rfl (by k_ne) rfl rfl rfl hu1 hu2 loud54]
    simp only [goes_go]
    refine ⟨(hF.store hL hj _).2 _, ?_⟩
    have hE := (hF.store hL hj (.int .u32 (upd 0 bs : Nat))).1
    clear hF hu1 hu2
    exact Goes.mono (tailQ hL hty hK hE) (by omega)
  · -- [0, 2, 1, 3, 4, 5]
    refine Goes.step rfl (fun _ h₁ => ?_)
    replace hF := WK.rely hF h₁
    clear h₁
    refine goes_oper_k rfl rfl (by k_ne) (fun Kx hKx => ?_)
    have hc := hF.cS
    go_simp
    refine hKx _ _ ⟨?_, ?_⟩
    · refine dx_read ?_; intro e he; have hm := mem_listed he; simp [go_sem, *] at hm
      all_goals (subst hm; exact hF.sS.ev _)
    clear hKx Kx hc
    refine Goes.step rfl (fun _ h₁ => ?_)
    replace hF := WK.rely hF h₁
    clear h₁
    refine goes_oper_k rfl rfl (by k_ne) (fun Kx hKx => ?_)
    have hc := hF.cP
    go_simp
    refine hKx _ _ ⟨?_, ?_⟩
    · refine dx_read ?_; intro e he; have hm := mem_listed he; simp [go_sem, *] at hm
      all_goals (subst hm; exact hF.sP.ev _)
    clear hKx Kx hc
    refine Goes.step rfl (fun _ h₁ => ?_)
    replace hF := WK.rely hF h₁
    clear h₁
    refine goes_oper_k rfl rfl (by k_ne) (fun Kx hKx => ?_)
    have hc := hF.cI
    go_simp
    refine hKx _ _ ⟨?_, ?_⟩
    · refine dx_read ?_; intro e he; have hm := mem_listed he; simp [go_sem, *] at hm
      all_goals (subst hm; exact hF.sI.ev _)
    clear hKx Kx hc
    refine Goes.step rfl (fun _ h₁ => ?_)
    replace hF := WK.rely hF h₁
    clear h₁
    refine goes_call rfl rfl (by k_ne) rfl Try.func24 (by rfl) rfl ⟨by refine dx_none ?_; intro e he; simp at he, ?_⟩
    walk_nrmf Try.f24
    refine Goes.mono (hS _ _ _ _ _ _ _ 40 (by omega) (fun g wg hFg => ?_) _ hF) (by omega)
    clear hS hF
    have hF := hFg
    clear hFg
    walk_nrm
    have hev := fun w es => events_indexAt_slice (P := Try.prog) (w := w) (es := es) 87 ⟨L.C, 0, none⟩ L.n L.n .i64 (j : Int) hsu (by omega)
    clear hsu
    refine Goes.step rfl (fun _ h₁ => ?_)
    replace hF := WK.rely hF h₁
    clear h₁
    refine goes_oper_k rfl rfl (by k_ne) (fun K hK => ?_)
    go_simp
    refine hK _ _ ⟨?_, ?_⟩
    · refine dx_none ?_; intro e he; have hm := mem_listed he; simp [go_sem, *] at hm
    clear hK K
    try w_num
    clear hev
    refine Goes.step rfl (fun _ h₁ => ?_)
    replace hF := WK.rely hF h₁
    clear h₁
    obtain ⟨u0, hu1, hu2⟩ := hF.cellC hj
    rw [stepG_store40 rfl rfl (by k_ne) rfl rfl rfl hu1 hu2 loud54]
    simp only [goes_go]
    refine ⟨(hF.store hL hj _).2 _, ?_⟩
    have hE := (hF.store hL hj (.int .u32 (upd 0 bs : Nat))).1
    clear hF hu1 hu2
    exact Goes.mono (tailQ hL hty hK hE) (by omega)
  · -- [0, 2, 3, 1, 4, 5]
    refine Goes.step rfl (fun _ h₁ => ?_)
    replace hF := WK.rely hF h₁
    clear h₁
    refine goes_oper_k rfl rfl (by k_ne) (fun Kx hKx => ?_)
    have hc := hF.cS
    go_simp
    refine hKx _ _ ⟨?_, ?_⟩
    · refine dx_read ?_; intro e he; have hm := mem_listed he; simp [go_sem, *] at hm
      all_goals (subst hm; exact hF.sS.ev _)
    clear hKx Kx hc
    refine Goes.step rfl (fun _ h₁ => ?_)
    replace hF := WK.rely hF h₁
    clear h₁
    refine goes_oper_k rfl rfl (by k_ne) (fun Kx hKx => ?_)
    have hc := hF.cP
    go_simp
    refine hKx _ _ ⟨?_, ?_⟩
    · refine dx_read ?_; intro e he; have hm := mem_listed he; simp [go_sem, *] at hm
      all_goals (subst hm; exact hF.sP.ev _)
    clear hKx Kx hc
    refine Goes.step rfl (fun _ h₁ => ?_)
    replace hF := WK.rely hF h₁
    clear h₁
    refine goes_call rfl rfl (by k_ne) rfl Try.func24 (by rfl) rfl ⟨by refine dx_none ?_; intro e he; simp at he, ?_⟩
    walk_nrmf Try.f24
    refine Goes.mono (hS _ _ _ _ _ _ _ 40 (by omega) (fun g wg hFg => ?_) _ hF) (by omega)
    clear hS hF
    have hF := hFg
    clear hFg
    walk_nrm
    refine Goes.step rfl (fun _ h₁ => ?_)
    replace hF := WK.rely hF h₁
    clear h₁
    refine goes_oper_k rfl rfl (by k_ne) (fun Kx hKx => ?_)
    have hc := hF.cI
    go_simp
    refine hKx _ _ ⟨?_, ?_⟩
    · refine dx_read ?_; intro e he; have hm := mem_listed he; simp [go_sem, *] at hm
      all_goals (subst hm; exact hF.sI.ev _)
    clear hKx Kx hc
    have hev := fun w es => events_indexAt_slice (P := Try.prog) (w := w) (es := es) 87 ⟨L.C, 0, none⟩ L.n L.n .i64 (j : Int) hsu (by omega)
    clear hsu
    refine Goes.step rfl (fun _ h₁ => ?_)
    replace hF := WK.rely hF h₁
    clear h₁
    refine goes_oper_k rfl rfl (by k_ne) (fun K hK => ?_)
    go_simp
    refine hK _ _ ⟨?_, ?_⟩
    · refine dx_none ?_; intro e he; have hm := mem_listed he; simp [go_sem, *] at hm
    clear hK K
    try w_num
    clear hev
    refine Goes.step rfl (fun _ h₁ => ?_)
    replace hF := WK.rely hF h₁
    clear h₁
    obtain ⟨u0, hu1, hu2⟩ := hF.cellC hj
    rw [stepG_store40 rfl rfl (by k_ne) rfl rfl rfl hu1 hu2 loud54]
    simp only [goes_go]
    refine ⟨(hF.store hL hj _).2 _, ?_⟩
    have hE := (hF.store hL hj (.int .u32 (upd 0 bs : Nat))).1
    clear hF hu1 hu2
    exact Goes.mono (tailQ hL hty hK hE) (by omega)
  · -- [1, 0, 2, 3, 4, 5]
    refine Goes.step rfl (fun _ h₁ => ?_)
    replace hF := WK.rely hF h₁
    clear h₁
    refine goes_oper_k rfl rfl (by k_ne) (fun Kx hKx => ?_)
    have hc := hF.cI
    go_simp
    refine hKx _ _ ⟨?_, ?_⟩
    · refine dx_read ?_; intro e he; have hm := mem_listed he; simp [go_sem, *] at hm
      all_goals (subst hm; exact hF.sI.ev _)
    clear hKx Kx hc
    refine Goes.step rfl (fun _ h₁ => ?_)
    replace hF := WK.rely hF h₁
    clear h₁
    refine goes_oper_k rfl rfl (by k_ne) (fun Kx hKx => ?_)
    have hc := hF.cS
    go_simp
    refine hKx _ _ ⟨?_, ?_⟩
    · refine dx_read ?_; intro e he; have hm := mem_listed he; simp [go_sem, *] at hm
      all_goals (subst hm; exact hF.sS.ev _)
    clear hKx Kx hc
    refine Goes.step rfl (fun _ h₁ => ?_)
    replace hF := WK.rely hF h₁
    clear h₁
    refine goes_oper_k rfl rfl (by k_ne) (fun Kx hKx => ?_)
    have hc := hF.cP
    go_simp
    refine hKx _ _ ⟨?_, ?_⟩
    · refine dx_read ?_; intro e he; have hm := mem_listed he; simp [go_sem, *] at hm
      all_goals (subst hm; exact hF.sP.ev _)
    clear hKx Kx hc
    refine Goes.step rfl (fun _ h₁ => ?_)
    replace hF := WK.rely hF h₁
    clear h₁
    refine goes_call rfl rfl (by k_ne) rfl Try.func24 (by rfl) rfl ⟨by refine dx_none ?_; intro e he; simp at he, ?_⟩
    walk_nrmf Try.f24
    refine Goes.mono (hS _ _ _ _ _ _ _ 40 (by omega) (fun g wg hFg => ?_) _ hF) (by omega)
    clear hS hF
    have hF := hFg
    clear hFg
    walk_nrm
    have hev := fun w es => events_indexAt_slice (P := Try.prog) (w := w) (es := es) 87 ⟨L.C, 0, none⟩ L.n L.n .i64 (j : Int) hsu (by omega)
    clear hsu
    refine Goes.step rfl (fun _ h₁ => ?_)
    replace hF := WK.rely hF h₁
    clear h₁
    refine goes_oper_k rfl rfl (by k_ne) (fun K hK => ?_)
    go_simp
    refine hK _ _ ⟨?_, ?_⟩
    · refine dx_none ?_; intro e he; have hm := mem_listed he; simp [go_sem, *] at hm
    clear hK K
    try w_num
    clear hev
    refine Goes.step rfl (fun _ h₁ => ?_)
    replace hF := WK.rely hF h₁
    clear h₁
    obtain ⟨u0, hu1, hu2⟩ := hF.cellC hj
    rw [stepG_store40 rfl rfl (by k_ne) rfl rfl rfl hu1 hu2 loud54]
    simp only [goes_go]
    refine ⟨(hF.store hL hj _).2 _, ?_⟩
    have hE := (hF.store hL hj (.int .u32 (upd 0 bs : Nat))).1
    clear hF hu1 hu2
    exact Goes.mono (tailQ hL hty hK hE) (by omega)
  · -- [1, 2, 0, 3, 4, 5]
    refine Goes.step rfl (fun _ h₁ => ?_)
    replace hF := WK.rely hF h₁
    clear h₁
    refine goes_oper_k rfl rfl (by k_ne) (fun Kx hKx => ?_)
    have hc := hF.cI
    go_simp
    refine hKx _ _ ⟨?_, ?_⟩
    · refine dx_read ?_; intro e he; have hm := mem_listed he; simp [go_sem, *] at hm
      all_goals (subst hm; exact hF.sI.ev _)
    clear hKx Kx hc
    refine Goes.step rfl (fun _ h₁ => ?_)
    replace hF := WK.rely hF h₁
    clear h₁
    refine goes_oper_k rfl rfl (by k_ne) (fun Kx hKx => ?_)
    have hc := hF.cP
    go_simp
    refine hKx _ _ ⟨?_, ?_⟩
    · refine dx_read ?_; intro e he; have hm := mem_listed he; simp [go_sem, *] at hm
      all_goals (subst hm; exact hF.sP.ev _)
    clear hKx Kx hc
    refine Goes.step rfl (fun _ h₁ => ?_)
    replace hF := WK.rely hF h₁
    clear h₁
    refine goes_oper_k rfl rfl (by k_ne) (fun Kx hKx => ?_)
    have hc := hF.cS
    go_simp
    refine hKx _ _ ⟨?_, ?_⟩
    · refine dx_read ?_; intro e he; have hm := mem_listed he; simp [go_sem, *] at hm
      all_goals (subst hm; exact hF.sS.ev _)
    clear hKx Kx hc
    refine Goes.step rfl (fun _ h₁ => ?_)
    replace hF := WK.rely hF h₁
    clear h₁
    refine goes_call rfl rfl (by k_ne) rfl Try.func24 (by rfl) rfl ⟨by refine dx_none ?_; intro e he; simp at he, ?_⟩
    walk_nrmf Try.f24
    refine Goes.mono (hS _ _ _ _ _ _ _ 40 (by omega) (fun g wg hFg => ?_) _ hF) (by omega)
    clear hS hF
    have hF := hFg
    clear hFg
    walk_nrm
    have hev := fun w es => events_indexAt_slice (P := Try.prog) (w := w) (es := es) 87 ⟨L.C, 0, none⟩ L.n L.n .i64 (j : Int) hsu (by omega)
    clear hsu
    refine Goes.step rfl (fun _ h₁ => ?_)
    replace hF := WK.rely hF h₁
    clear h₁
    refine goes_oper_k rfl rfl (by k_ne) (fun K hK => ?_)
    go_simp
    refine hK _ _ ⟨?_, ?_⟩
    · refine dx_none ?_; intro e he; have hm := mem_listed he; simp [go_sem, *] at hm
    clear hK K
    try w_num
    clear hev
    refine Goes.step rfl (fun _ h₁ => ?_)
    replace hF := WK.rely hF h₁
    clear h₁
    obtain ⟨u0, hu1, hu2⟩ := hF.cellC hj
    rw [stepG_store40 rfl rfl (by k_ne) rfl rfl rfl hu1 hu2 loud54]
    simp only [goes_go]
    refine ⟨(hF.store hL hj _).2 _, ?_⟩
    have hE := (hF.store hL hj (.int .u32 (upd 0 bs : Nat))).1
    clear hF hu1 hu2
    exact Goes.mono (tailQ hL hty hK hE) (by omega)
  · -- [1, 2, 3, 0, 4, 5]
    refine Goes.step rfl (fun _ h₁ => ?_)
    replace hF := WK.rely hF h₁
    clear h₁
    refine goes_oper_k rfl rfl (by k_ne) (fun Kx hKx => ?_)
    have hc := hF.cI
    go_simp
    refine hKx _ _ ⟨?_, ?_⟩
    · refine dx_read ?_; intro e he; have hm := mem_listed he; simp [go_sem, *] at hm
      all_goals (subst hm; exact hF.sI.ev _)
    clear hKx Kx hc
    refine Goes.step rfl (fun _ h₁ => ?_)
    replace hF := WK.rely hF h₁
    clear h₁
    refine goes_oper_k rfl rfl (by k_ne) (fun Kx hKx => ?_)
    have hc := hF.cP
    go_simp
    refine hKx _ _ ⟨?_, ?_⟩
    · refine dx_read ?_; intro e he; have hm := mem_listed he; simp [go_sem, *] at hm
      all_goals (subst hm; exact hF.sP.ev _)
    clear hKx Kx hc
    refine Goes.step rfl (fun _ h₁ => ?_)
    replace hF := WK.rely hF h₁
    clear h₁
    refine goes_call rfl rfl (by k_ne) rfl Try.func24 (by rfl) rfl ⟨by refine dx_none ?_; intro e he; simp at he, ?_⟩
    walk_nrmf Try.f24
    refine Goes.mono (hS _ _ _ _ _ _ _ 40 (by omega) (fun g wg hFg => ?_) _ hF) (by omega)
    clear hS hF
    have hF := hFg
    clear hFg
    walk_nrm
    refine Goes.step rfl (fun _ h₁ => ?_)
    replace hF := WK.rely hF h₁
    clear h₁
    refine goes_oper_k rfl rfl (by k_ne) (fun Kx hKx => ?_)
    have hc := hF.cS
    go_simp
    refine hKx _ _ ⟨?_, ?_⟩
    · refine dx_read ?_; intro e he; have hm := mem_listed he; simp [go_sem, *] at hm
      all_goals (subst hm; exact hF.sS.ev _)
    clear hKx Kx hc
    have hev := fun w es => events_indexAt_slice (P := Try.prog) (w := w) (es := es) 87 ⟨L.C, 0, none⟩ L.n L.n .i64 (j : Int) hsu (by omega)
    clear hsu
    refine Goes.step rfl (fun _ h₁ => ?_)
    replace hF := WK.rely hF h₁
    clear h₁
    refine goes_oper_k rfl rfl (by k_ne) (fun K hK => ?_)
    go_simp
    refine hK _ _ ⟨?_, ?_⟩
    · refine dx_none ?_; intro e he; have hm := mem_listed he; simp [go_sem, *] at hm
    clear hK K
    try w_num
    clear hev
    refine Goes.step rfl (fun _ h₁ => ?_)
    replace hF := WK.rely hF h₁
    clear h₁
    obtain ⟨u0, hu1, hu2⟩ := hF.cellC hj
    rw [stepG_store40 rfl rfl (by k_ne) rfl rfl rfl hu1 hu2 loud54]
    simp only [goes_go]
    refine ⟨(hF.store hL hj _).2 _, ?_⟩
    have hE := (hF.store hL hj (.int .u32 (upd 0 bs : Nat))).1
    clear hF hu1 hu2
    exact Goes.mono (tailQ hL hty hK hE) (by omega)
  · -- [2, 0, 1, 3, 4, 5]
    refine Goes.step rfl (fun _ h₁ => ?_)
    replace hF := WK.rely hF h₁
    clear h₁
    refine goes_oper_k rfl rfl (by k_ne) (fun Kx hKx => ?_)
    have hc := hF.cP
    go_simp
    refine hKx _ _ ⟨?_, ?_⟩
    · refine dx_read ?_; intro e he; have hm := mem_listed he; simp [go_sem, *] at hm
      all_goals (subst hm; exact hF.sP.ev _)
    clear hKx Kx hc
    refine Goes.step rfl (fun _ h₁ => ?_)
    replace hF := WK.rely hF h₁
    clear h₁
    refine goes_oper_k rfl rfl (by k_ne) (fun Kx hKx => ?_)
    have hc := hF.cS
    go_simp
    refine hKx _ _ ⟨?_, ?_⟩
    · refine dx_read ?_; intro e he; have hm := mem_listed he; simp [go_sem, *] at hm
      all_goals (subst hm; exact hF.sS.ev _)
    clear hKx Kx hc
    refine Goes.step rfl (fun _ h₁ => ?_)
    replace hF := WK.rely hF h₁
    clear h₁
    refine goes_oper_k rfl rfl (by k_ne) (fun Kx hKx => ?_)
    have hc := hF.cI
    go_simp
    refine hKx _ _ ⟨?_, ?_⟩
    · refine dx_read ?_; intro e he; have hm := mem_listed he; simp [go_sem, *] at hm
      all_goals (subst hm; exact hF.sI.ev _)
    clear hKx Kx hc
    refine Goes.step rfl (fun _ h₁ => ?_)
    replace hF := WK.rely hF h₁
    clear h₁
    refine goes_call rfl rfl (by k_ne) rfl Try.func24 (by rfl) rfl ⟨by refine dx_none ?_; intro e he; simp at he, ?_⟩
    walk_nrmf Try.f24
    refine Goes.mono (hS _ _ _ _ _ _ _ 40 (by omega) (fun g wg hFg => ?_) _ hF) (by omega)
    clear hS hF
    have hF := hFg
    clear hFg
    walk_nrm
    have hev := fun w es => events_indexAt_slice (P := Try.prog) (w := w) (es := es) 87 ⟨L.C, 0, none⟩ L.n L.n .i64 (j : Int) hsu (by omega)
    clear hsu
    refine Goes.step rfl (fun _ h₁ => ?_)
    replace hF := WK.rely hF h₁
    clear h₁
    refine goes_oper_k rfl rfl (by k_ne) (fun K hK => ?_)
    go_simp
    refine hK _ _ ⟨?_, ?_⟩
    · refine dx_none ?_; intro e he; have hm := mem_listed he; simp [go_sem, *] at hm
    clear hK K
    try w_num
    clear hev
    refine Goes.step rfl (fun _ h₁ => ?_)
    replace hF := WK.rely hF h₁
    clear h₁
    obtain ⟨u0, hu1, hu2⟩ := hF.cellC hj
    rw [stepG_store40 rfl rfl (by k_ne) rfl rfl rfl hu1 hu2 loud54]
    simp only [goes_go]
    refine ⟨(hF.store hL hj _).2 _, ?_⟩
    have hE := (hF.store hL hj (.int .u32 (upd 0 bs : Nat))).1
    clear hF hu1 hu2
    exact Goes.mono (tailQ hL hty hK hE) (by omega)
  · -- [2, 0, 3, 1, 4, 5]
    refine Goes.step rfl (fun _ h₁ => ?_)
    replace hF := WK.rely hF h₁
    clear h₁
    refine goes_oper_k rfl rfl (by k_ne) (fun Kx hKx => ?_)
    have hc := hF.cP
    go_simp
    refine hKx _ _ ⟨?_, ?_⟩
    · refine dx_read ?_; intro e he; have hm := mem_listed he; simp [go_sem, *] at hm
      all_goals (subst hm; exact hF.sP.ev _)
    clear hKx Kx hc
    refine Goes.step rfl (fun _ h₁ => ?_)
    replace hF := WK.rely hF h₁
    clear h₁
    refine goes_oper_k rfl rfl (by k_ne) (fun Kx hKx => ?_)
    have hc := hF.cS
    go_simp
    refine hKx _ _ ⟨?_, ?_⟩
    · refine dx_read ?_; intro e he; have hm := mem_listed he; simp [go_sem, *] at hm
      all_goals (subst hm; exact hF.sS.ev _)
    clear hKx Kx hc
    refine Goes.step rfl (fun _ h₁ => ?_)
    replace hF := WK.rely hF h₁
    clear h₁
    refine goes_call rfl rfl (by k_ne) rfl Try.func24 (by rfl) rfl ⟨by refine dx_none ?_; intro e he; simp at he, ?_⟩
    walk_nrmf Try.f24
    refine Goes.mono (hS _ _ _ _ _ _ _ 40 (by omega) (fun g wg hFg => ?_) _ hF) (by omega)
    clear hS hF
    have hF := hFg
    clear hFg
    walk_nrm
    refine Goes.step rfl (fun _ h₁ => ?_)
    replace hF := WK.rely hF h₁
    clear h₁
    refine goes_oper_k rfl rfl (by k_ne) (fun Kx hKx => ?_)
    have hc := hF.cI
    go_simp
    refine hKx _ _ ⟨?_, ?_⟩
    · refine dx_read ?_; intro e he; have hm := mem_listed he; simp [go_sem, *] at hm
      all_goals (subst hm; exact hF.sI.ev _)
    clear hKx Kx hc
    have hev := fun w es => events_indexAt_slice (P := Try.prog) (w := w) (es := es) 87 ⟨L.C, 0, none⟩ L.n L.n .i64 (j : Int) hsu (by omega)
    clear hsu
    refine Goes.step rfl (fun _ h₁ => ?_)
    replace hF := WK.rely hF h₁
    clear h₁
    refine goes_oper_k rfl rfl (by k_ne) (fun K hK => ?_)
    go_simp
    refine hK _ _ ⟨?_, ?_⟩
    · refine dx_none ?_; intro e he; have hm := mem_listed he; simp [go_sem, *] at hm
    clear hK K
    try w_num
    clear hev
    refine Goes.step rfl (fun _ h₁ => ?_)
    replace hF := WK.rely hF h₁
    clear h₁
    obtain ⟨u0, hu1, hu2⟩ := hF.cellC hj
    rw [stepG_store40 rfl rfl (by k_ne) rfl rfl rfl hu1 hu2 loud54]
    simp only [goes_go]
    refine ⟨(hF.store hL hj _).2 _, ?_⟩
    have hE := (hF.store hL hj (.int .u32 (upd 0 bs : Nat))).1
    clear hF hu1 hu2
    exact Goes.mono (tailQ hL hty hK hE) (by omega)
  · -- [2, 1, 0, 3, 4, 5]
    refine Goes.step rfl (fun _ h₁ => ?_)
    replace hF := WK.rely hF h₁
    clear h₁
    refine goes_oper_k rfl rfl (by k_ne) (fun Kx hKx => ?_)
    have hc := hF.cP
    go_simp
    refine hKx _ _ ⟨?_, ?_⟩
    · refine dx_read ?_; intro e he; have hm := mem_listed he; simp [go_sem, *] at hm
      all_goals (subst hm; exact hF.sP.ev _)
    clear hKx Kx hc
    refine Goes.step rfl (fun _ h₁ => ?_)
    replace hF := WK.rely hF h₁
    clear h₁
    refine goes_oper_k rfl rfl (by k_ne) (fun Kx hKx => ?_)
    have hc := hF.cI
    go_simp
    refine hKx _ _ ⟨?_, ?_⟩
    · refine dx_read ?_; intro e he; have hm := mem_listed he; simp [go_sem, *] at hm
      all_goals (subst hm; exact hF.sI.ev _)
    clear hKx Kx hc
    refine Goes.step rfl (fun _ h₁ => ?_)
    replace hF := WK.rely hF h₁
    clear h₁
    refine goes_oper_k rfl rfl (by k_ne) (fun Kx hKx => ?_)
    have hc := hF.cS
    go_simp
    refine hKx _ _ ⟨?_, ?_⟩
    · refine dx_read ?_; intro e he; have hm := mem_listed he; simp [go_sem, *] at hm
      all_goals (subst hm; exact hF.sS.ev _)
    clear hKx Kx hc
    refine Goes.step rfl (fun _ h₁ => ?_)
    replace hF := WK.rely hF h₁
    clear h₁
    refine goes_call rfl rfl (by k_ne) rfl Try.func24 (by rfl) rfl ⟨by refine dx_none ?_; intro e he; simp at he, ?_⟩
    walk_nrmf Try.f24
    refine Goes.mono (hS _ _ _ _ _ _ _ 40 (by omega) (fun g wg hFg => ?_) _ hF) (by omega)
    clear hS hF
    have hF := hFg
    clear hFg
    walk_nrm
    have hev := fun w es => events_indexAt_slice (P := Try.prog) (w := w) (es := es) 87 ⟨L.C, 0, none⟩ L.n L.n .i64 (j : Int) hsu (by omega)
    clear hsu
    refine Goes.step rfl (fun _ h₁ => ?_)
    replace hF := WK.rely hF h₁
    clear h₁
    refine goes_oper_k rfl rfl (by k_ne) (fun K hK => ?_)
    go_simp
    refine hK _ _ ⟨?_, ?_⟩
    · refine dx_none ?_; intro e he; have hm := mem_listed he; simp [go_sem, *] at hm
    clear hK K
    try w_num
    clear hev
    refine Goes.step rfl (fun _ h₁ => ?_)
    replace hF := WK.rely hF h₁
    clear h₁
    obtain ⟨u0, hu1, hu2⟩ := hF.cellC hj
    rw [stepG_store40 rfl rfl (by k_ne) rfl rfl rfl hu1 hu2 loud54]
    simp only [goes_go]
    refine ⟨(hF.store hL hj _).2 _, ?_⟩
    have hE := (hF.store hL hj (.int .u32 (upd 0 bs : Nat))).1
    clear hF hu1 hu2
    exact Goes.mono (tailQ hL hty hK hE) (by omega)
  · -- [2, 1, 3, 0, 4, 5]
    refine Goes.step rfl (fun _ h₁ => ?_)
    replace hF := WK.rely hF h₁
    clear h₁
    refine goes_oper_k rfl rfl (by k_ne) (fun Kx hKx => ?_)
    have hc := hF.cP
    go_simp
    refine hKx _ _ ⟨?_, ?_⟩
    · refine dx_read ?_; intro e he; have hm := mem_listed he; simp [go_sem, *] at hm
      all_goals (subst hm; exact hF.sP.ev _)
    clear hKx Kx hc
    refine Goes.step rfl (fun _ h₁ => ?_)
    replace hF := WK.rely hF h₁
    clear h₁
    refine goes_oper_k rfl rfl (by k_ne) (fun Kx hKx => ?_)
    have hc := hF.cI
    go_simp
    refine hKx _ _ ⟨?_, ?_⟩
    · refine dx_read ?_; intro e he; have hm := mem_listed he; simp [go_sem, *] at hm
      all_goals (subst hm; exact hF.sI.ev _)
    clear hKx Kx hc
    refine Goes.step rfl (fun _ h₁ => ?_)
    replace hF := WK.rely hF h₁
    clear h₁
    refine goes_call rfl rfl (by k_ne) rfl Try.func24 (by rfl) rfl ⟨by refine dx_none ?_; intro e he; simp at he, ?_⟩
    walk_nrmf Try.f24
    refine Goes.mono (hS _ _ _ _ _ _ _ 40 (by omega) (fun g wg hFg => ?_) _ hF) (by omega)
    clear hS hF
    have hF := hFg
    clear hFg
    walk_nrm
    refine Goes.step rfl (fun _ h₁ => ?_)
    replace hF := WK.rely hF h₁
    clear h₁
    refine goes_oper_k rfl rfl (by k_ne) (fun Kx hKx => ?_)
    have hc := hF.cS
    go_simp
    refine hKx _ _ ⟨?_, ?_⟩
    · refine dx_read ?_; intro e he; have hm := mem_listed he; simp [go_sem, *] at hm
      all_goals (subst hm; exact hF.sS.ev _)
    clear hKx Kx hc
    have hev := fun w es => events_indexAt_slice (P := Try.prog) (w := w) (es := es) 87 ⟨L.C, 0, none⟩ L.n L.n .i64 (j : Int) hsu (by omega)
    clear hsu
    refine Goes.step rfl (fun _ h₁ => ?_)
    replace hF := WK.rely hF h₁
    clear h₁
    refine goes_oper_k rfl rfl (by k_ne) (fun K hK => ?_)
    go_simp
    refine hK _ _ ⟨?_, ?_⟩
    · refine dx_none ?_; intro e he; have hm := mem_listed he; simp [go_sem, *] at hm
    clear hK K
    try w_num
    clear hev
    refine Goes.step rfl (fun _ h₁ => ?_)
    replace hF := WK.rely hF h₁
    clear h₁
    obtain ⟨u0, hu1, hu2⟩ := hF.cellC hj
    rw [stepG_store40 rfl rfl (by k_ne) rfl rfl rfl hu1 hu2 loud54]
    simp only [goes_go]
    refine ⟨(hF.store hL hj _).2 _, ?_⟩
    have hE := (hF.store hL hj (.int .u32 (upd 0 bs : Nat))).1
    clear hF hu1 hu2
    exact Goes.mono (tailQ hL hty hK hE) (by omega)
  · -- [2, 3, 0, 1, 4, 5]
    refine Goes.step rfl (fun _ h₁ => ?_)
    replace hF := WK.rely hF h₁
    clear h₁
    refine goes_oper_k rfl rfl (by k_ne) (fun Kx hKx => ?_)
    have hc := hF.cP
    go_simp
    refine hKx _ _ ⟨?_, ?_⟩
    · refine dx_read ?_; intro e he; have hm := mem_listed he; simp [go_sem, *] at hm
      all_goals (subst hm; exact hF.sP.ev _)
    clear hKx Kx hc
    refine Goes.step rfl (fun _ h₁ => ?_)
    replace hF := WK.rely hF h₁
    clear h₁
    refine goes_call rfl rfl (by k_ne) rfl Try.func24 (by rfl) rfl ⟨by refine dx_none ?_; intro e he; simp at he, ?_⟩
    walk_nrmf Try.f24
    refine Goes.mono (hS _ _ _ _ _ _ _ 40 (by omega) (fun g wg hFg => ?_) _ hF) (by omega)
    clear hS hF
    have hF := hFg
    clear hFg
    walk_nrm
    refine Goes.step rfl (fun _ h₁ => ?_)
    replace hF := WK.rely hF h₁
    clear h₁
    refine goes_oper_k rfl rfl (by k_ne) (fun Kx hKx => ?_)
    have hc := hF.cS
    go_simp
    refine hKx _ _ ⟨?_, ?_⟩
    · refine dx_read ?_; intro e he; have hm := mem_listed he; simp [go_sem, *] at hm
      all_goals (subst hm; exact hF.sS.ev _)
    clear hKx Kx hc
    refine Goes.step rfl (fun _ h₁ => ?_)
    replace hF := WK.rely hF h₁
    clear h₁
    refine goes_oper_k rfl rfl (by k_ne) (fun Kx hKx => ?_)
    have hc := hF.cI
    go_simp
    refine hKx _ _ ⟨?_, ?_⟩
    · refine dx_read ?_; intro e he; have hm := mem_listed he; simp [go_sem, *] at hm
      all_goals (subst hm; exact hF.sI.ev _)
    clear hKx Kx hc
    have hev := fun w es => events_indexAt_slice (P := Try.prog) (w := w) (es := es) 87 ⟨L.C, 0, none⟩ L.n L.n .i64 (j : Int) hsu (by omega)
    clear hsu
    refine Goes.step rfl (fun _ h₁ => ?_)
    replace hF := WK.rely hF h₁
    clear h₁
    refine goes_oper_k rfl rfl (by k_ne) (fun K hK => ?_)
    go_simp
    refine hK _ _ ⟨?_, ?_⟩
    · refine dx_none ?_; intro e he; have hm := mem_listed he; simp [go_sem, *] at hm
    clear hK K
    try w_num
    clear hev
    refine Goes.step rfl (fun _ h₁ => ?_)
    replace hF := WK.rely hF h₁
    clear h₁
    obtain ⟨u0, hu1, hu2⟩ := hF.cellC hj
    rw [stepG_store40 rfl rfl (by k_ne) rfl rfl rfl hu1 hu2 loud54]
    simp only [goes_go]
    refine ⟨(hF.store hL hj _).2 _, ?_⟩
    have hE := (hF.store hL hj (.int .u32 (upd 0 bs : Nat))).1
    clear hF hu1 hu2
    exact Goes.mono (tailQ hL hty hK hE) (by omega)
  · -- [2, 3, 1, 0, 4, 5]
    refine Goes.step rfl (fun _ h₁ => ?_)
    replace hF := WK.rely hF h₁
    clear h₁
    refine goes_oper_k rfl rfl (by k_ne) (fun Kx hKx => ?_)
    have hc := hF.cP
    go_simp
    refine hKx _ _ ⟨?_, ?_⟩
    · refine dx_read ?_; intro e he; have hm := mem_listed he; simp [go_sem, *] at hm
      all_goals (subst hm; exact hF.sP.ev _)
    clear hKx Kx hc
    refine Goes.step rfl (fun _ h₁ => ?_)
    replace hF := WK.rely hF h₁
    clear h₁
    refine goes_call rfl rfl (by k_ne) rfl Try.func24 (by rfl) rfl ⟨by refine dx_none ?_; intro e he; simp at he, ?_⟩
    walk_nrmf Try.f24
    refine Goes.mono (hS _ _ _ _ _ _ _ 40 (by omega) (fun g wg hFg => ?_) _ hF) (by omega)
    clear hS hF
    have hF := hFg
    clear hFg
    walk_nrm
    refine Goes.step rfl (fun _ h₁ => ?_)
    replace hF := WK.rely hF h₁
    clear h₁
    refine goes_oper_k rfl rfl (by k_ne) (fun Kx hKx => ?_)
    have hc := hF.cI
    go_simp
    refine hKx _ _ ⟨?_, ?_⟩
    · refine dx_read ?_; intro e he; have hm := mem_listed he; simp [go_sem, *] at hm
      all_goals (subst hm; exact hF.sI.ev _)
    clear hKx Kx hc
    refine Goes.step rfl (fun _ h₁ => ?_)
    replace hF := WK.rely hF h₁
    clear h₁
    refine goes_oper_k rfl rfl (by k_ne) (fun Kx hKx => ?_)
    have hc := hF.cS
    go_simp
    refine hKx _ _ ⟨?_, ?_⟩
    · refine dx_read ?_; intro e he; have hm := mem_listed he; simp [go_sem, *] at hm
      all_goals (subst hm; exact hF.sS.ev _)
    clear hKx Kx hc
    have hev := fun w es => events_indexAt_slice (P := Try.prog) (w := w) (es := es) 87 ⟨L.C, 0, none⟩ L.n L.n .i64 (j : Int) hsu (by omega)
    clear hsu
    refine Goes.step rfl (fun _ h₁ => ?_)
    replace hF := WK.rely hF h₁
    clear h₁
    refine goes_oper_k rfl rfl (by k_ne) (fun K hK => ?_)
    go_simp
    refine hK _ _ ⟨?_, ?_⟩
    · refine dx_none ?_; intro e he; have hm := mem_listed he; simp [go_sem, *] at hm
    clear hK K
    try w_num
    clear hev
    refine Goes.step rfl (fun _ h₁ => ?_)
    replace hF := WK.rely hF h₁
    clear h₁
    obtain ⟨u0, hu1, hu2⟩ := hF.cellC hj
    rw [stepG_store40 rfl rfl (by k_ne) rfl rfl rfl hu1 hu2 loud54]
    simp only [goes_go]
    refine ⟨(hF.store hL hj _).2 _, ?_⟩
    have hE := (hF.store hL hj (.int .u32 (upd 0 bs : Nat))).1
    clear hF hu1 hu2
    exact Goes.mono (tailQ hL hty hK hE) (by omega)
end
end Go.Proofs.Ytoipkpndfgcmcaa.Crew

/-
  The starter's stages under a weaker anchor; the starter's own steps that make memory and write into what is still its own. The conditions stand in each theorem.
-/
namespace Go.Proofs.Ytoipkpndfgcmcaa.Crew
open Go Go.Conc Go.ConcN Go.RowKit Go.Conc.Lib Go.ConcR.Gen Go.ConcN.Gen Go.Proofs.Ytoipkpndfgcmcaa.Veils
open Go.ConcR (KK wgBlock WgAt stA smA rd wr mk Payload DC0)
set_option linter.unusedVariables false
set_option linter.unusedSectionVars false
set_option linter.unusedSimpArgs false
section
variable {P : Program} {L : Lay} {X : Nat → Prop} {vals : List Value} {A A' B B' : Goroutine → World → Prop} {Lw vs : Nat} {g : Goroutine} {w : World}
theorem AtHear.mono (hA : ∀ g w, A g w → A' g w) (h : AtHear P L vals A g w) : AtHear P L vals A' g w := let ⟨h1, g', h2, h3⟩ := h; ⟨h1, g', h2, fun f => ⟨(h3 f).1, hA _ _ (h3 f).2⟩⟩
theorem AtBack.mono (hA : ∀ g w, A g w → A' g w) (h : AtBack P L X vals A Lw g w) : AtBack P L X vals A' Lw g w := let ⟨h1, g', h2, m, h3⟩ := h; ⟨h1, g', h2, m, goes_mono (fun _ _ x => x.mono hA) h3⟩
theorem AtLast.mono (hA : ∀ g w, A g w → A' g w) (h : AtLast P L X vals A Lw g w) : AtLast P L X vals A' Lw g w := ⟨h.1, fun x => let ⟨g', h2, m, h3⟩ := h.2 x; ⟨g', h2, m, goes_mono (fun _ _ x => x.mono hA) h3⟩⟩
theorem AtSem.mono (hA : ∀ g w, A g w → A' g w) (h : AtSem P L X vals A Lw g w) : AtSem P L X vals A' Lw g w := ⟨h.1, h.2.1, h.2.2.1, fun x => let ⟨g', h2, m, h3⟩ := h.2.2.2 x; ⟨g', h2, m, goes_mono (fun _ _ x => x.mono hA) h3⟩⟩
theorem AtSwap.mono (hA : ∀ g w, A g w → A' g w) (hB : ∀ g w, B g w → B' g w) (h : AtSwap P L X vals A B Lw vs g w) : AtSwap P L X vals A' B' Lw vs g w :=
  ⟨h.1, fun v hv hw => ⟨fun e => let ⟨g', h2, m, h3⟩ := (h.2 v hv hw).1 e; ⟨g', h2, m, goes_mono (fun _ _ x => x.mono hA) h3⟩, fun e => let ⟨g', h2, m, h3⟩ := (h.2 v hv hw).2 e; ⟨g', h2, m, goes_mono hB h3⟩⟩⟩
theorem AtLook.mono (hA : ∀ g w, A g w → A' g w) (hB : ∀ g w, B g w → B' g w) (h : AtLook P L X vals A B Lw g w) : AtLook P L X vals A' B' Lw g w :=
  ⟨h.1, fun v hv hw => let ⟨g', h2, h3, h4⟩ := h.2 v hv hw; ⟨g', h2, fun e => let ⟨m, h5⟩ := h3 e; ⟨m, goes_mono (fun _ _ x => x.mono hA) h5⟩, fun e => let ⟨m, h5⟩ := h4 e; ⟨m, goes_mono (fun _ _ x => x.mono hA hB) h5⟩⟩⟩
theorem AtIn.mono (hB : ∀ g w, B g w → B' g w) (h : AtIn P L X B Lw g w) : AtIn P L X B' Lw g w := let ⟨h1, g', h2, m, h3⟩ := h; ⟨h1, g', h2, m, goes_mono hB h3⟩
end
/-- The place of Parts' memory. -/
abbrev lay (N n : Nat) : Lay := ⟨96, N + 2, N, n, N + 3, 99⟩
theorem lay_ok (N n : Nat) : (lay N n).Ok := ⟨by show N + 2 < N + 3; omega, by show N < N + 3; omega, by show N ≠ N + 2; omega⟩
/-- A block of one cell. -/
def One (b : Nat) (t : TypeId) (v : Value) (w : World) : Prop := w.heap[b]? = some (.cells #[v] t)
section
variable {N n : Nat} {X : Nat → Prop} {Lw b : Nat} {t : TypeId} {u v : Value} {w w₁ : World}
theorem One.lt (h : One b t v w) : b < w.heap.size := (Array.getElem?_eq_some_iff.1 h).1
theorem One.nohalf (h : One b t v w) (ht : t ≠ 99) : ¬ Half (lay N n) w b := fun ⟨_, cs, h2⟩ => by
  unfold One at h
  rw [h] at h2
  injection h2 with h2
  injection h2 with _ h3
  exact ht h3
theorem One.cell (h : One b t v w) : w.cell? ⟨b, 0, none⟩ = some v := by simp [World.cell?, show w.heap[b]? = _ from h]
theorem One.frozen (h : One b t v w) : w.frozen? ⟨b, 0, none⟩ = false := by simp [World.frozen?, show w.heap[b]? = _ from h]
theorem One.rely (h : One b t v w) (ht : t ≠ 99) (h1 : b ≠ N) (h2 : b ≠ N + 2) (r : RQ (lay N n) w w₁) : One b t v w₁ := (r.block b h.lt h1 h2 (h.nohalf ht)).trans h
theorem One.alloc (h : One b t v w) (o : Obj) : One b t v (w.alloc o) := (Below.heap_alloc _ _ _ h.lt).trans h
theorem One.new (w : World) (t : TypeId) (v : Value) : One w.heap.size t v (w.alloc (.cells #[v] t)) := heap_alloc_new w _
theorem One.set_ (h : One b t u w) (v : Value) : One b t v (w.setCell ⟨b, 0, none⟩ v) := by
  unfold One at h ⊢
  rw [setCell_eq_setRow w b 0 #[u] t (0, 0) _ h, setRow_heap w b _ _ t _ h]
  simp
theorem One.far {c : Nat} {k : Nat} (h : One b t u w) (hc : b ≠ c) (v : Value) : One b t u (w.setCell ⟨c, k, none⟩ v) := ((aside_setCell w ⟨c, k, none⟩ v).block b hc).trans h
theorem One.ne {c : Nat} {t' : TypeId} (h : One b t u w) (h' : One c t' v w) (ht : t ≠ t') : b ≠ c := fun e => by
  subst e
  unfold One at h h'
  rw [h] at h'
  injection h' with h'
  injection h' with _ h3
  exact ht h3
theorem half_one (h : One b t u w) (ht : t ≠ 99) (v : Value) (r : Nat) : Half (lay N n) (w.setCell ⟨b, 0, none⟩ v) r ↔ Half (lay N n) w r := by
  by_cases e : r = b
  · subst e
    exact ⟨fun x => absurd x ((h.set_ v).nohalf ht), fun x => absurd x (h.nohalf ht)⟩
  · have := (aside_setCell w ⟨b, 0, none⟩ v).block r e
    exact ⟨fun ⟨h1, cs, h2⟩ => ⟨h1, cs, by rw [← this]; exact h2⟩, fun ⟨h1, cs, h2⟩ => ⟨h1, cs, by rw [this]; exact h2⟩⟩
theorem half_alloc_back (w : World) (cs : Array Value) (ht : t ≠ 99) (r : Nat) (h : Half (lay N n) (w.alloc (.cells cs t)) r) : Half (lay N n) w r := by
  obtain ⟨h1, ds, h2⟩ := h
  by_cases e : r < w.heap.size
  · exact ⟨h1, ds, by rw [← Below.heap_alloc w (.cells cs t) r e]; exact h2⟩
  · have hs := (Array.getElem?_eq_some_iff.1 h2).1
    rw [World.size_alloc] at hs
    obtain rfl : r = w.heap.size := by omega
    rw [heap_alloc_new] at h2
    injection h2 with h2
    injection h2 with _ h3
    exact absurd h3 ht
theorem dq_alloc (w : World) (cs : Array Value) (ht : t ≠ 99) {es : Array Event} (h : ∀ e ∈ es, False) : DQ (lay N n) X Lw w (w.alloc (.cells cs t)) es :=
  ⟨rfl, rfl, rfl, by rw [World.size_alloc]; omega, fun b hb _ => Below.heap_alloc _ _ _ hb, half_alloc_back w cs ht, fun e he => (h e he).elim⟩
theorem dq_set (h : One b t u w) (ht : t ≠ 99) (hb : N + 3 ≤ b) (hl : Lw ≤ b) (hX : ∀ r, X r → r < N + 3) (v : Value) : DQ (lay N n) X Lw w (w.setCell ⟨b, 0, none⟩ v) #[⟨.cell ⟨b, 0, none⟩, true, false⟩] := by
  have hA := aside_setCell w ⟨b, 0, none⟩ v
  refine ⟨hA.tape, hA.os, hA.output, Nat.le_of_eq hA.size.symm, fun r _ hr => hA.block r ?_, fun r => (half_one h ht v r).1, fun e he => ?_⟩
  · intro e
    have e' : r = b := e
    subst e'
    rcases hr with hr | hr
    · omega
    · exact h.nohalf ht hr
  · rw [Array.mem_singleton] at he
    subst he
    exact .inl ⟨_, true, rfl, fun x => by have := hX _ x; show False; have hb' : N + 3 ≤ b := hb; have : b < N + 3 := this; omega, by show b ≠ N; omega, h.nohalf ht, by rw [hA.size]; exact h.lt, fun _ => hl⟩
theorem dq_read {es : Array Event} (h : ∀ e ∈ es, EvQ (lay N n) X Lw w w e) : DQ (lay N n) X Lw w w es := ⟨rfl, rfl, rfl, Nat.le_refl _, fun _ _ _ => rfl, fun _ h => h, h⟩
theorem live_alloc {ty : TypeId} {Wg : Nat} (h : WgLive ty Wg w) (o : Obj) : WgLive ty Wg (w.alloc o) := by
  obtain ⟨st, sm, hl⟩ := h
  exact ⟨st, sm, hl.of_block (Below.heap_alloc _ _ _ (Array.getElem?_eq_some_iff.1 hl).1)⟩
theorem live_set {ty : TypeId} {Wg : Nat} (h : WgLive ty Wg w) (hb : Wg ≠ b) (v : Value) : WgLive ty Wg (w.setCell ⟨b, 0, none⟩ v) := by
  obtain ⟨st, sm, hl⟩ := h
  exact ⟨st, sm, hl.of_block ((aside_setCell w ⟨b, 0, none⟩ v).block Wg hb)⟩
end
end Go.Proofs.Ytoipkpndfgcmcaa.Crew

/-
  The starter in Parts: the loop that starts the workers, into Wait. The conditions stand in each theorem.
-/
namespace Go.Proofs.Ytoipkpndfgcmcaa.Crew
open Go Go.Conc Go.ConcN Go.RowKit Go.Conc.Lib Go.ConcR.Gen Go.ConcN.Gen Go.Proofs.Ytoipkpndfgcmcaa.Veils
open Go.ConcR (KK wgBlock WgAt stA smA rd wr mk Payload DC0)
set_option linter.unusedVariables false
set_option linter.unusedSectionVars false
set_option linter.unusedSimpArgs false
/-- What Parts is handed. -/
structure Args (W : World) (N : Nat) (X : Nat → Prop) (a0 : Option Addr) (n : Nat) (ps : List (List UInt8)) (sl : Nat → Option Addr × Nat) : Prop where
  len : ps.length = n
  cells : 0 < n → ∃ g off, a0 = some ⟨g, off, none⟩ ∧ g < N ∧ ¬ X g ∧ ∀ j, j < n → W.cell? ⟨g, off + j, none⟩ = some (.slice (sl j).1 (ps.getD j []).length (sl j).2)
  bytes : ∀ j, j < n → 0 < (ps.getD j []).length → ∃ g off, (sl j).1 = some ⟨g, off, none⟩ ∧ g < N ∧ ¬ X g ∧ ∀ k u, ((ps.getD j []).map bv)[k]? = some u → W.cell? ⟨g, off + k, none⟩ = some u
/-- What the starter knows. -/
structure SF (W : World) (N n : Nat) (w : World) : Prop where
  below : Below N W w
  n0 : N + 3 ≤ w.heap.size
  sums : One (N + 1) 87 (.slice (some ⟨N, 0, none⟩) n n) w
  live : WgLive 96 (N + 2) w
/-- .. within a round: its new blocks. -/
structure SI (W : World) (N n Lw : Nat) (cs : List (Nat × TypeId × Value)) (w : World) : Prop where
  sf : SF W N n w
  lw : N + 3 ≤ Lw ∧ Lw ≤ w.heap.size
  live : WgLive 96 (N + 2) w
  at_ : ∀ x ∈ cs, Lw ≤ x.1 ∧ x.2.1 ≠ 99 ∧ One x.1 x.2.1 x.2.2 w
section
variable {W : World} {N n Lw : Nat} {cs : List (Nat × TypeId × Value)} {w w₁ : World}
theorem SF.rely (h : SF W N n w) (r : RQ (lay N n) w w₁) : SF W N n w₁ := by
  have hs := h.n0
  refine ⟨⟨r.os.trans h.below.os, r.tape.trans h.below.tape, r.out.trans h.below.output, Nat.le_trans h.below.size r.size, fun k hk => (r.block k (by omega) (by show k ≠ N; omega) (by show k ≠ N + 2; omega) (fun x => by have : N + 3 ≤ k := x.1; omega)).trans (h.below.block k hk)⟩, Nat.le_trans hs r.size, h.sums.rely (by decide) (by omega) (by omega) r, r.live h.live⟩
theorem SI.rely (h : SI W N n Lw cs w) (r : RQ (lay N n) w w₁) : SI W N n Lw cs w₁ :=
  ⟨h.sf.rely r, ⟨h.lw.1, Nat.le_trans h.lw.2 r.size⟩, r.live h.live, fun x hx => let ⟨h1, h2, h3⟩ := h.at_ x hx; ⟨h1, h2, h3.rely h2 (by have := h.lw.1; omega) (by have := h.lw.1; omega) r⟩⟩
theorem SF.alloc (h : SF W N n w) (o : Obj) : SF W N n (w.alloc o) := ⟨h.below.alloc (by have := h.n0; omega) _, by rw [World.size_alloc]; have := h.n0; omega, h.sums.alloc o, live_alloc h.live o⟩
theorem SI.alloc (h : SI W N n Lw cs w) {t : TypeId} (ht : t ≠ 99) (v : Value) : SI W N n Lw ((w.heap.size, t, v) :: cs) (w.alloc (.cells #[v] t)) := by
  refine ⟨h.sf.alloc _, ⟨h.lw.1, by rw [World.size_alloc]; have := h.lw.2; omega⟩, live_alloc h.live _, fun x hx => ?_⟩
  rcases List.mem_cons.1 hx with rfl | hx
  · exact ⟨h.lw.2, ht, One.new w t v⟩
  · obtain ⟨h1, h2, h3⟩ := h.at_ x hx
    exact ⟨h1, h2, h3.alloc _⟩
theorem SF.set_ (h : SF W N n w) {b : Nat} (hb : N + 3 ≤ b) (v : Value) : SF W N n (w.setCell ⟨b, 0, none⟩ v) := by
  have hA := aside_setCell w ⟨b, 0, none⟩ v
  exact ⟨⟨hA.os.trans h.below.os, hA.tape.trans h.below.tape, hA.output.trans h.below.output, by rw [hA.size]; exact h.below.size, fun k hk => (hA.block k (by show k ≠ b; omega)).trans (h.below.block k hk)⟩, by rw [hA.size]; exact h.n0, h.sums.far (by omega) v, live_set h.live (by omega) v⟩
theorem SI.setI {bP bI : Nat} {vP u : Value} (h : SI W N n Lw [(bP, 29, vP), (bI, 3, u)] w) (v : Value) : SI W N n Lw [(bP, 29, vP), (bI, 3, v)] (w.setCell ⟨bI, 0, none⟩ v) := by
  obtain ⟨a1, a2, a3⟩ := h.at_ (bP, 29, vP) (by simp)
  obtain ⟨b1, b2, b3⟩ := h.at_ (bI, 3, u) (by simp)
  have hw := h.lw.1
  refine ⟨h.sf.set_ (by omega) v, ⟨hw, by rw [(aside_setCell w ⟨bI, 0, none⟩ v).size]; exact h.lw.2⟩, live_set h.live (by omega) v, fun x hx => ?_⟩
  simp only [List.mem_cons, List.not_mem_nil, or_false] at hx
  rcases hx with rfl | rfl
  · exact ⟨a1, a2, One.far a3 (One.ne a3 b3 (show (29 : Nat) ≠ 3 by decide)) v⟩
  · exact ⟨b1, b2, One.set_ b3 v⟩
theorem SI.setP {bP bI : Nat} {vI u : Value} (h : SI W N n Lw [(bP, 29, u), (bI, 3, vI)] w) (v : Value) : SI W N n Lw [(bP, 29, v), (bI, 3, vI)] (w.setCell ⟨bP, 0, none⟩ v) := by
  obtain ⟨a1, a2, a3⟩ := h.at_ (bP, 29, u) (by simp)
  obtain ⟨b1, b2, b3⟩ := h.at_ (bI, 3, vI) (by simp)
  have hw := h.lw.1
  refine ⟨h.sf.set_ (by omega) v, ⟨hw, by rw [(aside_setCell w ⟨bP, 0, none⟩ v).size]; exact h.lw.2⟩, live_set h.live (by omega) v, fun x hx => ?_⟩
  simp only [List.mem_cons, List.not_mem_nil, or_false] at hx
  rcases hx with rfl | rfl
  · exact ⟨a1, a2, One.set_ a3 v⟩
  · exact ⟨b1, b2, One.far b3 (One.ne b3 a3 (show (3 : Nat) ≠ 29 by decide)) v⟩
end
section
variable {main : Bool} {b : Frame} {a : Act} {kk : List Item} {cs : List Frame} {w : World} {ops : Array Oper} {i : Nat} {rest : List Nat} {o : Oper}
theorem stepG_store3 {x y : Operand} (ho : ops[i]? = some o) (hw : Region.wanted o (yielded ops a.tmps) = true) (hk : b.kind ≠ .early) (hop : o.op = .store 3 x y)
    {ad : Addr} {v : Int} {u : Value} (hx : a.eval x = .pointer (some ad)) (hy : a.eval y = .int .i64 v) (hc : w.cell? ad = some u) (hz : w.frozen? ad = false) (hq : (Try.prog.funcs[b.fn]?).any (·.norace) = false) :
    stepG Try.prog main (G (b.at a (.inRegion ops (i :: rest) :: kk)) cs) w = .go (G (b.at (a.put o.dst undef) (.inRegion ops rest :: kk)) cs) (w.setCell ad (.int .i64 v)) #[⟨.cell ad, true, false⟩] := by
  have hr : (execOp a.eval o).run Try.prog w = .ok .skip (w.setCell ad (.int .i64 v)) := by
    unfold execOp
    simp only [hop, hx, hy]
    simp [go_sem, stored, hc, hz]
  have he : (execOp a.eval o).events Try.prog w #[] = #[⟨.cell ad, true, false⟩] := by
    unfold execOp
    simp only [hop, hx, hy]
    simp [go_sem, storedEv, hc, hz]
  rw [stepG_none ho hw hk hr]
  unfold listed
  rw [he, seen_eq hq (by simp)]
theorem stepG_store29 {x y : Operand} (ho : ops[i]? = some o) (hw : Region.wanted o (yielded ops a.tmps) = true) (hk : b.kind ≠ .early) (hop : o.op = .store 29 x y)
    {ad : Addr} {A : Option Addr} {m c : Nat} {u : Value} (hx : a.eval x = .pointer (some ad)) (hy : a.eval y = .slice A m c) (hc : w.cell? ad = some u) (hz : w.frozen? ad = false) (hq : (Try.prog.funcs[b.fn]?).any (·.norace) = false) :
    stepG Try.prog main (G (b.at a (.inRegion ops (i :: rest) :: kk)) cs) w = .go (G (b.at (a.put o.dst undef) (.inRegion ops rest :: kk)) cs) (w.setCell ad (.slice A m c)) #[⟨.cell ad, true, false⟩] := by
  have hr : (execOp a.eval o).run Try.prog w = .ok .skip (w.setCell ad (.slice A m c)) := by
    unfold execOp
    simp only [hop, hx, hy]
    simp [go_sem, stored, hc, hz]
  have he : (execOp a.eval o).events Try.prog w #[] = #[⟨.cell ad, true, false⟩] := by
    have hs := events_store Try.prog w #[] ad (.slice A m c) .plain rfl
    unfold execOp
    simp only [hop, hx, hy]
    simp [go_sem, hs, storedEv, hc, hz]
  rw [stepG_none ho hw hk hr]
  unfold listed
  rw [he, seen_eq hq (by simp)]
theorem loud38 : (Try.prog.funcs[(base 38).fn]?).any (·.norace) = false := by kernel_rfl
end
/-! the places of Parts' text -/
def seqHead : Code → Code
  | .seq x _ => x
  | c => c
def blockOf : Code → Code
  | .block _ c => c
  | c => c
def loopOf : Code → Code
  | .loop c => c
  | c => c
def seqTails : Nat → Code → Code
  | 0, c => c
  | k + 1, c => seqTails k (seqTail c)
/-- The body of the loop that starts the workers, and what stands behind that loop. -/
def L38of (c : Code) : Code := loopOf (blockOf (seqTail (seqHead (seqTails 3 c))))
def R38of (c : Code) : Code := seqTails 4 c
theorem array44 (T : Array Value) (h : T.size = 44) : ∃ v0 v1 v2 v3 v4 v5 v6 v7 v8 v9 v10 v11 v12 v13 v14 v15 v16 v17 v18 v19 v20 v21 v22 v23 v24 v25 v26 v27 v28 v29 v30 v31 v32 v33 v34 v35 v36 v37 v38 v39 v40 v41 v42 v43 : Value, T = #[v0, v1, v2, v3, v4, v5, v6, v7, v8, v9, v10, v11, v12, v13, v14, v15, v16, v17, v18, v19, v20, v21, v22, v23, v24, v25, v26, v27, v28, v29, v30, v31, v32, v33, v34, v35, v36, v37, v38, v39, v40, v41, v42, v43] := by
  obtain ⟨l⟩ := T
  simp only [List.size_toArray] at h
  rcases l with _ | ⟨v0, l⟩
  · simp at h
  rcases l with _ | ⟨v1, l⟩
  · simp at h
  rcases l with _ | ⟨v2, l⟩
  · simp at h
  rcases l with _ | ⟨v3, l⟩
  · simp at h
  rcases l with _ | ⟨v4, l⟩
  · simp at h
  rcases l with _ | ⟨v5, l⟩
  · simp at h
  rcases l with _ | ⟨v6, l⟩
  · simp at h
  rcases l with _ | ⟨v7, l⟩
  · simp at h
  rcases l with _ | ⟨v8, l⟩
  · simp at h
  rcases l with _ | ⟨v9, l⟩
  · simp at h
  rcases l with _ | ⟨v10, l⟩
  · simp at h
  rcases l with _ | ⟨v11, l⟩
  · simp at h
  rcases l with _ | ⟨v12, l⟩
  · simp at h
  rcases l with _ | ⟨v13, l⟩
  · simp at h
  rcases l with _ | ⟨v14, l⟩
  · simp at h
  rcases l with _ | ⟨v15, l⟩
  · simp at h
  rcases l with _ | ⟨v16, l⟩
  · simp at h
  rcases l with _ | ⟨v17, l⟩
  · simp at h
  rcases l with _ | ⟨v18, l⟩
  · simp at h
  rcases l with _ | ⟨v19, l⟩
  · simp at h
  rcases l with _ | ⟨v20, l⟩
  · simp at h
  rcases l with _ | ⟨v21, l⟩
  · simp at h
  rcases l with _ | ⟨v22, l⟩
  · simp at h
  rcases l with _ | ⟨v23, l⟩
  · simp at h
  rcases l with _ | ⟨v24, l⟩
  · simp at h
  rcases l with _ | ⟨v25, l⟩
  · simp at h
  rcases l with _ | ⟨v26, l⟩
  · simp at h
  rcases l with _ | ⟨v27, l⟩
  · simp at h
  rcases l with _ | ⟨v28, l⟩
  · simp at h
  rcases l with _ | ⟨v29, l⟩
  · simp at h
  rcases l with _ | ⟨v30, l⟩
  · simp at h
  rcases l with _ | ⟨v31, l⟩
  · simp at h
  rcases l with _ | ⟨v32, l⟩
  · simp at h
  rcases l with _ | ⟨v33, l⟩
  · simp at h
  rcases l with _ | ⟨v34, l⟩
  · simp at h
  rcases l with _ | ⟨v35, l⟩
  · simp at h
  rcases l with _ | ⟨v36, l⟩
  · simp at h
  rcases l with _ | ⟨v37, l⟩
  · simp at h
  rcases l with _ | ⟨v38, l⟩
  · simp at h
  rcases l with _ | ⟨v39, l⟩
  · simp at h
  rcases l with _ | ⟨v40, l⟩
  · simp at h
  rcases l with _ | ⟨v41, l⟩
  · simp at h
  rcases l with _ | ⟨v42, l⟩
  · simp at h
  rcases l with _ | ⟨v43, l⟩
  · simp at h
  rcases l with _ | ⟨x, l⟩
  · exact ⟨v0, v1, v2, v3, v4, v5, v6, v7, v8, v9, v10, v11, v12, v13, v14, v15, v16, v17, v18, v19, v20, v21, v22, v23, v24, v25, v26, v27, v28, v29, v30, v31, v32, v33, v34, v35, v36, v37, v38, v39, v40, v41, v42, v43, rfl⟩
  · simp at h
section
variable (W : World) (N n : Nat) (a0 : Option Addr) (cap : Nat) (cs : List Frame) (X : Nat → Prop) (vals : List Value)
/-- The head of the loop that starts the workers. -/
def HeadS (j : Nat) (g : Goroutine) : Prop :=
  ∃ T : Array Value, g = G ((base 38).at ⟨T, []⟩ [.code (L38of (bodyOf Try.f38)), .inLoop (L38of (bodyOf Try.f38)), .inBlock 0, .code (R38of (bodyOf Try.f38))]) cs ∧ T.size = 44 ∧ T[0]? = some (.slice a0 n cap) ∧ T[3]? = some (.pointer (some ⟨N + 1, 0, none⟩)) ∧ T[4]? = some (.pointer (some ⟨N + 2, 0, none⟩)) ∧
    T[13]? = some (.slice a0 n cap) ∧ T[14]? = some (.int .i64 n) ∧ T[15]? = some (.int .i64 j)
/-- The frame below Wait. -/
def WaitT (T : Array Value) : Prop := T.size = 44 ∧ T[0]? = some (.slice a0 n cap) ∧ T[3]? = some (.pointer (some ⟨N + 1, 0, none⟩))
def cW (c : Code) (T : Array Value) : Frame := (base 38).at ⟨T, []⟩ (.inRegion (opsOf (seqHead (R38of c))) (0 :: []) :: [.code (seqTail (R38of c))])
def AnW (g : Goroutine) (w : World) : Prop := ∃ T, WaitT N n a0 cap T ∧ AnchQ link (SF W N n) (lay N n) (cW (bodyOf Try.f38) T) cs g w
/-- Back from Wait. -/
def BackP (g : Goroutine) : Prop := ∃ T, WaitT N n a0 cap T ∧ g = G ((base 38).at ((⟨T, []⟩ : Act).put (((opsOf (seqHead (R38of (bodyOf Try.f38))))[0]?).bind (·.dst)) (.tuple #[])) (.inRegion (opsOf (seqHead (R38of (bodyOf Try.f38)))) [] :: [.code (seqTail (R38of (bodyOf Try.f38)))])) cs
def AnE (g : Goroutine) (w : World) : Prop := ∃ n', Goes Try.prog true AtRel (DF X) (fun g w => BackP N n a0 cap cs g ∧ SF W N n w ∧ Full N vals w) n' g w
end
def valP (ps : List (List UInt8)) (j : Nat) : Value := .int .u32 (upd 0 (ps.getD j []) : Nat)
section
variable {W : World} {N n cap : Nat} {a0 : Option Addr} {cs : List Frame} {X : Nat → Prop} {vals : List Value} {Lw : Nat}
theorem sf2 : ∀ w w', RQ (lay N n) w w' → SF W N n w → SF W N n w' := fun _ _ r h => h.rely r
theorem anW_runs (g : Goroutine) (w : World) (h : AnW W N n a0 cap cs g w) : g.status = .running := by
  obtain ⟨T, _, T', rfl, _⟩ := h
  rfl
/-- From the head of Wait's loop. -/
theorem anW_round (g : Goroutine) (w : World) (h : AnW W N n a0 cap cs g w) : ∃ m, GQ Try.prog (lay N n) X Lw (AtLook Try.prog (lay N n) X vals (AnE W N n a0 cap cs X vals) (AnW W N n a0 cap cs) Lw) m g w := by
  obtain ⟨T, hT, hA⟩ := h
  obtain ⟨m, hm⟩ := waitRoundQ (P := Try.prog) (lk := link) (L := lay N n) (X := X) (Lw := Lw) (vals := vals) (F := SF W N n) wgLib (lay_ok N n) sf2 g w hA
  exact ⟨m, goes_mono (fun _ _ x => x.mono (fun g w ⟨k, hk⟩ => ⟨k, goes_mono (fun _ _ y => ⟨⟨T, hT, y.1⟩, y.2⟩) hk⟩) (fun _ _ z => ⟨T, hT, z⟩)) hm⟩
end
end Go.Proofs.Ytoipkpndfgcmcaa.Crew

/-
  The starter in Parts: the loop that starts the workers, by induction. The conditions stand in each theorem.
-/
namespace Go.Proofs.Ytoipkpndfgcmcaa.Crew
open Go Go.Conc Go.ConcN Go.RowKit Go.Conc.Lib Go.ConcR.Gen Go.ConcN.Gen Go.Proofs.Ytoipkpndfgcmcaa.Veils
open Go.ConcR (KK wgBlock WgAt stA smA rd wr mk Payload DC0)
set_option linter.unusedVariables false
set_option linter.unusedSectionVars false
set_option linter.unusedSimpArgs false
section
variable (W : World) (N n : Nat) (a0 : Option Addr) (cap : Nat) (cs : List Frame) (X : Nat → Prop) (M K : Nat) (ps : List (List UInt8))
/-- The next stop, r workers being still to be started. -/
def StopS (Lw : Nat) : Nat → Goroutine → World → Prop
  | 0 => AtIn Try.prog (lay N n) X (AnW W N n a0 cap cs) Lw
  | r + 1 => AtOff Try.prog (lay N n) X M K (valP ps) Lw (n - (r + 1)) (Starts Try.prog (lay N n) X M K (valP ps) (Fin0 Try.prog (lay N n) X (AnW W N n a0 cap cs)) r)
theorem starts_of {Lw r m : Nat} {g : Goroutine} {w : World} (h : GQ Try.prog (lay N n) X Lw (StopS W N n a0 cap cs X M K ps Lw r) m g w) : Starts Try.prog (lay N n) X M K (valP ps) (Fin0 Try.prog (lay N n) X (AnW W N n a0 cap cs)) r Lw g w := by
  cases r with
  | zero => exact ⟨m, h⟩
  | succ r => exact ⟨m, h⟩
end
theorem loud53 : (Try.prog.funcs[(base 53).fn]?).any (·.norace) = true := by kernel_rfl
section
variable {W : World} {N n cap : Nat} {a0 : Option Addr} {cs : List Frame} {X : Nat → Prop} {M K q Bm : Nat} {ps : List (List UInt8)} {sl : Nat → Option Addr × Nat}
set_option maxRecDepth 100000 in
set_option maxHeartbeats 8000000 in
/-- From the loop's head: j started, r to start. -/
theorem startsFrom (hq : TakeQ Bm q) (hK : 24 ≤ K) (hM : 60 + q ≤ M) (hX : ∀ r, X r → r < N + 3) (hXN : ¬ X (N + 1)) (ha : Args W N X a0 n ps sl) (hB : ∀ j, j < n → (ps.getD j []).length ≤ Bm) (hn : n < 2147483648) :
    ∀ (r j : Nat), j + r = n → ∀ (Lw : Nat) (g : Goroutine) (w : World), HeadS N n a0 cap cs j g → SI W N n Lw [] w → GQ Try.prog (lay N n) X Lw (StopS W N n a0 cap cs X M K ps Lw r) 60 g w := by
  intro r
  induction r with
  | zero =>
    intro j hj Lw g w hH hF
    obtain rfl : j = n := by omega
    obtain ⟨T, rfl, hT, t0, t3, t4, t13, t14, t15⟩ := hH
    obtain ⟨v0, v1, v2, v3, v4, v5, v6, v7, v8, v9, v10, v11, v12, v13, v14, v15, v16, v17, v18, v19, v20, v21, v22, v23, v24, v25, v26, v27, v28, v29, v30, v31, v32, v33, v34, v35, v36, v37, v38, v39, v40, v41, v42, v43, rfl⟩ := array44 T hT
    simp only [List.getElem?_toArray, List.getElem?_cons_succ, List.getElem?_cons_zero, Option.some.injEq] at t0 t3 t4 t13 t14 t15
    subst t0 t3 t4 t13 t14 t15
    have hA := fun (a₀ : Act) (ops₀ : Array Oper) (i₀ : Nat) (rest₀ : List Nat) (k₀ : List Item) (w : World) => waitInQ (P := Try.prog) (lk := link) (L := lay N j) (X := X) (Lw := Lw) (F := SF W N j) (b₀ := base 38) (a₀ := a₀) (ops₀ := ops₀) (i₀ := i₀) (rest₀ := rest₀) (k₀ := k₀) (cs := cs) wgLib (lay_ok N j) sf2 w
    simp only [GQ, StopS, L38of, R38of, seqTails, seqTail, seqHead, blockOf, loopOf, bodyOf, body_wait, Try.f38, waitFn, Option.getD_some] at hA ⊢
    have hnl : ¬ ((j : Int) < (j : Int)) := by omega
    refine Goes.step rfl (fun _ h₁ => ?_)
    replace hF := SI.rely hF h₁
    clear h₁
    rw [stepG_seq]
    simp only [goes_go]
    refine ⟨by refine dq_none ?_; intro e he; simp at he, ?_⟩
    refine Goes.step rfl (fun _ h₁ => ?_)
    replace hF := SI.rely hF h₁
    clear h₁
    rw [stepG_region]
    simp only [goes_go, List.size_toArray, List.length_cons, List.length_nil, Nat.reduceAdd, Nat.zero_add, List.range, List.range.loop]
    refine ⟨by refine dq_none ?_; intro e he; simp at he, ?_⟩
    refine Goes.step rfl (fun _ h₁ => ?_)
    replace hF := SI.rely hF h₁
    clear h₁
    refine goes_oper_k rfl rfl (by k_ne) (fun K hK => ?_)
    go_simp
    refine hK _ _ ⟨?_, ?_⟩
    · refine dq_none ?_; intro e he; have hm := mem_listed he; simp [go_sem, *] at hm
    clear hK K
    try w_num
    refine Goes.step rfl (fun _ h₁ => ?_)
    replace hF := SI.rely hF h₁
    clear h₁
    rw [stepG_region_end]
    simp only [goes_go]
    refine ⟨by refine dq_none ?_; intro e he; simp at he, ?_⟩
    refine Goes.step rfl (fun _ h₁ => ?_)
    replace hF := SI.rely hF h₁
    clear h₁
    rw [stepG_seq]
    simp only [goes_go]
    refine ⟨by refine dq_none ?_; intro e he; simp at he, ?_⟩
    refine Goes.step rfl (fun _ h₁ => ?_)
    replace hF := SI.rely hF h₁
    clear h₁
    rw [stepG_cond (t := false) (by first | rfl | (simp [Act.eval]; omega))]
    simp only [goes_go, if_true, if_false, Bool.false_eq_true, ↓reduceIte]
    refine ⟨by refine dq_none ?_; intro e he; simp at he, ?_⟩
    refine Goes.step rfl (fun _ h₁ => ?_)
    replace hF := SI.rely hF h₁
    clear h₁
    refine goes_exit rfl ?_
    refine ⟨by refine dq_none ?_; intro e he; simp at he, ?_⟩
    refine Goes.step rfl (fun _ h₁ => ?_)
    replace hF := SI.rely hF h₁
    clear h₁
    rw [stepG_seq]
    simp only [goes_go]
    refine ⟨by refine dq_none ?_; intro e he; simp at he, ?_⟩
    refine Goes.step rfl (fun _ h₁ => ?_)
    replace hF := SI.rely hF h₁
    clear h₁
    rw [stepG_region]
    simp only [goes_go, List.size_toArray, List.length_cons, List.length_nil, Nat.reduceAdd, Nat.zero_add, List.range, List.range.loop]
    refine ⟨by refine dq_none ?_; intro e he; simp at he, ?_⟩
    refine Goes.step rfl (fun _ h₁ => ?_)
    replace hF := SI.rely hF h₁
    clear h₁
    refine goes_call rfl rfl (by k_ne) rfl wgLib.f_wait (nm_wait link) rfl ⟨by refine dq_none ?_; intro e he; simp at he, ?_⟩
    walk_nrmf waitFn
    refine Goes.mono (goes_mono (fun _ _ y => AtIn.mono (fun _ _ z => ⟨_, ⟨?_, ?_, ?_⟩, z⟩) y) (hA _ _ _ _ _ _ ⟨hF.sf, hF.live⟩)) (by omega)
    · simp
    · simp
    · simp
  | succ r ih =>
    intro j hj Lw g w hH hF
    obtain ⟨T, rfl, hT, t0, t3, t4, t13, t14, t15⟩ := hH
    obtain ⟨v0, v1, v2, v3, v4, v5, v6, v7, v8, v9, v10, v11, v12, v13, v14, v15, v16, v17, v18, v19, v20, v21, v22, v23, v24, v25, v26, v27, v28, v29, v30, v31, v32, v33, v34, v35, v36, v37, v38, v39, v40, v41, v42, v43, rfl⟩ := array44 T hT
    simp only [List.getElem?_toArray, List.getElem?_cons_succ, List.getElem?_cons_zero, Option.some.injEq] at t0 t3 t4 t13 t14 t15
    subst t0 t3 t4 t13 t14 t15
    have ej : n - (r + 1) = j := by omega
    have hjn : j < n := by omega
    have hlt : (j : Int) < (n : Int) := by omega
    obtain ⟨ga, off, rfl, hga, hXa, hcell⟩ := ha.cells (by omega)
    obtain ⟨Aj, hAj⟩ : ∃ Aj, (sl j).1 = Aj := ⟨_, rfl⟩
    obtain ⟨cj, hcj⟩ : ∃ cj, (sl j).2 = cj := ⟨_, rfl⟩
    obtain ⟨mj, hmj⟩ : ∃ mj, (ps.getD j []).length = mj := ⟨_, rfl⟩
    have hcj0 := hcell j hjn
    rw [hAj, hcj, hmj] at hcj0
    simp only [GQ, StopS, L38of, R38of, seqTails, seqTail, seqHead, blockOf, loopOf, bodyOf, body_add, Try.f38, addFn, Option.getD_some, ej]
    have hsu : Try.prog.underlying 62 = some (.slice (Try.prog.elem 62)) := by kernel_rfl
    refine Goes.step rfl (fun _ h₁ => ?_)
    replace hF := SI.rely hF h₁
    clear h₁
    rw [stepG_seq]
    simp only [goes_go]
    refine ⟨by refine dq_none ?_; intro e he; simp at he, ?_⟩
    refine Goes.step rfl (fun _ h₁ => ?_)
    replace hF := SI.rely hF h₁
    clear h₁
    rw [stepG_region]
    simp only [goes_go, List.size_toArray, List.length_cons, List.length_nil, Nat.reduceAdd, Nat.zero_add, List.range, List.range.loop]
    refine ⟨by refine dq_none ?_; intro e he; simp at he, ?_⟩
    refine Goes.step rfl (fun _ h₁ => ?_)
    replace hF := SI.rely hF h₁
    clear h₁
    refine goes_oper_k rfl rfl (by k_ne) (fun K hK => ?_)
    go_simp
    refine hK _ _ ⟨?_, ?_⟩
    · refine dq_none ?_; intro e he; have hm := mem_listed he; simp [go_sem, *] at hm
    clear hK K
    try w_num
    refine Goes.step rfl (fun _ h₁ => ?_)
    replace hF := SI.rely hF h₁
    clear h₁
    rw [stepG_region_end]
    simp only [goes_go]
    refine ⟨by refine dq_none ?_; intro e he; simp at he, ?_⟩
    refine Goes.step rfl (fun _ h₁ => ?_)
    replace hF := SI.rely hF h₁
    clear h₁
    rw [stepG_seq]
    simp only [goes_go]
    refine ⟨by refine dq_none ?_; intro e he; simp at he, ?_⟩
    refine Goes.step rfl (fun _ h₁ => ?_)
    replace hF := SI.rely hF h₁
    clear h₁
    rw [stepG_cond (t := true) (by first | rfl | (simp [Act.eval]; omega))]
    simp only [goes_go, if_true, if_false, Bool.false_eq_true, ↓reduceIte]
    refine ⟨by refine dq_none ?_; intro e he; simp at he, ?_⟩
    refine Goes.step rfl (fun _ h₁ => ?_)
    replace hF := SI.rely hF h₁
    clear h₁
    rw [stepG_skip]
    simp only [goes_go]
    refine ⟨by refine dq_none ?_; intro e he; simp at he, ?_⟩
    refine Goes.step rfl (fun _ h₁ => ?_)
    replace hF := SI.rely hF h₁
    clear h₁
    rw [stepG_seq]
    simp only [goes_go]
    refine ⟨by refine dq_none ?_; intro e he; simp at he, ?_⟩
    refine Goes.step rfl (fun _ h₁ => ?_)
    replace hF := SI.rely hF h₁
    clear h₁
    rw [stepG_block]
    simp only [goes_go]
    refine ⟨by refine dq_none ?_; intro e he; simp at he, ?_⟩
    refine Goes.step rfl (fun _ h₁ => ?_)
    replace hF := SI.rely hF h₁
    clear h₁
    rw [stepG_seq]
    simp only [goes_go]
    refine ⟨by refine dq_none ?_; intro e he; simp at he, ?_⟩
    refine Goes.step rfl (fun _ h₁ => ?_)
    replace hF := SI.rely hF h₁
    clear h₁
    rw [stepG_region]
    simp only [goes_go, List.size_toArray, List.length_cons, List.length_nil, Nat.reduceAdd, Nat.zero_add, List.range, List.range.loop]
    refine ⟨by refine dq_none ?_; intro e he; simp at he, ?_⟩
    refine Goes.step rfl (fun _ h₁ => ?_)
    replace hF := SI.rely hF h₁
    clear h₁
    refine goes_oper_k rfl rfl (by k_ne) (fun K hK => ?_)
    go_simp
    refine hK _ _ ⟨?_, ?_⟩
    · refine dq_none ?_; intro e he; have hm := mem_listed he; simp [go_sem, *] at hm
    clear hK K
    try w_num
    have hev := fun w es => events_indexAt_slice (P := Try.prog) (w := w) (es := es) 62 ⟨ga, off, none⟩ n cap .i64 (j : Int) hsu (by omega)
    clear hsu
    refine Goes.step rfl (fun _ h₁ => ?_)
    replace hF := SI.rely hF h₁
    clear h₁
    refine goes_oper_k rfl rfl (by k_ne) (fun K hK => ?_)
    go_simp
    refine hK _ _ ⟨?_, ?_⟩
    · refine dq_none ?_; intro e he; have hm := mem_listed he; simp [go_sem, *] at hm
    clear hK K
    try w_num
    clear hev
    -- the part is read
    refine Goes.step rfl (fun _ h₁ => ?_)
    replace hF := SI.rely hF h₁
    clear h₁
    refine goes_oper_k rfl rfl (by k_ne) (fun Kx hKx => ?_)
    have hc := (hF.sf.below.cell (p := ⟨ga, off + j, none⟩) hga).trans hcj0
    go_simp
    refine hKx _ _ ⟨?_, ?_⟩
    · refine dq_read ?_; intro e he; have hm := mem_listed he; simp [go_sem, *] at hm
      subst hm
      exact .inl ⟨_, false, rfl, hXa, by show ga ≠ N; omega, fun x => by have : N + 3 ≤ ga := x.1; omega, by have := hF.sf.n0; show ga < _; omega, fun x => by cases x⟩
    clear hKx Kx hc
    -- its cells are made
    refine Goes.step rfl (fun wx h₁ => ?_)
    replace hF := SI.rely hF h₁
    clear h₁
    refine goes_oper_k rfl rfl (by k_ne) (fun Kx hKx => ?_)
    go_simp
    refine hKx _ _ ⟨?_, ?_⟩
    · refine dq_alloc _ _ (by decide) ?_; intro e he; have hm := mem_listed he; simp [go_sem, *] at hm
    clear hKx Kx
    replace hF := hF.alloc (t := 3) (by decide) (.int .i64 0)
    generalize wx.heap.size = bI at hF ⊢
    generalize wx.alloc _ = wy at hF ⊢
    clear wx
    refine Goes.step rfl (fun wx h₁ => ?_)
    replace hF := SI.rely hF h₁
    clear h₁
    refine goes_oper_k rfl rfl (by k_ne) (fun Kx hKx => ?_)
    go_simp
    refine hKx _ _ ⟨?_, ?_⟩
    · refine dq_alloc _ _ (by decide) ?_; intro e he; have hm := mem_listed he; simp [go_sem, *] at hm
    clear hKx Kx
    replace hF := hF.alloc (t := 29) (by decide) (.slice none 0 0)
    generalize wx.heap.size = bP at hF ⊢
    generalize wx.alloc _ = wy at hF ⊢
    clear wx
    -- .. and written
    refine Goes.step rfl (fun wx h₁ => ?_)
    replace hF := SI.rely hF h₁
    clear h₁
    obtain ⟨l1, l2, l3⟩ := hF.at_ (bI, 3, .int .i64 0) (by simp)
    rw [stepG_store3 rfl rfl (by k_ne) rfl rfl rfl (One.cell l3) (One.frozen l3) loud38]
    simp only [goes_go]
    refine ⟨dq_set l3 l2 (by have := hF.lw.1; exact Nat.le_trans this l1) l1 hX _, ?_⟩
    replace hF := hF.setI (.int .i64 (j : Int))
    clear l1 l2 l3
    generalize wx.setCell _ _ = wy at hF ⊢
    clear wx
    walk_nrm
    refine Goes.step rfl (fun wx h₁ => ?_)
    replace hF := SI.rely hF h₁
    clear h₁
    obtain ⟨l1, l2, l3⟩ := hF.at_ (bP, 29, .slice none 0 0) (by simp)
    rw [stepG_store29 rfl rfl (by k_ne) rfl rfl rfl (One.cell l3) (One.frozen l3) loud38]
    simp only [goes_go]
    refine ⟨dq_set l3 l2 (by have := hF.lw.1; exact Nat.le_trans this l1) l1 hX _, ?_⟩
    replace hF := hF.setP (.slice Aj mj cj)
    clear l1 l2 l3
    generalize wx.setCell _ _ = wy at hF ⊢
    clear wx
    walk_nrm
    refine Goes.step rfl (fun _ h₁ => ?_)
    replace hF := SI.rely hF h₁
    clear h₁
    rw [stepG_region_end]
    simp only [goes_go]
    refine ⟨by refine dq_none ?_; intro e he; simp at he, ?_⟩
    refine Goes.step rfl (fun _ h₁ => ?_)
    replace hF := SI.rely hF h₁
    clear h₁
    rw [stepG_region]
    simp only [goes_go, List.size_toArray, List.length_cons, List.length_nil, Nat.reduceAdd, Nat.zero_add, List.range, List.range.loop]
    refine ⟨by refine dq_none ?_; intro e he; simp at he, ?_⟩
    have hmf : ∀ (fn : Fn) (first cap : Array Value) (w : World), (Instr.makeFunc fn first cap).run Try.prog w = .ok (.func fn first cap) w := fun _ _ _ _ => rfl
    have hme : ∀ (fn : Fn) (first cap : Array Value) (w : World) (es : Array Event), (Instr.makeFunc fn first cap).events Try.prog w es = es := fun _ _ _ _ _ => rfl
    refine Goes.step rfl (fun _ h₁ => ?_)
    replace hF := SI.rely hF h₁
    clear h₁
    refine goes_oper_k rfl rfl (by k_ne) (fun K hK => ?_)
    go_simp
    refine hK _ _ ⟨?_, ?_⟩
    · refine dq_none ?_; intro e he; have hm := mem_listed he; simp [go_sem, *] at hm
    clear hK K
    try w_num
    clear hmf hme
    refine Goes.step rfl (fun _ h₁ => ?_)
    replace hF := SI.rely hF h₁
    clear h₁
    refine goes_call rfl rfl (by k_ne) rfl Try.func53 (by rfl) rfl ⟨by refine dq_none ?_; intro e he; simp at he, ?_⟩
    walk_nrmf Try.f53
    refine Goes.step rfl (fun _ h₁ => ?_)
    replace hF := SI.rely hF h₁
    clear h₁
    rw [stepG_seq]
    simp only [goes_go]
    refine ⟨by refine dq_none ?_; intro e he; simp at he, ?_⟩
    refine Goes.step rfl (fun _ h₁ => ?_)
    replace hF := SI.rely hF h₁
    clear h₁
    rw [stepG_region]
    simp only [goes_go, List.size_toArray, List.length_cons, List.length_nil, Nat.reduceAdd, Nat.zero_add, List.range, List.range.loop]
    refine ⟨by refine dq_none ?_; intro e he; simp at he, ?_⟩
    refine Goes.step rfl (fun wx h₁ => ?_)
    replace hF := SI.rely hF h₁
    clear h₁
    refine goes_oper_k rfl rfl (by k_ne) (fun Kx hKx => ?_)
    go_simp
    refine hKx _ _ ⟨?_, ?_⟩
    · refine dq_alloc _ _ (by decide) ?_; intro e he; have hm := mem_listed he; simp [go_sem, *] at hm
    clear hKx Kx
    replace hF := hF.alloc (t := 102) (by decide) (.pointer (some ⟨N + 2, 0, none⟩))
    generalize wx.heap.size = bG at hF ⊢
    generalize wx.alloc _ = wy at hF ⊢
    clear wx
    refine Goes.step rfl (fun wx h₁ => ?_)
    replace hF := SI.rely hF h₁
    clear h₁
    refine goes_oper_k rfl rfl (by k_ne) (fun Kx hKx => ?_)
    go_simp
    refine hKx _ _ ⟨?_, ?_⟩
    · refine dq_alloc _ _ (by decide) ?_; intro e he; have hm := mem_listed he; simp [go_sem, *] at hm
    clear hKx Kx
    replace hF := hF.alloc (t := 1) (by decide) (.func (.func 54) #[] #[.pointer (some ⟨bP, 0, none⟩), .pointer (some ⟨N + 1, 0, none⟩), .pointer (some ⟨bI, 0, none⟩)])
    generalize wx.heap.size = bF at hF ⊢
    generalize wx.alloc _ = wy at hF ⊢
    clear wx
    refine Goes.step rfl (fun _ h₁ => ?_)
    replace hF := SI.rely hF h₁
    clear h₁
    rw [stepG_region_end]
    simp only [goes_go]
    refine ⟨by refine dq_none ?_; intro e he; simp at he, ?_⟩
    refine Goes.step rfl (fun _ h₁ => ?_)
    replace hF := SI.rely hF h₁
    clear h₁
    rw [stepG_seq]
    simp only [goes_go]
    refine ⟨by refine dq_none ?_; intro e he; simp at he, ?_⟩
    refine Goes.step rfl (fun _ h₁ => ?_)
    replace hF := SI.rely hF h₁
    clear h₁
    rw [stepG_region]
    simp only [goes_go, List.size_toArray, List.length_cons, List.length_nil, Nat.reduceAdd, Nat.zero_add, List.range, List.range.loop]
    refine ⟨by refine dq_none ?_; intro e he; simp at he, ?_⟩
    refine Goes.step rfl (fun _ h₁ => ?_)
    replace hF := SI.rely hF h₁
    clear h₁
    refine goes_oper_k rfl rfl (by k_ne) (fun Kx hKx => ?_)
    obtain ⟨l1, l2, l3⟩ := hF.at_ (bG, 102, .pointer (some ⟨N + 2, 0, none⟩)) (by simp)
    have hc := One.cell l3
    go_simp
    refine hKx _ _ ⟨?_, ?_⟩
    · refine dq_read ?_; intro e he; have hm := mem_listed he; simp [go_sem, *] at hm
      subst hm
      have hb : N + 3 ≤ bG := Nat.le_trans hF.lw.1 l1
      exact .inl ⟨_, false, rfl, fun x => by have h1 := hX _ x; have h2 : bG < N + 3 := h1; omega, by show bG ≠ N; omega, One.nohalf l3 l2, One.lt l3, fun x => by cases x⟩
    clear hKx Kx hc l1 l2 l3
    -- Add(1)
    refine Goes.step rfl (fun _ h₁ => ?_)
    replace hF := SI.rely hF h₁
    clear h₁
    refine goes_call rfl rfl (by k_ne) rfl wgLib.f_add (nm_add link) rfl ⟨by refine dq_none ?_; intro e he; simp at he, ?_⟩
    have hA := fun (b₀ : Frame) (a₀ : Act) (ops₀ : Array Oper) (i₀ : Nat) (rest₀ : List Nat) (k₀ : List Item) (cs' : List Frame) (mT : Nat) => addQ (P := Try.prog) (lk := link) (L := lay N n) (X := X) (M := M) (K := K) (val := valP ps) (j := j) (Lw := Lw) (Next := Starts Try.prog (lay N n) X M K (valP ps) (Fin0 Try.prog (lay N n) X (AnW W N n (some ⟨ga, off, none⟩) cap cs)) r) (F := SI W N n Lw [(bF, 1, .func (.func 54) #[] #[.pointer (some ⟨bP, 0, none⟩), .pointer (some ⟨N + 1, 0, none⟩), .pointer (some ⟨bI, 0, none⟩)]), (bG, 102, .pointer (some ⟨N + 2, 0, none⟩)), (bP, 29, .slice Aj mj cj), (bI, 3, .int .i64 (j : Int))]) (b₀ := b₀) (a₀ := a₀) (ops₀ := ops₀) (i₀ := i₀) (rest₀ := rest₀) (k₀ := k₀) (cs := cs') (mT := mT) wgLib (lay_ok N n) (fun _ _ r h => h.rely r)
    simp only [GQ, body_add, addFn, Option.getD_some] at hA
    walk_nrmf addFn
    refine Goes.mono (n := 12) (hA _ _ _ _ _ _ _ 4 ?_ _ ⟨hF, hF.live⟩) (by omega)
    clear hA hF
    intro w' hF h2
    clear h2
    walk_nrm
    refine Goes.step rfl (fun _ h₁ => ?_)
    replace hF := SI.rely hF h₁
    clear h₁
    rw [stepG_region_end]
    simp only [goes_go]
    refine ⟨by refine dq_none ?_; intro e he; simp at he, ?_⟩
    refine Goes.step rfl (fun _ h₁ => ?_)
    replace hF := SI.rely hF h₁
    clear h₁
    rw [stepG_region]
    simp only [goes_go, List.size_toArray, List.length_cons, List.length_nil, Nat.reduceAdd, Nat.zero_add, List.range, List.range.loop]
    refine ⟨by refine dq_none ?_; intro e he; simp at he, ?_⟩
    have hmf : ∀ (fn : Fn) (first cap : Array Value) (w : World), (Instr.makeFunc fn first cap).run Try.prog w = .ok (.func fn first cap) w := fun _ _ _ _ => rfl
    have hme : ∀ (fn : Fn) (first cap : Array Value) (w : World) (es : Array Event), (Instr.makeFunc fn first cap).events Try.prog w es = es := fun _ _ _ _ _ => rfl
    refine Goes.step rfl (fun _ h₁ => ?_)
    replace hF := SI.rely hF h₁
    clear h₁
    refine goes_oper_k rfl rfl (by k_ne) (fun K hK => ?_)
    go_simp
    refine hK _ _ ⟨?_, ?_⟩
    · refine dq_none ?_; intro e he; have hm := mem_listed he; simp [go_sem, *] at hm
    clear hK K
    try w_num
    clear hmf hme
    -- the go statement
    refine Goes.stop (fun w₂ r₂ => ?_)
    replace hF := SI.rely hF r₂
    clear r₂ w'
    refine ⟨rfl, ?_⟩
    rw [stepG_spawn (d := dcallv 61 #[.pointer (some ⟨bG, 0, none⟩), .pointer (some ⟨bF, 0, none⟩)]) (w' := w₂) (f := .func 61) (c := #[.pointer (some ⟨bG, 0, none⟩), .pointer (some ⟨bF, 0, none⟩)]) rfl rfl (by k_ne) (by simp [go_sem, dcallv, Deferred.ofValue]) rfl]
    generalize hLx : listed _ _ _ _ _ = Lx
    have hLx' : Lx = #[] := by
      rw [← hLx]
      simp [listed, go_sem, seen, Deferred.ofValue]
      try rfl
    subst hLx'
    clear hLx
    obtain ⟨f1, f2, f3⟩ := hF.at_ (bF, 1, .func (.func 54) #[] #[.pointer (some ⟨bP, 0, none⟩), .pointer (some ⟨N + 1, 0, none⟩), .pointer (some ⟨bI, 0, none⟩)]) (by simp)
    obtain ⟨g1, g2, g3⟩ := hF.at_ (bG, 102, .pointer (some ⟨N + 2, 0, none⟩)) (by simp)
    obtain ⟨p1, p2, p3⟩ := hF.at_ (bP, 29, .slice Aj mj cj) (by simp)
    obtain ⟨i1, i2, i3⟩ := hF.at_ (bI, 3, .int .i64 (j : Int)) (by simp)
    have hw1 := hF.lw.1
    have hn0 := hF.sf.n0
    have hone : ∀ (b : Nat) (t : TypeId) (v : Value), Lw ≤ b → t ≠ 99 → One b t v w₂ → b < w₂.heap.size ∧ b ≠ N ∧ b ≠ N + 2 ∧ ¬ X b ∧ ¬ Half (lay N n) w₂ b := fun b t v h1 h2 h3 => ⟨One.lt h3, by omega, by omega, fun x => by have := hX _ x; omega, One.nohalf h3 h2⟩
    have hRd : ∀ b, (b = bG ∨ b = bF ∨ b = bP ∨ b = N + 1 ∨ b = bI ∨ ((∃ o, Aj = some ⟨b, o, none⟩) ∧ b < N ∧ ¬ X b)) → b < w₂.heap.size ∧ b ≠ N ∧ b ≠ N + 2 ∧ ¬ X b ∧ ¬ Half (lay N n) w₂ b := by
      rintro b (rfl | rfl | rfl | rfl | rfl | ⟨_, h1, h2⟩)
      · exact hone _ _ _ g1 g2 g3
      · exact hone _ _ _ f1 f2 f3
      · exact hone _ _ _ p1 p2 p3
      · exact ⟨by omega, by omega, by omega, hXN, hF.sf.sums.nohalf (by decide)⟩
      · exact hone _ _ _ i1 i2 i3
      · exact ⟨by omega, by omega, by omega, h2, fun x => by have : N + 3 ≤ b := x.1; omega⟩
    have hsol : ∀ b, (b = bG ∨ b = bF ∨ b = bP ∨ b = N + 1 ∨ b = bI ∨ ((∃ o, Aj = some ⟨b, o, none⟩) ∧ b < N ∧ ¬ X b)) → Sol (lay N n) w₂.heap.size (fun b => b = bG ∨ b = bF ∨ b = bP ∨ b = N + 1 ∨ b = bI ∨ ((∃ o, Aj = some ⟨b, o, none⟩) ∧ b < N ∧ ¬ X b)) b w₂ := fun b hb => let h := hRd b hb; ⟨hb, h.1, h.1, h.2.1, h.2.2.1, h.2.2.2.2⟩
    refine ⟨_, _, _, rfl, rfl, hRd, fun hpay => ⟨60, ?_⟩, ?_⟩
    · refine workQ (N := Bm) (n := mj) (c := cj) (A := Aj) (p := ⟨bG, bF, bP, N + 1, bI⟩) (bs := ps.getD j []) hq (lay_ok N n) rfl rfl hK hjn (by rw [← hmj]; exact hB j hjn) hM w₂ ?_
      refine ⟨hsol _ (by simp), hsol _ (by simp), hsol _ (by simp), hsol _ (by simp), hsol _ (by simp), One.cell g3, One.cell f3, One.cell p3, hF.sf.sums.cell, One.cell i3, ⟨by simpa using hmj, fun hpos => ?_⟩, hF.live, hpay, hn0⟩
      obtain ⟨gb, ob, hb1, hb2, hb3, hb4⟩ := ha.bytes j hjn (by omega)
      rw [hAj] at hb1
      have hs := hsol gb (.inr (.inr (.inr (.inr (.inr ⟨⟨ob, hb1⟩, hb2, hb3⟩)))))
      exact ⟨gb, ob, hb1, hs.rd, hs.low, hs.lt, hs.nC, hs.nW, hs.nH, fun k u hu => (hF.sf.below.cell (p := ⟨gb, ob + k, none⟩) hb2).trans (hb4 k u hu)⟩
    refine starts_of (m := 80) W N n _ cap cs X M K ps ?_
    replace hF : SI W N n w₂.heap.size [] w₂ := ⟨hF.sf, ⟨hn0, Nat.le_refl _⟩, hF.live, by simp⟩
    clear f1 f2 f3 g1 g2 g3 p1 p2 p3 i1 i2 i3 hone hRd hsol hw1
    have hwr : IntKind.i64.wrap ((j : Int) + 1) = ((j + 1 : Nat) : Int) := by rw [IntKind.wrap_i64]; omega
    simp only [GQ]
    walk_nrm
    refine Goes.step rfl (fun _ h₁ => ?_)
    replace hF := SI.rely hF h₁
    clear h₁
    rw [stepG_region_end]
    simp only [goes_go]
    refine ⟨by refine dq_none ?_; intro e he; simp at he, ?_⟩
    refine Goes.step rfl (fun _ h₁ => ?_)
    replace hF := SI.rely hF h₁
    clear h₁
    rw [stepG_end]
    simp only [goes_go]
    refine ⟨by refine dq_none ?_; intro e he; simp at he, ?_⟩
    refine Goes.step rfl (fun _ h₁ => ?_)
    replace hF := SI.rely hF h₁
    clear h₁
    refine goes_leave0 rfl rfl Try.func53 rfl ⟨by refine dq_none ?_; intro e he; simp at he, ?_⟩
    walk_nrm
    refine Goes.step rfl (fun _ h₁ => ?_)
    replace hF := SI.rely hF h₁
    clear h₁
    rw [stepG_region_end]
    simp only [goes_go]
    refine ⟨by refine dq_none ?_; intro e he; simp at he, ?_⟩
    refine Goes.step rfl (fun _ h₁ => ?_)
    replace hF := SI.rely hF h₁
    clear h₁
    rw [stepG_inBlock]
    simp only [goes_go]
    refine ⟨by refine dq_none ?_; intro e he; simp at he, ?_⟩
    refine Goes.step rfl (fun _ h₁ => ?_)
    replace hF := SI.rely hF h₁
    clear h₁
    rw [stepG_region]
    simp only [goes_go, List.size_toArray, List.length_cons, List.length_nil, Nat.reduceAdd, Nat.zero_add, List.range, List.range.loop]
    refine ⟨by refine dq_none ?_; intro e he; simp at he, ?_⟩
    refine Goes.step rfl (fun _ h₁ => ?_)
    replace hF := SI.rely hF h₁
    clear h₁
    refine goes_oper_k rfl rfl (by k_ne) (fun K hK => ?_)
    go_simp
    refine hK _ _ ⟨?_, ?_⟩
    · refine dq_none ?_; intro e he; have hm := mem_listed he; simp [go_sem, *] at hm
    clear hK K
    try w_num
    refine Goes.step rfl (fun _ h₁ => ?_)
    replace hF := SI.rely hF h₁
    clear h₁
    refine goes_oper_k rfl rfl (by k_ne) (fun K hK => ?_)
    go_simp
    refine hK _ _ ⟨?_, ?_⟩
    · refine dq_none ?_; intro e he; have hm := mem_listed he; simp [go_sem, *] at hm
    clear hK K
    try w_num
    refine Goes.step rfl (fun _ h₁ => ?_)
    replace hF := SI.rely hF h₁
    clear h₁
    rw [stepG_region_end]
    simp only [goes_go]
    refine ⟨by refine dq_none ?_; intro e he; simp at he, ?_⟩
    refine Goes.step rfl (fun _ h₁ => ?_)
    replace hF := SI.rely hF h₁
    clear h₁
    rw [stepG_inLoop]
    simp only [goes_go]
    refine ⟨by refine dq_none ?_; intro e he; simp at he, ?_⟩
    exact Goes.mono (ih (j + 1) (by omega) _ _ _ ⟨_, rfl, by simp, by simp, by simp, by simp, by simp, by simp, by simp⟩ hF) (by omega)
end
end Go.Proofs.Ytoipkpndfgcmcaa.Crew

/-
  Parts, from its entry to behind Wait, on every tape, beside others that only leave. The conditions stand in each theorem.
-/
namespace Go.Proofs.Ytoipkpndfgcmcaa.Crew
open Go Go.Conc Go.ConcN Go.RowKit Go.Conc.Lib Go.ConcR.Gen Go.ConcN.Gen Go.Proofs.Ytoipkpndfgcmcaa.Veils
open Go.ConcR (KK wgBlock WgAt stA smA rd wr mk Payload DC0)
set_option linter.unusedVariables false
set_option linter.unusedSectionVars false
set_option linter.unusedSimpArgs false
theorem info40 : (Try.prog.info? 40).map (fun i => (i.zero, i.size, i.bytes)) = some (some (.int .u32 0), 1, 4) := by kernel_rfl
section
variable {main : Bool} {b : Frame} {a : Act} {kk : List Item} {cs : List Frame} {w : World} {ops : Array Oper} {i : Nat} {rest : List Nat} {o : Oper}
theorem stepG_store87 {x y : Operand} (ho : ops[i]? = some o) (hw : Region.wanted o (yielded ops a.tmps) = true) (hk : b.kind ≠ .early) (hop : o.op = .store 87 x y)
    {ad : Addr} {A : Option Addr} {m c : Nat} {u : Value} (hx : a.eval x = .pointer (some ad)) (hy : a.eval y = .slice A m c) (hc : w.cell? ad = some u) (hz : w.frozen? ad = false) (hq : (Try.prog.funcs[b.fn]?).any (·.norace) = false) :
    stepG Try.prog main (G (b.at a (.inRegion ops (i :: rest) :: kk)) cs) w = .go (G (b.at (a.put o.dst undef) (.inRegion ops rest :: kk)) cs) (w.setCell ad (.slice A m c)) #[⟨.cell ad, true, false⟩] := by
  have hr : (execOp a.eval o).run Try.prog w = .ok .skip (w.setCell ad (.slice A m c)) := by
    unfold execOp
    simp only [hop, hx, hy]
    simp [go_sem, stored, hc, hz]
  have he : (execOp a.eval o).events Try.prog w #[] = #[⟨.cell ad, true, false⟩] := by
    have hs := events_store Try.prog w #[] ad (.slice A m c) .plain rfl
    unfold execOp
    simp only [hop, hx, hy]
    simp [go_sem, hs, storedEv, hc, hz]
  rw [stepG_none ho hw hk hr]
  unfold listed
  rw [he, seen_eq hq (by simp)]
end
section
variable {W : World} {N n cap : Nat} {a0 : Option Addr} {cs : List Frame} {X : Nat → Prop}
theorem df_of {w w' : World} (hs : w.heap.size ≤ w'.heap.size) {es : Array Event} (h : ∀ e ∈ es, False) : DF X w w' es := ⟨hs, fun e he => (h e he).elim⟩
theorem below_at {w : World} {N : Nat} (h : Below N W w) (d : Nat) : Below N W (w.at d) := ⟨h.os, h.tape, h.output, h.size, h.block⟩
/-- At Parts' entry. -/
def P0 (W : World) (N n : Nat) (a0 : Option Addr) (cap : Nat) (cs : List Frame) (g : Goroutine) (w : World) : Prop :=
  g = G ((base 38).at ⟨#[.slice a0 n cap, undef, undef, undef, undef, undef, undef, undef, undef, undef, undef, undef, undef, undef, undef, undef, undef, undef, undef, undef, undef, undef, undef, undef, undef, undef, undef, undef, undef, undef, undef, undef, undef, undef, undef, undef, undef, undef, undef, undef, undef, undef, undef, undef], []⟩ [.code (bodyOf Try.f38)]) cs ∧ Below N W w ∧ w.heap.size = N
/-- Ahead of the making of the group. -/
structure E1v (W : World) (N n : Nat) (v : Value) (w : World) : Prop where
  below : Below N W w
  size : w.heap.size = N + 2
  pay : PayAt N n w
  sums : One (N + 1) 87 v w
abbrev E1 (W : World) (N n : Nat) (w : World) : Prop := E1v W N n (.slice (some ⟨N, 0, none⟩) n n) w
def P1 (W : World) (N n : Nat) (a0 : Option Addr) (cap : Nat) (cs : List Frame) (g : Goroutine) (w : World) : Prop :=
  ∃ T : Array Value, g = G ((base 38).at ⟨T, []⟩ [.code (seqTails 2 (bodyOf Try.f38))]) cs ∧ T.size = 44 ∧ T[0]? = some (.slice a0 n cap) ∧ T[3]? = some (.pointer (some ⟨N + 1, 0, none⟩)) ∧ E1 W N n w
/-- At the loop's head, none started. -/
def P2 (W : World) (N n : Nat) (a0 : Option Addr) (cap : Nat) (cs : List Frame) (g : Goroutine) (w : World) : Prop :=
  HeadS N n a0 cap cs 0 g ∧ SI W N n (N + 3) [] w ∧ WgAt 96 (N + 2) w 0 0 ∧ PayAt N n w ∧ w.heap.size = N + 3
theorem E1v.store {w : World} {v : Value} (h : E1v W N n v w) : E1 W N n (w.setCell ⟨N + 1, 0, none⟩ (.slice (some ⟨N, 0, none⟩) n n)) := by
  have hA := aside_setCell w ⟨N + 1, 0, none⟩ (.slice (some ⟨N, 0, none⟩) n n)
  obtain ⟨cs0, h3, h4⟩ := h.pay
  exact ⟨⟨hA.os.trans h.below.os, hA.tape.trans h.below.tape, hA.output.trans h.below.output, by rw [hA.size]; exact h.below.size, fun k hk => (hA.block k (by show k ≠ N + 1; omega)).trans (h.below.block k hk)⟩, by rw [hA.size]; exact h.size, ⟨cs0, (hA.block N (by show N ≠ N + 1; omega)).trans h3, h4⟩, h.sums.set_ _⟩
theorem e0_rely {w w₁ : World} (h : Below N W w ∧ w.heap.size = N + 1 ∧ PayAt N n w) (r : AtRel w w₁) : Below N W w₁ ∧ w₁.heap.size = N + 1 ∧ PayAt N n w₁ := by
  obtain ⟨d, rfl⟩ := r
  exact ⟨below_at h.1 d, h.2⟩
theorem E1v.rely {w w₁ : World} {v : Value} (h : E1v W N n v w) (r : AtRel w w₁) : E1v W N n v w₁ := by
  obtain ⟨d, rfl⟩ := r
  exact ⟨below_at h.below d, h.size, h.pay, h.sums⟩
theorem b0_rely {w w₁ : World} (h : Below N W w ∧ w.heap.size = N) (r : AtRel w w₁) : Below N W w₁ ∧ w₁.heap.size = N := by
  obtain ⟨d, rfl⟩ := r
  exact ⟨below_at h.1 d, h.2⟩
set_option maxRecDepth 100000 in
set_option maxHeartbeats 4000000 in
theorem parts_in (hn : n < 2147483648) (g : Goroutine) (w : World) (h : P0 W N n a0 cap cs g w) (hX : ¬ X (N + 1)) : Goes Try.prog true AtRel (DF X) (P1 W N n a0 cap cs) 20 g w := by
  obtain ⟨rfl, hF⟩ := h
  simp only [P1, seqTails, seqTail, bodyOf, Try.f38, Option.getD_some]
  have hsu : Try.prog.underlying 62 = some (.slice (Try.prog.elem 62)) := by kernel_rfl
  have hel := fun w es => events_len_slice (P := Try.prog) (w := w) (es := es) 62 3 a0 n cap hsu
  clear hsu
  obtain ⟨i0, hi, hz0, hz1, hz2⟩ := info_parts info40
  have hmk := fun w => run_make (P := Try.prog) w 87 40 i0 (.int .u32 0) Try.underlying87 hi hz0 .i64 .i64 n n (by omega) (by omega) (by rw [hz2]; omega) (by omega)
  have hme := fun w es => events_make (P := Try.prog) w 87 40 i0 (.int .u32 0) Try.underlying87 hi hz0 .i64 .i64 n n (by omega) (by omega) (by rw [hz2]; omega) (by omega) (by rw [hz2]; simp; omega) es
  simp only [Int.toNat_natCast, hz1, Nat.mul_one] at hmk
  refine Goes.step rfl (fun _ h₁ => ?_)
  replace hF := b0_rely hF h₁
  clear h₁
  rw [stepG_seq]
  simp only [goes_go]
  refine ⟨by refine df_none ?_; intro e he; simp at he, ?_⟩
  refine Goes.step rfl (fun _ h₁ => ?_)
  replace hF := b0_rely hF h₁
  clear h₁
  rw [stepG_region]
  simp only [goes_go, List.size_toArray, List.length_cons, List.length_nil, Nat.reduceAdd, Nat.zero_add, List.range, List.range.loop]
  refine ⟨by refine df_none ?_; intro e he; simp at he, ?_⟩
  refine Goes.step rfl (fun _ h₁ => ?_)
  replace hF := b0_rely hF h₁
  clear h₁
  refine goes_oper_k rfl rfl (by k_ne) (fun K hK => ?_)
  go_simp
  refine hK _ _ ⟨?_, ?_⟩
  · refine df_none ?_; intro e he; have hm := mem_listed he; simp [go_sem, *] at hm
  clear hK K
  try w_num
  refine Goes.step rfl (fun _ h₁ => ?_)
  replace hF := b0_rely hF h₁
  clear h₁
  rw [stepG_region_end]
  simp only [goes_go]
  refine ⟨by refine df_none ?_; intro e he; simp at he, ?_⟩
  refine Goes.step rfl (fun _ h₁ => ?_)
  replace hF := b0_rely hF h₁
  clear h₁
  rw [stepG_seq]
  simp only [goes_go]
  refine ⟨by refine df_none ?_; intro e he; simp at he, ?_⟩
  refine Goes.step rfl (fun _ h₁ => ?_)
  replace hF := b0_rely hF h₁
  clear h₁
  rw [stepG_region]
  simp only [goes_go, List.size_toArray, List.length_cons, List.length_nil, Nat.reduceAdd, Nat.zero_add, List.range, List.range.loop]
  refine ⟨by refine df_none ?_; intro e he; simp at he, ?_⟩
  refine Goes.step rfl (fun _ h₁ => ?_)
  replace hF := b0_rely hF h₁
  clear h₁
  refine goes_oper_k rfl rfl (by k_ne) (fun K hK => ?_)
  go_simp
  refine hK _ _ ⟨?_, ?_⟩
  · refine df_none ?_; intro e he; have hm := mem_listed he; simp [go_sem, *] at hm
  clear hK K
  try w_num
  refine Goes.step rfl (fun _ h₁ => ?_)
  replace hF := b0_rely hF h₁
  clear h₁
  refine goes_oper_k rfl rfl (by k_ne) (fun K hK => ?_)
  go_simp
  refine hK _ _ ⟨?_, ?_⟩
  · refine df_none ?_; intro e he; have hm := mem_listed he; simp [go_sem, *] at hm
  clear hK K
  try w_num
  -- make
  refine Goes.step rfl (fun wx h₁ => ?_)
  replace hF := b0_rely hF h₁
  clear h₁
  refine goes_oper_k rfl rfl (by k_ne) (fun Kx hKx => ?_)
  go_simp
  refine hKx _ _ ⟨?_, ?_⟩
  · refine df_of (by rw [World.size_alloc]; omega) ?_; intro e he; have hm := mem_listed he; simp [go_sem, *] at hm
  clear hKx Kx
  have hE : Below N W (wx.alloc (.cells (madeCells #[Value.int .u32 0] n) 40)) ∧ (wx.alloc (.cells (madeCells #[Value.int .u32 0] n) 40)).heap.size = N + 1 ∧ PayAt N n (wx.alloc (.cells (madeCells #[Value.int .u32 0] n) 40)) := by
    refine ⟨hF.1.alloc (by rw [hF.2]; exact Nat.le_refl _) _, by rw [World.size_alloc, hF.2], madeCells #[Value.int .u32 0] n, ?_, by simp [madeCells]⟩
    have := heap_alloc_new wx (.cells (madeCells #[Value.int .u32 0] n) 40)
    rw [hF.2] at this
    exact this
  try rw [hF.2]
  clear hF hmk hme hel
  generalize wx.alloc _ = wy at hE ⊢
  clear wx
  -- the variable
  refine Goes.step rfl (fun wx h₁ => ?_)
  replace hE := e0_rely hE h₁
  clear h₁
  refine goes_oper_k rfl rfl (by k_ne) (fun Kx hKx => ?_)
  go_simp
  refine hKx _ _ ⟨?_, ?_⟩
  · refine df_of (by rw [World.size_alloc]; omega) ?_; intro e he; have hm := mem_listed he; simp [go_sem, *] at hm
  clear hKx Kx
  have hF : E1v W N n (.slice none 0 0) (wx.alloc (.cells #[.slice none 0 0] 87)) := by
    obtain ⟨h1, h2, cs0, h3, h4⟩ := hE
    refine ⟨h1.alloc (by omega) _, by rw [World.size_alloc, h2], ⟨cs0, (Below.heap_alloc _ _ _ (by omega)).trans h3, h4⟩, ?_⟩
    have := One.new wx 87 (.slice none 0 0)
    rw [h2] at this
    exact this
  try rw [hE.2.1]
  clear hE
  generalize wx.alloc _ = wy at hF ⊢
  clear wx
  refine Goes.step rfl (fun wx h₁ => ?_)
  replace hF := E1v.rely hF h₁
  clear h₁
  rw [stepG_store87 rfl rfl (by k_ne) rfl rfl rfl hF.sums.cell hF.sums.frozen loud38]
  simp only [goes_go]
  refine ⟨⟨by rw [(aside_setCell _ _ _).size]; exact Nat.le_refl _, fun e he => ?_⟩, ?_⟩
  · rw [Array.mem_singleton] at he
    subst he
    exact .inl ⟨_, rfl, hX, by rw [(aside_setCell _ _ _).size]; exact hF.sums.lt, rfl⟩
  replace hF := hF.store
  generalize wx.setCell _ _ = wy at hF ⊢
  clear wx
  walk_nrm
  refine Goes.step rfl (fun _ h₁ => ?_)
  replace hF := E1v.rely hF h₁
  clear h₁
  rw [stepG_region_end]
  simp only [goes_go]
  refine ⟨by refine df_none ?_; intro e he; simp at he, ?_⟩
  exact Goes.stop fun w₁ h₁ => ⟨_, rfl, by simp, by simp, by simp, hF.rely h₁⟩
/-- Behind the making of the group. -/
def F2 (W : World) (N n : Nat) (w : World) : Prop := SI W N n (N + 3) [] w ∧ WgAt 96 (N + 2) w 0 0 ∧ PayAt N n w ∧ w.heap.size = N + 3
theorem f2_rely {w w₁ : World} (h : F2 W N n w) (r : AtRel w w₁) : F2 W N n w₁ := by
  obtain ⟨d, rfl⟩ := r
  exact ⟨h.1.rely (RQ.at w d), h.2⟩
theorem f2_made {w : World} (h : E1 W N n w) : F2 W N n (w.alloc (.cells #[.int .u64 0, .int .u32 0] 96)) := by
  have hs := h.size
  have hw : WgAt 96 (N + 2) (w.alloc (.cells #[.int .u64 0, .int .u32 0] 96)) 0 0 := by
    have := heap_alloc_new w (.cells #[.int .u64 0, .int .u32 0] 96)
    rw [hs] at this
    exact this
  obtain ⟨cs0, h3, h4⟩ := h.pay
  refine ⟨⟨⟨h.below.alloc (by omega) _, by rw [World.size_alloc]; omega, h.sums.alloc _, ⟨_, _, hw⟩⟩, ⟨Nat.le_refl _, by rw [World.size_alloc]; omega⟩, ⟨_, _, hw⟩, by simp⟩, hw, ⟨cs0, (Below.heap_alloc _ _ _ (by omega)).trans h3, h4⟩, by rw [World.size_alloc, hs]⟩
set_option maxRecDepth 100000 in
set_option maxHeartbeats 4000000 in
theorem parts_loop (g : Goroutine) (w : World) (h : P1 W N n a0 cap cs g w) : Goes Try.prog true AtRel (DF X) (P2 W N n a0 cap cs) 20 g w := by
  obtain ⟨T, rfl, hT, t0, t3, hF⟩ := h
  obtain ⟨v0, v1, v2, v3, v4, v5, v6, v7, v8, v9, v10, v11, v12, v13, v14, v15, v16, v17, v18, v19, v20, v21, v22, v23, v24, v25, v26, v27, v28, v29, v30, v31, v32, v33, v34, v35, v36, v37, v38, v39, v40, v41, v42, v43, rfl⟩ := array44 T hT
  simp only [List.getElem?_toArray, List.getElem?_cons_succ, List.getElem?_cons_zero, Option.some.injEq] at t0 t3
  subst t0 t3
  have hsu : Try.prog.underlying 62 = some (.slice (Try.prog.elem 62)) := by kernel_rfl
  have hel := fun w es => events_len_slice (P := Try.prog) (w := w) (es := es) 62 3 a0 n cap hsu
  clear hsu
  simp only [seqTails, seqTail, bodyOf, Try.f38, Option.getD_some]
  refine Goes.step rfl (fun _ h₁ => ?_)
  replace hF := E1v.rely hF h₁
  clear h₁
  rw [stepG_seq]
  simp only [goes_go]
  refine ⟨by refine df_none ?_; intro e he; simp at he, ?_⟩
  refine Goes.step rfl (fun _ h₁ => ?_)
  replace hF := E1v.rely hF h₁
  clear h₁
  rw [stepG_region]
  simp only [goes_go, List.size_toArray, List.length_cons, List.length_nil, Nat.reduceAdd, Nat.zero_add, List.range, List.range.loop]
  refine ⟨by refine df_none ?_; intro e he; simp at he, ?_⟩
  refine Goes.step rfl (fun wx h₁ => ?_)
  replace hF := E1v.rely hF h₁
  clear h₁
  refine goes_oper_k rfl rfl (by k_ne) (fun Kx hKx => ?_)
  go_simp
  refine hKx _ _ ⟨?_, ?_⟩
  · refine df_of (by rw [World.size_alloc]; omega) ?_; intro e he; have hm := mem_listed he; simp [go_sem, *] at hm
  clear hKx Kx
  have hE := f2_made hF
  try rw [hF.size]
  clear hF
  generalize wx.alloc _ = wy at hE ⊢
  clear wx
  refine Goes.step rfl (fun _ h₁ => ?_)
  replace hE := f2_rely hE h₁
  clear h₁
  rw [stepG_region_end]
  simp only [goes_go]
  refine ⟨by refine df_none ?_; intro e he; simp at he, ?_⟩
  refine Goes.step rfl (fun _ h₁ => ?_)
  replace hE := f2_rely hE h₁
  clear h₁
  rw [stepG_seq]
  simp only [goes_go]
  refine ⟨by refine df_none ?_; intro e he; simp at he, ?_⟩
  refine Goes.step rfl (fun _ h₁ => ?_)
  replace hE := f2_rely hE h₁
  clear h₁
  rw [stepG_seq]
  simp only [goes_go]
  refine ⟨by refine df_none ?_; intro e he; simp at he, ?_⟩
  refine Goes.step rfl (fun _ h₁ => ?_)
  replace hE := f2_rely hE h₁
  clear h₁
  rw [stepG_region]
  simp only [goes_go, List.size_toArray, List.length_cons, List.length_nil, Nat.reduceAdd, Nat.zero_add, List.range, List.range.loop]
  refine ⟨by refine df_none ?_; intro e he; simp at he, ?_⟩
  refine Goes.step rfl (fun _ h₁ => ?_)
  replace hE := f2_rely hE h₁
  clear h₁
  refine goes_oper_k rfl rfl (by k_ne) (fun K hK => ?_)
  go_simp
  refine hK _ _ ⟨?_, ?_⟩
  · refine df_none ?_; intro e he; have hm := mem_listed he; simp [go_sem, *] at hm
  clear hK K
  try w_num
  refine Goes.step rfl (fun _ h₁ => ?_)
  replace hE := f2_rely hE h₁
  clear h₁
  refine goes_oper_k rfl rfl (by k_ne) (fun K hK => ?_)
  go_simp
  refine hK _ _ ⟨?_, ?_⟩
  · refine df_none ?_; intro e he; have hm := mem_listed he; simp [go_sem, *] at hm
  clear hK K
  try w_num
  refine Goes.step rfl (fun _ h₁ => ?_)
  replace hE := f2_rely hE h₁
  clear h₁
  refine goes_oper_k rfl rfl (by k_ne) (fun K hK => ?_)
  go_simp
  refine hK _ _ ⟨?_, ?_⟩
  · refine df_none ?_; intro e he; have hm := mem_listed he; simp [go_sem, *] at hm
  clear hK K
  try w_num
  refine Goes.step rfl (fun _ h₁ => ?_)
  replace hE := f2_rely hE h₁
  clear h₁
  rw [stepG_region_end]
  simp only [goes_go]
  refine ⟨by refine df_none ?_; intro e he; simp at he, ?_⟩
  refine Goes.step rfl (fun _ h₁ => ?_)
  replace hE := f2_rely hE h₁
  clear h₁
  rw [stepG_block]
  simp only [goes_go]
  refine ⟨by refine df_none ?_; intro e he; simp at he, ?_⟩
  refine Goes.step rfl (fun _ h₁ => ?_)
  replace hE := f2_rely hE h₁
  clear h₁
  rw [stepG_loop]
  simp only [goes_go]
  refine ⟨by refine df_none ?_; intro e he; simp at he, ?_⟩
  refine Goes.stop fun w₁ h₁ => ?_
  replace hE := f2_rely hE h₁
  exact ⟨⟨_, rfl, by simp, by simp, by simp, by simp, by simp, by simp, by simp⟩, hE⟩
end
/-! the machine -/
section
variable {W : World} {N n cap : Nat} {a0 : Option Addr} {cs : List Frame} {X : Nat → Prop} {J q Bm : Nat} {ps : List (List UInt8)} {sl : Nat → Option Addr × Nat} {m : Machine} {t : Trace}
def valsP (n : Nat) (ps : List (List UInt8)) : List Value := (List.range n).map (valP ps)
/-- From Parts' entry to behind Wait. -/
theorem parts_wait (hq : TakeQ Bm q) (hXN : ∀ r, X r → r < N) (ha : Args W N X a0 n ps sl) (hB : ∀ j, j < n → (ps.getD j []).length ≤ Bm) (hn : n < 2147483648) (h : Mach Try.prog X J (P0 W N n a0 cap cs) m t) :
    Leads Try.prog m t (Mach Try.prog (fun r => X r ∨ r = N + 2) (J + n) (fun g w => BackP N n a0 cap cs g ∧ SF W N n w ∧ Full N (valsP n ps) w)) := by
  have hX1 : ∀ r, (X r ∨ r = N + 2) → r < N + 3 := fun r hr => by
    rcases hr with hr | hr
    · have := hXN r hr; omega
    · omega
  have hXn : ¬ (X N ∨ N = N + 2) := fun hr => by
    rcases hr with hr | hr
    · have := hXN N hr; omega
    · omega
  have hX2 : ¬ (X (N + 1) ∨ N + 1 = N + 2) := fun hr => by
    rcases hr with hr | hr
    · have := hXN _ hr; omega
    · omega
  have ha' : Args W N (fun r => X r ∨ r = N + 2) a0 n ps sl := by
    refine ⟨ha.len, fun hp => ?_, fun j hj hp => ?_⟩
    · obtain ⟨g, off, h1, h2, h3, h4⟩ := ha.cells hp
      exact ⟨g, off, h1, h2, fun x => x.elim h3 (by omega), h4⟩
    · obtain ⟨g, off, h1, h2, h3, h4⟩ := ha.bytes j hj hp
      exact ⟨g, off, h1, h2, fun x => x.elim h3 (by omega), h4⟩
  refine (h.runs fun a w hs => runs_of_goes 20 (parts_in (X := X) hn a w hs (fun x => hX2 (.inl x)))).bind fun m1 t1 h1 => ?_
  refine ((h1.hide (b := N + 2) fun a w ⟨_, _, _, _, _, hE⟩ => by rw [hE.size]; exact Nat.le_refl _).runs fun a w hs => runs_of_goes 20 (parts_loop (X := fun r => X r ∨ r = N + 2) a w hs)).bind fun m2 t2 h2 => ?_
  obtain ⟨gs, a, w, s1, q1, rfl, e1, e2, ⟨hH, hSI, hwg, hpay, hsz⟩, e4, e5⟩ := h2
  have hst := startsFrom (W := W) (N := N) (n := n) (cap := cap) (a0 := a0) (cs := cs) (X := fun r => X r ∨ r = N + 2) (M := 60 + q) (K := 24) (q := q) (Bm := Bm) (ps := ps) (sl := sl) hq (Nat.le_refl _) (Nat.le_refl _) hX1 hX2 ha' hB hn n 0 (by omega) (N + 3) a w hH hSI
  have hst := starts_of (m := 60) W N n a0 cap cs (fun r => X r ∨ r = N + 2) (60 + q) 24 ps hst
  have hcrew := crew_runs (P := Try.prog) (L := lay N n) (X := fun r => X r ∨ r = N + 2) (J := J) (M := 60 + q) (K := 24) (val := valP ps) (vals := valsP n ps) (Anch := AnE W N n a0 cap cs (fun r => X r ∨ r = N + 2) (valsP n ps)) (AnchW := AnW W N n a0 cap cs) (gs := gs) (w := w) (sl := s1) (t := t2) (q := q1) (a := a)
    (lay_ok N n) ⟨fun b hb => hX1 b hb, .inr rfl, hXn⟩ hn anW_runs (fun Lw g w hA => anW_round g w hA) (by simp [valsP]) (fun i hi => by simp [valsP, hi]) hsz.symm e1 e2 e4 e5 hwg hpay (by rw [hsz]; exact hst)
  obtain ⟨N1, m3, t3, r1, gs', a', w', sl', q', rfl, f1, f2, f3, f4, f5, f6⟩ := hcrew
  refine Leads.bind (Q := Mach Try.prog (fun r => X r ∨ r = N + 2) (J + n) (AnE W N n a0 cap cs (fun r => X r ∨ r = N + 2) (valsP n ps))) ⟨N1, _, t3, r1, (⟨gs', a', w', sl', q', rfl, f1, f2, f4, f5, f6⟩ : Mach Try.prog (fun r => X r ∨ r = N + 2) (J + n) (AnE W N n a0 cap cs (fun r => X r ∨ r = N + 2) (valsP n ps)) _ _)⟩ fun m4 t4 h4 => ?_
  exact h4.runs fun a w ⟨k, hk⟩ => runs_of_goes k hk
end
end Go.Proofs.Ytoipkpndfgcmcaa.Crew

/-
  The check sum joined, as plain mathematics: what bytes 0 make of a number is linear, so it is told by what they make of each bit. No program in sight.
-/
namespace Go.Proofs.Ytoipkpndfgcmcaa
open Go.RowKit

/-- What n bytes 0 make of a number. -/
def zer : Nat → Nat → Nat
  | 0, a => a
  | n + 1, a => zer n (stp8 a)
theorem zer_add (m n a : Nat) : zer (m + n) a = zer m (zer n a) := by
  induction n generalizing a with
  | zero => rfl
  | succ n ih => exact ih (stp8 a)
theorem zer_xor (n a b : Nat) : zer n (a ^^^ b) = zer n a ^^^ zer n b := by
  induction n generalizing a b with
  | zero => rfl
  | succ n ih => rw [zer, stp8_xor, ih]; rfl
theorem stp8_zero : stp8 0 = 0 := by decide
theorem zer_zero (n : Nat) : zer n 0 = 0 := by
  induction n with
  | zero => rfl
  | succ n ih => rw [zer, stp8_zero, ih]
theorem zer_lt {a : Nat} (h : a < U32) (n : Nat) : zer n a < U32 := by
  induction n generalizing a with
  | zero => exact h
  | succ n ih => exact ih (stp8_lt h)
theorem zer_one (a : Nat) : zer 1 a = stp8 a := rfl

/-- Of a number is made what is made of its first k bits. -/
def thr (z : Nat → Nat) (r : Nat) : Nat → Nat
  | 0 => 0
  | k + 1 => thr z r k ^^^ (if (r / 2 ^ k) % 2 = 1 then z k else 0)
theorem bit_split (r k : Nat) : r % 2 ^ (k + 1) = r % 2 ^ k ^^^ (if (r / 2 ^ k) % 2 = 1 then 2 ^ k else 0) := by
  have h : (r / 2 ^ k) % 2 = (r.testBit k).toNat := by
    rw [Nat.testBit_eq_decide_div_mod_eq]
    rcases Nat.mod_two_eq_zero_or_one (r / 2 ^ k) with h | h <;> simp [h]
  rw [h]
  apply Nat.eq_of_testBit_eq
  intro i
  rw [Nat.testBit_xor, Nat.testBit_mod_two_pow, Nat.testBit_mod_two_pow]
  by_cases hi : i = k
  · subst hi
    cases r.testBit i <;> simp [Nat.testBit_two_pow_self]
  · have h2 : (2 ^ k).testBit i = false := by rw [Nat.testBit_two_pow]; simp; omega
    cases hb : r.testBit k
    · by_cases hlt : i < k
      · simp [hlt, Nat.lt_succ_of_lt hlt]
      · simp [hlt, show ¬ i < k + 1 by omega]
    · by_cases hlt : i < k
      · simp [hlt, Nat.lt_succ_of_lt hlt, h2]
      · simp [hlt, show ¬ i < k + 1 by omega, h2]
theorem thr_lin (f : Nat → Nat) (h0 : f 0 = 0) (hx : ∀ a b, f (a ^^^ b) = f a ^^^ f b) (r k : Nat) : thr (fun i => f (2 ^ i)) r k = f (r % 2 ^ k) := by
  induction k with
  | zero => simp [thr, Nat.mod_one, h0]
  | succ k ih =>
    rw [bit_split, hx, thr, ih]
    split <;> simp [h0]
theorem thr_zer (e r : Nat) (hr : r < U32) : thr (fun i => zer e (2 ^ i)) r 32 = zer e r := by
  rw [thr_lin (zer e) (zer_zero e) (zer_xor e), Nat.mod_eq_of_lt (by unfold U32 at hr; exact hr)]
theorem thr_lt {z : Nat → Nat} (hz : ∀ i, i < 32 → z i < U32) (r : Nat) : ∀ k, k ≤ 32 → thr z r k < U32 := by
  intro k hk
  induction k with
  | zero => exact Nat.lt_of_lt_of_le (Nat.zero_lt_succ 0) (by decide)
  | succ k ih =>
    refine xor_lt (ih (by omega)) ?_
    split
    · exact hz k (by omega)
    · decide
theorem pow_lt32 {i : Nat} (h : i < 32) : 2 ^ i < U32 := by
  have : 2 ^ i < 2 ^ 32 := Nat.pow_lt_pow_right (by omega) h
  exact this
theorem tk_zero (i : Nat) : tk (2 ^ i) 0 = zer 1 (2 ^ i) := by
  unfold tk
  rw [zer_one]
  simp
theorem crc_one (r : Nat) : crc r [0] = zer 1 r := by
  unfold crc tk
  rw [zer_one]
  simp
/-- The number that Join tells. -/
def jn (a b n : Nat) : Nat := zer n a ^^^ b
theorem jn_lt {a b : Nat} (ha : a < U32) (hb : b < U32) (n : Nat) : jn a b n < U32 := xor_lt (zer_lt ha n) hb
theorem join_even {e l a : Nat} (h : l % 2 = 0) : zer ((e + e) * (l / 2)) a = zer (e * l) a := by
  rw [← Nat.mul_two, Nat.mul_assoc, show 2 * (l / 2) = l by omega]
theorem join_odd {e l a : Nat} (h : l % 2 = 1) : zer ((e + e) * (l / 2)) (zer e a) = zer (e * l) a := by
  rw [← zer_add, ← Nat.mul_two, Nat.mul_assoc]
  congr 1
  have : l = 2 * (l / 2) + 1 := by omega
  conv => rhs; rw [this]
  rw [Nat.mul_add, Nat.mul_one]

theorem mask_val (x b : Nat) (hx : x < U32) (hb : b < 2) : bits BinOp.and IntKind.u32 (x : Int) (IntKind.u32.wrap (-(b : Int))) = ((if b = 1 then x else 0 : Nat) : Int) := by
  rcases (show b = 0 ∨ b = 1 by omega) with rfl | rfl
  · rw [show IntKind.u32.wrap (-((0 : Nat) : Int)) = 0 by decide, and_zero x hx]
    rfl
  · rw [show IntKind.u32.wrap (-((1 : Nat) : Int)) = 4294967295 by decide, and_ones x hx]
    rfl
theorem of_val (o x r k : Nat) (ho : o < U32) (hx : x < U32) (hr : r < U32) : bits BinOp.xor IntKind.u32 (o : Int) (bits BinOp.and IntKind.u32 (x : Int) (-bits BinOp.and IntKind.u32 ((r : Int) / 2 ^ k) 1 % 4294967296)) = ((o ^^^ (if (r / 2 ^ k) % 2 = 1 then x else 0) : Nat) : Int) := by
  have hq : r / 2 ^ k < U32 := Nat.lt_of_le_of_lt (Nat.div_le_self _ _) hr
  rw [show (r : Int) / 2 ^ k = ((r / 2 ^ k : Nat) : Int) by simp, and_one _ hq]
  have hw := mask_val x (r / 2 ^ k % 2) hx (by omega)
  rw [IntKind.wrap_u32'] at hw
  rw [hw]
  refine xor_u32 _ _ ho ?_
  split
  · exact hx
  · decide

theorem tmod_bit (r k : Nat) : ((r : Int) / 2 ^ k).tmod 2 = ((r / 2 ^ k % 2 : Nat) : Int) := by
  rw [show (r : Int) / 2 ^ k = ((r / 2 ^ k : Nat) : Int) by simp]
  generalize r / 2 ^ k = v
  rw [Int.tmod_eq_emod_of_nonneg (Int.natCast_nonneg v)]
  omega

end Go.Proofs.Ytoipkpndfgcmcaa

namespace Go.Proofs.Ytoipkpndfgcmcaa
open Go.RowKit
theorem quiet_add {P : Program} {f : FuncId} {args : Array Value} {w : World} {a n : Nat} {v : Value}
    (h : Calls P f args (w.drewN (a + n)) fun e w' => e = .returned v ∧ ∃ m, w' = (w.drewN (a + n)).drewN m) :
    Calls P f args (w.drewN (a + n)) fun e w'' => e = .returned v ∧ ∃ m, w'' = w.drewN (a + m) :=
  h.mono fun _ _ ⟨he, m, hm⟩ => ⟨he, n + m, by rw [hm, World.drewN_drewN, Nat.add_assoc]⟩
theorem quiet_add_same {P : Program} {f : FuncId} {args : Array Value} {w : World} {a n : Nat} {v : Value}
    (h : Calls P f args (w.drewN (a + n)) fun e w' => e = .returned v ∧ w' = w.drewN (a + n)) :
    Calls P f args (w.drewN (a + n)) fun e w'' => e = .returned v ∧ ∃ m, w'' = w.drewN (a + m) :=
  h.mono fun _ _ ⟨he, hm⟩ => ⟨he, n, hm⟩
theorem quiet_add_left {P : Program} {f : FuncId} {args : Array Value} {w : World} {a n : Nat} {v : Value}
    (h : Calls P f args (w.drewN (a + n)) fun e w' => e = .returned v ∧ w.drewN (a + n) = w') :
    Calls P f args (w.drewN (a + n)) fun e w'' => e = .returned v ∧ ∃ m, w'' = w.drewN (a + m) :=
  h.mono fun _ _ ⟨he, hm⟩ => ⟨he, n, hm.symm⟩
theorem quiet_left {P : Program} {f : FuncId} {args : Array Value} {w : World} {n : Nat} {v : Value}
    (h : Calls P f args (w.drewN n) fun e w' => e = .returned v ∧ w.drewN n = w') : Calls P f args (w.drewN n) fun e w'' => e = .returned v ∧ ∃ m, w'' = w.drewN m :=
  h.mono fun _ _ ⟨he, hm⟩ => ⟨he, n, hm.symm⟩
end Go.Proofs.Ytoipkpndfgcmcaa
