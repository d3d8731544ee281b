/-
  A worker of Parts, whole: from its birth to its release. The conditions stand in each theorem.
-/
import Derived.Test.YtoipkpndfgcmcaaCvWork
namespace Go.Proofs.Ytoipkpndfgcmcaa.Crew
open Go Go.Conc Go.ConcN Go.RowKit Go.Conc.Lib Go.ConcR.Gen Go.ConcN.Gen Go.Proofs.Ytoipkpndfgcmcaa.Veils
open Go.ConcR (KK wgBlock WgAt stA smA rd wr mk Payload DC0)
set_option linter.unusedVariables false
set_option linter.unusedSectionVars false
set_option linter.unusedSimpArgs false
section
variable {main : Bool} {b : Frame} {a : Act} {kk : List Item} {cs : List Frame} {w : World} {ops : Array Oper} {i : Nat} {rest : List Nat} {o : Oper}
theorem stepG_alloc99 (ho : ops[i]? = some o) (hw : Region.wanted o (yielded ops a.tmps) = true) (hk : b.kind ≠ .early) (hop : o.op = .alloc 99) :
    stepG Try.prog main (G (b.at a (.inRegion ops (i :: rest) :: kk)) cs) w = .go (G (b.at (a.put o.dst (.pointer (some ⟨w.heap.size, 0, none⟩))) (.inRegion ops rest :: kk)) cs) (w.alloc (.cells (tabl 0) 99)) #[] := by
  have hr : (execOp a.eval o).run Try.prog w = .ok (.value (.pointer (some ⟨w.heap.size, 0, none⟩))) (w.alloc (.cells (tabl 0) 99)) := by
    unfold execOp
    simp only [hop, tabl_zero]
    simp [go_sem]
  have he : (execOp a.eval o).events Try.prog w #[] = #[] := by
    unfold execOp
    simp only [hop]
    simp [go_sem]
  rw [stepG_value ho hw hk hr]
  unfold listed
  rw [he, seen_none]
end
theorem not_u32 (s : Nat) (h : s < U32) : bits BinOp.xor IntKind.u32 IntKind.u32.max (s : Int) = ((s ^^^ ONES : Nat) : Int) := by
  rw [show IntKind.u32.max = ((ONES : Nat) : Int) by decide, xor_u32 _ _ ones_lt h, Nat.xor_comm]
section
variable {L : Lay} {Low j K M N q n c mT : Nat} {Rd : Nat → Prop} {F : World → Prop} {A : Option Addr} {bs : List UInt8} {v : Value}
  {b₀ : Frame} {a₀ : Act} {ops₀ : Array Oper} {i₀ : Nat} {rest₀ : List Nat} {k₀ : List Item} {cs : List Frame}
set_option maxRecDepth 100000 in
set_option maxHeartbeats 4000000 in
/-- Sum, from its entry to the making of its array; behind that, to its return. -/
theorem sumQ (hq : TakeQ N q) (hL : L.Ok) (heH : L.eH = 99) (hn : n ≤ N)
    (hFr : ∀ w w', F w → RX L Low none j w w' → F w') (hFs : ∀ g w k u T, F w → L.N0 ≤ g → Blk w g L.eH T → F (w.setCell ⟨g, k, none⟩ u)) (hFB : ∀ w, F w → Bys L Low Rd A n (bs.map bv) w ∧ L.N0 ≤ w.heap.size)
    (hM : mT + q + 16 ≤ M)
    (hT : ∀ g w, F w → Goes Try.prog false (RX L Low (some g) j) (DX L Rd (some g) j) (AtEnd1 Try.prog L K j v) mT (G (b₀.at (a₀.put ((ops₀[i₀]?).bind (·.dst)) (.int .u32 (upd 0 bs : Nat))) (.inRegion ops₀ rest₀ :: k₀)) cs) w)
    (w : World) (hF : F w) :
    Goes Try.prog false (RX L Low none j) (DX L Rd none j) (AtMk Try.prog L M K Low Rd j v) 24
      (G ((base 24).at ⟨#[.slice A n c, undef, undef, undef, undef], []⟩ [.code (bodyOf Try.f24)]) (b₀.at a₀ (.inRegion ops₀ (i₀ :: rest₀) :: k₀) :: cs)) w := by
  obtain ⟨s0, hs0⟩ : ∃ s0 : Nat, ONES = s0 := ⟨_, rfl⟩
  have hsl : s0 < U32 := by rw [← hs0]; exact ones_lt
  have e1 : bits BinOp.xor IntKind.u32 IntKind.u32.max 0 = (s0 : Int) := by
    have := not_u32 0 (by unfold U32; omega)
    rw [Nat.zero_xor, hs0] at this
    exact this
  obtain ⟨y, hy⟩ : ∃ y, crc s0 bs = y := ⟨_, rfl⟩
  have hyl : y < U32 := by rw [← hy]; exact crc_lt hsl bs
  have e2 := not_u32 y hyl
  have hU : upd 0 bs = y ^^^ ONES := by unfold upd; rw [Nat.zero_xor, hs0, hy, ← hs0]
  rw [← hU] at e2
  obtain ⟨u, hu⟩ : ∃ u, upd 0 bs = u := ⟨_, rfl⟩
  rw [hu] at e2 hT
  clear hU hu hyl
  have e0 : (if IntKind.u32.signed = true then (-1 : Int) else IntKind.u32.max) = IntKind.u32.max := rfl
  simp only [bodyOf, Try.f24, Option.getD_some]
  refine Goes.step rfl (fun _ h₁ => ?_)
  replace hF := (hFr _ _) hF h₁
  clear h₁
  rw [stepG_seq]
  simp only [goes_go]
  refine ⟨by refine dx_none ?_; intro e he; simp at he, ?_⟩
  refine Goes.step rfl (fun _ h₁ => ?_)
  replace hF := (hFr _ _) hF h₁
  clear h₁
  rw [stepG_region]
  simp only [goes_go, List.size_toArray, List.length_cons, List.length_nil, Nat.reduceAdd, Nat.zero_add, List.range, List.range.loop]
  refine ⟨by refine dx_none ?_; intro e he; simp at he, ?_⟩
  refine Goes.step rfl (fun _ h₁ => ?_)
  replace hF := (hFr _ _) hF h₁
  clear h₁
  refine goes_oper_k rfl rfl (by k_ne) (fun K hK => ?_)
  go_simp
  refine hK _ _ ⟨?_, ?_⟩
  · refine dx_none ?_; intro e he; have hm := mem_listed he; simp [go_sem, *] at hm
  clear hK K
  try w_num
  refine Goes.step rfl (fun _ h₁ => ?_)
  replace hF := (hFr _ _) hF h₁
  clear h₁
  rw [stepG_region_end]
  simp only [goes_go]
  refine ⟨by refine dx_none ?_; intro e he; simp at he, ?_⟩
  refine Goes.step rfl (fun _ h₁ => ?_)
  replace hF := (hFr _ _) hF h₁
  clear h₁
  rw [stepG_seq]
  simp only [goes_go]
  refine ⟨by refine dx_none ?_; intro e he; simp at he, ?_⟩
  refine Goes.step rfl (fun _ h₁ => ?_)
  replace hF := (hFr _ _) hF h₁
  clear h₁
  rw [stepG_region]
  simp only [goes_go, List.size_toArray, List.length_cons, List.length_nil, Nat.reduceAdd, Nat.zero_add, List.range, List.range.loop]
  refine ⟨by refine dx_none ?_; intro e he; simp at he, ?_⟩
  refine Goes.step rfl (fun _ h₁ => ?_)
  replace hF := (hFr _ _) hF h₁
  clear h₁
  refine goes_oper_k rfl rfl (by k_ne) (fun K hK => ?_)
  go_simp
  refine hK _ _ ⟨?_, ?_⟩
  · refine dx_none ?_; intro e he; have hm := mem_listed he; simp [go_sem, *] at hm
  clear hK K
  try w_num
  refine Goes.step rfl (fun _ h₁ => ?_)
  replace hF := (hFr _ _) hF h₁
  clear h₁
  refine goes_call rfl rfl (by k_ne) rfl Try.func26 (by rfl) rfl ⟨by refine dx_none ?_; intro e he; simp at he, ?_⟩
  walk_nrmf Try.f26
  refine Goes.step rfl (fun _ h₁ => ?_)
  replace hF := (hFr _ _) hF h₁
  clear h₁
  rw [stepG_seq]
  simp only [goes_go]
  refine ⟨by refine dx_none ?_; intro e he; simp at he, ?_⟩
  refine Goes.step rfl (fun _ h₁ => ?_)
  replace hF := (hFr _ _) hF h₁
  clear h₁
  rw [stepG_region]
  simp only [goes_go, List.size_toArray, List.length_cons, List.length_nil, Nat.reduceAdd, Nat.zero_add, List.range, List.range.loop]
  refine ⟨by refine dx_none ?_; intro e he; simp at he, ?_⟩
  refine Goes.step rfl (fun _ h₁ => ?_)
  replace hF := (hFr _ _) hF h₁
  clear h₁
  refine goes_oper_k rfl rfl (by k_ne) (fun K hK => ?_)
  go_simp
  refine hK _ _ ⟨?_, ?_⟩
  · refine dx_none ?_; intro e he; have hm := mem_listed he; simp [go_sem, *] at hm
  clear hK K
  try w_num
  refine Goes.step rfl (fun _ h₁ => ?_)
  replace hF := (hFr _ _) hF h₁
  clear h₁
  rw [stepG_region_end]
  simp only [goes_go]
  refine ⟨by refine dx_none ?_; intro e he; simp at he, ?_⟩
  refine Goes.step rfl (fun _ h₁ => ?_)
  replace hF := (hFr _ _) hF h₁
  clear h₁
  rw [stepG_seq]
  simp only [goes_go]
  refine ⟨by refine dx_none ?_; intro e he; simp at he, ?_⟩
  refine Goes.step rfl (fun _ h₁ => ?_)
  replace hF := (hFr _ _) hF h₁
  clear h₁
  rw [stepG_region]
  simp only [goes_go, List.size_toArray, List.length_cons, List.length_nil, Nat.reduceAdd, Nat.zero_add, List.range, List.range.loop]
  refine ⟨by refine dx_none ?_; intro e he; simp at he, ?_⟩
  refine Goes.step rfl (fun _ h₁ => ?_)
  replace hF := (hFr _ _) hF h₁
  clear h₁
  refine goes_oper_k rfl rfl (by k_ne) (fun K hK => ?_)
  go_simp
  refine hK _ _ ⟨?_, ?_⟩
  · refine dx_none ?_; intro e he; have hm := mem_listed he; simp [go_sem, *] at hm
  clear hK K
  try w_num
  refine Goes.step rfl (fun _ h₁ => ?_)
  replace hF := (hFr _ _) hF h₁
  clear h₁
  refine goes_oper_k rfl rfl (by k_ne) (fun K hK => ?_)
  go_simp
  refine hK _ _ ⟨?_, ?_⟩
  · refine dx_none ?_; intro e he; have hm := mem_listed he; simp [go_sem, *] at hm
  clear hK K
  try w_num
  try simp only [e0, e1]
  refine Goes.step rfl (fun _ h₁ => ?_)
  replace hF := (hFr _ _) hF h₁
  clear h₁
  refine goes_oper_k rfl rfl (by k_ne) (fun K hK => ?_)
  go_simp
  refine hK _ _ ⟨?_, ?_⟩
  · refine dx_none ?_; intro e he; have hm := mem_listed he; simp [go_sem, *] at hm
  clear hK K
  try w_num
  refine Goes.step rfl (fun _ h₁ => ?_)
  replace hF := (hFr _ _) hF h₁
  clear h₁
  refine goes_call rfl rfl (by k_ne) rfl Try.func48 (by rfl) rfl ⟨by refine dx_none ?_; intro e he; simp at he, ?_⟩
  walk_nrmf Try.f48
  refine Goes.step rfl (fun _ h₁ => ?_)
  replace hF := (hFr _ _) hF h₁
  clear h₁
  rw [stepG_seq]
  simp only [goes_go]
  refine ⟨by refine dx_none ?_; intro e he; simp at he, ?_⟩
  refine Goes.step rfl (fun _ h₁ => ?_)
  replace hF := (hFr _ _) hF h₁
  clear h₁
  rw [stepG_region]
  simp only [goes_go, List.size_toArray, List.length_cons, List.length_nil, Nat.reduceAdd, Nat.zero_add, List.range, List.range.loop]
  refine ⟨by refine dx_none ?_; intro e he; simp at he, ?_⟩
  refine Goes.step rfl (fun _ h₁ => ?_)
  replace hF := (hFr _ _) hF h₁
  clear h₁
  refine goes_oper_k rfl rfl (by k_ne) (fun K hK => ?_)
  go_simp
  refine hK _ _ ⟨?_, ?_⟩
  · refine dx_none ?_; intro e he; have hm := mem_listed he; simp [go_sem, *] at hm
  clear hK K
  try w_num
  refine Goes.step rfl (fun _ h₁ => ?_)
  replace hF := (hFr _ _) hF h₁
  clear h₁
  rw [stepG_region_end]
  simp only [goes_go]
  refine ⟨by refine dx_none ?_; intro e he; simp at he, ?_⟩
  refine Goes.step rfl (fun _ h₁ => ?_)
  replace hF := (hFr _ _) hF h₁
  clear h₁
  rw [stepG_seq]
  simp only [goes_go]
  refine ⟨by refine dx_none ?_; intro e he; simp at he, ?_⟩
  refine Goes.step rfl (fun _ h₁ => ?_)
  replace hF := (hFr _ _) hF h₁
  clear h₁
  rw [stepG_region]
  simp only [goes_go, List.size_toArray, List.length_cons, List.length_nil, Nat.reduceAdd, Nat.zero_add, List.range, List.range.loop]
  refine ⟨by refine dx_none ?_; intro e he; simp at he, ?_⟩
  refine Goes.stop (fun w₁ h₁ => ?_)
  replace hF := hFr _ _ hF h₁
  clear h₁
  have hB := hFB _ hF
  refine ⟨rfl, _, tabl 0, (stepG_alloc99 rfl rfl (by k_ne) rfl).trans (by rw [heH]), ?_⟩
  have hX : FX L Low j w₁.heap.size F := ⟨fun w w' h r => hFr _ _ h r.weak, fun w k u T h h1 h2 => hFs _ _ _ _ _ h h1 h2⟩
  have hgC : w₁.heap.size ≠ L.C := by have := hL.hC; omega
  have rA : RX L Low none j w₁ (w₁.alloc (.cells (tabl 0) L.eH)) := RX.of_alloc w₁ _ (by have := hL.hW; omega) (by have := hL.hC; omega) (fun r e => by cases e)
  have hF2 : TH L Low Rd F w₁.heap.size (tabl 0) A n (bs.map bv) (w₁.alloc (.cells (tabl 0) L.eH)) := ⟨hFr _ _ hF rA, hB.1.rely rA, Blk.new _ _ _, hB.2⟩
  generalize w₁.heap.size = g at hX hgC hF2 ⊢
  generalize w₁.alloc (.cells (tabl 0) L.eH) = w₂ at hF2 ⊢
  clear hF hB rA
  have hk := hq L Low j Rd F g s0 n c A bs
  simp only [bodyOf, Try.f48, Option.getD_some, seqTail] at hk
  refine Goes.mono (n := (mT + 15) + q + 1) ?_ (by omega)
  walk_nrm
  refine Goes.step rfl (fun _ h₁ => ?_)
  replace hF2 := (TH.rely hX) hF2 h₁
  clear h₁
  rw [stepG_region_end]
  simp only [goes_go]
  refine ⟨by refine dx_none ?_; intro e he; simp at he, ?_⟩
  refine wpC_goes (hk _ hX hL hgC hsl hn hF2) rfl (by k_ne) (fun e a w₃ hh => ?_)
  obtain ⟨rfl, hd, h4, hF3⟩ := hh
  intro todo
  clear hF2 hk
  rw [hy] at h4
  refine Goes.step rfl (fun _ h₁ => ?_)
  replace hF3 := (TH.rely hX) hF3 h₁
  clear h₁
  refine goes_leave1 rfl hd Try.func48 rfl ⟨by refine dx_none ?_; intro e he; simp at he, ?_⟩
  rw [h4]
  walk_nrm
  refine Goes.step rfl (fun _ h₁ => ?_)
  replace hF3 := (TH.rely hX) hF3 h₁
  clear h₁
  refine goes_oper_k rfl rfl (by k_ne) (fun K hK => ?_)
  go_simp
  refine hK _ _ ⟨?_, ?_⟩
  · refine dx_none ?_; intro e he; have hm := mem_listed he; simp [go_sem, *] at hm
  clear hK K
  try w_num
  try simp only [e0, e2]
  refine Goes.step rfl (fun _ h₁ => ?_)
  replace hF3 := (TH.rely hX) hF3 h₁
  clear h₁
  refine goes_oper_k rfl rfl (by k_ne) (fun K hK => ?_)
  go_simp
  refine hK _ _ ⟨?_, ?_⟩
  · refine dx_none ?_; intro e he; have hm := mem_listed he; simp [go_sem, *] at hm
  clear hK K
  try w_num
  refine Goes.step rfl (fun _ h₁ => ?_)
  replace hF3 := (TH.rely hX) hF3 h₁
  clear h₁
  rw [stepG_region_end]
  simp only [goes_go]
  refine ⟨by refine dx_none ?_; intro e he; simp at he, ?_⟩
  refine Goes.step rfl (fun _ h₁ => ?_)
  replace hF3 := (TH.rely hX) hF3 h₁
  clear h₁
  rw [stepG_ret']
  simp only [goes_go]
  refine ⟨by refine dx_none ?_; intro e he; simp at he, ?_⟩
  refine Goes.step rfl (fun _ h₁ => ?_)
  replace hF3 := (TH.rely hX) hF3 h₁
  clear h₁
  refine goes_leave1 rfl rfl Try.func26 rfl ⟨by refine dx_none ?_; intro e he; simp at he, ?_⟩
  walk_nrm
  refine Goes.step rfl (fun _ h₁ => ?_)
  replace hF3 := (TH.rely hX) hF3 h₁
  clear h₁
  refine goes_oper_k rfl rfl (by k_ne) (fun K hK => ?_)
  go_simp
  refine hK _ _ ⟨?_, ?_⟩
  · refine dx_none ?_; intro e he; have hm := mem_listed he; simp [go_sem, *] at hm
  clear hK K
  try w_num
  refine Goes.step rfl (fun _ h₁ => ?_)
  replace hF3 := (TH.rely hX) hF3 h₁
  clear h₁
  rw [stepG_region_end]
  simp only [goes_go]
  refine ⟨by refine dx_none ?_; intro e he; simp at he, ?_⟩
  refine Goes.step rfl (fun _ h₁ => ?_)
  replace hF3 := (TH.rely hX) hF3 h₁
  clear h₁
  rw [stepG_ret']
  simp only [goes_go]
  refine ⟨by refine dx_none ?_; intro e he; simp at he, ?_⟩
  refine Goes.step rfl (fun _ h₁ => ?_)
  replace hF3 := (TH.rely hX) hF3 h₁
  clear h₁
  refine goes_leave1 rfl rfl Try.func24 rfl ⟨by refine dx_none ?_; intro e he; simp at he, ?_⟩
  exact Goes.mono (hT g _ hF3.f) (by omega)
end
end Go.Proofs.Ytoipkpndfgcmcaa.Crew
