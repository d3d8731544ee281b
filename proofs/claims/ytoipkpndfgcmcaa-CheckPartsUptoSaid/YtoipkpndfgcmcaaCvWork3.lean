/-
  A worker of Parts, whole: from its birth, whatever order its region draws. The conditions stand in each theorem.
-/
import Derived.Test.YtoipkpndfgcmcaaCvWork2
namespace Go.Proofs.Ytoipkpndfgcmcaa.Crew
open Go Go.Conc Go.ConcN Go.RowKit Go.Conc.Lib Go.ConcR.Gen Go.ConcN.Gen Go.Proofs.Ytoipkpndfgcmcaa.Veils
open Go.ConcR (KK wgBlock WgAt stA smA rd wr mk Payload DC0)
set_option linter.unusedVariables false
set_option linter.unusedSectionVars false
set_option linter.unusedSimpArgs false
section
variable {L : Lay} {Low j n c : Nat} {Rd : Nat → Prop} {p : Pl} {A : Option Addr} {bs : List UInt8} {w : World}
theorem Sol.set_ {g b k : Nat} {T : Array Value} (h : Sol L Low Rd b w) (hg : L.N0 ≤ g) (hb : Blk w g L.eH T) (u : Value) : Sol L Low Rd b (w.setCell ⟨g, k, none⟩ u) ∧ ∀ o, (w.setCell ⟨g, k, none⟩ u).cell? ⟨b, o, none⟩ = w.cell? ⟨b, o, none⟩ := by
  have hA := aside_setCell w ⟨g, k, none⟩ u
  have hne : b ≠ g := fun e => h.nH (by rw [e]; exact ⟨hg, _, hb⟩)
  exact ⟨⟨h.rd, h.low, by rw [hA.size]; exact h.lt, h.nC, h.nW, fun x => h.nH ((half_setCell hb k u b).1 x)⟩, cell_of_block (hA.block b hne)⟩
theorem WK.set_ (hL : L.Ok) (h : WK L Low Rd p j n c A bs w) {g k : Nat} {T : Array Value} (hg : L.N0 ≤ g) (hb : Blk w g L.eH T) (u : Value) : WK L Low Rd p j n c A bs (w.setCell ⟨g, k, none⟩ u) := by
  have hA := aside_setCell w ⟨g, k, none⟩ u
  have hC : L.C ≠ g := by have := hL.hC; omega
  have hW : L.Wg ≠ g := by have := hL.hW; omega
  refine ⟨(h.sG.set_ hg hb u).1, (h.sF.set_ hg hb u).1, (h.sP.set_ hg hb u).1, (h.sS.set_ hg hb u).1, (h.sI.set_ hg hb u).1, ((h.sG.set_ hg hb u).2 0).trans h.cG, ((h.sF.set_ hg hb u).2 0).trans h.cF, ((h.sP.set_ hg hb u).2 0).trans h.cP, ((h.sS.set_ hg hb u).2 0).trans h.cS, ((h.sI.set_ hg hb u).2 0).trans h.cI, h.bys.set_ ⟨hg, _, hb⟩ hb k u, ?_, ?_, by rw [hA.size]; exact h.n0⟩
  · obtain ⟨st, sm, hl⟩ := h.live
    exact ⟨st, sm, hl.of_block (hA.block L.Wg hW)⟩
  · obtain ⟨cs, h1, h2⟩ := h.pay
    exact ⟨cs, (hA.block L.C hC).trans h1, h2⟩
end
def opsOf : Code → Array Oper
  | .region _ ops _ => ops
  | _ => #[]
theorem orders54 : orders .any (opsOf (bodyOf Try.f54)) 6 (Array.replicate 6 false) [] = [[0, 1, 2, 3, 4, 5], [0, 2, 1, 3, 4, 5], [0, 2, 3, 1, 4, 5], [1, 0, 2, 3, 4, 5], [1, 2, 0, 3, 4, 5], [1, 2, 3, 0, 4, 5], [2, 0, 1, 3, 4, 5], [2, 0, 3, 1, 4, 5], [2, 1, 0, 3, 4, 5], [2, 1, 3, 0, 4, 5], [2, 3, 0, 1, 4, 5], [2, 3, 1, 0, 4, 5]] := by kernel_rfl
theorem mixed : Try.prog.follows .mixedOrders = true := by kernel_rfl
section
variable {L : Lay} {Low j K M N q n c : Nat} {Rd : Nat → Prop} {p : Pl} {A : Option Addr} {bs : List UInt8}
set_option maxRecDepth 100000 in
set_option maxHeartbeats 8000000 in
/-- The worker's whole script. -/
theorem workQ (hq : TakeQ N q) (hL : L.Ok) (hty : L.ty = 96) (heH : L.eH = 99) (hK : 24 ≤ K) (hj : j < L.n) (hn : n ≤ N) (hM : 60 + q ≤ M) (w : World) (hF : WK L Low Rd p j n c A bs w) :
    Goes Try.prog false (RX L Low none j) (DX L Rd none j) (AtMk Try.prog L M K Low Rd j (.int .u32 (upd 0 bs : Nat))) 60 (born Try.prog (dcallv 61 #[.pointer (some ⟨p.bG, 0, none⟩), .pointer (some ⟨p.bF, 0, none⟩)])) w := by
  have hlt : (j : Int) < (L.n : Int) := by omega
  have hsu : Try.prog.underlying 87 = some (.slice (Try.prog.elem 87)) := by kernel_rfl
  have hS := fun (b₀ : Frame) (a₀ : Act) (ops₀ : Array Oper) (i₀ : Nat) (rest₀ : List Nat) (k₀ : List Item) (cs : List Frame) (mT : Nat) => sumQ (L := L) (Low := Low) (j := j) (K := K) (M := M) (N := N) (q := q) (n := n) (c := c) (mT := mT) (Rd := Rd) (F := WK L Low Rd p j n c A bs) (A := A) (bs := bs) (v := .int .u32 (upd 0 bs : Nat)) (b₀ := b₀) (a₀ := a₀) (ops₀ := ops₀) (i₀ := i₀) (rest₀ := rest₀) (k₀ := k₀) (cs := cs) hq hL heH hn (fun _ _ h r => h.rely r) (fun _ _ _ _ _ h hg hb => h.set_ hL hg hb _) (fun _ h => ⟨h.bys, h.n0⟩)
  simp only [bodyOf, Try.f24, Option.getD_some] at hS
  refine Goes.step (n := 59) rfl (fun _ h₁ => ?_)
  replace hF := WK.rely hF h₁
  clear h₁
  rw [born_step _ rfl]
  simp only [goes_go]
  refine ⟨by refine dx_none ?_; intro e he; simp at he, ?_⟩
  simp only [bodyOf, Try.f61, Option.getD_some]
  walk_nrm
  refine Goes.step rfl (fun _ h₁ => ?_)
  replace hF := WK.rely hF h₁
  clear h₁
  rw [stepG_seq]
  simp only [goes_go]
  refine ⟨by refine dx_none ?_; intro e he; simp at he, ?_⟩
  refine Goes.step rfl (fun _ h₁ => ?_)
  replace hF := WK.rely hF h₁
  clear h₁
  rw [stepG_region]
  simp only [goes_go, List.size_toArray, List.length_cons, List.length_nil, Nat.reduceAdd, Nat.zero_add, List.range, List.range.loop]
  refine ⟨by refine dx_none ?_; intro e he; simp at he, ?_⟩
  have hmf : ∀ (fn : Fn) (first cap : Array Value) (w : World), (Instr.makeFunc fn first cap).run Try.prog w = .ok (.func fn first cap) w := fun _ _ _ _ => rfl
  have hme : ∀ (fn : Fn) (first cap : Array Value) (w : World) (es : Array Event), (Instr.makeFunc fn first cap).events Try.prog w es = es := fun _ _ _ _ _ => rfl
  refine Goes.step rfl (fun _ h₁ => ?_)
  replace hF := WK.rely hF h₁
  clear h₁
  refine goes_oper_k rfl rfl (by k_ne) (fun K hK => ?_)
  go_simp
  refine hK _ _ ⟨?_, ?_⟩
  · refine dx_none ?_; intro e he; have hm := mem_listed he; simp [go_sem, *] at hm
  clear hK K
  try w_num
  clear hmf hme
  refine Goes.step rfl (fun _ h₁ => ?_)
  replace hF := WK.rely hF h₁
  clear h₁
  rw [stepG_deferv rfl rfl (by k_ne) rfl rfl]
  simp only [goes_go]
  refine ⟨by refine dx_none ?_; intro e he; simp at he, ?_⟩
  walk_nrm
  refine Goes.step rfl (fun _ h₁ => ?_)
  replace hF := WK.rely hF h₁
  clear h₁
  rw [stepG_region_end]
  simp only [goes_go]
  refine ⟨by refine dx_none ?_; intro e he; simp at he, ?_⟩
  refine Goes.step rfl (fun _ h₁ => ?_)
  replace hF := WK.rely hF h₁
  clear h₁
  rw [stepG_region]
  simp only [goes_go, List.size_toArray, List.length_cons, List.length_nil, Nat.reduceAdd, Nat.zero_add, List.range, List.range.loop]
  refine ⟨by refine dx_none ?_; intro e he; simp at he, ?_⟩
  refine Goes.step rfl (fun _ h₁ => ?_)
  replace hF := WK.rely hF h₁
  clear h₁
  refine goes_oper_k rfl rfl (by k_ne) (fun Kx hKx => ?_)
  have hc := hF.cF
  go_simp
  refine hKx _ _ ⟨?_, ?_⟩
  · refine dx_read ?_; intro e he; have hm := mem_listed he; simp [go_sem, *] at hm
    all_goals (subst hm; exact hF.sF.ev _)
  clear hKx Kx hc
  refine Goes.step rfl (fun _ h₁ => ?_)
  replace hF := WK.rely hF h₁
  clear h₁
  refine goes_callv rfl rfl (by k_ne) rfl rfl Try.func54 (by rfl) rfl ⟨by refine dx_none ?_; intro e he; simp at he, ?_⟩
  walk_nrmf Try.f54
  refine Goes.step rfl (fun wx h₁ => ?_)
  replace hF := WK.rely hF h₁
  clear h₁
  rw [stepG_region_draw]
  simp only [goes_go]
  refine ⟨dx_draw _, ?_⟩
  replace hF := WK.rely hF (RX.at (L := L) (Low := Low) (i := j) (b := none) wx (wx.drawn + 1))
  have ho := fun t => orders54 ▸ orders_mem (opsOf (bodyOf Try.f54)) t
  rw [mixed]
  generalize hord : Region.schedule true _ _ = ord
  replace ho : ord ∈ [[0, 1, 2, 3, 4, 5], [0, 2, 1, 3, 4, 5], [0, 2, 3, 1, 4, 5], [1, 0, 2, 3, 4, 5], [1, 2, 0, 3, 4, 5], [1, 2, 3, 0, 4, 5], [2, 0, 1, 3, 4, 5], [2, 0, 3, 1, 4, 5], [2, 1, 0, 3, 4, 5], [2, 1, 3, 0, 4, 5], [2, 3, 0, 1, 4, 5], [2, 3, 1, 0, 4, 5]] := by rw [← hord]; exact ho _
  clear hord
  simp only [List.mem_cons, List.not_mem_nil, or_false] at ho
  rcases ho with rfl | rfl | rfl | rfl | rfl | rfl | rfl | rfl | rfl | rfl | rfl | rfl
  · -- [0, 1, 2, 3, 4, 5]
    refine Goes.step rfl (fun _ h₁ => ?_)
    replace hF := WK.rely hF h₁
    clear h₁
    refine goes_oper_k rfl rfl (by k_ne) (fun Kx hKx => ?_)
    have hc := hF.cS
    go_simp
    refine hKx _ _ ⟨?_, ?_⟩
    · refine dx_read ?_; intro e he; have hm := mem_listed he; simp [go_sem, *] at hm
      all_goals (subst hm; exact hF.sS.ev _)
    clear hKx Kx hc
    refine Goes.step rfl (fun _ h₁ => ?_)
    replace hF := WK.rely hF h₁
    clear h₁
    refine goes_oper_k rfl rfl (by k_ne) (fun Kx hKx => ?_)
    have hc := hF.cI
    go_simp
    refine hKx _ _ ⟨?_, ?_⟩
    · refine dx_read ?_; intro e he; have hm := mem_listed he; simp [go_sem, *] at hm
      all_goals (subst hm; exact hF.sI.ev _)
    clear hKx Kx hc
    refine Goes.step rfl (fun _ h₁ => ?_)
    replace hF := WK.rely hF h₁
    clear h₁
    refine goes_oper_k rfl rfl (by k_ne) (fun Kx hKx => ?_)
    have hc := hF.cP
    go_simp
    refine hKx _ _ ⟨?_, ?_⟩
    · refine dx_read ?_; intro e he; have hm := mem_listed he; simp [go_sem, *] at hm
      all_goals (subst hm; exact hF.sP.ev _)
    clear hKx Kx hc
    refine Goes.step rfl (fun _ h₁ => ?_)
    replace hF := WK.rely hF h₁
    clear h₁
    refine goes_call rfl rfl (by k_ne) rfl Try.func24 (by rfl) rfl ⟨by refine dx_none ?_; intro e he; simp at he, ?_⟩
    walk_nrmf Try.f24
    refine Goes.mono (hS _ _ _ _ _ _ _ 40 (by omega) (fun g wg hFg => ?_) _ hF) (by omega)
    clear hS hF
    have hF := hFg
    clear hFg
    walk_nrm
    have hev := fun w es => events_indexAt_slice (P := Try.prog) (w := w) (es := es) 87 ⟨L.C, 0, none⟩ L.n L.n .i64 (j : Int) hsu (by omega)
    clear hsu
    refine Goes.step rfl (fun _ h₁ => ?_)
    replace hF := WK.rely hF h₁
    clear h₁
    refine goes_oper_k rfl rfl (by k_ne) (fun K hK => ?_)
    go_simp
    refine hK _ _ ⟨?_, ?_⟩
    · refine dx_none ?_; intro e he; have hm := mem_listed he; simp [go_sem, *] at hm
    clear hK K
    try w_num
    clear hev
    refine Goes.step rfl (fun _ h₁ => ?_)
    replace hF := WK.rely hF h₁
    clear h₁
    obtain ⟨u0, hu1, hu2⟩ := hF.cellC hj
    rw [stepG_store40 rfl rfl (by k_ne) rfl rfl rfl hu1 hu2 loud54]
    simp only [goes_go]
    refine ⟨(hF.store hL hj _).2 _, ?_⟩
    have hE := (hF.store hL hj (.int .u32 (upd 0 bs : Nat))).1
    clear hF hu1 hu2
    exact Goes.mono (tailQ hL hty hK hE) (by omega)
  · -- [0, 2, 1, 3, 4, 5]
    refine Goes.step rfl (fun _ h₁ => ?_)
    replace hF := WK.rely hF h₁
    clear h₁
    refine goes_oper_k rfl rfl (by k_ne) (fun Kx hKx => ?_)
    have hc := hF.cS
    go_simp
    refine hKx _ _ ⟨?_, ?_⟩
    · refine dx_read ?_; intro e he; have hm := mem_listed he; simp [go_sem, *] at hm
      all_goals (subst hm; exact hF.sS.ev _)
    clear hKx Kx hc
    refine Goes.step rfl (fun _ h₁ => ?_)
    replace hF := WK.rely hF h₁
    clear h₁
    refine goes_oper_k rfl rfl (by k_ne) (fun Kx hKx => ?_)
    have hc := hF.cP
    go_simp
    refine hKx _ _ ⟨?_, ?_⟩
    · refine dx_read ?_; intro e he; have hm := mem_listed he; simp [go_sem, *] at hm
      all_goals (subst hm; exact hF.sP.ev _)
    clear hKx Kx hc
    refine Goes.step rfl (fun _ h₁ => ?_)
    replace hF := WK.rely hF h₁
    clear h₁
    refine goes_oper_k rfl rfl (by k_ne) (fun Kx hKx => ?_)
    have hc := hF.cI
    go_simp
    refine hKx _ _ ⟨?_, ?_⟩
    · refine dx_read ?_; intro e he; have hm := mem_listed he; simp [go_sem, *] at hm
      all_goals (subst hm; exact hF.sI.ev _)
    clear hKx Kx hc
    refine Goes.step rfl (fun _ h₁ => ?_)
    replace hF := WK.rely hF h₁
    clear h₁
    refine goes_call rfl rfl (by k_ne) rfl Try.func24 (by rfl) rfl ⟨by refine dx_none ?_; intro e he; simp at he, ?_⟩
    walk_nrmf Try.f24
    refine Goes.mono (hS _ _ _ _ _ _ _ 40 (by omega) (fun g wg hFg => ?_) _ hF) (by omega)
    clear hS hF
    have hF := hFg
    clear hFg
    walk_nrm
    have hev := fun w es => events_indexAt_slice (P := Try.prog) (w := w) (es := es) 87 ⟨L.C, 0, none⟩ L.n L.n .i64 (j : Int) hsu (by omega)
    clear hsu
    refine Goes.step rfl (fun _ h₁ => ?_)
    replace hF := WK.rely hF h₁
    clear h₁
    refine goes_oper_k rfl rfl (by k_ne) (fun K hK => ?_)
    go_simp
    refine hK _ _ ⟨?_, ?_⟩
    · refine dx_none ?_; intro e he; have hm := mem_listed he; simp [go_sem, *] at hm
    clear hK K
    try w_num
    clear hev
    refine Goes.step rfl (fun _ h₁ => ?_)
    replace hF := WK.rely hF h₁
    clear h₁
    obtain ⟨u0, hu1, hu2⟩ := hF.cellC hj
    rw [stepG_store40 rfl rfl (by k_ne) rfl rfl rfl hu1 hu2 loud54]
    simp only [goes_go]
    refine ⟨(hF.store hL hj _).2 _, ?_⟩
    have hE := (hF.store hL hj (.int .u32 (upd 0 bs : Nat))).1
    clear hF hu1 hu2
    exact Goes.mono (tailQ hL hty hK hE) (by omega)
  · -- [0, 2, 3, 1, 4, 5]
    refine Goes.step rfl (fun _ h₁ => ?_)
    replace hF := WK.rely hF h₁
    clear h₁
    refine goes_oper_k rfl rfl (by k_ne) (fun Kx hKx => ?_)
    have hc := hF.cS
    go_simp
    refine hKx _ _ ⟨?_, ?_⟩
    · refine dx_read ?_; intro e he; have hm := mem_listed he; simp [go_sem, *] at hm
      all_goals (subst hm; exact hF.sS.ev _)
    clear hKx Kx hc
    refine Goes.step rfl (fun _ h₁ => ?_)
    replace hF := WK.rely hF h₁
    clear h₁
    refine goes_oper_k rfl rfl (by k_ne) (fun Kx hKx => ?_)
    have hc := hF.cP
    go_simp
    refine hKx _ _ ⟨?_, ?_⟩
    · refine dx_read ?_; intro e he; have hm := mem_listed he; simp [go_sem, *] at hm
      all_goals (subst hm; exact hF.sP.ev _)
    clear hKx Kx hc
    refine Goes.step rfl (fun _ h₁ => ?_)
    replace hF := WK.rely hF h₁
    clear h₁
    refine goes_call rfl rfl (by k_ne) rfl Try.func24 (by rfl) rfl ⟨by refine dx_none ?_; intro e he; simp at he, ?_⟩
    walk_nrmf Try.f24
    refine Goes.mono (hS _ _ _ _ _ _ _ 40 (by omega) (fun g wg hFg => ?_) _ hF) (by omega)
    clear hS hF
    have hF := hFg
    clear hFg
    walk_nrm
    refine Goes.step rfl (fun _ h₁ => ?_)
    replace hF := WK.rely hF h₁
    clear h₁
    refine goes_oper_k rfl rfl (by k_ne) (fun Kx hKx => ?_)
    have hc := hF.cI
    go_simp
    refine hKx _ _ ⟨?_, ?_⟩
    · refine dx_read ?_; intro e he; have hm := mem_listed he; simp [go_sem, *] at hm
      all_goals (subst hm; exact hF.sI.ev _)
    clear hKx Kx hc
    have hev := fun w es => events_indexAt_slice (P := Try.prog) (w := w) (es := es) 87 ⟨L.C, 0, none⟩ L.n L.n .i64 (j : Int) hsu (by omega)
    clear hsu
    refine Goes.step rfl (fun _ h₁ => ?_)
    replace hF := WK.rely hF h₁
    clear h₁
    refine goes_oper_k rfl rfl (by k_ne) (fun K hK => ?_)
    go_simp
    refine hK _ _ ⟨?_, ?_⟩
    · refine dx_none ?_; intro e he; have hm := mem_listed he; simp [go_sem, *] at hm
    clear hK K
    try w_num
    clear hev
    refine Goes.step rfl (fun _ h₁ => ?_)
    replace hF := WK.rely hF h₁
    clear h₁
    obtain ⟨u0, hu1, hu2⟩ := hF.cellC hj
    rw [stepG_store40 rfl rfl (by k_ne) rfl rfl rfl hu1 hu2 loud54]
    simp only [goes_go]
    refine ⟨(hF.store hL hj _).2 _, ?_⟩
    have hE := (hF.store hL hj (.int .u32 (upd 0 bs : Nat))).1
    clear hF hu1 hu2
    exact Goes.mono (tailQ hL hty hK hE) (by omega)
  · -- [1, 0, 2, 3, 4, 5]
    refine Goes.step rfl (fun _ h₁ => ?_)
    replace hF := WK.rely hF h₁
    clear h₁
    refine goes_oper_k rfl rfl (by k_ne) (fun Kx hKx => ?_)
    have hc := hF.cI
    go_simp
    refine hKx _ _ ⟨?_, ?_⟩
    · refine dx_read ?_; intro e he; have hm := mem_listed he; simp [go_sem, *] at hm
      all_goals (subst hm; exact hF.sI.ev _)
    clear hKx Kx hc
    refine Goes.step rfl (fun _ h₁ => ?_)
    replace hF := WK.rely hF h₁
    clear h₁
    refine goes_oper_k rfl rfl (by k_ne) (fun Kx hKx => ?_)
    have hc := hF.cS
    go_simp
    refine hKx _ _ ⟨?_, ?_⟩
    · refine dx_read ?_; intro e he; have hm := mem_listed he; simp [go_sem, *] at hm
      all_goals (subst hm; exact hF.sS.ev _)
    clear hKx Kx hc
    refine Goes.step rfl (fun _ h₁ => ?_)
    replace hF := WK.rely hF h₁
    clear h₁
    refine goes_oper_k rfl rfl (by k_ne) (fun Kx hKx => ?_)
    have hc := hF.cP
    go_simp
    refine hKx _ _ ⟨?_, ?_⟩
    · refine dx_read ?_; intro e he; have hm := mem_listed he; simp [go_sem, *] at hm
      all_goals (subst hm; exact hF.sP.ev _)
    clear hKx Kx hc
    refine Goes.step rfl (fun _ h₁ => ?_)
    replace hF := WK.rely hF h₁
    clear h₁
    refine goes_call rfl rfl (by k_ne) rfl Try.func24 (by rfl) rfl ⟨by refine dx_none ?_; intro e he; simp at he, ?_⟩
    walk_nrmf Try.f24
    refine Goes.mono (hS _ _ _ _ _ _ _ 40 (by omega) (fun g wg hFg => ?_) _ hF) (by omega)
    clear hS hF
    have hF := hFg
    clear hFg
    walk_nrm
    have hev := fun w es => events_indexAt_slice (P := Try.prog) (w := w) (es := es) 87 ⟨L.C, 0, none⟩ L.n L.n .i64 (j : Int) hsu (by omega)
    clear hsu
    refine Goes.step rfl (fun _ h₁ => ?_)
    replace hF := WK.rely hF h₁
    clear h₁
    refine goes_oper_k rfl rfl (by k_ne) (fun K hK => ?_)
    go_simp
    refine hK _ _ ⟨?_, ?_⟩
    · refine dx_none ?_; intro e he; have hm := mem_listed he; simp [go_sem, *] at hm
    clear hK K
    try w_num
    clear hev
    refine Goes.step rfl (fun _ h₁ => ?_)
    replace hF := WK.rely hF h₁
    clear h₁
    obtain ⟨u0, hu1, hu2⟩ := hF.cellC hj
    rw [stepG_store40 rfl rfl (by k_ne) rfl rfl rfl hu1 hu2 loud54]
    simp only [goes_go]
    refine ⟨(hF.store hL hj _).2 _, ?_⟩
    have hE := (hF.store hL hj (.int .u32 (upd 0 bs : Nat))).1
    clear hF hu1 hu2
    exact Goes.mono (tailQ hL hty hK hE) (by omega)
  · -- [1, 2, 0, 3, 4, 5]
    refine Goes.step rfl (fun _ h₁ => ?_)
    replace hF := WK.rely hF h₁
    clear h₁
    refine goes_oper_k rfl rfl (by k_ne) (fun Kx hKx => ?_)
    have hc := hF.cI
    go_simp
    refine hKx _ _ ⟨?_, ?_⟩
    · refine dx_read ?_; intro e he; have hm := mem_listed he; simp [go_sem, *] at hm
      all_goals (subst hm; exact hF.sI.ev _)
    clear hKx Kx hc
    refine Goes.step rfl (fun _ h₁ => ?_)
    replace hF := WK.rely hF h₁
    clear h₁
    refine goes_oper_k rfl rfl (by k_ne) (fun Kx hKx => ?_)
    have hc := hF.cP
    go_simp
    refine hKx _ _ ⟨?_, ?_⟩
    · refine dx_read ?_; intro e he; have hm := mem_listed he; simp [go_sem, *] at hm
      all_goals (subst hm; exact hF.sP.ev _)
    clear hKx Kx hc
    refine Goes.step rfl (fun _ h₁ => ?_)
    replace hF := WK.rely hF h₁
    clear h₁
    refine goes_oper_k rfl rfl (by k_ne) (fun Kx hKx => ?_)
    have hc := hF.cS
    go_simp
    refine hKx _ _ ⟨?_, ?_⟩
    · refine dx_read ?_; intro e he; have hm := mem_listed he; simp [go_sem, *] at hm
      all_goals (subst hm; exact hF.sS.ev _)
    clear hKx Kx hc
    refine Goes.step rfl (fun _ h₁ => ?_)
    replace hF := WK.rely hF h₁
    clear h₁
    refine goes_call rfl rfl (by k_ne) rfl Try.func24 (by rfl) rfl ⟨by refine dx_none ?_; intro e he; simp at he, ?_⟩
    walk_nrmf Try.f24
    refine Goes.mono (hS _ _ _ _ _ _ _ 40 (by omega) (fun g wg hFg => ?_) _ hF) (by omega)
    clear hS hF
    have hF := hFg
    clear hFg
    walk_nrm
    have hev := fun w es => events_indexAt_slice (P := Try.prog) (w := w) (es := es) 87 ⟨L.C, 0, none⟩ L.n L.n .i64 (j : Int) hsu (by omega)
    clear hsu
    refine Goes.step rfl (fun _ h₁ => ?_)
    replace hF := WK.rely hF h₁
    clear h₁
    refine goes_oper_k rfl rfl (by k_ne) (fun K hK => ?_)
    go_simp
    refine hK _ _ ⟨?_, ?_⟩
    · refine dx_none ?_; intro e he; have hm := mem_listed he; simp [go_sem, *] at hm
    clear hK K
    try w_num
    clear hev
    refine Goes.step rfl (fun _ h₁ => ?_)
    replace hF := WK.rely hF h₁
    clear h₁
    obtain ⟨u0, hu1, hu2⟩ := hF.cellC hj
    rw [stepG_store40 rfl rfl (by k_ne) rfl rfl rfl hu1 hu2 loud54]
    simp only [goes_go]
    refine ⟨(hF.store hL hj _).2 _, ?_⟩
    have hE := (hF.store hL hj (.int .u32 (upd 0 bs : Nat))).1
    clear hF hu1 hu2
    exact Goes.mono (tailQ hL hty hK hE) (by omega)
  · -- [1, 2, 3, 0, 4, 5]
    refine Goes.step rfl (fun _ h₁ => ?_)
    replace hF := WK.rely hF h₁
    clear h₁
    refine goes_oper_k rfl rfl (by k_ne) (fun Kx hKx => ?_)
    have hc := hF.cI
    go_simp
    refine hKx _ _ ⟨?_, ?_⟩
    · refine dx_read ?_; intro e he; have hm := mem_listed he; simp [go_sem, *] at hm
      all_goals (subst hm; exact hF.sI.ev _)
    clear hKx Kx hc
    refine Goes.step rfl (fun _ h₁ => ?_)
    replace hF := WK.rely hF h₁
    clear h₁
    refine goes_oper_k rfl rfl (by k_ne) (fun Kx hKx => ?_)
    have hc := hF.cP
    go_simp
    refine hKx _ _ ⟨?_, ?_⟩
    · refine dx_read ?_; intro e he; have hm := mem_listed he; simp [go_sem, *] at hm
      all_goals (subst hm; exact hF.sP.ev _)
    clear hKx Kx hc
    refine Goes.step rfl (fun _ h₁ => ?_)
    replace hF := WK.rely hF h₁
    clear h₁
    refine goes_call rfl rfl (by k_ne) rfl Try.func24 (by rfl) rfl ⟨by refine dx_none ?_; intro e he; simp at he, ?_⟩
    walk_nrmf Try.f24
    refine Goes.mono (hS _ _ _ _ _ _ _ 40 (by omega) (fun g wg hFg => ?_) _ hF) (by omega)
    clear hS hF
    have hF := hFg
    clear hFg
    walk_nrm
    refine Goes.step rfl (fun _ h₁ => ?_)
    replace hF := WK.rely hF h₁
    clear h₁
    refine goes_oper_k rfl rfl (by k_ne) (fun Kx hKx => ?_)
    have hc := hF.cS
    go_simp
    refine hKx _ _ ⟨?_, ?_⟩
    · refine dx_read ?_; intro e he; have hm := mem_listed he; simp [go_sem, *] at hm
      all_goals (subst hm; exact hF.sS.ev _)
    clear hKx Kx hc
    have hev := fun w es => events_indexAt_slice (P := Try.prog) (w := w) (es := es) 87 ⟨L.C, 0, none⟩ L.n L.n .i64 (j : Int) hsu (by omega)
    clear hsu
    refine Goes.step rfl (fun _ h₁ => ?_)
    replace hF := WK.rely hF h₁
    clear h₁
    refine goes_oper_k rfl rfl (by k_ne) (fun K hK => ?_)
    go_simp
    refine hK _ _ ⟨?_, ?_⟩
    · refine dx_none ?_; intro e he; have hm := mem_listed he; simp [go_sem, *] at hm
    clear hK K
    try w_num
    clear hev
    refine Goes.step rfl (fun _ h₁ => ?_)
    replace hF := WK.rely hF h₁
    clear h₁
    obtain ⟨u0, hu1, hu2⟩ := hF.cellC hj
    rw [stepG_store40 rfl rfl (by k_ne) rfl rfl rfl hu1 hu2 loud54]
    simp only [goes_go]
    refine ⟨(hF.store hL hj _).2 _, ?_⟩
    have hE := (hF.store hL hj (.int .u32 (upd 0 bs : Nat))).1
    clear hF hu1 hu2
    exact Goes.mono (tailQ hL hty hK hE) (by omega)
  · -- [2, 0, 1, 3, 4, 5]
    refine Goes.step rfl (fun _ h₁ => ?_)
    replace hF := WK.rely hF h₁
    clear h₁
    refine goes_oper_k rfl rfl (by k_ne) (fun Kx hKx => ?_)
    have hc := hF.cP
    go_simp
    refine hKx _ _ ⟨?_, ?_⟩
    · refine dx_read ?_; intro e he; have hm := mem_listed he; simp [go_sem, *] at hm
      all_goals (subst hm; exact hF.sP.ev _)
    clear hKx Kx hc
    refine Goes.step rfl (fun _ h₁ => ?_)
    replace hF := WK.rely hF h₁
    clear h₁
    refine goes_oper_k rfl rfl (by k_ne) (fun Kx hKx => ?_)
    have hc := hF.cS
    go_simp
    refine hKx _ _ ⟨?_, ?_⟩
    · refine dx_read ?_; intro e he; have hm := mem_listed he; simp [go_sem, *] at hm
      all_goals (subst hm; exact hF.sS.ev _)
    clear hKx Kx hc
    refine Goes.step rfl (fun _ h₁ => ?_)
    replace hF := WK.rely hF h₁
    clear h₁
    refine goes_oper_k rfl rfl (by k_ne) (fun Kx hKx => ?_)
    have hc := hF.cI
    go_simp
    refine hKx _ _ ⟨?_, ?_⟩
    · refine dx_read ?_; intro e he; have hm := mem_listed he; simp [go_sem, *] at hm
      all_goals (subst hm; exact hF.sI.ev _)
    clear hKx Kx hc
    refine Goes.step rfl (fun _ h₁ => ?_)
    replace hF := WK.rely hF h₁
    clear h₁
    refine goes_call rfl rfl (by k_ne) rfl Try.func24 (by rfl) rfl ⟨by refine dx_none ?_; intro e he; simp at he, ?_⟩
    walk_nrmf Try.f24
    refine Goes.mono (hS _ _ _ _ _ _ _ 40 (by omega) (fun g wg hFg => ?_) _ hF) (by omega)
    clear hS hF
    have hF := hFg
    clear hFg
    walk_nrm
    have hev := fun w es => events_indexAt_slice (P := Try.prog) (w := w) (es := es) 87 ⟨L.C, 0, none⟩ L.n L.n .i64 (j : Int) hsu (by omega)
    clear hsu
    refine Goes.step rfl (fun _ h₁ => ?_)
    replace hF := WK.rely hF h₁
    clear h₁
    refine goes_oper_k rfl rfl (by k_ne) (fun K hK => ?_)
    go_simp
    refine hK _ _ ⟨?_, ?_⟩
    · refine dx_none ?_; intro e he; have hm := mem_listed he; simp [go_sem, *] at hm
    clear hK K
    try w_num
    clear hev
    refine Goes.step rfl (fun _ h₁ => ?_)
    replace hF := WK.rely hF h₁
    clear h₁
    obtain ⟨u0, hu1, hu2⟩ := hF.cellC hj
    rw [stepG_store40 rfl rfl (by k_ne) rfl rfl rfl hu1 hu2 loud54]
    simp only [goes_go]
    refine ⟨(hF.store hL hj _).2 _, ?_⟩
    have hE := (hF.store hL hj (.int .u32 (upd 0 bs : Nat))).1
    clear hF hu1 hu2
    exact Goes.mono (tailQ hL hty hK hE) (by omega)
  · -- [2, 0, 3, 1, 4, 5]
    refine Goes.step rfl (fun _ h₁ => ?_)
    replace hF := WK.rely hF h₁
    clear h₁
    refine goes_oper_k rfl rfl (by k_ne) (fun Kx hKx => ?_)
    have hc := hF.cP
    go_simp
    refine hKx _ _ ⟨?_, ?_⟩
    · refine dx_read ?_; intro e he; have hm := mem_listed he; simp [go_sem, *] at hm
      all_goals (subst hm; exact hF.sP.ev _)
    clear hKx Kx hc
    refine Goes.step rfl (fun _ h₁ => ?_)
    replace hF := WK.rely hF h₁
    clear h₁
    refine goes_oper_k rfl rfl (by k_ne) (fun Kx hKx => ?_)
    have hc := hF.cS
    go_simp
    refine hKx _ _ ⟨?_, ?_⟩
    · refine dx_read ?_; intro e he; have hm := mem_listed he; simp [go_sem, *] at hm
      all_goals (subst hm; exact hF.sS.ev _)
    clear hKx Kx hc
    refine Goes.step rfl (fun _ h₁ => ?_)
    replace hF := WK.rely hF h₁
    clear h₁
    refine goes_call rfl rfl (by k_ne) rfl Try.func24 (by rfl) rfl ⟨by refine dx_none ?_; intro e he; simp at he, ?_⟩
    walk_nrmf Try.f24
    refine Goes.mono (hS _ _ _ _ _ _ _ 40 (by omega) (fun g wg hFg => ?_) _ hF) (by omega)
    clear hS hF
    have hF := hFg
    clear hFg
    walk_nrm
    refine Goes.step rfl (fun _ h₁ => ?_)
    replace hF := WK.rely hF h₁
    clear h₁
    refine goes_oper_k rfl rfl (by k_ne) (fun Kx hKx => ?_)
    have hc := hF.cI
    go_simp
    refine hKx _ _ ⟨?_, ?_⟩
    · refine dx_read ?_; intro e he; have hm := mem_listed he; simp [go_sem, *] at hm
      all_goals (subst hm; exact hF.sI.ev _)
    clear hKx Kx hc
    have hev := fun w es => events_indexAt_slice (P := Try.prog) (w := w) (es := es) 87 ⟨L.C, 0, none⟩ L.n L.n .i64 (j : Int) hsu (by omega)
    clear hsu
    refine Goes.step rfl (fun _ h₁ => ?_)
    replace hF := WK.rely hF h₁
    clear h₁
    refine goes_oper_k rfl rfl (by k_ne) (fun K hK => ?_)
    go_simp
    refine hK _ _ ⟨?_, ?_⟩
    · refine dx_none ?_; intro e he; have hm := mem_listed he; simp [go_sem, *] at hm
    clear hK K
    try w_num
    clear hev
    refine Goes.step rfl (fun _ h₁ => ?_)
    replace hF := WK.rely hF h₁
    clear h₁
    obtain ⟨u0, hu1, hu2⟩ := hF.cellC hj
    rw [stepG_store40 rfl rfl (by k_ne) rfl rfl rfl hu1 hu2 loud54]
    simp only [goes_go]
    refine ⟨(hF.store hL hj _).2 _, ?_⟩
    have hE := (hF.store hL hj (.int .u32 (upd 0 bs : Nat))).1
    clear hF hu1 hu2
    exact Goes.mono (tailQ hL hty hK hE) (by omega)
  · -- [2, 1, 0, 3, 4, 5]
    refine Goes.step rfl (fun _ h₁ => ?_)
    replace hF := WK.rely hF h₁
    clear h₁
    refine goes_oper_k rfl rfl (by k_ne) (fun Kx hKx => ?_)
    have hc := hF.cP
    go_simp
    refine hKx _ _ ⟨?_, ?_⟩
    · refine dx_read ?_; intro e he; have hm := mem_listed he; simp [go_sem, *] at hm
      all_goals (subst hm; exact hF.sP.ev _)
    clear hKx Kx hc
    refine Goes.step rfl (fun _ h₁ => ?_)
    replace hF := WK.rely hF h₁
    clear h₁
    refine goes_oper_k rfl rfl (by k_ne) (fun Kx hKx => ?_)
    have hc := hF.cI
    go_simp
    refine hKx _ _ ⟨?_, ?_⟩
    · refine dx_read ?_; intro e he; have hm := mem_listed he; simp [go_sem, *] at hm
      all_goals (subst hm; exact hF.sI.ev _)
    clear hKx Kx hc
    refine Goes.step rfl (fun _ h₁ => ?_)
    replace hF := WK.rely hF h₁
    clear h₁
    refine goes_oper_k rfl rfl (by k_ne) (fun Kx hKx => ?_)
    have hc := hF.cS
    go_simp
    refine hKx _ _ ⟨?_, ?_⟩
    · refine dx_read ?_; intro e he; have hm := mem_listed he; simp [go_sem, *] at hm
      all_goals (subst hm; exact hF.sS.ev _)
    clear hKx Kx hc
    refine Goes.step rfl (fun _ h₁ => ?_)
    replace hF := WK.rely hF h₁
    clear h₁
    refine goes_call rfl rfl (by k_ne) rfl Try.func24 (by rfl) rfl ⟨by refine dx_none ?_; intro e he; simp at he, ?_⟩
    walk_nrmf Try.f24
    refine Goes.mono (hS _ _ _ _ _ _ _ 40 (by omega) (fun g wg hFg => ?_) _ hF) (by omega)
    clear hS hF
    have hF := hFg
    clear hFg
    walk_nrm
    have hev := fun w es => events_indexAt_slice (P := Try.prog) (w := w) (es := es) 87 ⟨L.C, 0, none⟩ L.n L.n .i64 (j : Int) hsu (by omega)
    clear hsu
    refine Goes.step rfl (fun _ h₁ => ?_)
    replace hF := WK.rely hF h₁
    clear h₁
    refine goes_oper_k rfl rfl (by k_ne) (fun K hK => ?_)
    go_simp
    refine hK _ _ ⟨?_, ?_⟩
    · refine dx_none ?_; intro e he; have hm := mem_listed he; simp [go_sem, *] at hm
    clear hK K
    try w_num
    clear hev
    refine Goes.step rfl (fun _ h₁ => ?_)
    replace hF := WK.rely hF h₁
    clear h₁
    obtain ⟨u0, hu1, hu2⟩ := hF.cellC hj
    rw [stepG_store40 rfl rfl (by k_ne) rfl rfl rfl hu1 hu2 loud54]
    simp only [goes_go]
    refine ⟨(hF.store hL hj _).2 _, ?_⟩
    have hE := (hF.store hL hj (.int .u32 (upd 0 bs : Nat))).1
    clear hF hu1 hu2
    exact Goes.mono (tailQ hL hty hK hE) (by omega)
  · -- [2, 1, 3, 0, 4, 5]
    refine Goes.step rfl (fun _ h₁ => ?_)
    replace hF := WK.rely hF h₁
    clear h₁
    refine goes_oper_k rfl rfl (by k_ne) (fun Kx hKx => ?_)
    have hc := hF.cP
    go_simp
    refine hKx _ _ ⟨?_, ?_⟩
    · refine dx_read ?_; intro e he; have hm := mem_listed he; simp [go_sem, *] at hm
      all_goals (subst hm; exact hF.sP.ev _)
    clear hKx Kx hc
    refine Goes.step rfl (fun _ h₁ => ?_)
    replace hF := WK.rely hF h₁
    clear h₁
    refine goes_oper_k rfl rfl (by k_ne) (fun Kx hKx => ?_)
    have hc := hF.cI
    go_simp
    refine hKx _ _ ⟨?_, ?_⟩
    · refine dx_read ?_; intro e he; have hm := mem_listed he; simp [go_sem, *] at hm
      all_goals (subst hm; exact hF.sI.ev _)
    clear hKx Kx hc
    refine Goes.step rfl (fun _ h₁ => ?_)
    replace hF := WK.rely hF h₁
    clear h₁
    refine goes_call rfl rfl (by k_ne) rfl Try.func24 (by rfl) rfl ⟨by refine dx_none ?_; intro e he; simp at he, ?_⟩
    walk_nrmf Try.f24
    refine Goes.mono (hS _ _ _ _ _ _ _ 40 (by omega) (fun g wg hFg => ?_) _ hF) (by omega)
    clear hS hF
    have hF := hFg
    clear hFg
    walk_nrm
    refine Goes.step rfl (fun _ h₁ => ?_)
    replace hF := WK.rely hF h₁
    clear h₁
    refine goes_oper_k rfl rfl (by k_ne) (fun Kx hKx => ?_)
    have hc := hF.cS
    go_simp
    refine hKx _ _ ⟨?_, ?_⟩
    · refine dx_read ?_; intro e he; have hm := mem_listed he; simp [go_sem, *] at hm
      all_goals (subst hm; exact hF.sS.ev _)
    clear hKx Kx hc
    have hev := fun w es => events_indexAt_slice (P := Try.prog) (w := w) (es := es) 87 ⟨L.C, 0, none⟩ L.n L.n .i64 (j : Int) hsu (by omega)
    clear hsu
    refine Goes.step rfl (fun _ h₁ => ?_)
    replace hF := WK.rely hF h₁
    clear h₁
    refine goes_oper_k rfl rfl (by k_ne) (fun K hK => ?_)
    go_simp
    refine hK _ _ ⟨?_, ?_⟩
    · refine dx_none ?_; intro e he; have hm := mem_listed he; simp [go_sem, *] at hm
    clear hK K
    try w_num
    clear hev
    refine Goes.step rfl (fun _ h₁ => ?_)
    replace hF := WK.rely hF h₁
    clear h₁
    obtain ⟨u0, hu1, hu2⟩ := hF.cellC hj
    rw [stepG_store40 rfl rfl (by k_ne) rfl rfl rfl hu1 hu2 loud54]
    simp only [goes_go]
    refine ⟨(hF.store hL hj _).2 _, ?_⟩
    have hE := (hF.store hL hj (.int .u32 (upd 0 bs : Nat))).1
    clear hF hu1 hu2
    exact Goes.mono (tailQ hL hty hK hE) (by omega)
  · -- [2, 3, 0, 1, 4, 5]
    refine Goes.step rfl (fun _ h₁ => ?_)
    replace hF := WK.rely hF h₁
    clear h₁
    refine goes_oper_k rfl rfl (by k_ne) (fun Kx hKx => ?_)
    have hc := hF.cP
    go_simp
    refine hKx _ _ ⟨?_, ?_⟩
    · refine dx_read ?_; intro e he; have hm := mem_listed he; simp [go_sem, *] at hm
      all_goals (subst hm; exact hF.sP.ev _)
    clear hKx Kx hc
    refine Goes.step rfl (fun _ h₁ => ?_)
    replace hF := WK.rely hF h₁
    clear h₁
    refine goes_call rfl rfl (by k_ne) rfl Try.func24 (by rfl) rfl ⟨by refine dx_none ?_; intro e he; simp at he, ?_⟩
    walk_nrmf Try.f24
    refine Goes.mono (hS _ _ _ _ _ _ _ 40 (by omega) (fun g wg hFg => ?_) _ hF) (by omega)
    clear hS hF
    have hF := hFg
    clear hFg
    walk_nrm
    refine Goes.step rfl (fun _ h₁ => ?_)
    replace hF := WK.rely hF h₁
    clear h₁
    refine goes_oper_k rfl rfl (by k_ne) (fun Kx hKx => ?_)
    have hc := hF.cS
    go_simp
    refine hKx _ _ ⟨?_, ?_⟩
    · refine dx_read ?_; intro e he; have hm := mem_listed he; simp [go_sem, *] at hm
      all_goals (subst hm; exact hF.sS.ev _)
    clear hKx Kx hc
    refine Goes.step rfl (fun _ h₁ => ?_)
    replace hF := WK.rely hF h₁
    clear h₁
    refine goes_oper_k rfl rfl (by k_ne) (fun Kx hKx => ?_)
    have hc := hF.cI
    go_simp
    refine hKx _ _ ⟨?_, ?_⟩
    · refine dx_read ?_; intro e he; have hm := mem_listed he; simp [go_sem, *] at hm
      all_goals (subst hm; exact hF.sI.ev _)
    clear hKx Kx hc
    have hev := fun w es => events_indexAt_slice (P := Try.prog) (w := w) (es := es) 87 ⟨L.C, 0, none⟩ L.n L.n .i64 (j : Int) hsu (by omega)
    clear hsu
    refine Goes.step rfl (fun _ h₁ => ?_)
    replace hF := WK.rely hF h₁
    clear h₁
    refine goes_oper_k rfl rfl (by k_ne) (fun K hK => ?_)
    go_simp
    refine hK _ _ ⟨?_, ?_⟩
    · refine dx_none ?_; intro e he; have hm := mem_listed he; simp [go_sem, *] at hm
    clear hK K
    try w_num
    clear hev
    refine Goes.step rfl (fun _ h₁ => ?_)
    replace hF := WK.rely hF h₁
    clear h₁
    obtain ⟨u0, hu1, hu2⟩ := hF.cellC hj
    rw [stepG_store40 rfl rfl (by k_ne) rfl rfl rfl hu1 hu2 loud54]
    simp only [goes_go]
    refine ⟨(hF.store hL hj _).2 _, ?_⟩
    have hE := (hF.store hL hj (.int .u32 (upd 0 bs : Nat))).1
    clear hF hu1 hu2
    exact Goes.mono (tailQ hL hty hK hE) (by omega)
  · -- [2, 3, 1, 0, 4, 5]
    refine Goes.step rfl (fun _ h₁ => ?_)
    replace hF := WK.rely hF h₁
    clear h₁
    refine goes_oper_k rfl rfl (by k_ne) (fun Kx hKx => ?_)
    have hc := hF.cP
    go_simp
    refine hKx _ _ ⟨?_, ?_⟩
    · refine dx_read ?_; intro e he; have hm := mem_listed he; simp [go_sem, *] at hm
      all_goals (subst hm; exact hF.sP.ev _)
    clear hKx Kx hc
    refine Goes.step rfl (fun _ h₁ => ?_)
    replace hF := WK.rely hF h₁
    clear h₁
    refine goes_call rfl rfl (by k_ne) rfl Try.func24 (by rfl) rfl ⟨by refine dx_none ?_; intro e he; simp at he, ?_⟩
    walk_nrmf Try.f24
    refine Goes.mono (hS _ _ _ _ _ _ _ 40 (by omega) (fun g wg hFg => ?_) _ hF) (by omega)
    clear hS hF
    have hF := hFg
    clear hFg
    walk_nrm
    refine Goes.step rfl (fun _ h₁ => ?_)
    replace hF := WK.rely hF h₁
    clear h₁
    refine goes_oper_k rfl rfl (by k_ne) (fun Kx hKx => ?_)
    have hc := hF.cI
    go_simp
    refine hKx _ _ ⟨?_, ?_⟩
    · refine dx_read ?_; intro e he; have hm := mem_listed he; simp [go_sem, *] at hm
      all_goals (subst hm; exact hF.sI.ev _)
    clear hKx Kx hc
    refine Goes.step rfl (fun _ h₁ => ?_)
    replace hF := WK.rely hF h₁
    clear h₁
    refine goes_oper_k rfl rfl (by k_ne) (fun Kx hKx => ?_)
    have hc := hF.cS
    go_simp
    refine hKx _ _ ⟨?_, ?_⟩
    · refine dx_read ?_; intro e he; have hm := mem_listed he; simp [go_sem, *] at hm
      all_goals (subst hm; exact hF.sS.ev _)
    clear hKx Kx hc
    have hev := fun w es => events_indexAt_slice (P := Try.prog) (w := w) (es := es) 87 ⟨L.C, 0, none⟩ L.n L.n .i64 (j : Int) hsu (by omega)
    clear hsu
    refine Goes.step rfl (fun _ h₁ => ?_)
    replace hF := WK.rely hF h₁
    clear h₁
    refine goes_oper_k rfl rfl (by k_ne) (fun K hK => ?_)
    go_simp
    refine hK _ _ ⟨?_, ?_⟩
    · refine dx_none ?_; intro e he; have hm := mem_listed he; simp [go_sem, *] at hm
    clear hK K
    try w_num
    clear hev
    refine Goes.step rfl (fun _ h₁ => ?_)
    replace hF := WK.rely hF h₁
    clear h₁
    obtain ⟨u0, hu1, hu2⟩ := hF.cellC hj
    rw [stepG_store40 rfl rfl (by k_ne) rfl rfl rfl hu1 hu2 loud54]
    simp only [goes_go]
    refine ⟨(hF.store hL hj _).2 _, ?_⟩
    have hE := (hF.store hL hj (.int .u32 (upd 0 bs : Nat))).1
    clear hF hu1 hu2
    exact Goes.mono (tailQ hL hty hK hE) (by omega)
end
end Go.Proofs.Ytoipkpndfgcmcaa.Crew
