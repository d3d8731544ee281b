/-
  The starter in Parts: the loop that starts the workers, by induction. The conditions stand in each theorem.
-/
import Derived.Test.YtoipkpndfgcmcaaCvStart
namespace Go.Proofs.Ytoipkpndfgcmcaa.Crew
open Go Go.Conc Go.ConcN Go.RowKit Go.Conc.Lib Go.ConcR.Gen Go.ConcN.Gen Go.Proofs.Ytoipkpndfgcmcaa.Veils
open Go.ConcR (KK wgBlock WgAt stA smA rd wr mk Payload DC0)
set_option linter.unusedVariables false
set_option linter.unusedSectionVars false
set_option linter.unusedSimpArgs false
section
variable (W : World) (N n : Nat) (a0 : Option Addr) (cap : Nat) (cs : List Frame) (X : Nat → Prop) (M K : Nat) (ps : List (List UInt8))
/-- The next stop, r workers being still to be started. -/
def StopS (Lw : Nat) : Nat → Goroutine → World → Prop
  | 0 => AtIn Try.prog (lay N n) X (AnW W N n a0 cap cs) Lw
  | r + 1 => AtOff Try.prog (lay N n) X M K (valP ps) Lw (n - (r + 1)) (Starts Try.prog (lay N n) X M K (valP ps) (Fin0 Try.prog (lay N n) X (AnW W N n a0 cap cs)) r)
theorem starts_of {Lw r m : Nat} {g : Goroutine} {w : World} (h : GQ Try.prog (lay N n) X Lw (StopS W N n a0 cap cs X M K ps Lw r) m g w) : Starts Try.prog (lay N n) X M K (valP ps) (Fin0 Try.prog (lay N n) X (AnW W N n a0 cap cs)) r Lw g w := by
  cases r with
  | zero => exact ⟨m, h⟩
  | succ r => exact ⟨m, h⟩
end
theorem loud53 : (Try.prog.funcs[(base 53).fn]?).any (·.norace) = true := by kernel_rfl
section
variable {W : World} {N n cap : Nat} {a0 : Option Addr} {cs : List Frame} {X : Nat → Prop} {M K q Bm : Nat} {ps : List (List UInt8)} {sl : Nat → Option Addr × Nat}
set_option maxRecDepth 100000 in
set_option maxHeartbeats 8000000 in
/-- From the loop's head: j started, r to start. -/
theorem startsFrom (hq : TakeQ Bm q) (hK : 24 ≤ K) (hM : 60 + q ≤ M) (hX : ∀ r, X r → r < N + 3) (hXN : ¬ X (N + 1)) (ha : Args W N X a0 n ps sl) (hB : ∀ j, j < n → (ps.getD j []).length ≤ Bm) (hn : n < 2147483648) :
    ∀ (r j : Nat), j + r = n → ∀ (Lw : Nat) (g : Goroutine) (w : World), HeadS N n a0 cap cs j g → SI W N n Lw [] w → GQ Try.prog (lay N n) X Lw (StopS W N n a0 cap cs X M K ps Lw r) 60 g w := by
  intro r
  induction r with
  | zero =>
    intro j hj Lw g w hH hF
    obtain rfl : j = n := by omega
    obtain ⟨T, rfl, hT, t0, t3, t4, t13, t14, t15⟩ := hH
    obtain ⟨v0, v1, v2, v3, v4, v5, v6, v7, v8, v9, v10, v11, v12, v13, v14, v15, v16, v17, v18, v19, v20, v21, v22, v23, v24, v25, v26, v27, v28, v29, v30, v31, v32, v33, v34, v35, v36, v37, v38, v39, v40, v41, v42, v43, rfl⟩ := array44 T hT
    simp only [List.getElem?_toArray, List.getElem?_cons_succ, List.getElem?_cons_zero, Option.some.injEq] at t0 t3 t4 t13 t14 t15
    subst t0 t3 t4 t13 t14 t15
    have hA := fun (a₀ : Act) (ops₀ : Array Oper) (i₀ : Nat) (rest₀ : List Nat) (k₀ : List Item) (w : World) => waitInQ (P := Try.prog) (lk := link) (L := lay N j) (X := X) (Lw := Lw) (F := SF W N j) (b₀ := base 38) (a₀ := a₀) (ops₀ := ops₀) (i₀ := i₀) (rest₀ := rest₀) (k₀ := k₀) (cs := cs) wgLib (lay_ok N j) sf2 w
    simp only [GQ, StopS, L38of, R38of, seqTails, seqTail, seqHead, blockOf, loopOf, bodyOf, body_wait, Try.f38, waitFn, Option.getD_some] at hA ⊢
    have hnl : ¬ ((j : Int) < (j : Int)) := by omega
    refine Goes.step rfl (fun _ h₁ => ?_)
    replace hF := SI.rely hF h₁
    clear h₁
    rw [stepG_seq]
    simp only [goes_go]
    refine ⟨by refine dq_none ?_; intro e he; simp at he, ?_⟩
    refine Goes.step rfl (fun _ h₁ => ?_)
    replace hF := SI.rely hF h₁
    clear h₁
    rw [stepG_region]
    simp only [goes_go, List.size_toArray, List.length_cons, List.length_nil, Nat.reduceAdd, Nat.zero_add, List.range, List.range.loop]
    refine ⟨by refine dq_none ?_; intro e he; simp at he, ?_⟩
    refine Goes.step rfl (fun _ h₁ => ?_)
    replace hF := SI.rely hF h₁
    clear h₁
    refine goes_oper_k rfl rfl (by k_ne) (fun K hK => ?_)
    go_simp
    refine hK _ _ ⟨?_, ?_⟩
    · refine dq_none ?_; intro e he; have hm := mem_listed he; simp [go_sem, *] at hm
    clear hK K
    try w_num
    refine Goes.step rfl (fun _ h₁ => ?_)
    replace hF := SI.rely hF h₁
    clear h₁
    rw [stepG_region_end]
    simp only [goes_go]
    refine ⟨by refine dq_none ?_; intro e he; simp at he, ?_⟩
    refine Goes.step rfl (fun _ h₁ => ?_)
    replace hF := SI.rely hF h₁
    clear h₁
    rw [stepG_seq]
    simp only [goes_go]
    refine ⟨by refine dq_none ?_; intro e he; simp at he, ?_⟩
    refine Goes.step rfl (fun _ h₁ => ?_)
    replace hF := SI.rely hF h₁
    clear h₁
    rw [stepG_cond (t := false) (by first | rfl | (simp [Act.eval]; omega))]
    simp only [goes_go, if_true, if_false, Bool.false_eq_true, ↓reduceIte]
    refine ⟨by refine dq_none ?_; intro e he; simp at he, ?_⟩
    refine Goes.step rfl (fun _ h₁ => ?_)
    replace hF := SI.rely hF h₁
    clear h₁
    refine goes_exit rfl ?_
    refine ⟨by refine dq_none ?_; intro e he; simp at he, ?_⟩
    refine Goes.step rfl (fun _ h₁ => ?_)
    replace hF := SI.rely hF h₁
    clear h₁
    rw [stepG_seq]
    simp only [goes_go]
    refine ⟨by refine dq_none ?_; intro e he; simp at he, ?_⟩
    refine Goes.step rfl (fun _ h₁ => ?_)
    replace hF := SI.rely hF h₁
    clear h₁
    rw [stepG_region]
    simp only [goes_go, List.size_toArray, List.length_cons, List.length_nil, Nat.reduceAdd, Nat.zero_add, List.range, List.range.loop]
    refine ⟨by refine dq_none ?_; intro e he; simp at he, ?_⟩
    refine Goes.step rfl (fun _ h₁ => ?_)
    replace hF := SI.rely hF h₁
    clear h₁
    refine goes_call rfl rfl (by k_ne) rfl wgLib.f_wait (nm_wait link) rfl ⟨by refine dq_none ?_; intro e he; simp at he, ?_⟩
    walk_nrmf waitFn
    refine Goes.mono (goes_mono (fun _ _ y => AtIn.mono (fun _ _ z => ⟨_, ⟨?_, ?_, ?_⟩, z⟩) y) (hA _ _ _ _ _ _ ⟨hF.sf, hF.live⟩)) (by omega)
    · simp
    · simp
    · simp
  | succ r ih =>
    intro j hj Lw g w hH hF
    obtain ⟨T, rfl, hT, t0, t3, t4, t13, t14, t15⟩ := hH
    obtain ⟨v0, v1, v2, v3, v4, v5, v6, v7, v8, v9, v10, v11, v12, v13, v14, v15, v16, v17, v18, v19, v20, v21, v22, v23, v24, v25, v26, v27, v28, v29, v30, v31, v32, v33, v34, v35, v36, v37, v38, v39, v40, v41, v42, v43, rfl⟩ := array44 T hT
    simp only [List.getElem?_toArray, List.getElem?_cons_succ, List.getElem?_cons_zero, Option.some.injEq] at t0 t3 t4 t13 t14 t15
    subst t0 t3 t4 t13 t14 t15
    have ej : n - (r + 1) = j := by omega
    have hjn : j < n := by omega
    have hlt : (j : Int) < (n : Int) := by omega
    obtain ⟨ga, off, rfl, hga, hXa, hcell⟩ := ha.cells (by omega)
    obtain ⟨Aj, hAj⟩ : ∃ Aj, (sl j).1 = Aj := ⟨_, rfl⟩
    obtain ⟨cj, hcj⟩ : ∃ cj, (sl j).2 = cj := ⟨_, rfl⟩
    obtain ⟨mj, hmj⟩ : ∃ mj, (ps.getD j []).length = mj := ⟨_, rfl⟩
    have hcj0 := hcell j hjn
    rw [hAj, hcj, hmj] at hcj0
    simp only [GQ, StopS, L38of, R38of, seqTails, seqTail, seqHead, blockOf, loopOf, bodyOf, body_add, Try.f38, addFn, Option.getD_some, ej]
    have hsu : Try.prog.underlying 62 = some (.slice (Try.prog.elem 62)) := by kernel_rfl
    refine Goes.step rfl (fun _ h₁ => ?_)
    replace hF := SI.rely hF h₁
    clear h₁
    rw [stepG_seq]
    simp only [goes_go]
    refine ⟨by refine dq_none ?_; intro e he; simp at he, ?_⟩
    refine Goes.step rfl (fun _ h₁ => ?_)
    replace hF := SI.rely hF h₁
    clear h₁
    rw [stepG_region]
    simp only [goes_go, List.size_toArray, List.length_cons, List.length_nil, Nat.reduceAdd, Nat.zero_add, List.range, List.range.loop]
    refine ⟨by refine dq_none ?_; intro e he; simp at he, ?_⟩
    refine Goes.step rfl (fun _ h₁ => ?_)
    replace hF := SI.rely hF h₁
    clear h₁
    refine goes_oper_k rfl rfl (by k_ne) (fun K hK => ?_)
    go_simp
    refine hK _ _ ⟨?_, ?_⟩
    · refine dq_none ?_; intro e he; have hm := mem_listed he; simp [go_sem, *] at hm
    clear hK K
    try w_num
    refine Goes.step rfl (fun _ h₁ => ?_)
    replace hF := SI.rely hF h₁
    clear h₁
    rw [stepG_region_end]
    simp only [goes_go]
    refine ⟨by refine dq_none ?_; intro e he; simp at he, ?_⟩
    refine Goes.step rfl (fun _ h₁ => ?_)
    replace hF := SI.rely hF h₁
    clear h₁
    rw [stepG_seq]
    simp only [goes_go]
    refine ⟨by refine dq_none ?_; intro e he; simp at he, ?_⟩
    refine Goes.step rfl (fun _ h₁ => ?_)
    replace hF := SI.rely hF h₁
    clear h₁
    rw [stepG_cond (t := true) (by first | rfl | (simp [Act.eval]; omega))]
    simp only [goes_go, if_true, if_false, Bool.false_eq_true, ↓reduceIte]
    refine ⟨by refine dq_none ?_; intro e he; simp at he, ?_⟩
    refine Goes.step rfl (fun _ h₁ => ?_)
    replace hF := SI.rely hF h₁
    clear h₁
    rw [stepG_skip]
    simp only [goes_go]
    refine ⟨by refine dq_none ?_; intro e he; simp at he, ?_⟩
    refine Goes.step rfl (fun _ h₁ => ?_)
    replace hF := SI.rely hF h₁
    clear h₁
    rw [stepG_seq]
    simp only [goes_go]
    refine ⟨by refine dq_none ?_; intro e he; simp at he, ?_⟩
    refine Goes.step rfl (fun _ h₁ => ?_)
    replace hF := SI.rely hF h₁
    clear h₁
    rw [stepG_block]
    simp only [goes_go]
    refine ⟨by refine dq_none ?_; intro e he; simp at he, ?_⟩
    refine Goes.step rfl (fun _ h₁ => ?_)
    replace hF := SI.rely hF h₁
    clear h₁
    rw [stepG_seq]
    simp only [goes_go]
    refine ⟨by refine dq_none ?_; intro e he; simp at he, ?_⟩
    refine Goes.step rfl (fun _ h₁ => ?_)
    replace hF := SI.rely hF h₁
    clear h₁
    rw [stepG_region]
    simp only [goes_go, List.size_toArray, List.length_cons, List.length_nil, Nat.reduceAdd, Nat.zero_add, List.range, List.range.loop]
    refine ⟨by refine dq_none ?_; intro e he; simp at he, ?_⟩
    refine Goes.step rfl (fun _ h₁ => ?_)
    replace hF := SI.rely hF h₁
    clear h₁
    refine goes_oper_k rfl rfl (by k_ne) (fun K hK => ?_)
    go_simp
    refine hK _ _ ⟨?_, ?_⟩
    · refine dq_none ?_; intro e he; have hm := mem_listed he; simp [go_sem, *] at hm
    clear hK K
    try w_num
    have hev := fun w es => events_indexAt_slice (P := Try.prog) (w := w) (es := es) 62 ⟨ga, off, none⟩ n cap .i64 (j : Int) hsu (by omega)
    clear hsu
    refine Goes.step rfl (fun _ h₁ => ?_)
    replace hF := SI.rely hF h₁
    clear h₁
    refine goes_oper_k rfl rfl (by k_ne) (fun K hK => ?_)
    go_simp
    refine hK _ _ ⟨?_, ?_⟩
    · refine dq_none ?_; intro e he; have hm := mem_listed he; simp [go_sem, *] at hm
    clear hK K
    try w_num
    clear hev
    -- the part is read
    refine Goes.step rfl (fun _ h₁ => ?_)
    replace hF := SI.rely hF h₁
    clear h₁
    refine goes_oper_k rfl rfl (by k_ne) (fun Kx hKx => ?_)
    have hc := (hF.sf.below.cell (p := ⟨ga, off + j, none⟩) hga).trans hcj0
    go_simp
    refine hKx _ _ ⟨?_, ?_⟩
    · refine dq_read ?_; intro e he; have hm := mem_listed he; simp [go_sem, *] at hm
      subst hm
      exact .inl ⟨_, false, rfl, hXa, by show ga ≠ N; omega, fun x => by have : N + 3 ≤ ga := x.1; omega, by have := hF.sf.n0; show ga < _; omega, fun x => by cases x⟩
    clear hKx Kx hc
    -- its cells are made
    refine Goes.step rfl (fun wx h₁ => ?_)
    replace hF := SI.rely hF h₁
    clear h₁
    refine goes_oper_k rfl rfl (by k_ne) (fun Kx hKx => ?_)
    go_simp
    refine hKx _ _ ⟨?_, ?_⟩
    · refine dq_alloc _ _ (by decide) ?_; intro e he; have hm := mem_listed he; simp [go_sem, *] at hm
    clear hKx Kx
    replace hF := hF.alloc (t := 3) (by decide) (.int .i64 0)
    generalize wx.heap.size = bI at hF ⊢
    generalize wx.alloc _ = wy at hF ⊢
    clear wx
    refine Goes.step rfl (fun wx h₁ => ?_)
    replace hF := SI.rely hF h₁
    clear h₁
    refine goes_oper_k rfl rfl (by k_ne) (fun Kx hKx => ?_)
    go_simp
    refine hKx _ _ ⟨?_, ?_⟩
    · refine dq_alloc _ _ (by decide) ?_; intro e he; have hm := mem_listed he; simp [go_sem, *] at hm
    clear hKx Kx
    replace hF := hF.alloc (t := 29) (by decide) (.slice none 0 0)
    generalize wx.heap.size = bP at hF ⊢
    generalize wx.alloc _ = wy at hF ⊢
    clear wx
    -- .. and written
    refine Goes.step rfl (fun wx h₁ => ?_)
    replace hF := SI.rely hF h₁
    clear h₁
    obtain ⟨l1, l2, l3⟩ := hF.at_ (bI, 3, .int .i64 0) (by simp)
    rw [stepG_store3 rfl rfl (by k_ne) rfl rfl rfl (One.cell l3) (One.frozen l3) loud38]
    simp only [goes_go]
    refine ⟨dq_set l3 l2 (by have := hF.lw.1; exact Nat.le_trans this l1) l1 hX _, ?_⟩
    replace hF := hF.setI (.int .i64 (j : Int))
    clear l1 l2 l3
    generalize wx.setCell _ _ = wy at hF ⊢
    clear wx
    walk_nrm
    refine Goes.step rfl (fun wx h₁ => ?_)
    replace hF := SI.rely hF h₁
    clear h₁
    obtain ⟨l1, l2, l3⟩ := hF.at_ (bP, 29, .slice none 0 0) (by simp)
    rw [stepG_store29 rfl rfl (by k_ne) rfl rfl rfl (One.cell l3) (One.frozen l3) loud38]
    simp only [goes_go]
    refine ⟨dq_set l3 l2 (by have := hF.lw.1; exact Nat.le_trans this l1) l1 hX _, ?_⟩
    replace hF := hF.setP (.slice Aj mj cj)
    clear l1 l2 l3
    generalize wx.setCell _ _ = wy at hF ⊢
    clear wx
    walk_nrm
    refine Goes.step rfl (fun _ h₁ => ?_)
    replace hF := SI.rely hF h₁
    clear h₁
    rw [stepG_region_end]
    simp only [goes_go]
    refine ⟨by refine dq_none ?_; intro e he; simp at he, ?_⟩
    refine Goes.step rfl (fun _ h₁ => ?_)
    replace hF := SI.rely hF h₁
    clear h₁
    rw [stepG_region]
    simp only [goes_go, List.size_toArray, List.length_cons, List.length_nil, Nat.reduceAdd, Nat.zero_add, List.range, List.range.loop]
    refine ⟨by refine dq_none ?_; intro e he; simp at he, ?_⟩
    have hmf : ∀ (fn : Fn) (first cap : Array Value) (w : World), (Instr.makeFunc fn first cap).run Try.prog w = .ok (.func fn first cap) w := fun _ _ _ _ => rfl
    have hme : ∀ (fn : Fn) (first cap : Array Value) (w : World) (es : Array Event), (Instr.makeFunc fn first cap).events Try.prog w es = es := fun _ _ _ _ _ => rfl
    refine Goes.step rfl (fun _ h₁ => ?_)
    replace hF := SI.rely hF h₁
    clear h₁
    refine goes_oper_k rfl rfl (by k_ne) (fun K hK => ?_)
    go_simp
    refine hK _ _ ⟨?_, ?_⟩
    · refine dq_none ?_; intro e he; have hm := mem_listed he; simp [go_sem, *] at hm
    clear hK K
    try w_num
    clear hmf hme
    refine Goes.step rfl (fun _ h₁ => ?_)
    replace hF := SI.rely hF h₁
    clear h₁
    refine goes_call rfl rfl (by k_ne) rfl Try.func53 (by rfl) rfl ⟨by refine dq_none ?_; intro e he; simp at he, ?_⟩
    walk_nrmf Try.f53
    refine Goes.step rfl (fun _ h₁ => ?_)
    replace hF := SI.rely hF h₁
    clear h₁
    rw [stepG_seq]
    simp only [goes_go]
    refine ⟨by refine dq_none ?_; intro e he; simp at he, ?_⟩
    refine Goes.step rfl (fun _ h₁ => ?_)
    replace hF := SI.rely hF h₁
    clear h₁
    rw [stepG_region]
    simp only [goes_go, List.size_toArray, List.length_cons, List.length_nil, Nat.reduceAdd, Nat.zero_add, List.range, List.range.loop]
    refine ⟨by refine dq_none ?_; intro e he; simp at he, ?_⟩
    refine Goes.step rfl (fun wx h₁ => ?_)
    replace hF := SI.rely hF h₁
    clear h₁
    refine goes_oper_k rfl rfl (by k_ne) (fun Kx hKx => ?_)
    go_simp
    refine hKx _ _ ⟨?_, ?_⟩
    · refine dq_alloc _ _ (by decide) ?_; intro e he; have hm := mem_listed he; simp [go_sem, *] at hm
    clear hKx Kx
    replace hF := hF.alloc (t := 102) (by decide) (.pointer (some ⟨N + 2, 0, none⟩))
    generalize wx.heap.size = bG at hF ⊢
    generalize wx.alloc _ = wy at hF ⊢
    clear wx
    refine Goes.step rfl (fun wx h₁ => ?_)
    replace hF := SI.rely hF h₁
    clear h₁
    refine goes_oper_k rfl rfl (by k_ne) (fun Kx hKx => ?_)
    go_simp
    refine hKx _ _ ⟨?_, ?_⟩
    · refine dq_alloc _ _ (by decide) ?_; intro e he; have hm := mem_listed he; simp [go_sem, *] at hm
    clear hKx Kx
    replace hF := hF.alloc (t := 1) (by decide) (.func (.func 54) #[] #[.pointer (some ⟨bP, 0, none⟩), .pointer (some ⟨N + 1, 0, none⟩), .pointer (some ⟨bI, 0, none⟩)])
    generalize wx.heap.size = bF at hF ⊢
    generalize wx.alloc _ = wy at hF ⊢
    clear wx
    refine Goes.step rfl (fun _ h₁ => ?_)
    replace hF := SI.rely hF h₁
    clear h₁
    rw [stepG_region_end]
    simp only [goes_go]
    refine ⟨by refine dq_none ?_; intro e he; simp at he, ?_⟩
    refine Goes.step rfl (fun _ h₁ => ?_)
    replace hF := SI.rely hF h₁
    clear h₁
    rw [stepG_seq]
    simp only [goes_go]
    refine ⟨by refine dq_none ?_; intro e he; simp at he, ?_⟩
    refine Goes.step rfl (fun _ h₁ => ?_)
    replace hF := SI.rely hF h₁
    clear h₁
    rw [stepG_region]
    simp only [goes_go, List.size_toArray, List.length_cons, List.length_nil, Nat.reduceAdd, Nat.zero_add, List.range, List.range.loop]
    refine ⟨by refine dq_none ?_; intro e he; simp at he, ?_⟩
    refine Goes.step rfl (fun _ h₁ => ?_)
    replace hF := SI.rely hF h₁
    clear h₁
    refine goes_oper_k rfl rfl (by k_ne) (fun Kx hKx => ?_)
    obtain ⟨l1, l2, l3⟩ := hF.at_ (bG, 102, .pointer (some ⟨N + 2, 0, none⟩)) (by simp)
    have hc := One.cell l3
    go_simp
    refine hKx _ _ ⟨?_, ?_⟩
    · refine dq_read ?_; intro e he; have hm := mem_listed he; simp [go_sem, *] at hm
      subst hm
      have hb : N + 3 ≤ bG := Nat.le_trans hF.lw.1 l1
      exact .inl ⟨_, false, rfl, fun x => by have h1 := hX _ x; have h2 : bG < N + 3 := h1; omega, by show bG ≠ N; omega, One.nohalf l3 l2, One.lt l3, fun x => by cases x⟩
    clear hKx Kx hc l1 l2 l3
    -- Add(1)
    refine Goes.step rfl (fun _ h₁ => ?_)
    replace hF := SI.rely hF h₁
    clear h₁
    refine goes_call rfl rfl (by k_ne) rfl wgLib.f_add (nm_add link) rfl ⟨by refine dq_none ?_; intro e he; simp at he, ?_⟩
    have hA := fun (b₀ : Frame) (a₀ : Act) (ops₀ : Array Oper) (i₀ : Nat) (rest₀ : List Nat) (k₀ : List Item) (cs' : List Frame) (mT : Nat) => addQ (P := Try.prog) (lk := link) (L := lay N n) (X := X) (M := M) (K := K) (val := valP ps) (j := j) (Lw := Lw) (Next := Starts Try.prog (lay N n) X M K (valP ps) (Fin0 Try.prog (lay N n) X (AnW W N n (some ⟨ga, off, none⟩) cap cs)) r) (F := SI W N n Lw [(bF, 1, .func (.func 54) #[] #[.pointer (some ⟨bP, 0, none⟩), .pointer (some ⟨N + 1, 0, none⟩), .pointer (some ⟨bI, 0, none⟩)]), (bG, 102, .pointer (some ⟨N + 2, 0, none⟩)), (bP, 29, .slice Aj mj cj), (bI, 3, .int .i64 (j : Int))]) (b₀ := b₀) (a₀ := a₀) (ops₀ := ops₀) (i₀ := i₀) (rest₀ := rest₀) (k₀ := k₀) (cs := cs') (mT := mT) wgLib (lay_ok N n) (fun _ _ r h => h.rely r)
    simp only [GQ, body_add, addFn, Option.getD_some] at hA
    walk_nrmf addFn
    refine Goes.mono (n := 12) (hA _ _ _ _ _ _ _ 4 ?_ _ ⟨hF, hF.live⟩) (by omega)
    clear hA hF
    intro w' hF h2
    clear h2
    walk_nrm
    refine Goes.step rfl (fun _ h₁ => ?_)
    replace hF := SI.rely hF h₁
    clear h₁
    rw [stepG_region_end]
    simp only [goes_go]
    refine ⟨by refine dq_none ?_; intro e he; simp at he, ?_⟩
    refine Goes.step rfl (fun _ h₁ => ?_)
    replace hF := SI.rely hF h₁
    clear h₁
    rw [stepG_region]
    simp only [goes_go, List.size_toArray, List.length_cons, List.length_nil, Nat.reduceAdd, Nat.zero_add, List.range, List.range.loop]
    refine ⟨by refine dq_none ?_; intro e he; simp at he, ?_⟩
    have hmf : ∀ (fn : Fn) (first cap : Array Value) (w : World), (Instr.makeFunc fn first cap).run Try.prog w = .ok (.func fn first cap) w := fun _ _ _ _ => rfl
    have hme : ∀ (fn : Fn) (first cap : Array Value) (w : World) (es : Array Event), (Instr.makeFunc fn first cap).events Try.prog w es = es := fun _ _ _ _ _ => rfl
    refine Goes.step rfl (fun _ h₁ => ?_)
    replace hF := SI.rely hF h₁
    clear h₁
    refine goes_oper_k rfl rfl (by k_ne) (fun K hK => ?_)
    go_simp
    refine hK _ _ ⟨?_, ?_⟩
    · refine dq_none ?_; intro e he; have hm := mem_listed he; simp [go_sem, *] at hm
    clear hK K
    try w_num
    clear hmf hme
    -- the go statement
    refine Goes.stop (fun w₂ r₂ => ?_)
    replace hF := SI.rely hF r₂
    clear r₂ w'
    refine ⟨rfl, ?_⟩
    rw [stepG_spawn (d := dcallv 61 #[.pointer (some ⟨bG, 0, none⟩), .pointer (some ⟨bF, 0, none⟩)]) (w' := w₂) (f := .func 61) (c := #[.pointer (some ⟨bG, 0, none⟩), .pointer (some ⟨bF, 0, none⟩)]) rfl rfl (by k_ne) (by simp [go_sem, dcallv, Deferred.ofValue]) rfl]
    generalize hLx : listed _ _ _ _ _ = Lx
    have hLx' : Lx = #[] := by
      rw [← hLx]
      simp [listed, go_sem, seen, Deferred.ofValue]
      try rfl
    subst hLx'
    clear hLx
    obtain ⟨f1, f2, f3⟩ := hF.at_ (bF, 1, .func (.func 54) #[] #[.pointer (some ⟨bP, 0, none⟩), .pointer (some ⟨N + 1, 0, none⟩), .pointer (some ⟨bI, 0, none⟩)]) (by simp)
    obtain ⟨g1, g2, g3⟩ := hF.at_ (bG, 102, .pointer (some ⟨N + 2, 0, none⟩)) (by simp)
    obtain ⟨p1, p2, p3⟩ := hF.at_ (bP, 29, .slice Aj mj cj) (by simp)
    obtain ⟨i1, i2, i3⟩ := hF.at_ (bI, 3, .int .i64 (j : Int)) (by simp)
    have hw1 := hF.lw.1
    have hn0 := hF.sf.n0
    have hone : ∀ (b : Nat) (t : TypeId) (v : Value), Lw ≤ b → t ≠ 99 → One b t v w₂ → b < w₂.heap.size ∧ b ≠ N ∧ b ≠ N + 2 ∧ ¬ X b ∧ ¬ Half (lay N n) w₂ b := fun b t v h1 h2 h3 => ⟨One.lt h3, by omega, by omega, fun x => by have := hX _ x; omega, One.nohalf h3 h2⟩
    have hRd : ∀ b, (b = bG ∨ b = bF ∨ b = bP ∨ b = N + 1 ∨ b = bI ∨ ((∃ o, Aj = some ⟨b, o, none⟩) ∧ b < N ∧ ¬ X b)) → b < w₂.heap.size ∧ b ≠ N ∧ b ≠ N + 2 ∧ ¬ X b ∧ ¬ Half (lay N n) w₂ b := by
      rintro b (rfl | rfl | rfl | rfl | rfl | ⟨_, h1, h2⟩)
      · exact hone _ _ _ g1 g2 g3
      · exact hone _ _ _ f1 f2 f3
      · exact hone _ _ _ p1 p2 p3
      · exact ⟨by omega, by omega, by omega, hXN, hF.sf.sums.nohalf (by decide)⟩
      · exact hone _ _ _ i1 i2 i3
      · exact ⟨by omega, by omega, by omega, h2, fun x => by have : N + 3 ≤ b := x.1; omega⟩
    have hsol : ∀ b, (b = bG ∨ b = bF ∨ b = bP ∨ b = N + 1 ∨ b = bI ∨ ((∃ o, Aj = some ⟨b, o, none⟩) ∧ b < N ∧ ¬ X b)) → Sol (lay N n) w₂.heap.size (fun b => b = bG ∨ b = bF ∨ b = bP ∨ b = N + 1 ∨ b = bI ∨ ((∃ o, Aj = some ⟨b, o, none⟩) ∧ b < N ∧ ¬ X b)) b w₂ := fun b hb => let h := hRd b hb; ⟨hb, h.1, h.1, h.2.1, h.2.2.1, h.2.2.2.2⟩
    refine ⟨_, _, _, rfl, rfl, hRd, fun hpay => ⟨60, ?_⟩, ?_⟩
    · refine workQ (N := Bm) (n := mj) (c := cj) (A := Aj) (p := ⟨bG, bF, bP, N + 1, bI⟩) (bs := ps.getD j []) hq (lay_ok N n) rfl rfl hK hjn (by rw [← hmj]; exact hB j hjn) hM w₂ ?_
      refine ⟨hsol _ (by simp), hsol _ (by simp), hsol _ (by simp), hsol _ (by simp), hsol _ (by simp), One.cell g3, One.cell f3, One.cell p3, hF.sf.sums.cell, One.cell i3, ⟨by simpa using hmj, fun hpos => ?_⟩, hF.live, hpay, hn0⟩
      obtain ⟨gb, ob, hb1, hb2, hb3, hb4⟩ := ha.bytes j hjn (by omega)
      rw [hAj] at hb1
      have hs := hsol gb (.inr (.inr (.inr (.inr (.inr ⟨⟨ob, hb1⟩, hb2, hb3⟩)))))
      exact ⟨gb, ob, hb1, hs.rd, hs.low, hs.lt, hs.nC, hs.nW, hs.nH, fun k u hu => (hF.sf.below.cell (p := ⟨gb, ob + k, none⟩) hb2).trans (hb4 k u hu)⟩
    refine starts_of (m := 80) W N n _ cap cs X M K ps ?_
    replace hF : SI W N n w₂.heap.size [] w₂ := ⟨hF.sf, ⟨hn0, Nat.le_refl _⟩, hF.live, by simp⟩
    clear f1 f2 f3 g1 g2 g3 p1 p2 p3 i1 i2 i3 hone hRd hsol hw1
    have hwr : IntKind.i64.wrap ((j : Int) + 1) = ((j + 1 : Nat) : Int) := by rw [IntKind.wrap_i64]; omega
    simp only [GQ]
    walk_nrm
    refine Goes.step rfl (fun _ h₁ => ?_)
    replace hF := SI.rely hF h₁
    clear h₁
    rw [stepG_region_end]
    simp only [goes_go]
    refine ⟨by refine dq_none ?_; intro e he; simp at he, ?_⟩
    refine Goes.step rfl (fun _ h₁ => ?_)
    replace hF := SI.rely hF h₁
    clear h₁
    rw [stepG_end]
    simp only [goes_go]
    refine ⟨by refine dq_none ?_; intro e he; simp at he, ?_⟩
    refine Goes.step rfl (fun _ h₁ => ?_)
    replace hF := SI.rely hF h₁
    clear h₁
    refine goes_leave0 rfl rfl Try.func53 rfl ⟨by refine dq_none ?_; intro e he; simp at he, ?_⟩
    walk_nrm
    refine Goes.step rfl (fun _ h₁ => ?_)
    replace hF := SI.rely hF h₁
    clear h₁
    rw [stepG_region_end]
    simp only [goes_go]
    refine ⟨by refine dq_none ?_; intro e he; simp at he, ?_⟩
    refine Goes.step rfl (fun _ h₁ => ?_)
    replace hF := SI.rely hF h₁
    clear h₁
    rw [stepG_inBlock]
    simp only [goes_go]
    refine ⟨by refine dq_none ?_; intro e he; simp at he, ?_⟩
    refine Goes.step rfl (fun _ h₁ => ?_)
    replace hF := SI.rely hF h₁
    clear h₁
    rw [stepG_region]
    simp only [goes_go, List.size_toArray, List.length_cons, List.length_nil, Nat.reduceAdd, Nat.zero_add, List.range, List.range.loop]
    refine ⟨by refine dq_none ?_; intro e he; simp at he, ?_⟩
    refine Goes.step rfl (fun _ h₁ => ?_)
    replace hF := SI.rely hF h₁
    clear h₁
    refine goes_oper_k rfl rfl (by k_ne) (fun K hK => ?_)
    go_simp
    refine hK _ _ ⟨?_, ?_⟩
    · refine dq_none ?_; intro e he; have hm := mem_listed he; simp [go_sem, *] at hm
    clear hK K
    try w_num
    refine Goes.step rfl (fun _ h₁ => ?_)
    replace hF := SI.rely hF h₁
    clear h₁
    refine goes_oper_k rfl rfl (by k_ne) (fun K hK => ?_)
    go_simp
    refine hK _ _ ⟨?_, ?_⟩
    · refine dq_none ?_; intro e he; have hm := mem_listed he; simp [go_sem, *] at hm
    clear hK K
    try w_num
    refine Goes.step rfl (fun _ h₁ => ?_)
    replace hF := SI.rely hF h₁
    clear h₁
    rw [stepG_region_end]
    simp only [goes_go]
    refine ⟨by refine dq_none ?_; intro e he; simp at he, ?_⟩
    refine Goes.step rfl (fun _ h₁ => ?_)
    replace hF := SI.rely hF h₁
    clear h₁
    rw [stepG_inLoop]
    simp only [goes_go]
    refine ⟨by refine dq_none ?_; intro e he; simp at he, ?_⟩
    exact Goes.mono (ih (j + 1) (by omega) _ _ _ ⟨_, rfl, by simp, by simp, by simp, by simp, by simp, by simp, by simp⟩ hF) (by omega)
end
end Go.Proofs.Ytoipkpndfgcmcaa.Crew
