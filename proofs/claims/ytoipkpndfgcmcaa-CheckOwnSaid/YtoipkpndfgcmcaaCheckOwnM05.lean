/-
  A worker of Parts: its birth; the defer; the sum of its bytes; the store into its own cell; the deferred Done. The conditions stand in each theorem.
-/
import Derived.Laws.BitsAllLaws
import Derived.Test.YtoipkpndfgcmcaaRows
import Derived.Conc.CompanyMem
import Derived.Conc.CompanyCalls
import Derived.Conc.EventLaws2
import Derived.Conc.DeferLaws
import Derived.Conc.QuitsD
import Derived.Conc.CompanyDraw
import Derived.Test.YtoipkpndfgcmcaaCheckOwnM00
import Derived.Test.YtoipkpndfgcmcaaCheckOwnM04

/-
  (*WaitGroup).Wait, as the starter calls it beside its workers and older ones. The conditions stand in each theorem.
-/
namespace Go.Proofs.Ytoipkpndfgcmcaa.Crew
open Go Go.Conc Go.ConcN Go.RowKit Go.Conc.Lib Go.ConcR.Gen Go.ConcN.Gen Go.Proofs.Ytoipkpndfgcmcaa.Veils
open Go.ConcR (KK wgBlock WgAt stA smA rd wr mk Payload DC0)
set_option linter.unusedVariables false
set_option linter.unusedSectionVars false
set_option linter.unusedSimpArgs false
/-- A walk in which the others only draw. -/
theorem runs_of_goes {P : Program} {D : World → World → Array Event → Prop} {Stop : Goroutine → World → Prop} : ∀ (n : Nat) {g : Goroutine} {w : World}, Goes P true AtRel D Stop n g w → Runs P D Stop g w
  | 0, g, w, h => .stop fun d => h _ ⟨d, rfl⟩
  | n + 1, g, w, h => by
      rcases h with hs | ⟨hr, hst⟩
      · exact .stop fun d => hs _ ⟨d, rfl⟩
      · exact Runs.of_step hr fun d => let ⟨g', w', es, e1, e2, e3⟩ := goes_elim (hst _ ⟨d, rfl⟩); ⟨g', w', es, e1, e2, runs_of_goes n e3⟩
section
variable {X : Nat → Prop}
theorem df_none {w : World} {es : Array Event} (h : ∀ e ∈ es, False) : DF X w w es := ⟨Nat.le_refl _, fun e he => (h e he).elim⟩
end
section
variable {L : Lay} {X : Nat → Prop} {lk : WgLink} {Lw : Nat} {vals : List Value} {F : World → Prop}
  {b₀ : Frame} {a₀ : Act} {ops₀ : Array Oper} {i₀ : Nat} {rest₀ : List Nat} {k₀ : List Item} {cs : List Frame} {mT : Nat}
/-- At the head of Wait's loop. -/
def AnchQ (lk : WgLink) (F : World → Prop) (L : Lay) (c : Frame) (cs : List Frame) (g : Goroutine) (w : World) : Prop :=
  ∃ T : Array Value, g = G ((base lk.wait).at ⟨T, []⟩ [.code (L7 lk), .inLoop (L7 lk), .inBlock 0]) (c :: cs) ∧ T.size = 84 ∧ T[0]? = some (.pointer (some ⟨L.Wg, 0, none⟩)) ∧ F w ∧ WgLive L.ty L.Wg w
/-- Behind the join, on the way back to the caller, alone but for those that only leave. -/
def BackQ (P : Program) (X : Nat → Prop) (L : Lay) (vals : List Value) (F : World → Prop) (g' : Goroutine) (g : Goroutine) (w : World) : Prop :=
  ∃ n, Goes P true AtRel (DF X) (fun g w => g = g' ∧ F w ∧ Full L.C vals w) n g w
theorem fat_rely (hF2 : ∀ w w', RQ L w w' → F w → F w') {w w₁ : World} (h : F w ∧ Full L.C vals w) (r : AtRel w w₁) : F w₁ ∧ Full L.C vals w₁ := by
  obtain ⟨d, rfl⟩ := r
  exact ⟨hF2 _ _ (RQ.at w d) h.1, h.2⟩
set_option maxRecDepth 100000 in
/-- From Wait's entry to the loop's head. -/
theorem waitInQ {P : Program} (H : WgLib P lk) (hL : L.Ok) (hF2 : ∀ w w', RQ L w w' → F w → F w') (w : World) (hF : F w ∧ WgLive L.ty L.Wg w) :
    GQ P L X Lw (AtIn P L X (AnchQ lk F L (b₀.at a₀ (.inRegion ops₀ (i₀ :: rest₀) :: k₀)) cs) Lw) 3
      (G ((base lk.wait).at ⟨#[.pointer (some ⟨L.Wg, 0, none⟩), undef, undef, undef, undef, undef, undef, undef, undef, undef, undef, undef, undef, undef, undef, undef, undef, undef, undef, undef, undef, undef, undef, undef, undef, undef, undef, undef, undef, undef, undef, undef, undef, undef, undef, undef, undef, undef, undef, undef, undef, undef, undef, undef, undef, undef, undef, undef, undef, undef, undef, undef, undef, undef, undef, undef, undef, undef, undef, undef, undef, undef, undef, undef, undef, undef, undef, undef, undef, undef, undef, undef, undef, undef, undef, undef, undef, undef, undef, undef, undef, undef, undef, undef], []⟩ [.code (body_wait lk)]) (b₀.at a₀ (.inRegion ops₀ (i₀ :: rest₀) :: k₀) :: cs)) w := by
  lib_facts
  simp only [GQ, body_wait, waitFn, Option.getD_some]
  refine Goes.step rfl (fun _ h₁ => ?_)
  replace hF := (fq_rely hF2) hF h₁
  clear h₁
  rw [stepG_seq]
  simp only [goes_go]
  refine ⟨by refine dq_none ?_; intro e he; simp at he, ?_⟩
  refine Goes.step rfl (fun _ h₁ => ?_)
  replace hF := (fq_rely hF2) hF h₁
  clear h₁
  rw [stepG_cond (t := true) (by first | rfl | (simp [Act.eval]; omega))]
  simp only [goes_go, if_true, if_false, Bool.false_eq_true, ↓reduceIte]
  refine ⟨by refine dq_none ?_; intro e he; simp at he, ?_⟩
  refine Goes.step rfl (fun _ h₁ => ?_)
  replace hF := (fq_rely hF2) hF h₁
  clear h₁
  rw [stepG_region]
  simp only [goes_go, List.size_toArray, List.length_cons, List.length_nil, Nat.reduceAdd, Nat.zero_add, List.range, List.range.loop]
  refine ⟨by refine dq_none ?_; intro e he; simp at he, ?_⟩
  refine Goes.stop (fun w₁ h₁ => ?_)
  replace hF := fq_rely hF2 hF h₁
  clear h₁
  refine ⟨rfl, _, stepG_mark0 .disable (by simp) rfl rfl (by k_ne) rfl H.f_disable (x_disable_n lk) (x_disable_b lk) (x_disable_x lk) (x_disable_f lk), 3, ?_⟩
  simp only [GQ]
  walk_nrm
  refine Goes.step rfl (fun _ h₁ => ?_)
  replace hF := (fq_rely hF2) hF h₁
  clear h₁
  rw [stepG_region_end]
  simp only [goes_go]
  refine ⟨by refine dq_none ?_; intro e he; simp at he, ?_⟩
  refine Goes.step rfl (fun _ h₁ => ?_)
  replace hF := (fq_rely hF2) hF h₁
  clear h₁
  rw [stepG_block]
  simp only [goes_go]
  refine ⟨by refine dq_none ?_; intro e he; simp at he, ?_⟩
  refine Goes.step rfl (fun _ h₁ => ?_)
  replace hF := (fq_rely hF2) hF h₁
  clear h₁
  rw [stepG_loop]
  simp only [goes_go]
  refine ⟨by refine dq_none ?_; intro e he; simp at he, ?_⟩
  exact Goes.stop (fun w₂ h₂ => ⟨_, rfl, by simp, by simp, fq_rely hF2 hF h₂⟩)
set_option maxRecDepth 100000 in
set_option maxHeartbeats 8000000 in
/-- From the loop's head. -/
theorem waitRoundQ {P : Program} (H : WgLib P lk) (hL : L.Ok) (hF2 : ∀ w w', RQ L w w' → F w → F w')
    (g : Goroutine) (w : World) (h : AnchQ lk F L (b₀.at a₀ (.inRegion ops₀ (i₀ :: rest₀) :: k₀)) cs g w) :
    ∃ m, GQ P L X Lw (AtLook P L X vals (BackQ P X L vals F (G (b₀.at (a₀.put ((ops₀[i₀]?).bind (·.dst)) (.tuple #[])) (.inRegion ops₀ rest₀ :: k₀)) cs)) (AnchQ lk F L (b₀.at a₀ (.inRegion ops₀ (i₀ :: rest₀) :: k₀)) cs) Lw) m g w := by
  lib_facts
  obtain ⟨T, rfl, hT84, t0, hF⟩ := h
  obtain ⟨v0, v1, v2, v3, v4, v5, v6, v7, v8, v9, v10, v11, v12, v13, v14, v15, v16, v17, v18, v19, v20, v21, v22, v23, v24, v25, v26, v27, v28, v29, v30, v31, v32, v33, v34, v35, v36, v37, v38, v39, v40, v41, v42, v43, v44, v45, v46, v47, v48, v49, v50, v51, v52, v53, v54, v55, v56, v57, v58, v59, v60, v61, v62, v63, v64, v65, v66, v67, v68, v69, v70, v71, v72, v73, v74, v75, v76, v77, v78, v79, v80, v81, v82, v83, rfl⟩ := array84 T hT84
  simp only [List.getElem?_toArray, List.getElem?_cons_zero, Option.some.injEq] at t0
  subst t0
  refine ⟨30, ?_⟩
  simp only [GQ, L7, body_wait, waitFn, Option.getD_some]
  repeat (first
    | (refine Goes.step rfl (fun _ h₁ => ?_)
       replace hF := (fq_rely hF2) hF h₁
       clear h₁
       rw [stepG_seq]
       simp only [goes_go]
       refine ⟨by refine dq_none ?_; intro e he; simp at he, ?_⟩)
    | (refine Goes.step rfl (fun _ h₁ => ?_)
       replace hF := (fq_rely hF2) hF h₁
       clear h₁
       rw [stepG_region_end]
       simp only [goes_go]
       refine ⟨by refine dq_none ?_; intro e he; simp at he, ?_⟩)
    | (refine Goes.step rfl (fun _ h₁ => ?_)
       replace hF := (fq_rely hF2) hF h₁
       clear h₁
       rw [stepG_skip]
       simp only [goes_go]
       refine ⟨by refine dq_none ?_; intro e he; simp at he, ?_⟩)
    | (refine Goes.step rfl (fun _ h₁ => ?_)
       replace hF := (fq_rely hF2) hF h₁
       clear h₁
       rw [stepG_block]
       simp only [goes_go]
       refine ⟨by refine dq_none ?_; intro e he; simp at he, ?_⟩)
    | (refine Goes.step rfl (fun _ h₁ => ?_)
       replace hF := (fq_rely hF2) hF h₁
       clear h₁
       rw [stepG_loop]
       simp only [goes_go]
       refine ⟨by refine dq_none ?_; intro e he; simp at he, ?_⟩)
    | (refine Goes.step rfl (fun _ h₁ => ?_)
       replace hF := (fq_rely hF2) hF h₁
       clear h₁
       rw [stepG_inLoop]
       simp only [goes_go]
       refine ⟨by refine dq_none ?_; intro e he; simp at he, ?_⟩)
    | (refine Goes.step rfl (fun _ h₁ => ?_)
       replace hF := (fq_rely hF2) hF h₁
       clear h₁
       rw [stepG_inBlock]
       simp only [goes_go]
       refine ⟨by refine dq_none ?_; intro e he; simp at he, ?_⟩)
    | (refine Goes.step rfl (fun _ h₁ => ?_)
       replace hF := (fq_rely hF2) hF h₁
       clear h₁
       rw [stepG_label]
       simp only [goes_go]
       refine ⟨by refine dq_none ?_; intro e he; simp at he, ?_⟩)
    | (refine Goes.step rfl (fun _ h₁ => ?_)
       replace hF := (fq_rely hF2) hF h₁
       clear h₁
       rw [stepG_region]
       simp only [goes_go, List.size_toArray, List.length_cons, List.length_nil, Nat.reduceAdd, Nat.zero_add, List.range, List.range.loop]
       refine ⟨by refine dq_none ?_; intro e he; simp at he, ?_⟩)
    | (refine Goes.step rfl (fun _ h₁ => ?_)
       replace hF := (fq_rely hF2) hF h₁
       clear h₁
       rw [stepG_unwanted rfl rfl]
       simp only [goes_go]
       refine ⟨by refine dq_none ?_; intro e he; simp at he, ?_⟩
       walk_nrm)
    | (refine Goes.step rfl (fun _ h₁ => ?_)
       replace hF := (fq_rely hF2) hF h₁
       clear h₁
       rw [stepG_cond (t := true) rfl]
       simp only [goes_go, if_true, if_false, Bool.false_eq_true, ↓reduceIte]
       refine ⟨by refine dq_none ?_; intro e he; simp at he, ?_⟩)
    | (refine Goes.step rfl (fun _ h₁ => ?_)
       replace hF := (fq_rely hF2) hF h₁
       clear h₁
       rw [stepG_cond (t := false) rfl]
       simp only [goes_go, if_true, if_false, Bool.false_eq_true, ↓reduceIte]
       refine ⟨by refine dq_none ?_; intro e he; simp at he, ?_⟩)
    | (refine Goes.step rfl (fun _ h₁ => ?_)
       replace hF := (fq_rely hF2) hF h₁
       clear h₁
       fail_if_success (rw [stepG_ret'])
       fail_if_success (rw [stepG_end])
       refine goes_oper_k rfl rfl (by k_ne) (fun K hK => ?_)
       go_simp
       refine hK _ _ ⟨?_, ?_⟩
       · refine dq_none ?_; intro e he; have hm := mem_listed he; simp [go_sem, *] at hm
       clear hK K
       try w_num)
    )
  refine Goes.step rfl (fun _ h₁ => ?_)
  replace hF := (fq_rely hF2) hF h₁
  clear h₁
  refine goes_call rfl rfl (by k_ne) rfl H.f_uLoad (nm_uLoad lk) rfl ⟨by refine dq_none ?_; intro e he; simp at he, ?_⟩
  walk_nrmf uLoadFn
  repeat (first
    | (refine Goes.step rfl (fun _ h₁ => ?_)
       replace hF := (fq_rely hF2) hF h₁
       clear h₁
       rw [stepG_seq]
       simp only [goes_go]
       refine ⟨by refine dq_none ?_; intro e he; simp at he, ?_⟩)
    | (refine Goes.step rfl (fun _ h₁ => ?_)
       replace hF := (fq_rely hF2) hF h₁
       clear h₁
       rw [stepG_region_end]
       simp only [goes_go]
       refine ⟨by refine dq_none ?_; intro e he; simp at he, ?_⟩)
    | (refine Goes.step rfl (fun _ h₁ => ?_)
       replace hF := (fq_rely hF2) hF h₁
       clear h₁
       rw [stepG_skip]
       simp only [goes_go]
       refine ⟨by refine dq_none ?_; intro e he; simp at he, ?_⟩)
    | (refine Goes.step rfl (fun _ h₁ => ?_)
       replace hF := (fq_rely hF2) hF h₁
       clear h₁
       rw [stepG_block]
       simp only [goes_go]
       refine ⟨by refine dq_none ?_; intro e he; simp at he, ?_⟩)
    | (refine Goes.step rfl (fun _ h₁ => ?_)
       replace hF := (fq_rely hF2) hF h₁
       clear h₁
       rw [stepG_loop]
       simp only [goes_go]
       refine ⟨by refine dq_none ?_; intro e he; simp at he, ?_⟩)
    | (refine Goes.step rfl (fun _ h₁ => ?_)
       replace hF := (fq_rely hF2) hF h₁
       clear h₁
       rw [stepG_inLoop]
       simp only [goes_go]
       refine ⟨by refine dq_none ?_; intro e he; simp at he, ?_⟩)
    | (refine Goes.step rfl (fun _ h₁ => ?_)
       replace hF := (fq_rely hF2) hF h₁
       clear h₁
       rw [stepG_inBlock]
       simp only [goes_go]
       refine ⟨by refine dq_none ?_; intro e he; simp at he, ?_⟩)
    | (refine Goes.step rfl (fun _ h₁ => ?_)
       replace hF := (fq_rely hF2) hF h₁
       clear h₁
       rw [stepG_label]
       simp only [goes_go]
       refine ⟨by refine dq_none ?_; intro e he; simp at he, ?_⟩)
    | (refine Goes.step rfl (fun _ h₁ => ?_)
       replace hF := (fq_rely hF2) hF h₁
       clear h₁
       rw [stepG_region]
       simp only [goes_go, List.size_toArray, List.length_cons, List.length_nil, Nat.reduceAdd, Nat.zero_add, List.range, List.range.loop]
       refine ⟨by refine dq_none ?_; intro e he; simp at he, ?_⟩)
    | (refine Goes.step rfl (fun _ h₁ => ?_)
       replace hF := (fq_rely hF2) hF h₁
       clear h₁
       rw [stepG_unwanted rfl rfl]
       simp only [goes_go]
       refine ⟨by refine dq_none ?_; intro e he; simp at he, ?_⟩
       walk_nrm)
    | (refine Goes.step rfl (fun _ h₁ => ?_)
       replace hF := (fq_rely hF2) hF h₁
       clear h₁
       rw [stepG_cond (t := true) rfl]
       simp only [goes_go, if_true, if_false, Bool.false_eq_true, ↓reduceIte]
       refine ⟨by refine dq_none ?_; intro e he; simp at he, ?_⟩)
    | (refine Goes.step rfl (fun _ h₁ => ?_)
       replace hF := (fq_rely hF2) hF h₁
       clear h₁
       rw [stepG_cond (t := false) rfl]
       simp only [goes_go, if_true, if_false, Bool.false_eq_true, ↓reduceIte]
       refine ⟨by refine dq_none ?_; intro e he; simp at he, ?_⟩)
    | (refine Goes.step rfl (fun _ h₁ => ?_)
       replace hF := (fq_rely hF2) hF h₁
       clear h₁
       fail_if_success (rw [stepG_ret'])
       fail_if_success (rw [stepG_end])
       refine goes_oper_k rfl rfl (by k_ne) (fun K hK => ?_)
       go_simp
       refine hK _ _ ⟨?_, ?_⟩
       · refine dq_none ?_; intro e he; have hm := mem_listed he; simp [go_sem, *] at hm
       clear hK K
       try w_num)
    )
  refine Goes.stop (fun w₁ h₁ => ?_)
  replace hF := fq_rely hF2 hF h₁
  clear h₁
  refine ⟨rfl, fun v hv hw => ?_⟩
  rcases Nat.eq_zero_or_pos v with rfl | hvp
  · -- the load reads 0
    replace hw : WgAt L.ty L.Wg w₁ 0 0 := by simpa using hw
    refine ⟨_, stepG_load_atomic (v := 0) rfl rfl (by k_ne) rfl H.f_loadU64 (x_loadU64_n lk) (x_loadU64_b lk) (x_loadU64_x lk) .u64 (x_loadU64_f lk) rfl hw.cellSt, fun _ => ⟨50, ?_⟩, fun h => absurd rfl h⟩
    clear hw
    simp only [GQ]
    walk_nrm
    repeat (first
      | (refine Goes.step rfl (fun _ h₁ => ?_)
         replace hF := (fq_rely hF2) hF h₁
         clear h₁
         rw [stepG_seq]
         simp only [goes_go]
         refine ⟨by refine dq_none ?_; intro e he; simp at he, ?_⟩)
      | (refine Goes.step rfl (fun _ h₁ => ?_)
         replace hF := (fq_rely hF2) hF h₁
         clear h₁
         rw [stepG_region_end]
         simp only [goes_go]
         refine ⟨by refine dq_none ?_; intro e he; simp at he, ?_⟩)
      | (refine Goes.step rfl (fun _ h₁ => ?_)
         replace hF := (fq_rely hF2) hF h₁
         clear h₁
         rw [stepG_skip]
         simp only [goes_go]
         refine ⟨by refine dq_none ?_; intro e he; simp at he, ?_⟩)
      | (refine Goes.step rfl (fun _ h₁ => ?_)
         replace hF := (fq_rely hF2) hF h₁
         clear h₁
         rw [stepG_block]
         simp only [goes_go]
         refine ⟨by refine dq_none ?_; intro e he; simp at he, ?_⟩)
      | (refine Goes.step rfl (fun _ h₁ => ?_)
         replace hF := (fq_rely hF2) hF h₁
         clear h₁
         rw [stepG_loop]
         simp only [goes_go]
         refine ⟨by refine dq_none ?_; intro e he; simp at he, ?_⟩)
      | (refine Goes.step rfl (fun _ h₁ => ?_)
         replace hF := (fq_rely hF2) hF h₁
         clear h₁
         rw [stepG_inLoop]
         simp only [goes_go]
         refine ⟨by refine dq_none ?_; intro e he; simp at he, ?_⟩)
      | (refine Goes.step rfl (fun _ h₁ => ?_)
         replace hF := (fq_rely hF2) hF h₁
         clear h₁
         rw [stepG_inBlock]
         simp only [goes_go]
         refine ⟨by refine dq_none ?_; intro e he; simp at he, ?_⟩)
      | (refine Goes.step rfl (fun _ h₁ => ?_)
         replace hF := (fq_rely hF2) hF h₁
         clear h₁
         rw [stepG_label]
         simp only [goes_go]
         refine ⟨by refine dq_none ?_; intro e he; simp at he, ?_⟩)
      | (refine Goes.step rfl (fun _ h₁ => ?_)
         replace hF := (fq_rely hF2) hF h₁
         clear h₁
         rw [stepG_region]
         simp only [goes_go, List.size_toArray, List.length_cons, List.length_nil, Nat.reduceAdd, Nat.zero_add, List.range, List.range.loop]
         refine ⟨by refine dq_none ?_; intro e he; simp at he, ?_⟩)
      | (refine Goes.step rfl (fun _ h₁ => ?_)
         replace hF := (fq_rely hF2) hF h₁
         clear h₁
         rw [stepG_unwanted rfl rfl]
         simp only [goes_go]
         refine ⟨by refine dq_none ?_; intro e he; simp at he, ?_⟩
         walk_nrm)
      | (refine Goes.step rfl (fun _ h₁ => ?_)
         replace hF := (fq_rely hF2) hF h₁
         clear h₁
         rw [stepG_cond (t := true) rfl]
         simp only [goes_go, if_true, if_false, Bool.false_eq_true, ↓reduceIte]
         refine ⟨by refine dq_none ?_; intro e he; simp at he, ?_⟩)
      | (refine Goes.step rfl (fun _ h₁ => ?_)
         replace hF := (fq_rely hF2) hF h₁
         clear h₁
         rw [stepG_cond (t := false) rfl]
         simp only [goes_go, if_true, if_false, Bool.false_eq_true, ↓reduceIte]
         refine ⟨by refine dq_none ?_; intro e he; simp at he, ?_⟩)
      | (refine Goes.step rfl (fun _ h₁ => ?_)
         replace hF := (fq_rely hF2) hF h₁
         clear h₁
         fail_if_success (rw [stepG_ret'])
         fail_if_success (rw [stepG_end])
         refine goes_oper_k rfl rfl (by k_ne) (fun K hK => ?_)
         go_simp
         refine hK _ _ ⟨?_, ?_⟩
         · refine dq_none ?_; intro e he; have hm := mem_listed he; simp [go_sem, *] at hm
         clear hK K
         try w_num)
      )
    refine Goes.step rfl (fun _ h₁ => ?_)
    replace hF := (fq_rely hF2) hF h₁
    clear h₁
    rw [stepG_ret']
    simp only [goes_go]
    refine ⟨by refine dq_none ?_; intro e he; simp at he, ?_⟩
    refine Goes.step rfl (fun _ h₁ => ?_)
    replace hF := (fq_rely hF2) hF h₁
    clear h₁
    refine goes_leave1 rfl rfl H.f_uLoad rfl ⟨by refine dq_none ?_; intro e he; simp at he, ?_⟩
    walk_nrm
    repeat (first
      | (refine Goes.step rfl (fun _ h₁ => ?_)
         replace hF := (fq_rely hF2) hF h₁
         clear h₁
         rw [stepG_seq]
         simp only [goes_go]
         refine ⟨by refine dq_none ?_; intro e he; simp at he, ?_⟩)
      | (refine Goes.step rfl (fun _ h₁ => ?_)
         replace hF := (fq_rely hF2) hF h₁
         clear h₁
         rw [stepG_region_end]
         simp only [goes_go]
         refine ⟨by refine dq_none ?_; intro e he; simp at he, ?_⟩)
      | (refine Goes.step rfl (fun _ h₁ => ?_)
         replace hF := (fq_rely hF2) hF h₁
         clear h₁
         rw [stepG_skip]
         simp only [goes_go]
         refine ⟨by refine dq_none ?_; intro e he; simp at he, ?_⟩)
      | (refine Goes.step rfl (fun _ h₁ => ?_)
         replace hF := (fq_rely hF2) hF h₁
         clear h₁
         rw [stepG_block]
         simp only [goes_go]
         refine ⟨by refine dq_none ?_; intro e he; simp at he, ?_⟩)
      | (refine Goes.step rfl (fun _ h₁ => ?_)
         replace hF := (fq_rely hF2) hF h₁
         clear h₁
         rw [stepG_loop]
         simp only [goes_go]
         refine ⟨by refine dq_none ?_; intro e he; simp at he, ?_⟩)
      | (refine Goes.step rfl (fun _ h₁ => ?_)
         replace hF := (fq_rely hF2) hF h₁
         clear h₁
         rw [stepG_inLoop]
         simp only [goes_go]
         refine ⟨by refine dq_none ?_; intro e he; simp at he, ?_⟩)
      | (refine Goes.step rfl (fun _ h₁ => ?_)
         replace hF := (fq_rely hF2) hF h₁
         clear h₁
         rw [stepG_inBlock]
         simp only [goes_go]
         refine ⟨by refine dq_none ?_; intro e he; simp at he, ?_⟩)
      | (refine Goes.step rfl (fun _ h₁ => ?_)
         replace hF := (fq_rely hF2) hF h₁
         clear h₁
         rw [stepG_label]
         simp only [goes_go]
         refine ⟨by refine dq_none ?_; intro e he; simp at he, ?_⟩)
      | (refine Goes.step rfl (fun _ h₁ => ?_)
         replace hF := (fq_rely hF2) hF h₁
         clear h₁
         rw [stepG_region]
         simp only [goes_go, List.size_toArray, List.length_cons, List.length_nil, Nat.reduceAdd, Nat.zero_add, List.range, List.range.loop]
         refine ⟨by refine dq_none ?_; intro e he; simp at he, ?_⟩)
      | (refine Goes.step rfl (fun _ h₁ => ?_)
         replace hF := (fq_rely hF2) hF h₁
         clear h₁
         rw [stepG_unwanted rfl rfl]
         simp only [goes_go]
         refine ⟨by refine dq_none ?_; intro e he; simp at he, ?_⟩
         walk_nrm)
      | (refine Goes.step rfl (fun _ h₁ => ?_)
         replace hF := (fq_rely hF2) hF h₁
         clear h₁
         rw [stepG_cond (t := true) rfl]
         simp only [goes_go, if_true, if_false, Bool.false_eq_true, ↓reduceIte]
         refine ⟨by refine dq_none ?_; intro e he; simp at he, ?_⟩)
      | (refine Goes.step rfl (fun _ h₁ => ?_)
         replace hF := (fq_rely hF2) hF h₁
         clear h₁
         rw [stepG_cond (t := false) rfl]
         simp only [goes_go, if_true, if_false, Bool.false_eq_true, ↓reduceIte]
         refine ⟨by refine dq_none ?_; intro e he; simp at he, ?_⟩)
      | (refine Goes.step rfl (fun _ h₁ => ?_)
         replace hF := (fq_rely hF2) hF h₁
         clear h₁
         fail_if_success (rw [stepG_ret'])
         fail_if_success (rw [stepG_end])
         refine goes_oper_k rfl rfl (by k_ne) (fun K hK => ?_)
         go_simp
         refine hK _ _ ⟨?_, ?_⟩
         · refine dq_none ?_; intro e he; have hm := mem_listed he; simp [go_sem, *] at hm
         clear hK K
         try w_num)
      )
    refine Goes.stop (fun w₅ h₅ => ?_)
    replace hF := fq_rely hF2 hF h₅
    clear h₅
    refine ⟨rfl, _, stepG_mark0 .enable (by simp) rfl rfl (by k_ne) rfl H.f_enable (x_enable_n lk) (x_enable_b lk) (x_enable_x lk) (x_enable_f lk), 12, ?_⟩
    simp only [GQ]
    walk_nrm
    repeat (first
      | (refine Goes.step rfl (fun _ h₁ => ?_)
         replace hF := (fq_rely hF2) hF h₁
         clear h₁
         rw [stepG_seq]
         simp only [goes_go]
         refine ⟨by refine dq_none ?_; intro e he; simp at he, ?_⟩)
      | (refine Goes.step rfl (fun _ h₁ => ?_)
         replace hF := (fq_rely hF2) hF h₁
         clear h₁
         rw [stepG_region_end]
         simp only [goes_go]
         refine ⟨by refine dq_none ?_; intro e he; simp at he, ?_⟩)
      | (refine Goes.step rfl (fun _ h₁ => ?_)
         replace hF := (fq_rely hF2) hF h₁
         clear h₁
         rw [stepG_skip]
         simp only [goes_go]
         refine ⟨by refine dq_none ?_; intro e he; simp at he, ?_⟩)
      | (refine Goes.step rfl (fun _ h₁ => ?_)
         replace hF := (fq_rely hF2) hF h₁
         clear h₁
         rw [stepG_block]
         simp only [goes_go]
         refine ⟨by refine dq_none ?_; intro e he; simp at he, ?_⟩)
      | (refine Goes.step rfl (fun _ h₁ => ?_)
         replace hF := (fq_rely hF2) hF h₁
         clear h₁
         rw [stepG_loop]
         simp only [goes_go]
         refine ⟨by refine dq_none ?_; intro e he; simp at he, ?_⟩)
      | (refine Goes.step rfl (fun _ h₁ => ?_)
         replace hF := (fq_rely hF2) hF h₁
         clear h₁
         rw [stepG_inLoop]
         simp only [goes_go]
         refine ⟨by refine dq_none ?_; intro e he; simp at he, ?_⟩)
      | (refine Goes.step rfl (fun _ h₁ => ?_)
         replace hF := (fq_rely hF2) hF h₁
         clear h₁
         rw [stepG_inBlock]
         simp only [goes_go]
         refine ⟨by refine dq_none ?_; intro e he; simp at he, ?_⟩)
      | (refine Goes.step rfl (fun _ h₁ => ?_)
         replace hF := (fq_rely hF2) hF h₁
         clear h₁
         rw [stepG_label]
         simp only [goes_go]
         refine ⟨by refine dq_none ?_; intro e he; simp at he, ?_⟩)
      | (refine Goes.step rfl (fun _ h₁ => ?_)
         replace hF := (fq_rely hF2) hF h₁
         clear h₁
         rw [stepG_region]
         simp only [goes_go, List.size_toArray, List.length_cons, List.length_nil, Nat.reduceAdd, Nat.zero_add, List.range, List.range.loop]
         refine ⟨by refine dq_none ?_; intro e he; simp at he, ?_⟩)
      | (refine Goes.step rfl (fun _ h₁ => ?_)
         replace hF := (fq_rely hF2) hF h₁
         clear h₁
         rw [stepG_unwanted rfl rfl]
         simp only [goes_go]
         refine ⟨by refine dq_none ?_; intro e he; simp at he, ?_⟩
         walk_nrm)
      | (refine Goes.step rfl (fun _ h₁ => ?_)
         replace hF := (fq_rely hF2) hF h₁
         clear h₁
         rw [stepG_cond (t := true) rfl]
         simp only [goes_go, if_true, if_false, Bool.false_eq_true, ↓reduceIte]
         refine ⟨by refine dq_none ?_; intro e he; simp at he, ?_⟩)
      | (refine Goes.step rfl (fun _ h₁ => ?_)
         replace hF := (fq_rely hF2) hF h₁
         clear h₁
         rw [stepG_cond (t := false) rfl]
         simp only [goes_go, if_true, if_false, Bool.false_eq_true, ↓reduceIte]
         refine ⟨by refine dq_none ?_; intro e he; simp at he, ?_⟩)
      | (refine Goes.step rfl (fun _ h₁ => ?_)
         replace hF := (fq_rely hF2) hF h₁
         clear h₁
         fail_if_success (rw [stepG_ret'])
         fail_if_success (rw [stepG_end])
         refine goes_oper_k rfl rfl (by k_ne) (fun K hK => ?_)
         go_simp
         refine hK _ _ ⟨?_, ?_⟩
         · refine dq_none ?_; intro e he; have hm := mem_listed he; simp [go_sem, *] at hm
         clear hK K
         try w_num)
      )
    refine Goes.step rfl (fun _ h₁ => ?_)
    replace hF := (fq_rely hF2) hF h₁
    clear h₁
    refine goes_oper_k rfl rfl (by k_ne) (fun Kx hKx => ?_)
    have hcv := run_convert_to_unsafe (P := P) H.underlying_tWgP H.underlying_tUP H.room_tWg (WgLive.cell0 hF.2).choose_spec
    have hce := fun es => events_convert_to_unsafe (P := P) H.underlying_tWgP H.underlying_tUP H.room_tWg (WgLive.cell0 hF.2).choose_spec es
    go_simp
    refine hKx _ _ ⟨?_, ?_⟩
    · refine dq_none ?_; intro e he; have hm := mem_listed he; simp [go_sem, hce] at hm
    clear hKx Kx hcv hce
    refine Goes.stop (fun w₆ h₆ => ?_)
    replace hF := fq_rely hF2 hF h₆
    clear h₆
    refine ⟨rfl, _, stepG_markAt .acquire (by simp) rfl rfl (by k_ne) rfl H.f_acquire (x_acquire_n lk) (x_acquire_b lk) (x_acquire_x lk) (x_acquire_f lk) (by simp [Act.eval, stA]), fun hfull => ⟨rfl, 40, ?_⟩⟩
    replace hF := And.intro hF.1 hfull
    clear hfull
    walk_nrm
    repeat (first
      | (refine Goes.step rfl (fun _ h₁ => ?_)
         replace hF := (fat_rely hF2) hF h₁
         clear h₁
         rw [stepG_seq]
         simp only [goes_go]
         refine ⟨by refine df_none ?_; intro e he; simp at he, ?_⟩)
      | (refine Goes.step rfl (fun _ h₁ => ?_)
         replace hF := (fat_rely hF2) hF h₁
         clear h₁
         rw [stepG_region_end]
         simp only [goes_go]
         refine ⟨by refine df_none ?_; intro e he; simp at he, ?_⟩)
      | (refine Goes.step rfl (fun _ h₁ => ?_)
         replace hF := (fat_rely hF2) hF h₁
         clear h₁
         rw [stepG_skip]
         simp only [goes_go]
         refine ⟨by refine df_none ?_; intro e he; simp at he, ?_⟩)
      | (refine Goes.step rfl (fun _ h₁ => ?_)
         replace hF := (fat_rely hF2) hF h₁
         clear h₁
         rw [stepG_block]
         simp only [goes_go]
         refine ⟨by refine df_none ?_; intro e he; simp at he, ?_⟩)
      | (refine Goes.step rfl (fun _ h₁ => ?_)
         replace hF := (fat_rely hF2) hF h₁
         clear h₁
         rw [stepG_loop]
         simp only [goes_go]
         refine ⟨by refine df_none ?_; intro e he; simp at he, ?_⟩)
      | (refine Goes.step rfl (fun _ h₁ => ?_)
         replace hF := (fat_rely hF2) hF h₁
         clear h₁
         rw [stepG_inLoop]
         simp only [goes_go]
         refine ⟨by refine df_none ?_; intro e he; simp at he, ?_⟩)
      | (refine Goes.step rfl (fun _ h₁ => ?_)
         replace hF := (fat_rely hF2) hF h₁
         clear h₁
         rw [stepG_inBlock]
         simp only [goes_go]
         refine ⟨by refine df_none ?_; intro e he; simp at he, ?_⟩)
      | (refine Goes.step rfl (fun _ h₁ => ?_)
         replace hF := (fat_rely hF2) hF h₁
         clear h₁
         rw [stepG_label]
         simp only [goes_go]
         refine ⟨by refine df_none ?_; intro e he; simp at he, ?_⟩)
      | (refine Goes.step rfl (fun _ h₁ => ?_)
         replace hF := (fat_rely hF2) hF h₁
         clear h₁
         rw [stepG_region]
         simp only [goes_go, List.size_toArray, List.length_cons, List.length_nil, Nat.reduceAdd, Nat.zero_add, List.range, List.range.loop]
         refine ⟨by refine df_none ?_; intro e he; simp at he, ?_⟩)
      | (refine Goes.step rfl (fun _ h₁ => ?_)
         replace hF := (fat_rely hF2) hF h₁
         clear h₁
         rw [stepG_unwanted rfl rfl]
         simp only [goes_go]
         refine ⟨by refine df_none ?_; intro e he; simp at he, ?_⟩
         walk_nrm)
      | (refine Goes.step rfl (fun _ h₁ => ?_)
         replace hF := (fat_rely hF2) hF h₁
         clear h₁
         rw [stepG_cond (t := true) rfl]
         simp only [goes_go, if_true, if_false, Bool.false_eq_true, ↓reduceIte]
         refine ⟨by refine df_none ?_; intro e he; simp at he, ?_⟩)
      | (refine Goes.step rfl (fun _ h₁ => ?_)
         replace hF := (fat_rely hF2) hF h₁
         clear h₁
         rw [stepG_cond (t := false) rfl]
         simp only [goes_go, if_true, if_false, Bool.false_eq_true, ↓reduceIte]
         refine ⟨by refine df_none ?_; intro e he; simp at he, ?_⟩)
      | (refine Goes.step rfl (fun _ h₁ => ?_)
         replace hF := (fat_rely hF2) hF h₁
         clear h₁
         fail_if_success (rw [stepG_ret'])
         fail_if_success (rw [stepG_end])
         refine goes_oper_k rfl rfl (by k_ne) (fun K hK => ?_)
         go_simp
         refine hK _ _ ⟨?_, ?_⟩
         · refine df_none ?_; intro e he; have hm := mem_listed he; simp [go_sem, *] at hm
         clear hK K
         try w_num)
      )
    refine Goes.step rfl (fun _ h₁ => ?_)
    replace hF := (fat_rely hF2) hF h₁
    clear h₁
    rw [stepG_ret']
    simp only [goes_go]
    refine ⟨by refine df_none ?_; intro e he; simp at he, ?_⟩
    refine Goes.step rfl (fun _ h₁ => ?_)
    replace hF := (fat_rely hF2) hF h₁
    clear h₁
    refine goes_leave0 rfl rfl H.f_wait rfl ⟨by refine df_none ?_; intro e he; simp at he, ?_⟩
    walk_nrm
    exact Goes.stop fun w₇ h₇ => ⟨rfl, fat_rely hF2 hF h₇⟩
  · -- the load reads v * 2^32, v > 0
    obtain ⟨S, hS⟩ : ∃ S : Int, (v : Int) * KK = S := ⟨_, rfl⟩
    have a1 : S / 4294967296 = (v : Int) := by rw [← hS]; simp only [KK]; omega
    have b1 : bits .and .u64 S 2147483648 = 0 := by rw [← hS]; have := st_flag v 0 (by omega) (by omega); simpa [KK] using this
    have b2 : bits .and .u64 S 2147483647 = 0 := by rw [← hS]; have := st_waiters v 0 (by omega) (by omega); simpa [KK] using this
    have c1 : IntKind.i32.wrap (v : Int) = (v : Int) := by rw [IntKind.wrap_i32]; omega
    have w1 : IntKind.u64.wrap (S + 1) = S + 1 := by rw [IntKind.wrap_u64, ← hS]; simp only [KK]; omega
    have q3 : decide ((v : Int) < 0) = false := decide_eq_false (by omega)
    have q4 : decide (0 < (v : Int)) = true := decide_eq_true (by omega)
    have q5 : ((v : Int) == 0) = false := by simp; omega
    have q6 : decide ((v : Int) = 0) = false := decide_eq_false (by omega)
    rw [hS] at hw
    refine ⟨_, stepG_load_atomic (v := S) rfl rfl (by k_ne) rfl H.f_loadU64 (x_loadU64_n lk) (x_loadU64_b lk) (x_loadU64_x lk) .u64 (x_loadU64_f lk) rfl hw.cellSt, fun h0 => absurd h0 (by omega), fun _ => ⟨60, ?_⟩⟩
    clear hw
    simp only [GQ]
    walk_nrm
    refine Goes.step rfl (fun _ h₁ => ?_)
    replace hF := (fq_rely hF2) hF h₁
    clear h₁
    refine goes_oper_k rfl rfl (by k_ne) (fun K hK => ?_)
    go_simp
    refine hK _ _ ⟨?_, ?_⟩
    · refine dq_none ?_; intro e he; have hm := mem_listed he; simp [go_sem, *] at hm
    clear hK K
    try w_num
    refine Goes.step rfl (fun _ h₁ => ?_)
    replace hF := (fq_rely hF2) hF h₁
    clear h₁
    rw [stepG_region_end]
    simp only [goes_go]
    refine ⟨by refine dq_none ?_; intro e he; simp at he, ?_⟩
    refine Goes.step rfl (fun _ h₁ => ?_)
    replace hF := (fq_rely hF2) hF h₁
    clear h₁
    rw [stepG_ret']
    simp only [goes_go]
    refine ⟨by refine dq_none ?_; intro e he; simp at he, ?_⟩
    refine Goes.step rfl (fun _ h₁ => ?_)
    replace hF := (fq_rely hF2) hF h₁
    clear h₁
    refine goes_leave1 rfl rfl H.f_uLoad rfl ⟨by refine dq_none ?_; intro e he; simp at he, ?_⟩
    walk_nrm
    refine Goes.step rfl (fun _ h₁ => ?_)
    replace hF := (fq_rely hF2) hF h₁
    clear h₁
    refine goes_oper_k rfl rfl (by k_ne) (fun K hK => ?_)
    go_simp
    refine hK _ _ ⟨?_, ?_⟩
    · refine dq_none ?_; intro e he; have hm := mem_listed he; simp [go_sem, *] at hm
    clear hK K
    try w_num
    refine Goes.step rfl (fun _ h₁ => ?_)
    replace hF := (fq_rely hF2) hF h₁
    clear h₁
    rw [stepG_region_end]
    simp only [goes_go]
    refine ⟨by refine dq_none ?_; intro e he; simp at he, ?_⟩
    refine Goes.step rfl (fun _ h₁ => ?_)
    replace hF := (fq_rely hF2) hF h₁
    clear h₁
    rw [stepG_seq]
    simp only [goes_go]
    refine ⟨by refine dq_none ?_; intro e he; simp at he, ?_⟩
    refine Goes.step rfl (fun _ h₁ => ?_)
    replace hF := (fq_rely hF2) hF h₁
    clear h₁
    rw [stepG_region]
    simp only [goes_go, List.size_toArray, List.length_cons, List.length_nil, Nat.reduceAdd, Nat.zero_add, List.range, List.range.loop]
    refine ⟨by refine dq_none ?_; intro e he; simp at he, ?_⟩
    refine Goes.step rfl (fun _ h₁ => ?_)
    replace hF := (fq_rely hF2) hF h₁
    clear h₁
    refine goes_oper_k rfl rfl (by k_ne) (fun K hK => ?_)
    go_simp
    refine hK _ _ ⟨?_, ?_⟩
    · refine dq_none ?_; intro e he; have hm := mem_listed he; simp [go_sem, *] at hm
    clear hK K
    try w_num
    refine Goes.step rfl (fun _ h₁ => ?_)
    replace hF := (fq_rely hF2) hF h₁
    clear h₁
    refine goes_oper_k rfl rfl (by k_ne) (fun K hK => ?_)
    go_simp
    refine hK _ _ ⟨?_, ?_⟩
    · refine dq_none ?_; intro e he; have hm := mem_listed he; simp [go_sem, *] at hm
    clear hK K
    try w_num
    refine Goes.step rfl (fun _ h₁ => ?_)
    replace hF := (fq_rely hF2) hF h₁
    clear h₁
    refine goes_oper_k rfl rfl (by k_ne) (fun K hK => ?_)
    go_simp
    refine hK _ _ ⟨?_, ?_⟩
    · refine dq_none ?_; intro e he; have hm := mem_listed he; simp [go_sem, *] at hm
    clear hK K
    try w_num
    refine Goes.step rfl (fun _ h₁ => ?_)
    replace hF := (fq_rely hF2) hF h₁
    clear h₁
    refine goes_oper_k rfl rfl (by k_ne) (fun K hK => ?_)
    go_simp
    refine hK _ _ ⟨?_, ?_⟩
    · refine dq_none ?_; intro e he; have hm := mem_listed he; simp [go_sem, *] at hm
    clear hK K
    try w_num
    refine Goes.step rfl (fun _ h₁ => ?_)
    replace hF := (fq_rely hF2) hF h₁
    clear h₁
    rw [stepG_region_end]
    simp only [goes_go]
    refine ⟨by refine dq_none ?_; intro e he; simp at he, ?_⟩
    refine Goes.step rfl (fun _ h₁ => ?_)
    replace hF := (fq_rely hF2) hF h₁
    clear h₁
    rw [stepG_seq]
    simp only [goes_go]
    refine ⟨by refine dq_none ?_; intro e he; simp at he, ?_⟩
    refine Goes.step rfl (fun _ h₁ => ?_)
    replace hF := (fq_rely hF2) hF h₁
    clear h₁
    rw [stepG_region]
    simp only [goes_go, List.size_toArray, List.length_cons, List.length_nil, Nat.reduceAdd, Nat.zero_add, List.range, List.range.loop]
    refine ⟨by refine dq_none ?_; intro e he; simp at he, ?_⟩
    refine Goes.step rfl (fun _ h₁ => ?_)
    replace hF := (fq_rely hF2) hF h₁
    clear h₁
    refine goes_oper_k rfl rfl (by k_ne) (fun K hK => ?_)
    go_simp
    refine hK _ _ ⟨?_, ?_⟩
    · refine dq_none ?_; intro e he; have hm := mem_listed he; simp [go_sem, *] at hm
    clear hK K
    try w_num
    refine Goes.step rfl (fun _ h₁ => ?_)
    replace hF := (fq_rely hF2) hF h₁
    clear h₁
    refine goes_oper_k rfl rfl (by k_ne) (fun K hK => ?_)
    go_simp
    refine hK _ _ ⟨?_, ?_⟩
    · refine dq_none ?_; intro e he; have hm := mem_listed he; simp [go_sem, *] at hm
    clear hK K
    try w_num
    refine Goes.step rfl (fun _ h₁ => ?_)
    replace hF := (fq_rely hF2) hF h₁
    clear h₁
    refine goes_oper_k rfl rfl (by k_ne) (fun K hK => ?_)
    go_simp
    refine hK _ _ ⟨?_, ?_⟩
    · refine dq_none ?_; intro e he; have hm := mem_listed he; simp [go_sem, *] at hm
    clear hK K
    try w_num
    refine Goes.step rfl (fun _ h₁ => ?_)
    replace hF := (fq_rely hF2) hF h₁
    clear h₁
    refine goes_oper_k rfl rfl (by k_ne) (fun K hK => ?_)
    go_simp
    refine hK _ _ ⟨?_, ?_⟩
    · refine dq_none ?_; intro e he; have hm := mem_listed he; simp [go_sem, *] at hm
    clear hK K
    try w_num
    refine Goes.step rfl (fun _ h₁ => ?_)
    replace hF := (fq_rely hF2) hF h₁
    clear h₁
    rw [stepG_region_end]
    simp only [goes_go]
    refine ⟨by refine dq_none ?_; intro e he; simp at he, ?_⟩
    refine Goes.step rfl (fun _ h₁ => ?_)
    replace hF := (fq_rely hF2) hF h₁
    clear h₁
    rw [stepG_seq]
    simp only [goes_go]
    refine ⟨by refine dq_none ?_; intro e he; simp at he, ?_⟩
    refine Goes.step rfl (fun _ h₁ => ?_)
    replace hF := (fq_rely hF2) hF h₁
    clear h₁
    rw [stepG_seq]
    simp only [goes_go]
    refine ⟨by refine dq_none ?_; intro e he; simp at he, ?_⟩
    refine Goes.step rfl (fun _ h₁ => ?_)
    replace hF := (fq_rely hF2) hF h₁
    clear h₁
    rw [stepG_region]
    simp only [goes_go, List.size_toArray, List.length_cons, List.length_nil, Nat.reduceAdd, Nat.zero_add, List.range, List.range.loop]
    refine ⟨by refine dq_none ?_; intro e he; simp at he, ?_⟩
    refine Goes.step rfl (fun _ h₁ => ?_)
    replace hF := (fq_rely hF2) hF h₁
    clear h₁
    refine goes_oper_k rfl rfl (by k_ne) (fun K hK => ?_)
    go_simp
    refine hK _ _ ⟨?_, ?_⟩
    · refine dq_none ?_; intro e he; have hm := mem_listed he; simp [go_sem, *] at hm
    clear hK K
    try w_num
    refine Goes.step rfl (fun _ h₁ => ?_)
    replace hF := (fq_rely hF2) hF h₁
    clear h₁
    refine goes_oper_k rfl rfl (by k_ne) (fun K hK => ?_)
    go_simp
    refine hK _ _ ⟨?_, ?_⟩
    · refine dq_none ?_; intro e he; have hm := mem_listed he; simp [go_sem, *] at hm
    clear hK K
    try w_num
    refine Goes.step rfl (fun _ h₁ => ?_)
    replace hF := (fq_rely hF2) hF h₁
    clear h₁
    rw [stepG_region_end]
    simp only [goes_go]
    refine ⟨by refine dq_none ?_; intro e he; simp at he, ?_⟩
    refine Goes.step rfl (fun _ h₁ => ?_)
    replace hF := (fq_rely hF2) hF h₁
    clear h₁
    rw [stepG_cond (t := false) (by first | rfl | (simp [Act.eval]; omega))]
    simp only [goes_go, if_true, if_false, Bool.false_eq_true, ↓reduceIte]
    refine ⟨by refine dq_none ?_; intro e he; simp at he, ?_⟩
    refine Goes.step rfl (fun _ h₁ => ?_)
    replace hF := (fq_rely hF2) hF h₁
    clear h₁
    rw [stepG_skip]
    simp only [goes_go]
    refine ⟨by refine dq_none ?_; intro e he; simp at he, ?_⟩
    refine Goes.step rfl (fun _ h₁ => ?_)
    replace hF := (fq_rely hF2) hF h₁
    clear h₁
    rw [stepG_seq]
    simp only [goes_go]
    refine ⟨by refine dq_none ?_; intro e he; simp at he, ?_⟩
    refine Goes.step rfl (fun _ h₁ => ?_)
    replace hF := (fq_rely hF2) hF h₁
    clear h₁
    rw [stepG_region]
    simp only [goes_go, List.size_toArray, List.length_cons, List.length_nil, Nat.reduceAdd, Nat.zero_add, List.range, List.range.loop]
    refine ⟨by refine dq_none ?_; intro e he; simp at he, ?_⟩
    refine Goes.step rfl (fun _ h₁ => ?_)
    replace hF := (fq_rely hF2) hF h₁
    clear h₁
    refine goes_oper_k rfl rfl (by k_ne) (fun K hK => ?_)
    go_simp
    refine hK _ _ ⟨?_, ?_⟩
    · refine dq_none ?_; intro e he; have hm := mem_listed he; simp [go_sem, *] at hm
    clear hK K
    try w_num
    refine Goes.step rfl (fun _ h₁ => ?_)
    replace hF := (fq_rely hF2) hF h₁
    clear h₁
    refine goes_oper_k rfl rfl (by k_ne) (fun K hK => ?_)
    go_simp
    refine hK _ _ ⟨?_, ?_⟩
    · refine dq_none ?_; intro e he; have hm := mem_listed he; simp [go_sem, *] at hm
    clear hK K
    try w_num
    refine Goes.step rfl (fun _ h₁ => ?_)
    replace hF := (fq_rely hF2) hF h₁
    clear h₁
    refine goes_oper_k rfl rfl (by k_ne) (fun K hK => ?_)
    go_simp
    refine hK _ _ ⟨?_, ?_⟩
    · refine dq_none ?_; intro e he; have hm := mem_listed he; simp [go_sem, *] at hm
    clear hK K
    try w_num
    refine Goes.step rfl (fun _ h₁ => ?_)
    replace hF := (fq_rely hF2) hF h₁
    clear h₁
    refine goes_oper_k rfl rfl (by k_ne) (fun K hK => ?_)
    go_simp
    refine hK _ _ ⟨?_, ?_⟩
    · refine dq_none ?_; intro e he; have hm := mem_listed he; simp [go_sem, *] at hm
    clear hK K
    try w_num
    refine Goes.step rfl (fun _ h₁ => ?_)
    replace hF := (fq_rely hF2) hF h₁
    clear h₁
    refine goes_oper_k rfl rfl (by k_ne) (fun K hK => ?_)
    go_simp
    refine hK _ _ ⟨?_, ?_⟩
    · refine dq_none ?_; intro e he; have hm := mem_listed he; simp [go_sem, *] at hm
    clear hK K
    try w_num
    refine Goes.step rfl (fun _ h₁ => ?_)
    replace hF := (fq_rely hF2) hF h₁
    clear h₁
    refine goes_oper_k rfl rfl (by k_ne) (fun K hK => ?_)
    go_simp
    refine hK _ _ ⟨?_, ?_⟩
    · refine dq_none ?_; intro e he; have hm := mem_listed he; simp [go_sem, *] at hm
    clear hK K
    try w_num
    refine Goes.step rfl (fun _ h₁ => ?_)
    replace hF := (fq_rely hF2) hF h₁
    clear h₁
    refine goes_call rfl rfl (by k_ne) rfl H.f_uCas (nm_uCas lk) rfl ⟨by refine dq_none ?_; intro e he; simp at he, ?_⟩
    walk_nrmf uCasFn
    refine Goes.step rfl (fun _ h₁ => ?_)
    replace hF := (fq_rely hF2) hF h₁
    clear h₁
    rw [stepG_seq]
    simp only [goes_go]
    refine ⟨by refine dq_none ?_; intro e he; simp at he, ?_⟩
    refine Goes.step rfl (fun _ h₁ => ?_)
    replace hF := (fq_rely hF2) hF h₁
    clear h₁
    rw [stepG_region]
    simp only [goes_go, List.size_toArray, List.length_cons, List.length_nil, Nat.reduceAdd, Nat.zero_add, List.range, List.range.loop]
    refine ⟨by refine dq_none ?_; intro e he; simp at he, ?_⟩
    refine Goes.step rfl (fun _ h₁ => ?_)
    replace hF := (fq_rely hF2) hF h₁
    clear h₁
    refine goes_oper_k rfl rfl (by k_ne) (fun K hK => ?_)
    go_simp
    refine hK _ _ ⟨?_, ?_⟩
    · refine dq_none ?_; intro e he; have hm := mem_listed he; simp [go_sem, *] at hm
    clear hK K
    try w_num
    refine Goes.step rfl (fun _ h₁ => ?_)
    replace hF := (fq_rely hF2) hF h₁
    clear h₁
    rw [stepG_region_end]
    simp only [goes_go]
    refine ⟨by refine dq_none ?_; intro e he; simp at he, ?_⟩
    refine Goes.step rfl (fun _ h₁ => ?_)
    replace hF := (fq_rely hF2) hF h₁
    clear h₁
    rw [stepG_seq]
    simp only [goes_go]
    refine ⟨by refine dq_none ?_; intro e he; simp at he, ?_⟩
    refine Goes.step rfl (fun _ h₁ => ?_)
    replace hF := (fq_rely hF2) hF h₁
    clear h₁
    rw [stepG_region]
    simp only [goes_go, List.size_toArray, List.length_cons, List.length_nil, Nat.reduceAdd, Nat.zero_add, List.range, List.range.loop]
    refine ⟨by refine dq_none ?_; intro e he; simp at he, ?_⟩
    refine Goes.step rfl (fun _ h₁ => ?_)
    replace hF := (fq_rely hF2) hF h₁
    clear h₁
    refine goes_oper_k rfl rfl (by k_ne) (fun K hK => ?_)
    go_simp
    refine hK _ _ ⟨?_, ?_⟩
    · refine dq_none ?_; intro e he; have hm := mem_listed he; simp [go_sem, *] at hm
    clear hK K
    try w_num
    refine Goes.step rfl (fun _ h₁ => ?_)
    replace hF := (fq_rely hF2) hF h₁
    clear h₁
    refine goes_oper_k rfl rfl (by k_ne) (fun K hK => ?_)
    go_simp
    refine hK _ _ ⟨?_, ?_⟩
    · refine dq_none ?_; intro e he; have hm := mem_listed he; simp [go_sem, *] at hm
    clear hK K
    try w_num
    refine Goes.step rfl (fun _ h₁ => ?_)
    replace hF := (fq_rely hF2) hF h₁
    clear h₁
    refine goes_oper_k rfl rfl (by k_ne) (fun K hK => ?_)
    go_simp
    refine hK _ _ ⟨?_, ?_⟩
    · refine dq_none ?_; intro e he; have hm := mem_listed he; simp [go_sem, *] at hm
    clear hK K
    try w_num
    refine Goes.step rfl (fun _ h₁ => ?_)
    replace hF := (fq_rely hF2) hF h₁
    clear h₁
    refine goes_oper_k rfl rfl (by k_ne) (fun K hK => ?_)
    go_simp
    refine hK _ _ ⟨?_, ?_⟩
    · refine dq_none ?_; intro e he; have hm := mem_listed he; simp [go_sem, *] at hm
    clear hK K
    try w_num
    refine Goes.step rfl (fun _ h₁ => ?_)
    replace hF := (fq_rely hF2) hF h₁
    clear h₁
    refine goes_oper_k rfl rfl (by k_ne) (fun K hK => ?_)
    go_simp
    refine hK _ _ ⟨?_, ?_⟩
    · refine dq_none ?_; intro e he; have hm := mem_listed he; simp [go_sem, *] at hm
    clear hK K
    try w_num
    refine Goes.stop (fun w₂ h₂ => ?_)
    replace hF := fq_rely hF2 hF h₂
    clear h₂
    refine ⟨rfl, fun v' hv' hw => ⟨fun e => ?_, fun e => ?_⟩⟩
    · -- it hits
      subst e
      rw [hS] at hw ⊢
      refine ⟨_, (stepG_cas_hit (v := S) (n := S + 1) rfl rfl (by k_ne) rfl H.f_casU64 (x_casU64_n lk) (x_casU64_b lk) (x_casU64_x lk) .u64 (x_casU64_f lk) rfl rfl rfl hw.cellSt (hw.thaw 0)).trans (by rfl), 70, ?_⟩
      replace hF : F (w₂.setCell (stA L.Wg) (.int .u64 (S + 1))) ∧ WgLive L.ty L.Wg (w₂.setCell (stA L.Wg) (.int .u64 (S + 1))) := ⟨hF2 _ _ (setWg_rq hL hw _) hF.1, ⟨_, _, hw.setSt _⟩⟩
      clear hw
      simp only [GQ]
      walk_nrm
      refine Goes.step rfl (fun _ h₁ => ?_)
      replace hF := (fq_rely hF2) hF h₁
      clear h₁
      refine goes_oper_k rfl rfl (by k_ne) (fun K hK => ?_)
      go_simp
      refine hK _ _ ⟨?_, ?_⟩
      · refine dq_none ?_; intro e he; have hm := mem_listed he; simp [go_sem, *] at hm
      clear hK K
      try w_num
      refine Goes.step rfl (fun _ h₁ => ?_)
      replace hF := (fq_rely hF2) hF h₁
      clear h₁
      rw [stepG_region_end]
      simp only [goes_go]
      refine ⟨by refine dq_none ?_; intro e he; simp at he, ?_⟩
      refine Goes.step rfl (fun _ h₁ => ?_)
      replace hF := (fq_rely hF2) hF h₁
      clear h₁
      rw [stepG_ret']
      simp only [goes_go]
      refine ⟨by refine dq_none ?_; intro e he; simp at he, ?_⟩
      refine Goes.step rfl (fun _ h₁ => ?_)
      replace hF := (fq_rely hF2) hF h₁
      clear h₁
      refine goes_leave1 rfl rfl H.f_uCas rfl ⟨by refine dq_none ?_; intro e he; simp at he, ?_⟩
      walk_nrm
      refine Goes.step rfl (fun _ h₁ => ?_)
      replace hF := (fq_rely hF2) hF h₁
      clear h₁
      rw [stepG_region_end]
      simp only [goes_go]
      refine ⟨by refine dq_none ?_; intro e he; simp at he, ?_⟩
      refine Goes.step rfl (fun _ h₁ => ?_)
      replace hF := (fq_rely hF2) hF h₁
      clear h₁
      rw [stepG_cond (t := true) (by first | rfl | (simp [Act.eval]; omega))]
      simp only [goes_go, if_true, if_false, Bool.false_eq_true, ↓reduceIte]
      refine ⟨by refine dq_none ?_; intro e he; simp at he, ?_⟩
      refine Goes.step rfl (fun _ h₁ => ?_)
      replace hF := (fq_rely hF2) hF h₁
      clear h₁
      rw [stepG_seq]
      simp only [goes_go]
      refine ⟨by refine dq_none ?_; intro e he; simp at he, ?_⟩
      refine Goes.step rfl (fun _ h₁ => ?_)
      replace hF := (fq_rely hF2) hF h₁
      clear h₁
      rw [stepG_seq]
      simp only [goes_go]
      refine ⟨by refine dq_none ?_; intro e he; simp at he, ?_⟩
      refine Goes.step rfl (fun _ h₁ => ?_)
      replace hF := (fq_rely hF2) hF h₁
      clear h₁
      rw [stepG_region]
      simp only [goes_go, List.size_toArray, List.length_cons, List.length_nil, Nat.reduceAdd, Nat.zero_add, List.range, List.range.loop]
      refine ⟨by refine dq_none ?_; intro e he; simp at he, ?_⟩
      refine Goes.step rfl (fun _ h₁ => ?_)
      replace hF := (fq_rely hF2) hF h₁
      clear h₁
      refine goes_oper_k rfl rfl (by k_ne) (fun K hK => ?_)
      go_simp
      refine hK _ _ ⟨?_, ?_⟩
      · refine dq_none ?_; intro e he; have hm := mem_listed he; simp [go_sem, *] at hm
      clear hK K
      try w_num
      refine Goes.step rfl (fun _ h₁ => ?_)
      replace hF := (fq_rely hF2) hF h₁
      clear h₁
      refine goes_oper_k rfl rfl (by k_ne) (fun K hK => ?_)
      go_simp
      refine hK _ _ ⟨?_, ?_⟩
      · refine dq_none ?_; intro e he; have hm := mem_listed he; simp [go_sem, *] at hm
      clear hK K
      try w_num
      refine Goes.step rfl (fun _ h₁ => ?_)
      replace hF := (fq_rely hF2) hF h₁
      clear h₁
      refine goes_oper_k rfl rfl (by k_ne) (fun K hK => ?_)
      go_simp
      refine hK _ _ ⟨?_, ?_⟩
      · refine dq_none ?_; intro e he; have hm := mem_listed he; simp [go_sem, *] at hm
      clear hK K
      try w_num
      refine Goes.step rfl (fun _ h₁ => ?_)
      replace hF := (fq_rely hF2) hF h₁
      clear h₁
      refine goes_oper_k rfl rfl (by k_ne) (fun K hK => ?_)
      go_simp
      refine hK _ _ ⟨?_, ?_⟩
      · refine dq_none ?_; intro e he; have hm := mem_listed he; simp [go_sem, *] at hm
      clear hK K
      try w_num
      refine Goes.step rfl (fun _ h₁ => ?_)
      replace hF := (fq_rely hF2) hF h₁
      clear h₁
      rw [stepG_region_end]
      simp only [goes_go]
      refine ⟨by refine dq_none ?_; intro e he; simp at he, ?_⟩
      refine Goes.step rfl (fun _ h₁ => ?_)
      replace hF := (fq_rely hF2) hF h₁
      clear h₁
      rw [stepG_cond (t := true) (by first | rfl | (simp [Act.eval]; omega))]
      simp only [goes_go, if_true, if_false, Bool.false_eq_true, ↓reduceIte]
      refine ⟨by refine dq_none ?_; intro e he; simp at he, ?_⟩
      refine Goes.step rfl (fun _ h₁ => ?_)
      replace hF := (fq_rely hF2) hF h₁
      clear h₁
      rw [stepG_region]
      simp only [goes_go, List.size_toArray, List.length_cons, List.length_nil, Nat.reduceAdd, Nat.zero_add, List.range, List.range.loop]
      refine ⟨by refine dq_none ?_; intro e he; simp at he, ?_⟩
      refine Goes.step rfl (fun _ h₁ => ?_)
      replace hF := (fq_rely hF2) hF h₁
      clear h₁
      refine goes_oper_k rfl rfl (by k_ne) (fun K hK => ?_)
      go_simp
      refine hK _ _ ⟨?_, ?_⟩
      · refine dq_none ?_; intro e he; have hm := mem_listed he; simp [go_sem, *] at hm
      clear hK K
      try w_num
      refine Goes.step rfl (fun _ h₁ => ?_)
      replace hF := (fq_rely hF2) hF h₁
      clear h₁
      refine goes_oper_k rfl rfl (by k_ne) (fun K hK => ?_)
      go_simp
      refine hK _ _ ⟨?_, ?_⟩
      · refine dq_none ?_; intro e he; have hm := mem_listed he; simp [go_sem, *] at hm
      clear hK K
      try w_num
      refine Goes.step rfl (fun _ h₁ => ?_)
      replace hF := (fq_rely hF2) hF h₁
      clear h₁
      refine goes_oper_k rfl rfl (by k_ne) (fun K hK => ?_)
      go_simp
      refine hK _ _ ⟨?_, ?_⟩
      · refine dq_none ?_; intro e he; have hm := mem_listed he; simp [go_sem, *] at hm
      clear hK K
      try w_num
      refine Goes.step rfl (fun _ h₁ => ?_)
      replace hF := (fq_rely hF2) hF h₁
      clear h₁
      refine goes_oper_k rfl rfl (by k_ne) (fun Kx hKx => ?_)
      have hcv := run_convert_to_unsafe (P := P) H.underlying_tPU32 H.underlying_tUP H.room_tU32 (WgLive.cell1 hF.2).choose_spec
      have hce := fun es => events_convert_to_unsafe (P := P) H.underlying_tPU32 H.underlying_tUP H.room_tU32 (WgLive.cell1 hF.2).choose_spec es
      go_simp
      refine hKx _ _ ⟨?_, ?_⟩
      · refine dq_none ?_; intro e he; have hm := mem_listed he; simp [go_sem, hce] at hm
      clear hKx Kx hcv hce
      refine Goes.step rfl (fun _ h₁ => ?_)
      replace hF := (fq_rely hF2) hF h₁
      clear h₁
      rw [stepG_markAt .write (by simp) rfl rfl (by k_ne) rfl H.f_raceWrite (x_raceWrite_n lk) (x_raceWrite_b lk) (x_raceWrite_x lk) (x_raceWrite_f lk) (ad := ⟨_, 1, none⟩) (by simp [Act.eval] <;> rfl)]
      simp only [goes_go]
      refine ⟨⟨rfl, rfl, rfl, Nat.le_refl _, fun _ _ _ => rfl, fun _ h => h, fun e he => ?_⟩, ?_⟩
      · rw [Array.mem_singleton] at he
        subst he
        exact evq_said_write rfl
      walk_nrm
      refine Goes.step rfl (fun _ h₁ => ?_)
      replace hF := (fq_rely hF2) hF h₁
      clear h₁
      rw [stepG_region_end]
      simp only [goes_go]
      refine ⟨by refine dq_none ?_; intro e he; simp at he, ?_⟩
      refine Goes.step rfl (fun _ h₁ => ?_)
      replace hF := (fq_rely hF2) hF h₁
      clear h₁
      rw [stepG_seq]
      simp only [goes_go]
      refine ⟨by refine dq_none ?_; intro e he; simp at he, ?_⟩
      refine Goes.step rfl (fun _ h₁ => ?_)
      replace hF := (fq_rely hF2) hF h₁
      clear h₁
      rw [stepG_region]
      simp only [goes_go, List.size_toArray, List.length_cons, List.length_nil, Nat.reduceAdd, Nat.zero_add, List.range, List.range.loop]
      refine ⟨by refine dq_none ?_; intro e he; simp at he, ?_⟩
      refine Goes.step rfl (fun _ h₁ => ?_)
      replace hF := (fq_rely hF2) hF h₁
      clear h₁
      refine goes_oper_k rfl rfl (by k_ne) (fun K hK => ?_)
      go_simp
      refine hK _ _ ⟨?_, ?_⟩
      · refine dq_none ?_; intro e he; have hm := mem_listed he; simp [go_sem, *] at hm
      clear hK K
      try w_num
      refine Goes.step rfl (fun _ h₁ => ?_)
      replace hF := (fq_rely hF2) hF h₁
      clear h₁
      rw [stepG_region_end]
      simp only [goes_go]
      refine ⟨by refine dq_none ?_; intro e he; simp at he, ?_⟩
      refine Goes.step rfl (fun _ h₁ => ?_)
      replace hF := (fq_rely hF2) hF h₁
      clear h₁
      rw [stepG_seq]
      simp only [goes_go]
      refine ⟨by refine dq_none ?_; intro e he; simp at he, ?_⟩
      refine Goes.step rfl (fun _ h₁ => ?_)
      replace hF := (fq_rely hF2) hF h₁
      clear h₁
      rw [stepG_seq]
      simp only [goes_go]
      refine ⟨by refine dq_none ?_; intro e he; simp at he, ?_⟩
      refine Goes.step rfl (fun _ h₁ => ?_)
      replace hF := (fq_rely hF2) hF h₁
      clear h₁
      rw [stepG_region]
      simp only [goes_go, List.size_toArray, List.length_cons, List.length_nil, Nat.reduceAdd, Nat.zero_add, List.range, List.range.loop]
      refine ⟨by refine dq_none ?_; intro e he; simp at he, ?_⟩
      refine Goes.step rfl (fun _ h₁ => ?_)
      replace hF := (fq_rely hF2) hF h₁
      clear h₁
      refine goes_oper_k rfl rfl (by k_ne) (fun K hK => ?_)
      go_simp
      refine hK _ _ ⟨?_, ?_⟩
      · refine dq_none ?_; intro e he; have hm := mem_listed he; simp [go_sem, *] at hm
      clear hK K
      try w_num
      refine Goes.step rfl (fun _ h₁ => ?_)
      replace hF := (fq_rely hF2) hF h₁
      clear h₁
      refine goes_oper_k rfl rfl (by k_ne) (fun K hK => ?_)
      go_simp
      refine hK _ _ ⟨?_, ?_⟩
      · refine dq_none ?_; intro e he; have hm := mem_listed he; simp [go_sem, *] at hm
      clear hK K
      try w_num
      refine Goes.step rfl (fun _ h₁ => ?_)
      replace hF := (fq_rely hF2) hF h₁
      clear h₁
      refine goes_oper_k rfl rfl (by k_ne) (fun K hK => ?_)
      go_simp
      refine hK _ _ ⟨?_, ?_⟩
      · refine dq_none ?_; intro e he; have hm := mem_listed he; simp [go_sem, *] at hm
      clear hK K
      try w_num
      refine Goes.step rfl (fun _ h₁ => ?_)
      replace hF := (fq_rely hF2) hF h₁
      clear h₁
      refine goes_oper_k rfl rfl (by k_ne) (fun K hK => ?_)
      go_simp
      refine hK _ _ ⟨?_, ?_⟩
      · refine dq_none ?_; intro e he; have hm := mem_listed he; simp [go_sem, *] at hm
      clear hK K
      try w_num
      refine Goes.step rfl (fun _ h₁ => ?_)
      replace hF := (fq_rely hF2) hF h₁
      clear h₁
      rw [stepG_unwanted rfl rfl]
      simp only [goes_go]
      refine ⟨by refine dq_none ?_; intro e he; simp at he, ?_⟩
      walk_nrm
      refine Goes.step rfl (fun _ h₁ => ?_)
      replace hF := (fq_rely hF2) hF h₁
      clear h₁
      refine goes_oper_k rfl rfl (by k_ne) (fun K hK => ?_)
      go_simp
      refine hK _ _ ⟨?_, ?_⟩
      · refine dq_none ?_; intro e he; have hm := mem_listed he; simp [go_sem, *] at hm
      clear hK K
      try w_num
      refine Goes.step rfl (fun _ h₁ => ?_)
      replace hF := (fq_rely hF2) hF h₁
      clear h₁
      rw [stepG_region_end]
      simp only [goes_go]
      refine ⟨by refine dq_none ?_; intro e he; simp at he, ?_⟩
      refine Goes.step rfl (fun _ h₁ => ?_)
      replace hF := (fq_rely hF2) hF h₁
      clear h₁
      rw [stepG_cond (t := false) (by first | rfl | (simp [Act.eval]; omega))]
      simp only [goes_go, if_true, if_false, Bool.false_eq_true, ↓reduceIte]
      refine ⟨by refine dq_none ?_; intro e he; simp at he, ?_⟩
      refine Goes.step rfl (fun _ h₁ => ?_)
      replace hF := (fq_rely hF2) hF h₁
      clear h₁
      rw [stepG_skip]
      simp only [goes_go]
      refine ⟨by refine dq_none ?_; intro e he; simp at he, ?_⟩
      refine Goes.step rfl (fun _ h₁ => ?_)
      replace hF := (fq_rely hF2) hF h₁
      clear h₁
      rw [stepG_seq]
      simp only [goes_go]
      refine ⟨by refine dq_none ?_; intro e he; simp at he, ?_⟩
      refine Goes.step rfl (fun _ h₁ => ?_)
      replace hF := (fq_rely hF2) hF h₁
      clear h₁
      rw [stepG_region]
      simp only [goes_go, List.size_toArray, List.length_cons, List.length_nil, Nat.reduceAdd, Nat.zero_add, List.range, List.range.loop]
      refine ⟨by refine dq_none ?_; intro e he; simp at he, ?_⟩
      refine Goes.step rfl (fun _ h₁ => ?_)
      replace hF := (fq_rely hF2) hF h₁
      clear h₁
      refine goes_oper_k rfl rfl (by k_ne) (fun K hK => ?_)
      go_simp
      refine hK _ _ ⟨?_, ?_⟩
      · refine dq_none ?_; intro e he; have hm := mem_listed he; simp [go_sem, *] at hm
      clear hK K
      try w_num
      refine Goes.step rfl (fun _ h₁ => ?_)
      replace hF := (fq_rely hF2) hF h₁
      clear h₁
      refine goes_oper_k rfl rfl (by k_ne) (fun K hK => ?_)
      go_simp
      refine hK _ _ ⟨?_, ?_⟩
      · refine dq_none ?_; intro e he; have hm := mem_listed he; simp [go_sem, *] at hm
      clear hK K
      try w_num
      refine Goes.step rfl (fun _ h₁ => ?_)
      replace hF := (fq_rely hF2) hF h₁
      clear h₁
      refine goes_oper_k rfl rfl (by k_ne) (fun K hK => ?_)
      go_simp
      refine hK _ _ ⟨?_, ?_⟩
      · refine dq_none ?_; intro e he; have hm := mem_listed he; simp [go_sem, *] at hm
      clear hK K
      try w_num
      refine Goes.step rfl (fun _ h₁ => ?_)
      replace hF := (fq_rely hF2) hF h₁
      clear h₁
      refine goes_oper_k rfl rfl (by k_ne) (fun K hK => ?_)
      go_simp
      refine hK _ _ ⟨?_, ?_⟩
      · refine dq_none ?_; intro e he; have hm := mem_listed he; simp [go_sem, *] at hm
      clear hK K
      try w_num
      refine Goes.stop (fun w₃ h₃ => ?_)
      replace hF := fq_rely hF2 hF h₃
      clear h₃
      refine ⟨rfl, rfl, fun ⟨st, hw⟩ => stepG_semacquire_wait rfl rfl rfl H.f_semacquire (x_semacquire_n lk) (x_semacquire_b lk) (x_semacquire_x lk) (x_semacquire_f lk) (by simp [Act.eval, smA]) hw.cellSm, fun hf => ?_⟩
      refine ⟨_, (stepG_semacquire (n := 1) rfl rfl (by k_ne) rfl H.f_semacquire (x_semacquire_n lk) (x_semacquire_b lk) (x_semacquire_x lk) (x_semacquire_f lk) (by simp [Act.eval, smA]) hf.cellSm (by k_ne) (hf.thaw 1)).trans (by rfl), 30, ?_⟩
      replace hF : F (w₃.setCell (smA L.Wg) (.int .u32 0)) ∧ WgLive L.ty L.Wg (w₃.setCell (smA L.Wg) (.int .u32 0)) := ⟨hF2 _ _ (setSm_rq hL hf _) hF.1, ⟨_, _, hf.setSm 0⟩⟩
      clear hf
      simp only [GQ]
      walk_nrm
      refine Goes.step rfl (fun _ h₁ => ?_)
      replace hF := (fq_rely hF2) hF h₁
      clear h₁
      rw [stepG_region_end]
      simp only [goes_go]
      refine ⟨by refine dq_none ?_; intro e he; simp at he, ?_⟩
      refine Goes.step rfl (fun _ h₁ => ?_)
      replace hF := (fq_rely hF2) hF h₁
      clear h₁
      rw [stepG_seq]
      simp only [goes_go]
      refine ⟨by refine dq_none ?_; intro e he; simp at he, ?_⟩
      refine Goes.step rfl (fun _ h₁ => ?_)
      replace hF := (fq_rely hF2) hF h₁
      clear h₁
      rw [stepG_region]
      simp only [goes_go, List.size_toArray, List.length_cons, List.length_nil, Nat.reduceAdd, Nat.zero_add, List.range, List.range.loop]
      refine ⟨by refine dq_none ?_; intro e he; simp at he, ?_⟩
      refine Goes.step rfl (fun _ h₁ => ?_)
      replace hF := (fq_rely hF2) hF h₁
      clear h₁
      refine goes_oper_k rfl rfl (by k_ne) (fun K hK => ?_)
      go_simp
      refine hK _ _ ⟨?_, ?_⟩
      · refine dq_none ?_; intro e he; have hm := mem_listed he; simp [go_sem, *] at hm
      clear hK K
      try w_num
      refine Goes.step rfl (fun _ h₁ => ?_)
      replace hF := (fq_rely hF2) hF h₁
      clear h₁
      refine goes_oper_k rfl rfl (by k_ne) (fun K hK => ?_)
      go_simp
      refine hK _ _ ⟨?_, ?_⟩
      · refine dq_none ?_; intro e he; have hm := mem_listed he; simp [go_sem, *] at hm
      clear hK K
      try w_num
      refine Goes.step rfl (fun _ h₁ => ?_)
      replace hF := (fq_rely hF2) hF h₁
      clear h₁
      refine goes_oper_k rfl rfl (by k_ne) (fun K hK => ?_)
      go_simp
      refine hK _ _ ⟨?_, ?_⟩
      · refine dq_none ?_; intro e he; have hm := mem_listed he; simp [go_sem, *] at hm
      clear hK K
      try w_num
      refine Goes.step rfl (fun _ h₁ => ?_)
      replace hF := (fq_rely hF2) hF h₁
      clear h₁
      refine goes_call rfl rfl (by k_ne) rfl H.f_uLoad (nm_uLoad lk) rfl ⟨by refine dq_none ?_; intro e he; simp at he, ?_⟩
      walk_nrmf uLoadFn
      refine Goes.step rfl (fun _ h₁ => ?_)
      replace hF := (fq_rely hF2) hF h₁
      clear h₁
      rw [stepG_seq]
      simp only [goes_go]
      refine ⟨by refine dq_none ?_; intro e he; simp at he, ?_⟩
      refine Goes.step rfl (fun _ h₁ => ?_)
      replace hF := (fq_rely hF2) hF h₁
      clear h₁
      rw [stepG_region]
      simp only [goes_go, List.size_toArray, List.length_cons, List.length_nil, Nat.reduceAdd, Nat.zero_add, List.range, List.range.loop]
      refine ⟨by refine dq_none ?_; intro e he; simp at he, ?_⟩
      refine Goes.step rfl (fun _ h₁ => ?_)
      replace hF := (fq_rely hF2) hF h₁
      clear h₁
      refine goes_oper_k rfl rfl (by k_ne) (fun K hK => ?_)
      go_simp
      refine hK _ _ ⟨?_, ?_⟩
      · refine dq_none ?_; intro e he; have hm := mem_listed he; simp [go_sem, *] at hm
      clear hK K
      try w_num
      refine Goes.step rfl (fun _ h₁ => ?_)
      replace hF := (fq_rely hF2) hF h₁
      clear h₁
      rw [stepG_region_end]
      simp only [goes_go]
      refine ⟨by refine dq_none ?_; intro e he; simp at he, ?_⟩
      refine Goes.step rfl (fun _ h₁ => ?_)
      replace hF := (fq_rely hF2) hF h₁
      clear h₁
      rw [stepG_seq]
      simp only [goes_go]
      refine ⟨by refine dq_none ?_; intro e he; simp at he, ?_⟩
      refine Goes.step rfl (fun _ h₁ => ?_)
      replace hF := (fq_rely hF2) hF h₁
      clear h₁
      rw [stepG_region]
      simp only [goes_go, List.size_toArray, List.length_cons, List.length_nil, Nat.reduceAdd, Nat.zero_add, List.range, List.range.loop]
      refine ⟨by refine dq_none ?_; intro e he; simp at he, ?_⟩
      refine Goes.step rfl (fun _ h₁ => ?_)
      replace hF := (fq_rely hF2) hF h₁
      clear h₁
      refine goes_oper_k rfl rfl (by k_ne) (fun K hK => ?_)
      go_simp
      refine hK _ _ ⟨?_, ?_⟩
      · refine dq_none ?_; intro e he; have hm := mem_listed he; simp [go_sem, *] at hm
      clear hK K
      try w_num
      refine Goes.step rfl (fun _ h₁ => ?_)
      replace hF := (fq_rely hF2) hF h₁
      clear h₁
      refine goes_oper_k rfl rfl (by k_ne) (fun K hK => ?_)
      go_simp
      refine hK _ _ ⟨?_, ?_⟩
      · refine dq_none ?_; intro e he; have hm := mem_listed he; simp [go_sem, *] at hm
      clear hK K
      try w_num
      refine Goes.step rfl (fun _ h₁ => ?_)
      replace hF := (fq_rely hF2) hF h₁
      clear h₁
      refine goes_oper_k rfl rfl (by k_ne) (fun K hK => ?_)
      go_simp
      refine hK _ _ ⟨?_, ?_⟩
      · refine dq_none ?_; intro e he; have hm := mem_listed he; simp [go_sem, *] at hm
      clear hK K
      try w_num
      refine Goes.stop (fun w₄ h₄ => ?_)
      replace hF := fq_rely hF2 hF h₄
      clear h₄
      refine ⟨rfl, fun hw => ⟨_, stepG_load_atomic (v := 0) rfl rfl (by k_ne) rfl H.f_loadU64 (x_loadU64_n lk) (x_loadU64_b lk) (x_loadU64_x lk) .u64 (x_loadU64_f lk) rfl hw.cellSt, 30, ?_⟩⟩
      clear hw
      simp only [GQ]
      walk_nrm
      refine Goes.step rfl (fun _ h₁ => ?_)
      replace hF := (fq_rely hF2) hF h₁
      clear h₁
      refine goes_oper_k rfl rfl (by k_ne) (fun K hK => ?_)
      go_simp
      refine hK _ _ ⟨?_, ?_⟩
      · refine dq_none ?_; intro e he; have hm := mem_listed he; simp [go_sem, *] at hm
      clear hK K
      try w_num
      refine Goes.step rfl (fun _ h₁ => ?_)
      replace hF := (fq_rely hF2) hF h₁
      clear h₁
      rw [stepG_region_end]
      simp only [goes_go]
      refine ⟨by refine dq_none ?_; intro e he; simp at he, ?_⟩
      refine Goes.step rfl (fun _ h₁ => ?_)
      replace hF := (fq_rely hF2) hF h₁
      clear h₁
      rw [stepG_ret']
      simp only [goes_go]
      refine ⟨by refine dq_none ?_; intro e he; simp at he, ?_⟩
      refine Goes.step rfl (fun _ h₁ => ?_)
      replace hF := (fq_rely hF2) hF h₁
      clear h₁
      refine goes_leave1 rfl rfl H.f_uLoad rfl ⟨by refine dq_none ?_; intro e he; simp at he, ?_⟩
      walk_nrm
      refine Goes.step rfl (fun _ h₁ => ?_)
      replace hF := (fq_rely hF2) hF h₁
      clear h₁
      refine goes_oper_k rfl rfl (by k_ne) (fun K hK => ?_)
      go_simp
      refine hK _ _ ⟨?_, ?_⟩
      · refine dq_none ?_; intro e he; have hm := mem_listed he; simp [go_sem, *] at hm
      clear hK K
      try w_num
      refine Goes.step rfl (fun _ h₁ => ?_)
      replace hF := (fq_rely hF2) hF h₁
      clear h₁
      refine goes_oper_k rfl rfl (by k_ne) (fun K hK => ?_)
      go_simp
      refine hK _ _ ⟨?_, ?_⟩
      · refine dq_none ?_; intro e he; have hm := mem_listed he; simp [go_sem, *] at hm
      clear hK K
      try w_num
      refine Goes.step rfl (fun _ h₁ => ?_)
      replace hF := (fq_rely hF2) hF h₁
      clear h₁
      rw [stepG_region_end]
      simp only [goes_go]
      refine ⟨by refine dq_none ?_; intro e he; simp at he, ?_⟩
      refine Goes.step rfl (fun _ h₁ => ?_)
      replace hF := (fq_rely hF2) hF h₁
      clear h₁
      rw [stepG_seq]
      simp only [goes_go]
      refine ⟨by refine dq_none ?_; intro e he; simp at he, ?_⟩
      refine Goes.step rfl (fun _ h₁ => ?_)
      replace hF := (fq_rely hF2) hF h₁
      clear h₁
      rw [stepG_cond (t := true) (by first | rfl | (simp [Act.eval]; omega))]
      simp only [goes_go, if_true, if_false, Bool.false_eq_true, ↓reduceIte]
      refine ⟨by refine dq_none ?_; intro e he; simp at he, ?_⟩
      refine Goes.step rfl (fun _ h₁ => ?_)
      replace hF := (fq_rely hF2) hF h₁
      clear h₁
      rw [stepG_seq]
      simp only [goes_go]
      refine ⟨by refine dq_none ?_; intro e he; simp at he, ?_⟩
      refine Goes.step rfl (fun _ h₁ => ?_)
      replace hF := (fq_rely hF2) hF h₁
      clear h₁
      rw [stepG_region]
      simp only [goes_go, List.size_toArray, List.length_cons, List.length_nil, Nat.reduceAdd, Nat.zero_add, List.range, List.range.loop]
      refine ⟨by refine dq_none ?_; intro e he; simp at he, ?_⟩
      refine Goes.stop (fun w₅ h₅ => ?_)
      replace hF := fq_rely hF2 hF h₅
      clear h₅
      refine ⟨rfl, _, stepG_mark0 .enable (by simp) rfl rfl (by k_ne) rfl H.f_enable (x_enable_n lk) (x_enable_b lk) (x_enable_x lk) (x_enable_f lk), 12, ?_⟩
      simp only [GQ]
      walk_nrm
      refine Goes.step rfl (fun _ h₁ => ?_)
      replace hF := (fq_rely hF2) hF h₁
      clear h₁
      rw [stepG_region_end]
      simp only [goes_go]
      refine ⟨by refine dq_none ?_; intro e he; simp at he, ?_⟩
      refine Goes.step rfl (fun _ h₁ => ?_)
      replace hF := (fq_rely hF2) hF h₁
      clear h₁
      rw [stepG_region]
      simp only [goes_go, List.size_toArray, List.length_cons, List.length_nil, Nat.reduceAdd, Nat.zero_add, List.range, List.range.loop]
      refine ⟨by refine dq_none ?_; intro e he; simp at he, ?_⟩
      refine Goes.step rfl (fun _ h₁ => ?_)
      replace hF := (fq_rely hF2) hF h₁
      clear h₁
      refine goes_oper_k rfl rfl (by k_ne) (fun K hK => ?_)
      go_simp
      refine hK _ _ ⟨?_, ?_⟩
      · refine dq_none ?_; intro e he; have hm := mem_listed he; simp [go_sem, *] at hm
      clear hK K
      try w_num
      refine Goes.step rfl (fun _ h₁ => ?_)
      replace hF := (fq_rely hF2) hF h₁
      clear h₁
      refine goes_oper_k rfl rfl (by k_ne) (fun Kx hKx => ?_)
      have hcv := run_convert_to_unsafe (P := P) H.underlying_tWgP H.underlying_tUP H.room_tWg (WgLive.cell0 hF.2).choose_spec
      have hce := fun es => events_convert_to_unsafe (P := P) H.underlying_tWgP H.underlying_tUP H.room_tWg (WgLive.cell0 hF.2).choose_spec es
      go_simp
      refine hKx _ _ ⟨?_, ?_⟩
      · refine dq_none ?_; intro e he; have hm := mem_listed he; simp [go_sem, hce] at hm
      clear hKx Kx hcv hce
      refine Goes.stop (fun w₆ h₆ => ?_)
      replace hF := fq_rely hF2 hF h₆
      clear h₆
      refine ⟨rfl, _, stepG_markAt .acquire (by simp) rfl rfl (by k_ne) rfl H.f_acquire (x_acquire_n lk) (x_acquire_b lk) (x_acquire_x lk) (x_acquire_f lk) (by simp [Act.eval, stA]), fun hfull => ⟨rfl, 40, ?_⟩⟩
      replace hF := And.intro hF.1 hfull
      clear hfull
      walk_nrm
      refine Goes.step rfl (fun _ h₁ => ?_)
      replace hF := (fat_rely hF2) hF h₁
      clear h₁
      rw [stepG_region_end]
      simp only [goes_go]
      refine ⟨by refine df_none ?_; intro e he; simp at he, ?_⟩
      refine Goes.step rfl (fun _ h₁ => ?_)
      replace hF := (fat_rely hF2) hF h₁
      clear h₁
      rw [stepG_seq]
      simp only [goes_go]
      refine ⟨by refine df_none ?_; intro e he; simp at he, ?_⟩
      refine Goes.step rfl (fun _ h₁ => ?_)
      replace hF := (fat_rely hF2) hF h₁
      clear h₁
      rw [stepG_seq]
      simp only [goes_go]
      refine ⟨by refine df_none ?_; intro e he; simp at he, ?_⟩
      refine Goes.step rfl (fun _ h₁ => ?_)
      replace hF := (fat_rely hF2) hF h₁
      clear h₁
      rw [stepG_region]
      simp only [goes_go, List.size_toArray, List.length_cons, List.length_nil, Nat.reduceAdd, Nat.zero_add, List.range, List.range.loop]
      refine ⟨by refine df_none ?_; intro e he; simp at he, ?_⟩
      refine Goes.step rfl (fun _ h₁ => ?_)
      replace hF := (fat_rely hF2) hF h₁
      clear h₁
      refine goes_oper_k rfl rfl (by k_ne) (fun K hK => ?_)
      go_simp
      refine hK _ _ ⟨?_, ?_⟩
      · refine df_none ?_; intro e he; have hm := mem_listed he; simp [go_sem, *] at hm
      clear hK K
      try w_num
      refine Goes.step rfl (fun _ h₁ => ?_)
      replace hF := (fat_rely hF2) hF h₁
      clear h₁
      rw [stepG_region_end]
      simp only [goes_go]
      refine ⟨by refine df_none ?_; intro e he; simp at he, ?_⟩
      refine Goes.step rfl (fun _ h₁ => ?_)
      replace hF := (fat_rely hF2) hF h₁
      clear h₁
      rw [stepG_cond (t := false) (by first | rfl | (simp [Act.eval]; omega))]
      simp only [goes_go, if_true, if_false, Bool.false_eq_true, ↓reduceIte]
      refine ⟨by refine df_none ?_; intro e he; simp at he, ?_⟩
      refine Goes.step rfl (fun _ h₁ => ?_)
      replace hF := (fat_rely hF2) hF h₁
      clear h₁
      rw [stepG_skip]
      simp only [goes_go]
      refine ⟨by refine df_none ?_; intro e he; simp at he, ?_⟩
      refine Goes.step rfl (fun _ h₁ => ?_)
      replace hF := (fat_rely hF2) hF h₁
      clear h₁
      rw [stepG_ret']
      simp only [goes_go]
      refine ⟨by refine df_none ?_; intro e he; simp at he, ?_⟩
      refine Goes.step rfl (fun _ h₁ => ?_)
      replace hF := (fat_rely hF2) hF h₁
      clear h₁
      refine goes_leave0 rfl rfl H.f_wait rfl ⟨by refine df_none ?_; intro e he; simp at he, ?_⟩
      walk_nrm
      exact Goes.stop fun w₇ h₇ => ⟨rfl, fat_rely hF2 hF h₇⟩
    · -- it misses
      refine ⟨_, stepG_cas_miss (v := (v' : Int) * KK) (old := S) (n := S + 1) rfl rfl (by k_ne) rfl H.f_casU64 (x_casU64_n lk) (x_casU64_b lk) (x_casU64_x lk) .u64 (x_casU64_f lk) rfl rfl rfl hw.cellSt (hw.thaw 0) (by rw [← hS]; simp only [KK]; omega), 20, ?_⟩
      clear hw
      simp only [GQ]
      walk_nrm
      refine Goes.step rfl (fun _ h₁ => ?_)
      replace hF := (fq_rely hF2) hF h₁
      clear h₁
      refine goes_oper_k rfl rfl (by k_ne) (fun K hK => ?_)
      go_simp
      refine hK _ _ ⟨?_, ?_⟩
      · refine dq_none ?_; intro e he; have hm := mem_listed he; simp [go_sem, *] at hm
      clear hK K
      try w_num
      refine Goes.step rfl (fun _ h₁ => ?_)
      replace hF := (fq_rely hF2) hF h₁
      clear h₁
      rw [stepG_region_end]
      simp only [goes_go]
      refine ⟨by refine dq_none ?_; intro e he; simp at he, ?_⟩
      refine Goes.step rfl (fun _ h₁ => ?_)
      replace hF := (fq_rely hF2) hF h₁
      clear h₁
      rw [stepG_ret']
      simp only [goes_go]
      refine ⟨by refine dq_none ?_; intro e he; simp at he, ?_⟩
      refine Goes.step rfl (fun _ h₁ => ?_)
      replace hF := (fq_rely hF2) hF h₁
      clear h₁
      refine goes_leave1 rfl rfl H.f_uCas rfl ⟨by refine dq_none ?_; intro e he; simp at he, ?_⟩
      walk_nrm
      refine Goes.step rfl (fun _ h₁ => ?_)
      replace hF := (fq_rely hF2) hF h₁
      clear h₁
      rw [stepG_region_end]
      simp only [goes_go]
      refine ⟨by refine dq_none ?_; intro e he; simp at he, ?_⟩
      refine Goes.step rfl (fun _ h₁ => ?_)
      replace hF := (fq_rely hF2) hF h₁
      clear h₁
      rw [stepG_cond (t := false) (by first | rfl | (simp [Act.eval]; omega))]
      simp only [goes_go, if_true, if_false, Bool.false_eq_true, ↓reduceIte]
      refine ⟨by refine dq_none ?_; intro e he; simp at he, ?_⟩
      refine Goes.step rfl (fun _ h₁ => ?_)
      replace hF := (fq_rely hF2) hF h₁
      clear h₁
      rw [stepG_skip]
      simp only [goes_go]
      refine ⟨by refine dq_none ?_; intro e he; simp at he, ?_⟩
      refine Goes.step rfl (fun _ h₁ => ?_)
      replace hF := (fq_rely hF2) hF h₁
      clear h₁
      rw [stepG_inBlock]
      simp only [goes_go]
      refine ⟨by refine dq_none ?_; intro e he; simp at he, ?_⟩
      refine Goes.step rfl (fun _ h₁ => ?_)
      replace hF := (fq_rely hF2) hF h₁
      clear h₁
      rw [stepG_inLoop]
      simp only [goes_go]
      refine ⟨by refine dq_none ?_; intro e he; simp at he, ?_⟩
      refine Goes.stop (fun w₃ h₃ => ?_)
      replace hF := fq_rely hF2 hF h₃
      exact ⟨_, rfl, by simp, by simp, hF⟩
end
end Go.Proofs.Ytoipkpndfgcmcaa.Crew

/-
  The check sum as plain mathematics on natural numbers below 2^32: a step, a byte, bytes; half a byte at a time is the same. No program in sight.
-/
namespace Go.Proofs.Ytoipkpndfgcmcaa
open Go.RowKit

def U32 : Nat := 4294967296
def POLY : Nat := 3988292384
def ONES : Nat := 4294967295
/-- A step of r. -/
def stp (r : Nat) : Nat := r / 2 ^^^ (if r % 2 = 1 then POLY else 0)
def stp4 (r : Nat) : Nat := stp (stp (stp (stp r)))
def stp8 (r : Nat) : Nat := stp4 (stp4 r)
/-- A byte is taken into r. -/
def tk (r : Nat) (c : UInt8) : Nat := stp8 (r ^^^ c.toNat)
def crc (r : Nat) (bs : List UInt8) : Nat := bs.foldl tk r
def upd (s : Nat) (bs : List UInt8) : Nat := crc (s ^^^ ONES) bs ^^^ ONES

theorem xor_lt {a b : Nat} (ha : a < U32) (hb : b < U32) : a ^^^ b < U32 := Nat.xor_lt_two_pow (n := 32) ha hb
theorem stp_lt {r : Nat} (h : r < U32) : stp r < U32 := by
  unfold stp
  refine xor_lt (by unfold U32 at *; omega) ?_
  split <;> decide
theorem stp4_lt {r : Nat} (h : r < U32) : stp4 r < U32 := stp_lt (stp_lt (stp_lt (stp_lt h)))
theorem stp8_lt {r : Nat} (h : r < U32) : stp8 r < U32 := stp4_lt (stp4_lt h)
theorem u8_lt (c : UInt8) : c.toNat < U32 := by
  have := c.toNat_lt
  unfold U32
  omega
theorem tk_lt {r : Nat} (h : r < U32) (c : UInt8) : tk r c < U32 := stp8_lt (xor_lt h (u8_lt c))
theorem crc_lt {r : Nat} (h : r < U32) (bs : List UInt8) : crc r bs < U32 := by
  induction bs generalizing r with
  | nil => exact h
  | cons c bs ih => exact ih (tk_lt h c)
theorem ones_lt : ONES < U32 := by decide
theorem upd_lt {s : Nat} (h : s < U32) (bs : List UInt8) : upd s bs < U32 := xor_lt (crc_lt (xor_lt h ones_lt) bs) ones_lt

theorem xor_half (a b : Nat) : (a ^^^ b) / 2 = a / 2 ^^^ b / 2 := Nat.xor_div_two
theorem xor_odd (a b : Nat) : (a ^^^ b) % 2 = (a % 2 + b % 2) % 2 := by
  have h : ∀ x : Nat, x % 2 = (x.testBit 0).toNat := fun x => by simp [Nat.testBit_zero]; rcases Nat.mod_two_eq_zero_or_one x with h | h <;> simp [h]
  rw [h, h a, h b, Nat.testBit_xor]
  cases a.testBit 0 <;> cases b.testBit 0 <;> rfl
theorem stp_xor (a b : Nat) : stp (a ^^^ b) = stp a ^^^ stp b := by
  unfold stp
  rw [xor_half, xor_odd]
  have e : (a / 2 ^^^ (if a % 2 = 1 then POLY else 0)) ^^^ (b / 2 ^^^ (if b % 2 = 1 then POLY else 0)) = (a / 2 ^^^ b / 2) ^^^ ((if a % 2 = 1 then POLY else 0) ^^^ (if b % 2 = 1 then POLY else 0)) := by
    rw [Nat.xor_assoc, Nat.xor_assoc]
    congr 1
    rw [← Nat.xor_assoc, Nat.xor_comm _ (b / 2), Nat.xor_assoc]
  rw [e]
  congr 1
  rcases Nat.mod_two_eq_zero_or_one a with ha | ha <;> rcases Nat.mod_two_eq_zero_or_one b with hb | hb <;> simp [ha, hb]
theorem stp4_xor (a b : Nat) : stp4 (a ^^^ b) = stp4 a ^^^ stp4 b := by unfold stp4; simp only [stp_xor]
theorem stp8_xor (a b : Nat) : stp8 (a ^^^ b) = stp8 a ^^^ stp8 b := by unfold stp8; simp only [stp4_xor]
theorem stp_zero : stp 0 = 0 := by decide
theorem stp_even (q : Nat) : stp (2 * q) = q := by
  unfold stp
  rw [if_neg (by omega), Nat.mul_div_cancel_left _ (by omega), Nat.xor_zero]
theorem stp4_16 (q : Nat) : stp4 (16 * q) = q := by
  unfold stp4
  rw [show 16 * q = 2 * (2 * (2 * (2 * q))) by omega, stp_even, stp_even, stp_even, stp_even]
/-- Half a byte at a time. -/
theorem stp4_table (r : Nat) : r / 16 ^^^ stp4 (r % 16) = stp4 r := by
  have h : (16 * (r / 16)) ^^^ (r % 16) = r := by
    have := nat_join 4 (16 * (r / 16)) (r % 16) (by omega) (by omega)
    have hx : (16 * (r / 16)) ^^^ (r % 16) = (16 * (r / 16)) ||| (r % 16) := by
      apply Nat.eq_of_testBit_eq
      intro i
      rw [Nat.testBit_xor, Nat.testBit_or]
      by_cases hi : i < 4
      · have : (16 * (r / 16)).testBit i = false := by
          rw [show 16 * (r / 16) = 2 ^ 4 * (r / 16) by rfl, Nat.testBit_two_pow_mul]
          simp; omega
        simp [this]
      · have : (r % 16).testBit i = false := Nat.testBit_lt_two_pow (Nat.lt_of_lt_of_le (Nat.mod_lt _ (by omega)) (Nat.pow_le_pow_right (n := 2) (i := 4) (by omega) (by omega)))
        simp [this]
    rw [hx, this]
    omega
  conv => rhs; rw [← h]
  rw [stp4_xor, stp4_16]

/-! The walks' own spellings. -/
theorem and_one (r : Nat) (h : r < U32) : bits BinOp.and IntKind.u32 (r : Int) 1 = ((r % 2 : Nat) : Int) := by
  rw [show (1 : Int) = ((1 : Nat) : Int) from rfl, u32_and_nat r 1 h (by omega), Nat.and_one_is_mod]
theorem and_15 (r : Nat) (h : r < U32) : bits BinOp.and IntKind.u32 (r : Int) 15 = ((r % 16 : Nat) : Int) := by
  rw [show (15 : Int) = ((15 : Nat) : Int) from rfl, u32_and_nat r 15 h (by omega)]
  congr 1
  exact Nat.and_two_pow_sub_one_eq_mod r 4
theorem xor_u32 (a b : Nat) (ha : a < U32) (hb : b < U32) : bits BinOp.xor IntKind.u32 (a : Int) (b : Int) = ((a ^^^ b : Nat) : Int) := u32_xor_nat a b ha hb
theorem and_ones (a : Nat) (h : a < U32) : bits BinOp.and IntKind.u32 (a : Int) 4294967295 = (a : Int) := by
  rw [show (4294967295 : Int) = ((4294967295 : Nat) : Int) from rfl, u32_and_nat a 4294967295 h (by omega)]
  congr 1
  have := Nat.and_two_pow_sub_one_eq_mod a 32
  rw [show (4294967295 : Nat) = 2 ^ 32 - 1 from rfl, this]
  exact Nat.mod_eq_of_lt h
theorem and_zero (a : Nat) (h : a < U32) : bits BinOp.and IntKind.u32 (a : Int) 0 = 0 := by
  rw [show (0 : Int) = ((0 : Nat) : Int) from rfl, u32_and_nat a 0 h (by omega)]
  simp
theorem step_val (r : Nat) (h : r < U32) : bits BinOp.xor IntKind.u32 ((r : Int) / 2) (bits BinOp.and IntKind.u32 3988292384 (IntKind.u32.wrap (-(bits BinOp.and IntKind.u32 (r : Int) 1)))) = ((stp r : Nat) : Int) := by
  rw [and_one r h]
  unfold stp
  rw [show (3988292384 : Int) = ((POLY : Nat) : Int) from rfl, show ((r : Int) / 2) = ((r / 2 : Nat) : Int) by omega]
  have h2 : r / 2 < U32 := by unfold U32 at *; omega
  rcases Nat.mod_two_eq_zero_or_one r with hm | hm
  · rw [hm, show IntKind.u32.wrap (-((0 : Nat) : Int)) = 0 by decide, and_zero POLY (by decide), show (0 : Int) = ((0 : Nat) : Int) from rfl, xor_u32 _ _ h2 (by decide)]
    simp
  · rw [hm, show IntKind.u32.wrap (-((1 : Nat) : Int)) = 4294967295 by decide, and_ones POLY (by decide), xor_u32 _ _ h2 (by decide)]
    simp
end Go.Proofs.Ytoipkpndfgcmcaa

/-
  The check sum's steps, of the program and of the document's answer: step, take, Update, Sum over any bytes; the walks over the Go text. Numbers are uint32s.
-/
namespace Go.Proofs.Ytoipkpndfgcmcaa
open Go.RowKit


theorem ret_n {k : IntKind} {a : Int} {b : Nat} (h : a = (b : Int)) : Ending.returned (.int k a) = .returned (.int k (b : Int)) := by rw [h]
theorem step_any (r : Nat) (w : World) (h : r < U32) : Calls Try.prog 57 #[.int .u32 (r : Int)] w fun e w' => e = .returned (.int .u32 (stp r : Nat)) ∧ w = w' := by
  have HV := Lib.hid (step_val r h)
  clear h
  go_enter Try.func57, Try.ntmps57
  go_wp2
  go_ret
  exact ⟨ret_n HV.out, rfl⟩
theorem refStep_any (r : Nat) (w : World) (h : r < U32) : Calls Try.prog 59 #[.int .u32 (r : Int)] w fun e w' => e = .returned (.int .u32 (stp r : Nat)) ∧ w = w' := by
  by_cases hm : r % 2 = 0
  · have ht : ((r : Int) % 2 == 0) = true := by simp; omega
    have HV : Hid ((r : Int) / 2 % 4294967296 = ((stp r : Nat) : Int)) := by
      show _ = _
      unfold stp
      rw [if_neg (by omega), Nat.xor_zero]
      unfold U32 at h
      omega
    clear h hm
    go_enter Try.func59, Try.ntmps59
    go_wp2
    go_ret
    exact ⟨ret_n HV.out, rfl⟩
  · have ht : ((r : Int) % 2 == 0) = false := by simp; omega
    have HV : Hid (bits BinOp.xor IntKind.u32 ((r : Int) / 2 % 4294967296) 3988292384 = ((stp r : Nat) : Int)) := by
      show _ = _
      unfold stp
      rw [if_pos (by omega), show ((r : Int) / 2 % 4294967296) = ((r / 2 : Nat) : Int) by unfold U32 at h; omega, show (3988292384 : Int) = ((POLY : Nat) : Int) from rfl, xor_u32 _ _ (by unfold U32 at *; omega) (by decide)]
    clear h hm
    go_enter Try.func59, Try.ntmps59
    go_wp2
    go_ret
    exact ⟨ret_n HV.out, rfl⟩

def stpN : Nat → Nat → Nat
  | 0, r => r
  | n + 1, r => stpN n (stp r)
theorem stpN_8 (r : Nat) : stpN 8 r = stp8 r := rfl

theorem refTake_any (r : Nat) (c : UInt8) (w : World) (h : r < U32) : Calls Try.prog 50 #[.int .u32 (r : Int), .int .u8 (c.toNat : Int)] w fun e w' => e = .returned (.int .u32 (tk r c : Nat)) ∧ w = w' := by
  have hx : bits BinOp.xor IntKind.u32 (r : Int) (c.toNat : Int) = ((r ^^^ c.toNat : Nat) : Int) := xor_u32 _ _ h (u8_lt c)
  have hc := c.toNat_lt
  go_enter Try.func50, Try.ntmps50
  go_wp2
  go_loopg [0, 5] 8 (fun q t i wr => ∃ k s : Nat, k + q = 8 ∧ i = .int .i64 (k : Int) ∧ t = .int .u32 (s : Int) ∧ Hid (s < U32 ∧ stpN q s = tk r c) ∧ w = wr)
  case atStart => exact ⟨0, r ^^^ c.toNat, rfl, rfl, by simp, ⟨xor_lt h (u8_lt c), rfl⟩, rfl⟩
  case round =>
    obtain ⟨k, s, hk, rfl, rfl, HS, rfl⟩ := hrel
    clear hx h
    by_cases hlt : k < 8
    · obtain ⟨q, rfl⟩ : ∃ q, gk = q + 1 := ⟨gk - 1, by omega⟩
      have hS := hide (step_any s w HS.out.1)
      have hR := hide (refStep_any s w HS.out.1)
      go_wp2_with (go_at_call 59; refine (unhide hR).mono ?_; rintro e w1 ⟨rfl, rfl⟩)
      go_roundg q
      case rel => exact ⟨k + 1, stp s, by omega, by go_num, rfl, ⟨stp_lt HS.out.1, HS.out.2⟩, rfl⟩
      case measure => omega
    · obtain rfl : gk = 0 := by omega
      go_wp2
      go_ret
      exact ⟨ret_n (by rw [← HS.out.2]; rfl), rfl⟩

theorem refUpdate_any (s : Nat) (bs : List UInt8) (A : Option Addr) (n c B : Nat) (w : World) (h : s < U32) (hr : Reads w B 1 A n (bs.map bv)) (hn : n ≤ 140737488355328) :
    Calls Try.prog 27 #[.int .u32 (s : Int), .slice A n c] w fun e w' => e = .returned (.int .u32 (upd s bs : Nat)) ∧ w = w' := by
  have hlen : bs.length = n := by have := hr.1; simpa using this
  have hx : bits BinOp.xor IntKind.u32 (s : Int) 4294967295 = ((s ^^^ ONES : Nat) : Int) := xor_u32 s ONES h ones_lt
  go_enter Try.func27, Try.ntmps27
  go_wp2
  go_loopg [5, 6] n (fun q t i wr => ∃ k r : Nat, k + q = n ∧ i = .int .i64 (k : Int) ∧ t = .int .u32 (r : Int) ∧ Hid (r < U32 ∧ crc r (bs.drop k) = crc (s ^^^ ONES) bs) ∧ w = wr)
  case atStart => exact ⟨0, s ^^^ ONES, by omega, rfl, by simp, ⟨xor_lt h ones_lt, rfl⟩, rfl⟩
  case round =>
    obtain ⟨k, r, hk, rfl, rfl, HS, rfl⟩ := hrel
    clear hx
    by_cases hlt : k < n
    · obtain ⟨q, rfl⟩ : ∃ q, gk = q + 1 := ⟨gk - 1, by omega⟩
      obtain ⟨b, off, u, rfl, hb, hxx, hc, hall⟩ := hr.at0 hlt
      rw [List.getElem?_map] at hxx
      obtain ⟨c0, hx0, rfl⟩ := Option.map_eq_some_iff.1 hxx
      unfold bv at hc
      have hT := hide (refTake_any r c0 w HS.out.1)
      have HD : Hid (crc (tk r c0) (bs.drop (k + 1)) = crc (s ^^^ ONES) bs) := by
        show _ = _
        rw [← HS.out.2]
        obtain ⟨hl, rfl⟩ := List.getElem?_eq_some_iff.1 hx0
        rw [List.drop_eq_getElem_cons hl]
        rfl
      clear hr hx0 h hxx hall
      go_wp2_with (go_at_call 50; refine (unhide hT).mono ?_; rintro e w1 ⟨rfl, rfl⟩)
      go_roundg q
      case rel => exact ⟨k + 1, tk r c0, by omega, by go_num, rfl, ⟨tk_lt HS.out.1 c0, HD.out⟩, rfl⟩
      case measure => omega
    · have HX : Hid (bits BinOp.xor IntKind.u32 (r : Int) 4294967295 = ((upd s bs : Nat) : Int)) := by
        show _ = _
        have := HS.out.2
        rw [List.drop_of_length_le (by omega)] at this
        unfold upd
        rw [← this]
        exact xor_u32 r ONES HS.out.1 ones_lt
      clear hr h
      go_wp2
      go_ret
      exact ⟨ret_n HX.out, rfl⟩
theorem refSum_any (bs : List UInt8) (A : Option Addr) (n c B : Nat) (w : World) (hr : Reads w B 1 A n (bs.map bv)) (hn : n ≤ 140737488355328) :
    Calls Try.prog 25 #[.slice A n c] w fun e w' => e = .returned (.int .u32 (upd 0 bs : Nat)) ∧ w = w' := by
  have hU := hide (refUpdate_any 0 bs A n c B w (by decide) hr hn)
  clear hr
  go_enter Try.func25, Try.ntmps25
  go_wp2_with (go_at_call 27; refine (unhide hU).mono ?_; rintro e w1 ⟨rfl, rfl⟩)
  go_ret
  exact ⟨rfl, rfl⟩
end Go.Proofs.Ytoipkpndfgcmcaa

/-
  The program's check sum: take (half a byte at a time, by a table that it makes), Update, Sum over any bytes; the walks over the Go text. Numbers are uint32s, the bytes fewer than 2^47.
-/
namespace Go.Proofs.Ytoipkpndfgcmcaa
open Go.RowKit


def tcell (k i : Nat) : Value := .int .u32 (if i < k then (stp4 i : Nat) else 0 : Nat)
def tabl (k : Nat) : Array Value := ((List.range 16).map (tcell k)).toArray
theorem tabl_at {k i : Nat} (hi : i < 16) : (tabl k)[i]? = some (tcell k i) := by
  simp [tabl, List.getElem?_range hi]
theorem tabl_next {k : Nat} (hk : k < 16) : (tabl k).setIfInBounds k (.int .u32 (stp4 k : Nat)) = tabl (k + 1) := by
  apply Array.ext_getElem?
  intro i
  rw [Array.getElem?_setIfInBounds]
  by_cases hi : i < 16
  · by_cases he : k = i
    · subst he
      simp only [if_true, tabl_at hk]
      simp [tabl, hk, tcell]
    · rw [if_neg he, tabl_at hi, tabl_at hi]
      unfold tcell
      have : i < k ↔ i < k + 1 := by omega
      simp only [this]
  · have h1 : (tabl k).size = 16 := by simp [tabl]
    have h2 : (tabl (k + 1)).size = 16 := by simp [tabl]
    rw [if_neg (by omega), Array.getElem?_eq_none (by omega), Array.getElem?_eq_none (by omega)]
theorem tabl_zero : tabl 0 = #[.int .u32 0, .int .u32 0, .int .u32 0, .int .u32 0, .int .u32 0, .int .u32 0, .int .u32 0, .int .u32 0, .int .u32 0, .int .u32 0, .int .u32 0, .int .u32 0, .int .u32 0, .int .u32 0, .int .u32 0, .int .u32 0] := by
  rfl
/-- What a byte does, in the walk's own steps. -/
theorem byte_steps (r : Nat) (c : UInt8) (h : r < U32) : ∃ x1 y1 z1 x2 y2 z2 x3 : Nat, bits BinOp.xor IntKind.u32 (r : Int) (c.toNat : Int) = (x1 : Int) ∧ bits BinOp.and IntKind.u32 (x1 : Int) 15 = (y1 : Int) ∧ y1 < 16 ∧ z1 = stp4 y1 ∧
    bits BinOp.xor IntKind.u32 ((x1 : Int) / 16) (z1 : Int) = (x2 : Int) ∧ bits BinOp.and IntKind.u32 (x2 : Int) 15 = (y2 : Int) ∧ y2 < 16 ∧ z2 = stp4 y2 ∧ bits BinOp.xor IntKind.u32 ((x2 : Int) / 16) (z2 : Int) = (x3 : Int) ∧ x3 = tk r c ∧ x1 ≤ 4294967295 ∧ x2 ≤ 4294967295 := by
  have h1 : r ^^^ c.toNat < U32 := xor_lt h (u8_lt c)
  have h2 := stp4_lt h1
  have d : ∀ x : Nat, x < U32 → x / 16 < U32 := fun x hx => by unfold U32 at *; omega
  refine ⟨r ^^^ c.toNat, (r ^^^ c.toNat) % 16, _, stp4 (r ^^^ c.toNat), stp4 (r ^^^ c.toNat) % 16, _, _, xor_u32 _ _ h (u8_lt c), and_15 _ h1, by omega, rfl, ?_, and_15 _ h2, by omega, rfl, ?_, rfl, by unfold U32 at h1; omega, by unfold U32 at h2; omega⟩
  · rw [show ((r ^^^ c.toNat : Nat) : Int) / 16 = (((r ^^^ c.toNat) / 16 : Nat) : Int) by omega, xor_u32 _ _ (d _ h1) (stp4_lt (by unfold U32; omega)), stp4_table]
  · rw [show ((stp4 (r ^^^ c.toNat) : Nat) : Int) / 16 = ((stp4 (r ^^^ c.toNat) / 16 : Nat) : Int) by omega, xor_u32 _ _ (d _ h2) (stp4_lt (by unfold U32; omega)), stp4_table]
    rfl

set_option maxRecDepth 100000 in
set_option maxHeartbeats 600000 in
theorem take_any (s : Nat) (bs : List UInt8) (A : Option Addr) (n c B : Nat) (w : World) (h : s < U32) (hr : Reads w B 1 A n (bs.map bv)) (hn : n ≤ 140737488355328) (hB : B ≤ w.heap.size) :
    Calls Try.prog 48 #[.int .u32 (s : Int), .slice A n c] w fun e w' => e = .returned (.int .u32 (crc s bs : Nat)) ∧ Below w.heap.size w w' := by
  have hlen : bs.length = n := by have := hr.1; simpa using this
  have HR := hide hr
  clear hr
  go_enter Try.func48, Try.ntmps48
  go_wp2
  go_loopg [9] 16 (fun q i wr => ∃ k : Nat, k + q = 16 ∧ i = .int .i64 (k : Int) ∧ Blk wr w.heap.size 99 (tabl k) ∧ Below w.heap.size w wr)
  case atStart => exact ⟨0, rfl, rfl, by rw [tabl_zero]; exact Blk.new _ _ _, (Below.refl _ _).alloc (Nat.le_refl _) _⟩
  case round =>
    obtain ⟨k, hk, rfl, hb, hw⟩ := hrel
    by_cases hlt : k < 16
    · obtain ⟨q, rfl⟩ : ∃ q, gk = q + 1 := ⟨gk - 1, by omega⟩
      have hc : wr.cell? ⟨w.heap.size, k, none⟩ = some (.int .u32 0) := by rw [hb.cell, tabl_at hlt]; simp [tcell]
      have hf : wr.frozen? ⟨w.heap.size, k, none⟩ = false := hb.frozen k
      have h0 : k < U32 := by unfold U32; omega
      have s1 := hide (step_any k wr h0)
      have s2 := hide (step_any (stp k) wr (stp_lt h0))
      have s3 := hide (step_any (stp (stp k)) wr (stp_lt (stp_lt h0)))
      have s4 := hide (step_any (stp (stp (stp k))) wr (stp_lt (stp_lt (stp_lt h0))))
      have HB := hide hb
      have HW := hide hw
      clear hb hw h0
      go_wp2_with (first
        | (go_at_call 57; (with_reducible refine (unhide s1).mono ?_); rintro e w1 ⟨rfl, rfl⟩)
        | (go_at_call 57; (with_reducible refine (unhide s2).mono ?_); rintro e w1 ⟨rfl, rfl⟩)
        | (go_at_call 57; (with_reducible refine (unhide s3).mono ?_); rintro e w1 ⟨rfl, rfl⟩)
        | (go_at_call 57; (with_reducible refine (unhide s4).mono ?_); rintro e w1 ⟨rfl, rfl⟩))
      go_roundg q
      case rel => exact ⟨k + 1, by omega, by go_num, by rw [← tabl_next hlt]; exact (unhide HB).set_ k _, (unhide HW).setCell (Nat.le_refl _) _⟩
      case measure => omega
    · obtain rfl : k = 16 := by omega
      have HB := hide hb
      have HW := hide hw
      have HR1 := hide ((unhide HR).below (hw.mono hB))
      clear hb hw HR
      go_wp2
      go_loopg [0, 23] n (fun q t i wx => ∃ k r : Nat, k + q = n ∧ i = .int .i64 (k : Int) ∧ t = .int .u32 (r : Int) ∧ Hid (r < U32 ∧ crc r (bs.drop k) = crc s bs) ∧ wr = wx)
      case atStart => exact ⟨0, s, by omega, rfl, rfl, ⟨h, rfl⟩, rfl⟩
      case round =>
        obtain ⟨k, r, hk, rfl, rfl, HS, rfl⟩ := hrel
        clear h
        by_cases hlt : k < n
        · obtain ⟨q, rfl⟩ : ∃ q, gk = q + 1 := ⟨gk - 1, by omega⟩
          obtain ⟨b, off, u, rfl, hb, hxx, hc, hall⟩ := (unhide HR1).at0 hlt
          rw [List.getElem?_map] at hxx
          obtain ⟨c0, hx0, rfl⟩ := Option.map_eq_some_iff.1 hxx
          unfold bv at hc
          have HD : Hid (crc (tk r c0) (bs.drop (k + 1)) = crc s bs) := by
            show _ = _
            rw [← HS.out.2]
            obtain ⟨hl, rfl⟩ := List.getElem?_eq_some_iff.1 hx0
            rw [List.drop_eq_getElem_cons hl]
            rfl
          have HL := Lib.hid (tk_lt HS.out.1 c0)
          obtain ⟨x1, y1, z1, x2, y2, z2, x3, e1, e2, l1, e3, e4, e5, l2, e6, e7, e8, l3, l4⟩ := byte_steps r c0 HS.out.1
          have hc1 : wr.cell? ⟨w.heap.size, y1, none⟩ = some (.int .u32 (z1 : Int)) := by rw [(unhide HB).cell, tabl_at l1, tcell, if_pos l1, e3]
          have hc2 : wr.cell? ⟨w.heap.size, y2, none⟩ = some (.int .u32 (z2 : Int)) := by rw [(unhide HB).cell, tabl_at l2, tcell, if_pos l2, e6]
          rw [← e8] at HD HL
          have h8 := c0.toNat_lt
          clear e3 e6 e8 hx0 hxx hall HS
          go_wp2
          go_roundg q
          case rel => exact ⟨k + 1, x3, by omega, by go_num, rfl, ⟨HL.out, HD.out⟩, rfl⟩
          case measure => omega
        · have HX : Hid (r = crc s bs) := by
            show _ = _
            have := HS.out.2
            rw [List.drop_of_length_le (by omega)] at this
            exact this
          go_wp2
          go_ret
          exact ⟨by rw [← HX.out]; rfl, unhide HW⟩
end Go.Proofs.Ytoipkpndfgcmcaa

/-
  A worker's own work in company: the check sum of its bytes, behind the making of its own array. The conditions stand in each theorem.
-/
namespace Go.Proofs.Ytoipkpndfgcmcaa.Crew
open Go Go.Conc Go.ConcN Go.RowKit Go.Conc.Lib Go.ConcR.Gen Go.Proofs.Ytoipkpndfgcmcaa.Veils
open Go.ConcR (KK wgBlock WgAt stA smA rd wr mk Payload DC0)
set_option linter.unusedVariables false
set_option linter.unusedSectionVars false
set_option linter.unusedSimpArgs false
section
variable {L : Lay} {Low i : Nat} {b : Option Nat} {Rd : Nat → Prop}
theorem dx_read {w : World} {es : Array Event} (h : ∀ e ∈ es, EvX L Rd b i w e) : DX L Rd b i w w es := ⟨rfl, rfl, rfl, rfl, fun _ _ _ => rfl, fun _ h => h, fun _ h => h, id, fun _ _ => rfl, h⟩
theorem dx_none {w : World} {es : Array Event} (h : ∀ e ∈ es, False) : DX L Rd b i w w es := dx_read fun e he => (h e he).elim
theorem termsX : Terms (RX L Low b i) (DX L Rd b i) := ⟨fun _ _ _ h k => h.trans k, fun _ => dx_none (by simp)⟩
theorem dx_draw (w : World) : DX L Rd b i w { w with drawn := w.drawn + 1 } #[] := ⟨rfl, rfl, rfl, rfl, fun _ _ _ => rfl, fun _ h => h, fun _ h => h, id, fun _ _ => rfl, by simp⟩
theorem half_setCell {w : World} {g : Nat} {T : Array Value} (h : Blk w g L.eH T) (k : Nat) (u : Value) (r : Nat) : Half L (w.setCell ⟨g, k, none⟩ u) r ↔ Half L w r := by
  by_cases e : r = g
  · subst e
    exact ⟨fun x => ⟨x.1, _, h⟩, fun x => ⟨x.1, _, h.set_ k u⟩⟩
  · constructor
    · rintro ⟨h1, cs, h2⟩
      exact ⟨h1, cs, by rw [← Below.heap_setCell w ⟨g, k, none⟩ u r e]; exact h2⟩
    · rintro ⟨h1, cs, h2⟩
      exact ⟨h1, cs, by rw [Below.heap_setCell w ⟨g, k, none⟩ u r e]; exact h2⟩
theorem dx_own {w : World} {g : Nat} {T : Array Value} (hb : b = some g) (hg : g ≠ L.C) (h : Blk w g L.eH T) (k : Nat) (u : Value) {es : Array Event} (hes : ∀ e ∈ es, EvX L Rd b i (w.setCell ⟨g, k, none⟩ u) e) : DX L Rd b i w (w.setCell ⟨g, k, none⟩ u) es := by
  have ha := aside_setCell w ⟨g, k, none⟩ u
  refine ⟨ha.tape, ha.os, ha.output, ha.size, fun r _ hr => ha.block r fun e => hr (by rw [hb, e]), fun r => (half_setCell h k u r).2, fun r => (half_setCell h k u r).1, fun ⟨cs, h1, h2⟩ => ⟨cs, (ha.block L.C (Ne.symm hg)).trans h1, h2⟩, fun i' _ => cell_of_block (ha.block L.C (Ne.symm hg)) i', hes⟩
/-- A slice that reads as these cells whatever the others do. -/
structure Bys (L : Lay) (Low : Nat) (Rd : Nat → Prop) (A : Option Addr) (n : Nat) (xs : List Value) (w : World) : Prop where
  len : xs.length = n
  cells : 0 < n → ∃ g off, A = some ⟨g, off, none⟩ ∧ Rd g ∧ g < Low ∧ g < w.heap.size ∧ g ≠ L.C ∧ g ≠ L.Wg ∧ ¬ Half L w g ∧ ∀ j u, xs[j]? = some u → w.cell? ⟨g, off + j, none⟩ = some u
theorem Bys.rely {A : Option Addr} {n : Nat} {xs : List Value} {w w₁ : World} (h : Bys L Low Rd A n xs w) (r : RX L Low b i w w₁) : Bys L Low Rd A n xs w₁ :=
  ⟨h.len, fun hn => let ⟨g, off, h1, h2, h3, h4, h5, h6, h7, h8⟩ := h.cells hn
    ⟨g, off, h1, h2, h3, Nat.lt_of_lt_of_le h4 r.size, h5, h6, r.nohalf h3 h4 h5 h6 h7, fun j u hu => (cell_of_block (r.block g h3 h4 h5 h6 h7) _).trans (h8 j u hu)⟩⟩
theorem Bys.set_ {A : Option Addr} {n : Nat} {xs : List Value} {w : World} {g : Nat} {T : Array Value} (h : Bys L Low Rd A n xs w) (hh : Half L w g) (hb : Blk w g L.eH T) (k : Nat) (u : Value) : Bys L Low Rd A n xs (w.setCell ⟨g, k, none⟩ u) :=
  have ha := aside_setCell w ⟨g, k, none⟩ u
  ⟨h.len, fun hn => let ⟨g', off, h1, h2, h3, h4, h5, h6, h7, h8⟩ := h.cells hn
    ⟨g', off, h1, h2, h3, by rw [ha.size]; exact h4, h5, h6, fun x => h7 ((half_setCell hb k u g').1 x), fun j v hv => (cell_of_block (ha.block g' fun e => h7 (by rw [e]; exact hh)) _).trans (h8 j v hv)⟩⟩
/-- What the others, and one's own writes into one's own array, do not unseat. -/
structure FX (L : Lay) (Low i g : Nat) (F : World → Prop) : Prop where
  rely : ∀ w w', F w → RX L Low (some g) i w w' → F w'
  set_ : ∀ w k u T, F w → L.N0 ≤ g → Blk w g L.eH T → F (w.setCell ⟨g, k, none⟩ u)
/-- What is held of the world: the bytes, and one's own array. -/
structure TH (L : Lay) (Low : Nat) (Rd : Nat → Prop) (F : World → Prop) (g : Nat) (T : Array Value) (A : Option Addr) (n : Nat) (xs : List Value) (w : World) : Prop where
  f : F w
  bys : Bys L Low Rd A n xs w
  tb : Blk w g L.eH T
  n0 : L.N0 ≤ g
variable {F : World → Prop} {g n : Nat} {T : Array Value} {A : Option Addr} {xs : List Value} {w w₁ : World}
theorem TH.half (h : TH L Low Rd F g T A n xs w) : Half L w g := ⟨h.n0, _, h.tb⟩
theorem TH.rely (hX : FX L Low i g F) (h : TH L Low Rd F g T A n xs w) (r : RX L Low (some g) i w w₁) : TH L Low Rd F g T A n xs w₁ := ⟨hX.rely _ _ h.f r, h.bys.rely r, (r.own g rfl).trans h.tb, h.n0⟩
theorem TH.byte {gb off k : Nat} {c0 : UInt8} {bs : List UInt8} (h : TH L Low Rd F g T (some ⟨gb, off, none⟩) n (bs.map bv) w) (hk : bs[k]? = some c0) : w.cell? ⟨gb, off + k, none⟩ = some (.int .u8 (c0.toNat : Int)) ∧ Rd gb ∧ gb < w.heap.size := by
  have hl : bs.length = n := by have := h.bys.len; simpa using this
  have hkn := (List.getElem?_eq_some_iff.1 hk).1
  obtain ⟨g', off', h1, h2, h3, h4, h5, h6, h7, h8⟩ := h.bys.cells (by omega)
  cases h1
  exact ⟨h8 k _ (by rw [List.getElem?_map, hk]; rfl), h2, h4⟩
theorem TH.set_ (hX : FX L Low i g F) (h : TH L Low Rd F g T A n xs w) (k : Nat) (u : Value) : TH L Low Rd F g (T.setIfInBounds k u) A n xs (w.setCell ⟨g, k, none⟩ u) := ⟨hX.set_ _ k u _ h.f h.n0 h.tb, h.bys.set_ h.half h.tb k u, h.tb.set_ k u, h.n0⟩
end
section
set_option maxRecDepth 100000 in
/-- One step of the sum, in company. -/
theorem step_co : ∃ q, ∀ (L : Lay) (Low i : Nat) (b : Option Nat) (Rd : Nat → Prop) (F : World → Prop) (hF2 : ∀ w w', F w → RX L Low b i w w' → F w') (r : Nat) (w : World), r < U32 → F w → CallsC Try.prog false (RX L Low b i) (DX L Rd b i) 57 #[.int .u32 (r : Int)] q w fun v w' => v = .int .u32 (stp r : Nat) ∧ F w' := by
  co_apply Exists.intro
  intro L Low i b Rd F hF2 r w hr hF
  have hq := step_val r hr
  have T := termsX (L := L) (Low := Low) (i := i) (b := b) (Rd := Rd)
  co_apply callsC_of_wpC Try.func57 (by rfl) rfl
  simp only [Try.ntmps57, List.size_toArray, List.length_cons, List.length_nil, Nat.reduceAdd, Nat.reduceSub, Array.replicate_succ, Array.replicate_zero, List.push_toArray, List.append_toArray, List.nil_append, List.cons_append]
  co_go T (hF2 _ _) hF (co_quiet T)
  exact ⟨rfl, _, resultsC_tmp (by rfl) _, by simp [hq], hF⟩
theorem opsC_call1 {P : Program} {main : Bool} {R : World → World → Prop} {D : World → World → Array Event → Prop} (T : Terms R D) {fn : FuncId} {Q : Exit → Act → World → Prop} {a : Act} {w : World} {ops : Array Oper} {i : Nat} {rest : List Nat} {o : Oper} {f : FuncId} {x : Operand} {ats : Array TypeId} {nf n : Nat} {Post : Value → World → Prop}
    (ho : ops[i]? = some o) (hw : Region.wanted o (yielded ops a.tmps) = true) (hop : o.op = .call { callee := .value (.func f), args := #[x], argTypes := ats })
    (hcall : CallsC P main R D f #[a.eval x] nf w Post) (hnext : ∀ v w', Post v w' → OpsC P main R D fn ops rest n Q (a.put o.dst v) w') : OpsC P main R D fn ops (i :: rest) (n + nf + 3) Q a w :=
  opsC_call T ho hw hop (by simpa using hcall) hnext
/-- What is left of a piece of code behind its first part. -/
def seqTail : Code → Code
  | .seq _ r => r
  | c => c
def bodyOf (f : Func) : Code := f.body.getD .skip
def Mu9 (a : Act) (_ : World) : Nat := match a.tmps.getD 9 undef with | .int _ j => (16 - j).toNat | _ => 0
def Mu23 (N : Nat) (a : Act) (_ : World) : Nat := match a.tmps.getD 23 undef with | .int _ j => (N - j).toNat | _ => 0
def I1 (L : Lay) (Low : Nat) (Rd : Nat → Prop) (F : World → Prop) (g s n c : Nat) (A : Option Addr) (xs : List Value) (a : Act) (w : World) : Prop :=
  ∃ (k : Nat) (v2 v3 v6 v7 v8 v10 v11 v12 v13 v14 v15 v16 v17 v18 v19 v20 v21 v22 v23 v24 v25 v26 v27 v28 v29 v30 v31 v32 v33 v34 v35 v36 v37 v38 v39 v40 v41 v42 v43 v44 v45 v46 : Value), k ≤ 16 ∧ TH L Low Rd F g (tabl k) A n xs w ∧ a = { tmps := #[.int .u32 (s : Int), .slice A n c, v2, v3, .int .u32 0, .pointer (some ⟨g, 0, none⟩), v6, v7, v8, .int .i64 (k : Int), v10, v11, v12, v13, v14, v15, v16, v17, v18, v19, v20, v21, v22, v23, v24, v25, v26, v27, v28, v29, v30, v31, v32, v33, v34, v35, v36, v37, v38, v39, v40, v41, v42, v43, v44, v45, v46], defers := [] }
def I2 (L : Lay) (Low : Nat) (Rd : Nat → Prop) (F : World → Prop) (g s n c : Nat) (A : Option Addr) (bs : List UInt8) (a : Act) (w : World) : Prop :=
  ∃ (k r : Nat) (v2 v3 v4 v6 v7 v8 v9 v10 v11 v12 v13 v14 v15 v16 v17 v18 v19 v20 v24 v25 v26 v27 v28 v29 v30 v31 v32 v33 v34 v35 v36 v37 v38 v39 v40 v41 v42 v43 v44 v45 v46 : Value), k ≤ n ∧ r < U32 ∧ crc r (bs.drop k) = crc s bs ∧ TH L Low Rd F g (tabl 16) A n (bs.map bv) w ∧ a = { tmps := #[.int .u32 (r : Int), .slice A n c, v2, v3, v4, .pointer (some ⟨g, 0, none⟩), v6, v7, v8, v9, v10, v11, v12, v13, v14, v15, v16, v17, v18, v19, v20, .slice A n c, .int .i64 (n : Int), .int .i64 (k : Int), v24, v25, v26, v27, v28, v29, v30, v31, v32, v33, v34, v35, v36, v37, v38, v39, v40, v41, v42, v43, v44, v45, v46], defers := [] }
/-- Take's rest, within q steps, for whatever worker. -/
def TakeQ (N q : Nat) : Prop := ∀ (L : Lay) (Low i : Nat) (Rd : Nat → Prop) (F : World → Prop) (g s n c : Nat) (A : Option Addr) (bs : List UInt8) (w : World), FX L Low i g F → L.Ok → g ≠ L.C → s < U32 → n ≤ N → TH L Low Rd F g (tabl 0) A n (bs.map bv) w →
    (seqTail (seqTail (bodyOf Try.f48))).wpC Try.prog false (RX L Low (some g) i) (DX L Rd (some g) i) 48 q
      (fun e a w' => e = .ret ∧ a.defers = [] ∧ a.tmps.getD 4 undef = .int .u32 (crc s bs : Nat) ∧ TH L Low Rd F g (tabl 16) A n (bs.map bv) w') { tmps := #[.int .u32 (s : Int), .slice A n c, undef, undef, .int .u32 0, .pointer (some ⟨g, 0, none⟩), undef, undef, undef, undef, undef, undef, undef, undef, undef, undef, undef, undef, undef, undef, undef, undef, undef, undef, undef, undef, undef, undef, undef, undef, undef, undef, undef, undef, undef, undef, undef, undef, undef, undef, undef, undef, undef, undef, undef, undef, undef], defers := [] } w
set_option maxRecDepth 100000 in
set_option maxHeartbeats 4000000 in
theorem take_co (N : Nat) (hN : N ≤ 140737488355328) : ∃ q, TakeQ N q := by
  obtain ⟨q1, hstep0⟩ := step_co
  unfold TakeQ
  co_apply Exists.intro
  intro L Low i Rd F g s n c A bs w hX hL hg hs hn hF
  have hstep := hstep0 L Low i (some g) Rd
  have T := termsX (L := L) (Low := Low) (i := i) (b := some g) (Rd := Rd)
  have hlen : bs.length = n := by have := hF.bys.len; simpa using this
  co_ctl T
  co_stmt T (TH.rely hX) hF (co_quiet T)
  co_ctl T
  co_apply wpC_loop T (I1 L Low Rd F g s n c A (bs.map bv)) Mu9 _ 16
  · exact ⟨0, _, _, _, _, _, _, _, _, _, _, _, _, _, _, _, _, _, _, _, _, _, _, _, _, _, _, _, _, _, _, _, _, _, _, _, _, _, _, _, _, _, _, by omega, hF, rfl⟩
  · simp [Mu9]
  · rintro a w' ⟨k, v2, v3, v6, v7, v8, v10, v11, v12, v13, v14, v15, v16, v17, v18, v19, v20, v21, v22, v23, v24, v25, v26, v27, v28, v29, v30, v31, v32, v33, v34, v35, v36, v37, v38, v39, v40, v41, v42, v43, v44, v45, v46, hk, hF, rfl⟩
    co_go T (TH.rely hX) hF (co_quiet T)
    co_split T (decide ((k : Int) < 16))
    · intro hlt
      replace hlt : k < 16 := by have := of_decide_eq_true hlt; omega
      have e : IntKind.u32.wrap (k : Int) = (k : Int) := by rw [IntKind.wrap_u32]; omega
      have e1 : IntKind.i64.wrap ((k : Int) + 1) = ((k + 1 : Nat) : Int) := by rw [IntKind.wrap_i64]; omega
      have hst : ∀ r w, r < U32 → TH L Low Rd F g (tabl k) A n (bs.map bv) w → _ := hstep (TH L Low Rd F g (tabl k) A n (bs.map bv)) (fun _ _ h r => TH.rely hX h r)
      have u0 : k < U32 := by unfold U32; omega
      have hki : (k : Int) < 16 := by omega
      co_go T (TH.rely hX) hF (co_quiet T)
      try simp only [e]
      co_apply opsC_call1 T rfl (by rfl) rfl (hst k _ u0 hF)
      rintro _ wa ⟨rfl, hF⟩
      walk_nrm
      co_apply opsC_call1 T rfl (by rfl) rfl (hst (stp k) _ (stp_lt u0) hF)
      rintro _ wb ⟨rfl, hF⟩
      walk_nrm
      co_apply opsC_call1 T rfl (by rfl) rfl (hst (stp (stp k)) _ (stp_lt (stp_lt u0)) hF)
      rintro _ wc ⟨rfl, hF⟩
      walk_nrm
      co_apply opsC_call1 T rfl (by rfl) rfl (hst (stp (stp (stp k))) _ (stp_lt (stp_lt (stp_lt u0))) hF)
      rintro _ wd ⟨rfl, hF⟩
      walk_nrm
      have hev := fun w es => events_indexAt_array (P := Try.prog) (w := w) (es := es) 99 40 16 ⟨g, 0, none⟩ .i64 (k : Int) Try.underlying99 (by omega)
      co_opw (TH.rely hX) hF (skip) (co_still T)
      clear hev
      have hs0 : Half L _ g := hF.half
      co_opw (TH.rely hX) hF (have hc : World.cell? _ ⟨g, k, none⟩ = some (Value.int .u32 0) := (by rw [hF.tb.cell, tabl_at hlt]; simp [tcell]); have hz := hF.tb.frozen k) (refine dx_own rfl hg hF.tb k _ ?_; co_evs (exact .inl ⟨_, true, rfl, (by rw [(aside_setCell _ _ _).size]; exact hF.tb.lt), .inr (.inr rfl)⟩))
      replace hF := hF.set_ hX k (.int .u32 (stp (stp (stp (stp k))) : Nat))
      rw [show (tabl k).setIfInBounds k (.int .u32 (stp (stp (stp (stp k))) : Nat)) = tabl (k + 1) from tabl_next hlt] at hF
      clear hs0 hc hz hst
      co_go T (TH.rely hX) hF (co_quiet T)
      try simp only [e1]
      refine ⟨⟨k + 1, _, _, _, _, _, _, _, _, _, _, _, _, _, _, _, _, _, _, _, _, _, _, _, _, _, _, _, _, _, _, _, _, _, _, _, _, _, _, _, _, _, _, by omega, hF, rfl⟩, ?_⟩
      simp only [Mu9]
      simp
      omega
    · intro hlt
      obtain rfl : k = 16 := by have := of_decide_eq_false hlt; omega
      co_go T (TH.rely hX) hF (co_quiet T)
      co_apply wpC_loop T (I2 L Low Rd F g s n c A bs) (Mu23 N) _ N
      · exact ⟨0, s, _, _, _, _, _, _, _, _, _, _, _, _, _, _, _, _, _, _, _, _, _, _, _, _, _, _, _, _, _, _, _, _, _, _, _, _, _, _, _, _, _, by omega, hs, rfl, hF, rfl⟩
      · simp [Mu23]
      · rintro a w' ⟨k, r, v2, v3, v4, v6, v7, v8, v9, v10, v11, v12, v13, v14, v15, v16, v17, v18, v19, v20, v24, v25, v26, v27, v28, v29, v30, v31, v32, v33, v34, v35, v36, v37, v38, v39, v40, v41, v42, v43, v44, v45, v46, hk, hr, hcrc, hF, rfl⟩
        co_go T (TH.rely hX) hF (co_quiet T)
        co_split T (decide ((k : Int) < (n : Int)))
        · intro hlt
          replace hlt : k < n := by have := of_decide_eq_true hlt; omega
          obtain ⟨gb, off, rfl, _⟩ := hF.bys.cells (by omega)
          obtain ⟨c0, hx0⟩ : ∃ c0, bs[k]? = some c0 := ⟨bs[k]'(by omega), List.getElem?_eq_getElem (by omega)⟩
          have hki : (k : Int) < (n : Int) := by omega
          have hd : crc (tk r c0) (bs.drop (k + 1)) = crc s bs := by
            rw [← hcrc]
            obtain ⟨hl, rfl⟩ := List.getElem?_eq_some_iff.1 hx0
            rw [List.drop_eq_getElem_cons hl]
            rfl
          have hl2 := tk_lt hr c0
          obtain ⟨x1, y1, z1, x2, y2, z2, x3, e1, e2, l1, e3, e4, e5, l2, e6, e7, e8, l3, l4⟩ := byte_steps r c0 hr
          rw [← e8] at hd hl2
          have h8 := c0.toNat_lt
          have eb : IntKind.u32.wrap (c0.toNat : Int) = (c0.toNat : Int) := by rw [IntKind.wrap_u32]; omega
          have ek : IntKind.i64.wrap ((k : Int) + 1) = ((k + 1 : Nat) : Int) := by rw [IntKind.wrap_i64]; omega
          have hy1 : (y1 : Int) < 16 := by omega
          have hy2 : (y2 : Int) < 16 := by omega
          have hsu : Try.prog.underlying 29 = some (.slice (Try.prog.elem 29)) := by kernel_rfl
          have hev := fun w es => events_indexAt_slice (P := Try.prog) (w := w) (es := es) 29 ⟨gb, off, none⟩ n c .i64 (k : Int) hsu (by omega)
          have hev1 := fun w es => events_indexAt_array (P := Try.prog) (w := w) (es := es) 99 40 16 ⟨g, 0, none⟩ .u32 (y1 : Int) Try.underlying99 (by omega)
          have hev2 := fun w es => events_indexAt_array (P := Try.prog) (w := w) (es := es) 99 40 16 ⟨g, 0, none⟩ .u32 (y2 : Int) Try.underlying99 (by omega)
          have HX := hide hx0
          have H3 := hide e3
          have H6 := hide e6
          have HD := hide hd
          have HL := hide hl2
          clear hcrc hx0 e3 e6 e8 hd hl2 hsu
          co_go T (TH.rely hX) hF (co_still T)
          co_opw (TH.rely hX) hF (have hc := (hF.byte (unhide HX)).1) (refine dx_read ?_; co_evs (exact .inl ⟨_, false, rfl, (hF.byte (unhide HX)).2.2, .inl ⟨(hF.byte (unhide HX)).2.1, rfl⟩⟩))
          clear hc
          co_go T (TH.rely hX) hF (co_still T)
          co_opw (TH.rely hX) hF (have hc : World.cell? _ ⟨g, y1, none⟩ = some (Value.int .u32 (z1 : Int)) := (by rw [hF.tb.cell, tabl_at l1, tcell, if_pos l1, unhide H3])) (refine dx_read ?_; co_evs (exact .inl ⟨_, false, rfl, hF.tb.lt, .inr (.inr rfl)⟩))
          clear hc
          co_go T (TH.rely hX) hF (co_still T)
          co_opw (TH.rely hX) hF (have hc : World.cell? _ ⟨g, y2, none⟩ = some (Value.int .u32 (z2 : Int)) := (by rw [hF.tb.cell, tabl_at l2, tcell, if_pos l2, unhide H6])) (refine dx_read ?_; co_evs (exact .inl ⟨_, false, rfl, hF.tb.lt, .inr (.inr rfl)⟩))
          clear hc
          co_go T (TH.rely hX) hF (co_still T)
          refine ⟨⟨k + 1, x3, _, _, _, _, _, _, _, _, _, _, _, _, _, _, _, _, _, _, _, _, _, _, _, _, _, _, _, _, _, _, _, _, _, _, _, _, _, _, _, _, _, by omega, unhide HL, unhide HD, hF, rfl⟩, ?_⟩
          simp only [Mu23]
          simp
          omega
        · intro hlt
          obtain rfl : k = n := by have := of_decide_eq_false hlt; omega
          have hx : r = crc s bs := by rw [List.drop_of_length_le (by omega)] at hcrc; exact hcrc
          co_go T (TH.rely hX) hF (co_quiet T)
          exact ⟨trivial, trivial, by simp [hx], hF⟩
end
end Go.Proofs.Ytoipkpndfgcmcaa.Crew

/-
  Calls of function values, deferred and not, and a recover that finds nothing, in company. The conditions stand in each theorem. No program in sight.
-/
namespace Go.Proofs.Ytoipkpndfgcmcaa.Crew
open Go Go.Conc
set_option linter.unusedVariables false
set_option linter.unusedSectionVars false
set_option linter.unusedSimpArgs false
section
variable {P : Program} {main : Bool} {b : Frame} {a : Act} {k : List Item} {cs : List Frame} {w : World} {ops : Array Oper} {i : Nat} {rest : List Nat} {o : Oper} {f : FuncId} {fn : Func} {caps : Array Value} {x : Operand} {c : Code}
/-- A function value is called. -/
theorem run_call_value (hop : o.op = .call { callee := .value x, args := #[], argTypes := #[] }) (hx : a.eval x = .func (.func f) #[] caps)
    (hf : P.funcs[f]? = some fn) (hname : (fn.name == "runtime.NumGoroutine") = false) (hb : fn.body.isNone = false) : (execOp a.eval o).run P w = .ok (.enter f caps) w ∧ (execOp a.eval o).events P w #[] = #[] := by
  have h1 : ¬ fn.name = "runtime.NumGoroutine" := by simpa using hname
  have h2 : ¬ fn.body = none := by cases hx : fn.body <;> simp_all
  unfold execOp
  constructor <;> simp [hop, resolve, Deferred.ofValue, invoke, callFunc, hf, h1, h2, hx]
theorem goes_callv {K : Goroutine → World → Array Event → Prop} (ho : ops[i]? = some o) (hw : Region.wanted o (yielded ops a.tmps) = true) (hk : b.kind ≠ .early) (hop : o.op = .call { callee := .value x, args := #[], argTypes := #[] }) (hx : a.eval x = .func (.func f) #[] caps)
    (hf : P.funcs[f]? = some fn) (hname : (fn.name == "runtime.NumGoroutine") = false) (hb : fn.body = some c)
    (h : K (G ((base f).at { tmps := caps ++ Array.replicate (fn.ntmps - caps.size) undef, defers := [] } [.code c]) (b.at a (.inRegion ops (i :: rest) :: k) :: cs)) w #[]) :
    (stepG P main (G (b.at a (.inRegion ops (i :: rest) :: k)) cs) w).goes K := by
  have hb' : fn.body.isNone = false := by rw [hb]; rfl
  rw [stepG_enter ho hw hk (run_call_value hop hx hf hname hb').1, enter_at _ hf hb]
  have : listed P b.fn a o w = #[] := by unfold listed; rw [(run_call_value hop hx hf hname hb').2]; exact seen_none P _
  rw [this]
  exact h
/-- The deferred call of a function value. -/
def dcallv (f : FuncId) (caps : Array Value) : Deferred := { target := .fn (.func f) caps, args := #[] }
theorem stepG_deferv (ho : ops[i]? = some o) (hw : Region.wanted o (yielded ops a.tmps) = true) (hk : b.kind ≠ .early)
    (hop : o.op = .defer { callee := .value x, args := #[], argTypes := #[] }) (hx : a.eval x = .func (.func f) #[] caps) :
    stepG P main (G (b.at a (.inRegion ops (i :: rest) :: k)) cs) w = .go (G (b.at (Act.put ⟨a.tmps, dcallv f caps :: a.defers⟩ o.dst undef) (.inRegion ops rest :: k)) cs) w #[] := by
  have hr : (execOp a.eval o).run P w = .ok (.defer (dcallv f caps)) w := by
    unfold execOp
    simp [hop, resolve, Deferred.ofValue, hx, dcallv]
  have he : (execOp a.eval o).events P w #[] = #[] := by
    unfold execOp
    simp [hop, resolve, Deferred.ofValue, hx]
  have hfin : (b.at ⟨a.tmps, dcallv f caps :: a.defers⟩ (.inRegion ops (i :: rest) :: k)).finish undef = b.at (Act.put ⟨a.tmps, dcallv f caps :: a.defers⟩ o.dst undef) (.inRegion ops rest :: k) := by rw [Frame.finish_at, ho]; rfl
  have hk' : (b.kind == CallKind.early) = false := by simpa using hk
  rw [stepG_oper ho hw, ← hfin]
  simp [stepG.apply, hr, he, G, Frame.at, hk', GStep.after, seen_none]
theorem stepG_unwind_enterv {todo : List Item} {ds : List Deferred} (hd : a.defers = dcallv f caps :: ds) (hf : P.funcs[f]? = some fn) (hname : (fn.name == "runtime.NumGoroutine") = false) (hb : fn.body = some c) :
    stepG P main (G { b.at a todo with mode := .returning } cs) w =
      .go (G ((baseD f).at { tmps := caps ++ Array.replicate (fn.ntmps - caps.size) undef, defers := [] } [.code c]) ({ b.at ⟨a.tmps, ds⟩ todo with mode := .returning } :: cs)) w #[] := by
  have h1 : ¬ fn.name = "runtime.NumGoroutine" := by simpa using hname
  rw [← enter_atD caps hf hb]
  simp [G, stepG, unwind, callDeferred, Frame.at, hd, dcallv, invoke, callFunc, hf, h1, hb, GStep.after, seen_none]
/-- A recover with nothing to recover from. -/
theorem stepG_recover0 {cl : Frame} (ho : ops[i]? = some o) (hw : Region.wanted o (yielded ops a.tmps) = true) (hop : o.op = .call { callee := .builtin .recover, args := #[], argTypes := #[] }) (hc : cl.mode = .returning) :
    stepG P main (G ((baseD f).at a (.inRegion ops (i :: rest) :: k)) (cl :: cs)) w = .go (G ((baseD f).at (a.put o.dst .nilIface) (.inRegion ops rest :: k)) (cl :: cs)) w #[] := by
  have hr : (execOp a.eval o).run P w = .ok .recover w := by
    unfold execOp
    simp [hop, resolve, invoke, builtin]
  have he : (execOp a.eval o).events P w #[] = #[] := by
    unfold execOp
    simp [hop, resolve, invoke, builtin]
  have hfin : ((baseD f).at a (.inRegion ops (i :: rest) :: k)).finish .nilIface = (baseD f).at (a.put o.dst .nilIface) (.inRegion ops rest :: k) := by rw [Frame.finish_at, ho]; rfl
  have hro : ((baseD f).at a (.inRegion ops (i :: rest) :: k)).roundOf = none := rfl
  have htr : tryRecover ((baseD f).at a (.inRegion ops (i :: rest) :: k)) (cl :: cs) = none := by
    simp [tryRecover, baseD, Frame.at, hc]
  rw [stepG_oper ho hw, ← hfin]
  have hk' : ((baseD f).kind == CallKind.early) = false := rfl
  simp only [Frame.at, G] at hro htr ⊢
  simp [stepG.apply, hr, he, hro, htr, hk', GStep.after, seen_none]
end
/-! the orders of a region that draws -/
def orders (md : Region.Mode) (ops : Array Oper) : Nat → Array Bool → List Nat → List (List Nat)
  | 0, _, acc => [acc.reverse]
  | fuel + 1, listed, acc => match Region.ready md ops listed with
    | [] => [acc.reverse]
    | rs => rs.flatMap fun i => orders md ops fuel (listed.setIfInBounds i true) (i :: acc)
theorem orders_go (md : Region.Mode) (ops : Array Oper) : ∀ (fuel t : Nat) (listed : Array Bool) (acc : List Nat), Region.linearise.go md ops fuel t listed acc ∈ orders md ops fuel listed acc
  | 0, t, listed, acc => by simp [Region.linearise.go, orders]
  | fuel + 1, t, listed, acc => by
      simp only [Region.linearise.go, orders]
      change (match (Region.ready md ops listed)[t % (Region.ready md ops listed).length]? with
        | some i => Region.linearise.go md ops fuel (t / (Region.ready md ops listed).length) (listed.setIfInBounds i true) (i :: acc)
        | none => acc.reverse) ∈ _
      cases hr : Region.ready md ops listed with
      | nil => simp
      | cons x xs =>
        have hlt : t % (x :: xs).length < (x :: xs).length := Nat.mod_lt _ (by simp)
        rw [List.getElem?_eq_getElem hlt]
        simp only []
        exact List.mem_flatMap.2 ⟨_, List.getElem_mem hlt, orders_go md ops fuel _ _ _⟩
theorem orders_mem (ops : Array Oper) (t : Nat) : Region.schedule true ops t ∈ orders .any ops ops.size (Array.replicate ops.size false) [] := by
  simp only [Region.schedule, Bool.true_or, if_true]
  exact orders_go _ _ _ _ _ _
end Go.Proofs.Ytoipkpndfgcmcaa.Crew

namespace Go.Proofs.Ytoipkpndfgcmcaa.Crew
open Go Go.Conc Go.ConcN Go.RowKit Go.Conc.Lib Go.ConcR.Gen Go.ConcN.Gen Go.Proofs.Ytoipkpndfgcmcaa.Veils
open Go.ConcR (KK wgBlock WgAt stA smA rd wr mk Payload DC0)
set_option linter.unusedVariables false
set_option linter.unusedSectionVars false
set_option linter.unusedSimpArgs false
section
variable {L : Lay} {Low i : Nat} {b : Option Nat} {Rd : Nat → Prop} {w w₁ : World}
/-- A block that stands whatever the others do. -/
structure Sol (L : Lay) (Low : Nat) (Rd : Nat → Prop) (g : Nat) (w : World) : Prop where
  rd : Rd g
  low : g < Low
  lt : g < w.heap.size
  nC : g ≠ L.C
  nW : g ≠ L.Wg
  nH : ¬ Half L w g
theorem Sol.rely {g : Nat} (h : Sol L Low Rd g w) (r : RX L Low b i w w₁) : Sol L Low Rd g w₁ := ⟨h.rd, h.low, Nat.lt_of_lt_of_le h.lt r.size, h.nC, h.nW, r.nohalf h.low h.lt h.nC h.nW h.nH⟩
theorem Sol.cell {g : Nat} (h : Sol L Low Rd g w) (r : RX L Low b i w w₁) (k : Nat) : w₁.cell? ⟨g, k, none⟩ = w.cell? ⟨g, k, none⟩ := cell_of_block (r.block g h.low h.lt h.nC h.nW h.nH) k
theorem Sol.ev {g : Nat} (h : Sol L Low Rd g w) (k : Nat) : EvX L Rd b i w ⟨.cell ⟨g, k, none⟩, false, false⟩ := .inl ⟨_, false, rfl, h.lt, .inl ⟨h.rd, rfl⟩⟩
theorem RX.weak (h : RX L Low b i w w₁) : RX L Low none i w w₁ := ⟨h.size, h.block, h.half, fun r e => (by cases e), h.live, h.pay, h.cell⟩
/-- Its places. -/
structure Pl where
  bG : Nat
  bF : Nat
  bP : Nat
  bS : Nat
  bI : Nat
/-- What it knows of the world until it stores. -/
structure WK (L : Lay) (Low : Nat) (Rd : Nat → Prop) (p : Pl) (j n c : Nat) (A : Option Addr) (bs : List UInt8) (w : World) : Prop where
  sG : Sol L Low Rd p.bG w
  sF : Sol L Low Rd p.bF w
  sP : Sol L Low Rd p.bP w
  sS : Sol L Low Rd p.bS w
  sI : Sol L Low Rd p.bI w
  cG : w.cell? ⟨p.bG, 0, none⟩ = some (.pointer (some ⟨L.Wg, 0, none⟩))
  cF : w.cell? ⟨p.bF, 0, none⟩ = some (.func (.func 54) #[] #[.pointer (some ⟨p.bP, 0, none⟩), .pointer (some ⟨p.bS, 0, none⟩), .pointer (some ⟨p.bI, 0, none⟩)])
  cP : w.cell? ⟨p.bP, 0, none⟩ = some (.slice A n c)
  cS : w.cell? ⟨p.bS, 0, none⟩ = some (.slice (some ⟨L.C, 0, none⟩) L.n L.n)
  cI : w.cell? ⟨p.bI, 0, none⟩ = some (.int .i64 (j : Int))
  bys : Bys L Low Rd A n (bs.map bv) w
  live : WgLive L.ty L.Wg w
  pay : PayAt L.C L.n w
  n0 : L.N0 ≤ w.heap.size
/-- .. and behind it. -/
structure WE (L : Lay) (Low : Nat) (Rd : Nat → Prop) (bG j : Nat) (v : Value) (w : World) : Prop where
  sG : Sol L Low Rd bG w
  cG : w.cell? ⟨bG, 0, none⟩ = some (.pointer (some ⟨L.Wg, 0, none⟩))
  live : WgLive L.ty L.Wg w
  has : Has L.C j v w
variable {p : Pl} {j n c : Nat} {A : Option Addr} {bs : List UInt8}
theorem WK.rely (h : WK L Low Rd p j n c A bs w) (r : RX L Low b i w w₁) : WK L Low Rd p j n c A bs w₁ :=
  ⟨h.sG.rely r, h.sF.rely r, h.sP.rely r, h.sS.rely r, h.sI.rely r, (h.sG.cell r 0).trans h.cG, (h.sF.cell r 0).trans h.cF, (h.sP.cell r 0).trans h.cP, (h.sS.cell r 0).trans h.cS, (h.sI.cell r 0).trans h.cI, h.bys.rely r, r.live h.live, r.pay h.pay, Nat.le_trans h.n0 r.size⟩
theorem WE.rely {bG : Nat} {v : Value} (h : WE L Low Rd bG j v w) (r : RX L Low b j w w₁) : WE L Low Rd bG j v w₁ :=
  ⟨h.sG.rely r, (h.sG.cell r 0).trans h.cG, r.live h.live, (r.cell).trans h.has⟩
theorem WK.cellC (h : WK L Low Rd p j n c A bs w) (hj : j < L.n) : ∃ u, w.cell? ⟨L.C, j, none⟩ = some u ∧ w.frozen? ⟨L.C, j, none⟩ = false := by
  obtain ⟨arr, h1, h2⟩ := h.pay
  exact ⟨arr[j]'(by omega), by simp [World.cell?, h1, h2, hj], by simp [World.frozen?, h1]⟩
theorem asideCell_set (hp : PayAt L.C L.n w) (j : Nat) (v : Value) : AsideCell L.C L.n j w (w.setCell ⟨L.C, j, none⟩ v) := by
  have hA := aside_setCell w ⟨L.C, j, none⟩ v
  obtain ⟨arr, h1, h2⟩ := hp
  have hb : (w.setCell ⟨L.C, j, none⟩ v).heap[L.C]? = some (.cells (arr.setIfInBounds j v) Payload.ety) := by
    rw [setCell_eq_setRow w L.C j arr _ (0, 0) _ h1, setRow_heap w L.C _ _ _ _ h1]
  refine ⟨hA.tape, hA.os, hA.output, hA.size, fun b hb' => hA.block b hb', fun _ => ⟨_, hb, by simpa using h2⟩, fun i' hi' => ?_⟩
  simp [World.cell?, hb, h1, Array.getElem?_setIfInBounds_ne (Ne.symm hi')]
theorem has_set (hp : PayAt L.C L.n w) (hj : j < L.n) (v : Value) : Has L.C j v (w.setCell ⟨L.C, j, none⟩ v) := by
  obtain ⟨arr, h1, h2⟩ := hp
  have hb : (w.setCell ⟨L.C, j, none⟩ v).heap[L.C]? = some (.cells (arr.setIfInBounds j v) Payload.ety) := by
    rw [setCell_eq_setRow w L.C j arr _ (0, 0) _ h1, setRow_heap w L.C _ _ _ _ h1]
  simp [Has, World.cell?, hb, h2, hj]
/-- The store of the sum. -/
theorem WK.store (hL : L.Ok) (h : WK L Low Rd p j n c A bs w) (hj : j < L.n) (v : Value) : WE L Low Rd p.bG j v (w.setCell ⟨L.C, j, none⟩ v) ∧ ∀ b, DX L Rd b j w (w.setCell ⟨L.C, j, none⟩ v) #[⟨.cell ⟨L.C, j, none⟩, true, false⟩] := by
  have hA := asideCell_set h.pay j v
  refine ⟨⟨⟨h.sG.rd, h.sG.low, by rw [hA.size]; exact h.sG.lt, h.sG.nC, h.sG.nW, fun x => h.sG.nH ((half_of_cell hL hA _).1 x)⟩, (cell_of_block (hA.block _ h.sG.nC) 0).trans h.cG, ?_, has_set h.pay hj v⟩, fun b => ⟨hA.tape, hA.os, hA.output, hA.size, fun r hr _ => hA.block r hr, fun r => (half_of_cell hL hA r).2, fun r => (half_of_cell hL hA r).1, hA.pay, hA.cells, fun e he => ?_⟩⟩
  · obtain ⟨st, sm, hl⟩ := h.live
    exact ⟨st, sm, hl.of_block (hA.block L.Wg (Ne.symm hL.hCW))⟩
  · rw [Array.mem_singleton] at he
    subst he
    refine .inl ⟨_, true, rfl, ?_, .inr (.inl rfl)⟩
    rw [hA.size]
    exact Nat.lt_of_lt_of_le hL.hC h.n0
end
section
variable {main : Bool} {b : Frame} {a : Act} {kk : List Item} {cs : List Frame} {w : World} {ops : Array Oper} {i : Nat} {rest : List Nat} {o : Oper}
/-- A plain store of a uint32, as one step. -/
theorem stepG_store40 {x y : Operand} (ho : ops[i]? = some o) (hw : Region.wanted o (yielded ops a.tmps) = true) (hk : b.kind ≠ .early) (hop : o.op = .store 40 x y)
    {ad : Addr} {v : Int} {u : Value} (hx : a.eval x = .pointer (some ad)) (hy : a.eval y = .int .u32 v) (hc : w.cell? ad = some u) (hz : w.frozen? ad = false) (hq : (Try.prog.funcs[b.fn]?).any (·.norace) = false) :
    stepG Try.prog main (G (b.at a (.inRegion ops (i :: rest) :: kk)) cs) w = .go (G (b.at (a.put o.dst undef) (.inRegion ops rest :: kk)) cs) (w.setCell ad (.int .u32 v)) #[⟨.cell ad, true, false⟩] := by
  have hr : (execOp a.eval o).run Try.prog w = .ok .skip (w.setCell ad (.int .u32 v)) := by
    unfold execOp
    simp only [hop, hx, hy]
    simp [go_sem, stored, hc, hz]
  have he : (execOp a.eval o).events Try.prog w #[] = #[⟨.cell ad, true, false⟩] := by
    unfold execOp
    simp only [hop, hx, hy]
    simp [go_sem, storedEv, hc, hz]
  rw [stepG_none ho hw hk hr]
  unfold listed
  rw [he, seen_eq hq (by simp)]
theorem loud54 : (Try.prog.funcs[(base 54).fn]?).any (·.norace) = false := by kernel_rfl
end
/-! the end -/
def botOf (P : Program) : Frame := { (default : Frame) with fn := P.funcs.size, defers := [], mode := .panicking [goexitEntry] }
/-- The literal's own way out: it only leaves. -/
theorem quitsTail (a : Act) (ha : a.defers = []) (todo : List Item) : QuitsD Try.prog 2 0 (G { (baseD 61).at a todo with mode := .returning } [botOf Try.prog]) := by
  refine QuitsD.ctl (g' := G (botOf Try.prog) []) rfl (fun w => ?_) ?_
  · simp [G, stepG, unwind, doReturn, results, Frame.at, ha, baseD, botOf, Try.func61, Try.f61, seen, GStep.after, goexitEntry]
  refine QuitsD.ctl (g' := { G (botOf Try.prog) [] with status := .finished }) rfl (fun w => ?_) ⟨rfl, rfl⟩
  simp [G, stepG, unwind, botOf, goexitEntry, Frame.catches]
  rfl
theorem born_step (caps : Array Value) (hc : caps.size = 2) (w : World) : stepG Try.prog false (born Try.prog (dcallv 61 caps)) w =
    .go (G ((baseD 61).at ⟨caps ++ Array.replicate 3 undef, []⟩ [.code (bodyOf Try.f61)]) [botOf Try.prog]) w #[] := by
  simp [born, dcallv, stepG, unwind, callDeferred, invoke, callFunc, Try.func61, Try.f61, seen, GStep.after, G, Frame.enter, Frame.at, baseD, botOf, bodyOf, hc]
set_option maxRecDepth 100000 in
/-- Done, called by its name. -/
theorem doneQ {P : Program} {lk : WgLink} (H : WgLib P lk) {Own Rd : Nat → Loc → Prop} {Wg C n Low k : Nat} {val : Value} {b₀ : Frame} {a₀ : Act} {ops₀ : Array Oper} {i₀ : Nat} {rest₀ : List Nat} {k₀ : List Item} {cs : List Frame} {qt : Nat}
    (hT : QuitsD P qt 0 (G (b₀.at (a₀.put ((ops₀[i₀]?).bind (·.dst)) (.tuple #[])) (.inRegion ops₀ rest₀ :: k₀)) cs)) (w : World) (hK : WgLive lk.tWg Wg w ∧ Has C (k - 1) val w) :
    Goes P false (RW lk.tWg Wg C n Low (k - 1)) (DWs Wg Own Rd C n k) (AtR0 P lk.tWg Wg C n Low k val) 23 (G ((base lk.done).at ⟨#[.pointer (some ⟨Wg, 0, none⟩), undef, undef, undef], []⟩ [.code (body_done lk)]) (b₀.at a₀ (.inRegion ops₀ (i₀ :: rest₀) :: k₀) :: cs)) w := by
  lib_facts
  have hA := @addNegN _ lk P H Own Rd Wg C n Low k val
  simp only [body_done, body_add, doneFn, addFn, Option.getD_some] at hA ⊢
  u_reg kn_rely hK
  u_op kn_rely hK
  u_in kn_rely hK
  refine goes_call rfl rfl (by k_ne) rfl H.f_add (nm_add lk) rfl ⟨by u_nil, ?_⟩
  walk_nrmf addFn
  refine hA (qt := qt + 3) ?_ _ hK
  q_c stepG_region_end
  q_c stepG_end
  exact QuitsD.leave0 rfl rfl H.f_done rfl hT
section
variable {L : Lay} {Low j K : Nat} {b : Option Nat} {Rd : Nat → Prop} {w : World} {bG : Nat} {v : Value}
set_option maxRecDepth 100000 in
/-- From behind the store. -/
theorem tailQ (hL : L.Ok) (hty : L.ty = 96) (hK : 24 ≤ K) {T T1 : Array Value} {ops ops1 : Array Oper} (hF : WE L Low Rd bG j v w) :
    Goes Try.prog false (RX L Low b j) (DX L Rd b j) (AtEnd1 Try.prog L K j v) 25
      (G ((base 54).at ⟨T, []⟩ [.inRegion ops []]) [(baseD 61).at ⟨T1, [dcallv 62 #[.pointer (some ⟨bG, 0, none⟩)]]⟩ [.inRegion ops1 [1]], botOf Try.prog]) w := by
  refine Goes.step rfl (fun _ h₁ => ?_)
  replace hF := WE.rely hF h₁
  clear h₁
  rw [stepG_region_end]
  simp only [goes_go]
  refine ⟨by refine dx_none ?_; intro e he; simp at he, ?_⟩
  refine Goes.step rfl (fun _ h₁ => ?_)
  replace hF := WE.rely hF h₁
  clear h₁
  rw [stepG_end]
  simp only [goes_go]
  refine ⟨by refine dx_none ?_; intro e he; simp at he, ?_⟩
  refine Goes.step rfl (fun _ h₁ => ?_)
  replace hF := WE.rely hF h₁
  clear h₁
  refine goes_leave0 rfl rfl Try.func54 rfl ⟨by refine dx_none ?_; intro e he; simp at he, ?_⟩
  walk_nrm
  refine Goes.step rfl (fun _ h₁ => ?_)
  replace hF := WE.rely hF h₁
  clear h₁
  rw [stepG_region_end]
  simp only [goes_go]
  refine ⟨by refine dx_none ?_; intro e he; simp at he, ?_⟩
  refine Goes.step rfl (fun _ h₁ => ?_)
  replace hF := WE.rely hF h₁
  clear h₁
  rw [stepG_end]
  simp only [goes_go]
  refine ⟨by refine dx_none ?_; intro e he; simp at he, ?_⟩
  refine Goes.step rfl (fun _ h₁ => ?_)
  replace hF := WE.rely hF h₁
  clear h₁
  rw [stepG_unwind_enterv (f := 62) (caps := #[.pointer (some ⟨bG, 0, none⟩)]) (ds := []) (by split <;> rfl) Try.func62 (by rfl) rfl]
  simp only [goes_go]
  refine ⟨by refine dx_none ?_; intro e he; simp at he, ?_⟩
  walk_nrmf Try.f62
  refine Goes.step rfl (fun _ h₁ => ?_)
  replace hF := WE.rely hF h₁
  clear h₁
  rw [stepG_seq]
  simp only [goes_go]
  refine ⟨by refine dx_none ?_; intro e he; simp at he, ?_⟩
  refine Goes.step rfl (fun _ h₁ => ?_)
  replace hF := WE.rely hF h₁
  clear h₁
  rw [stepG_seq]
  simp only [goes_go]
  refine ⟨by refine dx_none ?_; intro e he; simp at he, ?_⟩
  refine Goes.step rfl (fun _ h₁ => ?_)
  replace hF := WE.rely hF h₁
  clear h₁
  rw [stepG_region]
  simp only [goes_go, List.size_toArray, List.length_cons, List.length_nil, Nat.reduceAdd, Nat.zero_add, List.range, List.range.loop]
  refine ⟨by refine dx_none ?_; intro e he; simp at he, ?_⟩
  refine Goes.step rfl (fun _ h₁ => ?_)
  replace hF := WE.rely hF h₁
  clear h₁
  rw [stepG_recover0 rfl rfl rfl rfl]
  simp only [goes_go]
  refine ⟨by refine dx_none ?_; intro e he; simp at he, ?_⟩
  walk_nrm
  refine Goes.step rfl (fun _ h₁ => ?_)
  replace hF := WE.rely hF h₁
  clear h₁
  refine goes_oper_k rfl rfl (by k_ne) (fun K hK => ?_)
  go_simp
  refine hK _ _ ⟨?_, ?_⟩
  · refine dx_none ?_; intro e he; have hm := mem_listed he; simp [go_sem, *] at hm
  clear hK K
  try w_num
  refine Goes.step rfl (fun _ h₁ => ?_)
  replace hF := WE.rely hF h₁
  clear h₁
  rw [stepG_region_end]
  simp only [goes_go]
  refine ⟨by refine dx_none ?_; intro e he; simp at he, ?_⟩
  refine Goes.step rfl (fun _ h₁ => ?_)
  replace hF := WE.rely hF h₁
  clear h₁
  rw [stepG_seq]
  simp only [goes_go]
  refine ⟨by refine dx_none ?_; intro e he; simp at he, ?_⟩
  refine Goes.step rfl (fun _ h₁ => ?_)
  replace hF := WE.rely hF h₁
  clear h₁
  rw [stepG_region]
  simp only [goes_go, List.size_toArray, List.length_cons, List.length_nil, Nat.reduceAdd, Nat.zero_add, List.range, List.range.loop]
  refine ⟨by refine dx_none ?_; intro e he; simp at he, ?_⟩
  refine Goes.step rfl (fun _ h₁ => ?_)
  replace hF := WE.rely hF h₁
  clear h₁
  refine goes_oper_k rfl rfl (by k_ne) (fun K hK => ?_)
  go_simp
  refine hK _ _ ⟨?_, ?_⟩
  · refine dx_none ?_; intro e he; have hm := mem_listed he; simp [go_sem, *] at hm
  clear hK K
  try w_num
  have hnz : ∀ (w : World) (es : Array Event), Sem.events Try.prog (binOp BinOp.neq 20 Value.nilIface Value.nilIface) w es = es := fun w es => by kernel_rfl
  refine Goes.step rfl (fun _ h₁ => ?_)
  replace hF := WE.rely hF h₁
  clear h₁
  refine goes_oper_k rfl rfl (by k_ne) (fun K hK => ?_)
  go_simp
  refine hK _ _ ⟨?_, ?_⟩
  · refine dx_none ?_; intro e he; have hm := mem_listed he; simp [go_sem, *] at hm
  clear hK K
  try w_num
  clear hnz
  refine Goes.step rfl (fun _ h₁ => ?_)
  replace hF := WE.rely hF h₁
  clear h₁
  rw [stepG_region_end]
  simp only [goes_go]
  refine ⟨by refine dx_none ?_; intro e he; simp at he, ?_⟩
  refine Goes.step rfl (fun _ h₁ => ?_)
  replace hF := WE.rely hF h₁
  clear h₁
  rw [stepG_cond (t := false) (by first | rfl | (simp [Act.eval]; omega))]
  simp only [goes_go, if_true, if_false, Bool.false_eq_true, ↓reduceIte]
  refine ⟨by refine dx_none ?_; intro e he; simp at he, ?_⟩
  refine Goes.step rfl (fun _ h₁ => ?_)
  replace hF := WE.rely hF h₁
  clear h₁
  rw [stepG_skip]
  simp only [goes_go]
  refine ⟨by refine dx_none ?_; intro e he; simp at he, ?_⟩
  refine Goes.step rfl (fun _ h₁ => ?_)
  replace hF := WE.rely hF h₁
  clear h₁
  rw [stepG_region]
  simp only [goes_go, List.size_toArray, List.length_cons, List.length_nil, Nat.reduceAdd, Nat.zero_add, List.range, List.range.loop]
  refine ⟨by refine dx_none ?_; intro e he; simp at he, ?_⟩
  refine Goes.step rfl (fun _ h₁ => ?_)
  replace hF := WE.rely hF h₁
  clear h₁
  refine goes_oper_k rfl rfl (by k_ne) (fun Kx hKx => ?_)
  have hc := hF.cG
  go_simp
  refine hKx _ _ ⟨?_, ?_⟩
  · refine dx_read ?_; intro e he; have hm := mem_listed he; simp [go_sem, *] at hm
    all_goals (subst hm; exact hF.sG.ev _)
  clear hKx Kx hc
  refine Goes.stop (fun w₁ h₁ => ?_)
  replace hF := hF.rely h₁
  clear h₁
  have hK' : WgLive link.tWg L.Wg w₁ ∧ Has L.C (j + 1 - 1) v w₁ := ⟨by have := hF.live; rw [hty] at this; exact this, hF.has⟩
  unfold AtEnd1
  rw [hty]
  refine Goes.mono (n := 24) ?_ hK
  refine Goes.step rfl (fun w₂ h₂ => ?_)
  replace hK' := kn_rely hK' h₂
  clear h₂
  refine goes_call rfl rfl (by k_ne) rfl wgLib.f_done (nm_done link) rfl ⟨by u_nil, ?_⟩
  have hA := @doneQ Try.prog link wgLib no2 no2 L.Wg L.C L.n L.N0 (j + 1) v
  simp only [body_done, doneFn, Option.getD_some] at hA
  walk_nrmf doneFn
  refine hA (qt := 2 + 3) ?_ _ hK'
  q_c stepG_region_end
  q_c stepG_end
  exact QuitsD.leaveD rfl rfl Try.func62 rfl rfl (quitsTail _ rfl _)
end
end Go.Proofs.Ytoipkpndfgcmcaa.Crew
