/-
  (*WaitGroup).Wait, as the starter calls it beside its workers and older ones. The conditions stand in each theorem.
-/
import Derived.Test.YtoipkpndfgcmcaaCvAdd
namespace Go.Proofs.Ytoipkpndfgcmcaa.Crew
open Go Go.Conc Go.ConcN Go.RowKit Go.Conc.Lib Go.ConcR.Gen Go.ConcN.Gen Go.Proofs.Ytoipkpndfgcmcaa.Veils
open Go.ConcR (KK wgBlock WgAt stA smA rd wr mk Payload DC0)
set_option linter.unusedVariables false
set_option linter.unusedSectionVars false
set_option linter.unusedSimpArgs false
/-- A walk in which the others only draw. -/
theorem runs_of_goes {P : Program} {D : World → World → Array Event → Prop} {Stop : Goroutine → World → Prop} : ∀ (n : Nat) {g : Goroutine} {w : World}, Goes P true AtRel D Stop n g w → Runs P D Stop g w
  | 0, g, w, h => .stop fun d => h _ ⟨d, rfl⟩
  | n + 1, g, w, h => by
      rcases h with hs | ⟨hr, hst⟩
      · exact .stop fun d => hs _ ⟨d, rfl⟩
      · exact Runs.of_step hr fun d => let ⟨g', w', es, e1, e2, e3⟩ := goes_elim (hst _ ⟨d, rfl⟩); ⟨g', w', es, e1, e2, runs_of_goes n e3⟩
section
variable {X : Nat → Prop}
theorem df_none {w : World} {es : Array Event} (h : ∀ e ∈ es, False) : DF X w w es := ⟨Nat.le_refl _, fun e he => (h e he).elim⟩
end
section
variable {L : Lay} {X : Nat → Prop} {lk : WgLink} {Lw : Nat} {vals : List Value} {F : World → Prop}
  {b₀ : Frame} {a₀ : Act} {ops₀ : Array Oper} {i₀ : Nat} {rest₀ : List Nat} {k₀ : List Item} {cs : List Frame} {mT : Nat}
/-- At the head of Wait's loop. -/
def AnchQ (lk : WgLink) (F : World → Prop) (L : Lay) (c : Frame) (cs : List Frame) (g : Goroutine) (w : World) : Prop :=
  ∃ T : Array Value, g = G ((base lk.wait).at ⟨T, []⟩ [.code (L7 lk), .inLoop (L7 lk), .inBlock 0]) (c :: cs) ∧ T.size = 84 ∧ T[0]? = some (.pointer (some ⟨L.Wg, 0, none⟩)) ∧ F w ∧ WgLive L.ty L.Wg w
/-- Behind the join, on the way back to the caller, alone but for those that only leave. -/
def BackQ (P : Program) (X : Nat → Prop) (L : Lay) (vals : List Value) (F : World → Prop) (g' : Goroutine) (g : Goroutine) (w : World) : Prop :=
  ∃ n, Goes P true AtRel (DF X) (fun g w => g = g' ∧ F w ∧ Full L.C vals w) n g w
theorem fat_rely (hF2 : ∀ w w', RQ L w w' → F w → F w') {w w₁ : World} (h : F w ∧ Full L.C vals w) (r : AtRel w w₁) : F w₁ ∧ Full L.C vals w₁ := by
  obtain ⟨d, rfl⟩ := r
  exact ⟨hF2 _ _ (RQ.at w d) h.1, h.2⟩
set_option maxRecDepth 100000 in
/-- From Wait's entry to the loop's head. -/
theorem waitInQ {P : Program} (H : WgLib P lk) (hL : L.Ok) (hF2 : ∀ w w', RQ L w w' → F w → F w') (w : World) (hF : F w ∧ WgLive L.ty L.Wg w) :
    GQ P L X Lw (AtIn P L X (AnchQ lk F L (b₀.at a₀ (.inRegion ops₀ (i₀ :: rest₀) :: k₀)) cs) Lw) 3
      (G ((base lk.wait).at ⟨#[.pointer (some ⟨L.Wg, 0, none⟩), undef, undef, undef, undef, undef, undef, undef, undef, undef, undef, undef, undef, undef, undef, undef, undef, undef, undef, undef, undef, undef, undef, undef, undef, undef, undef, undef, undef, undef, undef, undef, undef, undef, undef, undef, undef, undef, undef, undef, undef, undef, undef, undef, undef, undef, undef, undef, undef, undef, undef, undef, undef, undef, undef, undef, undef, undef, undef, undef, undef, undef, undef, undef, undef, undef, undef, undef, undef, undef, undef, undef, undef, undef, undef, undef, undef, undef, undef, undef, undef, undef, undef, undef], []⟩ [.code (body_wait lk)]) (b₀.at a₀ (.inRegion ops₀ (i₀ :: rest₀) :: k₀) :: cs)) w := by
  lib_facts
  simp only [GQ, body_wait, waitFn, Option.getD_some]
  refine Goes.step rfl (fun _ h₁ => ?_)
  replace hF := (fq_rely hF2) hF h₁
  clear h₁
  rw [stepG_seq]
  simp only [goes_go]
  refine ⟨by refine dq_none ?_; intro e he; simp at he, ?_⟩
  refine Goes.step rfl (fun _ h₁ => ?_)
  replace hF := (fq_rely hF2) hF h₁
  clear h₁
  rw [stepG_cond (t := true) (by first | rfl | (simp [Act.eval]; omega))]
  simp only [goes_go, if_true, if_false, Bool.false_eq_true, ↓reduceIte]
  refine ⟨by refine dq_none ?_; intro e he; simp at he, ?_⟩
  refine Goes.step rfl (fun _ h₁ => ?_)
  replace hF := (fq_rely hF2) hF h₁
  clear h₁
  rw [stepG_region]
  simp only [goes_go, List.size_toArray, List.length_cons, List.length_nil, Nat.reduceAdd, Nat.zero_add, List.range, List.range.loop]
  refine ⟨by refine dq_none ?_; intro e he; simp at he, ?_⟩
  refine Goes.stop (fun w₁ h₁ => ?_)
  replace hF := fq_rely hF2 hF h₁
  clear h₁
  refine ⟨rfl, _, stepG_mark0 .disable (by simp) rfl rfl (by k_ne) rfl H.f_disable (x_disable_n lk) (x_disable_b lk) (x_disable_x lk) (x_disable_f lk), 3, ?_⟩
  simp only [GQ]
  walk_nrm
  refine Goes.step rfl (fun _ h₁ => ?_)
  replace hF := (fq_rely hF2) hF h₁
  clear h₁
  rw [stepG_region_end]
  simp only [goes_go]
  refine ⟨by refine dq_none ?_; intro e he; simp at he, ?_⟩
  refine Goes.step rfl (fun _ h₁ => ?_)
  replace hF := (fq_rely hF2) hF h₁
  clear h₁
  rw [stepG_block]
  simp only [goes_go]
  refine ⟨by refine dq_none ?_; intro e he; simp at he, ?_⟩
  refine Goes.step rfl (fun _ h₁ => ?_)
  replace hF := (fq_rely hF2) hF h₁
  clear h₁
  rw [stepG_loop]
  simp only [goes_go]
  refine ⟨by refine dq_none ?_; intro e he; simp at he, ?_⟩
  exact Goes.stop (fun w₂ h₂ => ⟨_, rfl, by simp, by simp, fq_rely hF2 hF h₂⟩)
set_option maxRecDepth 100000 in
set_option maxHeartbeats 8000000 in
/-- From the loop's head. -/
theorem waitRoundQ {P : Program} (H : WgLib P lk) (hL : L.Ok) (hF2 : ∀ w w', RQ L w w' → F w → F w')
    (g : Goroutine) (w : World) (h : AnchQ lk F L (b₀.at a₀ (.inRegion ops₀ (i₀ :: rest₀) :: k₀)) cs g w) :
    ∃ m, GQ P L X Lw (AtLook P L X vals (BackQ P X L vals F (G (b₀.at (a₀.put ((ops₀[i₀]?).bind (·.dst)) (.tuple #[])) (.inRegion ops₀ rest₀ :: k₀)) cs)) (AnchQ lk F L (b₀.at a₀ (.inRegion ops₀ (i₀ :: rest₀) :: k₀)) cs) Lw) m g w := by
  lib_facts
  obtain ⟨T, rfl, hT84, t0, hF⟩ := h
  obtain ⟨v0, v1, v2, v3, v4, v5, v6, v7, v8, v9, v10, v11, v12, v13, v14, v15, v16, v17, v18, v19, v20, v21, v22, v23, v24, v25, v26, v27, v28, v29, v30, v31, v32, v33, v34, v35, v36, v37, v38, v39, v40, v41, v42, v43, v44, v45, v46, v47, v48, v49, v50, v51, v52, v53, v54, v55, v56, v57, v58, v59, v60, v61, v62, v63, v64, v65, v66, v67, v68, v69, v70, v71, v72, v73, v74, v75, v76, v77, v78, v79, v80, v81, v82, v83, rfl⟩ := array84 T hT84
  simp only [List.getElem?_toArray, List.getElem?_cons_zero, Option.some.injEq] at t0
  subst t0
  refine ⟨30, ?_⟩
  simp only [GQ, L7, body_wait, waitFn, Option.getD_some]
  repeat (first
    | (refine Goes.step rfl (fun _ h₁ => ?_)
       replace hF := (fq_rely hF2) hF h₁
       clear h₁
       rw [stepG_seq]
       simp only [goes_go]
       refine ⟨by refine dq_none ?_; intro e he; simp at he, ?_⟩)
    | (refine Goes.step rfl (fun _ h₁ => ?_)
       replace hF := (fq_rely hF2) hF h₁
       clear h₁
       rw [stepG_region_end]
       simp only [goes_go]
       refine ⟨by refine dq_none ?_; intro e he; simp at he, ?_⟩)
    | (refine Goes.step rfl (fun _ h₁ => ?_)
       replace hF := (fq_rely hF2) hF h₁
       clear h₁
       rw [stepG_skip]
       simp only [goes_go]
       refine ⟨by refine dq_none ?_; intro e he; simp at he, ?_⟩)
    | (refine Goes.step rfl (fun _ h₁ => ?_)
       replace hF := (fq_rely hF2) hF h₁
       clear h₁
       rw [stepG_block]
       simp only [goes_go]
       refine ⟨by refine dq_none ?_; intro e he; simp at he, ?_⟩)
    | (refine Goes.step rfl (fun _ h₁ => ?_)
       replace hF := (fq_rely hF2) hF h₁
       clear h₁
       rw [stepG_loop]
       simp only [goes_go]
       refine ⟨by refine dq_none ?_; intro e he; simp at he, ?_⟩)
    | (refine Goes.step rfl (fun _ h₁ => ?_)
       replace hF := (fq_rely hF2) hF h₁
       clear h₁
       rw [stepG_inLoop]
       simp only [goes_go]
       refine ⟨by refine dq_none ?_; intro e he; simp at he, ?_⟩)
    | (refine Goes.step rfl (fun _ h₁ => ?_)
       replace hF := (fq_rely hF2) hF h₁
       clear h₁
       rw [stepG_inBlock]
       simp only [goes_go]
       refine ⟨by refine dq_none ?_; intro e he; simp at he, ?_⟩)
    | (refine Goes.step rfl (fun _ h₁ => ?_)
       replace hF := (fq_rely hF2) hF h₁
       clear h₁
       rw [stepG_label]
       simp only [goes_go]
       refine ⟨by refine dq_none ?_; intro e he; simp at he, ?_⟩)
    | (refine Goes.step rfl (fun _ h₁ => ?_)
       replace hF := (fq_rely hF2) hF h₁
       clear h₁
       rw [stepG_region]
       simp only [goes_go, List.size_toArray, List.length_cons, List.length_nil, Nat.reduceAdd, Nat.zero_add, List.range, List.range.loop]
       refine ⟨by refine dq_none ?_; intro e he; simp at he, ?_⟩)
    | (refine Goes.step rfl (fun _ h₁ => ?_)
       replace hF := (fq_rely hF2) hF h₁
       clear h₁
       rw [stepG_unwanted rfl rfl]
       simp only [goes_go]
       refine ⟨by refine dq_none ?_; intro e he; simp at he, ?_⟩
       walk_nrm)
    | (refine Goes.step rfl (fun _ h₁ => ?_)
       replace hF := (fq_rely hF2) hF h₁
       clear h₁
       rw [stepG_cond (t := true) rfl]
       simp only [goes_go, if_true, if_false, Bool.false_eq_true, ↓reduceIte]
       refine ⟨by refine dq_none ?_; intro e he; simp at he, ?_⟩)
    | (refine Goes.step rfl (fun _ h₁ => ?_)
       replace hF := (fq_rely hF2) hF h₁
       clear h₁
       rw [stepG_cond (t := false) rfl]
       simp only [goes_go, if_true, if_false, Bool.false_eq_true, ↓reduceIte]
       refine ⟨by refine dq_none ?_; intro e he; simp at he, ?_⟩)
    | (refine Goes.step rfl (fun _ h₁ => ?_)
       replace hF := (fq_rely hF2) hF h₁
       clear h₁
       fail_if_success (rw [stepG_ret'])
       fail_if_success (rw [stepG_end])
       refine goes_oper_k rfl rfl (by k_ne) (fun K hK => ?_)
       go_simp
       refine hK _ _ ⟨?_, ?_⟩
       · refine dq_none ?_; intro e he; have hm := mem_listed he; simp [go_sem, *] at hm
       clear hK K
       try w_num)
    )
  refine Goes.step rfl (fun _ h₁ => ?_)
  replace hF := (fq_rely hF2) hF h₁
  clear h₁
  refine goes_call rfl rfl (by k_ne) rfl H.f_uLoad (nm_uLoad lk) rfl ⟨by refine dq_none ?_; intro e he; simp at he, ?_⟩
  walk_nrmf uLoadFn
  repeat (first
    | (refine Goes.step rfl (fun _ h₁ => ?_)
       replace hF := (fq_rely hF2) hF h₁
       clear h₁
       rw [stepG_seq]
       simp only [goes_go]
       refine ⟨by refine dq_none ?_; intro e he; simp at he, ?_⟩)
    | (refine Goes.step rfl (fun _ h₁ => ?_)
       replace hF := (fq_rely hF2) hF h₁
       clear h₁
       rw [stepG_region_end]
       simp only [goes_go]
       refine ⟨by refine dq_none ?_; intro e he; simp at he, ?_⟩)
    | (refine Goes.step rfl (fun _ h₁ => ?_)
       replace hF := (fq_rely hF2) hF h₁
       clear h₁
       rw [stepG_skip]
       simp only [goes_go]
       refine ⟨by refine dq_none ?_; intro e he; simp at he, ?_⟩)
    | (refine Goes.step rfl (fun _ h₁ => ?_)
       replace hF := (fq_rely hF2) hF h₁
       clear h₁
       rw [stepG_block]
       simp only [goes_go]
       refine ⟨by refine dq_none ?_; intro e he; simp at he, ?_⟩)
    | (refine Goes.step rfl (fun _ h₁ => ?_)
       replace hF := (fq_rely hF2) hF h₁
       clear h₁
       rw [stepG_loop]
       simp only [goes_go]
       refine ⟨by refine dq_none ?_; intro e he; simp at he, ?_⟩)
    | (refine Goes.step rfl (fun _ h₁ => ?_)
       replace hF := (fq_rely hF2) hF h₁
       clear h₁
       rw [stepG_inLoop]
       simp only [goes_go]
       refine ⟨by refine dq_none ?_; intro e he; simp at he, ?_⟩)
    | (refine Goes.step rfl (fun _ h₁ => ?_)
       replace hF := (fq_rely hF2) hF h₁
       clear h₁
       rw [stepG_inBlock]
       simp only [goes_go]
       refine ⟨by refine dq_none ?_; intro e he; simp at he, ?_⟩)
    | (refine Goes.step rfl (fun _ h₁ => ?_)
       replace hF := (fq_rely hF2) hF h₁
       clear h₁
       rw [stepG_label]
       simp only [goes_go]
       refine ⟨by refine dq_none ?_; intro e he; simp at he, ?_⟩)
    | (refine Goes.step rfl (fun _ h₁ => ?_)
       replace hF := (fq_rely hF2) hF h₁
       clear h₁
       rw [stepG_region]
       simp only [goes_go, List.size_toArray, List.length_cons, List.length_nil, Nat.reduceAdd, Nat.zero_add, List.range, List.range.loop]
       refine ⟨by refine dq_none ?_; intro e he; simp at he, ?_⟩)
    | (refine Goes.step rfl (fun _ h₁ => ?_)
       replace hF := (fq_rely hF2) hF h₁
       clear h₁
       rw [stepG_unwanted rfl rfl]
       simp only [goes_go]
       refine ⟨by refine dq_none ?_; intro e he; simp at he, ?_⟩
       walk_nrm)
    | (refine Goes.step rfl (fun _ h₁ => ?_)
       replace hF := (fq_rely hF2) hF h₁
       clear h₁
       rw [stepG_cond (t := true) rfl]
       simp only [goes_go, if_true, if_false, Bool.false_eq_true, ↓reduceIte]
       refine ⟨by refine dq_none ?_; intro e he; simp at he, ?_⟩)
    | (refine Goes.step rfl (fun _ h₁ => ?_)
       replace hF := (fq_rely hF2) hF h₁
       clear h₁
       rw [stepG_cond (t := false) rfl]
       simp only [goes_go, if_true, if_false, Bool.false_eq_true, ↓reduceIte]
       refine ⟨by refine dq_none ?_; intro e he; simp at he, ?_⟩)
    | (refine Goes.step rfl (fun _ h₁ => ?_)
       replace hF := (fq_rely hF2) hF h₁
       clear h₁
       fail_if_success (rw [stepG_ret'])
       fail_if_success (rw [stepG_end])
       refine goes_oper_k rfl rfl (by k_ne) (fun K hK => ?_)
       go_simp
       refine hK _ _ ⟨?_, ?_⟩
       · refine dq_none ?_; intro e he; have hm := mem_listed he; simp [go_sem, *] at hm
       clear hK K
       try w_num)
    )
  refine Goes.stop (fun w₁ h₁ => ?_)
  replace hF := fq_rely hF2 hF h₁
  clear h₁
  refine ⟨rfl, fun v hv hw => ?_⟩
  rcases Nat.eq_zero_or_pos v with rfl | hvp
  · -- the load reads 0
    replace hw : WgAt L.ty L.Wg w₁ 0 0 := by simpa using hw
    refine ⟨_, stepG_load_atomic (v := 0) rfl rfl (by k_ne) rfl H.f_loadU64 (x_loadU64_n lk) (x_loadU64_b lk) (x_loadU64_x lk) .u64 (x_loadU64_f lk) rfl hw.cellSt, fun _ => ⟨50, ?_⟩, fun h => absurd rfl h⟩
    clear hw
    simp only [GQ]
    walk_nrm
    repeat (first
      | (refine Goes.step rfl (fun _ h₁ => ?_)
         replace hF := (fq_rely hF2) hF h₁
         clear h₁
         rw [stepG_seq]
         simp only [goes_go]
         refine ⟨by refine dq_none ?_; intro e he; simp at he, ?_⟩)
      | (refine Goes.step rfl (fun _ h₁ => ?_)
         replace hF := (fq_rely hF2) hF h₁
         clear h₁
         rw [stepG_region_end]
         simp only [goes_go]
         refine ⟨by refine dq_none ?_; intro e he; simp at he, ?_⟩)
      | (refine Goes.step rfl (fun _ h₁ => ?_)
         replace hF := (fq_rely hF2) hF h₁
         clear h₁
         rw [stepG_skip]
         simp only [goes_go]
         refine ⟨by refine dq_none ?_; intro e he; simp at he, ?_⟩)
      | (refine Goes.step rfl (fun _ h₁ => ?_)
         replace hF := (fq_rely hF2) hF h₁
         clear h₁
         rw [stepG_block]
         simp only [goes_go]
         refine ⟨by refine dq_none ?_; intro e he; simp at he, ?_⟩)
      | (refine Goes.step rfl (fun _ h₁ => ?_)
         replace hF := (fq_rely hF2) hF h₁
         clear h₁
         rw [stepG_loop]
         simp only [goes_go]
         refine ⟨by refine dq_none ?_; intro e he; simp at he, ?_⟩)
      | (refine Goes.step rfl (fun _ h₁ => ?_)
         replace hF := (fq_rely hF2) hF h₁
         clear h₁
         rw [stepG_inLoop]
         simp only [goes_go]
         refine ⟨by refine dq_none ?_; intro e he; simp at he, ?_⟩)
      | (refine Goes.step rfl (fun _ h₁ => ?_)
         replace hF := (fq_rely hF2) hF h₁
         clear h₁
         rw [stepG_inBlock]
         simp only [goes_go]
         refine ⟨by refine dq_none ?_; intro e he; simp at he, ?_⟩)
      | (refine Goes.step rfl (fun _ h₁ => ?_)
         replace hF := (fq_rely hF2) hF h₁
         clear h₁
         rw [stepG_label]
         simp only [goes_go]
         refine ⟨by refine dq_none ?_; intro e he; simp at he, ?_⟩)
      | (refine Goes.step rfl (fun _ h₁ => ?_)
         replace hF := (fq_rely hF2) hF h₁
         clear h₁
         rw [stepG_region]
         simp only [goes_go, List.size_toArray, List.length_cons, List.length_nil, Nat.reduceAdd, Nat.zero_add, List.range, List.range.loop]
         refine ⟨by refine dq_none ?_; intro e he; simp at he, ?_⟩)
      | (refine Goes.step rfl (fun _ h₁ => ?_)
         replace hF := (fq_rely hF2) hF h₁
         clear h₁
         rw [stepG_unwanted rfl rfl]
         simp only [goes_go]
         refine ⟨by refine dq_none ?_; intro e he; simp at he, ?_⟩
         walk_nrm)
      | (refine Goes.step rfl (fun _ h₁ => ?_)
         replace hF := (fq_rely hF2) hF h₁
         clear h₁
         rw [stepG_cond (t := true) rfl]
         simp only [goes_go, if_true, if_false, Bool.false_eq_true, ↓reduceIte]
         refine ⟨by refine dq_none ?_; intro e he; simp at he, ?_⟩)
      | (refine Goes.step rfl (fun _ h₁ => ?_)
         replace hF := (fq_rely hF2) hF h₁
         clear h₁
         rw [stepG_cond (t := false) rfl]
         simp only [goes_go, if_true, if_false, Bool.false_eq_true, ↓reduceIte]
         refine ⟨by refine dq_none ?_; intro e he; simp at he, ?_⟩)
      | (refine Goes.step rfl (fun _ h₁ => ?_)
         replace hF := (fq_rely hF2) hF h₁
         clear h₁
         fail_if_success (rw [stepG_ret'])
         fail_if_success (rw [stepG_end])
         refine goes_oper_k rfl rfl (by k_ne) (fun K hK => ?_)
         go_simp
         refine hK _ _ ⟨?_, ?_⟩
         · refine dq_none ?_; intro e he; have hm := mem_listed he; simp [go_sem, *] at hm
         clear hK K
         try w_num)
      )
    refine Goes.step rfl (fun _ h₁ => ?_)
    replace hF := (fq_rely hF2) hF h₁
    clear h₁
    rw [stepG_ret']
    simp only [goes_go]
    refine ⟨by refine dq_none ?_; intro e he; simp at he, ?_⟩
    refine Goes.step rfl (fun _ h₁ => ?_)
    replace hF := (fq_rely hF2) hF h₁
    clear h₁
    refine goes_leave1 rfl rfl H.f_uLoad rfl ⟨by refine dq_none ?_; intro e he; simp at he, ?_⟩
    walk_nrm
    repeat (first
      | (refine Goes.step rfl (fun _ h₁ => ?_)
         replace hF := (fq_rely hF2) hF h₁
         clear h₁
         rw [stepG_seq]
         simp only [goes_go]
         refine ⟨by refine dq_none ?_; intro e he; simp at he, ?_⟩)
      | (refine Goes.step rfl (fun _ h₁ => ?_)
         replace hF := (fq_rely hF2) hF h₁
         clear h₁
         rw [stepG_region_end]
         simp only [goes_go]
         refine ⟨by refine dq_none ?_; intro e he; simp at he, ?_⟩)
      | (refine Goes.step rfl (fun _ h₁ => ?_)
         replace hF := (fq_rely hF2) hF h₁
         clear h₁
         rw [stepG_skip]
         simp only [goes_go]
         refine ⟨by refine dq_none ?_; intro e he; simp at he, ?_⟩)
      | (refine Goes.step rfl (fun _ h₁ => ?_)
         replace hF := (fq_rely hF2) hF h₁
         clear h₁
         rw [stepG_block]
         simp only [goes_go]
         refine ⟨by refine dq_none ?_; intro e he; simp at he, ?_⟩)
      | (refine Goes.step rfl (fun _ h₁ => ?_)
         replace hF := (fq_rely hF2) hF h₁
         clear h₁
         rw [stepG_loop]
         simp only [goes_go]
         refine ⟨by refine dq_none ?_; intro e he; simp at he, ?_⟩)
      | (refine Goes.step rfl (fun _ h₁ => ?_)
         replace hF := (fq_rely hF2) hF h₁
         clear h₁
         rw [stepG_inLoop]
         simp only [goes_go]
         refine ⟨by refine dq_none ?_; intro e he; simp at he, ?_⟩)
      | (refine Goes.step rfl (fun _ h₁ => ?_)
         replace hF := (fq_rely hF2) hF h₁
         clear h₁
         rw [stepG_inBlock]
         simp only [goes_go]
         refine ⟨by refine dq_none ?_; intro e he; simp at he, ?_⟩)
      | (refine Goes.step rfl (fun _ h₁ => ?_)
         replace hF := (fq_rely hF2) hF h₁
         clear h₁
         rw [stepG_label]
         simp only [goes_go]
         refine ⟨by refine dq_none ?_; intro e he; simp at he, ?_⟩)
      | (refine Goes.step rfl (fun _ h₁ => ?_)
         replace hF := (fq_rely hF2) hF h₁
         clear h₁
         rw [stepG_region]
         simp only [goes_go, List.size_toArray, List.length_cons, List.length_nil, Nat.reduceAdd, Nat.zero_add, List.range, List.range.loop]
         refine ⟨by refine dq_none ?_; intro e he; simp at he, ?_⟩)
      | (refine Goes.step rfl (fun _ h₁ => ?_)
         replace hF := (fq_rely hF2) hF h₁
         clear h₁
         rw [stepG_unwanted rfl rfl]
         simp only [goes_go]
         refine ⟨by refine dq_none ?_; intro e he; simp at he, ?_⟩
         walk_nrm)
      | (refine Goes.step rfl (fun _ h₁ => ?_)
         replace hF := (fq_rely hF2) hF h₁
         clear h₁
         rw [stepG_cond (t := true) rfl]
         simp only [goes_go, if_true, if_false, Bool.false_eq_true, ↓reduceIte]
         refine ⟨by refine dq_none ?_; intro e he; simp at he, ?_⟩)
      | (refine Goes.step rfl (fun _ h₁ => ?_)
         replace hF := (fq_rely hF2) hF h₁
         clear h₁
         rw [stepG_cond (t := false) rfl]
         simp only [goes_go, if_true, if_false, Bool.false_eq_true, ↓reduceIte]
         refine ⟨by refine dq_none ?_; intro e he; simp at he, ?_⟩)
      | (refine Goes.step rfl (fun _ h₁ => ?_)
         replace hF := (fq_rely hF2) hF h₁
         clear h₁
         fail_if_success (rw [stepG_ret'])
         fail_if_success (rw [stepG_end])
         refine goes_oper_k rfl rfl (by k_ne) (fun K hK => ?_)
         go_simp
         refine hK _ _ ⟨?_, ?_⟩
         · refine dq_none ?_; intro e he; have hm := mem_listed he; simp [go_sem, *] at hm
         clear hK K
         try w_num)
      )
    refine Goes.stop (fun w₅ h₅ => ?_)
    replace hF := fq_rely hF2 hF h₅
    clear h₅
    refine ⟨rfl, _, stepG_mark0 .enable (by simp) rfl rfl (by k_ne) rfl H.f_enable (x_enable_n lk) (x_enable_b lk) (x_enable_x lk) (x_enable_f lk), 12, ?_⟩
    simp only [GQ]
    walk_nrm
    repeat (first
      | (refine Goes.step rfl (fun _ h₁ => ?_)
         replace hF := (fq_rely hF2) hF h₁
         clear h₁
         rw [stepG_seq]
         simp only [goes_go]
         refine ⟨by refine dq_none ?_; intro e he; simp at he, ?_⟩)
      | (refine Goes.step rfl (fun _ h₁ => ?_)
         replace hF := (fq_rely hF2) hF h₁
         clear h₁
         rw [stepG_region_end]
         simp only [goes_go]
         refine ⟨by refine dq_none ?_; intro e he; simp at he, ?_⟩)
      | (refine Goes.step rfl (fun _ h₁ => ?_)
         replace hF := (fq_rely hF2) hF h₁
         clear h₁
         rw [stepG_skip]
         simp only [goes_go]
         refine ⟨by refine dq_none ?_; intro e he; simp at he, ?_⟩)
      | (refine Goes.step rfl (fun _ h₁ => ?_)
         replace hF := (fq_rely hF2) hF h₁
         clear h₁
         rw [stepG_block]
         simp only [goes_go]
         refine ⟨by refine dq_none ?_; intro e he; simp at he, ?_⟩)
      | (refine Goes.step rfl (fun _ h₁ => ?_)
         replace hF := (fq_rely hF2) hF h₁
         clear h₁
         rw [stepG_loop]
         simp only [goes_go]
         refine ⟨by refine dq_none ?_; intro e he; simp at he, ?_⟩)
      | (refine Goes.step rfl (fun _ h₁ => ?_)
         replace hF := (fq_rely hF2) hF h₁
         clear h₁
         rw [stepG_inLoop]
         simp only [goes_go]
         refine ⟨by refine dq_none ?_; intro e he; simp at he, ?_⟩)
      | (refine Goes.step rfl (fun _ h₁ => ?_)
         replace hF := (fq_rely hF2) hF h₁
         clear h₁
         rw [stepG_inBlock]
         simp only [goes_go]
         refine ⟨by refine dq_none ?_; intro e he; simp at he, ?_⟩)
      | (refine Goes.step rfl (fun _ h₁ => ?_)
         replace hF := (fq_rely hF2) hF h₁
         clear h₁
         rw [stepG_label]
         simp only [goes_go]
         refine ⟨by refine dq_none ?_; intro e he; simp at he, ?_⟩)
      | (refine Goes.step rfl (fun _ h₁ => ?_)
         replace hF := (fq_rely hF2) hF h₁
         clear h₁
         rw [stepG_region]
         simp only [goes_go, List.size_toArray, List.length_cons, List.length_nil, Nat.reduceAdd, Nat.zero_add, List.range, List.range.loop]
         refine ⟨by refine dq_none ?_; intro e he; simp at he, ?_⟩)
      | (refine Goes.step rfl (fun _ h₁ => ?_)
         replace hF := (fq_rely hF2) hF h₁
         clear h₁
         rw [stepG_unwanted rfl rfl]
         simp only [goes_go]
         refine ⟨by refine dq_none ?_; intro e he; simp at he, ?_⟩
         walk_nrm)
      | (refine Goes.step rfl (fun _ h₁ => ?_)
         replace hF := (fq_rely hF2) hF h₁
         clear h₁
         rw [stepG_cond (t := true) rfl]
         simp only [goes_go, if_true, if_false, Bool.false_eq_true, ↓reduceIte]
         refine ⟨by refine dq_none ?_; intro e he; simp at he, ?_⟩)
      | (refine Goes.step rfl (fun _ h₁ => ?_)
         replace hF := (fq_rely hF2) hF h₁
         clear h₁
         rw [stepG_cond (t := false) rfl]
         simp only [goes_go, if_true, if_false, Bool.false_eq_true, ↓reduceIte]
         refine ⟨by refine dq_none ?_; intro e he; simp at he, ?_⟩)
      | (refine Goes.step rfl (fun _ h₁ => ?_)
         replace hF := (fq_rely hF2) hF h₁
         clear h₁
         fail_if_success (rw [stepG_ret'])
         fail_if_success (rw [stepG_end])
         refine goes_oper_k rfl rfl (by k_ne) (fun K hK => ?_)
         go_simp
         refine hK _ _ ⟨?_, ?_⟩
         · refine dq_none ?_; intro e he; have hm := mem_listed he; simp [go_sem, *] at hm
         clear hK K
         try w_num)
      )
    refine Goes.step rfl (fun _ h₁ => ?_)
    replace hF := (fq_rely hF2) hF h₁
    clear h₁
    refine goes_oper_k rfl rfl (by k_ne) (fun Kx hKx => ?_)
    have hcv := run_convert_to_unsafe (P := P) H.underlying_tWgP H.underlying_tUP H.room_tWg (WgLive.cell0 hF.2).choose_spec
    have hce := fun es => events_convert_to_unsafe (P := P) H.underlying_tWgP H.underlying_tUP H.room_tWg (WgLive.cell0 hF.2).choose_spec es
    go_simp
    refine hKx _ _ ⟨?_, ?_⟩
    · refine dq_none ?_; intro e he; have hm := mem_listed he; simp [go_sem, hce] at hm
    clear hKx Kx hcv hce
    refine Goes.stop (fun w₆ h₆ => ?_)
    replace hF := fq_rely hF2 hF h₆
    clear h₆
    refine ⟨rfl, _, stepG_markAt .acquire (by simp) rfl rfl (by k_ne) rfl H.f_acquire (x_acquire_n lk) (x_acquire_b lk) (x_acquire_x lk) (x_acquire_f lk) (by simp [Act.eval, stA]), fun hfull => ⟨rfl, 40, ?_⟩⟩
    replace hF := And.intro hF.1 hfull
    clear hfull
    walk_nrm
    repeat (first
      | (refine Goes.step rfl (fun _ h₁ => ?_)
         replace hF := (fat_rely hF2) hF h₁
         clear h₁
         rw [stepG_seq]
         simp only [goes_go]
         refine ⟨by refine df_none ?_; intro e he; simp at he, ?_⟩)
      | (refine Goes.step rfl (fun _ h₁ => ?_)
         replace hF := (fat_rely hF2) hF h₁
         clear h₁
         rw [stepG_region_end]
         simp only [goes_go]
         refine ⟨by refine df_none ?_; intro e he; simp at he, ?_⟩)
      | (refine Goes.step rfl (fun _ h₁ => ?_)
         replace hF := (fat_rely hF2) hF h₁
         clear h₁
         rw [stepG_skip]
         simp only [goes_go]
         refine ⟨by refine df_none ?_; intro e he; simp at he, ?_⟩)
      | (refine Goes.step rfl (fun _ h₁ => ?_)
         replace hF := (fat_rely hF2) hF h₁
         clear h₁
         rw [stepG_block]
         simp only [goes_go]
         refine ⟨by refine df_none ?_; intro e he; simp at he, ?_⟩)
      | (refine Goes.step rfl (fun _ h₁ => ?_)
         replace hF := (fat_rely hF2) hF h₁
         clear h₁
         rw [stepG_loop]
         simp only [goes_go]
         refine ⟨by refine df_none ?_; intro e he; simp at he, ?_⟩)
      | (refine Goes.step rfl (fun _ h₁ => ?_)
         replace hF := (fat_rely hF2) hF h₁
         clear h₁
         rw [stepG_inLoop]
         simp only [goes_go]
         refine ⟨by refine df_none ?_; intro e he; simp at he, ?_⟩)
      | (refine Goes.step rfl (fun _ h₁ => ?_)
         replace hF := (fat_rely hF2) hF h₁
         clear h₁
         rw [stepG_inBlock]
         simp only [goes_go]
         refine ⟨by refine df_none ?_; intro e he; simp at he, ?_⟩)
      | (refine Goes.step rfl (fun _ h₁ => ?_)
         replace hF := (fat_rely hF2) hF h₁
         clear h₁
         rw [stepG_label]
         simp only [goes_go]
         refine ⟨by refine df_none ?_; intro e he; simp at he, ?_⟩)
      | (refine Goes.step rfl (fun _ h₁ => ?_)
         replace hF := (fat_rely hF2) hF h₁
         clear h₁
         rw [stepG_region]
         simp only [goes_go, List.size_toArray, List.length_cons, List.length_nil, Nat.reduceAdd, Nat.zero_add, List.range, List.range.loop]
         refine ⟨by refine df_none ?_; intro e he; simp at he, ?_⟩)
      | (refine Goes.step rfl (fun _ h₁ => ?_)
         replace hF := (fat_rely hF2) hF h₁
         clear h₁
         rw [stepG_unwanted rfl rfl]
         simp only [goes_go]
         refine ⟨by refine df_none ?_; intro e he; simp at he, ?_⟩
         walk_nrm)
      | (refine Goes.step rfl (fun _ h₁ => ?_)
         replace hF := (fat_rely hF2) hF h₁
         clear h₁
         rw [stepG_cond (t := true) rfl]
         simp only [goes_go, if_true, if_false, Bool.false_eq_true, ↓reduceIte]
         refine ⟨by refine df_none ?_; intro e he; simp at he, ?_⟩)
      | (refine Goes.step rfl (fun _ h₁ => ?_)
         replace hF := (fat_rely hF2) hF h₁
         clear h₁
         rw [stepG_cond (t := false) rfl]
         simp only [goes_go, if_true, if_false, Bool.false_eq_true, ↓reduceIte]
         refine ⟨by refine df_none ?_; intro e he; simp at he, ?_⟩)
      | (refine Goes.step rfl (fun _ h₁ => ?_)
         replace hF := (fat_rely hF2) hF h₁
         clear h₁
         fail_if_success (rw [stepG_ret'])
         fail_if_success (rw [stepG_end])
         refine goes_oper_k rfl rfl (by k_ne) (fun K hK => ?_)
         go_simp
         refine hK _ _ ⟨?_, ?_⟩
         · refine df_none ?_; intro e he; have hm := mem_listed he; simp [go_sem, *] at hm
         clear hK K
         try w_num)
      )
    refine Goes.step rfl (fun _ h₁ => ?_)
    replace hF := (fat_rely hF2) hF h₁
    clear h₁
    rw [stepG_ret']
    simp only [goes_go]
    refine ⟨by refine df_none ?_; intro e he; simp at he, ?_⟩
    refine Goes.step rfl (fun _ h₁ => ?_)
    replace hF := (fat_rely hF2) hF h₁
    clear h₁
    refine goes_leave0 rfl rfl H.f_wait rfl ⟨by refine df_none ?_; intro e he; simp at he, ?_⟩
    walk_nrm
    exact Goes.stop fun w₇ h₇ => ⟨rfl, fat_rely hF2 hF h₇⟩
  · -- the load reads v * 2^32, v > 0
    obtain ⟨S, hS⟩ : ∃ S : Int, (v : Int) * KK = S := ⟨_, rfl⟩
    have a1 : S / 4294967296 = (v : Int) := by rw [← hS]; simp only [KK]; omega
    have b1 : bits .and .u64 S 2147483648 = 0 := by rw [← hS]; have := st_flag v 0 (by omega) (by omega); simpa [KK] using this
    have b2 : bits .and .u64 S 2147483647 = 0 := by rw [← hS]; have := st_waiters v 0 (by omega) (by omega); simpa [KK] using this
    have c1 : IntKind.i32.wrap (v : Int) = (v : Int) := by rw [IntKind.wrap_i32]; omega
    have w1 : IntKind.u64.wrap (S + 1) = S + 1 := by rw [IntKind.wrap_u64, ← hS]; simp only [KK]; omega
    have q3 : decide ((v : Int) < 0) = false := decide_eq_false (by omega)
    have q4 : decide (0 < (v : Int)) = true := decide_eq_true (by omega)
    have q5 : ((v : Int) == 0) = false := by simp; omega
    have q6 : decide ((v : Int) = 0) = false := decide_eq_false (by omega)
    rw [hS] at hw
    refine ⟨_, stepG_load_atomic (v := S) rfl rfl (by k_ne) rfl H.f_loadU64 (x_loadU64_n lk) (x_loadU64_b lk) (x_loadU64_x lk) .u64 (x_loadU64_f lk) rfl hw.cellSt, fun h0 => absurd h0 (by omega), fun _ => ⟨60, ?_⟩⟩
    clear hw
    simp only [GQ]
    walk_nrm
    refine Goes.step rfl (fun _ h₁ => ?_)
    replace hF := (fq_rely hF2) hF h₁
    clear h₁
    refine goes_oper_k rfl rfl (by k_ne) (fun K hK => ?_)
    go_simp
    refine hK _ _ ⟨?_, ?_⟩
    · refine dq_none ?_; intro e he; have hm := mem_listed he; simp [go_sem, *] at hm
    clear hK K
    try w_num
    refine Goes.step rfl (fun _ h₁ => ?_)
    replace hF := (fq_rely hF2) hF h₁
    clear h₁
    rw [stepG_region_end]
    simp only [goes_go]
    refine ⟨by refine dq_none ?_; intro e he; simp at he, ?_⟩
    refine Goes.step rfl (fun _ h₁ => ?_)
    replace hF := (fq_rely hF2) hF h₁
    clear h₁
    rw [stepG_ret']
    simp only [goes_go]
    refine ⟨by refine dq_none ?_; intro e he; simp at he, ?_⟩
    refine Goes.step rfl (fun _ h₁ => ?_)
    replace hF := (fq_rely hF2) hF h₁
    clear h₁
    refine goes_leave1 rfl rfl H.f_uLoad rfl ⟨by refine dq_none ?_; intro e he; simp at he, ?_⟩
    walk_nrm
    refine Goes.step rfl (fun _ h₁ => ?_)
    replace hF := (fq_rely hF2) hF h₁
    clear h₁
    refine goes_oper_k rfl rfl (by k_ne) (fun K hK => ?_)
    go_simp
    refine hK _ _ ⟨?_, ?_⟩
    · refine dq_none ?_; intro e he; have hm := mem_listed he; simp [go_sem, *] at hm
    clear hK K
    try w_num
    refine Goes.step rfl (fun _ h₁ => ?_)
    replace hF := (fq_rely hF2) hF h₁
    clear h₁
    rw [stepG_region_end]
    simp only [goes_go]
    refine ⟨by refine dq_none ?_; intro e he; simp at he, ?_⟩
    refine Goes.step rfl (fun _ h₁ => ?_)
    replace hF := (fq_rely hF2) hF h₁
    clear h₁
    rw [stepG_seq]
    simp only [goes_go]
    refine ⟨by refine dq_none ?_; intro e he; simp at he, ?_⟩
    refine Goes.step rfl (fun _ h₁ => ?_)
    replace hF := (fq_rely hF2) hF h₁
    clear h₁
    rw [stepG_region]
    simp only [goes_go, List.size_toArray, List.length_cons, List.length_nil, Nat.reduceAdd, Nat.zero_add, List.range, List.range.loop]
    refine ⟨by refine dq_none ?_; intro e he; simp at he, ?_⟩
    refine Goes.step rfl (fun _ h₁ => ?_)
    replace hF := (fq_rely hF2) hF h₁
    clear h₁
    refine goes_oper_k rfl rfl (by k_ne) (fun K hK => ?_)
    go_simp
    refine hK _ _ ⟨?_, ?_⟩
    · refine dq_none ?_; intro e he; have hm := mem_listed he; simp [go_sem, *] at hm
    clear hK K
    try w_num
    refine Goes.step rfl (fun _ h₁ => ?_)
    replace hF := (fq_rely hF2) hF h₁
    clear h₁
    refine goes_oper_k rfl rfl (by k_ne) (fun K hK => ?_)
    go_simp
    refine hK _ _ ⟨?_, ?_⟩
    · refine dq_none ?_; intro e he; have hm := mem_listed he; simp [go_sem, *] at hm
    clear hK K
    try w_num
    refine Goes.step rfl (fun _ h₁ => ?_)
    replace hF := (fq_rely hF2) hF h₁
    clear h₁
    refine goes_oper_k rfl rfl (by k_ne) (fun K hK => ?_)
    go_simp
    refine hK _ _ ⟨?_, ?_⟩
    · refine dq_none ?_; intro e he; have hm := mem_listed he; simp [go_sem, *] at hm
    clear hK K
    try w_num
    refine Goes.step rfl (fun _ h₁ => ?_)
    replace hF := (fq_rely hF2) hF h₁
    clear h₁
    refine goes_oper_k rfl rfl (by k_ne) (fun K hK => ?_)
    go_simp
    refine hK _ _ ⟨?_, ?_⟩
    · refine dq_none ?_; intro e he; have hm := mem_listed he; simp [go_sem, *] at hm
    clear hK K
    try w_num
    refine Goes.step rfl (fun _ h₁ => ?_)
    replace hF := (fq_rely hF2) hF h₁
    clear h₁
    rw [stepG_region_end]
    simp only [goes_go]
    refine ⟨by refine dq_none ?_; intro e he; simp at he, ?_⟩
    refine Goes.step rfl (fun _ h₁ => ?_)
    replace hF := (fq_rely hF2) hF h₁
    clear h₁
    rw [stepG_seq]
    simp only [goes_go]
    refine ⟨by refine dq_none ?_; intro e he; simp at he, ?_⟩
    refine Goes.step rfl (fun _ h₁ => ?_)
    replace hF := (fq_rely hF2) hF h₁
    clear h₁
    rw [stepG_region]
    simp only [goes_go, List.size_toArray, List.length_cons, List.length_nil, Nat.reduceAdd, Nat.zero_add, List.range, List.range.loop]
    refine ⟨by refine dq_none ?_; intro e he; simp at he, ?_⟩
    refine Goes.step rfl (fun _ h₁ => ?_)
    replace hF := (fq_rely hF2) hF h₁
    clear h₁
    refine goes_oper_k rfl rfl (by k_ne) (fun K hK => ?_)
    go_simp
    refine hK _ _ ⟨?_, ?_⟩
    · refine dq_none ?_; intro e he; have hm := mem_listed he; simp [go_sem, *] at hm
    clear hK K
    try w_num
    refine Goes.step rfl (fun _ h₁ => ?_)
    replace hF := (fq_rely hF2) hF h₁
    clear h₁
    refine goes_oper_k rfl rfl (by k_ne) (fun K hK => ?_)
    go_simp
    refine hK _ _ ⟨?_, ?_⟩
    · refine dq_none ?_; intro e he; have hm := mem_listed he; simp [go_sem, *] at hm
    clear hK K
    try w_num
    refine Goes.step rfl (fun _ h₁ => ?_)
    replace hF := (fq_rely hF2) hF h₁
    clear h₁
    refine goes_oper_k rfl rfl (by k_ne) (fun K hK => ?_)
    go_simp
    refine hK _ _ ⟨?_, ?_⟩
    · refine dq_none ?_; intro e he; have hm := mem_listed he; simp [go_sem, *] at hm
    clear hK K
    try w_num
    refine Goes.step rfl (fun _ h₁ => ?_)
    replace hF := (fq_rely hF2) hF h₁
    clear h₁
    refine goes_oper_k rfl rfl (by k_ne) (fun K hK => ?_)
    go_simp
    refine hK _ _ ⟨?_, ?_⟩
    · refine dq_none ?_; intro e he; have hm := mem_listed he; simp [go_sem, *] at hm
    clear hK K
    try w_num
    refine Goes.step rfl (fun _ h₁ => ?_)
    replace hF := (fq_rely hF2) hF h₁
    clear h₁
    rw [stepG_region_end]
    simp only [goes_go]
    refine ⟨by refine dq_none ?_; intro e he; simp at he, ?_⟩
    refine Goes.step rfl (fun _ h₁ => ?_)
    replace hF := (fq_rely hF2) hF h₁
    clear h₁
    rw [stepG_seq]
    simp only [goes_go]
    refine ⟨by refine dq_none ?_; intro e he; simp at he, ?_⟩
    refine Goes.step rfl (fun _ h₁ => ?_)
    replace hF := (fq_rely hF2) hF h₁
    clear h₁
    rw [stepG_seq]
    simp only [goes_go]
    refine ⟨by refine dq_none ?_; intro e he; simp at he, ?_⟩
    refine Goes.step rfl (fun _ h₁ => ?_)
    replace hF := (fq_rely hF2) hF h₁
    clear h₁
    rw [stepG_region]
    simp only [goes_go, List.size_toArray, List.length_cons, List.length_nil, Nat.reduceAdd, Nat.zero_add, List.range, List.range.loop]
    refine ⟨by refine dq_none ?_; intro e he; simp at he, ?_⟩
    refine Goes.step rfl (fun _ h₁ => ?_)
    replace hF := (fq_rely hF2) hF h₁
    clear h₁
    refine goes_oper_k rfl rfl (by k_ne) (fun K hK => ?_)
    go_simp
    refine hK _ _ ⟨?_, ?_⟩
    · refine dq_none ?_; intro e he; have hm := mem_listed he; simp [go_sem, *] at hm
    clear hK K
    try w_num
    refine Goes.step rfl (fun _ h₁ => ?_)
    replace hF := (fq_rely hF2) hF h₁
    clear h₁
    refine goes_oper_k rfl rfl (by k_ne) (fun K hK => ?_)
    go_simp
    refine hK _ _ ⟨?_, ?_⟩
    · refine dq_none ?_; intro e he; have hm := mem_listed he; simp [go_sem, *] at hm
    clear hK K
    try w_num
    refine Goes.step rfl (fun _ h₁ => ?_)
    replace hF := (fq_rely hF2) hF h₁
    clear h₁
    rw [stepG_region_end]
    simp only [goes_go]
    refine ⟨by refine dq_none ?_; intro e he; simp at he, ?_⟩
    refine Goes.step rfl (fun _ h₁ => ?_)
    replace hF := (fq_rely hF2) hF h₁
    clear h₁
    rw [stepG_cond (t := false) (by first | rfl | (simp [Act.eval]; omega))]
    simp only [goes_go, if_true, if_false, Bool.false_eq_true, ↓reduceIte]
    refine ⟨by refine dq_none ?_; intro e he; simp at he, ?_⟩
    refine Goes.step rfl (fun _ h₁ => ?_)
    replace hF := (fq_rely hF2) hF h₁
    clear h₁
    rw [stepG_skip]
    simp only [goes_go]
    refine ⟨by refine dq_none ?_; intro e he; simp at he, ?_⟩
    refine Goes.step rfl (fun _ h₁ => ?_)
    replace hF := (fq_rely hF2) hF h₁
    clear h₁
    rw [stepG_seq]
    simp only [goes_go]
    refine ⟨by refine dq_none ?_; intro e he; simp at he, ?_⟩
    refine Goes.step rfl (fun _ h₁ => ?_)
    replace hF := (fq_rely hF2) hF h₁
    clear h₁
    rw [stepG_region]
    simp only [goes_go, List.size_toArray, List.length_cons, List.length_nil, Nat.reduceAdd, Nat.zero_add, List.range, List.range.loop]
    refine ⟨by refine dq_none ?_; intro e he; simp at he, ?_⟩
    refine Goes.step rfl (fun _ h₁ => ?_)
    replace hF := (fq_rely hF2) hF h₁
    clear h₁
    refine goes_oper_k rfl rfl (by k_ne) (fun K hK => ?_)
    go_simp
    refine hK _ _ ⟨?_, ?_⟩
    · refine dq_none ?_; intro e he; have hm := mem_listed he; simp [go_sem, *] at hm
    clear hK K
    try w_num
    refine Goes.step rfl (fun _ h₁ => ?_)
    replace hF := (fq_rely hF2) hF h₁
    clear h₁
    refine goes_oper_k rfl rfl (by k_ne) (fun K hK => ?_)
    go_simp
    refine hK _ _ ⟨?_, ?_⟩
    · refine dq_none ?_; intro e he; have hm := mem_listed he; simp [go_sem, *] at hm
    clear hK K
    try w_num
    refine Goes.step rfl (fun _ h₁ => ?_)
    replace hF := (fq_rely hF2) hF h₁
    clear h₁
    refine goes_oper_k rfl rfl (by k_ne) (fun K hK => ?_)
    go_simp
    refine hK _ _ ⟨?_, ?_⟩
    · refine dq_none ?_; intro e he; have hm := mem_listed he; simp [go_sem, *] at hm
    clear hK K
    try w_num
    refine Goes.step rfl (fun _ h₁ => ?_)
    replace hF := (fq_rely hF2) hF h₁
    clear h₁
    refine goes_oper_k rfl rfl (by k_ne) (fun K hK => ?_)
    go_simp
    refine hK _ _ ⟨?_, ?_⟩
    · refine dq_none ?_; intro e he; have hm := mem_listed he; simp [go_sem, *] at hm
    clear hK K
    try w_num
    refine Goes.step rfl (fun _ h₁ => ?_)
    replace hF := (fq_rely hF2) hF h₁
    clear h₁
    refine goes_oper_k rfl rfl (by k_ne) (fun K hK => ?_)
    go_simp
    refine hK _ _ ⟨?_, ?_⟩
    · refine dq_none ?_; intro e he; have hm := mem_listed he; simp [go_sem, *] at hm
    clear hK K
    try w_num
    refine Goes.step rfl (fun _ h₁ => ?_)
    replace hF := (fq_rely hF2) hF h₁
    clear h₁
    refine goes_oper_k rfl rfl (by k_ne) (fun K hK => ?_)
    go_simp
    refine hK _ _ ⟨?_, ?_⟩
    · refine dq_none ?_; intro e he; have hm := mem_listed he; simp [go_sem, *] at hm
    clear hK K
    try w_num
    refine Goes.step rfl (fun _ h₁ => ?_)
    replace hF := (fq_rely hF2) hF h₁
    clear h₁
    refine goes_call rfl rfl (by k_ne) rfl H.f_uCas (nm_uCas lk) rfl ⟨by refine dq_none ?_; intro e he; simp at he, ?_⟩
    walk_nrmf uCasFn
    refine Goes.step rfl (fun _ h₁ => ?_)
    replace hF := (fq_rely hF2) hF h₁
    clear h₁
    rw [stepG_seq]
    simp only [goes_go]
    refine ⟨by refine dq_none ?_; intro e he; simp at he, ?_⟩
    refine Goes.step rfl (fun _ h₁ => ?_)
    replace hF := (fq_rely hF2) hF h₁
    clear h₁
    rw [stepG_region]
    simp only [goes_go, List.size_toArray, List.length_cons, List.length_nil, Nat.reduceAdd, Nat.zero_add, List.range, List.range.loop]
    refine ⟨by refine dq_none ?_; intro e he; simp at he, ?_⟩
    refine Goes.step rfl (fun _ h₁ => ?_)
    replace hF := (fq_rely hF2) hF h₁
    clear h₁
    refine goes_oper_k rfl rfl (by k_ne) (fun K hK => ?_)
    go_simp
    refine hK _ _ ⟨?_, ?_⟩
    · refine dq_none ?_; intro e he; have hm := mem_listed he; simp [go_sem, *] at hm
    clear hK K
    try w_num
    refine Goes.step rfl (fun _ h₁ => ?_)
    replace hF := (fq_rely hF2) hF h₁
    clear h₁
    rw [stepG_region_end]
    simp only [goes_go]
    refine ⟨by refine dq_none ?_; intro e he; simp at he, ?_⟩
    refine Goes.step rfl (fun _ h₁ => ?_)
    replace hF := (fq_rely hF2) hF h₁
    clear h₁
    rw [stepG_seq]
    simp only [goes_go]
    refine ⟨by refine dq_none ?_; intro e he; simp at he, ?_⟩
    refine Goes.step rfl (fun _ h₁ => ?_)
    replace hF := (fq_rely hF2) hF h₁
    clear h₁
    rw [stepG_region]
    simp only [goes_go, List.size_toArray, List.length_cons, List.length_nil, Nat.reduceAdd, Nat.zero_add, List.range, List.range.loop]
    refine ⟨by refine dq_none ?_; intro e he; simp at he, ?_⟩
    refine Goes.step rfl (fun _ h₁ => ?_)
    replace hF := (fq_rely hF2) hF h₁
    clear h₁
    refine goes_oper_k rfl rfl (by k_ne) (fun K hK => ?_)
    go_simp
    refine hK _ _ ⟨?_, ?_⟩
    · refine dq_none ?_; intro e he; have hm := mem_listed he; simp [go_sem, *] at hm
    clear hK K
    try w_num
    refine Goes.step rfl (fun _ h₁ => ?_)
    replace hF := (fq_rely hF2) hF h₁
    clear h₁
    refine goes_oper_k rfl rfl (by k_ne) (fun K hK => ?_)
    go_simp
    refine hK _ _ ⟨?_, ?_⟩
    · refine dq_none ?_; intro e he; have hm := mem_listed he; simp [go_sem, *] at hm
    clear hK K
    try w_num
    refine Goes.step rfl (fun _ h₁ => ?_)
    replace hF := (fq_rely hF2) hF h₁
    clear h₁
    refine goes_oper_k rfl rfl (by k_ne) (fun K hK => ?_)
    go_simp
    refine hK _ _ ⟨?_, ?_⟩
    · refine dq_none ?_; intro e he; have hm := mem_listed he; simp [go_sem, *] at hm
    clear hK K
    try w_num
    refine Goes.step rfl (fun _ h₁ => ?_)
    replace hF := (fq_rely hF2) hF h₁
    clear h₁
    refine goes_oper_k rfl rfl (by k_ne) (fun K hK => ?_)
    go_simp
    refine hK _ _ ⟨?_, ?_⟩
    · refine dq_none ?_; intro e he; have hm := mem_listed he; simp [go_sem, *] at hm
    clear hK K
    try w_num
    refine Goes.step rfl (fun _ h₁ => ?_)
    replace hF := (fq_rely hF2) hF h₁
    clear h₁
    refine goes_oper_k rfl rfl (by k_ne) (fun K hK => ?_)
    go_simp
    refine hK _ _ ⟨?_, ?_⟩
    · refine dq_none ?_; intro e he; have hm := mem_listed he; simp [go_sem, *] at hm
    clear hK K
    try w_num
    refine Goes.stop (fun w₂ h₂ => ?_)
    replace hF := fq_rely hF2 hF h₂
    clear h₂
    refine ⟨rfl, fun v' hv' hw => ⟨fun e => ?_, fun e => ?_⟩⟩
    · -- it hits
      subst e
      rw [hS] at hw ⊢
      refine ⟨_, (stepG_cas_hit (v := S) (n := S + 1) rfl rfl (by k_ne) rfl H.f_casU64 (x_casU64_n lk) (x_casU64_b lk) (x_casU64_x lk) .u64 (x_casU64_f lk) rfl rfl rfl hw.cellSt (hw.thaw 0)).trans (by rfl), 70, ?_⟩
      replace hF : F (w₂.setCell (stA L.Wg) (.int .u64 (S + 1))) ∧ WgLive L.ty L.Wg (w₂.setCell (stA L.Wg) (.int .u64 (S + 1))) := ⟨hF2 _ _ (setWg_rq hL hw _) hF.1, ⟨_, _, hw.setSt _⟩⟩
      clear hw
      simp only [GQ]
      walk_nrm
      refine Goes.step rfl (fun _ h₁ => ?_)
      replace hF := (fq_rely hF2) hF h₁
      clear h₁
      refine goes_oper_k rfl rfl (by k_ne) (fun K hK => ?_)
      go_simp
      refine hK _ _ ⟨?_, ?_⟩
      · refine dq_none ?_; intro e he; have hm := mem_listed he; simp [go_sem, *] at hm
      clear hK K
      try w_num
      refine Goes.step rfl (fun _ h₁ => ?_)
      replace hF := (fq_rely hF2) hF h₁
      clear h₁
      rw [stepG_region_end]
      simp only [goes_go]
      refine ⟨by refine dq_none ?_; intro e he; simp at he, ?_⟩
      refine Goes.step rfl (fun _ h₁ => ?_)
      replace hF := (fq_rely hF2) hF h₁
      clear h₁
      rw [stepG_ret']
      simp only [goes_go]
      refine ⟨by refine dq_none ?_; intro e he; simp at he, ?_⟩
      refine Goes.step rfl (fun _ h₁ => ?_)
      replace hF := (fq_rely hF2) hF h₁
      clear h₁
      refine goes_leave1 rfl rfl H.f_uCas rfl ⟨by refine dq_none ?_; intro e he; simp at he, ?_⟩
      walk_nrm
      refine Goes.step rfl (fun _ h₁ => ?_)
      replace hF := (fq_rely hF2) hF h₁
      clear h₁
      rw [stepG_region_end]
      simp only [goes_go]
      refine ⟨by refine dq_none ?_; intro e he; simp at he, ?_⟩
      refine Goes.step rfl (fun _ h₁ => ?_)
      replace hF := (fq_rely hF2) hF h₁
      clear h₁
      rw [stepG_cond (t := true) (by first | rfl | (simp [Act.eval]; omega))]
      simp only [goes_go, if_true, if_false, Bool.false_eq_true, ↓reduceIte]
      refine ⟨by refine dq_none ?_; intro e he; simp at he, ?_⟩
      refine Goes.step rfl (fun _ h₁ => ?_)
      replace hF := (fq_rely hF2) hF h₁
      clear h₁
      rw [stepG_seq]
      simp only [goes_go]
      refine ⟨by refine dq_none ?_; intro e he; simp at he, ?_⟩
      refine Goes.step rfl (fun _ h₁ => ?_)
      replace hF := (fq_rely hF2) hF h₁
      clear h₁
      rw [stepG_seq]
      simp only [goes_go]
      refine ⟨by refine dq_none ?_; intro e he; simp at he, ?_⟩
      refine Goes.step rfl (fun _ h₁ => ?_)
      replace hF := (fq_rely hF2) hF h₁
      clear h₁
      rw [stepG_region]
      simp only [goes_go, List.size_toArray, List.length_cons, List.length_nil, Nat.reduceAdd, Nat.zero_add, List.range, List.range.loop]
      refine ⟨by refine dq_none ?_; intro e he; simp at he, ?_⟩
      refine Goes.step rfl (fun _ h₁ => ?_)
      replace hF := (fq_rely hF2) hF h₁
      clear h₁
      refine goes_oper_k rfl rfl (by k_ne) (fun K hK => ?_)
      go_simp
      refine hK _ _ ⟨?_, ?_⟩
      · refine dq_none ?_; intro e he; have hm := mem_listed he; simp [go_sem, *] at hm
      clear hK K
      try w_num
      refine Goes.step rfl (fun _ h₁ => ?_)
      replace hF := (fq_rely hF2) hF h₁
      clear h₁
      refine goes_oper_k rfl rfl (by k_ne) (fun K hK => ?_)
      go_simp
      refine hK _ _ ⟨?_, ?_⟩
      · refine dq_none ?_; intro e he; have hm := mem_listed he; simp [go_sem, *] at hm
      clear hK K
      try w_num
      refine Goes.step rfl (fun _ h₁ => ?_)
      replace hF := (fq_rely hF2) hF h₁
      clear h₁
      refine goes_oper_k rfl rfl (by k_ne) (fun K hK => ?_)
      go_simp
      refine hK _ _ ⟨?_, ?_⟩
      · refine dq_none ?_; intro e he; have hm := mem_listed he; simp [go_sem, *] at hm
      clear hK K
      try w_num
      refine Goes.step rfl (fun _ h₁ => ?_)
      replace hF := (fq_rely hF2) hF h₁
      clear h₁
      refine goes_oper_k rfl rfl (by k_ne) (fun K hK => ?_)
      go_simp
      refine hK _ _ ⟨?_, ?_⟩
      · refine dq_none ?_; intro e he; have hm := mem_listed he; simp [go_sem, *] at hm
      clear hK K
      try w_num
      refine Goes.step rfl (fun _ h₁ => ?_)
      replace hF := (fq_rely hF2) hF h₁
      clear h₁
      rw [stepG_region_end]
      simp only [goes_go]
      refine ⟨by refine dq_none ?_; intro e he; simp at he, ?_⟩
      refine Goes.step rfl (fun _ h₁ => ?_)
      replace hF := (fq_rely hF2) hF h₁
      clear h₁
      rw [stepG_cond (t := true) (by first | rfl | (simp [Act.eval]; omega))]
      simp only [goes_go, if_true, if_false, Bool.false_eq_true, ↓reduceIte]
      refine ⟨by refine dq_none ?_; intro e he; simp at he, ?_⟩
      refine Goes.step rfl (fun _ h₁ => ?_)
      replace hF := (fq_rely hF2) hF h₁
      clear h₁
      rw [stepG_region]
      simp only [goes_go, List.size_toArray, List.length_cons, List.length_nil, Nat.reduceAdd, Nat.zero_add, List.range, List.range.loop]
      refine ⟨by refine dq_none ?_; intro e he; simp at he, ?_⟩
      refine Goes.step rfl (fun _ h₁ => ?_)
      replace hF := (fq_rely hF2) hF h₁
      clear h₁
      refine goes_oper_k rfl rfl (by k_ne) (fun K hK => ?_)
      go_simp
      refine hK _ _ ⟨?_, ?_⟩
      · refine dq_none ?_; intro e he; have hm := mem_listed he; simp [go_sem, *] at hm
      clear hK K
      try w_num
      refine Goes.step rfl (fun _ h₁ => ?_)
      replace hF := (fq_rely hF2) hF h₁
      clear h₁
      refine goes_oper_k rfl rfl (by k_ne) (fun K hK => ?_)
      go_simp
      refine hK _ _ ⟨?_, ?_⟩
      · refine dq_none ?_; intro e he; have hm := mem_listed he; simp [go_sem, *] at hm
      clear hK K
      try w_num
      refine Goes.step rfl (fun _ h₁ => ?_)
      replace hF := (fq_rely hF2) hF h₁
      clear h₁
      refine goes_oper_k rfl rfl (by k_ne) (fun K hK => ?_)
      go_simp
      refine hK _ _ ⟨?_, ?_⟩
      · refine dq_none ?_; intro e he; have hm := mem_listed he; simp [go_sem, *] at hm
      clear hK K
      try w_num
      refine Goes.step rfl (fun _ h₁ => ?_)
      replace hF := (fq_rely hF2) hF h₁
      clear h₁
      refine goes_oper_k rfl rfl (by k_ne) (fun Kx hKx => ?_)
      have hcv := run_convert_to_unsafe (P := P) H.underlying_tPU32 H.underlying_tUP H.room_tU32 (WgLive.cell1 hF.2).choose_spec
      have hce := fun es => events_convert_to_unsafe (P := P) H.underlying_tPU32 H.underlying_tUP H.room_tU32 (WgLive.cell1 hF.2).choose_spec es
      go_simp
      refine hKx _ _ ⟨?_, ?_⟩
      · refine dq_none ?_; intro e he; have hm := mem_listed he; simp [go_sem, hce] at hm
      clear hKx Kx hcv hce
      refine Goes.step rfl (fun _ h₁ => ?_)
      replace hF := (fq_rely hF2) hF h₁
      clear h₁
      rw [stepG_markAt .write (by simp) rfl rfl (by k_ne) rfl H.f_raceWrite (x_raceWrite_n lk) (x_raceWrite_b lk) (x_raceWrite_x lk) (x_raceWrite_f lk) (ad := ⟨_, 1, none⟩) (by simp [Act.eval] <;> rfl)]
      simp only [goes_go]
      refine ⟨⟨rfl, rfl, rfl, Nat.le_refl _, fun _ _ _ => rfl, fun _ h => h, fun e he => ?_⟩, ?_⟩
      · rw [Array.mem_singleton] at he
        subst he
        exact evq_said_write rfl
      walk_nrm
      refine Goes.step rfl (fun _ h₁ => ?_)
      replace hF := (fq_rely hF2) hF h₁
      clear h₁
      rw [stepG_region_end]
      simp only [goes_go]
      refine ⟨by refine dq_none ?_; intro e he; simp at he, ?_⟩
      refine Goes.step rfl (fun _ h₁ => ?_)
      replace hF := (fq_rely hF2) hF h₁
      clear h₁
      rw [stepG_seq]
      simp only [goes_go]
      refine ⟨by refine dq_none ?_; intro e he; simp at he, ?_⟩
      refine Goes.step rfl (fun _ h₁ => ?_)
      replace hF := (fq_rely hF2) hF h₁
      clear h₁
      rw [stepG_region]
      simp only [goes_go, List.size_toArray, List.length_cons, List.length_nil, Nat.reduceAdd, Nat.zero_add, List.range, List.range.loop]
      refine ⟨by refine dq_none ?_; intro e he; simp at he, ?_⟩
      refine Goes.step rfl (fun _ h₁ => ?_)
      replace hF := (fq_rely hF2) hF h₁
      clear h₁
      refine goes_oper_k rfl rfl (by k_ne) (fun K hK => ?_)
      go_simp
      refine hK _ _ ⟨?_, ?_⟩
      · refine dq_none ?_; intro e he; have hm := mem_listed he; simp [go_sem, *] at hm
      clear hK K
      try w_num
      refine Goes.step rfl (fun _ h₁ => ?_)
      replace hF := (fq_rely hF2) hF h₁
      clear h₁
      rw [stepG_region_end]
      simp only [goes_go]
      refine ⟨by refine dq_none ?_; intro e he; simp at he, ?_⟩
      refine Goes.step rfl (fun _ h₁ => ?_)
      replace hF := (fq_rely hF2) hF h₁
      clear h₁
      rw [stepG_seq]
      simp only [goes_go]
      refine ⟨by refine dq_none ?_; intro e he; simp at he, ?_⟩
      refine Goes.step rfl (fun _ h₁ => ?_)
      replace hF := (fq_rely hF2) hF h₁
      clear h₁
      rw [stepG_seq]
      simp only [goes_go]
      refine ⟨by refine dq_none ?_; intro e he; simp at he, ?_⟩
      refine Goes.step rfl (fun _ h₁ => ?_)
      replace hF := (fq_rely hF2) hF h₁
      clear h₁
      rw [stepG_region]
      simp only [goes_go, List.size_toArray, List.length_cons, List.length_nil, Nat.reduceAdd, Nat.zero_add, List.range, List.range.loop]
      refine ⟨by refine dq_none ?_; intro e he; simp at he, ?_⟩
      refine Goes.step rfl (fun _ h₁ => ?_)
      replace hF := (fq_rely hF2) hF h₁
      clear h₁
      refine goes_oper_k rfl rfl (by k_ne) (fun K hK => ?_)
      go_simp
      refine hK _ _ ⟨?_, ?_⟩
      · refine dq_none ?_; intro e he; have hm := mem_listed he; simp [go_sem, *] at hm
      clear hK K
      try w_num
      refine Goes.step rfl (fun _ h₁ => ?_)
      replace hF := (fq_rely hF2) hF h₁
      clear h₁
      refine goes_oper_k rfl rfl (by k_ne) (fun K hK => ?_)
      go_simp
      refine hK _ _ ⟨?_, ?_⟩
      · refine dq_none ?_; intro e he; have hm := mem_listed he; simp [go_sem, *] at hm
      clear hK K
      try w_num
      refine Goes.step rfl (fun _ h₁ => ?_)
      replace hF := (fq_rely hF2) hF h₁
      clear h₁
      refine goes_oper_k rfl rfl (by k_ne) (fun K hK => ?_)
      go_simp
      refine hK _ _ ⟨?_, ?_⟩
      · refine dq_none ?_; intro e he; have hm := mem_listed he; simp [go_sem, *] at hm
      clear hK K
      try w_num
      refine Goes.step rfl (fun _ h₁ => ?_)
      replace hF := (fq_rely hF2) hF h₁
      clear h₁
      refine goes_oper_k rfl rfl (by k_ne) (fun K hK => ?_)
      go_simp
      refine hK _ _ ⟨?_, ?_⟩
      · refine dq_none ?_; intro e he; have hm := mem_listed he; simp [go_sem, *] at hm
      clear hK K
      try w_num
      refine Goes.step rfl (fun _ h₁ => ?_)
      replace hF := (fq_rely hF2) hF h₁
      clear h₁
      rw [stepG_unwanted rfl rfl]
      simp only [goes_go]
      refine ⟨by refine dq_none ?_; intro e he; simp at he, ?_⟩
      walk_nrm
      refine Goes.step rfl (fun _ h₁ => ?_)
      replace hF := (fq_rely hF2) hF h₁
      clear h₁
      refine goes_oper_k rfl rfl (by k_ne) (fun K hK => ?_)
      go_simp
      refine hK _ _ ⟨?_, ?_⟩
      · refine dq_none ?_; intro e he; have hm := mem_listed he; simp [go_sem, *] at hm
      clear hK K
      try w_num
      refine Goes.step rfl (fun _ h₁ => ?_)
      replace hF := (fq_rely hF2) hF h₁
      clear h₁
      rw [stepG_region_end]
      simp only [goes_go]
      refine ⟨by refine dq_none ?_; intro e he; simp at he, ?_⟩
      refine Goes.step rfl (fun _ h₁ => ?_)
      replace hF := (fq_rely hF2) hF h₁
      clear h₁
      rw [stepG_cond (t := false) (by first | rfl | (simp [Act.eval]; omega))]
      simp only [goes_go, if_true, if_false, Bool.false_eq_true, ↓reduceIte]
      refine ⟨by refine dq_none ?_; intro e he; simp at he, ?_⟩
      refine Goes.step rfl (fun _ h₁ => ?_)
      replace hF := (fq_rely hF2) hF h₁
      clear h₁
      rw [stepG_skip]
      simp only [goes_go]
      refine ⟨by refine dq_none ?_; intro e he; simp at he, ?_⟩
      refine Goes.step rfl (fun _ h₁ => ?_)
      replace hF := (fq_rely hF2) hF h₁
      clear h₁
      rw [stepG_seq]
      simp only [goes_go]
      refine ⟨by refine dq_none ?_; intro e he; simp at he, ?_⟩
      refine Goes.step rfl (fun _ h₁ => ?_)
      replace hF := (fq_rely hF2) hF h₁
      clear h₁
      rw [stepG_region]
      simp only [goes_go, List.size_toArray, List.length_cons, List.length_nil, Nat.reduceAdd, Nat.zero_add, List.range, List.range.loop]
      refine ⟨by refine dq_none ?_; intro e he; simp at he, ?_⟩
      refine Goes.step rfl (fun _ h₁ => ?_)
      replace hF := (fq_rely hF2) hF h₁
      clear h₁
      refine goes_oper_k rfl rfl (by k_ne) (fun K hK => ?_)
      go_simp
      refine hK _ _ ⟨?_, ?_⟩
      · refine dq_none ?_; intro e he; have hm := mem_listed he; simp [go_sem, *] at hm
      clear hK K
      try w_num
      refine Goes.step rfl (fun _ h₁ => ?_)
      replace hF := (fq_rely hF2) hF h₁
      clear h₁
      refine goes_oper_k rfl rfl (by k_ne) (fun K hK => ?_)
      go_simp
      refine hK _ _ ⟨?_, ?_⟩
      · refine dq_none ?_; intro e he; have hm := mem_listed he; simp [go_sem, *] at hm
      clear hK K
      try w_num
      refine Goes.step rfl (fun _ h₁ => ?_)
      replace hF := (fq_rely hF2) hF h₁
      clear h₁
      refine goes_oper_k rfl rfl (by k_ne) (fun K hK => ?_)
      go_simp
      refine hK _ _ ⟨?_, ?_⟩
      · refine dq_none ?_; intro e he; have hm := mem_listed he; simp [go_sem, *] at hm
      clear hK K
      try w_num
      refine Goes.step rfl (fun _ h₁ => ?_)
      replace hF := (fq_rely hF2) hF h₁
      clear h₁
      refine goes_oper_k rfl rfl (by k_ne) (fun K hK => ?_)
      go_simp
      refine hK _ _ ⟨?_, ?_⟩
      · refine dq_none ?_; intro e he; have hm := mem_listed he; simp [go_sem, *] at hm
      clear hK K
      try w_num
      refine Goes.stop (fun w₃ h₃ => ?_)
      replace hF := fq_rely hF2 hF h₃
      clear h₃
      refine ⟨rfl, rfl, fun ⟨st, hw⟩ => stepG_semacquire_wait rfl rfl rfl H.f_semacquire (x_semacquire_n lk) (x_semacquire_b lk) (x_semacquire_x lk) (x_semacquire_f lk) (by simp [Act.eval, smA]) hw.cellSm, fun hf => ?_⟩
      refine ⟨_, (stepG_semacquire (n := 1) rfl rfl (by k_ne) rfl H.f_semacquire (x_semacquire_n lk) (x_semacquire_b lk) (x_semacquire_x lk) (x_semacquire_f lk) (by simp [Act.eval, smA]) hf.cellSm (by k_ne) (hf.thaw 1)).trans (by rfl), 30, ?_⟩
      replace hF : F (w₃.setCell (smA L.Wg) (.int .u32 0)) ∧ WgLive L.ty L.Wg (w₃.setCell (smA L.Wg) (.int .u32 0)) := ⟨hF2 _ _ (setSm_rq hL hf _) hF.1, ⟨_, _, hf.setSm 0⟩⟩
      clear hf
      simp only [GQ]
      walk_nrm
      refine Goes.step rfl (fun _ h₁ => ?_)
      replace hF := (fq_rely hF2) hF h₁
      clear h₁
      rw [stepG_region_end]
      simp only [goes_go]
      refine ⟨by refine dq_none ?_; intro e he; simp at he, ?_⟩
      refine Goes.step rfl (fun _ h₁ => ?_)
      replace hF := (fq_rely hF2) hF h₁
      clear h₁
      rw [stepG_seq]
      simp only [goes_go]
      refine ⟨by refine dq_none ?_; intro e he; simp at he, ?_⟩
      refine Goes.step rfl (fun _ h₁ => ?_)
      replace hF := (fq_rely hF2) hF h₁
      clear h₁
      rw [stepG_region]
      simp only [goes_go, List.size_toArray, List.length_cons, List.length_nil, Nat.reduceAdd, Nat.zero_add, List.range, List.range.loop]
      refine ⟨by refine dq_none ?_; intro e he; simp at he, ?_⟩
      refine Goes.step rfl (fun _ h₁ => ?_)
      replace hF := (fq_rely hF2) hF h₁
      clear h₁
      refine goes_oper_k rfl rfl (by k_ne) (fun K hK => ?_)
      go_simp
      refine hK _ _ ⟨?_, ?_⟩
      · refine dq_none ?_; intro e he; have hm := mem_listed he; simp [go_sem, *] at hm
      clear hK K
      try w_num
      refine Goes.step rfl (fun _ h₁ => ?_)
      replace hF := (fq_rely hF2) hF h₁
      clear h₁
      refine goes_oper_k rfl rfl (by k_ne) (fun K hK => ?_)
      go_simp
      refine hK _ _ ⟨?_, ?_⟩
      · refine dq_none ?_; intro e he; have hm := mem_listed he; simp [go_sem, *] at hm
      clear hK K
      try w_num
      refine Goes.step rfl (fun _ h₁ => ?_)
      replace hF := (fq_rely hF2) hF h₁
      clear h₁
      refine goes_oper_k rfl rfl (by k_ne) (fun K hK => ?_)
      go_simp
      refine hK _ _ ⟨?_, ?_⟩
      · refine dq_none ?_; intro e he; have hm := mem_listed he; simp [go_sem, *] at hm
      clear hK K
      try w_num
      refine Goes.step rfl (fun _ h₁ => ?_)
      replace hF := (fq_rely hF2) hF h₁
      clear h₁
      refine goes_call rfl rfl (by k_ne) rfl H.f_uLoad (nm_uLoad lk) rfl ⟨by refine dq_none ?_; intro e he; simp at he, ?_⟩
      walk_nrmf uLoadFn
      refine Goes.step rfl (fun _ h₁ => ?_)
      replace hF := (fq_rely hF2) hF h₁
      clear h₁
      rw [stepG_seq]
      simp only [goes_go]
      refine ⟨by refine dq_none ?_; intro e he; simp at he, ?_⟩
      refine Goes.step rfl (fun _ h₁ => ?_)
      replace hF := (fq_rely hF2) hF h₁
      clear h₁
      rw [stepG_region]
      simp only [goes_go, List.size_toArray, List.length_cons, List.length_nil, Nat.reduceAdd, Nat.zero_add, List.range, List.range.loop]
      refine ⟨by refine dq_none ?_; intro e he; simp at he, ?_⟩
      refine Goes.step rfl (fun _ h₁ => ?_)
      replace hF := (fq_rely hF2) hF h₁
      clear h₁
      refine goes_oper_k rfl rfl (by k_ne) (fun K hK => ?_)
      go_simp
      refine hK _ _ ⟨?_, ?_⟩
      · refine dq_none ?_; intro e he; have hm := mem_listed he; simp [go_sem, *] at hm
      clear hK K
      try w_num
      refine Goes.step rfl (fun _ h₁ => ?_)
      replace hF := (fq_rely hF2) hF h₁
      clear h₁
      rw [stepG_region_end]
      simp only [goes_go]
      refine ⟨by refine dq_none ?_; intro e he; simp at he, ?_⟩
      refine Goes.step rfl (fun _ h₁ => ?_)
      replace hF := (fq_rely hF2) hF h₁
      clear h₁
      rw [stepG_seq]
      simp only [goes_go]
      refine ⟨by refine dq_none ?_; intro e he; simp at he, ?_⟩
      refine Goes.step rfl (fun _ h₁ => ?_)
      replace hF := (fq_rely hF2) hF h₁
      clear h₁
      rw [stepG_region]
      simp only [goes_go, List.size_toArray, List.length_cons, List.length_nil, Nat.reduceAdd, Nat.zero_add, List.range, List.range.loop]
      refine ⟨by refine dq_none ?_; intro e he; simp at he, ?_⟩
      refine Goes.step rfl (fun _ h₁ => ?_)
      replace hF := (fq_rely hF2) hF h₁
      clear h₁
      refine goes_oper_k rfl rfl (by k_ne) (fun K hK => ?_)
      go_simp
      refine hK _ _ ⟨?_, ?_⟩
      · refine dq_none ?_; intro e he; have hm := mem_listed he; simp [go_sem, *] at hm
      clear hK K
      try w_num
      refine Goes.step rfl (fun _ h₁ => ?_)
      replace hF := (fq_rely hF2) hF h₁
      clear h₁
      refine goes_oper_k rfl rfl (by k_ne) (fun K hK => ?_)
      go_simp
      refine hK _ _ ⟨?_, ?_⟩
      · refine dq_none ?_; intro e he; have hm := mem_listed he; simp [go_sem, *] at hm
      clear hK K
      try w_num
      refine Goes.step rfl (fun _ h₁ => ?_)
      replace hF := (fq_rely hF2) hF h₁
      clear h₁
      refine goes_oper_k rfl rfl (by k_ne) (fun K hK => ?_)
      go_simp
      refine hK _ _ ⟨?_, ?_⟩
      · refine dq_none ?_; intro e he; have hm := mem_listed he; simp [go_sem, *] at hm
      clear hK K
      try w_num
      refine Goes.stop (fun w₄ h₄ => ?_)
      replace hF := fq_rely hF2 hF h₄
      clear h₄
      refine ⟨rfl, fun hw => ⟨_, stepG_load_atomic (v := 0) rfl rfl (by k_ne) rfl H.f_loadU64 (x_loadU64_n lk) (x_loadU64_b lk) (x_loadU64_x lk) .u64 (x_loadU64_f lk) rfl hw.cellSt, 30, ?_⟩⟩
      clear hw
      simp only [GQ]
      walk_nrm
      refine Goes.step rfl (fun _ h₁ => ?_)
      replace hF := (fq_rely hF2) hF h₁
      clear h₁
      refine goes_oper_k rfl rfl (by k_ne) (fun K hK => ?_)
      go_simp
      refine hK _ _ ⟨?_, ?_⟩
      · refine dq_none ?_; intro e he; have hm := mem_listed he; simp [go_sem, *] at hm
      clear hK K
      try w_num
      refine Goes.step rfl (fun _ h₁ => ?_)
      replace hF := (fq_rely hF2) hF h₁
      clear h₁
      rw [stepG_region_end]
      simp only [goes_go]
      refine ⟨by refine dq_none ?_; intro e he; simp at he, ?_⟩
      refine Goes.step rfl (fun _ h₁ => ?_)
      replace hF := (fq_rely hF2) hF h₁
      clear h₁
      rw [stepG_ret']
      simp only [goes_go]
      refine ⟨by refine dq_none ?_; intro e he; simp at he, ?_⟩
      refine Goes.step rfl (fun _ h₁ => ?_)
      replace hF := (fq_rely hF2) hF h₁
      clear h₁
      refine goes_leave1 rfl rfl H.f_uLoad rfl ⟨by refine dq_none ?_; intro e he; simp at he, ?_⟩
      walk_nrm
      refine Goes.step rfl (fun _ h₁ => ?_)
      replace hF := (fq_rely hF2) hF h₁
      clear h₁
      refine goes_oper_k rfl rfl (by k_ne) (fun K hK => ?_)
      go_simp
      refine hK _ _ ⟨?_, ?_⟩
      · refine dq_none ?_; intro e he; have hm := mem_listed he; simp [go_sem, *] at hm
      clear hK K
      try w_num
      refine Goes.step rfl (fun _ h₁ => ?_)
      replace hF := (fq_rely hF2) hF h₁
      clear h₁
      refine goes_oper_k rfl rfl (by k_ne) (fun K hK => ?_)
      go_simp
      refine hK _ _ ⟨?_, ?_⟩
      · refine dq_none ?_; intro e he; have hm := mem_listed he; simp [go_sem, *] at hm
      clear hK K
      try w_num
      refine Goes.step rfl (fun _ h₁ => ?_)
      replace hF := (fq_rely hF2) hF h₁
      clear h₁
      rw [stepG_region_end]
      simp only [goes_go]
      refine ⟨by refine dq_none ?_; intro e he; simp at he, ?_⟩
      refine Goes.step rfl (fun _ h₁ => ?_)
      replace hF := (fq_rely hF2) hF h₁
      clear h₁
      rw [stepG_seq]
      simp only [goes_go]
      refine ⟨by refine dq_none ?_; intro e he; simp at he, ?_⟩
      refine Goes.step rfl (fun _ h₁ => ?_)
      replace hF := (fq_rely hF2) hF h₁
      clear h₁
      rw [stepG_cond (t := true) (by first | rfl | (simp [Act.eval]; omega))]
      simp only [goes_go, if_true, if_false, Bool.false_eq_true, ↓reduceIte]
      refine ⟨by refine dq_none ?_; intro e he; simp at he, ?_⟩
      refine Goes.step rfl (fun _ h₁ => ?_)
      replace hF := (fq_rely hF2) hF h₁
      clear h₁
      rw [stepG_seq]
      simp only [goes_go]
      refine ⟨by refine dq_none ?_; intro e he; simp at he, ?_⟩
      refine Goes.step rfl (fun _ h₁ => ?_)
      replace hF := (fq_rely hF2) hF h₁
      clear h₁
      rw [stepG_region]
      simp only [goes_go, List.size_toArray, List.length_cons, List.length_nil, Nat.reduceAdd, Nat.zero_add, List.range, List.range.loop]
      refine ⟨by refine dq_none ?_; intro e he; simp at he, ?_⟩
      refine Goes.stop (fun w₅ h₅ => ?_)
      replace hF := fq_rely hF2 hF h₅
      clear h₅
      refine ⟨rfl, _, stepG_mark0 .enable (by simp) rfl rfl (by k_ne) rfl H.f_enable (x_enable_n lk) (x_enable_b lk) (x_enable_x lk) (x_enable_f lk), 12, ?_⟩
      simp only [GQ]
      walk_nrm
      refine Goes.step rfl (fun _ h₁ => ?_)
      replace hF := (fq_rely hF2) hF h₁
      clear h₁
      rw [stepG_region_end]
      simp only [goes_go]
      refine ⟨by refine dq_none ?_; intro e he; simp at he, ?_⟩
      refine Goes.step rfl (fun _ h₁ => ?_)
      replace hF := (fq_rely hF2) hF h₁
      clear h₁
      rw [stepG_region]
      simp only [goes_go, List.size_toArray, List.length_cons, List.length_nil, Nat.reduceAdd, Nat.zero_add, List.range, List.range.loop]
      refine ⟨by refine dq_none ?_; intro e he; simp at he, ?_⟩
      refine Goes.step rfl (fun _ h₁ => ?_)
      replace hF := (fq_rely hF2) hF h₁
      clear h₁
      refine goes_oper_k rfl rfl (by k_ne) (fun K hK => ?_)
      go_simp
      refine hK _ _ ⟨?_, ?_⟩
      · refine dq_none ?_; intro e he; have hm := mem_listed he; simp [go_sem, *] at hm
      clear hK K
      try w_num
      refine Goes.step rfl (fun _ h₁ => ?_)
      replace hF := (fq_rely hF2) hF h₁
      clear h₁
      refine goes_oper_k rfl rfl (by k_ne) (fun Kx hKx => ?_)
      have hcv := run_convert_to_unsafe (P := P) H.underlying_tWgP H.underlying_tUP H.room_tWg (WgLive.cell0 hF.2).choose_spec
      have hce := fun es => events_convert_to_unsafe (P := P) H.underlying_tWgP H.underlying_tUP H.room_tWg (WgLive.cell0 hF.2).choose_spec es
      go_simp
      refine hKx _ _ ⟨?_, ?_⟩
      · refine dq_none ?_; intro e he; have hm := mem_listed he; simp [go_sem, hce] at hm
      clear hKx Kx hcv hce
      refine Goes.stop (fun w₆ h₆ => ?_)
      replace hF := fq_rely hF2 hF h₆
      clear h₆
      refine ⟨rfl, _, stepG_markAt .acquire (by simp) rfl rfl (by k_ne) rfl H.f_acquire (x_acquire_n lk) (x_acquire_b lk) (x_acquire_x lk) (x_acquire_f lk) (by simp [Act.eval, stA]), fun hfull => ⟨rfl, 40, ?_⟩⟩
      replace hF := And.intro hF.1 hfull
      clear hfull
      walk_nrm
      refine Goes.step rfl (fun _ h₁ => ?_)
      replace hF := (fat_rely hF2) hF h₁
      clear h₁
      rw [stepG_region_end]
      simp only [goes_go]
      refine ⟨by refine df_none ?_; intro e he; simp at he, ?_⟩
      refine Goes.step rfl (fun _ h₁ => ?_)
      replace hF := (fat_rely hF2) hF h₁
      clear h₁
      rw [stepG_seq]
      simp only [goes_go]
      refine ⟨by refine df_none ?_; intro e he; simp at he, ?_⟩
      refine Goes.step rfl (fun _ h₁ => ?_)
      replace hF := (fat_rely hF2) hF h₁
      clear h₁
      rw [stepG_seq]
      simp only [goes_go]
      refine ⟨by refine df_none ?_; intro e he; simp at he, ?_⟩
      refine Goes.step rfl (fun _ h₁ => ?_)
      replace hF := (fat_rely hF2) hF h₁
      clear h₁
      rw [stepG_region]
      simp only [goes_go, List.size_toArray, List.length_cons, List.length_nil, Nat.reduceAdd, Nat.zero_add, List.range, List.range.loop]
      refine ⟨by refine df_none ?_; intro e he; simp at he, ?_⟩
      refine Goes.step rfl (fun _ h₁ => ?_)
      replace hF := (fat_rely hF2) hF h₁
      clear h₁
      refine goes_oper_k rfl rfl (by k_ne) (fun K hK => ?_)
      go_simp
      refine hK _ _ ⟨?_, ?_⟩
      · refine df_none ?_; intro e he; have hm := mem_listed he; simp [go_sem, *] at hm
      clear hK K
      try w_num
      refine Goes.step rfl (fun _ h₁ => ?_)
      replace hF := (fat_rely hF2) hF h₁
      clear h₁
      rw [stepG_region_end]
      simp only [goes_go]
      refine ⟨by refine df_none ?_; intro e he; simp at he, ?_⟩
      refine Goes.step rfl (fun _ h₁ => ?_)
      replace hF := (fat_rely hF2) hF h₁
      clear h₁
      rw [stepG_cond (t := false) (by first | rfl | (simp [Act.eval]; omega))]
      simp only [goes_go, if_true, if_false, Bool.false_eq_true, ↓reduceIte]
      refine ⟨by refine df_none ?_; intro e he; simp at he, ?_⟩
      refine Goes.step rfl (fun _ h₁ => ?_)
      replace hF := (fat_rely hF2) hF h₁
      clear h₁
      rw [stepG_skip]
      simp only [goes_go]
      refine ⟨by refine df_none ?_; intro e he; simp at he, ?_⟩
      refine Goes.step rfl (fun _ h₁ => ?_)
      replace hF := (fat_rely hF2) hF h₁
      clear h₁
      rw [stepG_ret']
      simp only [goes_go]
      refine ⟨by refine df_none ?_; intro e he; simp at he, ?_⟩
      refine Goes.step rfl (fun _ h₁ => ?_)
      replace hF := (fat_rely hF2) hF h₁
      clear h₁
      refine goes_leave0 rfl rfl H.f_wait rfl ⟨by refine df_none ?_; intro e he; simp at he, ?_⟩
      walk_nrm
      exact Goes.stop fun w₇ h₇ => ⟨rfl, fat_rely hF2 hF h₇⟩
    · -- it misses
      refine ⟨_, stepG_cas_miss (v := (v' : Int) * KK) (old := S) (n := S + 1) rfl rfl (by k_ne) rfl H.f_casU64 (x_casU64_n lk) (x_casU64_b lk) (x_casU64_x lk) .u64 (x_casU64_f lk) rfl rfl rfl hw.cellSt (hw.thaw 0) (by rw [← hS]; simp only [KK]; omega), 20, ?_⟩
      clear hw
      simp only [GQ]
      walk_nrm
      refine Goes.step rfl (fun _ h₁ => ?_)
      replace hF := (fq_rely hF2) hF h₁
      clear h₁
      refine goes_oper_k rfl rfl (by k_ne) (fun K hK => ?_)
      go_simp
      refine hK _ _ ⟨?_, ?_⟩
      · refine dq_none ?_; intro e he; have hm := mem_listed he; simp [go_sem, *] at hm
      clear hK K
      try w_num
      refine Goes.step rfl (fun _ h₁ => ?_)
      replace hF := (fq_rely hF2) hF h₁
      clear h₁
      rw [stepG_region_end]
      simp only [goes_go]
      refine ⟨by refine dq_none ?_; intro e he; simp at he, ?_⟩
      refine Goes.step rfl (fun _ h₁ => ?_)
      replace hF := (fq_rely hF2) hF h₁
      clear h₁
      rw [stepG_ret']
      simp only [goes_go]
      refine ⟨by refine dq_none ?_; intro e he; simp at he, ?_⟩
      refine Goes.step rfl (fun _ h₁ => ?_)
      replace hF := (fq_rely hF2) hF h₁
      clear h₁
      refine goes_leave1 rfl rfl H.f_uCas rfl ⟨by refine dq_none ?_; intro e he; simp at he, ?_⟩
      walk_nrm
      refine Goes.step rfl (fun _ h₁ => ?_)
      replace hF := (fq_rely hF2) hF h₁
      clear h₁
      rw [stepG_region_end]
      simp only [goes_go]
      refine ⟨by refine dq_none ?_; intro e he; simp at he, ?_⟩
      refine Goes.step rfl (fun _ h₁ => ?_)
      replace hF := (fq_rely hF2) hF h₁
      clear h₁
      rw [stepG_cond (t := false) (by first | rfl | (simp [Act.eval]; omega))]
      simp only [goes_go, if_true, if_false, Bool.false_eq_true, ↓reduceIte]
      refine ⟨by refine dq_none ?_; intro e he; simp at he, ?_⟩
      refine Goes.step rfl (fun _ h₁ => ?_)
      replace hF := (fq_rely hF2) hF h₁
      clear h₁
      rw [stepG_skip]
      simp only [goes_go]
      refine ⟨by refine dq_none ?_; intro e he; simp at he, ?_⟩
      refine Goes.step rfl (fun _ h₁ => ?_)
      replace hF := (fq_rely hF2) hF h₁
      clear h₁
      rw [stepG_inBlock]
      simp only [goes_go]
      refine ⟨by refine dq_none ?_; intro e he; simp at he, ?_⟩
      refine Goes.step rfl (fun _ h₁ => ?_)
      replace hF := (fq_rely hF2) hF h₁
      clear h₁
      rw [stepG_inLoop]
      simp only [goes_go]
      refine ⟨by refine dq_none ?_; intro e he; simp at he, ?_⟩
      refine Goes.stop (fun w₃ h₃ => ?_)
      replace hF := fq_rely hF2 hF h₃
      exact ⟨_, rfl, by simp, by simp, hF⟩
end
end Go.Proofs.Ytoipkpndfgcmcaa.Crew
