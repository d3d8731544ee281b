/-
  CheckParts: the loop of its three calls of Parts, in the whole machine. The conditions stand in each theorem.
-/
import Derived.Test.YtoipkpndfgcmcaaCpFront
namespace Go.Proofs.Ytoipkpndfgcmcaa.Crew
open Go Go.Conc Go.ConcN Go.RowKit Go.Conc.Lib Go.ConcR.Gen Go.ConcN.Gen Go.Proofs.Ytoipkpndfgcmcaa.Veils
open Go.ConcR (Payload)
set_option linter.unusedVariables false
set_option linter.unusedSectionVars false
set_option linter.unusedSimpArgs false
theorem array66 (T : Array Value) (h : T.size = 66) : ∃ v0 v1 v2 v3 v4 v5 v6 v7 v8 v9 v10 v11 v12 v13 v14 v15 v16 v17 v18 v19 v20 v21 v22 v23 v24 v25 v26 v27 v28 v29 v30 v31 v32 v33 v34 v35 v36 v37 v38 v39 v40 v41 v42 v43 v44 v45 v46 v47 v48 v49 v50 v51 v52 v53 v54 v55 v56 v57 v58 v59 v60 v61 v62 v63 v64 v65 : Value, T = #[v0, v1, v2, v3, v4, v5, v6, v7, v8, v9, v10, v11, v12, v13, v14, v15, v16, v17, v18, v19, v20, v21, v22, v23, v24, v25, v26, v27, v28, v29, v30, v31, v32, v33, v34, v35, v36, v37, v38, v39, v40, v41, v42, v43, v44, v45, v46, v47, v48, v49, v50, v51, v52, v53, v54, v55, v56, v57, v58, v59, v60, v61, v62, v63, v64, v65] := by
  obtain ⟨l⟩ := T
  simp only [List.size_toArray] at h
  rcases l with _ | ⟨v0, l⟩
  · simp at h
  rcases l with _ | ⟨v1, l⟩
  · simp at h
  rcases l with _ | ⟨v2, l⟩
  · simp at h
  rcases l with _ | ⟨v3, l⟩
  · simp at h
  rcases l with _ | ⟨v4, l⟩
  · simp at h
  rcases l with _ | ⟨v5, l⟩
  · simp at h
  rcases l with _ | ⟨v6, l⟩
  · simp at h
  rcases l with _ | ⟨v7, l⟩
  · simp at h
  rcases l with _ | ⟨v8, l⟩
  · simp at h
  rcases l with _ | ⟨v9, l⟩
  · simp at h
  rcases l with _ | ⟨v10, l⟩
  · simp at h
  rcases l with _ | ⟨v11, l⟩
  · simp at h
  rcases l with _ | ⟨v12, l⟩
  · simp at h
  rcases l with _ | ⟨v13, l⟩
  · simp at h
  rcases l with _ | ⟨v14, l⟩
  · simp at h
  rcases l with _ | ⟨v15, l⟩
  · simp at h
  rcases l with _ | ⟨v16, l⟩
  · simp at h
  rcases l with _ | ⟨v17, l⟩
  · simp at h
  rcases l with _ | ⟨v18, l⟩
  · simp at h
  rcases l with _ | ⟨v19, l⟩
  · simp at h
  rcases l with _ | ⟨v20, l⟩
  · simp at h
  rcases l with _ | ⟨v21, l⟩
  · simp at h
  rcases l with _ | ⟨v22, l⟩
  · simp at h
  rcases l with _ | ⟨v23, l⟩
  · simp at h
  rcases l with _ | ⟨v24, l⟩
  · simp at h
  rcases l with _ | ⟨v25, l⟩
  · simp at h
  rcases l with _ | ⟨v26, l⟩
  · simp at h
  rcases l with _ | ⟨v27, l⟩
  · simp at h
  rcases l with _ | ⟨v28, l⟩
  · simp at h
  rcases l with _ | ⟨v29, l⟩
  · simp at h
  rcases l with _ | ⟨v30, l⟩
  · simp at h
  rcases l with _ | ⟨v31, l⟩
  · simp at h
  rcases l with _ | ⟨v32, l⟩
  · simp at h
  rcases l with _ | ⟨v33, l⟩
  · simp at h
  rcases l with _ | ⟨v34, l⟩
  · simp at h
  rcases l with _ | ⟨v35, l⟩
  · simp at h
  rcases l with _ | ⟨v36, l⟩
  · simp at h
  rcases l with _ | ⟨v37, l⟩
  · simp at h
  rcases l with _ | ⟨v38, l⟩
  · simp at h
  rcases l with _ | ⟨v39, l⟩
  · simp at h
  rcases l with _ | ⟨v40, l⟩
  · simp at h
  rcases l with _ | ⟨v41, l⟩
  · simp at h
  rcases l with _ | ⟨v42, l⟩
  · simp at h
  rcases l with _ | ⟨v43, l⟩
  · simp at h
  rcases l with _ | ⟨v44, l⟩
  · simp at h
  rcases l with _ | ⟨v45, l⟩
  · simp at h
  rcases l with _ | ⟨v46, l⟩
  · simp at h
  rcases l with _ | ⟨v47, l⟩
  · simp at h
  rcases l with _ | ⟨v48, l⟩
  · simp at h
  rcases l with _ | ⟨v49, l⟩
  · simp at h
  rcases l with _ | ⟨v50, l⟩
  · simp at h
  rcases l with _ | ⟨v51, l⟩
  · simp at h
  rcases l with _ | ⟨v52, l⟩
  · simp at h
  rcases l with _ | ⟨v53, l⟩
  · simp at h
  rcases l with _ | ⟨v54, l⟩
  · simp at h
  rcases l with _ | ⟨v55, l⟩
  · simp at h
  rcases l with _ | ⟨v56, l⟩
  · simp at h
  rcases l with _ | ⟨v57, l⟩
  · simp at h
  rcases l with _ | ⟨v58, l⟩
  · simp at h
  rcases l with _ | ⟨v59, l⟩
  · simp at h
  rcases l with _ | ⟨v60, l⟩
  · simp at h
  rcases l with _ | ⟨v61, l⟩
  · simp at h
  rcases l with _ | ⟨v62, l⟩
  · simp at h
  rcases l with _ | ⟨v63, l⟩
  · simp at h
  rcases l with _ | ⟨v64, l⟩
  · simp at h
  rcases l with _ | ⟨v65, l⟩
  · simp at h
  rcases l with _ | ⟨x, l⟩
  · exact ⟨v0, v1, v2, v3, v4, v5, v6, v7, v8, v9, v10, v11, v12, v13, v14, v15, v16, v17, v18, v19, v20, v21, v22, v23, v24, v25, v26, v27, v28, v29, v30, v31, v32, v33, v34, v35, v36, v37, v38, v39, v40, v41, v42, v43, v44, v45, v46, v47, v48, v49, v50, v51, v52, v53, v54, v55, v56, v57, v58, v59, v60, v61, v62, v63, v64, v65, rfl⟩
  · simp at h
/-! the places of the law's text -/
def L9of (c : Code) : Code := loopOf (blockOf (seqTail (seqHead (seqTails 7 c))))
def R9of (c : Code) : Code := seqTails 8 c
def B9of (c : Code) : Code := blockOf (seqHead (seqTail (L9of c)))
def O9of (c : Code) : Array Oper := opsOf (seqHead (B9of c))
def K9of (c : Code) : List Item := [.code (seqTail (B9of c)), .inBlock 3, .code (seqTail (seqTail (L9of c))), .inLoop (L9of c), .inBlock 2, .code (R9of c)]
section
variable (a0 : Option Addr) (n cap h c : Nat) (ps : List (List UInt8))
/-- The law's frame. -/
def fr9 (T : Array Value) (k : List Item) : Frame := (base 9).at ⟨T, []⟩ k
/-- Behind the beginning. -/
def Q1 (g : Goroutine) : Prop := ∃ T, g = G (fr9 T [.code (seqTails 7 (bodyOf Try.f9))]) [] ∧ CpT T a0 n cap h c ps
/-- The head of the loop of three. -/
def Hd (k : Nat) (g : Goroutine) : Prop := ∃ T, g = G (fr9 T [.code (L9of (bodyOf Try.f9)), .inLoop (L9of (bodyOf Try.f9)), .inBlock 2, .code (R9of (bodyOf Try.f9))]) [] ∧ CpT T a0 n cap h c ps ∧ T[7]? = some (.int .i64 k)
/-- The call of Parts. -/
def In9 (k : Nat) (W : World) (N : Nat) (g : Goroutine) (w : World) : Prop := ∃ T, CpT T a0 n cap h c ps ∧ T[7]? = some (.int .i64 k) ∧ P0 W N n (some ⟨h, 0, none⟩) c (fr9 T (.inRegion (O9of (bodyOf Try.f9)) (1 :: [2, 3]) :: K9of (bodyOf Try.f9)) :: []) g w
/-- .. behind it. -/
def Back9 (k : Nat) (g : Goroutine) : Prop := ∃ T, g = G ((base 9).at ((⟨T, []⟩ : Act).put (((O9of (bodyOf Try.f9))[1]?).bind (·.dst)) (.int .u32 (sumP ps : Nat))) (.inRegion (O9of (bodyOf Try.f9)) [2, 3] :: K9of (bodyOf Try.f9))) [] ∧ CpT T a0 n cap h c ps ∧ T[7]? = some (.int .i64 k)
/-- Behind the loop. -/
def Q2 (g : Goroutine) : Prop := ∃ T, g = G (fr9 T [.code (R9of (bodyOf Try.f9))]) [] ∧ CpT T a0 n cap h c ps
end
/-- What stands: the world below, the hidden blocks. -/
structure W9 (W : World) (X : Nat → Prop) (w : World) : Prop where
  below : Below W.heap.size W w
  rows : Veils.Rows X w
  at_ : ∀ r, X r → W.heap.size ≤ r ∧ r < w.heap.size
theorem W9.rely {W w w₁ : World} {X : Nat → Prop} (h : W9 W X w) (r : AtRel w w₁) : W9 W X w₁ := by
  obtain ⟨d, rfl⟩ := r
  exact ⟨below_at h.below d, h.rows, h.at_⟩
section
variable {a0 : Option Addr} {n cap h c : Nat} {ps : List (List UInt8)} {W : World} {N k : Nat} {X : Nat → Prop}
set_option maxRecDepth 100000 in
set_option maxHeartbeats 4000000 in
theorem cp_first (g : Goroutine) (w : World) (hg : Q1 a0 n cap h c ps g) (hF : W9 W X w) : Goes Try.prog true AtRel (DF X) (fun g w => Hd a0 n cap h c ps 0 g ∧ W9 W X w) 20 g w := by
  obtain ⟨T, rfl, sz, t0, t3, t5, t6⟩ := hg
  obtain ⟨v0, v1, v2, v3, v4, v5, v6, v7, v8, v9, v10, v11, v12, v13, v14, v15, v16, v17, v18, v19, v20, v21, v22, v23, v24, v25, v26, v27, v28, v29, v30, v31, v32, v33, v34, v35, v36, v37, v38, v39, v40, v41, v42, v43, v44, v45, v46, v47, v48, v49, v50, v51, v52, v53, v54, v55, v56, v57, v58, v59, v60, v61, v62, v63, v64, v65, rfl⟩ := array66 T sz
  simp only [List.getElem?_toArray, List.getElem?_cons_succ, List.getElem?_cons_zero, Option.some.injEq] at t0 t3 t5 t6
  subst t0 t3 t5 t6
  simp only [Hd, fr9, L9of, R9of, seqTails, seqTail, seqHead, blockOf, loopOf, bodyOf, Try.f9, Option.getD_some]
  refine Goes.step rfl (fun _ h₁ => ?_)
  replace hF := W9.rely hF h₁
  clear h₁
  rw [stepG_seq]
  simp only [goes_go]
  refine ⟨by refine df_none ?_; intro e he; simp at he, ?_⟩
  refine Goes.step rfl (fun _ h₁ => ?_)
  replace hF := W9.rely hF h₁
  clear h₁
  rw [stepG_seq]
  simp only [goes_go]
  refine ⟨by refine df_none ?_; intro e he; simp at he, ?_⟩
  refine Goes.step rfl (fun _ h₁ => ?_)
  replace hF := W9.rely hF h₁
  clear h₁
  rw [stepG_region]
  simp only [goes_go, List.size_toArray, List.length_cons, List.length_nil, Nat.reduceAdd, Nat.zero_add, List.range, List.range.loop]
  refine ⟨by refine df_none ?_; intro e he; simp at he, ?_⟩
  refine Goes.step rfl (fun _ h₁ => ?_)
  replace hF := W9.rely hF h₁
  clear h₁
  refine goes_oper_k rfl rfl (by k_ne) (fun K hK => ?_)
  go_simp
  refine hK _ _ ⟨?_, ?_⟩
  · refine df_none ?_; intro e he; have hm := mem_listed he; simp [go_sem, *] at hm
  clear hK K
  try w_num
  refine Goes.step rfl (fun _ h₁ => ?_)
  replace hF := W9.rely hF h₁
  clear h₁
  rw [stepG_region_end]
  simp only [goes_go]
  refine ⟨by refine df_none ?_; intro e he; simp at he, ?_⟩
  refine Goes.step rfl (fun _ h₁ => ?_)
  replace hF := W9.rely hF h₁
  clear h₁
  rw [stepG_block]
  simp only [goes_go]
  refine ⟨by refine df_none ?_; intro e he; simp at he, ?_⟩
  refine Goes.step rfl (fun _ h₁ => ?_)
  replace hF := W9.rely hF h₁
  clear h₁
  rw [stepG_loop]
  simp only [goes_go]
  refine ⟨by refine df_none ?_; intro e he; simp at he, ?_⟩
  refine Goes.stop fun w₁ h₁ => ?_
  exact ⟨⟨_, rfl, ⟨by simp, by simp, by simp, by simp, by simp⟩, by simp⟩, hF.rely h₁⟩
set_option maxRecDepth 100000 in
set_option maxHeartbeats 4000000 in
theorem cp_out (g : Goroutine) (w : World) (hg : Hd a0 n cap h c ps 3 g) (hF : W9 W X w) : Goes Try.prog true AtRel (DF X) (fun g w => Q2 a0 n cap h c ps g ∧ W9 W X w) 20 g w := by
  obtain ⟨T, rfl, ⟨sz, t0, t3, t5, t6⟩, t7⟩ := hg
  obtain ⟨v0, v1, v2, v3, v4, v5, v6, v7, v8, v9, v10, v11, v12, v13, v14, v15, v16, v17, v18, v19, v20, v21, v22, v23, v24, v25, v26, v27, v28, v29, v30, v31, v32, v33, v34, v35, v36, v37, v38, v39, v40, v41, v42, v43, v44, v45, v46, v47, v48, v49, v50, v51, v52, v53, v54, v55, v56, v57, v58, v59, v60, v61, v62, v63, v64, v65, rfl⟩ := array66 T sz
  simp only [List.getElem?_toArray, List.getElem?_cons_succ, List.getElem?_cons_zero, Option.some.injEq] at t0 t3 t5 t6 t7
  subst t0 t3 t5 t6 t7
  simp only [Q2, fr9, L9of, R9of, seqTails, seqTail, seqHead, blockOf, loopOf, bodyOf, Try.f9, Option.getD_some]
  refine Goes.step rfl (fun _ h₁ => ?_)
  replace hF := W9.rely hF h₁
  clear h₁
  rw [stepG_seq]
  simp only [goes_go]
  refine ⟨by refine df_none ?_; intro e he; simp at he, ?_⟩
  refine Goes.step rfl (fun _ h₁ => ?_)
  replace hF := W9.rely hF h₁
  clear h₁
  rw [stepG_seq]
  simp only [goes_go]
  refine ⟨by refine df_none ?_; intro e he; simp at he, ?_⟩
  refine Goes.step rfl (fun _ h₁ => ?_)
  replace hF := W9.rely hF h₁
  clear h₁
  rw [stepG_region]
  simp only [goes_go, List.size_toArray, List.length_cons, List.length_nil, Nat.reduceAdd, Nat.zero_add, List.range, List.range.loop]
  refine ⟨by refine df_none ?_; intro e he; simp at he, ?_⟩
  refine Goes.step rfl (fun _ h₁ => ?_)
  replace hF := W9.rely hF h₁
  clear h₁
  refine goes_oper_k rfl rfl (by k_ne) (fun K hK => ?_)
  go_simp
  refine hK _ _ ⟨?_, ?_⟩
  · refine df_none ?_; intro e he; have hm := mem_listed he; simp [go_sem, *] at hm
  clear hK K
  try w_num
  refine Goes.step rfl (fun _ h₁ => ?_)
  replace hF := W9.rely hF h₁
  clear h₁
  refine goes_oper_k rfl rfl (by k_ne) (fun K hK => ?_)
  go_simp
  refine hK _ _ ⟨?_, ?_⟩
  · refine df_none ?_; intro e he; have hm := mem_listed he; simp [go_sem, *] at hm
  clear hK K
  try w_num
  refine Goes.step rfl (fun _ h₁ => ?_)
  replace hF := W9.rely hF h₁
  clear h₁
  rw [stepG_region_end]
  simp only [goes_go]
  refine ⟨by refine df_none ?_; intro e he; simp at he, ?_⟩
  refine Goes.step rfl (fun _ h₁ => ?_)
  replace hF := W9.rely hF h₁
  clear h₁
  rw [stepG_cond (t := false) (by first | rfl | (simp [Act.eval]; omega))]
  simp only [goes_go, if_true, if_false, Bool.false_eq_true, ↓reduceIte]
  refine ⟨by refine df_none ?_; intro e he; simp at he, ?_⟩
  refine Goes.step rfl (fun _ h₁ => ?_)
  replace hF := W9.rely hF h₁
  clear h₁
  refine goes_exit rfl ?_
  refine ⟨by refine df_none ?_; intro e he; simp at he, ?_⟩
  refine Goes.stop fun w₁ h₁ => ?_
  exact ⟨⟨_, rfl, ⟨by simp, by simp, by simp, by simp, by simp⟩⟩, hF.rely h₁⟩
set_option maxRecDepth 100000 in
set_option maxHeartbeats 4000000 in
theorem cp_back (hk : k < 3) (g : Goroutine) (w : World) (hg : Back9 a0 n cap h c ps k g) (hF : W9 W X w) : Goes Try.prog true AtRel (DF X) (fun g w => Hd a0 n cap h c ps (k + 1) g ∧ W9 W X w) 20 g w := by
  obtain ⟨T, rfl, ⟨sz, t0, t3, t5, t6⟩, t7⟩ := hg
  obtain ⟨v0, v1, v2, v3, v4, v5, v6, v7, v8, v9, v10, v11, v12, v13, v14, v15, v16, v17, v18, v19, v20, v21, v22, v23, v24, v25, v26, v27, v28, v29, v30, v31, v32, v33, v34, v35, v36, v37, v38, v39, v40, v41, v42, v43, v44, v45, v46, v47, v48, v49, v50, v51, v52, v53, v54, v55, v56, v57, v58, v59, v60, v61, v62, v63, v64, v65, rfl⟩ := array66 T sz
  simp only [List.getElem?_toArray, List.getElem?_cons_succ, List.getElem?_cons_zero, Option.some.injEq] at t0 t3 t5 t6 t7
  subst t0 t3 t5 t6 t7
  obtain ⟨s, hs⟩ : ∃ s, sumP ps = s := ⟨_, rfl⟩
  have hne : ((s : Int) != (s : Int)) = false := by simp
  have hwr : IntKind.i64.wrap ((k : Int) + 1) = ((k + 1 : Nat) : Int) := by rw [IntKind.wrap_i64]; omega
  simp only [Hd, fr9, O9of, K9of, B9of, L9of, R9of, opsOf, seqTails, seqTail, seqHead, blockOf, loopOf, bodyOf, Try.f9, Option.getD_some, hs]
  walk_nrm
  refine Goes.step rfl (fun _ h₁ => ?_)
  replace hF := W9.rely hF h₁
  clear h₁
  refine goes_oper_k rfl rfl (by k_ne) (fun K hK => ?_)
  go_simp
  refine hK _ _ ⟨?_, ?_⟩
  · refine df_none ?_; intro e he; have hm := mem_listed he; simp [go_sem, *] at hm
  clear hK K
  try w_num
  refine Goes.step rfl (fun _ h₁ => ?_)
  replace hF := W9.rely hF h₁
  clear h₁
  refine goes_oper_k rfl rfl (by k_ne) (fun K hK => ?_)
  go_simp
  refine hK _ _ ⟨?_, ?_⟩
  · refine df_none ?_; intro e he; have hm := mem_listed he; simp [go_sem, *] at hm
  clear hK K
  try w_num
  refine Goes.step rfl (fun _ h₁ => ?_)
  replace hF := W9.rely hF h₁
  clear h₁
  rw [stepG_region_end]
  simp only [goes_go]
  refine ⟨by refine df_none ?_; intro e he; simp at he, ?_⟩
  refine Goes.step rfl (fun _ h₁ => ?_)
  replace hF := W9.rely hF h₁
  clear h₁
  rw [stepG_cond (t := false) (by first | rfl | (simp [Act.eval]; omega))]
  simp only [goes_go, if_true, if_false, Bool.false_eq_true, ↓reduceIte]
  refine ⟨by refine df_none ?_; intro e he; simp at he, ?_⟩
  refine Goes.step rfl (fun _ h₁ => ?_)
  replace hF := W9.rely hF h₁
  clear h₁
  rw [stepG_skip]
  simp only [goes_go]
  refine ⟨by refine df_none ?_; intro e he; simp at he, ?_⟩
  refine Goes.step rfl (fun _ h₁ => ?_)
  replace hF := W9.rely hF h₁
  clear h₁
  rw [stepG_inBlock]
  simp only [goes_go]
  refine ⟨by refine df_none ?_; intro e he; simp at he, ?_⟩
  refine Goes.step rfl (fun _ h₁ => ?_)
  replace hF := W9.rely hF h₁
  clear h₁
  rw [stepG_region]
  simp only [goes_go, List.size_toArray, List.length_cons, List.length_nil, Nat.reduceAdd, Nat.zero_add, List.range, List.range.loop]
  refine ⟨by refine df_none ?_; intro e he; simp at he, ?_⟩
  refine Goes.step rfl (fun _ h₁ => ?_)
  replace hF := W9.rely hF h₁
  clear h₁
  refine goes_oper_k rfl rfl (by k_ne) (fun K hK => ?_)
  go_simp
  refine hK _ _ ⟨?_, ?_⟩
  · refine df_none ?_; intro e he; have hm := mem_listed he; simp [go_sem, *] at hm
  clear hK K
  try w_num
  refine Goes.step rfl (fun _ h₁ => ?_)
  replace hF := W9.rely hF h₁
  clear h₁
  refine goes_oper_k rfl rfl (by k_ne) (fun K hK => ?_)
  go_simp
  refine hK _ _ ⟨?_, ?_⟩
  · refine df_none ?_; intro e he; have hm := mem_listed he; simp [go_sem, *] at hm
  clear hK K
  try w_num
  refine Goes.step rfl (fun _ h₁ => ?_)
  replace hF := W9.rely hF h₁
  clear h₁
  refine goes_oper_k rfl rfl (by k_ne) (fun K hK => ?_)
  go_simp
  refine hK _ _ ⟨?_, ?_⟩
  · refine df_none ?_; intro e he; have hm := mem_listed he; simp [go_sem, *] at hm
  clear hK K
  try w_num
  refine Goes.step rfl (fun _ h₁ => ?_)
  replace hF := W9.rely hF h₁
  clear h₁
  rw [stepG_region_end]
  simp only [goes_go]
  refine ⟨by refine df_none ?_; intro e he; simp at he, ?_⟩
  refine Goes.step rfl (fun _ h₁ => ?_)
  replace hF := W9.rely hF h₁
  clear h₁
  rw [stepG_inLoop]
  simp only [goes_go]
  refine ⟨by refine df_none ?_; intro e he; simp at he, ?_⟩
  refine Goes.stop fun w₁ h₁ => ?_
  exact ⟨⟨_, rfl, ⟨by simp, by simp, by simp, by simp, by simp [hs]⟩, by simp⟩, hF.rely h₁⟩
set_option maxRecDepth 100000 in
set_option maxHeartbeats 4000000 in
theorem cp_into (hk : k < 3) (g : Goroutine) (w : World) (hg : Hd a0 n cap h c ps k g) (hF : Below N W w ∧ w.heap.size = N) : Goes Try.prog true AtRel (DF X) (In9 a0 n cap h c ps k W N) 20 g w := by
  obtain ⟨T, rfl, ⟨sz, t0, t3, t5, t6⟩, t7⟩ := hg
  obtain ⟨v0, v1, v2, v3, v4, v5, v6, v7, v8, v9, v10, v11, v12, v13, v14, v15, v16, v17, v18, v19, v20, v21, v22, v23, v24, v25, v26, v27, v28, v29, v30, v31, v32, v33, v34, v35, v36, v37, v38, v39, v40, v41, v42, v43, v44, v45, v46, v47, v48, v49, v50, v51, v52, v53, v54, v55, v56, v57, v58, v59, v60, v61, v62, v63, v64, v65, rfl⟩ := array66 T sz
  simp only [List.getElem?_toArray, List.getElem?_cons_succ, List.getElem?_cons_zero, Option.some.injEq] at t0 t3 t5 t6 t7
  subst t0 t3 t5 t6 t7
  have hlt : (k : Int) < 3 := by omega
  simp only [In9, P0, fr9, O9of, K9of, B9of, L9of, R9of, opsOf, seqTails, seqTail, seqHead, blockOf, loopOf, bodyOf, Try.f9, Try.f38, Option.getD_some]
  refine Goes.step rfl (fun _ h₁ => ?_)
  replace hF := b0_rely hF h₁
  clear h₁
  rw [stepG_seq]
  simp only [goes_go]
  refine ⟨by refine df_none ?_; intro e he; simp at he, ?_⟩
  refine Goes.step rfl (fun _ h₁ => ?_)
  replace hF := b0_rely hF h₁
  clear h₁
  rw [stepG_seq]
  simp only [goes_go]
  refine ⟨by refine df_none ?_; intro e he; simp at he, ?_⟩
  refine Goes.step rfl (fun _ h₁ => ?_)
  replace hF := b0_rely hF h₁
  clear h₁
  rw [stepG_region]
  simp only [goes_go, List.size_toArray, List.length_cons, List.length_nil, Nat.reduceAdd, Nat.zero_add, List.range, List.range.loop]
  refine ⟨by refine df_none ?_; intro e he; simp at he, ?_⟩
  refine Goes.step rfl (fun _ h₁ => ?_)
  replace hF := b0_rely hF h₁
  clear h₁
  refine goes_oper_k rfl rfl (by k_ne) (fun K hK => ?_)
  go_simp
  refine hK _ _ ⟨?_, ?_⟩
  · refine df_none ?_; intro e he; have hm := mem_listed he; simp [go_sem, *] at hm
  clear hK K
  try w_num
  refine Goes.step rfl (fun _ h₁ => ?_)
  replace hF := b0_rely hF h₁
  clear h₁
  refine goes_oper_k rfl rfl (by k_ne) (fun K hK => ?_)
  go_simp
  refine hK _ _ ⟨?_, ?_⟩
  · refine df_none ?_; intro e he; have hm := mem_listed he; simp [go_sem, *] at hm
  clear hK K
  try w_num
  refine Goes.step rfl (fun _ h₁ => ?_)
  replace hF := b0_rely hF h₁
  clear h₁
  rw [stepG_region_end]
  simp only [goes_go]
  refine ⟨by refine df_none ?_; intro e he; simp at he, ?_⟩
  refine Goes.step rfl (fun _ h₁ => ?_)
  replace hF := b0_rely hF h₁
  clear h₁
  rw [stepG_cond (t := true) (by first | rfl | (simp [Act.eval]; omega))]
  simp only [goes_go, if_true, if_false, Bool.false_eq_true, ↓reduceIte]
  refine ⟨by refine df_none ?_; intro e he; simp at he, ?_⟩
  refine Goes.step rfl (fun _ h₁ => ?_)
  replace hF := b0_rely hF h₁
  clear h₁
  rw [stepG_skip]
  simp only [goes_go]
  refine ⟨by refine df_none ?_; intro e he; simp at he, ?_⟩
  refine Goes.step rfl (fun _ h₁ => ?_)
  replace hF := b0_rely hF h₁
  clear h₁
  rw [stepG_seq]
  simp only [goes_go]
  refine ⟨by refine df_none ?_; intro e he; simp at he, ?_⟩
  refine Goes.step rfl (fun _ h₁ => ?_)
  replace hF := b0_rely hF h₁
  clear h₁
  rw [stepG_block]
  simp only [goes_go]
  refine ⟨by refine df_none ?_; intro e he; simp at he, ?_⟩
  refine Goes.step rfl (fun _ h₁ => ?_)
  replace hF := b0_rely hF h₁
  clear h₁
  rw [stepG_seq]
  simp only [goes_go]
  refine ⟨by refine df_none ?_; intro e he; simp at he, ?_⟩
  refine Goes.step rfl (fun _ h₁ => ?_)
  replace hF := b0_rely hF h₁
  clear h₁
  rw [stepG_region]
  simp only [goes_go, List.size_toArray, List.length_cons, List.length_nil, Nat.reduceAdd, Nat.zero_add, List.range, List.range.loop]
  refine ⟨by refine df_none ?_; intro e he; simp at he, ?_⟩
  refine Goes.step rfl (fun _ h₁ => ?_)
  replace hF := b0_rely hF h₁
  clear h₁
  refine goes_oper_k rfl rfl (by k_ne) (fun K hK => ?_)
  go_simp
  refine hK _ _ ⟨?_, ?_⟩
  · refine df_none ?_; intro e he; have hm := mem_listed he; simp [go_sem, *] at hm
  clear hK K
  try w_num
  refine Goes.step rfl (fun _ h₁ => ?_)
  replace hF := b0_rely hF h₁
  clear h₁
  refine goes_call rfl rfl (by k_ne) rfl Try.func38 (by rfl) rfl ⟨by refine df_none ?_; intro e he; simp at he, ?_⟩
  walk_nrmf Try.f38
  refine Goes.stop fun w₁ h₁ => ?_
  exact ⟨_, ⟨by simp, by simp, by simp, by simp, by simp⟩, by simp, rfl, b0_rely hF h₁⟩
end
end Go.Proofs.Ytoipkpndfgcmcaa.Crew
