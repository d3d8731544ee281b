/-
  (*WaitGroup).Add(1) and Wait, as the starter calls them beside its workers and older ones. The conditions stand in each theorem.
-/
import Derived.Test.YtoipkpndfgcmcaaCvLib
namespace Go.Proofs.Ytoipkpndfgcmcaa.Crew
open Go Go.Conc Go.ConcN Go.RowKit Go.Conc.Lib Go.ConcR.Gen Go.ConcN.Gen
open Go.ConcR (KK wgBlock WgAt stA smA rd wr mk Payload DC0)
set_option linter.unusedVariables false
set_option linter.unusedSectionVars false
set_option linter.unusedSimpArgs false
section
variable {L : Lay} {X : Nat → Prop} {Lw : Nat}
theorem dq_none {w : World} {es : Array Event} (h : ∀ e ∈ es, False) : DQ L X Lw w w es := ⟨rfl, rfl, rfl, Nat.le_refl _, fun _ _ _ => rfl, fun _ h => h, fun e he => (h e he).elim⟩
theorem fq_rely {F : World → Prop} (hF2 : ∀ w w', RQ L w w' → F w → F w') {w w₁ : World} (h : F w ∧ WgLive L.ty L.Wg w) (r : RQ L w w₁) : F w₁ ∧ WgLive L.ty L.Wg w₁ := ⟨hF2 _ _ r h.1, r.live h.2⟩
theorem evq_said_read {w w' : World} {a : Addr} (h : a.block = L.Wg) : EvQ L X Lw w w' ⟨.mark (.read a), false, true⟩ := .inr (.inr ⟨a, .inl rfl, h⟩)
theorem evq_said_write {w w' : World} {a : Addr} (h : a.block = L.Wg) : EvQ L X Lw w w' ⟨.mark (.write a), false, true⟩ := .inr (.inr ⟨a, .inr rfl, h⟩)
theorem setWg_rq (hL : L.Ok) {w : World} {st sm : Int} (h : WgAt L.ty L.Wg w st sm) (v : Int) : RQ L w (w.setCell (stA L.Wg) (.int .u64 v)) := RQ.of_wg hL (aside_setCell w (stA L.Wg) _) ⟨_, _, h.setSt v⟩
theorem setSm_rq (hL : L.Ok) {w : World} {st sm : Int} (h : WgAt L.ty L.Wg w st sm) (v : Int) : RQ L w (w.setCell (smA L.Wg) (.int .u32 v)) := RQ.of_wg hL (aside_setCell w (smA L.Wg) _) ⟨_, _, h.setSm v⟩
end
section
variable {L : Lay} {X : Nat → Prop} {M K : Nat} {val : Nat → Value} {lk : WgLink} {j Lw : Nat} {Next : Nat → Goroutine → World → Prop} {F : World → Prop}
  {b₀ : Frame} {a₀ : Act} {ops₀ : Array Oper} {i₀ : Nat} {rest₀ : List Nat} {k₀ : List Item} {cs : List Frame} {mT : Nat}
set_option maxRecDepth 100000 in
set_option maxHeartbeats 8000000 in
theorem addQ {P : Program} (H : WgLib P lk) (hL : L.Ok) (hF2 : ∀ w w', RQ L w w' → F w → F w')
    (hT : ∀ w, F w → WgLive L.ty L.Wg w → GQ P L X Lw (AtGo P L X M K val j Next) mT (G (b₀.at (a₀.put ((ops₀[i₀]?).bind (·.dst)) (.tuple #[])) (.inRegion ops₀ rest₀ :: k₀)) cs) w)
    (w : World) (hF : F w ∧ WgLive L.ty L.Wg w) :
    GQ P L X Lw (AtOff P L X M K val Lw j Next) 12
      (G ((base lk.add).at ⟨#[.pointer (some ⟨L.Wg, 0, none⟩), .int .i64 1, undef, undef, undef, undef, undef, undef, undef, undef, undef, undef, undef, undef, undef, undef, undef, undef, undef, undef, undef, undef, undef, undef, undef, undef, undef, undef, undef, undef, undef, undef, undef, undef, undef, undef, undef, undef, undef, undef, undef, undef, undef, undef, undef, undef, undef, undef, undef, undef, undef, undef, undef, undef, undef, undef, undef, undef, undef, undef, undef, undef, undef, undef, undef, undef, undef, undef, undef, undef, undef, undef, undef, undef, undef, undef, undef, undef, undef, undef, undef, undef, undef, undef, undef, undef, undef, undef, undef, undef, undef, undef, undef, undef, undef, undef, undef, undef, undef, undef, undef, undef, undef, undef, undef, undef, undef, undef, undef, undef, undef, undef, undef, undef, undef, undef, undef], []⟩ [.code (body_add lk)]) (b₀.at a₀ (.inRegion ops₀ (i₀ :: rest₀) :: k₀) :: cs)) w := by
  lib_facts
  simp only [GQ, body_add, addFn, Option.getD_some]
  repeat (first
    | (refine Goes.step rfl (fun _ h₁ => ?_)
       replace hF := (fq_rely hF2) hF h₁
       clear h₁
       rw [stepG_seq]
       simp only [goes_go]
       refine ⟨by refine dq_none ?_; intro e he; simp at he, ?_⟩)
    | (refine Goes.step rfl (fun _ h₁ => ?_)
       replace hF := (fq_rely hF2) hF h₁
       clear h₁
       rw [stepG_region_end]
       simp only [goes_go]
       refine ⟨by refine dq_none ?_; intro e he; simp at he, ?_⟩)
    | (refine Goes.step rfl (fun _ h₁ => ?_)
       replace hF := (fq_rely hF2) hF h₁
       clear h₁
       rw [stepG_skip]
       simp only [goes_go]
       refine ⟨by refine dq_none ?_; intro e he; simp at he, ?_⟩)
    | (refine Goes.step rfl (fun _ h₁ => ?_)
       replace hF := (fq_rely hF2) hF h₁
       clear h₁
       rw [stepG_block]
       simp only [goes_go]
       refine ⟨by refine dq_none ?_; intro e he; simp at he, ?_⟩)
    | (refine Goes.step rfl (fun _ h₁ => ?_)
       replace hF := (fq_rely hF2) hF h₁
       clear h₁
       rw [stepG_loop]
       simp only [goes_go]
       refine ⟨by refine dq_none ?_; intro e he; simp at he, ?_⟩)
    | (refine Goes.step rfl (fun _ h₁ => ?_)
       replace hF := (fq_rely hF2) hF h₁
       clear h₁
       rw [stepG_inLoop]
       simp only [goes_go]
       refine ⟨by refine dq_none ?_; intro e he; simp at he, ?_⟩)
    | (refine Goes.step rfl (fun _ h₁ => ?_)
       replace hF := (fq_rely hF2) hF h₁
       clear h₁
       rw [stepG_inBlock]
       simp only [goes_go]
       refine ⟨by refine dq_none ?_; intro e he; simp at he, ?_⟩)
    | (refine Goes.step rfl (fun _ h₁ => ?_)
       replace hF := (fq_rely hF2) hF h₁
       clear h₁
       rw [stepG_label]
       simp only [goes_go]
       refine ⟨by refine dq_none ?_; intro e he; simp at he, ?_⟩)
    | (refine Goes.step rfl (fun _ h₁ => ?_)
       replace hF := (fq_rely hF2) hF h₁
       clear h₁
       rw [stepG_region]
       simp only [goes_go, List.size_toArray, List.length_cons, List.length_nil, Nat.reduceAdd, Nat.zero_add, List.range, List.range.loop]
       refine ⟨by refine dq_none ?_; intro e he; simp at he, ?_⟩)
    | (refine Goes.step rfl (fun _ h₁ => ?_)
       replace hF := (fq_rely hF2) hF h₁
       clear h₁
       rw [stepG_unwanted rfl rfl]
       simp only [goes_go]
       refine ⟨by refine dq_none ?_; intro e he; simp at he, ?_⟩
       walk_nrm)
    | (refine Goes.step rfl (fun _ h₁ => ?_)
       replace hF := (fq_rely hF2) hF h₁
       clear h₁
       rw [stepG_cond (t := true) rfl]
       simp only [goes_go, if_true, if_false, Bool.false_eq_true, ↓reduceIte]
       refine ⟨by refine dq_none ?_; intro e he; simp at he, ?_⟩)
    | (refine Goes.step rfl (fun _ h₁ => ?_)
       replace hF := (fq_rely hF2) hF h₁
       clear h₁
       rw [stepG_cond (t := false) rfl]
       simp only [goes_go, if_true, if_false, Bool.false_eq_true, ↓reduceIte]
       refine ⟨by refine dq_none ?_; intro e he; simp at he, ?_⟩)
    | (refine Goes.step rfl (fun _ h₁ => ?_)
       replace hF := (fq_rely hF2) hF h₁
       clear h₁
       fail_if_success (rw [stepG_ret'])
       fail_if_success (rw [stepG_end])
       refine goes_oper_k rfl rfl (by k_ne) (fun K hK => ?_)
       go_simp
       refine hK _ _ ⟨?_, ?_⟩
       · refine dq_none ?_; intro e he; have hm := mem_listed he; simp [go_sem, *] at hm
       clear hK K
       try w_num)
    )
  refine Goes.stop (fun w₁ h₁ => ?_)
  replace hF := fq_rely hF2 hF h₁
  clear h₁
  refine ⟨rfl, _, stepG_mark0 .disable (by simp) rfl rfl (by k_ne) rfl H.f_disable (x_disable_n lk) (x_disable_b lk) (x_disable_x lk) (x_disable_f lk), 40, ?_⟩
  simp only [GQ]
  walk_nrm
  repeat (first
    | (refine Goes.step rfl (fun _ h₁ => ?_)
       replace hF := (fq_rely hF2) hF h₁
       clear h₁
       rw [stepG_seq]
       simp only [goes_go]
       refine ⟨by refine dq_none ?_; intro e he; simp at he, ?_⟩)
    | (refine Goes.step rfl (fun _ h₁ => ?_)
       replace hF := (fq_rely hF2) hF h₁
       clear h₁
       rw [stepG_region_end]
       simp only [goes_go]
       refine ⟨by refine dq_none ?_; intro e he; simp at he, ?_⟩)
    | (refine Goes.step rfl (fun _ h₁ => ?_)
       replace hF := (fq_rely hF2) hF h₁
       clear h₁
       rw [stepG_skip]
       simp only [goes_go]
       refine ⟨by refine dq_none ?_; intro e he; simp at he, ?_⟩)
    | (refine Goes.step rfl (fun _ h₁ => ?_)
       replace hF := (fq_rely hF2) hF h₁
       clear h₁
       rw [stepG_block]
       simp only [goes_go]
       refine ⟨by refine dq_none ?_; intro e he; simp at he, ?_⟩)
    | (refine Goes.step rfl (fun _ h₁ => ?_)
       replace hF := (fq_rely hF2) hF h₁
       clear h₁
       rw [stepG_loop]
       simp only [goes_go]
       refine ⟨by refine dq_none ?_; intro e he; simp at he, ?_⟩)
    | (refine Goes.step rfl (fun _ h₁ => ?_)
       replace hF := (fq_rely hF2) hF h₁
       clear h₁
       rw [stepG_inLoop]
       simp only [goes_go]
       refine ⟨by refine dq_none ?_; intro e he; simp at he, ?_⟩)
    | (refine Goes.step rfl (fun _ h₁ => ?_)
       replace hF := (fq_rely hF2) hF h₁
       clear h₁
       rw [stepG_inBlock]
       simp only [goes_go]
       refine ⟨by refine dq_none ?_; intro e he; simp at he, ?_⟩)
    | (refine Goes.step rfl (fun _ h₁ => ?_)
       replace hF := (fq_rely hF2) hF h₁
       clear h₁
       rw [stepG_label]
       simp only [goes_go]
       refine ⟨by refine dq_none ?_; intro e he; simp at he, ?_⟩)
    | (refine Goes.step rfl (fun _ h₁ => ?_)
       replace hF := (fq_rely hF2) hF h₁
       clear h₁
       rw [stepG_region]
       simp only [goes_go, List.size_toArray, List.length_cons, List.length_nil, Nat.reduceAdd, Nat.zero_add, List.range, List.range.loop]
       refine ⟨by refine dq_none ?_; intro e he; simp at he, ?_⟩)
    | (refine Goes.step rfl (fun _ h₁ => ?_)
       replace hF := (fq_rely hF2) hF h₁
       clear h₁
       rw [stepG_unwanted rfl rfl]
       simp only [goes_go]
       refine ⟨by refine dq_none ?_; intro e he; simp at he, ?_⟩
       walk_nrm)
    | (refine Goes.step rfl (fun _ h₁ => ?_)
       replace hF := (fq_rely hF2) hF h₁
       clear h₁
       rw [stepG_cond (t := true) rfl]
       simp only [goes_go, if_true, if_false, Bool.false_eq_true, ↓reduceIte]
       refine ⟨by refine dq_none ?_; intro e he; simp at he, ?_⟩)
    | (refine Goes.step rfl (fun _ h₁ => ?_)
       replace hF := (fq_rely hF2) hF h₁
       clear h₁
       rw [stepG_cond (t := false) rfl]
       simp only [goes_go, if_true, if_false, Bool.false_eq_true, ↓reduceIte]
       refine ⟨by refine dq_none ?_; intro e he; simp at he, ?_⟩)
    | (refine Goes.step rfl (fun _ h₁ => ?_)
       replace hF := (fq_rely hF2) hF h₁
       clear h₁
       fail_if_success (rw [stepG_ret'])
       fail_if_success (rw [stepG_end])
       refine goes_oper_k rfl rfl (by k_ne) (fun K hK => ?_)
       go_simp
       refine hK _ _ ⟨?_, ?_⟩
       · refine dq_none ?_; intro e he; have hm := mem_listed he; simp [go_sem, *] at hm
       clear hK K
       try w_num)
    )
  refine Goes.step rfl (fun _ h₁ => ?_)
  replace hF := (fq_rely hF2) hF h₁
  clear h₁
  rw [stepG_defer rfl rfl (by k_ne) rfl]
  simp only [goes_go]
  refine ⟨by refine dq_none ?_; intro e he; simp at he, ?_⟩
  walk_nrm
  repeat (first
    | (refine Goes.step rfl (fun _ h₁ => ?_)
       replace hF := (fq_rely hF2) hF h₁
       clear h₁
       rw [stepG_seq]
       simp only [goes_go]
       refine ⟨by refine dq_none ?_; intro e he; simp at he, ?_⟩)
    | (refine Goes.step rfl (fun _ h₁ => ?_)
       replace hF := (fq_rely hF2) hF h₁
       clear h₁
       rw [stepG_region_end]
       simp only [goes_go]
       refine ⟨by refine dq_none ?_; intro e he; simp at he, ?_⟩)
    | (refine Goes.step rfl (fun _ h₁ => ?_)
       replace hF := (fq_rely hF2) hF h₁
       clear h₁
       rw [stepG_skip]
       simp only [goes_go]
       refine ⟨by refine dq_none ?_; intro e he; simp at he, ?_⟩)
    | (refine Goes.step rfl (fun _ h₁ => ?_)
       replace hF := (fq_rely hF2) hF h₁
       clear h₁
       rw [stepG_block]
       simp only [goes_go]
       refine ⟨by refine dq_none ?_; intro e he; simp at he, ?_⟩)
    | (refine Goes.step rfl (fun _ h₁ => ?_)
       replace hF := (fq_rely hF2) hF h₁
       clear h₁
       rw [stepG_loop]
       simp only [goes_go]
       refine ⟨by refine dq_none ?_; intro e he; simp at he, ?_⟩)
    | (refine Goes.step rfl (fun _ h₁ => ?_)
       replace hF := (fq_rely hF2) hF h₁
       clear h₁
       rw [stepG_inLoop]
       simp only [goes_go]
       refine ⟨by refine dq_none ?_; intro e he; simp at he, ?_⟩)
    | (refine Goes.step rfl (fun _ h₁ => ?_)
       replace hF := (fq_rely hF2) hF h₁
       clear h₁
       rw [stepG_inBlock]
       simp only [goes_go]
       refine ⟨by refine dq_none ?_; intro e he; simp at he, ?_⟩)
    | (refine Goes.step rfl (fun _ h₁ => ?_)
       replace hF := (fq_rely hF2) hF h₁
       clear h₁
       rw [stepG_label]
       simp only [goes_go]
       refine ⟨by refine dq_none ?_; intro e he; simp at he, ?_⟩)
    | (refine Goes.step rfl (fun _ h₁ => ?_)
       replace hF := (fq_rely hF2) hF h₁
       clear h₁
       rw [stepG_region]
       simp only [goes_go, List.size_toArray, List.length_cons, List.length_nil, Nat.reduceAdd, Nat.zero_add, List.range, List.range.loop]
       refine ⟨by refine dq_none ?_; intro e he; simp at he, ?_⟩)
    | (refine Goes.step rfl (fun _ h₁ => ?_)
       replace hF := (fq_rely hF2) hF h₁
       clear h₁
       rw [stepG_unwanted rfl rfl]
       simp only [goes_go]
       refine ⟨by refine dq_none ?_; intro e he; simp at he, ?_⟩
       walk_nrm)
    | (refine Goes.step rfl (fun _ h₁ => ?_)
       replace hF := (fq_rely hF2) hF h₁
       clear h₁
       rw [stepG_cond (t := true) rfl]
       simp only [goes_go, if_true, if_false, Bool.false_eq_true, ↓reduceIte]
       refine ⟨by refine dq_none ?_; intro e he; simp at he, ?_⟩)
    | (refine Goes.step rfl (fun _ h₁ => ?_)
       replace hF := (fq_rely hF2) hF h₁
       clear h₁
       rw [stepG_cond (t := false) rfl]
       simp only [goes_go, if_true, if_false, Bool.false_eq_true, ↓reduceIte]
       refine ⟨by refine dq_none ?_; intro e he; simp at he, ?_⟩)
    | (refine Goes.step rfl (fun _ h₁ => ?_)
       replace hF := (fq_rely hF2) hF h₁
       clear h₁
       fail_if_success (rw [stepG_ret'])
       fail_if_success (rw [stepG_end])
       refine goes_oper_k rfl rfl (by k_ne) (fun K hK => ?_)
       go_simp
       refine hK _ _ ⟨?_, ?_⟩
       · refine dq_none ?_; intro e he; have hm := mem_listed he; simp [go_sem, *] at hm
       clear hK K
       try w_num)
    )
  refine Goes.step rfl (fun _ h₁ => ?_)
  replace hF := (fq_rely hF2) hF h₁
  clear h₁
  rw [stepG_entry_pure (.bool false) rfl rfl (by k_ne) rfl H.f_inBubble (x_inBubble_n lk) (x_inBubble_b lk) (x_inBubble_x lk) (x_inBubble_f lk)]
  simp only [goes_go]
  refine ⟨by refine dq_none ?_; intro e he; simp at he, ?_⟩
  walk_nrm
  repeat (first
    | (refine Goes.step rfl (fun _ h₁ => ?_)
       replace hF := (fq_rely hF2) hF h₁
       clear h₁
       rw [stepG_seq]
       simp only [goes_go]
       refine ⟨by refine dq_none ?_; intro e he; simp at he, ?_⟩)
    | (refine Goes.step rfl (fun _ h₁ => ?_)
       replace hF := (fq_rely hF2) hF h₁
       clear h₁
       rw [stepG_region_end]
       simp only [goes_go]
       refine ⟨by refine dq_none ?_; intro e he; simp at he, ?_⟩)
    | (refine Goes.step rfl (fun _ h₁ => ?_)
       replace hF := (fq_rely hF2) hF h₁
       clear h₁
       rw [stepG_skip]
       simp only [goes_go]
       refine ⟨by refine dq_none ?_; intro e he; simp at he, ?_⟩)
    | (refine Goes.step rfl (fun _ h₁ => ?_)
       replace hF := (fq_rely hF2) hF h₁
       clear h₁
       rw [stepG_block]
       simp only [goes_go]
       refine ⟨by refine dq_none ?_; intro e he; simp at he, ?_⟩)
    | (refine Goes.step rfl (fun _ h₁ => ?_)
       replace hF := (fq_rely hF2) hF h₁
       clear h₁
       rw [stepG_loop]
       simp only [goes_go]
       refine ⟨by refine dq_none ?_; intro e he; simp at he, ?_⟩)
    | (refine Goes.step rfl (fun _ h₁ => ?_)
       replace hF := (fq_rely hF2) hF h₁
       clear h₁
       rw [stepG_inLoop]
       simp only [goes_go]
       refine ⟨by refine dq_none ?_; intro e he; simp at he, ?_⟩)
    | (refine Goes.step rfl (fun _ h₁ => ?_)
       replace hF := (fq_rely hF2) hF h₁
       clear h₁
       rw [stepG_inBlock]
       simp only [goes_go]
       refine ⟨by refine dq_none ?_; intro e he; simp at he, ?_⟩)
    | (refine Goes.step rfl (fun _ h₁ => ?_)
       replace hF := (fq_rely hF2) hF h₁
       clear h₁
       rw [stepG_label]
       simp only [goes_go]
       refine ⟨by refine dq_none ?_; intro e he; simp at he, ?_⟩)
    | (refine Goes.step rfl (fun _ h₁ => ?_)
       replace hF := (fq_rely hF2) hF h₁
       clear h₁
       rw [stepG_region]
       simp only [goes_go, List.size_toArray, List.length_cons, List.length_nil, Nat.reduceAdd, Nat.zero_add, List.range, List.range.loop]
       refine ⟨by refine dq_none ?_; intro e he; simp at he, ?_⟩)
    | (refine Goes.step rfl (fun _ h₁ => ?_)
       replace hF := (fq_rely hF2) hF h₁
       clear h₁
       rw [stepG_unwanted rfl rfl]
       simp only [goes_go]
       refine ⟨by refine dq_none ?_; intro e he; simp at he, ?_⟩
       walk_nrm)
    | (refine Goes.step rfl (fun _ h₁ => ?_)
       replace hF := (fq_rely hF2) hF h₁
       clear h₁
       rw [stepG_cond (t := true) rfl]
       simp only [goes_go, if_true, if_false, Bool.false_eq_true, ↓reduceIte]
       refine ⟨by refine dq_none ?_; intro e he; simp at he, ?_⟩)
    | (refine Goes.step rfl (fun _ h₁ => ?_)
       replace hF := (fq_rely hF2) hF h₁
       clear h₁
       rw [stepG_cond (t := false) rfl]
       simp only [goes_go, if_true, if_false, Bool.false_eq_true, ↓reduceIte]
       refine ⟨by refine dq_none ?_; intro e he; simp at he, ?_⟩)
    | (refine Goes.step rfl (fun _ h₁ => ?_)
       replace hF := (fq_rely hF2) hF h₁
       clear h₁
       fail_if_success (rw [stepG_ret'])
       fail_if_success (rw [stepG_end])
       refine goes_oper_k rfl rfl (by k_ne) (fun K hK => ?_)
       go_simp
       refine hK _ _ ⟨?_, ?_⟩
       · refine dq_none ?_; intro e he; have hm := mem_listed he; simp [go_sem, *] at hm
       clear hK K
       try w_num)
    )
  refine Goes.step rfl (fun _ h₁ => ?_)
  replace hF := (fq_rely hF2) hF h₁
  clear h₁
  refine goes_call rfl rfl (by k_ne) rfl H.f_uAdd (nm_uAdd lk) rfl ⟨by refine dq_none ?_; intro e he; simp at he, ?_⟩
  walk_nrmf uAddFn
  repeat (first
    | (refine Goes.step rfl (fun _ h₁ => ?_)
       replace hF := (fq_rely hF2) hF h₁
       clear h₁
       rw [stepG_seq]
       simp only [goes_go]
       refine ⟨by refine dq_none ?_; intro e he; simp at he, ?_⟩)
    | (refine Goes.step rfl (fun _ h₁ => ?_)
       replace hF := (fq_rely hF2) hF h₁
       clear h₁
       rw [stepG_region_end]
       simp only [goes_go]
       refine ⟨by refine dq_none ?_; intro e he; simp at he, ?_⟩)
    | (refine Goes.step rfl (fun _ h₁ => ?_)
       replace hF := (fq_rely hF2) hF h₁
       clear h₁
       rw [stepG_skip]
       simp only [goes_go]
       refine ⟨by refine dq_none ?_; intro e he; simp at he, ?_⟩)
    | (refine Goes.step rfl (fun _ h₁ => ?_)
       replace hF := (fq_rely hF2) hF h₁
       clear h₁
       rw [stepG_block]
       simp only [goes_go]
       refine ⟨by refine dq_none ?_; intro e he; simp at he, ?_⟩)
    | (refine Goes.step rfl (fun _ h₁ => ?_)
       replace hF := (fq_rely hF2) hF h₁
       clear h₁
       rw [stepG_loop]
       simp only [goes_go]
       refine ⟨by refine dq_none ?_; intro e he; simp at he, ?_⟩)
    | (refine Goes.step rfl (fun _ h₁ => ?_)
       replace hF := (fq_rely hF2) hF h₁
       clear h₁
       rw [stepG_inLoop]
       simp only [goes_go]
       refine ⟨by refine dq_none ?_; intro e he; simp at he, ?_⟩)
    | (refine Goes.step rfl (fun _ h₁ => ?_)
       replace hF := (fq_rely hF2) hF h₁
       clear h₁
       rw [stepG_inBlock]
       simp only [goes_go]
       refine ⟨by refine dq_none ?_; intro e he; simp at he, ?_⟩)
    | (refine Goes.step rfl (fun _ h₁ => ?_)
       replace hF := (fq_rely hF2) hF h₁
       clear h₁
       rw [stepG_label]
       simp only [goes_go]
       refine ⟨by refine dq_none ?_; intro e he; simp at he, ?_⟩)
    | (refine Goes.step rfl (fun _ h₁ => ?_)
       replace hF := (fq_rely hF2) hF h₁
       clear h₁
       rw [stepG_region]
       simp only [goes_go, List.size_toArray, List.length_cons, List.length_nil, Nat.reduceAdd, Nat.zero_add, List.range, List.range.loop]
       refine ⟨by refine dq_none ?_; intro e he; simp at he, ?_⟩)
    | (refine Goes.step rfl (fun _ h₁ => ?_)
       replace hF := (fq_rely hF2) hF h₁
       clear h₁
       rw [stepG_unwanted rfl rfl]
       simp only [goes_go]
       refine ⟨by refine dq_none ?_; intro e he; simp at he, ?_⟩
       walk_nrm)
    | (refine Goes.step rfl (fun _ h₁ => ?_)
       replace hF := (fq_rely hF2) hF h₁
       clear h₁
       rw [stepG_cond (t := true) rfl]
       simp only [goes_go, if_true, if_false, Bool.false_eq_true, ↓reduceIte]
       refine ⟨by refine dq_none ?_; intro e he; simp at he, ?_⟩)
    | (refine Goes.step rfl (fun _ h₁ => ?_)
       replace hF := (fq_rely hF2) hF h₁
       clear h₁
       rw [stepG_cond (t := false) rfl]
       simp only [goes_go, if_true, if_false, Bool.false_eq_true, ↓reduceIte]
       refine ⟨by refine dq_none ?_; intro e he; simp at he, ?_⟩)
    | (refine Goes.step rfl (fun _ h₁ => ?_)
       replace hF := (fq_rely hF2) hF h₁
       clear h₁
       fail_if_success (rw [stepG_ret'])
       fail_if_success (rw [stepG_end])
       refine goes_oper_k rfl rfl (by k_ne) (fun K hK => ?_)
       go_simp
       refine hK _ _ ⟨?_, ?_⟩
       · refine dq_none ?_; intro e he; have hm := mem_listed he; simp [go_sem, *] at hm
       clear hK K
       try w_num)
    )
  refine Goes.stop (fun w₂ h₂ => ?_)
  replace hF := fq_rely hF2 hF h₂
  clear h₂
  refine ⟨rfl, fun v hv hw => ?_⟩
  rcases Nat.eq_zero_or_pos v with rfl | hvp
  · -- the count is now 1
    replace hw : WgAt L.ty L.Wg w₂ 0 0 := by simpa using hw
    have z : (((0 : Nat) : Int) + 1) * KK = KK := by simp
    rw [z]
    have e0 : IntKind.u64.wrap (0 + 4294967296) = KK := by decide
    refine ⟨_, (stepG_add_atomic rfl rfl (by k_ne) rfl H.f_addU64 (x_addU64_n lk) (x_addU64_b lk) (x_addU64_x lk) .u64 (x_addU64_f lk) rfl rfl hw.cellSt (hw.thaw 0)).trans (by rw [e0]; rfl), 110, ?_⟩
    replace hF : F (w₂.setCell (stA L.Wg) (.int .u64 KK)) ∧ WgLive L.ty L.Wg (w₂.setCell (stA L.Wg) (.int .u64 KK)) := ⟨hF2 _ _ (setWg_rq hL hw KK) hF.1, ⟨_, _, hw.setSt _⟩⟩
    clear hw
    simp only [GQ, KK] at hF ⊢
    walk_nrm
    repeat (first
      | (refine Goes.step rfl (fun _ h₁ => ?_)
         replace hF := (fq_rely hF2) hF h₁
         clear h₁
         rw [stepG_seq]
         simp only [goes_go]
         refine ⟨by refine dq_none ?_; intro e he; simp at he, ?_⟩)
      | (refine Goes.step rfl (fun _ h₁ => ?_)
         replace hF := (fq_rely hF2) hF h₁
         clear h₁
         rw [stepG_region_end]
         simp only [goes_go]
         refine ⟨by refine dq_none ?_; intro e he; simp at he, ?_⟩)
      | (refine Goes.step rfl (fun _ h₁ => ?_)
         replace hF := (fq_rely hF2) hF h₁
         clear h₁
         rw [stepG_skip]
         simp only [goes_go]
         refine ⟨by refine dq_none ?_; intro e he; simp at he, ?_⟩)
      | (refine Goes.step rfl (fun _ h₁ => ?_)
         replace hF := (fq_rely hF2) hF h₁
         clear h₁
         rw [stepG_block]
         simp only [goes_go]
         refine ⟨by refine dq_none ?_; intro e he; simp at he, ?_⟩)
      | (refine Goes.step rfl (fun _ h₁ => ?_)
         replace hF := (fq_rely hF2) hF h₁
         clear h₁
         rw [stepG_loop]
         simp only [goes_go]
         refine ⟨by refine dq_none ?_; intro e he; simp at he, ?_⟩)
      | (refine Goes.step rfl (fun _ h₁ => ?_)
         replace hF := (fq_rely hF2) hF h₁
         clear h₁
         rw [stepG_inLoop]
         simp only [goes_go]
         refine ⟨by refine dq_none ?_; intro e he; simp at he, ?_⟩)
      | (refine Goes.step rfl (fun _ h₁ => ?_)
         replace hF := (fq_rely hF2) hF h₁
         clear h₁
         rw [stepG_inBlock]
         simp only [goes_go]
         refine ⟨by refine dq_none ?_; intro e he; simp at he, ?_⟩)
      | (refine Goes.step rfl (fun _ h₁ => ?_)
         replace hF := (fq_rely hF2) hF h₁
         clear h₁
         rw [stepG_label]
         simp only [goes_go]
         refine ⟨by refine dq_none ?_; intro e he; simp at he, ?_⟩)
      | (refine Goes.step rfl (fun _ h₁ => ?_)
         replace hF := (fq_rely hF2) hF h₁
         clear h₁
         rw [stepG_region]
         simp only [goes_go, List.size_toArray, List.length_cons, List.length_nil, Nat.reduceAdd, Nat.zero_add, List.range, List.range.loop]
         refine ⟨by refine dq_none ?_; intro e he; simp at he, ?_⟩)
      | (refine Goes.step rfl (fun _ h₁ => ?_)
         replace hF := (fq_rely hF2) hF h₁
         clear h₁
         rw [stepG_unwanted rfl rfl]
         simp only [goes_go]
         refine ⟨by refine dq_none ?_; intro e he; simp at he, ?_⟩
         walk_nrm)
      | (refine Goes.step rfl (fun _ h₁ => ?_)
         replace hF := (fq_rely hF2) hF h₁
         clear h₁
         rw [stepG_cond (t := true) rfl]
         simp only [goes_go, if_true, if_false, Bool.false_eq_true, ↓reduceIte]
         refine ⟨by refine dq_none ?_; intro e he; simp at he, ?_⟩)
      | (refine Goes.step rfl (fun _ h₁ => ?_)
         replace hF := (fq_rely hF2) hF h₁
         clear h₁
         rw [stepG_cond (t := false) rfl]
         simp only [goes_go, if_true, if_false, Bool.false_eq_true, ↓reduceIte]
         refine ⟨by refine dq_none ?_; intro e he; simp at he, ?_⟩)
      | (refine Goes.step rfl (fun _ h₁ => ?_)
         replace hF := (fq_rely hF2) hF h₁
         clear h₁
         fail_if_success (rw [stepG_ret'])
         fail_if_success (rw [stepG_end])
         refine goes_oper_k rfl rfl (by k_ne) (fun K hK => ?_)
         go_simp
         refine hK _ _ ⟨?_, ?_⟩
         · refine dq_none ?_; intro e he; have hm := mem_listed he; simp [go_sem, *] at hm
         clear hK K
         try w_num)
      )
    refine Goes.step rfl (fun _ h₁ => ?_)
    replace hF := (fq_rely hF2) hF h₁
    clear h₁
    rw [stepG_ret']
    simp only [goes_go]
    refine ⟨by refine dq_none ?_; intro e he; simp at he, ?_⟩
    refine Goes.step rfl (fun _ h₁ => ?_)
    replace hF := (fq_rely hF2) hF h₁
    clear h₁
    refine goes_leave1 rfl rfl H.f_uAdd rfl ⟨by refine dq_none ?_; intro e he; simp at he, ?_⟩
    walk_nrm
    repeat (first
      | (refine Goes.step rfl (fun _ h₁ => ?_)
         replace hF := (fq_rely hF2) hF h₁
         clear h₁
         rw [stepG_seq]
         simp only [goes_go]
         refine ⟨by refine dq_none ?_; intro e he; simp at he, ?_⟩)
      | (refine Goes.step rfl (fun _ h₁ => ?_)
         replace hF := (fq_rely hF2) hF h₁
         clear h₁
         rw [stepG_region_end]
         simp only [goes_go]
         refine ⟨by refine dq_none ?_; intro e he; simp at he, ?_⟩)
      | (refine Goes.step rfl (fun _ h₁ => ?_)
         replace hF := (fq_rely hF2) hF h₁
         clear h₁
         rw [stepG_skip]
         simp only [goes_go]
         refine ⟨by refine dq_none ?_; intro e he; simp at he, ?_⟩)
      | (refine Goes.step rfl (fun _ h₁ => ?_)
         replace hF := (fq_rely hF2) hF h₁
         clear h₁
         rw [stepG_block]
         simp only [goes_go]
         refine ⟨by refine dq_none ?_; intro e he; simp at he, ?_⟩)
      | (refine Goes.step rfl (fun _ h₁ => ?_)
         replace hF := (fq_rely hF2) hF h₁
         clear h₁
         rw [stepG_loop]
         simp only [goes_go]
         refine ⟨by refine dq_none ?_; intro e he; simp at he, ?_⟩)
      | (refine Goes.step rfl (fun _ h₁ => ?_)
         replace hF := (fq_rely hF2) hF h₁
         clear h₁
         rw [stepG_inLoop]
         simp only [goes_go]
         refine ⟨by refine dq_none ?_; intro e he; simp at he, ?_⟩)
      | (refine Goes.step rfl (fun _ h₁ => ?_)
         replace hF := (fq_rely hF2) hF h₁
         clear h₁
         rw [stepG_inBlock]
         simp only [goes_go]
         refine ⟨by refine dq_none ?_; intro e he; simp at he, ?_⟩)
      | (refine Goes.step rfl (fun _ h₁ => ?_)
         replace hF := (fq_rely hF2) hF h₁
         clear h₁
         rw [stepG_label]
         simp only [goes_go]
         refine ⟨by refine dq_none ?_; intro e he; simp at he, ?_⟩)
      | (refine Goes.step rfl (fun _ h₁ => ?_)
         replace hF := (fq_rely hF2) hF h₁
         clear h₁
         rw [stepG_region]
         simp only [goes_go, List.size_toArray, List.length_cons, List.length_nil, Nat.reduceAdd, Nat.zero_add, List.range, List.range.loop]
         refine ⟨by refine dq_none ?_; intro e he; simp at he, ?_⟩)
      | (refine Goes.step rfl (fun _ h₁ => ?_)
         replace hF := (fq_rely hF2) hF h₁
         clear h₁
         rw [stepG_unwanted rfl rfl]
         simp only [goes_go]
         refine ⟨by refine dq_none ?_; intro e he; simp at he, ?_⟩
         walk_nrm)
      | (refine Goes.step rfl (fun _ h₁ => ?_)
         replace hF := (fq_rely hF2) hF h₁
         clear h₁
         rw [stepG_cond (t := true) rfl]
         simp only [goes_go, if_true, if_false, Bool.false_eq_true, ↓reduceIte]
         refine ⟨by refine dq_none ?_; intro e he; simp at he, ?_⟩)
      | (refine Goes.step rfl (fun _ h₁ => ?_)
         replace hF := (fq_rely hF2) hF h₁
         clear h₁
         rw [stepG_cond (t := false) rfl]
         simp only [goes_go, if_true, if_false, Bool.false_eq_true, ↓reduceIte]
         refine ⟨by refine dq_none ?_; intro e he; simp at he, ?_⟩)
      | (refine Goes.step rfl (fun _ h₁ => ?_)
         replace hF := (fq_rely hF2) hF h₁
         clear h₁
         fail_if_success (rw [stepG_ret'])
         fail_if_success (rw [stepG_end])
         refine goes_oper_k rfl rfl (by k_ne) (fun K hK => ?_)
         go_simp
         refine hK _ _ ⟨?_, ?_⟩
         · refine dq_none ?_; intro e he; have hm := mem_listed he; simp [go_sem, *] at hm
         clear hK K
         try w_num)
      )
    refine Goes.step rfl (fun _ h₁ => ?_)
    replace hF := (fq_rely hF2) hF h₁
    clear h₁
    refine goes_oper_k rfl rfl (by k_ne) (fun Kx hKx => ?_)
    have hcv := run_convert_to_unsafe (P := P) H.underlying_tPU32 H.underlying_tUP H.room_tU32 (WgLive.cell1 hF.2).choose_spec
    have hce := fun es => events_convert_to_unsafe (P := P) H.underlying_tPU32 H.underlying_tUP H.room_tU32 (WgLive.cell1 hF.2).choose_spec es
    go_simp
    refine hKx _ _ ⟨?_, ?_⟩
    · refine dq_none ?_; intro e he; have hm := mem_listed he; simp [go_sem, hce] at hm
    clear hKx Kx hcv hce
    refine Goes.step rfl (fun _ h₁ => ?_)
    replace hF := (fq_rely hF2) hF h₁
    clear h₁
    rw [stepG_markAt .read (by simp) rfl rfl (by k_ne) rfl H.f_raceRead (x_raceRead_n lk) (x_raceRead_b lk) (x_raceRead_x lk) (x_raceRead_f lk) (ad := ⟨L.Wg, 1, none⟩) (by simp [Act.eval])]
    simp only [goes_go]
    refine ⟨⟨rfl, rfl, rfl, Nat.le_refl _, fun _ _ _ => rfl, fun _ h => h, fun e he => ?_⟩, ?_⟩
    · rw [Array.mem_singleton] at he
      subst he
      exact evq_said_read rfl
    walk_nrm
    repeat (first
      | (refine Goes.step rfl (fun _ h₁ => ?_)
         replace hF := (fq_rely hF2) hF h₁
         clear h₁
         rw [stepG_seq]
         simp only [goes_go]
         refine ⟨by refine dq_none ?_; intro e he; simp at he, ?_⟩)
      | (refine Goes.step rfl (fun _ h₁ => ?_)
         replace hF := (fq_rely hF2) hF h₁
         clear h₁
         rw [stepG_region_end]
         simp only [goes_go]
         refine ⟨by refine dq_none ?_; intro e he; simp at he, ?_⟩)
      | (refine Goes.step rfl (fun _ h₁ => ?_)
         replace hF := (fq_rely hF2) hF h₁
         clear h₁
         rw [stepG_skip]
         simp only [goes_go]
         refine ⟨by refine dq_none ?_; intro e he; simp at he, ?_⟩)
      | (refine Goes.step rfl (fun _ h₁ => ?_)
         replace hF := (fq_rely hF2) hF h₁
         clear h₁
         rw [stepG_block]
         simp only [goes_go]
         refine ⟨by refine dq_none ?_; intro e he; simp at he, ?_⟩)
      | (refine Goes.step rfl (fun _ h₁ => ?_)
         replace hF := (fq_rely hF2) hF h₁
         clear h₁
         rw [stepG_loop]
         simp only [goes_go]
         refine ⟨by refine dq_none ?_; intro e he; simp at he, ?_⟩)
      | (refine Goes.step rfl (fun _ h₁ => ?_)
         replace hF := (fq_rely hF2) hF h₁
         clear h₁
         rw [stepG_inLoop]
         simp only [goes_go]
         refine ⟨by refine dq_none ?_; intro e he; simp at he, ?_⟩)
      | (refine Goes.step rfl (fun _ h₁ => ?_)
         replace hF := (fq_rely hF2) hF h₁
         clear h₁
         rw [stepG_inBlock]
         simp only [goes_go]
         refine ⟨by refine dq_none ?_; intro e he; simp at he, ?_⟩)
      | (refine Goes.step rfl (fun _ h₁ => ?_)
         replace hF := (fq_rely hF2) hF h₁
         clear h₁
         rw [stepG_label]
         simp only [goes_go]
         refine ⟨by refine dq_none ?_; intro e he; simp at he, ?_⟩)
      | (refine Goes.step rfl (fun _ h₁ => ?_)
         replace hF := (fq_rely hF2) hF h₁
         clear h₁
         rw [stepG_region]
         simp only [goes_go, List.size_toArray, List.length_cons, List.length_nil, Nat.reduceAdd, Nat.zero_add, List.range, List.range.loop]
         refine ⟨by refine dq_none ?_; intro e he; simp at he, ?_⟩)
      | (refine Goes.step rfl (fun _ h₁ => ?_)
         replace hF := (fq_rely hF2) hF h₁
         clear h₁
         rw [stepG_unwanted rfl rfl]
         simp only [goes_go]
         refine ⟨by refine dq_none ?_; intro e he; simp at he, ?_⟩
         walk_nrm)
      | (refine Goes.step rfl (fun _ h₁ => ?_)
         replace hF := (fq_rely hF2) hF h₁
         clear h₁
         rw [stepG_cond (t := true) rfl]
         simp only [goes_go, if_true, if_false, Bool.false_eq_true, ↓reduceIte]
         refine ⟨by refine dq_none ?_; intro e he; simp at he, ?_⟩)
      | (refine Goes.step rfl (fun _ h₁ => ?_)
         replace hF := (fq_rely hF2) hF h₁
         clear h₁
         rw [stepG_cond (t := false) rfl]
         simp only [goes_go, if_true, if_false, Bool.false_eq_true, ↓reduceIte]
         refine ⟨by refine dq_none ?_; intro e he; simp at he, ?_⟩)
      | (refine Goes.step rfl (fun _ h₁ => ?_)
         replace hF := (fq_rely hF2) hF h₁
         clear h₁
         fail_if_success (rw [stepG_ret'])
         fail_if_success (rw [stepG_end])
         refine goes_oper_k rfl rfl (by k_ne) (fun K hK => ?_)
         go_simp
         refine hK _ _ ⟨?_, ?_⟩
         · refine dq_none ?_; intro e he; have hm := mem_listed he; simp [go_sem, *] at hm
         clear hK K
         try w_num)
      )
    refine Goes.step rfl (fun _ h₁ => ?_)
    replace hF := (fq_rely hF2) hF h₁
    clear h₁
    rw [stepG_ret']
    simp only [goes_go]
    refine ⟨by refine dq_none ?_; intro e he; simp at he, ?_⟩
    refine Goes.stop (fun w₃ h₃ => ?_)
    replace hF := fq_rely hF2 hF h₃
    clear h₃
    refine ⟨rfl, _, stepG_unwind_entry (v := .tuple #[]) (evs := #[mk .enable]) rfl H.f_enable (x_enable_n lk) (x_enable_b lk) (x_enable_x lk) (x_enable_f lk) (by simp [Extern.Race.none_]) (by simp [mk]) (by simp [mk]), mT + 1, ?_⟩
    simp only [GQ]
    refine Goes.step rfl (fun _ h₁ => ?_)
    replace hF := (fq_rely hF2) hF h₁
    clear h₁
    refine goes_leave0 rfl rfl H.f_add rfl ⟨by refine dq_none ?_; intro e he; simp at he, ?_⟩
    walk_nrm
    exact hT _ hF.1 hF.2

  · -- it is more
    obtain ⟨V, hV⟩ : ∃ V : Int, V = (v : Int) + 1 := ⟨_, rfl⟩
    obtain ⟨S, hS⟩ : ∃ S : Int, S = V * KK := ⟨_, rfl⟩
    have eS : IntKind.u64.wrap ((v : Int) * KK + 4294967296) = S := by rw [IntKind.wrap_u64, hS, hV]; simp only [KK]; omega
    rw [← hV, ← hS]
    have a1 : S / 4294967296 = V := by rw [hS]; simp only [KK]; omega
    have b1 : bits .and .u64 S 2147483648 = 0 := by rw [hS, hV]; have := st_flag (v + 1) 0 (by omega) (by omega); simpa [KK] using this
    have b2 : bits .and .u64 S 2147483647 = 0 := by rw [hS, hV]; have := st_waiters (v + 1) 0 (by omega) (by omega); simpa [KK] using this
    have c1 : IntKind.i32.wrap V = V := by rw [IntKind.wrap_i32]; omega
    have hV1 : 1 < V := by omega
    have hV2 : V < 2147483648 := by omega
    have q1 : (V == 1) = false := by simp; omega
    have q2 : decide (V = 1) = false := decide_eq_false (by omega)
    have q3 : decide (V < 0) = false := decide_eq_false (by omega)
    have q4 : decide (0 < V) = true := decide_eq_true (by omega)
    have q5 : (V == 0) = false := by simp; omega
    have q6 : decide (V = 0) = false := decide_eq_false (by omega)
    refine ⟨_, (stepG_add_atomic rfl rfl (by k_ne) rfl H.f_addU64 (x_addU64_n lk) (x_addU64_b lk) (x_addU64_x lk) .u64 (x_addU64_f lk) rfl rfl hw.cellSt (hw.thaw 0)).trans (by rw [eS]; rfl), 110, ?_⟩
    replace hF : F (w₂.setCell (stA L.Wg) (.int .u64 S)) ∧ WgLive L.ty L.Wg (w₂.setCell (stA L.Wg) (.int .u64 S)) := ⟨hF2 _ _ (setWg_rq hL hw S) hF.1, ⟨_, _, hw.setSt _⟩⟩
    clear hw hS hV eS
    simp only [GQ]
    walk_nrm
    repeat (first
      | (refine Goes.step rfl (fun _ h₁ => ?_)
         replace hF := (fq_rely hF2) hF h₁
         clear h₁
         rw [stepG_seq]
         simp only [goes_go]
         refine ⟨by refine dq_none ?_; intro e he; simp at he, ?_⟩)
      | (refine Goes.step rfl (fun _ h₁ => ?_)
         replace hF := (fq_rely hF2) hF h₁
         clear h₁
         rw [stepG_region_end]
         simp only [goes_go]
         refine ⟨by refine dq_none ?_; intro e he; simp at he, ?_⟩)
      | (refine Goes.step rfl (fun _ h₁ => ?_)
         replace hF := (fq_rely hF2) hF h₁
         clear h₁
         rw [stepG_skip]
         simp only [goes_go]
         refine ⟨by refine dq_none ?_; intro e he; simp at he, ?_⟩)
      | (refine Goes.step rfl (fun _ h₁ => ?_)
         replace hF := (fq_rely hF2) hF h₁
         clear h₁
         rw [stepG_block]
         simp only [goes_go]
         refine ⟨by refine dq_none ?_; intro e he; simp at he, ?_⟩)
      | (refine Goes.step rfl (fun _ h₁ => ?_)
         replace hF := (fq_rely hF2) hF h₁
         clear h₁
         rw [stepG_loop]
         simp only [goes_go]
         refine ⟨by refine dq_none ?_; intro e he; simp at he, ?_⟩)
      | (refine Goes.step rfl (fun _ h₁ => ?_)
         replace hF := (fq_rely hF2) hF h₁
         clear h₁
         rw [stepG_inLoop]
         simp only [goes_go]
         refine ⟨by refine dq_none ?_; intro e he; simp at he, ?_⟩)
      | (refine Goes.step rfl (fun _ h₁ => ?_)
         replace hF := (fq_rely hF2) hF h₁
         clear h₁
         rw [stepG_inBlock]
         simp only [goes_go]
         refine ⟨by refine dq_none ?_; intro e he; simp at he, ?_⟩)
      | (refine Goes.step rfl (fun _ h₁ => ?_)
         replace hF := (fq_rely hF2) hF h₁
         clear h₁
         rw [stepG_label]
         simp only [goes_go]
         refine ⟨by refine dq_none ?_; intro e he; simp at he, ?_⟩)
      | (refine Goes.step rfl (fun _ h₁ => ?_)
         replace hF := (fq_rely hF2) hF h₁
         clear h₁
         rw [stepG_region]
         simp only [goes_go, List.size_toArray, List.length_cons, List.length_nil, Nat.reduceAdd, Nat.zero_add, List.range, List.range.loop]
         refine ⟨by refine dq_none ?_; intro e he; simp at he, ?_⟩)
      | (refine Goes.step rfl (fun _ h₁ => ?_)
         replace hF := (fq_rely hF2) hF h₁
         clear h₁
         rw [stepG_unwanted rfl rfl]
         simp only [goes_go]
         refine ⟨by refine dq_none ?_; intro e he; simp at he, ?_⟩
         walk_nrm)
      | (refine Goes.step rfl (fun _ h₁ => ?_)
         replace hF := (fq_rely hF2) hF h₁
         clear h₁
         rw [stepG_cond (t := true) rfl]
         simp only [goes_go, if_true, if_false, Bool.false_eq_true, ↓reduceIte]
         refine ⟨by refine dq_none ?_; intro e he; simp at he, ?_⟩)
      | (refine Goes.step rfl (fun _ h₁ => ?_)
         replace hF := (fq_rely hF2) hF h₁
         clear h₁
         rw [stepG_cond (t := false) rfl]
         simp only [goes_go, if_true, if_false, Bool.false_eq_true, ↓reduceIte]
         refine ⟨by refine dq_none ?_; intro e he; simp at he, ?_⟩)
      | (refine Goes.step rfl (fun _ h₁ => ?_)
         replace hF := (fq_rely hF2) hF h₁
         clear h₁
         fail_if_success (rw [stepG_ret'])
         fail_if_success (rw [stepG_end])
         refine goes_oper_k rfl rfl (by k_ne) (fun K hK => ?_)
         go_simp
         refine hK _ _ ⟨?_, ?_⟩
         · refine dq_none ?_; intro e he; have hm := mem_listed he; simp [go_sem, *] at hm
         clear hK K
         try w_num)
      )
    refine Goes.step rfl (fun _ h₁ => ?_)
    replace hF := (fq_rely hF2) hF h₁
    clear h₁
    rw [stepG_ret']
    simp only [goes_go]
    refine ⟨by refine dq_none ?_; intro e he; simp at he, ?_⟩
    refine Goes.step rfl (fun _ h₁ => ?_)
    replace hF := (fq_rely hF2) hF h₁
    clear h₁
    refine goes_leave1 rfl rfl H.f_uAdd rfl ⟨by refine dq_none ?_; intro e he; simp at he, ?_⟩
    walk_nrm
    repeat (first
      | (refine Goes.step rfl (fun _ h₁ => ?_)
         replace hF := (fq_rely hF2) hF h₁
         clear h₁
         rw [stepG_seq]
         simp only [goes_go]
         refine ⟨by refine dq_none ?_; intro e he; simp at he, ?_⟩)
      | (refine Goes.step rfl (fun _ h₁ => ?_)
         replace hF := (fq_rely hF2) hF h₁
         clear h₁
         rw [stepG_region_end]
         simp only [goes_go]
         refine ⟨by refine dq_none ?_; intro e he; simp at he, ?_⟩)
      | (refine Goes.step rfl (fun _ h₁ => ?_)
         replace hF := (fq_rely hF2) hF h₁
         clear h₁
         rw [stepG_skip]
         simp only [goes_go]
         refine ⟨by refine dq_none ?_; intro e he; simp at he, ?_⟩)
      | (refine Goes.step rfl (fun _ h₁ => ?_)
         replace hF := (fq_rely hF2) hF h₁
         clear h₁
         rw [stepG_block]
         simp only [goes_go]
         refine ⟨by refine dq_none ?_; intro e he; simp at he, ?_⟩)
      | (refine Goes.step rfl (fun _ h₁ => ?_)
         replace hF := (fq_rely hF2) hF h₁
         clear h₁
         rw [stepG_loop]
         simp only [goes_go]
         refine ⟨by refine dq_none ?_; intro e he; simp at he, ?_⟩)
      | (refine Goes.step rfl (fun _ h₁ => ?_)
         replace hF := (fq_rely hF2) hF h₁
         clear h₁
         rw [stepG_inLoop]
         simp only [goes_go]
         refine ⟨by refine dq_none ?_; intro e he; simp at he, ?_⟩)
      | (refine Goes.step rfl (fun _ h₁ => ?_)
         replace hF := (fq_rely hF2) hF h₁
         clear h₁
         rw [stepG_inBlock]
         simp only [goes_go]
         refine ⟨by refine dq_none ?_; intro e he; simp at he, ?_⟩)
      | (refine Goes.step rfl (fun _ h₁ => ?_)
         replace hF := (fq_rely hF2) hF h₁
         clear h₁
         rw [stepG_label]
         simp only [goes_go]
         refine ⟨by refine dq_none ?_; intro e he; simp at he, ?_⟩)
      | (refine Goes.step rfl (fun _ h₁ => ?_)
         replace hF := (fq_rely hF2) hF h₁
         clear h₁
         rw [stepG_region]
         simp only [goes_go, List.size_toArray, List.length_cons, List.length_nil, Nat.reduceAdd, Nat.zero_add, List.range, List.range.loop]
         refine ⟨by refine dq_none ?_; intro e he; simp at he, ?_⟩)
      | (refine Goes.step rfl (fun _ h₁ => ?_)
         replace hF := (fq_rely hF2) hF h₁
         clear h₁
         rw [stepG_unwanted rfl rfl]
         simp only [goes_go]
         refine ⟨by refine dq_none ?_; intro e he; simp at he, ?_⟩
         walk_nrm)
      | (refine Goes.step rfl (fun _ h₁ => ?_)
         replace hF := (fq_rely hF2) hF h₁
         clear h₁
         rw [stepG_cond (t := true) rfl]
         simp only [goes_go, if_true, if_false, Bool.false_eq_true, ↓reduceIte]
         refine ⟨by refine dq_none ?_; intro e he; simp at he, ?_⟩)
      | (refine Goes.step rfl (fun _ h₁ => ?_)
         replace hF := (fq_rely hF2) hF h₁
         clear h₁
         rw [stepG_cond (t := false) rfl]
         simp only [goes_go, if_true, if_false, Bool.false_eq_true, ↓reduceIte]
         refine ⟨by refine dq_none ?_; intro e he; simp at he, ?_⟩)
      | (refine Goes.step rfl (fun _ h₁ => ?_)
         replace hF := (fq_rely hF2) hF h₁
         clear h₁
         fail_if_success (rw [stepG_ret'])
         fail_if_success (rw [stepG_end])
         refine goes_oper_k rfl rfl (by k_ne) (fun K hK => ?_)
         go_simp
         refine hK _ _ ⟨?_, ?_⟩
         · refine dq_none ?_; intro e he; have hm := mem_listed he; simp [go_sem, *] at hm
         clear hK K
         try w_num)
      )
    refine Goes.step rfl (fun _ h₁ => ?_)
    replace hF := (fq_rely hF2) hF h₁
    clear h₁
    rw [stepG_ret']
    simp only [goes_go]
    refine ⟨by refine dq_none ?_; intro e he; simp at he, ?_⟩
    refine Goes.stop (fun w₃ h₃ => ?_)
    replace hF := fq_rely hF2 hF h₃
    clear h₃
    refine ⟨rfl, _, stepG_unwind_entry (v := .tuple #[]) (evs := #[mk .enable]) rfl H.f_enable (x_enable_n lk) (x_enable_b lk) (x_enable_x lk) (x_enable_f lk) (by simp [Extern.Race.none_]) (by simp [mk]) (by simp [mk]), mT + 1, ?_⟩
    simp only [GQ]
    refine Goes.step rfl (fun _ h₁ => ?_)
    replace hF := (fq_rely hF2) hF h₁
    clear h₁
    refine goes_leave0 rfl rfl H.f_add rfl ⟨by refine dq_none ?_; intro e he; simp at he, ?_⟩
    walk_nrm
    exact hT _ hF.1 hF.2
end
end Go.Proofs.Ytoipkpndfgcmcaa.Crew
