/-
  GraphOwn's outer rows written full with new rows of one number, grown by such: what stands. No program in sight but its types' numbers.
-/
import Derived.Test.YtmcpbmadjpjckaaGrOwnG
import Derived.Test.YtmcpbmadjpjckaaGrLists
namespace Go.Proofs.Ytmcpbmadjpjckaa
open Go.RowKit

theorem Rws.bel {L : Nat} {e : TypeId} {W W' : World} {V : Nat → Value} {xs : Nat → List Value} (h : Rws L e W V xs) (hb : Below W.heap.size W W') : Rws L e W' V xs :=
  ⟨fun i hi => (h.own i hi).below hb, h.apart⟩
theorem fl_up2 {F : Nat → Nat → Value} {i k n j : Nat} (u : Value) (h : j ≠ i ∨ n ≤ k) : fl (up2 F i k u) n j = fl F n j :=
  List.map_congr_left fun k' hk => up2_ne u (by have := List.mem_range.1 hk; omega)
structure Fil (L : Nat) (P : Nat → Value) (m : Nat → Nat) (Y : Nat) (YS : Array Value) (W0 W : World) (i k : Nat) (zs : Nat → List Value) (F : Nat → Nat → Value) : Prop where
  rows : Rws L 25 W P zs
  len : ∀ j, (zs j).length = m j
  done : ∀ j, j < i → zs j = fl F (m j) j
  tak : (zs i).take k = fl F k i
  ints : ∀ j k', (j < i ∧ k' < m j) ∨ (j = i ∧ k' < k) → Int1 W (F j k') (-(j : Int))
  yb : Blk W Y 43 YS
  chg : Chg W0 W (Ft L P)
section
variable {L : Nat} {P : Nat → Value} {m : Nat → Nat} {Y : Nat} {YS : Array Value} {W0 W : World} {i k : Nat} {zs : Nat → List Value} {F : Nat → Nat → Value}
theorem Fil.store (h : Fil L P m Y YS W0 W i k zs F) (hi : i < L) (hk : k < m i) {b cap : Nat} (hV : P i = .slice (some ⟨b, 0, none⟩) (m i) cap) (z : Int) (hz : z = -(i : Int)) :
    Fil L P m Y YS W0 ((W.alloc (.cells #[.int .i64 z] 3)).setCell ⟨b, k, none⟩ (.slice (some ⟨W.heap.size, 0, none⟩) 1 1)) i (k + 1) (updV zs i ((zs i).set k (.slice (some ⟨W.heap.size, 0, none⟩) 1 1))) (up2 F i k (.slice (some ⟨W.heap.size, 0, none⟩) 1 1)) := by
  obtain ⟨u, hu⟩ : ∃ u, Value.slice (some ⟨W.heap.size, 0, none⟩) 1 1 = u := ⟨_, rfl⟩
  have hnew := Int1.new W z
  rw [hu] at hnew ⊢
  obtain ⟨W1, hW1⟩ : ∃ W1, W.alloc (.cells #[.int .i64 z] 3) = W1 := ⟨_, rfl⟩
  have hb1 : Below W.heap.size W W1 := by rw [← hW1]; exact (Below.refl _ _).alloc (Nat.le_refl _) _
  rw [hW1] at hnew ⊢
  clear hW1
  have hr := h.rows.bel hb1
  have hVb : (P i).ownBlock = some b := by rw [hV]; rfl
  have hc : Chg W1 (W1.setCell ⟨b, k, none⟩ u) (fun j => j = b) := Chg.of_set W1 ⟨b, k, none⟩ u
  have hI : ∀ {v : Value} {x : Int}, Int1 W1 v x → Int1 (W1.setCell ⟨b, k, none⟩ u) v x := fun hv => hv.chg hc (fun b' cs hb e => (hr.own i hi).ne_blk hb (by decide) (by rw [e]; exact hVb))
  refine ⟨hr.store hi (h.len i) hV k u, fun j => ?_, fun j hj => ?_, ?_, fun j k' hj => ?_, hc.blk (h.yb.bel hb1) (fun e => (hr.own i hi).ne_blk (h.yb.bel hb1) (by decide) (by rw [e]; exact hVb)), (h.chg.bel hb1).set_ ⟨b, k, none⟩ u (fun _ => ⟨i, hi, hVb⟩)⟩
  · by_cases e : j = i
    · subst e; rw [updV_same, List.length_set]; exact h.len j
    · rw [updV_ne _ _ e]; exact h.len j
  · rw [updV_ne _ _ (by omega), fl_up2 _ (.inl (by omega))]
    exact h.done j hj
  · rw [updV_same]
    have h1 := fl_set (fv := up2 F i k u) (l := zs i) (k := k) (i := i) (by rw [h.len]; exact hk) (by rw [fl_up2 _ (.inr (Nat.le_refl _))]; exact h.tak)
    rw [up2_same] at h1
    exact h1
  · by_cases e : j = i ∧ k' = k
    · obtain ⟨rfl, rfl⟩ := e
      rw [up2_same, ← hz]
      exact hI hnew
    · rw [up2_ne _ e]
      exact hI ((h.ints j k' (by omega)).bel hb1)
theorem Fil.next (h : Fil L P m Y YS W0 W i (m i) zs F) : Fil L P m Y YS W0 W (i + 1) 0 zs F := by
  refine ⟨h.rows, h.len, fun j hj => ?_, rfl, fun j k' hj => h.ints j k' ?_, h.yb, h.chg⟩
  · by_cases e : j = i
    · subst e
      rw [← h.tak, List.take_of_length_le (by rw [h.len]; exact Nat.le_refl _)]
    · exact h.done j (by omega)
  · by_cases e : j = i
    · subst e; omega
    · omega
end
/-- Between two outer rows that grow. -/
structure Gk0 (m : Nat → Nat) (Z Y : Nat) (P : Nat → Value) (YS : Array Value) (F gv : Nat → Nat → Value) (W0 W : World) (i : Nat) (t : Value) (G : Nat → Value) : Prop where
  gr : Gr0 3 9 25 43 F gv Z Y P YS m W0 W i t G
  fi : ∀ j k', j < 3 → k' < m j → Int1 W (F j k') (-(j : Int))
  gi : ∀ j k', j < i → k' < 9 → Int1 W (gv j k') (1 + (j : Int))
/-- Within one. -/
structure Gk (m : Nat → Nat) (Z Y : Nat) (P : Nat → Value) (YS : Array Value) (F gv : Nat → Nat → Value) (W0 W : World) (i k : Nat) (t : Value) (G : Nat → Value) (l : Value) : Prop where
  gr : Gr 3 9 25 43 F gv Z Y P YS m W0 W i k t G l
  fi : ∀ j k', j < 3 → k' < m j → Int1 W (F j k') (-(j : Int))
  gi : ∀ j k', (j < i ∧ k' < 9) ∨ (j = i ∧ k' < k) → Int1 W (gv j k') (1 + (j : Int))
section
variable {m : Nat → Nat} {Z Y : Nat} {P : Nat → Value} {YS : Array Value} {F gv : Nat → Nat → Value} {W0 W : World} {i k : Nat} {t l : Value} {G : Nat → Value}
theorem Gk0.enter (h : Gk0 m Z Y P YS F gv W0 W i t G) (c : Cst 3 Z Y P YS) (hi : i < 3) : Gk m Z Y P YS F gv W0 W i 0 t G (P i) :=
  ⟨h.gr.enter c hi, h.fi, fun j k' hj => h.gi j k' (by omega) (by omega)⟩
theorem Gk.step (h : Gk m Z Y P YS F gv W0 W i k t G l) (c : Cst 3 Z Y P YS) (hi : i < 3) {z : Int} (hz : z = 1 + (i : Int)) {W1 W2 : World} {l' : Value} (hW1 : W.alloc (.cells #[.int .i64 z] 3) = W1)
    (ho : Row W2 25 l' (m i + k + 1) (ct F gv (m i) i k ++ [.slice (some ⟨W.heap.size, 0, none⟩) 1 1]))
    (how : HowApp (W1.alloc (.cells #[.slice (some ⟨W.heap.size, 0, none⟩) 1 1] 25)) 1 (m i + k) 1 [.slice (some ⟨W.heap.size, 0, none⟩) 1 1] l l' W2) : Gk m Z Y P YS F (up2 gv i k (.slice (some ⟨W.heap.size, 0, none⟩) 1 1)) W0 W2 i (k + 1) t G l' := by
  obtain ⟨u, hu⟩ : ∃ u, Value.slice (some ⟨W.heap.size, 0, none⟩) 1 1 = u := ⟨_, rfl⟩
  have hnew := Int1.new W z
  have hb1 : Below W.heap.size W W1 := by rw [← hW1]; exact (Below.refl _ _).alloc (Nat.le_refl _) _
  rw [hu] at hnew ho how ⊢
  rw [hW1] at hnew
  clear hW1
  have hg := (h.gr.bel hb1).re (gv' := up2 gv i k u) (fun j k' hj => (up2_ne _ (by omega)).symm)
  have hcur := hg.cur
  have hb2 : Below W1.heap.size W1 (W1.alloc (.cells #[u] 25)) := (Below.refl _ _).alloc (Nat.le_refl _) _
  have hI : ∀ {v : Value} {x : Int}, Int1 W1 v x → Int1 W2 v x := fun hv => (hv.bel hb2).chg (Chg.of_grown how.grown.1) (fun b cs hb e => (hcur.below hb2).ne_blk hb (by decide) e)
  refine ⟨hg.step c hi (by omega) (by decide) (by rw [up2_same, ct_congr (gv' := gv) fun k' hk => up2_ne _ (by omega)]; exact ho) (by rw [up2_same]; exact how), fun j k' h1 h2 => hI ((h.fi j k' h1 h2).bel hb1), fun j k' hj => ?_⟩
  by_cases e : j = i ∧ k' = k
  · obtain ⟨rfl, rfl⟩ := e
    rw [up2_same, ← hz]
    exact hI hnew
  · rw [up2_ne _ e]
    exact hI ((h.gi j k' (by omega)).bel hb1)
theorem Gk.leave (h : Gk m Z Y P YS F gv W0 W i 9 t G l) (c : Cst 3 Z Y P YS) (hi : i < 3) {W4 : World} {t' : Value} (hot : W4.ownsRow Z 43 1 t' (i + 1) ((List.range i).map G ++ [l])) (hgt : W.grownBy W4 t.ownBlock) : Gk0 m Z Y P YS F gv W0 W4 (i + 1) t' (updV G i l) := by
  have hI : ∀ {v : Value} {x : Int}, Int1 W v x → Int1 W4 v x := fun hv => hv.chg (Chg.of_grown hgt) (fun b cs hb e => own_blk_ne h.gr.trow hb (by decide) e)
  exact ⟨h.gr.leave c hi (by decide) hot hgt, fun j k' h1 h2 => hI (h.fi j k' h1 h2), fun j k' h1 h2 => hI (h.gi j k' (by omega))⟩
end
theorem RowI.row {W : World} {v : Value} {n : Nat} {xs : List Int} (h : Row W 3 v n (xs.map iz)) (hn : n ≤ 140737488355328) : RowI W v xs := by
  obtain ⟨A, c, rfl⟩ := h.shape
  exact ⟨A, n, c, _, rfl, h.reads, hn, Nat.le_refl _⟩
theorem PTell.ints {n : Int} {E : List (Int × Int × Int)} {L : Nat} {xs : Nat → List Value} (h : PTell n E L xs) : ∃ zs : Nat → List Int, ∀ i, i < L → xs i = (zs i).map iz := by
  rcases h with ⟨_, rfl⟩ | ⟨_, N, part, os, _, _, _, h3, h4, h5⟩
  · exact ⟨fun _ => [], fun i hi => by omega⟩
  · refine ⟨fun i => (nds part N (os.getD i 0)).map fun u : Nat => (u : Int), fun i hi => ?_⟩
    have hl := os_len h3 h4
    have h : os[i]? = some os[i] := List.getElem?_eq_getElem (by omega)
    rw [h5 i _ hi h, map_iv_iz']
    show _ = ((nds part N (os.getD i 0)).map fun u : Nat => (u : Int)).map iz
    rw [List.getD_eq_getElem?_getD, h]
    rfl
end Go.Proofs.Ytmcpbmadjpjckaa
