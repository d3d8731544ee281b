/-
  GraphOwn's rows written full, grown, and looked at: what stands. No program in sight but its types' numbers.
-/
import Derived.Test.YtmcpbmadjpjckaaGrOwnT
namespace Go.Proofs.Ytmcpbmadjpjckaa
open Go.RowKit

/-- The marks of the rows of numbers. -/
def fI (i _k : Nat) : Value := .int .i64 (-5000 - (i : Int))
def gI (i _k : Nat) : Value := .int .i64 (-600000 - (i : Int))
theorem own_vs {W : World} {B n : Nat} {e : TypeId} {v : Value} {xs : List Value} (h : W.ownsRow B e 1 v n xs) (hn : 0 < n) : ∃ X c VS, v = .slice (some ⟨X, 0, none⟩) n c ∧ B ≤ X ∧ Blk W X e VS ∧ ∀ (i : Nat) (u : Value), xs[i]? = some u → VS[i]? = some u := by
  rcases h.2 with ⟨_, h0⟩ | ⟨g, cap, cur, rfl, hb, hg, h1, h2, h3, ht⟩
  · omega
  · refine ⟨g, cap, cur, rfl, hb, hg, fun i u hu => ?_⟩
    rw [← ht, List.getElem?_take] at hu
    split at hu
    · simpa using hu
    · cases hu
theorem map_at {L : Nat} {V : Nat → Value} {i : Nat} (hi : i < L) : ((List.range L).map V)[i]? = some (V i) := by rw [List.getElem?_map, List.getElem?_range hi]; rfl
/-- One number in a block of its own. -/
def Int1 (W : World) (v : Value) (z : Int) : Prop := ∃ b, v = .slice (some ⟨b, 0, none⟩) 1 1 ∧ Blk W b 3 #[.int .i64 z]
theorem Int1.chg {W W' : World} {v : Value} {z : Int} (h : Int1 W v z) {S : Nat → Prop} (hc : Chg W W' S) (hS : ∀ b cs, Blk W b 3 cs → ¬ S b) : Int1 W' v z := by
  obtain ⟨b, rfl, hb⟩ := h
  exact ⟨b, rfl, hc.blk hb (hS b _ hb)⟩
theorem Int1.bel {W W' : World} {v : Value} {z : Int} (h : Int1 W v z) (hb : Below W.heap.size W W') : Int1 W' v z := h.chg (Chg.of_below hb (fun _ => False)) (fun _ _ _ h => h)
theorem Int1.new (W : World) (z : Int) : Int1 (W.alloc (.cells #[.int .i64 z] 3)) (.slice (some ⟨W.heap.size, 0, none⟩) 1 1) z := ⟨_, rfl, Blk.new _ _ _⟩
section
variable {L K : Nat} {e TE : TypeId} {fv gv gv' : Nat → Nat → Value} {Z X : Nat} {V : Nat → Value} {VS : Array Value} {n : Nat → Nat} {W0 W W' : World} {i k : Nat} {t l : Value} {G : Nat → Value}
theorem Gr.bel (h : Gr L K e TE fv gv Z X V VS n W0 W i k t G l) (hb : Below W.heap.size W W') : Gr L K e TE fv gv Z X V VS n W0 W' i k t G l :=
  ⟨fun i' h1 => (h.old i' h1).below hb, fun i' h1 h2 => (h.rest i' h1 h2).below hb, h.cur.below hb, (Chg.of_below hb (fun _ => False)).own h.trow (fun _ _ h => h), fun j hj => (h.got j hj).below hb, h.lv, h.lg, h.lz, h.gvv, h.xb.bel hb, h.chg.bel hb, h.zz⟩
theorem ct_congr {j m : Nat} (h : ∀ k', k' < m → gv j k' = gv' j k') : ct fv gv (n j) j m = ct fv gv' (n j) j m := by
  unfold ct
  congr 1
  exact List.map_congr_left fun k' hk => h k' (List.mem_range.1 hk)
/-- Values that do not stand yet may be other ones. -/
theorem Gr.re (h : Gr L K e TE fv gv Z X V VS n W0 W i k t G l) (he : ∀ j k', (j < i ∧ k' < K) ∨ (j = i ∧ k' < k) → gv j k' = gv' j k') : Gr L K e TE fv gv' Z X V VS n W0 W i k t G l :=
  ⟨h.old, h.rest, by rw [← ct_congr (gv := gv) fun k' hk => he i k' (.inr ⟨rfl, hk⟩)]; exact h.cur, h.trow, fun j hj => by rw [← ct_congr (gv := gv) fun k' hk => he j k' (.inl ⟨hj, hk⟩)]; exact h.got j hj, h.lv, h.lg, h.lz, h.gvv, h.xb, h.chg, h.zz⟩
end
/-- One value of a table of values turned. -/
def up2 (f : Nat → Nat → Value) (i k : Nat) (v : Value) : Nat → Nat → Value := fun i' k' => if i' = i ∧ k' = k then v else f i' k'
theorem up2_same (f : Nat → Nat → Value) (i k : Nat) (v : Value) : up2 f i k v i k = v := if_pos ⟨rfl, rfl⟩
theorem up2_ne {f : Nat → Nat → Value} {i k i' k' : Nat} (v : Value) (h : ¬ (i' = i ∧ k' = k)) : up2 f i k v i' k' = f i' k' := if_neg h
theorem src_one (w : World) {t e : TypeId} (ht : Try.prog.underlying t = some (.slice e)) (u : Value) (h1 : u.oneCell' = true) : Src Try.prog 1 t (.slice (some ⟨w.heap.size, 0, none⟩) 1 1) 1 [u] (w.alloc (.cells #[u] e)) :=
  Src.ofSlice _ ht ⟨w.heap.size, 0, none⟩ 1 1 _ rfl (fun j u' hu => by
    match j, hu with
    | 0, hu =>
      simp at hu
      subst hu
      simp [Addr.add, World.cell?_alloc_at]) (fun u' hu => by
    simp at hu
    subst hu
    exact h1)
end Go.Proofs.Ytmcpbmadjpjckaa
