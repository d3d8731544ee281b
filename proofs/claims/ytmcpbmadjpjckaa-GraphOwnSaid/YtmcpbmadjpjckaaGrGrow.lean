/-
  Many rows written full, each grown by some values and kept: what stands while that goes on. No program in sight.
-/
import Derived.Test.YtmcpbmadjpjckaaColRow
namespace Go.Proofs.Ytmcpbmadjpjckaa
open Go.RowKit

def updV {α : Type} (f : Nat → α) (k : Nat) (v : α) : Nat → α := fun i => if i = k then v else f i
theorem updV_same {α : Type} (f : Nat → α) (k : Nat) (v : α) : updV f k v k = v := if_pos rfl
theorem updV_ne {α : Type} (f : Nat → α) {k i : Nat} (v : α) (h : i ≠ k) : updV f k v i = f i := if_neg h
def fl (fv : Nat → Nat → Value) (n i : Nat) : List Value := (List.range n).map (fv i)
def ct (fv gv : Nat → Nat → Value) (n i k : Nat) : List Value := fl fv n i ++ (List.range k).map (gv i)
theorem fl_len (fv : Nat → Nat → Value) (n i : Nat) : (fl fv n i).length = n := by simp [fl]
theorem ct_len (fv gv : Nat → Nat → Value) (n i k : Nat) : (ct fv gv n i k).length = n + k := by simp [ct, fl]
theorem ct_zero (fv gv : Nat → Nat → Value) (n i : Nat) : ct fv gv n i 0 = fl fv n i := by simp [ct]
theorem ct_succ (fv gv : Nat → Nat → Value) (n i k : Nat) : ct fv gv n i (k + 1) = ct fv gv n i k ++ [gv i k] := by simp [ct, List.range_succ]
theorem fl_at {fv : Nat → Nat → Value} {n i j : Nat} (h : j < n) : (fl fv n i)[j]? = some (fv i j) := by rw [fl, List.getElem?_map, List.getElem?_range h]; rfl
theorem ct_front {fv gv : Nat → Nat → Value} {n i k j : Nat} (h : j < n) : (ct fv gv n i k)[j]? = some (fv i j) := by
  rw [ct, List.getElem?_append_left (by rw [fl_len]; exact h), fl_at h]
theorem ct_back {fv gv : Nat → Nat → Value} {n i k j : Nat} (h : j < k) : (ct fv gv n i k)[n + j]? = some (gv i j) := by
  rw [ct, List.getElem?_append_right (by rw [fl_len]; omega), fl_len, Nat.add_sub_cancel_left, List.getElem?_map, List.getElem?_range h]; rfl
theorem fl_set {fv : Nat → Nat → Value} {l : List Value} {k i : Nat} (hk : k < l.length) (h : l.take k = fl fv k i) : (l.set k (fv i k)).take (k + 1) = fl fv (k + 1) i := by
  rw [List.take_add_one, List.take_set, List.set_eq_of_length_le (by rw [List.length_take]; omega), h, List.getElem?_set_self hk]
  simp [fl, List.range_succ]

/-- Some rows, apart. -/
structure Rws (L : Nat) (e : TypeId) (W : World) (V : Nat → Value) (xs : Nat → List Value) : Prop where
  own : ∀ i, i < L → Row W e (V i) (xs i).length (xs i)
  apart : ∀ i j, i < L → j < L → i ≠ j → ∀ b, (V i).ownBlock = some b → (V j).ownBlock ≠ some b
def Ft (L : Nat) (V : Nat → Value) (b : Nat) : Prop := ∃ i, i < L ∧ (V i).ownBlock = some b
theorem Rws.store {L : Nat} {e : TypeId} {W : World} {V : Nat → Value} {xs : Nat → List Value} (h : Rws L e W V xs) {i : Nat} (hi : i < L) {b n cap : Nat} (hn : (xs i).length = n) (hV : V i = .slice (some ⟨b, 0, none⟩) n cap) (j : Nat) (u : Value) :
    Rws L e (W.setCell ⟨b, j, none⟩ u) V (updV xs i ((xs i).set j u)) := by
  have hc : Chg W (W.setCell ⟨b, j, none⟩ u) (fun i => i = b) := Chg.of_set W ⟨b, j, none⟩ u
  have hVb : (V i).ownBlock = some b := by rw [hV]; rfl
  refine ⟨fun i' hi' => ?_, h.apart⟩
  by_cases e' : i' = i
  · subst e'
    rw [updV_same, List.length_set]
    have h1 := h.own i' hi
    rw [hn, hV] at h1
    rw [hn, hV]
    exact h1.store j u
  · rw [updV_ne _ _ e']
    refine (h.own i' hi').chg hc (fun b' hb' e2 => ?_)
    subst e2
    exact h.apart i' i hi' hi e' _ hb' hVb

/-- What does not turn. -/
structure Cst (L Z X : Nat) (V : Nat → Value) (VS : Array Value) : Prop where
  apart : ∀ i j, i < L → j < L → i ≠ j → ∀ b, (V i).ownBlock = some b → (V j).ownBlock ≠ some b
  lt : ∀ i, i < L → ∀ b, (V i).ownBlock = some b → b < Z
  at_ : ∀ i, i < L → VS[i]? = some (V i)
  xz : X < Z
/-- Between two rows. -/
structure Gr0 (L K : Nat) (e TE : TypeId) (fv gv : Nat → Nat → Value) (Z X : Nat) (V : Nat → Value) (VS : Array Value) (n : Nat → Nat) (W0 W : World) (i : Nat) (t : Value) (G : Nat → Value) : Prop where
  old : ∀ i', i' < L → Sees W e (V i') (fl fv (n i') i')
  rest : ∀ i', i ≤ i' → i' < L → Row W e (V i') (n i') (fl fv (n i') i')
  trow : W.ownsRow Z TE 1 t i ((List.range i).map G)
  got : ∀ j, j < i → Sees W e (G j) (ct fv gv (n j) j K)
  gvv : ∀ j, j < i → ∀ i', i ≤ i' → i' < L → ∀ b, (G j).ownBlock = some b → (V i').ownBlock ≠ some b
  xb : Blk W X TE VS
  chg : Chg W0 W (Ft L V)
  zz : W0.heap.size = Z
/-- Within a row: k values more are laid. -/
structure Gr (L K : Nat) (e TE : TypeId) (fv gv : Nat → Nat → Value) (Z X : Nat) (V : Nat → Value) (VS : Array Value) (n : Nat → Nat) (W0 W : World) (i k : Nat) (t : Value) (G : Nat → Value) (l : Value) : Prop where
  old : ∀ i', i' < L → Sees W e (V i') (fl fv (n i') i')
  rest : ∀ i', i < i' → i' < L → Row W e (V i') (n i') (fl fv (n i') i')
  cur : Row W e l (n i + k) (ct fv gv (n i) i k)
  trow : W.ownsRow Z TE 1 t i ((List.range i).map G)
  got : ∀ j, j < i → Sees W e (G j) (ct fv gv (n j) j K)
  lv : ∀ i', i' < L → i' ≠ i → ∀ b, (V i').ownBlock = some b → l.ownBlock ≠ some b
  lg : ∀ j, j < i → ∀ b, (G j).ownBlock = some b → l.ownBlock ≠ some b
  lz : ∀ b, l.ownBlock = some b → (V i).ownBlock = some b ∨ Z ≤ b
  gvv : ∀ j, j < i → ∀ i', i < i' → i' < L → ∀ b, (G j).ownBlock = some b → (V i').ownBlock ≠ some b
  xb : Blk W X TE VS
  chg : Chg W0 W (Ft L V)
  zz : W0.heap.size = Z
section
variable {L K : Nat} {e TE : TypeId} {fv gv : Nat → Nat → Value} {Z X : Nat} {V : Nat → Value} {VS : Array Value} {n : Nat → Nat} {W0 W : World} {i k : Nat} {t l : Value} {G : Nat → Value}
theorem Gr0.enter (h : Gr0 L K e TE fv gv Z X V VS n W0 W i t G) (c : Cst L Z X V VS) (hi : i < L) : Gr L K e TE fv gv Z X V VS n W0 W i 0 t G (V i) :=
  ⟨h.old, fun i' h1 h2 => h.rest i' (by omega) h2, by rw [ct_zero]; exact h.rest i (Nat.le_refl _) hi, h.trow, h.got, fun i' h1 h2 b hb => c.apart i' i h1 hi h2 b hb,
    fun j hj b hb hv => h.gvv j hj i (Nat.le_refl _) hi b hb hv, fun b hb => .inl hb, fun j hj i' h1 h2 => h.gvv j hj i' (by omega) h2, h.xb, h.chg, h.zz⟩
/-- One value more. -/
theorem Gr.step (h : Gr L K e TE fv gv Z X V VS n W0 W i k t G l) (c : Cst L Z X V VS) (hi : i < L) (hK : 0 < K) (hne : e ≠ TE) {W2 : World} {l' : Value}
    (ho : Row W2 e l' (n i + k + 1) (ct fv gv (n i) i k ++ [gv i k]))
    (how : HowApp (W.alloc (.cells #[gv i k] e)) 1 (n i + k) 1 [gv i k] l l' W2) : Gr L K e TE fv gv Z X V VS n W0 W2 i (k + 1) t G l' := by
  obtain ⟨W1, hW1⟩ : ∃ W1, W.alloc (.cells #[gv i k] e) = W1 := ⟨_, rfl⟩
  have hb1 : Below W.heap.size W W1 := by rw [← hW1]; exact (Below.refl _ _).alloc (Nat.le_refl _) _
  have hz1 : W1.heap.size = W.heap.size + 1 := by rw [← hW1, World.size_alloc]
  rw [hW1] at how
  clear hW1
  obtain ⟨hg2, hr2⟩ := how.grown
  have hc1 := Chg.of_below hb1 (fun _ => False)
  have hc2 := Chg.of_grown hg2
  have hZ : Z ≤ W.heap.size := by have := h.chg.size; have := h.zz; omega
  have hl' : ∀ b, l'.ownBlock = some b → l.ownBlock = some b ∨ b = W1.heap.size := fun b hb => by
    rcases hr2 with e1 | e1
    · exact .inl (e1 ▸ hb)
    · rw [e1] at hb; cases hb; exact .inr rfl
  have keep : ∀ {v : Value} {xs : List Value}, Sees W e v xs → (∀ b, v.ownBlock = some b → l.ownBlock = some b → xs.length ≤ n i + k) → Sees W2 e v xs := fun hd hs => (hd.below hb1).app how hs
  have hlt : ∀ j, j < i → ∀ b, (G j).ownBlock = some b → b < W.heap.size := fun j hj b hb => (h.got j hj).lt (by rw [ct_len]; omega) hb
  refine ⟨fun i' h1 => keep (h.old i' h1) (fun b hb hlb => ?_), fun i' h1 h2 => ?_, ?_, ?_, fun j hj => keep (h.got j hj) (fun b hb hlb => absurd hlb (h.lg j hj b hb)), fun i' h1 h2 b hb hlb => ?_, fun j hj b hb hlb => ?_, fun b hb => ?_, h.gvv, ?_, ?_, h.zz⟩
  · rw [fl_len]
    by_cases e1 : i' = i
    · subst e1; omega
    · exact absurd hlb (h.lv i' h1 e1 b hb)
  · exact ((h.rest i' h1 h2).chg hc1 (fun _ _ f => f)).chg hc2 (fun b hb e1 => h.lv i' h2 (by omega) b hb e1)
  · rw [ct_succ]; exact ho
  · refine hc2.own (hc1.own h.trow (fun _ _ f => f)) (fun b hb e1 => ?_)
    obtain ⟨cs, hcs⟩ := h.cur.blk e1
    exact own_blk_ne h.trow hcs (fun e2 => hne e2.symm) hb
  · rcases hl' b hlb with e1 | e1
    · exact h.lv i' h1 h2 b hb e1
    · have := c.lt i' h1 b hb; omega
  · rcases hl' b hlb with e1 | e1
    · exact h.lg j hj b hb e1
    · have := hlt j hj b hb; omega
  · rcases hl' b hb with e1 | e1
    · exact h.lz b e1
    · right; omega
  · exact hc2.blk (hc1.blk h.xb (fun f => f)) (fun e1 => h.cur.ne_blk h.xb hne e1)
  · refine (h.chg.bel hb1).grown hg2 (fun b e1 hb => ?_)
    rcases h.lz b e1 with e2 | e2
    · exact ⟨i, hi, e2⟩
    · have := h.zz; omega
/-- The grown row kept. -/
theorem Gr.leave (h : Gr L K e TE fv gv Z X V VS n W0 W i K t G l) (c : Cst L Z X V VS) (hi : i < L) (hne : e ≠ TE) {W4 : World} {t' : Value}
    (hot : W4.ownsRow Z TE 1 t' (i + 1) ((List.range i).map G ++ [l]))
    (hgt : W.grownBy W4 t.ownBlock) : Gr0 L K e TE fv gv Z X V VS n W0 W4 (i + 1) t' (updV G i l) := by
  have hb1 : Below W.heap.size W W := Below.refl _ _
  have hc1 := Chg.of_below hb1 (fun _ => False)
  have hc4 := Chg.of_grown hgt
  have htne : ∀ b cs, Blk W b e cs → t.ownBlock ≠ some b := fun b cs hb => own_blk_ne h.trow hb (fun e2 => hne e2.symm)
  have keep : ∀ {v : Value} {xs : List Value}, Sees W e v xs → Sees W4 e v xs := fun hd => by
    exact (hd.below hb1).chg hc4 (fun b cs _ hb e1 => own_blk_ne (hc1.own h.trow (fun _ _ f => f)) hb (fun e2 => hne e2.symm) e1)
  have hrow : ∀ {v : Value} {m : Nat} {xs : List Value}, Row W e v m xs → Row W4 e v m xs := fun hr => by
    refine (hr.chg hc1 (fun _ _ f => f)).chg hc4 (fun b hb e1 => ?_)
    obtain ⟨cs, hcs⟩ := hr.blk hb
    exact htne b cs hcs e1
  refine ⟨fun i' h1 => keep (h.old i' h1), fun i' h1 h2 => hrow (h.rest i' (by omega) h2), ?_, fun j hj => ?_, fun j hj i' h1 h2 b hb => ?_, ?_, ?_, h.zz⟩
  · rw [List.range_succ, List.map_append, List.map_cons, List.map_nil, updV_same]
    rw [show ((List.range i).map (updV G i l)) = (List.range i).map G from List.map_congr_left (fun j hj => by rw [updV_ne _ _ (by have := List.mem_range.1 hj; omega)])]
    exact hot
  · by_cases e1 : j = i
    · subst e1
      rw [updV_same]
      exact Sees.of_row (hrow h.cur)
    · rw [updV_ne _ _ e1]
      exact keep (h.got j (by omega))
  · by_cases e1 : j = i
    · subst e1
      rw [updV_same] at hb
      exact fun hv => h.lv i' h2 (by omega) b hv hb
    · rw [updV_ne _ _ e1] at hb
      exact h.gvv j (by omega) i' (by omega) h2 b hb
  · refine hc4.blk (hc1.blk h.xb (fun f => f)) (fun e1 => ?_)
    have := (h.trow.lt X e1).1
    have := c.xz
    omega
  · refine (h.chg.bel hb1).grown hgt (fun b e1 hb => ?_)
    have := (h.trow.lt b e1).1
    have := h.zz
    omega
end
end Go.Proofs.Ytmcpbmadjpjckaa
