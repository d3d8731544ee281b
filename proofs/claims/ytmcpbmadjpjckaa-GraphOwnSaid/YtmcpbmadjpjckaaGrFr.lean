/-
  The search for the parts of a graph: its way in memory, the net that it goes over, what is left to meet. No program in sight but its types' numbers.
-/
import Derived.Test.YtmcpbmadjpjckaaGrMem
namespace Go.Proofs.Ytmcpbmadjpjckaa
open Go.RowKit

/-- To which nodes each leads, in memory; Nb: the blocks where that lies. -/
structure NetM (W : World) (Nb : Nat → Prop) (gG n : Nat) (adj : Nat → List Nat) : Prop where
  row : ∀ u, u < n → ∃ A c, W.cell? ⟨gG, u, none⟩ = some (.slice A (adj u).length c) ∧ ∀ j t, (adj u)[j]? = some t → ∃ b off, A = some ⟨b, off, none⟩ ∧ Nb b ∧ W.cell? ⟨b, off + j, none⟩ = some (iv t)
  at_ : Nb gG
theorem NetM.chg {W W' : World} {Nb S : Nat → Prop} {gG n : Nat} {adj : Nat → List Nat} (h : NetM W Nb gG n adj) (hc : Chg W W' S) (hS : ∀ b, Nb b → b < W.heap.size ∧ ¬ S b) : NetM W' Nb gG n adj := by
  have hk : ∀ (p : Addr), Nb p.block → W'.cell? p = W.cell? p := fun p hp => World.cell?_of_block (hc.block _ (hS _ hp).1 (hS _ hp).2)
  refine ⟨fun u hu => ?_, h.at_⟩
  obtain ⟨A, c, h1, h2⟩ := h.row u hu
  refine ⟨A, c, (hk ⟨gG, u, none⟩ h.at_).trans h1, fun j t hj => ?_⟩
  obtain ⟨b, off, e, hb, hcell⟩ := h2 j t hj
  exact ⟨b, off, e, hb, (hk ⟨b, off + j, none⟩ hb).trans hcell⟩
/-- Where the search writes nothing. -/
def Nt (X gM gL gP B b : Nat) : Prop := b < B ∧ b ≠ X ∧ b ≠ gM ∧ b ≠ gL ∧ b ≠ gP
theorem NetM.tn {W W' : World} {X gM gL gP B gG n : Nat} {adj : Nat → List Nat} (h : NetM W (Nt X gM gL gP B) gG n adj) (hB : B ≤ W.heap.size) (hc : Chg W W' (Tn X gM gL gP B)) : NetM W' (Nt X gM gL gP B) gG n adj :=
  h.chg hc (fun b hb => ⟨Nat.lt_of_lt_of_le hb.1 hB, fun h => by
    obtain ⟨h1, h2, h3, h4, h5⟩ := hb
    rcases h with e | e | e | e | e
    · exact h2 e
    · exact h3 e
    · exact h4 e
    · exact h5 e
    · omega⟩)

/-- How many are not met yet. -/
def wh (n : Nat) (met : Nat → Nat) : Nat := ((List.range n).filter (fun u => met u == 0)).length
theorem wh_succ (n : Nat) (met : Nat → Nat) : wh (n + 1) met = wh n met + (if met n = 0 then 1 else 0) := by
  rw [wh, List.range_succ, List.filter_append, List.length_append]
  congr 1
  by_cases e : met n = 0 <;> simp [e]
theorem wh_meet {n u v : Nat} {met : Nat → Nat} (hu : u < n) (hm : met u = 0) (hv : v ≠ 0) : wh n (upf met u v) + 1 = wh n met := by
  induction n with
  | zero => omega
  | succ n ih =>
    rw [wh_succ, wh_succ]
    by_cases e : u = n
    · subst e
      have h : wh u (upf met u v) = wh u met := by
        unfold wh
        congr 1
        apply List.filter_congr
        intro x hx
        rw [upf_ne _ _ (by have := List.mem_range.1 hx; omega)]
      rw [h, upf_same, if_neg hv, if_pos hm]
    · have := ih (by omega)
      rw [upf_ne _ _ (fun h => e h.symm)]
      omega

/-- The way's cells. -/
def fcells (way : List (Nat × Nat)) : List Value := way.flatMap fun f => [iv f.1, iv f.2]
theorem fcells_len (way : List (Nat × Nat)) : (fcells way).length = way.length * 2 := by
  induction way with
  | nil => rfl
  | cons f r ih => rw [fcells, List.flatMap_cons, List.length_append]; show 2 + (fcells r).length = _; rw [ih, List.length_cons]; omega
theorem fcells_app (a b : List (Nat × Nat)) : fcells (a ++ b) = fcells a ++ fcells b := by simp [fcells]
theorem fcells_node {ws : List (Nat × Nat)} {x k : Nat} : (fcells (ws ++ [(x, k)]))[2 * ws.length]? = some (iv x) := by
  rw [fcells_app, List.getElem?_append_right (by rw [fcells_len]; omega), fcells_len, show 2 * ws.length - ws.length * 2 = 0 by omega]; rfl
theorem fcells_next {ws : List (Nat × Nat)} {x k : Nat} : (fcells (ws ++ [(x, k)]))[2 * ws.length + 1]? = some (iv k) := by
  rw [fcells_app, List.getElem?_append_right (by rw [fcells_len]; omega), fcells_len, show 2 * ws.length + 1 - ws.length * 2 = 1 by omega]; rfl
theorem fcells_set {ws : List (Nat × Nat)} {x k k' : Nat} : (fcells (ws ++ [(x, k)])).set (2 * ws.length + 1) (iv k') = fcells (ws ++ [(x, k')]) := by
  rw [fcells_app, fcells_app, List.set_append_right _ _ (by rw [fcells_len]; omega), fcells_len, show 2 * ws.length + 1 - ws.length * 2 = 1 by omega]; rfl
theorem own_form2 {w : World} {base n : Nat} {e : TypeId} {v : Value} {xs : List Value} (h : w.ownsRow base e 2 v n xs) (hn : 0 < n) : ∃ g cap, v = .slice (some ⟨g, 0, none⟩) n cap ∧ base ≤ g ∧ n ≤ cap ∧ cap ≤ 9223372036854775807 := by
  rcases h.2 with ⟨_, h0⟩ | ⟨g, cap, cur, rfl, hb, hg, h1, h2, _⟩
  · omega
  · exact ⟨g, cap, rfl, hb, h1, by simp only [maxLen] at h2; omega⟩
theorem own_cell2 {w : World} {base n g cap k : Nat} {e : TypeId} {xs : List Value} (h : w.ownsRow base e 2 (.slice (some ⟨g, 0, none⟩) n cap) n xs) (hk : k < n * 2) : w.cell? ⟨g, k, none⟩ = xs[k]? := by
  rcases h.2 with ⟨h', _⟩ | ⟨g', cap', cur, h', hb, hg, h1, h2, h3, ht⟩
  · cases h'
  · cases h'
    rw [cell_of_row w g k cur e (0, 0) hg, ← ht, List.getElem?_take, if_pos hk]
    simp
theorem own_frozen2 {w : World} {base n g cap : Nat} {e : TypeId} {xs : List Value} {s : Nat} (h : w.ownsRow base e s (.slice (some ⟨g, 0, none⟩) n cap) n xs) (k : Nat) : w.frozen? ⟨g, k, none⟩ = false := by
  rcases h.2 with ⟨h', _⟩ | ⟨g', cap', cur, h', hb, hg, _⟩
  · cases h'
  · cases h'
    simp [World.frozen?, hg]
theorem own_store2 {w : World} {base n g cap : Nat} {e : TypeId} {xs : List Value} {s : Nat} (h : w.ownsRow base e s (.slice (some ⟨g, 0, none⟩) n cap) n xs) (k : Nat) (u : Value) : (w.setCell ⟨g, k, none⟩ u).ownsRow base e s (.slice (some ⟨g, 0, none⟩) n cap) n (xs.set k u) := by
  rcases h.2 with ⟨h', _⟩ | ⟨g', cap', cur, h', hb, hg, h1, h2, h3, ht⟩
  · cases h'
  · cases h'
    refine ⟨by rw [List.length_set]; exact h.1, .inr ⟨g, cap, cur.setIfInBounds k u, rfl, hb, Blk.set_ hg k u, h1, h2, by simpa using h3, ?_⟩⟩
    rw [Array.toList_setIfInBounds, List.take_set, ht]
theorem own_cut2 {w : World} {base g cap N k s : Nat} {e : TypeId} {xs : List Value} (h : w.ownsRow base e s (.slice (some ⟨g, 0, none⟩) N cap) N xs) (hk : k ≤ N) : w.ownsRow base e s (.slice (some ⟨g, 0, none⟩) k cap) k (xs.take (k * s)) := by
  have hx := h.1
  have hks : k * s ≤ N * s := Nat.mul_le_mul_right _ hk
  rcases h.2 with ⟨h', _⟩ | ⟨g', cap', cur, h', hb, hh, hnc, hcm, hcs, ht⟩
  · cases h'
  · cases h'
    refine ⟨by rw [List.length_take, hx]; omega, .inr ⟨g, cap, cur, rfl, hb, hh, by omega, hcm, hcs, ?_⟩⟩
    rw [← ht, List.take_take]
    congr 1
    omega
theorem fcells_cut {ws : List (Nat × Nat)} {f : Nat × Nat} : (fcells (ws ++ [f])).take (ws.length * 2) = fcells ws := by
  rw [fcells_app, List.take_left' (fcells_len ws)]
theorem elem_fr : ElemOf Try.prog 93 92 2 16 := .mk' (.agg #[.int .i64 0, .int .i64 0]) Try.underlying93 (by kernel_rfl) rfl (by omega)
end Go.Proofs.Ytmcpbmadjpjckaa
