/-
  Depths as GraphFalls asks: the plain law.
-/
import Derived.Test.YtmcpbmadjpjckaaGrWithin
import Derived.Test.YtmcpbmadjpjckaaGrRefused
namespace Go.Proofs.Ytmcpbmadjpjckaa
open Go.RowKit

theorem IsDepth.tight {N : Nat} {E : List (Int × Int × Int)} {D : Nat → Nat} (h : IsDepth N E D) {u : Nat} (hu : u < N) (hp : 0 < D u) : ∃ e ∈ E, e.1.toNat = u ∧ D e.1.toNat = D e.2.1.toNat + e.2.2.toNat := by
  refine Classical.byContradiction fun hno => ?_
  have hl := h.least (fun v => if v = u then D u - 1 else D v) (fun e he => by
    have hf := h.fall e he
    show (if e.2.1.toNat = u then D u - 1 else D e.2.1.toNat) + e.2.2.toNat ≤ (if e.1.toNat = u then D u - 1 else D e.1.toNat)
    by_cases c1 : e.1.toNat = u
    · rw [if_pos c1]
      rw [c1] at hf
      have hne : ¬ D e.1.toNat = D e.2.1.toNat + e.2.2.toNat := fun x => hno ⟨e, he, c1, x⟩
      rw [c1] at hne
      split
      · rename_i c2
        rw [c2] at hf hne
        omega
      · omega
    · rw [if_neg c1]
      split
      · rename_i c2
        rw [c2] at hf
        omega
      · omega) u hu
  simp only [if_true] at hl
  omega
/-- What GraphFalls is told by Depths. -/
def FallsOut (W : World) (n : Int) (E : List (Int × Int × Int)) (e : Ending) (W' : World) : Prop :=
  Below W.heap.size W W' ∧ ((chkS n E ≠ 0 ∧ chkS n E ≠ 100 ∧ e = .returned (.tuple #[.slice none 0 0, .int .i64 (chkS n E)])) ∨
    (chkS n E = 0 ∧ e = .returned (.tuple #[.slice none 0 0, .int .i64 100]) ∧ ∃ (i0 : Nat) (e0 : Int × Int × Int), E[i0]? = some e0 ∧ 0 < e0.2.2 ∧ Rs (adjOf E false) e0.2.1.toNat e0.1.toNat) ∨
    (chkS n E = 0 ∧ ∃ (N : Nat) (D : Nat → Nat) (g : Nat), n = (N : Int) ∧ IsDepth N E D ∧ (∀ u, u < N → D u ≤ 68719476736) ∧ e = .returned (.tuple #[.slice (some ⟨g, 0, none⟩) N N, .int .i64 0]) ∧ W.heap.size ≤ g ∧ Blk W' g 3 (tab N fun u => iv (D u))))
theorem chk_100 (n : Int) (E : List (Int × Int × Int)) : chkS n E ≠ 100 := by
  unfold chkS
  split
  · omega
  · split <;> omega
theorem depths_falls (W : World) (n : Int) (A : Option Addr) (m cap B0 : Nat) (E : List (Int × Int × Int)) (hr : Reads W B0 3 A m (ecells E)) (hB0 : B0 ≤ W.heap.size) (hm : m ≤ 140737488355328) :
    Calls Try.prog 10 #[.int .i64 n, .slice A m cap] W (FallsOut W n E) := by
  refine (depths_any W n A m cap B0 E hr hB0 hm).mono fun e W' h => ?_
  obtain ⟨hb, h⟩ := h
  refine ⟨hb, ?_⟩
  rcases h with ⟨h1, h2⟩ | ⟨h0, N, part, al, hN, hp, h⟩
  · exact .inl ⟨h1, chk_100 n E, h2⟩
  · have hE := (chk_ok h0).2.2.2
    have hn := (chk_ok h0).1
    rw [hN] at hE hn
    rcases h with ⟨⟨e0, he0, h1, h2⟩, h3⟩ | ⟨hb, g, h3, h4, h5⟩
    · obtain ⟨i0, hi0⟩ := List.getElem?_of_mem he0
      refine .inr (.inl ⟨h0, h3, i0, e0, hi0, h2, ?_⟩)
      obtain ⟨f, t, g, rfl, hf, ht, hg⟩ := okE_parts (hE e0 he0)
      simp only [Int.toNat_natCast] at h1 ⊢
      exact hp.same t f ht hf h1.symm
    · refine .inr (.inr ⟨h0, N, fun u => dps (downOf part E) al (part u), g, hN, depth_is hp hE hb, fun u hu => ?_, h3, h4, h5⟩)
      have h1 := dps_bound (downOf part E) (down_ok hp hE) al (part u)
      have h2 := hp.lt u hu
      have h3 := hp.aln
      have h4 : part u * 1048576 ≤ 65536 * 1048576 := Nat.mul_le_mul_right _ (by omega)
      show dps (downOf part E) al (part u) ≤ _
      omega
theorem rch_pw (N : Nat) (adj : Nat → List Nat) (S : List Nat) : ((rchL N adj S).map fun u : Nat => (u : Int)).Pairwise (· < ·) := by
  rw [List.pairwise_map]
  refine List.Pairwise.imp (R := fun a b : Nat => a < b) (fun h => by omega) ?_
  exact List.Pairwise.filter _ List.pairwise_lt_range
theorem rch_in {N : Nat} {adj : Nat → List Nat} {S : List Nat} {u : Nat} (hu : u < N) (h : ∃ s ∈ S, Rs adj s u) : u ∈ rchL N adj S := by
  refine List.mem_filter.2 ⟨List.mem_range.2 hu, ?_⟩
  unfold rchB
  simpa using h
theorem Reads.edge0 {w : World} {B m k g : Nat} {E : List (Int × Int × Int)} (h : Reads w B 3 (some ⟨g, 0, none⟩) m (ecells E)) (hk : k < m) :
    ∃ f t gw, E[k]? = some (f, t, gw) ∧ w.cell? ⟨g, k * 3, none⟩ = some (.int .i64 f) ∧ w.cell? ⟨g, k * 3 + 1, none⟩ = some (.int .i64 t) ∧ w.cell? ⟨g, k * 3 + 2, none⟩ = some (.int .i64 gw) := by
  obtain ⟨b, off, f, t, gw, hA, _, he, c1, c2, c3⟩ := h.edge hk
  injection hA with hA
  injection hA with e1 e2
  subst e1 e2
  rw [Nat.zero_add] at c1 c2 c3
  exact ⟨f, t, gw, he, c1, c2, c3⟩
/-- Reach from one node. -/
theorem reach_one (W0 W : World) (hW0 : Below W0.heap.size W0 W) (n : Int) (A : Option Addr) (m cap B0 gq : Nat) (E : List (Int × Int × Int)) (t : Int) (hb : Blk W gq 3 #[.int .i64 t]) (hr : Reads W B0 3 A m (ecells E)) (hB0 : B0 ≤ W.heap.size) (hm : m ≤ 140737488355328) (h0 : chkS n E = 0) (ht : 0 ≤ t ∧ t < n) :
    Calls Try.prog 11 #[.int .i64 n, .slice (some ⟨gq, 0, none⟩) 1 1, .slice A m cap] W fun e W' => ∃ A' k c, e = .returned (.tuple #[.slice A' k c, .int .i64 0]) ∧ RowI W' (.slice A' k c) ((rchL n.toNat (adjOf E false) [t.toNat]).map fun u : Nat => (u : Int)) ∧ Below W0.heap.size W0 W' := by
  have hrow : Reads W W.heap.size 1 (some ⟨gq, 0, none⟩) 1 (([t] : List Int).map (.int .i64)) := Reads.arr hb hb.lt rfl
  refine (reach_any W n A m cap W.heap.size E (hr.more hB0) (Nat.le_refl _) hm (some ⟨gq, 0, none⟩) 1 1 [t] hrow (by omega)).mono fun e W' h => ?_
  obtain ⟨hb, ⟨h1, _⟩ | ⟨_, h1, _⟩ | ⟨_, _, N, v, hN, rfl, ho⟩⟩ := h
  · exact absurd h0 h1
  · rw [List.any_cons, List.any_nil, outB_f (by omega)] at h1
    cases h1
  · subst hN
    have hN := (chk_ok h0).1
    have hl := rch_len N (adjOf E false) [t.toNat]
    rw [List.map_cons, List.map_nil] at ho
    obtain ⟨A', c, rfl⟩ := ho.shape
    exact ⟨A', _, c, rfl, RowI.own ho (by omega), hW0.trans (hb.mono hW0.size)⟩
/-- Is one number within a list. -/
theorem within_one (W : World) (A : Option Addr) (k c : Nat) (ys : List Int) (f : Int) (h : RowI W (.slice A k c) ys) :
    Calls Try.prog 21 #[.slice (some ⟨W.heap.size, 0, none⟩) 1 1, .slice A k c] (W.alloc (.cells #[.int .i64 f] 3)) fun e W' => ∃ r : Bool, e = .returned (.bool r) ∧ (f ∈ ys → ys.Pairwise (· < ·) → r = true) ∧ Below W.heap.size W W' := by
  obtain ⟨w6, h6⟩ : ∃ x, W.alloc (.cells #[.int .i64 f] 3) = x := ⟨_, rfl⟩
  have b6 : Below W.heap.size W w6 := by rw [← h6]; exact (Below.refl _ _).alloc (Nat.le_refl _) _
  have x6 : Blk w6 W.heap.size 3 (([f] : List Int).map iz).toArray := by rw [← h6]; exact Blk.new _ _ _
  obtain ⟨A', m, c', B, hv, r1, r2, r3⟩ := h.below b6
  cases hv
  rw [h6]
  exact (within_any w6 (some ⟨W.heap.size, 0, none⟩) A 1 k 1 c _ B [f] ys (Reads.arr x6 x6.lt rfl) r1 (by omega) r2).mono fun e W' ⟨r, he, hr, a, hw⟩ => ⟨r, he, fun h1 h2 => hr ⟨List.pairwise_singleton _ _, h2, fun x hx => by rw [List.mem_singleton] at hx; exact hx ▸ h1⟩, by rw [hw]; exact below_drewN b6 a⟩
end Go.Proofs.Ytmcpbmadjpjckaa
