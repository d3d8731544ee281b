/-
  What Parts, Order, Round and Depths answer of the small graph.
-/
import Derived.Test.YtmcpbmadjpjckaaGrLists
namespace Go.Proofs.Ytmcpbmadjpjckaa
open Go.RowKit

/-- Two rows of integers in a slice. -/
def RowsF (W : World) (v : Value) (n : Nat) (xs : Nat → List Int) : Prop := ∃ A c B vs, v = .slice A n c ∧ Reads W B 1 A n vs ∧ B ≤ W.heap.size ∧ ∀ (k : Nat) (u : Value), vs[k]? = some u → RowI W u (xs k)
theorem RowsF.below {W W' : World} {v : Value} {n : Nat} {xs : Nat → List Int} (h : RowsF W v n xs) (hb : Below W.heap.size W W') : RowsF W' v n xs := by
  obtain ⟨A, c, B, vs, rfl, h1, h2, h3⟩ := h
  exact ⟨A, c, B, vs, rfl, h1.below (hb.mono h2), Nat.le_trans h2 hb.size, fun k u hu => (h3 k u hu).below hb⟩
def xs3 (k : Nat) : List Int := if k = 0 then [0, 1] else [2]
theorem isd3 : IsDepth 3 E3 (fun u => if u = 2 then 3 else 0) := by
  refine ⟨fun e he => ?_, fun F hF u hu => ?_⟩
  · simp only [E3, List.mem_cons, List.not_mem_nil, or_false] at he
    rcases he with rfl | rfl | rfl <;> decide
  · have h := hF (2, 1, 3) (by simp [E3])
    have h' : F 1 + 3 ≤ F 2 := h
    split
    · rename_i e
      rw [e]
      omega
    · omega
section
variable (W : World) (A : Option Addr) (cap B0 : Nat) (hr : Reads W B0 3 A 3 (ecells E3)) (hB0 : B0 ≤ W.heap.size)
include hr hB0
theorem awk_parts : Calls Try.prog 19 #[.int .i64 3, .slice A 3 cap] W fun e W' => ∃ v, e = .returned (.tuple #[v, .int .i64 0]) ∧ RowsF W' v 2 xs3 ∧ Below W.heap.size W W' := by
  refine (parts_any W 3 A 3 cap B0 E3 hr hB0 (by omega)).mono fun e W' h => ?_
  obtain ⟨hb, ⟨hc, _⟩ | ⟨_, N, part, al, os, v, V, hN, rfl, ho⟩⟩ := h
  · exact absurd chk3 hc
  · obtain rfl : N = 3 := by omega
    have h3 := parts3 ho.parts ho.surj
    have hos := os3 h3 ho.spec ho.all
    have hn := nds3 ⟨h3.1, h3.2.1, h3.2.2.1⟩
    have hown := ho.own
    rw [hos] at hown
    obtain ⟨Av, c, rfl⟩ := hown.shape
    refine ⟨_, rfl, ⟨Av, c, W'.heap.size, _, rfl, own_reads hown, Nat.le_refl _, fun k u hu => ?_⟩, hb⟩
    match k, hu with
    | 0, hu =>
      obtain rfl : V 0 = u := by simpa using hu
      have hr0 := ho.rows 0 (by omega)
      rw [hn.1] at hr0
      exact RowI.own hr0 (by simp)
    | 1, hu =>
      obtain rfl : V 1 = u := by simpa using hu
      have hr0 := ho.rows 1 (by omega)
      rw [hn.2] at hr0
      exact RowI.own hr0 (by simp)
    | k + 2, hu => simp at hu
theorem awk_order : Calls Try.prog 22 #[.int .i64 3, .slice A 3 cap] W fun e W' => e = .returned (.tuple #[.slice none 0 0, .int .i64 100]) ∧ Below W.heap.size W W' := by
  refine (order_any W 3 A 3 cap B0 E3 hr hB0 (by omega)).mono fun e W' h => ?_
  obtain ⟨hb, ⟨hc, _⟩ | ⟨_, N, part, al, os, hN, hp, hs, hsp, ha, hres⟩⟩ := h
  · exact absurd chk3 hc
  · obtain rfl : N = 3 := by omega
    have h3 := parts3 hp hs
    have hos := os3 h3 hsp ha
    rcases hres with ⟨_, rfl⟩ | ⟨hf, _⟩
    · exact ⟨rfl, hb⟩
    · rw [hos, rd3 ⟨h3.1, h3.2.1, h3.2.2.1⟩] at hf
      cases hf
theorem awk_round : Calls Try.prog 23 #[.int .i64 3, .slice A 3 cap] W fun e W' => ∃ v, e = .returned (.tuple #[v, .int .i64 0]) ∧ RowI W' v [0, 1] ∧ Below W.heap.size W W' := by
  refine (round_all W 3 A 3 cap B0 E3 hr hB0 (by omega)).mono fun e W' h => ?_
  obtain ⟨hb, ⟨hc, _⟩ | ⟨_, N, part, al, hN, hp, hs, hres⟩⟩ := h
  · exact absurd chk3 hc
  · obtain rfl : N = 3 := by omega
    have h3 := parts3 hp hs
    rcases hres with ⟨hn, _⟩ | ⟨v, f, r, rfl, hr', ho⟩
    · exact (noc3 ⟨h3.1, h3.2.1, h3.2.2.1⟩ hn).elim
    · obtain ⟨rfl, rfl⟩ := rnd3 hr'
      exact ⟨v, rfl, RowI.own ho (by simp), hb⟩
theorem awk_depths : Calls Try.prog 10 #[.int .i64 3, .slice A 3 cap] W fun e W' => ∃ v, e = .returned (.tuple #[v, .int .i64 0]) ∧ RowI W' v [0, 0, 3] ∧ Below W.heap.size W W' := by
  refine (depths_any W 3 A 3 cap B0 E3 hr hB0 (by omega)).mono fun e W' h => ?_
  obtain ⟨hb, ⟨hc, _⟩ | ⟨_, N, part, al, hN, hp, hres⟩⟩ := h
  · exact absurd chk3 hc
  · obtain rfl : N = 3 := by omega
    have hE := (chk_ok chk3).2.2.2
    rcases hres with ⟨⟨e, he, h1, h2⟩, _⟩ | ⟨hbad, g, rfl, hg, hblk⟩
    · exfalso
      simp only [E3, List.mem_cons, List.not_mem_nil, or_false] at he
      rcases he with rfl | rfl | rfl
      · exact absurd h2 (by decide)
      · exact absurd h2 (by decide)
      · have := rs3 (hp.same 1 2 (by omega) (by omega) h1.symm) (by omega)
        omega
    · have hD := depth_is hp hE hbad
      have d0 := hD.same isd3 (show 0 < 3 by omega)
      have d1 := hD.same isd3 (show 1 < 3 by omega)
      have d2 := hD.same isd3 (show 2 < 3 by omega)
      simp only at d0 d1 d2
      have ht : tab 3 (fun u => iv (dps (downOf part E3) al (part u))) = (([0, 0, 3] : List Int).map iz).toArray := by
        simp [tab, List.range_succ, d0, d1, d2, iv, iz]
      rw [ht] at hblk
      exact ⟨_, rfl, RowI.arr hblk rfl (by omega), hb⟩
end
end Go.Proofs.Ytmcpbmadjpjckaa
