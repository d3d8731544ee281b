/-
  What GraphMost is told by Parts, Order, Depths, Reach of great graphs of few edges.
-/
import Derived.Test.YtmcpbmadjpjckaaGrMostM
namespace Go.Proofs.Ytmcpbmadjpjckaa
open Go.RowKit

theorem nil_edges (W : World) : Reads W W.heap.size 3 none 0 (ecells []) := Reads.none_
theorem most_parts (W : World) (N z : Nat) (hz : z + 1 = N) (hN : N ≤ 65536) : Calls Try.prog 19 #[.int .i64 (N : Int), .slice none 0 0] W fun e W' => ∃ g cv Ap cp, e = .returned (.tuple #[.slice (some ⟨g, 0, none⟩) N cv, .int .i64 0]) ∧ W'.cell? ⟨g, z, none⟩ = some (.slice Ap 1 cp) ∧ g < W'.heap.size ∧ RowI W' (.slice Ap 1 cp) [(z : Int)] ∧ Below W.heap.size W W' := by
  refine (parts_any W (N : Int) none 0 0 _ [] (nil_edges W) (Nat.le_refl _) (by omega)).mono fun e W' h => ?_
  obtain ⟨hb, ⟨h1, _⟩ | ⟨_, N', part, al, os, v, V, hN', rfl, ho⟩⟩ := h
  · exact absurd (chk_good (by omega) (by simp) (by omega) (by simp)) h1
  · obtain rfl : N = N' := by omega
    obtain ⟨hl, hos⟩ := os_none ho.parts ho.surj ho.spec ho.all
    have hown := ho.own
    rw [hl] at hown
    obtain ⟨g, cv, rfl, _, h1, h2⟩ := own_form hown (by omega)
    have hc := own_cell hown (k := z) (by omega)
    rw [List.getElem?_map, hos z (by omega)] at hc
    have hr := ho.rows (part z) (ho.parts.lt z (by omega))
    rw [nds_inj (inj_none ho.parts) (by omega)] at hr
    obtain ⟨Ap, cp, hv⟩ := hr.shape
    refine ⟨g, cv, Ap, cp, rfl, by rw [hc]; exact congrArg some hv, (hown.lt g rfl).2, ?_, hb⟩
    rw [hv] at hr
    exact RowI.own hr (by simp)
theorem most_long (W : World) (n : Int) (hn : 65536 < n) : Calls Try.prog 19 #[.int .i64 n, .slice none 0 0] W fun e W' => e = .returned (.tuple #[.slice none 0 0, .int .i64 3]) ∧ Below W.heap.size W W' :=
  parts_bad W n none 0 0 _ [] (nil_edges W) (Nat.le_refl _) (by omega) 3 (chk_long (.inl hn)) (by omega)
theorem most_order (W : World) (N z : Nat) (hz : z + 1 = N) (hz1 : 1 < z) (hN : N ≤ 65536) (A : Option Addr) (cap B0 : Nat) (hr : Reads W B0 3 A 1 (ecells [(((0 : Nat) : Int), ((z : Nat) : Int), (0 : Int))])) (hB0 : B0 ≤ W.heap.size) :
    Calls Try.prog 22 #[.int .i64 (N : Int), .slice A 1 cap] W fun e W' => ∃ g cv, e = .returned (.tuple #[.slice (some ⟨g, 0, none⟩) N cv, .int .i64 0]) ∧ W'.cell? ⟨g, z - 1, none⟩ = some (.int .i64 (z : Int)) ∧ W'.cell? ⟨g, z, none⟩ = some (.int .i64 0) ∧ g < W'.heap.size ∧ Below W.heap.size W W' := by
  refine (order_any W (N : Int) A 1 cap B0 _ hr hB0 (by omega)).mono fun e W' h => ?_
  have hok : ∀ e ∈ [(((0 : Nat) : Int), ((z : Nat) : Int), (0 : Int))], okE (N : Int) e = true := fun e he => by
    rw [List.mem_singleton] at he
    subst he
    exact okE_good (by omega)
  obtain ⟨hb, ⟨h1, _⟩ | ⟨_, N', part, al, os, hN', hp, hs, hsp, ha, hres⟩⟩ := h
  · exact absurd (chk_good (by omega) (by simp) (by omega) hok) h1
  · obtain rfl : N = N' := by omega
    have hi := inj_one (z := 0) (t := z) (by omega) hp
    have hf : rdB part N os [(((0 : Nat) : Int), ((z : Nat) : Int), (0 : Int))] = false := (rdB_false hp hs ha).2 ⟨inj_al hp hi, by simp [selfB]; omega⟩
    rcases hres with ⟨h, _⟩ | ⟨_, v, rfl, ho⟩
    · rw [hf] at h; cases h
    · obtain ⟨hl, hos⟩ := os_one hz (by omega) hp hs hsp ha
      have hln := order_len hp hs hsp ha hf
      rw [hln] at ho
      obtain ⟨g, cv, rfl, _, h1, h2⟩ := own_form ho (by omega)
      have hall : ∀ p ∈ os, ∃ v, v < N ∧ part v = p := fun p hp' => hs p (hsp.lt p hp')
      refine ⟨g, cv, rfl, ?_, ?_, (ho.lt g rfl).2, hb⟩
      · rw [own_cell ho (by omega), List.getElem?_map, flat_at hi (u := z) hall (by rw [hos (z - 1) (by omega), if_neg (by omega)]; congr 2; omega) (by omega)]
        rfl
      · rw [own_cell ho (by omega), List.getElem?_map, flat_at hi (u := 0) hall (by rw [hos z (by omega), if_pos rfl]) (by omega)]
        rfl
theorem most_depths (W : World) (N z k : Nat) (hz : z + 1 = N) (hz1 : 1 < z) (hN : N ≤ 65536) (hk : k ≤ 1048576) (A : Option Addr) (cap B0 : Nat) (hr : Reads W B0 3 A 1 (ecells [(((z : Nat) : Int), ((0 : Nat) : Int), ((k : Nat) : Int))])) (hB0 : B0 ≤ W.heap.size) :
    Calls Try.prog 10 #[.int .i64 (N : Int), .slice A 1 cap] W fun e W' => ∃ g, e = .returned (.tuple #[.slice (some ⟨g, 0, none⟩) N N, .int .i64 0]) ∧ W'.cell? ⟨g, z, none⟩ = some (.int .i64 (k : Int)) ∧ W'.cell? ⟨g, 0, none⟩ = some (.int .i64 0) ∧ g < W'.heap.size ∧ Below W.heap.size W W' := by
  refine (depths_any W (N : Int) A 1 cap B0 _ hr hB0 (by omega)).mono fun e W' h => ?_
  have hok : ∀ e ∈ [(((z : Nat) : Int), ((0 : Nat) : Int), ((k : Nat) : Int))], okE (N : Int) e = true := fun e he => by
    rw [List.mem_singleton] at he
    subst he
    exact okE_good (by omega)
  obtain ⟨hb, ⟨h1, _⟩ | ⟨_, N', part, al, hN', hp, hres⟩⟩ := h
  · exact absurd (chk_good (by omega) (by simp) (by omega) hok) h1
  · obtain rfl : N = N' := by omega
    have hi := inj_one (z := z) (t := 0) (by omega) hp
    rcases hres with ⟨⟨e, he, h1, h2⟩, _⟩ | ⟨hbad, g, rfl, hg, hblk⟩
    · rw [List.mem_singleton] at he
      subst he
      simp only [Int.toNat_natCast] at h1
      have := hi z 0 (by omega) (by omega) h1
      omega
    · have hD := depth_is hp hok hbad
      have d0 := hD.same (isd_one (N := N) (z := z) (by omega) k) (u := 0) (by omega)
      have dz := hD.same (isd_one (N := N) (z := z) (by omega) k) (u := z) (by omega)
      simp only [if_true] at dz
      rw [if_neg (by omega)] at d0
      refine ⟨g, rfl, ?_, ?_, hblk.lt, hb⟩
      · rw [hblk.cell z, tab_at _ (by omega), dz]; rfl
      · rw [hblk.cell 0, tab_at _ (by omega), d0]; rfl
theorem most_reach (W : World) (N z t : Nat) (hz : z + 1 = N) (ht : t < z) (hN : N ≤ 65536) (A A1 : Option Addr) (cap c1 B0 : Nat) (hr : Reads W B0 3 A 1 (ecells [(((z : Nat) : Int), ((t : Nat) : Int), (0 : Int))])) (h1 : Reads W W.heap.size 1 A1 1 (([(z : Int)] : List Int).map iz)) (hB0 : B0 ≤ W.heap.size) :
    Calls Try.prog 11 #[.int .i64 (N : Int), .slice A1 1 c1, .slice A 1 cap] W fun e W' => ∃ A' c, e = .returned (.tuple #[.slice A' 2 c, .int .i64 0]) ∧ RowI W' (.slice A' 2 c) [(t : Int), (z : Int)] ∧ Below W.heap.size W W' := by
  have hok : ∀ e ∈ [(((z : Nat) : Int), ((t : Nat) : Int), (0 : Int))], okE (N : Int) e = true := fun e he => by
    rw [List.mem_singleton] at he
    subst he
    exact okE_good (by omega)
  refine (reach_tells W (N : Int) A 1 cap B0 _ hr hB0 (by omega) (N := N) (x := z) rfl (by omega) (chk_good (by omega) (by simp) (by omega) hok) A1 c1 h1).mono fun e W' h => ?_
  obtain ⟨A', k, c, rfl, h2, h3⟩ := h
  rw [rch_two (by omega) ht] at h2
  obtain ⟨A2, m2, c2, B2, hv, r1, r2, r3⟩ := h2
  cases hv
  obtain rfl : 2 = k := by have := r1.1; simpa using this
  exact ⟨A', c, rfl, ⟨_, _, _, _, rfl, r1, r2, r3⟩, h3⟩
section
variable (W : World) (A : Option Addr) (m cap B0 : Nat) (E : List (Int × Int × Int)) (hr : Reads W B0 3 A m (ecells E)) (hB0 : B0 ≤ W.heap.size) (hE : ∀ e ∈ E, e = (0, 0, 0))
include hr hB0 hE
theorem most_flat (hm : m ≤ 1048576) : Calls Try.prog 10 #[.int .i64 2, .slice A m cap] W fun e W' => ∃ g, e = .returned (.tuple #[.slice (some ⟨g, 0, none⟩) 2 2, .int .i64 0]) ∧ RowI W' (.slice (some ⟨g, 0, none⟩) 2 2) [0, 0] ∧ Below W.heap.size W W' := by
  have hlen : E.length = m := by have := hr.1; rw [ecells_len] at this; omega
  refine (depths_any W 2 A m cap B0 E hr hB0 (by omega)).mono fun e W' h => ?_
  have hok : ∀ e ∈ E, okE 2 e = true := fun e he => by rw [hE e he]; exact okE_good (by omega)
  obtain ⟨hb, ⟨h1, _⟩ | ⟨_, N', part, al, hN', hp, hres⟩⟩ := h
  · exact absurd (chk_good (by omega) (by omega) (by omega) hok) h1
  · obtain rfl : 2 = N' := by omega
    rcases hres with ⟨⟨e, he, h1, h2⟩, _⟩ | ⟨hbad, g, rfl, hg, hblk⟩
    · rw [hE e he] at h2
      exact absurd h2 (by decide)
    · have hD := depth_is hp hok hbad
      have d0 := hD.same (isd_zero (N := 2) hE) (u := 0) (by omega)
      have d1 := hD.same (isd_zero (N := 2) hE) (u := 1) (by omega)
      have ht : tab 2 (fun u => iv (dps (downOf part E) al (part u))) = (([0, 0] : List Int).map iz).toArray := by
        simp [tab, List.range_succ, d0, d1, iv, iz]
      rw [ht] at hblk
      exact ⟨g, rfl, RowI.arr hblk rfl (by omega), hb⟩
theorem most_over (hm : 1048576 < m) (hm2 : m ≤ 2097152) : Calls Try.prog 10 #[.int .i64 2, .slice A m cap] W fun e W' => e = .returned (.tuple #[.slice none 0 0, .int .i64 3]) ∧ Below W.heap.size W W' := by
  have hlen : E.length = m := by have := hr.1; rw [ecells_len] at this; omega
  have := hE
  exact depths_bad W 2 A m cap B0 E hr hB0 (by omega) 3 (chk_long (.inr (by omega))) (by omega)
end
/-- Many edges, all zero. -/
theorem many_zero (L : Nat) (hL : L ≤ 2097152) : ∃ (Z : Array Value) (E : List (Int × Int × Int)), E.length = L ∧ (∀ e ∈ E, e = (0, 0, 0)) ∧
    (∀ w : World, (Instr.makeSlice 27 (.int .i64 (L : Int)) (.int .i64 (L : Int))).run Try.prog w = .ok (.slice (some ⟨w.heap.size, 0, none⟩) L L) (w.alloc (.cells Z 41))) ∧
    ∀ (w : World) (g : Nat), Blk w g 41 Z → Reads w w.heap.size 3 (some ⟨g, 0, none⟩) L (ecells E) := by
  obtain ⟨i, hi, hz', hs, hb'⟩ := info_parts (P := Try.prog) (e := 41) (z := .agg #[.int .i64 0, .int .i64 0, .int .i64 0]) (size := 3) (bytes := 24) (by kernel_rfl)
  have hall : ∀ u ∈ ecells (List.replicate L ((0 : Int), (0 : Int), (0 : Int))), u = .int .i64 0 := fun u hu => by
    unfold ecells at hu
    obtain ⟨e, he, hu⟩ := List.mem_flatMap.1 hu
    rw [List.eq_of_mem_replicate he] at hu
    simp at hu
    exact hu
  refine ⟨madeCells #[.int .i64 0, .int .i64 0, .int .i64 0] (L * 3), List.replicate L (0, 0, 0), List.length_replicate, fun e he => List.eq_of_mem_replicate he, fun w => ?_, fun w g hg => ?_⟩
  · have h := run_make (P := Try.prog) w 27 41 i _ Try.underlying27 hi hz' .i64 .i64 (L : Int) (L : Int) (by omega) (by omega) (by rw [hb']; omega) (by omega)
    rw [hs, Int.toNat_natCast] at h
    exact h
  · refine ⟨by rw [ecells_len, List.length_replicate], fun _ => ⟨⟨g, 0, none⟩, rfl, hg.lt, fun j u hu => ?_⟩⟩
    have hadd : (⟨g, 0, none⟩ : Addr).add j = ⟨g, j, none⟩ := by unfold Addr.add; split <;> simp_all
    have hj := (List.getElem?_eq_some_iff.1 hu).1
    rw [ecells_len, List.length_replicate] at hj
    rw [hadd, hg.cell j, hall u (List.mem_of_getElem? hu), Array.getElem?_eq_getElem (by rw [size_madeCells]; exact hj)]
    congr 1
    simp only [madeCells, Array.getElem_map, Array.getElem_range]
    have h3 : j % 3 = 0 ∨ j % 3 = 1 ∨ j % 3 = 2 := by omega
    show (#[Value.int .i64 0, .int .i64 0, .int .i64 0])[j % 3]! = _
    rcases h3 with h | h | h <;> rw [h] <;> rfl
end Go.Proofs.Ytmcpbmadjpjckaa
