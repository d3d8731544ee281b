/-
  A script of steps whose bulk is small: opened to cells, its length and each step's bytes bounded.
-/
import Derived.Test.YtbofjboebkfjgaaRows
import Derived.Test.YtbofjboebkfjgaaOpenOps1
namespace Go.Proofs.Ytbofjboebkfjgaa
open Go.RowKit Go.ChangeShapes Go.WideShapes Go.ChangeAt Go.Deep

theorem bulk_pos {H : Type} (d : DataW H) : 1 ≤ Rows.uptoBulk d := by
  cases d with
  | lit l => cases l <;> simp [Rows.uptoBulk]
  | nil => simp [Rows.uptoBulk]
  | ptr d => simp [Rows.uptoBulk]
  | slice elems spare => simp [Rows.uptoBulk]
  | agg parts => simp [Rows.uptoBulk]
  | iface t d => simp [Rows.uptoBulk]
  | map entries => simp [Rows.uptoBulk]
  | held h => simp [Rows.uptoBulk]
theorem bulk_mem {H : Type} {d : DataW H} {l : List (DataW H)} (h : d ∈ l) : Rows.uptoBulk d ≤ Rows.uptoBulkAll l := by
  induction l with
  | nil => cases h
  | cons x r ih =>
    rw [Rows.uptoBulkAll]
    rcases List.mem_cons.1 h with rfl | h
    · omega
    · have := ih h; omega
theorem bulk_len {H : Type} (l : List (DataW H)) : l.length ≤ Rows.uptoBulkAll l := by
  induction l with
  | nil => simp [Rows.uptoBulkAll]
  | cons x r ih =>
    rw [Rows.uptoBulkAll, List.length_cons]
    have := bulk_pos x
    omega
theorem bulk_slice {H : Type} {el sp : List (DataW H)} (h : Rows.uptoBulk (.slice el sp) ≤ 1048576) : el.length ≤ 1048576 ∧ ∀ d ∈ el, Rows.uptoBulk d ≤ 1048576 := by
  have h6 : Rows.uptoBulk (DataW.slice el sp) = Rows.uptoBulkAll el + Rows.uptoBulkAll sp + 1 := by simp [Rows.uptoBulk]
  have h5 := bulk_len el
  exact ⟨by omega, fun d hd => by have := bulk_mem hd; omega⟩
theorem small_all {H : Type} {ds : List (DataW H)} (h : Rows.uptoSmall H ds = true) : ∀ d ∈ ds, Rows.uptoBulk d ≤ 1048576 := fun d hd => by
  have h1 : Rows.uptoBulkAll ds ≤ 1048576 := of_decide_eq_true h
  have := bulk_mem hd
  omega

section
variable {H : Type} {enc : TypeId × Value → H} {w : World}
theorem open_ops_bulk {ts : List TypeId} {ds : List (DataW H)} (hsz : (DataW.weightsEach Try.prog ts ds).all (· ≤ reachBytes) = true) (j : Nat) (hts : ts[j]? = some 36) {a : Option Addr} {len cap : Nat} {d : DataW H} {p : List MemPlace} (hds : ds[j]? = some d)
    (hbk : Rows.uptoBulk d ≤ 1048576) (h : DataW.Trod enc Try.prog w 0 (fun _ => true) true 36 (.slice a len cap) d p) :
    len ≤ 1048576 ∧ ∀ k, k < len → ∃ b off kd wh N K A' n' c' bs, a = some ⟨b, off, none⟩ ∧ OpAt w b (off + k * 5) kd wh N K A' n' c' bs ∧ n' ≤ 1048576 := by
  obtain ⟨fuel, hf⟩ := h
  rcases open_slice_fields Try.underlying36 Try.underlying45 (by kernel_rfl) (by kernel_rfl) hf with ⟨hcs, hx⟩ | ⟨ad, l, c, m, D, Pl, hcs, _, hl, hm, hmm, hx, hi⟩
  · simp [Value.cells] at hcs
    obtain ⟨rfl, rfl, rfl⟩ := hcs
    exact ⟨by omega, fun k hk => by omega⟩
  · simp [Value.cells] at hcs
    obtain ⟨rfl, rfl, rfl⟩ := hcs
    simp only [if_true] at hmm
    simp only [Prod.mk.injEq] at hx
    obtain ⟨hd, _⟩ := hx
    have _hbig := sized_slice hsz hts (hd ▸ hds) Try.underlying36
    rw [show Try.prog.bytesOf 45 = 56 by kernel_rfl] at _hbig
    simp only [List.length_map, List.length_range, reachBytes] at _hbig
    have hb0 := bulk_slice (H := H) (hd ▸ hbk)
    simp only [List.length_map, List.length_range] at hb0
    refine ⟨hb0.1, fun k hk => ?_⟩
    have hspot : ad.spot = none := by
      obtain ⟨ys, nn, _, _, _, hfld⟩ := hi 0 (by omega)
      obtain ⟨v, y, hc, _, _⟩ := hfld 0 _ rfl
      have := World.cell?_spot hc
      simpa [Addr.add] using this
    obtain ⟨b, off, spot⟩ := ad
    simp only at hspot
    subst hspot
    have hadd : ∀ j, (⟨b, off, none⟩ : Addr).add j = ⟨b, off + j, none⟩ := fun j => by unfold Addr.add; split <;> simp_all
    obtain ⟨ys, nn, hD, _, hyl, hfld⟩ := hi k (by omega)
    obtain ⟨v0, y0, c0, hy0, t0⟩ := hfld 0 _ rfl
    obtain ⟨v1, y1, c1, hy1, t1⟩ := hfld 1 _ rfl
    obtain ⟨v2, y2, c2, hy2, t2⟩ := hfld 2 _ rfl
    obtain ⟨v3, y3, c3, hy3, t3⟩ := hfld 3 _ rfl
    obtain ⟨v4, y4, c4, hy4, t4⟩ := hfld 4 _ rfl
    obtain ⟨kd, e0, _, _⟩ := DataW.trod_int Try.underlying3 t0
    obtain ⟨wh, e1, _, w1⟩ := DataW.trod_int Try.underlying3 t1
    obtain ⟨N, e2, _, w2⟩ := DataW.trod_int Try.underlying24 t2
    obtain ⟨K, e3, _, w3⟩ := DataW.trod_int Try.underlying3 t3
    obtain ⟨A', n', c', e4⟩ := Go.Joins.slice_form Try.underlying22 t4
    simp only [List.cons.injEq, and_true] at e0 e1 e2 e3 e4
    subst e0 e1 e2 e3 e4
    have ht4 : DataW.Trod enc Try.prog w 0 (fun _ => true) true 22 (.slice A' n' c') y4.1 y4.2 := ⟨nn, by simpa [Value.cells] using t4⟩
    obtain ⟨⟨bs, hr⟩, hb⟩ := open_bytes Try.underlying22 Try.underlying5 (by kernel_rfl) ht4
    have hsm : n' ≤ 140737488351232 := by
      rcases hb with ⟨_, hz, _⟩ | ⟨hle, el, sp, hs, hl2⟩
      · omega
      · have hin : DataW.agg (ys.map (·.1)) ∈ (List.range len).map D := by
          rw [← hD]
          exact List.mem_map_of_mem (List.mem_range.2 hk)
        have := reach_inner hsz j hts (hd ▸ hds) Try.underlying36 Try.underlying45 hin 4 rfl (el2 := el) (sp2 := sp) (by rw [List.getElem?_map, hy4, ← hs]; rfl) Try.underlying22
        rw [show Try.prog.bytesOf 5 = 1 by kernel_rfl] at this
        simp only [reachBytes] at this
        omega
    have hsm2 : n' ≤ 1048576 := by
      rcases hb with ⟨_, hz, _⟩ | ⟨hle, el, sp, hs, hl2⟩
      · omega
      · have hin : DataW.agg (ys.map (·.1)) ∈ (List.range len).map D := by
          rw [← hD]
          exact List.mem_map_of_mem (List.mem_range.2 hk)
        have h1 := hb0.2 _ hin
        have h2 : DataW.slice el sp ∈ ys.map (·.1) := by
          rw [← hs]
          exact List.mem_map_of_mem (List.mem_of_getElem? hy4)
        have h3 := bulk_mem h2
        have h4 : Rows.uptoBulk (DataW.agg (ys.map (·.1))) = Rows.uptoBulkAll (ys.map (·.1)) + 1 := by simp [Rows.uptoBulk]
        have h5 := bulk_len el
        have h7 := bulk_len sp
        have h6 : Rows.uptoBulk (DataW.slice el sp) = Rows.uptoBulkAll el + Rows.uptoBulkAll sp + 1 := by simp [Rows.uptoBulk]
        omega
    rw [hadd] at c0 c1 c2 c3 c4
    have bd1 := bounds_i64 w1
    have bd3 := bounds_i64 w3
    have bd2 := bounds_u64 w2
    obtain ⟨M, rfl⟩ := Int.eq_ofNat_of_zero_le bd2.1
    refine ⟨b, off, kd, wh, M, K, A', n', c', bs, rfl, ⟨?_, ?_, ?_, ?_, ?_, World.block_lt_of_cell? w _ c0, hr, hsm, by unfold U64; omega, bd3.1, bd3.2, bd1.1, bd1.2⟩, hsm2⟩
    · simpa [Nat.add_assoc] using c0
    · simpa [Nat.add_assoc] using c1
    · simpa [Nat.add_assoc] using c2
    · simpa [Nat.add_assoc] using c3
    · simpa [Nat.add_assoc] using c4
end
end Go.Proofs.Ytbofjboebkfjgaa
