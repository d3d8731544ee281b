/-
  A slice of slices of bytes whose bulk is small: opened to its cells and bytes.
-/
import Derived.Test.YtoipkpndfgcmcaaRows
import Derived.Test.YtoipkpndfgcmcaaOpen
import Derived.Test.YtoipkpndfgcmcaaCpHeld
import Derived.Deep.Slices
import Derived.Lib.SmallJoins
namespace Go.Proofs.Ytoipkpndfgcmcaa
open Go.RowKit Go.ChangeShapes Go.WideShapes Go.ChangeAt Go.Deep

theorem bulk_pos {H : Type} (d : DataW H) : 1 ≤ Rows.uptoBulk d := by
  cases d with
  | lit l => cases l <;> simp [Rows.uptoBulk]
  | nil => simp [Rows.uptoBulk]
  | ptr d => simp [Rows.uptoBulk]
  | slice elems spare => simp [Rows.uptoBulk]
  | agg parts => simp [Rows.uptoBulk]
  | iface t d => simp [Rows.uptoBulk]
  | map entries => simp [Rows.uptoBulk]
  | held h => simp [Rows.uptoBulk]
theorem bulk_mem {H : Type} {d : DataW H} {l : List (DataW H)} (h : d ∈ l) : Rows.uptoBulk d ≤ Rows.uptoBulkAll l := by
  induction l with
  | nil => cases h
  | cons x r ih =>
    rw [Rows.uptoBulkAll]
    rcases List.mem_cons.1 h with rfl | h
    · omega
    · have := ih h; omega
theorem bulk_len {H : Type} (l : List (DataW H)) : l.length ≤ Rows.uptoBulkAll l := by
  induction l with
  | nil => simp [Rows.uptoBulkAll]
  | cons x r ih =>
    rw [Rows.uptoBulkAll, List.length_cons]
    have := bulk_pos x
    omega
theorem bulk_slice {H : Type} {el sp : List (DataW H)} (h : Rows.uptoBulk (.slice el sp) ≤ 1048576) : el.length ≤ 1048576 ∧ ∀ d ∈ el, Rows.uptoBulk d ≤ 1048576 := by
  have h6 : Rows.uptoBulk (DataW.slice el sp) = Rows.uptoBulkAll el + Rows.uptoBulkAll sp + 1 := by simp [Rows.uptoBulk]
  have h5 := bulk_len el
  exact ⟨by omega, fun d hd => by have := bulk_mem hd; omega⟩
theorem small_all {H : Type} {ds : List (DataW H)} (h : Rows.uptoSmall H ds = true) : ∀ d ∈ ds, Rows.uptoBulk d ≤ 1048576 := fun d hd => by
  have h1 : Rows.uptoBulkAll ds ≤ 1048576 := of_decide_eq_true h
  have := bulk_mem hd
  omega

section
variable {H : Type} {enc : TypeId × Value → H} {w : World}
theorem open_parts {a : Option Addr} {len cap : Nat} {d : DataW H} {p : List MemPlace} (hbk : Rows.uptoBulk d ≤ 1048576) (h : DataW.Trod enc Try.prog w 0 (fun _ => true) true 62 (.slice a len cap) d p) :
    len ≤ 1048576 ∧ ∃ ps sl, Crew.PartsIn w w.heap.size a len ps sl ∧ ∀ j, j < len → (ps.getD j []).length ≤ 1048576 := by
  obtain ⟨fuel, hf⟩ := h
  rcases open_slice1 Try.underlying62 (by kernel_rfl) hf with ⟨hcs, hx⟩ | ⟨ad, l, c, m, n, V, D, Pl, hcs, _, hl, hm, hmm, hx, hi⟩
  · simp [Value.cells] at hcs
    obtain ⟨rfl, rfl, rfl⟩ := hcs
    exact ⟨by omega, [], fun _ => (none, 0), ⟨rfl, fun h => by omega, fun j hj => by omega⟩, fun j hj => by omega⟩
  · simp [Value.cells] at hcs
    obtain ⟨rfl, rfl, rfl⟩ := hcs
    simp only [if_true] at hmm
    subst hmm
    simp only [Prod.mk.injEq] at hx
    obtain ⟨hd, _⟩ := hx
    have hb0 := bulk_slice (H := H) (hd ▸ hbk)
    simp only [List.length_map, List.length_range] at hb0
    have each : ∀ i, ∃ r : Option Addr × Nat × List UInt8, i < len → V i = .slice r.1 r.2.2.length r.2.1 ∧ Reads w w.heap.size 1 r.1 r.2.2.length (r.2.2.map bv) ∧ r.2.2.length ≤ 1048576 := by
      intro i
      by_cases hlt : i < len
      · obtain ⟨_, ht⟩ := hi i (by omega)
        obtain ⟨A', n', c', e4⟩ := Go.Joins.slice_form Try.underlying29 ht
        simp only [List.cons.injEq, and_true] at e4
        have ht4 : DataW.Trod enc Try.prog w 0 (fun _ => true) true 29 (.slice A' n' c') (D i) (Pl i) := ⟨n, by rw [e4] at ht; simpa [Value.cells] using ht⟩
        obtain ⟨⟨bs, hr⟩, hb⟩ := open_bytes Try.underlying29 Try.underlying5 (by kernel_rfl) ht4
        have hbl : bs.length = n' := by have := hr.1; simpa using this
        have hsm : n' ≤ 1048576 := by
          rcases hb with ⟨_, hz, _⟩ | ⟨hle, el, sp, hs, hl2⟩
          · omega
          · have hin : D i ∈ (List.range len).map D := List.mem_map_of_mem (List.mem_range.2 hlt)
            have h1 := hb0.2 _ hin
            rw [hs] at h1
            have h5 := bulk_len el
            have h7 := bulk_len sp
            have h6 : Rows.uptoBulk (DataW.slice el sp) = Rows.uptoBulkAll el + Rows.uptoBulkAll sp + 1 := by simp [Rows.uptoBulk]
            omega
        exact ⟨(A', c', bs), fun _ => ⟨by rw [e4, hbl], by rw [hbl]; exact hr, by rw [hbl]; exact hsm⟩⟩
      · exact ⟨(none, 0, []), fun h => absurd h hlt⟩
    obtain ⟨f, hf'⟩ := Classical.axiomOfChoice each
    have hget : ∀ j, j < len → ((List.range len).map fun i => (f i).2.2).getD j [] = (f j).2.2 := fun j hj => by
      rw [List.getD_eq_getElem?_getD, List.getElem?_map, List.getElem?_range hj]
      rfl
    refine ⟨hb0.1, (List.range len).map fun i => (f i).2.2, fun j => ((f j).1, (f j).2.1), ⟨by simp, fun hp => ?_, fun j hj => ?_⟩, fun j hj => ?_⟩
    · have c0 := (hi 0 (by omega)).1
      have hspot : ad.spot = none := by
        have := World.cell?_spot c0
        simpa [Addr.add] using this
      obtain ⟨b, off, spot⟩ := ad
      simp only at hspot
      subst hspot
      have hadd : ∀ j, (⟨b, off, none⟩ : Addr).add j = ⟨b, off + j, none⟩ := fun j => by unfold Addr.add; split <;> simp_all
      refine ⟨b, off, rfl, ?_, fun j hj => ?_⟩
      · have := World.block_lt_of_cell? w _ c0
        rwa [block_of_add] at this
      · rw [hget j hj, ← hadd, (hi j (by omega)).1, (hf' j hj).1]
    · rw [hget j hj]
      exact (hf' j hj).2.1
    · rw [hget j hj]
      exact (hf' j hj).2.2
end
end Go.Proofs.Ytoipkpndfgcmcaa
