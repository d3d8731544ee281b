/-
  An argument of the laws that is a slice of structs, opened to cells: the steps of a script. No program in sight but for the structs' own types.
-/
import Derived.Test.YtbofjboebkfjgaaOpen
import Derived.Test.YtbofjboebkfjgaaLebReadersW
import Derived.Deep.Slices
import Derived.Deep.Fields
import Derived.ChangeSame
import Derived.Lib.SmallJoins
namespace Go.Proofs.Ytbofjboebkfjgaa
open Go.RowKit Go.ChangeShapes Go.WideShapes Go.ChangeAt Go.Deep

section
variable {H : Type} {enc : TypeId × Value → H} {P : Program} {w : World} {base : Nat} {spare : Nat → Bool} {held : Bool}
theorem open_slice_fields {t e : TypeId} {fs : Array Field} {fuel : Nat} {cs : List Value} {x : DataW H × List MemPlace} (ht : P.underlying t = some (.slice e)) (he : P.underlying e = some (.struct fs))
    (hone : oneCellFields P fs = true) (hC : P.cellsOf e = fs.size) (h : DataW.trod enc P w base spare held fuel t cs = some x) :
    (cs = [.slice none 0 0] ∧ x = (.nil, [])) ∨
    ∃ (a : Addr) (len cap m : Nat) (D : Nat → DataW H) (Pl : Nat → List MemPlace), cs = [.slice (some a) len cap] ∧ base ≤ a.block ∧ len ≤ cap ∧ cap ≤ maxLen ∧ m = (if spare a.block then cap else len) ∧
      x = (.slice ((List.range len).map D) ((List.range (m - len)).map fun j => D (len + j)), MemPlace.row a (m * fs.size) ++ (List.range m).flatMap Pl) ∧
      ∀ i, i < m → ∃ (ys : List (DataW H × List MemPlace)) (n : Nat), D i = .agg (ys.map (·.1)) ∧ Pl i = ys.flatMap (·.2) ∧ ys.length = fs.size ∧
        ∀ (j : Nat) (f : Field), fs[j]? = some f → ∃ (v : Value) (y : DataW H × List MemPlace), w.cell? (a.add (i * fs.size + j)) = some v ∧ ys[j]? = some y ∧ DataW.trod enc P w base spare held n f.type [v] = some y := by
  rcases open_slice ht h with h0 | ⟨a, len, cap, m, n, D, Pl, hcs, hb, hl, hm, hmm, hx, hi⟩
  · exact .inl h0
  · refine .inr ⟨a, len, cap, m, D, Pl, hcs, hb, hl, hm, hmm, by rw [hC] at hx; exact hx, fun i him => ?_⟩
    obtain ⟨cs', hc, ht'⟩ := hi i him
    rw [hC] at hc
    obtain ⟨ys, n', hn', hy, hlen, hyl, hf⟩ := DataW.trod_struct he ht'
    obtain ⟨_, hcl, hat⟩ := World.cells?_some hc
    simp only [Prod.mk.injEq] at hy
    refine ⟨ys, n', hy.1, hy.2, hyl, fun j f hj => ?_⟩
    obtain ⟨ho, hk⟩ := hone_of hone j f hj
    have hjl : j < fs.size := (Array.getElem?_eq_some_iff.1 hj).1
    have hcell := hat j hjl
    have hv : cs'[j]? = some (cs'[j]'(by omega)) := List.getElem?_eq_getElem (by omega)
    have h1 := hf j f hj
    rw [ho, hk] at h1
    have hone' : (cs'.drop j).take 1 = [cs'[j]'(by omega)] := by
      rw [List.drop_eq_getElem_cons (by omega)]
      rfl
    rw [hone'] at h1
    have hys : ys[j]? = some (ys[j]'(by omega)) := List.getElem?_eq_getElem (by omega)
    refine ⟨_, _, ?_, hys, h1.trans hys⟩
    rw [← Go.Deep.add_add, hcell, hv]
end

section
variable {H : Type} {enc : TypeId × Value → H} {w : World}
theorem open_ops {ts : List TypeId} {ds : List (DataW H)} (hsz : (DataW.weightsEach Try.prog ts ds).all (· ≤ reachBytes) = true) (j : Nat) (hts : ts[j]? = some 36) {a : Option Addr} {len cap : Nat} {d : DataW H} {p : List MemPlace} (hds : ds[j]? = some d)
    (h : DataW.Trod enc Try.prog w 0 (fun _ => true) true 36 (.slice a len cap) d p) :
    len ≤ 140737488351232 ∧ ∀ k, k < len → ∃ b off kd wh N K A' n' c' bs, a = some ⟨b, off, none⟩ ∧ OpAt w b (off + k * 5) kd wh N K A' n' c' bs := by
  obtain ⟨fuel, hf⟩ := h
  rcases open_slice_fields Try.underlying36 Try.underlying45 (by kernel_rfl) (by kernel_rfl) hf with ⟨hcs, hx⟩ | ⟨ad, l, c, m, D, Pl, hcs, _, hl, hm, hmm, hx, hi⟩
  · simp [Value.cells] at hcs
    obtain ⟨rfl, rfl, rfl⟩ := hcs
    exact ⟨by omega, fun k hk => by omega⟩
  · simp [Value.cells] at hcs
    obtain ⟨rfl, rfl, rfl⟩ := hcs
    simp only [if_true] at hmm
    simp only [Prod.mk.injEq] at hx
    obtain ⟨hd, _⟩ := hx
    have hbig := sized_slice hsz hts (hd ▸ hds) Try.underlying36
    rw [show Try.prog.bytesOf 45 = 56 by kernel_rfl] at hbig
    simp only [List.length_map, List.length_range, reachBytes] at hbig
    refine ⟨by omega, fun k hk => ?_⟩
    have hspot : ad.spot = none := by
      obtain ⟨ys, nn, _, _, _, hfld⟩ := hi 0 (by omega)
      obtain ⟨v, y, hc, _, _⟩ := hfld 0 _ rfl
      have := World.cell?_spot hc
      simpa [Addr.add] using this
    obtain ⟨b, off, spot⟩ := ad
    simp only at hspot
    subst hspot
    have hadd : ∀ j, (⟨b, off, none⟩ : Addr).add j = ⟨b, off + j, none⟩ := fun j => by unfold Addr.add; split <;> simp_all
    obtain ⟨ys, nn, hD, _, hyl, hfld⟩ := hi k (by omega)
    obtain ⟨v0, y0, c0, hy0, t0⟩ := hfld 0 _ rfl
    obtain ⟨v1, y1, c1, hy1, t1⟩ := hfld 1 _ rfl
    obtain ⟨v2, y2, c2, hy2, t2⟩ := hfld 2 _ rfl
    obtain ⟨v3, y3, c3, hy3, t3⟩ := hfld 3 _ rfl
    obtain ⟨v4, y4, c4, hy4, t4⟩ := hfld 4 _ rfl
    obtain ⟨kd, e0, _, _⟩ := DataW.trod_int Try.underlying3 t0
    obtain ⟨wh, e1, _, w1⟩ := DataW.trod_int Try.underlying3 t1
    obtain ⟨N, e2, _, w2⟩ := DataW.trod_int Try.underlying24 t2
    obtain ⟨K, e3, _, w3⟩ := DataW.trod_int Try.underlying3 t3
    obtain ⟨A', n', c', e4⟩ := Go.Joins.slice_form Try.underlying22 t4
    simp only [List.cons.injEq, and_true] at e0 e1 e2 e3 e4
    subst e0 e1 e2 e3 e4
    have ht4 : DataW.Trod enc Try.prog w 0 (fun _ => true) true 22 (.slice A' n' c') y4.1 y4.2 := ⟨nn, by simpa [Value.cells] using t4⟩
    obtain ⟨⟨bs, hr⟩, hb⟩ := open_bytes Try.underlying22 Try.underlying5 (by kernel_rfl) ht4
    have hsm : n' ≤ 140737488351232 := by
      rcases hb with ⟨_, hz, _⟩ | ⟨hle, el, sp, hs, hl2⟩
      · omega
      · have hin : DataW.agg (ys.map (·.1)) ∈ (List.range len).map D := by
          rw [← hD]
          exact List.mem_map_of_mem (List.mem_range.2 hk)
        have := reach_inner hsz j hts (hd ▸ hds) Try.underlying36 Try.underlying45 hin 4 rfl (el2 := el) (sp2 := sp) (by rw [List.getElem?_map, hy4, ← hs]; rfl) Try.underlying22
        rw [show Try.prog.bytesOf 5 = 1 by kernel_rfl] at this
        simp only [reachBytes] at this
        omega
    rw [hadd] at c0 c1 c2 c3 c4
    have bd1 := bounds_i64 w1
    have bd3 := bounds_i64 w3
    have bd2 := bounds_u64 w2
    obtain ⟨M, rfl⟩ := Int.eq_ofNat_of_zero_le bd2.1
    refine ⟨b, off, kd, wh, M, K, A', n', c', bs, rfl, ⟨?_, ?_, ?_, ?_, ?_, World.block_lt_of_cell? w _ c0, hr, hsm, by unfold U64; omega, bd3.1, bd3.2, bd1.1, bd1.2⟩⟩
    · simpa [Nat.add_assoc] using c0
    · simpa [Nat.add_assoc] using c1
    · simpa [Nat.add_assoc] using c2
    · simpa [Nat.add_assoc] using c3
    · simpa [Nat.add_assoc] using c4
end
end Go.Proofs.Ytbofjboebkfjgaa
