/-
  An argument of the laws that is a slice of structs, opened to cells: the steps of a script. No program in sight but for the structs' own types.
-/
import Derived.Test.YtoipkpndfgcmcaaOpen
import Derived.Test.YtoipkpndfgcmcaaCheckStreamsW
import Derived.Deep.Slices
import Derived.Deep.Fields
import Derived.ChangeSame
import Derived.Lib.SmallJoins
namespace Go.Proofs.Ytoipkpndfgcmcaa
open Go.RowKit Go.ChangeShapes Go.WideShapes Go.ChangeAt Go.Deep

section
variable {H : Type} {enc : TypeId × Value → H} {P : Program} {w : World} {base : Nat} {spare : Nat → Bool} {held : Bool}
theorem open_slice_fields {t e : TypeId} {fs : Array Field} {fuel : Nat} {cs : List Value} {x : DataW H × List MemPlace} (ht : P.underlying t = some (.slice e)) (he : P.underlying e = some (.struct fs))
    (hone : oneCellFields P fs = true) (hC : P.cellsOf e = fs.size) (h : DataW.trod enc P w base spare held fuel t cs = some x) :
    (cs = [.slice none 0 0] ∧ x = (.nil, [])) ∨
    ∃ (a : Addr) (len cap m : Nat) (D : Nat → DataW H) (Pl : Nat → List MemPlace), cs = [.slice (some a) len cap] ∧ base ≤ a.block ∧ len ≤ cap ∧ cap ≤ maxLen ∧ m = (if spare a.block then cap else len) ∧
      x = (.slice ((List.range len).map D) ((List.range (m - len)).map fun j => D (len + j)), MemPlace.row a (m * fs.size) ++ (List.range m).flatMap Pl) ∧
      ∀ i, i < m → ∃ (ys : List (DataW H × List MemPlace)) (n : Nat), D i = .agg (ys.map (·.1)) ∧ Pl i = ys.flatMap (·.2) ∧ ys.length = fs.size ∧
        ∀ (j : Nat) (f : Field), fs[j]? = some f → ∃ (v : Value) (y : DataW H × List MemPlace), w.cell? (a.add (i * fs.size + j)) = some v ∧ ys[j]? = some y ∧ DataW.trod enc P w base spare held n f.type [v] = some y := by
  rcases open_slice ht h with h0 | ⟨a, len, cap, m, n, D, Pl, hcs, hb, hl, hm, hmm, hx, hi⟩
  · exact .inl h0
  · refine .inr ⟨a, len, cap, m, D, Pl, hcs, hb, hl, hm, hmm, by rw [hC] at hx; exact hx, fun i him => ?_⟩
    obtain ⟨cs', hc, ht'⟩ := hi i him
    rw [hC] at hc
    obtain ⟨ys, n', hn', hy, hlen, hyl, hf⟩ := DataW.trod_struct he ht'
    obtain ⟨_, hcl, hat⟩ := World.cells?_some hc
    simp only [Prod.mk.injEq] at hy
    refine ⟨ys, n', hy.1, hy.2, hyl, fun j f hj => ?_⟩
    obtain ⟨ho, hk⟩ := hone_of hone j f hj
    have hjl : j < fs.size := (Array.getElem?_eq_some_iff.1 hj).1
    have hcell := hat j hjl
    have hv : cs'[j]? = some (cs'[j]'(by omega)) := List.getElem?_eq_getElem (by omega)
    have h1 := hf j f hj
    rw [ho, hk] at h1
    have hone' : (cs'.drop j).take 1 = [cs'[j]'(by omega)] := by
      rw [List.drop_eq_getElem_cons (by omega)]
      rfl
    rw [hone'] at h1
    have hys : ys[j]? = some (ys[j]'(by omega)) := List.getElem?_eq_getElem (by omega)
    refine ⟨_, _, ?_, hys, h1.trans hys⟩
    rw [← Go.Deep.add_add, hcell, hv]
end

section
variable {H : Type} {enc : TypeId × Value → H} {w : World}
theorem open_ops {ts : List TypeId} {ds : List (DataW H)} (hsz : (DataW.weightsEach Try.prog ts ds).all (· ≤ reachBytes) = true) (j : Nat) (hts : ts[j]? = some 22) {a : Option Addr} {len cap : Nat} {d : DataW H} {p : List MemPlace} (hds : ds[j]? = some d)
    (h : DataW.Trod enc Try.prog w 0 (fun _ => true) true 22 (.slice a len cap) d p) :
    len ≤ 140737488351232 ∧ ∀ k, k < len → ∃ b off who tell A' n' c' bs, a = some ⟨b, off, none⟩ ∧ OpAt w b (off + k * 3) who tell A' n' c' bs := by
  obtain ⟨fuel, hf⟩ := h
  rcases open_slice_fields Try.underlying22 Try.underlying31 (by kernel_rfl) (by kernel_rfl) hf with ⟨hcs, hx⟩ | ⟨ad, l, c, m, D, Pl, hcs, _, hl, hm, hmm, hx, hi⟩
  · simp [Value.cells] at hcs
    obtain ⟨rfl, rfl, rfl⟩ := hcs
    exact ⟨by omega, fun k hk => by omega⟩
  · simp [Value.cells] at hcs
    obtain ⟨rfl, rfl, rfl⟩ := hcs
    simp only [if_true] at hmm
    simp only [Prod.mk.injEq] at hx
    obtain ⟨hd, _⟩ := hx
    have hbig := sized_slice hsz hts (hd ▸ hds) Try.underlying22
    rw [show Try.prog.bytesOf 31 = 40 by kernel_rfl] at hbig
    simp only [List.length_map, List.length_range, reachBytes] at hbig
    refine ⟨by omega, fun k hk => ?_⟩
    have hspot : ad.spot = none := by
      obtain ⟨ys, nn, _, _, _, hfld⟩ := hi 0 (by omega)
      obtain ⟨v, y, hc, _, _⟩ := hfld 0 _ rfl
      have := World.cell?_spot hc
      simpa [Addr.add] using this
    obtain ⟨b, off, spot⟩ := ad
    simp only at hspot
    subst hspot
    have hadd : ∀ j, (⟨b, off, none⟩ : Addr).add j = ⟨b, off + j, none⟩ := fun j => by unfold Addr.add; split <;> simp_all
    obtain ⟨ys, nn, hD, _, hyl, hfld⟩ := hi k (by omega)
    obtain ⟨v0, y0, c0, hy0, t0⟩ := hfld 0 _ rfl
    obtain ⟨v1, y1, c1, hy1, t1⟩ := hfld 1 _ rfl
    obtain ⟨v2, y2, c2, hy2, t2⟩ := hfld 2 _ rfl
    obtain ⟨who, e0, _, _⟩ := DataW.trod_int Try.underlying3 t0
    obtain ⟨tell, e1, _⟩ := DataW.trod_bool Try.underlying4 t1
    obtain ⟨A', n', c', e2⟩ := Go.Joins.slice_form Try.underlying29 t2
    simp only [List.cons.injEq, and_true] at e0 e1 e2
    subst e0 e1 e2
    have ht2 : DataW.Trod enc Try.prog w 0 (fun _ => true) true 29 (.slice A' n' c') y2.1 y2.2 := ⟨nn, by simpa [Value.cells] using t2⟩
    obtain ⟨⟨bs, hr⟩, hb⟩ := open_bytes Try.underlying29 Try.underlying5 (by kernel_rfl) ht2
    have hsm : n' ≤ 140737488351232 := by
      rcases hb with ⟨_, hz, _⟩ | ⟨hle, el, sp, hs, hl2⟩
      · omega
      · have hin : DataW.agg (ys.map (·.1)) ∈ (List.range len).map D := by
          rw [← hD]
          exact List.mem_map_of_mem (List.mem_range.2 hk)
        have := reach_inner hsz j hts (hd ▸ hds) Try.underlying22 Try.underlying31 hin 2 rfl (el2 := el) (sp2 := sp) (by rw [List.getElem?_map, hy2, ← hs]; rfl) Try.underlying29
        rw [show Try.prog.bytesOf 5 = 1 by kernel_rfl] at this
        simp only [reachBytes] at this
        omega
    rw [hadd] at c0 c1 c2
    refine ⟨b, off, who, tell, A', n', c', bs, rfl, ⟨?_, ?_, ?_, World.block_lt_of_cell? w _ c0, hr, hsm⟩⟩
    · simpa [Nat.add_assoc] using c0
    · simpa [Nat.add_assoc] using c1
    · simpa [Nat.add_assoc] using c2
end
end Go.Proofs.Ytoipkpndfgcmcaa
