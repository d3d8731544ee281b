/-
  A parameter of the type []uint32, opened.
-/
import Derived.Test.YteambdbcjcfdeaaOpen
import Derived.Test.YteambdbcjcfdeaaColMath
namespace Go.Proofs.Yteambdbcjcfdeaa
open Go.RowKit Go.ChangeShapes Go.WideShapes Go.ChangeAt
section
variable {P : Program} {H : Type} {enc : TypeId × Value → H} {w : World} {held : Bool}
theorem uw_wf {z : Int} (h : (Lit.int .u32 z).wf = true) : uw (UInt32.ofNat z.toNat) = .int .u32 z := by
  have hb : 0 ≤ z ∧ z ≤ 4294967295 := by have h := h; simp [Lit.wf, IntKind.min, IntKind.max, IntKind.signed, IntKind.bits] at h; omega
  have : (UInt32.ofNat z.toNat).toNat = z.toNat := by rw [UInt32.toNat_ofNat']; omega
  rw [uw, this]
  congr 1
  omega
theorem open_words {t e : TypeId} (ht : P.underlying t = some (.slice e)) (he : P.underlying e = some (.int .u32)) (hc : P.cellsOf e = 1) {a : Option Addr} {len cap : Nat} {d : DataW H} {p : List MemPlace}
    (h : DataW.Trod enc P w 0 (fun _ => true) held t (.slice a len cap) d p) :
    (∃ bs : List UInt32, Reads w w.heap.size 1 a len (bs.map uw)) ∧ ((a = none ∧ len = 0 ∧ cap = 0) ∨ (len ≤ cap ∧ ∃ el sp, d = .slice el sp ∧ el.length + sp.length = cap)) := by
  obtain ⟨fuel, hf⟩ := h
  rcases open_ints ht he hc hf with ⟨hcs, hx⟩ | ⟨x, l, c, zs, hcs, _, hl, hm, hz, hx, hcell, hwz⟩
  · simp [Value.cells] at hcs
    obtain ⟨rfl, rfl, rfl⟩ := hcs
    exact ⟨⟨[], Reads.none_⟩, .inl ⟨rfl, rfl, rfl⟩⟩
  · simp [Value.cells] at hcs
    obtain ⟨rfl, rfl, rfl⟩ := hcs
    simp only [Prod.mk.injEq] at hx
    simp only [if_true] at hz
    refine ⟨⟨(zs.take len).map fun z => UInt32.ofNat z.toNat, ?_⟩, .inr ⟨hl, _, _, hx.1, ?_⟩⟩
    · refine ⟨by simp; omega, fun hn => ⟨x, rfl, ?_, fun j u hu => ?_⟩⟩
      · have := World.block_lt_of_cell? w _ (hcell 0 (by omega))
        rwa [block_of_add] at this
      · rw [List.getElem?_map, List.getElem?_map] at hu
        obtain ⟨y, hy, rfl⟩ := Option.map_eq_some_iff.1 hu
        obtain ⟨z, hz1, rfl⟩ := Option.map_eq_some_iff.1 hy
        rw [List.getElem?_take] at hz1
        split at hz1
        · obtain ⟨hlt, rfl⟩ := List.getElem?_eq_some_iff.1 hz1
          rw [hcell j hlt, uw_wf (hwz _ (List.getElem_mem hlt)), List.getD_eq_getElem?_getD, List.getElem?_eq_getElem hlt]
          rfl
        · cases hz1
    · simp [lits]
      omega
theorem reach_words {ts : List TypeId} {ds : List (DataW H)} (h : (DataW.weightsEach P ts ds).all (· ≤ reachBytes) = true) {t e : TypeId} (j : Nat) (ht : ts[j]? = some t) (hu : P.underlying t = some (.slice e)) (hby : P.bytesOf e = 4)
    {a : Option Addr} {len cap : Nat} {d : DataW H} (hd : ds[j]? = some d) (ho : (a = none ∧ len = 0 ∧ cap = 0) ∨ (len ≤ cap ∧ ∃ el sp, d = .slice el sp ∧ el.length + sp.length = cap)) : len ≤ 35184372087808 := by
  rcases ho with ⟨_, h0, _⟩ | ⟨hl, el, sp, rfl, hs⟩
  · omega
  · have := sized_slice h ht hd hu
    rw [hby, hs] at this
    simp only [reachBytes] at this
    omega
end
end Go.Proofs.Yteambdbcjcfdeaa
