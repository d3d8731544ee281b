/-
  What an argument of the laws reads as, opened for the walks: a slice of bytes, an int, a uint64; how large a slice may be by the form's own reach. No program in sight.
-/
import Derived.Test.YtoipkpndfgcmcaaWords
import Derived.WalkKit
import Derived.ProofKit
import Derived.OpenShut
import Derived.ShutString
import Derived.ChangeOld
import Derived.Below
import Derived.SizedLaws
namespace Go.Proofs.Ytoipkpndfgcmcaa
open Go.RowKit Go.ChangeShapes Go.WideShapes Go.ChangeAt

section
variable {H : Type} {enc : TypeId × Value → H} {P : Program} {w : World} {held : Bool}
theorem bv_wf {z : Int} (h : (Lit.int .u8 z).wf = true) : bv (UInt8.ofNat z.toNat) = .int .u8 z := by
  have hb : 0 ≤ z ∧ z ≤ 255 := bounds_u8 h
  have : (UInt8.ofNat z.toNat).toNat = z.toNat := by rw [UInt8.toNat_ofNat']; omega
  rw [bv, this]
  congr 1
  omega
theorem open_bytes {t e : TypeId} (ht : P.underlying t = some (.slice e)) (he : P.underlying e = some (.int .u8)) (hc : P.cellsOf e = 1) {a : Option Addr} {len cap : Nat} {d : DataW H} {p : List MemPlace}
    (h : DataW.Trod enc P w 0 (fun _ => true) held t (.slice a len cap) d p) :
    (∃ bs : List UInt8, Reads w w.heap.size 1 a len (bs.map bv)) ∧ ((a = none ∧ len = 0 ∧ cap = 0) ∨ (len ≤ cap ∧ ∃ el sp, d = .slice el sp ∧ el.length + sp.length = cap)) := by
  obtain ⟨fuel, hf⟩ := h
  rcases open_ints ht he hc hf with ⟨hcs, hx⟩ | ⟨x, l, c, zs, hcs, _, hl, hm, hz, hx, hcell, hwz⟩
  · simp [Value.cells] at hcs
    obtain ⟨rfl, rfl, rfl⟩ := hcs
    exact ⟨⟨[], Reads.none_⟩, .inl ⟨rfl, rfl, rfl⟩⟩
  · simp [Value.cells] at hcs
    obtain ⟨rfl, rfl, rfl⟩ := hcs
    simp only [Prod.mk.injEq] at hx
    simp only [if_true] at hz
    refine ⟨⟨(zs.take len).map fun z => UInt8.ofNat z.toNat, ?_⟩, .inr ⟨hl, _, _, hx.1, ?_⟩⟩
    · refine ⟨by simp; omega, fun hn => ⟨x, rfl, ?_, fun j u hu => ?_⟩⟩
      · have := World.block_lt_of_cell? w _ (hcell 0 (by omega))
        rwa [block_of_add] at this
      · rw [List.getElem?_map, List.getElem?_map] at hu
        obtain ⟨y, hy, rfl⟩ := Option.map_eq_some_iff.1 hu
        obtain ⟨z, hz1, rfl⟩ := Option.map_eq_some_iff.1 hy
        rw [List.getElem?_take] at hz1
        split at hz1
        · obtain ⟨hlt, rfl⟩ := List.getElem?_eq_some_iff.1 hz1
          rw [hcell j hlt, bv_wf (hwz _ (List.getElem_mem hlt)), List.getD_eq_getElem?_getD, List.getElem?_eq_getElem hlt]
          rfl
        · cases hz1
    · simp [lits]
      omega
theorem reach_bytes {ts : List TypeId} {ds : List (DataW H)} (h : (DataW.weightsEach P ts ds).all (· ≤ reachBytes) = true) {t e : TypeId} (j : Nat) (ht : ts[j]? = some t) (hu : P.underlying t = some (.slice e)) (hby : P.bytesOf e = 1)
    {a : Option Addr} {len cap : Nat} {d : DataW H} (hd : ds[j]? = some d) (ho : (a = none ∧ len = 0 ∧ cap = 0) ∨ (len ≤ cap ∧ ∃ el sp, d = .slice el sp ∧ el.length + sp.length = cap)) : len ≤ 140737488351232 := by
  rcases ho with ⟨_, h0, _⟩ | ⟨hl, el, sp, rfl, hs⟩
  · omega
  · have := sized_slice h ht hd hu
    rw [hby, hs] at this
    simp only [reachBytes] at this
    omega
theorem weightsAll_mem {e : TypeId} {n : Nat} : ∀ {l : List (DataW H)} {d : DataW H}, d ∈ l → n ∈ d.weights P e → n ∈ DataW.weightsAll P e l
  | [], _, h, _ => by cases h
  | d0 :: r, d, h, hn => by
    simp only [DataW.weightsAll, List.mem_append]
    rcases List.mem_cons.1 h with rfl | h
    · exact .inl hn
    · exact .inr (weightsAll_mem h hn)
/-- The reach of a slice that is a field of an element of a slice. -/
theorem reach_inner {ts : List TypeId} {ds : List (DataW H)} (h : (DataW.weightsEach P ts ds).all (· ≤ reachBytes) = true) {t e t2 e2 : TypeId} {fs : Array Field} (j : Nat) (ht : ts[j]? = some t) {el sp : List (DataW H)} (hd : ds[j]? = some (.slice el sp))
    (hu : P.underlying t = some (.slice e)) (he : P.underlying e = some (.struct fs)) {parts : List (DataW H)} (hp : DataW.agg parts ∈ el) (k : Nat) (hk : (fs.toList.map (·.type))[k]? = some t2) {el2 sp2 : List (DataW H)} (hk2 : parts[k]? = some (.slice el2 sp2)) (hu2 : P.underlying t2 = some (.slice e2)) :
    (el2.length + sp2.length) * P.bytesOf e2 ≤ reachBytes := by
  have hin : (el2.length + sp2.length) * P.bytesOf e2 ∈ (DataW.slice el sp).weights P t := by
    simp only [DataW.weights, hu, List.mem_cons, List.mem_append]
    refine .inr (.inl (weightsAll_mem hp ?_))
    simp only [DataW.weights, he]
    exact DataW.weights_mem_each hk hk2 _ (by simp [DataW.weights, hu2])
  have := List.all_eq_true.1 h _ (DataW.weights_mem_each ht hd _ hin)
  simpa using this
theorem cap_bytes {a : Option Addr} {len cap : Nat} {d : DataW H} (ho : (a = none ∧ len = 0 ∧ cap = 0) ∨ (len ≤ cap ∧ ∃ el sp, d = .slice el sp ∧ el.length + sp.length = cap)) : len ≤ cap := by
  rcases ho with ⟨_, h, _⟩ | ⟨h, _⟩ <;> omega
theorem array4 {cs : Array Value} (h : cs.size = 4) : ∃ a b c d, cs = #[a, b, c, d] := by
  match cs, h with
  | ⟨[a, b, c, d]⟩, _ => exact ⟨a, b, c, d, rfl⟩
/-- An array of four bytes, by value. -/
theorem open_four {r : Reach} {b0 : Nat} {t e : TypeId} {v : Value} {d : DataW H} {p : List MemPlace} (ht : P.underlying t = some (.array 4 e)) (he : P.underlying e = some (.int .u8)) (hc : P.cellsOf e = 1) (hC : P.cellsOf t = 4)
    (hv : Value.okWide P w r b0 t v) (h : DataW.Trod enc P w 0 (fun _ => true) held t v d p) : ∃ f0 f1 f2 f3 : UInt8, v = .agg #[bv f0, bv f1, bv f2, bv f3] := by
  have hv' : ∃ cs, v = .agg cs ∧ cs.size = P.cellsOf t ∧ Row.okWide P w r b0 t cs := by
    unfold Value.okWide at hv
    rw [ht] at hv
    exact hv
  obtain ⟨cs, rfl, hsz, _⟩ := hv'
  obtain ⟨a, b, c, d', rfl⟩ := array4 (hsz.trans hC)
  obtain ⟨fuel, hf⟩ := h
  obtain ⟨xs, m, _, _, hl, hx, hi⟩ := DataW.trod_array ht hf
  have one : ∀ (i : Nat) (u : Value), i < 4 → ((Value.cells (.agg #[a, b, c, d'])).toList.drop i).take 1 = [u] → ∃ f : UInt8, u = bv f := by
    intro i u hi4 hu
    have h1 := hi i hi4
    rw [hc, Nat.mul_one, hu, List.getElem?_eq_getElem (by omega)] at h1
    obtain ⟨z, hz, _, hw⟩ := DataW.trod_int he h1
    simp only [List.cons.injEq, and_true] at hz
    exact ⟨UInt8.ofNat z.toNat, by rw [bv_wf hw, hz]⟩
  obtain ⟨f0, rfl⟩ := one 0 a (by omega) rfl
  obtain ⟨f1, rfl⟩ := one 1 b (by omega) rfl
  obtain ⟨f2, rfl⟩ := one 2 c (by omega) rfl
  obtain ⟨f3, rfl⟩ := one 3 d' (by omega) rfl
  exact ⟨f0, f1, f2, f3, rfl⟩
end
end Go.Proofs.Ytoipkpndfgcmcaa
