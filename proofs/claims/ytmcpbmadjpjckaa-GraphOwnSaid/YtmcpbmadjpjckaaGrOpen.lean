/-
  Arguments of the graph laws, opened to cells: a graph by value, a list of ints. No program in sight but for the types.
-/
import Derived.Test.YtmcpbmadjpjckaaOpen
import Derived.Test.YtmcpbmadjpjckaaGrLaw2
import Derived.Deep.Slices
import Derived.ChangeSame
namespace Go.Proofs.Ytmcpbmadjpjckaa
open Go.RowKit Go.ChangeShapes Go.WideShapes Go.ChangeAt Go.Deep

section
variable {H : Type} {enc : TypeId × Value → H} {P : Program} {w : World} {held : Bool}
theorem open_intsl {t e : TypeId} (ht : P.underlying t = some (.slice e)) (he : P.underlying e = some (.int .i64)) (hc : P.cellsOf e = 1) {a : Option Addr} {len cap : Nat} {d : DataW H} {p : List MemPlace}
    (h : DataW.Trod enc P w 0 (fun _ => true) held t (.slice a len cap) d p) :
    (∃ bs : List Int, Reads w w.heap.size 1 a len (bs.map iz)) ∧ ((a = none ∧ len = 0 ∧ cap = 0) ∨ (len ≤ cap ∧ ∃ el sp, d = .slice el sp ∧ el.length + sp.length = cap)) := by
  obtain ⟨fuel, hf⟩ := h
  rcases open_ints ht he hc hf with ⟨hcs, hx⟩ | ⟨x, l, c, zs, hcs, _, hl, hm, hz, hx, hcell, hwz⟩
  · simp [Value.cells] at hcs
    obtain ⟨rfl, rfl, rfl⟩ := hcs
    exact ⟨⟨[], Reads.none_⟩, .inl ⟨rfl, rfl, rfl⟩⟩
  · simp [Value.cells] at hcs
    obtain ⟨rfl, rfl, rfl⟩ := hcs
    simp only [Prod.mk.injEq] at hx
    simp only [if_true] at hz
    refine ⟨⟨zs.take len, ?_⟩, .inr ⟨hl, _, _, hx.1, ?_⟩⟩
    · refine ⟨by simp; omega, fun hn => ⟨x, rfl, ?_, fun j u hu => ?_⟩⟩
      · have := World.block_lt_of_cell? w _ (hcell 0 (by omega))
        rwa [block_of_add] at this
      · rw [List.getElem?_map] at hu
        obtain ⟨z, hz1, rfl⟩ := Option.map_eq_some_iff.1 hu
        rw [List.getElem?_take] at hz1
        split at hz1
        · obtain ⟨hlt, rfl⟩ := List.getElem?_eq_some_iff.1 hz1
          rw [hcell j hlt, List.getD_eq_getElem?_getD, List.getElem?_eq_getElem hlt]
          rfl
        · cases hz1
    · simp [lits]
      omega
theorem reach_intsl {ts : List TypeId} {ds : List (DataW H)} (h : (DataW.weightsEach P ts ds).all (· ≤ reachBytes) = true) {t e : TypeId} (j : Nat) (ht : ts[j]? = some t) (hu : P.underlying t = some (.slice e)) (hby : P.bytesOf e = 8)
    {a : Option Addr} {len cap : Nat} {d : DataW H} (hd : ds[j]? = some d) (ho : (a = none ∧ len = 0 ∧ cap = 0) ∨ (len ≤ cap ∧ ∃ el sp, d = .slice el sp ∧ el.length + sp.length = cap)) : len ≤ 17592186043904 := by
  rcases ho with ⟨_, h0, _⟩ | ⟨hl, el, sp, rfl, hs⟩
  · omega
  · have := sized_slice h ht hd hu
    rw [hby, hs] at this
    simp only [reachBytes] at this
    omega
theorem ecells_of (F T G : Nat → Int) (n : Nat) {j : Nat} {u : Value} (h : (ecells ((List.range n).map fun i => (F i, T i, G i)))[j]? = some u) :
    ∃ i, i < n ∧ ((j = 3 * i ∧ u = .int .i64 (F i)) ∨ (j = 3 * i + 1 ∧ u = .int .i64 (T i)) ∨ (j = 3 * i + 2 ∧ u = .int .i64 (G i))) := by
  have hlt := (List.getElem?_eq_some_iff.1 h).1
  rw [ecells_len, List.length_map, List.length_range] at hlt
  refine ⟨j / 3, by omega, ?_⟩
  have he : ((List.range n).map fun i => (F i, T i, G i))[j / 3]? = some (F (j / 3), T (j / 3), G (j / 3)) := by
    rw [List.getElem?_map, List.getElem?_range (by omega)]; rfl
  obtain ⟨h1, h2, h3⟩ := ecells_at _ he
  rcases (show j = 3 * (j / 3) ∨ j = 3 * (j / 3) + 1 ∨ j = 3 * (j / 3) + 2 by omega) with e | e | e
  · rw [e, h1] at h; injection h with h; exact .inl ⟨e, h.symm⟩
  · rw [e, h2] at h; injection h with h; exact .inr (.inl ⟨e, h.symm⟩)
  · rw [e, h3] at h; injection h with h; exact .inr (.inr ⟨e, h.symm⟩)
end
section
variable {H : Type} {enc : TypeId × Value → H} {w : World}
theorem open_net {r : Reach} {b0 : Nat} {ts : List TypeId} {ds : List (DataW H)} (hsz : (DataW.weightsEach Try.prog ts ds).all (· ≤ reachBytes) = true) (j : Nat) (hts : ts[j]? = some 24) {v : Value} {d : DataW H} {p : List MemPlace} (hds : ds[j]? = some d)
    (hv : Value.okWide Try.prog w r b0 24 v) (h : DataW.Trod enc Try.prog w 0 (fun _ => true) true 24 v d p) :
    ∃ (n : Int) (A : Option Addr) (m c : Nat) (E : List (Int × Int × Int)), v = .agg #[.int .i64 n, .slice A m c] ∧ Reads w w.heap.size 3 A m (ecells E) ∧ m ≤ 5864062014634 := by
  have hv' : ∃ cs, v = .agg cs ∧ cs.size = Try.prog.cellsOf 24 := by
    unfold Value.okWide at hv
    rw [Try.underlying24] at hv
    obtain ⟨cs, h1, h2, _⟩ := hv
    exact ⟨cs, h1, h2⟩
  obtain ⟨cs, rfl, hcs⟩ := hv'
  rw [show Try.prog.cellsOf 24 = 2 by kernel_rfl] at hcs
  obtain ⟨a, b, rfl⟩ : ∃ a b, cs = #[a, b] := by
    match cs, hcs with
    | ⟨[a, b]⟩, _ => exact ⟨a, b, rfl⟩
  obtain ⟨fuel, hf⟩ := h
  obtain ⟨y0, y1, n', hx, _, h0, h1⟩ := trod_struct2 Try.underlying24 hf
  have h0' : DataW.trod enc Try.prog w 0 (fun _ => true) true n' 3 [a] = some y0 := h0
  have h1' : DataW.trod enc Try.prog w 0 (fun _ => true) true n' 22 [b] = some y1 := h1
  clear h0 h1
  obtain ⟨n, e0, _, _⟩ := DataW.trod_int Try.underlying3 h0'
  obtain rfl : a = .int .i64 n := by simpa using e0
  rcases open_slice Try.underlying22 h1' with ⟨hb, hy⟩ | ⟨ad, len, cap, mm, nn, D, Pl, hb, _, hl, hm, hmm, hy, hi⟩
  · obtain rfl : b = .slice none 0 0 := by simpa using hb
    exact ⟨n, none, 0, 0, [], rfl, Reads.none_, by omega⟩
  · obtain rfl : b = .slice (some ad) len cap := by simpa using hb
    simp only [if_true] at hmm
    subst hmm
    rw [show Try.prog.cellsOf 53 = 3 by kernel_rfl] at hi
    have one : ∀ i, i < len → ∃ f t g : Int, w.cell? (ad.add (i * 3)) = some (.int .i64 f) ∧ w.cell? (ad.add (i * 3 + 1)) = some (.int .i64 t) ∧ w.cell? (ad.add (i * 3 + 2)) = some (.int .i64 g) := fun i hil => by
      obtain ⟨cs', hc, ht'⟩ := hi i (by omega)
      obtain ⟨_, hcl, hat⟩ := World.cells?_some hc
      obtain ⟨xs, m', _, _, hxl, _, hel⟩ := DataW.trod_array Try.underlying53 ht'
      have each : ∀ k, k < 3 → ∃ z : Int, w.cell? (ad.add (i * 3 + k)) = some (.int .i64 z) := fun k hk => by
        have h1 := hel k hk
        rw [show Try.prog.cellsOf 3 = 1 by kernel_rfl, Nat.mul_one] at h1
        have hkl : k < cs'.length := by omega
        have h2 : (cs'.drop k).take 1 = [cs'[k]] := by
          rw [List.drop_eq_getElem_cons hkl]; rfl
        rw [h2, List.getElem?_eq_getElem (by omega)] at h1
        obtain ⟨z, hz, _, _⟩ := DataW.trod_int Try.underlying3 h1
        refine ⟨z, ?_⟩
        rw [← Go.Deep.add_add, hat k (by omega), List.getElem?_eq_getElem hkl]
        simpa using hz
      obtain ⟨f, hf⟩ := each 0 (by omega)
      obtain ⟨t, ht⟩ := each 1 (by omega)
      obtain ⟨g, hg⟩ := each 2 (by omega)
      exact ⟨f, t, g, hf, ht, hg⟩
    have hF : ∃ F T G : Nat → Int, ∀ i, i < len → w.cell? (ad.add (i * 3)) = some (.int .i64 (F i)) ∧ w.cell? (ad.add (i * 3 + 1)) = some (.int .i64 (T i)) ∧ w.cell? (ad.add (i * 3 + 2)) = some (.int .i64 (G i)) := by
      have h1 : ∀ i, ∃ x : Int × Int × Int, i < len → w.cell? (ad.add (i * 3)) = some (.int .i64 x.1) ∧ w.cell? (ad.add (i * 3 + 1)) = some (.int .i64 x.2.1) ∧ w.cell? (ad.add (i * 3 + 2)) = some (.int .i64 x.2.2) := fun i => by
        by_cases hil : i < len
        · obtain ⟨f, t, g, h⟩ := one i hil
          exact ⟨(f, t, g), fun _ => h⟩
        · exact ⟨(0, 0, 0), fun h => absurd h hil⟩
      exact ⟨fun i => (Classical.choose (h1 i)).1, fun i => (Classical.choose (h1 i)).2.1, fun i => (Classical.choose (h1 i)).2.2, fun i hi => Classical.choose_spec (h1 i) hi⟩
    obtain ⟨F, T, G, hFTG⟩ := hF
    refine ⟨n, some ad, len, mm, (List.range len).map fun i => (F i, T i, G i), rfl, ⟨by rw [ecells_len]; simp, fun hn => ⟨ad, rfl, ?_, fun j u hu => ?_⟩⟩, ?_⟩
    · have := World.block_lt_of_cell? w _ (hFTG 0 hn).1
      rwa [block_of_add] at this
    · obtain ⟨i, hil, h⟩ := ecells_of F T G len hu
      rcases h with ⟨rfl, rfl⟩ | ⟨rfl, rfl⟩ | ⟨rfl, rfl⟩
      · rw [Nat.mul_comm]; exact (hFTG i hil).1
      · rw [Nat.mul_comm]; exact (hFTG i hil).2.1
      · rw [Nat.mul_comm]; exact (hFTG i hil).2.2
    · have hxd : d = .agg [y0.1, y1.1] := by simpa using congrArg Prod.fst hx
      have hyd : y1.1 = .slice ((List.range len).map D) ((List.range (mm - len)).map fun j => D (len + j)) := by rw [hy]
      have hin : (((List.range len).map D).length + ((List.range (mm - len)).map fun j => D (len + j)).length) * Try.prog.bytesOf 53 ∈ d.weights Try.prog 24 := by
        rw [hxd]
        simp only [DataW.weights, Try.underlying24]
        refine DataW.weights_mem_each (j := 1) rfl (by rw [hyd]; rfl) _ (by simp [DataW.weights, Try.underlying22])
      have := List.all_eq_true.1 hsz _ (DataW.weights_mem_each hts hds _ hin)
      rw [show Try.prog.bytesOf 53 = 24 by kernel_rfl] at this
      simp only [List.length_map, List.length_range, reachBytes, decide_eq_true_eq] at this
      omega
end
end Go.Proofs.Ytmcpbmadjpjckaa
