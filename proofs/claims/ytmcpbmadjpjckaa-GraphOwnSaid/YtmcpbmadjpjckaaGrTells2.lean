/-
  Plain law of GraphTells, second part: places of parts, what must be ahead, the order of parts. No program in sight.
-/
import Derived.Test.YtmcpbmadjpjckaaGrTellsM
namespace Go.Proofs.Ytmcpbmadjpjckaa
open Go.RowKit

theorem idx_at {os : List Nat} (h : os.Nodup) {k p : Nat} (hk : os[k]? = some p) : os.idxOf p = k := by
  obtain ⟨hl, rfl⟩ := List.getElem?_eq_some_iff.1 hk
  have hm : os.idxOf os[k] < os.length := List.idxOf_lt_length_iff.2 (List.getElem_mem hl)
  have h1 := List.getElem_idxOf hm
  have h2 := List.pairwise_iff_getElem.1 h
  rcases Nat.lt_trichotomy (os.idxOf os[k]) k with c | c | c
  · exact absurd h1 (h2 _ _ hm hl c)
  · exact c
  · exact absurd h1.symm (h2 _ _ hl hm c)
theorem at_idx {os : List Nat} {p : Nat} (hp : p ∈ os) : os[os.idxOf p]? = some p := by
  have hm : os.idxOf p < os.length := List.idxOf_lt_length_iff.2 hp
  rw [List.getElem?_eq_getElem hm, List.getElem_idxOf hm]
theorem idx_take {os : List Nat} (h : os.Nodup) {k p : Nat} (hp : p ∈ os.take k) : os.idxOf p < k := by
  obtain ⟨j, hj⟩ := List.getElem?_of_mem hp
  rw [List.getElem?_take] at hj
  split at hj
  · rw [idx_at h hj]; assumption
  · cases hj
theorem take_idx {os : List Nat} {k p : Nat} (hp : p ∈ os) (h : os.idxOf p < k) : p ∈ os.take k := by
  have := at_idx hp
  refine List.mem_of_getElem? (i := os.idxOf p) ?_
  rw [List.getElem?_take, if_pos h]
  exact this
/-- A node's place among the parts, from 1. -/
def plc (part : Nat → Nat) (os : List Nat) (u : Nat) : Nat := os.idxOf (part u) + 1
section
variable {N al : Nat} {part : Nat → Nat} {E : List (Int × Int × Int)} {os : List Nat} {fst : Nat → Nat}
theorem plc_le (hP : Parts N (adjOf E false) part al) (ha : ∀ p, p < al → p ∈ os) {u : Nat} (hu : u < N) : plc part os u ≤ os.length :=
  List.idxOf_lt_length_iff.2 (ha _ (hP.lt u hu))
/-- Along an edge places don't rise. -/
theorem plc_edge (hP : Parts N (adjOf E false) part al) (hE : ∀ e ∈ E, okE (N : Int) e = true) (hs : PSpec part E al fst os) (ha : ∀ p, p < al → p ∈ os) {f t g : Nat} (he : ((f : Int), (t : Int), (g : Int)) ∈ E) : plc part os t ≤ plc part os f := by
  obtain ⟨f', t', g', h, hf, ht, _⟩ := okE_parts (hE _ he)
  simp only [Prod.mk.injEq, Int.natCast_inj] at h
  obtain ⟨rfl, rfl, rfl⟩ := h
  unfold plc
  by_cases c : part t = part f
  · rw [c]; exact Nat.le_refl _
  · have hm := ha _ (hP.lt f hf)
    have h0 := hs.free _ _ (at_idx hm)
    have h1 := wts_zero.1 h0 _ he (by simp) (by simpa using c)
    have h2 := idx_take hs.nodup h1
    simp only [Int.toNat_natCast] at h2
    omega
/-- Must the part of a place stand behind the one ahead? -/
def mst (part : Nat → Nat) (os : List Nat) (l : List (Int × Int × Int)) (j : Nat) : Bool := l.any fun e => plc part os e.1.toNat == j && plc part os e.2.1.toNat + 1 == j
theorem mst_put {l : List (Int × Int × Int)} {f t g : Nat} (h : plc part os t + 1 = plc part os f) (u : Nat) : Value.bool (mst part os (l ++ [((f : Int), (t : Int), (g : Int))]) u) = upf (fun u => Value.bool (mst part os l u)) (plc part os f) (.bool true) u := by
  unfold upf mst
  rw [List.any_append]
  by_cases c : u = plc part os f
  · subst c
    simp [h]
  · rw [if_neg c]
    have : ¬ plc part os f = u := fun e => c e.symm
    simp [this]
theorem mst_keep {l : List (Int × Int × Int)} {f t g : Nat} (h : ¬ plc part os t + 1 = plc part os f) (u : Nat) : Value.bool (mst part os (l ++ [((f : Int), (t : Int), (g : Int))]) u) = Value.bool (mst part os l u) := by
  unfold mst
  rw [List.any_append]
  by_cases c : plc part os f = u
  · subst c
    simp [h]
  · simp [c]
/-- Of two parts side by side the lesser one is ahead, unless the other must be. -/
theorem side (hs : PSpec part E al fst os) {i p q : Nat} (hi : 0 < i) (hp : os[i]? = some p) (hq : os[i - 1]? = some q) (hm : mst part os E (i + 1) = false) : fst q ≤ fst p := by
  have hl := (List.getElem?_eq_some_iff.1 hp).1
  have ip := idx_at hs.nodup hp
  have iq := idx_at hs.nodup hq
  refine hs.greedy (i - 1) q hq p (hs.lt p (List.mem_of_getElem? hp)) (fun h => ?_) (wts_zero.2 fun e he h1 h2 => ?_)
  · have := idx_take hs.nodup h
    omega
  · have h3 := wts_zero.1 (hs.free i p hp) e he h1 h2
    have h4 := idx_take hs.nodup h3
    have h5 : os.idxOf (part e.2.1.toNat) ≠ i - 1 := fun c => by
      have := List.any_eq_false.1 hm e he
      simp [plc, h1, ip, c] at this
      omega
    exact take_idx (List.mem_of_mem_take h3) (by omega)
/-- How far the places are told. -/
def atK (part : Nat → Nat) (os : List Nat) (N i p k : Nat) (u : Nat) : Nat := if os.idxOf (part u) < i then plc part os u else if u ∈ (nds part N p).take k then i + 1 else 0
def atF (part : Nat → Nat) (os : List Nat) (i : Nat) (u : Nat) : Nat := if os.idxOf (part u) < i then plc part os u else 0
theorem atK_zero (i p u : Nat) : atK part os N i p 0 u = atF part os i u := by simp [atK, atF]
theorem atF_zero (u : Nat) : atF part os 0 u = 0 := by simp [atF]
theorem nds_at {p k n : Nat} (hk : (nds part N p)[k]? = some n) : n < N ∧ part n = p ∧ n ∉ (nds part N p).take k := by
  have h1 := nds_mem.1 (List.mem_of_getElem? hk)
  refine ⟨h1.1, h1.2, fun h => ?_⟩
  obtain ⟨j, hj⟩ := List.getElem?_of_mem h
  rw [List.getElem?_take] at hj
  split at hj
  · rename_i c
    obtain ⟨l1, e1⟩ := List.getElem?_eq_some_iff.1 hj
    obtain ⟨l2, e2⟩ := List.getElem?_eq_some_iff.1 hk
    have := List.pairwise_iff_getElem.1 (nds_pw part N p) j k l1 l2 c
    omega
  · cases hj
theorem nds_rise {p k n n' : Nat} (hk : (nds part N p)[k]? = some n) (hk' : (nds part N p)[k + 1]? = some n') : n < n' := by
  obtain ⟨l1, rfl⟩ := List.getElem?_eq_some_iff.1 hk
  obtain ⟨l2, rfl⟩ := List.getElem?_eq_some_iff.1 hk'
  exact List.pairwise_iff_getElem.1 (nds_pw part N p) _ _ l1 l2 (Nat.lt_succ_self k)
theorem atK_here (hn : os.Nodup) {i p k n : Nat} (hp : os[i]? = some p) (hk : (nds part N p)[k]? = some n) : atK part os N i p k n = 0 := by
  obtain ⟨h1, h2, h3⟩ := nds_at hk
  unfold atK
  rw [h2, idx_at hn hp, if_neg (Nat.lt_irrefl _), if_neg h3]
theorem atK_put (hn : os.Nodup) {i p k n : Nat} (hp : os[i]? = some p) (hk : (nds part N p)[k]? = some n) (u : Nat) : iv (atK part os N i p (k + 1) u) = upf (fun u => iv (atK part os N i p k u)) n (iv (i + 1)) u := by
  obtain ⟨h1, h2, h3⟩ := nds_at hk
  have ht : (nds part N p).take (k + 1) = (nds part N p).take k ++ [n] := by rw [List.take_add_one, hk]; rfl
  unfold upf atK
  rw [ht]
  by_cases c : u = n
  · subst c
    rw [if_pos rfl, h2, idx_at hn hp, if_neg (Nat.lt_irrefl _), if_pos (by simp)]
  · rw [if_neg c]
    simp [c]
theorem atK_end (hn : os.Nodup) (hP : Parts N (adjOf E false) part al) (ha : ∀ p, p < al → p ∈ os) {i p k : Nat} (hp : os[i]? = some p) (hk : (nds part N p).length ≤ k) {u : Nat} (hu : u < N) : atK part os N i p k u = atF part os (i + 1) u := by
  have hm := ha _ (hP.lt u hu)
  unfold atK atF
  rw [List.take_of_length_le hk]
  have h1 := at_idx hm
  by_cases c : os.idxOf (part u) < i
  · rw [if_pos c, if_pos (by omega)]
  · rw [if_neg c]
    by_cases d : os.idxOf (part u) = i
    · rw [d, hp] at h1
      injection h1 with h1
      rw [if_pos (nds_mem.2 ⟨hu, h1.symm⟩), if_pos (by omega)]
      unfold plc
      omega
    · rw [if_neg (fun h => d (by rw [(nds_mem.1 h).2]; exact idx_at hn hp)), if_neg (by omega)]
theorem atF_full (hP : Parts N (adjOf E false) part al) (ha : ∀ p, p < al → p ∈ os) {u : Nat} (hu : u < N) : atF part os os.length u = plc part os u := by
  unfold atF
  rw [if_pos (List.idxOf_lt_length_iff.2 (ha _ (hP.lt u hu)))]
theorem nds_ne (hs : ∀ p, p < al → ∃ u, u < N ∧ part u = p) {p : Nat} (hp : p < al) : 0 < (nds part N p).length := by
  obtain ⟨u, hu, h⟩ := hs p hp
  exact List.length_pos_of_mem (nds_mem.2 ⟨hu, h⟩)
/-- A part stands within what its first node reaches. -/
theorem part_wthn (hP : Parts N (adjOf E false) part al) {p x : Nat} (hx : (nds part N p)[0]? = some x) : Wthn ((nds part N p).map fun u : Nat => (u : Int)) ((rchL N (adjOf E false) [x]).map fun u : Nat => (u : Int)) := by
  have h1 := nds_mem.1 (List.mem_of_getElem? hx)
  refine ⟨?_, rch_pw _ _ _, fun y hy => ?_⟩
  · rw [List.pairwise_map]
    exact List.Pairwise.imp (R := fun a b : Nat => a < b) (fun h => by omega) (nds_pw part N p)
  · obtain ⟨u, hu, rfl⟩ := List.mem_map.1 hy
    have h2 := nds_mem.1 hu
    exact List.mem_map.2 ⟨u, rch_in h2.1 ⟨x, List.mem_singleton.2 rfl, hP.same x u h1.1 h2.1 (by omega)⟩, rfl⟩
theorem fstN_at {p x : Nat} (hx : (nds part N p)[0]? = some x) : fstN part N p = x := by
  unfold fstN
  match hl : nds part N p with
  | [] => rw [hl] at hx; cases hx
  | a :: r => rw [hl] at hx; simpa using hx
theorem inj_same {part' : Nat → Nat} {al' : Nat} (hP : Parts N (adjOf E false) part al) (hP' : Parts N (adjOf E false) part' al') (h : Inj N part) : Inj N part' := fun u v hu hv e => by
  have h1 := (le_rs hP (hP'.same u v hu hv e) hu).2
  have h2 := (le_rs hP (hP'.same v u hv hu e.symm) hv).2
  exact h u v hu hv (by omega)
/-- Each part one node, and no edge from a node to itself. -/
def sglB (al N : Nat) (l : List (Int × Int × Int)) : Bool := decide (al = N) && !selfB l
theorem sgl_snoc (al N : Nat) (l : List (Int × Int × Int)) (f t g : Int) : sglB al N (l ++ [(f, t, g)]) = (sglB al N l && f != t) := by
  unfold sglB selfB
  rw [List.any_append]
  simp only [List.any_cons, List.any_nil, Bool.or_false, Bool.not_or, bne, Bool.and_assoc]
theorem sgl_rd {part' : Nat → Nat} {al' : Nat} {os' : List Nat} (hP : Parts N (adjOf E false) part al) (hs : ∀ p, p < al → ∃ u, u < N ∧ part u = p) (hP' : Parts N (adjOf E false) part' al') (hs' : ∀ p, p < al' → ∃ u, u < N ∧ part' u = p) (ha' : ∀ p, p < al' → p ∈ os') : sglB al N E = true ↔ rdB part' N os' E = false := by
  rw [rdB_false hP' hs' ha']
  unfold sglB
  rw [Bool.and_eq_true, decide_eq_true_eq, Bool.not_eq_true']
  constructor
  · rintro ⟨h1, h2⟩
    exact ⟨inj_al hP' (inj_same hP hP' (al_inj hs h1)), h2⟩
  · rintro ⟨h1, h2⟩
    exact ⟨inj_al hP (inj_same hP' hP (al_inj hs' h1)), h2⟩
theorem flat_one {l : List Nat} (h : ∀ p ∈ l, (nds part N p).length = 1) : (l.flatMap (nds part N)).length = l.length := by
  induction l with
  | nil => rfl
  | cons p r ih =>
    rw [List.flatMap_cons, List.length_append, List.length_cons, h p (by simp), ih (fun q hq => h q (by simp [hq]))]
    omega
/-- The order of a graph without a round has all nodes. -/
theorem order_len (hP : Parts N (adjOf E false) part al) (hs : ∀ p, p < al → ∃ u, u < N ∧ part u = p) (hp : PSpec part E al fst os) (ha : ∀ p, p < al → p ∈ os) (h : rdB part N os E = false) : (os.flatMap (nds part N)).length = N := by
  obtain ⟨h1, h2⟩ := (rdB_false hP hs ha).1 h
  rw [flat_one (fun p hp' => by
    have := two_of (al_inj hs h1) p
    have := nds_ne (N := N) hs (hp.lt p hp')
    omega), os_len hp ha, h1]
/-- A round is told just where there is one. -/
theorem sgl_noc {part' : Nat → Nat} {al' : Nat} (hP : Parts N (adjOf E false) part al) (hP' : Parts N (adjOf E false) part' al') (hE : ∀ e ∈ E, okE (N : Int) e = true) (h : ∀ s, s < N → NoC N (adjOf E false) (adjOf E true) part' s) : sglB al N E = true := by
  obtain ⟨h1, h2⟩ := noc_part hP' hE h
  unfold sglB
  rw [h2, decide_eq_true (inj_al hP (inj_same hP' hP h1))]
  rfl
theorem sgl_rnd {f : Nat} {r : List Nat} (hP : Parts N (adjOf E false) part al) (hs : ∀ p, p < al → ∃ u, u < N ∧ part u = p) (hE : ∀ e ∈ E, okE (N : Int) e = true) (h : Rnd N (adjOf E false) f r) : sglB al N E = false := by
  cases hc : sglB al N E
  · rfl
  · unfold sglB at hc
    rw [Bool.and_eq_true, decide_eq_true_eq, Bool.not_eq_true'] at hc
    rcases rnd_part hP h with h1 | h1 | h1
    · exact absurd (al_inj hs hc.1) h1
    · rw [hc.2] at h1; cases h1
    · exact absurd hE h1
/-- What isRound asks of a round. -/
theorem rnd_told {f : Nat} {r : List Nat} (hE : ∀ e ∈ E, okE (N : Int) e = true) (h : Rnd N (adjOf E false) f r) :
    (∀ (i : Nat) (a b : Int), ((f :: r).map fun u : Nat => (u : Int))[i]? = some a → ((f :: r).map fun u : Nat => (u : Int))[(i + 1) % (r.length + 1)]? = some b → ldB E a b = true) ∧
    (∀ (i : Nat) (a b : Int), 0 < i → ((f :: r).map fun u : Nat => (u : Int))[i]? = some a → ((f :: r).map fun u : Nat => (u : Int))[0]? = some b → b < a) := by
  have hld : ∀ a b : Nat, b ∈ adjOf E false a → ldB E (a : Int) (b : Int) = true := fun a b hb => by
    obtain ⟨e, he, h1, h2⟩ := (adj_mem hE).1 hb
    obtain ⟨f', t', g', rfl, _⟩ := okE_parts (hE e he)
    simp only [Int.toNat_natCast] at h1 h2
    subst h1 h2
    exact List.any_eq_true.2 ⟨_, he, by simp⟩
  constructor
  · intro i a b ha hb
    rw [List.getElem?_map, Option.map_eq_some_iff] at ha hb
    obtain ⟨x, hx, rfl⟩ := ha
    obtain ⟨y, hy, rfl⟩ := hb
    have hl := (List.getElem?_eq_some_iff.1 hx).1
    rw [List.length_cons] at hl
    by_cases c : i = r.length
    · subst c
      rw [Nat.mod_self] at hy
      obtain rfl : f = y := by simpa using hy
      exact hld _ _ (h.last x hx)
    · rw [Nat.mod_eq_of_lt (by omega)] at hy
      exact hld _ _ (h.step i x y hx hy)
  · intro i a b hi ha hb
    rw [List.getElem?_map, Option.map_eq_some_iff] at ha hb
    obtain ⟨x, hx, rfl⟩ := ha
    obtain ⟨y, hy, rfl⟩ := hb
    obtain rfl : f = y := by simpa using hy
    obtain ⟨j, rfl⟩ : ∃ j, i = j + 1 := ⟨i - 1, by omega⟩
    have hm : x ∈ r := by rw [List.getElem?_cons_succ] at hx; exact List.mem_of_getElem? hx
    have := (h.lt.2 x hm).2
    omega
end
end Go.Proofs.Ytmcpbmadjpjckaa
