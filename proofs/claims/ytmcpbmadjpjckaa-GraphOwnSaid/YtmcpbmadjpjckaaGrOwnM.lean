/-
  Plain law of GraphOwn: the parts of a graph in their order are one and the same however they are numbered. No program in sight.
-/
import Derived.Test.YtmcpbmadjpjckaaGrMostM
namespace Go.Proofs.Ytmcpbmadjpjckaa
open Go.RowKit

section
variable {N al al' : Nat} {part part' : Nat → Nat} {E : List (Int × Int × Int)} {os os' : List Nat}
theorem part_iff (hP : Parts N (adjOf E false) part al) (hP' : Parts N (adjOf E false) part' al') {u v : Nat} (hu : u < N) (hv : v < N) (h : part u = part v) : part' u = part' v := by
  have h1 := (le_rs hP' (hP.same u v hu hv h) hu).2
  have h2 := (le_rs hP' (hP.same v u hv hu h.symm) hv).2
  omega
theorem nds_same (hP : Parts N (adjOf E false) part al) (hP' : Parts N (adjOf E false) part' al') {u : Nat} (hu : u < N) : nds part N (part u) = nds part' N (part' u) := by
  unfold nds
  apply List.filter_congr
  intro x hx
  have hx := List.mem_range.1 hx
  rw [Bool.eq_iff_iff, beq_iff_eq, beq_iff_eq]
  exact ⟨part_iff hP hP' hx hu, part_iff hP' hP hx hu⟩
theorem fst_same (hP : Parts N (adjOf E false) part al) (hP' : Parts N (adjOf E false) part' al') {u : Nat} (hu : u < N) : fstN part N (part u) = fstN part' N (part' u) := by
  unfold fstN
  rw [nds_same hP hP' hu]
/-- Two orders agree so far. -/
def Agr (N : Nat) (part part' : Nat → Nat) (os os' : List Nat) (k : Nat) : Prop := ∀ j, j < k → ∃ u, u < N ∧ os[j]? = some (part u) ∧ os'[j]? = some (part' u)
theorem agr_mem (hP : Parts N (adjOf E false) part al) (hP' : Parts N (adjOf E false) part' al') {k : Nat} (h : Agr N part part' os os' k) {u : Nat} (hu : u < N) (hm : part u ∈ os.take k) : part' u ∈ os'.take k := by
  obtain ⟨j, hj⟩ := List.getElem?_of_mem hm
  rw [List.getElem?_take] at hj
  split at hj
  · rename_i hjk
    obtain ⟨v, hv, h1, h2⟩ := h j hjk
    rw [h1] at hj
    injection hj with hj
    refine List.mem_of_getElem? (i := j) ?_
    rw [List.getElem?_take, if_pos hjk, h2, part_iff hP hP' hv hu hj]
  · cases hj
theorem agr_wts (hP : Parts N (adjOf E false) part al) (hP' : Parts N (adjOf E false) part' al') (hE : ∀ e ∈ E, okE (N : Int) e = true) {k : Nat} (h : Agr N part part' os os' k) {u : Nat} (hu : u < N) (hw : wts part E (os.take k) (part u) = 0) : wts part' E (os'.take k) (part' u) = 0 := by
  rw [wts_zero] at hw ⊢
  intro e he h1 h2
  obtain ⟨f, t, g, rfl, hf, ht, _⟩ := okE_parts (hE e he)
  simp only [Int.toNat_natCast] at h1 h2 ⊢
  refine agr_mem hP hP' h ht ?_
  have := hw _ he (by simpa using part_iff hP' hP hf hu h1) (by simpa using fun c => h2 (part_iff hP hP' ht hu c))
  simpa using this
theorem agr_len (hP : Parts N (adjOf E false) part al) (hP' : Parts N (adjOf E false) part' al') (hs : ∀ p, p < al → ∃ u, u < N ∧ part u = p) : al ≤ al' := by
  have h : ∀ p, ∃ x, p < al → x < N ∧ part x = p := fun p => by
    by_cases hp : p < al
    · obtain ⟨x, hx⟩ := hs p hp
      exact ⟨x, fun _ => hx⟩
    · exact ⟨0, fun h => absurd h hp⟩
  refine pig al' al (fun p => part' (Classical.choose (h p))) (fun i hi => hP'.lt _ (Classical.choose_spec (h i) hi).1) (fun i j hi hj e => ?_)
  have e : part' (Classical.choose (h i)) = part' (Classical.choose (h j)) := e
  have h1 := Classical.choose_spec (h i) hi
  have h2 := Classical.choose_spec (h j) hj
  have := part_iff hP' hP h1.1 h2.1 e
  omega
/-- Both orders tell the same lists. -/
theorem parts_one (hP : Parts N (adjOf E false) part al) (hP' : Parts N (adjOf E false) part' al') (hE : ∀ e ∈ E, okE (N : Int) e = true) (hs : ∀ p, p < al → ∃ u, u < N ∧ part u = p) (hs' : ∀ p, p < al' → ∃ u, u < N ∧ part' u = p)
    (hp : PSpec part E al (fstN part N) os) (hp' : PSpec part' E al' (fstN part' N) os') (ha : ∀ p, p < al → p ∈ os) (ha' : ∀ p, p < al' → p ∈ os') :
    al = al' ∧ ∀ k, k < al → ∃ p p', os[k]? = some p ∧ os'[k]? = some p' ∧ p < al ∧ p' < al' ∧ nds part N p = nds part' N p' := by
  have hal : al = al' := Nat.le_antisymm (agr_len hP hP' hs) (agr_len hP' hP hs')
  subst hal
  have hl := os_len hp ha
  have hl' := os_len hp' ha'
  have key : ∀ k, k ≤ al → Agr N part part' os os' k := by
    intro k
    induction k with
    | zero => intro _ j hj; omega
    | succ k ih =>
      intro hk j hj
      have ih := ih (by omega)
      by_cases hjk : j < k
      · exact ih j hjk
      · obtain rfl : j = k := by omega
        have ih' : Agr N part' part os' os j := fun i hi => by
          obtain ⟨u, hu, h1, h2⟩ := ih i hi
          exact ⟨u, hu, h2, h1⟩
        obtain ⟨p, hpk⟩ : ∃ p, os[j]? = some p := ⟨_, List.getElem?_eq_getElem (by omega)⟩
        obtain ⟨p', hpk'⟩ : ∃ p, os'[j]? = some p := ⟨_, List.getElem?_eq_getElem (by omega)⟩
        obtain ⟨u, hu, rfl⟩ := hs p (hp.lt p (List.mem_of_getElem? hpk))
        obtain ⟨v, hv, rfl⟩ := hs' p' (hp'.lt p' (List.mem_of_getElem? hpk'))
        have g1 := hp'.greedy j _ hpk' (part' u) (hP'.lt u hu) (fun hm => by
          have := idx_take hp.nodup (agr_mem hP' hP ih' hu hm)
          rw [idx_at hp.nodup hpk] at this
          omega) (agr_wts hP hP' hE ih hu (hp.free j _ hpk))
        have g2 := hp.greedy j _ hpk (part v) (hP.lt v hv) (fun hm => by
          have := idx_take hp'.nodup (agr_mem hP hP' ih hv hm)
          rw [idx_at hp'.nodup hpk'] at this
          omega) (agr_wts hP' hP hE ih' hv (hp'.free j _ hpk'))
        rw [← fst_same hP hP' hu] at g1
        rw [fst_same hP hP' hv] at g2
        have hfe : fstN part N (part u) = fstN part' N (part' v) := by omega
        have hx : ∀ {pt : Nat → Nat} {w : Nat}, w < N → fstN pt N (pt w) < N ∧ pt (fstN pt N (pt w)) = pt w := fun {pt w} hw => by
          have hm : w ∈ nds pt N (pt w) := nds_mem.2 ⟨hw, rfl⟩
          have : fstN pt N (pt w) ∈ nds pt N (pt w) := by
            unfold fstN
            match hq : nds pt N (pt w), hm with
            | a :: r, _ => simp
          exact nds_mem.1 this
        obtain ⟨a1, a2⟩ := hx (pt := part) hu
        obtain ⟨b1, b2⟩ := hx (pt := part') hv
        rw [← hfe] at b2
        have : part' u = part' v := by rw [← part_iff hP hP' a1 hu a2, b2]
        exact ⟨u, hu, hpk, by rw [this]; exact hpk'⟩
  refine ⟨rfl, fun k hk => ?_⟩
  obtain ⟨u, hu, h1, h2⟩ := key (k + 1) (by omega) k (by omega)
  exact ⟨_, _, h1, h2, hP.lt u hu, hP'.lt u hu, nds_same hP hP' hu⟩
end
end Go.Proofs.Ytmcpbmadjpjckaa
