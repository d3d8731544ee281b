/-
  Plain law of GraphTells: parts in order, rounds or none. No program in sight.
-/
import Derived.Test.YtmcpbmadjpjckaaGrIsRnd
namespace Go.Proofs.Ytmcpbmadjpjckaa
open Go.RowKit

section
variable {N al : Nat} {part : Nat → Nat} {E : List (Int × Int × Int)} {os : List Nat}
theorem nds_pw (part : Nat → Nat) (N p : Nat) : (nds part N p).Pairwise (· < ·) := List.Pairwise.filter _ List.pairwise_lt_range
theorem os_len {fst : Nat → Nat} (h : PSpec part E al fst os) (ha : ∀ p, p < al → p ∈ os) : os.length = al := by
  refine Nat.le_antisymm h.len ?_
  refine pig os.length al (fun p => os.idxOf p) (fun i hi => List.idxOf_lt_length_iff.2 (ha i hi)) (fun i j hi hj e => ?_)
  have h1 := List.getElem_idxOf (List.idxOf_lt_length_iff.2 (ha i hi))
  have h2 := List.getElem_idxOf (List.idxOf_lt_length_iff.2 (ha j hj))
  have e : os.idxOf i = os.idxOf j := e
  rw [← h1, ← h2]
  congr 1
/-- One part alone for each node. -/
def Inj (N : Nat) (part : Nat → Nat) : Prop := ∀ u v, u < N → v < N → part u = part v → u = v
theorem inj_al (hP : Parts N (adjOf E false) part al) (h : Inj N part) : al = N := by
  have h1 := pig al N part (fun i hi => hP.lt i hi) (fun i j hi hj e => h i j hi hj e)
  have := hP.aln
  omega
theorem al_inj (hs : ∀ p, p < al → ∃ u, u < N ∧ part u = p) (e : al = N) : Inj N part := fun u v hu hv huv => by
  refine Classical.byContradiction fun hne => ?_
  have hg : ∃ g : Nat → Nat, ∀ p, p < al → g p < N ∧ part (g p) = p := by
    have h1 : ∀ p, ∃ x, p < al → x < N ∧ part x = p := fun p => by
      by_cases hp : p < al
      · obtain ⟨x, hx⟩ := hs p hp
        exact ⟨x, fun _ => hx⟩
      · exact ⟨0, fun h => absurd h hp⟩
    exact ⟨fun p => Classical.choose (h1 p), fun p hp => Classical.choose_spec (h1 p) hp⟩
  obtain ⟨g, hg⟩ := hg
  have hz : ∃ z, z < N ∧ ∀ p, p < al → g p ≠ z := by
    by_cases c : g (part u) = u
    · refine ⟨v, hv, fun p hp hz => ?_⟩
      have h1 := (hg p hp).2
      rw [hz, ← huv] at h1
      rw [← h1] at hz
      omega
    · refine ⟨u, hu, fun p hp hz => ?_⟩
      have h1 := (hg p hp).2
      rw [hz] at h1
      rw [← h1] at hz
      exact c hz
  obtain ⟨z, hz, hno⟩ := hz
  have := pig (N - 1) al (fun p => if g p = N - 1 then z else g p) (fun i hi => by
    show (if g i = N - 1 then z else g i) < N - 1
    split
    · rename_i c
      have := hno i hi
      omega
    · have := (hg i hi).1
      omega) (fun i j hi hj hij => by
    have hij : (if g i = N - 1 then z else g i) = (if g j = N - 1 then z else g j) := hij
    have h1 := (hg i hi).2
    have h2 := (hg j hj).2
    have n1 := hno i hi
    have n2 := hno j hj
    have : g i = g j := by
      split at hij <;> split at hij <;> omega
    rw [← h1, ← h2, this])
  omega
theorem two_of (h : Inj N part) (p : Nat) : (nds part N p).length ≤ 1 := by
  match hl : nds part N p with
  | [] => simp
  | [_] => simp
  | a :: b :: r =>
    have ha : a ∈ nds part N p := by rw [hl]; simp
    have hb : b ∈ nds part N p := by rw [hl]; simp
    have hpw := nds_pw part N p
    rw [hl] at hpw
    have hab : a < b := (List.pairwise_cons.1 hpw).1 b (by simp)
    rw [nds_mem] at ha hb
    have := h a b ha.1 hb.1 (by omega)
    omega
theorem of_two (h : ∀ p, p < al → (nds part N p).length ≤ 1) (hP : Parts N (adjOf E false) part al) : Inj N part := fun u v hu hv huv => by
  have h1 := h (part u) (hP.lt u hu)
  have hu' : u ∈ nds part N (part u) := nds_mem.2 ⟨hu, rfl⟩
  have hv' : v ∈ nds part N (part u) := nds_mem.2 ⟨hv, huv.symm⟩
  match hl : nds part N (part u) with
  | [] => rw [hl] at hu'; cases hu'
  | [a] => rw [hl] at hu' hv'; simp at hu' hv'; omega
  | a :: b :: r => rw [hl] at h1; simp at h1
/-- No edge from a node to itself. -/
theorem self_iff (hE : ∀ e ∈ E, okE (N : Int) e = true) : selfB E = false ↔ ∀ u, u ∉ adjOf E false u := by
  constructor
  · intro h u hu
    obtain ⟨e, he, h1, h2⟩ := (adj_mem hE).1 hu
    obtain ⟨f, t, g, rfl, _⟩ := okE_parts (hE e he)
    simp only [Int.toNat_natCast] at h1 h2
    subst h1 h2
    have h3 : selfB E = true := List.any_eq_true.2 ⟨_, he, by simp⟩
    rw [h] at h3
    cases h3
  · intro h
    cases hc : selfB E
    · rfl
    · obtain ⟨e, he, h1⟩ := List.any_eq_true.1 hc
      obtain ⟨f, t, g, rfl, _⟩ := okE_parts (hE e he)
      simp only [beq_iff_eq] at h1
      exact absurd ((adj_mem hE).2 ⟨_, he, by simp, by simp; omega⟩) (h f)
theorem rdB_false (hP : Parts N (adjOf E false) part al) (hs : ∀ p, p < al → ∃ u, u < N ∧ part u = p) (ha : ∀ p, p < al → p ∈ os) : rdB part N os E = false ↔ (al = N ∧ selfB E = false) := by
  unfold rdB
  rw [Bool.or_eq_false_iff]
  constructor
  · rintro ⟨h1, h2⟩
    refine ⟨inj_al hP (of_two (al := al) (fun p hp => ?_) hP), h2⟩
    have := List.any_eq_false.1 h1 p (ha p hp)
    simp only [decide_eq_true_eq] at this
    omega
  · rintro ⟨h1, h2⟩
    refine ⟨List.any_eq_false.2 fun p _ => ?_, h2⟩
    have := two_of (al_inj hs h1) p
    simp only [decide_eq_true_eq]
    omega
/-- A round is none where each part is one node. -/
theorem rnd_part (hP : Parts N (adjOf E false) part al) {f : Nat} {r : List Nat} (h : Rnd N (adjOf E false) f r) : ¬ Inj N part ∨ selfB E = true ∨ ¬ ∀ e ∈ E, okE (N : Int) e = true := by
  refine Classical.byContradiction fun hno => ?_
  rw [not_or, not_or, Classical.not_not, Classical.not_not] at hno
  obtain ⟨hi, hb, hE⟩ := hno
  have hb : selfB E = false := by simpa using hb
  have hsf := (self_iff hE).1 hb
  obtain ⟨hf, hr⟩ := h.lt
  match r, h, hr with
  | [], h, _ => exact hsf f (h.last f rfl)
  | a :: q, h, hr =>
    have hlt : ∀ (i : Nat) (x : Nat), (f :: a :: q)[i]? = some x → x < N := fun i x hx => by
      have := List.mem_of_getElem? hx
      rcases List.mem_cons.1 this with rfl | h1
      · exact hf
      · exact (hr x h1).1
    have hdn : ∀ (i : Nat) (x : Nat), (f :: a :: q)[i + 1]? = some x → part x ≤ part a := fun i => by
      induction i with
      | zero =>
        intro x hx
        obtain rfl : a = x := by simpa using hx
        exact Nat.le_refl _
      | succ i ih =>
        intro x hx
        obtain ⟨y, hy⟩ : ∃ y, (f :: a :: q)[i + 1]? = some y := ⟨_, List.getElem?_eq_getElem (by have := (List.getElem?_eq_some_iff.1 hx).1; omega)⟩
        have h1 := ih y hy
        have h2 := (hP.le y (hlt _ _ hy) x (h.step (i + 1) y x hy hx)).2
        omega
    obtain ⟨y, hy⟩ : ∃ y, (f :: a :: q)[(a :: q).length]? = some y := ⟨_, List.getElem?_eq_getElem (by simp)⟩
    have h1 := hdn q.length y (by simpa using hy)
    have h2 := (hP.le y (hlt _ _ hy) f (h.last y hy)).2
    have ha := hr a (by simp)
    have h3 := (hP.le f hf a (h.step 0 f a rfl rfl)).2
    have := hi f a hf ha.1 (by omega)
    omega
/-- Where no round is found each part is one node. -/
theorem noc_part (hP : Parts N (adjOf E false) part al) (hE : ∀ e ∈ E, okE (N : Int) e = true) (h : ∀ s, s < N → NoC N (adjOf E false) (adjOf E true) part s) : Inj N part ∧ selfB E = false := by
  have hin : ∀ u t, t ∈ adjOf E false u → u < N ∧ t < N := fun u t hu => by
    obtain ⟨e, he, h1, h2⟩ := (adj_mem hE).1 hu
    obtain ⟨f, t', g, rfl, hf, ht, _⟩ := okE_parts (hE e he)
    simp only [Int.toNat_natCast] at h1 h2
    subst h1 h2
    exact ⟨hf, ht⟩
  constructor
  · refine of_two (al := al) (fun p _ => Nat.le_of_not_lt fun h2 => ?_) hP
    match hl : nds part N p, h2 with
    | s :: v :: r, _ =>
      have hs : s ∈ nds part N p := by rw [hl]; simp
      have hv : v ∈ nds part N p := by rw [hl]; simp
      have hpw := nds_pw part N p
      rw [hl] at hpw
      have hlow : ∀ x, x < N → part x = p → s ≤ x := fun x hx hxp => by
        have : x ∈ nds part N p := nds_mem.2 ⟨hx, hxp⟩
        rw [hl] at this
        rcases List.mem_cons.1 this with rfl | h3
        · exact Nat.le_refl _
        · exact Nat.le_of_lt ((List.pairwise_cons.1 hpw).1 x h3)
      have hsv : s < v := (List.pairwise_cons.1 hpw).1 v (by simp)
      rw [nds_mem] at hs hv
      rcases h s hs.1 with ⟨h3, _⟩ | ⟨fr, hfr, hno⟩
      · apply h3
        rw [hs.2, hl]
        simp
      · have hall : ∀ x z, Rs (adjOf E false) x z → z = s → x < N → part x = p → fr x ≠ none := fun x z hr => by
          induction hr with
          | refl => intro e _ _; rw [e, hfr.top]; simp
          | @step a b c h4 h5 ih =>
            intro e ha hap
            have hb := (hin a b h4).2
            have l1 := (hP.le a ha b h4).2
            have l2 := (le_rs hP h5 hb).2
            rw [e] at l2
            have h6 := ih e hb (by omega)
            by_cases c1 : a = s
            · rw [c1, hfr.top]; simp
            · obtain ⟨k, hk⟩ := Option.ne_none_iff_exists'.1 h6
              obtain ⟨k', hk', _⟩ := hfr.opt b k hk a ((bk_adj hE).2 h4) (by have := hlow a ha hap; omega)
              rw [hk']
              simp
        have hR := hP.same s v hs.1 hv.1 (by omega)
        cases hR with
        | refl => omega
        | @step _ b _ h4 h5 =>
          have hb := (hin s b h4).2
          have l1 := (hP.le s hs.1 b h4).2
          have l2 := (le_rs hP h5 hb).2
          have hbp : part b = p := by omega
          exact hall b s (hP.same b s hb hs.1 (by omega)) rfl hb hbp (hno b h4)
  · refine (self_iff hE).2 fun u hu => ?_
    rcases h u (hin u u hu).1 with ⟨_, h1⟩ | ⟨fr, hfr, h1⟩
    · exact h1 hu
    · have := h1 u hu
      rw [hfr.top] at this
      cases this
end
end Go.Proofs.Ytmcpbmadjpjckaa
