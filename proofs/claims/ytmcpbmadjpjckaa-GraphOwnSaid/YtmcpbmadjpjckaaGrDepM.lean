/-
  The depths of a graph: plain law, no program in sight.
-/
import Derived.Test.YtmcpbmadjpjckaaGrNet
import Derived.Test.YtmcpbmadjpjckaaGrChk
namespace Go.Proofs.Ytmcpbmadjpjckaa
open Go.RowKit

theorem chk_ok {n : Int} {E : List (Int × Int × Int)} (h : chkS n E = 0) : n ≤ 65536 ∧ E.length ≤ 1048576 ∧ 0 ≤ n ∧ ∀ e ∈ E, okE n e = true := by
  unfold chkS at h
  split at h
  · omega
  · rename_i h1
    split at h
    · omega
    · rename_i h2
      refine ⟨by omega, by omega, by omega, fun e he => ?_⟩
      cases hk : okE n e
      · exact absurd (.inr ⟨e, he, hk⟩) h2
      · rfl
/-- The parts of a graph, each numbered behind those that it leads to. -/
structure Parts (n : Nat) (adj : Nat → List Nat) (part : Nat → Nat) (al : Nat) : Prop where
  lt : ∀ u, u < n → part u < al
  le : ∀ u, u < n → ∀ t ∈ adj u, t < n ∧ part t ≤ part u
  same : ∀ u v, u < n → v < n → part u = part v → Rs adj u v
  aln : al ≤ n

/-- The edges that lead down from a part. -/
def downOf (part : Nat → Nat) (E : List (Int × Int × Int)) (a : Nat) : List (Int × Int × Int) :=
  E.filterMap fun e => if part e.1.toNat = a ∧ part e.2.1.toNat ≠ a then some ((a : Int), (part e.2.1.toNat : Int), e.2.2) else none
theorem downOf_snoc (part : Nat → Nat) (E : List (Int × Int × Int)) (e : Int × Int × Int) (a : Nat) :
    downOf part (E ++ [e]) a = downOf part E a ++ (if part e.1.toNat = a ∧ part e.2.1.toNat ≠ a then [((a : Int), (part e.2.1.toNat : Int), e.2.2)] else []) := by
  rw [downOf, List.filterMap_append]
  congr 1
  rw [List.filterMap_cons, List.filterMap_nil]
  by_cases h : part e.1.toNat = a ∧ part e.2.1.toNat ≠ a
  · rw [if_pos h, if_pos h]
  · rw [if_neg h, if_neg h]
theorem downOf_len (part : Nat → Nat) (E : List (Int × Int × Int)) (a : Nat) : (downOf part E a).length ≤ E.length := List.length_filterMap_le _ _
theorem downOf_mem {part : Nat → Nat} {E : List (Int × Int × Int)} {a : Nat} {x : Int × Int × Int} (h : x ∈ downOf part E a) :
    ∃ e ∈ E, part e.1.toNat = a ∧ part e.2.1.toNat ≠ a ∧ x = ((a : Int), (part e.2.1.toNat : Int), e.2.2) := by
  obtain ⟨e, he, h⟩ := List.mem_filterMap.1 h
  by_cases c : part e.1.toNat = a ∧ part e.2.1.toNat ≠ a
  · rw [if_pos c] at h
    injection h with h
    exact ⟨e, he, c.1, c.2, h.symm⟩
  · rw [if_neg c] at h; cases h
theorem mem_downOf {part : Nat → Nat} {E : List (Int × Int × Int)} {e : Int × Int × Int} (he : e ∈ E) (hne : part e.1.toNat ≠ part e.2.1.toNat) :
    ((part e.1.toNat : Int), (part e.2.1.toNat : Int), e.2.2) ∈ downOf part E (part e.1.toNat) :=
  List.mem_filterMap.2 ⟨e, he, by rw [if_pos ⟨rfl, fun h => hne h.symm⟩]⟩

/-- The greatest of a depth and of what edges lead down to. -/
def dmax (dp : Nat → Nat) (d0 : Nat) (l : List (Int × Int × Int)) : Nat := l.foldl (fun d e => max d (dp e.2.1.toNat + e.2.2.toNat)) d0
theorem dmax_snoc (dp : Nat → Nat) (d0 : Nat) (l : List (Int × Int × Int)) (e : Int × Int × Int) : dmax dp d0 (l ++ [e]) = max (dmax dp d0 l) (dp e.2.1.toNat + e.2.2.toNat) := by
  rw [dmax, List.foldl_append]; rfl
theorem dmax_le {dp : Nat → Nat} {M : Nat} : ∀ {l : List (Int × Int × Int)} {d0 : Nat}, d0 ≤ M → (∀ e ∈ l, dp e.2.1.toNat + e.2.2.toNat ≤ M) → dmax dp d0 l ≤ M
  | [], d0, h, _ => h
  | e :: r, d0, h, hl => dmax_le (l := r) (d0 := max d0 (dp e.2.1.toNat + e.2.2.toNat)) (by have := hl e (by simp); omega) (fun e' he' => hl e' (by simp [he']))
theorem le_dmax0 {dp : Nat → Nat} : ∀ {l : List (Int × Int × Int)} {d0 : Nat}, d0 ≤ dmax dp d0 l
  | [], _ => Nat.le_refl _
  | e :: r, d0 => Nat.le_trans (Nat.le_max_left _ _) (le_dmax0 (l := r) (d0 := max d0 (dp e.2.1.toNat + e.2.2.toNat)))
theorem le_dmax {dp : Nat → Nat} : ∀ {l : List (Int × Int × Int)} {d0 : Nat} {e : Int × Int × Int}, e ∈ l → dp e.2.1.toNat + e.2.2.toNat ≤ dmax dp d0 l
  | x :: r, d0, e, h => by
    rcases List.mem_cons.1 h with rfl | h
    · exact Nat.le_trans (Nat.le_max_right _ _) (le_dmax0 (l := r))
    · exact le_dmax (l := r) h

/-- The depths of the parts below k. -/
def dps (down : Nat → List (Int × Int × Int)) : Nat → Nat → Nat
  | 0 => fun _ => 0
  | k + 1 => upf (dps down k) k (dmax (dps down k) 0 (down k))
theorem dps_stable (down : Nat → List (Int × Int × Int)) {k u : Nat} (h : u < k) : dps down k u = dmax (dps down u) 0 (down u) := by
  induction k with
  | zero => omega
  | succ k ih =>
    by_cases e : u = k
    · subst e; rw [dps, upf_same]
    · rw [dps, upf_ne _ _ e, ih (by omega)]
theorem dps_zero (down : Nat → List (Int × Int × Int)) {k u : Nat} (h : k ≤ u) : dps down k u = 0 := by
  induction k with
  | zero => rfl
  | succ k ih => rw [dps, upf_ne _ _ (by omega), ih (by omega)]
theorem dps_bound (down : Nat → List (Int × Int × Int)) (hd : ∀ p, ∀ x ∈ down p, x.2.1.toNat < p ∧ x.2.2.toNat ≤ 1048576) (k u : Nat) : dps down k u ≤ u * 1048576 := by
  induction u using Nat.strongRecOn generalizing k with
  | ind u ih =>
    rcases Nat.lt_or_ge u k with h | h
    · rw [dps_stable down h]
      refine dmax_le (by omega) (fun x hx => ?_)
      obtain ⟨h1, h2⟩ := hd u x hx
      have h3 := ih _ h1 u
      have h4 : (x.2.1.toNat + 1) * 1048576 ≤ u * 1048576 := Nat.mul_le_mul_right _ h1
      rw [Nat.succ_mul] at h4
      exact Nat.le_trans (Nat.add_le_add h3 h2) h4
    · rw [dps_zero down h]; omega

/-- The depths of a graph: the least numbers that fall by each edge's weight. -/
structure IsDepth (n : Nat) (E : List (Int × Int × Int)) (D : Nat → Nat) : Prop where
  fall : ∀ e ∈ E, D e.2.1.toNat + e.2.2.toNat ≤ D e.1.toNat
  least : ∀ F : Nat → Nat, (∀ e ∈ E, F e.2.1.toNat + e.2.2.toNat ≤ F e.1.toNat) → ∀ u, u < n → D u ≤ F u
theorem IsDepth.same {n : Nat} {E : List (Int × Int × Int)} {D F : Nat → Nat} (h : IsDepth n E D) (k : IsDepth n E F) {u : Nat} (hu : u < n) : D u = F u :=
  Nat.le_antisymm (h.least F k.fall u hu) (k.least D h.fall u hu)

theorem okE_parts {n : Nat} {e : Int × Int × Int} (h : okE (n : Int) e = true) : ∃ f t g : Nat, e = ((f : Int), (t : Int), (g : Int)) ∧ f < n ∧ t < n ∧ g ≤ 1048576 := by
  obtain ⟨a, b, c⟩ := e
  have h : 0 ≤ a ∧ a < n ∧ 0 ≤ b ∧ b < n ∧ 0 ≤ c ∧ c ≤ 1048576 := of_decide_eq_true h
  exact ⟨a.toNat, b.toNat, c.toNat, by congr 1; omega; congr 1 <;> omega, by omega, by omega, by omega⟩
theorem adj_mem {n : Nat} {E : List (Int × Int × Int)} (hE : ∀ e ∈ E, okE (n : Int) e = true) {u t : Nat} : t ∈ adjOf E false u ↔ ∃ e ∈ E, e.1.toNat = u ∧ e.2.1.toNat = t := by
  rw [adjOf, List.mem_filterMap]
  constructor
  · rintro ⟨e, he, h⟩
    obtain ⟨f, t', g, rfl, _⟩ := okE_parts (hE e he)
    simp only [Bool.false_eq_true, if_false, Int.toNat_natCast] at h
    split at h
    · injection h with h
      exact ⟨_, he, by simpa using by omega, by simpa using h⟩
    · cases h
  · rintro ⟨e, he, rfl, rfl⟩
    obtain ⟨f, t', g, rfl, _⟩ := okE_parts (hE e he)
    exact ⟨_, he, by simp⟩
theorem fall_rs {n : Nat} {E : List (Int × Int × Int)} (hE : ∀ e ∈ E, okE (n : Int) e = true) {F : Nat → Nat} (hF : ∀ e ∈ E, F e.2.1.toNat + e.2.2.toNat ≤ F e.1.toNat) {u v : Nat} (h : Rs (adjOf E false) u v) : F v ≤ F u := by
  induction h with
  | refl => exact Nat.le_refl _
  | step h1 _ ih =>
    obtain ⟨e, he, rfl, rfl⟩ := (adj_mem hE).1 h1
    have := hF e he
    omega
section
variable {n al : Nat} {E : List (Int × Int × Int)} {part : Nat → Nat}
theorem down_ok (hP : Parts n (adjOf E false) part al) (hE : ∀ e ∈ E, okE (n : Int) e = true) (p : Nat) : ∀ x ∈ downOf part E p, x.2.1.toNat < p ∧ x.2.2.toNat ≤ 1048576 := fun x hx => by
  obtain ⟨e, he, h1, h2, rfl⟩ := downOf_mem hx
  obtain ⟨f, t, g, rfl, hf, ht, hg⟩ := okE_parts (hE e he)
  have h3 := (hP.le f hf t ((adj_mem hE).2 ⟨_, he, by simp, by simp⟩)).2
  simp only [Int.toNat_natCast] at h1 h2 ⊢
  exact ⟨by omega, hg⟩
/-- What the program lays out is the depths. -/
theorem depth_is (hP : Parts n (adjOf E false) part al) (hE : ∀ e ∈ E, okE (n : Int) e = true) (hb : ∀ e ∈ E, part e.1.toNat = part e.2.1.toNat → e.2.2.toNat = 0) :
    IsDepth n E (fun u => dps (downOf part E) al (part u)) := by
  have hd := down_ok hP hE
  have hst : ∀ u, u < n → dps (downOf part E) al (part u) = dmax (dps (downOf part E) (part u)) 0 (downOf part E (part u)) := fun u hu => dps_stable _ (hP.lt u hu)
  have hlow : ∀ p b, p < al → b < p → dps (downOf part E) p b = dps (downOf part E) al b := fun p b hp hb => by rw [dps_stable _ hb, dps_stable _ (by omega)]
  refine ⟨fun e he => ?_, fun F hF => ?_⟩
  · obtain ⟨f, t, g, rfl, hf, ht, hg⟩ := okE_parts (hE e he)
    simp only [Int.toNat_natCast]
    have hle := (hP.le f hf t ((adj_mem hE).2 ⟨_, he, by simp, by simp⟩)).2
    by_cases e2 : part f = part t
    · have := hb _ he (by simpa using e2)
      simp only [Int.toNat_natCast] at this
      rw [e2, this]
      omega
    · have hm := mem_downOf (part := part) he (by simpa using e2)
      simp only [Int.toNat_natCast] at hm
      have := le_dmax (dp := dps (downOf part E) (part f)) (d0 := 0) hm
      simp only [Int.toNat_natCast] at this
      rw [hlow _ _ (hP.lt f hf) (by omega)] at this
      rw [hst f hf]
      exact this
  · have key : ∀ k u, u < n → part u = k → dps (downOf part E) al k ≤ F u := by
      intro k
      induction k using Nat.strongRecOn with
      | ind k ih =>
        intro u hu hk
        subst hk
        rw [hst u hu]
        refine dmax_le (by omega) (fun x hx => ?_)
        obtain ⟨e, he, h1, h2, rfl⟩ := downOf_mem hx
        have hlt := (hd _ _ hx).1
        obtain ⟨f, t, g, rfl, hf, ht, hg⟩ := okE_parts (hE e he)
        simp only [Int.toNat_natCast] at h1 h2 hlt ⊢
        rw [hlow _ _ (hP.lt u hu) hlt]
        have i1 := ih _ hlt t ht rfl
        have i2 := hF _ he
        have i3 := fall_rs hE hF (hP.same u f hu hf h1.symm)
        simp only [Int.toNat_natCast] at i2
        omega
    exact fun u hu => key _ u hu rfl
/-- A way of one edge or more. -/
def Way (adj : Nat → List Nat) (u v : Nat) : Prop := ∃ t ∈ adj u, Rs adj t v
theorem le_rs (hP : Parts n (adjOf E false) part al) {u v : Nat} (h : Rs (adjOf E false) u v) (hu : u < n) : v < n ∧ part v ≤ part u := by
  induction h with
  | refl => exact ⟨hu, Nat.le_refl _⟩
  | step h1 _ ih =>
    obtain ⟨h2, h3⟩ := hP.le _ hu _ h1
    obtain ⟨h4, h5⟩ := ih h2
    exact ⟨h4, by omega⟩
/-- Does a weight stand on a round? -/
theorem bad_iff (hP : Parts n (adjOf E false) part al) (hE : ∀ e ∈ E, okE (n : Int) e = true) {e : Int × Int × Int} (he : e ∈ E) :
    part e.1.toNat = part e.2.1.toNat ↔ (e.1 = e.2.1 ∨ Way (adjOf E false) e.2.1.toNat e.1.toNat) := by
  obtain ⟨f, t, g, rfl, hf, ht, hg⟩ := okE_parts (hE e he)
  simp only [Int.toNat_natCast]
  have hle := (hP.le f hf t ((adj_mem hE).2 ⟨_, he, by simp, by simp⟩)).2
  constructor
  · intro h
    by_cases e2 : f = t
    · exact .inl (by rw [e2])
    · have hr := hP.same t f ht hf h.symm
      cases hr with
      | refl => exact absurd rfl e2
      | step h1 h2 => exact .inr ⟨_, h1, h2⟩
  · rintro (h | ⟨z, h1, h2⟩)
    · have : f = t := by omega
      rw [this]
    · have := (le_rs hP (.step h1 h2) ht).2
      omega
end
end Go.Proofs.Ytmcpbmadjpjckaa
