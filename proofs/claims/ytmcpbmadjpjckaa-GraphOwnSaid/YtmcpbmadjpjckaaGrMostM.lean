/-
  Plain law of GraphMost: great graphs of few edges. No program in sight.
-/
import Derived.Test.YtmcpbmadjpjckaaGrTells3
namespace Go.Proofs.Ytmcpbmadjpjckaa
open Go.RowKit

section
variable {N al : Nat} {part : Nat → Nat} {E : List (Int × Int × Int)} {os : List Nat}
theorem rs_none {u v : Nat} (h : Rs (adjOf [] false) u v) : u = v := by
  cases h with
  | refl => rfl
  | step h1 _ => simp [adjOf] at h1
theorem inj_none (hP : Parts N (adjOf [] false) part al) : Inj N part := fun u v hu hv e => rs_none (hP.same u v hu hv e)
theorem rs_one {z t : Nat} {g : Int} (hz : t ≠ z) {u v : Nat} (h : Rs (adjOf [((z : Int), (t : Int), g)] false) u v) : u = v ∨ (u = z ∧ v = t) := by
  have hadj : ∀ a b, b ∈ adjOf [((z : Int), (t : Int), g)] false a → a = z ∧ b = t := fun a b hb => by
    rw [adjOf, List.mem_filterMap] at hb
    obtain ⟨e, he, h⟩ := hb
    simp only [List.mem_singleton] at he
    subst he
    simp only [Bool.false_eq_true, if_false, Int.natCast_inj, Int.toNat_natCast] at h
    split at h
    · injection h with h; omega
    · cases h
  cases h with
  | refl => exact .inl rfl
  | step h1 h2 =>
    obtain ⟨rfl, rfl⟩ := hadj _ _ h1
    cases h2 with
    | refl => exact .inr ⟨rfl, rfl⟩
    | step h3 _ => exact absurd (hadj _ _ h3).1 hz
theorem inj_one {z t : Nat} {g : Int} (hz : t ≠ z) (hP : Parts N (adjOf [((z : Int), (t : Int), g)] false) part al) : Inj N part := fun u v hu hv e => by
  have h1 := rs_one hz (hP.same u v hu hv e)
  have h2 := rs_one hz (hP.same v u hv hu e.symm)
  omega
theorem nds_inj (h : Inj N part) {u : Nat} (hu : u < N) : nds part N (part u) = [u] := by
  have h1 := two_of h (part u)
  have h2 : u ∈ nds part N (part u) := nds_mem.2 ⟨hu, rfl⟩
  match hl : nds part N (part u), h1, h2 with
  | [a], _, h2 => simp at h2; rw [h2]
  | a :: b :: r, h1, _ => simp at h1
theorem fst_inj (h : Inj N part) {u : Nat} (hu : u < N) : fstN part N (part u) = u := by
  unfold fstN
  rw [nds_inj h hu]
  rfl
/-- Where each next part is the least free one, they stand so. -/
theorem os_lin (hi : Inj N part) (hP : Parts N (adjOf E false) part al) (hs : ∀ p, p < al → ∃ u, u < N ∧ part u = p) (hp : PSpec part E al (fstN part N) os) (ha : ∀ p, p < al → p ∈ os) (f : Nat → Nat) (hf : ∀ k, k < N → f k < N) (hfi : ∀ j k, j < N → k < N → f j = f k → j = k)
    (h1 : ∀ k, k < N → wts part E ((List.range k).map fun j => part (f j)) (part (f k)) = 0)
    (h2 : ∀ k v, k < N → v < N → (∀ j, j < k → f j ≠ v) → wts part E ((List.range k).map fun j => part (f j)) (part v) = 0 → f k ≤ v) :
    os.length = N ∧ ∀ k, k < N → os[k]? = some (part (f k)) := by
  have hal := inj_al hP hi
  have hlen : os.length = N := by rw [os_len hp ha, hal]
  have key : ∀ k, k ≤ N → os.take k = (List.range k).map fun j => part (f j) := by
    intro k
    induction k with
    | zero => intro _; simp
    | succ k ih =>
      intro hk
      have ih := ih (by omega)
      obtain ⟨p, hpk⟩ : ∃ p, os[k]? = some p := ⟨_, List.getElem?_eq_getElem (by omega)⟩
      have hpa := hp.lt p (List.mem_of_getElem? hpk)
      obtain ⟨v, hv, rfl⟩ := hs p hpa
      have hno : ∀ j, j < k → f j ≠ v := fun j hj e => by
        have hm : part v ∈ os.take k := by
          rw [ih]
          exact List.mem_map.2 ⟨j, List.mem_range.2 hj, by rw [e]⟩
        have := idx_take hp.nodup hm
        rw [idx_at hp.nodup hpk] at this
        omega
      have hle := h2 k v (by omega) hv hno (by rw [← ih]; exact hp.free k _ hpk)
      have hge := hp.greedy k _ hpk (part (f k)) (hP.lt _ (hf k (by omega))) (fun hm => by
        rw [ih] at hm
        obtain ⟨j, hj, e⟩ := List.mem_map.1 hm
        have hj := List.mem_range.1 hj
        have := hfi j k (by omega) (by omega) (hi _ _ (hf j (by omega)) (hf k (by omega)) e)
        omega) (by rw [ih]; exact h1 k (by omega))
      rw [fst_inj hi hv, fst_inj hi (hf k (by omega))] at hge
      obtain rfl : v = f k := by omega
      rw [List.take_add_one, hpk, ih, List.range_succ, List.map_append]
      rfl
  refine ⟨hlen, fun k hk => ?_⟩
  have h := key (k + 1) (by omega)
  have h3 : (os.take (k + 1))[k]? = some (part (f k)) := by
    rw [h, List.getElem?_map, List.getElem?_range (by omega)]
    rfl
  rw [List.getElem?_take, if_pos (by omega)] at h3
  exact h3
theorem os_none (hP : Parts N (adjOf [] false) part al) (hs : ∀ p, p < al → ∃ u, u < N ∧ part u = p) (hp : PSpec part [] al (fstN part N) os) (ha : ∀ p, p < al → p ∈ os) : os.length = N ∧ ∀ k, k < N → os[k]? = some (part k) :=
  os_lin (inj_none hP) hP hs hp ha (fun k => k) (fun _ h => h) (fun _ _ _ _ h => h) (fun _ _ => rfl) (fun _ v _ _ h _ => Nat.le_of_not_lt fun c => h v c rfl)
theorem os_one {z : Nat} (hz : z + 1 = N) (hz0 : 0 < z) (hP : Parts N (adjOf [(((0 : Nat) : Int), ((z : Nat) : Int), (0 : Int))] false) part al) (hs : ∀ p, p < al → ∃ u, u < N ∧ part u = p) (hp : PSpec part [(((0 : Nat) : Int), ((z : Nat) : Int), (0 : Int))] al (fstN part N) os) (ha : ∀ p, p < al → p ∈ os) :
    os.length = N ∧ ∀ k, k < N → os[k]? = some (part (if k = z then 0 else k + 1)) := by
  have hi := inj_one (z := 0) (t := z) (by omega) hP
  have hw : ∀ (l : List Nat) (v : Nat), v < N → (wts part [(((0 : Nat) : Int), ((z : Nat) : Int), (0 : Int))] l (part v) = 0 ↔ (v = 0 → part z ∈ l)) := fun l v hv => by
    rw [wts_zero]
    constructor
    · intro h e
      subst e
      refine h _ (List.mem_singleton.2 rfl) rfl (fun e => ?_)
      have := hi z 0 (by omega) (by omega) e
      omega
    · intro h e he h1 h2
      rw [List.mem_singleton] at he
      subst he
      exact h (hi 0 v (by omega) hv h1).symm
  refine os_lin hi hP hs hp ha (fun k => if k = z then 0 else k + 1) (fun k hk => ?_) (fun j k hj hk e => ?_) (fun k hk => ?_) (fun k v _ hv hno h => ?_)
  · show (if k = z then 0 else k + 1) < N
    split <;> omega
  · have e : (if j = z then 0 else j + 1) = (if k = z then 0 else k + 1) := e
    split at e <;> split at e <;> omega
  · refine (hw _ _ (by split <;> omega)).2 fun e => ?_
    have hk : k = z := by
      split at e
      · assumption
      · omega
    subst hk
    exact List.mem_map.2 ⟨k - 1, List.mem_range.2 (by omega), by rw [if_neg (by omega)]; congr 1; omega⟩
  · have h := (hw _ v hv).1 h
    show (if k = z then 0 else k + 1) ≤ v
    split
    · omega
    · rename_i hkz
      refine Nat.le_of_not_lt fun c => ?_
      by_cases hv0 : v = 0
      · obtain ⟨j, hj, e⟩ := List.mem_map.1 (h hv0)
        have hj := List.mem_range.1 hj
        rw [if_neg (by omega)] at e
        have := hi (j + 1) z (by omega) (by omega) e
        omega
      · refine hno (v - 1) (by omega) ?_
        show (if v - 1 = z then 0 else v - 1 + 1) = v
        rw [if_neg (by omega)]
        omega
theorem flat_at (hi : Inj N part) {l : List Nat} {k u : Nat} (hl : ∀ p ∈ l, ∃ v, v < N ∧ part v = p) (h : l[k]? = some (part u)) (hu : u < N) : (l.flatMap (nds part N))[k]? = some u := by
  induction l generalizing k with
  | nil => simp at h
  | cons p r ih =>
    obtain ⟨v, hv, rfl⟩ := hl p (by simp)
    rw [List.flatMap_cons, nds_inj hi hv]
    cases k with
    | zero =>
      simp only [List.getElem?_cons_zero, Option.some.injEq] at h
      have := hi v u hv hu h
      simp [this]
    | succ k =>
      rw [List.getElem?_cons_succ] at h
      have := ih (fun q hq => hl q (by simp [hq])) h
      simpa using this
end
/-- Depths along one edge from the last to the first. -/
theorem isd_one {N z : Nat} (hz : z ≠ 0) (g : Nat) : IsDepth N [((z : Int), ((0 : Nat) : Int), (g : Int))] (fun u => if u = z then g else 0) := by
  refine ⟨fun e he => ?_, fun F hF u _ => ?_⟩
  · rw [List.mem_singleton] at he
    subst he
    simp only [Int.toNat_natCast, if_true]
    rw [if_neg (by omega)]
    omega
  · have h := hF _ (List.mem_singleton.2 rfl)
    simp only [Int.toNat_natCast] at h
    show (if u = z then g else 0) ≤ F u
    split
    · rename_i e
      rw [e]
      omega
    · omega
/-- Where all edges weigh nothing depths are nothing. -/
theorem isd_zero {N : Nat} {E : List (Int × Int × Int)} (h : ∀ e ∈ E, e = (0, 0, 0)) : IsDepth N E (fun _ => 0) :=
  ⟨fun e he => by rw [h e he]; decide, fun _ _ _ _ => Nat.zero_le _⟩
theorem pw_two {l : List Nat} (hp : l.Pairwise (· < ·)) {a b : Nat} (hab : a < b) (h : ∀ x, x ∈ l ↔ x = a ∨ x = b) : l = [a, b] := by
  match l, hp, h with
  | [], _, h => have := (h a).2 (.inl rfl); simp at this
  | [x], _, h =>
    have h1 := (h a).2 (.inl rfl)
    have h2 := (h b).2 (.inr rfl)
    simp at h1 h2
    omega
  | [x, y], hp, h =>
    have hxy : x < y := by simpa using hp
    have h1 := (h x).1 (by simp)
    have h2 := (h y).1 (by simp)
    have e1 : x = a := by omega
    have e2 : y = b := by omega
    rw [e1, e2]
  | x :: y :: w :: r, hp, h =>
    have h1 := (h x).1 (by simp)
    have h2 := (h y).1 (by simp)
    have h3 := (h w).1 (by simp)
    have hxy := (List.pairwise_cons.1 hp).1 y (by simp)
    have hyw := (List.pairwise_cons.1 (List.pairwise_cons.1 hp).2).1 w (by simp)
    omega
/-- From the last an edge leads to another: what is reached is these two. -/
theorem rch_two {N z t : Nat} {g : Int} (hz : z < N) (ht : t < z) : rchL N (adjOf [((z : Int), (t : Int), g)] false) [z] = [t, z] := by
  refine pw_two (List.Pairwise.filter _ List.pairwise_lt_range) ht fun x => ?_
  rw [List.mem_filter, List.mem_range]
  have hB : rchB (adjOf [((z : Int), (t : Int), g)] false) [z] x = true ↔ ∃ s ∈ [z], Rs (adjOf [((z : Int), (t : Int), g)] false) s x := by
    unfold rchB
    simp
  rw [hB]
  constructor
  · rintro ⟨_, s, hs, hr⟩
    rw [List.mem_singleton] at hs
    subst hs
    rcases rs_one (by omega) hr with h | h <;> omega
  · rintro (rfl | rfl)
    · refine ⟨by omega, z, List.mem_singleton.2 rfl, .step ?_ (.refl _)⟩
      rw [adjOf, List.mem_filterMap]
      exact ⟨_, List.mem_singleton.2 rfl, by simp⟩
    · exact ⟨hz, _, List.mem_singleton.2 rfl, .refl _⟩
theorem chk_good {n : Int} {E : List (Int × Int × Int)} (h1 : n ≤ 65536) (h2 : E.length ≤ 1048576) (h3 : 0 ≤ n) (h4 : ∀ e ∈ E, okE n e = true) : chkS n E = 0 := by
  unfold chkS
  rw [if_neg (by omega), if_neg]
  rintro (h | ⟨e, he, h⟩)
  · omega
  · rw [h4 e he] at h; cases h
theorem chk_long {n : Int} {E : List (Int × Int × Int)} (h : 65536 < n ∨ 1048576 < E.length) : chkS n E = 3 := by
  unfold chkS
  rw [if_pos h]
end Go.Proofs.Ytmcpbmadjpjckaa
