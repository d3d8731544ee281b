/-
  No page is the front of another page of as many rows; a page's length; plain Lean.
-/
import Derived.Test.YteambdbcjcfdeaaColDec2
namespace Go.Proofs.Yteambdbcjcfdeaa
open Go.RowKit

theorem form_split {n m : Nat} (hn : n < U64) (hm : m < U64) {X Y : List UInt8} (h : form n ++ X = form m ++ Y) : n = m ∧ X = Y := by
  have h1 := get_form n hn X
  rw [h, get_form m hm Y] at h1
  injection h1 with h1 _
  subst h1
  exact ⟨rfl, List.append_cancel_left h⟩
theorem forms_prefix : ∀ (l2 l1 : List Nat) (t : List UInt8), (∀ x ∈ l1, x < U64) → (∀ x ∈ l2, x < U64) → forms l1 = forms l2 ++ t → ∃ l', l1 = l2 ++ l' ∧ forms l' = t
  | [], l1, t, _, _, h => ⟨l1, rfl, h⟩
  | b :: l2, [], t, _, _, h => by
    exfalso
    have h1 := congrArg List.length h
    have := (form_len b).1
    simp [forms] at h1
    omega
  | b :: l2, a :: l1, t, h1, h2, h => by
    simp only [forms, List.flatMap_cons, List.append_assoc] at h
    obtain ⟨rfl, h'⟩ := form_split (h1 a (by simp)) (h2 b (by simp)) h
    obtain ⟨l', rfl, ht⟩ := forms_prefix l2 l1 t (fun x hx => h1 x (by simp [hx])) (fun x hx => h2 x (by simp [hx])) h'
    exact ⟨l', rfl, ht⟩
theorem plain_forms (c : List UInt32) : plainS c = forms (c.map UInt32.toNat) := by simp [plainS, forms, List.flatMap_map]
theorem delta_forms (c : List UInt32) : ∀ k, deltaTo c k = forms ((List.range k).map (stepAt c))
  | 0 => rfl
  | k + 1 => by rw [List.range_succ, List.map_append, List.map_cons, List.map_nil, forms_snoc, ← delta_forms c k]; rfl
theorem forms_front {l1 l2 : List Nat} {t : List UInt8} (h1 : ∀ x ∈ l1, x < U64) (h2 : ∀ x ∈ l2, x < U64) (h : forms l1 = forms l2 ++ t) (hl : l1.length = l2.length) : t = [] := by
  obtain ⟨l', rfl, ht⟩ := forms_prefix l2 l1 t h1 h2 h
  have : l' = [] := by rw [List.length_append] at hl; exact List.length_eq_zero_iff.1 (by omega)
  rw [← ht, this]
  rfl
theorem plain_front {c1 c2 : List UInt32} {t : List UInt8} (h : plainS c1 = plainS c2 ++ t) (hl : c1.length = c2.length) : t = [] := by
  rw [plain_forms, plain_forms] at h
  have hb : ∀ c : List UInt32, ∀ x ∈ c.map UInt32.toNat, x < U64 := fun c x hx => by
    obtain ⟨y, _, rfl⟩ := List.mem_map.1 hx
    have := u32_lt y
    unfold U64
    omega
  exact forms_front (hb c1) (hb c2) h (by simpa using hl)
theorem delta_front {c1 c2 : List UInt32} {t : List UInt8} (h : deltaS c1 = deltaS c2 ++ t) (hl : c1.length = c2.length) : t = [] := by
  rw [deltaS, deltaS, delta_forms, delta_forms] at h
  have hb : ∀ (c : List UInt32) k, ∀ x ∈ (List.range k).map (stepAt c), x < U64 := fun c k x hx => by
    obtain ⟨y, _, rfl⟩ := List.mem_map.1 hx
    exact stepAt_lt c y
  exact forms_front (hb c1 _) (hb c2 _) h (by simpa using hl)
theorem runBs_prefix : ∀ (ys xs : List (UInt32 × Nat)) (t : List UInt8), (∀ p ∈ xs, p.2 < U64) → (∀ p ∈ ys, p.2 < U64) → runBs xs = runBs ys ++ t → ∃ zs, xs = ys ++ zs ∧ runBs zs = t
  | [], xs, t, _, _, h => ⟨xs, rfl, h⟩
  | b :: ys, [], t, _, _, h => by
    exfalso
    have h1 := congrArg List.length h
    have := (form_len b.1.toNat).1
    simp [runBs] at h1
    omega
  | b :: ys, a :: xs, t, h1, h2, h => by
    simp only [runBs, List.flatMap_cons, List.append_assoc] at h
    have hu : ∀ x : UInt32, x.toNat < U64 := fun x => by have := u32_lt x; unfold U64; omega
    obtain ⟨e1, h'⟩ := form_split (hu a.1) (hu b.1) h
    obtain ⟨e2, hq⟩ := form_split (h1 a (by simp)) (h2 b (by simp)) h'
    have hab : a = b := Prod.ext (UInt32.toNat_inj.1 e1) e2
    subst hab
    obtain ⟨zs, rfl, ht⟩ := runBs_prefix ys xs t (fun x hx => h1 x (by simp [hx])) (fun x hx => h2 x (by simp [hx])) hq
    exact ⟨zs, rfl, ht⟩
theorem expand_mem {xs : List (UInt32 × Nat)} {p : UInt32 × Nat} (h : p ∈ xs) : p.2 ≤ (expand xs).length := by
  obtain ⟨a, b, rfl⟩ := List.append_of_mem h
  simp only [expand, List.flatMap_append, List.flatMap_cons, List.length_append, List.length_replicate]
  omega
theorem runsF_pos : ∀ (f : Nat) (c : List UInt32), ∀ p ∈ runsF f c, 1 ≤ p.2
  | 0, c, p, h => by cases h
  | f + 1, [], p, h => by cases h
  | f + 1, x :: r, p, h => by
    rw [runsF] at h
    rcases List.mem_cons.1 h with rfl | h
    · show 1 ≤ _ + 1
      omega
    · exact runsF_pos f _ p h
theorem run_front {c1 c2 : List UInt32} {t : List UInt8} (h : runS c1 = runS c2 ++ t) (hl : c1.length = c2.length) (hn : c1.length ≤ 65536) : t = [] := by
  have hb : ∀ c : List UInt32, c.length ≤ 65536 → ∀ p ∈ runs c, p.2 < U64 := fun c hc p hp => by
    have := expand_mem hp
    rw [expand_runs] at this
    unfold U64
    omega
  rw [← runBs_runs, ← runBs_runs] at h
  obtain ⟨zs, hz, ht⟩ := runBs_prefix _ _ _ (hb c1 hn) (hb c2 (by omega)) h
  have h1 := congrArg (fun l => (expand l).length) hz
  simp only [expand_runs, expand_len] at h1
  cases zs with
  | nil => rw [← ht]; rfl
  | cons p zs =>
    exfalso
    have h2 := expand_mem (xs := p :: zs) (p := p) (by simp)
    have h3 : 1 ≤ p.2 := runsF_pos _ _ p (show p ∈ runs c1 by rw [hz]; simp)
    omega
theorem pack_front {c1 c2 : List UInt32} {t : List UInt8} (h : packS c1 = packS c2 ++ t) (hl : c1.length = c2.length) : t = [] := by
  have h1 := congrArg List.length h
  rw [List.length_append, packS_len, packS_len] at h1
  have h2 : UInt8.ofNat (wideS c1) = UInt8.ofNat (wideS c2) := by
    rw [packS, packS, List.cons_append] at h
    injection h
  have h3 := congrArg UInt8.toNat h2
  have w1 := wide_le c1
  have w2 := wide_le c2
  rw [UInt8.toNat_ofNat', UInt8.toNat_ofNat', Nat.mod_eq_of_lt (by omega), Nat.mod_eq_of_lt (by omega)] at h3
  rw [h3, hl] at h1
  exact List.length_eq_zero_iff.1 (by omega)
theorem page_front {c1 c2 : List UInt32} {t : List UInt8} (h : pageS c1 = pageS c2 ++ t) (hl : c1.length = c2.length) (hn : c1.length ≤ 65536) : t = [] := by
  rw [show pageS c2 = UInt8.ofNat (wayS c2) :: laidS (wayS c2) c2 from rfl, List.cons_append] at h
  have hr := wayS_range c2
  have h2 := (page_of hr h).2
  rcases (show wayS c2 = 1 ∨ wayS c2 = 2 ∨ wayS c2 = 3 ∨ wayS c2 = 4 by omega) with e | e | e | e <;> rw [e] at h2
  · exact plain_front h2 hl
  · exact delta_front h2 hl
  · exact run_front h2 hl hn
  · exact pack_front h2 hl
theorem page_len (c : List UInt32) : (pageS c).length ≤ 5 * c.length + 1 := by
  have h1 := plainS_len c
  rw [pageS, List.length_cons]
  have : (laidS (wayS c) c).length ≤ (plainS c).length := by
    unfold wayS wayOf laidS
    by_cases g1 : (plainS c).length ≤ (deltaS c).length ∧ (plainS c).length ≤ (runS c).length ∧ (plainS c).length ≤ (packS c).length
    · simp [g1]
    · by_cases g2 : (deltaS c).length ≤ (runS c).length ∧ (deltaS c).length ≤ (packS c).length
      · simp [g1, g2]
        omega
      · by_cases g3 : (runS c).length ≤ (packS c).length
        · simp [g1, g2, g3]
          omega
        · simp [g1, g2, g3]
          omega
  omega
theorem page_nil_only {c : List UInt32} (h : pageS c = [1]) : c = [] := by
  have h2 := (page_of (y := 1) (bs := []) (by decide) h).2
  cases c with
  | nil => rfl
  | cons x r =>
    exfalso
    have h3 := congrArg List.length (show plainS (x :: r) = [] from h2)
    have := (form_len x.toNat).1
    simp only [plainS, List.flatMap_cons, List.length_append, List.length_nil] at h3
    omega
theorem front_none {c c2 : List UInt32} {K : Nat} (hK : K < (pageS c).length) (hl : c2.length = c.length) (hn : c.length ≤ 65536) : pageS c2 ≠ (pageS c).take K := by
  intro e
  have h1 : pageS c = pageS c2 ++ (pageS c).drop K := by rw [e, List.take_append_drop]
  have h2 := congrArg List.length (page_front h1 hl.symm hn)
  simp at h2
  omega
theorem more_none {c c2 : List UInt32} {x : UInt8} (hl : c2.length = c.length) (hn : c.length ≤ 65536) : pageS c2 ≠ pageS c ++ [x] := by
  intro e
  have := page_front e hl (by omega)
  cases this
end Go.Proofs.Yteambdbcjcfdeaa
