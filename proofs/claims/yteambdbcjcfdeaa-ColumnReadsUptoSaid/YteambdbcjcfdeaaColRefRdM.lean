/-
  The document's reading of a column, way by way: what a list of numbers says of the columns that lie so. Plain law.
-/
import Derived.Test.YteambdbcjcfdeaaColRefNum
import Derived.Test.YteambdbcjcfdeaaColDec2
namespace Go.Proofs.Yteambdbcjcfdeaa
open Go.RowKit

def numsA (c : List UInt32) : List Nat := c.map UInt32.toNat
def numsB (c : List UInt32) : List Nat := (List.range c.length).map (stepAt c)
def numsP (r : List (UInt32 × Nat)) : List Nat := r.flatMap fun p => [p.1.toNat, p.2]
def numsC (c : List UInt32) : List Nat := numsP (runs c)
theorem numsA_lay (c : List UInt32) : plainS c = forms (numsA c) := plain_forms c
theorem numsB_lay (c : List UInt32) : deltaS c = forms (numsB c) := delta_forms c c.length
theorem numsP_lay (r : List (UInt32 × Nat)) : runBs r = forms (numsP r) := by
  induction r with
  | nil => rfl
  | cons p r ih =>
    rw [runBs, List.flatMap_cons, numsP, List.flatMap_cons]
    show _ ++ runBs r = forms ([p.1.toNat, p.2] ++ numsP r)
    rw [ih]
    simp [forms]
theorem numsC_lay (c : List UInt32) : runS c = forms (numsC c) := by rw [← runBs_runs]; exact numsP_lay (runs c)
theorem numsA_lt (c : List UInt32) : ∀ x ∈ numsA c, x < U64 := fun x hx => by
  obtain ⟨y, _, rfl⟩ := List.mem_map.1 hx
  have := u32_lt y
  unfold U64
  omega
theorem numsB_lt (c : List UInt32) : ∀ x ∈ numsB c, x < U64 := fun x hx => by
  obtain ⟨y, _, rfl⟩ := List.mem_map.1 hx
  exact stepAt_lt c y
theorem runs_many (c : List UInt32) : ∀ p ∈ runs c, p.2 ≤ c.length := fun p hp => by
  have h := congrArg List.length (expand_runs c)
  obtain ⟨a, b, e⟩ := List.append_of_mem hp
  rw [e, expand_len] at h
  have : (expand (p :: b)).length = p.2 + (expand b).length := by simp [expand]
  omega
theorem numsC_lt (c : List UInt32) (hc : c.length ≤ 65536) : ∀ x ∈ numsC c, x < U64 := fun x hx => by
  rw [numsC, numsP, List.mem_flatMap] at hx
  obtain ⟨p, hp, hx⟩ := hx
  have h1 := runs_many c p hp
  have h2 := u32_lt p.1
  unfold U64
  simp at hx
  omega
/-- Where the reading of a plain column stands. -/
def FitA (l : List Nat) (rows i : Nat) (acc : List UInt32) : Prop := ∀ c, numsA c = l → c.length = rows → acc = c.take i
def FitB (l : List Nat) (rows i : Nat) (acc : List UInt32) : Prop := ∀ c, numsB c = l → c.length = rows → acc = c.take i
def FitC (l : List Nat) (rows i : Nat) (acc : List UInt32) : Prop := ∀ c, numsC c = l → c.length = rows → ∃ pre post, runs c = pre ++ post ∧ l.drop i = numsP post ∧ acc = expand pre
theorem take_next {c : List UInt32} {i : Nat} {u : UInt32} (h : c[i]? = some u) : c.take (i + 1) = c.take i ++ [u] := by
  obtain ⟨hl, rfl⟩ := List.getElem?_eq_some_iff.1 h
  rw [List.take_succ_eq_append_getElem hl]
theorem fitA_next {l : List Nat} {rows i x : Nat} {acc : List UInt32} (h : FitA l rows i acc) (hx : l[i]? = some x) :
    (∀ c, numsA c = l → c.length = rows → x < 4294967296 ∧ i < rows) ∧ (∀ u : UInt32, u.toNat = x → FitA l rows (i + 1) (acc ++ [u])) := by
  have key : ∀ c, numsA c = l → c.length = rows → ∃ u, c[i]? = some u ∧ u.toNat = x := fun c h1 h2 => by
    rw [← h1, numsA, List.getElem?_map] at hx
    obtain ⟨u, hu, rfl⟩ := Option.map_eq_some_iff.1 hx
    exact ⟨u, hu, rfl⟩
  refine ⟨fun c h1 h2 => ?_, fun u hu c h1 h2 => ?_⟩
  · obtain ⟨v, hv, hvx⟩ := key c h1 h2
    have := u32_lt v
    obtain ⟨hl, _⟩ := List.getElem?_eq_some_iff.1 hv
    omega
  · obtain ⟨v, hv, hvx⟩ := key c h1 h2
    have : u = v := UInt32.toNat_inj.1 (by omega)
    subst this
    rw [take_next hv, h c h1 h2]
theorem fitB_next {l : List Nat} {rows i x : Nat} {acc : List UInt32} (h : FitB l rows i acc) (hx : l[i]? = some x) :
    (∀ c, numsB c = l → c.length = rows → valD acc x < 4294967296 ∧ i < rows) ∧ (∀ u : UInt32, u.toNat = valD acc x → FitB l rows (i + 1) (acc ++ [u])) := by
  have key : ∀ c, numsB c = l → c.length = rows → ∃ u, c[i]? = some u ∧ u.toNat = valD acc x := fun c h1 h2 => by
    rw [← h1, numsB, List.getElem?_map] at hx
    obtain ⟨j, hj, rfl⟩ := Option.map_eq_some_iff.1 hx
    obtain ⟨hl, rfl⟩ := List.getElem?_eq_some_iff.1 hj
    rw [List.length_range] at hl
    rw [List.getElem_range, h c h1 h2, val_step hl]
    exact ⟨c.getD i 0, by rw [List.getD_eq_getElem?_getD, List.getElem?_eq_getElem hl]; rfl, rfl⟩
  refine ⟨fun c h1 h2 => ?_, fun u hu c h1 h2 => ?_⟩
  · obtain ⟨v, hv, hvx⟩ := key c h1 h2
    have := u32_lt v
    obtain ⟨hl, _⟩ := List.getElem?_eq_some_iff.1 hv
    omega
  · obtain ⟨v, hv, hvx⟩ := key c h1 h2
    have : u = v := UInt32.toNat_inj.1 (by omega)
    subst this
    rw [take_next hv, h c h1 h2]
theorem fitC_next {l : List Nat} {rows i x : Nat} {acc : List UInt32} (h : FitC l rows i acc) (hx : l[i]? = some x) :
    (∀ c, numsC c = l → c.length = rows → x < 4294967296 ∧ i + 1 < l.length) ∧ (∀ m, l[i + 1]? = some m → (∀ c, numsC c = l → c.length = rows → m ≤ rows - acc.length) ∧ (∀ u : UInt32, u.toNat = x → FitC l rows (i + 2) (acc ++ List.replicate m u))) := by
  have key : ∀ c, numsC c = l → c.length = rows → ∃ pre post u m, runs c = pre ++ (u, m) :: post ∧ u.toNat = x ∧ l[i + 1]? = some m ∧ l.drop (i + 2) = numsP post ∧ acc = expand pre ∧ m ≤ rows - acc.length := fun c h1 h2 => by
    obtain ⟨pre, post, e1, e2, e3⟩ := h c h1 h2
    have hd : (l.drop i)[0]? = some x := by rw [List.getElem?_drop]; exact hx
    cases post with
    | nil => rw [e2] at hd; cases hd
    | cons p post =>
      obtain ⟨u, m⟩ := p
      rw [show numsP ((u, m) :: post) = u.toNat :: m :: numsP post from rfl] at e2
      rw [e2] at hd
      have h1' : l[i + 1]? = some m := by
        have : (l.drop i)[1]? = some m := by rw [e2]; rfl
        rwa [List.getElem?_drop] at this
      have h2' : l.drop (i + 2) = numsP post := by
        rw [← List.drop_drop, e2]; rfl
      have hex := congrArg List.length (expand_runs c)
      rw [e1, expand_len] at hex
      have hq : (expand ((u, m) :: post)).length = m + (expand post).length := by simp [expand]
      refine ⟨pre, post, u, m, e1, by simpa using hd, h1', h2', e3, ?_⟩
      rw [e3]
      omega
  refine ⟨fun c h1 h2 => ?_, fun m hm => ⟨fun c h1 h2 => ?_, fun u hu c h1 h2 => ?_⟩⟩
  · obtain ⟨_, _, u, m, _, e, e2, _⟩ := key c h1 h2
    have := u32_lt u
    obtain ⟨hl, _⟩ := List.getElem?_eq_some_iff.1 e2
    exact ⟨by omega, hl⟩
  · obtain ⟨_, _, u, m', _, e, e2, _, _, e5⟩ := key c h1 h2
    rw [hm] at e2
    injection e2 with e2
    omega
  · obtain ⟨pre, post, v, m', e1, e, e2, e3, e4, _⟩ := key c h1 h2
    rw [hm] at e2
    injection e2 with e2
    have : u = v := UInt32.toNat_inj.1 (by omega)
    subst this
    subst e2
    exact ⟨pre ++ [(u, m)], post, by rw [e1, List.append_assoc]; rfl, e3, by rw [e4]; simp [expand]⟩
theorem fitA_done {l : List Nat} {rows i : Nat} {acc : List UInt32} (h : FitA l rows i acc) (hi : l.length ≤ i) : ∀ c, numsA c = l → c.length = rows → acc = c := fun c h1 h2 => by
  have : c.length = l.length := by rw [← h1, numsA, List.length_map]
  rw [h c h1 h2, List.take_of_length_le (by omega)]
theorem fitB_done {l : List Nat} {rows i : Nat} {acc : List UInt32} (h : FitB l rows i acc) (hi : l.length ≤ i) : ∀ c, numsB c = l → c.length = rows → acc = c := fun c h1 h2 => by
  have : c.length = l.length := by rw [← h1, numsB, List.length_map, List.length_range]
  rw [h c h1 h2, List.take_of_length_le (by omega)]
theorem fitC_done {l : List Nat} {rows i : Nat} {acc : List UInt32} (h : FitC l rows i acc) (hi : l.length ≤ i) : ∀ c, numsC c = l → c.length = rows → acc = c := fun c h1 h2 => by
  obtain ⟨pre, post, e1, e2, e3⟩ := h c h1 h2
  rw [List.drop_of_length_le hi] at e2
  cases post with
  | nil => rw [e3, ← expand_runs c, e1, List.append_nil]
  | cons p post => cases e2
end Go.Proofs.Yteambdbcjcfdeaa
