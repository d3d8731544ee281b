/-
  The search for the parts of a graph: what stands while it goes on, and what it finds. Plain law: no program in sight.
-/
import Derived.Test.YtmcpbmadjpjckaaWords
namespace Go.Proofs.Ytmcpbmadjpjckaa
open Go.RowKit

/-- A way of none or more edges. -/
inductive Rs (adj : Nat → List Nat) : Nat → Nat → Prop
  | refl (a : Nat) : Rs adj a a
  | step {a b c : Nat} : b ∈ adj a → Rs adj b c → Rs adj a c
theorem Rs.trans {adj : Nat → List Nat} {a b c : Nat} (h : Rs adj a b) (k : Rs adj b c) : Rs adj a c := by
  induction h with
  | refl => exact k
  | step h1 _ ih => exact .step h1 (ih k)
theorem Rs.tail {adj : Nat → List Nat} {a b c : Nat} (h : Rs adj a b) (k : c ∈ adj b) : Rs adj a c := h.trans (.step k (.refl _))
theorem Rs.one {adj : Nat → List Nat} {a b : Nat} (k : b ∈ adj a) : Rs adj a b := .step k (.refl _)

def upf {α : Type} (f : Nat → α) (k : Nat) (v : α) (i : Nat) : α := if i = k then v else f i
theorem upf_same {α : Type} (f : Nat → α) (k : Nat) (v : α) : upf f k v k = v := by simp [upf]
theorem upf_ne {α : Type} (f : Nat → α) {k i : Nat} (v : α) (h : i ≠ k) : upf f k v i = f i := by simp [upf, h]

/-- Where the search stands: of each node when it was met (0: not yet), the earliest it comes back to, its part if known; the open nodes, the way, each the oldest first. -/
structure TS where
  met : Nat → Nat
  low : Nat → Nat
  part : Nat → Option Nat
  opn : List Nat
  way : List (Nat × Nat)
  met0 : Nat
  all : Nat

structure TInv (n : Nat) (adj : Nat → List Nat) (s : TS) : Prop where
  adjn : ∀ u, u < n → ∀ t ∈ adj u, t < n
  opn_lt : ∀ u ∈ s.opn, u < n
  opn_iff : ∀ u, u < n → (u ∈ s.opn ↔ s.met u ≠ 0 ∧ s.part u = none)
  sorted : s.opn.Pairwise (fun a b => s.met a < s.met b)
  met_le : ∀ u, u < n → s.met u ≤ s.met0
  white : ∀ u, u < n → s.met u = 0 → s.part u = none
  wayopn : ∀ f ∈ s.way, f.1 ∈ s.opn
  waysort : s.way.Pairwise (fun a b => s.met a.1 < s.met b.1)
  waynext : ∀ f ∈ s.way, f.2 ≤ (adj f.1).length
  down : ∀ f ∈ s.way, ∀ u ∈ s.opn, s.met f.1 ≤ s.met u → Rs adj f.1 u
  back : ∀ u ∈ s.opn, ∃ f ∈ s.way, s.met f.1 ≤ s.met u ∧ Rs adj u f.1
  lows : ∀ f ∈ s.way, s.low f.1 ≤ s.met f.1 ∧ ∃ z ∈ s.opn, s.met z = s.low f.1 ∧ Rs adj f.1 z
  seen : ∀ f ∈ s.way, ∀ j t, j < f.2 → (adj f.1)[j]? = some t → s.part t ≠ none ∨ (t ∈ s.opn ∧ s.low f.1 ≤ s.met t)
  done : ∀ u ∈ s.opn, (∀ f ∈ s.way, f.1 ≠ u) → ∀ t ∈ adj u, s.part t ≠ none ∨ (t ∈ s.opn ∧ ∀ f ∈ s.way, s.met f.1 ≤ s.met u → (∀ f' ∈ s.way, s.met f'.1 ≤ s.met u → s.met f'.1 ≤ s.met f.1) → s.low f.1 ≤ s.met t)
  closed : ∀ u, u < n → ∀ p, s.part u = some p → p < s.all ∧ ∀ t ∈ adj u, ∃ q, s.part t = some q ∧ q ≤ p
  same : ∀ u v p, u < n → v < n → s.part u = some p → s.part v = some p → Rs adj u v
  surj : ∀ p, p < s.all → ∃ u, u < n ∧ s.part u = some p

section
variable {n : Nat} {adj : Nat → List Nat} {s : TS}
theorem TInv.start (h : ∀ u, u < n → ∀ t ∈ adj u, t < n) : TInv n adj ⟨fun _ => 0, fun _ => 0, fun _ => none, [], [], 0, 0⟩ :=
  ⟨h, by simp, by simp, by simp, by simp, by simp, by simp, by simp, by simp, by simp, by simp, by simp, by simp, by simp, by simp, by simp, by simp⟩
theorem TInv.empty (h : TInv n adj s) (hw : s.way = []) : s.opn = [] := by
  cases ho : s.opn with
  | nil => rfl
  | cons u r =>
    obtain ⟨f, hf, _⟩ := h.back u (by rw [ho]; simp)
    rw [hw] at hf
    cases hf
/-- A node is met. -/
def TS.meet (s : TS) (to : Nat) : TS := { s with met := upf s.met to (s.met0 + 1), low := upf s.low to (s.met0 + 1), opn := s.opn ++ [to], met0 := s.met0 + 1 }
theorem TInv.first (h : TInv n adj s) (hw : s.way = []) {u : Nat} (hu : u < n) (hm : s.met u = 0) : TInv n adj { s.meet u with way := [(u, 0)] } := by
  have ho := h.empty hw
  have hmu : ∀ v, v ≠ u → upf s.met u (s.met0 + 1) v = s.met v := fun v hv => upf_ne _ _ hv
  have hpu := h.white u hu hm
  have hcl : ∀ v, v < n → s.met v ≠ 0 → s.part v ≠ none := fun v hv h0 hp => by
    have := (h.opn_iff v hv).2 ⟨h0, hp⟩
    rw [ho] at this
    cases this
  refine ⟨h.adjn, ?_, ?_, ?_, ?_, ?_, ?_, ?_, ?_, ?_, ?_, ?_, ?_, ?_, h.closed, h.same, h.surj⟩ <;> simp only [TS.meet, ho, List.nil_append]
  · intro v hv; simp at hv; omega
  · intro v hv
    by_cases e : v = u
    · subst e; simp [upf_same, hpu]
    · rw [hmu v e]
      simp only [List.mem_singleton, e, false_iff]
      exact fun h2 => hcl v hv h2.1 h2.2
  · simp
  · intro v hv
    by_cases e : v = u
    · subst e; rw [upf_same]; exact Nat.le_refl _
    · rw [hmu v e]; have := h.met_le v hv; omega
  · intro v hv hm0
    by_cases e : v = u
    · subst e; exact hpu
    · rw [hmu v e] at hm0; exact h.white v hv hm0
  · simp
  · simp
  · simp
  · intro f hf v hv _
    simp at hf hv
    subst hf hv
    exact .refl _
  · intro v hv
    simp at hv
    subst hv
    exact ⟨(v, 0), by simp, Nat.le_refl _, .refl _⟩
  · intro f hf
    simp at hf
    subst hf
    exact ⟨by simp [upf_same], u, by simp, by simp [upf_same], .refl _⟩
  · intro f hf j t hj
    simp at hf
    subst hf
    simp at hj
  · intro v hv hnot
    simp at hv
    subst hv
    exact absurd rfl (hnot (v, 0) (by simp))

theorem TInv.top (h : TInv n adj s) {ws : List (Nat × Nat)} {x k : Nat} (hw : s.way = ws ++ [(x, k)]) : x ∈ s.opn ∧ (∀ f ∈ ws, s.met f.1 < s.met x) ∧ ∀ f ∈ s.way, s.met f.1 ≤ s.met x := by
  have hx : x ∈ s.opn := h.wayopn (x, k) (by rw [hw]; simp)
  have hs := h.waysort
  rw [hw, List.pairwise_append] at hs
  have h1 : ∀ f ∈ ws, s.met f.1 < s.met x := fun f hf => hs.2.2 f hf (x, k) (by simp)
  refine ⟨hx, h1, fun f hf => ?_⟩
  rw [hw] at hf
  rcases List.mem_append.1 hf with hf | hf
  · exact Nat.le_of_lt (h1 f hf)
  · simp at hf; subst hf; exact Nat.le_refl _
theorem met_inj (h : TInv n adj s) {u v : Nat} (hu : u ∈ s.opn) (hv : v ∈ s.opn) (e : s.met u = s.met v) : u = v := by
  have hp := h.sorted
  rw [List.pairwise_iff_getElem] at hp
  obtain ⟨i, hi, rfl⟩ := List.getElem_of_mem hu
  obtain ⟨j, hj, rfl⟩ := List.getElem_of_mem hv
  rcases Nat.lt_trichotomy i j with hij | hij | hij
  · have := hp i j hi hj hij; omega
  · subst hij; rfl
  · have := hp j i hj hi hij; omega
/-- An edge to a node that was not met: it is met, and is the way's last. -/
theorem TInv.go (h : TInv n adj s) {ws : List (Nat × Nat)} {x k to : Nat} (hw : s.way = ws ++ [(x, k)]) (ht : (adj x)[k]? = some to) (hm : s.met to = 0) :
    TInv n adj { s.meet to with way := ws ++ [(x, k + 1), (to, 0)] } := by
  obtain ⟨hx, hlt, hle⟩ := h.top hw
  have hxn := h.opn_lt x hx
  have htx : to ∈ adj x := List.mem_of_getElem? ht
  have hto := h.adjn x hxn to htx
  have hpt := h.white to hto hm
  have hton : to ∉ s.opn := fun h2 => ((h.opn_iff to hto).1 h2).1 hm
  have hmu : ∀ v, v ≠ to → upf s.met to (s.met0 + 1) v = s.met v := fun v hv => upf_ne _ _ hv
  have hlu : ∀ v, v ≠ to → upf s.low to (s.met0 + 1) v = s.low v := fun v hv => upf_ne _ _ hv
  have hne : ∀ v ∈ s.opn, v ≠ to := fun v hv e => hton (e ▸ hv)
  have hmo : ∀ v ∈ s.opn, upf s.met to (s.met0 + 1) v = s.met v := fun v hv => hmu v (hne v hv)
  have hbig : ∀ v ∈ s.opn, s.met v < s.met0 + 1 := fun v hv => by have := h.met_le v (h.opn_lt v hv); omega
  -- what stands on the new way, by what stood on the old one
  have hway : ∀ f ∈ ws ++ [(x, k + 1), (to, 0)], f = (to, 0) ∨ (f.1 ∈ s.opn ∧ ∃ g ∈ s.way, g.1 = f.1 ∧ (f = (x, k + 1) ∨ g = f)) := fun f hf => by
    rcases List.mem_append.1 hf with hf | hf
    · exact .inr ⟨h.wayopn f (by rw [hw]; simp [hf]), f, by rw [hw]; simp [hf], rfl, .inr rfl⟩
    · simp at hf
      rcases hf with rfl | rfl
      · exact .inr ⟨hx, (x, k), by rw [hw]; simp, rfl, .inl rfl⟩
      · exact .inl rfl
  have hold : ∀ g ∈ s.way, ∃ f ∈ ws ++ [(x, k + 1), (to, 0)], f.1 = g.1 := fun g hg => by
    rw [hw] at hg
    rcases List.mem_append.1 hg with hg | hg
    · exact ⟨g, by simp [hg], rfl⟩
    · simp at hg; subst hg; exact ⟨(x, k + 1), by simp, rfl⟩
  refine ⟨h.adjn, ?_, ?_, ?_, ?_, ?_, ?_, ?_, ?_, ?_, ?_, ?_, ?_, ?_, h.closed, h.same, h.surj⟩ <;> simp only [TS.meet]
  · intro v hv
    rcases List.mem_append.1 hv with hv | hv
    · exact h.opn_lt v hv
    · simp at hv; omega
  · intro v hv
    by_cases e : v = to
    · subst e; simp [upf_same, hpt]
    · rw [hmu v e, ← h.opn_iff v hv]; simp [e]
  · rw [List.pairwise_append]
    refine ⟨h.sorted.imp_of_mem (fun ha hb hab => by rw [hmo _ ha, hmo _ hb]; exact hab), by simp, fun a ha b hb => ?_⟩
    simp at hb
    subst hb
    rw [hmo a ha, upf_same]
    exact hbig a ha
  · intro v hv
    by_cases e : v = to
    · subst e; rw [upf_same]; exact Nat.le_refl _
    · rw [hmu v e]; have := h.met_le v hv; omega
  · intro v hv hm0
    by_cases e : v = to
    · subst e; exact hpt
    · rw [hmu v e] at hm0; exact h.white v hv hm0
  · intro f hf
    rcases hway f hf with rfl | ⟨hf, _⟩
    · simp
    · simp [hf]
  · have hs := h.waysort
    rw [hw, List.pairwise_append] at hs
    rw [List.pairwise_append]
    refine ⟨hs.1.imp_of_mem (fun {a b} ha hb hab => by rw [hmo _ (h.wayopn a (by rw [hw]; simp [ha])), hmo _ (h.wayopn b (by rw [hw]; simp [hb]))]; exact hab), ?_, fun a ha b hb => ?_⟩
    · simp only [List.pairwise_cons, List.mem_singleton, forall_eq, List.not_mem_nil, false_implies, implies_true, List.Pairwise.nil, and_true]
      rw [hmo x hx, upf_same]
      exact hbig x hx
    · have haw := h.wayopn a (by rw [hw]; simp [ha])
      rw [hmo _ haw]
      simp at hb
      rcases hb with rfl | rfl
      · rw [hmo x hx]; exact hlt a ha
      · rw [upf_same]; exact hbig _ haw
  · intro f hf
    rcases hway f hf with rfl | ⟨_, g, hg, e, rfl | rfl⟩
    · exact Nat.zero_le _
    · have := (List.getElem?_eq_some_iff.1 ht).1; exact this
    · exact h.waynext _ hg
  · intro f hf v hv hmv
    rcases hway f hf with rfl | ⟨hfo, g, hg, e, _⟩
    · rw [upf_same] at hmv
      rcases List.mem_append.1 hv with hv | hv
      · rw [hmo v hv] at hmv; have := hbig v hv; omega
      · simp at hv; subst hv; exact .refl _
    · rcases List.mem_append.1 hv with hv | hv
      · rw [hmo _ hfo, hmo v hv] at hmv
        have := h.down g hg v hv (by rw [e]; exact hmv)
        rwa [e] at this
      · simp at hv
        subst hv
        have := h.down g hg x hx (hle g hg)
        rw [e] at this
        exact this.tail htx
  · intro v hv
    rcases List.mem_append.1 hv with hv | hv
    · obtain ⟨g, hg, h1, h2⟩ := h.back v hv
      obtain ⟨f, hf, e⟩ := hold g hg
      refine ⟨f, hf, ?_, by rw [e]; exact h2⟩
      rw [e, hmo _ (h.wayopn g hg), hmo v hv]
      exact h1
    · simp at hv
      subst hv
      exact ⟨(v, 0), by simp, Nat.le_refl _, .refl _⟩
  · intro f hf
    rcases hway f hf with rfl | ⟨hfo, g, hg, e, _⟩
    · exact ⟨by simp [upf_same], to, by simp, by simp [upf_same], .refl _⟩
    · rw [hmo _ hfo, hlu _ (hne _ hfo), ← e]
      obtain ⟨h1, z, hz, h2, h3⟩ := h.lows g hg
      exact ⟨h1, z, by simp [hz], by rw [hmo z hz]; exact h2, h3⟩
  · intro f hf j t hj hjt
    rcases hway f hf with rfl | ⟨hfo, g, hg, e, he⟩
    · simp at hj
    · rw [hlu _ (hne _ hfo)]
      have hcase : (f = (x, k + 1) ∧ j = k) ∨ j < g.2 := by
        rcases he with rfl | rfl
        · by_cases e2 : j = k
          · exact .inl ⟨rfl, e2⟩
          · right
            rw [hw] at hg
            have hgx : g = (x, k) := by
              rcases List.mem_append.1 hg with hg | hg
              · have := hlt g hg; rw [e] at this; simp at this
              · simpa using hg
            rw [hgx]
            simp at hj ⊢
            omega
        · exact .inr hj
      rcases hcase with ⟨rfl, rfl⟩ | hj2
      · rw [ht] at hjt
        injection hjt with hjt
        subst hjt
        right
        refine ⟨by simp, ?_⟩
        rw [upf_same]
        have h1 := (h.lows (x, j) (by rw [hw]; simp)).1
        have h2 := hbig x hx
        simp at h1 ⊢
        omega
      · rw [← e] at hjt ⊢
        rcases h.seen g hg j t hj2 hjt with h1 | ⟨h1, h2⟩
        · exact .inl h1
        · exact .inr ⟨by simp [h1], by rw [hmo t h1]; exact h2⟩
  · intro v hv hnot t htv
    rcases List.mem_append.1 hv with hv | hv
    · have hnot' : ∀ g ∈ s.way, g.1 ≠ v := fun g hg e => by
        obtain ⟨f, hf, e2⟩ := hold g hg
        exact hnot f hf (e2.trans e)
      rcases h.done v hv hnot' t htv with h1 | ⟨h1, h2⟩
      · exact .inl h1
      · refine .inr ⟨by simp [h1], fun f hf hfv hmax => ?_⟩
        rcases hway f hf with rfl | ⟨hfo, g, hg, e, _⟩
        · rw [upf_same, hmo v hv] at hfv
          have := hbig v hv
          omega
        · rw [hlu _ (hne _ hfo), hmo t h1, ← e]
          refine h2 g hg (by rw [e]; rw [hmo _ hfo, hmo v hv] at hfv; exact hfv) (fun g' hg' hgv' => ?_)
          obtain ⟨f', hf', e'⟩ := hold g' hg'
          have := hmax f' hf' (by rw [e', hmo _ (h.wayopn g' hg'), hmo v hv]; exact hgv')
          rw [e', hmo _ (h.wayopn g' hg'), hmo _ hfo] at this
          rw [e]
          exact this
    · simp at hv
      subst hv
      exact absurd rfl (hnot (v, 0) (by simp))

/-- An edge to a node that was met. -/
theorem TInv.see (h : TInv n adj s) {ws : List (Nat × Nat)} {x k to l : Nat} (hw : s.way = ws ++ [(x, k)]) (ht : (adj x)[k]? = some to) (hl : l ≤ s.low x) (hz : l = s.low x ∨ (to ∈ s.opn ∧ l = s.met to)) (ho : s.part to ≠ none ∨ (to ∈ s.opn ∧ l ≤ s.met to)) :
    TInv n adj { s with low := upf s.low x l, way := ws ++ [(x, k + 1)] } := by
  obtain ⟨hx, hlt, hle⟩ := h.top hw
  have htx : to ∈ adj x := List.mem_of_getElem? ht
  have hway : ∀ f ∈ ws ++ [(x, k + 1)], f.1 ∈ s.opn ∧ ∃ g ∈ s.way, g.1 = f.1 ∧ (f = (x, k + 1) ∨ (g = f ∧ f.1 ≠ x)) := fun f hf => by
    rcases List.mem_append.1 hf with hf | hf
    · refine ⟨h.wayopn f (by rw [hw]; simp [hf]), f, by rw [hw]; simp [hf], rfl, .inr ⟨rfl, fun e => ?_⟩⟩
      have := hlt f hf
      rw [e] at this
      omega
    · simp at hf
      subst hf
      exact ⟨hx, (x, k), by rw [hw]; simp, rfl, .inl rfl⟩
  have hold : ∀ g ∈ s.way, ∃ f ∈ ws ++ [(x, k + 1)], f.1 = g.1 := fun g hg => by
    rw [hw] at hg
    rcases List.mem_append.1 hg with hg | hg
    · exact ⟨g, by simp [hg], rfl⟩
    · simp at hg; subst hg; exact ⟨(x, k + 1), by simp, rfl⟩
  have hlow : ∀ v, upf s.low x l v ≤ s.low v := fun v => by
    by_cases e : v = x
    · subst e; rw [upf_same]; exact hl
    · rw [upf_ne _ _ e]; exact Nat.le_refl _
  refine ⟨h.adjn, h.opn_lt, h.opn_iff, h.sorted, h.met_le, h.white, ?_, ?_, ?_, ?_, ?_, ?_, ?_, ?_, h.closed, h.same, h.surj⟩
  · exact fun f hf => (hway f hf).1
  · have hs := h.waysort
    rw [hw, List.pairwise_append] at hs
    rw [List.pairwise_append]
    exact ⟨hs.1, by simp, fun a ha b hb => by simp at hb; subst hb; exact hlt a ha⟩
  · intro f hf
    rcases hway f hf with ⟨_, g, hg, e, rfl | ⟨rfl, _⟩⟩
    · exact (List.getElem?_eq_some_iff.1 ht).1
    · exact h.waynext _ hg
  · intro f hf v hv hmv
    obtain ⟨_, g, hg, e, _⟩ := hway f hf
    have := h.down g hg v hv (by rw [e]; exact hmv)
    rwa [e] at this
  · intro v hv
    obtain ⟨g, hg, h1, h2⟩ := h.back v hv
    obtain ⟨f, hf, e⟩ := hold g hg
    exact ⟨f, hf, by rw [e]; exact h1, by rw [e]; exact h2⟩
  · intro f hf
    obtain ⟨hfo, g, hg, e, he⟩ := hway f hf
    obtain ⟨h1, z, hz1, h2, h3⟩ := h.lows g hg
    rw [e] at h1 h2 h3
    refine ⟨Nat.le_trans (hlow _) h1, ?_⟩
    rcases he with rfl | ⟨_, hne⟩
    · show ∃ z ∈ s.opn, s.met z = upf s.low x l x ∧ Rs adj x z
      rw [upf_same]
      rcases hz with e2 | ⟨e2, e3⟩
      · exact ⟨z, hz1, by rw [e2]; exact h2, h3⟩
      · exact ⟨to, e2, e3.symm, .one htx⟩
    · show ∃ z ∈ s.opn, s.met z = upf s.low x l f.1 ∧ Rs adj f.1 z
      rw [upf_ne _ _ hne]
      exact ⟨z, hz1, h2, h3⟩
  · intro f hf j t hj hjt
    obtain ⟨hfo, g, hg, e, he⟩ := hway f hf
    rcases he with rfl | ⟨rfl, hne⟩
    · by_cases e2 : j = k
      · subst e2
        rw [ht] at hjt
        injection hjt with hjt
        subst hjt
        show s.part to ≠ none ∨ (to ∈ s.opn ∧ upf s.low x l x ≤ s.met to)
        rw [upf_same]
        exact ho
      · have hgx : g = (x, k) := by
          rw [hw] at hg
          rcases List.mem_append.1 hg with hg | hg
          · have := hlt g hg; rw [e] at this; simp at this
          · simpa using hg
        rcases h.seen g hg j t (by rw [hgx]; simp at hj ⊢; omega) (by rw [hgx]; exact hjt) with h1 | ⟨h1, h2⟩
        · exact .inl h1
        · exact .inr ⟨h1, Nat.le_trans (hlow _) (by rw [← e]; exact h2)⟩
    · rcases h.seen g hg j t hj hjt with h1 | ⟨h1, h2⟩
      · exact .inl h1
      · exact .inr ⟨h1, Nat.le_trans (hlow _) h2⟩
  · intro v hv hnot t htv
    have hnot' : ∀ g ∈ s.way, g.1 ≠ v := fun g hg e => by
      obtain ⟨f, hf, e2⟩ := hold g hg
      exact hnot f hf (e2.trans e)
    rcases h.done v hv hnot' t htv with h1 | ⟨h1, h2⟩
    · exact .inl h1
    · refine .inr ⟨h1, fun f hf hfv hmax => ?_⟩
      obtain ⟨hfo, g, hg, e, _⟩ := hway f hf
      refine Nat.le_trans (hlow _) ?_
      rw [← e]
      refine h2 g hg (by rw [e]; exact hfv) (fun g' hg' hgv' => ?_)
      obtain ⟨f', hf', e'⟩ := hold g' hg'
      have := hmax f' hf' (by rw [e']; exact hgv')
      rw [e'] at this
      rw [e]
      exact this

/-- All edges of the way's last node are gone over: what its targets are. -/
theorem TInv.over (h : TInv n adj s) {ws : List (Nat × Nat)} {x k : Nat} (hw : s.way = ws ++ [(x, k)]) (hk : k = (adj x).length) : ∀ t ∈ adj x, s.part t ≠ none ∨ (t ∈ s.opn ∧ s.low x ≤ s.met t) := fun t ht => by
  obtain ⟨j, hj, rfl⟩ := List.getElem_of_mem ht
  exact h.seen (x, k) (by rw [hw]; simp) j _ (by rw [hk]; exact hj) (List.getElem?_eq_getElem hj)
/-- The way's last node leads further back: it stays open. -/
theorem TInv.stay (h : TInv n adj s) {ws : List (Nat × Nat)} {x k y m : Nat} (hw : s.way = ws ++ [(y, m), (x, k)]) (hk : k = (adj x).length) (hlow : s.low x < s.met x) :
    TInv n adj { s with low := upf s.low y (min (s.low y) (s.low x)), way := ws ++ [(y, m)] } := by
  have hw' : s.way = (ws ++ [(y, m)]) ++ [(x, k)] := by rw [hw]; simp
  obtain ⟨hx, hlt, hle⟩ := h.top hw'
  have hyw : (y, m) ∈ s.way := by rw [hw]; simp
  have hxw : (x, k) ∈ s.way := by rw [hw]; simp
  have hy : y ∈ s.opn := h.wayopn _ hyw
  have hsub : ∀ f ∈ ws ++ [(y, m)], f ∈ s.way := fun f hf => by rw [hw']; exact List.mem_append_left _ hf
  have hcase : ∀ f ∈ s.way, f ∈ ws ++ [(y, m)] ∨ f = (x, k) := fun f hf => by
    rw [hw'] at hf
    rcases List.mem_append.1 hf with hf | hf
    · exact .inl hf
    · right; simpa using hf
  have hyx : s.met y < s.met x := hlt (y, m) (by simp)
  have hytop : ∀ f ∈ ws ++ [(y, m)], s.met f.1 ≤ s.met y := fun f hf => by
    have hs := h.waysort
    rw [hw, List.pairwise_append] at hs
    rcases List.mem_append.1 hf with hf | hf
    · exact Nat.le_of_lt (hs.2.2 f hf (y, m) (by simp))
    · simp at hf; subst hf; exact Nat.le_refl _
  have hRyx : Rs adj y x := h.down _ hyw x hx (Nat.le_of_lt hyx)
  obtain ⟨hl1, z, hz, hz1, hz2⟩ := h.lows _ hxw
  have hz1 : s.met z = s.low x := hz1
  obtain ⟨g, hg, hgz, hRg⟩ := h.back z hz
  have hgx : g ∈ ws ++ [(y, m)] := by
    rcases hcase g hg with h1 | h1
    · exact h1
    · subst h1; simp at hgz; omega
  have hLe : ∀ v, upf s.low y (min (s.low y) (s.low x)) v ≤ s.low v := fun v => by
    by_cases e : v = y
    · subst e; rw [upf_same]; exact Nat.min_le_left _ _
    · rw [upf_ne _ _ e]; exact Nat.le_refl _
  refine ⟨h.adjn, h.opn_lt, h.opn_iff, h.sorted, h.met_le, h.white, ?_, ?_, ?_, ?_, ?_, ?_, ?_, ?_, h.closed, h.same, h.surj⟩
  · exact fun f hf => h.wayopn f (hsub f hf)
  · have hs := h.waysort
    rw [hw', List.pairwise_append] at hs
    exact hs.1
  · exact fun f hf => h.waynext f (hsub f hf)
  · exact fun f hf => h.down f (hsub f hf)
  · intro v hv
    obtain ⟨f, hf, h1, h2⟩ := h.back v hv
    rcases hcase f hf with hf2 | rfl
    · exact ⟨f, hf2, h1, h2⟩
    · refine ⟨g, hgx, ?_, (h2.trans hz2).trans hRg⟩
      have : s.met x ≤ s.met v := h1
      show s.met g.1 ≤ s.met v
      omega
  · intro f hf
    obtain ⟨h1, z', hz', h2, h3⟩ := h.lows f (hsub f hf)
    refine ⟨Nat.le_trans (hLe _) h1, ?_⟩
    show ∃ z ∈ s.opn, s.met z = upf s.low y _ f.1 ∧ Rs adj f.1 z
    by_cases e : f.1 = y
    · rw [e, upf_same]
      rw [e] at h2 h3
      rcases Nat.le_total (s.low y) (s.low x) with hc | hc
      · rw [Nat.min_eq_left hc]; exact ⟨z', hz', h2, h3⟩
      · rw [Nat.min_eq_right hc]; exact ⟨z, hz, hz1, hRyx.trans hz2⟩
    · rw [upf_ne _ _ e]; exact ⟨z', hz', h2, h3⟩
  · intro f hf j t hj hjt
    rcases h.seen f (hsub f hf) j t hj hjt with h1 | ⟨h1, h2⟩
    · exact .inl h1
    · exact .inr ⟨h1, Nat.le_trans (hLe _) h2⟩
  · intro v hv hnot t htv
    by_cases e : v = x
    · subst e
      rcases h.over hw' hk t htv with h1 | ⟨h1, h2⟩
      · exact .inl h1
      · refine .inr ⟨h1, fun f hf hfv hmax => ?_⟩
        have h3 := hmax (y, m) (by simp) (Nat.le_of_lt hyx)
        have h4 : f.1 = y := met_inj h (h.wayopn f (hsub f hf)) hy (Nat.le_antisymm (hytop f hf) h3)
        show upf s.low y _ f.1 ≤ _
        rw [h4, upf_same]
        exact Nat.le_trans (Nat.min_le_right _ _) h2
    · have hnot' : ∀ f ∈ s.way, f.1 ≠ v := fun f hf e2 => by
        rcases hcase f hf with h1 | rfl
        · exact hnot f h1 e2
        · exact e e2.symm
      rcases h.done v hv hnot' t htv with h1 | ⟨h1, h2⟩
      · exact .inl h1
      · refine .inr ⟨h1, fun f hf hfv hmax => ?_⟩
        by_cases hxv : s.met x ≤ s.met v
        · have h5 := h2 (x, k) hxw hxv (fun f' hf' _ => hle f' hf')
          have h3 := hmax (y, m) (by simp) (Nat.le_trans (Nat.le_of_lt hyx) hxv)
          have h4 : f.1 = y := met_inj h (h.wayopn f (hsub f hf)) hy (Nat.le_antisymm (hytop f hf) h3)
          show upf s.low y _ f.1 ≤ _
          rw [h4, upf_same]
          exact Nat.le_trans (Nat.min_le_right _ _) h5
        · refine Nat.le_trans (hLe _) (h2 f (hsub f hf) hfv (fun f' hf' hfv' => ?_))
          rcases hcase f' hf' with h6 | rfl
          · exact hmax f' h6 hfv'
          · exact absurd hfv' hxv
/-- The way's last node leads no further back: it and what was met behind it are a part. -/
theorem TInv.shut (h : TInv n adj s) {ws : List (Nat × Nat)} {x k : Nat} (hw : s.way = ws ++ [(x, k)]) (hk : k = (adj x).length) (hlow : s.low x = s.met x) {o1 o2 : List Nat} (ho : s.opn = o1 ++ x :: o2) :
    TInv n adj { s with part := fun v => if v ∈ x :: o2 then some s.all else s.part v, opn := o1, way := ws, all := s.all + 1 } := by
  obtain ⟨hx, hlt, hle⟩ := h.top hw
  have hxw : (x, k) ∈ s.way := by rw [hw]; simp
  have hp := h.sorted
  rw [ho, List.pairwise_append] at hp
  have hlo : ∀ v ∈ o1, s.met v < s.met x := fun v hv => hp.2.2 v hv x (by simp)
  have hhi : ∀ v ∈ x :: o2, s.met x ≤ s.met v := fun v hv => by
    rcases List.mem_cons.1 hv with rfl | hv
    · exact Nat.le_refl _
    · exact Nat.le_of_lt ((List.pairwise_cons.1 hp.2.1).1 v hv)
  have ho1 : ∀ v ∈ o1, v ∈ s.opn := fun v hv => by rw [ho]; exact List.mem_append_left _ hv
  have ho2 : ∀ v ∈ x :: o2, v ∈ s.opn := fun v hv => by rw [ho]; exact List.mem_append_right _ hv
  have hdis : ∀ v ∈ o1, v ∉ x :: o2 := fun v hv hv2 => by have := hlo v hv; have := hhi v hv2; omega
  have hsplit : ∀ v ∈ s.opn, s.met v < s.met x → v ∈ o1 := fun v hv hm => by
    rw [ho] at hv
    rcases List.mem_append.1 hv with hv | hv
    · exact hv
    · have := hhi v hv; omega
  have hsplit2 : ∀ v ∈ s.opn, s.met x ≤ s.met v → v ∈ x :: o2 := fun v hv hm => by
    rw [ho] at hv
    rcases List.mem_append.1 hv with hv | hv
    · have := hlo v hv; omega
    · exact hv
  have hsub : ∀ f ∈ ws, f ∈ s.way := fun f hf => by rw [hw]; exact List.mem_append_left _ hf
  have hcase : ∀ f ∈ s.way, f ∈ ws ∨ f = (x, k) := fun f hf => by
    rw [hw] at hf
    rcases List.mem_append.1 hf with hf | hf
    · exact .inl hf
    · right; simpa using hf
  have hwo : ∀ f ∈ ws, f.1 ∈ o1 := fun f hf => hsplit _ (h.wayopn f (hsub f hf)) (hlt f hf)
  -- the new part's nodes are open, so of no part before
  have hnone : ∀ v ∈ s.opn, s.part v = none := fun v hv => ((h.opn_iff v (h.opn_lt v hv)).1 hv).2
  have hP : ∀ v, s.part v ≠ none → (if v ∈ x :: o2 then some s.all else s.part v) = s.part v := fun v hv => by
    rw [if_neg (fun h2 => hv (hnone v (ho2 v h2)))]
  -- whatever is met behind x leads to it, and it to that
  have hto : ∀ v ∈ x :: o2, Rs adj v x := fun v hv => by
    obtain ⟨f, hf, h1, h2⟩ := h.back v (ho2 v hv)
    exact h2.trans (h.down f hf x hx (hle f hf))
  have hfrom : ∀ v ∈ x :: o2, Rs adj x v := fun v hv => h.down _ hxw v (ho2 v hv) (hhi v hv)
  -- where the edges of the new part lead
  have hed : ∀ v ∈ x :: o2, ∀ t ∈ adj v, s.part t ≠ none ∨ t ∈ x :: o2 := fun v hv t ht => by
    have hq : s.part t ≠ none ∨ (t ∈ s.opn ∧ s.low x ≤ s.met t) := by
      by_cases e : v = x
      · subst e; exact h.over hw hk t ht
      · have hnot : ∀ f ∈ s.way, f.1 ≠ v := fun f hf e2 => by
          rcases hcase f hf with h1 | rfl
          · have := hlt f h1; rw [e2] at this; have := hhi v hv; omega
          · exact e e2.symm
        rcases h.done v (ho2 v hv) hnot t ht with h1 | ⟨h1, h2⟩
        · exact .inl h1
        · exact .inr ⟨h1, h2 (x, k) hxw (hhi v hv) (fun f' hf' _ => hle f' hf')⟩
    rcases hq with h1 | ⟨h1, h2⟩
    · exact .inl h1
    · exact .inr (hsplit2 t h1 (by omega))
  refine ⟨h.adjn, fun u hu => h.opn_lt u (ho1 u hu), ?_, hp.1, h.met_le, ?_, hwo, ?_, fun f hf => h.waynext f (hsub f hf), fun f hf u hu => h.down f (hsub f hf) u (ho1 u hu), ?_, ?_, ?_, ?_, ?_, ?_, ?_⟩
  · intro v hv
    show v ∈ o1 ↔ s.met v ≠ 0 ∧ (if v ∈ x :: o2 then some s.all else s.part v) = none
    by_cases e : v ∈ x :: o2
    · rw [if_pos e]
      simp only [reduceCtorEq, and_false, iff_false]
      exact fun h2 => hdis v h2 e
    · rw [if_neg e, ← h.opn_iff v hv, ho]
      simp only [List.mem_append]
      exact ⟨fun h2 => .inl h2, fun h2 => h2.resolve_right e⟩
  · intro v hv hm
    show (if v ∈ x :: o2 then some s.all else s.part v) = none
    rw [if_neg (fun h2 => ((h.opn_iff v hv).1 (ho2 v h2)).1 hm)]
    exact h.white v hv hm
  · have hs := h.waysort
    rw [hw, List.pairwise_append] at hs
    exact hs.1
  · intro v hv
    obtain ⟨f, hf, h1, h2⟩ := h.back v (ho1 v hv)
    rcases hcase f hf with hf2 | rfl
    · exact ⟨f, hf2, h1, h2⟩
    · have := hlo v hv; simp at h1; omega
  · intro f hf
    obtain ⟨h1, z, hz, h2, h3⟩ := h.lows f (hsub f hf)
    exact ⟨h1, z, hsplit z hz (by have := hlt f hf; omega), h2, h3⟩
  · intro f hf j t hj hjt
    show (if t ∈ x :: o2 then some s.all else s.part t) ≠ none ∨ _
    rcases h.seen f (hsub f hf) j t hj hjt with h1 | ⟨h1, h2⟩
    · left; rw [hP t h1]; exact h1
    · by_cases e : t ∈ x :: o2
      · left; rw [if_pos e]; simp
      · right
        refine ⟨?_, h2⟩
        rw [ho] at h1
        exact (List.mem_append.1 h1).resolve_right e
  · intro v hv hnot t htv
    show (if t ∈ x :: o2 then some s.all else s.part t) ≠ none ∨ _
    have hnot' : ∀ f ∈ s.way, f.1 ≠ v := fun f hf e2 => by
      rcases hcase f hf with h1 | rfl
      · exact hnot f h1 e2
      · have h3 := hlo v hv; have e3 : x = v := e2; rw [e3] at h3; omega
    rcases h.done v (ho1 v hv) hnot' t htv with h1 | ⟨h1, h2⟩
    · left; rw [hP t h1]; exact h1
    · by_cases e : t ∈ x :: o2
      · left; rw [if_pos e]; simp
      · right
        refine ⟨?_, fun f hf hfv hmax => h2 f (hsub f hf) hfv (fun f' hf' hfv' => ?_)⟩
        · rw [ho] at h1
          exact (List.mem_append.1 h1).resolve_right e
        · rcases hcase f' hf' with h6 | rfl
          · exact hmax f' h6 hfv'
          · have h3 := hlo v hv; have h4 : s.met x ≤ s.met v := hfv'; omega
  · intro v hv p hpv
    show p < s.all + 1 ∧ ∀ t ∈ adj v, ∃ q, (if t ∈ x :: o2 then some s.all else s.part t) = some q ∧ q ≤ p
    have hpv : (if v ∈ x :: o2 then some s.all else s.part v) = some p := hpv
    by_cases e : v ∈ x :: o2
    · rw [if_pos e] at hpv
      injection hpv with hpv
      subst hpv
      refine ⟨by omega, fun t ht => ?_⟩
      rcases hed v e t ht with h1 | h1
      · rw [hP t h1]
        obtain ⟨q, hq⟩ := Option.ne_none_iff_exists'.1 h1
        exact ⟨q, hq, Nat.le_of_lt (h.closed t (h.adjn v hv t ht) q hq).1⟩
      · rw [if_pos h1]; exact ⟨_, rfl, Nat.le_refl _⟩
    · rw [if_neg e] at hpv
      obtain ⟨h1, h2⟩ := h.closed v hv p hpv
      refine ⟨by omega, fun t ht => ?_⟩
      obtain ⟨q, hq, hle'⟩ := h2 t ht
      exact ⟨q, by rw [hP t (by rw [hq]; simp)]; exact hq, hle'⟩
  · intro u v p hu hv hpu hpv
    have hpu : (if u ∈ x :: o2 then some s.all else s.part u) = some p := hpu
    have hpv : (if v ∈ x :: o2 then some s.all else s.part v) = some p := hpv
    by_cases eu : u ∈ x :: o2 <;> by_cases ev : v ∈ x :: o2
    · exact (hto u eu).trans (hfrom v ev)
    · rw [if_pos eu] at hpu; rw [if_neg ev] at hpv
      injection hpu with hpu
      have := (h.closed v hv p hpv).1
      omega
    · rw [if_neg eu] at hpu; rw [if_pos ev] at hpv
      injection hpv with hpv
      have := (h.closed u hu p hpu).1
      omega
    · rw [if_neg eu] at hpu; rw [if_neg ev] at hpv
      exact h.same u v p hu hv hpu hpv
  · intro p hp
    show ∃ u, u < n ∧ (if u ∈ x :: o2 then some s.all else s.part u) = some p
    have hp : p < s.all + 1 := hp
    by_cases e : p = s.all
    · subst e
      exact ⟨x, h.opn_lt x hx, if_pos (by simp)⟩
    · obtain ⟨u, hu, hpu⟩ := h.surj p (by omega)
      refine ⟨u, hu, ?_⟩
      rw [if_neg, hpu]
      intro hmem
      have := ((h.opn_iff u hu).1 (ho2 u hmem)).2
      rw [hpu] at this
      cases this
end
end Go.Proofs.Ytmcpbmadjpjckaa
