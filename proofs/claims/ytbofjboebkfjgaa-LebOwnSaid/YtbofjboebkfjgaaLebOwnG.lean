/-
  LebOwn's growing rows: what stands while each row is grown a byte at a time and each state of it is kept. No program in sight but its types' numbers.
-/
import Derived.Test.YtbofjboebkfjgaaLebOwnM
namespace Go.Proofs.Ytbofjboebkfjgaa
open Go.RowKit

def cont (n : Nat → Nat) (j : Nat) : List UInt8 := grows (n (j / 20)) (j / 20) (j % 20 + 1)
theorem cont_len (n : Nat → Nat) (j : Nat) : (cont n j).length = n (j / 20) + (j % 20 + 1) := by rw [cont, grows_len]

/-- What does not turn: where the nine rows lie. -/
structure Cst (L0 X : Nat) (V : Nat → Value) (VS : Array Value) : Prop where
  apart : ∀ i j, i < 9 → j < 9 → i ≠ j → ∀ b, (V i).ownBlock = some b → (V j).ownBlock ≠ some b
  lt : ∀ i, i < 9 → ∀ b, (V i).ownBlock = some b → b < X
  at_ : ∀ i, i < 9 → VS[i]? = some (V i)
  lo : L0 ≤ X

/-- Between two rows. -/
structure Gr0 (L0 X : Nat) (V : Nat → Value) (VS : Array Value) (n : Nat → Nat) (W0 W : World) (i : Nat) (t : Value) (G : Nat → Value) : Prop where
  old : ∀ i', i' < 9 → Hd W (V i') (fills (n i') i')
  rest : ∀ i', i ≤ i' → i' < 9 → W.ownsRow L0 5 1 (V i') (n i') ((fills (n i') i').map bv)
  trow : W.ownsRow (X + 1) 22 1 t (20 * i) ((List.range (20 * i)).map G)
  got : ∀ j, j < 20 * i → Hd W (G j) (cont n j)
  gv : ∀ j, j < 20 * i → ∀ i', i ≤ i' → i' < 9 → ∀ b, (G j).ownBlock = some b → (V i').ownBlock ≠ some b
  xb : Blk W X 22 VS
  bel : Below L0 W0 W
/-- Within a row: k states of it are kept. -/
structure Gr (L0 X : Nat) (V : Nat → Value) (VS : Array Value) (n : Nat → Nat) (W0 W : World) (i k : Nat) (t : Value) (G : Nat → Value) (l : Value) : Prop where
  old : ∀ i', i' < 9 → Hd W (V i') (fills (n i') i')
  rest : ∀ i', i < i' → i' < 9 → W.ownsRow L0 5 1 (V i') (n i') ((fills (n i') i').map bv)
  cur : W.ownsRow L0 5 1 l (n i + k) ((grows (n i) i k).map bv)
  trow : W.ownsRow (X + 1) 22 1 t (20 * i + k) ((List.range (20 * i + k)).map G)
  got : ∀ j, j < 20 * i + k → Hd W (G j) (cont n j)
  lv : ∀ i', i' < 9 → i' ≠ i → ∀ b, (V i').ownBlock = some b → l.ownBlock ≠ some b
  lg : ∀ j, j < 20 * i + k → ∀ b, (G j).ownBlock = some b → l.ownBlock = some b → (cont n j).length ≤ n i + k
  gv : ∀ j, j < 20 * i + k → ∀ i', i < i' → i' < 9 → ∀ b, (G j).ownBlock = some b → (V i').ownBlock ≠ some b
  xb : Blk W X 22 VS
  bel : Below L0 W0 W
section
variable {L0 X : Nat} {V : Nat → Value} {VS : Array Value} {n : Nat → Nat} {W0 W : World} {i k : Nat} {t l : Value} {G : Nat → Value}
theorem Gr0.enter (h : Gr0 L0 X V VS n W0 W i t G) (c : Cst L0 X V VS) (hi : i < 9) : Gr L0 X V VS n W0 W i 0 t G (V i) :=
  ⟨h.old, fun i' h1 h2 => h.rest i' (by omega) h2, by rw [grows_zero]; exact h.rest i (Nat.le_refl _) hi, h.trow, h.got, fun i' h1 h2 b hb => c.apart i' i h1 hi h2 b hb,
    fun j hj b hb hv => absurd hv (h.gv j hj i (Nat.le_refl _) hi b hb), fun j hj i' h1 h2 => h.gv j hj i' (by omega) h2, h.xb, h.bel⟩
theorem Gr.leave (h : Gr L0 X V VS n W0 W i 20 t G l) : Gr0 L0 X V VS n W0 W (i + 1) t G := by
  have e : 20 * (i + 1) = 20 * i + 20 := by omega
  exact ⟨h.old, fun i' h1 h2 => h.rest i' (by omega) h2, by rw [e]; exact h.trow, by rw [e]; exact h.got, by rw [e]; exact fun j hj i' h1 h2 => h.gv j hj i' (by omega) h2, h.xb, h.bel⟩
theorem Gr.tlt (h : Gr L0 X V VS n W0 W i k t G l) (c : Cst L0 X V VS) : ∀ b, t.ownBlock = some b → L0 ≤ b := fun b hb => by
  have := (h.trow.lt b hb).1
  have := c.lo
  omega
theorem Gr.trow2 (h : Gr L0 X V VS n W0 W i k t G l) {W2 : World} {l' u : Value} {cs : Array Value} (how : HowApp (W.alloc (.cells cs 5)) 1 (n i + k) 1 [u] l l' W2) :
    W2.ownsRow (X + 1) 22 1 t (20 * i + k) ((List.range (20 * i + k)).map G) ∧ X + 1 ≤ W2.heap.size := by
  obtain ⟨hg2, _⟩ := how.grown
  have hb1 : Below W.heap.size W (W.alloc (.cells cs 5)) := (Below.refl _ _).alloc (Nat.le_refl _) _
  have hXl := h.xb.lt
  have hz := hg2.size
  rw [World.size_alloc] at hz
  refine ⟨(Chg.of_grown hg2).own ((Chg.of_below hb1 (fun _ => False)).own h.trow (fun _ _ f => f)) (fun b' h1 h2 => ?_), by omega⟩
  rcases h.cur.2 with ⟨e, _⟩ | ⟨g, cap, cur, e, _, hg, _⟩
  · rw [e] at h2; cases h2
  · rw [e] at h2
    cases h2
    exact own_blk_ne h.trow (show Blk W g 5 cur from hg) (by decide) h1
theorem elem_sl : ElemOf Try.prog 39 22 1 24 := .mk' (.slice none 0 0) Try.underlying39 (by kernel_rfl) rfl (by omega)
/-- One byte more, and the state kept. -/
theorem Gr.step (h : Gr L0 X V VS n W0 W i k t G l) (c : Cst L0 X V VS) (hi : i < 9) (hk : k < 20) {W2 W4 : World} {l' t' : Value}
    (ho : W2.ownsRow L0 5 1 l' (n i + k + 1) ((grows (n i) i k).map bv ++ [bv (fb i)]))
    (how : HowApp (W.alloc (.cells #[bv (fb i)] 5)) 1 (n i + k) 1 [bv (fb i)] l l' W2)
    (hot : W4.ownsRow (X + 1) 22 1 t' (20 * i + k + 1) ((List.range (20 * i + k)).map G ++ [l']))
    (hgt : W2.grownBy W4 t.ownBlock) : Gr L0 X V VS n W0 W4 i (k + 1) t' (upd G (20 * i + k) l') l' := by
  obtain ⟨W1, hW1⟩ : ∃ W1, W.alloc (.cells #[bv (fb i)] 5) = W1 := ⟨_, rfl⟩
  have hb1 : Below W.heap.size W W1 := by rw [← hW1]; exact (Below.refl _ _).alloc (Nat.le_refl _) _
  have hz1 : W1.heap.size = W.heap.size + 1 := by rw [← hW1, World.size_alloc]
  rw [hW1] at how
  clear hW1
  obtain ⟨hg2, hr2⟩ := how.grown
  have hc1 := Chg.of_below hb1 (fun _ => False)
  have hc2 := Chg.of_grown hg2
  have hc4 := Chg.of_grown hgt
  have hcl := h.cur.lt
  have hXl := h.xb.lt
  have eT : (20 * i + k) / 20 = i ∧ (20 * i + k) % 20 = k := by omega
  have hcont : cont n (20 * i + k) = grows (n i) i (k + 1) := by rw [cont, eT.1, eT.2]
  have ho' : W2.ownsRow L0 5 1 l' (n i + (k + 1)) ((grows (n i) i (k + 1)).map bv) := by
    rw [grows_succ, List.map_append]
    exact ho
  have htne : ∀ b cs, Blk W2 b 5 cs → t.ownBlock ≠ some b := fun b cs hb =>
    own_blk_ne (hc2.own (hc1.own h.trow (fun _ _ f => f)) (fun b' h1 h2 => by
      rcases h.cur.2 with ⟨e, _⟩ | ⟨g, cap, cur, e, _, hg, _⟩
      · rw [e] at h2; cases h2
      · rw [e] at h2
        cases h2
        exact own_blk_ne h.trow (show Blk W g 5 cur from hg) (by decide) h1)) hb (by decide)
  have hl' : ∀ b, l'.ownBlock = some b → l.ownBlock = some b ∨ (b = W1.heap.size) := fun b hb => by
    rcases hr2 with e | e
    · exact .inl (e ▸ hb)
    · rw [e] at hb; cases hb; exact .inr rfl
  -- what reads goes on to read
  have keep : ∀ {v : Value} {xs : List UInt8}, Hd W v xs → (∀ b, v.ownBlock = some b → l.ownBlock = some b → xs.length ≤ n i + k) → Hd W4 v xs := fun hd hs =>
    ((hd.below hb1).app how hs).chg hc4 (fun b cs _ hb e => htne b cs hb e)
  have hlW : Hd W4 l' (grows (n i) i (k + 1)) := (Hd.of_own (grows_len _ _ _) ho').chg hc4 (fun b cs _ hb e => htne b cs hb e)
  have hrow : ∀ i', i < i' → i' < 9 → W4.ownsRow L0 5 1 (V i') (n i') ((fills (n i') i').map bv) := fun i' h1 h2 => by
    have hr := h.rest i' h1 h2
    have hr2' := hc2.own (hc1.own hr (fun _ _ f => f)) (fun b hb e => h.lv i' h2 (by omega) b hb e)
    refine hc4.own hr2' (fun b hb e => ?_)
    rcases hr2'.2 with ⟨e1, _⟩ | ⟨g, cap, cur, e1, _, hg, _⟩
    · rw [e1] at hb; cases hb
    · rw [e1] at hb
      cases hb
      exact htne g cur hg e
  refine ⟨fun i' h1 => keep (h.old i' h1) (fun b hb hlb => ?_), hrow, ?_, ?_, fun j hj => ?_, fun i' h1 h2 b hb hlb => ?_, fun j hj b hb hlb => ?_, fun j hj i' h1 h2 b hb hvb => ?_, ?_, ?_⟩
  · rw [fills_len]
    by_cases e : i' = i
    · subst e; omega
    · exact absurd hlb (h.lv i' h1 e b hb)
  · refine hc4.own ho' (fun b hb e => ?_)
    rcases ho'.2 with ⟨e1, _⟩ | ⟨g, cap, cur, e1, _, hg, _⟩
    · rw [e1] at hb; cases hb
    · rw [e1] at hb
      cases hb
      exact htne g cur hg e
  · rw [← Nat.add_assoc, List.range_succ, List.map_append, List.map_cons, List.map_nil, upd_same]
    rw [show ((List.range (20 * i + k)).map (upd G (20 * i + k) l')) = (List.range (20 * i + k)).map G from List.map_congr_left (fun j hj => by rw [upd_ne _ _ (by have := List.mem_range.1 hj; omega)])]
    exact hot
  · by_cases e : j = 20 * i + k
    · subst e
      rw [upd_same, hcont]
      exact hlW
    · rw [upd_ne _ _ e]
      exact keep (h.got j (by omega)) (fun b hb hlb => h.lg j (by omega) b hb hlb)
  · rcases hl' b hlb with e | e
    · exact h.lv i' h1 h2 b hb e
    · have := c.lt i' h1 b hb
      omega
  · by_cases e : j = 20 * i + k
    · subst e
      rw [hcont, grows_len]
      omega
    · rw [upd_ne _ _ e] at hb
      rcases hl' b hlb with e2 | e2
      · have := h.lg j (by omega) b hb e2
        omega
      · have := (h.got j (by omega)).lt (by rw [cont_len]; omega) hb
        omega
  · by_cases e : j = 20 * i + k
    · subst e
      rw [upd_same] at hb
      rcases hl' b hb with e2 | e2
      · exact h.lv i' h2 (by omega) b hvb e2
      · have := c.lt i' h2 b hvb
        omega
    · rw [upd_ne _ _ e] at hb
      exact h.gv j (by omega) i' h1 h2 b hb hvb
  · refine hc4.blk (hc2.blk (hc1.blk h.xb (fun f => f)) (fun e => ?_)) (fun e => ?_)
    · exact own_blk_ne h.cur h.xb (by decide) e
    · have := (h.trow.lt X e).1
      omega
  · have hL : L0 ≤ W.heap.size := by have := c.lo; omega
    have h1 := h.bel.trans (hb1.mono hL)
    have h2 := h1.grown hg2 (by omega) (fun b e => (hcl b e).1)
    exact h2.grown hgt (Nat.le_trans (by omega) hg2.size) (fun b e => h.tlt c b e)
end
end Go.Proofs.Ytbofjboebkfjgaa
