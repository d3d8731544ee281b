/-
  What 'puts' does, whatever the kind; several writers, each with its own row beside it, none in another's way.
-/
import Derived.Test.YtbofjboebkfjgaaLebPuts3
namespace Go.Proofs.Ytbofjboebkfjgaa
open Go.RowKit

/-- What one step puts. -/
def outS (kd : Int) (N : Nat) (K : Int) (n : Nat) (xs : List UInt8) : List UInt8 :=
  if kd = 1 then form N ++ form (K % 18446744073709551616).toNat
  else if kd = 2 then form (tn K) ++ form (tn K)
  else if kd = 3 then xs
  else if kd = 4 then form n ++ xs
  else []
theorem outS_len (kd : Int) (N : Nat) (K : Int) (n : Nat) (xs : List UInt8) (h : xs.length = n) : (outS kd N K n xs).length ≤ n + 20 := by
  have h1 := (form_len N).2
  have h2 := (form_len (K % 18446744073709551616).toNat).2
  have h3 := (form_len (tn K)).2
  have h4 := (form_len n).2
  unfold outS
  split
  · rw [List.length_append]; omega
  · split
    · rw [List.length_append]; omega
    · split
      · omega
      · split
        · rw [List.length_append]; omega
        · simp

theorem puts_any (w : World) (g B : Nat) (v m : Value) (bs ys : List UInt8) (h : WM w g B v m bs ys) (hB : B ≤ w.heap.size) (kd : Int) (o1 : Value) (N : Nat) (hN : N < U64) (K : Int) (k1 : -9223372036854775808 ≤ K) (k2 : K ≤ 9223372036854775807)
    (A : Option Addr) (n c : Nat) (xs : List UInt8) (B0 : Nat) (hx : Reads w B0 1 A n (xs.map bv)) (hB0 : B0 ≤ g) (hB1 : B0 ≤ B) (hn : n ≤ 35184372088832) (hb : bs.length ≤ 70368744177664) (hy : ys.length ≤ 70368744177664) :
    Calls Try.prog 27 #[.pointer (some ⟨g, 0, none⟩), m, .agg #[.int .i64 kd, o1, .int .u64 (N : Int), .int .i64 K, .slice A n c]] w (PutOut w g B v m bs ys (outS kd N K n xs)) := by
  by_cases h1 : kd = 1
  · subst h1
    exact puts_num w g B v m bs ys h hB N hN K o1 _ hb hy
  by_cases h2 : kd = 2
  · subst h2
    exact puts_int w g B v m bs ys h hB K k1 k2 o1 _ _ hb hy
  by_cases h3 : kd = 3
  · subst h3
    exact puts_raw w g B v m bs ys h hB o1 _ _ A n c xs B0 hx hB0 hn hb hy
  by_cases h4 : kd = 4
  · subst h4
    exact puts_text w g B v m bs ys h hB o1 _ _ A n c xs B0 hx hB0 hB1 hn hb hy
  · refine (puts_tell w _ m kd o1 _ _ _ h1 h2 h3 h4).mono ?_
    rintro e w' ⟨rfl, rfl⟩
    have hbw : Below w.heap.size w (w.alloc (.cells #[.int .i64 kd, o1, .int .u64 (N : Int), .int .i64 K, .slice A n c] 45)) := (Below.refl _ _).alloc (Nat.le_refl _) _
    refine ⟨v, m, rfl, ?_, Chg.of_below hbw _, .inl rfl, .inl rfl⟩
    rw [outS, if_neg h1, if_neg h2, if_neg h3, if_neg h4, List.append_nil, List.append_nil]
    exact h.below hbw
theorem putn_any (w : World) (p : Value) (h : NoW p w) (kd : Int) (o1 : Value) (N : Nat) (hN : N < U64) (K : Int) (k1 : -9223372036854775808 ≤ K) (k2 : K ≤ 9223372036854775807)
    (A : Option Addr) (n c : Nat) (xs : List UInt8) (B0 : Nat) (hx : Reads w B0 1 A n (xs.map bv)) (hB0 : B0 ≤ w.heap.size) (hn : n ≤ 35184372088832) :
    Calls Try.prog 27 #[p, .slice none 0 0, .agg #[.int .i64 kd, o1, .int .u64 (N : Int), .int .i64 K, .slice A n c]] w (NilOut w) := by
  by_cases h1 : kd = 1
  · subst h1
    exact putn_num w p h N hN K o1 _
  by_cases h2 : kd = 2
  · subst h2
    exact putn_int w p h K k1 k2 o1 _ _
  by_cases h3 : kd = 3
  · subst h3
    exact putn_raw w p h o1 _ _ A n c xs B0 hx hB0 hn
  by_cases h4 : kd = 4
  · subst h4
    exact putn_text w p h o1 _ _ A n c xs B0 hx hB0 hn
  · refine (puts_tell w _ _ kd o1 _ _ _ h1 h2 h3 h4).mono ?_
    rintro e w' ⟨rfl, rfl⟩
    exact ⟨⟨_, rfl⟩, (Below.refl _ _).alloc (Nat.le_refl _) _⟩

/-- At place k another value. -/
def upd {α : Type} (f : Nat → α) (k : Nat) (a : α) (j : Nat) : α := if j = k then a else f j
theorem upd_same {α : Type} (f : Nat → α) (k : Nat) (a : α) : upd f k a k = a := by simp [upd]
theorem upd_ne {α : Type} (f : Nat → α) {k j : Nat} (a : α) (h : j ≠ k) : upd f k a j = f j := by simp [upd, h]

/-- Writers 0 .. n-1 (structs at G), each with its own row; the slice of the rows in block M, the writers' pointers in block X, a zero writer in block z. -/
structure Many (w0 W : World) (n M X z : Nat) (G : Nat → Nat) (V Ms : Nat → Value) (Y : Nat → List UInt8) : Prop where
  wm : ∀ k, k < n → WM W (G k) w0.heap.size (V k) (Ms k) (Y k) (Y k)
  apart : ∀ j k, j < n → k < n → j ≠ k → ∀ i, Foot (G j) (V j) (Ms j) i → ¬ Foot (G k) (V k) (Ms k) i
  far : ∀ k, k < n → ∀ i, Foot (G k) (V k) (Ms k) i → i ≠ M ∧ i ≠ X ∧ i ≠ z ∧ w0.heap.size ≤ i
  mrow : Blk W M 22 (Array.ofFn (n := n) fun i => Ms i)
  xrow : ∀ k, k < n → W.cell? ⟨X, k, none⟩ = some (.pointer (some ⟨G k, 0, none⟩))
  xlt : X < W.heap.size
  zero : Blk W z 43 #[.slice none 0 0, .bool false]
  lo : w0.heap.size ≤ M ∧ w0.heap.size ≤ X ∧ w0.heap.size ≤ z ∧ M ≠ X ∧ M ≠ z
  bel : Below w0.heap.size w0 W

section
variable {w0 W w' : World} {n M X z : Nat} {G : Nat → Nat} {V Ms : Nat → Value} {Y : Nat → List UInt8}
theorem Many.below (h : Many w0 W n M X z G V Ms Y) (hb : Below W.heap.size W w') : Many w0 w' n M X z G V Ms Y :=
  ⟨fun k hk => (h.wm k hk).below hb, h.apart, h.far, h.mrow.below hb h.mrow.lt, fun k hk => (hb.cell (p := ⟨X, k, none⟩) h.xlt).trans (h.xrow k hk), Nat.lt_of_lt_of_le h.xlt hb.size, h.zero.below hb h.zero.lt, h.lo, h.bel.trans (hb.mono h.bel.size)⟩
theorem Many.cell (h : Many w0 W n M X z G V Ms Y) {k : Nat} (hk : k < n) : W.cell? ⟨M, k, none⟩ = some (Ms k) := by
  rw [h.mrow.cell]
  simp [hk]
/-- One writer's call, and the store of its row. -/
theorem Many.put (h : Many w0 W n M X z G V Ms Y) {k : Nat} (hk : k < n) {out : List UInt8} {v' m' : Value} (hw : WM w' (G k) w0.heap.size v' m' (Y k ++ out) (Y k ++ out)) (hc : Chg W w' (Foot (G k) (V k) (Ms k)))
    (hv : v'.ownBlock = (V k).ownBlock ∨ ∃ i, v'.ownBlock = some i ∧ W.heap.size ≤ i) (hm : m'.ownBlock = (Ms k).ownBlock ∨ ∃ i, m'.ownBlock = some i ∧ W.heap.size ≤ i) :
    Many w0 (w'.setCell ⟨M, k, none⟩ m') n M X z G (upd V k v') (upd Ms k m') (upd Y k (Y k ++ out)) := by
  have hMl := h.mrow.lt
  have hfoot : ∀ j, j < n → ∀ i, Foot (G j) (V j) (Ms j) i → i < W.heap.size := fun j hj i e => by
    rcases e with rfl | e | e
    · exact (h.wm j hj).wr.blk.lt
    · exact ((h.wm j hj).wr.own.lt i e).2
    · exact ((h.wm j hj).own.lt i e).2
  have hnew : ∀ i, Foot (G k) v' m' i → Foot (G k) (V k) (Ms k) i ∨ W.heap.size ≤ i := fun i e => by
    rcases e with rfl | e | e
    · exact .inl (.inl rfl)
    · rcases hv with hv | ⟨j, hj, hl⟩
      · exact .inl (.inr (.inl (by rw [← hv]; exact e)))
      · rw [hj] at e; cases e; exact .inr hl
    · rcases hm with hm | ⟨j, hj, hl⟩
      · exact .inl (.inr (.inr (by rw [← hm]; exact e)))
      · rw [hj] at e; cases e; exact .inr hl
  have hset := Chg.of_set w' ⟨M, k, none⟩ m'
  have hfM : ∀ i, Foot (G k) v' m' i → i ≠ M := fun i e => by
    rcases hnew i e with e | e
    · exact (h.far k hk i e).1
    · omega
  have hcs : Chg W (w'.setCell ⟨M, k, none⟩ m') (fun i => Foot (G k) (V k) (Ms k) i ∨ i = M) := (hc.more (fun i e => .inl e)).trans hset (fun i _ e => .inr e)
  refine ⟨fun j hj => ?_, fun i j hi hj hij b => ?_, fun j hj i => ?_, ?_, fun j hj => ?_, ?_, ?_, h.lo, ?_⟩
  · by_cases e : j = k
    · subst e
      rw [upd_same, upd_same, upd_same]
      exact hw.chg hset (hfM _ (.inl rfl)) (fun i e => hfM i (.inr (.inl e))) (fun i e => hfM i (.inr (.inr e)))
    · rw [upd_ne _ _ e, upd_ne _ _ e, upd_ne _ _ e]
      have hno : ∀ i, Foot (G j) (V j) (Ms j) i → ¬ (Foot (G k) (V k) (Ms k) i ∨ i = M) := fun i hi hx => by
        rcases hx with hx | hx
        · exact h.apart j k hj hk e i hi hx
        · exact (h.far j hj i hi).1 hx
      exact (h.wm j hj).chg hcs (hno _ (.inl rfl)) (fun i e => hno i (.inr (.inl e))) (fun i e => hno i (.inr (.inr e)))
  · by_cases e1 : i = k
    · subst e1
      have e2 : j ≠ i := fun e => hij e.symm
      rw [upd_same, upd_same, upd_ne _ _ e2, upd_ne _ _ e2]
      intro hb hb2
      rcases hnew b hb with hb | hb
      · exact h.apart i j hi hj hij b hb hb2
      · have := hfoot j hj b hb2; omega
    · rw [upd_ne _ _ e1, upd_ne _ _ e1]
      by_cases e2 : j = k
      · subst e2
        rw [upd_same, upd_same]
        intro hb hb2
        rcases hnew b hb2 with hb2 | hb2
        · exact h.apart i j hi hj hij b hb hb2
        · have := hfoot i hi b hb; omega
      · rw [upd_ne _ _ e2, upd_ne _ _ e2]
        exact h.apart i j hi hj hij b
  · by_cases e : j = k
    · subst e
      rw [upd_same, upd_same]
      intro hb
      rcases hnew i hb with hb | hb
      · exact h.far j hj i hb
      · have := h.xlt
        have := h.zero.lt
        have := h.bel.size
        exact ⟨by omega, by omega, by omega, by omega⟩
    · rw [upd_ne _ _ e, upd_ne _ _ e]
      exact h.far j hj i
  · have hM' := (hc.blk h.mrow (fun e => (h.far k hk M e).1 rfl)).set_ k m'
    have : (Array.ofFn (n := n) fun i => upd Ms k m' i) = (Array.ofFn (n := n) fun i => Ms i).setIfInBounds k m' := by
      apply Array.ext
      · simp
      · intro i h1 h2
        have hi : i < n := by simpa using h1
        by_cases e : i = k
        · subst e
          simp [upd]
        · have e' : k ≠ i := fun h => e h.symm
          rw [Array.getElem_setIfInBounds_ne (by simpa using hi) e']
          simp [upd, e]
    rw [this]
    exact hM'
  · have h1 : (w'.setCell ⟨M, k, none⟩ m').heap[X]? = W.heap[X]? := hcs.block X h.xlt (fun e => by
      rcases e with e | e
      · exact (h.far k hk X e).2.1 rfl
      · exact h.lo.2.2.2.1 e.symm)
    exact (World.cell?_of_block h1).trans (h.xrow j hj)
  · exact Nat.lt_of_lt_of_le h.xlt hcs.size
  · exact hcs.blk h.zero (fun e => by
      rcases e with e | e
      · exact (h.far k hk z e).2.2.1 rfl
      · exact h.lo.2.2.2.2 e.symm)
  · exact h.bel.trans (hcs.below h.bel.size (fun i hi e => by
      rcases e with e | e
      · have := (h.far k hk i e).2.2.2; omega
      · have := h.lo.1; omega))
/-- The same, all that was put counted. -/
theorem Many.put2 (h : Many w0 W n M X z G V Ms Y) {k t : Nat} (hk : k < n) {out : List UInt8} {v' m' : Value} (hw : WM w' (G k) w0.heap.size v' m' (Y k ++ out) (Y k ++ out)) (hc : Chg W w' (Foot (G k) (V k) (Ms k)))
    (hv : v'.ownBlock = (V k).ownBlock ∨ ∃ i, v'.ownBlock = some i ∧ W.heap.size ≤ i) (hm : m'.ownBlock = (Ms k).ownBlock ∨ ∃ i, m'.ownBlock = some i ∧ W.heap.size ≤ i)
    (hY : ∀ j, j < n → (Y j).length ≤ t * 1048600) (ho : out.length ≤ 1048600) :
    ∃ (V' Ms' : Nat → Value) (Y' : Nat → List UInt8), Many w0 (w'.setCell ⟨M, k, none⟩ m') n M X z G V' Ms' Y' ∧ ∀ j, j < n → (Y' j).length ≤ (t + 1) * 1048600 := by
  refine ⟨_, _, _, h.put hk hw hc hv hm, fun j hj => ?_⟩
  have h1 := hY j hj
  have h2 : t * 1048600 ≤ (t + 1) * 1048600 := Nat.mul_le_mul_right _ (Nat.le_succ t)
  have h3 : t * 1048600 + 1048600 = (t + 1) * 1048600 := (Nat.succ_mul t 1048600).symm
  by_cases e : j = k
  · subst e
    rw [upd_same, List.length_append, ← h3]
    exact Nat.add_le_add h1 ho
  · rw [upd_ne _ _ e]
    exact Nat.le_trans h1 h2
end
end Go.Proofs.Ytbofjboebkfjgaa
