/-
  Rows whose capacity is at most their block's (clipped slices too), and append onto them; slices that stay readable. No program in sight.
-/
import Derived.Test.YtmcpbmadjpjckaaAppTwo
namespace Go.Proofs.Ytmcpbmadjpjckaa
open Go.RowKit

/-- A slice at the head of a block that holds at least as many cells. -/
def Row (w : World) (e : TypeId) (v : Value) (n : Nat) (xs : List Value) : Prop :=
  xs.length = n ∧ ((v = .slice none 0 0 ∧ n = 0) ∨ ∃ g cap cur, v = .slice (some ⟨g, 0, none⟩) n cap ∧ w.heap[g]? = some (.cells cur e (0, 0)) ∧ n ≤ cap ∧ cap ≤ maxLen ∧ cap ≤ cur.size ∧ cur.toList.take n = xs)
section
variable {w w1 : World} {e : TypeId} {v : Value} {n : Nat} {xs : List Value}
theorem Row.of_own {base : Nat} (h : w.ownsRow base e 1 v n xs) : Row w e v n xs := by
  refine ⟨by have := h.1; omega, ?_⟩
  rcases h.2 with h' | ⟨g, cap, cur, rfl, hb, hg, hn, hm, hs, ht⟩
  · exact .inl h'
  · exact .inr ⟨g, cap, cur, rfl, hg, hn, hm, by omega, by rw [Nat.mul_one] at ht; exact ht⟩
theorem Row.clip {base c : Nat} {A : Option Addr} (h : w.ownsRow base e 1 (.slice A n c) n xs) : Row w e (.slice A n n) n xs := by
  refine ⟨by have := h.1; omega, ?_⟩
  rcases h.2 with ⟨h', h0⟩ | ⟨g, cap, cur, h', hb, hg, hn, hm, hs, ht⟩
  · cases h'; exact .inl ⟨rfl, rfl⟩
  · cases h'
    exact .inr ⟨g, n, cur, rfl, hg, Nat.le_refl _, by omega, by omega, by rw [Nat.mul_one] at ht; exact ht⟩
theorem Row.shape (h : Row w e v n xs) : ∃ A c, v = .slice A n c := by
  rcases h.2 with ⟨rfl, rfl⟩ | ⟨g, cap, cur, rfl, _⟩
  · exact ⟨_, _, rfl⟩
  · exact ⟨_, _, rfl⟩
theorem Row.lt (h : Row w e v n xs) {b : Nat} (hb : v.ownBlock = some b) : b < w.heap.size := by
  rcases h.2 with ⟨rfl, rfl⟩ | ⟨g, cap, cur, rfl, hg, _⟩
  · cases hb
  · cases hb
    exact (Array.getElem?_eq_some_iff.1 hg).1
theorem Row.chg {S : Nat → Prop} (h : Row w e v n xs) (hc : Chg w w1 S) (hS : ∀ b, v.ownBlock = some b → ¬ S b) : Row w1 e v n xs := by
  refine ⟨h.1, ?_⟩
  rcases h.2 with h' | ⟨g, cap, cur, rfl, hg, hr⟩
  · exact .inl h'
  · exact .inr ⟨g, cap, cur, rfl, (hc.block g (Array.getElem?_eq_some_iff.1 hg).1 (hS g rfl)).trans hg, hr⟩
theorem Row.below (h : Row w e v n xs) (hb : Below w.heap.size w w1) : Row w1 e v n xs := h.chg (Chg.of_below hb (fun _ => False)) (fun _ _ f => f)
theorem Row.ne_blk {g : Nat} {t : TypeId} {cs : Array Value} (h : Row w e v n xs) (hg : Blk w g t cs) (hne : e ≠ t) : v.ownBlock ≠ some g := by
  intro hb
  rcases h.2 with ⟨rfl, _⟩ | ⟨g', cap, cur, rfl, hg', _⟩
  · cases hb
  · cases hb
    unfold Blk at hg
    rw [hg] at hg'
    injection hg' with hg'
    injection hg' with _ h2
    exact hne h2.symm
theorem Row.blk (h : Row w e v n xs) {b : Nat} (hb : v.ownBlock = some b) : ∃ cs, Blk w b e cs := by
  rcases h.2 with ⟨rfl, _⟩ | ⟨g, cap, cur, rfl, hg, _⟩
  · cases hb
  · cases hb; exact ⟨cur, hg⟩
theorem Row.ne_row {e' : TypeId} {v' : Value} {n' : Nat} {xs' : List Value} (h : Row w e v n xs) (h' : Row w e' v' n' xs') (hne : e ≠ e') {b : Nat} (hb : v.ownBlock = some b) : v'.ownBlock ≠ some b := fun hb' => by
  obtain ⟨cs, hc⟩ := h'.blk hb'
  exact h.ne_blk hc hne hb
theorem Row.form (h : Row w e v n xs) (hn : 0 < n) : ∃ g cap, v = .slice (some ⟨g, 0, none⟩) n cap ∧ n ≤ cap ∧ cap ≤ maxLen := by
  rcases h.2 with ⟨_, h0⟩ | ⟨g, cap, cur, rfl, _, h1, h2, _⟩
  · omega
  · exact ⟨g, cap, rfl, h1, h2⟩
theorem Row.cellAt {g cap k : Nat} (h : Row w e (.slice (some ⟨g, 0, none⟩) n cap) n xs) (hk : k < n) : w.cell? ⟨g, k, none⟩ = xs[k]? := by
  rcases h.2 with ⟨h', _⟩ | ⟨g', cap', cur, h', hg, h1, h2, h3, ht⟩
  · cases h'
  · cases h'
    rw [cell_of_row w g k cur e (0, 0) hg, ← ht, List.getElem?_take, if_pos hk]
    simp
theorem Row.frozenAt {g cap : Nat} (h : Row w e (.slice (some ⟨g, 0, none⟩) n cap) n xs) (k : Nat) : w.frozen? ⟨g, k, none⟩ = false := by
  rcases h.2 with ⟨h', _⟩ | ⟨g', cap', cur, h', hg, _⟩
  · cases h'
  · cases h'
    simp [World.frozen?, hg]
theorem Row.store {g cap : Nat} (h : Row w e (.slice (some ⟨g, 0, none⟩) n cap) n xs) (j : Nat) (u : Value) : Row (w.setCell ⟨g, j, none⟩ u) e (.slice (some ⟨g, 0, none⟩) n cap) n (xs.set j u) := by
  rcases h.2 with ⟨h', _⟩ | ⟨g', cap', cur, h', hg, h1, h2, h3, ht⟩
  · cases h'
  · cases h'
    refine ⟨by rw [List.length_set]; exact h.1, .inr ⟨g, cap, cur.setIfInBounds j u, rfl, Blk.set_ hg j u, h1, h2, by simpa using h3, ?_⟩⟩
    rw [Array.toList_setIfInBounds, List.take_set, ht]
theorem Row.reads {A : Option Addr} {c : Nat} (h : Row w e (.slice A n c) n xs) : Reads w w.heap.size 1 A n xs := by
  refine ⟨by have := h.1; omega, fun hn => ?_⟩
  obtain ⟨g, cap, hv, _, _⟩ := h.form hn
  cases hv
  refine ⟨_, rfl, h.lt rfl, fun j u hu => ?_⟩
  have hadd : (⟨g, 0, none⟩ : Addr).add j = ⟨g, j, none⟩ := by unfold Addr.add; split <;> simp_all
  rw [hadd, h.cellAt (by have := (List.getElem?_eq_some_iff.1 hu).1; have := h.1; omega)]
  exact hu
end

/-- A slice that reads as these values. -/
def Sees (W : World) (e : TypeId) (v : Value) (xs : List Value) : Prop :=
  ∃ A c, v = .slice A xs.length c ∧ (0 < xs.length → ∃ b cs, A = some ⟨b, 0, none⟩ ∧ Blk W b e cs ∧ ∀ (j : Nat) (u : Value), xs[j]? = some u → cs[j]? = some u)
section
variable {W W' : World} {e : TypeId} {v l l' : Value} {xs : List Value}
theorem Sees.of_row {n : Nat} (h : Row W e v n xs) : Sees W e v xs := by
  obtain ⟨hn, h2⟩ := h
  subst hn
  rcases h2 with ⟨rfl, h0⟩ | ⟨g, cap, cur, rfl, hg, _, _, _, ht⟩
  · refine ⟨none, 0, by rw [h0], fun h => ?_⟩
    omega
  · refine ⟨_, cap, rfl, fun _ => ⟨g, cur, rfl, hg, fun j u hu => ?_⟩⟩
    rw [← ht, List.getElem?_take] at hu
    split at hu
    · simpa using hu
    · cases hu
theorem Sees.chg (h : Sees W e v xs) {S : Nat → Prop} (hc : Chg W W' S) (hS : ∀ b cs, v.ownBlock = some b → Blk W b e cs → ¬ S b) : Sees W' e v xs := by
  obtain ⟨A, c, rfl, h⟩ := h
  refine ⟨A, c, rfl, fun hl => ?_⟩
  obtain ⟨b, cs, rfl, hb, hx⟩ := h hl
  exact ⟨b, cs, rfl, hc.blk hb (hS b cs rfl hb), hx⟩
theorem Sees.below (h : Sees W e v xs) (hb : Below W.heap.size W W') : Sees W' e v xs := h.chg (Chg.of_below hb (fun _ => False)) (fun _ _ _ _ h => h)
theorem Sees.lt (h : Sees W e v xs) (hl : 0 < xs.length) {b : Nat} (hb : v.ownBlock = some b) : b < W.heap.size := by
  obtain ⟨A, c, rfl, h⟩ := h
  obtain ⟨b', cs, rfl, hb', _⟩ := h hl
  cases hb
  exact hb'.lt
theorem Sees.shape (h : Sees W e v xs) : ∃ A c, v = .slice A xs.length c := by
  obtain ⟨A, c, rfl, _⟩ := h
  exact ⟨A, c, rfl⟩
theorem Sees.cell (h : Sees W e v xs) {A : Option Addr} {n c j : Nat} (hv : v = .slice A n c) {u : Value} (hu : xs[j]? = some u) : ∃ b, A = some ⟨b, 0, none⟩ ∧ W.cell? ⟨b, j, none⟩ = some u := by
  obtain ⟨A', c', rfl, h⟩ := h
  obtain ⟨b, cs, rfl, hb, hx⟩ := h (by have := (List.getElem?_eq_some_iff.1 hu).1; omega)
  cases hv
  exact ⟨b, rfl, (hb.cell j).trans (hx j u hu)⟩
theorem Sees.app (h : Sees W e v xs) {N : Nat} {u : Value} (how : HowApp W 1 N 1 [u] l l' W') (hs : ∀ b, v.ownBlock = some b → l.ownBlock = some b → xs.length ≤ N) : Sees W' e v xs := by
  rcases how with ⟨g, cap, rfl, _, rfl, rfl⟩ | ⟨_, h0, _⟩ | ⟨hb, _⟩
  · obtain ⟨A, c, rfl, h⟩ := h
    refine ⟨A, c, rfl, fun hl => ?_⟩
    obtain ⟨b, cs, rfl, hb, hx⟩ := h hl
    by_cases e : b = g
    · subst e
      have hN := hs b rfl rfl
      refine ⟨b, cs.setIfInBounds (N * 1) u, rfl, hb.set_ _ _, fun j y hj => ?_⟩
      have hjl := (List.getElem?_eq_some_iff.1 hj).1
      rw [Array.getElem?_setIfInBounds_ne (by omega)]
      exact hx j y hj
    · exact ⟨b, cs, rfl, hb.far e u, hx⟩
  · omega
  · exact h.below hb
end

section
variable {P : Program}
theorem run_append_row (w : World) (t tx ty e : TypeId) (i : TypeInfo) (z : Value) (bytes : Nat) (ht : P.underlying t = some (.slice e)) (hi : P.info? e = some i) (hz : i.zero = some z)
    (hsize : i.size = 1) (hby : i.bytes = bytes) (hzs : z.cells.size = 1)
    (v : Value) (n : Nat) (xs : List Value) (h : Row w e v n xs) (x u : Value) (hs : Src P 1 tx x 1 [u] w)
    (h63 : n + 1 ≤ maxLen) (hbytes : (n + 1) * bytes ≤ 140737488355328) :
    ∃ v' w', (Builtin.append_ #[t, tx] ty #[v, x]).run P w = .ok v' w' ∧ Row w' e v' (n + 1) (xs ++ [u]) ∧ HowApp w 1 n 1 [u] v v' w' := by
  have hsmall : n + 1 ≤ 9223372036854775807 := by simp only [maxLen] at h63; omega
  subst hby
  have hs1 : Src P i.size tx x 1 [u] w := hsize.symm ▸ hs
  have hlen : (xs ++ [u]).length = n + 1 := by rw [List.length_append, h.1]; rfl
  have grown : ∀ (old : Nat), old < n + 1 →
      Row (w.drew.alloc (.cells ((xs ++ [u]).toArray ++ Builtin.zeroCells z.cells (grownCap w (n + 1) old e - (n + 1))) e)) e
        (.slice (some ⟨w.heap.size, 0, none⟩) (n + 1) (grownCap w (n + 1) old e)) (n + 1) (xs ++ [u]) ∧
      Below w.heap.size w (w.drew.alloc (.cells ((xs ++ [u]).toArray ++ Builtin.zeroCells z.cells (grownCap w (n + 1) old e - (n + 1))) e)) := by
    intro old ho
    have hge := grownCap_ge w (n + 1) old e
    have hcm : grownCap w (n + 1) old e ≤ maxLen := grownCap_le_maxLen w (n + 1) old e h63
    refine ⟨⟨hlen, .inr ⟨w.heap.size, _, _, rfl, heap_alloc_new w.drew _, hge, hcm, ?_, ?_⟩⟩, ((Below.refl _ _).drew).alloc (Nat.le_refl _) _⟩
    · simp only [Array.size_append, List.size_toArray, size_zeroCells, hzs, hlen, Nat.mul_one]
      omega
    · simp only [Array.toList_append]
      rw [← hlen]
      exact List.take_left
  rcases h.2 with ⟨rfl, rfl⟩ | ⟨g, cap, cur, rfl, hg, hnc, hcm, hcs, htake⟩
  · have hx : xs = [] := List.eq_nil_of_length_eq_zero h.1
    subst hx
    have hr := run_append_grow_src (P := P) w t tx ty e i z ht hi hz none 0 0 [] (by simp [Builtin.firstCells]) x 1 [u] hs1 (by omega) (by omega) (growslice_fits (by omega) hbytes)
    have hgr := grown 0 (by omega)
    exact ⟨_, _, hr, hgr.1, .inr (.inr ⟨hgr.2, rfl⟩)⟩
  · by_cases hroom : n + 1 ≤ cap
    · have hfit : n * i.size + [u].length ≤ cur.size := by rw [hsize]; simp; omega
      have hr := run_append_room_src (P := P) w t tx ty e i ht hi g 0 n cap x 1 [u] hs1 hroom (fun j hj => by
        rw [Nat.zero_add, cell_of_row w g _ cur e (0, 0) hg, Array.getElem?_eq_getElem (by omega)]
        rfl) (fun j hj => by simp [World.frozen?, hg])
      rw [Nat.zero_add, hsize] at hr
      refine ⟨_, _, hr, ?_, .inl ⟨g, cap, rfl, hroom, rfl, rfl⟩⟩
      obtain ⟨cur', h1, h2⟩ := setCells_heap [u] (n * 1) cur w hg (by simp; omega)
      refine ⟨hlen, .inr ⟨g, cap, cur', rfl, h1, hroom, hcm, ?_, ?_⟩⟩
      · rw [← Array.length_toList, h2]
        simp only [List.length_append, List.length_take, List.length_drop, Array.length_toList]
        simp
        omega
      · rw [h2, Nat.mul_one, htake, ← List.append_assoc, ← hlen]
        exact List.take_left
    · have holds : ∀ j u, xs[j]? = some u → w.cell? ((⟨g, 0, none⟩ : Addr).add j) = some u := fun j u hu => by
        have hadd : (⟨g, 0, none⟩ : Addr).add j = ⟨g, j, none⟩ := by unfold Addr.add; split <;> simp_all
        rw [hadd, h.cellAt (by have := (List.getElem?_eq_some_iff.1 hu).1; have := h.1; omega)]
        exact hu
      have hr := run_append_grow_src (P := P) w t tx ty e i z ht hi hz (some ⟨g, 0, none⟩) n cap xs (run_firstCells_some w.drew i.size n _ n cap xs (by rw [hsize]; have := h.1; omega) (by simpa using holds)) x 1 [u] hs1 (by omega) (by omega) (growslice_fits (by omega) hbytes)
      have hgr := grown cap (by omega)
      exact ⟨_, _, hr, hgr.1, .inr (.inr ⟨hgr.2, rfl⟩)⟩
theorem wpList_app_row (w : World) {ops : Array Oper} {rest : List Oper} {o : Oper} {a : Act} {Q : Exit → Act → World → Prop} (hgd : o.guard = none) (s x : Operand) (t tx : TypeId)
    (ho : o.op = .call { callee := .builtin .append, args := #[s, x], argTypes := #[t, tx] })
    {e : TypeId} {bytes : Nat} (E : ElemOf P t e 1 bytes)
    (v : Value) (n : Nat) (xs : List Value) (hs : a.eval s = v) (h0 : Row w e v n xs)
    (xv u : Value) (hx : a.eval x = xv) (hsrc : Src P 1 tx xv 1 [u] w)
    (hbytes : n + 1 ≤ maxLen ∧ (n + 1) * bytes ≤ 140737488355328)
    (h : ∀ v' w', Row w' e v' (n + 1) (xs ++ [u]) → HowApp w 1 n 1 [u] v v' w' → wpList P ops Q rest (a.put o.dst v') w') : wpList P ops Q (o :: rest) a w := by
  obtain ⟨⟨i, z, h2, h3, h4, h5, h6, h7⟩, hp⟩ := E
  refine wpList_plain hgd fun _ hK => ?_
  obtain ⟨v', w', hrun, g2, g3⟩ := run_append_row (P := P) w t tx o.type e i z bytes h2 h3 h4 h5 h6 h7 v n xs h0 xv u hsrc hbytes.1 hbytes.2
  unfold Oper.wp execOp
  simp only [ho, resolve, invoke, builtin, Sem.run_bind, Sem.run_pure, Result.andThen_ok, List.map_toArray, List.map_cons, List.map_nil, hs, hx, hrun]
  exact hK _ _ (h v' w' g2 g3)
end
end Go.Proofs.Ytmcpbmadjpjckaa
