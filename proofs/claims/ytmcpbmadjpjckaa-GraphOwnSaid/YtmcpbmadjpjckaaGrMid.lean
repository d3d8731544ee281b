/-
  A slice that has been cut from its front ('row = row[1:]'), of the caller's own, and append of one element onto it. No program in sight.
-/
import Derived.Test.YtmcpbmadjpjckaaAppTwo
namespace Go.Proofs.Ytmcpbmadjpjckaa
open Go.RowKit

/-- A slice in the midst of a block that is the caller's own. -/
def Mid (w : World) (B : Nat) (e : TypeId) (v : Value) (n : Nat) (xs : List Value) : Prop :=
  xs.length = n ∧ ((v = .slice none 0 0 ∧ n = 0) ∨ ∃ g off cap cur, v = .slice (some ⟨g, off, none⟩) n cap ∧ B ≤ g ∧ w.heap[g]? = some (.cells cur e (0, 0)) ∧ n ≤ cap ∧ cap ≤ maxLen ∧ off + cap ≤ cur.size ∧ (cur.toList.drop off).take n = xs)
section
variable {w w1 : World} {B : Nat} {e : TypeId} {v : Value} {n : Nat} {xs : List Value}
theorem Mid.nil_ (w : World) (B : Nat) (e : TypeId) : Mid w B e (.slice none 0 0) 0 [] := ⟨rfl, .inl ⟨rfl, rfl⟩⟩
theorem Mid.shape (h : Mid w B e v n xs) : ∃ A c, v = .slice A n c := by
  rcases h.2 with ⟨rfl, rfl⟩ | ⟨g, off, cap, cur, rfl, _⟩
  · exact ⟨_, _, rfl⟩
  · exact ⟨_, _, rfl⟩
theorem Mid.lt (h : Mid w B e v n xs) {b : Nat} (hb : v.ownBlock = some b) : B ≤ b ∧ b < w.heap.size := by
  rcases h.2 with ⟨rfl, rfl⟩ | ⟨g, off, cap, cur, rfl, hB, hg, _⟩
  · cases hb
  · have : g = b := by simpa [Value.ownBlock] using hb
    subst this
    exact ⟨hB, (Array.getElem?_eq_some_iff.1 hg).1⟩
theorem Mid.chg {S : Nat → Prop} (h : Mid w B e v n xs) (hc : Chg w w1 S) (hS : ∀ b, v.ownBlock = some b → ¬ S b) : Mid w1 B e v n xs := by
  refine ⟨h.1, ?_⟩
  rcases h.2 with h' | ⟨g, off, cap, cur, rfl, hB, hg, hr⟩
  · exact .inl h'
  · exact .inr ⟨g, off, cap, cur, rfl, hB, (hc.block g (Array.getElem?_eq_some_iff.1 hg).1 (hS g (by simp [Value.ownBlock]))).trans hg, hr⟩
theorem Mid.form {A : Option Addr} {c : Nat} (h : Mid w B e (.slice A n c) n xs) (hn : 0 < n) : ∃ g off, A = some ⟨g, off, none⟩ ∧ B ≤ g ∧ g < w.heap.size ∧ n ≤ c ∧ c ≤ maxLen ∧ ∀ k, k < n → w.cell? ⟨g, off + k, none⟩ = xs[k]? := by
  rcases h.2 with ⟨hv, h0⟩ | ⟨g, off, cap, cur, hv, hB, hg, h1, h2, h3, h4⟩
  · omega
  · cases hv
    refine ⟨g, off, rfl, hB, (Array.getElem?_eq_some_iff.1 hg).1, h1, h2, fun k hk => ?_⟩
    rw [cell_of_row w g _ cur e (0, 0) hg, ← h4, List.getElem?_take, if_pos hk, List.getElem?_drop]
    simp
theorem Mid.cut {A : Option Addr} {c : Nat} {x : Value} (h : Mid w B e (.slice A (n + 1) c) (n + 1) (x :: xs)) : Mid w B e (.slice (if c = 1 then A else A.map (·.add (1 * 1))) n (c - 1)) n xs := by
  rcases h.2 with ⟨hv, h0⟩ | ⟨g, off, cap, cur, hv, hB, hg, h1, h2, h3, h4⟩
  · cases hv
  · cases hv
    have hl : xs.length = n := by have := h.1; simpa using this
    refine ⟨hl, .inr ?_⟩
    by_cases e1 : c = 1
    · have hn : n = 0 := by omega
      subst hn
      have hx : xs = [] := List.eq_nil_of_length_eq_zero hl
      subst hx
      rw [if_pos e1]
      exact ⟨g, off, c - 1, cur, rfl, hB, hg, by omega, by omega, by omega, by simp⟩
    · rw [if_neg e1]
      refine ⟨g, off + 1, c - 1, cur, ?_, hB, hg, by omega, by omega, by omega, ?_⟩
      · simp [Addr.add]
      · have h5 : (cur.toList.drop off).take (n + 1) = x :: xs := h4
        have h6 : ((cur.toList.drop off).take (n + 1)).drop 1 = xs := by rw [h5]; rfl
        rw [List.drop_take, List.drop_drop] at h6
        exact h6
end

section
variable {P : Program}
theorem run_append_mid (w : World) (t tx ty e : TypeId) {bytes : Nat} (E : ElemOf P t e 1 bytes) (B : Nat)
    (v : Value) (n : Nat) (xs : List Value) (h : Mid w B e v n xs) (x u : Value) (hs : Src P 1 tx x 1 [u] w)
    (hb : n + 1 ≤ maxLen ∧ (n + 1) * bytes ≤ 140737488355328) (hB : B ≤ w.heap.size) :
    ∃ v' w', (Builtin.append_ #[t, tx] ty #[v, x]).run P w = .ok v' w' ∧ Mid w' B e v' (n + 1) (xs ++ [u]) ∧ w.grownBy w' v.ownBlock ∧ (v'.ownBlock = v.ownBlock ∨ v'.ownBlock = some w.heap.size) := by
  obtain ⟨⟨i, z, ht, hi, hz, hsize, hby, hzs⟩, _⟩ := E
  obtain ⟨h63, hbytes⟩ := hb
  have hsmall : n + 1 ≤ 9223372036854775807 := by simp only [maxLen] at h63; omega
  subst hby
  have hs1 : Src P i.size tx x 1 [u] w := hsize.symm ▸ hs
  have hlen : (xs ++ [u]).length = n + 1 := by rw [List.length_append, h.1]; rfl
  have grown : ∀ (old : Nat), old < n + 1 →
      Mid (w.drew.alloc (.cells ((xs ++ [u]).toArray ++ Builtin.zeroCells z.cells (grownCap w (n + 1) old e - (n + 1))) e)) B e
        (.slice (some ⟨w.heap.size, 0, none⟩) (n + 1) (grownCap w (n + 1) old e)) (n + 1) (xs ++ [u]) ∧
      Below w.heap.size w (w.drew.alloc (.cells ((xs ++ [u]).toArray ++ Builtin.zeroCells z.cells (grownCap w (n + 1) old e - (n + 1))) e)) := by
    intro old ho
    have hge := grownCap_ge w (n + 1) old e
    have hcm : grownCap w (n + 1) old e ≤ maxLen := grownCap_le_maxLen w (n + 1) old e h63
    refine ⟨⟨hlen, .inr ⟨w.heap.size, 0, _, _, rfl, hB, heap_alloc_new w.drew _, hge, hcm, ?_, ?_⟩⟩, ((Below.refl _ _).drew).alloc (Nat.le_refl _) _⟩
    · simp only [Array.size_append, List.size_toArray, size_zeroCells, hzs, hlen, Nat.mul_one]
      omega
    · simp only [Array.toList_append, List.drop_zero]
      rw [← hlen]
      exact List.take_left
  rcases h.2 with ⟨rfl, rfl⟩ | ⟨g, off, cap, cur, rfl, hgB, hg, hnc, hcm, hcs, htake⟩
  · have hx : xs = [] := List.eq_nil_of_length_eq_zero h.1
    subst hx
    have hr := run_append_grow_src (P := P) w t tx ty e i z ht hi hz none 0 0 [] (by simp [Builtin.firstCells]) x 1 [u] hs1 (by omega) (by omega) (growslice_fits (by omega) hbytes)
    have hgr := grown 0 (by omega)
    exact ⟨_, _, hr, hgr.1, only_of_below hgr.2 _, .inr rfl⟩
  · by_cases hroom : n + 1 ≤ cap
    · have hr := run_append_room_src (P := P) w t tx ty e i ht hi g off n cap x 1 [u] hs1 hroom (fun j hj => by
        have : j = 0 := by simpa using hj
        subst this
        rw [cell_of_row w g _ cur e (0, 0) hg, hsize, Array.getElem?_eq_getElem (by omega)]
        rfl) (fun j hj => by simp [World.frozen?, hg])
      rw [hsize, Nat.mul_one] at hr
      have hset : w.setCells g (off + n) [u] = w.setCell ⟨g, off + n, none⟩ u := rfl
      rw [hset] at hr
      refine ⟨_, _, hr, ⟨hlen, .inr ⟨g, off, cap, cur.setIfInBounds (off + n) u, rfl, hgB, Blk.set_ hg (off + n) u, hroom, hcm, by simpa using hcs, ?_⟩⟩, ?_, .inl rfl⟩
      · apply List.ext_getElem?
        intro j
        have hx : ∀ j, j < n → cur.toList[off + j]? = xs[j]? := fun j hj => by rw [← htake, List.getElem?_take, if_pos hj, List.getElem?_drop]
        rw [List.getElem?_take, List.getElem?_drop, Array.toList_setIfInBounds]
        by_cases hj : j < n
        · rw [if_pos (by omega), List.getElem?_set_ne (by omega), hx j hj, List.getElem?_append_left (by have := h.1; omega)]
        · by_cases hj2 : j = n
          · subst hj2
            rw [if_pos (by omega), List.getElem?_set_self (by rw [Array.length_toList]; omega), List.getElem?_append_right (by have := h.1; omega)]
            have := h.1
            simp [this]
          · rw [if_neg (by omega), List.getElem?_eq_none (by omega)]
      · exact only_setCell (World.grownBy.refl w _) (.inl rfl) u
    · have hr := run_append_grow_src (P := P) w t tx ty e i z ht hi hz (some ⟨g, off, none⟩) n cap xs (run_firstCells_some w.drew i.size n _ n cap xs (by rw [hsize]; have := h.1; omega) (fun j u hu => by
        have hadd : (⟨g, off, none⟩ : Addr).add j = ⟨g, off + j, none⟩ := by unfold Addr.add; split <;> simp_all
        rw [hadd]
        show w.cell? _ = _
        rw [cell_of_row w g _ cur e (0, 0) hg]
        have hj : j < n := by have := (List.getElem?_eq_some_iff.1 hu).1; have := h.1; omega
        rw [← hu, ← htake, List.getElem?_take, if_pos hj, List.getElem?_drop]
        simp)) x 1 [u] hs1 (by omega) (by omega) (growslice_fits (by omega) hbytes)
      have hgr := grown cap (by omega)
      exact ⟨_, _, hr, hgr.1, only_of_below hgr.2 _, .inr rfl⟩
/-- One element, which the statement has just laid into a block of its own. -/
theorem run_append_mid1 (w : World) (t : TypeId) {e : TypeId} {bytes : Nat} (E : ElemOf P t e 1 bytes) (B : Nat)
    (v : Value) (n : Nat) (xs : List Value) (h : Mid w B e v n xs) (u : Value) (h1 : u.oneCell' = true)
    (hb : n + 1 ≤ maxLen ∧ (n + 1) * bytes ≤ 140737488355328) (hB : B ≤ w.heap.size) (ty : TypeId) :
    ∃ v' w', (Builtin.append_ #[t, t] ty #[v, .slice (some ⟨w.heap.size, 0, none⟩) 1 1]).run P (w.alloc (.cells #[u] e)) = .ok v' w' ∧ Mid w' B e v' (n + 1) (xs ++ [u]) ∧ w.grownBy w' v.ownBlock ∧ (v'.ownBlock = v.ownBlock ∨ ∃ g, v'.ownBlock = some g ∧ w.heap.size ≤ g) := by
  have h2 : Mid (w.alloc (.cells #[u] e)) B e v n xs := h.chg (Chg.of_below ((Below.refl _ _).alloc (Nat.le_refl _) _) (fun _ => False)) (fun _ _ h => h)
  obtain ⟨⟨i, z, ht, hi, hz, hsize, hby, hzs⟩, h0⟩ := E
  have hs : Src P 1 t (.slice (some ⟨w.heap.size, 0, none⟩) 1 1) 1 [u] (w.alloc (.cells #[u] e)) := Src.ofSlice _ ht ⟨w.heap.size, 0, none⟩ 1 1 _ rfl (fun j u' hu => by
      match j, hu with
      | 0, hu =>
        simp at hu
        subst hu
        simp [Addr.add, World.cell?_alloc_at]) (by
      intro u' hu
      simp at hu
      subst hu
      exact h1)
  obtain ⟨v', w', hr, hm, hg, hv⟩ := run_append_mid (P := P) (w.alloc (.cells #[u] e)) t t ty e ⟨⟨i, z, ht, hi, hz, hsize, hby, hzs⟩, h0⟩ B v n xs h2 _ u hs hb (by simp; omega)
  refine ⟨v', w', hr, hm, ⟨hg.os, hg.tape, hg.output, Nat.le_trans (by simp) hg.size, fun k hk hne => (hg.block k (by simp; omega) hne).trans (Below.heap_alloc w _ k hk)⟩, ?_⟩
  rcases hv with hv | hv
  · exact .inl hv
  · exact .inr ⟨_, hv, by simp⟩
theorem wpList_mid1 (w : World) {ops : Array Oper} {rest : List Oper} {o : Oper} {a : Act} {Q : Exit → Act → World → Prop} (hgd : o.guard = none) (s x : Operand) (t : TypeId)
    (ho : o.op = .call { callee := .builtin .append, args := #[s, x], argTypes := #[t, t] })
    {e : TypeId} {bytes : Nat} (E : ElemOf P t e 1 bytes) (B : Nat)
    (v : Value) (n : Nat) (xs : List Value) (hs : a.eval s = v) (h0 : Mid w B e v n xs)
    (u : Value) (gn : Nat) (hgn : w.heap.size = gn) (hx : a.eval x = .slice (some ⟨gn, 0, none⟩) 1 1) (h1 : u.oneCell' = true)
    (hbytes : n + 1 ≤ maxLen ∧ (n + 1) * bytes ≤ 140737488355328) (hB : B ≤ w.heap.size)
    (h : ∀ v' w', Mid w' B e v' (n + 1) (xs ++ [u]) → w.grownBy w' v.ownBlock → (v'.ownBlock = v.ownBlock ∨ ∃ g, v'.ownBlock = some g ∧ w.heap.size ≤ g) → wpList P ops Q rest (a.put o.dst v') w') :
    wpList P ops Q (o :: rest) a (w.alloc (.cells #[u] e)) := by
  subst hgn
  refine wpList_plain hgd fun _ hK => ?_
  obtain ⟨v', w', hrun, g2, g3, g4⟩ := run_append_mid1 (P := P) w t E B v n xs h0 u h1 hbytes hB o.type
  unfold Oper.wp execOp
  simp only [ho, resolve, invoke, builtin, Sem.run_bind, Sem.run_pure, Result.andThen_ok, List.map_toArray, List.map_cons, List.map_nil, hs, hx, hrun]
  exact hK _ _ (h v' w' g2 g3 g4)
end
end Go.Proofs.Ytmcpbmadjpjckaa
