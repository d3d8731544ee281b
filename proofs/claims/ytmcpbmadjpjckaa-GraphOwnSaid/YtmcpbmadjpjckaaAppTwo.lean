/-
  append onto a row of the call's own from whatever source, told exactly: in place, or into a new block while nothing old turns. No program in sight.
-/
import Derived.Test.YtmcpbmadjpjckaaWords
import Derived.Deep.AppendSrc
import Derived.Deep.Upon
namespace Go.Proofs.Ytmcpbmadjpjckaa
open Go.RowKit

theorem setCells_heap {g : Nat} {e : TypeId} {fr : Nat × Nat} : ∀ (vs : List Value) (o : Nat) (cur : Array Value) (w : World), w.heap[g]? = some (.cells cur e fr) → o + vs.length ≤ cur.size →
    ∃ cur' : Array Value, (w.setCells g o vs).heap[g]? = some (.cells cur' e fr) ∧ cur'.toList = cur.toList.take o ++ (vs ++ cur.toList.drop (o + vs.length))
  | [], o, cur, w, h, _ => ⟨cur, h, by simp⟩
  | v :: vs, o, cur, w, h, hl => by
    simp only [List.length_cons] at hl
    have h1 : (w.setCell ⟨g, o, none⟩ v).heap[g]? = some (.cells (cur.setIfInBounds o v) e fr) := by simp [World.setCell, Array.getElem?_modify, h]
    obtain ⟨cur', h2, h3⟩ := setCells_heap vs (o + 1) _ _ h1 (by simp; omega)
    refine ⟨cur', h2, h3.trans ?_⟩
    have ho : o < cur.toList.length := by rw [Array.length_toList]; omega
    rw [Array.toList_setIfInBounds, List.take_set, List.drop_set]
    rw [if_pos (by omega)]
    rw [List.take_add_one, List.getElem?_eq_getElem ho]
    have hlt : (cur.toList.take o).length = o := by rw [List.length_take]; omega
    rw [List.set_append_right _ _ (by omega), hlt, Nat.sub_self]
    simp [Nat.add_assoc, Nat.add_comm 1]
theorem setCells_frame (g : Nat) : ∀ (vs : List Value) (o : Nat) (w : World), (w.setCells g o vs).tape = w.tape ∧ (w.setCells g o vs).heap.size = w.heap.size
  | [], _, _ => ⟨rfl, rfl⟩
  | v :: vs, o, w => by
    have := setCells_frame g vs (o + 1) (w.setCell ⟨g, o, none⟩ v)
    exact ⟨this.1, this.2.trans (by simp [World.setCell])⟩
section
variable {P : Program}
theorem ownsRow_setCells {w : World} {base : Nat} {e : TypeId} {size n m g cap : Nat} {xs news : List Value} (h : w.ownsRow base e size (.slice (some ⟨g, 0, none⟩) n cap) n xs) (hl : news.length = m * size) (hroom : n + m ≤ cap) :
    (w.setCells g (n * size) news).ownsRow base e size (.slice (some ⟨g, 0, none⟩) (n + m) cap) (n + m) (xs ++ news) := by
  have hx := h.1
  rcases h.2 with ⟨h', _⟩ | ⟨g', cap', cur, h', hb, hh, hnc, hcm, hcs, ht⟩
  · cases h'
  · cases h'
    have hfit : n * size + news.length ≤ cur.size := by rw [hl, hcs, ← Nat.add_mul]; exact Nat.mul_le_mul_right _ hroom
    obtain ⟨cur', h1, h2⟩ := setCells_heap news (n * size) cur w hh hfit
    refine ⟨by rw [List.length_append, hx, hl, Nat.add_mul], .inr ⟨g, cap, cur', rfl, hb, h1, hroom, hcm, ?_, ?_⟩⟩
    · rw [← Array.length_toList, h2]
      simp only [List.length_append, List.length_take, List.length_drop, Array.length_toList]
      omega
    · rw [h2, ht, ← List.append_assoc, show (n + m) * size = (xs ++ news).length by rw [List.length_append, hx, hl, Nat.add_mul]]
      exact List.take_left
/-- How an append came about: in place, not at all, or into a new block. -/
def HowApp (w : World) (size n m : Nat) (news : List Value) (v v' : Value) (w' : World) : Prop :=
  (∃ g cap, v = .slice (some ⟨g, 0, none⟩) n cap ∧ n + m ≤ cap ∧ v' = .slice (some ⟨g, 0, none⟩) (n + m) cap ∧ w' = w.setCells g (n * size) news) ∨
  (v' = v ∧ m = 0 ∧ w' = w) ∨ (Below w.heap.size w w' ∧ v'.ownBlock = some w.heap.size)
theorem run_append_two (w : World) (base : Nat) (t tx ty e : TypeId) (i : TypeInfo) (z : Value) (size bytes : Nat) (ht : P.underlying t = some (.slice e)) (hi : P.info? e = some i) (hz : i.zero = some z)
    (hsize : i.size = size) (hby : i.bytes = bytes) (hzs : z.cells.size = size) (hsz : 0 < size)
    (v : Value) (n : Nat) (xs : List Value) (hown : w.ownsRow base e size v n xs) (x : Value) (m : Nat) (news : List Value) (hs : Src P size tx x m news w)
    (h63 : n + m ≤ maxLen) (hbytes : (n + m) * bytes ≤ 140737488355328) (hbase : base ≤ w.heap.size) :
    ∃ v' w', (Builtin.append_ #[t, tx] ty #[v, x]).run P w = .ok v' w' ∧ w'.ownsRow base e size v' (n + m) (xs ++ news) ∧ HowApp w size n m news v v' w' := by
  subst hsize
  subst hby
  have hl := hs.newsLen
  have hsmall : n + m ≤ 9223372036854775807 := by simp only [maxLen] at h63; omega
  have hlen : (xs ++ news).length = (n + m) * i.size := by rw [List.length_append, hown.1, hl, Nat.add_mul]
  have grown : ∀ (old : Nat), old < n + m →
      (w.drew.alloc (.cells ((xs ++ news).toArray ++ Builtin.zeroCells z.cells (grownCap w (n + m) old e - (n + m))) e)).ownsRow base e i.size
        (.slice (some ⟨w.heap.size, 0, none⟩) (n + m) (grownCap w (n + m) old e)) (n + m) (xs ++ news) ∧
      Below w.heap.size w (w.drew.alloc (.cells ((xs ++ news).toArray ++ Builtin.zeroCells z.cells (grownCap w (n + m) old e - (n + m))) e)) := by
    intro old ho
    have hge := grownCap_ge w (n + m) old e
    have hcm : grownCap w (n + m) old e ≤ maxLen := grownCap_le_maxLen w (n + m) old e h63
    refine ⟨⟨hlen, .inr ⟨w.heap.size, _, _, rfl, hbase, heap_alloc_new w.drew _, hge, hcm, ?_, ?_⟩⟩, ((Below.refl _ _).drew).alloc (Nat.le_refl _) _⟩
    · simp only [Array.size_append, List.size_toArray, size_zeroCells, hzs, hlen, ← Nat.add_mul]
      congr 1
      omega
    · simp only [Array.toList_append]
      rw [← hlen]
      exact List.take_left
  rcases hown.2 with ⟨rfl, rfl⟩ | ⟨g, cap, cur, rfl, hbg, hg, hnc, hcm, hcs, htake⟩
  · have hx : xs = [] := List.eq_nil_of_length_eq_zero (by simpa using hown.1)
    subst hx
    by_cases hm : m = 0
    · subst hm
      have hn : news = [] := List.eq_nil_of_length_eq_zero (by simpa using hl)
      subst hn
      refine ⟨.slice none 0 0, w, ?_, World.ownsRow_nil w base e i.size, .inr (.inl ⟨rfl, rfl, rfl⟩)⟩
      rcases hs.kind with ⟨e', hk⟩ | hk <;> simp [Builtin.append_, run_underlying ht, run_underlying hk, sizeOf, typeInfo, hi, hs.len, hs.cells]
    · have hr := run_append_grow_src (P := P) w t tx ty e i z ht hi hz none 0 0 [] (by simp [Builtin.firstCells]) x m news hs (by omega) (by omega) (growslice_fits (by omega) hbytes)
      have hgr := grown 0 (by omega)
      exact ⟨_, _, hr, hgr.1, .inr (.inr ⟨hgr.2, rfl⟩)⟩
  · by_cases hroom : n + m ≤ cap
    · have hfit : n * i.size + news.length ≤ cur.size := by rw [hl, hcs, ← Nat.add_mul]; exact Nat.mul_le_mul_right _ hroom
      have hr := run_append_room_src (P := P) w t tx ty e i ht hi g 0 n cap x m news hs hroom (fun j hj => by
        rw [Nat.zero_add, cell_of_row w g _ cur e (0, 0) hg, Array.getElem?_eq_getElem (by omega)]
        rfl) (fun j hj => by simp [World.frozen?, hg])
      rw [Nat.zero_add] at hr
      exact ⟨_, _, hr, ownsRow_setCells hown hl hroom, .inl ⟨g, cap, rfl, hroom, rfl, rfl⟩⟩
    · have holds : ∀ j u, xs[j]? = some u → w.cell? ((⟨g, 0, none⟩ : Addr).add j) = some u := hown.cells (g := g) rfl
      have hr := run_append_grow_src (P := P) w t tx ty e i z ht hi hz (some ⟨g, 0, none⟩) n cap xs (run_firstCells_some w.drew i.size n _ n cap xs hown.1 (by simpa using holds)) x m news hs (by omega) (by omega) (growslice_fits (by omega) hbytes)
      have hgr := grown cap (by omega)
      exact ⟨_, _, hr, hgr.1, .inr (.inr ⟨hgr.2, rfl⟩)⟩
theorem HowApp.grown {w w' : World} {size n m : Nat} {news : List Value} {v v' : Value} (h : HowApp w size n m news v v' w') : w.grownBy w' v.ownBlock ∧ (v'.ownBlock = v.ownBlock ∨ v'.ownBlock = some w.heap.size) := by
  rcases h with ⟨g, cap, rfl, _, rfl, rfl⟩ | ⟨rfl, _, rfl⟩ | ⟨hb, hv⟩
  · refine ⟨⟨World.os_setCells _ _ _ _, ?_, World.output_setCells _ _ _ _, ?_, fun i hi hne => World.heap_setCells_other _ _ _ _ hi (fun e => hne (by simp [Value.ownBlock, e]))⟩, .inl rfl⟩
    · exact (setCells_frame _ _ _ w).1
    · exact Nat.le_of_eq (setCells_frame _ _ _ w).2.symm
  · exact ⟨World.grownBy.refl _ _, .inl rfl⟩
  · exact ⟨only_of_below hb _, .inr hv⟩

theorem wpList_app_src (w : World) {ops : Array Oper} {rest : List Oper} {o : Oper} {a : Act} {Q : Exit → Act → World → Prop} (hgd : o.guard = none) (s x : Operand) (t tx : TypeId)
    (ho : o.op = .call { callee := .builtin .append, args := #[s, x], argTypes := #[t, tx] })
    {e : TypeId} {size bytes : Nat} (E : ElemOf P t e size bytes) (base : Nat)
    (v : Value) (n : Nat) (xs : List Value) (hs : a.eval s = v) (hown : w.ownsRow base e size v n xs)
    (xv : Value) (m : Nat) (news : List Value) (hx : a.eval x = xv) (hsrc : Src P size tx xv m news w)
    (hbytes : n + m ≤ maxLen ∧ (n + m) * bytes ≤ 140737488355328) (hbase : base ≤ w.heap.size)
    (h : ∀ v' w', w'.ownsRow base e size v' (n + m) (xs ++ news) → HowApp w size n m news v v' w' → wpList P ops Q rest (a.put o.dst v') w') : wpList P ops Q (o :: rest) a w := by
  obtain ⟨⟨i, z, h2, h3, h4, h5, h6, h7⟩, hp⟩ := E
  refine wpList_plain hgd fun _ hK => ?_
  obtain ⟨v', w', hrun, g2, g3⟩ := run_append_two (P := P) w base t tx o.type e i z size bytes h2 h3 h4 h5 h6 h7 hp v n xs hown xv m news hsrc hbytes.1 hbytes.2 hbase
  unfold Oper.wp execOp
  simp only [ho, resolve, invoke, builtin, Sem.run_bind, Sem.run_pure, Result.andThen_ok, List.map_toArray, List.map_cons, List.map_nil, hs, hx, hrun]
  exact hK _ _ (h v' w' g2 g3)
end
end Go.Proofs.Ytmcpbmadjpjckaa
