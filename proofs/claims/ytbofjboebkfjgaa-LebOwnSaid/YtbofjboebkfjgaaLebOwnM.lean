/-
  Memory words for LebOwn: rows of the call's own that lie apart; slices that stay readable while others grow. No program in sight but its types' numbers.
-/
import Derived.Test.YtbofjboebkfjgaaLebPuts4
import Derived.Test.YtbofjboebkfjgaaLebRd2
namespace Go.Proofs.Ytbofjboebkfjgaa
open Go.RowKit

def fa (i : Nat) : UInt8 := UInt8.ofNat (3 * i)
def fb (i : Nat) : UInt8 := UInt8.ofNat (3 * i + 1)
theorem bv_fa {i : Nat} (h : i < 9) : bv (fa i) = .int .u8 (3 * (i : Int)) := by
  have : (fa i).toNat = 3 * i := by unfold fa; rw [UInt8.toNat_ofNat']; omega
  rw [bv, this]
  congr 1
theorem bv_fb {i : Nat} (h : i < 9) : bv (fb i) = .int .u8 (3 * (i : Int) + 1) := by
  have : (fb i).toNat = 3 * i + 1 := by unfold fb; rw [UInt8.toNat_ofNat']; omega
  rw [bv, this]
  congr 1
def fills (n i : Nat) : List UInt8 := List.replicate n (fa i)
def grows (n i k : Nat) : List UInt8 := fills n i ++ List.replicate k (fb i)
theorem fills_len (n i : Nat) : (fills n i).length = n := by simp [fills]
theorem grows_len (n i k : Nat) : (grows n i k).length = n + k := by simp [grows, fills]
theorem grows_zero (n i : Nat) : grows n i 0 = fills n i := by simp [grows]
theorem grows_succ (n i k : Nat) : grows n i (k + 1) = grows n i k ++ [fb i] := by simp [grows, List.replicate_succ']
theorem fills_at {n i j : Nat} (h : j < n) : (fills n i)[j]? = some (fa i) := by simp [fills, h]
theorem grows_front {n i k j : Nat} (h : j < n) : (grows n i k)[j]? = some (fa i) := by
  rw [grows, List.getElem?_append_left (by rw [fills_len]; exact h), fills_at h]
theorem grows_back {n i k j : Nat} (h : n ≤ j) (h2 : j < n + k) : (grows n i k)[j]? = some (fb i) := by
  rw [grows, List.getElem?_append_right (by rw [fills_len]; exact h), fills_len, List.getElem?_replicate, if_pos (by omega)]

theorem set_take {l : List UInt8} {k i : Nat} (hk : k < l.length) (h : l.take k = fills k i) : (l.set k (fa i)).take (k + 1) = fills (k + 1) i := by
  rw [List.take_add_one, List.take_set, List.set_eq_of_length_le (by rw [List.length_take]; omega), h, List.getElem?_set_self hk]
  simp [fills, List.replicate_succ']

/-- k rows of the call's own, apart. -/
structure OwnRows (L0 : Nat) (W : World) (k : Nat) (V : Nat → Value) (xs : Nat → List UInt8) : Prop where
  own : ∀ i, i < k → W.ownsRow L0 5 1 (V i) (xs i).length ((xs i).map bv)
  apart : ∀ i j, i < k → j < k → i ≠ j → ∀ b, (V i).ownBlock = some b → (V j).ownBlock ≠ some b
section
variable {L0 k : Nat} {W W' : World} {V : Nat → Value} {xs : Nat → List UInt8}
theorem OwnRows.zero : OwnRows L0 W 0 V xs := ⟨fun i h => by omega, fun i j h => by omega⟩
theorem OwnRows.chg (h : OwnRows L0 W k V xs) {S : Nat → Prop} (hc : Chg W W' S) (hS : ∀ i, L0 ≤ i → ¬ S i) : OwnRows L0 W' k V xs :=
  ⟨fun i hi => hc.own (h.own i hi) (fun b hb => hS b ((h.own i hi).lt b hb).1), h.apart⟩
theorem OwnRows.next (h : OwnRows L0 W k V xs) {S : Nat → Prop} (hc : Chg W W' S) (hS : ∀ i, L0 ≤ i → ¬ S i) (hL : L0 ≤ W.heap.size) {v : Value} {ys : List UInt8} {m : Nat} (hm : ys.length = m) (ho : W'.ownsRow W.heap.size 5 1 v m (ys.map bv)) :
    OwnRows L0 W' (k + 1) (upd V k v) (upd xs k ys) := by
  subst hm
  have h1 := h.chg hc hS
  refine ⟨fun i hi => ?_, fun i j hi hj hij b hb => ?_⟩
  · by_cases e : i = k
    · subst e; rw [upd_same, upd_same]; exact ho.base hL
    · rw [upd_ne _ _ e, upd_ne _ _ e]; exact h1.own i (by omega)
  · by_cases e : i = k
    · subst e
      rw [upd_same] at hb
      rw [upd_ne _ _ (fun e => hij e.symm)]
      intro hj'
      have := ((h.own j (by omega)).lt b hj').2
      have := (ho.lt b hb).1
      omega
    · rw [upd_ne _ _ e] at hb
      by_cases e2 : j = k
      · subst e2
        rw [upd_same]
        intro hj'
        have := ((h.own i (by omega)).lt b hb).2
        have := (ho.lt b hj').1
        omega
      · rw [upd_ne _ _ e2]
        exact h.apart i j (by omega) (by omega) hij b hb
theorem OwnRows.store (h : OwnRows L0 W k V xs) {i : Nat} (hi : i < k) {b n cap : Nat} (hn : (xs i).length = n) (hV : V i = .slice (some ⟨b, 0, none⟩) n cap) (j : Nat) (c : UInt8) :
    OwnRows L0 (W.setCell ⟨b, j, none⟩ (bv c)) k V (upd xs i ((xs i).set j c)) ∧ Chg W (W.setCell ⟨b, j, none⟩ (bv c)) (fun i => i = b) ∧ L0 ≤ b := by
  have hc : Chg W (W.setCell ⟨b, j, none⟩ (bv c)) (fun i => i = b) := Chg.of_set W ⟨b, j, none⟩ (bv c)
  have hVb : (V i).ownBlock = some b := by rw [hV]; rfl
  refine ⟨⟨fun i' hi' => ?_, h.apart⟩, hc, ((h.own i hi).lt b hVb).1⟩
  by_cases e : i' = i
  · subst e
    rw [upd_same, List.length_set]
    have h1 := h.own i' hi
    rw [hn, hV] at h1
    have h2 := (h1.stored j (bv c)).1
    rw [hn, hV, List.map_set]
    exact h2
  · rw [upd_ne _ _ e]
    refine hc.own (h.own i' hi') (fun b' hb' e' => ?_)
    subst e'
    exact h.apart i' i hi' hi e _ hb' hVb
end

/-- A slice that reads as these bytes, at the head of a row. -/
def Hd (W : World) (v : Value) (xs : List UInt8) : Prop :=
  ∃ A c, v = .slice A xs.length c ∧ (0 < xs.length → ∃ b cs, A = some ⟨b, 0, none⟩ ∧ Blk W b 5 cs ∧ ∀ (j : Nat) (u : UInt8), xs[j]? = some u → cs[j]? = some (bv u))
section
variable {W W' : World} {v l l' : Value} {xs : List UInt8}
theorem Hd.of_own {B n : Nat} (hn : xs.length = n) (h : W.ownsRow B 5 1 v n (xs.map bv)) : Hd W v xs := by
  subst hn
  rcases h.2 with ⟨rfl, e⟩ | ⟨g, cap, cur, rfl, _, hg, _, _, _, ht⟩
  · refine ⟨none, 0, by rw [e], fun h => ?_⟩
    omega
  · refine ⟨_, cap, rfl, fun _ => ⟨g, cur, rfl, hg, fun j u hu => ?_⟩⟩
    have h1 : (xs.map bv)[j]? = some (bv u) := by rw [List.getElem?_map, hu]; rfl
    rw [← ht, List.getElem?_take] at h1
    split at h1
    · simpa using h1
    · cases h1
theorem Hd.chg (h : Hd W v xs) {S : Nat → Prop} (hc : Chg W W' S) (hS : ∀ b cs, v.ownBlock = some b → Blk W b 5 cs → ¬ S b) : Hd W' v xs := by
  obtain ⟨A, c, rfl, h⟩ := h
  refine ⟨A, c, rfl, fun hl => ?_⟩
  obtain ⟨b, cs, rfl, hb, hx⟩ := h hl
  exact ⟨b, cs, rfl, hc.blk hb (hS b cs rfl hb), hx⟩
theorem Hd.below (h : Hd W v xs) (hb : Below W.heap.size W W') : Hd W' v xs := h.chg (Chg.of_below hb (fun _ => False)) (fun _ _ _ _ h => h)
theorem Hd.lt (h : Hd W v xs) (hl : 0 < xs.length) {b : Nat} (hb : v.ownBlock = some b) : b < W.heap.size := by
  obtain ⟨A, c, rfl, h⟩ := h
  obtain ⟨b', cs, rfl, hb', _⟩ := h hl
  cases hb
  exact hb'.lt
theorem Hd.shape (h : Hd W v xs) : ∃ A c, v = .slice A xs.length c := by
  obtain ⟨A, c, rfl, _⟩ := h
  exact ⟨A, c, rfl⟩
theorem Hd.cell (h : Hd W v xs) {A : Option Addr} {n c j : Nat} (hv : v = .slice A n c) {u : UInt8} (hu : xs[j]? = some u) : ∃ b, A = some ⟨b, 0, none⟩ ∧ W.cell? ⟨b, j, none⟩ = some (bv u) := by
  obtain ⟨A', c', rfl, h⟩ := h
  obtain ⟨b, cs, rfl, hb, hx⟩ := h (by have := (List.getElem?_eq_some_iff.1 hu).1; omega)
  cases hv
  exact ⟨b, rfl, (hb.cell j).trans (hx j u hu)⟩
theorem Hd.app (h : Hd W v xs) {N : Nat} {u : Value} (how : HowApp W 1 N 1 [u] l l' W') (hs : ∀ b, v.ownBlock = some b → l.ownBlock = some b → xs.length ≤ N) : Hd W' v xs := by
  rcases how with ⟨g, cap, rfl, _, rfl, rfl⟩ | ⟨_, h0, _⟩ | ⟨hb, _⟩
  · obtain ⟨A, c, rfl, h⟩ := h
    refine ⟨A, c, rfl, fun hl => ?_⟩
    obtain ⟨b, cs, rfl, hb, hx⟩ := h hl
    by_cases e : b = g
    · subst e
      have hN := hs b rfl rfl
      refine ⟨b, cs.setIfInBounds (N * 1) u, rfl, hb.set_ _ _, fun j y hj => ?_⟩
      have hjl := (List.getElem?_eq_some_iff.1 hj).1
      rw [Array.getElem?_setIfInBounds_ne (by omega)]
      exact hx j y hj
    · exact ⟨b, cs, rfl, hb.far e u, hx⟩
  · omega
  · exact h.below hb
end
theorem raw_half {bs : List UInt8} {H : Nat} (h : H ≤ bs.length) : rawS bs (H : Int) 0 0 = (bs.take H, H, 0) := by rw [rawS_yes (by omega)]; simp
theorem raw_whole {bs : List UInt8} {N : Nat} (h : bs.length = N) : rawS bs (N : Int) 0 0 = (bs, N, 0) := by rw [raw_half (by omega), ← h, List.take_length]
theorem raw_rest {bs : List UInt8} {H D N : Nat} (h : bs.length = N) (hd : H + D = N) : rawS bs (D : Int) H 0 = ((bs.drop H).take D, N, 0) := by rw [rawS_yes (by omega), hd]

/-- The two writers and the two readers. -/
structure Four (W : World) (g1 : Nat) (v1 : Value) (bs : List UInt8) (v2 : Value) (ys : List UInt8) (r : Nat) (A1 : Option Addr) (c1 N p1 s : Nat) (A2 : Option Addr) (c2 p2 : Nat) : Prop where
  a : WrP W g1 v1 bs
  b : WrP W (g1 + 1) v2 ys
  rr : RdP W r A1 N c1 bs p1 0
  ss : RdP W s A2 N c2 bs p2 0
  lt : r < s
  lo : ∀ ad, A2 = some ad → r < ad.block
section
variable {W W' : World} {g1 : Nat} {v1 : Value} {bs : List UInt8} {v2 : Value} {ys : List UInt8} {r : Nat} {A1 : Option Addr} {c1 N p1 s : Nat} {A2 : Option Addr} {c2 p2 q : Nat}
theorem Four.below (h : Four W g1 v1 bs v2 ys r A1 c1 N p1 s A2 c2 p2) (hb : Below W.heap.size W W') : Four W' g1 v1 bs v2 ys r A1 c1 N p1 s A2 c2 p2 :=
  ⟨h.a.chg (Chg.of_below hb (fun _ => False)) (fun h => h) (fun _ _ h => h), h.b.chg (Chg.of_below hb (fun _ => False)) (fun h => h) (fun _ _ h => h), h.rr.chg (Chg.of_below hb (fun _ => False)) (fun _ _ h => h), h.ss.chg (Chg.of_below hb (fun _ => False)) (fun _ _ h => h), h.lt, h.lo⟩
theorem Four.rd (h : Four W g1 v1 bs v2 ys r A1 c1 N p1 s A2 c2 p2) (ha : After W r A1 N c1 bs q 0 W') : Four W' g1 v1 bs v2 ys r A1 c1 N q s A2 c2 p2 :=
  ⟨h.a.chg ha.2 (fun e => Blk.ne_ h.a.blk h.rr.blk (by decide) e) (fun i hi e => own_blk_ne h.a.own h.rr.blk (by decide) (by rw [hi, e])),
   h.b.chg ha.2 (fun e => Blk.ne_ h.b.blk h.rr.blk (by decide) e) (fun i hi e => own_blk_ne h.b.own h.rr.blk (by decide) (by rw [hi, e])),
   ha.1, h.ss.chg2 (L := r + 1) ha.2 (fun ad e => h.lo ad e) (fun i h1 _ e => by omega) (fun e => by have := h.lt; omega), h.lt, h.lo⟩
theorem Four.sd (h : Four W g1 v1 bs v2 ys r A1 c1 N p1 s A2 c2 p2) (ha : After W s A2 N c2 bs q 0 W') : Four W' g1 v1 bs v2 ys r A1 c1 N p1 s A2 c2 q :=
  ⟨h.a.chg ha.2 (fun e => Blk.ne_ h.a.blk h.ss.blk (by decide) e) (fun i hi e => own_blk_ne h.a.own h.ss.blk (by decide) (by rw [hi, e])),
   h.b.chg ha.2 (fun e => Blk.ne_ h.b.blk h.ss.blk (by decide) e) (fun i hi e => own_blk_ne h.b.own h.ss.blk (by decide) (by rw [hi, e])),
   h.rr.chg ha.2 (fun i h1 e => by have := h.lt; omega), ha.1, h.lt, h.lo⟩
end
end Go.Proofs.Ytbofjboebkfjgaa
