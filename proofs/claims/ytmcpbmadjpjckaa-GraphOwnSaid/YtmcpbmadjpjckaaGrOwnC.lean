/-
  What GraphOwn is told: each answer's rows are new memory, apart from one another; the rows that the law gathers. The conditions stand in each theorem.
-/
import Derived.Test.YtmcpbmadjpjckaaGrOwnM
import Derived.Test.YtmcpbmadjpjckaaGrGrow
namespace Go.Proofs.Ytmcpbmadjpjckaa
open Go.RowKit

/-- One list of things behind another. -/
def jn {α : Type} (L : Nat) (f g : Nat → α) (i : Nat) : α := if i < L then f i else g (i - L)
theorem jn_lt {α : Type} {L : Nat} {f g : Nat → α} {i : Nat} (h : i < L) : jn L f g i = f i := if_pos h
theorem jn_ge {α : Type} {L : Nat} {f g : Nat → α} {j : Nat} : jn L f g (L + j) = g j := by
  unfold jn
  rw [if_neg (by omega), Nat.add_sub_cancel_left]
theorem jn_self {α : Type} {L : Nat} {f g : Nat → α} : jn L f g L = g 0 := by
  unfold jn
  rw [if_neg (Nat.lt_irrefl _), Nat.sub_self]
theorem jn_map {α : Type} (L M : Nat) (f g : Nat → α) : (List.range (L + M)).map (jn L f g) = (List.range L).map f ++ (List.range M).map g := by
  induction M with
  | zero =>
    simp only [Nat.add_zero, List.range_zero, List.map_nil, List.append_nil]
    exact List.map_congr_left fun i hi => jn_lt (List.mem_range.1 hi)
  | succ M ih =>
    rw [← Nat.add_assoc, List.range_succ, List.range_succ, List.map_append, List.map_append, ih, List.map_cons, List.map_nil, jn_ge, List.append_assoc]
    rfl
theorem jn_split {L M i : Nat} (h : i < L + M) : i < L ∨ ∃ j, i = L + j ∧ j < M := by
  by_cases c : i < L
  · exact .inl c
  · exact .inr ⟨i - L, by omega, by omega⟩
/-- Rows that were made between two times, apart. -/
structure RB (L : Nat) (e : TypeId) (W : World) (V : Nat → Value) (xs : Nat → List Value) (lo hi : Nat) : Prop where
  rws : Rws L e W V xs
  at_ : ∀ i, i < L → ∀ b, (V i).ownBlock = some b → lo ≤ b ∧ b < hi
section
variable {L M : Nat} {e : TypeId} {W W' : World} {V U : Nat → Value} {xs ys : Nat → List Value} {lo hi lo' hi' : Nat}
theorem RB.wide (h : RB L e W V xs lo hi) (h1 : lo' ≤ lo) (h2 : hi ≤ hi') : RB L e W V xs lo' hi' :=
  ⟨h.rws, fun i hi b hb => by have := h.at_ i hi b hb; omega⟩
theorem RB.chg (h : RB L e W V xs lo hi) {S : Nat → Prop} (hc : Chg W W' S) (hS : ∀ i, i < L → ∀ b, (V i).ownBlock = some b → ¬ S b) : RB L e W' V xs lo hi :=
  ⟨⟨fun i hi => (h.rws.own i hi).chg hc (hS i hi), h.rws.apart⟩, h.at_⟩
theorem RB.bel (h : RB L e W V xs lo hi) (hb : Below W.heap.size W W') : RB L e W' V xs lo hi := h.chg (Chg.of_below hb (fun _ => False)) (fun _ _ _ _ h => h)
theorem RB.join (h : RB L e W V xs lo hi) (k : RB M e W U ys lo' hi') (hd : hi ≤ lo' ∨ hi' ≤ lo) {l r : Nat} (h1 : l ≤ lo) (h2 : l ≤ lo') (h3 : hi ≤ r) (h4 : hi' ≤ r) : RB (L + M) e W (jn L V U) (jn L xs ys) l r := by
  refine ⟨⟨fun i hi => ?_, fun i j hi hj hij b hb hb' => ?_⟩, fun i hi b hb => ?_⟩
  · rcases jn_split hi with h5 | ⟨j, rfl, h5⟩
    · rw [jn_lt h5, jn_lt h5]; exact h.rws.own i h5
    · rw [jn_ge, jn_ge]; exact k.rws.own j h5
  · rcases jn_split hi with h5 | ⟨i, rfl, h5⟩ <;> rcases jn_split hj with h6 | ⟨j, rfl, h6⟩
    · rw [jn_lt h5] at hb
      rw [jn_lt h6] at hb'
      exact h.rws.apart i j h5 h6 hij b hb hb'
    · rw [jn_lt h5] at hb
      rw [jn_ge] at hb'
      have a1 := h.at_ i h5 b hb
      have a2 := k.at_ j h6 b hb'
      omega
    · rw [jn_ge] at hb
      rw [jn_lt h6] at hb'
      have a1 := k.at_ i h5 b hb
      have a2 := h.at_ j h6 b hb'
      omega
    · rw [jn_ge] at hb hb'
      exact k.rws.apart i j h5 h6 (by omega) b hb hb'
  · rcases jn_split hi with h5 | ⟨j, rfl, h5⟩
    · rw [jn_lt h5] at hb
      have := h.at_ i h5 b hb
      omega
    · rw [jn_ge] at hb
      have := k.at_ j h5 b hb
      omega
theorem RB.one {B n : Nat} {v : Value} {zs : List Value} (ho : W.ownsRow B e 1 v n zs) : RB 1 e W (fun _ => v) (fun _ => zs) B W.heap.size := by
  have hn : zs.length = n := by have := ho.1; omega
  exact ⟨⟨fun i _ => by rw [hn]; exact Row.of_own ho, fun i j hi hj hij => by omega⟩, fun i _ b hb => ho.lt b hb⟩
theorem RB.nil : RB 0 e W V xs lo hi := ⟨⟨fun i h => by omega, fun i j h => by omega⟩, fun i h => by omega⟩
end
/-- A row of numbers and an error's number: what a call answers. -/
def OwnRow (W : World) (e : Ending) (W' : World) : Prop := ∃ v z n xs, e = .returned (.tuple #[v, .int .i64 z]) ∧ W'.ownsRow W.heap.size 3 1 v n xs ∧ n ≤ 65536 ∧ Below W.heap.size W W'
/-- What the parts of a graph are, each in its place. -/
def PTell (n : Int) (E : List (Int × Int × Int)) (L : Nat) (xs : Nat → List Value) : Prop :=
  (chkS n E ≠ 0 ∧ L = 0) ∨ (chkS n E = 0 ∧ ∃ (N : Nat) (part : Nat → Nat) (os : List Nat), n = (N : Int) ∧ Parts N (adjOf E false) part L ∧ (∀ p, p < L → ∃ u, u < N ∧ part u = p) ∧ PSpec part E L (fstN part N) os ∧ (∀ p, p < L → p ∈ os) ∧
    ∀ i p, i < L → os[i]? = some p → xs i = (nds part N p).map iv)
theorem PTell.one {n : Int} {E : List (Int × Int × Int)} {L L' : Nat} {xs xs' : Nat → List Value} (h : PTell n E L xs) (h' : PTell n E L' xs') : L = L' ∧ ∀ i, i < L → xs i = xs' i := by
  rcases h with ⟨h0, rfl⟩ | ⟨h0, N, part, os, hN, h1, h2, h3, h4, h5⟩ <;> rcases h' with ⟨k0, rfl⟩ | ⟨k0, N', part', os', hN', k1, k2, k3, k4, k5⟩
  · exact ⟨rfl, fun i hi => by omega⟩
  · exact absurd k0 h0
  · exact absurd h0 k0
  · obtain rfl : N = N' := by omega
    have hE := (chk_ok h0).2.2.2
    rw [hN] at hE
    obtain ⟨e1, e2⟩ := parts_one h1 k1 hE h2 k2 h3 k3 h4 k4
    refine ⟨e1, fun i hi => ?_⟩
    obtain ⟨p, p', g1, g2, _, _, g3⟩ := e2 i hi
    rw [h5 i p hi g1, k5 i p' (by omega) g2, g3]
/-- What Parts answers: new rows, apart, told. -/
def OwnParts (W : World) (n : Int) (E : List (Int × Int × Int)) (e : Ending) (W' : World) : Prop :=
  ∃ v z L U ys, e = .returned (.tuple #[v, .int .i64 z]) ∧ W'.ownsRow W.heap.size 25 1 v L ((List.range L).map U) ∧ RB L 3 W' U ys W.heap.size W'.heap.size ∧ (∀ i, i < L → (ys i).length ≤ 65536) ∧ L ≤ 65536 ∧ PTell n E L ys ∧ Below W.heap.size W W'
theorem own_tab {W : World} {B g N : Nat} {t : TypeId} {f : Nat → Value} (h : Blk W g t (tab N f)) (hB : B ≤ g) (hN : N ≤ 65536) : W.ownsRow B t 1 (.slice (some ⟨g, 0, none⟩) N N) N ((List.range N).map f) := by
  refine ⟨by simp, .inr ⟨g, N, _, rfl, hB, h, Nat.le_refl _, by simp only [maxLen]; omega, by simp [tab], ?_⟩⟩
  rw [List.take_of_length_le (by simp [tab])]
  simp [tab]
section
variable (W : World) (n : Int) (A : Option Addr) (m cap B0 : Nat) (E : List (Int × Int × Int)) (hr : Reads W B0 3 A m (ecells E)) (hB0 : B0 ≤ W.heap.size) (hm : m ≤ 140737488355328)
include hr hB0 hm
theorem order_own : Calls Try.prog 22 #[.int .i64 n, .slice A m cap] W (OwnRow W) := by
  refine (order_any W n A m cap B0 E hr hB0 hm).mono fun e W' h => ?_
  obtain ⟨hb, ⟨_, rfl⟩ | ⟨h0, N, part, al, os, hN, hp, hs, hsp, ha, hres⟩⟩ := h
  · exact ⟨_, _, 0, [], rfl, World.ownsRow_nil _ _ _ _, by omega, hb⟩
  · have hn := (chk_ok h0).1
    rcases hres with ⟨_, rfl⟩ | ⟨hf, v, rfl, ho⟩
    · exact ⟨_, _, 0, [], rfl, World.ownsRow_nil _ _ _ _, by omega, hb⟩
    · exact ⟨v, _, _, _, rfl, ho, by rw [order_len hp hs hsp ha hf]; omega, hb⟩
theorem round_own : Calls Try.prog 23 #[.int .i64 n, .slice A m cap] W (OwnRow W) := by
  refine (round_all W n A m cap B0 E hr hB0 hm).mono fun e W' h => ?_
  obtain ⟨hb, ⟨_, rfl⟩ | ⟨h0, N, part, al, hN, hp, hs, hres⟩⟩ := h
  · exact ⟨_, _, 0, [], rfl, World.ownsRow_nil _ _ _ _, by omega, hb⟩
  · have hn := (chk_ok h0).1
    rcases hres with ⟨_, rfl⟩ | ⟨v, f, r, rfl, hr', ho⟩
    · exact ⟨_, _, 0, [], rfl, World.ownsRow_nil _ _ _ _, by omega, hb⟩
    · exact ⟨v, _, _, _, rfl, ho, by have := hr'.len; omega, hb⟩
theorem depths_own : Calls Try.prog 10 #[.int .i64 n, .slice A m cap] W (OwnRow W) := by
  refine (depths_any W n A m cap B0 E hr hB0 hm).mono fun e W' h => ?_
  obtain ⟨hb, ⟨_, rfl⟩ | ⟨h0, N, part, al, hN, hp, hres⟩⟩ := h
  · exact ⟨_, _, 0, [], rfl, World.ownsRow_nil _ _ _ _, by omega, hb⟩
  · have hn := (chk_ok h0).1
    rcases hres with ⟨_, rfl⟩ | ⟨_, g, rfl, hg, hblk⟩
    · exact ⟨_, _, 0, [], rfl, World.ownsRow_nil _ _ _ _, by omega, hb⟩
    · exact ⟨_, _, N, _, rfl, own_tab hblk hg (by omega), by omega, hb⟩
theorem reach_own (A1 : Option Addr) (k c1 : Nat) (fr : List Int) (h1 : Reads W W.heap.size 1 A1 k (fr.map iz)) (hk : k ≤ 140737488355328) : Calls Try.prog 11 #[.int .i64 n, .slice A1 k c1, .slice A m cap] W (OwnRow W) := by
  refine (reach_any W n A m cap W.heap.size E (hr.more hB0) (Nat.le_refl _) hm A1 k c1 fr h1 hk).mono fun e W' h => ?_
  obtain ⟨hb, ⟨_, rfl⟩ | ⟨_, _, rfl⟩ | ⟨h0, _, N, v, hN, rfl, ho⟩⟩ := h
  · exact ⟨_, _, 0, [], rfl, World.ownsRow_nil _ _ _ _, by omega, hb⟩
  · exact ⟨_, _, 0, [], rfl, World.ownsRow_nil _ _ _ _, by omega, hb⟩
  · have hn := (chk_ok h0).1
    have := rch_len N (adjOf E false) (fr.map Int.toNat)
    exact ⟨v, _, _, _, rfl, ho, by omega, hb⟩
theorem parts_own : Calls Try.prog 19 #[.int .i64 n, .slice A m cap] W (OwnParts W n E) := by
  refine (parts_any W n A m cap B0 E hr hB0 hm).mono fun e W' h => ?_
  obtain ⟨hb, ⟨h1, rfl⟩ | ⟨h0, N, part, al, os, v, V, hN, rfl, ho⟩⟩ := h
  · exact ⟨_, _, 0, fun _ => .slice none 0 0, fun _ => [], rfl, World.ownsRow_nil _ _ _ _, RB.nil, fun i h => by omega, by omega, .inl ⟨h1, rfl⟩, hb⟩
  · have hn := (chk_ok h0).1
    have hl := os_len ho.spec ho.all
    have hal := ho.parts.aln
    have hg : ∀ i, i < al → ∃ p, os[i]? = some p ∧ p < al := fun i hi => by
      have h : os[i]? = some os[i] := List.getElem?_eq_getElem (by omega)
      exact ⟨_, h, ho.spec.lt _ (List.mem_of_getElem? h)⟩
    have hd : ∀ i p, os[i]? = some p → os.getD i 0 = p := fun i p h => by rw [List.getD_eq_getElem?_getD, h]; rfl
    refine ⟨v, _, al, fun i => V (os.getD i 0), fun i => (nds part N (os.getD i 0)).map iv, rfl, ?_, ⟨⟨fun i hi => ?_, fun i j hi hj hij b hb1 hb2 => ?_⟩, fun i hi b hb1 => ?_⟩, fun i _ => ?_, by omega, .inr ⟨h0, N, part, os, hN, ho.parts, ho.surj, ho.spec, ho.all, fun i p _ hp => by
      show (nds part N (os.getD i 0)).map iv = _
      rw [hd i p hp]⟩, hb⟩
    · have h := ho.own
      rw [hl] at h
      have e : os.map V = (List.range al).map fun i => V (os.getD i 0) := by
        apply List.ext_getElem?
        intro j
        rw [List.getElem?_map, List.getElem?_map]
        by_cases c : j < al
        · obtain ⟨p, hp, _⟩ := hg j c
          rw [hp, List.getElem?_range c]
          show some (V p) = some (V (os.getD j 0))
          rw [hd j p hp]
        · rw [List.getElem?_eq_none (by omega), List.getElem?_eq_none (by simp; omega)]
          rfl
      rw [← e]
      exact h
    · obtain ⟨p, hp, hpa⟩ := hg i hi
      show Row W' _ (V (os.getD i 0)) ((nds part N (os.getD i 0)).map iv).length ((nds part N (os.getD i 0)).map iv)
      rw [hd i p hp, List.length_map]
      exact Row.of_own (ho.rows p hpa)
    · obtain ⟨p, hp, hpa⟩ := hg i hi
      obtain ⟨q, hq, hqa⟩ := hg j hj
      have hb1 : (V (os.getD i 0)).ownBlock = some b := hb1
      have hb2 : (V (os.getD j 0)).ownBlock = some b := hb2
      rw [hd i p hp] at hb1
      rw [hd j q hq] at hb2
      refine ho.apart p q hpa hqa (fun e => hij ?_) b hb1 hb2
      subst e
      rw [← idx_at ho.spec.nodup hp, ← idx_at ho.spec.nodup hq]
    · obtain ⟨p, hp, hpa⟩ := hg i hi
      have hb1 : (V (os.getD i 0)).ownBlock = some b := hb1
      rw [hd i p hp] at hb1
      exact (ho.rows p hpa).lt b hb1
    · rw [List.length_map]
      have := nds_len part N (os.getD i 0)
      omega
end
end Go.Proofs.Ytmcpbmadjpjckaa
