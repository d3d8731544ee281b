/-
  The rows that GraphOwn gathers turn by turn: what stands. No program in sight but its types' numbers.
-/
import Derived.Test.YtmcpbmadjpjckaaGrOwnC
namespace Go.Proofs.Ytmcpbmadjpjckaa
open Go.RowKit

/-- All rows, all parts' outer rows, the list of these. -/
structure Tt (Z0 : Nat) (W : World) (la : Nat) (V : Nat → Value) (xs : Nat → List Value) (tp : Nat) (P : Nat → Value) (ps : Nat → List Value) (tq : Nat) (v8 : Value) : Prop where
  r : RB la 3 W V xs Z0 W.heap.size
  xl : ∀ i, i < la → (xs i).length ≤ 65536
  p : RB tp 25 W P ps Z0 W.heap.size
  pl : ∀ j, j < tp → (ps j).length ≤ 65536
  o : W.ownsRow Z0 43 1 v8 tq ((List.range tq).map P)
  z : Z0 ≤ W.heap.size
section
variable {Z0 la tp tt : Nat} {W W' : World} {V P : Nat → Value} {xs ps : Nat → List Value} {v7 v8 : Value}
theorem Tt.chg (h : Tt Z0 W la V xs tp P ps tt v8) {S : Nat → Prop} (hc : Chg W W' S) (hV : ∀ i, i < la → ∀ b, (V i).ownBlock = some b → ¬ S b) (hP : ∀ j, j < tp → ∀ b, (P j).ownBlock = some b → ¬ S b) (ho : ∀ b, v8.ownBlock = some b → ¬ S b) : Tt Z0 W' la V xs tp P ps tt v8 :=
  ⟨(h.r.chg hc hV).wide (Nat.le_refl _) hc.size, h.xl, (h.p.chg hc hP).wide (Nat.le_refl _) hc.size, h.pl, hc.own h.o ho, Nat.le_trans h.z hc.size⟩
theorem Tt.bel (h : Tt Z0 W la V xs tp P ps tt v8) (hb : Below W.heap.size W W') : Tt Z0 W' la V xs tp P ps tt v8 :=
  h.chg (Chg.of_below hb (fun _ => False)) (fun _ _ _ _ h => h) (fun _ _ _ _ h => h) (fun _ _ h => h)
/-- The list of all rows grows. -/
theorem Tt.gro (h : Tt Z0 W la V xs tp P ps tt v8) {n : Nat} {ys : List Value} (hA : W.ownsRow Z0 25 1 v7 n ys) (hap : ∀ j, j < tp → ∀ b, (P j).ownBlock = some b → v7.ownBlock ≠ some b) (hg : W.grownBy W' v7.ownBlock) : Tt Z0 W' la V xs tp P ps tt v8 := by
  refine h.chg (Chg.of_grown hg) (fun i hi b hb e => ?_) hap (fun b hb e => ?_)
  · exact (h.r.rws.own i hi).ne_row (Row.of_own hA) (by decide) hb e
  · exact own_own_ne h.o hA (by decide) hb e
theorem apart_next (h : Tt Z0 W la V xs tp P ps tt v8) (hap : ∀ j, j < tp → ∀ b, (P j).ownBlock = some b → v7.ownBlock ≠ some b) {v7' : Value} (hr : v7'.ownBlock = v7.ownBlock ∨ ∃ g, v7'.ownBlock = some g ∧ W.heap.size ≤ g) : ∀ j, j < tp → ∀ b, (P j).ownBlock = some b → v7'.ownBlock ≠ some b := fun j hj b hb e => by
  rcases hr with hr | ⟨g, hr, hg⟩
  · exact hap j hj b hb (hr ▸ e)
  · rw [hr] at e
    cases e
    have := (h.p.at_ j hj b hb).2
    omega
/-- The list of parts' outer rows grows. -/
theorem Tt.out (h : Tt Z0 W la V xs (tt + 1) P ps tt v8) {v8' : Value} (ho : W'.ownsRow Z0 43 1 v8' (tt + 1) ((List.range tt).map P ++ [P tt])) (hg : W.grownBy W' v8.ownBlock) : Tt Z0 W' la V xs (tt + 1) P ps (tt + 1) v8' := by
  have hc := Chg.of_grown hg
  refine ⟨(h.r.chg hc fun i hi b hb e => ?_).wide (Nat.le_refl _) hc.size, h.xl, (h.p.chg hc fun j hj b hb e => ?_).wide (Nat.le_refl _) hc.size, h.pl, ?_, Nat.le_trans h.z hc.size⟩
  · exact (h.r.rws.own i hi).ne_row (Row.of_own h.o) (by decide) hb e
  · exact (h.p.rws.own j hj).ne_row (Row.of_own h.o) (by decide) hb e
  · rw [List.range_succ, List.map_append]
    exact ho
theorem own_out (hA : W.ownsRow Z0 25 1 v7 la ((List.range la).map V)) (h : W.ownsRow Z0 43 1 v8 tt ((List.range tt).map P)) (hg : W.grownBy W' v8.ownBlock) : W'.ownsRow Z0 25 1 v7 la ((List.range la).map V) :=
  (Chg.of_grown hg).own hA (fun _ hb e => own_own_ne hA h (by decide) hb e)
/-- A turn's rows beside those that stand. -/
theorem Tt.next (h : Tt Z0 W la V xs tt P ps tt v8) (hb : Below W.heap.size W W') {s1 L : Nat} {V4 U : Nat → Value} {x4 ys : Nat → List Value} {v : Value} (k4 : RB 4 3 W' V4 x4 s1 W'.heap.size) (kp : RB L 3 W' U ys W.heap.size s1) (h1 : W.heap.size ≤ s1) (h2 : s1 ≤ W'.heap.size)
    (x4l : ∀ i, i < 4 → (x4 i).length ≤ 65536) (ysl : ∀ i, i < L → (ys i).length ≤ 65536) (hL : L ≤ 65536) (hp : W'.ownsRow W.heap.size 25 1 v L ((List.range L).map U)) :
    Tt Z0 W' (la + (4 + L)) (jn la V (jn 4 V4 U)) (jn la xs (jn 4 x4 ys)) (tt + 1) (jn tt P (fun _ => v)) (jn tt ps (fun _ => (List.range L).map U)) tt v8 := by
  have hz := h.z
  have hbz := hb.size
  have hr := h.r.bel hb
  have hP := h.p.bel hb
  have h4p := k4.join kp (.inr (Nat.le_refl _)) (l := W.heap.size) (r := W'.heap.size) h1 (Nat.le_refl _) (Nat.le_refl _) h2
  refine ⟨hr.join h4p (.inl (Nat.le_refl _)) (Nat.le_refl _) hz hbz (Nat.le_refl _), fun i hi => ?_, hP.join (RB.one hp) (.inl (Nat.le_refl _)) (Nat.le_refl _) hz hbz (Nat.le_refl _), fun j hj => ?_, ?_, by omega⟩
  · rcases jn_split hi with h5 | ⟨j, rfl, h5⟩
    · rw [jn_lt h5]; exact h.xl i h5
    · rw [jn_ge]
      rcases jn_split h5 with h6 | ⟨k, rfl, h6⟩
      · rw [jn_lt h6]; exact x4l j h6
      · rw [jn_ge]; exact ysl k h6
  · rcases jn_split hj with h5 | ⟨k, rfl, h5⟩
    · rw [jn_lt h5]; exact h.pl j h5
    · rw [jn_ge]; simpa using hL
  · have e : (List.range tt).map (jn tt P (fun _ => v)) = (List.range tt).map P := List.map_congr_left fun i hi => jn_lt (List.mem_range.1 hi)
    rw [e]
    exact (Chg.of_below hb (fun _ => False)).own h.o (fun _ _ h => h)
/-- What is gathered. -/
structure Gath (Z0 : Nat) (W : World) (t : Nat) (v7 v8 : Value) (la : Nat) (V : Nat → Value) (xs : Nat → List Value) (P : Nat → Value) (ps : Nat → List Value) : Prop where
  tt : Tt Z0 W la V xs t P ps t v8
  a : W.ownsRow Z0 25 1 v7 la ((List.range la).map V)
  ap : ∀ j, j < t → ∀ b, (P j).ownBlock = some b → v7.ownBlock ≠ some b
  lal : la ≤ t * 65544
  lab : t * 4 ≤ la
theorem Gath.nil (W : World) (V P : Nat → Value) (xs ps : Nat → List Value) : Gath W.heap.size W 0 (.slice none 0 0) (.slice none 0 0) 0 V xs P ps :=
  ⟨⟨RB.nil, fun _ h => by omega, RB.nil, fun _ h => by omega, World.ownsRow_nil _ _ _ _, Nat.le_refl _⟩, World.ownsRow_nil _ _ _ _, fun _ h => by omega, by omega, by omega⟩
theorem Gath.bel (h : Gath Z0 W tt v7 v8 la V xs P ps) (hb : Below W.heap.size W W') : Gath Z0 W' tt v7 v8 la V xs P ps :=
  ⟨h.tt.bel hb, (Chg.of_below hb (fun _ => False)).own h.a (fun _ _ h => h), h.ap, h.lal, h.lab⟩
end
/-- The four rows of a turn. -/
def V4 (o r d w : Value) : Nat → Value := jn 3 (jn 2 (jn 1 (fun _ => o) (fun _ => r)) (fun _ => d)) (fun _ => w)
def x4 (o r d w : List Value) : Nat → List Value := jn 3 (jn 2 (jn 1 (fun _ => o) (fun _ => r)) (fun _ => d)) (fun _ => w)
theorem v4_map (o r d w : Value) : (List.range 4).map (V4 o r d w) = [o, r, d, w] := rfl
theorem rb4 {e : TypeId} {W : World} {o r d w : Value} {xo xr xd xw : List Value} {s1 s2 s3 s4 s5 : Nat} (ho : RB 1 e W (fun _ => o) (fun _ => xo) s1 s2) (hr : RB 1 e W (fun _ => r) (fun _ => xr) s2 s3) (hd : RB 1 e W (fun _ => d) (fun _ => xd) s3 s4) (hw : RB 1 e W (fun _ => w) (fun _ => xw) s4 s5) (a : s1 ≤ s2) (b : s2 ≤ s3) (c : s3 ≤ s4) (f : s4 ≤ s5) :
    RB 4 e W (V4 o r d w) (x4 xo xr xd xw) s1 s5 := by
  have h2 := ho.join hr (.inl (Nat.le_refl _)) (l := s1) (r := s3) (Nat.le_refl _) a b (Nat.le_refl _)
  have h3 := h2.join hd (.inl (Nat.le_refl _)) (l := s1) (r := s4) (Nat.le_refl _) (by omega) c (Nat.le_refl _)
  exact h3.join hw (.inl (Nat.le_refl _)) (Nat.le_refl _) (by omega) f (Nat.le_refl _)
theorem x4_le {xo xr xd xw : List Value} {N : Nat} (a : xo.length ≤ N) (b : xr.length ≤ N) (c : xd.length ≤ N) (d : xw.length ≤ N) : ∀ i, i < 4 → (x4 xo xr xd xw i).length ≤ N := fun i hi => by
  rcases (show i = 0 ∨ i = 1 ∨ i = 2 ∨ i = 3 by omega) with rfl | rfl | rfl | rfl
  · exact a
  · exact b
  · exact c
  · exact d
/-- A turn gathered. -/
theorem Gath.turn {Z0 la t L : Nat} {W5 W' : World} {V P U : Nat → Value} {xs ps ys : Nat → List Value} {v7' v8 v8' p o r d w : Value} {xo xr xd xw : List Value} (hl : la ≤ t * 65544) (hlb : t * 4 ≤ la) (hL : L ≤ 65536)
    (ht : Tt Z0 W5 (la + (4 + L)) (jn la V (jn 4 (V4 o r d w) U)) (jn la xs (jn 4 (x4 xo xr xd xw) ys)) (t + 1) (jn t P (fun _ => p)) (jn t ps (fun _ => (List.range L).map U)) t v8)
    (hA : W5.ownsRow Z0 25 1 v7' (la + (4 + L)) ((List.range (la + (4 + L))).map (jn la V (jn 4 (V4 o r d w) U)))) (hap : ∀ j, j < t + 1 → ∀ b, (jn t P (fun _ => p) j).ownBlock = some b → v7'.ownBlock ≠ some b)
    (ho : W'.ownsRow Z0 43 1 v8' (t + 1) ((List.range t).map (jn t P (fun _ => p)) ++ [jn t P (fun _ => p) t])) (hg : W5.grownBy W' v8.ownBlock) :
    Gath Z0 W' (t + 1) v7' v8' (la + (4 + L)) (jn la V (jn 4 (V4 o r d w) U)) (jn la xs (jn 4 (x4 xo xr xd xw) ys)) (jn t P (fun _ => p)) (jn t ps (fun _ => (List.range L).map U)) :=
  ⟨ht.out ho hg, own_out hA ht.o hg, hap, by omega, by omega⟩
end Go.Proofs.Ytmcpbmadjpjckaa
