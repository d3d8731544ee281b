/-
  Rows in the order in which they were made: they lie apart. No program in sight but its types' numbers.
-/
import Derived.Test.YteambdbcjcfdeaaColApart
import Derived.Test.YteambdbcjcfdeaaColAgain
namespace Go.Proofs.Yteambdbcjcfdeaa
open Go.RowKit

/-- A row that was made between two times. -/
structure Ob (W : World) (e : TypeId) (lo hi : Nat) (v : Value) (n : Nat) (xs : List Value) : Prop where
  row : Row W e v n xs
  at_ : ∀ b, v.ownBlock = some b → lo ≤ b ∧ b < hi
section
variable {W W' : World} {e : TypeId} {lo hi n : Nat} {v : Value} {xs : List Value}
theorem Ob.bel (h : Ob W e lo hi v n xs) (hb : Below W.heap.size W W') : Ob W' e lo hi v n xs := ⟨h.row.below hb, h.at_⟩
theorem Ob.chg (h : Ob W e lo hi v n xs) {S : Nat → Prop} (hc : Chg W W' S) (hS : ∀ b, lo ≤ b → b < hi → ¬ S b) : Ob W' e lo hi v n xs :=
  ⟨h.row.chg hc (fun b hb => hS b (h.at_ b hb).1 (h.at_ b hb).2), h.at_⟩
theorem Ob.made {B : Nat} (ho : W.ownsRow B e 1 v n xs) : Ob W e B W.heap.size v n xs := ⟨Row.of_own ho, fun b hb => ho.lt b hb⟩
end
def q4 {α : Type} (a b c d : α) (i : Nat) : α := if i = 0 then a else if i = 1 then b else if i = 2 then c else d
theorem q4_four {i : Nat} (h : i < 4) : i = 0 ∨ i = 1 ∨ i = 2 ∨ i = 3 := by omega
theorem rws4 {W : World} {e : TypeId} {l0 h0 l1 h1 l2 h2 l3 h3 n0 n1 n2 n3 : Nat} {v0 v1 v2 v3 : Value} {x0 x1 x2 x3 : List Value}
    (o0 : Ob W e l0 h0 v0 n0 x0) (o1 : Ob W e l1 h1 v1 n1 x1) (o2 : Ob W e l2 h2 v2 n2 x2) (o3 : Ob W e l3 h3 v3 n3 x3) (a : h0 ≤ l1) (b : h1 ≤ l2) (c : h2 ≤ l3) (a' : l1 ≤ h1) (b' : l2 ≤ h2) :
    Rws e W (q4 v0 v1 v2 v3) (q4 x0 x1 x2 x3) := by
  have r0 := o0.row; have r1 := o1.row; have r2 := o2.row; have r3 := o3.row
  rw [← r0.1] at r0; rw [← r1.1] at r1; rw [← r2.1] at r2; rw [← r3.1] at r3
  refine ⟨fun i hi => ?_, fun i j hi hj hij bb hb hb' => ?_⟩
  · rcases q4_four hi with rfl | rfl | rfl | rfl
    · exact r0
    · exact r1
    · exact r2
    · exact r3
  · rcases q4_four hi with rfl | rfl | rfl | rfl <;> rcases q4_four hj with rfl | rfl | rfl | rfl <;>
      first
      | exact hij rfl
      | (have p := o0.at_ bb hb; have q := o1.at_ bb hb'; omega)
      | (have p := o0.at_ bb hb; have q := o2.at_ bb hb'; omega)
      | (have p := o0.at_ bb hb; have q := o3.at_ bb hb'; omega)
      | (have p := o1.at_ bb hb; have q := o0.at_ bb hb'; omega)
      | (have p := o1.at_ bb hb; have q := o2.at_ bb hb'; omega)
      | (have p := o1.at_ bb hb; have q := o3.at_ bb hb'; omega)
      | (have p := o2.at_ bb hb; have q := o0.at_ bb hb'; omega)
      | (have p := o2.at_ bb hb; have q := o1.at_ bb hb'; omega)
      | (have p := o2.at_ bb hb; have q := o3.at_ bb hb'; omega)
      | (have p := o3.at_ bb hb; have q := o0.at_ bb hb'; omega)
      | (have p := o3.at_ bb hb; have q := o1.at_ bb hb'; omega)
      | (have p := o3.at_ bb hb; have q := o2.at_ bb hb'; omega)
theorem q4_at (a b c d : Value) : ∀ i, i < 4 → (#[a, b, c, d] : Array Value)[i]? = some (q4 a b c d i) := fun i hi => by
  rcases q4_four hi with rfl | rfl | rfl | rfl <;> rfl
theorem q4_len {x0 x1 x2 x3 : List Value} {n0 n1 n2 n3 : Nat} (h0 : x0.length = n0) (h1 : x1.length = n1) (h2 : x2.length = n2) (h3 : x3.length = n3) : ∀ i, (q4 x0 x1 x2 x3 i).length = q4 n0 n1 n2 n3 i := fun i => by
  unfold q4
  split
  · exact h0
  · split
    · exact h1
    · split
      · exact h2
      · exact h3
theorem q4_le {n0 n1 n2 n3 N : Nat} (h0 : n0 ≤ N) (h1 : n1 ≤ N) (h2 : n2 ≤ N) (h3 : n3 ≤ N) : ∀ i, i < 4 → q4 n0 n1 n2 n3 i ≤ N := fun i _ => by
  unfold q4
  split
  · exact h0
  · split
    · exact h1
    · split
      · exact h2
      · exact h3
theorem ft_lo {W : World} {e : TypeId} {l0 h0 l1 h1 l2 h2 l3 h3 n0 n1 n2 n3 : Nat} {v0 v1 v2 v3 : Value} {x0 x1 x2 x3 : List Value}
    (o0 : Ob W e l0 h0 v0 n0 x0) (o1 : Ob W e l1 h1 v1 n1 x1) (o2 : Ob W e l2 h2 v2 n2 x2) (o3 : Ob W e l3 h3 v3 n3 x3) {B : Nat} (b0 : B ≤ l0) (b1 : B ≤ l1) (b2 : B ≤ l2) (b3 : B ≤ l3) : ∀ b, b < B → ¬ Ft (q4 v0 v1 v2 v3) b := by
  rintro b hb ⟨i, hi, he⟩
  rcases q4_four hi with rfl | rfl | rfl | rfl
  · have := (o0.at_ b he).1; omega
  · have := (o1.at_ b he).1; omega
  · have := (o2.at_ b he).1; omega
  · have := (o3.at_ b he).1; omega
theorem Ob.ft {W W' : World} {e e' : TypeId} {l0 h0 l1 h1 l2 h2 l3 h3 n0 n1 n2 n3 : Nat} {v0 v1 v2 v3 : Value} {x0 x1 x2 x3 : List Value} {lo hi n : Nat} {v : Value} {xs : List Value} (h : Ob W e' lo hi v n xs) (hne : e' ≠ e)
    (o0 : Ob W e l0 h0 v0 n0 x0) (o1 : Ob W e l1 h1 v1 n1 x1) (o2 : Ob W e l2 h2 v2 n2 x2) (o3 : Ob W e l3 h3 v3 n3 x3) (hc : Chg W W' (Ft (q4 v0 v1 v2 v3))) : Ob W' e' lo hi v n xs := by
  refine ⟨h.row.chg hc ?_, h.at_⟩
  rintro b hb ⟨i, hi, he⟩
  rcases q4_four hi with rfl | rfl | rfl | rfl
  · exact h.row.ne_row o0.row hne hb he
  · exact h.row.ne_row o1.row hne hb he
  · exact h.row.ne_row o2.row hne hb he
  · exact h.row.ne_row o3.row hne hb he
theorem Row.same_len {W : World} {e : TypeId} {v : Value} {n : Nat} {xs : List Value} (h : Row W e v n xs) : xs.length = n := h.1
end Go.Proofs.Yteambdbcjcfdeaa
