/-
  Decode: the walk over the Go text. Condition: fewer than 2^47 bytes.
-/
import Derived.Test.YteambdbcjcfdeaaColRead4
import Derived.Test.YteambdbcjcfdeaaColRow
import Derived.Deep.RegionHeld3
namespace Go.Proofs.Yteambdbcjcfdeaa
open Go.RowKit

theorem equal_any (A B : Option Addr) (n c m d : Nat) (xs ys : List UInt8) (w : World) (K : Nat) (hx : Reads w K 1 A n (xs.map bv)) (hy : Reads w K 1 B m (ys.map bv)) :
    Calls Try.prog 43 #[.slice A n c, .slice B m d] w fun e w' => e = .returned (.bool (xs == ys)) ∧ w = w' := by
  have r1 := run_string_of (P := Try.prog) hx c 24 9 5 Try.underlying24 Try.underlying5 Try.underlying9
  have r2 := run_string_of (P := Try.prog) hy d 24 9 5 Try.underlying24 Try.underlying5 Try.underlying9
  clear hx hy
  go_enter Try.func43, Try.ntmps43
  go_wp2_with fail
  go_ret
  exact ⟨rfl, rfl⟩

theorem clip_any (A : Option Addr) (n c : Nat) (w : World) (hc : n ≤ c) (hn : n ≤ 65536) : Calls Try.prog 44 #[.slice A n c] w fun e w' => e = .returned (.slice A n n) ∧ w = w' := by
  have h1 : (n : Int) ≤ (c : Int) := by omega
  have h0 : (0 : Int) ≤ (n : Int) := by omega
  go_enter Try.func44, Try.ntmps44
  go_wp2_with fail
  go_ret
  exact ⟨rfl, rfl⟩
/-- What Decode answers. -/
def Dec (bs : List UInt8) (rows : Int) (c : List UInt32) (e : Nat) : Prop :=
  (e = 2 ∧ c = [] ∧ (rows < 0 ∨ 65536 < rows)) ∨ (0 ≤ rows ∧ rows ≤ 65536 ∧
    ((e = 50 ∧ c = [] ∧ ∀ c2 : List UInt32, c2.length = rows.toNat → pageS c2 ≠ bs) ∨
     (e = 0 ∧ c.length = rows.toNat ∧ pageS c = bs ∧ ∀ c2 : List UInt32, c2.length = rows.toNat → pageS c2 = bs → c = c2)))
def DecOut (w : World) (bs : List UInt8) (rows : Int) (E : Ending) (w' : World) : Prop :=
  ∃ A c e, E = .returned (.tuple #[.slice A c.length c.length, .int .i64 ((e : Nat) : Int)]) ∧ Reads w' w'.heap.size 1 A c.length (c.map uw) ∧ (Row w' 40 (.slice A c.length c.length) c.length (c.map uw) ∧ ∀ ad, A = some ad → w.heap.size ≤ ad.block) ∧ Below w.heap.size w w' ∧ Dec bs rows c e
theorem dec_err {w w' : World} {bs : List UInt8} {rows : Int} {e : Nat} (hb : Below w.heap.size w w') (h : Dec bs rows [] e) : DecOut w bs rows (.returned (.tuple #[.slice none 0 0, .int .i64 (e : Int)])) w' :=
  ⟨none, [], e, rfl, Reads.none_, ⟨⟨rfl, .inl ⟨rfl, rfl⟩⟩, fun _ h => (by cases h)⟩, hb, h⟩
theorem decode_arg (A : Option Addr) (N cap : Nat) (rows : Int) (bs : List UInt8) (w : World) (h : rows < 0 ∨ 65536 < rows) :
    Calls Try.prog 24 #[.slice A N cap, .int .i64 rows] w (DecOut w bs rows) := by
  have HD := hide (dec_err (w := w) (w' := w) (bs := bs) (rows := rows) (e := 2) (Below.refl _ _) (.inl ⟨rfl, rfl, h⟩))
  by_cases h1 : rows < 0
  · clear h
    go_enter Try.func24, Try.ntmps24
    go_wp2_with fail
    go_ret2
    exact unhide HD
  · have h2 : 65536 < rows := by omega
    clear h
    go_enter Try.func24, Try.ntmps24
    go_wp2_with fail
    go_ret2
    exact unhide HD
theorem decode_none (A : Option Addr) (cap rows : Nat) (w : World) (h : rows ≤ 65536) :
    Calls Try.prog 24 #[.slice A 0 cap, .int .i64 (rows : Int)] w (DecOut w [] (rows : Int)) := by
  have HD := hide (dec_err (w := w) (w' := w) (bs := []) (rows := (rows : Int)) (e := 50) (Below.refl _ _) (.inr ⟨by omega, by omega, .inl ⟨rfl, rfl, fun c2 _ e => by rw [pageS] at e; cases e⟩⟩))
  have h1 : ¬ (rows : Int) < 0 := by omega
  have h2 : ¬ (65536 : Int) < (rows : Int) := by omega
  go_enter Try.func24, Try.ntmps24
  go_wp2_with fail
  go_ret2
  exact unhide HD
theorem decode_way (A : Option Addr) (N cap rows B : Nat) (y : UInt8) (bs : List UInt8) (w : World) (hr : Reads w B 1 A N ((y :: bs).map bv)) (h : rows ≤ 65536) (hy : y.toNat < 1 ∨ 4 < y.toNat) :
    Calls Try.prog 24 #[.slice A N cap, .int .i64 (rows : Int)] w (DecOut w (y :: bs) (rows : Int)) := by
  have hlen : N = bs.length + 1 := by have := hr.1; simp at this; omega
  have HD := hide (dec_err (w := w) (w' := w) (bs := y :: bs) (rows := (rows : Int)) (e := 50) (Below.refl _ _) (.inr ⟨by omega, by omega, .inl ⟨rfl, rfl, fun c2 _ e => by
    rw [pageS] at e
    injection e with e1 _
    have h3 := wayS_range c2
    rw [← e1, UInt8.toNat_ofNat', Nat.mod_eq_of_lt (by omega)] at hy
    omega⟩⟩))
  obtain ⟨b, off, u, rfl, _, hu, hc0, _⟩ := hr.at0 (k := 0) (by omega)
  simp only [List.map_cons, List.getElem?_cons_zero, Option.some.injEq] at hu
  subst hu
  rw [Nat.add_zero, bv] at hc0
  obtain ⟨Y, hY⟩ : ∃ Y, y.toNat = Y := ⟨_, rfl⟩
  rw [hY] at hc0 hy
  have h1 : ¬ (rows : Int) < 0 := by omega
  have h2 : ¬ (65536 : Int) < (rows : Int) := by omega
  have hN0 : ((N : Int) == 0) = false := by simp; omega
  have hN1 : (0 : Int) < (N : Int) := by omega
  clear hr hlen hY
  by_cases hy1 : Y < 1
  · have e1 : (Y : Int) < 1 := by omega
    clear hy
    go_enter Try.func24, Try.ntmps24
    go_wp2_with fail
    go_ret2
    exact unhide HD
  · have e1 : ¬ (Y : Int) < 1 := by omega
    have e2 : (4 : Int) < (Y : Int) := by omega
    clear hy
    go_enter Try.func24, Try.ntmps24
    go_wp2_with fail
    go_ret2
    exact unhide HD
end Go.Proofs.Yteambdbcjcfdeaa
