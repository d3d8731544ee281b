/-
  Go's library: math/bits.Len64 and bytes.Clone by the shelf's contracts, laid at this program in plain words; leb.Size: the length of a number's form.
-/
import Derived.Shelf.Strconv.Itoa0
import Derived.Ground.SlbCloneProg
import Derived.Shelf.Bytes.SlClone
import Derived.Lib.BitFns
import Derived.Lib.ItoaNum
import Derived.Test.YteambdbcjcfdeaaRows
import Derived.Test.YteambdbcjcfdeaaWords
import Derived.Test.YteambdbcjcfdeaaLebMath
namespace Go.Proofs.Yteambdbcjcfdeaa
open Go.RowKit Go.Shelf
def lays129_ren : Go.Shelf.Ren := ⟨fun | 129 => 70 | n => n, fun | 53 => 71 | 3 => 3 | 4 => 4 | 46 => 41 | 5 => 5 | 9 => 9 | n => n, fun | n => n⟩
theorem lays129 : Go.Proofs.Lays.n129 Try.prog lays129_ren := {
  mixed := by kernel_rfl
  f129 := Try.func70.trans (congrArg some (by kernel_rfl))
  t3 := Try.underlying3
  a3 := Try.isAgg3
  z3 := Try.sizeOf3
  v3 := Try.zeroValue3
  t4 := Try.underlying4
  a4 := Try.isAgg4
  z4 := Try.sizeOf4
  v4 := Try.zeroValue4
  t5 := Try.underlying5
  a5 := Try.isAgg5
  z5 := Try.sizeOf5
  v5 := Try.zeroValue5
  t9 := Try.underlying9
  a9 := Try.isAgg9
  z9 := Try.sizeOf9
  v9 := Try.zeroValue9
  t46 := Try.underlying41
  a46 := Try.isAgg41
  z46 := Try.sizeOf41
  v46 := Try.zeroValue41
  t53 := Try.underlying71
  a53 := Try.isAgg71
  z53 := Try.sizeOf71
  v53 := Try.zeroValue71 }
theorem len64_any (n : Nat) (w : World) (hn : n < U64) : Calls Try.prog 70 #[.int .u64 (n : Int)] w fun e w' => e = .returned (.int .i64 (Lib.bitLen n : Nat)) ∧ w = w' :=
  (Any.bits_Len64 lays129 (n : Int) w (by omega) (by unfold U64 at hn; omega)).mono fun _ _ h => ⟨by simpa using h.1, h.2.symm⟩
def laysSlK4_ren : Go.Shelf.Ren := ⟨fun | 4 => 69 | n => n, fun | 22 => 24 | 4 => 4 | 5 => 5 | n => n, fun | n => n⟩
theorem laysSlK4 : Go.Proofs.SlLaysK.n4 Try.prog laysSlK4_ren := {
  mixed := by kernel_rfl
  f4 := Try.func69.trans (congrArg some (by kernel_rfl))
  t4 := Try.underlying4
  a4 := Try.isAgg4
  z4 := Try.sizeOf4
  v4 := Try.zeroValue4
  t22 := Try.underlying24
  a22 := Try.isAgg24
  z22 := Try.sizeOf24
  v22 := Try.zeroValue24
  t5 := Try.underlying5
  i5 := by kernel_rfl }
theorem clone_any (A : Option Addr) (n c : Nat) (bs : List UInt8) (w : World) (B : Nat) (hr : Reads w B 1 A n (bs.map bv)) (hn : n ≤ 140737488355328) :
    Calls Try.prog 69 #[.slice A n c] w fun e w' => ∃ v', e = .returned v' ∧ w'.ownsRow w.heap.size 5 1 v' n (bs.map bv) ∧ Below w.heap.size w w' := by
  have hlen : bs.length = n := by have := hr.1; simpa using this
  cases A with
  | none =>
    have h0 : n = 0 := by
      rcases Nat.eq_zero_or_pos n with h | h
      · exact h
      · obtain ⟨_, h', _⟩ := hr.2 h
        cases h'
    subst h0
    have hb : bs = [] := List.eq_nil_of_length_eq_zero hlen
    subst hb
    refine (Any.bytes_Clone_nil laysSlK4 0 c w).mono fun e w' h => ⟨_, h.1, ?_, ?_⟩
    · rw [h.2]; exact World.ownsRow_nil _ _ _ _
    · rw [h.2]; exact Below.refl _ _
  | some a =>
    refine (Any.bytes_Clone_at laysSlK4 a n c (bs.map fun x => (x.toNat : Int)) w (by simpa using hlen) hn ?_).mono fun e w' h => ?_
    · intro i hi
      obtain ⟨ad, u, e, _, hx, hc⟩ := hr.at_ hi
      injection e with e
      subst e
      rw [hc]
      rw [List.getElem?_map] at hx
      obtain ⟨c0, hc0, rfl⟩ := Option.map_eq_some_iff.1 hx
      rw [List.getD_eq_getElem?_getD, List.getElem?_map, hc0]
      rfl
    · obtain ⟨v', he, ho, _, hb⟩ := h
      refine ⟨v', he, ?_, hb⟩
      rw [List.map_map] at ho
      exact ho

theorem formF_size : ∀ (f n : Nat), f ≤ 9 → n < 2 * 128 ^ f → (formF f n).length = max 1 ((Lib.bitLen n + 6) / 7) := by
  intro f
  induction f with
  | zero =>
    intro n _ hn
    have := Lib.bitLen_le n 1 (by omega) (by omega)
    simp only [formF, List.length_singleton]
    omega
  | succ f ih =>
    intro n hf hn
    by_cases h : n < 128
    · rw [formF_stop h]
      have := Lib.bitLen_le n 7 (by omega) h
      simp only [List.length_singleton]
      omega
    · rw [formF_go h, List.length_cons, ih (n / 128) (by omega) (by rw [Nat.pow_succ] at hn; omega)]
      have h64 : n < 2 ^ 64 := by
        have : 128 ^ (f + 1) ≤ 128 ^ 9 := Nat.pow_le_pow_right (by omega) hf
        omega
      have h1 := Lib.bitLen_shift 7 n (by omega) h64
      have h2 := (Lib.bitLenAux_bounds 64 (n / 128) (by omega) (by omega)).1
      have h3 : Lib.bitLen (n / 128) = Lib.bitLenAux 64 (n / 128) := rfl
      simp only [Nat.reducePow] at h1
      omega
theorem form_size (n : Nat) (hn : n < U64) : (form n).length = max 1 ((Lib.bitLen n + 6) / 7) := formF_size 9 n (by omega) (by unfold U64 at hn; omega)
theorem bitLen_64 (n : Nat) (hn : n < U64) : Lib.bitLen n ≤ 64 := Lib.bitLen_le n 64 (by omega) (by unfold U64 at hn; omega)

theorem size_any (n : Nat) (w : World) (hn : n < U64) :
    Calls Try.prog 39 #[.int .u64 (n : Int)] w fun e w' => e = .returned (.int .i64 ((form n).length : Nat)) ∧ w = w' := by
  have HS := Lib.hid (form_size n hn)
  have hb := bitLen_64 n hn
  have hL := hide (len64_any n w hn)
  go_enter Try.func39, Try.ntmps39
  go_wp2_with (go_at_call 70; refine (unhide hL).mono ?_; rintro e w1 ⟨rfl, rfl⟩)
  go_ret
  refine ⟨?_, rfl⟩
  rw [HS.out]
  exact congrArg (fun z => Ending.returned (.int .i64 z)) (by omega)
end Go.Proofs.Yteambdbcjcfdeaa
