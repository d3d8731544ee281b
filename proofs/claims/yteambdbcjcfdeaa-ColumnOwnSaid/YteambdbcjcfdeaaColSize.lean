/-
  Go's library at columns: math/bits.Len32 by the shelf's contract, slices.Max; how wide a column is; what one number takes: the walks over the Go text. Condition: fewer than 2^47 bytes.
-/
import Derived.Shelf.Strconv.Itoa0
import Derived.Shelf.Small.Bits
import Derived.Test.YteambdbcjcfdeaaColMath
import Derived.Test.YteambdbcjcfdeaaLebSize
import Derived.Test.YteambdbcjcfdeaaQuiet
namespace Go.Proofs.Yteambdbcjcfdeaa
open Go.RowKit Go.Shelf
def lays128_ren : Go.Shelf.Ren := ⟨fun | 128 => 85 | n => n, fun | 51 => 40 | 3 => 3 | 4 => 4 | 46 => 41 | 5 => 5 | 9 => 9 | n => n, fun | n => n⟩
theorem lays128 : Go.Proofs.Lays.n128 Try.prog lays128_ren := {
  mixed := by kernel_rfl
  f128 := Try.func85.trans (congrArg some (by kernel_rfl))
  t3 := Try.underlying3
  a3 := Try.isAgg3
  z3 := Try.sizeOf3
  v3 := Try.zeroValue3
  t4 := Try.underlying4
  a4 := Try.isAgg4
  z4 := Try.sizeOf4
  v4 := Try.zeroValue4
  t5 := Try.underlying5
  a5 := Try.isAgg5
  z5 := Try.sizeOf5
  v5 := Try.zeroValue5
  t9 := Try.underlying9
  a9 := Try.isAgg9
  z9 := Try.sizeOf9
  v9 := Try.zeroValue9
  t46 := Try.underlying41
  a46 := Try.isAgg41
  z46 := Try.sizeOf41
  v46 := Try.zeroValue41
  t51 := Try.underlying40
  a51 := Try.isAgg40
  z51 := Try.sizeOf40
  v51 := Try.zeroValue40 }
theorem len32_any (n : Nat) (w : World) (hn : n < 4294967296) : Calls Try.prog 85 #[.int .u32 (n : Int)] w fun e w' => e = .returned (.int .i64 (Lib.bitLen n : Nat)) ∧ w = w' :=
  (Any.bits_Len32 lays128 (n : Int) w (by omega) (by omega)).mono fun _ _ h => ⟨by simpa using h.1, h.2.symm⟩

/-- A column that reads, at a place. -/
theorem Reads.num {w : World} {B n k : Nat} {A : Option Addr} {c : List UInt32} (h : Reads w B 1 A n (c.map uw)) (hk : k < n) :
    ∃ b off x, A = some ⟨b, off, none⟩ ∧ b < B ∧ c[k]? = some x ∧ w.cell? ⟨b, off + k, none⟩ = some (.int .u32 (x.toNat : Int)) := by
  obtain ⟨b, off, u, e, hb, hx, hc, _⟩ := h.at0 hk
  rw [List.getElem?_map] at hx
  obtain ⟨x, hx2, rfl⟩ := Option.map_eq_some_iff.1 hx
  exact ⟨b, off, x, e, hb, hx2, hc⟩
theorem mx_take {c : List UInt32} {k : Nat} {x : UInt32} (h : c[k]? = some x) : mx (c.take (k + 1)) = max (mx (c.take k)) x.toNat := by
  obtain ⟨hl, rfl⟩ := List.getElem?_eq_some_iff.1 h
  rw [List.take_succ_eq_append_getElem hl, mx_snoc]

set_option maxRecDepth 100000 in
theorem max_any (c : List UInt32) (A : Option Addr) (n cap B : Nat) (w : World) (hr : Reads w B 1 A n (c.map uw)) (hn : 0 < n) (hN : n ≤ 140737488355328) :
    Calls Try.prog 86 #[.slice A n cap] w fun e w' => e = .returned (.int .u32 (mx c : Nat)) ∧ w = w' := by
  have hlen : c.length = n := by have := hr.1; simpa using this
  obtain ⟨b, off, x, rfl, _, hx, hc⟩ := hr.num hn
  rw [Nat.add_zero] at hc
  have h0 := mx_take hx
  rw [List.take_zero, show mx [] = 0 from rfl, Nat.zero_max] at h0
  have HR := hide hr
  have HX := Lib.hid h0
  have hn0 : (1 : Int) ≤ (n : Int) := by omega
  clear hr h0 hx
  go_enter Try.func86, Try.ntmps86
  go_wp2_with fail
  go_loopg [3, 4] (n - 1) (fun q m t wr => ∃ k : Nat, k + q = n ∧ t = .int .i64 (k : Int) ∧ 1 ≤ k ∧ m = .int .u32 (mx (c.take k) : Nat) ∧ w = wr)
  case atStart => exact ⟨1, by omega, rfl, by omega, by rw [HX.out], rfl⟩
  case round =>
    obtain ⟨k, hk, rfl, hk1, rfl, rfl⟩ := hrel
    obtain ⟨M, hM⟩ : ∃ M, mx (c.take k) = M := ⟨_, rfl⟩
    by_cases hlt : k < n
    · obtain ⟨q, rfl⟩ : ∃ q, gk = q + 1 := ⟨gk - 1, by omega⟩
      obtain ⟨b', off', y, e, _, hy, hc'⟩ := (unhide HR).num hlt
      cases e
      have h1 := mx_take hy
      rw [hM] at h1 ⊢
      have HY := Lib.hid h1
      have hkn : (k : Int) < (n : Int) := by omega
      obtain ⟨Y, hY⟩ : ∃ Y, y.toNat = Y := ⟨_, rfl⟩
      rw [hY] at hc' HY
      clear h1 hM hY hy
      go_wp2_with fail
      go_roundg q
      case rel => exact ⟨k + 1, by omega, by go_num, by omega, by rw [HY.out]; go_num, rfl⟩
      case measure => omega
    · obtain rfl : n = k := by omega
      rw [List.take_of_length_le (by omega)] at hM
      have HM := Lib.hid hM
      rw [List.take_of_length_le (by omega), hM]
      clear hM
      go_wp2_with fail
      go_ret
      exact ⟨ret_i (by rw [HM.out]), rfl⟩
theorem wide_any (c : List UInt32) (A : Option Addr) (n cap B : Nat) (w : World) (hr : Reads w B 1 A n (c.map uw)) (hN : n ≤ 140737488355328) :
    Calls Try.prog 66 #[.slice A n cap] w fun e w' => e = .returned (.int .i64 (wideS c : Nat)) ∧ w = w' := by
  have hlen : c.length = n := by have := hr.1; simpa using this
  by_cases h0 : n = 0
  · subst h0
    obtain rfl : c = [] := List.eq_nil_of_length_eq_zero hlen
    go_enter Try.func66, Try.ntmps66
    go_wp2_with fail
    go_ret
    exact ⟨rfl, rfl⟩
  · have hM := hide (max_any c A n cap B w hr (by omega) hN)
    have hL := hide (len32_any (mx c) w (mx_lt c))
    have hb : ((n : Int) == 0) = false := by simpa using h0
    clear hr hlen
    go_enter Try.func66, Try.ntmps66
    go_wp2_with fail
    refine (unhide hM).mono ?_
    rintro e w1 ⟨rfl, rfl⟩
    go_wp2_with fail
    refine (unhide hL).mono ?_
    rintro e w1 ⟨rfl, rfl⟩
    go_wp2_with fail
    go_ret
    exact ⟨rfl, rfl⟩

theorem step_any (c : List UInt32) (A : Option Addr) (n cap B i : Nat) (w : World) (hr : Reads w B 1 A n (c.map uw)) (hi : i < n) (hN : n ≤ 140737488355328) :
    Calls Try.prog 58 #[.slice A n cap, .int .i64 (i : Int)] w fun e w' => e = .returned (.int .u64 (stepAt c i : Nat)) ∧ ∃ m, w' = w.drewN m := by
  by_cases h0 : i = 0
  · subst h0
    obtain ⟨b, off, x, rfl, _, hx, hc⟩ := hr.num hi
    rw [Nat.add_zero] at hc
    have HS : Hid (stepAt c 0 = x.toNat) := by
      show _ = _
      rw [stepAt, if_pos rfl, List.getD_eq_getElem?_getD, hx]; rfl
    have hx4 := u32_lt x
    obtain ⟨X, hX⟩ : ∃ X, x.toNat = X := ⟨_, rfl⟩
    rw [hX] at hc HS hx4
    have hn0 : (0 : Int) < (n : Int) := by omega
    clear hr hx hX
    go_enter Try.func58, Try.ntmps58
    go_wp2_with fail
    go_ret
    exact ⟨ret_i (by rw [HS.out]), 0, rfl⟩
  · obtain ⟨j, rfl⟩ : ∃ j, i = j + 1 := ⟨i - 1, by omega⟩
    obtain ⟨b, off, x, rfl, _, hx, hc⟩ := hr.num hi
    obtain ⟨b', off', y, e, _, hy, hc'⟩ := hr.num (show j < n by omega)
    cases e
    have HS : Hid (stepAt c (j + 1) = tn ((x.toNat : Int) - (y.toNat : Int))) := by
      show _ = _
      rw [stepAt, if_neg (by omega), List.getD_eq_getElem?_getD, hx, Nat.add_sub_cancel, List.getD_eq_getElem?_getD, hy]; rfl
    have hx4 := u32_lt x
    have hy4 := u32_lt y
    obtain ⟨X, hX⟩ : ∃ X, x.toNat = X := ⟨_, rfl⟩
    obtain ⟨Y, hY⟩ : ∃ X, y.toNat = X := ⟨_, rfl⟩
    rw [hX] at hc HS hx4
    rw [hY] at hc' HS hy4
    have hT := fun q => hide (turn_tn ((X : Int) - (Y : Int)) (w.drewN q) (by omega) (by omega))
    have hs1 : IntKind.i64.wrap ((X : Int) - (Y : Int)) = (X : Int) - (Y : Int) := IntWalk.i64_in _ (by omega)
    have hs2 : IntKind.i64.wrap (((j + 1 : Nat) : Int) - 1) = (j : Int) := by rw [IntWalk.i64_in _ (by omega)]; omega
    have hj0 : (0 : Int) ≤ ((j + 1 : Nat) : Int) := by omega
    have hj1 : ((j + 1 : Nat) : Int) < (n : Int) := by omega
    have hj2 : (j : Int) < (n : Int) := by omega
    have hb : (((j + 1 : Nat) : Int) == 0) = false := by simp; omega
    clear hr hx hy hX hY
    go_enter Try.func58, Try.ntmps58
    go_wp2_with fail
    go_quiet ((go_at_call 40; exact quiet_left (unhide (hT _))))
    go_wp2_with fail
    go_ret
    exact ⟨ret_i (by rw [HS.out]), _, rfl⟩
end Go.Proofs.Yteambdbcjcfdeaa
