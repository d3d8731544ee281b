/-
  The sizes of the plain and of the delta way: the closures, the sum over a column: the walks over the Go text. Condition: fewer than 2^47 bytes.
-/
import Derived.Test.YteambdbcjcfdeaaColSize
namespace Go.Proofs.Yteambdbcjcfdeaa
open Go.RowKit

theorem size1_one (c : List UInt32) (A : Option Addr) (n cap B bx i : Nat) (w : World) (hbx : w.cell? ⟨bx, 0, none⟩ = some (.slice A n cap)) (hr : Reads w B 1 A n (c.map uw)) (hi : i < n) (_hN : n ≤ 140737488355328) :
    Calls Try.prog 52 #[.int .i64 (i : Int), .pointer (some ⟨bx, 0, none⟩)] w fun e w' => e = .returned (.int .i64 ((form (c.getD i 0).toNat).length : Nat)) ∧ ∃ m, w' = w.drewN m := by
  obtain ⟨b, off, x, rfl, _, hx, hc⟩ := hr.num hi
  have hx4 := u32_lt x
  have HX : Hid (c.getD i 0 = x) := by show _ = _; rw [List.getD_eq_getElem?_getD, hx]; rfl
  have hS := hide (size_any x.toNat w (by unfold U64; omega))
  obtain ⟨X, hX⟩ : ∃ X, x.toNat = X := ⟨_, rfl⟩
  rw [hX] at hc hS hx4
  have HXX := Lib.hid hX
  have hi0 : (i : Int) < (n : Int) := by omega
  clear hr hx hX
  go_enter Try.func52, Try.ntmps52
  go_wp2_with fail
  refine (unhide hS).mono ?_
  rintro e w1 ⟨rfl, rfl⟩
  go_wp2_with fail
  go_ret
  exact ⟨ret_i (by rw [HX.out, HXX.out]), 0, rfl⟩
theorem size3_one (c : List UInt32) (A : Option Addr) (n cap B bx i : Nat) (w : World) (hbx : w.cell? ⟨bx, 0, none⟩ = some (.slice A n cap)) (hr : Reads w B 1 A n (c.map uw)) (hi : i < n) (hN : n ≤ 140737488355328) :
    Calls Try.prog 57 #[.int .i64 (i : Int), .pointer (some ⟨bx, 0, none⟩)] w fun e w' => e = .returned (.int .i64 ((form (stepAt c i)).length : Nat)) ∧ ∃ m, w' = w.drewN m := by
  have hT := hide (step_any c A n cap B i w hr hi hN)
  have hl := stepAt_lt c i
  obtain ⟨s, hs⟩ : ∃ s, stepAt c i = s := ⟨_, rfl⟩
  rw [hs] at hT hl ⊢
  have hS := fun q => hide (size_any s (w.drewN q) hl)
  clear hr hs
  go_enter Try.func57, Try.ntmps57
  go_wp2_with fail
  refine (unhide hT).mono ?_
  rintro e w1 ⟨rfl, m1, rfl⟩
  go_wp2_with fail
  refine (unhide (hS _)).mono ?_
  rintro e w1 ⟨rfl, rfl⟩
  go_wp2_with fail
  go_ret
  exact ⟨rfl, _, rfl⟩
theorem plain_next (c : List UInt32) {k : Nat} (h : k < c.length) : (plainS (c.take (k + 1))).length = (plainS (c.take k)).length + (form (c.getD k 0).toNat).length := by
  rw [plainS_take c (x := c.getD k 0) (by rw [List.getD_eq_getElem?_getD, List.getElem?_eq_getElem h]; rfl), List.length_append]
theorem plain_le (c : List UInt32) (k : Nat) : (plainS (c.take k)).length ≤ 5 * k := by
  have := plainS_len (c.take k)
  rw [List.length_take] at this
  omega

set_option maxRecDepth 100000 in
theorem sum1_any (c : List UInt32) (A : Option Addr) (n cap B bx : Nat) (w : World) (hbx : w.cell? ⟨bx, 0, none⟩ = some (.slice A n cap)) (hr : Reads w B 1 A n (c.map uw)) (hN : n ≤ 140737488355328) :
    Calls Try.prog 51 #[.slice A n cap, .func (.func 52) #[] #[.pointer (some ⟨bx, 0, none⟩)]] w fun e w' => e = .returned (.int .i64 ((plainS (c.take n)).length : Nat)) ∧ ∃ m, w' = w.drewN m := by
  have hlen : c.length = n := by have := hr.1; simpa using this
  have HR := hide hr
  have HBX := hide hbx
  clear hr hbx
  go_enter Try.func51, Try.ntmps51
  go_wp2_with fail
  go_loopg [5, 9] n (fun q s t W => ∃ k m : Nat, k + q = n ∧ t = .int .i64 (k : Int) ∧ s = .int .i64 ((plainS (c.take k)).length : Nat) ∧ W = w.drewN m)
  case atStart => exact ⟨0, 0, by omega, rfl, rfl, rfl⟩
  case round =>
    obtain ⟨k, m, hk, rfl, rfl, rfl⟩ := hrel
    obtain ⟨s, hs⟩ : ∃ s, (plainS (c.take k)).length = s := ⟨_, rfl⟩
    have hs5 : s ≤ 5 * k := by rw [← hs]; exact plain_le c k
    rw [hs]
    by_cases hlt : k < n
    · obtain ⟨q, rfl⟩ : ∃ q, gk = q + 1 := ⟨gk - 1, by omega⟩
      have hkn : (k : Int) < (n : Int) := by omega
      have hk0 : (0 : Int) ≤ (k : Int) := by omega
      have hc := size1_one c A n cap B bx k (w.drewN m) (unhide HBX) ((unhide HR).drewN m) hlt hN
      obtain ⟨a, ha, ha5, hnext⟩ : ∃ a, (form (c.getD k 0).toNat).length = a ∧ a ≤ 5 ∧ (plainS (c.take (k + 1))).length = s + a := ⟨_, rfl, form_five (by have := u32_lt (c.getD k 0); omega), by rw [← hs]; exact plain_next c (by omega)⟩
      rw [ha] at hc
      have HC := hide hc
      have HNX := Lib.hid hnext
      clear hc ha hnext hs
      go_wp2_with fail
      refine (unhide HC).mono ?_
      rintro e w1 ⟨rfl, m1, rfl⟩
      go_wp2_with fail
      go_roundg q
      case rel => exact ⟨k + 1, m + m1, by omega, by go_num, by rw [HNX.out]; go_num, by first | rfl | rw [World.drewN_drewN]⟩
      case measure => omega
    · obtain rfl : n = k := by omega
      have HS := Lib.hid hs
      clear hs
      go_wp2_with fail
      go_ret
      exact ⟨ret_i (by rw [HS.out]), _, rfl⟩
theorem size1_any (c : List UInt32) (A : Option Addr) (n cap B : Nat) (w : World) (hr : Reads w B 1 A n (c.map uw)) (hB : B ≤ w.heap.size) (hN : n ≤ 140737488355328) :
    Calls Try.prog 50 #[.slice A n cap] w fun e w' => e = .returned (.int .i64 ((plainS (c.take n)).length : Nat)) ∧ Below w.heap.size w w' := by
  have hb : Below w.heap.size w (w.alloc (.cells #[.slice A n cap] 22)) := (Below.refl _ _).alloc (Nat.le_refl _) _
  have hS := hide (sum1_any c A n cap B w.heap.size (w.alloc (.cells #[.slice A n cap] 22)) ((Blk.new w _ _).cell 0) (hr.alloc hB _) hN)
  have HB := hide hb
  clear hb hr
  go_enter Try.func50, Try.ntmps50
  go_wp2_with fail
  refine (unhide hS).mono ?_
  rintro e w1 ⟨rfl, m1, rfl⟩
  go_wp2_with fail
  go_ret
  exact ⟨rfl, below_drewN (unhide HB) _⟩

set_option maxRecDepth 100000 in
theorem sum3_any (c : List UInt32) (A : Option Addr) (n cap B bx : Nat) (w : World) (hbx : w.cell? ⟨bx, 0, none⟩ = some (.slice A n cap)) (hr : Reads w B 1 A n (c.map uw)) (hN : n ≤ 140737488355328) :
    Calls Try.prog 51 #[.slice A n cap, .func (.func 57) #[] #[.pointer (some ⟨bx, 0, none⟩)]] w fun e w' => e = .returned (.int .i64 ((deltaTo c n).length : Nat)) ∧ ∃ m, w' = w.drewN m := by
  have hlen : c.length = n := by have := hr.1; simpa using this
  have HR := hide hr
  have HBX := hide hbx
  clear hr hbx
  go_enter Try.func51, Try.ntmps51
  go_wp2_with fail
  go_loopg [5, 9] n (fun q s t W => ∃ k m : Nat, k + q = n ∧ t = .int .i64 (k : Int) ∧ s = .int .i64 ((deltaTo c k).length : Nat) ∧ W = w.drewN m)
  case atStart => exact ⟨0, 0, by omega, rfl, rfl, rfl⟩
  case round =>
    obtain ⟨k, m, hk, rfl, rfl, rfl⟩ := hrel
    obtain ⟨s, hs⟩ : ∃ s, (deltaTo c k).length = s := ⟨_, rfl⟩
    have hs5 : s ≤ 5 * k := by rw [← hs]; exact deltaTo_len c k
    rw [hs]
    by_cases hlt : k < n
    · obtain ⟨q, rfl⟩ : ∃ q, gk = q + 1 := ⟨gk - 1, by omega⟩
      have hkn : (k : Int) < (n : Int) := by omega
      have hk0 : (0 : Int) ≤ (k : Int) := by omega
      have hc := size3_one c A n cap B bx k (w.drewN m) (unhide HBX) ((unhide HR).drewN m) hlt hN
      obtain ⟨a, ha, ha5, hnext⟩ : ∃ a, (form (stepAt c k)).length = a ∧ a ≤ 5 ∧ (deltaTo c (k + 1)).length = s + a := ⟨_, rfl, step_five c k, by rw [← hs, deltaTo, List.length_append]⟩
      rw [ha] at hc
      have HC := hide hc
      have HNX := Lib.hid hnext
      clear hc ha hnext hs
      go_wp2_with fail
      refine (unhide HC).mono ?_
      rintro e w1 ⟨rfl, m1, rfl⟩
      go_wp2_with fail
      go_roundg q
      case rel => exact ⟨k + 1, m + m1, by omega, by go_num, by rw [HNX.out]; go_num, by first | rfl | rw [World.drewN_drewN]⟩
      case measure => omega
    · obtain rfl : n = k := by omega
      have HS := Lib.hid hs
      clear hs
      go_wp2_with fail
      go_ret
      exact ⟨ret_i (by rw [HS.out]), _, rfl⟩
theorem size3_any (c : List UInt32) (A : Option Addr) (n cap B : Nat) (w : World) (hr : Reads w B 1 A n (c.map uw)) (hB : B ≤ w.heap.size) (hN : n ≤ 140737488355328) :
    Calls Try.prog 56 #[.slice A n cap] w fun e w' => e = .returned (.int .i64 ((deltaTo c n).length : Nat)) ∧ Below w.heap.size w w' := by
  have hb : Below w.heap.size w (w.alloc (.cells #[.slice A n cap] 22)) := (Below.refl _ _).alloc (Nat.le_refl _) _
  have hS := hide (sum3_any c A n cap B w.heap.size (w.alloc (.cells #[.slice A n cap] 22)) ((Blk.new w _ _).cell 0) (hr.alloc hB _) hN)
  have HB := hide hb
  clear hb hr
  go_enter Try.func56, Try.ntmps56
  go_wp2_with fail
  refine (unhide hS).mono ?_
  rintro e w1 ⟨rfl, m1, rfl⟩
  go_wp2_with fail
  go_ret
  exact ⟨rfl, below_drewN (unhide HB) _⟩

theorem size7_any (c : List UInt32) (A : Option Addr) (n cap B : Nat) (w : World) (hr : Reads w B 1 A n (c.map uw)) (hN : n ≤ 140737488355328) :
    Calls Try.prog 65 #[.slice A n cap] w fun e w' => e = .returned (.int .i64 ((packS c).length : Nat)) ∧ w = w' := by
  have hlen : c.length = n := by have := hr.1; simpa using this
  have hW := hide (wide_any c A n cap B w hr hN)
  have hw32 := wide_le c
  have HP := Lib.hid (packS_len c)
  rw [hlen] at HP
  obtain ⟨d, hd⟩ : ∃ d, wideS c = d := ⟨_, rfl⟩
  rw [hd] at hW hw32 HP
  have hm : n * d ≤ 140737488355328 * 32 := Nat.mul_le_mul hN hw32
  have hm1 : ((n : Int) * (d : Int)) = ((n * d : Nat) : Int) := by simp
  obtain ⟨p, hp⟩ : ∃ p, n * d = p := ⟨_, rfl⟩
  rw [hp] at hm hm1 HP
  have hs1 : IntKind.i64.wrap ((n : Int) * (d : Int)) = (p : Int) := by rw [hm1, IntWalk.i64_in _ (by omega)]
  clear hr hlen hd hm1 hp
  go_enter Try.func65, Try.ntmps65
  go_wp2_with fail
  refine (unhide hW).mono ?_
  rintro e w1 ⟨rfl, rfl⟩
  go_wp2_with fail
  go_ret
  exact ⟨ret_i (by rw [HP.out]; omega), rfl⟩
end Go.Proofs.Yteambdbcjcfdeaa
