/-
  ColumnOne: the walk over the law's text. Condition: fewer than 2^47 bytes.
-/
import Derived.Test.YteambdbcjcfdeaaColDec2
import Derived.Test.YteambdbcjcfdeaaColAwake
namespace Go.Proofs.Yteambdbcjcfdeaa
open Go.RowKit

set_option maxRecDepth 100000 in
set_option maxHeartbeats 1000000 in
theorem columnOne_walk (A : Option Addr) (n cap : Nat) (bs : List UInt8) (x : Int) (w : World) (hr : Reads w w.heap.size 1 A n (bs.map bv)) (hn0 : n ≤ 140737488351232) (hcap : n ≤ cap) (_x1 : -9223372036854775808 ≤ x) (_x2 : x ≤ 9223372036854775807) :
    Calls Try.prog 8 #[.slice A n cap, .int .i64 x] w fun e w' => e = .returned (.bool true) ∧ Below w.heap.size w w' := by
  obtain ⟨B, hBe⟩ : ∃ B, w.heap.size = B := ⟨_, rfl⟩
  have hB : B ≤ w.heap.size := by omega
  have hn : n ≤ 140737488355328 := by omega
  rw [hBe] at hr
  have HBE := Lib.hid hBe
  have HA := hide (awake5_any w)
  clear hBe
  have HNum := fun x w => hide (num5_any x w)
  have HR := hide hr
  clear hr
  go_enter Try.func8, Try.ntmps8
  go_wp2_with fail
  refine (unhide HA).mono ?_
  rintro e w1 ⟨rfl, hb1⟩
  have hD := hide (decode_any A n cap B x bs w1 ((unhide HR).below (hb1.mono hB)) (Nat.le_trans hB hb1.size) hn hcap)
  have HB1 := hide hb1
  clear hb1 HA
  go_wp2_with fail
  refine (unhide hD).mono ?_
  rintro e w2 ⟨A2, c, k, rfl, hr2, _, hb2, hdec⟩
  have hb2' := (unhide HB1).trans (hb2.mono (unhide HB1).size)
  have HB2 := hide hb2'
  clear hb2 HB1 hD hb2'
  rcases hdec with ⟨rfl, rfl, hx⟩ | ⟨hx0, hx1, ⟨rfl, rfl, _⟩ | ⟨rfl, hl, hp, _⟩⟩
  · by_cases h1 : x < 0
    · clear hx
      go_wp2_with (go_at_call 17; refine (unhide (HNum _ _)).mono ?_; rintro e w4 ⟨rfl, rfl⟩)
      go_ret
      exact ⟨rfl, unhide HB2⟩
    · have h2 : 65536 < x := by omega
      clear hx
      go_wp2_with (go_at_call 17; refine (unhide (HNum _ _)).mono ?_; rintro e w4 ⟨rfl, rfl⟩)
      go_ret
      exact ⟨rfl, unhide HB2⟩
  · have h1 : ¬ x < 0 := by omega
    have h2 : ¬ 65536 < x := by omega
    go_wp2_with (go_at_call 17; refine (unhide (HNum _ _)).mono ?_; rintro e w4 ⟨rfl, rfl⟩)
    go_ret
    exact ⟨by simp [h1, h2], unhide HB2⟩
  · have hx' : x = (c.length : Int) := by omega
    subst hx'
    have hE := hide (encode_any c A2 c.length c.length w2.heap.size w2 hr2 (Nat.le_refl _) (by omega))
    clear hr2 hl
    go_wp2_with (go_at_call 17; refine (unhide (HNum _ _)).mono ?_; rintro e w4 ⟨rfl, rfl⟩)
    refine (unhide hE).mono ?_
    rintro e w3 ⟨v3, rfl, ho3, hb3⟩
    obtain ⟨A3, c3, rfl⟩ := ho3.shape
    have hb3' := (unhide HB2).trans (hb3.mono (unhide HB2).size)
    have hln : (pageS c).length = n := by rw [hp]; have := (unhide HR).1; simpa using this
    have hS := same5_any A3 A (pageS c).length c3 n cap (pageS c) bs w3 w3.heap.size (Reads.of_own ho3) (((unhide HR).below (hb3'.mono hB)).more (Nat.le_trans hB hb3'.size)) (by rw [hln]; exact hn) (Nat.le_refl _)
    rw [hp, beq_self_eq_true] at hS
    rw [hp]
    have HS := hide hS
    have HB3 := hide hb3'
    clear hS hb3 hb3' ho3 hp hln hE
    go_wp2_with (first
      | (go_at_call 17; refine (unhide (HNum _ _)).mono ?_; rintro e w4 ⟨rfl, rfl⟩)
      | (go_at_call 18; refine (unhide HS).mono ?_; rintro e w4 ⟨rfl, hb4⟩))
    go_ret
    exact ⟨rfl, (unhide HB3).trans (hb4.mono (unhide HB3).size)⟩
end Go.Proofs.Yteambdbcjcfdeaa
