/-
  The check sum's steps, of the program and of the document's answer: step, take, Update, Sum over any bytes; the walks over the Go text. Numbers are uint32s.
-/
import Derived.Test.YtoipkpndfgcmcaaRows
import Derived.Test.YtoipkpndfgcmcaaWords
import Derived.Test.YtoipkpndfgcmcaaCrcMath
namespace Go.Proofs.Ytoipkpndfgcmcaa
open Go.RowKit


theorem ret_n {k : IntKind} {a : Int} {b : Nat} (h : a = (b : Int)) : Ending.returned (.int k a) = .returned (.int k (b : Int)) := by rw [h]
theorem step_any (r : Nat) (w : World) (h : r < U32) : Calls Try.prog 57 #[.int .u32 (r : Int)] w fun e w' => e = .returned (.int .u32 (stp r : Nat)) ∧ w = w' := by
  have HV := Lib.hid (step_val r h)
  clear h
  go_enter Try.func57, Try.ntmps57
  go_wp2
  go_ret
  exact ⟨ret_n HV.out, rfl⟩
theorem refStep_any (r : Nat) (w : World) (h : r < U32) : Calls Try.prog 59 #[.int .u32 (r : Int)] w fun e w' => e = .returned (.int .u32 (stp r : Nat)) ∧ w = w' := by
  by_cases hm : r % 2 = 0
  · have ht : ((r : Int) % 2 == 0) = true := by simp; omega
    have HV : Hid ((r : Int) / 2 % 4294967296 = ((stp r : Nat) : Int)) := by
      show _ = _
      unfold stp
      rw [if_neg (by omega), Nat.xor_zero]
      unfold U32 at h
      omega
    clear h hm
    go_enter Try.func59, Try.ntmps59
    go_wp2
    go_ret
    exact ⟨ret_n HV.out, rfl⟩
  · have ht : ((r : Int) % 2 == 0) = false := by simp; omega
    have HV : Hid (bits BinOp.xor IntKind.u32 ((r : Int) / 2 % 4294967296) 3988292384 = ((stp r : Nat) : Int)) := by
      show _ = _
      unfold stp
      rw [if_pos (by omega), show ((r : Int) / 2 % 4294967296) = ((r / 2 : Nat) : Int) by unfold U32 at h; omega, show (3988292384 : Int) = ((POLY : Nat) : Int) from rfl, xor_u32 _ _ (by unfold U32 at *; omega) (by decide)]
    clear h hm
    go_enter Try.func59, Try.ntmps59
    go_wp2
    go_ret
    exact ⟨ret_n HV.out, rfl⟩

def stpN : Nat → Nat → Nat
  | 0, r => r
  | n + 1, r => stpN n (stp r)
theorem stpN_8 (r : Nat) : stpN 8 r = stp8 r := rfl

theorem refTake_any (r : Nat) (c : UInt8) (w : World) (h : r < U32) : Calls Try.prog 50 #[.int .u32 (r : Int), .int .u8 (c.toNat : Int)] w fun e w' => e = .returned (.int .u32 (tk r c : Nat)) ∧ w = w' := by
  have hx : bits BinOp.xor IntKind.u32 (r : Int) (c.toNat : Int) = ((r ^^^ c.toNat : Nat) : Int) := xor_u32 _ _ h (u8_lt c)
  have hc := c.toNat_lt
  go_enter Try.func50, Try.ntmps50
  go_wp2
  go_loopg [0, 5] 8 (fun q t i wr => ∃ k s : Nat, k + q = 8 ∧ i = .int .i64 (k : Int) ∧ t = .int .u32 (s : Int) ∧ Hid (s < U32 ∧ stpN q s = tk r c) ∧ w = wr)
  case atStart => exact ⟨0, r ^^^ c.toNat, rfl, rfl, by simp, ⟨xor_lt h (u8_lt c), rfl⟩, rfl⟩
  case round =>
    obtain ⟨k, s, hk, rfl, rfl, HS, rfl⟩ := hrel
    clear hx h
    by_cases hlt : k < 8
    · obtain ⟨q, rfl⟩ : ∃ q, gk = q + 1 := ⟨gk - 1, by omega⟩
      have hS := hide (step_any s w HS.out.1)
      have hR := hide (refStep_any s w HS.out.1)
      go_wp2_with (go_at_call 59; refine (unhide hR).mono ?_; rintro e w1 ⟨rfl, rfl⟩)
      go_roundg q
      case rel => exact ⟨k + 1, stp s, by omega, by go_num, rfl, ⟨stp_lt HS.out.1, HS.out.2⟩, rfl⟩
      case measure => omega
    · obtain rfl : gk = 0 := by omega
      go_wp2
      go_ret
      exact ⟨ret_n (by rw [← HS.out.2]; rfl), rfl⟩

theorem refUpdate_any (s : Nat) (bs : List UInt8) (A : Option Addr) (n c B : Nat) (w : World) (h : s < U32) (hr : Reads w B 1 A n (bs.map bv)) (hn : n ≤ 140737488355328) :
    Calls Try.prog 27 #[.int .u32 (s : Int), .slice A n c] w fun e w' => e = .returned (.int .u32 (upd s bs : Nat)) ∧ w = w' := by
  have hlen : bs.length = n := by have := hr.1; simpa using this
  have hx : bits BinOp.xor IntKind.u32 (s : Int) 4294967295 = ((s ^^^ ONES : Nat) : Int) := xor_u32 s ONES h ones_lt
  go_enter Try.func27, Try.ntmps27
  go_wp2
  go_loopg [5, 6] n (fun q t i wr => ∃ k r : Nat, k + q = n ∧ i = .int .i64 (k : Int) ∧ t = .int .u32 (r : Int) ∧ Hid (r < U32 ∧ crc r (bs.drop k) = crc (s ^^^ ONES) bs) ∧ w = wr)
  case atStart => exact ⟨0, s ^^^ ONES, by omega, rfl, by simp, ⟨xor_lt h ones_lt, rfl⟩, rfl⟩
  case round =>
    obtain ⟨k, r, hk, rfl, rfl, HS, rfl⟩ := hrel
    clear hx
    by_cases hlt : k < n
    · obtain ⟨q, rfl⟩ : ∃ q, gk = q + 1 := ⟨gk - 1, by omega⟩
      obtain ⟨b, off, u, rfl, hb, hxx, hc, hall⟩ := hr.at0 hlt
      rw [List.getElem?_map] at hxx
      obtain ⟨c0, hx0, rfl⟩ := Option.map_eq_some_iff.1 hxx
      unfold bv at hc
      have hT := hide (refTake_any r c0 w HS.out.1)
      have HD : Hid (crc (tk r c0) (bs.drop (k + 1)) = crc (s ^^^ ONES) bs) := by
        show _ = _
        rw [← HS.out.2]
        obtain ⟨hl, rfl⟩ := List.getElem?_eq_some_iff.1 hx0
        rw [List.drop_eq_getElem_cons hl]
        rfl
      clear hr hx0 h hxx hall
      go_wp2_with (go_at_call 50; refine (unhide hT).mono ?_; rintro e w1 ⟨rfl, rfl⟩)
      go_roundg q
      case rel => exact ⟨k + 1, tk r c0, by omega, by go_num, rfl, ⟨tk_lt HS.out.1 c0, HD.out⟩, rfl⟩
      case measure => omega
    · have HX : Hid (bits BinOp.xor IntKind.u32 (r : Int) 4294967295 = ((upd s bs : Nat) : Int)) := by
        show _ = _
        have := HS.out.2
        rw [List.drop_of_length_le (by omega)] at this
        unfold upd
        rw [← this]
        exact xor_u32 r ONES HS.out.1 ones_lt
      clear hr h
      go_wp2
      go_ret
      exact ⟨ret_n HX.out, rfl⟩
theorem refSum_any (bs : List UInt8) (A : Option Addr) (n c B : Nat) (w : World) (hr : Reads w B 1 A n (bs.map bv)) (hn : n ≤ 140737488355328) :
    Calls Try.prog 25 #[.slice A n c] w fun e w' => e = .returned (.int .u32 (upd 0 bs : Nat)) ∧ w = w' := by
  have hU := hide (refUpdate_any 0 bs A n c B w (by decide) hr hn)
  clear hr
  go_enter Try.func25, Try.ntmps25
  go_wp2_with (go_at_call 27; refine (unhide hU).mono ?_; rintro e w1 ⟨rfl, rfl⟩)
  go_ret
  exact ⟨rfl, rfl⟩
end Go.Proofs.Ytoipkpndfgcmcaa
