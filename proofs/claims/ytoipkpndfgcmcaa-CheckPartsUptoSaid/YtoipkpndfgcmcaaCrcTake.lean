/-
  The program's check sum: take (half a byte at a time, by a table that it makes), Update, Sum over any bytes; the walks over the Go text. Numbers are uint32s, the bytes fewer than 2^47.
-/
import Derived.Test.YtoipkpndfgcmcaaRows
import Derived.Test.YtoipkpndfgcmcaaWords
import Derived.Test.YtoipkpndfgcmcaaCrcMath
import Derived.Test.YtoipkpndfgcmcaaCrcRef
namespace Go.Proofs.Ytoipkpndfgcmcaa
open Go.RowKit


def tcell (k i : Nat) : Value := .int .u32 (if i < k then (stp4 i : Nat) else 0 : Nat)
def tabl (k : Nat) : Array Value := ((List.range 16).map (tcell k)).toArray
theorem tabl_at {k i : Nat} (hi : i < 16) : (tabl k)[i]? = some (tcell k i) := by
  simp [tabl, List.getElem?_range hi]
theorem tabl_next {k : Nat} (hk : k < 16) : (tabl k).setIfInBounds k (.int .u32 (stp4 k : Nat)) = tabl (k + 1) := by
  apply Array.ext_getElem?
  intro i
  rw [Array.getElem?_setIfInBounds]
  by_cases hi : i < 16
  · by_cases he : k = i
    · subst he
      simp only [if_true, tabl_at hk]
      simp [tabl, hk, tcell]
    · rw [if_neg he, tabl_at hi, tabl_at hi]
      unfold tcell
      have : i < k ↔ i < k + 1 := by omega
      simp only [this]
  · have h1 : (tabl k).size = 16 := by simp [tabl]
    have h2 : (tabl (k + 1)).size = 16 := by simp [tabl]
    rw [if_neg (by omega), Array.getElem?_eq_none (by omega), Array.getElem?_eq_none (by omega)]
theorem tabl_zero : tabl 0 = #[.int .u32 0, .int .u32 0, .int .u32 0, .int .u32 0, .int .u32 0, .int .u32 0, .int .u32 0, .int .u32 0, .int .u32 0, .int .u32 0, .int .u32 0, .int .u32 0, .int .u32 0, .int .u32 0, .int .u32 0, .int .u32 0] := by
  rfl
/-- What a byte does, in the walk's own steps. -/
theorem byte_steps (r : Nat) (c : UInt8) (h : r < U32) : ∃ x1 y1 z1 x2 y2 z2 x3 : Nat, bits BinOp.xor IntKind.u32 (r : Int) (c.toNat : Int) = (x1 : Int) ∧ bits BinOp.and IntKind.u32 (x1 : Int) 15 = (y1 : Int) ∧ y1 < 16 ∧ z1 = stp4 y1 ∧
    bits BinOp.xor IntKind.u32 ((x1 : Int) / 16) (z1 : Int) = (x2 : Int) ∧ bits BinOp.and IntKind.u32 (x2 : Int) 15 = (y2 : Int) ∧ y2 < 16 ∧ z2 = stp4 y2 ∧ bits BinOp.xor IntKind.u32 ((x2 : Int) / 16) (z2 : Int) = (x3 : Int) ∧ x3 = tk r c ∧ x1 ≤ 4294967295 ∧ x2 ≤ 4294967295 := by
  have h1 : r ^^^ c.toNat < U32 := xor_lt h (u8_lt c)
  have h2 := stp4_lt h1
  have d : ∀ x : Nat, x < U32 → x / 16 < U32 := fun x hx => by unfold U32 at *; omega
  refine ⟨r ^^^ c.toNat, (r ^^^ c.toNat) % 16, _, stp4 (r ^^^ c.toNat), stp4 (r ^^^ c.toNat) % 16, _, _, xor_u32 _ _ h (u8_lt c), and_15 _ h1, by omega, rfl, ?_, and_15 _ h2, by omega, rfl, ?_, rfl, by unfold U32 at h1; omega, by unfold U32 at h2; omega⟩
  · rw [show ((r ^^^ c.toNat : Nat) : Int) / 16 = (((r ^^^ c.toNat) / 16 : Nat) : Int) by omega, xor_u32 _ _ (d _ h1) (stp4_lt (by unfold U32; omega)), stp4_table]
  · rw [show ((stp4 (r ^^^ c.toNat) : Nat) : Int) / 16 = ((stp4 (r ^^^ c.toNat) / 16 : Nat) : Int) by omega, xor_u32 _ _ (d _ h2) (stp4_lt (by unfold U32; omega)), stp4_table]
    rfl

set_option maxRecDepth 100000 in
set_option maxHeartbeats 600000 in
theorem take_any (s : Nat) (bs : List UInt8) (A : Option Addr) (n c B : Nat) (w : World) (h : s < U32) (hr : Reads w B 1 A n (bs.map bv)) (hn : n ≤ 140737488355328) (hB : B ≤ w.heap.size) :
    Calls Try.prog 48 #[.int .u32 (s : Int), .slice A n c] w fun e w' => e = .returned (.int .u32 (crc s bs : Nat)) ∧ Below w.heap.size w w' := by
  have hlen : bs.length = n := by have := hr.1; simpa using this
  have HR := hide hr
  clear hr
  go_enter Try.func48, Try.ntmps48
  go_wp2
  go_loopg [9] 16 (fun q i wr => ∃ k : Nat, k + q = 16 ∧ i = .int .i64 (k : Int) ∧ Blk wr w.heap.size 99 (tabl k) ∧ Below w.heap.size w wr)
  case atStart => exact ⟨0, rfl, rfl, by rw [tabl_zero]; exact Blk.new _ _ _, (Below.refl _ _).alloc (Nat.le_refl _) _⟩
  case round =>
    obtain ⟨k, hk, rfl, hb, hw⟩ := hrel
    by_cases hlt : k < 16
    · obtain ⟨q, rfl⟩ : ∃ q, gk = q + 1 := ⟨gk - 1, by omega⟩
      have hc : wr.cell? ⟨w.heap.size, k, none⟩ = some (.int .u32 0) := by rw [hb.cell, tabl_at hlt]; simp [tcell]
      have hf : wr.frozen? ⟨w.heap.size, k, none⟩ = false := hb.frozen k
      have h0 : k < U32 := by unfold U32; omega
      have s1 := hide (step_any k wr h0)
      have s2 := hide (step_any (stp k) wr (stp_lt h0))
      have s3 := hide (step_any (stp (stp k)) wr (stp_lt (stp_lt h0)))
      have s4 := hide (step_any (stp (stp (stp k))) wr (stp_lt (stp_lt (stp_lt h0))))
      have HB := hide hb
      have HW := hide hw
      clear hb hw h0
      go_wp2_with (first
        | (go_at_call 57; (with_reducible refine (unhide s1).mono ?_); rintro e w1 ⟨rfl, rfl⟩)
        | (go_at_call 57; (with_reducible refine (unhide s2).mono ?_); rintro e w1 ⟨rfl, rfl⟩)
        | (go_at_call 57; (with_reducible refine (unhide s3).mono ?_); rintro e w1 ⟨rfl, rfl⟩)
        | (go_at_call 57; (with_reducible refine (unhide s4).mono ?_); rintro e w1 ⟨rfl, rfl⟩))
      go_roundg q
      case rel => exact ⟨k + 1, by omega, by go_num, by rw [← tabl_next hlt]; exact (unhide HB).set_ k _, (unhide HW).setCell (Nat.le_refl _) _⟩
      case measure => omega
    · obtain rfl : k = 16 := by omega
      have HB := hide hb
      have HW := hide hw
      have HR1 := hide ((unhide HR).below (hw.mono hB))
      clear hb hw HR
      go_wp2
      go_loopg [0, 23] n (fun q t i wx => ∃ k r : Nat, k + q = n ∧ i = .int .i64 (k : Int) ∧ t = .int .u32 (r : Int) ∧ Hid (r < U32 ∧ crc r (bs.drop k) = crc s bs) ∧ wr = wx)
      case atStart => exact ⟨0, s, by omega, rfl, rfl, ⟨h, rfl⟩, rfl⟩
      case round =>
        obtain ⟨k, r, hk, rfl, rfl, HS, rfl⟩ := hrel
        clear h
        by_cases hlt : k < n
        · obtain ⟨q, rfl⟩ : ∃ q, gk = q + 1 := ⟨gk - 1, by omega⟩
          obtain ⟨b, off, u, rfl, hb, hxx, hc, hall⟩ := (unhide HR1).at0 hlt
          rw [List.getElem?_map] at hxx
          obtain ⟨c0, hx0, rfl⟩ := Option.map_eq_some_iff.1 hxx
          unfold bv at hc
          have HD : Hid (crc (tk r c0) (bs.drop (k + 1)) = crc s bs) := by
            show _ = _
            rw [← HS.out.2]
            obtain ⟨hl, rfl⟩ := List.getElem?_eq_some_iff.1 hx0
            rw [List.drop_eq_getElem_cons hl]
            rfl
          have HL := Lib.hid (tk_lt HS.out.1 c0)
          obtain ⟨x1, y1, z1, x2, y2, z2, x3, e1, e2, l1, e3, e4, e5, l2, e6, e7, e8, l3, l4⟩ := byte_steps r c0 HS.out.1
          have hc1 : wr.cell? ⟨w.heap.size, y1, none⟩ = some (.int .u32 (z1 : Int)) := by rw [(unhide HB).cell, tabl_at l1, tcell, if_pos l1, e3]
          have hc2 : wr.cell? ⟨w.heap.size, y2, none⟩ = some (.int .u32 (z2 : Int)) := by rw [(unhide HB).cell, tabl_at l2, tcell, if_pos l2, e6]
          rw [← e8] at HD HL
          have h8 := c0.toNat_lt
          clear e3 e6 e8 hx0 hxx hall HS
          go_wp2
          go_roundg q
          case rel => exact ⟨k + 1, x3, by omega, by go_num, rfl, ⟨HL.out, HD.out⟩, rfl⟩
          case measure => omega
        · have HX : Hid (r = crc s bs) := by
            show _ = _
            have := HS.out.2
            rw [List.drop_of_length_le (by omega)] at this
            exact this
          go_wp2
          go_ret
          exact ⟨by rw [← HX.out]; rfl, unhide HW⟩
end Go.Proofs.Ytoipkpndfgcmcaa
