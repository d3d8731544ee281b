/-
  The packed way laid into a writer: the walk over the Go text. Condition: what the writer holds stays below 2^47 bytes; at most a million numbers.
-/
import Derived.Test.YteambdbcjcfdeaaColLay2
import Derived.Laws.MakeOwn
import Derived.RegionTactic
import Derived.ChangeAlike
import Derived.BigRegion
namespace Go.Proofs.Yteambdbcjcfdeaa
open Go.RowKit

theorem pack_val {y r X k : Nat} (hy : y < 2 ^ r) (hr : r ≤ 7) (hX : X < 4294967296) :
    Value.int IntKind.u8 (bits BinOp.or IntKind.u8 (y : Int) (bits BinOp.and IntKind.u32 ((X : Int) / 2 ^ k) 1 % 256 * 2 ^ r % 256)) = bv (UInt8.ofNat (y + (if X.testBit k then 2 ^ r else 0))) := by
  have h2 : 2 ^ r ≤ 2 ^ 7 := Nat.pow_le_pow_right (by omega) hr
  have hd : X / 2 ^ k ≤ X := Nat.div_le_self _ _
  have e1 : ((X : Int) / 2 ^ k) = ((X / 2 ^ k : Nat) : Int) := by rw [Int.natCast_ediv, Int.natCast_pow]; rfl
  have e2 : bits BinOp.and IntKind.u32 ((X / 2 ^ k : Nat) : Int) 1 = ((X / 2 ^ k % 2 : Nat) : Int) := by
    rw [show (1 : Int) = ((1 : Nat) : Int) from rfl, u32_and_nat _ 1 (by omega) (by omega), Nat.and_one_is_mod]
  rw [e1, e2, Nat.testBit_eq_decide_div_mod_eq]
  obtain ⟨b, hb⟩ : ∃ b, X / 2 ^ k % 2 = b := ⟨_, rfl⟩
  rw [hb]
  obtain ⟨z, hz⟩ : ∃ z, 2 ^ r = z := ⟨_, rfl⟩
  have e3 : (2 : Int) ^ r = (z : Int) := by rw [← hz, Int.natCast_pow]; rfl
  rw [e3]
  rcases (show b = 0 ∨ b = 1 by omega) with h | h
  · subst h
    have e0 : ((0 : Nat) : Int) % 256 * (z : Int) % 256 = ((0 : Nat) : Int) := by simp
    have e6 : (if decide ((0 : Nat) = 1) = true then 2 ^ r else 0) = 0 := by simp
    rw [e0, u8_or_nat y 0 (by omega) (by omega), Nat.or_zero, e6, Nat.add_zero]
    exact bv_nat y (by omega)
  · subst h
    have e4 : ((1 : Nat) : Int) % 256 * (z : Int) % 256 = (z : Int) := by omega
    have e5 : y ||| z = y + z := by
      rw [Nat.or_comm, ← hz]
      have := Nat.two_pow_add_eq_or_of_lt hy 1
      rw [Nat.mul_one] at this
      rw [← this, Nat.add_comm]
    have e6 : (if decide ((1 : Nat) = 1) = true then 2 ^ r else 0) = z := by simp [hz]
    rw [e4, u8_or_nat y z (by omega) (by omega), e5, e6]
    exact bv_nat _ (by omega)
theorem packTo_len (c : List UInt32) (n t L : Nat) : (packTo c n t L).length = L := by simp [packTo]
theorem packTo_at (c : List UInt32) (n t : Nat) {L j : Nat} (h : j < L) : (packTo c n t L)[j]? = some (UInt8.ofNat (byteTo c n t j)) := by
  rw [packTo, List.getElem?_map, List.getElem?_range h]; rfl
theorem packTo_next (c : List UInt32) (n t L : Nat) : (packTo c n t L).set (t / 8) (UInt8.ofNat (byteTo c n t (t / 8) + (if bitAt c n t then 2 ^ (t % 8) else 0))) = packTo c n (t + 1) L := by
  apply List.ext_getElem?
  intro j
  by_cases hj : j < L
  · rw [packTo_at c n (t + 1) hj]
    by_cases e : t / 8 = j
    · subst e
      rw [List.getElem?_set_self (by rw [packTo_len]; exact hj), byteTo_next]
    · rw [List.getElem?_set_ne e, packTo_at c n t hj, byteTo_other c n t j (fun h => e h.symm)]
  · rw [List.getElem?_eq_none (by rw [List.length_set, packTo_len]; omega), List.getElem?_eq_none (by rw [packTo_len]; omega)]
theorem packTo_zero (c : List UInt32) (n L : Nat) : packTo c n 0 L = List.replicate L 0 := by
  apply List.ext_getElem?
  intro j
  by_cases hj : j < L
  · rw [packTo_at c n 0 hj, byteTo_zero, List.getElem?_replicate, if_pos hj]; rfl
  · rw [List.getElem?_eq_none (by rw [packTo_len]; omega), List.getElem?_eq_none (by simpa using Nat.le_of_not_lt hj)]
theorem made_u8 (L : Nat) : madeCells (Value.int .u8 0).cells L = ((List.replicate L (0 : UInt8)).map bv).toArray := by
  have hc : (Value.int .u8 0).cells = #[Value.int .u8 0] := rfl
  rw [hc]
  apply Array.ext
  · simp [size_madeCells]
  · intro j h1 h2
    simp [madeCells, Nat.mod_one, bv]
theorem make_u8 (w : World) (L : Nat) (hL : L ≤ 140737488355328) : (Instr.makeSlice 24 (.int .i64 (L : Int)) (.int .i64 (L : Int))).run Try.prog w = .ok (.slice (some ⟨w.heap.size, 0, none⟩) L L) (w.alloc (.cells ((List.replicate L (0 : UInt8)).map bv).toArray 5)) := by
  obtain ⟨i, hi, hz, hs, hb⟩ := info_parts (P := Try.prog) (e := 5) (z := .int .u8 0) (size := 1) (bytes := 1) (by kernel_rfl)
  have h := run_make (P := Try.prog) w 24 5 i (.int .u8 0) Try.underlying24 hi hz .i64 .i64 (L : Int) (L : Int) (by omega) (by omega) (by rw [hb]; omega) (by omega)
  rw [hs, Int.toNat_natCast, Nat.mul_one, made_u8] at h
  exact h

set_option maxRecDepth 100000 in
set_option maxHeartbeats 2000000 in
theorem lay8_any (c : List UInt32) (A : Option Addr) (n cap B : Nat) (w : World) (g : Nat) (v : Value) (bs : List UInt8) (h : WrP w g v bs) (hr : Reads w B 1 A n (c.map uw)) (hB : B ≤ g) (hn : n ≤ 1048576) (hb : bs.length + 20 * n ≤ 140737488340000) :
    Calls Try.prog 67 #[.pointer (some ⟨g, 0, none⟩), .slice A n cap] w fun e w' => e = .returned (.tuple #[]) ∧ ∃ v', WrP w' g v' (bs ++ packS c) ∧ Turns w g v w' v' := by
  have hlen : c.length = n := by have := hr.1; simpa using this
  have hW := hide (wide_any c A n cap B w hr (by omega))
  have hd32 := wide_le c
  obtain ⟨d, hd⟩ : ∃ d, wideS c = d := ⟨_, rfl⟩
  rw [hd] at hW hd32
  have HH := hide h
  have HR := hide hr
  have HD := Lib.hid hd
  clear h hr hd
  go_enter Try.func67, Try.ntmps67
  go_wp2_with fail
  refine (unhide hW).mono ?_
  rintro e w1 ⟨rfl, rfl⟩
  have hb1 : Below w.heap.size w (w.alloc (.cells #[.int .u8 (d : Int)] 5)) := (Below.refl _ _).alloc (Nat.le_refl _) _
  have hgl := (unhide HH).blk.lt
  have hR1 := wraw_any (w.alloc (.cells #[.int .u8 (d : Int)] 5)) g v bs (some ⟨w.heap.size, 0, none⟩) 1 1 (w.heap.size + 1) [UInt8.ofNat d] ((unhide HH).chg (Chg.of_below hb1 (fun _ => False)) (fun h => h) (fun _ _ h => h))
    (reads_lit w _ rfl 5 #[.int .u8 (d : Int)] 1 rfl _ (by rw [bv_nat d (by omega)]; rfl)) (by omega)
  have HR1 := hide hR1
  have HB1 := hide hb1
  obtain ⟨p, hp⟩ : ∃ p, n * d = p := ⟨_, rfl⟩
  have hpm : p ≤ 1048576 * 32 := by rw [← hp]; exact Nat.mul_le_mul hn hd32
  have hpn : p ≤ n * 32 := by rw [← hp]; exact Nat.mul_le_mul_left _ hd32
  obtain ⟨L, hL⟩ : ∃ L, (p + 7) / 8 = L := ⟨_, rfl⟩
  have hs1 : IntKind.i64.wrap ((n : Int) * (d : Int)) = (p : Int) := by rw [← Int.natCast_mul, hp, IntWalk.i64_in _ (by omega)]
  have hs2 : ((p : Int) + 7) / 8 = (L : Int) := by omega
  have hmk := fun w => make_u8 w L (by omega)
  obtain ⟨Z, hZ⟩ : ∃ Z : Array Value, ((List.replicate L (0 : UInt8)).map bv).toArray = Z := ⟨_, rfl⟩
  simp only [hZ] at hmk
  have HZ := Lib.hid hZ
  have HP := Lib.hid hp
  have HL := Lib.hid hL
  clear hR1 hb1 hp hL hW hZ
  go_wp2_with fail
  refine (unhide HR1).mono ?_
  rintro e W2 ⟨rfl, v2, hw2, ht2⟩
  have ht2' : Turns w g v W2 v2 := Turns.trans ⟨Chg.of_below (unhide HB1) _, .inl rfl⟩ ht2
  have HW2 := hide hw2
  have HT2 := hide ht2'
  clear hw2 ht2 ht2' HR1 HB1
  go_wp2_with fail
  obtain ⟨rb, hrb⟩ : ∃ rb, W2.heap.size = rb := ⟨_, rfl⟩
  obtain ⟨W3, hW3⟩ : ∃ W3, W2.alloc (.cells Z 5) = W3 := ⟨_, rfl⟩
  have hbk3 : Blk W3 rb 5 ((packTo c d 0 L).map bv).toArray := by rw [← hW3, ← hrb, packTo_zero, HZ.out]; exact Blk.new _ _ _
  have hb3 : Below W2.heap.size W2 W3 := by rw [← hW3]; exact (Below.refl _ _).alloc (Nat.le_refl _) _
  have HBK3 := hide hbk3
  have HB3 := hide hb3
  have hr3 := ((unhide HT2).reads (xs := []) (unhide HH) hB (unhide HR) rfl).below (hb3.mono (show B ≤ W2.heap.size by have := (unhide HT2).chg.size; omega))
  have HR3 := hide hr3
  rw [hW3, hrb]
  have hBrb : B ≤ rb := by have := (unhide HT2).chg.size; omega
  clear hW3 hbk3 hb3 hr3 hmk
  go_loopg [26] n (fun q t W => ∃ i : Nat, i + q = n ∧ t = .int .i64 (i : Int) ∧ Blk W rb 5 ((packTo c d (i * d) L).map bv).toArray ∧ Chg W3 W (fun k => k = rb))
  case atStart => exact ⟨0, by omega, rfl, by rw [Nat.zero_mul]; exact unhide HBK3, Chg.refl _ _⟩
  case round =>
    obtain ⟨i, hiq, rfl, hbk, hch⟩ := hrel
    by_cases hi : i < n
    · obtain ⟨q, rfl⟩ : ∃ q, gk = q + 1 := ⟨gk - 1, by omega⟩
      have hrr : Reads wr B 1 A n (c.map uw) := (unhide HR3).below (hch.below (by have := (unhide HB3).size; omega) (fun k hk e => by omega))
      obtain ⟨b, off, x, rfl, _, hx, hc⟩ := hrr.num hi
      obtain ⟨X, hX⟩ : ∃ X, x.toNat = X := ⟨_, rfl⟩
      have hx4 := u32_lt x
      rw [hX] at hc hx4
      have hi0 : (0 : Int) ≤ (i : Int) := by omega
      have hin : (i : Int) < (n : Int) := by omega
      have HBK := hide hbk
      have HCH := hide hch
      have HX : Hid ((c.getD i 0).toNat = X) := by show _ = _; rw [List.getD_eq_getElem?_getD, hx]; exact hX
      clear hbk hch hrr hx hX
      go_wp2_with fail
      obtain ⟨wo, rfl⟩ : ∃ wo : World, wo = wr := ⟨_, rfl⟩
      go_loopg [32] d (fun q t W => ∃ k : Nat, k + q = d ∧ t = .int .i64 (k : Int) ∧ Blk W rb 5 ((packTo c d (i * d + k) L).map bv).toArray ∧ Chg W3 W (fun k => k = rb))
      case atStart => exact ⟨0, by omega, rfl, unhide HBK, unhide HCH⟩
      case round =>
        obtain ⟨k, hkq, rfl, hbk, hch⟩ := hrel
        clear HBK HCH
        by_cases hk : k < d
        · obtain ⟨q2, rfl⟩ : ∃ q, gk = q + 1 := ⟨gk - 1, by omega⟩
          obtain ⟨m, hm⟩ : ∃ m, i * d = m := ⟨_, rfl⟩
          have hmn : m + d ≤ p := by
            rw [← hm, ← HP.out]
            have := Nat.mul_le_mul_right d (show i + 1 ≤ n by omega)
            rw [Nat.succ_mul] at this
            exact this
          obtain ⟨t, ht⟩ : ∃ t, m + k = t := ⟨_, rfl⟩
          rw [hm, ht] at hbk
          have hs3 : IntKind.i64.wrap ((i : Int) * (d : Int)) = (m : Int) := by rw [← Int.natCast_mul, hm, IntWalk.i64_in _ (by omega)]
          have hs4 : IntKind.i64.wrap ((m : Int) + (k : Int)) = (t : Int) := by rw [IntWalk.i64_in _ (by omega)]; omega
          obtain ⟨j, hj⟩ : ∃ j, t / 8 = j := ⟨_, rfl⟩
          obtain ⟨r, hr8⟩ : ∃ r, t % 8 = r := ⟨_, rfl⟩
          have hs5 : (t : Int) / 8 = (j : Int) := by omega
          have hs6 : (t : Int) % 8 = (r : Int) := by omega
          have hjL : j < L := by have := HL.out; omega
          have hr7 : r ≤ 7 := by omega
          obtain ⟨y, hy⟩ : ∃ y, byteTo c d t j = y := ⟨_, rfl⟩
          have hyl : y < 2 ^ r := by rw [← hy, ← hj, ← hr8]; exact byteTo_low c d t
          have hcell : wr.cell? ⟨rb, j, none⟩ = some (.int .u8 (y : Int)) := by
            rw [hbk.cell, List.getElem?_toArray, List.getElem?_map, packTo_at c d t hjL, hy, bv_nat y (by have := byteTo_lt c d t j; omega)]; rfl
          have hf : wr.frozen? ⟨rb, j, none⟩ = false := hbk.frozen j
          have hk0 : (0 : Int) ≤ (k : Int) := by omega
          have hk1 : (k : Int) < (d : Int) := by omega
          have hjI : (j : Int) < (L : Int) := by omega
          have hr0 : (0 : Int) ≤ (r : Int) := by omega
          have hr1 : (r : Int) ≤ 7 := by omega
          have hHb := hide hbk
          have HCH := hide hch
          clear hbk hch
          go_wp2_with fail
          go_region
          all_goals
            have hset : Blk (wr.setCell ⟨rb, j, none⟩ (Value.int IntKind.u8 (bits BinOp.or IntKind.u8 (y : Int) (bits BinOp.and IntKind.u32 ((X : Int) / 2 ^ k) 1 % 256 * 2 ^ r % 256)))).drew rb 5 ((packTo c d (t + 1) L).map bv).toArray := by
              rw [pack_val hyl hr7 hx4]
              have hbit : bitAt c d t = X.testBit k := by
                have h1 : t / d = i ∧ t % d = k := by
                  have hd0 : 0 < d := by omega
                  rw [← ht, ← hm, Nat.mul_comm]
                  exact ⟨by rw [Nat.mul_add_div hd0, Nat.div_eq_of_lt hk, Nat.add_zero], by rw [Nat.mul_add_mod, Nat.mod_eq_of_lt hk]⟩
                rw [bitAt, h1.1, h1.2, HX.out]
              have h2 := (unhide hHb).set_ j (bv (UInt8.ofNat (y + (if X.testBit k then 2 ^ r else 0))))
              have h3 := packTo_next c d t L
              rw [hj, hr8, hy, hbit] at h3
              rw [← h3]
              have h4 : ((packTo c d t L).map bv).toArray.setIfInBounds j (bv (UInt8.ofNat (y + (if X.testBit k then 2 ^ r else 0)))) = (((packTo c d t L).set j (UInt8.ofNat (y + (if X.testBit k then 2 ^ r else 0)))).map bv).toArray := by
                rw [List.setIfInBounds_toArray, List.map_set]
              rw [h4] at h2
              exact h2
            have HS := hide hset
            have HCH2 := hide (((unhide HCH).set_ ⟨rb, j, none⟩ (Value.int IntKind.u8 (bits BinOp.or IntKind.u8 (y : Int) (bits BinOp.and IntKind.u32 ((X : Int) / 2 ^ k) 1 % 256 * 2 ^ r % 256))) (fun _ => rfl)).drew)
            clear hset hHb HCH hcell hf
            go_wp2_with fail
            go_roundg q2
            case rel => exact ⟨k + 1, by omega, by go_num, by rw [← Nat.add_assoc, hm, ht]; exact unhide HS, unhide HCH2⟩
            case measure => omega
        · obtain rfl : d = k := by omega
          have HBK := hide hbk
          have HCH := hide hch
          clear hbk hch
          go_wp2_with fail
          go_roundg q
          case rel => exact ⟨i + 1, by omega, by go_num, by rw [Nat.succ_mul]; exact unhide HBK, unhide HCH⟩
          case measure => omega
    · obtain rfl : n = i := by omega
      have hz3 := (unhide HB3).size
      have hw4 := (unhide HW2).chg ((Chg.of_below (unhide HB3) (fun k => k = rb)).trans hch (fun _ _ e => e)) (fun e => by have := (unhide HW2).blk.lt; omega) (fun k h1 h2 => by have := ((unhide HW2).own.lt k h1).2; omega)
      have hxl : ((packTo c d (n * d) L)).length = L := packTo_len _ _ _ _
      have hR5 := wraw_any wr g v2 (bs ++ [UInt8.ofNat d]) (some ⟨rb, 0, none⟩) L L wr.heap.size (packTo c d (n * d) L) hw4
        ⟨by simp [hxl], fun _ => ⟨_, rfl, hbk.lt, fun j u hu => by
          have hadd : (⟨rb, 0, none⟩ : Addr).add j = ⟨rb, j, none⟩ := by unfold Addr.add; split <;> simp_all
          rw [hadd, hbk.cell, List.getElem?_toArray]; exact hu⟩⟩ (by rw [List.length_append]; simp; have := HL.out; omega)
      have hfin : bs ++ [UInt8.ofNat d] ++ packTo c d (n * d) L = bs ++ packS c := by
        rw [packS, HD.out, hlen, HP.out, HL.out, List.append_assoc]; rfl
      rw [hfin] at hR5
      have HR5 := hide hR5
      have HT4 := hide (Turns.trans (unhide HT2) (⟨(Chg.of_below (unhide HB3) (fun k => k = g ∨ v2.ownBlock = some k)).trans hch (fun k h1 h2 => by omega), .inl rfl⟩ : Turns W2 g v2 wr v2))
      clear hR5 hfin hw4 hch hbk
      go_wp2_with fail
      refine (unhide HR5).mono ?_
      rintro e W5 ⟨rfl, v5, hw5, ht5⟩
      have HW5 := hide hw5
      have HT5 := hide ((unhide HT4).trans ht5)
      clear hw5 ht5 HT4
      go_wp2_with fail
      go_end0
      exact ⟨rfl, v5, unhide HW5, unhide HT5⟩
end Go.Proofs.Yteambdbcjcfdeaa
