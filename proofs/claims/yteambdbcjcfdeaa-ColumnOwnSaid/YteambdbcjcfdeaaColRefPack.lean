/-
  The document's answer for columns: the packed way: the walk over the Go text. Condition: at most 2^20 numbers.
-/
import Derived.Test.YteambdbcjcfdeaaColRef
import Derived.Test.YteambdbcjcfdeaaColPack
import Derived.Test.YteambdbcjcfdeaaColShortM
namespace Go.Proofs.Yteambdbcjcfdeaa
open Go.RowKit

theorem own_blk {w : World} {base g n : Nat} {e : TypeId} {xs : List Value} (h : Blk w g e xs.toArray) (hx : xs.length = n) (hb : base ≤ g) (hn : n ≤ maxLen) : w.ownsRow base e 1 (.slice (some ⟨g, 0, none⟩) n n) n xs := by
  refine ⟨by omega, .inr ⟨g, n, xs.toArray, rfl, hb, h, Nat.le_refl _, hn, by simp; omega, ?_⟩⟩
  simp
  rw [List.take_of_length_le (by omega)]
theorem packTo_stay (c : List UInt32) (n t L : Nat) (h : bitAt c n t = false) : packTo c n (t + 1) L = packTo c n t L := by
  rw [← packTo_next, h]
  apply List.ext_getElem?
  intro j
  by_cases hj : j < L
  · by_cases e : t / 8 = j
    · subst e
      rw [List.getElem?_set_self (by rw [packTo_len]; exact hj), packTo_at c n t hj]; simp
    · rw [List.getElem?_set_ne e]
  · rw [List.getElem?_eq_none (by rw [List.length_set, packTo_len]; omega), List.getElem?_eq_none (by rw [packTo_len]; omega)]

set_option maxRecDepth 100000 in
set_option maxHeartbeats 1000000 in
theorem rpacked_any (c : List UInt32) (A : Option Addr) (n cap B : Nat) (w : World) (hr : Reads w B 1 A n (c.map uw)) (hB : B ≤ w.heap.size) (hN : n ≤ 1048576) :
    Calls Try.prog 48 #[.slice A n cap] w fun e w' => ∃ v, e = .returned v ∧ Bo w w' v (packS c) := by
  have hlen : c.length = n := by have := hr.1; simpa using this
  have HR := hide hr
  have HLEN := Lib.hid hlen
  clear hr hlen
  go_enter Try.func48, Try.ntmps48
  go_wp2_with fail
  go_loopg [3, 4] n (fun q t u W => ∃ i : Nat, i + q = n ∧ u = .int .i64 (i : Int) ∧ t = .int .i64 (Lib.bitLen (mx (c.take i)) : Nat) ∧ w = W)
  case atStart => exact ⟨0, by omega, rfl, rfl, rfl⟩
  case round =>
    obtain ⟨i, hi, rfl, rfl, rfl⟩ := hrel
    obtain ⟨d, hd⟩ : ∃ d, Lib.bitLen (mx (c.take i)) = d := ⟨_, rfl⟩
    have hd32 : d ≤ 32 := by rw [← hd]; exact wide_le (c.take i)
    rw [hd]
    by_cases hlt : i < n
    · obtain ⟨q, rfl⟩ : ∃ q, gk = q + 1 := ⟨gk - 1, by omega⟩
      have hiI : (i : Int) < (n : Int) := by omega
      have hiI0 : (0 : Int) ≤ (i : Int) := by omega
      obtain ⟨b, off, xi, rfl, hbB, hxi, hci⟩ := (unhide HR).num hlt
      obtain ⟨X, hX⟩ : ∃ X, xi.toNat = X := ⟨_, rfl⟩
      have hx4 : X < 4294967296 := by rw [← hX]; exact u32_lt xi
      have hnx := wide_next c hxi
      rw [hX] at hci
      rw [hd, hX] at hnx
      obtain ⟨l, hl⟩ : ∃ l, Lib.bitLen X = l := ⟨_, rfl⟩
      have hl32 : l ≤ 32 := by rw [← hl]; exact Lib.bitLen_le _ 32 (by omega) hx4
      rw [hl] at hnx
      have HNX := Lib.hid hnx
      have HL := Lib.hid hl
      clear hX hnx hl hxi hd
      go_wp2_with fail
      go_loopg [3] (32 - d) (fun p t W => ∃ k : Nat, k + p = 32 ∧ t = .int .i64 (k : Int) ∧ d ≤ k ∧ k ≤ max d l ∧ w = W)
      case atStart => exact ⟨d, by omega, rfl, Nat.le_refl _, by omega, rfl⟩
      case round =>
        obtain ⟨k, hk, rfl, hdk, hkm, rfl⟩ := hrel
        have hk0 : (0 : Int) ≤ (k : Int) := by omega
        by_cases hkl : k < l
        · obtain ⟨p, rfl⟩ : ∃ p, gk = p + 1 := ⟨gk - 1, by omega⟩
          obtain ⟨Y, hY⟩ : ∃ Y, X / 2 ^ k = Y := ⟨_, rfl⟩
          have hY0 : ¬ Y = 0 := by rw [← hY]; exact bit_low (by omega) (by rw [HL.out]; exact hkl)
          have hYI : ((X : Int) / 2 ^ k) = (Y : Int) := by rw [← hY, Int.natCast_ediv, Int.natCast_pow]; rfl
          go_wp2_with fail
          go_roundg p
          case rel => exact ⟨k + 1, by omega, by go_num, by omega, by omega, rfl⟩
          case measure => omega
        · have HKD := Lib.hid (show k = max d l by omega)
          have hYI : ((X : Int) / 2 ^ k) = 0 := by
            have : X / 2 ^ k = 0 := bit_high (by omega) (by rw [HL.out]; have := HKD.out; omega)
            rw [show ((X : Int) / 2 ^ k) = ((X / 2 ^ k : Nat) : Int) by rw [Int.natCast_ediv, Int.natCast_pow]; rfl, this]; rfl
          go_wp2_with fail
          go_roundg q
          case rel => exact ⟨i + 1, by omega, by go_num, by rw [HNX.out, ← HKD.out], rfl⟩
          case measure => omega
    · obtain rfl : n = i := by omega
      have hdw : wideS c = d := by rw [← hd, List.take_of_length_le (by rw [HLEN.out]; exact Nat.le_refl _)]; rfl
      have HD := Lib.hid hdw
      clear hd hdw hi
      obtain ⟨p, hp⟩ : ∃ p, n * d = p := ⟨_, rfl⟩
      have hpm : p ≤ 1048576 * 32 := by rw [← hp]; exact Nat.mul_le_mul hN hd32
      obtain ⟨L, hL⟩ : ∃ L, (p + 7) / 8 = L := ⟨_, rfl⟩
      have hs1 : IntKind.i64.wrap ((n : Int) * (d : Int)) = (p : Int) := by rw [← Int.natCast_mul, hp, IntWalk.i64_in _ (by omega)]
      have hs2 : ((p : Int) + 7) / 8 = (L : Int) := by omega
      have hmk := fun w => make_u8 w L (by omega)
      obtain ⟨Z, hZ⟩ : ∃ Z : Array Value, ((List.replicate L (0 : UInt8)).map bv).toArray = Z := ⟨_, rfl⟩
      simp only [hZ] at hmk
      have HZ := Lib.hid hZ
      have HP := Lib.hid hp
      have HL := Lib.hid hL
      have hwd : IntKind.u8.wrap (d : Int) = (d : Int) := by rw [IntWalk.u8_in _ (by omega)]
      clear hp hL hZ
      go_wp2_with fail
      obtain ⟨W2, hW2⟩ : ∃ W, w.alloc (.cells #[.int .u8 (d : Int)] 5) = W := ⟨_, rfl⟩
      obtain ⟨W3, hW3⟩ : ∃ W, W2.alloc (.cells Z 5) = W := ⟨_, rfl⟩
      have hz2 : W2.heap.size = w.heap.size + 1 := by rw [← hW2]; simp
      have hbk3 : Blk W3 (w.heap.size + 1) 5 ((packTo c d 0 L).map bv).toArray := by rw [← hW3, ← hz2, packTo_zero, HZ.out]; exact Blk.new _ _ _
      have hb2 : Blk W3 w.heap.size 5 (([UInt8.ofNat d]).map bv).toArray := by
        rw [← hW3, ← hW2]
        have h := (Blk.new w 5 #[.int .u8 (d : Int)]).alloc (.cells Z 5)
        rw [show (([UInt8.ofNat d]).map bv).toArray = #[.int .u8 (d : Int)] by rw [bv_nat d (by omega)]; rfl]
        exact h
      have hbw3 : Below w.heap.size w W3 := by rw [← hW3, ← hW2]; exact ((Below.refl _ _).alloc (Nat.le_refl _) _).alloc (by simp) _
      have HBK3 := hide hbk3
      have HB2 := hide hb2
      have HBW3 := hide hbw3
      rw [hW2, hW3]
      obtain ⟨rb, hrb⟩ : ∃ rb, w.heap.size + 1 = rb := ⟨_, rfl⟩
      rw [hrb] at HBK3 hz2 ⊢
      clear hbk3 hb2 hbw3 hmk hW2 hW3
      go_loopg [7] n (fun q t W => ∃ j : Nat, j + q = n ∧ t = .int .i64 (j : Int) ∧ Blk W rb 5 ((packTo c d (j * d) L).map bv).toArray ∧ Chg W3 W (fun k => k = rb))
      case atStart => exact ⟨0, by omega, rfl, by rw [Nat.zero_mul]; exact unhide HBK3, Chg.refl _ _⟩
      case round =>
        obtain ⟨i, hiq, rfl, hbk, hch⟩ := hrel
        by_cases hi : i < n
        · obtain ⟨q, rfl⟩ : ∃ q, gk = q + 1 := ⟨gk - 1, by omega⟩
          obtain ⟨b, off, x, rfl, hbB, hx, hc⟩ := (unhide HR).num hi
          obtain ⟨X, hX⟩ : ∃ X, x.toNat = X := ⟨_, rfl⟩
          have hx4 := u32_lt x
          rw [hX] at hc hx4
          have hi0 : (0 : Int) ≤ (i : Int) := by omega
          have hin : (i : Int) < (n : Int) := by omega
          have HBK := hide hbk
          have HCH := hide hch
          have HX : Hid ((c.getD i 0).toNat = X) := by show _ = _; rw [List.getD_eq_getElem?_getD, hx]; exact hX
          have HC := Lib.hid hc
          clear hbk hch hc hx hX HBK3
          go_wp2_with fail
          obtain ⟨wo, rfl⟩ : ∃ wo : World, wo = wr := ⟨_, rfl⟩
          go_loopg [8] d (fun q t W => ∃ k : Nat, k + q = d ∧ t = .int .i64 (k : Int) ∧ Blk W rb 5 ((packTo c d (i * d + k) L).map bv).toArray ∧ Chg W3 W (fun k => k = rb))
          case atStart => exact ⟨0, by omega, rfl, unhide HBK, unhide HCH⟩
          case round =>
            obtain ⟨k, hkq, rfl, hbk, hch⟩ := hrel
            clear HBK HCH
            have hc : wr.cell? ⟨b, off + i, none⟩ = some (.int .u32 (X : Int)) := ((((unhide HBW3).mono hB).trans (hch.below (by have := (unhide HBW3).size; omega) (fun k hk e => by omega))).cell (p := ⟨b, off + i, none⟩) hbB).trans HC.out
            by_cases hk : k < d
            · obtain ⟨q2, rfl⟩ : ∃ q, gk = q + 1 := ⟨gk - 1, by omega⟩
              obtain ⟨m, hm⟩ : ∃ m, i * d = m := ⟨_, rfl⟩
              have hmn : m + d ≤ p := by
                rw [← hm, ← HP.out]
                have := Nat.mul_le_mul_right d (show i + 1 ≤ n by omega)
                rw [Nat.succ_mul] at this
                exact this
              obtain ⟨t, ht⟩ : ∃ t, m + k = t := ⟨_, rfl⟩
              rw [hm, ht] at hbk
              have hs3 : IntKind.i64.wrap ((i : Int) * (d : Int)) = (m : Int) := by rw [← Int.natCast_mul, hm, IntWalk.i64_in _ (by omega)]
              have hs4 : IntKind.i64.wrap ((m : Int) + (k : Int)) = (t : Int) := by rw [IntWalk.i64_in _ (by omega)]; omega
              obtain ⟨j, hj⟩ : ∃ j, t / 8 = j := ⟨_, rfl⟩
              obtain ⟨r, hr8⟩ : ∃ r, t % 8 = r := ⟨_, rfl⟩
              have hs5 : (t : Int) / 8 = (j : Int) := by omega
              have hs6 : (t : Int) % 8 = (r : Int) := by omega
              have hjL : j < L := by have := HL.out; omega
              have hr7 : r ≤ 7 := by omega
              obtain ⟨y, hy⟩ : ∃ y, byteTo c d t j = y := ⟨_, rfl⟩
              have hyl : y < 2 ^ r := by rw [← hy, ← hj, ← hr8]; exact byteTo_low c d t
              have hcell : wr.cell? ⟨rb, j, none⟩ = some (.int .u8 (y : Int)) := by
                rw [hbk.cell, List.getElem?_toArray, List.getElem?_map, packTo_at c d t hjL, hy, bv_nat y (by have := byteTo_lt c d t j; omega)]; rfl
              have hf : wr.frozen? ⟨rb, j, none⟩ = false := hbk.frozen j
              have hk0 : (0 : Int) ≤ (k : Int) := by omega
              have hk1 : (k : Int) < (d : Int) := by omega
              have hjI : (j : Int) < (L : Int) := by omega
              have hr0 : (0 : Int) ≤ (r : Int) := by omega
              have hr1 : (r : Int) ≤ 7 := by omega
              have hbit : bitAt c d t = X.testBit k := by
                have h1 : t / d = i ∧ t % d = k := by
                  have hd0 : 0 < d := by omega
                  rw [← ht, ← hm, Nat.mul_comm]
                  exact ⟨by rw [Nat.mul_add_div hd0, Nat.div_eq_of_lt hk, Nat.add_zero], by rw [Nat.mul_add_mod, Nat.mod_eq_of_lt hk]⟩
                rw [bitAt, h1.1, h1.2, HX.out]
              have hnx := packTo_next c d t L
              rw [hj, hr8, hy, hbit] at hnx
              have hstay := packTo_stay c d t L
              rw [hbit] at hstay
              rw [Nat.testBit_eq_decide_div_mod_eq] at hnx hstay
              obtain ⟨Y, hY⟩ : ∃ Y, X / 2 ^ k = Y := ⟨_, rfl⟩
              have hYI : ((X : Int) / 2 ^ k) = (Y : Int) := by rw [← hY, Int.natCast_ediv, Int.natCast_pow]; rfl
              rw [hY] at hnx hstay
              obtain ⟨z, hz⟩ : ∃ z, 2 ^ r = z := ⟨_, rfl⟩
              have hz128 : z ≤ 128 := by rw [← hz]; exact Nat.pow_le_pow_right (by omega) hr7
              have hzI : (2 : Int) ^ r = (z : Int) := by rw [← hz, Int.natCast_pow]; rfl
              rw [hz] at hnx hyl
              have hHb := hide hbk
              have HCH := hide hch
              have HM := Lib.hid hm
              have HT := Lib.hid ht
              clear hbk hch hj hr8 hm ht hY hz hy hbit
              by_cases hY2 : Y % 2 = 1
              · have hYI2 : (Y : Int) % 2 = 1 := by omega
                have hsum : IntKind.u8.wrap ((y : Int) + (z : Int)) = ((y + z : Nat) : Int) := by rw [IntWalk.u8_in _ (by omega)]; omega
                obtain ⟨sm, hsm⟩ : ∃ sm, y + z = sm := ⟨_, rfl⟩
                rw [hsm] at hsum
                rw [if_pos (by simpa using hY2), hsm] at hnx
                have hset : Blk (wr.setCell ⟨rb, j, none⟩ (.int .u8 (sm : Int))) rb 5 ((packTo c d (t + 1) L).map bv).toArray := by
                  have h2 := (unhide hHb).set_ j (bv (UInt8.ofNat sm))
                  rw [← hnx, List.map_set, ← List.setIfInBounds_toArray]
                  rw [bv_nat sm (by omega)]
                  exact h2
                have HS := hide hset
                have HCH2 := hide ((unhide HCH).set_ ⟨rb, j, none⟩ (.int .u8 (sm : Int)) (fun _ => rfl))
                clear hset hnx hstay hsm hHb HCH hY2
                go_wp2_with fail
                go_roundg q2
                case rel => exact ⟨k + 1, by omega, by go_num, by rw [← Nat.add_assoc, HM.out, HT.out]; exact unhide HS, unhide HCH2⟩
                case measure => omega
              · have hYI2 : ¬ (Y : Int) % 2 = 1 := by omega
                have hst := hstay (by simpa using hY2)
                have HS := hide (show Blk wr rb 5 ((packTo c d (t + 1) L).map bv).toArray by rw [hst]; exact unhide hHb)
                clear hnx hst hstay hHb hY2
                go_wp2_with fail
                go_roundg q2
                case rel => exact ⟨k + 1, by omega, by go_num, by rw [← Nat.add_assoc, HM.out, HT.out]; exact unhide HS, unhide HCH⟩
                case measure => omega
            · obtain rfl : d = k := by omega
              have HBK := hide hbk
              have HCH := hide hch
              clear hbk hch
              go_wp2_with fail
              go_roundg q
              case rel => exact ⟨i + 1, by omega, by go_num, by rw [Nat.succ_mul]; exact unhide HBK, unhide HCH⟩
              case measure => omega
        · obtain rfl : n = i := by omega
          have hbw : Below w.heap.size w wr := (unhide HBW3).trans (hch.below (unhide HBW3).size (fun k hk e => by omega))
          have hz := hch.size
          have h2 : Blk wr w.heap.size 5 (([UInt8.ofNat d]).map bv).toArray := hch.blk (unhide HB2) (by omega)
          have ho1 : wr.ownsRow w.heap.size 5 1 (.slice (some ⟨w.heap.size, 0, none⟩) 1 1) 1 ([UInt8.ofNat d].map bv) := own_blk h2 rfl (Nat.le_refl _) (by unfold maxLen; omega)
          rw [HP.out] at hbk
          have ho2 : wr.ownsRow w.heap.size 5 1 (.slice (some ⟨rb, 0, none⟩) L L) L ((packTo c d p L).map bv) := own_blk hbk (by simp [packTo_len]) (by omega) (by unfold maxLen; omega)
          have hr2 := Reads.of_own ho2
          have HO1 := hide ho1
          have HR2 := hide hr2
          have HBW := hide hbw
          have HCP : Hid (1 + L ≤ maxLen ∧ (1 + L) * 1 ≤ 140737488355328) := cap1 (by omega)
          clear hbw hz h2 ho1 ho2 hr2 hbk hch HBK3 hiq hi
          go_wp2_with (first
            | (at_builtin
               refine wpList_app wr rfl (.tmp 75) (.tmp 76) 24 rfl elem_u8 w.heap.size (.slice (some ⟨w.heap.size, 0, none⟩) 1 1) 1 ([UInt8.ofNat d].map bv) rfl (unhide HO1) wr.heap.size (some ⟨rb, 0, none⟩) L L ((packTo c d p L).map bv) rfl (unhide HR2) (bv_one _) HCP.out (unhide HBW).size ?_
               intro v4 w4 ho4 hg4 _
               have HBO4 := hide (Bo.app (bs := [UInt8.ofNat d]) (ms := packTo c d p L) ⟨unhide HO1, unhide HBW⟩ (by rw [packTo_len]; exact ho4) hg4)
               clear ho4 hg4))
          go_ret
          refine ⟨_, rfl, ?_⟩
          have h := unhide HBO4
          rwa [show [UInt8.ofNat d] ++ packTo c d p L = packS c by rw [packS, HD.out, HLEN.out, HP.out, HL.out]; rfl] at h
end Go.Proofs.Yteambdbcjcfdeaa
