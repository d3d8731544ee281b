/-
  ColumnShort: the walk over the law's text. Condition: fewer than 2^45 numbers.
-/
import Derived.Test.YteambdbcjcfdeaaColShortM
import Derived.Test.YteambdbcjcfdeaaColAwake
import Derived.Test.YteambdbcjcfdeaaColumnBackW
namespace Go.Proofs.Yteambdbcjcfdeaa
open Go.RowKit


set_option maxRecDepth 100000 in
set_option maxHeartbeats 2000000 in
theorem colShortA (A : Option Addr) (n cap : Nat) (cs : List UInt32) (w : World) (hr : Reads w w.heap.size 1 A n (cs.map uw)) (hn : n ≤ 65536) :
    Calls Try.prog 4 #[.slice A n cap] w fun e w' => e = .returned (.bool true) ∧ Below w.heap.size w w' := by
  have hlen : cs.length = n := by have := hr.1; simpa using this
  have HLEN := Lib.hid hlen
  have HA := hide (awake5_any w)
  have HNum := fun x w => hide (num5_any x w)
  have HR := hide hr
  obtain ⟨g0, hg0⟩ : ∃ g, w.heap.size = g := ⟨_, rfl⟩
  clear hr hlen
  go_enter Try.func4, Try.ntmps4
  go_wp2_with fail
  refine (unhide HA).mono ?_
  rintro e w1 ⟨rfl, hb1⟩
  clear HA
  have HB1 := hide hb1
  clear hb1

  obtain ⟨s0, hs0⟩ : ∃ s, (plainS cs).length = s := ⟨_, rfl⟩
  obtain ⟨s1, hs1⟩ : ∃ s, (deltaS cs).length = s := ⟨_, rfl⟩
  obtain ⟨s2, hs2⟩ : ∃ s, (runS cs).length = s := ⟨_, rfl⟩
  obtain ⟨s3, hs3⟩ : ∃ s, (packS cs).length = s := ⟨_, rfl⟩
  have hwr := wayS_range cs
  obtain ⟨z, hz⟩ : ∃ z, wayS cs = z + 1 := ⟨wayS cs - 1, by omega⟩
  obtain ⟨y, hy⟩ : ∃ y, wayS cs = y := ⟨_, rfl⟩
  have hwl := way_least (show wayOf (plainS cs).length (deltaS cs).length (runS cs).length (packS cs).length = z + 1 from hz)
  have hls := laid_size cs hz
  have hpk := packS_len cs
  rw [hs0, hs1, hs2, hs3] at hwl hls
  rw [hs3, HLEN.out] at hpk
  obtain ⟨m, hm⟩ : ∃ m, sz4 s0 s1 s2 s3 z = m := ⟨_, rfl⟩
  have hwide := wide_le cs
  have hm5 : m + 1 ≤ 5 * n + 1 := by rw [← hm, ← hls, ← HLEN.out]; exact page_len cs
  have hhd : (pageS cs)[0]? = some (UInt8.ofNat (z + 1)) := by rw [pageS, hz]; rfl
  rw [hm] at hwl hls
  obtain ⟨hz4, hwl⟩ := hwl
  have HWL := hide hwl
  have HM := Lib.hid hm
  have HPK := Lib.hid hpk
  have HHD := Lib.hid hhd
  have HPL := Lib.hid hls
  have HYZ := Lib.hid (show y = z + 1 by rw [← hy, hz])
  rw [show z + 1 = y by rw [← hy, hz]] at HHD
  clear hwr hwl hm hpk hhd hls hz
  have hS := sizes_any cs A n cap w.heap.size w1 ((unhide HR).below (unhide HB1)) (unhide HB1).size (by omega)
  rw [hs0, hs1, hs2, hs3] at hS
  have HS := hide hS
  clear hS
  go_wp2_with fail
  refine (unhide HS).mono ?_
  rintro e w2 ⟨rfl, hb2⟩
  have HB2 := hide ((unhide HB1).trans (hb2.mono (unhide HB1).size))
  clear hb2 HS
  obtain ⟨W2, hW2⟩ : ∃ W, w2.alloc (.cells (c4 s0 s1 s2 s3) 30) = W := ⟨_, rfl⟩
  have hx2 : Blk W2 w2.heap.size 30 (c4 s0 s1 s2 s3) := by rw [← hW2]; exact Blk.new _ _ _
  have hbW2 : Below w.heap.size w W2 := by rw [← hW2]; exact (unhide HB2).alloc (unhide HB2).size _
  have hL := sizeL_any cs A n cap w.heap.size W2 ((unhide HR).below hbW2) hbW2.size hn
  rw [hs0, hs1, hs2] at hL
  have HL := hide hL
  have HX2 := hide hx2
  have HBW2 := hide hbW2
  obtain ⟨g, hg⟩ : ∃ g, w2.heap.size = g := ⟨_, rfl⟩
  rw [hg] at HX2
  have HG := Lib.hid (show w.heap.size ≤ g by rw [← hg]; exact (unhide HB2).size)
  rw [c4] at hW2
  clear hs0 hs1 hs2 hs3 hL hx2 hbW2
  go_wp2_with fail
  refine (unhide HL).mono ?_
  rintro e w3 ⟨rfl, hb3⟩
  have HB3 := hide ((unhide HBW2).trans (hb3.mono (unhide HBW2).size))
  have HX3 := hide ((unhide HX2).below hb3 (unhide HX2).lt)
  clear hb3 HL HX2 HBW2
  obtain ⟨W3, hW3⟩ : ∃ W, w3.alloc (.cells (n3 s0 s1 s2) 38) = W := ⟨_, rfl⟩
  have hx4 : Blk W3 g 30 (c4 s0 s1 s2 s3) := by rw [← hW3]; exact (unhide HX3).alloc _
  have hx3 : Blk W3 w3.heap.size 38 (n3 s0 s1 s2) := by rw [← hW3]; exact Blk.new _ _ _
  have hbW3 : Below w.heap.size w W3 := by rw [← hW3]; exact (unhide HB3).alloc (unhide HB3).size _
  have hWay := way_any cs A n cap w.heap.size W3 ((unhide HR).below hbW3) hbW3.size (by omega)
  rw [hy] at hWay
  have HWay := hide hWay
  clear hWay hy
  have HX3 := hide hx3
  have HX4 := hide hx4
  have HBW3 := hide hbW3
  obtain ⟨g3, hg3⟩ : ∃ g, w3.heap.size = g := ⟨_, rfl⟩
  rw [hg3] at HX3
  rw [n3] at hW3
  clear hx3 hx4 hbW3
  go_wp2_with fail
  refine (unhide HWay).mono ?_
  rintro e w4 ⟨rfl, hb4⟩
  have HB4 := hide ((unhide HBW3).trans (hb4.mono (unhide HBW3).size))
  have HX5 := hide ((unhide HX3).below hb4 (unhide HX3).lt)
  have HX6 := hide ((unhide HX4).below hb4 (unhide HX4).lt)
  clear hb4 HWay HX3 HX4 HBW3 HB3
  have hE := hide (encode_any cs A n cap w.heap.size w4 ((unhide HR).below (unhide HB4)) (unhide HB4).size hn)
  go_wp2_with fail
  refine (unhide hE).mono ?_
  rintro e w5 ⟨v2, rfl, ho2, hb5⟩
  obtain ⟨A2, c2, rfl⟩ := ho2.shape
  have hx5 := (unhide HX5).below hb5 (unhide HX5).lt
  have hx6 := (unhide HX6).below hb5 (unhide HX6).lt
  have HB5 := hide ((unhide HB4).trans (hb5.mono (unhide HB4).size))
  obtain ⟨P, hP⟩ : ∃ P, pageS cs = P := ⟨_, rfl⟩
  rw [HPL.out] at ho2 ⊢
  rw [hP] at ho2
  have hr5 := Reads.of_own ho2
  obtain ⟨pb, po, px, rfl, _, hpx, hpc, _⟩ := hr5.at0 (k := 0) (by omega)
  rw [List.getElem?_map, ← hP, HHD.out] at hpx
  obtain rfl : bv (UInt8.ofNat y) = px := by injection hpx
  have hyz := HYZ.out
  rw [← bv_nat y (by omega), Nat.add_zero] at hpc
  have q0 : w5.cell? ⟨g, 0, none⟩ = some (.int .i64 (s0 : Int)) := hx6.cell 0
  have q1 : w5.cell? ⟨g, 1, none⟩ = some (.int .i64 (s1 : Int)) := hx6.cell 1
  have q2 : w5.cell? ⟨g, 2, none⟩ = some (.int .i64 (s2 : Int)) := hx6.cell 2
  have q3 : w5.cell? ⟨g3, 0, none⟩ = some (.int .i64 (s0 : Int)) := hx5.cell 0
  have q4 : w5.cell? ⟨g3, 1, none⟩ = some (.int .i64 (s1 : Int)) := hx5.cell 1
  have q5 : w5.cell? ⟨g3, 2, none⟩ = some (.int .i64 (s2 : Int)) := hx5.cell 2
  have qz : w5.cell? ⟨g, z, none⟩ = some (.int .i64 (m : Int)) := by rw [hx6.cell z, c4_at _ _ _ _ hz4, HM.out]
  have hw1 : IntKind.i64.wrap ((y : Int) - 1) = (z : Int) := by rw [IntWalk.i64_in _ (by omega)]; omega
  have hw2 : IntKind.i64.wrap ((m : Int) + 1) = (m : Int) + 1 := by rw [IntWalk.i64_in _ (by omega)]
  have hw3 : IntKind.u8.wrap (y : Int) = (y : Int) := by rw [IntWalk.u8_in _ (by omega)]
  have hz1 : ¬ (y : Int) < 1 := by omega
  have hz2 : ¬ (4 : Int) < (y : Int) := by omega
  have hzI : (z : Int) < 4 := by omega
  have hzI0 : (0 : Int) ≤ (z : Int) := by omega
  have HX7 := hide hx6
  clear hyz hx5 hx6 HX5 HX6 HB4 HB2 HB1 ho2 hb5 hr5 hP hE hm5
  go_wp2_with fail
  refine (unhide (HNum _ _)).mono ?_
  rintro e w6 ⟨rfl, rfl⟩
  go_wp2_with fail
  clear q0 q1 q2 q3 q4 q5 qz hpc hz1 hz2 hw2 hw3
  go_loopg [8] 4 (fun q t W => ∃ i : Nat, i + q = 4 ∧ t = .int .i64 (i : Int) ∧ Blk W g 30 (c4 s0 s1 s2 s3) ∧ Below w.heap.size w W)
  case atStart => exact ⟨0, by omega, rfl, unhide HX7, unhide HB5⟩
  case round =>
    obtain ⟨i, hi, rfl, hx, hb⟩ := hrel
    clear HX7 HB5
    have HX8 := hide hx
    have HB8 := hide hb
    by_cases hlt : i < 4
    · obtain ⟨q, rfl⟩ : ∃ q, gk = q + 1 := ⟨gk - 1, by omega⟩
      have hiI : (i : Int) < 4 := by omega
      have hiI0 : (0 : Int) ≤ (i : Int) := by omega
      obtain ⟨f, hf⟩ : ∃ f, sz4 s0 s1 s2 s3 i = f := ⟨_, rfl⟩
      have qi : wr.cell? ⟨g, i, none⟩ = some (.int .i64 (f : Int)) := by rw [hx.cell i, c4_at _ _ _ _ hlt, hf]
      have qz : wr.cell? ⟨g, z, none⟩ = some (.int .i64 (m : Int)) := by rw [hx.cell z, c4_at _ _ _ _ hz4, HM.out]
      have hle := (unhide HWL) i hlt
      rw [hf] at hle
      obtain ⟨hle1, hle2⟩ := hle
      have hg1 : decide ((f : Int) < (m : Int)) = false := by simp only [decide_eq_false_iff_not]; omega
      have hg1n : ¬ f < m := by omega
      clear hf hx hb
      by_cases hfm : f = m
      · have hg3 : ¬ (i : Int) < (z : Int) := by have := hle2 hfm; omega
        subst hfm
        go_wp2_with fail
        go_quiet (fail)
        rename_i nq
        go_wp2_with fail
        go_roundg q
        case rel => exact ⟨i + 1, by omega, by go_num, (unhide HX8).drewN nq, below_drewN (unhide HB8) nq⟩
        case measure => omega
      · have hg2 : ((f : Int) == (m : Int)) = false := by simp only [beq_eq_false_iff_ne, ne_eq, Int.natCast_inj]; exact hfm
        clear hle1 hle2
        go_wp2_with fail
        go_quiet (fail)
        rename_i nq
        go_wp2_with fail
        go_roundg q
        case rel => exact ⟨i + 1, by omega, by go_num, (unhide HX8).drewN nq, below_drewN (unhide HB8) nq⟩
        case measure => omega
    · obtain rfl : i = 4 := by omega
      clear hx hb hzI hzI0 hw1
      go_wp2_with fail
      go_loopg [9, 10] n (fun q t u W => ∃ i : Nat, i + q = n ∧ u = .int .i64 (i : Int) ∧ t = .int .i64 (Lib.bitLen (mx (cs.take i)) : Nat) ∧ Blk W g 30 (c4 s0 s1 s2 s3) ∧ Below w.heap.size w W)
      case atStart => exact ⟨0, by omega, rfl, rfl, unhide HX8, unhide HB8⟩
      case round =>
        obtain ⟨i, hi, rfl, rfl, hx, hb⟩ := hrel
        clear HX8 HB8
        have HX9 := hide hx
        have HB9 := hide hb
        obtain ⟨d, hd⟩ : ∃ d, Lib.bitLen (mx (cs.take i)) = d := ⟨_, rfl⟩
        have hd32 : d ≤ 32 := by rw [← hd]; exact wide_le (cs.take i)
        rw [hd]
        by_cases hlt : i < n
        · obtain ⟨q, rfl⟩ : ∃ q, gk = q + 1 := ⟨gk - 1, by omega⟩
          have hiI : (i : Int) < (n : Int) := by omega
          have hiI0 : (0 : Int) ≤ (i : Int) := by omega
          obtain ⟨b, off, xi, rfl, hbB, hxi, hci0⟩ := (unhide HR).num hlt
          have HXT := Lib.hid hci0
          obtain ⟨X, hX⟩ : ∃ X, xi.toNat = X := ⟨_, rfl⟩
          have hx4 : X < 4294967296 := by rw [← hX]; exact u32_lt xi
          have hnx := wide_next cs hxi
          rw [hd, hX] at hnx
          obtain ⟨l, hl⟩ : ∃ l, Lib.bitLen X = l := ⟨_, rfl⟩
          have hl32 : l ≤ 32 := by rw [← hl]; exact Lib.bitLen_le _ 32 (by omega) hx4
          rw [hl] at hnx
          have HNX := Lib.hid hnx
          have HL := Lib.hid hl
          have HX := Lib.hid hX
          clear hx hb hci0 hX hnx hl hxi hd
          go_wp2_with fail
          go_loopg [9] (32 - d) (fun p t W => ∃ k : Nat, k + p = 32 ∧ t = .int .i64 (k : Int) ∧ d ≤ k ∧ k ≤ max d l ∧ Blk W g 30 (c4 s0 s1 s2 s3) ∧ Below w.heap.size w W)
          case atStart => exact ⟨d, by omega, rfl, Nat.le_refl _, by omega, unhide HX9, unhide HB9⟩
          case round =>
            obtain ⟨k, hk, rfl, hdk, hkm, hx, hb⟩ := hrel
            clear HX9 HB9
            have HXA := hide hx
            have HBA := hide hb
            have hci : wr.cell? ⟨b, off + i, none⟩ = some (.int .u32 (X : Int)) := by
              rw [← HX.out]; exact (hb.cell (p := ⟨b, off + i, none⟩) hbB).trans HXT.out
            have hk0 : (0 : Int) ≤ (k : Int) := by omega
            clear hx hb
            by_cases hkl : k < l
            · obtain ⟨p, rfl⟩ : ∃ p, gk = p + 1 := ⟨gk - 1, by omega⟩
              have hk32 : (k : Int) < 32 := by omega
              obtain ⟨Y, hY⟩ : ∃ Y, X / 2 ^ k = Y := ⟨_, rfl⟩
              have hY0 : ¬ Y = 0 := by rw [← hY]; exact bit_low (by omega) (by rw [HL.out]; exact hkl)
              have hYI : ((X : Int) / 2 ^ k) = (Y : Int) := by rw [← hY, Int.natCast_ediv, Int.natCast_pow]; rfl
              go_wp2_with fail
              go_roundg p
              case rel => exact ⟨k + 1, by omega, by go_num, by omega, by omega, unhide HXA, unhide HBA⟩
              case measure => omega
            · have HKD := Lib.hid (show k = max d l by omega)
              by_cases hk32 : k < 32
              · have hk32I : (k : Int) < 32 := by omega
                have hYI : ((X : Int) / 2 ^ k) = 0 := by
                  have : X / 2 ^ k = 0 := bit_high (by omega) (by rw [HL.out]; have := HKD.out; omega)
                  rw [show ((X : Int) / 2 ^ k) = ((X / 2 ^ k : Nat) : Int) by rw [Int.natCast_ediv, Int.natCast_pow]; rfl, this]; rfl
                go_wp2_with fail
                go_roundg q
                case rel => exact ⟨i + 1, by omega, by go_num, by rw [HNX.out, ← HKD.out], unhide HXA, unhide HBA⟩
                case measure => omega
              · obtain rfl : k = 32 := by omega
                clear hkm hkl hdk
                go_wp2_with fail
                go_roundg q
                case rel => exact ⟨i + 1, by omega, by go_num, by rw [HNX.out, ← HKD.out], unhide HXA, unhide HBA⟩
                case measure => omega
        · obtain rfl : i = n := by omega
          have hdw : d = wideS cs := by rw [← hd, List.take_of_length_le (by rw [HLEN.out]; exact Nat.le_refl _)]; rfl
          have hpk := HPK.out
          rw [← hdw] at hpk
          have q3 : wr.cell? ⟨g, 3, none⟩ = some (.int .i64 (s3 : Int)) := hx.cell 3
          obtain ⟨M, hM⟩ : ∃ M, i * d = M := ⟨_, rfl⟩
          have hM32 : M ≤ i * 32 := by rw [← hM]; exact Nat.mul_le_mul_left _ hd32
          rw [hM] at hpk
          have hw1 : IntKind.i64.wrap ((i : Int) * (d : Int)) = (M : Int) := by rw [← Int.natCast_mul, hM, IntWalk.i64_in _ (by omega)]
          clear hx hb hM hd hdw
          go_wp2_with fail
          go_ret
          exact ⟨rfl, unhide HB9⟩

set_option maxRecDepth 100000 in
set_option maxHeartbeats 2000000 in
theorem colShortB (A : Option Addr) (N cap : Nat) (cs0 : List UInt32) (w : World) (hr : Reads w w.heap.size 1 A N (cs0.map uw)) (hcap : N ≤ cap) (hN : 65536 < N) :
    Calls Try.prog 4 #[.slice A N cap] w fun e w' => e = .returned (.bool true) ∧ Below w.heap.size w w' := by
  have hr2 := words_cut hr (k := 65536) (by omega)
  obtain ⟨cs, hcs⟩ : ∃ cs, cs0.take 65536 = cs := ⟨_, rfl⟩
  rw [hcs] at hr2
  clear hcs
  obtain ⟨n, hn0⟩ : ∃ n : Nat, 65536 = n := ⟨_, rfl⟩
  rw [hn0] at hr2
  have hsl0 := fun W => run_head elem_u32 (A := A) (n := n) (N := N) (cap := cap) (by omega) W
  rw [show ((n : Nat) : Int) = 65536 by omega] at hsl0
  have hN0 : (65536 : Int) < (N : Int) := by omega
  have hn : n ≤ 65536 := by omega
  have hlen : cs.length = n := by have := hr2.1; simpa using this
  have HLEN := Lib.hid hlen
  have HA := hide (awake5_any w)
  have HNum := fun x w => hide (num5_any x w)
  have HR := hide hr2
  obtain ⟨g0, hg0⟩ : ∃ g, w.heap.size = g := ⟨_, rfl⟩
  clear hr hr2 hlen hn0 hN hcap
  go_enter Try.func4, Try.ntmps4
  go_wp2_with fail
  refine (unhide HA).mono ?_
  rintro e w1 ⟨rfl, hb1⟩
  clear HA
  have HB1 := hide hb1
  clear hb1

  obtain ⟨s0, hs0⟩ : ∃ s, (plainS cs).length = s := ⟨_, rfl⟩
  obtain ⟨s1, hs1⟩ : ∃ s, (deltaS cs).length = s := ⟨_, rfl⟩
  obtain ⟨s2, hs2⟩ : ∃ s, (runS cs).length = s := ⟨_, rfl⟩
  obtain ⟨s3, hs3⟩ : ∃ s, (packS cs).length = s := ⟨_, rfl⟩
  have hwr := wayS_range cs
  obtain ⟨z, hz⟩ : ∃ z, wayS cs = z + 1 := ⟨wayS cs - 1, by omega⟩
  obtain ⟨y, hy⟩ : ∃ y, wayS cs = y := ⟨_, rfl⟩
  have hwl := way_least (show wayOf (plainS cs).length (deltaS cs).length (runS cs).length (packS cs).length = z + 1 from hz)
  have hls := laid_size cs hz
  have hpk := packS_len cs
  rw [hs0, hs1, hs2, hs3] at hwl hls
  rw [hs3, HLEN.out] at hpk
  obtain ⟨m, hm⟩ : ∃ m, sz4 s0 s1 s2 s3 z = m := ⟨_, rfl⟩
  have hwide := wide_le cs
  have hm5 : m + 1 ≤ 5 * n + 1 := by rw [← hm, ← hls, ← HLEN.out]; exact page_len cs
  have hhd : (pageS cs)[0]? = some (UInt8.ofNat (z + 1)) := by rw [pageS, hz]; rfl
  rw [hm] at hwl hls
  obtain ⟨hz4, hwl⟩ := hwl
  have HWL := hide hwl
  have HM := Lib.hid hm
  have HPK := Lib.hid hpk
  have HHD := Lib.hid hhd
  have HPL := Lib.hid hls
  have HYZ := Lib.hid (show y = z + 1 by rw [← hy, hz])
  rw [show z + 1 = y by rw [← hy, hz]] at HHD
  clear hwr hwl hm hpk hhd hls hz
  have hS := sizes_any cs A n cap w.heap.size w1 ((unhide HR).below (unhide HB1)) (unhide HB1).size (by omega)
  rw [hs0, hs1, hs2, hs3] at hS
  have HS := hide hS
  clear hS
  go_wp2_with fail
  refine (unhide HS).mono ?_
  rintro e w2 ⟨rfl, hb2⟩
  have HB2 := hide ((unhide HB1).trans (hb2.mono (unhide HB1).size))
  clear hb2 HS
  obtain ⟨W2, hW2⟩ : ∃ W, w2.alloc (.cells (c4 s0 s1 s2 s3) 30) = W := ⟨_, rfl⟩
  have hx2 : Blk W2 w2.heap.size 30 (c4 s0 s1 s2 s3) := by rw [← hW2]; exact Blk.new _ _ _
  have hbW2 : Below w.heap.size w W2 := by rw [← hW2]; exact (unhide HB2).alloc (unhide HB2).size _
  have hL := sizeL_any cs A n cap w.heap.size W2 ((unhide HR).below hbW2) hbW2.size hn
  rw [hs0, hs1, hs2] at hL
  have HL := hide hL
  have HX2 := hide hx2
  have HBW2 := hide hbW2
  obtain ⟨g, hg⟩ : ∃ g, w2.heap.size = g := ⟨_, rfl⟩
  rw [hg] at HX2
  have HG := Lib.hid (show w.heap.size ≤ g by rw [← hg]; exact (unhide HB2).size)
  rw [c4] at hW2
  clear hs0 hs1 hs2 hs3 hL hx2 hbW2
  go_wp2_with fail
  refine (unhide HL).mono ?_
  rintro e w3 ⟨rfl, hb3⟩
  have HB3 := hide ((unhide HBW2).trans (hb3.mono (unhide HBW2).size))
  have HX3 := hide ((unhide HX2).below hb3 (unhide HX2).lt)
  clear hb3 HL HX2 HBW2
  obtain ⟨W3, hW3⟩ : ∃ W, w3.alloc (.cells (n3 s0 s1 s2) 38) = W := ⟨_, rfl⟩
  have hx4 : Blk W3 g 30 (c4 s0 s1 s2 s3) := by rw [← hW3]; exact (unhide HX3).alloc _
  have hx3 : Blk W3 w3.heap.size 38 (n3 s0 s1 s2) := by rw [← hW3]; exact Blk.new _ _ _
  have hbW3 : Below w.heap.size w W3 := by rw [← hW3]; exact (unhide HB3).alloc (unhide HB3).size _
  have hWay := way_any cs A n cap w.heap.size W3 ((unhide HR).below hbW3) hbW3.size (by omega)
  rw [hy] at hWay
  have HWay := hide hWay
  clear hWay hy
  have HX3 := hide hx3
  have HX4 := hide hx4
  have HBW3 := hide hbW3
  obtain ⟨g3, hg3⟩ : ∃ g, w3.heap.size = g := ⟨_, rfl⟩
  rw [hg3] at HX3
  rw [n3] at hW3
  clear hx3 hx4 hbW3
  go_wp2_with fail
  refine (unhide HWay).mono ?_
  rintro e w4 ⟨rfl, hb4⟩
  have HB4 := hide ((unhide HBW3).trans (hb4.mono (unhide HBW3).size))
  have HX5 := hide ((unhide HX3).below hb4 (unhide HX3).lt)
  have HX6 := hide ((unhide HX4).below hb4 (unhide HX4).lt)
  clear hb4 HWay HX3 HX4 HBW3 HB3
  have hE := hide (encode_any cs A n cap w.heap.size w4 ((unhide HR).below (unhide HB4)) (unhide HB4).size hn)
  go_wp2_with fail
  refine (unhide hE).mono ?_
  rintro e w5 ⟨v2, rfl, ho2, hb5⟩
  obtain ⟨A2, c2, rfl⟩ := ho2.shape
  have hx5 := (unhide HX5).below hb5 (unhide HX5).lt
  have hx6 := (unhide HX6).below hb5 (unhide HX6).lt
  have HB5 := hide ((unhide HB4).trans (hb5.mono (unhide HB4).size))
  obtain ⟨P, hP⟩ : ∃ P, pageS cs = P := ⟨_, rfl⟩
  rw [HPL.out] at ho2 ⊢
  rw [hP] at ho2
  have hr5 := Reads.of_own ho2
  obtain ⟨pb, po, px, rfl, _, hpx, hpc, _⟩ := hr5.at0 (k := 0) (by omega)
  rw [List.getElem?_map, ← hP, HHD.out] at hpx
  obtain rfl : bv (UInt8.ofNat y) = px := by injection hpx
  have hyz := HYZ.out
  rw [← bv_nat y (by omega), Nat.add_zero] at hpc
  have q0 : w5.cell? ⟨g, 0, none⟩ = some (.int .i64 (s0 : Int)) := hx6.cell 0
  have q1 : w5.cell? ⟨g, 1, none⟩ = some (.int .i64 (s1 : Int)) := hx6.cell 1
  have q2 : w5.cell? ⟨g, 2, none⟩ = some (.int .i64 (s2 : Int)) := hx6.cell 2
  have q3 : w5.cell? ⟨g3, 0, none⟩ = some (.int .i64 (s0 : Int)) := hx5.cell 0
  have q4 : w5.cell? ⟨g3, 1, none⟩ = some (.int .i64 (s1 : Int)) := hx5.cell 1
  have q5 : w5.cell? ⟨g3, 2, none⟩ = some (.int .i64 (s2 : Int)) := hx5.cell 2
  have qz : w5.cell? ⟨g, z, none⟩ = some (.int .i64 (m : Int)) := by rw [hx6.cell z, c4_at _ _ _ _ hz4, HM.out]
  have hw1 : IntKind.i64.wrap ((y : Int) - 1) = (z : Int) := by rw [IntWalk.i64_in _ (by omega)]; omega
  have hw2 : IntKind.i64.wrap ((m : Int) + 1) = (m : Int) + 1 := by rw [IntWalk.i64_in _ (by omega)]
  have hw3 : IntKind.u8.wrap (y : Int) = (y : Int) := by rw [IntWalk.u8_in _ (by omega)]
  have hz1 : ¬ (y : Int) < 1 := by omega
  have hz2 : ¬ (4 : Int) < (y : Int) := by omega
  have hzI : (z : Int) < 4 := by omega
  have hzI0 : (0 : Int) ≤ (z : Int) := by omega
  have HX7 := hide hx6
  clear hyz hx5 hx6 HX5 HX6 HB4 HB2 HB1 ho2 hb5 hr5 hP hE hm5
  go_wp2_with fail
  refine (unhide (HNum _ _)).mono ?_
  rintro e w6 ⟨rfl, rfl⟩
  go_wp2_with fail
  clear q0 q1 q2 q3 q4 q5 qz hpc hz1 hz2 hw2 hw3
  go_loopg [8] 4 (fun q t W => ∃ i : Nat, i + q = 4 ∧ t = .int .i64 (i : Int) ∧ Blk W g 30 (c4 s0 s1 s2 s3) ∧ Below w.heap.size w W)
  case atStart => exact ⟨0, by omega, rfl, unhide HX7, unhide HB5⟩
  case round =>
    obtain ⟨i, hi, rfl, hx, hb⟩ := hrel
    clear HX7 HB5
    have HX8 := hide hx
    have HB8 := hide hb
    by_cases hlt : i < 4
    · obtain ⟨q, rfl⟩ : ∃ q, gk = q + 1 := ⟨gk - 1, by omega⟩
      have hiI : (i : Int) < 4 := by omega
      have hiI0 : (0 : Int) ≤ (i : Int) := by omega
      obtain ⟨f, hf⟩ : ∃ f, sz4 s0 s1 s2 s3 i = f := ⟨_, rfl⟩
      have qi : wr.cell? ⟨g, i, none⟩ = some (.int .i64 (f : Int)) := by rw [hx.cell i, c4_at _ _ _ _ hlt, hf]
      have qz : wr.cell? ⟨g, z, none⟩ = some (.int .i64 (m : Int)) := by rw [hx.cell z, c4_at _ _ _ _ hz4, HM.out]
      have hle := (unhide HWL) i hlt
      rw [hf] at hle
      obtain ⟨hle1, hle2⟩ := hle
      have hg1 : decide ((f : Int) < (m : Int)) = false := by simp only [decide_eq_false_iff_not]; omega
      have hg1n : ¬ f < m := by omega
      clear hf hx hb
      by_cases hfm : f = m
      · have hg3 : ¬ (i : Int) < (z : Int) := by have := hle2 hfm; omega
        subst hfm
        go_wp2_with fail
        go_quiet (fail)
        rename_i nq
        go_wp2_with fail
        go_roundg q
        case rel => exact ⟨i + 1, by omega, by go_num, (unhide HX8).drewN nq, below_drewN (unhide HB8) nq⟩
        case measure => omega
      · have hg2 : ((f : Int) == (m : Int)) = false := by simp only [beq_eq_false_iff_ne, ne_eq, Int.natCast_inj]; exact hfm
        clear hle1 hle2
        go_wp2_with fail
        go_quiet (fail)
        rename_i nq
        go_wp2_with fail
        go_roundg q
        case rel => exact ⟨i + 1, by omega, by go_num, (unhide HX8).drewN nq, below_drewN (unhide HB8) nq⟩
        case measure => omega
    · obtain rfl : i = 4 := by omega
      clear hx hb hzI hzI0 hw1
      go_wp2_with fail
      go_loopg [9, 10] n (fun q t u W => ∃ i : Nat, i + q = n ∧ u = .int .i64 (i : Int) ∧ t = .int .i64 (Lib.bitLen (mx (cs.take i)) : Nat) ∧ Blk W g 30 (c4 s0 s1 s2 s3) ∧ Below w.heap.size w W)
      case atStart => exact ⟨0, by omega, rfl, rfl, unhide HX8, unhide HB8⟩
      case round =>
        obtain ⟨i, hi, rfl, rfl, hx, hb⟩ := hrel
        clear HX8 HB8
        have HX9 := hide hx
        have HB9 := hide hb
        obtain ⟨d, hd⟩ : ∃ d, Lib.bitLen (mx (cs.take i)) = d := ⟨_, rfl⟩
        have hd32 : d ≤ 32 := by rw [← hd]; exact wide_le (cs.take i)
        rw [hd]
        by_cases hlt : i < n
        · obtain ⟨q, rfl⟩ : ∃ q, gk = q + 1 := ⟨gk - 1, by omega⟩
          have hiI : (i : Int) < (n : Int) := by omega
          have hiI0 : (0 : Int) ≤ (i : Int) := by omega
          obtain ⟨b, off, xi, rfl, hbB, hxi, hci0⟩ := (unhide HR).num hlt
          have HXT := Lib.hid hci0
          obtain ⟨X, hX⟩ : ∃ X, xi.toNat = X := ⟨_, rfl⟩
          have hx4 : X < 4294967296 := by rw [← hX]; exact u32_lt xi
          have hnx := wide_next cs hxi
          rw [hd, hX] at hnx
          obtain ⟨l, hl⟩ : ∃ l, Lib.bitLen X = l := ⟨_, rfl⟩
          have hl32 : l ≤ 32 := by rw [← hl]; exact Lib.bitLen_le _ 32 (by omega) hx4
          rw [hl] at hnx
          have HNX := Lib.hid hnx
          have HL := Lib.hid hl
          have HX := Lib.hid hX
          clear hx hb hci0 hX hnx hl hxi hd
          go_wp2_with fail
          go_loopg [9] (32 - d) (fun p t W => ∃ k : Nat, k + p = 32 ∧ t = .int .i64 (k : Int) ∧ d ≤ k ∧ k ≤ max d l ∧ Blk W g 30 (c4 s0 s1 s2 s3) ∧ Below w.heap.size w W)
          case atStart => exact ⟨d, by omega, rfl, Nat.le_refl _, by omega, unhide HX9, unhide HB9⟩
          case round =>
            obtain ⟨k, hk, rfl, hdk, hkm, hx, hb⟩ := hrel
            clear HX9 HB9
            have HXA := hide hx
            have HBA := hide hb
            have hci : wr.cell? ⟨b, off + i, none⟩ = some (.int .u32 (X : Int)) := by
              rw [← HX.out]; exact (hb.cell (p := ⟨b, off + i, none⟩) hbB).trans HXT.out
            have hk0 : (0 : Int) ≤ (k : Int) := by omega
            clear hx hb
            by_cases hkl : k < l
            · obtain ⟨p, rfl⟩ : ∃ p, gk = p + 1 := ⟨gk - 1, by omega⟩
              have hk32 : (k : Int) < 32 := by omega
              obtain ⟨Y, hY⟩ : ∃ Y, X / 2 ^ k = Y := ⟨_, rfl⟩
              have hY0 : ¬ Y = 0 := by rw [← hY]; exact bit_low (by omega) (by rw [HL.out]; exact hkl)
              have hYI : ((X : Int) / 2 ^ k) = (Y : Int) := by rw [← hY, Int.natCast_ediv, Int.natCast_pow]; rfl
              go_wp2_with fail
              go_roundg p
              case rel => exact ⟨k + 1, by omega, by go_num, by omega, by omega, unhide HXA, unhide HBA⟩
              case measure => omega
            · have HKD := Lib.hid (show k = max d l by omega)
              by_cases hk32 : k < 32
              · have hk32I : (k : Int) < 32 := by omega
                have hYI : ((X : Int) / 2 ^ k) = 0 := by
                  have : X / 2 ^ k = 0 := bit_high (by omega) (by rw [HL.out]; have := HKD.out; omega)
                  rw [show ((X : Int) / 2 ^ k) = ((X / 2 ^ k : Nat) : Int) by rw [Int.natCast_ediv, Int.natCast_pow]; rfl, this]; rfl
                go_wp2_with fail
                go_roundg q
                case rel => exact ⟨i + 1, by omega, by go_num, by rw [HNX.out, ← HKD.out], unhide HXA, unhide HBA⟩
                case measure => omega
              · obtain rfl : k = 32 := by omega
                clear hkm hkl hdk
                go_wp2_with fail
                go_roundg q
                case rel => exact ⟨i + 1, by omega, by go_num, by rw [HNX.out, ← HKD.out], unhide HXA, unhide HBA⟩
                case measure => omega
        · obtain rfl : i = n := by omega
          have hdw : d = wideS cs := by rw [← hd, List.take_of_length_le (by rw [HLEN.out]; exact Nat.le_refl _)]; rfl
          have hpk := HPK.out
          rw [← hdw] at hpk
          have q3 : wr.cell? ⟨g, 3, none⟩ = some (.int .i64 (s3 : Int)) := hx.cell 3
          obtain ⟨M, hM⟩ : ∃ M, i * d = M := ⟨_, rfl⟩
          have hM32 : M ≤ i * 32 := by rw [← hM]; exact Nat.mul_le_mul_left _ hd32
          rw [hM] at hpk
          have hw1 : IntKind.i64.wrap ((i : Int) * (d : Int)) = (M : Int) := by rw [← Int.natCast_mul, hM, IntWalk.i64_in _ (by omega)]
          clear hx hb hM hd hdw
          go_wp2_with fail
          go_ret
          exact ⟨rfl, unhide HB9⟩
theorem columnShort_walk (A : Option Addr) (n cap : Nat) (cs : List UInt32) (w : World) (hr : Reads w w.heap.size 1 A n (cs.map uw)) (_hn : n ≤ 35184372087808) (hcap : n ≤ cap) :
    Calls Try.prog 4 #[.slice A n cap] w fun e w' => e = .returned (.bool true) ∧ Below w.heap.size w w' := by
  by_cases h : n ≤ 65536
  · exact colShortA A n cap cs w hr h
  · exact colShortB A n cap cs w hr hcap (by omega)
end Go.Proofs.Yteambdbcjcfdeaa
