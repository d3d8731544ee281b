/-
  place, turned: the walks. Condition: fewer than 2^47 bytes.
-/
import Derived.Test.YtoipkpndfgcmcaaRows
import Derived.Test.YtoipkpndfgcmcaaWords
import Derived.Test.YtoipkpndfgcmcaaCrcTurned
import Derived.Test.YtoipkpndfgcmcaaCrcLent
namespace Go.Proofs.Ytoipkpndfgcmcaa
open Go.RowKit

def hits (L p m k : Nat) : Bool := decide (met L p m k ≠ 0)
/-- A number from 0 to n. -/
def plc (k : Int) (n : Nat) : Nat := (if k.tmod ((n : Int) + 1) < 0 then k.tmod ((n : Int) + 1) + n + 1 else k.tmod ((n : Int) + 1)).toNat
theorem tmod_bd (k : Int) (n : Nat) : -((n : Int) + 1) < k.tmod ((n : Int) + 1) ∧ k.tmod ((n : Int) + 1) < (n : Int) + 1 := by
  have h1 := Int.tmod_lt_of_pos k (b := (n : Int) + 1) (by omega)
  have h2 := Int.lt_tmod_of_pos k (b := (n : Int) + 1) (by omega)
  exact ⟨h2, h1⟩
theorem plc_le (k : Int) (n : Nat) : plc k n ≤ n := by
  have := tmod_bd k n
  unfold plc
  split <;> omega
theorem place_any (k : Int) (n : Nat) (w : World) (_h1 : -9223372036854775808 ≤ k) (_h2 : k ≤ 9223372036854775807) (hn : n ≤ 4611686018427387904) :
    Calls Try.prog 36 #[.int .i64 k, .int .i64 (n : Int)] w fun e w' => e = .returned (.int .i64 (plc k n : Nat)) ∧ w = w' := by
  have hb := tmod_bd k n
  have hp : plc k n = (if k.tmod ((n : Int) + 1) < 0 then k.tmod ((n : Int) + 1) + n + 1 else k.tmod ((n : Int) + 1)).toNat := rfl
  obtain ⟨m, hm⟩ : ∃ m, k.tmod ((n : Int) + 1) = m := ⟨_, rfl⟩
  rw [hm] at hb hp
  have hw : IntKind.i64.wrap ((n : Int) + 1) = (n : Int) + 1 := IntWalk.i64_in _ (by omega)
  have hw2 : IntKind.i64.wrap m = m := IntWalk.i64_in _ (by omega)
  have hz : ((n : Int) + 1 == 0) = false := by simp; omega
  have hz' : ¬ ((n : Int) + 1 = 0) := by omega
  by_cases hneg : m < 0
  · have hp' : ((plc k n : Nat) : Int) = m + n + 1 := by rw [hp, if_pos hneg]; omega
    rw [hp']
    have hw3 : IntKind.i64.wrap (m + (n : Int)) = m + (n : Int) := IntWalk.i64_in _ (by omega)
    have hw4 : IntKind.i64.wrap (m + (n : Int) + 1) = m + (n : Int) + 1 := IntWalk.i64_in _ (by omega)
    clear hp hp'
    go_enter Try.func36, Try.ntmps36
    go_wp2
    go_ret
    exact ⟨rfl, rfl⟩
  · have hp' : ((plc k n : Nat) : Int) = m := by rw [hp, if_neg hneg]; omega
    rw [hp']
    clear hp hp'
    go_enter Try.func36, Try.ntmps36
    go_wp2
    go_ret
    exact ⟨rfl, rfl⟩

theorem turn_val (d : UInt8) (I : Nat) (hI : I < 8) : bits BinOp.xor IntKind.u8 (d.toNat : Int) (2 ^ I % 256) = ((d ^^^ UInt8.ofNat (2 ^ I)).toNat : Int) := by
  have h1 : 2 ^ I < 256 := Nat.lt_of_lt_of_le (Nat.pow_lt_pow_right (a := 2) (by omega) hI) (by decide)
  have h2 : ((2 : Int) ^ I) % 256 = ((2 ^ I : Nat) : Int) := by
    rw [show ((2 : Int) ^ I) = ((2 ^ I : Nat) : Int) by simp]
    generalize 2 ^ I = X at h1 ⊢
    omega
  rw [h2, u8_xor_nat _ _ d.toNat_lt h1, UInt8.toNat_xor, UInt8.toNat_ofNat', Nat.mod_eq_of_lt h1]

set_option maxRecDepth 100000 in
set_option maxHeartbeats 800000 in
theorem turned_any (A : Option Addr) (n c B p m : Nat) (bs : List UInt8) (w : World) (hr : Reads w B 1 A n (bs.map bv)) (hn : n ≤ 140737488355328) (_hB : B ≤ w.heap.size) (hp : p ≤ 8 * n) (_hm : m < U32) :
    Calls Try.prog 35 #[.slice A n c, .int .i64 (p : Int), .int .u32 (m : Int)] w fun e w' => ∃ v, e = .returned (.tuple #[v, .bool (hits n p m 32)]) ∧ w'.ownsRow w.heap.size 5 1 v n ((tl bs p m 32).map bv) ∧ Below w.heap.size w w' := by
  have hlen : bs.length = n := by have := hr.1; simpa using this
  have HC : Hid (0 + n ≤ maxLen ∧ (0 + n) * 1 ≤ 140737488355328) := cap1 (by omega)
  go_enter Try.func35, Try.ntmps35
  go_wp2_with (first | (at_builtin; refine wpList_app _ rfl (.tmp 12) (.tmp 13) 29 rfl elem_u8 w.heap.size (.slice none 0 0) 0 [] rfl (World.ownsRow_nil _ _ _ _) B A n c _ rfl hr (bv_one _) HC.out (Nat.le_refl _) ?_; intro v1 w1 hown1 hg1 hat1))
  have HB : Hid (Below w.heap.size w w1) := grownBy_below hg1 (Nat.le_refl _) (by simp [Value.ownBlock])
  clear hg1 hat1 hr
  rw [Nat.zero_add, List.nil_append] at hown1
  obtain ⟨A1, c1, rfl⟩ := hown1.shape
  go_loopg [9, 10] 32 (fun q y t wr => ∃ k : Nat, k + q = 32 ∧ t = .int .i64 (k : Int) ∧ y = .bool (hits n p m k) ∧ wr.ownsRow w.heap.size 5 1 (.slice A1 n c1) n ((tl bs p m k).map bv) ∧ Below w.heap.size w wr)
  case atStart => exact ⟨0, rfl, rfl, by simp [hits, met, Nat.mod_one], hown1, HB.out⟩
  case round =>
    obtain ⟨k, hk, rfl, rfl, ho, hb⟩ := hrel
    clear hown1 HB HC
    by_cases hlt : k < 32
    · obtain ⟨q, rfl⟩ : ∃ q, gk = q + 1 := ⟨gk - 1, by omega⟩
      obtain ⟨N, hN⟩ : ∃ N, p + k = N := ⟨_, rfl⟩
      have hsum : IntKind.i64.wrap ((p : Int) + (k : Int)) = (N : Int) := by rw [IntWalk.i64_in _ (by omega)]; omega
      by_cases hbit : (m / 2 ^ k) % 2 = 1
      · have ht : (((m : Int) / 2 ^ k).tmod 2 == 1) = true := by
          rw [tmod_bit, hbit]
          rfl
        by_cases hin : N / 8 < n
        · obtain ⟨J, hJ⟩ : ∃ J, N / 8 = J := ⟨_, rfl⟩
          obtain ⟨I, hI⟩ : ∃ I, N % 8 = I := ⟨_, rfl⟩
          have hI8 : I < 8 := by omega
          rw [hJ] at hin
          have hq : (N : Int).tdiv 8 = (J : Int) := by rw [Int.tdiv_eq_ediv_of_nonneg (by omega)]; omega
          have hm8 : (N : Int).tmod 8 = (I : Int) := by rw [Int.tmod_eq_emod_of_nonneg (by omega)]; omega
          have hTl := tl_len bs p m k
          obtain ⟨zs, hzs⟩ : ∃ zs, tl bs p m k = zs := ⟨_, rfl⟩
          rw [hzs] at ho hTl
          obtain ⟨g, cap, hv, hgw, _⟩ := ho.form (by omega)
          injection hv with e1 e2 e3
          subst e1 e3
          obtain ⟨d, hd⟩ : ∃ d, zs[J]? = some d := ⟨_, List.getElem?_eq_getElem (by omega)⟩
          have hcz : wr.cell? ⟨g, J, none⟩ = some (.int .u8 (d.toNat : Int)) := by rw [ho.cellAt J (by omega), List.getElem?_map, hd]; rfl
          have hfz : wr.frozen? ⟨g, J, none⟩ = false := ho.frozenAt J
          have hJ0 : (0 : Int) ≤ (J : Int) := by omega
          have hJ1 : (J : Int) < (n : Int) := by omega
          have HX := hide (turn_val d I hI8)
          have hT1 : tl bs p m (k + 1) = zs.set J (d ^^^ UInt8.ofNat (2 ^ I)) := by
            unfold tl
            rw [if_pos ⟨hbit, by rw [hN, hJ, hlen]; exact hin⟩, hzs, hN, hJ, hI]
            simp [List.getD, hd]
          have hM1 : hits n p m (k + 1) = true := by
            rw [hits, met_succ_in n p m k (by rw [hN, hJ]; exact hin), hbit]
            simp
          have HZ := hide (ho.stored J (.int .u8 (bits BinOp.xor IntKind.u8 (d.toNat : Int) (2 ^ I % 256))))
          have HT := Lib.hid hT1
          have HM := Lib.hid hM1
          have HB := hide (hb.setCell (p := ⟨g, J, none⟩) hgw (.int .u8 (bits BinOp.xor IntKind.u8 (d.toNat : Int) (2 ^ I % 256))))
          clear ho hb hzs hT1 hM1 hd hTl
          go_wp2
          go_roundg q
          case rel => exact ⟨k + 1, by omega, by go_num, by rw [HM.out], by rw [HT.out, List.map_set, bv, ← (unhide HX)]; exact (unhide HZ).1, unhide HB⟩
          case measure => omega
        · have hq : (N : Int).tdiv 8 = ((N / 8 : Nat) : Int) := by rw [Int.tdiv_eq_ediv_of_nonneg (by omega)]; omega
          obtain ⟨J, hJ⟩ : ∃ J, N / 8 = J := ⟨_, rfl⟩
          rw [hJ] at hq
          have hJn : ¬ ((J : Int) < (n : Int)) := by omega
          have hM1 : hits n p m (k + 1) = hits n p m k := by rw [hits, hits, met_succ_out n p m k (by rw [hN]; exact hin)]
          have hT1 : tl bs p m (k + 1) = tl bs p m k := by
            rw [tl, if_neg (fun h => hin (by rw [← hN, ← hlen]; exact h.2))]
          rw [← hM1]
          rw [← hT1] at ho
          have HO := hide ho
          have HB := hide hb
          clear ho hb hM1 hT1
          go_wp2
          go_roundg q
          case rel => exact ⟨k + 1, by omega, by go_num, rfl, unhide HO, unhide HB⟩
          case measure => omega
      · have h0 : m / 2 ^ k % 2 = 0 := by omega
        have ht : (((m : Int) / 2 ^ k).tmod 2 == 1) = false := by
          rw [tmod_bit, h0]
          rfl
        have hT1 : tl bs p m (k + 1) = tl bs p m k := by
          rw [tl, if_neg (fun h => hbit h.1)]
        have hM1 : hits n p m (k + 1) = hits n p m k := by
          by_cases hin : (p + k) / 8 < n
          · rw [hits, met_succ_in n p m k hin, h0]
            simp [hits]
          · rw [hits, met_succ_out n p m k hin]; rfl
        rw [← hM1]
        rw [← hT1] at ho
        have HO := hide ho
        have HB := hide hb
        clear ho hb hM1 hT1
        go_wp2
        go_roundg q
        case rel => exact ⟨k + 1, by omega, by go_num, rfl, unhide HO, unhide HB⟩
        case measure => omega
    · obtain rfl : k = 32 := by omega
      have HO := hide ho
      have HB := hide hb
      clear ho hb
      go_wp2
      go_ret2
      exact ⟨_, rfl, unhide HO, unhide HB⟩
end Go.Proofs.Ytoipkpndfgcmcaa
