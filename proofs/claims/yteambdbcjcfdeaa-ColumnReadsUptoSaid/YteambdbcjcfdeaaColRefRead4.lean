/-
  The document's reading of a column of the packed way: the walk over the Go text. Condition: at most 2^20 bytes, at most 65536 rows.
-/
import Derived.Test.YteambdbcjcfdeaaColRefRead
namespace Go.Proofs.Yteambdbcjcfdeaa
open Go.RowKit

def accP (bs : List UInt8) (d i : Nat) : List UInt32 := (List.range i).map fun j => UInt32.ofNat (bsum (fun b => rdBit bs (j * d + b)) d)
theorem accP_len (bs : List UInt8) (d i : Nat) : (accP bs d i).length = i := by simp [accP]
theorem accP_next (bs : List UInt8) (d i : Nat) : accP bs d (i + 1) = accP bs d i ++ [UInt32.ofNat (bsum (fun b => rdBit bs (i * d + b)) d)] := by simp [accP, List.range_succ]
theorem accP_all (bs : List UInt8) (d i : Nat) : accP bs d i = rowTo bs d i 0 i := by
  apply List.ext_getElem?
  intro j
  by_cases hj : j < i
  · rw [rowTo_at bs d i 0 hj, if_pos hj, accP, List.getElem?_map, List.getElem?_range hj]; rfl
  · rw [List.getElem?_eq_none (by rw [accP_len]; omega), List.getElem?_eq_none (by rw [rowTo_len]; omega)]

set_option maxRecDepth 100000 in
set_option maxHeartbeats 2000000 in
theorem rread4 (A : Option Addr) (N cap B rows : Nat) (bs : List UInt8) (w : World) (hr : Reads w B 1 A N (bs.map bv)) (hB : B ≤ w.heap.size) (hN : N ≤ 1048576) (hrows : rows ≤ 65536) :
    Calls Try.prog 41 #[.int .i64 4, .slice A N cap, .int .i64 (rows : Int)] w (RrOut w packS bs rows) := by
  have hlen : bs.length = N := by have := hr.1; simpa using this
  by_cases h0 : N = 0
  · subst h0
    obtain rfl : bs = [] := List.eq_nil_of_length_eq_zero hlen
    have HOUT := hide (rr_no (lay := packS) (bs := []) (rows := rows) (Below.refl w.heap.size w) (fun c2 h1 h2 => by obtain ⟨d, rest, e, _⟩ := pack_form h1 h2; cases e))
    clear hr
    go_enter Try.func41, Try.ntmps41
    go_wp2_with fail
    go_ret2
    exact unhide HOUT
  obtain ⟨b, off, u, rfl, hbB, hu, hc0, _⟩ := hr.at0 (k := 0) (by omega)
  rw [List.getElem?_map] at hu
  obtain ⟨y0, hy0, rfl⟩ := Option.map_eq_some_iff.1 hu
  rw [Nat.add_zero] at hc0
  obtain ⟨d, hd⟩ : ∃ d, y0.toNat = d := ⟨_, rfl⟩
  have hd256 := y0.toNat_lt
  have hc0' : w.cell? ⟨b, off, none⟩ = some (.int .u8 (d : Int)) := by rw [hc0, bv, hd]
  rw [hd] at hd256
  have hN0 : ((N : Int) == 0) = false := by simpa using h0
  have hN1 : (0 : Int) < (N : Int) := by omega
  obtain ⟨p, hp⟩ : ∃ p, rows * d = p := ⟨_, rfl⟩
  have hpm : p ≤ 65536 * 256 := by rw [← hp]; exact Nat.mul_le_mul hrows (by omega)
  have hs1 : IntKind.i64.wrap ((rows : Int) * (d : Int)) = (p : Int) := by rw [← Int.natCast_mul, hp, IntWalk.i64_in _ (by omega)]
  obtain ⟨L, hL⟩ : ∃ L, (p + 7) / 8 = L := ⟨_, rfl⟩
  have hs2 : ((p : Int) + 7) / 8 = (L : Int) := by omega
  have hhead : ∀ c2, packS c2 = bs → c2.length = rows → d = wideS c2 ∧ N = 1 + L := fun c2 h1 h2 => by
    obtain ⟨d', rest, e, hd', e2, e3⟩ := pack_form h1 h2
    rw [e] at hy0
    simp only [List.getElem?_cons_zero, Option.some.injEq] at hy0
    rw [← hy0, UInt8.toNat_ofNat', Nat.mod_eq_of_lt (by omega)] at hd
    subst hd
    exact ⟨e2, by rw [← hlen, e3, hp, hL]⟩
  have hNm : IntKind.i64.wrap ((N : Int) - 1) = ((N - 1 : Nat) : Int) := by rw [IntWalk.i64_in _ (by omega)]; omega
  obtain ⟨M, hM⟩ : ∃ M, N - 1 = M := ⟨_, rfl⟩
  rw [hM] at hNm
  have hwd : IntKind.i64.wrap (d : Int) = (d : Int) := by rw [IntWalk.i64_in _ (by omega)]
  by_cases hb32 : d ≤ 32
  · by_cases hNL : N = 1 + L
    · have hdI : ¬ (32 : Int) < (d : Int) := by omega
      have hne : ((M : Int) != (L : Int)) = false := by simp only [bne_eq_false_iff_eq]; omega
      have HNL := Lib.hid hNL
      have HHEAD := hide hhead
      have HP := Lib.hid hp
      have HL := Lib.hid hL
      have HM := Lib.hid hM
      have HR := hide hr
      have hr0 : (0 : Int) ≤ (rows : Int) := by omega
      have HLEN := Lib.hid hlen
      have hbw : b < w.heap.size := by omega
      clear hNL hr hc0 hhead hp hL hy0 hd hM hlen
      go_enter Try.func41, Try.ntmps41
      go_wp2_with fail
      go_loopg [8, 10] rows (fun q v t W => ∃ i : Nat, i + q = rows ∧ t = .int .i64 (i : Int) ∧ W.ownsRow w.heap.size 40 1 v i ((accP bs d i).map uw) ∧ Below w.heap.size w W)
      case atStart => exact ⟨0, by omega, rfl, World.ownsRow_nil _ _ _ _, Below.refl _ _⟩
      case round =>
        obtain ⟨i, hiq, rfl, ho, hb⟩ := hrel
        obtain ⟨Av, cv, rfl⟩ := ho.shape
        have HO := hide ho
        have HB := hide hb
        clear ho hb
        by_cases hi : i < rows
        · obtain ⟨q, rfl⟩ : ∃ q, gk = q + 1 := ⟨gk - 1, by omega⟩
          have hi0 : (0 : Int) ≤ (i : Int) := by omega
          have hin : (i : Int) < (rows : Int) := by omega
          go_wp2_with fail
          go_loopg [11, 12] d (fun q x t W => ∃ k : Nat, k + q = d ∧ t = .int .i64 (k : Int) ∧ x = .int .u32 (bsum (fun b => rdBit bs (i * d + b)) k : Nat) ∧ wr = W)
          case atStart => exact ⟨0, by omega, rfl, rfl, rfl⟩
          case round =>
            obtain ⟨k, hkq, rfl, rfl, rfl⟩ := hrel
            obtain ⟨v, hv⟩ : ∃ v, bsum (fun b => rdBit bs (i * d + b)) k = v := ⟨_, rfl⟩
            have hvl : v < 2 ^ k := by rw [← hv]; exact bsum_lt _ _
            rw [hv]
            by_cases hk : k < d
            · obtain ⟨q2, rfl⟩ : ∃ q, gk = q + 1 := ⟨gk - 1, by omega⟩
              obtain ⟨m, hm⟩ : ∃ m, i * d = m := ⟨_, rfl⟩
              have hmn : m + d ≤ p := by
                rw [← hm, ← HP.out]
                have := Nat.mul_le_mul_right d (show i + 1 ≤ rows by omega)
                rw [Nat.succ_mul] at this
                exact this
              obtain ⟨t, ht⟩ : ∃ t, m + k = t := ⟨_, rfl⟩
              have hs3 : IntKind.i64.wrap ((i : Int) * (d : Int)) = (m : Int) := by rw [← Int.natCast_mul, hm, IntWalk.i64_in _ (by omega)]
              have hs4 : IntKind.i64.wrap ((m : Int) + (k : Int)) = (t : Int) := by rw [IntWalk.i64_in _ (by omega)]; omega
              obtain ⟨j, hj⟩ : ∃ j, t / 8 = j := ⟨_, rfl⟩
              obtain ⟨r, hr8⟩ : ∃ r, t % 8 = r := ⟨_, rfl⟩
              obtain ⟨J, hJ⟩ : ∃ J, 1 + j = J := ⟨_, rfl⟩
              have hs5 : (t : Int) / 8 = (j : Int) := by omega
              have hs6 : (t : Int) % 8 = (r : Int) := by omega
              have hs7 : IntKind.i64.wrap (1 + (j : Int)) = (J : Int) := by rw [IntWalk.i64_in _ (by omega)]; omega
              have hJN : J < N := by have h1 := HL.out; have h2 := HNL.out; omega
              have hr7 : r ≤ 7 := by omega
              obtain ⟨b', off', u', hA', _, hu', hcy, _⟩ := (unhide HR).at0 hJN
              cases hA'
              rw [List.getElem?_map] at hu'
              obtain ⟨yb, hyb, rfl⟩ := Option.map_eq_some_iff.1 hu'
              obtain ⟨Y, hY⟩ : ∃ Y, yb.toNat = Y := ⟨_, rfl⟩
              have hYl := yb.toNat_lt
              rw [bv, hY] at hcy
              rw [hY] at hYl
              have hcy2 := ((unhide HB).cell (p := ⟨b, off + J, none⟩) hbw).trans hcy
              have hs8 : IntKind.i64.wrap (j : Int) = (j : Int) := IntWalk.i64_in _ (by omega)
              have hk32 : k < 32 := by omega
              have hbit : rdBit bs (i * d + k) = Y.testBit r := by
                rw [rdBit, hm, ht, hj, hr8, hJ, List.getD_eq_getElem?_getD, hyb]
                show yb.toNat.testBit r = _
                rw [hY]
              have hnext : bsum (fun b => rdBit bs (i * d + b)) (k + 1) = v + (if Y.testBit r then 2 ^ k else 0) := by rw [bsum, hv, hbit]
              rw [Nat.testBit_eq_decide_div_mod_eq] at hnext
              obtain ⟨Z, hZ⟩ : ∃ Z, Y / 2 ^ r = Z := ⟨_, rfl⟩
              have hZl : Z < 256 := by rw [← hZ]; exact Nat.lt_of_le_of_lt (Nat.div_le_self _ _) hYl
              have hZI : ((Y : Int) / 2 ^ r) = (Z : Int) := by rw [← hZ, Int.natCast_ediv, Int.natCast_pow]; rfl
              rw [hZ] at hnext
              obtain ⟨z, hz⟩ : ∃ z, 2 ^ k = z := ⟨_, rfl⟩
              have hz31 : z ≤ 2 ^ 31 := by rw [← hz]; exact Nat.pow_le_pow_right (by omega) (by omega)
              have hzI : (2 : Int) ^ k = (z : Int) := by rw [← hz, Int.natCast_pow]; rfl
              rw [hz] at hnext hvl
              have hk0 : (0 : Int) ≤ (k : Int) := by omega
              have hk1 : (k : Int) < (d : Int) := by omega
              have hk31 : (k : Int) < 32 := by omega
              have hJ0 : (0 : Int) ≤ (J : Int) := by omega
              have hJI : (J : Int) < (N : Int) := by omega
              have hrr0 : (0 : Int) ≤ (r : Int) := by omega
              have hrr1 : (r : Int) ≤ 7 := by omega
              clear hbit hv hyb hY hm ht hj hr8 hJ hcy hu' hZ hz
              by_cases hZ2 : Z % 2 = 1
              · have hZI2 : (Z : Int) % 2 = 1 := by omega
                rw [if_pos (by simpa using hZ2)] at hnext
                have hsum : IntKind.u32.wrap ((v : Int) + (z : Int)) = ((v + z : Nat) : Int) := by rw [IntWalk.u32_in _ (by omega)]; omega
                obtain ⟨sm, hsm⟩ : ∃ sm, v + z = sm := ⟨_, rfl⟩
                rw [hsm] at hsum hnext
                have HNX := Lib.hid hnext
                clear hnext hsm hZ2
                go_wp2_with fail
                go_roundg q2
                case rel => exact ⟨k + 1, by omega, by go_num, by rw [HNX.out]; try rfl, rfl⟩
                case measure => omega
              · have hZI2 : (Z : Int) % 2 = 0 := by omega
                rw [if_neg (by simpa using hZ2), Nat.add_zero] at hnext
                have HNX := Lib.hid hnext
                clear hnext hZ2
                go_wp2_with fail
                go_roundg q2
                case rel => exact ⟨k + 1, by omega, by go_num, by rw [HNX.out]; try rfl, rfl⟩
                case measure => omega
            · obtain rfl : k = d := by omega
              have hv32 : v < 4294967296 := Nat.lt_of_lt_of_le hvl (Nat.le_trans (Nat.pow_le_pow_right (by omega) hb32) (by decide))
              have hnx : accP bs k (i + 1) = accP bs k i ++ [UInt32.ofNat v] := by rw [accP_next, hv]
              have HNX := Lib.hid hnx
              have HV := Lib.hid hv32
              have HC : Hid (i + 1 ≤ maxLen ∧ (i + 1) * 4 ≤ 140737488355328) := cap4 (by omega)
              have hz := (unhide HB).size
              clear hnx hv hv32 hvl
              go_wp2_with (first
                | (at_builtin
                   refine wpList_app1 wr rfl (.tmp 82) (.tmp 84) 22 rfl elem_u32 w.heap.size (.slice Av i cv) i ((accP bs k i).map uw) rfl (unhide HO) (.int .u32 (v : Int)) wr.heap.size rfl rfl rfl HC.out hz ?_
                   intro v5 w5 ho5 hg5 hr5
                   have HO5 := hide ho5
                   have HB5 := hide ((unhide HB).grown hg5 (unhide HB).size (fun i e => ((unhide HO).lt i e).1))
                   clear ho5 hg5 hr5))
              go_roundg q
              case rel =>
                refine ⟨i + 1, by omega, by go_num, ?_, unhide HB5⟩
                rw [HNX.out, List.map_append, List.map_cons, List.map_nil, uw_nat v HV.out]
                exact unhide HO5
              case measure => omega
        · obtain rfl : rows = i := by omega
          have HFIN : Hid (∀ c2, packS c2 = bs → c2.length = rows → True ∧ accP bs d rows = c2) := fun c2 h1 h2 => by
            have h3 := (unhide HHEAD c2 h1 h2).1
            rw [accP_all, ← h1, h3, ← h2]
            exact ⟨trivial, row_all⟩
          go_wp2_with fail
          go_ret2
          exact ⟨_, accP bs d rows, true, rfl, by rw [accP_len]; exact unhide HO, unhide HB, fun _ => accP_len _ _ _, fun c2 h1 h2 => ⟨rfl, (unhide HFIN c2 h1 h2).2⟩⟩
    · have HOUT := hide (rr_no (lay := packS) (bs := bs) (rows := rows) (Below.refl w.heap.size w) (fun c2 h1 h2 => hNL (hhead c2 h1 h2).2))
      have hdI : ¬ (32 : Int) < (d : Int) := by omega
      have hne : ((M : Int) != (L : Int)) = true := by simp only [bne_iff_ne, ne_eq]; omega
      clear hNL hr hc0 hhead hp hL hy0 hd hM
      go_enter Try.func41, Try.ntmps41
      go_wp2_with fail
      go_ret2
      exact unhide HOUT
  · have HOUT := hide (rr_no (lay := packS) (bs := bs) (rows := rows) (Below.refl w.heap.size w) (fun c2 h1 h2 => by have h3 := (hhead c2 h1 h2).1; have := wide_le c2; omega))
    have hdI : (32 : Int) < (d : Int) := by omega
    clear hr hc0 hhead hp hL hy0 hd hM
    go_enter Try.func41, Try.ntmps41
    go_wp2_with fail
    go_ret2
    exact unhide HOUT
end Go.Proofs.Yteambdbcjcfdeaa
