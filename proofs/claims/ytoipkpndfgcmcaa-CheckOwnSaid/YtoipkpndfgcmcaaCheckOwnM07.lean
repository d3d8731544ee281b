/-
  A number's four bytes, and slices put side by side (slices.Concat), as the check sum's Seal and Forge want them; the walks over the Go text. Condition: fewer than 2^47 bytes in all.
-/
import Derived.Test.YtoipkpndfgcmcaaRows
import Derived.Deep.RegionHeld3
import Derived.Deep.MidRow
import Derived.KernelRfl
import GoSem.Core.Region
import Derived.Deep.AppendSrc
import Derived.Deep.Upon
import Derived.Deep.QuietTactic
import Derived.BigQuiet
import Derived.Lib.AppendZeros
import Derived.Test.YtoipkpndfgcmcaaCheckOwnM00
import Derived.Test.YtoipkpndfgcmcaaCheckOwnM03
import Derived.Test.YtoipkpndfgcmcaaCheckOwnM04
import Derived.Test.YtoipkpndfgcmcaaCheckOwnM05
import Derived.Test.YtoipkpndfgcmcaaCheckOwnM06

/-
  Join of the program's check sum and of the document's answer: zeros.of, through, Join for every length; the walks over the Go text. Numbers are uint32s.
-/
namespace Go.Proofs.Ytoipkpndfgcmcaa
open Go.RowKit


/-- 32 numbers as cells. -/
def row32 (z : Nat → Nat) : Array Value := ((List.range 32).map fun i => Value.int .u32 (z i : Nat)).toArray
theorem row32_at {z : Nat → Nat} {i : Nat} (hi : i < 32) : (row32 z)[i]? = some (.int .u32 (z i : Nat)) := by
  simp [row32, List.getElem?_range hi]
theorem row32_size (z : Nat → Nat) : (row32 z).size = 32 := by simp [row32]
theorem row32_one (z : Nat → Nat) : (row32 z).all (·.oneCell') = true := by
  rw [Array.all_eq_true_iff_forall_mem]
  intro v hv
  simp only [row32, List.mem_toArray, List.mem_map] at hv
  obtain ⟨i, _, rfl⟩ := hv
  rfl
theorem row32_zero : row32 (fun _ => 0) = #[.int .u32 0, .int .u32 0, .int .u32 0, .int .u32 0, .int .u32 0, .int .u32 0, .int .u32 0, .int .u32 0, .int .u32 0, .int .u32 0, .int .u32 0, .int .u32 0, .int .u32 0, .int .u32 0, .int .u32 0, .int .u32 0, .int .u32 0, .int .u32 0, .int .u32 0, .int .u32 0, .int .u32 0, .int .u32 0, .int .u32 0, .int .u32 0, .int .u32 0, .int .u32 0, .int .u32 0, .int .u32 0, .int .u32 0, .int .u32 0, .int .u32 0, .int .u32 0] := by rfl
/-- The first k of z, 0 behind them. -/
def upto (z : Nat → Nat) (k : Nat) : Nat → Nat := fun i => if i < k then z i else 0
theorem row32_set {z : Nat → Nat} {k v : Nat} (hk : k < 32) (hv : v = z k) : (row32 (upto z k)).setIfInBounds k (.int .u32 (v : Int)) = row32 (upto z (k + 1)) := by
  subst hv
  apply Array.ext_getElem?
  intro i
  rw [Array.getElem?_setIfInBounds]
  by_cases hi : i < 32
  · by_cases he : k = i
    · subst he
      rw [if_pos rfl, if_pos (by rw [row32_size]; exact hk), row32_at hk]
      simp [upto]
    · rw [if_neg he, row32_at hi, row32_at hi]
      unfold upto
      have : i < k ↔ i < k + 1 := by omega
      simp only [this]
  · have h1 := row32_size (upto z k)
    have h2 := row32_size (upto z (k + 1))
    rw [if_neg (by omega), Array.getElem?_eq_none (by omega), Array.getElem?_eq_none (by omega)]
theorem row32_all (z : Nat → Nat) : row32 (upto z 32) = row32 z :=
  congrArg List.toArray (List.map_congr_left fun i hi => by simp [upto, List.mem_range.1 hi])

set_option maxRecDepth 100000 in
theorem of_any (g r : Nat) (z : Nat → Nat) (w : World) (hz : ∀ i, i < 32 → z i < U32) (hr : r < U32) (hk : Blk w g 86 (row32 z)) :
    Calls Try.prog 52 #[.pointer (some ⟨g, 0, none⟩), .int .u32 (r : Int)] w fun e w' => e = .returned (.int .u32 (thr z r 32 : Nat)) ∧ Below w.heap.size w w' := by
  go_enter Try.func52, Try.ntmps52
  go_wp2
  go_loopg [5, 9] 32 (fun q t i wr => ∃ k o : Nat, k + q = 32 ∧ i = .int .i64 (k : Int) ∧ t = .int .u32 (o : Int) ∧ Hid (o < U32 ∧ o = thr z r k) ∧ Below w.heap.size w wr)
  case atStart => exact ⟨0, 0, rfl, rfl, rfl, ⟨by decide, rfl⟩, Below.refl _ _⟩
  case round =>
    obtain ⟨k, o, hkq, rfl, rfl, HO, hb⟩ := hrel
    by_cases hlt : k < 32
    · obtain ⟨q, rfl⟩ : ∃ q, gk = q + 1 := ⟨gk - 1, by omega⟩
      have hc : wr.cell? ⟨g, k, none⟩ = some (.int .u32 (z k : Int)) := by rw [(hk.below hb hk.lt).cell, row32_at hlt]
      obtain ⟨x, hx⟩ : ∃ x, z k = x := ⟨_, rfl⟩
      rw [hx] at hc
      have HV := Lib.hid (of_val o x r k HO.out.1 (by rw [← hx]; exact hz k hlt) hr)
      have HN : Hid (o ^^^ (if (r / 2 ^ k) % 2 = 1 then x else 0) < U32 ∧ o ^^^ (if (r / 2 ^ k) % 2 = 1 then x else 0) = thr z r (k + 1)) := by
        have e : o ^^^ (if (r / 2 ^ k) % 2 = 1 then x else 0) = thr z r (k + 1) := by rw [HO.out.2, ← hx]; rfl
        exact ⟨by rw [e]; exact thr_lt hz r (k + 1) (by omega), e⟩
      have HB := hide hb
      have hk0 : (0 : Int) ≤ (k : Int) := by omega
      have hk1 : (k : Int) < 32 := by omega
      clear hb hz hk hx
      go_wp2
      go_quiet (fail)
      go_wp2
      go_roundg q
      case rel => exact ⟨k + 1, _, by omega, by go_num, by rw [HV.out], HN.out, below_drewN (unhide HB) _⟩
      case measure => omega
    · obtain rfl : k = 32 := by omega
      have HB := hide hb
      clear hb hz hk
      go_wp2
      go_ret
      exact ⟨by rw [← HO.out.2]; rfl, unhide HB⟩
set_option maxRecDepth 100000 in
theorem through_any (r : Nat) (z : Nat → Nat) (w : World) (hz : ∀ i, i < 32 → z i < U32) :
    Calls Try.prog 51 #[.agg (row32 z), .int .u32 (r : Int)] w fun e w' => e = .returned (.int .u32 (thr z r 32 : Nat)) ∧ Below w.heap.size w w' := by
  obtain ⟨R, hR⟩ : ∃ R, row32 z = R := ⟨_, rfl⟩
  have hR' := Lib.hid hR
  rw [hR]
  clear hR
  go_enter Try.func51, Try.ntmps51
  go_wp2
  go_loopg [5, 6] 32 (fun q t i wr => ∃ k o : Nat, k + q = 32 ∧ i = .int .i64 (k : Int) ∧ t = .int .u32 (o : Int) ∧ Hid (o < U32 ∧ o = thr z r k) ∧ w.alloc (.cells R 75) = wr)
  case atStart => exact ⟨0, 0, rfl, rfl, rfl, ⟨by decide, rfl⟩, rfl⟩
  case round =>
    obtain ⟨k, o, hkq, rfl, rfl, HO, rfl⟩ := hrel
    by_cases hlt : k < 32
    · obtain ⟨q, rfl⟩ : ∃ q, gk = q + 1 := ⟨gk - 1, by omega⟩
      have hc : (w.alloc (.cells R 75)).cell? ⟨w.heap.size, k, none⟩ = some (.int .u32 (z k : Int)) := by rw [(Blk.new w 75 R).cell, ← hR'.out, row32_at hlt]
      have hzk := hz k hlt
      have hN : thr z r (k + 1) < U32 := thr_lt hz r (k + 1) (by omega)
      have hT : thr z r (k + 1) = thr z r k ^^^ (if (r / 2 ^ k) % 2 = 1 then z k else 0) := rfl
      obtain ⟨x, hx⟩ : ∃ x, z k = x := ⟨_, rfl⟩
      rw [hx] at hc hzk hT
      by_cases hbit : (r / 2 ^ k) % 2 = 1
      · rw [if_pos hbit, ← HO.out.2] at hT
        have hv := xor_u32 o x HO.out.1 hzk
        rw [← hT] at hv
        obtain ⟨y, hy⟩ : ∃ y, thr z r (k + 1) = y := ⟨_, rfl⟩
        rw [hy] at hv hN
        have HN : Hid (y < U32 ∧ True) := ⟨hN, trivial⟩
        have HY := Lib.hid hy.symm
        clear hy
        have ht : (((r : Int) / 2 ^ k).tmod 2 == 1) = true := by
          rw [tmod_bit, hbit]
          rfl
        clear hz hx hT hN hbit
        go_wp2
        go_roundg q
        case rel => exact ⟨k + 1, y, by omega, by go_num, rfl, ⟨HN.out.1, HY.out⟩, rfl⟩
        case measure => omega
      · rw [if_neg hbit, Nat.xor_zero, ← HO.out.2] at hT
        have HN : Hid (o < U32 ∧ o = thr z r (k + 1)) := ⟨HO.out.1, hT.symm⟩
        have ht : (((r : Int) / 2 ^ k).tmod 2 == 1) = false := by
          rw [tmod_bit, show r / 2 ^ k % 2 = 0 by rcases Nat.mod_two_eq_zero_or_one (r / 2 ^ k) with h | h; exact h; exact absurd h hbit]
          rfl
        clear hz hx hT hN hbit
        go_wp2
        go_roundg q
        case rel => exact ⟨k + 1, o, by omega, by go_num, rfl, HN.out, rfl⟩
        case measure => omega
    · obtain rfl : k = 32 := by omega
      clear hz
      go_wp2
      go_ret
      exact ⟨by rw [← HO.out.2]; rfl, (Below.refl _ _).alloc (Nat.le_refl _) _⟩
set_option maxRecDepth 100000 in
theorem join_neg (a b : Nat) (n : Int) (w : World) (hn : n < 0) :
    Calls Try.prog 33 #[.int .u32 (a : Int), .int .u32 (b : Int), .int .i64 n] w fun e w' => e = .returned (.tuple #[.int .u32 0, .int .i64 2]) ∧ w = w' := by
  go_enter Try.func33, Try.ntmps33
  go_wp2
  go_ret2
  exact ⟨rfl, rfl⟩
theorem refJoin_neg (a b : Nat) (n : Int) (w : World) (hn : n < 0) :
    Calls Try.prog 32 #[.int .u32 (a : Int), .int .u32 (b : Int), .int .i64 n] w fun e w' => e = .returned (.tuple #[.int .u32 0, .int .i64 2]) ∧ w = w' := by
  go_enter Try.func32, Try.ntmps32
  go_wp2
  go_ret2
  exact ⟨rfl, rfl⟩
set_option maxRecDepth 100000 in
set_option maxHeartbeats 800000 in
theorem join_any (a b n : Nat) (w : World) (ha : a < U32) (hb : b < U32) (hn : n ≤ 9223372036854775807) :
    Calls Try.prog 33 #[.int .u32 (a : Int), .int .u32 (b : Int), .int .i64 (n : Int)] w fun e w' => e = .returned (.tuple #[.int .u32 (jn a b n : Nat), .int .i64 0]) ∧ Below w.heap.size w w' := by
  go_enter Try.func33, Try.ntmps33
  go_wp2
  have H0 := hide (show Blk (w.alloc (.cells (row32 (upto (fun i => zer 1 (2 ^ i)) 0)) 86)) w.heap.size 86 (row32 (upto (fun i => zer 1 (2 ^ i)) 0)) from Blk.new _ _ _)
  have e0 : row32 (upto (fun i => zer 1 (2 ^ i)) 0) = row32 (fun _ => 0) := rfl
  rw [e0, row32_zero] at H0
  go_loopg [14] 32 (fun q i wr => ∃ k : Nat, k + q = 32 ∧ i = .int .i64 (k : Int) ∧ Blk wr w.heap.size 86 (row32 (upto (fun i => zer 1 (2 ^ i)) k)) ∧ Below w.heap.size w wr)
  case atStart => exact ⟨0, rfl, rfl, by rw [e0, row32_zero]; exact unhide H0, (Below.refl _ _).alloc (Nat.le_refl _) _⟩
  case round =>
    obtain ⟨k, hk, rfl, hz, hbl⟩ := hrel
    clear H0 e0
    have hbz := hbl.size
    by_cases hlt : k < 32
    · obtain ⟨q, rfl⟩ : ∃ q, gk = q + 1 := ⟨gk - 1, by omega⟩
      obtain ⟨x, hx⟩ : ∃ x, 2 ^ k = x := ⟨_, rfl⟩
      have hxl : x < U32 := by rw [← hx]; exact pow_lt32 hlt
      have e2 : (2 : Int) ^ k % 4294967296 = (x : Int) := by
        unfold U32 at hxl
        rw [show (2 : Int) ^ k = ((2 ^ k : Nat) : Int) by simp, hx]
        omega
      have hT := hide (take_any x [0] (some ⟨wr.heap.size, 0, none⟩) 1 1 (wr.heap.size + 1) (wr.alloc (.cells #[.int .u8 0] 5)) hxl (reads_lit wr wr.heap.size rfl 5 #[.int .u8 0] 1 rfl ([0].map bv) rfl) (by omega) (by simp))
      have HN : Hid (crc x [0] = zer 1 (2 ^ k)) := by show _ = _; rw [crc_one, hx]
      obtain ⟨y, hy⟩ : ∃ y, crc x [0] = y := ⟨_, rfl⟩
      rw [hy] at hT HN
      have HZ := hide hz
      have HB := hide hbl
      clear hz hbl hy hx hxl
      go_wp2_with fail
      refine (unhide hT).mono ?_
      rintro e w1 ⟨rfl, hb1⟩
      have hb2 : Below wr.heap.size wr w1 := ((Below.refl _ _).alloc (Nat.le_refl _) _).trans (hb1.mono (by simp))
      have hz1 := (unhide HZ).below hb2 (unhide HZ).lt
      have c1 : w1.cell? ⟨w.heap.size, k, none⟩ = some (.int .u32 0) := by rw [hz1.cell, row32_at hlt]; simp [upto]
      have f1 : w1.frozen? ⟨w.heap.size, k, none⟩ = false := hz1.frozen k
      have HZ1 := hide hz1
      have HB1 := hide ((unhide HB).trans (hb2.mono hbz))
      clear hb1 hb2 hz1 HZ HB hT
      go_wp2
      go_roundg q
      case rel => exact ⟨k + 1, by omega, by go_num, by rw [← row32_set hlt HN.out]; exact (unhide HZ1).set_ k _, (unhide HB1).setCell (Nat.le_refl _) _⟩
      case measure => omega
    · obtain rfl : k = 32 := by omega
      rw [row32_all] at hz
      obtain ⟨wo, rfl⟩ : ∃ wo : World, wo = wr := ⟨_, rfl⟩
      have HZ := hide hz
      have HB := hide hbl
      clear hz hbl
      go_wp2
      go_loopg [0, 2] n (fun q ta tn wr => ∃ e lc ac : Nat, lc ≤ q ∧ lc ≤ 9223372036854775807 ∧ tn = .int .i64 (lc : Int) ∧ ta = .int .u32 (ac : Int) ∧ Hid (ac < U32 ∧ zer (e * lc) ac = zer n a) ∧ Blk wr w.heap.size 86 (row32 (fun i => zer e (2 ^ i))) ∧ Below w.heap.size w wr)
      case atStart => exact ⟨1, n, a, Nat.le_refl _, hn, rfl, rfl, ⟨ha, by rw [Nat.one_mul]⟩, unhide HZ, unhide HB⟩
      case round =>
        obtain ⟨e, lc, ac, hlq, hlc, rfl, rfl, HI, hz, hbl⟩ := hrel
        clear HZ HB
        by_cases h0 : 0 < lc
        · obtain ⟨q, rfl⟩ : ∃ q, gk = q + 1 := ⟨gk - 1, by omega⟩
          have hz32 : ∀ i, i < 32 → zer e (2 ^ i) < U32 := fun i hi => zer_lt (pow_lt32 hi) e
          have hand := i64_and_one lc hlc
          have hl2 : lc / 2 ≤ q := by omega
          rcases Nat.mod_two_eq_zero_or_one lc with hodd | hodd
          focus
            rw [hodd] at hand
            have HI1 : Hid (ac < U32 ∧ zer ((e + e) * (lc / 2)) ac = zer n a) := ⟨HI.out.1, by rw [join_even hodd]; exact HI.out.2⟩
            have HZ1 := hide hz
            have HB1 := hide hbl
            clear hz hbl HI
            obtain ⟨w1, rfl⟩ : ∃ w1 : World, w1 = wr := ⟨_, rfl⟩
            go_wp2
          rotate_left
          focus
            rw [hodd] at hand
            have hO := hide (of_any w.heap.size ac _ wr hz32 HI.out.1 hz)
            rw [thr_zer e ac HI.out.1] at hO
            have HI1' : Hid (zer e ac < U32 ∧ zer ((e + e) * (lc / 2)) (zer e ac) = zer n a) := ⟨zer_lt HI.out.1 e, by rw [join_odd hodd]; exact HI.out.2⟩
            generalize zer e ac = ac1 at hO HI1'
            have HZ := hide hz
            have HB := hide hbl
            clear hz hbl
            go_wp2_with (go_at_call 52
                         refine (unhide hO).mono ?_
                         rintro e1 w1 ⟨rfl, hb1⟩
                         have HZ1 := hide ((unhide HZ).below hb1 (unhide HZ).lt)
                         have HB1 := hide ((unhide HB).trans (hb1.mono (unhide HB).size))
                         clear hb1 HZ HB hO)
            obtain ⟨ac, rfl⟩ : ∃ ac : Nat, ac = ac1 := ⟨_, rfl⟩
            have HI1 := HI1'
          all_goals
            have hz1 := (unhide HB1).size
            have H0 := hide (show Blk (w1.alloc (.cells (row32 (upto (fun i => zer (e + e) (2 ^ i)) 0)) 86)) w1.heap.size 86 (row32 (upto (fun i => zer (e + e) (2 ^ i)) 0)) from Blk.new _ _ _)
            have e0 : row32 (upto (fun i => zer (e + e) (2 ^ i)) 0) = row32 (fun _ => 0) := rfl
            rw [e0, row32_zero] at H0
            go_loopg [33] 32 (fun q i wx => ∃ k : Nat, k + q = 32 ∧ i = .int .i64 (k : Int) ∧ Blk wx w1.heap.size 86 (row32 (upto (fun i => zer (e + e) (2 ^ i)) k)) ∧ Blk wx w.heap.size 86 (row32 (fun i => zer e (2 ^ i))) ∧ Below w.heap.size w wx)
            case atStart => exact ⟨0, rfl, rfl, by rw [e0, row32_zero]; exact unhide H0, (unhide HZ1).alloc _, (unhide HB1).alloc hz1 _⟩
            case round =>
              obtain ⟨k, hk, rfl, ht, hz, hbl⟩ := hrel
              clear H0 e0
              by_cases hlt : k < 32
              · obtain ⟨p, rfl⟩ : ∃ p, gk = p + 1 := ⟨gk - 1, by omega⟩
                have c0 : wr.cell? ⟨w.heap.size, k, none⟩ = some (.int .u32 (zer e (2 ^ k) : Nat)) := by rw [hz.cell, row32_at hlt]
                have hO := hide (of_any w.heap.size (zer e (2 ^ k)) _ wr hz32 (hz32 k hlt) hz)
                rw [thr_zer e (zer e (2 ^ k)) (hz32 k hlt), ← zer_add] at hO
                have HN : Hid (zer (e + e) (2 ^ k) = zer (e + e) (2 ^ k)) := rfl
                generalize zer e (2 ^ k) = x at c0 hO
                obtain ⟨y, hy⟩ : ∃ y, zer (e + e) (2 ^ k) = y := ⟨_, rfl⟩
                rw [hy] at hO
                have HY := Lib.hid hy
                have HT := hide ht
                have HZ := hide hz
                have HB := hide hbl
                clear ht hz hbl hy HN
                go_wp2_with (go_at_call 52
                             refine (unhide hO).mono ?_
                             rintro e2 w2 ⟨rfl, hb2⟩
                             have t2 := (unhide HT).below hb2 (unhide HT).lt
                             have c2 : w2.cell? ⟨w1.heap.size, k, none⟩ = some (.int .u32 0) := by rw [t2.cell, row32_at hlt]; simp [upto]
                             have f2 : w2.frozen? ⟨w1.heap.size, k, none⟩ = false := t2.frozen k
                             have HT2 := hide t2
                             have HZ2 := hide ((unhide HZ).below hb2 (unhide HZ).lt)
                             have HB2 := hide ((unhide HB).trans (hb2.mono (unhide HB).size))
                             clear hb2 t2 HT HZ HB hO)
                go_roundg p
                case rel => exact ⟨k + 1, by omega, by go_num, by rw [← row32_set hlt HY.out.symm]; exact (unhide HT2).set_ k _, (unhide HZ2).far (p := ⟨w1.heap.size, k, none⟩) (Nat.ne_of_lt (unhide HZ1).lt) _, (unhide HB2).setCell hz1 _⟩
                case measure => omega
              · obtain rfl : k = 32 := by omega
                rw [row32_all] at ht
                have HT := hide ht
                have HZ := hide hz
                have HB := hide hbl
                clear ht hz hbl
                go_wp2_with (first
                  | (refine wpList_load_row rfl 86 (.tmp 10) rfl w1.heap.size rfl 86 _ (0, 0) _ (unhide HT) Try.underlying86 rfl (by rw [row32_size]; kernel_rfl) ?_)
                  | (refine wpList_store_row rfl 86 (.tmp 8) (.tmp 43) rfl w.heap.size (row32 (fun i => zer (e + e) (2 ^ i))) rfl rfl 86 _ (unhide HZ) (by rw [row32_size]; kernel_rfl) (by rw [row32_size, row32_size]) (row32_one _) ?_))
                go_roundg q
                case rel => exact ⟨e + e, lc / 2, ac, hl2, by omega, by go_num, rfl, HI1.out, (unhide HZ).setRow_ _, (unhide HB).trans ((Chg.of_setRow wr w.heap.size _).below (B := w.heap.size) (unhide HB).size (by intro i hi e; omega))⟩
                case measure => omega
        · obtain rfl : lc = 0 := by omega
          have HV : Hid (ac < U32 ∧ ac = zer n a) := ⟨HI.out.1, by have := HI.out.2; rwa [Nat.mul_zero] at this⟩
          have hx := xor_u32 ac b HV.out.1 hb
          have HB := hide hbl
          clear hz hbl
          go_wp2
          go_ret2
          exact ⟨by unfold jn; rw [← HV.out.2]; rfl, unhide HB⟩

theorem range_blk {w : World} {g : Nat} {t : TypeId} {cs : Array Value} (h : Blk w g t cs) : w.rangeAt g 0 cs.toList := fun j v hv => by
  rw [Nat.zero_add, h.cell]
  simpa using hv

theorem range_far {w : World} {b o c k : Nat} {cs : List Value} (h : w.rangeAt b o cs) (hn : b ≠ c) (u : Value) : (w.setCell ⟨c, k, none⟩ u).rangeAt b o cs := fun j v hv => by
  rw [World.cell?_setCell_other w ⟨c, k, none⟩ ⟨b, o + j, none⟩ u (fun e => hn (by cases e; rfl))]
  exact h j v hv
theorem cell_far {w : World} {b o c k : Nat} {v : Value} (h : w.cell? ⟨b, o, none⟩ = some v) (hn : b ≠ c) (u : Value) : (w.setCell ⟨c, k, none⟩ u).cell? ⟨b, o, none⟩ = some v := by
  rw [World.cell?_setCell_other w ⟨c, k, none⟩ ⟨b, o, none⟩ u (fun e => hn (by cases e; rfl))]
  exact h
set_option maxRecDepth 100000 in
set_option maxHeartbeats 1600000 in
theorem refJoin_any (a b n : Nat) (w : World) (ha : a < U32) (hb : b < U32) (hn : n ≤ 9223372036854775807) :
    Calls Try.prog 32 #[.int .u32 (a : Int), .int .u32 (b : Int), .int .i64 (n : Int)] w fun e w' => e = .returned (.tuple #[.int .u32 (jn a b n : Nat), .int .i64 0]) ∧ Below w.heap.size w w' := by
  go_enter Try.func32, Try.ntmps32
  go_wp2
  have H0 := hide (show Blk (w.alloc (.cells (row32 (upto (fun i => zer 1 (2 ^ i)) 0)) 75)) w.heap.size 75 (row32 (upto (fun i => zer 1 (2 ^ i)) 0)) from Blk.new _ _ _)
  have e0 : row32 (upto (fun i => zer 1 (2 ^ i)) 0) = row32 (fun _ => 0) := rfl
  rw [e0, row32_zero] at H0
  go_loopg [9] 32 (fun q i wr => ∃ k : Nat, k + q = 32 ∧ i = .int .i64 (k : Int) ∧ Blk wr w.heap.size 75 (row32 (upto (fun i => zer 1 (2 ^ i)) k)) ∧ Below w.heap.size w wr)
  case atStart => exact ⟨0, rfl, rfl, by rw [e0, row32_zero]; exact unhide H0, (Below.refl _ _).alloc (Nat.le_refl _) _⟩
  case round =>
    obtain ⟨k, hk, rfl, hz, hbl⟩ := hrel
    clear H0 e0
    by_cases hlt : k < 32
    · obtain ⟨q, rfl⟩ : ∃ q, gk = q + 1 := ⟨gk - 1, by omega⟩
      obtain ⟨x, hx⟩ : ∃ x, 2 ^ k = x := ⟨_, rfl⟩
      have hxl : x < U32 := by rw [← hx]; exact pow_lt32 hlt
      have e2 : (2 : Int) ^ k % 4294967296 = (x : Int) := by
        unfold U32 at hxl
        rw [show (2 : Int) ^ k = ((2 ^ k : Nat) : Int) by simp, hx]
        omega
      have hT := hide (refTake_any x 0 wr hxl)
      have HN : Hid (tk x 0 = zer 1 (2 ^ k)) := by show _ = _; rw [← hx, tk_zero]
      obtain ⟨y, hy⟩ : ∃ y, tk x 0 = y := ⟨_, rfl⟩
      rw [hy] at hT HN
      have c1 : wr.cell? ⟨w.heap.size, k, none⟩ = some (.int .u32 0) := by rw [hz.cell, row32_at hlt]; simp [upto]
      have f1 : wr.frozen? ⟨w.heap.size, k, none⟩ = false := hz.frozen k
      have HZ := hide hz
      have HB := hide hbl
      clear hz hbl hy hx hxl
      go_wp2_with fail
      refine (unhide hT).mono ?_
      rintro e w1 ⟨rfl, rfl⟩
      go_wp2
      go_roundg q
      case rel => exact ⟨k + 1, by omega, by go_num, by rw [← row32_set hlt HN.out]; exact (unhide HZ).set_ k _, (unhide HB).setCell (Nat.le_refl _) _⟩
      case measure => omega
    · obtain rfl : k = 32 := by omega
      rw [row32_all] at hz
      obtain ⟨wo, rfl⟩ : ∃ wo : World, wo = wr := ⟨_, rfl⟩
      have HZ := hide hz
      have HB := hide hbl
      clear hz hbl
      go_wp2
      go_loopg [0, 2] n (fun q ta tn wr => ∃ e lc ac : Nat, lc ≤ q ∧ lc ≤ 9223372036854775807 ∧ tn = .int .i64 (lc : Int) ∧ ta = .int .u32 (ac : Int) ∧ Hid (ac < U32 ∧ zer (e * lc) ac = zer n a) ∧ Blk wr w.heap.size 75 (row32 (fun i => zer e (2 ^ i))) ∧ Below w.heap.size w wr)
      case atStart => exact ⟨1, n, a, Nat.le_refl _, hn, rfl, rfl, ⟨ha, by rw [Nat.one_mul]⟩, unhide HZ, unhide HB⟩
      case round =>
        obtain ⟨e, lc, ac, hlq, hlc, rfl, rfl, HI, hz, hbl⟩ := hrel
        clear HZ HB
        by_cases h0 : 0 < lc
        · obtain ⟨q, rfl⟩ : ∃ q, gk = q + 1 := ⟨gk - 1, by omega⟩
          have hz32 : ∀ i, i < 32 → zer e (2 ^ i) < U32 := fun i hi => zer_lt (pow_lt32 hi) e
          have hl2 : lc / 2 ≤ q := by omega
          rcases Nat.mod_two_eq_zero_or_one lc with hodd | hodd
          focus
            have ht : ((lc : Int) % 2 == 1) = false := by simp; omega
            have HI1 : Hid (ac < U32 ∧ zer ((e + e) * (lc / 2)) ac = zer n a) := ⟨HI.out.1, by rw [join_even hodd]; exact HI.out.2⟩
            have HZ1 := hide hz
            have HB1 := hide hbl
            clear hz hbl HI
            obtain ⟨w1, rfl⟩ : ∃ w1 : World, w1 = wr := ⟨_, rfl⟩
            go_wp2
          rotate_left
          focus
            have ht : ((lc : Int) % 2 == 1) = true := by simp; omega
            have hO := hide (through_any ac (fun i => zer e (2 ^ i)) wr hz32)
            rw [thr_zer e ac HI.out.1] at hO
            have HI1' : Hid (zer e ac < U32 ∧ zer ((e + e) * (lc / 2)) (zer e ac) = zer n a) := ⟨zer_lt HI.out.1 e, by rw [join_odd hodd]; exact HI.out.2⟩
            generalize zer e ac = ac1 at hO HI1'
            have HZ := hide hz
            have HB := hide hbl
            clear hz hbl
            go_wp2_with (first
              | (refine wpList_load_row rfl 75 (.tmp 8) rfl w.heap.size rfl 75 _ (0, 0) _ (unhide HZ) Try.underlying75 rfl (by rw [row32_size]; kernel_rfl) ?_)
              | (go_at_call 51
                 refine (unhide hO).mono ?_
                 rintro e1 w1 ⟨rfl, hb1⟩
                 have HZ1 := hide ((unhide HZ).below hb1 (unhide HZ).lt)
                 have HB1 := hide ((unhide HB).trans (hb1.mono (unhide HB).size))
                 clear hb1 HZ HB hO))
            obtain ⟨ac, rfl⟩ : ∃ ac : Nat, ac = ac1 := ⟨_, rfl⟩
            have HI1 := HI1'
          all_goals
            have hz1 := (unhide HB1).size
            have H0 := hide (show Blk (w1.alloc (.cells (row32 (upto (fun i => zer (e + e) (2 ^ i)) 0)) 75)) w1.heap.size 75 (row32 (upto (fun i => zer (e + e) (2 ^ i)) 0)) from Blk.new _ _ _)
            have e0 : row32 (upto (fun i => zer (e + e) (2 ^ i)) 0) = row32 (fun _ => 0) := rfl
            rw [e0, row32_zero] at H0
            go_loopg [11] 32 (fun q i wx => ∃ k : Nat, k + q = 32 ∧ i = .int .i64 (k : Int) ∧ Blk wx w1.heap.size 75 (row32 (upto (fun i => zer (e + e) (2 ^ i)) k)) ∧ Blk wx w.heap.size 75 (row32 (fun i => zer e (2 ^ i))) ∧ Below w.heap.size w wx)
            case atStart => exact ⟨0, rfl, rfl, by rw [e0, row32_zero]; exact unhide H0, (unhide HZ1).alloc _, (unhide HB1).alloc hz1 _⟩
            case round =>
              obtain ⟨k, hk, rfl, ht, hz, hbl⟩ := hrel
              clear H0 e0
              by_cases hlt : k < 32
              · obtain ⟨p, rfl⟩ : ∃ p, gk = p + 1 := ⟨gk - 1, by omega⟩
                have c0 : wr.cell? ⟨w.heap.size, k, none⟩ = some (.int .u32 (zer e (2 ^ k) : Nat)) := by rw [hz.cell, row32_at hlt]
                have hO := hide (through_any (zer e (2 ^ k)) (fun i => zer e (2 ^ i)) wr.drew hz32)
                rw [thr_zer e (zer e (2 ^ k)) (hz32 k hlt), ← zer_add] at hO
                generalize zer e (2 ^ k) = x at c0 hO
                obtain ⟨y, hy⟩ : ∃ y, zer (e + e) (2 ^ k) = y := ⟨_, rfl⟩
                rw [hy] at hO
                have HY := Lib.hid hy
                have c1 : wr.cell? ⟨w1.heap.size, k, none⟩ = some (.int .u32 0) := by rw [ht.cell, row32_at hlt]; simp [upto]
                have f1 : wr.frozen? ⟨w1.heap.size, k, none⟩ = false := ht.frozen k
                have HT := hide ht
                have HZ := hide hz
                have HB := hide hbl
                have hk0 : (0 : Int) ≤ (k : Int) := by omega
                have hk1 : (k : Int) < 32 := by omega
                have HN := Nat.ne_of_lt (unhide HZ1).lt
                obtain ⟨zl, hzl⟩ : ∃ zl, (row32 (fun i => zer e (2 ^ i))).toList = zl := ⟨_, rfl⟩
                have hra : wr.rangeAt w.heap.size 0 zl := by rw [← hzl]; exact range_blk hz
                have hza : zl.toArray = row32 (fun i => zer e (2 ^ i)) := by rw [← hzl]
                have hu := Try.underlying75
                have hsz : (Try.prog.info? 75).map (·.size) = some zl.length := by rw [← hzl, Array.length_toList, row32_size]; kernel_rfl
                rw [← hza] at hO
                have HZA := Lib.hid hza
                have HZL := Lib.hid hzl
                clear hza hzl
                clear ht hz hbl hy hz32
                go_wp2
                go_region_held3 (fun w' => w'.rangeAt w.heap.size 0 zl ∧ w'.cell? ⟨w.heap.size, k, none⟩ = some (.int .u32 (x : Int))) (first | go_keep | exact ⟨range_far d3 HN _, cell_far d0 HN _⟩) ((first
                  | (go_at_call 51
                     refine (unhide hO).mono ?_
                     rintro e2 w2 ⟨rfl, hb2⟩
                     have t2 := (unhide HT).drew.below hb2 (unhide HT).lt
                     have z2 := (unhide HZ).drew.below hb2 (unhide HZ).lt
                     have d0 : w2.cell? ⟨w.heap.size, k, none⟩ = some (.int .u32 (x : Int)) := (hb2.cell (p := ⟨w.heap.size, k, none⟩) (unhide HZ).lt).trans c0
                     have d1 : w2.cell? ⟨w1.heap.size, k, none⟩ = some (.int .u32 0) := (hb2.cell (p := ⟨w1.heap.size, k, none⟩) (unhide HT).lt).trans c1
                     have d2 : w2.frozen? ⟨w1.heap.size, k, none⟩ = false := t2.frozen k
                     have d3 : w2.rangeAt w.heap.size 0 zl := by rw [← HZL.out]; exact range_blk z2
                     have HT2 := hide t2
                     have HZ2 := hide z2
                     have HB2 := hide ((unhide HB).drew.trans (hb2.mono (unhide HB).size))
                     clear t2 z2 hb2)))
                all_goals go_wp2
                all_goals
                  go_roundg p
                  case rel => exact ⟨k + 1, by omega, by go_num, by rw [← row32_set hlt HY.out.symm]; exact (unhide HT2).set_ k _, (unhide HZ2).far (p := ⟨w1.heap.size, k, none⟩) HN _, (unhide HB2).setCell hz1 _⟩
                  case measure => omega
              · obtain rfl : k = 32 := by omega
                rw [row32_all] at ht
                have HT := hide ht
                have HZ := hide hz
                have HB := hide hbl
                clear ht hz hbl
                go_wp2_with (first
                  | (refine wpList_load_row rfl 75 (.tmp 10) rfl w1.heap.size rfl 75 _ (0, 0) _ (unhide HT) Try.underlying75 rfl (by rw [row32_size]; kernel_rfl) ?_)
                  | (refine wpList_store_row rfl 75 (.tmp 8) (.tmp 43) rfl w.heap.size (row32 (fun i => zer (e + e) (2 ^ i))) rfl rfl 75 _ (unhide HZ) (by rw [row32_size]; kernel_rfl) (by rw [row32_size, row32_size]) (row32_one _) ?_))
                go_roundg q
                case rel => exact ⟨e + e, lc / 2, ac, hl2, by omega, by go_num, rfl, HI1.out, (unhide HZ).setRow_ _, (unhide HB).trans ((Chg.of_setRow wr w.heap.size _).below (B := w.heap.size) (unhide HB).size (by intro i hi e; omega))⟩
                case measure => omega
        · obtain rfl : lc = 0 := by omega
          have HV : Hid (ac < U32 ∧ ac = zer n a) := ⟨HI.out.1, by have := HI.out.2; rwa [Nat.mul_zero] at this⟩
          have hx := xor_u32 ac b HV.out.1 hb
          have HB := hide hbl
          clear hz hbl
          go_wp2
          go_ret2
          exact ⟨by unfold jn; rw [← HV.out.2]; rfl, unhide HB⟩
end Go.Proofs.Ytoipkpndfgcmcaa

/-
  What is left of Parts behind Wait: the sums joined; the maths of joined sums. The conditions stand in each theorem.
-/
namespace Go.Proofs.Ytoipkpndfgcmcaa.Crew
open Go Go.RowKit
set_option linter.unusedVariables false
set_option linter.unusedSectionVars false
set_option linter.unusedSimpArgs false
theorem crc_lin (x y : Nat) (bs : List UInt8) : crc (x ^^^ y) bs = zer bs.length x ^^^ crc y bs := by
  induction bs generalizing x y with
  | nil => rfl
  | cons c bs ih =>
    have h1 : crc (x ^^^ y) (c :: bs) = crc (tk (x ^^^ y) c) bs := rfl
    have h2 : crc y (c :: bs) = crc (tk y c) bs := rfl
    have h3 : tk (x ^^^ y) c = stp8 x ^^^ tk y c := by unfold tk; rw [Nat.xor_assoc, stp8_xor]
    rw [h1, h2, h3, ih, List.length_cons, zer_add, zer_one]
/-- A part's sum joined. -/
theorem jn_upd (s : Nat) (bs : List UInt8) : jn s (upd 0 bs) bs.length = upd s bs := by
  unfold jn upd
  rw [Nat.zero_xor, crc_lin s ONES bs, Nat.xor_assoc]
/-- The sum of the parts. -/
def sumP (ps : List (List UInt8)) : Nat := ps.foldl upd 0
theorem sumP_succ {ps : List (List UInt8)} {k : Nat} (h : k < ps.length) : sumP (ps.take (k + 1)) = upd (sumP (ps.take k)) (ps.getD k []) := by
  unfold sumP
  rw [List.take_add_one, List.foldl_append]
  simp [List.getElem?_eq_getElem h]
theorem sumP_lt (ps : List (List UInt8)) : sumP ps < U32 := by
  unfold sumP
  have : ∀ s, s < U32 → ps.foldl upd s < U32 := by
    induction ps with
    | nil => exact fun s h => h
    | cons b ps ih => exact fun s h => ih _ (upd_lt h b)
  exact this 0 (by decide)
/-- What Parts finds behind Wait. -/
structure RestW (v : World) (N n : Nat) (a0 : Option Addr) (ps : List (List UInt8)) (sl : Nat → Option Addr × Nat) : Prop where
  len : ps.length = n
  lt : N + 1 < v.heap.size
  pay : ∀ k, k < n → v.cell? ⟨N, k, none⟩ = some (.int .u32 (upd 0 (ps.getD k []) : Nat))
  sums : v.cell? ⟨N + 1, 0, none⟩ = some (.slice (some ⟨N, 0, none⟩) n n)
  parts : 0 < n → ∃ g off, a0 = some ⟨g, off, none⟩ ∧ g < N ∧ ∀ j, j < n → v.cell? ⟨g, off + j, none⟩ = some (.slice (sl j).1 (ps.getD j []).length (sl j).2)
set_option maxRecDepth 100000 in
set_option maxHeartbeats 4000000 in
theorem rest_any {v : World} {N n cap : Nat} {a0 : Option Addr} {ps : List (List UInt8)} {sl : Nat → Option Addr × Nat} (h : RestW v N n a0 ps sl) (hn : n < 2147483648) (hB : ∀ j, j < n → (ps.getD j []).length ≤ 140737488355328) (T : Array Value) (hT : T.size = 44) (t0 : T[0]? = some (.slice a0 n cap)) (t3 : T[3]? = some (.pointer (some ⟨N + 1, 0, none⟩))) :
    (seqTail (R38of (bodyOf Try.f38))).wp Try.prog (bodyPost Try.prog Try.f38 fun e w' => e = .returned (.int .u32 (sumP ps : Nat)) ∧ Below v.heap.size v w') { tmps := T, defers := [] } v := by
  obtain ⟨v0, v1, v2, v3, v4, v5, v6, v7, v8, v9, v10, v11, v12, v13, v14, v15, v16, v17, v18, v19, v20, v21, v22, v23, v24, v25, v26, v27, v28, v29, v30, v31, v32, v33, v34, v35, v36, v37, v38, v39, v40, v41, v42, v43, rfl⟩ := array44 T hT
  simp only [List.getElem?_toArray, List.getElem?_cons_succ, List.getElem?_cons_zero, Option.some.injEq] at t0 t3
  subst t0 t3
  have HR := hide h
  clear h
  simp only [R38of, seqTails, seqTail, bodyOf, Try.f38, Option.getD_some]
  go_wp2
  go_loopg [7, 26] n (fun q t i wr => ∃ k s : Nat, k + q = n ∧ i = .int .i64 (k : Int) ∧ t = .int .u32 (s : Int) ∧ Hid (s = sumP (ps.take k)) ∧ Below v.heap.size v wr)
  case atStart => exact ⟨0, 0, by omega, rfl, rfl, rfl, Below.refl _ _⟩
  case round =>
    obtain ⟨k, s, hk, rfl, rfl, hs, hb⟩ := hrel
    by_cases hlt : k < n
    · obtain ⟨q, rfl⟩ : ∃ q, gk = q + 1 := ⟨gk - 1, by omega⟩
      have h0 := unhide HR
      obtain ⟨g, off, rfl, hg, hcell⟩ := h0.parts (by omega)
      obtain ⟨bs, hbs⟩ : ∃ bs, ps.getD k [] = bs := ⟨_, rfl⟩
      have hlen := hB k hlt
      have hcp := hcell k hlt
      have hpy := h0.pay k hlt
      rw [hbs] at hlen hcp hpy
      obtain ⟨u, hu⟩ : ∃ u, upd 0 bs = u := ⟨_, rfl⟩
      have hul : u < U32 := by rw [← hu]; exact upd_lt (by decide) bs
      have hsl : s < U32 := by rw [unhide hs]; exact sumP_lt _
      obtain ⟨m, hm⟩ : ∃ m, bs.length = m := ⟨_, rfl⟩
      rw [hm] at hlen hcp
      rw [hu] at hpy
      have HJ := hide (join_any s u m wr hsl hul (by omega))
      have HN := hide (show jn s u m = sumP (ps.take (k + 1)) by
        rw [sumP_succ (by rw [h0.len]; exact hlt), ← unhide hs, hbs, ← hu, ← hm]
        exact jn_upd s bs)
      obtain ⟨A, hA⟩ : ∃ A, (sl k).1 = A := ⟨_, rfl⟩
      obtain ⟨c, hc⟩ : ∃ c, (sl k).2 = c := ⟨_, rfl⟩
      rw [hA, hc] at hcp
      have hlo := h0.lt
      have c1 : wr.cell? ⟨g, off + k, none⟩ = some (.slice A m c) := (hb.cell (p := ⟨g, off + k, none⟩) (by show g < _; omega)).trans hcp
      have c2 : wr.cell? ⟨N + 1, 0, none⟩ = some (.slice (some ⟨N, 0, none⟩) n n) := (hb.cell (p := ⟨N + 1, 0, none⟩) (by show N + 1 < _; omega)).trans h0.sums
      have c3 : wr.cell? ⟨N, k, none⟩ = some (.int .u32 (u : Int)) := (hb.cell (p := ⟨N, k, none⟩) (by show N < _; omega)).trans hpy
      have HB := hide hb
      clear h0 hcell hcp hpy hs hb hbs hu hul hsl hm hA hc hlo
      go_wp2_with (go_at_call 33; refine (unhide HJ).mono ?_; rintro e w1 ⟨rfl, hb1⟩)
      go_roundg q
      case rel => exact ⟨k + 1, jn s u m, by omega, by go_num, rfl, unhide HN, (unhide HB).trans (hb1.mono (unhide HB).size)⟩
      case measure => omega
    · obtain rfl : k = n := by omega
      have hx : s = sumP ps := by rw [unhide hs, List.take_of_length_le (by rw [(unhide HR).len]; exact Nat.le_refl _)]
      have HB := hide hb
      clear hs hb
      go_wp2
      go_ret
      exact ⟨by rw [hx]; rfl, unhide HB⟩
end Go.Proofs.Ytoipkpndfgcmcaa.Crew

/-
  The functions of this program that are calm by their text. No assumption.
-/
namespace Go.Proofs.Ytoipkpndfgcmcaa.Crew
open Go Go.Conc Go.Proofs.Ytoipkpndfgcmcaa.Veils
theorem calm_all : calmL.all (fun f => match Try.prog.funcs[f]? with
  | some fn => match fn.body with
    | some b => codeCalm Try.prog calmF (slotK f) b
    | none => false
  | none => false) = true := by kernel_rfl
theorem fns : FnsCalm Try.prog calmF := ⟨fun f hf => by
  have h := List.all_eq_true.1 calm_all f (by simpa [calmF] using hf)
  cases h1 : Try.prog.funcs[f]? with
  | none => rw [h1] at h; cases h
  | some fn =>
    rw [h1] at h
    cases h2 : fn.body with
    | none => simp only [h2] at h; cases h
    | some b =>
      simp only [h2] at h
      exact ⟨fn, b, rfl, h2, h⟩, fun r => Iff.rfl, fun fd h => by
  have h0 := Try.func45
  have e : fd = Try.f45 := Option.some.inj (h.symm.trans h0)
  subst e
  exact ⟨2, rfl, rfl⟩⟩
/-- A function with no slot of a special kind. -/
def slotFree (f : Nat) : Bool := f != 22 && f != back0 && f != back1 && f != 41 && f != 12
theorem slots_free {B : Nat} {fr : Frame} (h : slotFree fr.fn = true) : ∀ k, OkV B (kinds fr k) (fr.tmps.getD k undef) := fun k => by
  have : kinds fr k = 0 := by
    unfold kinds
    cases fr.roundOf with
    | some l => rfl
    | none =>
      simp only [slotFree, Bool.and_eq_true, bne_iff_ne, ne_eq] at h
      simp [slotK, h]
  rw [this]
  trivial
end Go.Proofs.Ytoipkpndfgcmcaa.Crew

/-
  Parts, whole, on every tape, beside others that only leave: from its entry to its return. The conditions stand in each theorem.
-/
namespace Go.Proofs.Ytoipkpndfgcmcaa.Crew
open Go Go.Conc Go.ConcN Go.RowKit Go.Conc.Lib Go.ConcR.Gen Go.ConcN.Gen Go.Proofs.Ytoipkpndfgcmcaa.Veils
open Go.ConcR (Payload)
set_option linter.unusedVariables false
set_option linter.unusedSectionVars false
theorem veil_open {X : Nat → Prop} {w : World} {b : Nat} (hX : ¬ X b) (hV : ¬ Vw w b) : (veilW X w).heap[b]? = w.heap[b]? := by
  rw [veilW_at]
  cases hw : w.heap[b]? with
  | none => rfl
  | some o =>
    have hp : Obj.plain o := Classical.byContradiction fun hn => hV ⟨o, hw, hn⟩
    simp [hX, hp]
theorem veil_size (X : Nat → Prop) (w : World) : (veilW X w).heap.size = w.heap.size := by simp [veilW]
theorem veil_cell {X : Nat → Prop} {w : World} {a : Addr} {x : Value} (hX : ¬ X a.block) (h : w.cell? a = some x) : (veilW X w).cell? a = some x := by
  have hV : ¬ Vw w a.block := fun ⟨o, h1, h2⟩ => by
    unfold World.cell? at h
    rw [h1] at h
    cases o <;> first | exact h2 trivial | cases h
  unfold World.cell? at h ⊢
  rw [veil_open hX hV]
  exact h
/-- What a lone walk leaves below N, it leaves in the true world. -/
theorem below_veil {X : Nat → Prop} {N d : Nat} {t : Tape} {w w' v' : World} (hk : Keep X w w') (hh : v'.heap = (veilW X w').heap) (hos : v'.os = w'.os) (hout : v'.output = w'.output) (ht : w'.tape = w.tape)
    (hb : Below N { veilW X w with tape := t, drawn := d } v') : Below N w w' := by
  refine ⟨hos.symm.trans hb.os, ht, hout.symm.trans hb.output, ?_, fun k hk' => ?_⟩
  · have := hb.size
    rw [hh] at this
    have e : ({ veilW X w with tape := t, drawn := d } : World).heap.size = w.heap.size := veil_size X w
    rw [e, veil_size] at this
    exact this
  · by_cases hX : X k
    · exact hk.same k (.inl hX)
    · by_cases hV : Vw w k
      · exact hk.same k (.inr hV)
      · have hV' : ¬ Vw w' k := fun h => hV (hk.back k h)
        have := hb.block k hk'
        rw [hh, veil_open hX hV'] at this
        exact this.trans (veil_open hX hV)
/-- From a function's text, walked alone, to the state of its return. -/
theorem lone_of_body {P : Program} {fn : Func} {c : Code} {b : Frame} {a : Act} {v : World} {R : Ending → World → Prop} (h : c.wp P (bodyPost P fn R) a v) (hR : ∀ e w, R e w → ∃ x, e = .returned x) :
    ∃ N fr v', runN P N (lone (b.at a [.code c]) [pit] v) = .next (lone fr [pit] v') ∧ fr.mode = .returning ∧ ∃ a' todo, fr = { b.at a' todo with mode := .returning } ∧ a'.defers = [] ∧ ∃ x, (results fn a'.tmps).run P v' = .ok x v' ∧ R (.returned x) v' := by
  obtain ⟨e, a', w', q, arr⟩ := h b [] [pit]
  cases e with
  | normal =>
    obtain ⟨hd, x, hr, hx⟩ := q
    obtain ⟨n, hn⟩ := Steps.trans arr (.one step_end)
    exact ⟨n, _, w', hn, rfl, a', [], rfl, hd, x, hr, hx⟩
  | ret =>
    obtain ⟨hd, x, hr, hx⟩ := q
    obtain ⟨todo, n, hn⟩ := arr
    exact ⟨n, _, w', hn, rfl, a', todo, rfl, hd, x, hr, hx⟩
  | panic ch =>
    obtain ⟨_, hx⟩ := q
    obtain ⟨x, hx⟩ := hR _ _ hx
    cases hx
  | outgrown =>
    obtain ⟨x, hx⟩ := hR _ _ q
    cases hx
  | exit id => exact q.elim
  | goto l => exact q.elim
theorem calm_rest : codeCalm Try.prog calmF (slotK 38) (seqTail (R38of (bodyOf Try.f38))) = true := by kernel_rfl
section
variable {W : World} {N n cap : Nat} {a0 : Option Addr} {cs : List Frame} {X : Nat → Prop} {J q Bm : Nat} {ps : List (List UInt8)} {sl : Nat → Option Addr × Nat} {m : Machine} {t : Trace}
/-- At Parts' return. -/
def P3 (W : World) (N : Nat) (X : Nat → Prop) (ps : List (List UInt8)) (cs : List Frame) (g : Goroutine) (w : World) : Prop :=
  ∃ a' todo, g = G { (base 38).at a' todo with mode := .returning } cs ∧ a'.defers = [] ∧ a'.tmps.getD 2 undef = .int .u32 (sumP ps : Nat) ∧ Below N W w ∧ Veils.Rows X w
theorem P3.at {g : Goroutine} {w : World} (h : P3 W N X ps cs g w) (d : Nat) : P3 W N X ps cs g (w.at d) := by
  obtain ⟨a', todo, h1, h2, h3, h4, h5⟩ := h
  exact ⟨a', todo, h1, h2, h3, below_at h4 d, h5⟩
theorem rows_two (hR : Veils.Rows X W) (hXN : ∀ r, X r → r < N) {w : World} (hb : Below N W w) (hl : WgLive 96 (N + 2) w) : Veils.Rows (fun r => X r ∨ r = N + 2) w := by
  intro b hb'
  rcases hb' with hb' | rfl
  · obtain ⟨c, e, h1, h2⟩ := hR b hb'
    exact ⟨c, e, (hb.block b (hXN b hb')).trans h1, h2⟩
  · obtain ⟨st, sm, h⟩ := hl
    exact ⟨_, _, h, by simp⟩
theorem parts_rest (hXN : ∀ r, X r → r < N) (hR : Veils.Rows X W) (ha : Args W N X a0 n ps sl) (hB : ∀ j, j < n → (ps.getD j []).length ≤ 140737488355328) (hn : n < 2147483648) (a : Goroutine) (w : World) (h : BackP N n a0 cap cs a ∧ SF W N n w ∧ Full N (valsP n ps) w) :
    Runs Try.prog (DF fun r => X r ∨ r = N + 2) (P3 W N (fun r => X r ∨ r = N + 2) ps cs) a w := by
  obtain ⟨⟨T, ⟨hT, t0, t3⟩, rfl⟩, hS, hF⟩ := h
  refine Runs.of_step rfl fun d => ⟨_, _, _, stepG_region_end, ⟨Nat.le_refl _, fun e he => by simp at he⟩, ?_⟩
  have hS : SF W N n (w.at d) := hS.rely (RQ.at w d)
  have hF : Full N (valsP n ps) (w.at d) := hF
  generalize w.at d = w at hS hF
  obtain ⟨T', hT'⟩ : ∃ T' : Array Value, T.setIfInBounds 23 (.tuple #[]) = T' := ⟨_, rfl⟩
  have hput : (⟨T, []⟩ : Act).put (((opsOf (seqHead (R38of (bodyOf Try.f38))))[0]?).bind (·.dst)) (.tuple #[]) = ⟨T', []⟩ := by
    rw [← hT']
    rfl
  rw [hput]
  have s0 : T'[0]? = some (.slice a0 n cap) := by rw [← hT', Array.getElem?_setIfInBounds_ne (by omega)]; exact t0
  have s3 : T'[3]? = some (.pointer (some ⟨N + 1, 0, none⟩)) := by rw [← hT', Array.getElem?_setIfInBounds_ne (by omega)]; exact t3
  have hTs : T'.size = 44 := by rw [← hT']; simpa using hT
  have hRw := rows_two hR hXN hS.below hS.live
  have hnX : ∀ b, b ≤ N + 1 → (∀ r, X r → r ≠ b) → ¬ (X b ∨ b = N + 2) := fun b hb hx h => by
    rcases h with h | h
    · exact hx b h rfl
    · omega
  have hXb : ∀ b, N ≤ b → ∀ r, X r → r ≠ b := fun b hb r hr e => by have := hXN r hr; omega
  refine seq_runs (F := calmF) (X := fun r => X r ∨ r = N + 2) fns (Fin := fun fr v' => ∃ a' todo, fr = { (base 38).at a' todo with mode := .returning } ∧ a'.defers = [] ∧ ∃ x, (results Try.f38 a'.tmps).run Try.prog v' = .ok x v' ∧ (Ending.returned x = .returned (.int .u32 (sumP ps : Nat)) ∧ ∃ t, Below w.heap.size { veilW (fun r => X r ∨ r = N + 2) w with tape := t, drawn := 0 } v')) cs
    ⟨⟨_, Try.func38⟩, fun it hit => ?_, fun d hd => (by cases hd), rfl, slots_free rfl⟩ (.inl rfl) hRw (fun tp => ?_) (fun w w' es _ _ hsz hes => ⟨hsz, hes⟩) ?_
  · obtain rfl := List.mem_singleton.1 hit
    exact calm_rest
  · have hv : RestW { veilW (fun r => X r ∨ r = N + 2) w with tape := tp, drawn := 0 } N n a0 ps sl := by
      refine ⟨ha.len, ?_, fun k hk => ?_, ?_, fun hp => ?_⟩
      · show N + 1 < (veilW _ w).heap.size
        rw [veil_size]
        exact hS.sums.lt
      · refine veil_cell (hnX N (by omega) (hXb N (Nat.le_refl _))) ?_
        have hF : w.heap[N]? = some (.cells (valsP n ps).toArray Payload.ety) := hF
        simp [World.cell?, hF, valsP, hk, valP]
      · exact veil_cell (hnX (N + 1) (Nat.le_refl _) (hXb _ (by omega))) hS.sums.cell
      · obtain ⟨g, off, h1, h2, h3, h4⟩ := ha.cells hp
        exact ⟨g, off, h1, h2, fun j hj => veil_cell (hnX g (by omega) (fun r hr e => h3 (e ▸ hr))) ((hS.below.cell (p := ⟨g, off + j, none⟩) h2).trans (h4 j hj))⟩
    obtain ⟨n', fr, v', h1, h2, a', todo, h3, h4, x, h5, h6, h7⟩ := lone_of_body (b := base 38) (rest_any hv hn hB T' hTs s0 s3) (fun e w h => ⟨_, h.1⟩)
    refine ⟨n', fr, v', h1, h2, a', todo, h3, h4, x, h5, h6, tp, ?_⟩
    have e : ({ veilW (fun r => X r ∨ r = N + 2) w with tape := tp, drawn := 0 } : World).heap.size = w.heap.size := veil_size _ w
    rw [e] at h7
    exact h7
  · rintro fr v' w' ⟨a', todo, rfl, h4, x, h5, h6, tp, h7⟩ _ hh hos hout hk ht
    have hx : x = a'.tmps.getD 2 undef := by
      have := results_tmp (t := 2) (fn := Try.f38) rfl a'.tmps Try.prog v'
      rw [this] at h5
      cases h5
      rfl
    have hb := below_veil hk hh hos hout ht h7
    refine ⟨a', todo, rfl, h4, ?_, hS.below.trans (hb.mono (by have := hS.n0; omega)), hRw.keep fun b hb => hk.same b (.inl hb)⟩
    injection h6 with h6
    rw [← hx, h6]
variable {b₀ : Frame} {a₀ : Act} {ops₀ : Array Oper} {i₀ : Nat} {rest₀ : List Nat} {k₀ : List Item} {cs₀ : List Frame}
/-- Behind the call of Parts. -/
def P4 (W : World) (N : Nat) (X : Nat → Prop) (g' : Goroutine) (g : Goroutine) (w : World) : Prop := g = g' ∧ Below N W w ∧ Veils.Rows X w
/-- PARTS. -/
theorem parts_runs (hq : TakeQ Bm q) (hXN : ∀ r, X r → r < N) (hR : Veils.Rows X W) (ha : Args W N X a0 n ps sl) (hB : ∀ j, j < n → (ps.getD j []).length ≤ Bm) (hBm : Bm ≤ 140737488355328) (hn : n < 2147483648)
    (h : Mach Try.prog X J (P0 W N n a0 cap (b₀.at a₀ (.inRegion ops₀ (i₀ :: rest₀) :: k₀) :: cs₀)) m t) :
    Leads Try.prog m t (Mach Try.prog (fun r => X r ∨ r = N + 2) (J + n) (P4 W N (fun r => X r ∨ r = N + 2) (G (b₀.at (a₀.put ((ops₀[i₀]?).bind (·.dst)) (.int .u32 (sumP ps : Nat))) (.inRegion ops₀ rest₀ :: k₀)) cs₀))) := by
  refine (parts_wait hq hXN ha hB hn h).bind fun m1 t1 h1 => ?_
  refine (h1.runs fun a w hs => parts_rest hXN hR ha (fun j hj => Nat.le_trans (hB j hj) hBm) hn a w hs).bind fun m2 t2 h2 => ?_
  refine h2.runs fun a w hs => ?_
  refine Runs.of_step (by obtain ⟨_, _, rfl, _⟩ := hs; rfl) fun d => ?_
  obtain ⟨a', todo, rfl, hd, hx, hb, hr⟩ := hs.at d
  refine ⟨_, w.at d, #[], ?_, ⟨Nat.le_refl _, fun e he => by simp at he⟩, .stop fun d' => ⟨rfl, below_at hb d', hr⟩⟩
  rw [stepG_leave rfl hd Try.func38 (results_tmp (t := 2) rfl _ Try.prog (w.at d)) (events_results_tmp (t := 2) rfl _ _), Frame.finish_at, hx]
end
end Go.Proofs.Ytoipkpndfgcmcaa.Crew

/-
  The beginning of a function's text, walked alone; what a veiled world shows; the state of a machine named; the last step of a run. The conditions stand in each theorem. No program in sight.
-/
namespace Go.Proofs.Ytoipkpndfgcmcaa.Crew
open Go Go.Conc Go.ConcN Go.RowKit Go.Conc.Lib Go.ConcR.Gen Go.ConcN.Gen Go.Proofs.Ytoipkpndfgcmcaa.Veils
set_option linter.unusedVariables false
/-- The first k parts of a row, with an empty last one. -/
def front : Nat → Code → Code
  | k + 1, .seq a b => .seq a (front k b)
  | _, _ => .skip
theorem lone_of_front {P : Program} {c : Code} {b : Frame} {a : Act} {v : World} {R : Act → World → Prop} (h : c.wp P (fun e a' w' => e = .normal ∧ R a' w') a v) :
    ∃ N fr v', runN P N (lone (b.at a [.code c]) [pit] v) = .next (lone fr [pit] v') ∧ fr.mode = .run ∧ fr.todo = [] ∧ ∃ a', fr = b.at a' [] ∧ R a' v' := by
  obtain ⟨e, a', w', ⟨rfl, q⟩, arr⟩ := h b [] [pit]
  obtain ⟨n, hn⟩ := arr
  exact ⟨n, _, w', hn, rfl, rfl, a', rfl, q⟩
theorem cell_veil {X : Nat → Prop} {w : World} {a : Addr} {x : Value} (h : (veilW X w).cell? a = some x) : w.cell? a = some x := by
  unfold World.cell? at h ⊢
  rw [veilW_at] at h
  cases hw : w.heap[a.block]? with
  | none => rw [hw] at h; exact h
  | some o =>
    rw [hw] at h
    by_cases hx : X a.block
    · simp [hx] at h
    · by_cases hp : Obj.plain o
      · simpa [hx, hp] using h
      · exfalso
        cases o <;> first | exact hp trivial | simp [hx, hp, dimO] at h
section
variable {P : Program} {X : Nat → Prop} {J : Nat} {S S' : Goroutine → World → Prop} {m : Machine} {t : Trace} {Q : Machine → Trace → Prop}
/-- The state that the machine is in, named. -/
theorem Mach.pin (h : Mach P X J S m t) : ∃ a w, S a w ∧ Mach P X J (fun a' w' => a' = a ∧ w' = w) m t := by
  obtain ⟨gs, a, w, sl, q, h1, h2, h3, h4, h5, h6⟩ := h
  exact ⟨a, w, h4, gs, a, w, sl, q, h1, h2, h3, ⟨rfl, rfl⟩, h5, h6⟩
theorem Mach.named {a : Goroutine} {w : World} (h : Mach P X J (fun a' w' => a' = a ∧ w' = w) m t) (k : S a w) : Mach P X J S m t :=
  h.mono fun a' w' ⟨e1, e2⟩ => by subst e1 e2; exact k
/-- The run's last step. -/
theorem stepG_last {fn : Func} {b : Frame} {a : Act} {todo : List Item} {v : Value} {w : World} (hn : b.kind = .normal) (hd : a.defers = []) (hf : P.funcs[b.fn]? = some fn)
    (hr : (results fn a.tmps).run P w = .ok v w) (he : (results fn a.tmps).events P w #[] = #[]) (hin : P.inits.idxOf? b.fn = none) :
    stepG P true (G { b.at a todo with mode := .returning } []) w = .ended (.done v) w #[] := by
  simp [hin, G, stepG, unwind, doReturn, Frame.at, hn, hd, hf, hr, he, seen, GStep.after]
end
end Go.Proofs.Ytoipkpndfgcmcaa.Crew

/-
  In a text walked by hand: a call of a calm function; a region whose order is drawn. The conditions stand in each theorem.
-/
namespace Go.Proofs.Ytoipkpndfgcmcaa.Crew
open Go Go.Conc Go.ConcN Go.RowKit Go.Conc.Lib Go.ConcR.Gen Go.ConcN.Gen Go.Proofs.Ytoipkpndfgcmcaa.Veils
set_option linter.unusedVariables false
theorem runs_then {P : Program} {D : World → World → Array Event → Prop} {S S' : Goroutine → World → Prop} {g : Goroutine} {w : World} (h : Runs P D S g w) (k : ∀ g w, S g w → Runs P D S' g w) : Runs P D S' g w := by
  induction h with
  | @stop g w hs =>
    have hk := fun d => k g (w.at d) (hs d)
    cases hk 0 with
    | stop hq => exact .stop fun d => hq d
    | step gf wf ef h1 h2 h3 h4 => exact .step gf wf ef h1 (fun d => h2 d) (fun d => h3 d) h4
  | step gf wf ef h1 h2 h3 _ ih => exact .step gf wf ef h1 h2 h3 fun d => ih d
/-- What a calm call leaves: its value, and the world. -/
structure Left (X : Nat → Prop) (Q : Value → World → Prop) (caller : Frame) (cs : List Frame) (w : World) (g : Goroutine) (w' : World) : Prop where
  get : ∃ x v', Q x v' ∧ g = G (caller.finish x) cs ∧ v'.heap = (veilW X w').heap ∧ v'.os = w'.os ∧ v'.output = w'.output
  keep : Keep X w w'
  tape : w'.tape = w.tape
theorem call_runs {f : FuncId} {fn : Func} {t : Nat} {args : Array Value} {w : World} {X : Nat → Prop} {Q : Value → World → Prop} (hf : calmF f = true) (hfn : Try.prog.funcs[f]? = some fn) (hres : fn.results = #[.tmp t])
    (ha : ∀ k, k < args.size → OkV w.heap.size (slotK f k) (args.getD k undef)) (hX : Veils.Rows X w) (hc : ∀ tp, Calls Try.prog f args { veilW X w with tape := tp, drawn := 0 } fun e v' => ∃ x, e = .returned x ∧ Q x v') (caller : Frame) (cs : List Frame) :
    Runs Try.prog (DF X) (Left X Q caller cs w) (G (Frame.enter Try.prog f args .normal) (caller :: cs)) w := by
  refine runs_then (seq_runs (F := calmF) (X := X) fns (Fin := fun fr v' => fr.mode = .returning ∧ fr.defers = [] ∧ fr.kind = .normal ∧ fr.fn = f ∧ Q (fr.tmps.getD t undef) v')
    (Stop := fun g w' => ∃ fr v', g = G fr (caller :: cs) ∧ (fr.mode = .returning ∧ fr.defers = [] ∧ fr.kind = .normal ∧ fr.fn = f ∧ Q (fr.tmps.getD t undef) v') ∧ v'.heap = (veilW X w').heap ∧ v'.os = w'.os ∧ v'.output = w'.output ∧ Keep X w w' ∧ w'.tape = w.tape)
    (caller :: cs) (FrCalm.enter fns hf args ha) (.inl rfl) hX (fun tp => ?_) (fun w w' es _ _ hsz hes => ⟨hsz, hes⟩) fun fr v' w' h1 h2 h3 h4 h5 h6 h7 => ⟨fr, v', rfl, h1, h3, h4, h5, h6, h7⟩) ?_
  · obtain ⟨e, v', fr, ⟨x, rfl, hQ⟩, hs, h1, h2⟩ := hc tp [pit]
    obtain ⟨g1, g2, g3, fn', g4, g5⟩ := h2
    have e : fn' = fn := by rw [h1] at g4; exact Option.some.inj (g4.symm.trans hfn)
    subst e
    rw [results_tmp hres] at g5
    cases g5
    obtain ⟨n, hn⟩ := hs
    exact ⟨n, fr, v', hn, g1, g1, g2, g3, h1, hQ⟩
  · rintro g w' ⟨fr, v', rfl, ⟨g1, g2, g3, g4, g5⟩, h3, h4, h5, h6, h7⟩
    refine Runs.of_step rfl fun d => ⟨G (caller.finish (fr.tmps.getD t undef)) cs, w'.at d, #[], ?_, ⟨Nat.le_refl _, fun e he => by simp at he⟩, .stop fun d' => ⟨⟨_, v', g5, rfl, h3, h4, h5⟩, ⟨h6.same, h6.back⟩, h7⟩⟩
    obtain ⟨ffn, tmps, todo, defers, mode, kind, round⟩ := fr
    have g1 : mode = .returning := g1
    have g2 : defers = [] := g2
    have g3 : kind = .normal := g3
    have g4 : ffn = f := g4
    subst g1 g2 g3 g4
    simp [G, stepG, unwind, doReturn, hfn, results_tmp hres, events_results_tmp hres, seen, GStep.after]
end Go.Proofs.Ytoipkpndfgcmcaa.Crew

/-
  A region walked by hand in the whole machine: an operation that is a value's alone, one that makes memory, a call of a calm function, a call of Parts. The conditions stand in each theorem.
-/
namespace Go.Proofs.Ytoipkpndfgcmcaa.Crew
open Go Go.Conc Go.ConcN Go.RowKit Go.Conc.Lib Go.ConcR.Gen Go.ConcN.Gen Go.Proofs.Ytoipkpndfgcmcaa.Veils
set_option linter.unusedVariables false
theorem runs_at {P : Program} {D : World → World → Array Event → Prop} {S : Goroutine → World → Prop} {g : Goroutine} {w : World} (h : Runs P D S g w) (d : Nat) : Runs P D S g (w.at d) := by
  cases h with
  | stop hq => exact .stop fun d' => hq d'
  | step gf wf ef h1 h2 h3 h4 => exact .step gf wf ef h1 (fun d' => h2 d') (fun d' => h3 d') h4
/-- In a region. -/
def InR (f : FuncId) (ops : Array Oper) (k : List Item) (T : Array Value) (l : List Nat) (cs : List Frame) : Goroutine := G ((base f).at ⟨T, []⟩ (.inRegion ops l :: k)) cs
def putT (T : Array Value) (d : Option Nat) (x : Value) : Array Value := match d with
  | some d => T.setIfInBounds d x
  | none => T
theorem put_T (T : Array Value) (d : Option Nat) (x : Value) : (⟨T, []⟩ : Act).put d x = ⟨putT T d x, []⟩ := by cases d <;> rfl
section
variable {f : FuncId} {ops : Array Oper} {k : List Item} {T : Array Value} {i : Nat} {rest : List Nat} {cs : List Frame} {o : Oper} {x : Value} {X : Nat → Prop} {S : Goroutine → World → Prop} {w : World}
theorem step_make {w' : World} (ho : ops[i]? = some o) (hw : Region.wanted o (yielded ops T) = true) (hr : (execOp (⟨T, []⟩ : Act).eval o).run Try.prog w = .ok (.value x) w') (he : (execOp (⟨T, []⟩ : Act).eval o).events Try.prog w #[] = #[]) :
    stepG Try.prog true (InR f ops k T (i :: rest) cs) w = .go (InR f ops k (putT T o.dst x) rest cs) w' #[] := by
  have hfin : ((base f).at ⟨T, []⟩ (.inRegion ops (i :: rest) :: k)).finish x = (base f).at ⟨putT T o.dst x, []⟩ (.inRegion ops rest :: k) := by
    rw [Frame.finish_at, ho, ← put_T]
    rfl
  unfold InR
  rw [stepG_oper ho hw, ← hfin]
  have hk : (base f).kind = .normal := rfl
  simp [stepG.apply, hr, he, G, GStep.after, Frame.at, hk, seen_none]
theorem hand_make {xf : World → Value} {wf : World → World} (ho : ops[i]? = some o) (hw : Region.wanted o (yielded ops T) = true) (hr : ∀ w, (execOp (⟨T, []⟩ : Act).eval o).run Try.prog w = .ok (.value (xf w)) (wf w)) (he : ∀ w, (execOp (⟨T, []⟩ : Act).eval o).events Try.prog w #[] = #[])
    (hs : ∀ w, w.heap.size ≤ (wf w).heap.size) (h : ∀ d, Runs Try.prog (DF X) S (InR f ops k (putT T o.dst (xf (w.at d))) rest cs) (wf (w.at d))) : Runs Try.prog (DF X) S (InR f ops k T (i :: rest) cs) w :=
  Runs.of_step rfl fun d => ⟨_, _, _, step_make ho hw (hr _) (he _), ⟨hs _, fun e he => by simp at he⟩, h d⟩
theorem hand_op (ho : ops[i]? = some o) (hw : Region.wanted o (yielded ops T) = true) (hr : ∀ w, (execOp (⟨T, []⟩ : Act).eval o).run Try.prog w = .ok (.value x) w) (he : ∀ w, (execOp (⟨T, []⟩ : Act).eval o).events Try.prog w #[] = #[])
    (h : Runs Try.prog (DF X) S (InR f ops k (putT T o.dst x) rest cs) w) : Runs Try.prog (DF X) S (InR f ops k T (i :: rest) cs) w :=
  hand_make ho hw hr he (fun _ => Nat.le_refl _) fun d => runs_at h d
/-- What is known of the world behind a calm call. -/
structure Aft (X : Nat → Prop) (w v' w' : World) : Prop where
  heap : v'.heap = (veilW X w').heap
  os : v'.os = w'.os
  out : v'.output = w'.output
  keep : Keep X w w'
  tape : w'.tape = w.tape
theorem Aft.cell {v' w' : World} (h : Aft X w v' w') {a : Addr} {u : Value} (hc : v'.cell? a = some u) : w'.cell? a = some u := by
  refine cell_veil (X := X) ?_
  unfold World.cell? at hc ⊢
  rw [← h.heap]
  exact hc
theorem Aft.below {v' w' : World} {N d : Nat} {t : Tape} (h : Aft X w v' w') (hb : Below N { veilW X w with tape := t, drawn := d } v') : Below N w w' := below_veil h.keep h.heap h.os h.out h.tape hb
theorem Aft.size {v' w' : World} (h : Aft X w v' w') : v'.heap.size = w'.heap.size := by rw [h.heap, veil_size]
theorem hand_call {g : FuncId} {fn : Func} {c : Code} {t : Nat} {ar : Array Operand} {ats : Array TypeId} {vs : Array Value} {Q : Value → World → Prop} (ho : ops[i]? = some o) (hw : Region.wanted o (yielded ops T) = true) (hop : o.op = .call { callee := .value (.func g), args := ar, argTypes := ats })
    (hg : calmF g = true) (hfn : Try.prog.funcs[g]? = some fn) (hname : (fn.name == "runtime.NumGoroutine") = false) (hb : fn.body = some c) (hres : fn.results = #[.tmp t]) (hvs : ar.map (⟨T, []⟩ : Act).eval = vs) (ha : ∀ k, k < vs.size → slotK g k = 0) (hX : Veils.Rows X w)
    (hc : ∀ tp, Calls Try.prog g vs { veilW X w with tape := tp, drawn := 0 } fun e v' => ∃ x, e = .returned x ∧ Q x v')
    (h : ∀ x v' w', Q x v' → Aft X w v' w' → Runs Try.prog (DF X) S (InR f ops k (putT T o.dst x) rest cs) w') : Runs Try.prog (DF X) S (InR f ops k T (i :: rest) cs) w := by
  have hb' : fn.body.isNone = false := by rw [hb]; rfl
  refine Runs.of_step rfl fun d => ⟨G (Frame.enter Try.prog g vs .normal) ((base f).at ⟨T, []⟩ (.inRegion ops (i :: rest) :: k) :: cs), w.at d, #[], ?_, ⟨Nat.le_refl _, fun e he => by simp at he⟩, ?_⟩
  · unfold InR
    have hr := run_call_body (P := Try.prog) (a := (⟨T, []⟩ : Act)) (w := w.at d) hop hfn hname hb'
    rw [hvs] at hr
    rw [stepG_enter ho hw (by simp [base]) hr]
    have : listed Try.prog (base f).fn (⟨T, []⟩ : Act) o (w.at d) = #[] := by unfold listed; rw [events_call_body hop hfn hname hb']; exact seen_none _ _
    rw [this]
  · refine runs_then (call_runs (w := w.at d) (X := X) (Q := Q) hg hfn hres (fun k hk => by rw [ha k hk]; trivial) hX hc _ cs) ?_
    rintro g' w' ⟨⟨x, v', q1, rfl, q3, q4, q5⟩, q6, q7⟩
    have hfin : ((base f).at ⟨T, []⟩ (.inRegion ops (i :: rest) :: k)).finish x = (base f).at ⟨putT T o.dst x, []⟩ (.inRegion ops rest :: k) := by
      rw [Frame.finish_at, ho, ← put_T]
      rfl
    rw [hfin]
    exact h x v' w' q1 ⟨q3, q4, q5, ⟨q6.same, q6.back⟩, q7⟩
theorem hand_end (h : Runs Try.prog (DF X) S (G ((base f).at ⟨T, []⟩ k) cs) w) : Runs Try.prog (DF X) S (InR f ops k T [] cs) w :=
  Runs.of_step rfl fun d => ⟨_, _, _, stepG_region_end, ⟨Nat.le_refl _, fun e he => by simp at he⟩, runs_at h d⟩
/-- A call of Parts. -/
theorem hand_parts {a0 : Option Addr} {n cap J q Bm : Nat} {ps : List (List UInt8)} {sl : Nat → Option Addr × Nat} {xo : Operand} {ats : Array TypeId} {m : Machine} {t : Trace} {W : World} (ho : ops[i]? = some o) (hw : Region.wanted o (yielded ops T) = true) (hop : o.op = .call { callee := .value (.func 38), args := #[xo], argTypes := ats })
    (hs : (⟨T, []⟩ : Act).eval xo = .slice a0 n cap) (hq : TakeQ Bm q) (hXN : ∀ r, X r → r < W.heap.size) (hR : Veils.Rows X W) (ha : Args W W.heap.size X a0 n ps sl) (hB : ∀ j, j < n → (ps.getD j []).length ≤ Bm) (hBm : Bm ≤ 140737488355328) (hn : n < 2147483648)
    (h : Mach Try.prog X J (fun g w => g = InR f ops k T (i :: rest) cs ∧ w = W) m t) :
    Leads Try.prog m t (Mach Try.prog (fun r => X r ∨ r = W.heap.size + 2) (J + n) (fun g w => g = InR f ops k (putT T o.dst (.int .u32 (sumP ps : Nat))) rest cs ∧ Below W.heap.size W w ∧ Veils.Rows (fun r => X r ∨ r = W.heap.size + 2) w)) := by
  refine (h.runs (S' := P0 W W.heap.size n a0 cap ((base f).at ⟨T, []⟩ (.inRegion ops (i :: rest) :: k) :: cs)) fun g w hgw => ?_).bind fun m1 t1 h1 => ?_
  · obtain ⟨rfl, rfl⟩ := hgw
    have hv : (#[xo] : Array Operand).map (⟨T, []⟩ : Act).eval = #[.slice a0 n cap] := by simp [hs]
    refine Runs.of_step rfl fun d => ⟨_, w.at d, #[], ?_, ⟨Nat.le_refl _, fun e he => by simp at he⟩, .stop fun d' => ⟨rfl, below_at (Below.refl _ _) d', rfl⟩⟩
    unfold InR
    have hr := run_call_body (P := Try.prog) (a := (⟨T, []⟩ : Act)) (w := w.at d) hop Try.func38 (by rfl) (by rfl)
    rw [hv] at hr
    rw [stepG_enter ho hw (by simp [base]) hr]
    have : listed Try.prog (base f).fn (⟨T, []⟩ : Act) o (w.at d) = #[] := by unfold listed; rw [events_call_body hop Try.func38 (by rfl) (by rfl)]; exact seen_none _ _
    rw [this, enter_at _ Try.func38 (c := bodyOf Try.f38) (by rfl)]
    simp only [Try.ntmps38, List.size_toArray, List.length_cons, List.length_nil, Nat.reduceAdd, Nat.reduceSub, Array.replicate_succ, Array.replicate_zero, List.push_toArray, List.append_toArray, List.nil_append, List.cons_append]
  · refine (parts_runs hq hXN hR ha hB hBm hn h1).mono fun m2 t2 h2 => h2.mono fun g w ⟨e1, e2, e3⟩ => ⟨?_, e2, e3⟩
    rw [e1, ho, put_T]
    rfl
end
end Go.Proofs.Ytoipkpndfgcmcaa.Crew

/-
  A region whose order is drawn: whatever the order, each operation comes behind those it hangs on; all are done in the end. The conditions stand in each theorem. No program in sight.
-/
namespace Go.Proofs.Ytoipkpndfgcmcaa.Crew
open Go
set_option linter.unusedVariables false
/-- An order in which each operation comes behind those it hangs on. -/
inductive Ord (ops : Array Oper) : Array Bool → List Nat → Prop
  | nil {ls : Array Bool} : (∀ i, i < ops.size → ls.getD i false = true) → Ord ops ls []
  | cons {ls : Array Bool} {i : Nat} {l : List Nat} : i < ops.size → ls.getD i true = false → (∀ o, ops[i]? = some o → ∀ e ∈ o.after, Region.binds .any e = true → ls.getD e.on false = true) → Ord ops (ls.setIfInBounds i true) l → Ord ops ls (i :: l)
theorem ready_mem {ops : Array Oper} {ls : Array Bool} {i : Nat} : i ∈ (List.range ops.size).filter (fun i => !ls.getD i true && ((ops[i]?).map (·.after.all fun e => !Region.binds .any e || ls.getD e.on false)).getD false) ↔
    i < ops.size ∧ ls.getD i true = false ∧ ∃ o, ops[i]? = some o ∧ ∀ e ∈ o.after, Region.binds .any e = true → ls.getD e.on false = true := by
  rw [List.mem_filter, List.mem_range]
  refine and_congr_right fun hi => ?_
  rw [Bool.and_eq_true]
  refine and_congr (by simp) ?_
  cases ho : ops[i]? with
  | none => simp
  | some o =>
    simp only [Option.map_some, Option.getD_some, Array.all_eq_true_iff_forall_mem, Bool.or_eq_true, Bool.not_eq_true', Option.some.injEq, exists_eq_left']
    refine forall_congr' fun e => forall_congr' fun he => ?_
    cases Region.binds .any e <;> simp
theorem getD_flip {ls : Array Bool} {i : Nat} (h : i < ls.size) (hn : ¬ ls.getD i false = true) : ls.getD i true = false := by
  rw [Array.getD_eq_getD_getElem?, Array.getElem?_eq_getElem h] at hn ⊢
  simpa using hn
theorem cnt_set {ls : Array Bool} {i : Nat} (h : i < ls.size) (hf : ls.getD i true = false) : (ls.setIfInBounds i true).toList.count false + 1 = ls.toList.count false := by
  have hl : i < ls.toList.length := by simpa using h
  have hv : ls.toList[i] = false := by
    rw [Array.getD_eq_getD_getElem?, Array.getElem?_eq_getElem h] at hf
    simpa using hf
  have hpos : 0 < ls.toList.count false := List.count_pos_iff.2 (hv ▸ List.getElem_mem hl)
  rw [Array.toList_setIfInBounds, List.count_set hl, hv]
  have e1 : ((false : Bool) == false) = true := rfl
  have e2 : ((true : Bool) == false) = false := rfl
  simp only [e1, e2, if_true, if_false, Bool.false_eq_true]
  omega
theorem ord_go (ops : Array Oper) (hac : ∀ (i : Nat) (o : Oper), ops[i]? = some o → ∀ e : Edge, e ∈ o.after → e.on < i) : ∀ (fuel t : Nat) (ls : Array Bool) (acc : List Nat), ls.size = ops.size → ls.toList.count false ≤ fuel → ∃ l, Region.linearise.go .any ops fuel t ls acc = acc.reverse ++ l ∧ Ord ops ls l := by
  intro fuel
  induction fuel with
  | zero =>
    intro t ls acc hs hc
    refine ⟨[], by simp [Region.linearise.go], .nil fun i hi => ?_⟩
    have h0 : ls.toList.count false = 0 := by omega
    have hn : false ∉ ls.toList := List.count_eq_zero.1 h0
    rw [Array.getD_eq_getD_getElem?, Array.getElem?_eq_getElem (by omega)]
    cases hv : ls[i]'(by omega) with
    | true => rfl
    | false => exact absurd (hv ▸ Array.getElem_mem_toList (by omega)) hn
  | succ fuel ih =>
    intro t ls acc hs hc
    unfold Region.linearise.go
    dsimp only
    generalize hrs : ((List.range ops.size).filter fun i => !ls.getD i true && ((ops[i]?).map (·.after.all fun e => !Region.binds .any e || ls.getD e.on false)).getD false) = rs
    cases hm : rs[t % rs.length]? with
    | some i =>
      have hi := List.mem_of_getElem? hm
      rw [← hrs, ready_mem] at hi
      obtain ⟨h1, h2, o, h3, h4⟩ := hi
      obtain ⟨l, e1, e2⟩ := ih (t / rs.length) (ls.setIfInBounds i true) (i :: acc) (by simpa using hs) (by have := cnt_set (by omega) h2; omega)
      refine ⟨i :: l, by show Region.linearise.go .any ops fuel (t / rs.length) (ls.setIfInBounds i true) (i :: acc) = _; rw [e1]; simp, .cons h1 h2 (fun o' ho' => ?_) e2⟩
      rw [h3] at ho'
      cases ho'
      exact h4
    | none =>
      refine ⟨[], by simp, .nil fun i hi => Classical.byContradiction fun hn => ?_⟩
      have hnil : rs = [] := by
        cases rs with
        | nil => rfl
        | cons x xs =>
          have hlt : t % (x :: xs).length < (x :: xs).length := Nat.mod_lt _ (by simp)
          rw [List.getElem?_eq_getElem hlt] at hm
          cases hm
      -- the first one that is not listed
      have key : ∀ n i, i ≤ n → i < ops.size → ls.getD i false = true := by
        intro n
        induction n with
        | zero =>
          intro i hin hi
          refine Classical.byContradiction fun hn => ?_
          obtain rfl : i = 0 := by omega
          have : 0 ∈ rs := by
            rw [← hrs, ready_mem]
            refine ⟨hi, ?_, ops[0], by simp [hi], fun e he _ => ?_⟩
            · exact getD_flip (by omega) hn
            · have := hac 0 ops[0] (by simp [hi]) e he
              omega
          rw [hnil] at this
          cases this
        | succ n ihn =>
          intro i hin hi
          by_cases hle : i ≤ n
          · exact ihn i hle hi
          · refine Classical.byContradiction fun hn => ?_
            have : i ∈ rs := by
              rw [← hrs, ready_mem]
              refine ⟨hi, ?_, ops[i], by simp [hi], fun e he _ => ?_⟩
              · exact getD_flip (by omega) hn
              · have := hac i ops[i] (by simp [hi]) e he
                exact ihn e.on (by omega) (by omega)
            rw [hnil] at this
            cases this
      exact hn (key i i (Nat.le_refl _) hi)
theorem ord_schedule (ops : Array Oper) (hac : ∀ (i : Nat) (o : Oper), ops[i]? = some o → ∀ e : Edge, e ∈ o.after → e.on < i) (t : Nat) : Ord ops (Array.replicate ops.size false) (Region.schedule true ops t) := by
  simp only [Region.schedule, Bool.true_or, if_true]
  obtain ⟨l, h1, h2⟩ := ord_go ops hac ops.size t (Array.replicate ops.size false) [] (by simp) (by simp)
  have : Region.linearise .any ops t = l := by unfold Region.linearise; rw [h1]; rfl
  rw [this]
  exact h2
end Go.Proofs.Ytoipkpndfgcmcaa.Crew

/-
  A region walked by hand: a calm operation of which the value is known in every world; what single operations come to. The conditions stand in each theorem.
-/
namespace Go.Proofs.Ytoipkpndfgcmcaa.Crew
open Go Go.Conc Go.ConcN Go.RowKit Go.Conc.Lib Go.ConcR.Gen Go.ConcN.Gen Go.Proofs.Ytoipkpndfgcmcaa.Veils
set_option linter.unusedVariables false
section
variable {f : FuncId} {ops : Array Oper} {k : List Item} {T : Array Value} {i : Nat} {rest : List Nat} {cs : List Frame} {o : Oper} {x : Value} {X : Nat → Prop} {S : Goroutine → World → Prop} {w : World}
theorem hand_calm {xf : World → Value} {wf : World → World} (ho : ops[i]? = some o) (hw : Region.wanted o (yielded ops T) = true) (hc : opCalm Try.prog calmF D0 o = true) (hX : Veils.Rows X w) (hr : ∀ w, (execOp (⟨T, []⟩ : Act).eval o).run Try.prog w = .ok (.value (xf w)) (wf w))
    (h : ∀ d, Runs Try.prog (DF X) S (InR f ops k (putT T o.dst (xf (w.at d))) rest cs) (wf (w.at d))) : Runs Try.prog (DF X) S (InR f ops k T (i :: rest) cs) w := by
  have hK : Kin Try.prog X (execOp (⟨T, []⟩ : Act).eval o) := (calm_exec (B := w.heap.size) (F := calmF) hc (⟨T, []⟩ : Act).eval (fun f => rfl) (fun v => rfl) (fun k => trivial) (fun b hb => let ⟨c, e, h1, _⟩ := hX b hb; (Array.getElem?_eq_some_iff.1 h1).1) (fun r h => (fns.loop r).1 h)).kin
  refine Runs.of_step rfl fun d => ?_
  have hX' : Veils.Rows X (w.at d) := hX
  obtain ⟨w', e1, e2, e3, e4, e5, e6, e7⟩ := hK.sim (veilW X (w.at d)) (w.at d) _ _ (veilW_veil hX') (fun j q _ => rfl) (hr _)
  have hm := hK.mono _ (veilW_veil hX').novv
  rw [hr] at hm
  have hm2 := hm.2.2
  rw [e2.size] at hm2
  have hsz : (veilW X (w.at d)).heap.size = (w.at d).heap.size := veil_size X _
  rw [hsz] at hm2
  rw [hr] at e1
  injection e1 with q1 q2
  subst q2
  obtain ⟨evs, h1, h2⟩ := e7 #[]
  refine ⟨InR f ops k (putT T o.dst (xf (w.at d))) rest cs, wf (w.at d), seen Try.prog f ((execOp (⟨T, []⟩ : Act).eval o).events Try.prog (w.at d) #[]), ?_, ⟨hm2, fun e he => ?_⟩, h d⟩
  · have hfin : ((base f).at ⟨T, []⟩ (.inRegion ops (i :: rest) :: k)).finish (xf (w.at d)) = (base f).at ⟨putT T o.dst (xf (w.at d)), []⟩ (.inRegion ops rest :: k) := by
      rw [Frame.finish_at, ho, ← put_T]
      rfl
    unfold InR
    rw [stepG_oper ho hw, ← hfin]
    have hk : (base f).kind = .normal := rfl
    have hfn : (base f).fn = f := rfl
    simp [stepG.apply, hr, G, GStep.after, Frame.at, hk, hfn]
  · have := seen_sub _ _ e he
    rw [h1] at this
    exact h2 e (by simpa using this)
/-- A calm operation that leaves the world as it is. -/
theorem hand_pure (ho : ops[i]? = some o) (hw : Region.wanted o (yielded ops T) = true) (hc : opCalm Try.prog calmF D0 o = true) (hX : Veils.Rows X w) (hr : ∀ w, (execOp (⟨T, []⟩ : Act).eval o).run Try.prog w = .ok (.value x) w)
    (h : Runs Try.prog (DF X) S (InR f ops k (putT T o.dst x) rest cs) w) : Runs Try.prog (DF X) S (InR f ops k T (i :: rest) cs) w := hand_calm ho hw hc hX hr fun d => runs_at h d
/-! what single operations come to -/
theorem ev_tmp {s : Nat} {v : Value} (h : T[s]? = some v) : (⟨T, []⟩ : Act).eval (.tmp s) = v := by
  show T.getD s undef = v
  rw [Array.getD_eq_getD_getElem?, h]
  rfl
theorem wanted_guard {g d : Nat} {b : Bool} {og : Oper} (hg : o.guard = some (g, b)) (ho : ops[g]? = some og) (hd : og.dst = some d) (h : T[d]? = some (.bool b)) : Region.wanted o (yielded ops T) = true := by
  unfold Region.wanted yielded
  rw [hg]
  simp [ho, hd, h]
theorem wanted_none (hg : o.guard = none) : Region.wanted o (yielded ops T) = true := by
  unfold Region.wanted
  rw [hg]
theorem p_move {s : Nat} {v : Value} (hop : o.op = .move (.tmp s)) (h : T[s]? = some v) (w : World) : (execOp (⟨T, []⟩ : Act).eval o).run Try.prog w = .ok (.value v) w := by
  unfold execOp
  simp only [hop, ev_tmp h]
  rfl
theorem p_assign {s : Nat} {v : Value} (hop : o.op = .assign (.tmp s)) (h : T[s]? = some v) (w : World) : (execOp (⟨T, []⟩ : Act).eval o).run Try.prog w = .ok (.value v) w := by
  unfold execOp
  simp only [hop, ev_tmp h]
  rfl
theorem p_neq {a b t u : Nat} {kd : IntKind} {x y : Int} {z : Bool} (hop : o.op = .binOp .neq t (.tmp a) (.tmp b) u) (ha : T[a]? = some (.int kd x)) (hb : T[b]? = some (.int kd y)) (hz : (x != y) = z) (w : World) : (execOp (⟨T, []⟩ : Act).eval o).run Try.prog w = .ok (.value (.bool z)) w := by
  unfold execOp
  simp only [hop, ev_tmp ha, ev_tmp hb]
  subst hz
  simp [eqGuard, binOp_neq]
theorem p_neqc {a t u : Nat} {kd : IntKind} {x y : Int} {z : Bool} (hop : o.op = .binOp .neq t (.tmp a) (.const (.int kd y)) u) (ha : T[a]? = some (.int kd x)) (hz : (x != y) = z) (w : World) : (execOp (⟨T, []⟩ : Act).eval o).run Try.prog w = .ok (.value (.bool z)) w := by
  have hc : (⟨T, []⟩ : Act).eval (.const (.int kd y)) = .int kd y := rfl
  unfold execOp
  simp only [hop, ev_tmp ha, hc]
  subst hz
  simp [eqGuard, binOp_neq]
theorem p_eql {a b t u : Nat} {kd : IntKind} {x y : Int} {z : Bool} (hop : o.op = .binOp .eql t (.tmp a) (.tmp b) u) (ha : T[a]? = some (.int kd x)) (hb : T[b]? = some (.int kd y)) (hz : (x == y) = z) (w : World) : (execOp (⟨T, []⟩ : Act).eval o).run Try.prog w = .ok (.value (.bool z)) w := by
  unfold execOp
  simp only [hop, ev_tmp ha, ev_tmp hb]
  subst hz
  simp [eqGuard, binOp_eql]
theorem p_pick_or {a b : Nat} {v : Value} (hop : o.op = .pick (.tmp a) (.const (.bool true)) (.tmp b)) (ha : T[a]? = some (.bool false)) (hb : T[b]? = some v) (w : World) : (execOp (⟨T, []⟩ : Act).eval o).run Try.prog w = .ok (.value v) w := by
  unfold execOp
  simp only [hop, ev_tmp ha, ev_tmp hb]
  rfl
theorem p_pick_and {a b : Nat} {v : Value} (hop : o.op = .pick (.tmp a) (.tmp b) (.const (.bool false))) (ha : T[a]? = some (.bool true)) (hb : T[b]? = some v) (w : World) : (execOp (⟨T, []⟩ : Act).eval o).run Try.prog w = .ok (.value v) w := by
  unfold execOp
  simp only [hop, ev_tmp ha, ev_tmp hb]
  rfl
theorem run_sliceAt_bytes {x : Value} {lo hi mx : Option Value} (w : World) : (Instr.sliceAt 29 x lo hi mx).run Try.prog w = (Instr.slice 29 x lo hi mx).run Try.prog w := by
  unfold Instr.sliceAt
  rw [Sem.run_bind, run_underlying Try.underlying29]
  simp only [Result.andThen_ok]
theorem p_slice {a : Nat} {lo hi : Option Nat} {A : Option Addr} {n c : Nat} {v : Value} {vl vh : Option Value} (hop : o.op = .slice 29 (.tmp a) (lo.map Operand.tmp) (hi.map Operand.tmp) none) (ha : T[a]? = some (.slice A n c))
    (hl : (lo.map Operand.tmp).map (⟨T, []⟩ : Act).eval = vl) (hh : (hi.map Operand.tmp).map (⟨T, []⟩ : Act).eval = vh) (hr : ∀ w, (Instr.slice 29 (.slice A n c) vl vh none).run Try.prog w = .ok v w) (w : World) : (execOp (⟨T, []⟩ : Act).eval o).run Try.prog w = .ok (.value v) w := by
  unfold execOp
  simp only [hop, ev_tmp ha, hl, hh, Option.map_none]
  show (Instr.sliceAt _ _ _ _ _ >>= fun v => (Pure.pure (Next.value v) : Sem Next)).run _ _ = _
  rw [Sem.run_bind, run_sliceAt_bytes, hr]
  rfl
end
/-- What stands: the world below, the hidden blocks. -/
structure Wn (W : World) (X : Nat → Prop) (w : World) : Prop where
  below : Below W.heap.size W w
  rows : Veils.Rows X w
  at_ : ∀ r, X r → W.heap.size ≤ r ∧ r < w.heap.size
theorem Wn.at {W w : World} {X : Nat → Prop} (h : Wn W X w) (d : Nat) : Wn W X (w.at d) := ⟨below_at h.below d, h.rows, h.at_⟩
theorem Wn.go {W w w' : World} {X : Nat → Prop} (h : Wn W X w) (hb : Below w.heap.size w w') : Wn W X w' :=
  ⟨h.below.trans (hb.mono h.below.size), h.rows.keep fun b hx => hb.block b (h.at_ b hx).2, fun r hr => ⟨(h.at_ r hr).1, Nat.lt_of_lt_of_le (h.at_ r hr).2 hb.size⟩⟩
theorem reads_veil {w : World} {B n d : Nat} {t : Tape} {X : Nat → Prop} {A : Option Addr} {xs : List Value} (h : Reads w B 1 A n xs) (hX : ∀ r, X r → B ≤ r) : Reads { veilW X w with tape := t, drawn := d } B 1 A n xs :=
  ⟨h.1, fun hn => by
    obtain ⟨ad, e, hb, hc⟩ := h.2 hn
    exact ⟨ad, e, hb, fun j u hu => veil_cell (fun hx => by have := hX _ hx; rw [block_of_add] at this; omega) (hc j u hu)⟩⟩
/-! the drawn region -/
theorem drawn_leads {P : Program} {ops : Array Oper} {At : Array Bool → List Nat → Machine → Trace → Prop}
    (hstep : ∀ (ls : Array Bool) (i : Nat) (l : List Nat) (m : Machine) (t : Trace), i < ops.size → (∀ o, ops[i]? = some o → ∀ e ∈ o.after, Region.binds .any e = true → ls.getD e.on false = true) → At ls (i :: l) m t → Leads P m t (At (ls.setIfInBounds i true) l)) :
    ∀ {ls : Array Bool} {l : List Nat}, Ord ops ls l → ∀ {m : Machine} {t : Trace}, At ls l m t → Leads P m t fun m t => ∃ ls', (∀ i, i < ops.size → ls'.getD i false = true) ∧ At ls' [] m t := by
  intro ls l h
  induction h with
  | nil hall => exact fun ha => .here ⟨_, hall, ha⟩
  | cons hi _ haf _ ih => exact fun ha => (hstep _ _ _ _ _ hi haf ha).bind fun m' t' h' => ih h'
def depsOf (o : Oper) : List Nat := (o.after.toList.filter (Region.binds .any ·)).map (·.on)
theorem deps_done {o : Oper} {ls : Array Bool} (h : ∀ e ∈ o.after, Region.binds .any e = true → ls.getD e.on false = true) {d : Nat} (hd : d ∈ depsOf o) : ls.getD d false = true := by
  obtain ⟨e, he, rfl⟩ := List.mem_map.1 hd
  obtain ⟨h1, h2⟩ := List.mem_filter.1 he
  exact h e (Array.mem_toList_iff.1 h1) h2
/-- An array of slots spelt out. -/
theorem array_lit (T : Array Value) (n : Nat) (h : T.size = n) : ∃ g : Nat → Value, T = ((List.range n).map g).toArray ∧ ∀ j, j < n → T[j]? = some (g j) := by
  refine ⟨fun j => T.getD j undef, ?_, fun j hj => ?_⟩
  · apply Array.ext
    · simp [h]
    · intro i h1 h2
      simp [Array.getD, h1]
  · show T[j]? = some (T.getD j undef)
    rw [Array.getD_eq_getD_getElem?, Array.getElem?_eq_getElem (by omega)]
    rfl
theorem lit_at {T : Array Value} {n j : Nat} {g : Nat → Value} {v : Value} (hg : ∀ j, j < n → T[j]? = some (g j)) (hj : j < n) (h : T[j]? = some v) : g j = v := by
  rw [hg j hj] at h
  exact Option.some.inj h
end Go.Proofs.Ytoipkpndfgcmcaa.Crew

/-
  append onto a row of the call's own from whatever source, told exactly: in place, or into a new block while nothing old turns. No program in sight.
-/
namespace Go.Proofs.Ytoipkpndfgcmcaa
open Go.RowKit

theorem setCells_heap {g : Nat} {e : TypeId} {fr : Nat × Nat} : ∀ (vs : List Value) (o : Nat) (cur : Array Value) (w : World), w.heap[g]? = some (.cells cur e fr) → o + vs.length ≤ cur.size →
    ∃ cur' : Array Value, (w.setCells g o vs).heap[g]? = some (.cells cur' e fr) ∧ cur'.toList = cur.toList.take o ++ (vs ++ cur.toList.drop (o + vs.length))
  | [], o, cur, w, h, _ => ⟨cur, h, by simp⟩
  | v :: vs, o, cur, w, h, hl => by
    simp only [List.length_cons] at hl
    have h1 : (w.setCell ⟨g, o, none⟩ v).heap[g]? = some (.cells (cur.setIfInBounds o v) e fr) := by simp [World.setCell, Array.getElem?_modify, h]
    obtain ⟨cur', h2, h3⟩ := setCells_heap vs (o + 1) _ _ h1 (by simp; omega)
    refine ⟨cur', h2, h3.trans ?_⟩
    have ho : o < cur.toList.length := by rw [Array.length_toList]; omega
    rw [Array.toList_setIfInBounds, List.take_set, List.drop_set]
    rw [if_pos (by omega)]
    rw [List.take_add_one, List.getElem?_eq_getElem ho]
    have hlt : (cur.toList.take o).length = o := by rw [List.length_take]; omega
    rw [List.set_append_right _ _ (by omega), hlt, Nat.sub_self]
    simp [Nat.add_assoc, Nat.add_comm 1]
theorem setCells_frame (g : Nat) : ∀ (vs : List Value) (o : Nat) (w : World), (w.setCells g o vs).tape = w.tape ∧ (w.setCells g o vs).heap.size = w.heap.size
  | [], _, _ => ⟨rfl, rfl⟩
  | v :: vs, o, w => by
    have := setCells_frame g vs (o + 1) (w.setCell ⟨g, o, none⟩ v)
    exact ⟨this.1, this.2.trans (by simp [World.setCell])⟩
section
variable {P : Program}
theorem ownsRow_setCells {w : World} {base : Nat} {e : TypeId} {size n m g cap : Nat} {xs news : List Value} (h : w.ownsRow base e size (.slice (some ⟨g, 0, none⟩) n cap) n xs) (hl : news.length = m * size) (hroom : n + m ≤ cap) :
    (w.setCells g (n * size) news).ownsRow base e size (.slice (some ⟨g, 0, none⟩) (n + m) cap) (n + m) (xs ++ news) := by
  have hx := h.1
  rcases h.2 with ⟨h', _⟩ | ⟨g', cap', cur, h', hb, hh, hnc, hcm, hcs, ht⟩
  · cases h'
  · cases h'
    have hfit : n * size + news.length ≤ cur.size := by rw [hl, hcs, ← Nat.add_mul]; exact Nat.mul_le_mul_right _ hroom
    obtain ⟨cur', h1, h2⟩ := setCells_heap news (n * size) cur w hh hfit
    refine ⟨by rw [List.length_append, hx, hl, Nat.add_mul], .inr ⟨g, cap, cur', rfl, hb, h1, hroom, hcm, ?_, ?_⟩⟩
    · rw [← Array.length_toList, h2]
      simp only [List.length_append, List.length_take, List.length_drop, Array.length_toList]
      omega
    · rw [h2, ht, ← List.append_assoc, show (n + m) * size = (xs ++ news).length by rw [List.length_append, hx, hl, Nat.add_mul]]
      exact List.take_left
/-- How an append came about: in place, not at all, or into a new block. -/
def HowApp (w : World) (size n m : Nat) (news : List Value) (v v' : Value) (w' : World) : Prop :=
  (∃ g cap, v = .slice (some ⟨g, 0, none⟩) n cap ∧ n + m ≤ cap ∧ v' = .slice (some ⟨g, 0, none⟩) (n + m) cap ∧ w' = w.setCells g (n * size) news) ∨
  (v' = v ∧ m = 0 ∧ w' = w) ∨ (Below w.heap.size w w' ∧ v'.ownBlock = some w.heap.size)
theorem run_append_two (w : World) (base : Nat) (t tx ty e : TypeId) (i : TypeInfo) (z : Value) (size bytes : Nat) (ht : P.underlying t = some (.slice e)) (hi : P.info? e = some i) (hz : i.zero = some z)
    (hsize : i.size = size) (hby : i.bytes = bytes) (hzs : z.cells.size = size) (hsz : 0 < size)
    (v : Value) (n : Nat) (xs : List Value) (hown : w.ownsRow base e size v n xs) (x : Value) (m : Nat) (news : List Value) (hs : Src P size tx x m news w)
    (h63 : n + m ≤ maxLen) (hbytes : (n + m) * bytes ≤ 140737488355328) (hbase : base ≤ w.heap.size) :
    ∃ v' w', (Builtin.append_ #[t, tx] ty #[v, x]).run P w = .ok v' w' ∧ w'.ownsRow base e size v' (n + m) (xs ++ news) ∧ HowApp w size n m news v v' w' := by
  subst hsize
  subst hby
  have hl := hs.newsLen
  have hsmall : n + m ≤ 9223372036854775807 := by simp only [maxLen] at h63; omega
  have hlen : (xs ++ news).length = (n + m) * i.size := by rw [List.length_append, hown.1, hl, Nat.add_mul]
  have grown : ∀ (old : Nat), old < n + m →
      (w.drew.alloc (.cells ((xs ++ news).toArray ++ Builtin.zeroCells z.cells (grownCap w (n + m) old e - (n + m))) e)).ownsRow base e i.size
        (.slice (some ⟨w.heap.size, 0, none⟩) (n + m) (grownCap w (n + m) old e)) (n + m) (xs ++ news) ∧
      Below w.heap.size w (w.drew.alloc (.cells ((xs ++ news).toArray ++ Builtin.zeroCells z.cells (grownCap w (n + m) old e - (n + m))) e)) := by
    intro old ho
    have hge := grownCap_ge w (n + m) old e
    have hcm : grownCap w (n + m) old e ≤ maxLen := grownCap_le_maxLen w (n + m) old e h63
    refine ⟨⟨hlen, .inr ⟨w.heap.size, _, _, rfl, hbase, heap_alloc_new w.drew _, hge, hcm, ?_, ?_⟩⟩, ((Below.refl _ _).drew).alloc (Nat.le_refl _) _⟩
    · simp only [Array.size_append, List.size_toArray, size_zeroCells, hzs, hlen, ← Nat.add_mul]
      congr 1
      omega
    · simp only [Array.toList_append]
      rw [← hlen]
      exact List.take_left
  rcases hown.2 with ⟨rfl, rfl⟩ | ⟨g, cap, cur, rfl, hbg, hg, hnc, hcm, hcs, htake⟩
  · have hx : xs = [] := List.eq_nil_of_length_eq_zero (by simpa using hown.1)
    subst hx
    by_cases hm : m = 0
    · subst hm
      have hn : news = [] := List.eq_nil_of_length_eq_zero (by simpa using hl)
      subst hn
      refine ⟨.slice none 0 0, w, ?_, World.ownsRow_nil w base e i.size, .inr (.inl ⟨rfl, rfl, rfl⟩)⟩
      rcases hs.kind with ⟨e', hk⟩ | hk <;> simp [Builtin.append_, run_underlying ht, run_underlying hk, sizeOf, typeInfo, hi, hs.len, hs.cells]
    · have hr := run_append_grow_src (P := P) w t tx ty e i z ht hi hz none 0 0 [] (by simp [Builtin.firstCells]) x m news hs (by omega) (by omega) (growslice_fits (by omega) hbytes)
      have hgr := grown 0 (by omega)
      exact ⟨_, _, hr, hgr.1, .inr (.inr ⟨hgr.2, rfl⟩)⟩
  · by_cases hroom : n + m ≤ cap
    · have hfit : n * i.size + news.length ≤ cur.size := by rw [hl, hcs, ← Nat.add_mul]; exact Nat.mul_le_mul_right _ hroom
      have hr := run_append_room_src (P := P) w t tx ty e i ht hi g 0 n cap x m news hs hroom (fun j hj => by
        rw [Nat.zero_add, cell_of_row w g _ cur e (0, 0) hg, Array.getElem?_eq_getElem (by omega)]
        rfl) (fun j hj => by simp [World.frozen?, hg])
      rw [Nat.zero_add] at hr
      exact ⟨_, _, hr, ownsRow_setCells hown hl hroom, .inl ⟨g, cap, rfl, hroom, rfl, rfl⟩⟩
    · have holds : ∀ j u, xs[j]? = some u → w.cell? ((⟨g, 0, none⟩ : Addr).add j) = some u := hown.cells (g := g) rfl
      have hr := run_append_grow_src (P := P) w t tx ty e i z ht hi hz (some ⟨g, 0, none⟩) n cap xs (run_firstCells_some w.drew i.size n _ n cap xs hown.1 (by simpa using holds)) x m news hs (by omega) (by omega) (growslice_fits (by omega) hbytes)
      have hgr := grown cap (by omega)
      exact ⟨_, _, hr, hgr.1, .inr (.inr ⟨hgr.2, rfl⟩)⟩
theorem HowApp.grown {w w' : World} {size n m : Nat} {news : List Value} {v v' : Value} (h : HowApp w size n m news v v' w') : w.grownBy w' v.ownBlock ∧ (v'.ownBlock = v.ownBlock ∨ v'.ownBlock = some w.heap.size) := by
  rcases h with ⟨g, cap, rfl, _, rfl, rfl⟩ | ⟨rfl, _, rfl⟩ | ⟨hb, hv⟩
  · refine ⟨⟨World.os_setCells _ _ _ _, ?_, World.output_setCells _ _ _ _, ?_, fun i hi hne => World.heap_setCells_other _ _ _ _ hi (fun e => hne (by simp [Value.ownBlock, e]))⟩, .inl rfl⟩
    · exact (setCells_frame _ _ _ w).1
    · exact Nat.le_of_eq (setCells_frame _ _ _ w).2.symm
  · exact ⟨World.grownBy.refl _ _, .inl rfl⟩
  · exact ⟨only_of_below hb _, .inr hv⟩

theorem wpList_app_src (w : World) {ops : Array Oper} {rest : List Oper} {o : Oper} {a : Act} {Q : Exit → Act → World → Prop} (hgd : o.guard = none) (s x : Operand) (t tx : TypeId)
    (ho : o.op = .call { callee := .builtin .append, args := #[s, x], argTypes := #[t, tx] })
    {e : TypeId} {size bytes : Nat} (E : ElemOf P t e size bytes) (base : Nat)
    (v : Value) (n : Nat) (xs : List Value) (hs : a.eval s = v) (hown : w.ownsRow base e size v n xs)
    (xv : Value) (m : Nat) (news : List Value) (hx : a.eval x = xv) (hsrc : Src P size tx xv m news w)
    (hbytes : n + m ≤ maxLen ∧ (n + m) * bytes ≤ 140737488355328) (hbase : base ≤ w.heap.size)
    (h : ∀ v' w', w'.ownsRow base e size v' (n + m) (xs ++ news) → HowApp w size n m news v v' w' → wpList P ops Q rest (a.put o.dst v') w') : wpList P ops Q (o :: rest) a w := by
  obtain ⟨⟨i, z, h2, h3, h4, h5, h6, h7⟩, hp⟩ := E
  refine wpList_plain hgd fun _ hK => ?_
  obtain ⟨v', w', hrun, g2, g3⟩ := run_append_two (P := P) w base t tx o.type e i z size bytes h2 h3 h4 h5 h6 h7 hp v n xs hown xv m news hsrc hbytes.1 hbytes.2 hbase
  unfold Oper.wp execOp
  simp only [ho, resolve, invoke, builtin, Sem.run_bind, Sem.run_pure, Result.andThen_ok, List.map_toArray, List.map_cons, List.map_nil, hs, hx, hrun]
  exact hK _ _ (h v' w' g2 g3)
end
end Go.Proofs.Ytoipkpndfgcmcaa

/-
  Rows whose capacity is at most their block's (clipped slices too), and append onto them; slices that stay readable. No program in sight.
-/
namespace Go.Proofs.Ytoipkpndfgcmcaa
open Go.RowKit

/-- A slice at the head of a block that holds at least as many cells. -/
def Row (w : World) (e : TypeId) (v : Value) (n : Nat) (xs : List Value) : Prop :=
  xs.length = n ∧ ((v = .slice none 0 0 ∧ n = 0) ∨ ∃ g cap cur, v = .slice (some ⟨g, 0, none⟩) n cap ∧ w.heap[g]? = some (.cells cur e (0, 0)) ∧ n ≤ cap ∧ cap ≤ maxLen ∧ cap ≤ cur.size ∧ cur.toList.take n = xs)
section
variable {w w1 : World} {e : TypeId} {v : Value} {n : Nat} {xs : List Value}
theorem Row.of_own {base : Nat} (h : w.ownsRow base e 1 v n xs) : Row w e v n xs := by
  refine ⟨by have := h.1; omega, ?_⟩
  rcases h.2 with h' | ⟨g, cap, cur, rfl, hb, hg, hn, hm, hs, ht⟩
  · exact .inl h'
  · exact .inr ⟨g, cap, cur, rfl, hg, hn, hm, by omega, by rw [Nat.mul_one] at ht; exact ht⟩
theorem Row.clip {base c : Nat} {A : Option Addr} (h : w.ownsRow base e 1 (.slice A n c) n xs) : Row w e (.slice A n n) n xs := by
  refine ⟨by have := h.1; omega, ?_⟩
  rcases h.2 with ⟨h', h0⟩ | ⟨g, cap, cur, h', hb, hg, hn, hm, hs, ht⟩
  · cases h'; exact .inl ⟨rfl, rfl⟩
  · cases h'
    exact .inr ⟨g, n, cur, rfl, hg, Nat.le_refl _, by omega, by omega, by rw [Nat.mul_one] at ht; exact ht⟩
theorem Row.shape (h : Row w e v n xs) : ∃ A c, v = .slice A n c := by
  rcases h.2 with ⟨rfl, rfl⟩ | ⟨g, cap, cur, rfl, _⟩
  · exact ⟨_, _, rfl⟩
  · exact ⟨_, _, rfl⟩
theorem Row.lt (h : Row w e v n xs) {b : Nat} (hb : v.ownBlock = some b) : b < w.heap.size := by
  rcases h.2 with ⟨rfl, rfl⟩ | ⟨g, cap, cur, rfl, hg, _⟩
  · cases hb
  · cases hb
    exact (Array.getElem?_eq_some_iff.1 hg).1
theorem Row.chg {S : Nat → Prop} (h : Row w e v n xs) (hc : Chg w w1 S) (hS : ∀ b, v.ownBlock = some b → ¬ S b) : Row w1 e v n xs := by
  refine ⟨h.1, ?_⟩
  rcases h.2 with h' | ⟨g, cap, cur, rfl, hg, hr⟩
  · exact .inl h'
  · exact .inr ⟨g, cap, cur, rfl, (hc.block g (Array.getElem?_eq_some_iff.1 hg).1 (hS g rfl)).trans hg, hr⟩
theorem Row.below (h : Row w e v n xs) (hb : Below w.heap.size w w1) : Row w1 e v n xs := h.chg (Chg.of_below hb (fun _ => False)) (fun _ _ f => f)
theorem Row.ne_blk {g : Nat} {t : TypeId} {cs : Array Value} (h : Row w e v n xs) (hg : Blk w g t cs) (hne : e ≠ t) : v.ownBlock ≠ some g := by
  intro hb
  rcases h.2 with ⟨rfl, _⟩ | ⟨g', cap, cur, rfl, hg', _⟩
  · cases hb
  · cases hb
    unfold Blk at hg
    rw [hg] at hg'
    injection hg' with hg'
    injection hg' with _ h2
    exact hne h2.symm
theorem Row.blk (h : Row w e v n xs) {b : Nat} (hb : v.ownBlock = some b) : ∃ cs, Blk w b e cs := by
  rcases h.2 with ⟨rfl, _⟩ | ⟨g, cap, cur, rfl, hg, _⟩
  · cases hb
  · cases hb; exact ⟨cur, hg⟩
theorem Row.ne_row {e' : TypeId} {v' : Value} {n' : Nat} {xs' : List Value} (h : Row w e v n xs) (h' : Row w e' v' n' xs') (hne : e ≠ e') {b : Nat} (hb : v.ownBlock = some b) : v'.ownBlock ≠ some b := fun hb' => by
  obtain ⟨cs, hc⟩ := h'.blk hb'
  exact h.ne_blk hc hne hb
theorem Row.form (h : Row w e v n xs) (hn : 0 < n) : ∃ g cap, v = .slice (some ⟨g, 0, none⟩) n cap ∧ n ≤ cap ∧ cap ≤ maxLen := by
  rcases h.2 with ⟨_, h0⟩ | ⟨g, cap, cur, rfl, _, h1, h2, _⟩
  · omega
  · exact ⟨g, cap, rfl, h1, h2⟩
theorem Row.cellAt {g cap k : Nat} (h : Row w e (.slice (some ⟨g, 0, none⟩) n cap) n xs) (hk : k < n) : w.cell? ⟨g, k, none⟩ = xs[k]? := by
  rcases h.2 with ⟨h', _⟩ | ⟨g', cap', cur, h', hg, h1, h2, h3, ht⟩
  · cases h'
  · cases h'
    rw [cell_of_row w g k cur e (0, 0) hg, ← ht, List.getElem?_take, if_pos hk]
    simp
theorem Row.frozenAt {g cap : Nat} (h : Row w e (.slice (some ⟨g, 0, none⟩) n cap) n xs) (k : Nat) : w.frozen? ⟨g, k, none⟩ = false := by
  rcases h.2 with ⟨h', _⟩ | ⟨g', cap', cur, h', hg, _⟩
  · cases h'
  · cases h'
    simp [World.frozen?, hg]
theorem Row.store {g cap : Nat} (h : Row w e (.slice (some ⟨g, 0, none⟩) n cap) n xs) (j : Nat) (u : Value) : Row (w.setCell ⟨g, j, none⟩ u) e (.slice (some ⟨g, 0, none⟩) n cap) n (xs.set j u) := by
  rcases h.2 with ⟨h', _⟩ | ⟨g', cap', cur, h', hg, h1, h2, h3, ht⟩
  · cases h'
  · cases h'
    refine ⟨by rw [List.length_set]; exact h.1, .inr ⟨g, cap, cur.setIfInBounds j u, rfl, Blk.set_ hg j u, h1, h2, by simpa using h3, ?_⟩⟩
    rw [Array.toList_setIfInBounds, List.take_set, ht]
theorem Row.reads {A : Option Addr} {c : Nat} (h : Row w e (.slice A n c) n xs) : Reads w w.heap.size 1 A n xs := by
  refine ⟨by have := h.1; omega, fun hn => ?_⟩
  obtain ⟨g, cap, hv, _, _⟩ := h.form hn
  cases hv
  refine ⟨_, rfl, h.lt rfl, fun j u hu => ?_⟩
  have hadd : (⟨g, 0, none⟩ : Addr).add j = ⟨g, j, none⟩ := by unfold Addr.add; split <;> simp_all
  rw [hadd, h.cellAt (by have := (List.getElem?_eq_some_iff.1 hu).1; have := h.1; omega)]
  exact hu
end

/-- A slice that reads as these values. -/
def Sees (W : World) (e : TypeId) (v : Value) (xs : List Value) : Prop :=
  ∃ A c, v = .slice A xs.length c ∧ (0 < xs.length → ∃ b cs, A = some ⟨b, 0, none⟩ ∧ Blk W b e cs ∧ ∀ (j : Nat) (u : Value), xs[j]? = some u → cs[j]? = some u)
section
variable {W W' : World} {e : TypeId} {v l l' : Value} {xs : List Value}
theorem Sees.of_row {n : Nat} (h : Row W e v n xs) : Sees W e v xs := by
  obtain ⟨hn, h2⟩ := h
  subst hn
  rcases h2 with ⟨rfl, h0⟩ | ⟨g, cap, cur, rfl, hg, _, _, _, ht⟩
  · refine ⟨none, 0, by rw [h0], fun h => ?_⟩
    omega
  · refine ⟨_, cap, rfl, fun _ => ⟨g, cur, rfl, hg, fun j u hu => ?_⟩⟩
    rw [← ht, List.getElem?_take] at hu
    split at hu
    · simpa using hu
    · cases hu
theorem Sees.chg (h : Sees W e v xs) {S : Nat → Prop} (hc : Chg W W' S) (hS : ∀ b cs, v.ownBlock = some b → Blk W b e cs → ¬ S b) : Sees W' e v xs := by
  obtain ⟨A, c, rfl, h⟩ := h
  refine ⟨A, c, rfl, fun hl => ?_⟩
  obtain ⟨b, cs, rfl, hb, hx⟩ := h hl
  exact ⟨b, cs, rfl, hc.blk hb (hS b cs rfl hb), hx⟩
theorem Sees.below (h : Sees W e v xs) (hb : Below W.heap.size W W') : Sees W' e v xs := h.chg (Chg.of_below hb (fun _ => False)) (fun _ _ _ _ h => h)
theorem Sees.lt (h : Sees W e v xs) (hl : 0 < xs.length) {b : Nat} (hb : v.ownBlock = some b) : b < W.heap.size := by
  obtain ⟨A, c, rfl, h⟩ := h
  obtain ⟨b', cs, rfl, hb', _⟩ := h hl
  cases hb
  exact hb'.lt
theorem Sees.shape (h : Sees W e v xs) : ∃ A c, v = .slice A xs.length c := by
  obtain ⟨A, c, rfl, _⟩ := h
  exact ⟨A, c, rfl⟩
theorem Sees.cell (h : Sees W e v xs) {A : Option Addr} {n c j : Nat} (hv : v = .slice A n c) {u : Value} (hu : xs[j]? = some u) : ∃ b, A = some ⟨b, 0, none⟩ ∧ W.cell? ⟨b, j, none⟩ = some u := by
  obtain ⟨A', c', rfl, h⟩ := h
  obtain ⟨b, cs, rfl, hb, hx⟩ := h (by have := (List.getElem?_eq_some_iff.1 hu).1; omega)
  cases hv
  exact ⟨b, rfl, (hb.cell j).trans (hx j u hu)⟩
theorem Sees.app (h : Sees W e v xs) {N : Nat} {u : Value} (how : HowApp W 1 N 1 [u] l l' W') (hs : ∀ b, v.ownBlock = some b → l.ownBlock = some b → xs.length ≤ N) : Sees W' e v xs := by
  rcases how with ⟨g, cap, rfl, _, rfl, rfl⟩ | ⟨_, h0, _⟩ | ⟨hb, _⟩
  · obtain ⟨A, c, rfl, h⟩ := h
    refine ⟨A, c, rfl, fun hl => ?_⟩
    obtain ⟨b, cs, rfl, hb, hx⟩ := h hl
    by_cases e : b = g
    · subst e
      have hN := hs b rfl rfl
      refine ⟨b, cs.setIfInBounds (N * 1) u, rfl, hb.set_ _ _, fun j y hj => ?_⟩
      have hjl := (List.getElem?_eq_some_iff.1 hj).1
      rw [Array.getElem?_setIfInBounds_ne (by omega)]
      exact hx j y hj
    · exact ⟨b, cs, rfl, hb.far e u, hx⟩
  · omega
  · exact h.below hb
end

section
variable {P : Program}
theorem run_append_row (w : World) (t tx ty e : TypeId) (i : TypeInfo) (z : Value) (bytes : Nat) (ht : P.underlying t = some (.slice e)) (hi : P.info? e = some i) (hz : i.zero = some z)
    (hsize : i.size = 1) (hby : i.bytes = bytes) (hzs : z.cells.size = 1)
    (v : Value) (n : Nat) (xs : List Value) (h : Row w e v n xs) (x u : Value) (hs : Src P 1 tx x 1 [u] w)
    (h63 : n + 1 ≤ maxLen) (hbytes : (n + 1) * bytes ≤ 140737488355328) :
    ∃ v' w', (Builtin.append_ #[t, tx] ty #[v, x]).run P w = .ok v' w' ∧ Row w' e v' (n + 1) (xs ++ [u]) ∧ HowApp w 1 n 1 [u] v v' w' := by
  have hsmall : n + 1 ≤ 9223372036854775807 := by simp only [maxLen] at h63; omega
  subst hby
  have hs1 : Src P i.size tx x 1 [u] w := hsize.symm ▸ hs
  have hlen : (xs ++ [u]).length = n + 1 := by rw [List.length_append, h.1]; rfl
  have grown : ∀ (old : Nat), old < n + 1 →
      Row (w.drew.alloc (.cells ((xs ++ [u]).toArray ++ Builtin.zeroCells z.cells (grownCap w (n + 1) old e - (n + 1))) e)) e
        (.slice (some ⟨w.heap.size, 0, none⟩) (n + 1) (grownCap w (n + 1) old e)) (n + 1) (xs ++ [u]) ∧
      Below w.heap.size w (w.drew.alloc (.cells ((xs ++ [u]).toArray ++ Builtin.zeroCells z.cells (grownCap w (n + 1) old e - (n + 1))) e)) := by
    intro old ho
    have hge := grownCap_ge w (n + 1) old e
    have hcm : grownCap w (n + 1) old e ≤ maxLen := grownCap_le_maxLen w (n + 1) old e h63
    refine ⟨⟨hlen, .inr ⟨w.heap.size, _, _, rfl, heap_alloc_new w.drew _, hge, hcm, ?_, ?_⟩⟩, ((Below.refl _ _).drew).alloc (Nat.le_refl _) _⟩
    · simp only [Array.size_append, List.size_toArray, size_zeroCells, hzs, hlen, Nat.mul_one]
      omega
    · simp only [Array.toList_append]
      rw [← hlen]
      exact List.take_left
  rcases h.2 with ⟨rfl, rfl⟩ | ⟨g, cap, cur, rfl, hg, hnc, hcm, hcs, htake⟩
  · have hx : xs = [] := List.eq_nil_of_length_eq_zero h.1
    subst hx
    have hr := run_append_grow_src (P := P) w t tx ty e i z ht hi hz none 0 0 [] (by simp [Builtin.firstCells]) x 1 [u] hs1 (by omega) (by omega) (growslice_fits (by omega) hbytes)
    have hgr := grown 0 (by omega)
    exact ⟨_, _, hr, hgr.1, .inr (.inr ⟨hgr.2, rfl⟩)⟩
  · by_cases hroom : n + 1 ≤ cap
    · have hfit : n * i.size + [u].length ≤ cur.size := by rw [hsize]; simp; omega
      have hr := run_append_room_src (P := P) w t tx ty e i ht hi g 0 n cap x 1 [u] hs1 hroom (fun j hj => by
        rw [Nat.zero_add, cell_of_row w g _ cur e (0, 0) hg, Array.getElem?_eq_getElem (by omega)]
        rfl) (fun j hj => by simp [World.frozen?, hg])
      rw [Nat.zero_add, hsize] at hr
      refine ⟨_, _, hr, ?_, .inl ⟨g, cap, rfl, hroom, rfl, rfl⟩⟩
      obtain ⟨cur', h1, h2⟩ := setCells_heap [u] (n * 1) cur w hg (by simp; omega)
      refine ⟨hlen, .inr ⟨g, cap, cur', rfl, h1, hroom, hcm, ?_, ?_⟩⟩
      · rw [← Array.length_toList, h2]
        simp only [List.length_append, List.length_take, List.length_drop, Array.length_toList]
        simp
        omega
      · rw [h2, Nat.mul_one, htake, ← List.append_assoc, ← hlen]
        exact List.take_left
    · have holds : ∀ j u, xs[j]? = some u → w.cell? ((⟨g, 0, none⟩ : Addr).add j) = some u := fun j u hu => by
        have hadd : (⟨g, 0, none⟩ : Addr).add j = ⟨g, j, none⟩ := by unfold Addr.add; split <;> simp_all
        rw [hadd, h.cellAt (by have := (List.getElem?_eq_some_iff.1 hu).1; have := h.1; omega)]
        exact hu
      have hr := run_append_grow_src (P := P) w t tx ty e i z ht hi hz (some ⟨g, 0, none⟩) n cap xs (run_firstCells_some w.drew i.size n _ n cap xs (by rw [hsize]; have := h.1; omega) (by simpa using holds)) x 1 [u] hs1 (by omega) (by omega) (growslice_fits (by omega) hbytes)
      have hgr := grown cap (by omega)
      exact ⟨_, _, hr, hgr.1, .inr (.inr ⟨hgr.2, rfl⟩)⟩
theorem wpList_app_row (w : World) {ops : Array Oper} {rest : List Oper} {o : Oper} {a : Act} {Q : Exit → Act → World → Prop} (hgd : o.guard = none) (s x : Operand) (t tx : TypeId)
    (ho : o.op = .call { callee := .builtin .append, args := #[s, x], argTypes := #[t, tx] })
    {e : TypeId} {bytes : Nat} (E : ElemOf P t e 1 bytes)
    (v : Value) (n : Nat) (xs : List Value) (hs : a.eval s = v) (h0 : Row w e v n xs)
    (xv u : Value) (hx : a.eval x = xv) (hsrc : Src P 1 tx xv 1 [u] w)
    (hbytes : n + 1 ≤ maxLen ∧ (n + 1) * bytes ≤ 140737488355328)
    (h : ∀ v' w', Row w' e v' (n + 1) (xs ++ [u]) → HowApp w 1 n 1 [u] v v' w' → wpList P ops Q rest (a.put o.dst v') w') : wpList P ops Q (o :: rest) a w := by
  obtain ⟨⟨i, z, h2, h3, h4, h5, h6, h7⟩, hp⟩ := E
  refine wpList_plain hgd fun _ hK => ?_
  obtain ⟨v', w', hrun, g2, g3⟩ := run_append_row (P := P) w t tx o.type e i z bytes h2 h3 h4 h5 h6 h7 v n xs h0 xv u hsrc hbytes.1 hbytes.2
  unfold Oper.wp execOp
  simp only [ho, resolve, invoke, builtin, Sem.run_bind, Sem.run_pure, Result.andThen_ok, List.map_toArray, List.map_cons, List.map_nil, hs, hx, hrun]
  exact hK _ _ (h v' w' g2 g3)
end
end Go.Proofs.Ytoipkpndfgcmcaa

/-
  Many rows written full, each grown by some values and kept: what stands while that goes on. No program in sight.
-/
namespace Go.Proofs.Ytoipkpndfgcmcaa
open Go.RowKit

def updV {α : Type} (f : Nat → α) (k : Nat) (v : α) : Nat → α := fun i => if i = k then v else f i
theorem updV_same {α : Type} (f : Nat → α) (k : Nat) (v : α) : updV f k v k = v := if_pos rfl
theorem updV_ne {α : Type} (f : Nat → α) {k i : Nat} (v : α) (h : i ≠ k) : updV f k v i = f i := if_neg h
def fl (fv : Nat → Nat → Value) (n i : Nat) : List Value := (List.range n).map (fv i)
def ct (fv gv : Nat → Nat → Value) (n i k : Nat) : List Value := fl fv n i ++ (List.range k).map (gv i)
theorem fl_len (fv : Nat → Nat → Value) (n i : Nat) : (fl fv n i).length = n := by simp [fl]
theorem ct_len (fv gv : Nat → Nat → Value) (n i k : Nat) : (ct fv gv n i k).length = n + k := by simp [ct, fl]
theorem ct_zero (fv gv : Nat → Nat → Value) (n i : Nat) : ct fv gv n i 0 = fl fv n i := by simp [ct]
theorem ct_succ (fv gv : Nat → Nat → Value) (n i k : Nat) : ct fv gv n i (k + 1) = ct fv gv n i k ++ [gv i k] := by simp [ct, List.range_succ]
theorem fl_at {fv : Nat → Nat → Value} {n i j : Nat} (h : j < n) : (fl fv n i)[j]? = some (fv i j) := by rw [fl, List.getElem?_map, List.getElem?_range h]; rfl
theorem ct_front {fv gv : Nat → Nat → Value} {n i k j : Nat} (h : j < n) : (ct fv gv n i k)[j]? = some (fv i j) := by
  rw [ct, List.getElem?_append_left (by rw [fl_len]; exact h), fl_at h]
theorem ct_back {fv gv : Nat → Nat → Value} {n i k j : Nat} (h : j < k) : (ct fv gv n i k)[n + j]? = some (gv i j) := by
  rw [ct, List.getElem?_append_right (by rw [fl_len]; omega), fl_len, Nat.add_sub_cancel_left, List.getElem?_map, List.getElem?_range h]; rfl
theorem fl_set {fv : Nat → Nat → Value} {l : List Value} {k i : Nat} (hk : k < l.length) (h : l.take k = fl fv k i) : (l.set k (fv i k)).take (k + 1) = fl fv (k + 1) i := by
  rw [List.take_add_one, List.take_set, List.set_eq_of_length_le (by rw [List.length_take]; omega), h, List.getElem?_set_self hk]
  simp [fl, List.range_succ]

/-- Some rows, apart. -/
structure Rws (L : Nat) (e : TypeId) (W : World) (V : Nat → Value) (xs : Nat → List Value) : Prop where
  own : ∀ i, i < L → Row W e (V i) (xs i).length (xs i)
  apart : ∀ i j, i < L → j < L → i ≠ j → ∀ b, (V i).ownBlock = some b → (V j).ownBlock ≠ some b
def Ft (L : Nat) (V : Nat → Value) (b : Nat) : Prop := ∃ i, i < L ∧ (V i).ownBlock = some b
theorem Rws.store {L : Nat} {e : TypeId} {W : World} {V : Nat → Value} {xs : Nat → List Value} (h : Rws L e W V xs) {i : Nat} (hi : i < L) {b n cap : Nat} (hn : (xs i).length = n) (hV : V i = .slice (some ⟨b, 0, none⟩) n cap) (j : Nat) (u : Value) :
    Rws L e (W.setCell ⟨b, j, none⟩ u) V (updV xs i ((xs i).set j u)) := by
  have hc : Chg W (W.setCell ⟨b, j, none⟩ u) (fun i => i = b) := Chg.of_set W ⟨b, j, none⟩ u
  have hVb : (V i).ownBlock = some b := by rw [hV]; rfl
  refine ⟨fun i' hi' => ?_, h.apart⟩
  by_cases e' : i' = i
  · subst e'
    rw [updV_same, List.length_set]
    have h1 := h.own i' hi
    rw [hn, hV] at h1
    rw [hn, hV]
    exact h1.store j u
  · rw [updV_ne _ _ e']
    refine (h.own i' hi').chg hc (fun b' hb' e2 => ?_)
    subst e2
    exact h.apart i' i hi' hi e' _ hb' hVb

/-- What does not turn. -/
structure Cst (L Z X : Nat) (V : Nat → Value) (VS : Array Value) : Prop where
  apart : ∀ i j, i < L → j < L → i ≠ j → ∀ b, (V i).ownBlock = some b → (V j).ownBlock ≠ some b
  lt : ∀ i, i < L → ∀ b, (V i).ownBlock = some b → b < Z
  at_ : ∀ i, i < L → VS[i]? = some (V i)
  xz : X < Z
/-- Between two rows. -/
structure Gr0 (L K : Nat) (e TE : TypeId) (fv gv : Nat → Nat → Value) (Z X : Nat) (V : Nat → Value) (VS : Array Value) (n : Nat → Nat) (W0 W : World) (i : Nat) (t : Value) (G : Nat → Value) : Prop where
  old : ∀ i', i' < L → Sees W e (V i') (fl fv (n i') i')
  rest : ∀ i', i ≤ i' → i' < L → Row W e (V i') (n i') (fl fv (n i') i')
  trow : W.ownsRow Z TE 1 t i ((List.range i).map G)
  got : ∀ j, j < i → Sees W e (G j) (ct fv gv (n j) j K)
  gvv : ∀ j, j < i → ∀ i', i ≤ i' → i' < L → ∀ b, (G j).ownBlock = some b → (V i').ownBlock ≠ some b
  xb : Blk W X TE VS
  chg : Chg W0 W (Ft L V)
  zz : W0.heap.size = Z
/-- Within a row: k values more are laid. -/
structure Gr (L K : Nat) (e TE : TypeId) (fv gv : Nat → Nat → Value) (Z X : Nat) (V : Nat → Value) (VS : Array Value) (n : Nat → Nat) (W0 W : World) (i k : Nat) (t : Value) (G : Nat → Value) (l : Value) : Prop where
  old : ∀ i', i' < L → Sees W e (V i') (fl fv (n i') i')
  rest : ∀ i', i < i' → i' < L → Row W e (V i') (n i') (fl fv (n i') i')
  cur : Row W e l (n i + k) (ct fv gv (n i) i k)
  trow : W.ownsRow Z TE 1 t i ((List.range i).map G)
  got : ∀ j, j < i → Sees W e (G j) (ct fv gv (n j) j K)
  lv : ∀ i', i' < L → i' ≠ i → ∀ b, (V i').ownBlock = some b → l.ownBlock ≠ some b
  lg : ∀ j, j < i → ∀ b, (G j).ownBlock = some b → l.ownBlock ≠ some b
  lz : ∀ b, l.ownBlock = some b → (V i).ownBlock = some b ∨ Z ≤ b
  gvv : ∀ j, j < i → ∀ i', i < i' → i' < L → ∀ b, (G j).ownBlock = some b → (V i').ownBlock ≠ some b
  xb : Blk W X TE VS
  chg : Chg W0 W (Ft L V)
  zz : W0.heap.size = Z
section
variable {L K : Nat} {e TE : TypeId} {fv gv : Nat → Nat → Value} {Z X : Nat} {V : Nat → Value} {VS : Array Value} {n : Nat → Nat} {W0 W : World} {i k : Nat} {t l : Value} {G : Nat → Value}
theorem Gr0.enter (h : Gr0 L K e TE fv gv Z X V VS n W0 W i t G) (c : Cst L Z X V VS) (hi : i < L) : Gr L K e TE fv gv Z X V VS n W0 W i 0 t G (V i) :=
  ⟨h.old, fun i' h1 h2 => h.rest i' (by omega) h2, by rw [ct_zero]; exact h.rest i (Nat.le_refl _) hi, h.trow, h.got, fun i' h1 h2 b hb => c.apart i' i h1 hi h2 b hb,
    fun j hj b hb hv => h.gvv j hj i (Nat.le_refl _) hi b hb hv, fun b hb => .inl hb, fun j hj i' h1 h2 => h.gvv j hj i' (by omega) h2, h.xb, h.chg, h.zz⟩
/-- One value more. -/
theorem Gr.step (h : Gr L K e TE fv gv Z X V VS n W0 W i k t G l) (c : Cst L Z X V VS) (hi : i < L) (hK : 0 < K) (hne : e ≠ TE) {W2 : World} {l' : Value}
    (ho : Row W2 e l' (n i + k + 1) (ct fv gv (n i) i k ++ [gv i k]))
    (how : HowApp (W.alloc (.cells #[gv i k] e)) 1 (n i + k) 1 [gv i k] l l' W2) : Gr L K e TE fv gv Z X V VS n W0 W2 i (k + 1) t G l' := by
  obtain ⟨W1, hW1⟩ : ∃ W1, W.alloc (.cells #[gv i k] e) = W1 := ⟨_, rfl⟩
  have hb1 : Below W.heap.size W W1 := by rw [← hW1]; exact (Below.refl _ _).alloc (Nat.le_refl _) _
  have hz1 : W1.heap.size = W.heap.size + 1 := by rw [← hW1, World.size_alloc]
  rw [hW1] at how
  clear hW1
  obtain ⟨hg2, hr2⟩ := how.grown
  have hc1 := Chg.of_below hb1 (fun _ => False)
  have hc2 := Chg.of_grown hg2
  have hZ : Z ≤ W.heap.size := by have := h.chg.size; have := h.zz; omega
  have hl' : ∀ b, l'.ownBlock = some b → l.ownBlock = some b ∨ b = W1.heap.size := fun b hb => by
    rcases hr2 with e1 | e1
    · exact .inl (e1 ▸ hb)
    · rw [e1] at hb; cases hb; exact .inr rfl
  have keep : ∀ {v : Value} {xs : List Value}, Sees W e v xs → (∀ b, v.ownBlock = some b → l.ownBlock = some b → xs.length ≤ n i + k) → Sees W2 e v xs := fun hd hs => (hd.below hb1).app how hs
  have hlt : ∀ j, j < i → ∀ b, (G j).ownBlock = some b → b < W.heap.size := fun j hj b hb => (h.got j hj).lt (by rw [ct_len]; omega) hb
  refine ⟨fun i' h1 => keep (h.old i' h1) (fun b hb hlb => ?_), fun i' h1 h2 => ?_, ?_, ?_, fun j hj => keep (h.got j hj) (fun b hb hlb => absurd hlb (h.lg j hj b hb)), fun i' h1 h2 b hb hlb => ?_, fun j hj b hb hlb => ?_, fun b hb => ?_, h.gvv, ?_, ?_, h.zz⟩
  · rw [fl_len]
    by_cases e1 : i' = i
    · subst e1; omega
    · exact absurd hlb (h.lv i' h1 e1 b hb)
  · exact ((h.rest i' h1 h2).chg hc1 (fun _ _ f => f)).chg hc2 (fun b hb e1 => h.lv i' h2 (by omega) b hb e1)
  · rw [ct_succ]; exact ho
  · refine hc2.own (hc1.own h.trow (fun _ _ f => f)) (fun b hb e1 => ?_)
    obtain ⟨cs, hcs⟩ := h.cur.blk e1
    exact own_blk_ne h.trow hcs (fun e2 => hne e2.symm) hb
  · rcases hl' b hlb with e1 | e1
    · exact h.lv i' h1 h2 b hb e1
    · have := c.lt i' h1 b hb; omega
  · rcases hl' b hlb with e1 | e1
    · exact h.lg j hj b hb e1
    · have := hlt j hj b hb; omega
  · rcases hl' b hb with e1 | e1
    · exact h.lz b e1
    · right; omega
  · exact hc2.blk (hc1.blk h.xb (fun f => f)) (fun e1 => h.cur.ne_blk h.xb hne e1)
  · refine (h.chg.bel hb1).grown hg2 (fun b e1 hb => ?_)
    rcases h.lz b e1 with e2 | e2
    · exact ⟨i, hi, e2⟩
    · have := h.zz; omega
/-- The grown row kept. -/
theorem Gr.leave (h : Gr L K e TE fv gv Z X V VS n W0 W i K t G l) (c : Cst L Z X V VS) (hi : i < L) (hne : e ≠ TE) {W4 : World} {t' : Value}
    (hot : W4.ownsRow Z TE 1 t' (i + 1) ((List.range i).map G ++ [l]))
    (hgt : W.grownBy W4 t.ownBlock) : Gr0 L K e TE fv gv Z X V VS n W0 W4 (i + 1) t' (updV G i l) := by
  have hb1 : Below W.heap.size W W := Below.refl _ _
  have hc1 := Chg.of_below hb1 (fun _ => False)
  have hc4 := Chg.of_grown hgt
  have htne : ∀ b cs, Blk W b e cs → t.ownBlock ≠ some b := fun b cs hb => own_blk_ne h.trow hb (fun e2 => hne e2.symm)
  have keep : ∀ {v : Value} {xs : List Value}, Sees W e v xs → Sees W4 e v xs := fun hd => by
    exact (hd.below hb1).chg hc4 (fun b cs _ hb e1 => own_blk_ne (hc1.own h.trow (fun _ _ f => f)) hb (fun e2 => hne e2.symm) e1)
  have hrow : ∀ {v : Value} {m : Nat} {xs : List Value}, Row W e v m xs → Row W4 e v m xs := fun hr => by
    refine (hr.chg hc1 (fun _ _ f => f)).chg hc4 (fun b hb e1 => ?_)
    obtain ⟨cs, hcs⟩ := hr.blk hb
    exact htne b cs hcs e1
  refine ⟨fun i' h1 => keep (h.old i' h1), fun i' h1 h2 => hrow (h.rest i' (by omega) h2), ?_, fun j hj => ?_, fun j hj i' h1 h2 b hb => ?_, ?_, ?_, h.zz⟩
  · rw [List.range_succ, List.map_append, List.map_cons, List.map_nil, updV_same]
    rw [show ((List.range i).map (updV G i l)) = (List.range i).map G from List.map_congr_left (fun j hj => by rw [updV_ne _ _ (by have := List.mem_range.1 hj; omega)])]
    exact hot
  · by_cases e1 : j = i
    · subst e1
      rw [updV_same]
      exact Sees.of_row (hrow h.cur)
    · rw [updV_ne _ _ e1]
      exact keep (h.got j (by omega))
  · by_cases e1 : j = i
    · subst e1
      rw [updV_same] at hb
      exact fun hv => h.lv i' h2 (by omega) b hv hb
    · rw [updV_ne _ _ e1] at hb
      exact h.gvv j (by omega) i' (by omega) h2 b hb
  · refine hc4.blk (hc1.blk h.xb (fun f => f)) (fun e1 => ?_)
    have := (h.trow.lt X e1).1
    have := c.xz
    omega
  · refine (h.chg.bel hb1).grown hgt (fun b e1 hb => ?_)
    have := (h.trow.lt b e1).1
    have := h.zz
    omega
end
end Go.Proofs.Ytoipkpndfgcmcaa

/-
  The law's own helpers lent, same and kept: bytes lent with marks behind them, held against others, looked at again; the walks over the Go text. Condition: slices below 2^47 bytes.
-/
namespace Go.Proofs.Ytoipkpndfgcmcaa
open Go.RowKit

theorem elem_u8 : ElemOf Try.prog 29 5 1 1 := .mk' (.int .u8 0) Try.underlying29 (by kernel_rfl) rfl (by omega)
theorem bv_nat (r : Nat) (h : r < 256) : Value.int IntKind.u8 (r : Int) = bv (UInt8.ofNat r) := by
  have : (UInt8.ofNat r).toNat = r := by rw [UInt8.toNat_ofNat']; omega
  rw [bv, this]
def mk (k : Nat) : List UInt8 := (List.range k).map fun i => UInt8.ofNat (201 + i)
theorem mk_len (k : Nat) : (mk k).length = k := by simp [mk]
theorem mk_succ (k : Nat) : mk (k + 1) = mk k ++ [UInt8.ofNat (201 + k)] := by simp [mk, List.range_succ]
theorem lent_row {w : World} {B n k : Nat} {e : TypeId} {v : Value} {bs : List UInt8} (hk : k < 5) (h : w.ownsRow B e 1 v (n + k + 1) ((bs ++ mk k).map bv ++ [Value.int IntKind.u8 (201 + (k : Int))])) : w.ownsRow B e 1 v (n + (k + 1)) ((bs ++ mk (k + 1)).map bv) := by
  rw [show (201 : Int) + (k : Int) = ((201 + k : Nat) : Int) by omega, bv_nat _ (by omega)] at h
  rw [mk_succ]
  simpa [Nat.add_assoc] using h
theorem own_capm {w : World} {B n N g cap : Nat} {e : TypeId} {xs : List Value} (h : w.ownsRow B e 1 (.slice (some ⟨g, 0, none⟩) n cap) N xs) : cap ≤ 9223372036854775807 := by
  rcases h.2 with ⟨h', _⟩ | ⟨g', cap', cur, h', _, _, hn, hm, _⟩
  · cases h'
  · cases h'
    simp only [maxLen] at hm
    omega
theorem own_cap {w : World} {B n g cap : Nat} {e : TypeId} {xs : List Value} (h : w.ownsRow B e 1 (.slice (some ⟨g, 0, none⟩) n cap) n xs) : n ≤ cap := by
  rcases h.2 with ⟨h', _⟩ | ⟨g', cap', cur, h', _, _, hn, _⟩
  · cases h'
  · cases h'
    exact hn

set_option maxRecDepth 100000 in
set_option maxHeartbeats 400000 in
theorem lent_any (A : Option Addr) (n c : Nat) (bs : List UInt8) (w : World) (hr : Reads w w.heap.size 1 A n (bs.map bv)) (hn : n ≤ 140737488351232) :
    Calls Try.prog 16 #[.slice A n c] w fun e w' => ∃ g cap, e = .returned (.slice (some ⟨g, 0, none⟩) n cap) ∧ n + 5 ≤ cap ∧ w.heap.size ≤ g ∧
      w'.ownsRow w.heap.size 5 1 (.slice (some ⟨g, 0, none⟩) (n + 5 : Nat) cap) (n + 5) ((bs ++ mk 5).map bv) ∧ Below w.heap.size w w' := by
  have hlen : bs.length = n := by have := hr.1; simpa using this
  have HC : Hid (0 + n ≤ maxLen ∧ (0 + n) * 1 ≤ 140737488355328) := cap1 (by omega)
  go_enter Try.func16, Try.ntmps16
  go_wp2_with (first | (at_builtin; refine wpList_app _ rfl (.tmp 5) (.tmp 6) 29 rfl elem_u8 w.heap.size (.slice none 0 0) 0 [] rfl (World.ownsRow_nil _ _ _ _) w.heap.size A n c _ rfl hr (bv_one _) HC.out (Nat.le_refl _) ?_; intro v1 w1 hown1 hg1 hat1))
  have HB : Hid (Below w.heap.size w w1) := grownBy_below hg1 (Nat.le_refl _) (by simp [Value.ownBlock])
  clear hg1 hat1
  go_loopg [3, 4] 5 (fun g b t wr => ∃ k : Nat, k + g = 5 ∧ t = .int .i64 (k : Int) ∧ wr.ownsRow w.heap.size 5 1 b (n + k) ((bs ++ mk k).map bv) ∧ Below w.heap.size w wr)
  case atStart => exact ⟨0, rfl, rfl, by simpa [mk] using hown1, HB.out⟩
  case round =>
    obtain ⟨k, hk, rfl, ho, hb⟩ := hrel
    have hsz := hb.size
    by_cases hlt : k < 5
    · obtain ⟨g, rfl⟩ : ∃ g, gk = g + 1 := ⟨gk - 1, by omega⟩
      have HC2 : Hid (n + k + 1 ≤ maxLen ∧ (n + k + 1) * 1 ≤ 140737488355328) := cap1 (by omega)
      clear hn HC hown1
      go_wp2_with (first | (at_builtin; refine wpList_app1 _ rfl (.tmp 12) (.tmp 16) 29 rfl elem_u8 w.heap.size _ _ _ rfl ho _ _ (by simp) rfl rfl HC2.out (by omega) ?_; intro v2 w2 hown2 hg2 hat2))
      go_roundg g
      case rel => exact ⟨k + 1, by omega, by go_num, lent_row hlt hown2, hb.grown hg2 (by omega) (fun j hj => (ho.lt j hj).1)⟩
      case measure => omega
    · obtain rfl : k = 5 := by omega
      obtain ⟨g, cap, rfl, hg, _⟩ := ho.form (by omega)
      have hcap := own_cap ho
      go_wp2
      go_ret
      exact ⟨g, cap, rfl, hcap, hg, ho, hb⟩

theorem take_ext {xs ys : List UInt8} {k : Nat} {c d : UInt8} (h : xs.take k = ys.take k) (hx : xs[k]? = some c) (hy : ys[k]? = some d) : xs.take (k + 1) = ys.take (k + 1) ↔ c = d := by
  obtain ⟨h1, rfl⟩ := List.getElem?_eq_some_iff.1 hx
  obtain ⟨h2, rfl⟩ := List.getElem?_eq_some_iff.1 hy
  rw [List.take_succ_eq_append_getElem h1, List.take_succ_eq_append_getElem h2, h, List.append_cancel_left_eq]
  simp
set_option maxRecDepth 100000 in
set_option maxHeartbeats 400000 in
theorem same_any (A B : Option Addr) (n c m d : Nat) (xs ys : List UInt8) (w : World) (K : Nat) (hx : Reads w K 1 A n (xs.map bv)) (hy : Reads w K 1 B m (ys.map bv)) (hn : n ≤ 140737488355328) (hK : K ≤ w.heap.size) :
    Calls Try.prog 23 #[.slice A n c, .slice B m d] w fun e w' => e = .returned (.bool (xs == ys)) ∧ Below w.heap.size w w' := by
  have hlx : xs.length = n := by have := hx.1; simpa using this
  have hly : ys.length = m := by have := hy.1; simpa using this
  by_cases hnm : n = m
  · subst hnm
    have ht : ((n : Int) != (n : Int)) = false := by simp
    go_enter Try.func23, Try.ntmps23
    go_wp2
    go_loopg [5] n (fun q t wr => ∃ k : Nat, k + q = n ∧ t = .int .i64 (k : Int) ∧ Hid (xs.take k = ys.take k) ∧ Below w.heap.size w wr)
    case atStart => exact ⟨0, by omega, rfl, by show _ = _; simp, Below.refl _ _⟩
    case round =>
      obtain ⟨k, hk, rfl, HT, hb⟩ := hrel
      by_cases hlt : k < n
      · obtain ⟨q, rfl⟩ : ∃ q, gk = q + 1 := ⟨gk - 1, by omega⟩
        obtain ⟨b1, o1, u1, rfl, hl1, hx1, hc1, ha1⟩ := hx.at0 hlt
        obtain ⟨b2, o2, u2, rfl, hl2, hx2, hc2, ha2⟩ := hy.at0 hlt
        rw [List.getElem?_map] at hx1 hx2
        obtain ⟨c1, hx1', rfl⟩ := Option.map_eq_some_iff.1 hx1
        obtain ⟨c2, hx2', rfl⟩ := Option.map_eq_some_iff.1 hx2
        have hd1 : wr.cell? ⟨b1, o1 + k, none⟩ = some (.int .u8 (c1.toNat : Int)) := (hb.cell (p := ⟨b1, o1 + k, none⟩) (Nat.lt_of_lt_of_le hl1 hK)).trans hc1
        have hd2 : wr.cell? ⟨b2, o2 + k, none⟩ = some (.int .u8 (c2.toNat : Int)) := (hb.cell (p := ⟨b2, o2 + k, none⟩) (Nat.lt_of_lt_of_le hl2 hK)).trans hc2
        have HE := hide (take_ext HT.out hx1' hx2')
        have HB := hide hb
        have hk0 : (0 : Int) ≤ (k : Int) := by omega
        have hk1 : (k : Int) < (n : Int) := by omega
        by_cases hcc : c1 = c2
        · subst hcc
          have HN : Hid (xs.take (k + 1) = ys.take (k + 1)) := (unhide HE).2 rfl
          have hne : ((c1.toNat : Int) != (c1.toNat : Int)) = false := by simp
          clear hx hy hx1 hx2 hx1' hx2' ha1 ha2 hc1 hc2 hb HE hlx hly
          go_wp2
          go_quiet (fail)
          go_wp2
          go_roundg q
          case rel => exact ⟨k + 1, by omega, by go_num, HN, ⟨(unhide HB).os, (unhide HB).tape, (unhide HB).output, (unhide HB).size, (unhide HB).block⟩⟩
          case measure => omega
        · have HR : Hid ((xs == ys) = false) := by
            show _ = _
            simp only [beq_eq_false_iff_ne]
            rintro rfl
            rw [hx1'] at hx2'
            injection hx2' with e
            exact hcc e
          have hne : ((c1.toNat : Int) != (c2.toNat : Int)) = true := by
            simp only [bne_iff_ne, ne_eq, Int.natCast_inj]
            intro e
            exact hcc (UInt8.toNat_inj.1 e)
          clear hx hy hx1 hx2 hx1' hx2' ha1 ha2 hc1 hc2 hb HE hlx hly
          go_wp2
          go_quiet (fail)
          go_wp2
          go_ret
          exact ⟨by rw [HR.out]; rfl, ⟨(unhide HB).os, (unhide HB).tape, (unhide HB).output, (unhide HB).size, (unhide HB).block⟩⟩
      · have HR : Hid ((xs == ys) = true) := by
          show _ = _
          have := HT.out
          rw [List.take_of_length_le (by omega), List.take_of_length_le (by omega)] at this
          simpa using this
        have HB := hide hb
        clear hx hy hb
        go_wp2
        go_ret
        exact ⟨by rw [HR.out]; rfl, unhide HB⟩
  · have hne : ((n : Int) != (m : Int)) = true := by simp; omega
    have HR : Hid ((xs == ys) = false) := by
      show _ = _
      simp only [beq_eq_false_iff_ne]
      rintro rfl
      omega
    clear hx hy
    go_enter Try.func23, Try.ntmps23
    go_wp2
    go_ret
    exact ⟨by rw [HR.out]; rfl, Below.refl _ _⟩
theorem Reads.front {w : World} {B n k : Nat} {A : Option Addr} {xs ys : List UInt8} (h : Reads w B 1 A (n + k) ((xs ++ ys).map bv)) (hx : xs.length = n) : Reads w B 1 A n (xs.map bv) := by
  refine ⟨by simpa using hx, fun hn => ?_⟩
  obtain ⟨ad, e, hb, hc⟩ := h.2 (by omega)
  refine ⟨ad, e, hb, fun j u hu => hc j u ?_⟩
  rw [List.map_append, List.getElem?_append_left (List.getElem?_eq_some_iff.1 hu).1]
  exact hu
theorem mark_at {w : World} {B n g k : Nat} {xs : List UInt8} (h : Reads w B 1 (some ⟨g, 0, none⟩) (n + 5) ((xs ++ mk 5).map bv)) (hx : xs.length = n) (hk : k < 5) : w.cell? ⟨g, n + k, none⟩ = some (.int .u8 (201 + (k : Int))) := by
  obtain ⟨b, off, u, e, _, hu, hc, _⟩ := h.at0 (k := n + k) (by omega)
  injection e with e
  injection e with e1 e2
  subst e1 e2
  rw [Nat.zero_add] at hc
  rw [hc]
  rw [List.getElem?_map, List.getElem?_append_right (by omega), hx, Nat.add_sub_cancel_left] at hu
  simp only [mk, List.getElem?_map, List.getElem?_range hk, Option.map_some] at hu
  injection hu with hu
  rw [← hu, ← bv_nat _ (by omega)]
  congr 2
set_option maxRecDepth 100000 in
/-- kept: the bytes lent are as they were, the marks too. -/
theorem kept_any (A : Option Addr) (g n cap m d B : Nat) (xs ys : List UInt8) (w : World) (hx : xs.length = n) (hcap : n + 5 ≤ cap) (hr : Reads w B 1 (some ⟨g, 0, none⟩) (n + 5) ((xs ++ mk 5).map bv)) (hy : Reads w B 1 A m (ys.map bv)) (hn : n ≤ 140737488355328) (hB : B ≤ w.heap.size) :
    Calls Try.prog 20 #[.slice (some ⟨g, 0, none⟩) n cap, .slice A m d] w fun e w' => e = .returned (.bool (xs == ys)) ∧ Below w.heap.size w w' := by
  have hS := hide (same_any (some ⟨g, 0, none⟩) A n cap m d xs ys w B (hr.front hx) hy hn hB)
  by_cases hxy : xs = ys
  · subst hxy
    obtain rfl : n = m := by have := hy.1; simp at this; omega
    rw [show (xs == xs) = true by simp] at hS ⊢
    have HR := hide hr
    clear hr hy
    go_enter Try.func20, Try.ntmps20
    go_wp2_with (go_at_call 23; refine (unhide hS).mono ?_; rintro e w1 ⟨rfl, hb1⟩)
    have HB := hide hb1
    have HM := fun k => hide (mark_at (k := k) ((unhide HR).below (hb1.mono hB)) hx)
    clear hb1 hS HR
    go_loopg [6] 5 (fun q t wr => ∃ k : Nat, k + q = 5 ∧ t = .int .i64 (k : Int) ∧ w1 = wr)
    case atStart => exact ⟨0, rfl, rfl, rfl⟩
    case round =>
      obtain ⟨k, hk, rfl, rfl⟩ := hrel
      by_cases hlt : k < 5
      · obtain ⟨q, rfl⟩ : ∃ q, gk = q + 1 := ⟨gk - 1, by omega⟩
        have hc := unhide (HM k) hlt
        clear HM
        go_wp2
        go_roundg q
        case rel => exact ⟨k + 1, by omega, by go_num, rfl⟩
        case measure => omega
      · clear HM
        go_wp2
        go_ret
        exact ⟨rfl, unhide HB⟩
  · rw [show (xs == ys) = false by simpa using hxy] at hS ⊢
    clear hxy hr hy
    go_enter Try.func20, Try.ntmps20
    go_wp2_with (go_at_call 23; refine (unhide hS).mono ?_; rintro e w1 ⟨rfl, hb1⟩)
    go_ret
    exact ⟨rfl, hb1⟩
end Go.Proofs.Ytoipkpndfgcmcaa

/-
  CheckOwn in stages: what stands between two of them; a stage walked alone is a stage of the machine. The conditions stand in each theorem.
-/
namespace Go.Proofs.Ytoipkpndfgcmcaa.Crew
open Go Go.Conc Go.ConcN Go.RowKit Go.Conc.Lib Go.ConcR.Gen Go.ConcN.Gen Go.Proofs.Ytoipkpndfgcmcaa.Veils
set_option linter.unusedVariables false
set_option linter.unusedSectionVars false
set_option linter.unusedSimpArgs false
/-- Two worlds of the same cells. -/
structure Eqv (v w : World) : Prop where
  size : v.heap.size = w.heap.size
  cells : ∀ (b : Nat) (cs : Array Value) (e : TypeId) (fz : Nat × Nat), v.heap[b]? = some (Obj.cells cs e fz) ↔ w.heap[b]? = some (Obj.cells cs e fz)
  cell : ∀ (a : Addr) (u : Value), v.cell? a = some u ↔ w.cell? a = some u
section
variable {v w : World}
theorem Eqv.symm (h : Eqv v w) : Eqv w v := ⟨h.size.symm, fun b cs e fz => (h.cells b cs e fz).symm, fun a u => (h.cell a u).symm⟩
theorem Eqv.of_heap (hh : v.heap = (veilW (fun _ => False) w).heap) : Eqv v w := by
  refine ⟨by rw [hh, veil_size], fun b cs e fz => ?_, fun a u => ?_⟩
  · rw [hh, veilW_at]
    cases hw : w.heap[b]? with
    | none => simp
    | some o =>
      by_cases hp : Obj.plain o
      · simp [hp]
      · simp only [Option.map_some, if_false, if_neg hp]
        constructor
        · intro h
          exfalso
          cases o <;> first | exact hp trivial | simp [dimO] at h
        · intro h
          exfalso
          cases h
          exact hp trivial
  · have e : v.cell? a = (veilW (fun _ => False) w).cell? a := by
      unfold World.cell?
      rw [hh]
    rw [e]
    exact ⟨cell_veil, veil_cell id⟩
theorem Eqv.blk (h : Eqv v w) {g : Nat} {t : TypeId} {cs : Array Value} (k : Blk w g t cs) : Blk v g t cs := (h.cells _ _ _ _).2 k
theorem Eqv.own (h : Eqv v w) {B n : Nat} {e : TypeId} {x : Value} {xs : List Value} (k : w.ownsRow B e 1 x n xs) : v.ownsRow B e 1 x n xs := by
  refine ⟨k.1, ?_⟩
  rcases k.2 with k' | ⟨g, cap, cur, k1, k2, k3, kr⟩
  · exact .inl k'
  · exact .inr ⟨g, cap, cur, k1, k2, (h.cells _ _ _ _).2 k3, kr⟩
theorem Eqv.row (h : Eqv v w) {n : Nat} {e : TypeId} {x : Value} {xs : List Value} (k : Row w e x n xs) : Row v e x n xs := by
  refine ⟨k.1, ?_⟩
  rcases k.2 with k' | ⟨g, cap, cur, k1, k2, kr⟩
  · exact .inl k'
  · exact .inr ⟨g, cap, cur, k1, (h.cells _ _ _ _).2 k2, kr⟩
theorem Eqv.sees (h : Eqv v w) {e : TypeId} {x : Value} {xs : List Value} (k : Sees w e x xs) : Sees v e x xs := by
  obtain ⟨A, c, k1, k2⟩ := k
  exact ⟨A, c, k1, fun hl => let ⟨b, cs, q1, q2, q3⟩ := k2 hl; ⟨b, cs, q1, h.blk q2, q3⟩⟩
theorem Eqv.reads (h : Eqv v w) {B n : Nat} {A : Option Addr} {xs : List Value} (k : Reads w B 1 A n xs) : Reads v B 1 A n xs :=
  ⟨k.1, fun hn => let ⟨ad, q1, q2, q3⟩ := k.2 hn; ⟨ad, q1, q2, fun j u hu => (h.cell _ _).2 (q3 j u hu)⟩⟩
end
/-- The law's frame. -/
def fr11 (T : Array Value) (k : List Item) : Frame := (base 11).at ⟨T, []⟩ k
def SO (W : World) (B : Nat) (cc : Code) (R : Array Value → World → Prop) (g : Goroutine) (w : World) : Prop := ∃ T, g = G (fr11 T [.code cc]) [] ∧ R T w ∧ Below B W w
/-- A STAGE. -/
theorem stage {c0 rest cc : Code} {W : World} {B : Nat} {R R' : Array Value → World → Prop} (hcc : cc = graftf rest c0) (htl : tailed Try.prog calmF (slotK 11) c0 = true) (hB : B ≤ W.heap.size)
    (hin : ∀ T v w, Eqv v w → R T w → R T v) (hout : ∀ T v w, Eqv v w → R' T w → R' T v)
    (hwp : ∀ T v, R T v → B ≤ v.heap.size → c0.wp Try.prog (fun e a' w' => e = .normal ∧ a'.defers = [] ∧ R' a'.tmps w' ∧ Below B v w') ⟨T, []⟩ v)
    (g : Goroutine) (w : World) (h : SO W B cc R g w) : Runs Try.prog (DF fun _ => False) (SO W B rest R') g w := by
  obtain ⟨T, rfl, hR, hW⟩ := h
  subst hcc
  have hev : ∀ (tp : Tape), Eqv { veilW (fun _ => False) w with tape := tp, drawn := 0 } w := fun tp => Eqv.of_heap rfl
  refine graft_runs (F := calmF) (X := fun _ => False) fns (fr0 := fr11 T []) (Fin := fun fr v' => ∃ tp a', fr = (base 11).at a' [] ∧ a'.defers = [] ∧ R' a'.tmps v' ∧ Below B { veilW (fun _ => False) w with tape := tp, drawn := 0 } v') rest c0 [] []
    ⟨⟨_, Try.func11⟩, fun it hit => (by cases hit), fun d hd => (by cases hd), rfl, slots_free rfl⟩ rfl rfl htl (fun b hb => hb.elim) (fun tp => ?_) (fun w w' es _ _ hsz hes => ⟨hsz, hes⟩) ?_
  · obtain ⟨n', fr, v', h1, h2, h3, a', h4, h5⟩ := lone_of_front (b := base 11) (hwp T _ (hin T _ _ (hev tp) hR) (by rw [(hev tp).size]; exact Nat.le_trans hB (Nat.le_trans (hW.size) (Nat.le_refl _))))
    exact ⟨n', fr, v', h1, h2, h3, tp, a', h4, h5⟩
  · rintro fr v' w' ⟨tp, a', rfl, hd, hR', hb⟩ _ _ hh hos hout' hk ht
    refine ⟨a'.tmps, ?_, hout _ _ _ (Eqv.of_heap hh).symm hR', hW.trans (below_veil hk hh hos hout' ht hb)⟩
    obtain ⟨T', d'⟩ := a'
    have : d' = [] := hd
    subst this
    rfl
/-! what stands between two stages -/
def fB (i k : Nat) : Value := .int .u8 (((37 * i + k) % 256 : Nat) : Int)
def gB (i k : Nat) : Value := .int .u8 (((11 * i + k) % 256 : Nat) : Int)
structure BsT (A : Option Addr) (n c : Nat) (i0 : Int) (x0 y0 : Nat) (T : Array Value) : Prop where
  sz : T.size = 308
  t0 : T[0]? = some (.slice A n c)
  t1 : T[1]? = some (.int .i64 i0)
  t2 : T[2]? = some (.int .u32 (x0 : Int))
  t3 : T[3]? = some (.int .u8 (y0 : Int))
/-- The bytes lent. -/
structure Lnt (B n g cap : Nat) (zs : List UInt8) (T : Array Value) (w : World) : Prop where
  t9 : T[9]? = some (.slice (some ⟨g, 0, none⟩) n cap)
  len : zs.length = n
  cap_ : n + 5 ≤ cap
  ge : B ≤ g
  own : w.ownsRow B 5 1 (.slice (some ⟨g, 0, none⟩) (n + 5 : Nat) cap) (n + 5) ((zs ++ mk 5).map bv)
structure RowsA (B n m X cX g : Nat) (V : Nat → Value) (ln : Nat → Nat) (xs : Nat → List Value) (VS : Array Value) (T : Array Value) (w : World) : Prop where
  t10 : T[10]? = some (.slice (some ⟨X, 0, none⟩) m cX)
  m0 : 0 < m
  m4 : m ≤ 4
  ln4 : ∀ i, i < m → ln i ≤ n + 4
  xb : Blk w X 29 VS
  xB : B ≤ X
  vs : ∀ i, i < m → VS[i]? = some (V i)
  own : ∀ i, i < m → Row w 5 (V i) (ln i) (xs i)
  apart : ∀ i j, i < m → j < m → i ≠ j → ∀ b, (V i).ownBlock = some b → (V j).ownBlock ≠ some b
  at_ : ∀ i, i < m → ∀ b, (V i).ownBlock = some b → B ≤ b ∧ b ≠ g
structure RowsC (n m X cX Y cY : Nat) (V G : Nat → Value) (ln : Nat → Nat) (VS GS : Array Value) (T : Array Value) (w : World) : Prop where
  t10 : T[10]? = some (.slice (some ⟨X, 0, none⟩) m cX)
  t18 : T[18]? = some (.slice (some ⟨Y, 0, none⟩) m cY)
  m4 : m ≤ 4
  ln4 : ∀ i, i < m → ln i ≤ n + 4
  xb : Blk w X 29 VS
  yb : Blk w Y 29 GS
  vs : ∀ i, i < m → VS[i]? = some (V i)
  gs : ∀ i, i < m → GS[i]? = some (G i)
  old : ∀ i, i < m → Sees w 5 (V i) (fl fB (ln i) i)
  got : ∀ i, i < m → Sees w 5 (G i) (ct fB gB (ln i) i 40)
section
variable {B n g cap m X cX Y cY : Nat} {zs : List UInt8} {V G : Nat → Value} {ln : Nat → Nat} {xs : Nat → List Value} {VS GS : Array Value} {T : Array Value} {v w : World}
theorem Lnt.eqv (h : Lnt B n g cap zs T w) (e : Eqv v w) : Lnt B n g cap zs T v := ⟨h.t9, h.len, h.cap_, h.ge, e.own h.own⟩
theorem RowsA.eqv (h : RowsA B n m X cX g V ln xs VS T w) (e : Eqv v w) : RowsA B n m X cX g V ln xs VS T v :=
  ⟨h.t10, h.m0, h.m4, h.ln4, e.blk h.xb, h.xB, h.vs, fun i hi => e.row (h.own i hi), h.apart, h.at_⟩
theorem RowsC.eqv (h : RowsC n m X cX Y cY V G ln VS GS T w) (e : Eqv v w) : RowsC n m X cX Y cY V G ln VS GS T v :=
  ⟨h.t10, h.t18, h.m4, h.ln4, e.blk h.xb, e.blk h.yb, h.vs, h.gs, fun i hi => e.sees (h.old i hi), fun i hi => e.sees (h.got i hi)⟩
end
section
variable (B : Nat) (A : Option Addr) (n c : Nat) (i0 : Int) (x0 y0 : Nat) (bs : List UInt8) (T : Array Value) (w : World)
def R0 : Prop := BsT A n c i0 x0 y0 T ∧ Reads w B 1 A n (bs.map bv)
def RA : Prop := ∃ g cap m X cX V ln xs VS, BsT A n c i0 x0 y0 T ∧ Reads w B 1 A n (bs.map bv) ∧ Lnt B n g cap bs T w ∧ T[11]? = some (.int .u32 (upd 0 bs : Nat)) ∧ RowsA B n m X cX g V ln xs VS T w
def RB : Prop := ∃ g cap m X cX V ln VS, BsT A n c i0 x0 y0 T ∧ Reads w B 1 A n (bs.map bv) ∧ Lnt B n g cap bs T w ∧ T[11]? = some (.int .u32 (upd 0 bs : Nat)) ∧ RowsA B n m X cX g V ln (fun i => fl fB (ln i) i) VS T w
def RC : Prop := ∃ g cap m X cX Y cY V G ln VS GS, BsT A n c i0 x0 y0 T ∧ Reads w B 1 A n (bs.map bv) ∧ Lnt B n g cap bs T w ∧ T[11]? = some (.int .u32 (upd 0 bs : Nat)) ∧ RowsC n m X cX Y cY V G ln VS GS T w
def RD : Prop := ∃ g cap, BsT A n c i0 x0 y0 T ∧ Reads w B 1 A n (bs.map bv) ∧ Lnt B n g cap bs T w ∧ T[11]? = some (.int .u32 (upd 0 bs : Nat))
def RE : Prop := ∃ g cap zs g2 cap2, BsT A n c i0 x0 y0 T ∧ Reads w B 1 A n (bs.map bv) ∧ Lnt B n g cap zs T w ∧ T[11]? = some (.int .u32 (upd 0 bs : Nat)) ∧ T[33]? = some (.int .u32 (upd 0 zs : Nat)) ∧ T[27]? = some (.slice (some ⟨g2, 0, none⟩) n cap2) ∧ n ≤ cap2 ∧ B ≤ g2 ∧ g2 < w.heap.size ∧ Reads w w.heap.size 1 (some ⟨g2, 0, none⟩) n (zs.map bv)
end
section
variable {B : Nat} {A : Option Addr} {n c : Nat} {i0 : Int} {x0 y0 : Nat} {bs : List UInt8} (T : Array Value) (v w : World)
theorem R0.eqv (e : Eqv v w) (h : R0 B A n c i0 x0 y0 bs T w) : R0 B A n c i0 x0 y0 bs T v := ⟨h.1, e.reads h.2⟩
theorem RA.eqv (e : Eqv v w) (h : RA B A n c i0 x0 y0 bs T w) : RA B A n c i0 x0 y0 bs T v :=
  let ⟨g, cap, m, X, cX, V, ln, xs, VS, h1, h2, h3, h4, h5⟩ := h; ⟨g, cap, m, X, cX, V, ln, xs, VS, h1, e.reads h2, h3.eqv e, h4, h5.eqv e⟩
theorem RB.eqv (e : Eqv v w) (h : RB B A n c i0 x0 y0 bs T w) : RB B A n c i0 x0 y0 bs T v :=
  let ⟨g, cap, m, X, cX, V, ln, VS, h1, h2, h3, h4, h5⟩ := h; ⟨g, cap, m, X, cX, V, ln, VS, h1, e.reads h2, h3.eqv e, h4, h5.eqv e⟩
theorem RC.eqv (e : Eqv v w) (h : RC B A n c i0 x0 y0 bs T w) : RC B A n c i0 x0 y0 bs T v :=
  let ⟨g, cap, m, X, cX, Y, cY, V, G, ln, VS, GS, h1, h2, h3, h4, h5⟩ := h; ⟨g, cap, m, X, cX, Y, cY, V, G, ln, VS, GS, h1, e.reads h2, h3.eqv e, h4, h5.eqv e⟩
theorem RD.eqv (e : Eqv v w) (h : RD B A n c i0 x0 y0 bs T w) : RD B A n c i0 x0 y0 bs T v :=
  let ⟨g, cap, h1, h2, h3, h4⟩ := h; ⟨g, cap, h1, e.reads h2, h3.eqv e, h4⟩
theorem RE.eqv (e : Eqv v w) (h : RE B A n c i0 x0 y0 bs T w) : RE B A n c i0 x0 y0 bs T v :=
  let ⟨g, cap, zs, g2, cap2, h1, h2, h3, h4, h5, h6, h7, h8, h9, h10⟩ := h; ⟨g, cap, zs, g2, cap2, h1, e.reads h2, h3.eqv e, h4, h5, h6, h7, h8, by rw [e.size]; exact h9, by rw [e.size]; exact e.reads h10⟩
end
theorem own_vs {W : World} {B n : Nat} {e : TypeId} {v : Value} {xs : List Value} (h : W.ownsRow B e 1 v n xs) (hn : 0 < n) : ∃ X c VS, v = .slice (some ⟨X, 0, none⟩) n c ∧ B ≤ X ∧ Blk W X e VS ∧ ∀ (i : Nat) (u : Value), xs[i]? = some u → VS[i]? = some u := by
  rcases h.2 with ⟨_, h0⟩ | ⟨g, cap, cur, rfl, hb, hg, h1, h2, h3, ht⟩
  · omega
  · refine ⟨g, cap, cur, rfl, hb, hg, fun i u hu => ?_⟩
    rw [← ht, List.getElem?_take] at hu
    split at hu
    · simpa using hu
    · cases hu
theorem map_at {L : Nat} {V : Nat → Value} {i : Nat} (hi : i < L) : ((List.range L).map V)[i]? = some (V i) := by rw [List.getElem?_map, List.getElem?_range hi]; rfl
end Go.Proofs.Ytoipkpndfgcmcaa.Crew

namespace Go.Proofs.Ytoipkpndfgcmcaa
open Go.RowKit


/-- A number's four bytes, the lowest first. -/
def le4 (n : Nat) : List UInt8 := [UInt8.ofNat (n % 256), UInt8.ofNat (n / 256 % 256), UInt8.ofNat (n / 65536 % 256), UInt8.ofNat (n / 16777216 % 256)]
theorem le4_len (n : Nat) : (le4 n).length = 4 := rfl
def le4c (n : Nat) : Array Value := #[.int .u8 ((n % 256 : Nat) : Int), .int .u8 ((n / 256 % 256 : Nat) : Int), .int .u8 ((n / 65536 % 256 : Nat) : Int), .int .u8 ((n / 16777216 % 256 : Nat) : Int)]
theorem le4c_list (n : Nat) : (le4c n).toList = (le4 n).map bv := by
  simp only [le4c, le4, List.map_cons, List.map_nil]
  rw [← bv_nat _ (by omega), ← bv_nat _ (by omega), ← bv_nat _ (by omega), ← bv_nat _ (by omega)]

set_option maxRecDepth 100000 in
theorem bytes_any (n : Nat) (w : World) :
    Calls Try.prog 47 #[.int .u32 (n : Int)] w fun e w' => e = .returned (.agg (le4c n)) ∧ Below w.heap.size w w' := by
  go_enter Try.func47, Try.ntmps47
  go_wp2
  refine bodyPost_ret (v := .agg #[.int .u8 ((n : Int) % 256), .int .u8 ((n : Int) / 256 % 256), .int .u8 ((n : Int) / 65536 % 256), .int .u8 ((n : Int) / 16777216 % 256)]) (by simp [results, Try.results47, go_sem]) rfl ⟨?_, ?_⟩
  · unfold le4c
    rfl
  · exact (Below.refl _ _).alloc (Nat.le_refl _) _

theorem grow_nil (n : Nat) (w : World) (hn : n ≤ 140737488355328) :
    Calls Try.prog 58 #[.slice none 0 0, .int .i64 (n : Int)] w fun e w' => ∃ v, e = .returned v ∧ w'.ownsRow w.heap.size 5 1 v 0 [] ∧ Below w.heap.size w w' := by
  rcases Nat.eq_zero_or_pos n with h0 | h0
  · subst h0
    go_enter Try.func58, Try.ntmps58
    go_wp2
    go_ret
    exact ⟨_, rfl, World.ownsRow_nil _ _ _ _, Below.refl _ _⟩
  · obtain ⟨⟨i, z, e1, e2, e3, e4, e5, e6⟩, _⟩ := elem_u8
    have hr := hide (Lib.run_append_nil_zeros (P := Try.prog) w 29 3 29 5 i z .i64 .i64 e1 Try.underlying3 e2 e3 n h0 (by omega) (by omega) (by rw [e5]; omega))
    have hge := grownCap_ge w n 0 5
    have hcm := grownCap_le_maxLen w n 0 5 (by simp only [maxLen]; omega)
    have hsz : (Builtin.zeroCells z.cells n ++ Builtin.zeroCells z.cells (grownCap w n 0 5 - n)).size = grownCap w n 0 5 * 1 := by
      simp only [Array.size_append, size_zeroCells, e6]
      omega
    have HO := hide (World.ownsRow_made (base := w.heap.size) (e := 5) (size := 1) w.drew _ _ (Nat.le_refl _) hcm hsz)
    generalize grownCap w n 0 5 = c at hr hge HO
    generalize Builtin.zeroCells z.cells n ++ Builtin.zeroCells z.cells (c - n) = cur at hr HO
    have hnc : ¬ ((n : Int) < 0) := by omega
    clear hsz hcm e1 e2 e3 e4 e5 e6
    go_enter Try.func58, Try.ntmps58
    go_wp2_with (at_builtin; refine Lib.wpList_append_run w rfl (.tmp 20) (.tmp 21) 29 3 rfl _ _ rfl rfl _ _ (unhide hr) ?_)
    go_ret
    exact ⟨_, rfl, unhide HO, ((Below.refl _ _).drew).alloc (Nat.le_refl _) _⟩

/-- A slice that is one of several. -/
structure Part where
  A : Option Addr
  n : Nat
  c : Nat
  bs : List UInt8
def total (L : List Part) : Nat := (L.map (·.n)).sum
def joined (L : List Part) : List UInt8 := L.flatMap (·.bs)
theorem total_append (a b : List Part) : total (a ++ b) = total a + total b := by
  unfold total
  rw [List.map_append, List.sum_append]
theorem total_take (L : List Part) (k : Nat) : total (L.take k) ≤ total L := by
  have h := total_append (L.take k) (L.drop k)
  rw [List.take_append_drop] at h
  omega
theorem total_succ {L : List Part} {k : Nat} {p : Part} (h : L[k]? = some p) : total (L.take (k + 1)) = total (L.take k) + p.n := by
  obtain ⟨hl, rfl⟩ := List.getElem?_eq_some_iff.1 h
  rw [List.take_succ_eq_append_getElem hl, total_append]
  simp [total]
theorem joined_append (a b : List Part) : joined (a ++ b) = joined a ++ joined b := by
  unfold joined
  rw [List.flatMap_append]
theorem joined_succ {L : List Part} {k : Nat} {p : Part} (h : L[k]? = some p) : joined (L.take (k + 1)) = joined (L.take k) ++ p.bs := by
  obtain ⟨hl, rfl⟩ := List.getElem?_eq_some_iff.1 h
  rw [List.take_succ_eq_append_getElem hl, joined_append]
  simp [joined]
theorem four_next {n k : Nat} (hk : k < 4) : ((le4 n).take k).map bv ++ [Value.int IntKind.u8 ((n : Int) / 2 ^ (8 * k) % 256)] = ((le4 n).take (k + 1)).map bv := by
  have e : ∀ m : Nat, Value.int IntKind.u8 ((n : Int) / (m : Int) % 256) = bv (UInt8.ofNat (n / m % 256)) := fun m => by
    rw [← bv_nat _ (by omega)]
    congr 1
  match k, hk with
  | 0, _ => have := e 1; simpa [le4] using this
  | 1, _ => have := e 256; simpa [le4] using this
  | 2, _ => have := e 65536; simpa [le4] using this
  | 3, _ => have := e 16777216; simpa [le4] using this

set_option maxRecDepth 100000 in
set_option maxHeartbeats 600000 in
theorem concat_any (L : List Part) (gb B : Nat) (w : World) (hB : B ≤ w.heap.size) (hgb : gb < w.heap.size) (hL : L.length ≤ 1000) (ht : total L ≤ 140737488355328)
    (hc : ∀ (i : Nat) p, L[i]? = some p → w.cell? ⟨gb, i, none⟩ = some (.slice p.A p.n p.c) ∧ Reads w B 1 p.A p.n (p.bs.map bv)) :
    Calls Try.prog 49 #[.slice (some ⟨gb, 0, none⟩) L.length L.length] w fun e w' => ∃ v, e = .returned v ∧ w'.ownsRow w.heap.size 5 1 v (total L) ((joined L).map bv) ∧ Below w.heap.size w w' := by
  have HC := hide hc
  obtain ⟨m, hm⟩ : ∃ m, L.length = m := ⟨_, rfl⟩
  rw [hm] at hL ⊢
  clear hc
  go_enter Try.func49, Try.ntmps49
  go_wp2
  go_loopg [3, 11] m (fun q t i wr => ∃ k s : Nat, k + q = m ∧ i = .int .i64 (k : Int) ∧ t = .int .i64 (s : Int) ∧ Hid (s = total (L.take k)) ∧ w = wr)
  case atStart => exact ⟨0, 0, by omega, rfl, rfl, rfl, rfl⟩
  case round =>
    obtain ⟨k, s, hk, rfl, rfl, HS, rfl⟩ := hrel
    have hs1 : s ≤ 140737488355328 := by rw [HS.out]; exact Nat.le_trans (total_take L k) ht
    by_cases hlt : k < m
    · obtain ⟨q, rfl⟩ : ∃ q, gk = q + 1 := ⟨gk - 1, by omega⟩
      obtain ⟨p, hp⟩ : ∃ p, L[k]? = some p := ⟨_, List.getElem?_eq_getElem (by omega)⟩
      have hcl := ((unhide HC) k p hp).1
      have hN : s + p.n = total (L.take (k + 1)) := by rw [total_succ hp, HS.out]
      have hs2 : s + p.n ≤ 140737488355328 := by rw [hN]; exact Nat.le_trans (total_take L (k + 1)) ht
      have HN := Lib.hid hN
      obtain ⟨A, n, c, bs⟩ := p
      simp only at hcl hs2 HN
      clear hp hN ht hm
      go_wp2
      go_roundg q
      case rel => exact ⟨k + 1, s + n, by omega, by go_num, by go_num, HN.out, rfl⟩
      case measure => omega
    · obtain rfl : k = m := by omega
      have hst : s = total L := by rw [HS.out, List.take_of_length_le (by omega)]
      have HT := Lib.hid hst
      have hG := hide (grow_nil s w hs1)
      clear HS hst ht
      go_wp2_with (go_at_call 58; refine (unhide hG).mono ?_; rintro e w1 ⟨v1, rfl, ho1, hb1⟩)
      go_loopg [6, 27] k (fun q t i wr => ∃ j : Nat, j + q = k ∧ i = .int .i64 (j : Int) ∧ wr.ownsRow w.heap.size 5 1 t (total (L.take j)) ((joined (L.take j)).map bv) ∧ Below w.heap.size w wr)
      case atStart => exact ⟨0, by omega, rfl, ho1, hb1⟩
      case round =>
        obtain ⟨j, hj, rfl, ho, hb⟩ := hrel
        clear ho1 hb1 hG
        by_cases hlt : j < k
        · obtain ⟨q, rfl⟩ : ∃ q, gk = q + 1 := ⟨gk - 1, by omega⟩
          obtain ⟨p, hp⟩ : ∃ p, L[j]? = some p := ⟨_, List.getElem?_eq_getElem (by omega)⟩
          have hcl := (hb.cell (p := ⟨gb, j, none⟩) hgb).trans ((unhide HC) j p hp).1
          have HR := hide ((((unhide HC) j p hp).2.below (hb.mono hB)))
          have hbd : total (L.take j) + p.n ≤ 140737488355328 := by
            rw [← total_succ hp]
            have := total_take L (j + 1)
            rw [HT.out] at hs1
            omega
          have Hcap := hide (cap1 hbd)
          have HN1 := Lib.hid (total_succ hp)
          have HN2 := Lib.hid (joined_succ hp)
          have HB := hide hb
          have hz := hb.size
          obtain ⟨A, n, c, bs⟩ := p
          simp only at hcl HR Hcap HN1 HN2
          clear hp hb hbd
          go_wp2_with (at_builtin; refine wpList_app _ rfl (.tmp 31) (.tmp 32) 29 rfl elem_u8 w.heap.size _ _ _ rfl ho B A n c _ rfl (unhide HR) (bv_one _) (unhide Hcap) hz ?_; intro v2 w2 ho2 hg2 hat2)
          go_roundg q
          case rel => exact ⟨j + 1, by omega, by go_num, by rw [HN1.out, HN2.out, List.map_append]; exact ho2, (unhide HB).grown hg2 hz (fun i hi => (ho.lt i hi).1)⟩
          case measure => omega
        · obtain rfl : j = k := by omega
          rw [List.take_of_length_le (by omega)] at ho
          have HB := hide hb
          clear hb
          go_wp2
          go_ret
          exact ⟨_, rfl, ho, unhide HB⟩

set_option maxRecDepth 100000 in
theorem four_any (n : Nat) (w : World) :
    Calls Try.prog 44 #[.int .u32 (n : Int)] w fun e w' => ∃ v, e = .returned v ∧ w'.ownsRow w.heap.size 5 1 v 4 ((le4 n).map bv) ∧ Below w.heap.size w w' := by
  go_enter Try.func44, Try.ntmps44
  go_wp2
  go_loopg [3, 4] 4 (fun q b i wr => ∃ k : Nat, k + q = 4 ∧ i = .int .i64 (k : Int) ∧ wr.ownsRow w.heap.size 5 1 b k (((le4 n).take k).map bv) ∧ Below w.heap.size w wr)
  case atStart => exact ⟨0, rfl, rfl, World.ownsRow_nil _ _ _ _, Below.refl _ _⟩
  case round =>
    obtain ⟨k, hk, rfl, ho, hb⟩ := hrel
    have hz := hb.size
    by_cases hlt : k < 4
    · obtain ⟨q, rfl⟩ : ∃ q, gk = q + 1 := ⟨gk - 1, by omega⟩
      have Hcap := hide (cap1 (n := k + 1) (by omega))
      go_wp2_with (at_builtin; refine wpList_app1 _ rfl (.tmp 9) (.tmp 16) 29 rfl elem_u8 w.heap.size _ _ _ rfl ho _ _ (by simp) rfl rfl (unhide Hcap) hz ?_; intro v2 w2 ho2 hg2 hat2)
      go_roundg q
      case rel => exact ⟨k + 1, by omega, by go_num, by rw [← four_next hlt]; exact ho2, hb.grown hg2 hz (fun i hi => (ho.lt i hi).1)⟩
      case measure => omega
    · obtain rfl : k = 4 := by omega
      go_wp2
      go_ret
      exact ⟨_, rfl, ho, hb⟩
end Go.Proofs.Ytoipkpndfgcmcaa
