/-
  Join of the program's check sum and of the document's answer: zeros.of, through, Join for every length; the walks over the Go text. Numbers are uint32s.
-/
import Derived.Test.YtoipkpndfgcmcaaRows
import Derived.Test.YtoipkpndfgcmcaaWords
import Derived.Test.YtoipkpndfgcmcaaCrcMath
import Derived.Test.YtoipkpndfgcmcaaCrcRef
import Derived.Test.YtoipkpndfgcmcaaCrcTake
import Derived.Test.YtoipkpndfgcmcaaCrcJoin
import Derived.Test.YtoipkpndfgcmcaaQuiet
import Derived.Deep.RegionHeld3
import Derived.Deep.MidRow
namespace Go.Proofs.Ytoipkpndfgcmcaa
open Go.RowKit


/-- 32 numbers as cells. -/
def row32 (z : Nat → Nat) : Array Value := ((List.range 32).map fun i => Value.int .u32 (z i : Nat)).toArray
theorem row32_at {z : Nat → Nat} {i : Nat} (hi : i < 32) : (row32 z)[i]? = some (.int .u32 (z i : Nat)) := by
  simp [row32, List.getElem?_range hi]
theorem row32_size (z : Nat → Nat) : (row32 z).size = 32 := by simp [row32]
theorem row32_one (z : Nat → Nat) : (row32 z).all (·.oneCell') = true := by
  rw [Array.all_eq_true_iff_forall_mem]
  intro v hv
  simp only [row32, List.mem_toArray, List.mem_map] at hv
  obtain ⟨i, _, rfl⟩ := hv
  rfl
theorem row32_zero : row32 (fun _ => 0) = #[.int .u32 0, .int .u32 0, .int .u32 0, .int .u32 0, .int .u32 0, .int .u32 0, .int .u32 0, .int .u32 0, .int .u32 0, .int .u32 0, .int .u32 0, .int .u32 0, .int .u32 0, .int .u32 0, .int .u32 0, .int .u32 0, .int .u32 0, .int .u32 0, .int .u32 0, .int .u32 0, .int .u32 0, .int .u32 0, .int .u32 0, .int .u32 0, .int .u32 0, .int .u32 0, .int .u32 0, .int .u32 0, .int .u32 0, .int .u32 0, .int .u32 0, .int .u32 0] := by rfl
/-- The first k of z, 0 behind them. -/
def upto (z : Nat → Nat) (k : Nat) : Nat → Nat := fun i => if i < k then z i else 0
theorem row32_set {z : Nat → Nat} {k v : Nat} (hk : k < 32) (hv : v = z k) : (row32 (upto z k)).setIfInBounds k (.int .u32 (v : Int)) = row32 (upto z (k + 1)) := by
  subst hv
  apply Array.ext_getElem?
  intro i
  rw [Array.getElem?_setIfInBounds]
  by_cases hi : i < 32
  · by_cases he : k = i
    · subst he
      rw [if_pos rfl, if_pos (by rw [row32_size]; exact hk), row32_at hk]
      simp [upto]
    · rw [if_neg he, row32_at hi, row32_at hi]
      unfold upto
      have : i < k ↔ i < k + 1 := by omega
      simp only [this]
  · have h1 := row32_size (upto z k)
    have h2 := row32_size (upto z (k + 1))
    rw [if_neg (by omega), Array.getElem?_eq_none (by omega), Array.getElem?_eq_none (by omega)]
theorem row32_all (z : Nat → Nat) : row32 (upto z 32) = row32 z :=
  congrArg List.toArray (List.map_congr_left fun i hi => by simp [upto, List.mem_range.1 hi])

set_option maxRecDepth 100000 in
theorem of_any (g r : Nat) (z : Nat → Nat) (w : World) (hz : ∀ i, i < 32 → z i < U32) (hr : r < U32) (hk : Blk w g 86 (row32 z)) :
    Calls Try.prog 52 #[.pointer (some ⟨g, 0, none⟩), .int .u32 (r : Int)] w fun e w' => e = .returned (.int .u32 (thr z r 32 : Nat)) ∧ Below w.heap.size w w' := by
  go_enter Try.func52, Try.ntmps52
  go_wp2
  go_loopg [5, 9] 32 (fun q t i wr => ∃ k o : Nat, k + q = 32 ∧ i = .int .i64 (k : Int) ∧ t = .int .u32 (o : Int) ∧ Hid (o < U32 ∧ o = thr z r k) ∧ Below w.heap.size w wr)
  case atStart => exact ⟨0, 0, rfl, rfl, rfl, ⟨by decide, rfl⟩, Below.refl _ _⟩
  case round =>
    obtain ⟨k, o, hkq, rfl, rfl, HO, hb⟩ := hrel
    by_cases hlt : k < 32
    · obtain ⟨q, rfl⟩ : ∃ q, gk = q + 1 := ⟨gk - 1, by omega⟩
      have hc : wr.cell? ⟨g, k, none⟩ = some (.int .u32 (z k : Int)) := by rw [(hk.below hb hk.lt).cell, row32_at hlt]
      obtain ⟨x, hx⟩ : ∃ x, z k = x := ⟨_, rfl⟩
      rw [hx] at hc
      have HV := Lib.hid (of_val o x r k HO.out.1 (by rw [← hx]; exact hz k hlt) hr)
      have HN : Hid (o ^^^ (if (r / 2 ^ k) % 2 = 1 then x else 0) < U32 ∧ o ^^^ (if (r / 2 ^ k) % 2 = 1 then x else 0) = thr z r (k + 1)) := by
        have e : o ^^^ (if (r / 2 ^ k) % 2 = 1 then x else 0) = thr z r (k + 1) := by rw [HO.out.2, ← hx]; rfl
        exact ⟨by rw [e]; exact thr_lt hz r (k + 1) (by omega), e⟩
      have HB := hide hb
      have hk0 : (0 : Int) ≤ (k : Int) := by omega
      have hk1 : (k : Int) < 32 := by omega
      clear hb hz hk hx
      go_wp2
      go_quiet (fail)
      go_wp2
      go_roundg q
      case rel => exact ⟨k + 1, _, by omega, by go_num, by rw [HV.out], HN.out, below_drewN (unhide HB) _⟩
      case measure => omega
    · obtain rfl : k = 32 := by omega
      have HB := hide hb
      clear hb hz hk
      go_wp2
      go_ret
      exact ⟨by rw [← HO.out.2]; rfl, unhide HB⟩
set_option maxRecDepth 100000 in
theorem through_any (r : Nat) (z : Nat → Nat) (w : World) (hz : ∀ i, i < 32 → z i < U32) :
    Calls Try.prog 51 #[.agg (row32 z), .int .u32 (r : Int)] w fun e w' => e = .returned (.int .u32 (thr z r 32 : Nat)) ∧ Below w.heap.size w w' := by
  obtain ⟨R, hR⟩ : ∃ R, row32 z = R := ⟨_, rfl⟩
  have hR' := Lib.hid hR
  rw [hR]
  clear hR
  go_enter Try.func51, Try.ntmps51
  go_wp2
  go_loopg [5, 6] 32 (fun q t i wr => ∃ k o : Nat, k + q = 32 ∧ i = .int .i64 (k : Int) ∧ t = .int .u32 (o : Int) ∧ Hid (o < U32 ∧ o = thr z r k) ∧ w.alloc (.cells R 75) = wr)
  case atStart => exact ⟨0, 0, rfl, rfl, rfl, ⟨by decide, rfl⟩, rfl⟩
  case round =>
    obtain ⟨k, o, hkq, rfl, rfl, HO, rfl⟩ := hrel
    by_cases hlt : k < 32
    · obtain ⟨q, rfl⟩ : ∃ q, gk = q + 1 := ⟨gk - 1, by omega⟩
      have hc : (w.alloc (.cells R 75)).cell? ⟨w.heap.size, k, none⟩ = some (.int .u32 (z k : Int)) := by rw [(Blk.new w 75 R).cell, ← hR'.out, row32_at hlt]
      have hzk := hz k hlt
      have hN : thr z r (k + 1) < U32 := thr_lt hz r (k + 1) (by omega)
      have hT : thr z r (k + 1) = thr z r k ^^^ (if (r / 2 ^ k) % 2 = 1 then z k else 0) := rfl
      obtain ⟨x, hx⟩ : ∃ x, z k = x := ⟨_, rfl⟩
      rw [hx] at hc hzk hT
      by_cases hbit : (r / 2 ^ k) % 2 = 1
      · rw [if_pos hbit, ← HO.out.2] at hT
        have hv := xor_u32 o x HO.out.1 hzk
        rw [← hT] at hv
        obtain ⟨y, hy⟩ : ∃ y, thr z r (k + 1) = y := ⟨_, rfl⟩
        rw [hy] at hv hN
        have HN : Hid (y < U32 ∧ True) := ⟨hN, trivial⟩
        have HY := Lib.hid hy.symm
        clear hy
        have ht : (((r : Int) / 2 ^ k).tmod 2 == 1) = true := by
          rw [tmod_bit, hbit]
          rfl
        clear hz hx hT hN hbit
        go_wp2
        go_roundg q
        case rel => exact ⟨k + 1, y, by omega, by go_num, rfl, ⟨HN.out.1, HY.out⟩, rfl⟩
        case measure => omega
      · rw [if_neg hbit, Nat.xor_zero, ← HO.out.2] at hT
        have HN : Hid (o < U32 ∧ o = thr z r (k + 1)) := ⟨HO.out.1, hT.symm⟩
        have ht : (((r : Int) / 2 ^ k).tmod 2 == 1) = false := by
          rw [tmod_bit, show r / 2 ^ k % 2 = 0 by rcases Nat.mod_two_eq_zero_or_one (r / 2 ^ k) with h | h; exact h; exact absurd h hbit]
          rfl
        clear hz hx hT hN hbit
        go_wp2
        go_roundg q
        case rel => exact ⟨k + 1, o, by omega, by go_num, rfl, HN.out, rfl⟩
        case measure => omega
    · obtain rfl : k = 32 := by omega
      clear hz
      go_wp2
      go_ret
      exact ⟨by rw [← HO.out.2]; rfl, (Below.refl _ _).alloc (Nat.le_refl _) _⟩
set_option maxRecDepth 100000 in
theorem join_neg (a b : Nat) (n : Int) (w : World) (hn : n < 0) :
    Calls Try.prog 33 #[.int .u32 (a : Int), .int .u32 (b : Int), .int .i64 n] w fun e w' => e = .returned (.tuple #[.int .u32 0, .int .i64 2]) ∧ w = w' := by
  go_enter Try.func33, Try.ntmps33
  go_wp2
  go_ret2
  exact ⟨rfl, rfl⟩
theorem refJoin_neg (a b : Nat) (n : Int) (w : World) (hn : n < 0) :
    Calls Try.prog 32 #[.int .u32 (a : Int), .int .u32 (b : Int), .int .i64 n] w fun e w' => e = .returned (.tuple #[.int .u32 0, .int .i64 2]) ∧ w = w' := by
  go_enter Try.func32, Try.ntmps32
  go_wp2
  go_ret2
  exact ⟨rfl, rfl⟩
set_option maxRecDepth 100000 in
set_option maxHeartbeats 800000 in
theorem join_any (a b n : Nat) (w : World) (ha : a < U32) (hb : b < U32) (hn : n ≤ 9223372036854775807) :
    Calls Try.prog 33 #[.int .u32 (a : Int), .int .u32 (b : Int), .int .i64 (n : Int)] w fun e w' => e = .returned (.tuple #[.int .u32 (jn a b n : Nat), .int .i64 0]) ∧ Below w.heap.size w w' := by
  go_enter Try.func33, Try.ntmps33
  go_wp2
  have H0 := hide (show Blk (w.alloc (.cells (row32 (upto (fun i => zer 1 (2 ^ i)) 0)) 86)) w.heap.size 86 (row32 (upto (fun i => zer 1 (2 ^ i)) 0)) from Blk.new _ _ _)
  have e0 : row32 (upto (fun i => zer 1 (2 ^ i)) 0) = row32 (fun _ => 0) := rfl
  rw [e0, row32_zero] at H0
  go_loopg [14] 32 (fun q i wr => ∃ k : Nat, k + q = 32 ∧ i = .int .i64 (k : Int) ∧ Blk wr w.heap.size 86 (row32 (upto (fun i => zer 1 (2 ^ i)) k)) ∧ Below w.heap.size w wr)
  case atStart => exact ⟨0, rfl, rfl, by rw [e0, row32_zero]; exact unhide H0, (Below.refl _ _).alloc (Nat.le_refl _) _⟩
  case round =>
    obtain ⟨k, hk, rfl, hz, hbl⟩ := hrel
    clear H0 e0
    have hbz := hbl.size
    by_cases hlt : k < 32
    · obtain ⟨q, rfl⟩ : ∃ q, gk = q + 1 := ⟨gk - 1, by omega⟩
      obtain ⟨x, hx⟩ : ∃ x, 2 ^ k = x := ⟨_, rfl⟩
      have hxl : x < U32 := by rw [← hx]; exact pow_lt32 hlt
      have e2 : (2 : Int) ^ k % 4294967296 = (x : Int) := by
        unfold U32 at hxl
        rw [show (2 : Int) ^ k = ((2 ^ k : Nat) : Int) by simp, hx]
        omega
      have hT := hide (take_any x [0] (some ⟨wr.heap.size, 0, none⟩) 1 1 (wr.heap.size + 1) (wr.alloc (.cells #[.int .u8 0] 5)) hxl (reads_lit wr wr.heap.size rfl 5 #[.int .u8 0] 1 rfl ([0].map bv) rfl) (by omega) (by simp))
      have HN : Hid (crc x [0] = zer 1 (2 ^ k)) := by show _ = _; rw [crc_one, hx]
      obtain ⟨y, hy⟩ : ∃ y, crc x [0] = y := ⟨_, rfl⟩
      rw [hy] at hT HN
      have HZ := hide hz
      have HB := hide hbl
      clear hz hbl hy hx hxl
      go_wp2_with fail
      refine (unhide hT).mono ?_
      rintro e w1 ⟨rfl, hb1⟩
      have hb2 : Below wr.heap.size wr w1 := ((Below.refl _ _).alloc (Nat.le_refl _) _).trans (hb1.mono (by simp))
      have hz1 := (unhide HZ).below hb2 (unhide HZ).lt
      have c1 : w1.cell? ⟨w.heap.size, k, none⟩ = some (.int .u32 0) := by rw [hz1.cell, row32_at hlt]; simp [upto]
      have f1 : w1.frozen? ⟨w.heap.size, k, none⟩ = false := hz1.frozen k
      have HZ1 := hide hz1
      have HB1 := hide ((unhide HB).trans (hb2.mono hbz))
      clear hb1 hb2 hz1 HZ HB hT
      go_wp2
      go_roundg q
      case rel => exact ⟨k + 1, by omega, by go_num, by rw [← row32_set hlt HN.out]; exact (unhide HZ1).set_ k _, (unhide HB1).setCell (Nat.le_refl _) _⟩
      case measure => omega
    · obtain rfl : k = 32 := by omega
      rw [row32_all] at hz
      obtain ⟨wo, rfl⟩ : ∃ wo : World, wo = wr := ⟨_, rfl⟩
      have HZ := hide hz
      have HB := hide hbl
      clear hz hbl
      go_wp2
      go_loopg [0, 2] n (fun q ta tn wr => ∃ e lc ac : Nat, lc ≤ q ∧ lc ≤ 9223372036854775807 ∧ tn = .int .i64 (lc : Int) ∧ ta = .int .u32 (ac : Int) ∧ Hid (ac < U32 ∧ zer (e * lc) ac = zer n a) ∧ Blk wr w.heap.size 86 (row32 (fun i => zer e (2 ^ i))) ∧ Below w.heap.size w wr)
      case atStart => exact ⟨1, n, a, Nat.le_refl _, hn, rfl, rfl, ⟨ha, by rw [Nat.one_mul]⟩, unhide HZ, unhide HB⟩
      case round =>
        obtain ⟨e, lc, ac, hlq, hlc, rfl, rfl, HI, hz, hbl⟩ := hrel
        clear HZ HB
        by_cases h0 : 0 < lc
        · obtain ⟨q, rfl⟩ : ∃ q, gk = q + 1 := ⟨gk - 1, by omega⟩
          have hz32 : ∀ i, i < 32 → zer e (2 ^ i) < U32 := fun i hi => zer_lt (pow_lt32 hi) e
          have hand := i64_and_one lc hlc
          have hl2 : lc / 2 ≤ q := by omega
          rcases Nat.mod_two_eq_zero_or_one lc with hodd | hodd
          focus
            rw [hodd] at hand
            have HI1 : Hid (ac < U32 ∧ zer ((e + e) * (lc / 2)) ac = zer n a) := ⟨HI.out.1, by rw [join_even hodd]; exact HI.out.2⟩
            have HZ1 := hide hz
            have HB1 := hide hbl
            clear hz hbl HI
            obtain ⟨w1, rfl⟩ : ∃ w1 : World, w1 = wr := ⟨_, rfl⟩
            go_wp2
          rotate_left
          focus
            rw [hodd] at hand
            have hO := hide (of_any w.heap.size ac _ wr hz32 HI.out.1 hz)
            rw [thr_zer e ac HI.out.1] at hO
            have HI1' : Hid (zer e ac < U32 ∧ zer ((e + e) * (lc / 2)) (zer e ac) = zer n a) := ⟨zer_lt HI.out.1 e, by rw [join_odd hodd]; exact HI.out.2⟩
            generalize zer e ac = ac1 at hO HI1'
            have HZ := hide hz
            have HB := hide hbl
            clear hz hbl
            go_wp2_with (go_at_call 52
                         refine (unhide hO).mono ?_
                         rintro e1 w1 ⟨rfl, hb1⟩
                         have HZ1 := hide ((unhide HZ).below hb1 (unhide HZ).lt)
                         have HB1 := hide ((unhide HB).trans (hb1.mono (unhide HB).size))
                         clear hb1 HZ HB hO)
            obtain ⟨ac, rfl⟩ : ∃ ac : Nat, ac = ac1 := ⟨_, rfl⟩
            have HI1 := HI1'
          all_goals
            have hz1 := (unhide HB1).size
            have H0 := hide (show Blk (w1.alloc (.cells (row32 (upto (fun i => zer (e + e) (2 ^ i)) 0)) 86)) w1.heap.size 86 (row32 (upto (fun i => zer (e + e) (2 ^ i)) 0)) from Blk.new _ _ _)
            have e0 : row32 (upto (fun i => zer (e + e) (2 ^ i)) 0) = row32 (fun _ => 0) := rfl
            rw [e0, row32_zero] at H0
            go_loopg [33] 32 (fun q i wx => ∃ k : Nat, k + q = 32 ∧ i = .int .i64 (k : Int) ∧ Blk wx w1.heap.size 86 (row32 (upto (fun i => zer (e + e) (2 ^ i)) k)) ∧ Blk wx w.heap.size 86 (row32 (fun i => zer e (2 ^ i))) ∧ Below w.heap.size w wx)
            case atStart => exact ⟨0, rfl, rfl, by rw [e0, row32_zero]; exact unhide H0, (unhide HZ1).alloc _, (unhide HB1).alloc hz1 _⟩
            case round =>
              obtain ⟨k, hk, rfl, ht, hz, hbl⟩ := hrel
              clear H0 e0
              by_cases hlt : k < 32
              · obtain ⟨p, rfl⟩ : ∃ p, gk = p + 1 := ⟨gk - 1, by omega⟩
                have c0 : wr.cell? ⟨w.heap.size, k, none⟩ = some (.int .u32 (zer e (2 ^ k) : Nat)) := by rw [hz.cell, row32_at hlt]
                have hO := hide (of_any w.heap.size (zer e (2 ^ k)) _ wr hz32 (hz32 k hlt) hz)
                rw [thr_zer e (zer e (2 ^ k)) (hz32 k hlt), ← zer_add] at hO
                have HN : Hid (zer (e + e) (2 ^ k) = zer (e + e) (2 ^ k)) := rfl
                generalize zer e (2 ^ k) = x at c0 hO
                obtain ⟨y, hy⟩ : ∃ y, zer (e + e) (2 ^ k) = y := ⟨_, rfl⟩
                rw [hy] at hO
                have HY := Lib.hid hy
                have HT := hide ht
                have HZ := hide hz
                have HB := hide hbl
                clear ht hz hbl hy HN
                go_wp2_with (go_at_call 52
                             refine (unhide hO).mono ?_
                             rintro e2 w2 ⟨rfl, hb2⟩
                             have t2 := (unhide HT).below hb2 (unhide HT).lt
                             have c2 : w2.cell? ⟨w1.heap.size, k, none⟩ = some (.int .u32 0) := by rw [t2.cell, row32_at hlt]; simp [upto]
                             have f2 : w2.frozen? ⟨w1.heap.size, k, none⟩ = false := t2.frozen k
                             have HT2 := hide t2
                             have HZ2 := hide ((unhide HZ).below hb2 (unhide HZ).lt)
                             have HB2 := hide ((unhide HB).trans (hb2.mono (unhide HB).size))
                             clear hb2 t2 HT HZ HB hO)
                go_roundg p
                case rel => exact ⟨k + 1, by omega, by go_num, by rw [← row32_set hlt HY.out.symm]; exact (unhide HT2).set_ k _, (unhide HZ2).far (p := ⟨w1.heap.size, k, none⟩) (Nat.ne_of_lt (unhide HZ1).lt) _, (unhide HB2).setCell hz1 _⟩
                case measure => omega
              · obtain rfl : k = 32 := by omega
                rw [row32_all] at ht
                have HT := hide ht
                have HZ := hide hz
                have HB := hide hbl
                clear ht hz hbl
                go_wp2_with (first
                  | (refine wpList_load_row rfl 86 (.tmp 10) rfl w1.heap.size rfl 86 _ (0, 0) _ (unhide HT) Try.underlying86 rfl (by rw [row32_size]; kernel_rfl) ?_)
                  | (refine wpList_store_row rfl 86 (.tmp 8) (.tmp 43) rfl w.heap.size (row32 (fun i => zer (e + e) (2 ^ i))) rfl rfl 86 _ (unhide HZ) (by rw [row32_size]; kernel_rfl) (by rw [row32_size, row32_size]) (row32_one _) ?_))
                go_roundg q
                case rel => exact ⟨e + e, lc / 2, ac, hl2, by omega, by go_num, rfl, HI1.out, (unhide HZ).setRow_ _, (unhide HB).trans ((Chg.of_setRow wr w.heap.size _).below (B := w.heap.size) (unhide HB).size (by intro i hi e; omega))⟩
                case measure => omega
        · obtain rfl : lc = 0 := by omega
          have HV : Hid (ac < U32 ∧ ac = zer n a) := ⟨HI.out.1, by have := HI.out.2; rwa [Nat.mul_zero] at this⟩
          have hx := xor_u32 ac b HV.out.1 hb
          have HB := hide hbl
          clear hz hbl
          go_wp2
          go_ret2
          exact ⟨by unfold jn; rw [← HV.out.2]; rfl, unhide HB⟩

theorem range_blk {w : World} {g : Nat} {t : TypeId} {cs : Array Value} (h : Blk w g t cs) : w.rangeAt g 0 cs.toList := fun j v hv => by
  rw [Nat.zero_add, h.cell]
  simpa using hv

theorem range_far {w : World} {b o c k : Nat} {cs : List Value} (h : w.rangeAt b o cs) (hn : b ≠ c) (u : Value) : (w.setCell ⟨c, k, none⟩ u).rangeAt b o cs := fun j v hv => by
  rw [World.cell?_setCell_other w ⟨c, k, none⟩ ⟨b, o + j, none⟩ u (fun e => hn (by cases e; rfl))]
  exact h j v hv
theorem cell_far {w : World} {b o c k : Nat} {v : Value} (h : w.cell? ⟨b, o, none⟩ = some v) (hn : b ≠ c) (u : Value) : (w.setCell ⟨c, k, none⟩ u).cell? ⟨b, o, none⟩ = some v := by
  rw [World.cell?_setCell_other w ⟨c, k, none⟩ ⟨b, o, none⟩ u (fun e => hn (by cases e; rfl))]
  exact h
set_option maxRecDepth 100000 in
set_option maxHeartbeats 1600000 in
theorem refJoin_any (a b n : Nat) (w : World) (ha : a < U32) (hb : b < U32) (hn : n ≤ 9223372036854775807) :
    Calls Try.prog 32 #[.int .u32 (a : Int), .int .u32 (b : Int), .int .i64 (n : Int)] w fun e w' => e = .returned (.tuple #[.int .u32 (jn a b n : Nat), .int .i64 0]) ∧ Below w.heap.size w w' := by
  go_enter Try.func32, Try.ntmps32
  go_wp2
  have H0 := hide (show Blk (w.alloc (.cells (row32 (upto (fun i => zer 1 (2 ^ i)) 0)) 75)) w.heap.size 75 (row32 (upto (fun i => zer 1 (2 ^ i)) 0)) from Blk.new _ _ _)
  have e0 : row32 (upto (fun i => zer 1 (2 ^ i)) 0) = row32 (fun _ => 0) := rfl
  rw [e0, row32_zero] at H0
  go_loopg [9] 32 (fun q i wr => ∃ k : Nat, k + q = 32 ∧ i = .int .i64 (k : Int) ∧ Blk wr w.heap.size 75 (row32 (upto (fun i => zer 1 (2 ^ i)) k)) ∧ Below w.heap.size w wr)
  case atStart => exact ⟨0, rfl, rfl, by rw [e0, row32_zero]; exact unhide H0, (Below.refl _ _).alloc (Nat.le_refl _) _⟩
  case round =>
    obtain ⟨k, hk, rfl, hz, hbl⟩ := hrel
    clear H0 e0
    by_cases hlt : k < 32
    · obtain ⟨q, rfl⟩ : ∃ q, gk = q + 1 := ⟨gk - 1, by omega⟩
      obtain ⟨x, hx⟩ : ∃ x, 2 ^ k = x := ⟨_, rfl⟩
      have hxl : x < U32 := by rw [← hx]; exact pow_lt32 hlt
      have e2 : (2 : Int) ^ k % 4294967296 = (x : Int) := by
        unfold U32 at hxl
        rw [show (2 : Int) ^ k = ((2 ^ k : Nat) : Int) by simp, hx]
        omega
      have hT := hide (refTake_any x 0 wr hxl)
      have HN : Hid (tk x 0 = zer 1 (2 ^ k)) := by show _ = _; rw [← hx, tk_zero]
      obtain ⟨y, hy⟩ : ∃ y, tk x 0 = y := ⟨_, rfl⟩
      rw [hy] at hT HN
      have c1 : wr.cell? ⟨w.heap.size, k, none⟩ = some (.int .u32 0) := by rw [hz.cell, row32_at hlt]; simp [upto]
      have f1 : wr.frozen? ⟨w.heap.size, k, none⟩ = false := hz.frozen k
      have HZ := hide hz
      have HB := hide hbl
      clear hz hbl hy hx hxl
      go_wp2_with fail
      refine (unhide hT).mono ?_
      rintro e w1 ⟨rfl, rfl⟩
      go_wp2
      go_roundg q
      case rel => exact ⟨k + 1, by omega, by go_num, by rw [← row32_set hlt HN.out]; exact (unhide HZ).set_ k _, (unhide HB).setCell (Nat.le_refl _) _⟩
      case measure => omega
    · obtain rfl : k = 32 := by omega
      rw [row32_all] at hz
      obtain ⟨wo, rfl⟩ : ∃ wo : World, wo = wr := ⟨_, rfl⟩
      have HZ := hide hz
      have HB := hide hbl
      clear hz hbl
      go_wp2
      go_loopg [0, 2] n (fun q ta tn wr => ∃ e lc ac : Nat, lc ≤ q ∧ lc ≤ 9223372036854775807 ∧ tn = .int .i64 (lc : Int) ∧ ta = .int .u32 (ac : Int) ∧ Hid (ac < U32 ∧ zer (e * lc) ac = zer n a) ∧ Blk wr w.heap.size 75 (row32 (fun i => zer e (2 ^ i))) ∧ Below w.heap.size w wr)
      case atStart => exact ⟨1, n, a, Nat.le_refl _, hn, rfl, rfl, ⟨ha, by rw [Nat.one_mul]⟩, unhide HZ, unhide HB⟩
      case round =>
        obtain ⟨e, lc, ac, hlq, hlc, rfl, rfl, HI, hz, hbl⟩ := hrel
        clear HZ HB
        by_cases h0 : 0 < lc
        · obtain ⟨q, rfl⟩ : ∃ q, gk = q + 1 := ⟨gk - 1, by omega⟩
          have hz32 : ∀ i, i < 32 → zer e (2 ^ i) < U32 := fun i hi => zer_lt (pow_lt32 hi) e
          have hl2 : lc / 2 ≤ q := by omega
          rcases Nat.mod_two_eq_zero_or_one lc with hodd | hodd
          focus
            have ht : ((lc : Int) % 2 == 1) = false := by simp; omega
            have HI1 : Hid (ac < U32 ∧ zer ((e + e) * (lc / 2)) ac = zer n a) := ⟨HI.out.1, by rw [join_even hodd]; exact HI.out.2⟩
            have HZ1 := hide hz
            have HB1 := hide hbl
            clear hz hbl HI
            obtain ⟨w1, rfl⟩ : ∃ w1 : World, w1 = wr := ⟨_, rfl⟩
            go_wp2
          rotate_left
          focus
            have ht : ((lc : Int) % 2 == 1) = true := by simp; omega
            have hO := hide (through_any ac (fun i => zer e (2 ^ i)) wr hz32)
            rw [thr_zer e ac HI.out.1] at hO
            have HI1' : Hid (zer e ac < U32 ∧ zer ((e + e) * (lc / 2)) (zer e ac) = zer n a) := ⟨zer_lt HI.out.1 e, by rw [join_odd hodd]; exact HI.out.2⟩
            generalize zer e ac = ac1 at hO HI1'
            have HZ := hide hz
            have HB := hide hbl
            clear hz hbl
            go_wp2_with (first
              | (refine wpList_load_row rfl 75 (.tmp 8) rfl w.heap.size rfl 75 _ (0, 0) _ (unhide HZ) Try.underlying75 rfl (by rw [row32_size]; kernel_rfl) ?_)
              | (go_at_call 51
                 refine (unhide hO).mono ?_
                 rintro e1 w1 ⟨rfl, hb1⟩
                 have HZ1 := hide ((unhide HZ).below hb1 (unhide HZ).lt)
                 have HB1 := hide ((unhide HB).trans (hb1.mono (unhide HB).size))
                 clear hb1 HZ HB hO))
            obtain ⟨ac, rfl⟩ : ∃ ac : Nat, ac = ac1 := ⟨_, rfl⟩
            have HI1 := HI1'
          all_goals
            have hz1 := (unhide HB1).size
            have H0 := hide (show Blk (w1.alloc (.cells (row32 (upto (fun i => zer (e + e) (2 ^ i)) 0)) 75)) w1.heap.size 75 (row32 (upto (fun i => zer (e + e) (2 ^ i)) 0)) from Blk.new _ _ _)
            have e0 : row32 (upto (fun i => zer (e + e) (2 ^ i)) 0) = row32 (fun _ => 0) := rfl
            rw [e0, row32_zero] at H0
            go_loopg [11] 32 (fun q i wx => ∃ k : Nat, k + q = 32 ∧ i = .int .i64 (k : Int) ∧ Blk wx w1.heap.size 75 (row32 (upto (fun i => zer (e + e) (2 ^ i)) k)) ∧ Blk wx w.heap.size 75 (row32 (fun i => zer e (2 ^ i))) ∧ Below w.heap.size w wx)
            case atStart => exact ⟨0, rfl, rfl, by rw [e0, row32_zero]; exact unhide H0, (unhide HZ1).alloc _, (unhide HB1).alloc hz1 _⟩
            case round =>
              obtain ⟨k, hk, rfl, ht, hz, hbl⟩ := hrel
              clear H0 e0
              by_cases hlt : k < 32
              · obtain ⟨p, rfl⟩ : ∃ p, gk = p + 1 := ⟨gk - 1, by omega⟩
                have c0 : wr.cell? ⟨w.heap.size, k, none⟩ = some (.int .u32 (zer e (2 ^ k) : Nat)) := by rw [hz.cell, row32_at hlt]
                have hO := hide (through_any (zer e (2 ^ k)) (fun i => zer e (2 ^ i)) wr.drew hz32)
                rw [thr_zer e (zer e (2 ^ k)) (hz32 k hlt), ← zer_add] at hO
                generalize zer e (2 ^ k) = x at c0 hO
                obtain ⟨y, hy⟩ : ∃ y, zer (e + e) (2 ^ k) = y := ⟨_, rfl⟩
                rw [hy] at hO
                have HY := Lib.hid hy
                have c1 : wr.cell? ⟨w1.heap.size, k, none⟩ = some (.int .u32 0) := by rw [ht.cell, row32_at hlt]; simp [upto]
                have f1 : wr.frozen? ⟨w1.heap.size, k, none⟩ = false := ht.frozen k
                have HT := hide ht
                have HZ := hide hz
                have HB := hide hbl
                have hk0 : (0 : Int) ≤ (k : Int) := by omega
                have hk1 : (k : Int) < 32 := by omega
                have HN := Nat.ne_of_lt (unhide HZ1).lt
                obtain ⟨zl, hzl⟩ : ∃ zl, (row32 (fun i => zer e (2 ^ i))).toList = zl := ⟨_, rfl⟩
                have hra : wr.rangeAt w.heap.size 0 zl := by rw [← hzl]; exact range_blk hz
                have hza : zl.toArray = row32 (fun i => zer e (2 ^ i)) := by rw [← hzl]
                have hu := Try.underlying75
                have hsz : (Try.prog.info? 75).map (·.size) = some zl.length := by rw [← hzl, Array.length_toList, row32_size]; kernel_rfl
                rw [← hza] at hO
                have HZA := Lib.hid hza
                have HZL := Lib.hid hzl
                clear hza hzl
                clear ht hz hbl hy hz32
                go_wp2
                go_region_held3 (fun w' => w'.rangeAt w.heap.size 0 zl ∧ w'.cell? ⟨w.heap.size, k, none⟩ = some (.int .u32 (x : Int))) (first | go_keep | exact ⟨range_far d3 HN _, cell_far d0 HN _⟩) ((first
                  | (go_at_call 51
                     refine (unhide hO).mono ?_
                     rintro e2 w2 ⟨rfl, hb2⟩
                     have t2 := (unhide HT).drew.below hb2 (unhide HT).lt
                     have z2 := (unhide HZ).drew.below hb2 (unhide HZ).lt
                     have d0 : w2.cell? ⟨w.heap.size, k, none⟩ = some (.int .u32 (x : Int)) := (hb2.cell (p := ⟨w.heap.size, k, none⟩) (unhide HZ).lt).trans c0
                     have d1 : w2.cell? ⟨w1.heap.size, k, none⟩ = some (.int .u32 0) := (hb2.cell (p := ⟨w1.heap.size, k, none⟩) (unhide HT).lt).trans c1
                     have d2 : w2.frozen? ⟨w1.heap.size, k, none⟩ = false := t2.frozen k
                     have d3 : w2.rangeAt w.heap.size 0 zl := by rw [← HZL.out]; exact range_blk z2
                     have HT2 := hide t2
                     have HZ2 := hide z2
                     have HB2 := hide ((unhide HB).drew.trans (hb2.mono (unhide HB).size))
                     clear t2 z2 hb2)))
                all_goals go_wp2
                all_goals
                  go_roundg p
                  case rel => exact ⟨k + 1, by omega, by go_num, by rw [← row32_set hlt HY.out.symm]; exact (unhide HT2).set_ k _, (unhide HZ2).far (p := ⟨w1.heap.size, k, none⟩) HN _, (unhide HB2).setCell hz1 _⟩
                  case measure => omega
              · obtain rfl : k = 32 := by omega
                rw [row32_all] at ht
                have HT := hide ht
                have HZ := hide hz
                have HB := hide hbl
                clear ht hz hbl
                go_wp2_with (first
                  | (refine wpList_load_row rfl 75 (.tmp 10) rfl w1.heap.size rfl 75 _ (0, 0) _ (unhide HT) Try.underlying75 rfl (by rw [row32_size]; kernel_rfl) ?_)
                  | (refine wpList_store_row rfl 75 (.tmp 8) (.tmp 43) rfl w.heap.size (row32 (fun i => zer (e + e) (2 ^ i))) rfl rfl 75 _ (unhide HZ) (by rw [row32_size]; kernel_rfl) (by rw [row32_size, row32_size]) (row32_one _) ?_))
                go_roundg q
                case rel => exact ⟨e + e, lc / 2, ac, hl2, by omega, by go_num, rfl, HI1.out, (unhide HZ).setRow_ _, (unhide HB).trans ((Chg.of_setRow wr w.heap.size _).below (B := w.heap.size) (unhide HB).size (by intro i hi e; omega))⟩
                case measure => omega
        · obtain rfl : lc = 0 := by omega
          have HV : Hid (ac < U32 ∧ ac = zer n a) := ⟨HI.out.1, by have := HI.out.2; rwa [Nat.mul_zero] at this⟩
          have hx := xor_u32 ac b HV.out.1 hb
          have HB := hide hbl
          clear hz hbl
          go_wp2
          go_ret2
          exact ⟨by unfold jn; rw [← HV.out.2]; rfl, unhide HB⟩
end Go.Proofs.Ytoipkpndfgcmcaa
