/-
  slices.Repeat of one number: the walk over the library's text. Condition: at most 65536 times.
-/
import Derived.Test.YteambdbcjcfdeaaColRead2
import Derived.Laws.CopyOwn
import Derived.Deep.RegionLaw
import Derived.RangeFuncCalls
namespace Go.Proofs.Yteambdbcjcfdeaa
open Go.RowKit

theorem mul64_one (n : Nat) (w : World) (hn : n ≤ 65536) : Calls Try.prog 95 #[.int .u64 1, .int .u64 (n : Int)] w fun e w' => e = .returned (.tuple #[.int .u64 0, .int .u64 (n : Int)]) ∧ w = w' := by
  have h1 : bits .and .u64 (1 : Int) 4294967295 = 1 := by decide +kernel
  have h2 : bits .and .u64 (n : Int) 4294967295 = (n : Int) := by
    rw [show (4294967295 : Int) = ((4294967295 : Nat) : Int) from rfl, u64_and_nat n 4294967295 (by omega) (by omega)]
    congr 1
    have := Nat.and_two_pow_sub_one_eq_mod n 32
    rw [show (2 : Nat) ^ 32 - 1 = 4294967295 from rfl] at this
    rw [this]
    exact Nat.mod_eq_of_lt (by omega)
  have h3 : (n : Int) / 4294967296 = 0 := by omega
  have h0 : (0 : Int) ≤ (n : Int) := by omega
  have h4 : (n : Int) ≤ 65536 := by omega
  have h5 : bits .and .u64 (0 : Int) 4294967295 = 0 := by decide +kernel
  go_enter Try.func95, Try.ntmps95
  go_wp2_with fail
  go_ret2
  exact ⟨rfl, rfl⟩
theorem mul_one_ (n : Nat) (w : World) (hn : n ≤ 65536) : Calls Try.prog 92 #[.int .u64 1, .int .u64 (n : Int)] w fun e w' => e = .returned (.tuple #[.int .u64 0, .int .u64 (n : Int)]) ∧ w = w' := by
  have hM := hide (mul64_one n w hn)
  go_enter Try.func92, Try.ntmps92
  go_wp2_with fail
  refine (unhide hM).mono ?_
  rintro e w1 ⟨rfl, rfl⟩
  go_wp2_with fail
  go_ret2
  exact ⟨rfl, rfl⟩
/-- A row once k of its m places are filled. -/
def fillU (x : UInt32) (m k : Nat) : List Value := List.replicate k (uw x) ++ List.replicate (m - k) (Value.int .u32 0)
theorem fillU_len (x : UInt32) {m k : Nat} (h : k ≤ m) : (fillU x m k).length = m := by simp [fillU]; omega
theorem fillU_at (x : UInt32) {m k j : Nat} (h : j < k) : (fillU x m k)[j]? = some (uw x) := by
  rw [fillU, List.getElem?_append_left (by simpa using h), List.getElem?_replicate, if_pos h]
theorem fillU_next (x : UInt32) {m k j : Nat} (h : k + j ≤ m) : splice (fillU x m k) k (List.replicate j (uw x)) = fillU x m (k + j) := by
  have h1 : (List.replicate k (uw x)).length = k := by simp
  unfold splice fillU
  rw [List.take_left' h1, List.drop_append, h1, List.drop_of_length_le (by simp), List.nil_append, List.length_replicate, List.drop_replicate, ← List.append_assoc, List.replicate_append_replicate]
  congr 2
  omega
theorem made_u32 (L : Nat) : madeCells (Value.int .u32 0).cells L = (List.replicate L (Value.int .u32 0)).toArray := by
  have hc : (Value.int .u32 0).cells = #[Value.int .u32 0] := rfl
  rw [hc]
  apply Array.ext
  · simp [size_madeCells]
  · intro j h1 h2
    simp [madeCells, Nat.mod_one]
theorem make_u32 (w : World) (L : Nat) (hL : L ≤ 65536) : (Instr.makeSlice 22 (.int .i64 (L : Int)) (.int .i64 (L : Int))).run Try.prog w = .ok (.slice (some ⟨w.heap.size, 0, none⟩) L L) (w.alloc (.cells (List.replicate L (Value.int .u32 0)).toArray 40)) := by
  obtain ⟨i, hi, hz, hs, hb⟩ := info_parts (P := Try.prog) (e := 40) (z := .int .u32 0) (size := 1) (bytes := 4) (by kernel_rfl)
  have h := run_make (P := Try.prog) w 22 40 i (.int .u32 0) Try.underlying22 hi hz .i64 .i64 (L : Int) (L : Int) (by omega) (by omega) (by rw [hb]; omega) (by omega)
  rw [hs, Int.toNat_natCast, Nat.mul_one, made_u32] at h
  exact h

set_option maxRecDepth 100000 in
set_option maxHeartbeats 1000000 in
theorem repeat_any (x : UInt32) (m a : Nat) (w : World) (hm : m ≤ 65536) (ha : w.cell? ⟨a, 0, none⟩ = some (uw x)) :
    Calls Try.prog 84 #[.slice (some ⟨a, 0, none⟩) 1 1, .int .i64 (m : Int)] w fun e w' => ∃ v, e = .returned v ∧ w'.ownsRow w.heap.size 40 1 v m ((List.replicate m x).map uw) ∧ Below w.heap.size w w' := by
  have hal := World.block_lt_of_cell? w _ ha
  have hM := hide (mul_one_ m w hm)
  have hmk := fun w => make_u32 w m hm
  obtain ⟨Z, hZ⟩ : ∃ Z : Array Value, (List.replicate m (Value.int .u32 0)).toArray = Z := ⟨_, rfl⟩
  simp only [hZ] at hmk
  have hm0 : (0 : Int) ≤ (m : Int) := by omega
  have hmu : (m : Int) ≤ 9223372036854775807 := by omega
  have hcv : IntKind.u64.wrap (m : Int) = (m : Int) := wrapu_nat m (by omega)
  have HA := hide ha
  have hZ0 : (fillU x m 0).toArray = Z := by rw [← hZ]; simp [fillU]
  have HZ := Lib.hid hZ0
  clear ha hZ hZ0
  go_enter Try.func84, Try.ntmps84
  go_wp2_with fail
  refine (unhide hM).mono ?_
  rintro e w1 ⟨rfl, rfl⟩
  obtain ⟨g, hg⟩ : ∃ g, w.heap.size = g := ⟨_, rfl⟩
  obtain ⟨c, hc, hcm, hc1⟩ : ∃ c, Nat.min 1 m = c ∧ c ≤ m ∧ (0 < m → 0 < c) := ⟨_, rfl, Nat.min_le_right _ _, fun h => by show 0 < min 1 m; omega⟩
  obtain ⟨cs, hcs, hcl⟩ : ∃ cs : List Value, cs = List.replicate c (uw x) ∧ cs.length = c := ⟨_, rfl, by simp⟩
  have hW1 : Hid ((w.alloc (.cells Z 40)).heap[g]? = some (.cells (fillU x m 0).toArray 40 (0, 0))) := by
    show _ = _
    rw [HZ.out, ← hg]; exact Blk.new w _ _
  have hb1 : Below g w (w.alloc (.cells Z 40)) := by rw [← hg]; exact (Below.refl _ _).alloc (Nat.le_refl _) _
  have hsrc : Hid (∀ j v, cs[j]? = some v → (w.alloc (.cells Z 40)).cell? ((⟨a, 0, none⟩ : Addr).add j) = some v) := fun j v hv => by
    rw [hcs, List.getElem?_replicate] at hv
    split at hv
    · cases hv
      have hj : j = 0 := by have h9 : min 1 m = c := hc; omega
      subst hj
      rw [show (⟨a, 0, none⟩ : Addr).add 0 = ⟨a, 0, none⟩ from rfl, World.cell?_alloc_lt w _ ⟨a, 0, none⟩ hal]
      exact unhide HA
    · cases hv
  have hone : Hid (∀ v ∈ cs, v.oneCell' = true) := fun v hv => by
    rw [hcs] at hv
    obtain ⟨_, rfl⟩ := List.mem_replicate.1 hv
    rfl
  have hn1 : Hid (cs.length = Nat.min 1 m) := by show _ = _; rw [hcl, hc]
  have hfit1 : Hid (0 + cs.length ≤ (fillU x m 0).length) := by show _ ≤ _; rw [fillU_len x (Nat.zero_le _)]; omega
  have hsp : Hid (splice (fillU x m 0) 0 cs = fillU x m c) := by
    show _ = _
    rw [hcs, fillU_next x (by omega), Nat.zero_add]
  have hsz : (Try.prog.info? 40).map (·.size) = some 1 := by kernel_rfl
  have HSZ := hide hsz
  have HB1 := hide hb1
  have HC1 := hide hc1
  clear hb1 hcs hc hc1 hsz
  go_wp2_with (refine wpList_copy_splice rfl (.tmp 31) (.tmp 32) 22 22 rfl 40 Try.underlying22 (unhide HSZ) (some ⟨g, 0, none⟩) (some ⟨a, 0, none⟩) m m 1 1 rfl rfl g 0 (fillU x m 0) 40 (unhide hW1) cs hn1.out (fun _ => ⟨rfl, _, rfl, hsrc.out⟩) hfit1.out hone.out g w (unhide HB1) (Nat.le_refl _) ?_; intro w2 hW2 hb2)
  have HW2 : Hid (w2.heap[g]? = some (.cells (fillU x m c).toArray 40 (0, 0))) := by
    have h := hW2.out
    rw [hsp.out] at h
    exact h
  have HB2 := hide hb2
  clear hW2 hb2 hsp hW1 hsrc hone hn1 hfit1 HB1 HZ hmk
  go_loopg [8] (m - c) (fun q t W => ∃ k : Nat, k + q = m ∧ t = .int .i64 (k : Int) ∧ (0 < m → 0 < k) ∧ Hid (W.heap[g]? = some (.cells (fillU x m k).toArray 40 (0, 0))) ∧ Below g w W)
  case atStart => exact ⟨c, by omega, rfl, unhide HC1, HW2, unhide HB2⟩
  case round =>
    obtain ⟨k, hk, rfl, hk0, hgk, hbk⟩ := hrel
    by_cases hlt : k < m
    · obtain ⟨d, hd, hd1, hd2, hd3⟩ : ∃ d, Nat.min k (m - k) = d ∧ 0 < d ∧ d ≤ k ∧ k + d ≤ m := ⟨_, rfl, by show 0 < min k (m - k); have := hk0 (by omega); omega, Nat.min_le_left _ _, by show k + min k (m - k) ≤ m; omega⟩
      obtain ⟨cs2, hcs2, hcl2⟩ : ∃ cs : List Value, cs = List.replicate d (uw x) ∧ cs.length = d := ⟨_, rfl, by simp⟩
      have hsrc2 : Hid (∀ j v, cs2[j]? = some v → wr.drew.cell? ((⟨g, 0, none⟩ : Addr).add j) = some v) := fun j v hv => by
        rw [hcs2, List.getElem?_replicate] at hv
        split at hv
        · cases hv
          have hadd : (⟨g, 0, none⟩ : Addr).add j = ⟨g, j, none⟩ := by unfold Addr.add; split <;> simp_all
          rw [hadd, cell_drew_own, cell_of_row wr g j _ _ (0, 0) hgk.out, List.getElem?_toArray, fillU_at x (by omega)]
        · cases hv
      have hone2 : Hid (∀ v ∈ cs2, v.oneCell' = true) := fun v hv => by
        rw [hcs2] at hv
        obtain ⟨_, rfl⟩ := List.mem_replicate.1 hv
        rfl
      have hn2 : Hid (cs2.length = Nat.min k (m - k)) := by show _ = _; rw [hcl2, hd]
      have hfit2 : Hid (k + cs2.length ≤ (fillU x m k).length) := by show _ ≤ _; rw [fillU_len x (by omega)]; omega
      have hsp2 : Hid (splice (fillU x m k) k cs2 = fillU x m (k + d)) := by
        show _ = _
        rw [hcs2, fillU_next x hd3]
      have hgd : Hid (wr.drew.heap[g]? = some (.cells (fillU x m k).toArray 40 (0, 0))) := hgk
      have hbd : Hid (Below g w wr.drew) := hbk.drew
      have hkm : (k : Int) < (m : Int) := by omega
      have hkm2 : (k : Int) ≤ (m : Int) := by omega
      have hk0I : (0 : Int) ≤ (k : Int) := by omega
      have hs : IntKind.i64.wrap ((k : Int) + (d : Int)) = ((k + d : Nat) : Int) := by rw [IntWalk.i64_in _ (by omega)]; omega
      clear hcs2 hd hgk hbk HW2 HB2
      go_wp2_with fail
      go_region_law (refine step_copy_splice rfl (.tmp 41) (.tmp 44) 22 22 rfl 40 Try.underlying22 (unhide HSZ) (some ⟨g, k, none⟩) (some ⟨g, 0, none⟩) (m - k) (m - k) k m (by simp [Act.eval, Act.put]; omega) (by simp [Act.eval, Act.put]) g k (fillU x m k) 40 hgd.out cs2 hn2.out (fun _ => ⟨rfl, _, rfl, hsrc2.out⟩) hfit2.out hone2.out g w hbd.out (Nat.le_refl _) ?_; intro w5 hW5 hb5)
      all_goals
        have HW5 : Hid (w5.heap[g]? = some (.cells (fillU x m (k + d)).toArray 40 (0, 0))) := by
          have h := hW5.out
          rw [hsp2.out] at h
          exact h
        have HB5 := hide hb5
        clear hW5 hb5 hsp2 hgd hbd hsrc2 hone2 hn2 hfit2
        go_wp2_with fail
        go_roundg (m - (k + d))
        case rel => exact ⟨k + d, by omega, by first | rfl | go_num, fun _ => by omega, HW5, unhide HB5⟩
        case measure => omega
    · obtain rfl : m = k := by omega
      have ho : wr.ownsRow g 40 1 (.slice (some ⟨g, 0, none⟩) m m) m ((List.replicate m x).map uw) := by
        have hf : fillU x m m = (List.replicate m x).map uw := by simp [fillU]
        have h := hgk.out
        rw [hf] at h
        refine ⟨by simp, .inr ⟨g, m, _, rfl, Nat.le_refl _, h, Nat.le_refl _, by simp only [maxLen]; omega, by simp, ?_⟩⟩
        rw [Nat.mul_one, List.toList_toArray, List.take_of_length_le (by simp)]
      have HO := hide ho
      have HB := hide hbk
      clear ho hgk hbk HW2 HB2
      go_wp2_with fail
      go_ret
      exact ⟨_, rfl, (unhide HO).base (by omega), (unhide HB).mono (by omega)⟩
end Go.Proofs.Yteambdbcjcfdeaa
