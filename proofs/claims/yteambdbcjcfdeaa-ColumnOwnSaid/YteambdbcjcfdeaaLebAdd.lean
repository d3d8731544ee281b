/-
  leb.add, leb.Put and sibylref01.Put: the form of a number, behind bytes of the call's own; the walks over the Go text. The number is a uint64; the row's length stays below 2^47.
-/
import Derived.Test.YteambdbcjcfdeaaRows
import Derived.Test.YteambdbcjcfdeaaWords
import Derived.Test.YteambdbcjcfdeaaLebMath
namespace Go.Proofs.Yteambdbcjcfdeaa
open Go.RowKit

theorem elem_u8 : ElemOf Try.prog 24 5 1 1 := .mk' (.int .u8 0) Try.underlying24 (by kernel_rfl) rfl (by omega)
set_option maxRecDepth 100000 in
set_option maxHeartbeats 400000 in
theorem add_any (v : Value) (m : Nat) (xs : List Value) (n : Nat) (w : World) (hn : n < U64) (base : Nat) (hown : w.ownsRow base 5 1 v m xs) (hbase : base ≤ w.heap.size) (hm : m ≤ 140737488355000) :
    Calls Try.prog 88 #[v, .int .u64 (n : Int)] w fun e w' => ∃ v', e = .returned v' ∧ w'.ownsRow base 5 1 v' (m + (form n).length) (xs ++ (form n).map bv) ∧ w.grownBy w' v.ownBlock ∧
      (v'.ownBlock = v.ownBlock ∨ ∃ g, v'.ownBlock = some g ∧ w.heap.size ≤ g) := by
  go_enter Try.func88, Try.ntmps88
  go_wp2
  go_loopw [0, 1] (fun b t wr => ∃ (f k : Nat) (cs : List UInt8), t = .int .u64 (k : Int) ∧ k < 2 * 128 ^ f ∧ f ≤ 9 ∧ cs.length + f ≤ 9 ∧ cs ++ formF f k = form n ∧
      wr.ownsRow base 5 1 b (m + cs.length) (xs ++ cs.map bv) ∧ w.grownBy wr v.ownBlock ∧ (b.ownBlock = v.ownBlock ∨ ∃ g, b.ownBlock = some g ∧ w.heap.size ≤ g))
    (fun _ t _ => (intOf t).toNat)
  case atStart => exact ⟨9, n, [], rfl, by unfold U64 at hn; omega, by omega, by simp, rfl, by simpa using hown, World.grownBy.refl w _, .inl rfl⟩
  case round =>
    obtain ⟨f, k, cs, rfl, hk, hf, hcs, heq, ho, hg, hat⟩ := hrel
    have hsz := hg.size
    have HC : Hid (m + cs.length + 1 ≤ maxLen ∧ (m + cs.length + 1) * 1 ≤ 140737488355328) := cap1 (by omega)
    have HK := Lib.hid hk
    have HE := Lib.hid heq
    clear hk heq hm
    by_cases hlt : k < 128
    · go_wp2_with (first | (at_builtin; refine wpList_app1 _ rfl (.tmp 15) (.tmp 18) 24 rfl elem_u8 base _ _ _ rfl ho _ _ (by simp) rfl rfl HC.out (by omega) ?_; intro v' w1 hown1 hg1 hat1))
      go_ret
      refine ⟨_, rfl, ?_, grownBy_trans hg hg1 hat, own_next hg.size hat hat1⟩
      rw [bv_stop k hlt] at hown1
      rw [last_eq HE.out hlt]
      simpa [Nat.add_assoc] using hown1
    · go_wp2_with (first | (at_builtin; refine wpList_app1 _ rfl (.tmp 7) (.tmp 11) 24 rfl elem_u8 base _ _ _ rfl ho _ _ (by simp) rfl rfl HC.out (by omega) ?_; intro v' w1 hown1 hg1 hat1))
      have hr := round_lt HK.out (by omega)
      rw [bv_go] at hown1
      go_roundw
      case rel => exact ⟨f - 1, k / 128, cs ++ [UInt8.ofNat (k % 128 + 128)], by go_num, hr.2, by omega, by simp; omega, round_eq HE.out hr.1 (by omega), by simpa [Nat.add_assoc] using hown1, grownBy_trans hg hg1 hat, own_next hg.size hat hat1⟩
      case measure => simp [intOf]; omega
set_option maxRecDepth 100000 in
set_option maxHeartbeats 400000 in
theorem refPut_any (n : Nat) (w : World) (hn : n < U64) :
    Calls Try.prog 73 #[.int .u64 (n : Int)] w fun e w' => ∃ v', e = .returned v' ∧ w'.ownsRow w.heap.size 5 1 v' (form n).length ((form n).map bv) ∧ Below w.heap.size w w' := by
  have hq : IntKind.u64.wrap ((n : Int) / 128) = (n : Int) / 128 := by unfold U64 at hn; rw [IntKind.wrap_u64]; omega
  go_enter Try.func73, Try.ntmps73
  go_wp2
  clear hq
  go_loopw [0, 3] (fun t b wr => ∃ (f k r : Nat) (cs : List UInt8) (g cap : Nat), t = .int .u64 (k : Int) ∧ r < 128 ∧ f ≤ 8 ∧ (cs.length + f ≤ 8 ∨ k = 0 ∧ cs.length ≤ 9) ∧ b = .slice (some ⟨g, 0, none⟩) (cs.length + 1 : Nat) cap ∧ w.heap.size ≤ g ∧
      wr.ownsRow w.heap.size 5 1 (.slice (some ⟨g, 0, none⟩) (cs.length + 1 : Nat) cap) (cs.length + 1) (cs.map bv ++ [.int .u8 (r : Int)]) ∧ Below w.heap.size w wr ∧ Hid (k < 2 * 128 ^ f ∧ RP n k r f cs))
    (fun t _ _ => (intOf t).toNat)
  case atStart => exact ⟨8, n / 128, n % 128, [], w.heap.size, 1, by go_num, by omega, by omega, by simp, rfl, Nat.le_refl _, ⟨by simp, .inr ⟨_, 1, _, rfl, Nat.le_refl _, heap_alloc_new w _, by simp, by simp only [maxLen]; omega, rfl, by simp⟩⟩, (Below.refl _ _).alloc (Nat.le_refl _) _, ⟨by unfold U64 at hn; omega, RP.start n⟩⟩
  case round =>
    obtain ⟨f, k, r, cs, g, cap, rfl, hr, hf, hcs, rfl, hg, ho, hb, HI⟩ := hrel
    have hsz := hb.size
    have hc : wr.cell? ⟨g, cs.length, none⟩ = some (.int .u8 (r : Int)) := by rw [ho.cellAt _ (by omega)]; simp
    have hfz : wr.frozen? ⟨g, cs.length, none⟩ = false := ho.frozenAt _
    have HC : Hid (cs.length + 1 + 1 ≤ maxLen ∧ (cs.length + 1 + 1) * 1 ≤ 140737488355328) := cap1 (by omega)
    by_cases hk : 0 < k
    · have hq : IntKind.u64.wrap ((k : Int) / 128) = (k : Int) / 128 := quo_nowrap HI.out.1 hf
      have HO := hide (ho.stored cs.length (.int .u8 ((r : Int) + 128)))
      go_wp2_with (first | (at_builtin; (refine wpList_app1 _ rfl (.tmp 24) (.tmp 28) 24 rfl elem_u8 w.heap.size _ _ _ rfl (unhide HO).1 _ _ (by simp) rfl rfl HC.out (by simp; omega) ?_); intro v' w1 hown1 hg1 hat1))
      have hr2 := HI.out
      rw [rp_row cs r k hr] at hown1
      obtain ⟨g', cap', rfl, hg', _⟩ := hown1.form (by omega)
      go_roundw
      case rel => exact ⟨f - 1, k / 128, k % 128, cs ++ [UInt8.ofNat (r + 128)], g', cap', by go_num, by omega, by omega, rp_len hr2.1 hk hcs, by simp, hg', by simpa using hown1, (hb.setCell (p := ⟨g, cs.length, none⟩) hg _).grown hg1 (by simp; omega) (fun _ hj => by cases hj; exact hg), ⟨RP.lt_next hr2.1 hk, hr2.2.next hk hr2.1⟩⟩
      case measure => simp [intOf]; omega
    · obtain rfl : k = 0 := by omega
      go_wp2
      go_ret
      refine ⟨_, rfl, ?_, hb⟩
      rw [HI.out.2.done]
      rw [bv_nat r (by omega)] at ho
      simpa using ho
end Go.Proofs.Yteambdbcjcfdeaa
