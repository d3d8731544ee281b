/-
  awake of law 02: the chapter's examples; its walk. Condition: none.
-/
import Derived.Test.YtoipkpndfgcmcaaRows
import Derived.Test.YtoipkpndfgcmcaaWords
import Derived.Test.YtoipkpndfgcmcaaCrcSeal
import Derived.Test.YtoipkpndfgcmcaaCrcJoinW
import Derived.Test.YtoipkpndfgcmcaaCrcWhole
import Derived.Test.YtoipkpndfgcmcaaCheckStreamsW
import Derived.Test.YtoipkpndfgcmcaaCheckSumsW
import Derived.Lib.SlBytesConst
namespace Go.Proofs.Ytoipkpndfgcmcaa
open Go.RowKit

def nineB : List UInt8 := [49, 50, 51, 52, 53, 54, 55, 56, 57]
theorem add0 (b o j : Nat) : (⟨b, o, none⟩ : Addr).add j = ⟨b, o + j, none⟩ := by unfold Addr.add; split <;> simp_all
theorem reads_mark (w : World) (e : TypeId) (cs : Array Value) (fr : Nat × Nat) (n : Nat) (hn : cs.size = n) (xs : List Value) (hx : cs.toList = xs) : Reads (w.alloc (.cells cs e fr)) (w.heap.size + 1) 1 (some ⟨w.heap.size, 0, none⟩) n xs := by
  subst hn hx
  refine ⟨by simp, fun _ => ⟨_, rfl, by simp, fun j u hu => ?_⟩⟩
  have : (⟨w.heap.size, 0, none⟩ : Addr).add j = ⟨w.heap.size, j, none⟩ := by rw [add0, Nat.zero_add]
  rw [this, World.cell?_alloc_mark]
  simpa using hu
set_option maxRecDepth 100000 in
set_option maxHeartbeats 800000 in
theorem nine_any (w : World) : Calls Try.prog 41 #[] w fun e w' => e = .returned (.slice (some ⟨w.heap.size, 0, none⟩) 9 9) ∧ Reads w' (w.heap.size + 1) 1 (some ⟨w.heap.size, 0, none⟩) 9 (nineB.map bv) ∧ Below w.heap.size w w' ∧ w.heap.size + 1 ≤ w'.heap.size := by
  have hc := fun C => Lib.run_convert_bytes_const (P := Try.prog) w 29 5 C 9 9 Try.underlying29 Try.underlying5
  go_enter Try.func41, Try.ntmps41
  go_wp2
  go_ret
  exact ⟨rfl, reads_mark w _ _ _ 9 rfl _ rfl, (Below.refl _ _).alloc (Nat.le_refl _) _, by simp⟩

theorem Reads.after {w : World} {B n k : Nat} {b o : Nat} {xs : List UInt8} (h : Reads w B 1 (some ⟨b, o, none⟩) (k + n) (xs.map bv)) : Reads w B 1 (some ⟨b, o + k, none⟩) n ((xs.drop k).map bv) := by
  refine ⟨by have := h.1; simp at this ⊢; omega, fun hn => ?_⟩
  obtain ⟨ad, e, hb, hc⟩ := h.2 (by omega)
  injection e with e
  subst e
  refine ⟨_, rfl, hb, fun j u hu => ?_⟩
  rw [List.map_drop, List.getElem?_drop] at hu
  have := hc _ _ hu
  rw [add0] at this ⊢
  rw [Nat.add_assoc]
  exact this

theorem nine_join : jn (upd 0 (nineB.take 4)) (upd 0 (nineB.drop 4)) 5 = 3421780262 := by decide +kernel
theorem nine_sum : upd 0 nineB = 3421780262 := by decide +kernel
theorem zero_sum : upd 0 [0] = 3523407757 := by decide +kernel

set_option maxRecDepth 100000 in
set_option maxHeartbeats 800000 in
theorem awake_any (w : World) : Calls Try.prog 34 #[] w fun e w' => e = .returned (.bool true) ∧ Below w.heap.size w w' := by
  have hN := fun w => hide (nine_any w)
  have hNum := fun x w => hide (num_any x w)
  obtain ⟨s1, hs1⟩ : ∃ s, upd 0 (nineB.take 4) = s := ⟨_, rfl⟩
  obtain ⟨s2, hs2⟩ : ∃ s, upd 0 (nineB.drop 4) = s := ⟨_, rfl⟩
  have hl1 : s1 < U32 := hs1 ▸ upd_lt (by decide) _
  have hl2 : s2 < U32 := hs2 ▸ upd_lt (by decide) _
  have hj := nine_join
  rw [hs1, hs2] at hj
  have HJ := Lib.hid hj
  have HS1 := Lib.hid hs1
  have HS2 := Lib.hid hs2
  clear hj hs1 hs2
  go_enter Try.func34, Try.ntmps34
  go_wp2_with (go_at_call 41; refine (unhide (hN _)).mono ?_; rintro e w1 ⟨rfl, hr1, hb1, hz1⟩)
  have HS := hide (sum_any (nineB.take 4) (some ⟨w.heap.size, 0, none⟩) 4 9 (w.heap.size + 1) w1 (hr1.upto_ (by omega)) (by omega) hz1)
  have HB1 := hide hb1
  rw [HS1.out] at HS
  clear hr1 hb1
  go_wp2_with (go_at_call 24; refine (unhide HS).mono ?_; rintro e w2 ⟨rfl, hb2⟩)
  have HB2 := hide ((unhide HB1).trans (hb2.mono (unhide HB1).size))
  clear hb2 HS
  go_wp2_with (go_at_call 41; refine (unhide (hN _)).mono ?_; rintro e w3 ⟨rfl, hr3, hb3, hz3⟩)
  have HS := hide (sum_any (nineB.drop 4) (some ⟨w2.heap.size, 0 + 4, none⟩) 5 5 (w2.heap.size + 1) w3 (hr3.after (k := 4) (n := 5)) (by omega) hz3)
  have HB3 := hide ((unhide HB2).trans (hb3.mono (unhide HB2).size))
  rw [HS2.out] at HS
  clear hr3 hb3
  go_wp2_with (go_at_call 24; refine (unhide HS).mono ?_; rintro e w4 ⟨rfl, hb4⟩)
  have HB4 := hide ((unhide HB3).trans (hb4.mono (unhide HB3).size))
  clear hb4 HS
  have HJN := hide (join_any s1 s2 5 w4 hl1 hl2 (by omega))
  rw [HJ.out] at HJN
  go_wp2_with (go_at_call 33; refine (unhide HJN).mono ?_; rintro e w5 ⟨rfl, hb5⟩)
  have HB5 := hide ((unhide HB4).trans (hb5.mono (unhide HB4).size))
  clear hb5 HJN
  go_wp2_with (go_at_call 41; refine (unhide (hN _)).mono ?_; rintro e w6 ⟨rfl, hr6, hb6, hz6⟩)
  have HS := hide (sum_any nineB (some ⟨w5.heap.size, 0, none⟩) 9 9 (w5.heap.size + 1) w6 hr6 (by omega) hz6)
  have HB6 := hide ((unhide HB5).trans (hb6.mono (unhide HB5).size))
  rw [nine_sum] at HS
  clear hr6 hb6
  go_wp2_with (go_at_call 24; refine (unhide HS).mono ?_; rintro e w7 ⟨rfl, hb7⟩)
  have HB7 := hide ((unhide HB6).trans (hb7.mono (unhide HB6).size))
  clear hb7 HS
  go_wp2_with fail
  have hlit := reads_lit w7 _ rfl 5 #[.int .u8 0] 1 rfl ([0].map bv) rfl
  have HS := hide (sum_any [0] (some ⟨w7.heap.size, 0, none⟩) 1 1 (w7.heap.size + 1) _ hlit (by omega) (by simp))
  have HB8 := hide ((unhide HB7).alloc (unhide HB7).size (.cells #[.int .u8 0] 5))
  rw [zero_sum] at HS
  clear hlit
  go_wp2_with (go_at_call 24; refine (unhide HS).mono ?_; rintro e w9 ⟨rfl, hb9⟩)
  have HB9 := hide ((unhide HB8).trans (hb9.mono (unhide HB8).size))
  clear hb9 HS
  go_wp2_with (go_at_call 19; refine (unhide (hNum _ _)).mono ?_; rintro e w10 ⟨rfl, rfl⟩)
  go_wp2_with (go_at_call 41; refine (unhide (hN _)).mono ?_; rintro e w11 ⟨rfl, hr11, hb11, hz11⟩)
  have HS := hide (seal_any (some ⟨w9.heap.size, 0, none⟩) 9 9 (w9.heap.size + 1) nineB w11 hr11 (by omega) hz11)
  have HB11 := hide ((unhide HB9).trans (hb11.mono (unhide HB9).size))
  clear hr11 hb11
  go_wp2_with (go_at_call 30; refine (unhide HS).mono ?_; rintro e w12 ⟨v12, rfl, ho12, hb12⟩)
  obtain ⟨A12, c12, rfl⟩ := ho12.shape
  have HB12 := hide ((unhide HB11).trans (hb12.mono (unhide HB11).size))
  have HW := hide (whole_any A12 13 c12 w12.heap.size (sealed nineB) w12 (Reads.of_own ho12) (by omega) (Nat.le_refl _) (own_capA ho12))
  rw [whole_sealed] at HW
  clear ho12 hb12 HS
  go_wp2_with (go_at_call 28; refine (unhide HW).mono ?_; rintro e w13 ⟨rfl, hb13⟩)
  have HB13 := hide ((unhide HB12).trans (hb13.mono (unhide HB12).size))
  clear hb13
  go_ret
  exact ⟨rfl, unhide HB13⟩
end Go.Proofs.Ytoipkpndfgcmcaa
