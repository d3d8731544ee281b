/-
  The law's own helpers: laid, awake; the walks over the Go text.
-/
import Derived.Test.YteambdbcjcfdeaaColOut
namespace Go.Proofs.Yteambdbcjcfdeaa
open Go.RowKit

theorem laid_any (c : List UInt32) (p : List UInt8) (m : Nat) (hp : pageS c = p) (hm : p.length = m) (A : Option Addr) (n cap B : Nat) (w : World) (hr : Reads w B 1 A n (c.map uw)) (hB : B ≤ w.heap.size) (hn : n ≤ 65536) :
    Calls Try.prog 38 #[.slice A n cap] w fun e w' => ∃ v, e = .returned v ∧ w'.ownsRow w.heap.size 5 1 v m (p.map bv) ∧ Below w.heap.size w w' := by
  subst hp
  subst hm
  have hE := hide (encode_any c A n cap B w hr hB hn)
  clear hr hB hn
  go_enter Try.func38, Try.ntmps38
  go_wp2_with fail
  refine (unhide hE).mono ?_
  rintro e w1 ⟨v, rfl, ho, hb⟩
  obtain ⟨A1, c1, rfl⟩ := ho.shape
  have HO := hide ho
  have HB := hide hb
  clear ho hb hE
  go_wp2_with fail
  go_ret
  exact ⟨_, rfl, unhide HO, unhide HB⟩
theorem page_0 : pageS [] = [1] := by decide +kernel
theorem page_1 : pageS [7] = [1, 7] := by decide +kernel
theorem page_2 : pageS [300] = [1, 172, 2] := by decide +kernel
theorem page_3 : pageS [5, 5, 5, 5] = [3, 5, 4] := by decide +kernel
theorem page_4 : pageS [1000, 1001, 1002] = [2, 232, 7, 2, 2] := by decide +kernel
theorem page_5 : pageS [1, 0, 1, 1, 0, 0, 1, 0, 1] = [4, 1, 77, 1] := by decide +kernel
set_option maxRecDepth 100000 in
set_option maxHeartbeats 1000000 in
theorem awake5_any (w : World) : Calls Try.prog 20 #[] w fun e w' => e = .returned (.bool true) ∧ Below w.heap.size w w' := by
  have HB0 : Hid (Below w.heap.size w w) := hide (Below.refl _ _)
  go_enter Try.func20, Try.ntmps20
  have hL := hide (laid_any [] [1] 1 page_0 rfl none 0 0 0 w Reads.none_ (by omega) (by omega))
  go_wp2_with fail
  refine (unhide hL).mono ?_
  rintro e v0 ⟨x0, rfl, ho, hb⟩
  obtain ⟨A0, c0, rfl⟩ := ho.shape
  have HBv0 := hide ((unhide HB0).trans (hb.mono (unhide HB0).size))
  have hlp := reads_lit v0 _ rfl 5 #[.int .u8 1] 1 rfl ([1].map bv) rfl
  have hS := same5_any A0 (some ⟨v0.heap.size, 0, none⟩) 1 c0 1 1 [1] [1] _ (v0.heap.size + 1) (((Reads.of_own ho).alloc (Nat.le_refl _) _).more (by omega)) hlp (by omega) (by simp)
  rw [beq_self_eq_true] at hS
  have HS := hide hS
  have HBp := hide ((unhide HBv0).alloc (unhide HBv0).size (.cells #[.int .u8 1] 5))
  clear ho hb hlp hS hL
  go_wp2_with fail
  refine (unhide HS).mono ?_
  rintro e w1 ⟨rfl, hb⟩
  have HB1 := hide ((unhide HBp).trans (hb.mono (unhide HBp).size))
  clear hb HS HBp HBv0
  have hl1 := reads_lit w1 _ rfl 40 #[.int .u32 7] 1 rfl ([7].map uw) rfl
  have hL := hide (laid_any [7] [1, 7] 2 page_1 rfl (some ⟨w1.heap.size, 0, none⟩) 1 1 (w1.heap.size + 1) _ hl1 (by simp) (by omega))
  have HBa := hide ((unhide HB1).alloc (unhide HB1).size (.cells #[.int .u32 7] 40))
  clear hl1
  go_wp2_with fail
  refine (unhide hL).mono ?_
  rintro e v1 ⟨x1, rfl, ho, hb⟩
  obtain ⟨A1, c1, rfl⟩ := ho.shape
  have HBv1 := hide ((unhide HBa).trans (hb.mono (unhide HBa).size))
  have hlp := reads_lit v1 _ rfl 5 #[.int .u8 1, .int .u8 7] 2 rfl ([1, 7].map bv) rfl
  have hS := same5_any A1 (some ⟨v1.heap.size, 0, none⟩) 2 c1 2 2 [1, 7] [1, 7] _ (v1.heap.size + 1) (((Reads.of_own ho).alloc (Nat.le_refl _) _).more (by omega)) hlp (by omega) (by simp)
  rw [beq_self_eq_true] at hS
  have HS := hide hS
  have HBp := hide ((unhide HBv1).alloc (unhide HBv1).size (.cells #[.int .u8 1, .int .u8 7] 5))
  clear ho hb hlp hS hL
  go_wp2_with fail
  refine (unhide HS).mono ?_
  rintro e w2 ⟨rfl, hb⟩
  have HB2 := hide ((unhide HBp).trans (hb.mono (unhide HBp).size))
  clear hb HS HBp HBv1
  clear HBa
  have hl2 := reads_lit w2 _ rfl 40 #[.int .u32 300] 1 rfl ([300].map uw) rfl
  have hL := hide (laid_any [300] [1, 172, 2] 3 page_2 rfl (some ⟨w2.heap.size, 0, none⟩) 1 1 (w2.heap.size + 1) _ hl2 (by simp) (by omega))
  have HBa := hide ((unhide HB2).alloc (unhide HB2).size (.cells #[.int .u32 300] 40))
  clear hl2
  go_wp2_with fail
  refine (unhide hL).mono ?_
  rintro e v2 ⟨x2, rfl, ho, hb⟩
  obtain ⟨A2, c2, rfl⟩ := ho.shape
  have HBv2 := hide ((unhide HBa).trans (hb.mono (unhide HBa).size))
  have hlp := reads_lit v2 _ rfl 5 #[.int .u8 1, .int .u8 172, .int .u8 2] 3 rfl ([1, 172, 2].map bv) rfl
  have hS := same5_any A2 (some ⟨v2.heap.size, 0, none⟩) 3 c2 3 3 [1, 172, 2] [1, 172, 2] _ (v2.heap.size + 1) (((Reads.of_own ho).alloc (Nat.le_refl _) _).more (by omega)) hlp (by omega) (by simp)
  rw [beq_self_eq_true] at hS
  have HS := hide hS
  have HBp := hide ((unhide HBv2).alloc (unhide HBv2).size (.cells #[.int .u8 1, .int .u8 172, .int .u8 2] 5))
  clear ho hb hlp hS hL
  go_wp2_with fail
  refine (unhide HS).mono ?_
  rintro e w3 ⟨rfl, hb⟩
  have HB3 := hide ((unhide HBp).trans (hb.mono (unhide HBp).size))
  clear hb HS HBp HBv2
  clear HBa
  have hl3 := reads_lit w3 _ rfl 40 #[.int .u32 5, .int .u32 5, .int .u32 5, .int .u32 5] 4 rfl ([5, 5, 5, 5].map uw) rfl
  have hL := hide (laid_any [5, 5, 5, 5] [3, 5, 4] 3 page_3 rfl (some ⟨w3.heap.size, 0, none⟩) 4 4 (w3.heap.size + 1) _ hl3 (by simp) (by omega))
  have HBa := hide ((unhide HB3).alloc (unhide HB3).size (.cells #[.int .u32 5, .int .u32 5, .int .u32 5, .int .u32 5] 40))
  clear hl3
  go_wp2_with fail
  refine (unhide hL).mono ?_
  rintro e v3 ⟨x3, rfl, ho, hb⟩
  obtain ⟨A3, c3, rfl⟩ := ho.shape
  have HBv3 := hide ((unhide HBa).trans (hb.mono (unhide HBa).size))
  have hlp := reads_lit v3 _ rfl 5 #[.int .u8 3, .int .u8 5, .int .u8 4] 3 rfl ([3, 5, 4].map bv) rfl
  have hS := same5_any A3 (some ⟨v3.heap.size, 0, none⟩) 3 c3 3 3 [3, 5, 4] [3, 5, 4] _ (v3.heap.size + 1) (((Reads.of_own ho).alloc (Nat.le_refl _) _).more (by omega)) hlp (by omega) (by simp)
  rw [beq_self_eq_true] at hS
  have HS := hide hS
  have HBp := hide ((unhide HBv3).alloc (unhide HBv3).size (.cells #[.int .u8 3, .int .u8 5, .int .u8 4] 5))
  clear ho hb hlp hS hL
  go_wp2_with fail
  refine (unhide HS).mono ?_
  rintro e w4 ⟨rfl, hb⟩
  have HB4 := hide ((unhide HBp).trans (hb.mono (unhide HBp).size))
  clear hb HS HBp HBv3
  clear HBa
  have hl4 := reads_lit w4 _ rfl 40 #[.int .u32 1000, .int .u32 1001, .int .u32 1002] 3 rfl ([1000, 1001, 1002].map uw) rfl
  have hL := hide (laid_any [1000, 1001, 1002] [2, 232, 7, 2, 2] 5 page_4 rfl (some ⟨w4.heap.size, 0, none⟩) 3 3 (w4.heap.size + 1) _ hl4 (by simp) (by omega))
  have HBa := hide ((unhide HB4).alloc (unhide HB4).size (.cells #[.int .u32 1000, .int .u32 1001, .int .u32 1002] 40))
  clear hl4
  go_wp2_with fail
  refine (unhide hL).mono ?_
  rintro e v4 ⟨x4, rfl, ho, hb⟩
  obtain ⟨A4, c4, rfl⟩ := ho.shape
  have HBv4 := hide ((unhide HBa).trans (hb.mono (unhide HBa).size))
  have hlp := reads_lit v4 _ rfl 5 #[.int .u8 2, .int .u8 232, .int .u8 7, .int .u8 2, .int .u8 2] 5 rfl ([2, 232, 7, 2, 2].map bv) rfl
  have hS := same5_any A4 (some ⟨v4.heap.size, 0, none⟩) 5 c4 5 5 [2, 232, 7, 2, 2] [2, 232, 7, 2, 2] _ (v4.heap.size + 1) (((Reads.of_own ho).alloc (Nat.le_refl _) _).more (by omega)) hlp (by omega) (by simp)
  rw [beq_self_eq_true] at hS
  have HS := hide hS
  have HBp := hide ((unhide HBv4).alloc (unhide HBv4).size (.cells #[.int .u8 2, .int .u8 232, .int .u8 7, .int .u8 2, .int .u8 2] 5))
  clear ho hb hlp hS hL
  go_wp2_with fail
  refine (unhide HS).mono ?_
  rintro e w5 ⟨rfl, hb⟩
  have HB5 := hide ((unhide HBp).trans (hb.mono (unhide HBp).size))
  clear hb HS HBp HBv4
  clear HBa
  have hl5 := reads_lit w5 _ rfl 40 #[.int .u32 1, .int .u32 0, .int .u32 1, .int .u32 1, .int .u32 0, .int .u32 0, .int .u32 1, .int .u32 0, .int .u32 1] 9 rfl ([1, 0, 1, 1, 0, 0, 1, 0, 1].map uw) rfl
  have hL := hide (laid_any [1, 0, 1, 1, 0, 0, 1, 0, 1] [4, 1, 77, 1] 4 page_5 rfl (some ⟨w5.heap.size, 0, none⟩) 9 9 (w5.heap.size + 1) _ hl5 (by simp) (by omega))
  have HBa := hide ((unhide HB5).alloc (unhide HB5).size (.cells #[.int .u32 1, .int .u32 0, .int .u32 1, .int .u32 1, .int .u32 0, .int .u32 0, .int .u32 1, .int .u32 0, .int .u32 1] 40))
  clear hl5
  go_wp2_with fail
  refine (unhide hL).mono ?_
  rintro e v5 ⟨x5, rfl, ho, hb⟩
  obtain ⟨A5, c5, rfl⟩ := ho.shape
  have HBv5 := hide ((unhide HBa).trans (hb.mono (unhide HBa).size))
  have hlp := reads_lit v5 _ rfl 5 #[.int .u8 4, .int .u8 1, .int .u8 77, .int .u8 1] 4 rfl ([4, 1, 77, 1].map bv) rfl
  have hS := same5_any A5 (some ⟨v5.heap.size, 0, none⟩) 4 c5 4 4 [4, 1, 77, 1] [4, 1, 77, 1] _ (v5.heap.size + 1) (((Reads.of_own ho).alloc (Nat.le_refl _) _).more (by omega)) hlp (by omega) (by simp)
  rw [beq_self_eq_true] at hS
  have HS := hide hS
  have HBp := hide ((unhide HBv5).alloc (unhide HBv5).size (.cells #[.int .u8 4, .int .u8 1, .int .u8 77, .int .u8 1] 5))
  clear ho hb hlp hS hL
  go_wp2_with fail
  refine (unhide HS).mono ?_
  rintro e w6 ⟨rfl, hb⟩
  have HB6 := hide ((unhide HBp).trans (hb.mono (unhide HBp).size))
  clear hb HS HBp HBv5
  clear HBa
  go_wp2_with fail
  go_ret
  exact ⟨rfl, unhide HB6⟩
end Go.Proofs.Yteambdbcjcfdeaa
