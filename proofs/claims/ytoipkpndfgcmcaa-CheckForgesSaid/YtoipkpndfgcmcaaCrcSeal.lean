/-
  Seal and Whole of the program's check sum and of the document's answer, over any bytes; the walks over the Go text. Condition: fewer than 2^47 bytes.
-/
import Derived.Test.YtoipkpndfgcmcaaRows
import Derived.Test.YtoipkpndfgcmcaaWords
import Derived.Test.YtoipkpndfgcmcaaCrcMath
import Derived.Test.YtoipkpndfgcmcaaCrcConcat
import Derived.Test.YtoipkpndfgcmcaaCrcStream
import Derived.Test.YtoipkpndfgcmcaaQuiet
import Derived.Deep.RegionHeld3
import Derived.Deep.MidRow
namespace Go.Proofs.Ytoipkpndfgcmcaa
open Go.RowKit


def sealed (bs : List UInt8) : List UInt8 := bs ++ le4 (upd 0 bs)
theorem le4c_lit (n : Nat) : ∃ x0 x1 x2 x3 : Int, le4c n = #[.int .u8 x0, .int .u8 x1, .int .u8 x2, .int .u8 x3] := ⟨_, _, _, _, rfl⟩

set_option maxRecDepth 100000 in
set_option maxHeartbeats 600000 in
theorem seal_any (A : Option Addr) (n c B : Nat) (bs : List UInt8) (w : World) (hr : Reads w B 1 A n (bs.map bv)) (hn : n + 4 ≤ 140737488355328) (hB : B ≤ w.heap.size) :
    Calls Try.prog 30 #[.slice A n c] w fun e w' => ∃ v, e = .returned v ∧ w'.ownsRow w.heap.size 5 1 v (n + 4) ((sealed bs).map bv) ∧ Below w.heap.size w w' := by
  have hS := hide (sum_any bs A n c B w hr (by omega) hB)
  obtain ⟨s, hs⟩ : ∃ s, upd 0 bs = s := ⟨_, rfl⟩
  rw [hs] at hS
  have HS := Lib.hid hs
  have hBy := fun w => hide (bytes_any s w)
  obtain ⟨x0, x1, x2, x3, hx⟩ := le4c_lit s
  rw [hx] at hBy
  have HX := Lib.hid hx
  have HR := hide hr
  clear hs hx hr
  go_enter Try.func30, Try.ntmps30
  go_wp2_with (first
    | (go_at_call 24; refine (unhide hS).mono ?_; rintro e w1 ⟨rfl, hb1⟩)
    | (go_at_call 47; refine (unhide (hBy _)).mono ?_; rintro e w2 ⟨rfl, hb2⟩))
  have hz1 := hb1.size
  have hz2 := hb2.size
  have hb3 : Below w.heap.size w ((w2.alloc (.cells #[.int .u8 x0, .int .u8 x1, .int .u8 x2, .int .u8 x3] 60)).alloc (.cells #[.slice A n c, .slice (some ⟨w2.heap.size, 0, none⟩) 4 4] 29)) :=
    ((hb1.trans (hb2.mono hz1)).alloc (by omega) _).alloc (by simp; omega) _
  have rd2 : Reads (w2.alloc (.cells #[.int .u8 x0, .int .u8 x1, .int .u8 x2, .int .u8 x3] 60)) (w2.heap.size + 1) 1 (some ⟨w2.heap.size, 0, none⟩) 4 ((le4 s).map bv) :=
    reads_lit w2 _ rfl _ _ 4 rfl _ (by rw [← le4c_list, HX.out])
  have cL : ∀ (i : Nat) (p : Part), [(⟨A, n, c, bs⟩ : Part), ⟨some ⟨w2.heap.size, 0, none⟩, 4, 4, le4 s⟩][i]? = some p →
      ((w2.alloc (.cells #[.int .u8 x0, .int .u8 x1, .int .u8 x2, .int .u8 x3] 60)).alloc (.cells #[.slice A n c, .slice (some ⟨w2.heap.size, 0, none⟩) 4 4] 29)).cell? ⟨w2.heap.size + 1, i, none⟩ = some (.slice p.A p.n p.c) ∧
      Reads ((w2.alloc (.cells #[.int .u8 x0, .int .u8 x1, .int .u8 x2, .int .u8 x3] 60)).alloc (.cells #[.slice A n c, .slice (some ⟨w2.heap.size, 0, none⟩) 4 4] 29)) (w2.heap.size + 1) 1 p.A p.n (p.bs.map bv) := by
    have hk : Blk ((w2.alloc (.cells #[.int .u8 x0, .int .u8 x1, .int .u8 x2, .int .u8 x3] 60)).alloc (.cells #[.slice A n c, .slice (some ⟨w2.heap.size, 0, none⟩) 4 4] 29)) (w2.heap.size + 1) 29 #[.slice A n c, .slice (some ⟨w2.heap.size, 0, none⟩) 4 4] := by
      have := Blk.new (w2.alloc (.cells #[.int .u8 x0, .int .u8 x1, .int .u8 x2, .int .u8 x3] 60)) 29 #[.slice A n c, .slice (some ⟨w2.heap.size, 0, none⟩) 4 4]
      simpa using this
    intro i p hp
    match i, hp with
    | 0, hp =>
      simp only [List.getElem?_cons_zero, Option.some.injEq] at hp
      subst hp
      exact ⟨hk.cell 0, ((unhide HR).below (hb3.mono hB)).more (by omega)⟩
    | 1, hp =>
      simp only [List.getElem?_cons_succ, List.getElem?_cons_zero, Option.some.injEq] at hp
      subst hp
      exact ⟨hk.cell 1, rd2.alloc (by simp) _⟩
    | i + 2, hp => simp at hp
  have hC := hide (concat_any [⟨A, n, c, bs⟩, ⟨some ⟨w2.heap.size, 0, none⟩, 4, 4, le4 s⟩] (w2.heap.size + 1) (w2.heap.size + 1) _ (by simp) (by simp) (by simp) (by simp [total]; omega) cL)
  have HB3 := hide hb3
  clear cL rd2 hb1 hb2 hb3
  refine (unhide hC).mono ?_
  rintro e w3 ⟨v3, rfl, ho3, hb3⟩
  go_wp2
  go_ret
  refine ⟨_, rfl, ?_, (unhide HB3).trans (hb3.mono (by simp; omega))⟩
  have e1 : total [(⟨A, n, c, bs⟩ : Part), ⟨some ⟨w2.heap.size, 0, none⟩, 4, 4, le4 s⟩] = n + 4 := by simp [total]
  have e2 : joined [(⟨A, n, c, bs⟩ : Part), ⟨some ⟨w2.heap.size, 0, none⟩, 4, 4, le4 s⟩] = sealed bs := by simp [joined, sealed, HS.out]
  rw [e1, e2] at ho3
  exact ho3.base (by simp; omega)

set_option maxRecDepth 100000 in
theorem refSeal_any (A : Option Addr) (n c B : Nat) (bs : List UInt8) (w : World) (hr : Reads w B 1 A n (bs.map bv)) (hn : n + 4 ≤ 140737488355328) (hB : B ≤ w.heap.size) :
    Calls Try.prog 31 #[.slice A n c] w fun e w' => ∃ v, e = .returned v ∧ w'.ownsRow w.heap.size 5 1 v (n + 4) ((sealed bs).map bv) ∧ Below w.heap.size w w' := by
  obtain ⟨s, hs⟩ : ∃ s, upd 0 bs = s := ⟨_, rfl⟩
  have HS := Lib.hid hs
  have HR := hide hr
  have hq1 : Hid (0 + n ≤ maxLen ∧ (0 + n) * 1 ≤ 140737488355328) := cap1 (by omega)
  have hq2 : Hid (n + 4 ≤ maxLen ∧ (n + 4) * 1 ≤ 140737488355328) := cap1 (by omega)
  clear hs hr
  go_enter Try.func31, Try.ntmps31
  go_wp2_with (first
    | (at_builtin
       refine wpList_app _ rfl (.tmp 4) (.tmp 5) 29 rfl elem_u8 w.heap.size (.slice none 0 0) 0 [] rfl (World.ownsRow_nil _ _ _ _) B A n c _ rfl (unhide HR) (bv_one _) hq1.out (Nat.le_refl _) ?_
       intro v1 w1 ho1 hg1 hat1
       have hb1 : Below w.heap.size w w1 := grownBy_below hg1 (Nat.le_refl _) (by simp [Value.ownBlock])
       have hS := hide (refSum_any bs A n c B w1 ((unhide HR).below (hb1.mono hB)) (by omega))
       rw [HS.out] at hS
       simp only [Nat.zero_add, List.nil_append] at ho1
       have HB1 := hide hb1
       clear hg1 hat1 hb1)
    | (go_at_call 25; refine (unhide hS).mono ?_; rintro e w2 ⟨rfl, rfl⟩)
    | (go_at_call 44
       refine (four_any s _).mono ?_
       rintro e w3 ⟨v3, rfl, ho3, hb3⟩
       have hz1 := (unhide HB1).size
       have hown := hide ((Chg.of_below hb3 (fun _ => False)).own ho1 (fun _ _ h => h))
       have hz3 := hb3.size
       obtain ⟨A3, c3, rfl⟩ := ho3.shape
       have hR3 := hide (Reads.of_own ho3)
       have HB3 := hide ((unhide HB1).trans (hb3.mono hz1))
       clear ho3 hb3 ho1)
    | (at_builtin
       refine wpList_app _ rfl (.tmp 7) (.tmp 10) 29 rfl elem_u8 w.heap.size v1 n _ rfl (unhide hown) _ A3 4 c3 _ rfl (unhide hR3) (bv_one _) hq2.out (by omega) ?_
       intro v4 w4 ho4 hg4 hat4))
  go_ret
  refine ⟨_, rfl, ?_, (unhide HB3).grown hg4 (by omega) (fun i hi => ((unhide hown).lt i hi).1)⟩
  rw [← List.map_append] at ho4
  rw [show sealed bs = bs ++ le4 s by unfold sealed; rw [HS.out]]
  exact ho4
end Go.Proofs.Ytoipkpndfgcmcaa
