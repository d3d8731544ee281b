/-
  ColumnPages: the walk over the law's text. Condition: at most 2^20 numbers.
-/
import Derived.Test.YteambdbcjcfdeaaColRefEnc
import Derived.Test.YteambdbcjcfdeaaColLent2
namespace Go.Proofs.Yteambdbcjcfdeaa
open Go.RowKit

theorem eql4i (a b c d a' b' c' d' : Int) (w : World) : (binOp .eql 30 (.agg #[.int .i64 a, .int .i64 b, .int .i64 c, .int .i64 d]) (.agg #[.int .i64 a', .int .i64 b', .int .i64 c', .int .i64 d'])).run Try.prog w = .ok (.bool (a == a' && (b == b' && (c == c' && d == d')))) w := by
  have u3 := Try.underlying3
  have a3 := Try.isAgg3
  have z3 := Try.sizeOf3
  rw [run_eql_struct]
  have : (Op.equalIn 10000 30 (.agg #[.int .i64 a, .int .i64 b, .int .i64 c, .int .i64 d]) (.agg #[.int .i64 a', .int .i64 b', .int .i64 c', .int .i64 d'])).run Try.prog w = .ok (a == a' && (b == b' && (c == c' && d == d'))) w := by
    rw [show (10000 : Nat) = 9999 + 1 from rfl, Op.equalIn]
    simp only [Sem.run_bind, run_underlying Try.underlying30, Result.andThen_ok]
    simp only [Std.Legacy.Range.forIn_eq_forIn_range', Std.Legacy.Range.size, Nat.sub_zero, Nat.add_sub_cancel, Nat.div_one, List.range'_succ, List.range'_zero, List.forIn_cons, List.forIn_nil]
    go_simp
    by_cases h1 : a = a' <;> by_cases h2 : b = b' <;> by_cases h3 : c = c' <;> by_cases h4 : d = d' <;> simp [h1, h2, h3, h4]
  rw [this]
  rfl
theorem eq_four (a b c d : Nat) (w : World) : (binOp .eql 30 (.agg #[.int .i64 (a : Int), .int .i64 (b : Int), .int .i64 (c : Int), .int .i64 (d : Int)]) (.agg #[.int .i64 (a : Int), .int .i64 (b : Int), .int .i64 (c : Int), .int .i64 (d : Int)])).run Try.prog w = .ok (.bool true) w := by
  rw [eql4i]
  simp
set_option maxRecDepth 100000 in
theorem columnPages_walk (A : Option Addr) (n cap : Nat) (cs : List UInt32) (w : World) (hr : Reads w w.heap.size 1 A n (cs.map uw)) (hn : n ≤ 1048576) (_hcap : n ≤ cap) :
    Calls Try.prog 3 #[.slice A n cap] w fun e w' => e = .returned (.bool true) ∧ Below w.heap.size w w' := by
  have hlen : cs.length = n := by have := hr.1; simpa using this
  have hL := hide (lent_any A n cap cs w hr (by omega))
  have HNum := fun x w => hide (num5_any x w)
  obtain ⟨s0, hs0⟩ : ∃ s, (plainS cs).length = s := ⟨_, rfl⟩
  obtain ⟨s1, hs1⟩ : ∃ s, (deltaS cs).length = s := ⟨_, rfl⟩
  obtain ⟨s2, hs2⟩ : ∃ s, (runS cs).length = s := ⟨_, rfl⟩
  obtain ⟨s3, hs3⟩ : ∃ s, (packS cs).length = s := ⟨_, rfl⟩
  obtain ⟨y, hy⟩ : ∃ y, wayS cs = y := ⟨_, rfl⟩
  have HEQ := hide (And.intro hs0 (And.intro hs1 (And.intro hs2 (And.intro hs3 hy))))
  have HLEN := Lib.hid hlen
  have HR := hide hr
  clear hr hlen hs0 hs1 hs2 hs3 hy
  go_enter Try.func3, Try.ntmps3
  go_wp2_with fail
  refine (unhide hL).mono ?_
  rintro e w1 ⟨g, gc, rfl, hgc, hgm, hg, ho1, hb1⟩
  have hin := Reads.of_own ho1
  have hin1 := words_cut hin (k := n) (by omega)
  rw [List.take_append_of_le_length (by rw [HLEN.out]; exact Nat.le_refl _), List.take_of_length_le (by rw [HLEN.out]; exact Nat.le_refl _)] at hin1
  have HIN := hide hin
  have HIN1 := hide hin1
  have HB1 := hide hb1
  clear ho1 hb1 hin hin1 hL
  by_cases hn6 : n ≤ 65536
  · have hE1 := hide (rencode_any cs A n cap w.heap.size w1 ((unhide HR).below (unhide HB1)) (unhide HB1).size hn6)
    go_wp2_with fail
    refine (unhide hE1).mono ?_
    rintro e w2 ⟨v2, rfl, hbo2⟩
    obtain ⟨A2, c2, rfl⟩ := hbo2.1.shape
    have HB2 := hide ((unhide HB1).trans (hbo2.2.mono (unhide HB1).size))
    have HIN2 := hide (((unhide HIN1).below hbo2.2).more hbo2.2.size)
    have HINF := hide (((unhide HIN).below hbo2.2).more hbo2.2.size)
    have HBO2 := hide hbo2.1
    have hE2 := hide (encode_any cs (some ⟨g, 0, none⟩) n gc w2.heap.size w2 (unhide HIN2) (Nat.le_refl _) hn6)
    clear hbo2 hE1
    go_wp2_with fail
    refine (unhide hE2).mono ?_
    rintro e w3 ⟨v3, rfl, ho3, hb3⟩
    obtain ⟨A3, c3, rfl⟩ := ho3.shape
    have HB3 := hide ((unhide HB2).trans (hb3.mono (unhide HB2).size))
    have HINF := hide (((unhide HINF).below hb3).more hb3.size)
    have HP2 := hide (((Reads.of_own (unhide HBO2)).below hb3).more hb3.size)
    have HP3 := hide (Reads.of_own ho3)
    obtain ⟨L, hL⟩ : ∃ L, (pageS cs).length = L := ⟨_, rfl⟩
    have hL5 : L ≤ 5 * n + 1 := by rw [← hL, ← HLEN.out]; exact page_len cs
    rw [hL] at HP2 HP3 ⊢
    clear hL hb3 hE2 ho3 HBO2 HIN2 HIN1 HIN HB1

    have hx2 := words_cut (unhide HINF) (k := n) (by omega)
    rw [List.take_append_of_le_length (by rw [HLEN.out]; exact Nat.le_refl _), List.take_of_length_le (by rw [HLEN.out]; exact Nat.le_refl _)] at hx2
    have hS1 := sizes_any cs (some ⟨g, 0, none⟩) n gc w3.heap.size w3 hx2 (Nat.le_refl _) (by omega)
    have HX2 := hide hx2
    clear hx2
    rw [(unhide HEQ).1, (unhide HEQ).2.1, (unhide HEQ).2.2.1, (unhide HEQ).2.2.2.1] at hS1
    have HS1 := hide hS1
    clear hS1
    go_wp2_with fail
    refine (unhide HS1).mono ?_
    rintro e w4 ⟨rfl, hb4⟩
    have HB4 := hide ((unhide HB3).trans (hb4.mono (unhide HB3).size))
    have HC4 := hide hb4
    have hS2 := rsizes_any cs A n cap w.heap.size w4 ((unhide HR).below (unhide HB4)) (unhide HB4).size hn
    rw [(unhide HEQ).1, (unhide HEQ).2.1, (unhide HEQ).2.2.1, (unhide HEQ).2.2.2.1] at hS2
    have HS2 := hide hS2
    clear hb4 hS2 HS1
    go_wp2_with fail
    refine (unhide HS2).mono ?_
    rintro e w5 ⟨rfl, hb5⟩
    have HB5 := hide ((unhide HB4).trans (hb5.mono (unhide HB4).size))
    have HC5 := hide ((unhide HC4).trans (hb5.mono (unhide HC4).size))
    clear hb5 HS2 HB4 HC4
    have heq := eq_four s0 s1 s2 s3
    have hW1 := way_any cs (some ⟨g, 0, none⟩) n gc w3.heap.size w5 ((unhide HX2).below (unhide HC5)) (unhide HC5).size (by omega)
    rw [(unhide HEQ).2.2.2.2] at hW1
    have HW1 := hide hW1
    clear hW1
    go_wp2_with (first | (go_at_call 15; refine (unhide HW1).mono ?_
                          rintro e w6 ⟨rfl, hb6⟩
                          have HB6 := hide ((unhide HB5).trans (hb6.mono (unhide HB5).size))
                          have HC6 := hide ((unhide HC5).trans (hb6.mono (unhide HC5).size))
                          have hW2 := rway_any cs A n cap w.heap.size w6 ((unhide HR).below (unhide HB6)) (unhide HB6).size hn
                          rw [(unhide HEQ).2.2.2.2] at hW2
                          have HW2 := hide hW2
                          clear hW2 hb6 HW1 HB5 HC5)
                       | (go_at_call 16; refine (unhide HW2).mono ?_
                          rintro e w7 ⟨rfl, hb7⟩
                          have HB7 := hide ((unhide HB6).trans (hb7.mono (unhide HB6).size))
                          have HC7 := hide ((unhide HC6).trans (hb7.mono (unhide HC6).size))
                          clear hb7 HW2 HB6 HC6)
                       | (go_at_call 17; refine (unhide (HNum _ _)).mono ?_
                          rintro e w8 ⟨rfl, rfl⟩
                          have hSm := same5_any A3 A2 L c3 L c2 (pageS cs) (pageS cs) w7 w3.heap.size ((unhide HP3).below (unhide HC7)) ((unhide HP2).below (unhide HC7)) (by omega) (unhide HC7).size
                          rw [beq_self_eq_true] at hSm
                          have HSm := hide hSm
                          clear hSm)
                       | (go_at_call 18; refine (unhide HSm).mono ?_
                          rintro e w9 ⟨rfl, hb9⟩
                          have HB9 := hide ((unhide HB7).trans (hb9.mono (unhide HB7).size))
                          have HC9 := hide ((unhide HC7).trans (hb9.mono (unhide HC7).size))
                          have hK := kept5_any A g n gc n cap w3.heap.size cs cs w9 HLEN.out hgc ((unhide HINF).below (unhide HC9)) (((unhide HR).below (unhide HB9)).more (unhide HB3).size) (by omega) (unhide HC9).size
                          rw [beq_self_eq_true] at hK
                          have HK := hide hK
                          clear hb9 hK HSm HB7 HC7)
                       | (go_at_call 19; refine (unhide HK).mono ?_
                          rintro e w10 ⟨rfl, hb10⟩
                          have HB10 := hide ((unhide HB9).trans (hb10.mono (unhide HB9).size))
                          clear hb10 HK HB9 HC9))
    go_ret
    exact ⟨rfl, unhide HB10⟩
  · go_wp2_with fail
    refine (rencode_long A n cap w1 (by omega)).mono ?_
    rintro e w2 ⟨rfl, rfl⟩
    go_wp2_with fail
    refine (encode_long (some ⟨g, 0, none⟩) n gc w1 (by omega)).mono ?_
    rintro e w3 ⟨rfl, rfl⟩
    obtain ⟨w3, hw3⟩ : ∃ w3, w1 = w3 := ⟨_, rfl⟩
    rw [hw3] at HB1 HIN HIN1 ⊢
    have HB3 := HB1
    have HINF := HIN
    clear hw3 HIN HIN1 HB1
    have hx2 := words_cut (unhide HINF) (k := n) (by omega)
    rw [List.take_append_of_le_length (by rw [HLEN.out]; exact Nat.le_refl _), List.take_of_length_le (by rw [HLEN.out]; exact Nat.le_refl _)] at hx2
    have hS1 := sizes_any cs (some ⟨g, 0, none⟩) n gc w3.heap.size w3 hx2 (Nat.le_refl _) (by omega)
    have HX2 := hide hx2
    clear hx2
    rw [(unhide HEQ).1, (unhide HEQ).2.1, (unhide HEQ).2.2.1, (unhide HEQ).2.2.2.1] at hS1
    have HS1 := hide hS1
    clear hS1
    go_wp2_with fail
    refine (unhide HS1).mono ?_
    rintro e w4 ⟨rfl, hb4⟩
    have HB4 := hide ((unhide HB3).trans (hb4.mono (unhide HB3).size))
    have HC4 := hide hb4
    have hS2 := rsizes_any cs A n cap w.heap.size w4 ((unhide HR).below (unhide HB4)) (unhide HB4).size hn
    rw [(unhide HEQ).1, (unhide HEQ).2.1, (unhide HEQ).2.2.1, (unhide HEQ).2.2.2.1] at hS2
    have HS2 := hide hS2
    clear hb4 hS2 HS1
    go_wp2_with fail
    refine (unhide HS2).mono ?_
    rintro e w5 ⟨rfl, hb5⟩
    have HB5 := hide ((unhide HB4).trans (hb5.mono (unhide HB4).size))
    have HC5 := hide ((unhide HC4).trans (hb5.mono (unhide HC4).size))
    clear hb5 HS2 HB4 HC4
    have heq := eq_four s0 s1 s2 s3
    have hW1 := way_any cs (some ⟨g, 0, none⟩) n gc w3.heap.size w5 ((unhide HX2).below (unhide HC5)) (unhide HC5).size (by omega)
    rw [(unhide HEQ).2.2.2.2] at hW1
    have HW1 := hide hW1
    clear hW1
    go_wp2_with (first | (go_at_call 15; refine (unhide HW1).mono ?_
                          rintro e w6 ⟨rfl, hb6⟩
                          have HB6 := hide ((unhide HB5).trans (hb6.mono (unhide HB5).size))
                          have HC6 := hide ((unhide HC5).trans (hb6.mono (unhide HC5).size))
                          have hW2 := rway_any cs A n cap w.heap.size w6 ((unhide HR).below (unhide HB6)) (unhide HB6).size hn
                          rw [(unhide HEQ).2.2.2.2] at hW2
                          have HW2 := hide hW2
                          clear hW2 hb6 HW1 HB5 HC5)
                       | (go_at_call 16; refine (unhide HW2).mono ?_
                          rintro e w7 ⟨rfl, hb7⟩
                          have HB7 := hide ((unhide HB6).trans (hb7.mono (unhide HB6).size))
                          have HC7 := hide ((unhide HC6).trans (hb7.mono (unhide HC6).size))
                          clear hb7 HW2 HB6 HC6)
                       | (go_at_call 17; refine (unhide (HNum _ _)).mono ?_
                          rintro e w8 ⟨rfl, rfl⟩
                          have hSm := same5_any none none 0 0 0 0 [] [] w7 w3.heap.size Reads.none_ Reads.none_ (by omega) (unhide HC7).size
                          rw [beq_self_eq_true] at hSm
                          have HSm := hide hSm
                          clear hSm)
                       | (go_at_call 18; refine (unhide HSm).mono ?_
                          rintro e w9 ⟨rfl, hb9⟩
                          have HB9 := hide ((unhide HB7).trans (hb9.mono (unhide HB7).size))
                          have HC9 := hide ((unhide HC7).trans (hb9.mono (unhide HC7).size))
                          have hK := kept5_any A g n gc n cap w3.heap.size cs cs w9 HLEN.out hgc ((unhide HINF).below (unhide HC9)) (((unhide HR).below (unhide HB9)).more (unhide HB3).size) (by omega) (unhide HC9).size
                          rw [beq_self_eq_true] at hK
                          have HK := hide hK
                          clear hb9 hK HSm HB7 HC7)
                       | (go_at_call 19; refine (unhide HK).mono ?_
                          rintro e w10 ⟨rfl, hb10⟩
                          have HB10 := hide ((unhide HB9).trans (hb10.mono (unhide HB9).size))
                          clear hb10 HK HB9 HC9))
    go_ret
    exact ⟨rfl, unhide HB10⟩
end Go.Proofs.Yteambdbcjcfdeaa
