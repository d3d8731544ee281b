/-
  CheckOwn is true of every bytes, place, sum and turn: what is told is new memory and kept; over turned bytes it is what is told of others of the same bytes. Condition: none.
-/
import Derived.Great.BuildSlice
import Derived.Test.YtoipkpndfgcmcaaRows
import Derived.Conc.LeavingOf
import Derived.Test.YtoipkpndfgcmcaaCheckOwnM00
import Derived.Test.YtoipkpndfgcmcaaCheckOwnM07
import Derived.Test.YtoipkpndfgcmcaaCheckOwnM08

/-
  CheckOwn's beginning: what is told twice. The conditions stand in each theorem.
-/
namespace Go.Proofs.Ytoipkpndfgcmcaa.Crew
open Go Go.RowKit
set_option linter.unusedVariables false
set_option linter.unusedSimpArgs false
theorem elem_rowsA : ElemOf Try.prog 62 29 1 24 := .mk' (.slice none 0 0) Try.underlying62 (by kernel_rfl) rfl (by omega)
theorem tm_le {tm : Nat → Nat} {m : Nat} (h : ∀ i, i < m → tm i ≤ tm (i + 1)) : ∀ {i j : Nat}, i ≤ j → j ≤ m → tm i ≤ tm j := by
  intro i j hij
  induction hij with
  | refl => exact fun _ => Nat.le_refl _
  | step _ ih => exact fun hj => Nat.le_trans (ih (by omega)) (h _ (by omega))
theorem rowsA_of {B n m X cX g : Nat} {V : Nat → Value} {ln : Nat → Nat} {xs : Nat → List Value} {VS : Array Value} {T : Array Value} {w : World} (tm : Nat → Nat) (h10 : T[10]? = some (.slice (some ⟨X, 0, none⟩) m cX)) (m0 : 0 < m) (m4 : m ≤ 4) (hln : ∀ i, i < m → ln i ≤ n + 4)
    (xb : Blk w X 29 VS) (xB : B ≤ X) (vs : ∀ i, i < m → VS[i]? = some (V i)) (own : ∀ i, i < m → Row w 5 (V i) (ln i) (xs i)) (htm : ∀ i, i < m → ∀ b, (V i).ownBlock = some b → tm i ≤ b ∧ b < tm (i + 1)) (hB : B ≤ tm 0) (hg : g < tm 0) (hmono : ∀ i, i < m → tm i ≤ tm (i + 1)) : RowsA B n m X cX g V ln xs VS T w := by
  refine ⟨h10, m0, m4, hln, xb, xB, vs, own, fun i j hi hj hij b hb hb' => ?_, fun i hi b hb => ?_⟩
  · have h1 := htm i hi b hb
    have h2 := htm j hj b hb'
    rcases Nat.lt_or_gt_of_ne hij with h | h
    · have := tm_le hmono (i := i + 1) (j := j) h (by omega)
      omega
    · have := tm_le hmono (i := j + 1) (j := i) h (by omega)
      omega
  · have h1 := htm i hi b hb
    have h2 := tm_le hmono (i := 0) (j := i) (Nat.zero_le _) (by omega)
    omega
theorem two_at {P : Nat → Prop} (h0 : P 0) (h1 : P 1) (i : Nat) (hi : i < 2) : P i := by
  match i, hi with
  | 0, _ => exact h0
  | 1, _ => exact h1
theorem four_at {P : Nat → Prop} (h0 : P 0) (h1 : P 1) (h2 : P 2) (h3 : P 3) (i : Nat) (hi : i < 4) : P i := by
  match i, hi with
  | 0, _ => exact h0
  | 1, _ => exact h1
  | 2, _ => exact h2
  | 3, _ => exact h3
set_option maxRecDepth 100000 in
set_option maxHeartbeats 4000000 in
theorem co_A {B : Nat} {A : Option Addr} {n c : Nat} {i0 : Int} {x0 y0 : Nat} {bs : List UInt8} {T : Array Value} {v : World} (hn : n ≤ 140737488351232) (hB : B ≤ v.heap.size) (hx : x0 < U32) (hi1 : -9223372036854775808 ≤ i0) (hi2 : i0 ≤ 9223372036854775807) (h : R0 B A n c i0 x0 y0 bs T v) :
    (front 6 (bodyOf Try.f11)).wp Try.prog (fun e a' w' => e = .normal ∧ a'.defers = [] ∧ RA B A n c i0 x0 y0 bs a'.tmps w' ∧ Below B v w') ⟨T, []⟩ v := by
  obtain ⟨hT, hr⟩ := h
  obtain ⟨gg, rfl, hg⟩ := array_lit T 308 hT.sz
  have g0 := lit_at hg (by omega) hT.t0
  have g1 := lit_at hg (by omega) hT.t1
  have g2 := lit_at hg (by omega) hT.t2
  have g3 := lit_at hg (by omega) hT.t3
  have hlen : bs.length = n := by have := hr.1; simpa using this
  have HA := fun w => hide (awake_any w)
  have HB0 := hide (Below.refl v.heap.size v)
  have cL : ∀ w1, Below v.heap.size v w1 → Hid (Calls Try.prog 16 #[.slice A n c] w1 fun e w2 => ∃ g cap, e = .returned (.slice (some ⟨g, 0, none⟩) n cap) ∧ n + 5 ≤ cap ∧ w1.heap.size ≤ g ∧ w2.ownsRow w1.heap.size 5 1 (.slice (some ⟨g, 0, none⟩) (n + 5 : Nat) cap) (n + 5) ((bs ++ mk 5).map bv) ∧ Below w1.heap.size w1 w2) := fun w1 h => hide <|
    lent_any A n c bs w1 ((hr.below (h.mono hB)).more (Nat.le_trans hB h.size)) hn
  obtain ⟨N4, hN4⟩ : ∃ k, n + 4 = k := ⟨_, rfl⟩
  have HR := hide hr
  have HLEN := Lib.hid hlen
  have HB := Lib.hid hB
  have HX := Lib.hid hx
  have hpl := fun (m : Nat) => plc_le i0 m
  have cP : ∀ (m : Nat) (w : World), m ≤ n → Hid (Calls Try.prog 36 #[.int .i64 i0, .int .i64 (m : Int)] w fun e w' => e = .returned (.int .i64 (plc i0 m : Nat)) ∧ w = w') := fun m w hm => hide (place_any i0 m w hi1 hi2 (by omega))
  clear hT hg hr hB
  simp only [front, seqTails, seqTail, bodyOf, Try.f11, Option.getD_some, List.range, List.range.loop, List.map_cons, List.map_nil, g0, g1, g2, g3]
  clear g0 g1 g2 g3
  go_wp2_with (go_at_call 34; (with_reducible refine (unhide (HA _)).mono ?_); rintro e w1 ⟨rfl, hb1⟩)
  have HB1 := hide hb1
  clear hb1
  go_wp2_with (go_at_call 16; (with_reducible refine (unhide (cL _ (unhide HB1))).mono ?_); rintro e w2 ⟨g, cap, rfl, hcap, hgg, hown, hb2⟩)
  have HOWN := hide hown
  have HB2 := hide hb2
  have HCAP := Lib.hid hcap
  have HGG := Lib.hid hgg
  have HGL := Lib.hid (hown.lt g rfl).2
  have hrd : Reads w2 w2.heap.size 1 (some ⟨g, 0, none⟩) n (bs.map bv) := (Reads.of_own hown).front hlen
  have cS : ∀ w', Below w2.heap.size w2 w' → Hid (Calls Try.prog 30 #[.slice (some ⟨g, 0, none⟩) n cap] w' fun e w3 => ∃ A' c', e = .returned (.slice A' N4 c') ∧ w3.ownsRow w'.heap.size 5 1 (.slice A' N4 c') N4 ((sealed bs).map bv) ∧ Below w'.heap.size w' w3) := fun w' h => hide <| by
    subst hN4
    exact (seal_any (some ⟨g, 0, none⟩) n cap w2.heap.size bs w' (hrd.below h) (by omega) h.size).mono fun e w3 ⟨u, h1, h2, h3⟩ => by
      obtain ⟨A', c', rfl⟩ := h2.shape
      exact ⟨A', c', h1, h2, h3⟩
  have cSum : ∀ w', Below w2.heap.size w2 w' → Hid (Calls Try.prog 24 #[.slice (some ⟨g, 0, none⟩) n cap] w' fun e w3 => e = .returned (.int .u32 (upd 0 bs : Nat)) ∧ Below w'.heap.size w' w3) := fun w' h => hide <|
    sum_any bs (some ⟨g, 0, none⟩) n cap w2.heap.size w' (hrd.below h) (by omega) h.size
  have cF : ∀ (p : Nat) w', p + 4 ≤ n → Below w2.heap.size w2 w' → Hid (Calls Try.prog 22 #[.slice (some ⟨g, 0, none⟩) n cap, .int .i64 (p : Int), .int .u32 (x0 : Int)] w' fun e w3 => ∃ A' c', e = .returned (.tuple #[.slice A' n c', .int .i64 0]) ∧ w3.ownsRow w'.heap.size 5 1 (.slice A' n c') n ((forged bs p x0).map bv) ∧ Below w'.heap.size w' w3) := fun p w' hp h => hide <|
    (forge_any (some ⟨g, 0, none⟩) n cap w2.heap.size p x0 bs w' (hrd.below h) (by omega) h.size HX.out (by omega) hp).mono fun e w3 ⟨u, h1, h2, h3⟩ => by
      obtain ⟨A', c', rfl⟩ := h2.shape
      exact ⟨A', c', h1, h2, h3⟩
  clear hown hb2 hcap hgg hrd
  have HC0 := hide (Below.refl w2.heap.size w2)
  go_wp2_with (go_at_call 30; (with_reducible refine (unhide (cS _ (unhide HC0))).mono ?_); rintro e w3 ⟨A1, c1, rfl, ho1, hb3⟩)
  have HO1 := hide ho1
  have HB3 := hide hb3
  clear ho1 hb3
  go_wp2_with (go_at_call 30; (with_reducible refine (unhide (cS _ (unhide HB3))).mono ?_); rintro e w4 ⟨A2, c2, rfl, ho2, hb4⟩)
  have HO2 := hide ho2
  have HB4 := hide hb4
  clear ho2 hb4
  have HD4 : Hid (Below w2.heap.size w2 w4) := hide ((unhide HB3).trans ((unhide HB4).mono (unhide HB3).size))
  obtain ⟨w5, hw5⟩ : ∃ w5 : World, w4.alloc (.cells #[.slice A1 N4 c1, .slice A2 N4 c2] 29) = w5 := ⟨_, rfl⟩
  have HW5 := Lib.hid hw5
  have HE5 : Hid (Below w4.heap.size w4 w5) := hide (by rw [← hw5]; exact (Below.refl _ _).alloc (Nat.le_refl _) _)
  have HD5 : Hid (Below w2.heap.size w2 w5) := hide ((unhide HD4).trans ((unhide HE5).mono (unhide HD4).size))
  have HX5 : Hid (w5.ownsRow w4.heap.size 29 1 (.slice (some ⟨w4.heap.size, 0, none⟩) 2 2) 2 [.slice A1 N4 c1, .slice A2 N4 c2]) := hide (by rw [← hw5]; exact World.ownsRow_lit w4 _ 2 (Nat.le_refl _) (by decide) rfl)
  have cSum5 := cSum w5 (unhide HD5)
  rw [← hw5] at cSum5
  clear cSum hw5
  by_cases h4 : 4 ≤ n
  · have hd4 : (4 : Int) ≤ (n : Int) := by omega
    go_wp2_with (go_at_call 24; (with_reducible refine (unhide cSum5).mono ?_); rintro e w6 ⟨rfl, hb6⟩)
    rw [HW5.out] at hb6
    have HB6 := hide hb6
    have HD6 : Hid (Below w2.heap.size w2 w6) := hide ((unhide HD5).trans (hb6.mono (unhide HD5).size))
    have HX6 : Hid (w6.ownsRow w4.heap.size 29 1 (.slice (some ⟨w4.heap.size, 0, none⟩) 2 2) 2 [.slice A1 N4 c1, .slice A2 N4 c2]) := hide ((Chg.of_below hb6 (fun _ => False)).own (unhide HX5) (fun _ _ f => f))
    clear hb6
    -- what is known of sizes
    have s12 := (unhide HB2).size
    have s01 := (unhide HB1).size
    have s23 := (unhide HB3).size
    have s34 := (unhide HB4).size
    have s45 := (unhide HE5).size
    have s56 := (unhide HB6).size
    obtain ⟨n4, hn4⟩ : ∃ k, n - 4 = k := ⟨_, rfl⟩
    obtain ⟨p, hp⟩ : ∃ p, plc i0 n4 = p := ⟨_, rfl⟩
    have hp4 : p + 4 ≤ n := by have := hpl n4; omega
    have cP' : ∀ w, Hid (Calls Try.prog 36 #[.int .i64 i0, .int .i64 ((n : Int) - 4)] w fun e w' => e = .returned (.int .i64 (p : Int)) ∧ w = w') := fun w => by have := cP n4 w (by omega); rw [hp] at this; rw [show ((n : Int) - 4) = (n4 : Int) by omega]; exact this
    have cF' := fun w' hb => cF p w' hp4 hb
    clear cP cF hpl hp
    go_wp2_with (go_at_call 36; (with_reducible refine (unhide (cP' _)).mono ?_); rintro e w7 ⟨rfl, rfl⟩)
    go_wp2_with (go_at_call 22; (with_reducible refine (unhide (cF' _ (unhide HD6))).mono ?_); rintro e w7 ⟨A3, c3, rfl, ho3, hb7⟩)
    have HO3 := hide ho3
    have HB7 := hide hb7
    clear ho3 hb7
    have HD7 : Hid (Below w2.heap.size w2 w7) := hide ((unhide HD6).trans ((unhide HB7).mono (unhide HD6).size))
    go_wp2_with (go_at_call 36; (with_reducible refine (unhide (cP' _)).mono ?_); rintro e w8 ⟨rfl, rfl⟩)
    have HC : Hid (2 + 2 ≤ maxLen ∧ (2 + 2) * 24 ≤ 140737488355328) := cap24 (by omega)
    have s67 := (unhide HB7).size
    go_wp2_with (first
      | (go_at_call 22
         with_reducible refine (unhide (cF' _ (unhide HD7))).mono ?_
         rintro e w8 ⟨A4, c4, rfl, ho4, hb8⟩
         have HO4 := hide ho4
         have HB8 := hide hb8
         clear ho4 hb8
         have HB68 : Hid (Below w6.heap.size w6 w8) := hide ((unhide HB7).trans ((unhide HB8).mono (unhide HB7).size))
         have s78 := (unhide HB8).size
         have HE9 : Hid (Below w8.heap.size w8 (w8.alloc (.cells #[.slice A3 n c3, .slice A4 n c4] 29))) := hide ((Below.refl _ _).alloc (Nat.le_refl _) _)
         have hs9 : (w8.alloc (.cells #[.slice A3 n c3, .slice A4 n c4] 29)).heap.size = w8.heap.size + 1 := by simp
         have HX9 : Hid ((w8.alloc (.cells #[.slice A3 n c3, .slice A4 n c4] 29)).ownsRow w4.heap.size 29 1 (.slice (some ⟨w4.heap.size, 0, none⟩) 2 2) 2 [.slice A1 N4 c1, .slice A2 N4 c2]) :=
           hide ((Chg.of_below ((unhide HB68).trans ((unhide HE9).mono (unhide HB68).size)) (fun _ => False)).own (unhide HX6) (fun _ _ f => f))
         have HN9 : Hid (Reads (w8.alloc (.cells #[.slice A3 n c3, .slice A4 n c4] 29)) (w8.heap.size + 1) 1 (some ⟨w8.heap.size, 0, none⟩) 2 [.slice A3 n c3, .slice A4 n c4]) := hide (reads_lit w8 _ rfl _ #[.slice A3 n c3, .slice A4 n c4] 2 rfl _ rfl))
      | (at_builtin
         refine wpList_app _ rfl (.tmp 70) (.tmp 73) 62 rfl elem_rowsA w4.heap.size (.slice (some ⟨w4.heap.size, 0, none⟩) 2 2) 2 [.slice A1 N4 c1, .slice A2 N4 c2] rfl (unhide HX9) (w8.heap.size + 1) (some ⟨w8.heap.size, 0, none⟩) 2 2 [.slice A3 n c3, .slice A4 n c4] rfl (unhide HN9) ?_ HC.out (by rw [hs9]; omega) ?_
         · intro u hu
           simp only [List.mem_cons, List.not_mem_nil, or_false] at hu
           rcases hu with rfl | rfl <;> rfl
         intro v10 w10 hown10 hg10 hat10
         obtain ⟨AX, cX, rfl⟩ := hown10.shape
         have HO10 := hide hown10
         have HG10 := hide hg10
         clear hown10 hg10 hat10))
    have hs5 : w5.heap.size = w4.heap.size + 1 := by rw [← HW5.out]; simp
    have C10 : Chg w8 w10 (fun i => i = w4.heap.size) := ((Chg.refl w8 _).alloc _).grown (unhide HG10) (fun i hi _ => by cases hi; rfl)
    obtain ⟨X, cX', VS, hvX, hXB, hxb, hvs⟩ := own_vs (unhide HO10) (by omega)
    injection hvX with e1 _ e3
    subst e1 e3
    have hV8 : Below v.heap.size v w8 := (unhide HB1).trans (((unhide HB2).trans (((unhide HD6).trans ((unhide HB68).mono (unhide HD6).size)).mono s12)).mono s01)
    have hC : Chg v w10 (fun i => i = w4.heap.size) := (Chg.of_below hV8 (fun i => i = w4.heap.size)).trans C10 (fun i hi e => e)
    have b26 := unhide HD6
    have b28 : Below w2.heap.size w2 w8 := b26.trans ((unhide HB68).mono b26.size)
    have b38 : Below w3.heap.size w3 w8 := (unhide HB4).trans (((unhide HE5).trans (((unhide HB6).trans ((unhide HB68).mono s56)).mono s45)).mono s34)
    have b48 : Below w4.heap.size w4 w8 := (unhide HE5).trans (((unhide HB6).trans ((unhide HB68).mono s56)).mono s45)
    refine ⟨⟨g, cap, 4, X, cX, fun i => [.slice A1 N4 c1, .slice A2 N4 c2, .slice A3 n c3, .slice A4 n c4].getD i .nilFunc, fun i => [N4, N4, n, n].getD i 0, fun i => [(sealed bs).map bv, (sealed bs).map bv, (forged bs p x0).map bv, (forged bs p x0).map bv].getD i [], VS, ⟨rfl, rfl, rfl, rfl, rfl⟩, hC.reads (unhide HR) HB.out (fun i hi e => by have := HB.out; omega), ⟨rfl, HLEN.out, HCAP.out, by have := HB.out; have := HGG.out; omega, ?_⟩, rfl, ?_⟩, hC.below HB.out (fun i hi e => by have := HB.out; omega)⟩
    · exact (C10.own ((Chg.of_below b28 (fun _ => False)).own (unhide HOWN) (fun _ _ f => f)) (fun b hb e => by cases hb; have e2 : g = w4.heap.size := e; have := HGL.out; omega)).base (by have := HB.out; omega)
    · have r1 : Row w10 5 (.slice A1 N4 c1) N4 ((sealed bs).map bv) := (((Row.of_own (unhide HO1)).below b38)).chg C10 (fun b hb e => by have e2 : b = w4.heap.size := e; have := (unhide HO1).lt b hb; omega)
      have r2 : Row w10 5 (.slice A2 N4 c2) N4 ((sealed bs).map bv) := (((Row.of_own (unhide HO2)).below b48)).chg C10 (fun b hb e => by have e2 : b = w4.heap.size := e; have := (unhide HO2).lt b hb; omega)
      have r3 : Row w10 5 (.slice A3 n c3) n ((forged bs p x0).map bv) := (((Row.of_own (unhide HO3)).below (unhide HB8))).chg C10 (fun b hb e => by have e2 : b = w4.heap.size := e; have := (unhide HO3).lt b hb; omega)
      have r4 : Row w10 5 (.slice A4 n c4) n ((forged bs p x0).map bv) := (Row.of_own (unhide HO4)).chg C10 (fun b hb e => by have e2 : b = w4.heap.size := e; have := (unhide HO4).lt b hb; omega)
      refine rowsA_of (fun i => [w2.heap.size, w3.heap.size, w6.heap.size, w7.heap.size, w8.heap.size].getD i 0) rfl (by omega) (by omega) (four_at (by show N4 ≤ n + 4; omega) (by show N4 ≤ n + 4; omega) (by show n ≤ n + 4; omega) (by show n ≤ n + 4; omega)) hxb (by have := HB.out; omega)
        (four_at (hvs 0 _ rfl) (hvs 1 _ rfl) (hvs 2 _ rfl) (hvs 3 _ rfl)) (four_at r1 r2 r3 r4)
        (four_at (fun b hb => (unhide HO1).lt b hb) (fun b hb => by have := (unhide HO2).lt b hb; exact ⟨this.1, by show b < w6.heap.size; omega⟩) (fun b hb => (unhide HO3).lt b hb) (fun b hb => (unhide HO4).lt b hb))
        (by show B ≤ w2.heap.size; have := HB.out; omega) HGL.out (four_at s23 (by show w3.heap.size ≤ w6.heap.size; omega) s67 s78)
  · have hd4 : ¬ (4 : Int) ≤ (n : Int) := by omega
    go_wp2_with (go_at_call 24; (with_reducible refine (unhide cSum5).mono ?_); rintro e w6 ⟨rfl, hb6⟩)
    rw [HW5.out] at hb6
    have HB6 := hide hb6
    have HD6 : Hid (Below w2.heap.size w2 w6) := hide ((unhide HD5).trans (hb6.mono (unhide HD5).size))
    have HX6 : Hid (w6.ownsRow w4.heap.size 29 1 (.slice (some ⟨w4.heap.size, 0, none⟩) 2 2) 2 [.slice A1 N4 c1, .slice A2 N4 c2]) := hide ((Chg.of_below hb6 (fun _ => False)).own (unhide HX5) (fun _ _ f => f))
    clear hb6
    -- what is known of sizes
    have s12 := (unhide HB2).size
    have s01 := (unhide HB1).size
    have s23 := (unhide HB3).size
    have s34 := (unhide HB4).size
    have s45 := (unhide HE5).size
    have s56 := (unhide HB6).size
    have hs5 : w5.heap.size = w4.heap.size + 1 := by rw [← HW5.out]; simp
    obtain ⟨X, cX', VS, hvX, hXB, hxb, hvs⟩ := own_vs (unhide HX6) (by omega)
    injection hvX with e1 _ e3
    injection e1 with e1
    injection e1 with e1
    subst e1 e3
    have hV6 : Below v.heap.size v w6 := (unhide HB1).trans (((unhide HB2).trans ((unhide HD6).mono s12)).mono s01)
    have b26 := unhide HD6
    have b36 : Below w3.heap.size w3 w6 := (unhide HB4).trans (((unhide HE5).trans ((unhide HB6).mono s45)).mono s34)
    have b46 : Below w4.heap.size w4 w6 := (unhide HE5).trans ((unhide HB6).mono s45)
    refine ⟨⟨g, cap, 2, w4.heap.size, 2, fun i => [.slice A1 N4 c1, .slice A2 N4 c2].getD i .nilFunc, fun i => [N4, N4].getD i 0, fun i => [(sealed bs).map bv, (sealed bs).map bv].getD i [], VS, ⟨rfl, rfl, rfl, rfl, rfl⟩, (unhide HR).below (hV6.mono HB.out), ⟨rfl, HLEN.out, HCAP.out, by have := HB.out; have := HGG.out; omega, ?_⟩, rfl, ?_⟩, hV6.mono HB.out⟩
    · exact ((Chg.of_below b26 (fun _ => False)).own (unhide HOWN) (fun _ _ f => f)).base (by have := HB.out; omega)
    · have r1 : Row w6 5 (.slice A1 N4 c1) N4 ((sealed bs).map bv) := (Row.of_own (unhide HO1)).below b36
      have r2 : Row w6 5 (.slice A2 N4 c2) N4 ((sealed bs).map bv) := (Row.of_own (unhide HO2)).below b46
      refine rowsA_of (fun i => [w2.heap.size, w3.heap.size, w4.heap.size].getD i 0) rfl (by omega) (by omega) (two_at (by show N4 ≤ n + 4; omega) (by show N4 ≤ n + 4; omega)) hxb (by have := HB.out; omega)
        (two_at (hvs 0 _ rfl) (hvs 1 _ rfl)) (two_at r1 r2)
        (two_at (fun b hb => (unhide HO1).lt b hb) (fun b hb => (unhide HO2).lt b hb))
        (by show B ≤ w2.heap.size; have := HB.out; omega) HGL.out (two_at s23 s34)
end Go.Proofs.Ytoipkpndfgcmcaa.Crew

/-
  CheckOwn: every row that was told is written full. The conditions stand in each theorem. (Printed by wip/cogen.py.)
-/
namespace Go.Proofs.Ytoipkpndfgcmcaa.Crew
open Go Go.RowKit
set_option linter.unusedVariables false
set_option linter.unusedSimpArgs false
set_option maxRecDepth 100000 in
set_option maxHeartbeats 4000000 in
theorem co_B {B : Nat} {A : Option Addr} {n c : Nat} {i0 : Int} {x0 y0 : Nat} {bs : List UInt8} {T : Array Value} {v : World} (hn : n ≤ 140737488351232) (hB : B ≤ v.heap.size) (h : RA B A n c i0 x0 y0 bs T v) :
    (front 1 (seqTails 6 (bodyOf Try.f11))).wp Try.prog (fun e a' w' => e = .normal ∧ a'.defers = [] ∧ RB B A n c i0 x0 y0 bs a'.tmps w' ∧ Below B v w') ⟨T, []⟩ v := by
  obtain ⟨g, cap, m, X, cX, V, ln, xs, VS, hT, hr, hin, h11, hrw⟩ := h
  obtain ⟨gg, rfl, hg⟩ := array_lit T 308 hT.sz
  have g0 := lit_at hg (by omega) hT.t0
  have g1 := lit_at hg (by omega) hT.t1
  have g2 := lit_at hg (by omega) hT.t2
  have g3 := lit_at hg (by omega) hT.t3
  have g9 := lit_at hg (by omega) hin.t9
  have g10 := lit_at hg (by omega) hrw.t10
  have g11 := lit_at hg (by omega) h11
  obtain ⟨u0, hu0⟩ : ∃ u, upd 0 bs = u := ⟨_, rfl⟩
  have hlnN := hrw.ln4
  have hm4 := hrw.m4
  have HIN := hide hin
  have HRW := hide hrw
  have HR := hide hr
  have HU := Lib.hid hu0
  have HVS := hide hrw.vs
  have HFT : Hid (∀ b, Ft m V b → B ≤ b ∧ b ≠ g) := hide fun b ⟨i, hi, he⟩ => hrw.at_ i hi b he
  rw [hu0] at g11
  obtain ⟨zs0, hz0⟩ : ∃ z : Nat → List Value, z = xs := ⟨_, rfl⟩
  have HX0 := Lib.hid hz0
  have hlen0 : ∀ i, i < m → (zs0 i).length = ln i := fun i hi => by rw [hz0]; exact (hrw.own i hi).1
  have ROWS : Hid (∀ i, i < m → Row v 5 (V i) (ln i) (zs0 i)) := hide fun i hi => by rw [hz0]; exact hrw.own i hi
  have XB := hide hrw.xb
  have HAP := hide hrw.apart
  have HLEN0 := hide hlen0
  have HLN := hide hlnN
  have HB := Lib.hid hB
  clear hT hin hrw hr hg h11 hu0 hz0 hlen0 hlnN hB
  simp only [front, seqTails, seqTail, bodyOf, Try.f11, Option.getD_some, List.range, List.range.loop, List.map_cons, List.map_nil, g0, g1, g2, g3, g9, g10, g11]
  clear g0 g1 g2 g3 g9 g10 g11
  go_wp2_with fail
  go_loopg [16, 17] m (fun q t t17 W => ∃ (i : Nat) (zs : Nat → List Value), i + q = m ∧ t = .int .i64 (i : Int) ∧ (∀ i, i < m → Row W 5 (V i) (ln i) (zs i)) ∧ (∀ i', i' < i → zs i' = fl fB (ln i') i') ∧ Blk W X 29 VS ∧ Chg v W (Ft m V))
  case atStart => exact ⟨0, zs0, by omega, rfl, unhide ROWS, fun i' h => by omega, unhide XB, Chg.refl _ _⟩
  case round =>
    obtain ⟨i, zs, hiq, rfl, hrows, hdone, hxb, hbel⟩ := hrel
    clear ROWS XB
    by_cases hi : i < m
    · obtain ⟨q, rfl⟩ : ∃ q, gk = q + 1 := ⟨gk - 1, by omega⟩
      have hiI : (i : Int) < (m : Int) := by omega
      have hi0 : (0 : Int) ≤ (i : Int) := by omega
      have ROWS := hide hrows
      have DONE := hide hdone
      have XB1 := hide hxb
      have BEL1 := hide hbel
      clear hrows hdone hxb hbel
      go_wp2_with fail
      go_loopg [17] (ln i) (fun q t W => ∃ (k : Nat) (zs : Nat → List Value), k + q = ln i ∧ t = .int .i64 (k : Int) ∧ (∀ i, i < m → Row W 5 (V i) (ln i) (zs i)) ∧ (∀ i', i' < i → zs i' = fl fB (ln i') i') ∧ (zs i).take k = fl fB k i ∧ Blk W X 29 VS ∧ Chg v W (Ft m V))
      case atStart => exact ⟨0, zs, by omega, rfl, unhide ROWS, unhide DONE, rfl, unhide XB1, unhide BEL1⟩
      case round =>
        clear ROWS XB1 BEL1 DONE
        obtain ⟨k, zs2, hkq, rfl, hrows, hdone, htake, hxb, hbel⟩ := hrel
        have how := hrows i hi
        obtain ⟨Ai, ci, hVi⟩ := how.shape
        have cXc : wr.cell? ⟨X, i, none⟩ = some (.slice Ai (ln i) ci) := by rw [← hVi]; exact (hxb.cell i).trans (unhide HVS i hi)
        obtain ⟨li, hli⟩ : ∃ l, ln i = l := ⟨_, rfl⟩
        have hlN : ln i ≤ n + 4 := unhide HLN i hi
        rw [hli] at hlN
        have HLI := Lib.hid hli
        have hk0 : (0 : Int) ≤ (k : Int) := by omega
        by_cases hk : k < ln i
        · obtain ⟨q2, rfl⟩ : ∃ q, gk = q + 1 := ⟨gk - 1, by omega⟩
          obtain ⟨b, cp, hv, _, _⟩ := how.form (by omega)
          obtain ⟨va, hva⟩ : ∃ a, 37 * i = a := ⟨_, rfl⟩
          obtain ⟨vb, hvb⟩ : ∃ b, va + k = b := ⟨_, rfl⟩
          obtain ⟨vc, hvc⟩ : ∃ c, vb % 256 = c := ⟨_, rfl⟩
          have w1 : IntKind.i64.wrap (37 * (i : Int)) = (va : Int) := by rw [IntWalk.i64_in _ (by omega)]; omega
          have w2 : IntKind.i64.wrap ((va : Int) + (k : Int)) = (vb : Int) := by rw [IntWalk.i64_in _ (by omega)]; omega
          have w3 : IntKind.u8.wrap (vb : Int) = (vc : Int) := by rw [IntKind.wrap_u8]; omega
          have w4 : (vb : Int) % 256 = (vc : Int) := by omega
          have hfv : fB i k = .int .u8 (vc : Int) := by rw [fB, hva, hvb, hvc]
          have hVb : (V i).ownBlock = some b := by rw [hv]; rfl
          have hst : ∀ i', i' < m → Row (wr.setCell ⟨b, k, none⟩ (fB i k)) 5 (V i') (ln i') (updV zs2 i ((zs2 i).set k (fB i k)) i') := fun i' hi' => by
            by_cases e : i' = i
            · subst e
              rw [updV_same]
              rw [hv] at how ⊢
              exact how.store k _
            · rw [updV_ne _ _ e]
              exact (hrows i' hi').chg (Chg.of_set wr ⟨b, k, none⟩ _) (fun b' hb' e2 => by
                have e2 : b' = b := e2
                subst e2
                exact unhide HAP i' i hi' hi e _ hb' hVb)
          rw [hv] at hVi how
          injection hVi with hA _ hc
          subst hA hc
          have hlz := how.1
          obtain ⟨c', hc⟩ : ∃ c, (zs2 i)[k]? = some c := ⟨_, List.getElem?_eq_getElem (by omega)⟩
          have hcell : wr.cell? ⟨b, k, none⟩ = some c' := by rw [how.cellAt hk, hc]
          have hf : wr.frozen? ⟨b, k, none⟩ = false := how.frozenAt k
          have hbX : b ≠ X := fun e => how.ne_blk hxb (by decide) (by rw [← e]; rfl)
          rw [hli] at cXc
          have hkl : (k : Int) < (li : Int) := by omega
          rw [hfv] at hst
          have HLZ := Lib.hid hlz
          have HST := hide hst
          have DONE := hide hdone
          have TAKE := hide htake
          have XB2 := hide hxb
          have BEL1 := hide hbel
          have HFV := Lib.hid hfv
          have HVB := Lib.hid hVb
          clear hst hdone htake hxb hbel how hrows hc hli hv hfv hVb hva hvb hvc hlz
          go_wp2_with fail
          go_roundg q2
          case rel =>
            refine ⟨k + 1, updV zs2 i ((zs2 i).set k (fB i k)), by omega, by go_num, by rw [HFV.out]; exact unhide HST, fun i' h1 => ?_, ?_, (unhide XB2).far (fun e => hbX e.symm) _, (unhide BEL1).set_ ⟨b, k, none⟩ _ (fun _ => ⟨i, hi, HVB.out⟩)⟩
            · rw [updV_ne _ _ (by omega)]; exact unhide DONE i' h1
            · rw [updV_same]; exact fl_set (by rw [HLZ.out]; exact hk) (unhide TAKE)
          case measure => omega
        · obtain rfl : ln i = k := by omega
          rw [hli] at cXc
          have hxe : zs2 i = fl fB (ln i) i := by rw [← htake, List.take_of_length_le (by rw [how.1]; exact Nat.le_refl _)]
          have HXE := Lib.hid hxe
          have HROWS := hide hrows
          have DONE := hide hdone
          have XB2 := hide hxb
          have BEL1 := hide hbel
          clear hdone htake hxb hbel how hrows hxe hVi
          go_wp2_with fail
          go_roundg q
          case rel =>
            refine ⟨i + 1, zs2, by omega, by go_num, unhide HROWS, fun i' h1 => ?_, unhide XB2, unhide BEL1⟩
            by_cases e : i' = i
            · subst e; exact HXE.out
            · exact unhide DONE i' (by omega)
          case measure => omega
    · obtain rfl : m = i := by omega
      have HROWS := hide hrows
      have DONE := hide hdone
      have XB1 := hide hxb
      have BEL1 := hide hbel
      clear hrows hdone hxb hbel
      go_wp2_with fail
      have hC := unhide BEL1
      have hIN := unhide HIN
      have hRW := unhide HRW
      refine ⟨⟨g, cap, m, X, cX, V, ln, VS, ⟨rfl, rfl, rfl, rfl, rfl⟩, hC.reads (unhide HR) HB.out (fun b hb hf => ?_), ⟨rfl, hIN.len, hIN.cap_, hIN.ge, hC.own hIN.own (fun b hb hf => ?_)⟩, by rw [HU.out]; rfl,
        ⟨rfl, hRW.m0, hRW.m4, hRW.ln4, unhide XB1, hRW.xB, hRW.vs, fun i' h1 => ?_, hRW.apart, hRW.at_⟩⟩, hC.below HB.out fun b hb hf => ?_⟩
      · have := (unhide HFT b hf).1; omega
      · cases hb
        exact (unhide HFT _ hf).2 rfl
      · have := unhide HROWS i' h1
        rw [unhide DONE i' h1] at this
        exact this
      · have := (unhide HFT b hf).1; omega
end Go.Proofs.Ytoipkpndfgcmcaa.Crew

/-
  CheckOwn: every row that was told is grown by forty bytes, and kept. The conditions stand in each theorem. (Printed by wip/cogen.py.)
-/
namespace Go.Proofs.Ytoipkpndfgcmcaa.Crew
open Go Go.RowKit
set_option linter.unusedVariables false
set_option linter.unusedSimpArgs false
theorem elem_rows : ElemOf Try.prog 62 29 1 24 := .mk' (.slice none 0 0) Try.underlying62 (by kernel_rfl) rfl (by omega)
set_option maxRecDepth 100000 in
set_option maxHeartbeats 4000000 in
theorem co_C {B : Nat} {A : Option Addr} {n c : Nat} {i0 : Int} {x0 y0 : Nat} {bs : List UInt8} {T : Array Value} {v : World} (hn : n ≤ 140737488351232) (hB : B ≤ v.heap.size) (h : RB B A n c i0 x0 y0 bs T v) :
    (front 2 (seqTails 7 (bodyOf Try.f11))).wp Try.prog (fun e a' w' => e = .normal ∧ a'.defers = [] ∧ RC B A n c i0 x0 y0 bs a'.tmps w' ∧ Below B v w') ⟨T, []⟩ v := by
  obtain ⟨g, cap, m, X, cX, V, ln, VS, hT, hr, hin, h11, hrw⟩ := h
  obtain ⟨gg, rfl, hg⟩ := array_lit T 308 hT.sz
  have g0 := lit_at hg (by omega) hT.t0
  have g1 := lit_at hg (by omega) hT.t1
  have g2 := lit_at hg (by omega) hT.t2
  have g3 := lit_at hg (by omega) hT.t3
  have g9 := lit_at hg (by omega) hin.t9
  have g10 := lit_at hg (by omega) hrw.t10
  have g11 := lit_at hg (by omega) h11
  obtain ⟨u0, hu0⟩ : ∃ u, upd 0 bs = u := ⟨_, rfl⟩
  rw [hu0] at g11
  obtain ⟨Z, hZ⟩ : ∃ z, v.heap.size = z := ⟨_, rfl⟩
  have hm4 := hrw.m4
  have hm0 := hrw.m0
  have hCst : Cst m Z X V VS := ⟨hrw.apart, fun i hi b hb => by rw [← hZ]; exact (hrw.own i hi).lt hb, hrw.vs, by rw [← hZ]; exact hrw.xb.lt⟩
  have hG0 : Gr0 m 40 5 29 fB gB Z X V VS ln v v 0 (.slice none 0 0) (fun _ => .slice none 0 0) :=
    ⟨fun i' h1 => Sees.of_row (hrw.own i' h1), fun i' _ h2 => hrw.own i' h2, World.ownsRow_nil _ _ _ _, fun j hj => by omega, fun j hj => by omega, hrw.xb, Chg.refl _ _, hZ⟩
  have CST := hide hCst
  have HG0 := hide hG0
  have HLNN := hide hrw.ln4
  have HZ := Lib.hid hZ
  have HIN := hide hin
  have HRW := hide hrw
  have HR := hide hr
  have HU := Lib.hid hu0
  have HVS := hide hrw.vs
  have HFT : Hid (∀ b, Ft m V b → B ≤ b ∧ b ≠ g) := hide fun b ⟨i, hi, he⟩ => hrw.at_ i hi b he
  have HB := Lib.hid hB
  clear hT hin hrw hr hg h11 hu0 hB hZ hCst hG0
  simp only [front, seqTails, seqTail, bodyOf, Try.f11, Option.getD_some, List.range, List.range.loop, List.map_cons, List.map_nil, g0, g1, g2, g3, g9, g10, g11]
  clear g0 g1 g2 g3 g9 g10 g11
  go_wp2_with fail
  go_loopg [18, 19, 20, 21] m (fun q t j t20 t21 W => ∃ (i : Nat) (G : Nat → Value), i + q = m ∧ j = .int .i64 (i : Int) ∧ Gr0 m 40 5 29 fB gB Z X V VS ln v W i t G)
  case atStart => exact ⟨0, _, by omega, rfl, unhide HG0⟩
  case round =>
    obtain ⟨i, G, hiq, rfl, hgr⟩ := hrel
    clear HG0
    obtain ⟨At, ct', rfl⟩ := hgr.trow.shape
    by_cases hi : i < m
    · obtain ⟨q, rfl⟩ : ∃ q, gk = q + 1 := ⟨gk - 1, by omega⟩
      have hiI : (i : Int) < (m : Int) := by omega
      have hi0 : (0 : Int) ≤ (i : Int) := by omega
      have hE := hgr.enter (unhide CST) hi
      obtain ⟨Ai, ci, hVi⟩ := hE.cur.shape
      rw [Nat.add_zero] at hVi
      have cXc : wr.cell? ⟨X, i, none⟩ = some (.slice Ai (ln i) ci) := by rw [← hVi]; exact (hgr.xb.cell i).trans (unhide HVS i hi)
      rw [hVi] at hE
      have HE := hide hE
      clear hE hgr hVi
      go_wp2_with fail
      go_loopg [20, 21] 40 (fun q l kk W => ∃ k : Nat, k + q = 40 ∧ kk = .int .i64 (k : Int) ∧ Gr m 40 5 29 fB gB Z X V VS ln v W i k (.slice At i ct') G l)
      case atStart => exact ⟨0, by omega, rfl, unhide HE⟩
      case round =>
        obtain ⟨k, hkq, rfl, hgr⟩ := hrel
        clear HE cXc
        obtain ⟨Al, cl2, rfl⟩ := hgr.cur.shape
        by_cases hk : k < 40
        · obtain ⟨q2, rfl⟩ : ∃ q, gk = q + 1 := ⟨gk - 1, by omega⟩
          have hk40 : (k : Int) < 40 := by omega
          have hk0 : (0 : Int) ≤ (k : Int) := by omega
          obtain ⟨va, hva⟩ : ∃ a, 11 * i = a := ⟨_, rfl⟩
          obtain ⟨vd, hvd⟩ : ∃ b, va + k = b := ⟨_, rfl⟩
          obtain ⟨vc, hvc⟩ : ∃ c, vd % 256 = c := ⟨_, rfl⟩
          have w1 : IntKind.i64.wrap (11 * (i : Int)) = (va : Int) := by rw [IntWalk.i64_in _ (by omega)]; omega
          have w2 : IntKind.i64.wrap ((va : Int) + (k : Int)) = (vd : Int) := by rw [IntWalk.i64_in _ (by omega)]; omega
          have w3 : IntKind.u8.wrap (vd : Int) = (vc : Int) := by rw [IntKind.wrap_u8]; omega
          have w4 : (vd : Int) % 256 = (vc : Int) := by omega
          have hgv : gB i k = .int .u8 (vc : Int) := by rw [gB, hva, hvd, hvc]
          have hcur := hgr.cur.below ((Below.refl wr.heap.size wr).alloc (Nat.le_refl _) (.cells #[.int .u8 (vc : Int)] 5))
          have hsrc : Src Try.prog 1 29 (.slice (some ⟨wr.heap.size, 0, none⟩) 1 1) 1 [.int .u8 (vc : Int)] (wr.alloc (.cells #[.int .u8 (vc : Int)] 5)) :=
            Src.ofSlice _ Try.underlying29 ⟨wr.heap.size, 0, none⟩ 1 1 _ rfl (fun j u' hu => by
              match j, hu with
              | 0, hu =>
                simp at hu
                subst hu
                simp [Addr.add, World.cell?_alloc_at]) (fun u' hu => by
              simp at hu
              subst hu
              rfl)
          have hlN := unhide HLNN i hi
          obtain ⟨li, hli⟩ : ∃ l, ln i + k = l := ⟨_, rfl⟩
          have hcur2 := hcur
          rw [hli] at hcur2 ⊢
          have HLI := Lib.hid hli
          have HC1 : Hid (li + 1 ≤ maxLen ∧ (li + 1) * 1 ≤ 140737488355328) := cap1 (by omega)
          have HGR := hide hgr
          have HCUR := hide hcur2
          have HSRC := hide hsrc
          have HGV := Lib.hid hgv
          clear hgr hcur hcur2 hsrc hlN hgv hva hvd hvc hli
          go_wp2_with (first
            | (at_builtin
               refine wpList_app_row _ rfl (.tmp 115) (.tmp 121) 29 29 rfl elem_u8 (.slice Al li cl2) li (ct fB gB (ln i) i k) rfl (unhide HCUR) _ (.int .u8 (vc : Int)) rfl (unhide HSRC) HC1.out ?_
               intro v2 w2 ho2 how2
               have HO2 := hide ho2
               have HOW2 := hide how2
               clear ho2 how2))
          go_roundg q2
          case rel =>
            refine ⟨k + 1, by omega, by go_num, (unhide HGR).step (unhide CST) hi (by omega) (by decide) ?_ ?_⟩
            · rw [HGV.out, HLI.out]; exact unhide HO2
            · rw [HGV.out, HLI.out]; exact unhide HOW2
          case measure => omega
        · obtain rfl : k = 40 := by omega
          have HC2 : Hid (i + 1 ≤ maxLen ∧ (i + 1) * 24 ≤ 140737488355328) := cap24 (by omega)
          have hz : Z ≤ wr.heap.size := by have := hgr.chg.size; have := HZ.out; omega
          have HT := hide hgr.trow
          obtain ⟨li, hli⟩ : ∃ l, ln i + 40 = l := ⟨_, rfl⟩
          rw [hli] at hgr ⊢
          have HGR := hide hgr
          clear hgr hli
          go_wp2_with (first
            | (at_builtin
               refine wpList_app1 wr rfl (.tmp 123) (.tmp 125) 62 rfl elem_rows Z (.slice At i ct') i ((List.range i).map G) rfl (unhide HT) (.slice Al li cl2) wr.heap.size rfl rfl rfl HC2.out hz ?_
               intro v4 w4' ho4 hg4 hr4
               have HO4 := hide ho4
               have HG4 := hide hg4
               clear ho4 hg4 hr4))
          go_roundg q
          case rel => exact ⟨i + 1, _, by omega, by go_num, (unhide HGR).leave (unhide CST) hi (by decide) (unhide HO4) (unhide HG4)⟩
          case measure => omega
    · obtain rfl : m = i := by omega
      obtain ⟨Y, cY, GS, hvg, _, hgb, hgs⟩ := own_vs hgr.trow hm0
      injection hvg with e1 _ e3
      subst e1 e3
      have HGR := hide hgr
      have HGB := hide hgb
      have HGS := hide (show ∀ i, i < m → GS[i]? = some (G i) from fun i hi => hgs i _ (map_at hi))
      clear hgr hgb hgs
      go_wp2_with fail
      have hC := (unhide HGR).chg
      have hIN := unhide HIN
      have hRW := unhide HRW
      refine ⟨⟨g, cap, m, X, cX, Y, ct', V, G, ln, VS, GS, ⟨rfl, rfl, rfl, rfl, rfl⟩, hC.reads (unhide HR) HB.out (fun b hb hf => ?_), ⟨rfl, hIN.len, hIN.cap_, hIN.ge, hC.own hIN.own (fun b hb hf => ?_)⟩, by rw [HU.out]; rfl,
        ⟨rfl, rfl, hRW.m4, hRW.ln4, (unhide HGR).xb, unhide HGB, hRW.vs, unhide HGS, (unhide HGR).old, (unhide HGR).got⟩⟩, hC.below HB.out fun b hb hf => ?_⟩
      · have := (unhide HFT b hf).1; omega
      · cases hb
        exact (unhide HFT _ hf).2 rfl
      · have := (unhide HFT b hf).1; omega
end Go.Proofs.Ytoipkpndfgcmcaa.Crew

/-
  CheckOwn: every row that was told is looked at anew. The conditions stand in each theorem. (Printed by wip/cogen.py.)
-/
namespace Go.Proofs.Ytoipkpndfgcmcaa.Crew
open Go Go.RowKit
set_option linter.unusedVariables false
set_option linter.unusedSimpArgs false
set_option maxRecDepth 100000 in
set_option maxHeartbeats 4000000 in
theorem co_D {B : Nat} {A : Option Addr} {n c : Nat} {i0 : Int} {x0 y0 : Nat} {bs : List UInt8} {T : Array Value} {v : World} (hn : n ≤ 140737488351232) (hB : B ≤ v.heap.size) (h : RC B A n c i0 x0 y0 bs T v) :
    (front 1 (seqTails 9 (bodyOf Try.f11))).wp Try.prog (fun e a' w' => e = .normal ∧ a'.defers = [] ∧ RD B A n c i0 x0 y0 bs a'.tmps w' ∧ Below B v w') ⟨T, []⟩ v := by
  obtain ⟨g, cap, m, X, cX, Y, cY, V, G, ln, VS, GS, hT, hr, hin, h11, hrw⟩ := h
  obtain ⟨gg, rfl, hg⟩ := array_lit T 308 hT.sz
  have g0 := lit_at hg (by omega) hT.t0
  have g1 := lit_at hg (by omega) hT.t1
  have g2 := lit_at hg (by omega) hT.t2
  have g3 := lit_at hg (by omega) hT.t3
  have g9 := lit_at hg (by omega) hin.t9
  have g10 := lit_at hg (by omega) hrw.t10
  have g18 := lit_at hg (by omega) hrw.t18
  have g11 := lit_at hg (by omega) h11
  obtain ⟨u0, hu0⟩ : ∃ u, upd 0 bs = u := ⟨_, rfl⟩
  rw [hu0] at g11
  have hm4 := hrw.m4
  have HLNN := hide hrw.ln4
  have HGS := hide hrw.gs
  have HGB := hide hrw.yb
  have HVS := hide hrw.vs
  have HXB := hide hrw.xb
  have HGOT := hide hrw.got
  have HOLD := hide hrw.old
  have HIN := hide hin
  have HR := hide hr
  have HU := Lib.hid hu0
  clear hT hin hrw hr hg h11 hu0 hB
  simp only [front, seqTails, seqTail, bodyOf, Try.f11, Option.getD_some, List.range, List.range.loop, List.map_cons, List.map_nil, g0, g1, g2, g3, g9, g10, g11, g18]
  clear g0 g1 g2 g3 g9 g10 g11 g18
  go_wp2_with fail
  obtain ⟨wq, hwq⟩ : ∃ w : World, w = v := ⟨_, rfl⟩
  subst hwq
  go_loopg [22, 23] m (fun q t t31 W => ∃ i mm : Nat, i + q = m ∧ t = .int .i64 (i : Int) ∧ W = wq.drewN mm)
  case atStart => exact ⟨0, 0, by omega, rfl, rfl⟩
  case round =>
    obtain ⟨i, mm, hiq, rfl, rfl⟩ := hrel
    by_cases hi : i < m
    · obtain ⟨q, rfl⟩ : ∃ q, gk = q + 1 := ⟨gk - 1, by omega⟩
      have hiI : (i : Int) < (m : Int) := by omega
      have hi0 : (0 : Int) ≤ (i : Int) := by omega
      have hG := unhide HGOT i hi
      have hV := unhide HOLD i hi
      obtain ⟨Bj, cj, hGj⟩ := hG.shape
      obtain ⟨Ai, ci, hVi⟩ := hV.shape
      rw [ct_len] at hGj
      rw [fl_len] at hVi
      obtain ⟨li, hli⟩ : ∃ l, ln i = l := ⟨_, rfl⟩
      have hlN := unhide HLNN i hi
      rw [hli] at hVi hGj hG hV hlN
      obtain ⟨lj, hlj⟩ : ∃ l, li + 40 = l := ⟨_, rfl⟩
      rw [hlj] at hGj
      have cYc : ∀ m, (wq.drewN m).cell? ⟨Y, i, none⟩ = some (.slice Bj lj cj) := fun m => by rw [← hGj]; exact ((unhide HGB).cell i).trans (unhide HGS i hi)
      have cXc : ∀ m, (wq.drewN m).cell? ⟨X, i, none⟩ = some (.slice Ai li ci) := fun m => by rw [← hVi]; exact ((unhide HXB).cell i).trans (unhide HVS i hi)
      have HGI := hide hG
      have HVI := hide hV
      have HGJ := Lib.hid hGj
      have HVJ := Lib.hid hVi
      clear hG hV hGj hVi hli
      go_wp2_with fail
      go_loopg [23] lj (fun q t W => ∃ k mm : Nat, k + q = lj ∧ t = .int .i64 (k : Int) ∧ W = wq.drewN mm)
      case atStart => exact ⟨0, _, by omega, rfl, rfl⟩
      case round =>
        obtain ⟨k, mm2, hkq, rfl, rfl⟩ := hrel
        have hk0 : (0 : Int) ≤ (k : Int) := by omega
        by_cases hk : k < lj
        · obtain ⟨q2, rfl⟩ : ∃ q, gk = q + 1 := ⟨gk - 1, by omega⟩
          have hkJ : (k : Int) < (lj : Int) := by omega
          by_cases hkl : k < li
          · have hklI : (k : Int) < (li : Int) := by omega
            have hklD : decide ((k : Int) < (li : Int)) = true := decide_eq_true hklI
            have hklG : ¬ (li : Int) ≤ (k : Int) := by omega
            have hklGD : decide ((li : Int) ≤ (k : Int)) = false := decide_eq_false hklG
            have hklGN : decide (li ≤ k) = false := decide_eq_false (by omega)
            have hklDN : decide (k < li) = true := decide_eq_true hkl
            obtain ⟨va, hva⟩ : ∃ a, 37 * i = a := ⟨_, rfl⟩
            obtain ⟨vb, hvb⟩ : ∃ b, va + k = b := ⟨_, rfl⟩
            obtain ⟨vc, hvc⟩ : ∃ c, vb % 256 = c := ⟨_, rfl⟩
            have w1 : IntKind.i64.wrap (37 * (i : Int)) = (va : Int) := by rw [IntWalk.i64_in _ (by omega)]; omega
            have w2 : IntKind.i64.wrap ((va : Int) + (k : Int)) = (vb : Int) := by rw [IntWalk.i64_in _ (by omega)]; omega
            have w3 : IntKind.u8.wrap (vb : Int) = (vc : Int) := by rw [IntKind.wrap_u8]; omega
            have w4 : (vb : Int) % 256 = (vc : Int) := by omega
            have hfv : fB i k = .int .u8 (vc : Int) := by rw [fB, hva, hvb, hvc]
            obtain ⟨b1, rfl, hc1⟩ := (unhide HVI).cell HVJ.out (fl_at (fv := fB) (i := i) hkl)
            obtain ⟨b2, rfl, hc2⟩ := (unhide HGI).cell HGJ.out (ct_front (fv := fB) (gv := gB) (i := i) (k := 40) hkl)
            rw [hfv] at hc1 hc2
            have hd1 : ∀ m, (wq.drewN m).cell? ⟨b1, k, none⟩ = some (.int .u8 (vc : Int)) := fun m => hc1
            have hd2 : ∀ m, (wq.drewN m).cell? ⟨b2, k, none⟩ = some (.int .u8 (vc : Int)) := fun m => hc2
            clear hc1 hc2 hva hvb hvc hfv
            go_wp2_with fail
            go_quiet (fail)
            go_wp2_with fail
            go_roundg q2
            case rel => exact ⟨k + 1, _, by omega, by go_num, by first | rfl | (rw [World.drewN_drewN])⟩
            case measure => omega
          · have hklI : ¬ (k : Int) < (li : Int) := by omega
            have hklD : decide ((k : Int) < (li : Int)) = false := decide_eq_false hklI
            have hklG : (li : Int) ≤ (k : Int) := by omega
            have hklGD : decide ((li : Int) ≤ (k : Int)) = true := decide_eq_true hklG
            have hklGN : decide (li ≤ k) = true := decide_eq_true (by omega)
            have hklDN : decide (k < li) = false := decide_eq_false hkl
            obtain ⟨kr, hkr⟩ : ∃ r, li + r = k := ⟨k - li, by omega⟩
            obtain ⟨b2, rfl, hc2⟩ := (unhide HGI).cell HGJ.out (ct_back (fv := fB) (gv := gB) (n := li) (i := i) (k := 40) (j := kr) (by omega))
            obtain ⟨va, hva⟩ : ∃ a, 11 * i = a := ⟨_, rfl⟩
            obtain ⟨vb, hvb⟩ : ∃ a, va + k = a := ⟨_, rfl⟩
            obtain ⟨vd, hvd⟩ : ∃ b, va + kr = b := ⟨_, rfl⟩
            obtain ⟨vc, hvc⟩ : ∃ c, vd % 256 = c := ⟨_, rfl⟩
            have w1 : IntKind.i64.wrap (11 * (i : Int)) = (va : Int) := by rw [IntWalk.i64_in _ (by omega)]; omega
            have w2 : IntKind.i64.wrap ((va : Int) + (k : Int)) = (vb : Int) := by rw [IntWalk.i64_in _ (by omega)]; omega
            have w2' : IntKind.i64.wrap ((vb : Int) - (li : Int)) = (vd : Int) := by rw [IntWalk.i64_in _ (by omega)]; omega
            have w3 : IntKind.u8.wrap (vd : Int) = (vc : Int) := by rw [IntKind.wrap_u8]; omega
            have w4 : (vd : Int) % 256 = (vc : Int) := by omega
            rw [gB, hva, hvd, hvc, hkr] at hc2
            have hd2 : ∀ m, (wq.drewN m).cell? ⟨b2, k, none⟩ = some (.int .u8 (vc : Int)) := fun m => hc2
            clear hc2 hva hvb hvd hvc hkr
            go_wp2_with fail
            go_quiet (fail)
            go_wp2_with fail
            go_roundg q2
            case rel => exact ⟨k + 1, _, by omega, by go_num, by first | rfl | (rw [World.drewN_drewN])⟩
            case measure => omega
        · obtain rfl : lj = k := by omega
          go_wp2_with fail
          go_roundg q
          case rel => exact ⟨i + 1, _, by omega, by go_num, rfl⟩
          case measure => omega
    · obtain rfl : m = i := by omega
      go_wp2_with fail
      have hIN := unhide HIN
      exact ⟨⟨g, cap, ⟨rfl, rfl, rfl, rfl, rfl⟩, (unhide HR).drewN _, ⟨rfl, hIN.len, hIN.cap_, hIN.ge, hIN.own⟩, by rw [HU.out]; rfl⟩, rfl, rfl, rfl, Nat.le_refl _, fun _ _ => rfl⟩
end Go.Proofs.Ytoipkpndfgcmcaa.Crew

/-
  CheckOwn behind its rows: the bytes lent are kept; they are turned; what is told of them anew is what is told of others of the same bytes. The conditions stand in each theorem.
-/
namespace Go.Proofs.Ytoipkpndfgcmcaa.Crew
open Go Go.RowKit
set_option linter.unusedVariables false
set_option linter.unusedSimpArgs false
theorem forge_bad (A : Option Addr) (n c x : Nat) (k : Int) (w : World) (hn : n ≤ 140737488355328) (h2 : k ≤ 9223372036854775807) (hk : k < 0 ∨ (n : Int) - 4 < k) :
    Calls Try.prog 22 #[.slice A n c, .int .i64 k, .int .u32 (x : Int)] w fun e w' => e = .returned (.tuple #[.slice none 0 0, .int .i64 2]) ∧ w = w' := by
  by_cases h : k < 0
  · go_enter Try.func22, Try.ntmps22
    go_wp2
    go_ret2
    exact ⟨rfl, rfl⟩
  · have h' : (n : Int) - 4 < k := by omega
    have h0 : 0 ≤ k := by omega
    go_enter Try.func22, Try.ntmps22
    go_wp2
    go_ret2
    exact ⟨rfl, rfl⟩
def frg (zs : List UInt8) (p x : Nat) : List UInt8 := if p + 4 ≤ zs.length then forged zs p x else []
theorem frg_le (zs : List UInt8) (p x : Nat) : (frg zs p x).length ≤ zs.length := by
  unfold frg
  split
  · rename_i h
    exact Nat.le_of_eq (at4_len _ h)
  · exact Nat.zero_le _
theorem forge_u (A : Option Addr) (n cap B p x : Nat) (zs : List UInt8) (w : World) (hr : Reads w B 1 A n (zs.map bv)) (hn : n ≤ 140737488351232) (hB : B ≤ w.heap.size) (hx : x < U32) (hcap : n ≤ cap) (hp : p ≤ n) :
    Calls Try.prog 22 #[.slice A n cap, .int .i64 (p : Int), .int .u32 (x : Int)] w fun e w' => ∃ A' c' er, e = .returned (.tuple #[.slice A' (frg zs p x).length c', .int .i64 er]) ∧ Reads w' w'.heap.size 1 A' (frg zs p x).length ((frg zs p x).map bv) ∧ Below w.heap.size w w' := by
  have hl : zs.length = n := by have := hr.1; simpa using this
  by_cases h : p + 4 ≤ zs.length
  · refine (forge_any A n cap B p x zs w hr (by omega) hB hx hcap (by omega)).mono fun e w' ⟨v, h1, h2, h3⟩ => ?_
    obtain ⟨A', c', rfl⟩ := h2.shape
    have hf : (frg zs p x) = forged zs p x := if_pos h
    have hz : (forged zs p x).length = n := by rw [← hl]; exact at4_len _ h
    rw [hf, hz]
    exact ⟨A', c', 0, h1, Reads.of_own h2, h3⟩
  · refine (forge_bad A n cap x p w (by omega) (by omega) (by omega)).mono fun e w' ⟨h1, h2⟩ => ?_
    have hf : (frg zs p x) = [] := if_neg h
    rw [hf]
    subst h2
    exact ⟨none, 0, 2, h1, Reads.none_, Below.refl _ _⟩
def RE1 (B : Nat) (A : Option Addr) (n c : Nat) (i0 : Int) (x0 y0 : Nat) (bs : List UInt8) (T : Array Value) (w : World) : Prop :=
  ∃ g cap zs, BsT A n c i0 x0 y0 T ∧ Reads w B 1 A n (bs.map bv) ∧ Lnt B n g cap zs T w ∧ T[11]? = some (.int .u32 (upd 0 bs : Nat)) ∧ T[24]? = some (.int .i64 (plc i0 n : Nat)) ∧ T[25]? = some (.bool (whole bs))
theorem RE1.eqv {B : Nat} {A : Option Addr} {n c : Nat} {i0 : Int} {x0 y0 : Nat} {bs : List UInt8} (T : Array Value) (v w : World) (e : Eqv v w) (h : RE1 B A n c i0 x0 y0 bs T w) : RE1 B A n c i0 x0 y0 bs T v :=
  let ⟨g, cap, zs, h1, h2, h3, h4, h5, h6⟩ := h; ⟨g, cap, zs, h1, e.reads h2, h3.eqv e, h4, h5, h6⟩
set_option maxRecDepth 100000 in
set_option maxHeartbeats 4000000 in
theorem co_E1 {B : Nat} {A : Option Addr} {n c : Nat} {i0 : Int} {x0 y0 : Nat} {bs : List UInt8} {T : Array Value} {v : World} (hn : n ≤ 140737488351232) (hB : B ≤ v.heap.size) (hx : x0 < U32) (hi1 : -9223372036854775808 ≤ i0) (hi2 : i0 ≤ 9223372036854775807) (h : RD B A n c i0 x0 y0 bs T v) :
    (front 4 (seqTails 10 (bodyOf Try.f11))).wp Try.prog (fun e a' w' => e = .normal ∧ a'.defers = [] ∧ RE1 B A n c i0 x0 y0 bs a'.tmps w' ∧ Below B v w') ⟨T, []⟩ v := by
  obtain ⟨g, cap, hT, hr, hin, h11⟩ := h
  obtain ⟨gg, rfl, hg⟩ := array_lit T 308 hT.sz
  have g0 := lit_at hg (by omega) hT.t0
  have g1 := lit_at hg (by omega) hT.t1
  have g2 := lit_at hg (by omega) hT.t2
  have g3 := lit_at hg (by omega) hT.t3
  have g9 := lit_at hg (by omega) hin.t9
  have g11 := lit_at hg (by omega) h11
  obtain ⟨u0, hu0⟩ : ∃ u, upd 0 bs = u := ⟨_, rfl⟩
  rw [hu0] at g11
  have hcap := hin.cap_
  have hrd : Reads v v.heap.size 1 (some ⟨g, 0, none⟩) (n + 5) ((bs ++ mk 5).map bv) := Reads.of_own hin.own
  have hrn := hrd.front hin.len
  have cK : Hid (Calls Try.prog 20 #[.slice (some ⟨g, 0, none⟩) n cap, .slice A n c] v fun e w' => e = .returned (.bool true) ∧ Below v.heap.size v w') := hide <|
    (kept_any A g n cap n c v.heap.size bs bs v hin.len hin.cap_ hrd (hr.more hB) (by omega) (Nat.le_refl _)).mono fun e w' ⟨h1, h2⟩ => ⟨by rw [h1]; simp, h2⟩
  obtain ⟨p, hp⟩ : ∃ p, plc i0 n = p := ⟨_, rfl⟩
  have hpn : p ≤ n := hp ▸ plc_le i0 n
  have cP : ∀ w, Hid (Calls Try.prog 36 #[.int .i64 i0, .int .i64 (n : Int)] w fun e w' => e = .returned (.int .i64 (p : Int)) ∧ w = w') := fun w => hide (by have := place_any i0 n w hi1 hi2 (by omega); rw [hp] at this; exact this)
  obtain ⟨b0, hb0⟩ : ∃ b, whole bs = b := ⟨_, rfl⟩
  have cW : ∀ w', Below v.heap.size v w' → Hid (Calls Try.prog 28 #[.slice (some ⟨g, 0, none⟩) n cap] w' fun e w2 => e = .returned (.bool b0) ∧ Below v.heap.size v w2) := fun w' h => hide <|
    (whole_any (some ⟨g, 0, none⟩) n cap v.heap.size bs w' (hrn.below h) (by omega) h.size (by omega)).mono fun e w2 ⟨h1, h2⟩ => ⟨by rw [h1, hb0], h.trans (h2.mono h.size)⟩
  have cF : ∀ w', Below v.heap.size v w' → Hid (Calls Try.prog 22 #[.slice (some ⟨g, 0, none⟩) n cap, .int .i64 (p : Int), .int .u32 (x0 : Int)] w' fun e w2 => ∃ A' m' c' er, e = .returned (.tuple #[.slice A' m' c', .int .i64 er]) ∧ Below v.heap.size v w2) := fun w' h => hide <|
    (forge_u (some ⟨g, 0, none⟩) n cap v.heap.size p x0 bs w' (hrn.below h) hn h.size hx (by omega) hpn).mono fun e w2 ⟨A', c', er, h1, _, h3⟩ => ⟨A', _, c', er, h1, h.trans (h3.mono h.size)⟩
  have HIN := hide hin
  have HR := hide hr
  have HU := Lib.hid hu0
  have HP := Lib.hid hp
  have HB0 := Lib.hid hb0
  have HB := Lib.hid hB
  clear hT hin hr hg h11 hu0 hp hb0 hB hrd hrn hcap hpn
  simp only [front, seqTails, seqTail, bodyOf, Try.f11, Option.getD_some, List.range, List.range.loop, List.map_cons, List.map_nil, g0, g1, g2, g3, g9, g11]
  clear g0 g1 g2 g3 g9 g11
  go_wp2_with (go_at_call 20; (with_reducible refine (unhide cK).mono ?_); rintro e w1 ⟨rfl, hb1⟩)
  have HB1 := hide hb1
  clear hb1
  go_wp2_with (go_at_call 36; (with_reducible refine (unhide (cP _)).mono ?_); rintro e w2 ⟨rfl, rfl⟩)
  go_wp2_with (go_at_call 28; (with_reducible refine (unhide (cW _ (unhide HB1))).mono ?_); rintro e w2 ⟨rfl, hb2⟩)
  have HB2 := hide hb2
  clear hb2
  go_wp2_with (go_at_call 22; (with_reducible refine (unhide (cF _ (unhide HB2))).mono ?_); rintro e w3 ⟨A', m', c', er, rfl, hb3⟩)
  have hIN := unhide HIN
  exact ⟨⟨g, cap, bs, ⟨rfl, rfl, rfl, rfl, rfl⟩, (unhide HR).below (hb3.mono HB.out), ⟨rfl, hIN.len, hIN.cap_, hIN.ge, (Chg.of_below hb3 (fun _ => False)).own hIN.own (fun _ _ f => f)⟩, by rw [HU.out]; rfl, by rw [HP.out]; rfl, by rw [HB0.out]; rfl⟩, hb3.mono HB.out⟩
end Go.Proofs.Ytoipkpndfgcmcaa.Crew

/-
  CheckOwn: the bytes lent are turned. The conditions stand in each theorem.
-/
namespace Go.Proofs.Ytoipkpndfgcmcaa.Crew
open Go Go.RowKit
set_option linter.unusedVariables false
set_option linter.unusedSimpArgs false
theorem set_front {zs : List UInt8} {i Z : Nat} (hi : i < zs.length) (hZ : Z < 256) (l : List UInt8) : ((zs ++ l).map bv).set i (.int .u8 (Z : Int)) = ((zs.set i (UInt8.ofNat Z) ++ l).map bv) := by
  rw [bv_nat Z hZ, ← List.map_set, List.set_append_left _ _ hi]
set_option maxRecDepth 100000 in
set_option maxHeartbeats 4000000 in
theorem co_E2 {B : Nat} {A : Option Addr} {n c : Nat} {i0 : Int} {x0 y0 : Nat} {bs : List UInt8} {T : Array Value} {v : World} (hn : n ≤ 140737488351232) (hB : B ≤ v.heap.size) (hy : y0 < 256) (h : RE1 B A n c i0 x0 y0 bs T v) :
    (front 1 (seqTails 14 (bodyOf Try.f11))).wp Try.prog (fun e a' w' => e = .normal ∧ a'.defers = [] ∧ RE1 B A n c i0 x0 y0 bs a'.tmps w' ∧ Below B v w') ⟨T, []⟩ v := by
  obtain ⟨g, cap, zs0, hT, hr, hin, h11, h24, h25⟩ := h
  obtain ⟨gg, rfl, hg⟩ := array_lit T 308 hT.sz
  have g0 := lit_at hg (by omega) hT.t0
  have g1 := lit_at hg (by omega) hT.t1
  have g2 := lit_at hg (by omega) hT.t2
  have g3 := lit_at hg (by omega) hT.t3
  have g9 := lit_at hg (by omega) hin.t9
  have g11 := lit_at hg (by omega) h11
  have g24 := lit_at hg (by omega) h24
  have g25 := lit_at hg (by omega) h25
  obtain ⟨u0, hu0⟩ : ∃ u, upd 0 bs = u := ⟨_, rfl⟩
  obtain ⟨p, hp⟩ : ∃ p, plc i0 n = p := ⟨_, rfl⟩
  obtain ⟨b0, hb0⟩ : ∃ b, whole bs = b := ⟨_, rfl⟩
  rw [hu0] at g11
  rw [hp] at g24
  rw [hb0] at g25
  have hlen := hin.len
  have HIN := hide hin
  have HROW := hide hin.own
  have HR := hide hr
  have HU := Lib.hid hu0
  have HP := Lib.hid hp
  have HB0 := Lib.hid hb0
  have HB := Lib.hid hB
  have HLEN := Lib.hid hlen
  clear hT hin hr hg h11 h24 h25 hu0 hp hb0 hB hlen
  simp only [front, seqTails, seqTail, bodyOf, Try.f11, Option.getD_some, List.range, List.range.loop, List.map_cons, List.map_nil, g0, g1, g2, g3, g9, g11, g24, g25]
  clear g0 g1 g2 g3 g9 g11 g24 g25
  go_wp2_with fail
  go_loopg [26] n (fun q t W => ∃ (i : Nat) (zs : List UInt8), i + q = n ∧ t = .int .i64 (i : Int) ∧ zs.length = n ∧ W.ownsRow B 5 1 (.slice (some ⟨g, 0, none⟩) (n + 5 : Nat) cap) (n + 5) ((zs ++ mk 5).map bv) ∧ Chg v W (fun b => b = g))
  case atStart => exact ⟨0, zs0, by omega, rfl, HLEN.out, unhide HROW, Chg.refl _ _⟩
  case round =>
    obtain ⟨i, zs, hi, rfl, hxl, hrow, hch⟩ := hrel
    clear HROW HLEN
    by_cases hlt : i < n
    · obtain ⟨q, rfl⟩ : ∃ q, gk = q + 1 := ⟨gk - 1, by omega⟩
      have hiI : (i : Int) < (n : Int) := by omega
      have hi0 : (0 : Int) ≤ (i : Int) := by omega
      obtain ⟨x, hx⟩ : ∃ x, zs[i]? = some x := ⟨_, List.getElem?_eq_getElem (by omega)⟩
      obtain ⟨X, hX⟩ : ∃ X, x.toNat = X := ⟨_, rfl⟩
      have hx4 : X < 256 := by rw [← hX]; exact x.toNat_lt
      have hcell : wr.cell? ⟨g, i, none⟩ = some (.int .u8 (X : Int)) := by
        rw [hrow.cellAt i (by omega), List.getElem?_map, List.getElem?_append_left (by omega), hx, ← hX]
        rfl
      have hf : wr.frozen? ⟨g, i, none⟩ = false := hrow.frozenAt i
      obtain ⟨P, hP⟩ : ∃ P, i % 3 = P := ⟨_, rfl⟩
      have a1 : (i : Int) % 3 = (P : Int) := by omega
      have a1' : (i : Int).tmod 3 = (P : Int) := by rw [Int.tmod_eq_emod_of_nonneg (by omega)]; exact a1
      have a2 : IntKind.u8.wrap (P : Int) = (P : Int) := by rw [IntKind.wrap_u8]; omega
      have a2' : (P : Int) % 256 = (P : Int) := by omega
      obtain ⟨Y, hY⟩ : ∃ Y, (X + y0) % 256 = Y := ⟨_, rfl⟩
      have a4 : IntKind.u8.wrap ((X : Int) + (y0 : Int)) = (Y : Int) := by rw [IntKind.wrap_u8]; omega
      obtain ⟨Z, hZ⟩ : ∃ Z, (Y + P) % 256 = Z := ⟨_, rfl⟩
      have a5 : IntKind.u8.wrap ((Y : Int) + (P : Int)) = (Z : Int) := by rw [IntKind.wrap_u8]; omega
      have hZ4 : Z < 256 := by omega
      clear hP hY hZ
      have hst := (hrow.stored i (.int .u8 (Z : Int))).1
      rw [set_front (by omega) hZ4] at hst
      have HST := hide hst
      have HCH2 := hide (hch.set_ ⟨g, i, none⟩ (.int .u8 (Z : Int)) (fun _ => rfl))
      have HXL := Lib.hid hxl
      clear hrow hch hst hx hX hxl hZ4
      go_wp2_with fail
      go_roundg q
      case rel => exact ⟨i + 1, zs.set i (UInt8.ofNat Z), by omega, by go_num, by rw [List.length_set]; exact HXL.out, unhide HST, unhide HCH2⟩
      case measure => omega
    · obtain rfl : n = i := by omega
      have HROW := hide hrow
      have HCH := hide hch
      have HXL := Lib.hid hxl
      clear hrow hch hxl
      go_wp2_with fail
      have hIN := unhide HIN
      have hge := hIN.ge
      exact ⟨⟨g, cap, zs, ⟨rfl, rfl, rfl, rfl, rfl⟩, (unhide HCH).reads (unhide HR) HB.out (fun b hb e => by have e2 : b = g := e; omega), ⟨rfl, HXL.out, hIN.cap_, hIN.ge, unhide HROW⟩, by rw [HU.out]; rfl, by rw [HP.out]; rfl, by rw [HB0.out]; rfl⟩, (unhide HCH).below HB.out (fun b hb e => by have e2 : b = g := e; omega)⟩
end Go.Proofs.Ytoipkpndfgcmcaa.Crew

/-
  CheckOwn: what is told of the bytes lent, turned, is what is told of others of the same bytes. The conditions stand in each theorem.
-/
namespace Go.Proofs.Ytoipkpndfgcmcaa.Crew
open Go Go.RowKit
set_option linter.unusedVariables false
set_option linter.unusedSimpArgs false
set_option maxRecDepth 100000 in
set_option maxHeartbeats 4000000 in
theorem co_E3 {B : Nat} {A : Option Addr} {n c : Nat} {i0 : Int} {x0 y0 : Nat} {bs : List UInt8} {T : Array Value} {v : World} (hn : n ≤ 140737488351232) (hB : B ≤ v.heap.size) (hx : x0 < U32) (h : RE1 B A n c i0 x0 y0 bs T v) :
    (front 6 (seqTails 15 (bodyOf Try.f11))).wp Try.prog (fun e a' w' => e = .normal ∧ a'.defers = [] ∧ RE B A n c i0 x0 y0 bs a'.tmps w' ∧ Below B v w') ⟨T, []⟩ v := by
  obtain ⟨g, cap, zs, hT, hr, hin, h11, h24, h25⟩ := h
  obtain ⟨gg, rfl, hg⟩ := array_lit T 308 hT.sz
  have g0 := lit_at hg (by omega) hT.t0
  have g1 := lit_at hg (by omega) hT.t1
  have g2 := lit_at hg (by omega) hT.t2
  have g3 := lit_at hg (by omega) hT.t3
  have g9 := lit_at hg (by omega) hin.t9
  have g11 := lit_at hg (by omega) h11
  have g24 := lit_at hg (by omega) h24
  have g25 := lit_at hg (by omega) h25
  obtain ⟨u0, hu0⟩ : ∃ u, upd 0 bs = u := ⟨_, rfl⟩
  obtain ⟨p, hp⟩ : ∃ p, plc i0 n = p := ⟨_, rfl⟩
  have hpn : p ≤ n := hp ▸ plc_le i0 n
  obtain ⟨b0, hb0⟩ : ∃ b, whole bs = b := ⟨_, rfl⟩
  obtain ⟨b1, hb1⟩ : ∃ b, whole zs = b := ⟨_, rfl⟩
  obtain ⟨F, hF⟩ : ∃ F, frg zs p x0 = F := ⟨_, rfl⟩
  obtain ⟨m, hm⟩ : ∃ m, F.length = m := ⟨_, rfl⟩
  obtain ⟨u1, hu1⟩ : ∃ u, upd 0 zs = u := ⟨_, rfl⟩
  rw [hu0] at g11
  rw [hp] at g24
  rw [hb0] at g25
  have hlen := hin.len
  have hcap := hin.cap_
  have hmn : m ≤ n := by rw [← hm, ← hF, ← hlen]; exact frg_le _ _ _
  have hrd : Reads v v.heap.size 1 (some ⟨g, 0, none⟩) n (zs.map bv) := (Reads.of_own hin.own).front hlen
  have e0 : (b0 != b0) = false := by simp
  have e1 : (b1 != b1) = false := by simp
  have HBV := hide (Below.refl v.heap.size v)
  have cL : Hid (Calls Try.prog 16 #[.slice (some ⟨g, 0, none⟩) n cap] v fun e w2 => ∃ g2 cap2, e = .returned (.slice (some ⟨g2, 0, none⟩) n cap2) ∧ n + 5 ≤ cap2 ∧ v.heap.size ≤ g2 ∧ g2 < w2.heap.size ∧ Reads w2 w2.heap.size 1 (some ⟨g2, 0, none⟩) n (zs.map bv) ∧ Below v.heap.size v w2) := hide <|
    (lent_any (some ⟨g, 0, none⟩) n cap zs v hrd hn).mono fun e w2 ⟨g2, cap2, h1, h2, h3, h4, h5⟩ => ⟨g2, cap2, h1, h2, h3, (h4.lt g2 rfl).2, (Reads.of_own h4).front hlen, h5⟩
  have cW : ∀ w', Below v.heap.size v w' → Hid (Calls Try.prog 28 #[.slice (some ⟨g, 0, none⟩) n cap] w' fun e w2 => e = .returned (.bool b1) ∧ Below v.heap.size v w2 ∧ Below w'.heap.size w' w2) := fun w' h => hide <|
    (whole_any (some ⟨g, 0, none⟩) n cap v.heap.size zs w' (hrd.below h) (by omega) h.size (by omega)).mono fun e w2 ⟨h1, h2⟩ => ⟨by rw [h1, hb1], h.trans (h2.mono h.size), h2⟩
  have cS : ∀ w', Below v.heap.size v w' → Hid (Calls Try.prog 24 #[.slice (some ⟨g, 0, none⟩) n cap] w' fun e w2 => e = .returned (.int .u32 (u1 : Int)) ∧ Below w'.heap.size w' w2) := fun w' h => hide <|
    (sum_any zs (some ⟨g, 0, none⟩) n cap v.heap.size w' (hrd.below h) (by omega) h.size).mono fun e w2 ⟨h1, h2⟩ => ⟨by rw [h1, hu1], h2⟩
  have cF : ∀ w', Below v.heap.size v w' → Hid (Calls Try.prog 22 #[.slice (some ⟨g, 0, none⟩) n cap, .int .i64 (p : Int), .int .u32 (x0 : Int)] w' fun e w2 => ∃ A' c' er, e = .returned (.tuple #[.slice A' m c', .int .i64 er]) ∧ Reads w2 w2.heap.size 1 A' m (F.map bv) ∧ Below w'.heap.size w' w2) := fun w' h => hide <| by
    have := forge_u (some ⟨g, 0, none⟩) n cap v.heap.size p x0 zs w' (hrd.below h) hn h.size hx (by omega) hpn
    rw [hF, hm] at this
    exact this
  have cL0 : ∀ w', Below v.heap.size v w' → Hid (Calls Try.prog 16 #[.slice A n c] w' fun e w2 => ∃ g2 cap2, e = .returned (.slice (some ⟨g2, 0, none⟩) n cap2) ∧ n ≤ cap2 ∧ Reads w2 w2.heap.size 1 (some ⟨g2, 0, none⟩) n (bs.map bv) ∧ Below w'.heap.size w' w2) := fun w' h => hide <|
    (lent_any A n c bs w' ((hr.below (h.mono hB)).more (Nat.le_trans hB h.size)) hn).mono fun e w2 ⟨g2, cap2, h1, h2, h3, h4, h5⟩ => ⟨g2, cap2, h1, by omega, (Reads.of_own h4).front (by have := hr.1; simpa using this), h5⟩
  have cW0 : ∀ w' A' c', Reads w' w'.heap.size 1 A' n (bs.map bv) → n ≤ c' → Hid (Calls Try.prog 28 #[.slice A' n c'] w' fun e w2 => e = .returned (.bool b0) ∧ Below w'.heap.size w' w2) := fun w' A' c' h hc => hide <|
    (whole_any A' n c' w'.heap.size bs w' h (by omega) (Nat.le_refl _) hc).mono fun e w2 ⟨h1, h2⟩ => ⟨by rw [h1, hb0], h2⟩
  have HIN := hide hin
  have HR := hide hr
  have HU := Lib.hid hu0
  have HU1 := Lib.hid hu1
  have HP := Lib.hid hp
  have HB0 := Lib.hid hb0
  have HB1 := Lib.hid hb1
  have HX := Lib.hid hx
  have HF := Lib.hid hF
  have HM := Lib.hid hm
  have HB := Lib.hid hB
  have HLEN := Lib.hid hlen
  have HPN := Lib.hid hpn
  have HMN := Lib.hid hmn
  clear hT hin hr hg h11 h24 h25 hu0 hu1 hp hb0 hb1 hF hm hB hlen hrd hcap hpn hmn hx
  simp only [front, seqTails, seqTail, bodyOf, Try.f11, Option.getD_some, List.range, List.range.loop, List.map_cons, List.map_nil, g0, g1, g2, g3, g9, g11, g24, g25]
  clear g0 g1 g2 g3 g9 g11 g24 g25
  go_wp2_with (go_at_call 16; (with_reducible refine (unhide cL).mono ?_); rintro e w1 ⟨g2, cap2, rfl, hc2, hg2, hl2, hr2, hb2⟩)
  have HR2 := hide hr2
  have HBW1 := hide hb2
  have HG2 := Lib.hid hg2
  have HL2 := Lib.hid hl2
  have HC2 := Lib.hid hc2
  have cWn : ∀ w', Below w1.heap.size w1 w' → Hid (Calls Try.prog 28 #[.slice (some ⟨g2, 0, none⟩) n cap2] w' fun e w2 => e = .returned (.bool b1) ∧ Below w'.heap.size w' w2) := fun w' h => hide <|
    (whole_any (some ⟨g2, 0, none⟩) n cap2 w1.heap.size zs w' (hr2.below h) (by omega) h.size (by omega)).mono fun e w2 ⟨h1, h2⟩ => ⟨by rw [h1, HB1.out], h2⟩
  have cFn : ∀ w', Below w1.heap.size w1 w' → Hid (Calls Try.prog 22 #[.slice (some ⟨g2, 0, none⟩) n cap2, .int .i64 (p : Int), .int .u32 (x0 : Int)] w' fun e w2 => ∃ A' c' er, e = .returned (.tuple #[.slice A' m c', .int .i64 er]) ∧ Reads w2 w2.heap.size 1 A' m (F.map bv) ∧ Below w'.heap.size w' w2) := fun w' h => hide <| by
    have := forge_u (some ⟨g2, 0, none⟩) n cap2 w1.heap.size p x0 zs w' (hr2.below h) hn h.size HX.out (by omega) HPN.out
    rw [HF.out, HM.out] at this
    exact this
  clear hr2 hb2 hg2 hl2 hc2 cL
  go_wp2_with (go_at_call 28; (with_reducible refine (unhide (cW _ (unhide HBW1))).mono ?_); rintro e w2 ⟨rfl, hb2, hb12⟩)
  have HBW2 := hide hb2
  have HW12 : Hid (Below w1.heap.size w1 w2) := hide hb12
  clear hb2 hb12
  go_wp2_with (go_at_call 22; (with_reducible refine (unhide (cF _ (unhide HBW2))).mono ?_); rintro e w3 ⟨A3, c3, er3, rfl, hr3, hb3⟩)
  have HR3 := hide hr3
  have HB3 := hide hb3
  have HW13 : Hid (Below w1.heap.size w1 w3) := hide ((unhide HW12).trans (hb3.mono (unhide HW12).size))
  have HBW3 : Hid (Below v.heap.size v w3) := hide ((unhide HBW2).trans (hb3.mono (unhide HBW2).size))
  clear hr3 hb3
  go_wp2_with (go_at_call 22; (with_reducible refine (unhide (cFn _ (unhide HW13))).mono ?_); rintro e w4 ⟨A4, c4, er4, rfl, hr4, hb4⟩)
  have HW14 : Hid (Below w1.heap.size w1 w4) := hide ((unhide HW13).trans (hb4.mono (unhide HW13).size))
  have HBW4 : Hid (Below v.heap.size v w4) := hide ((unhide HBW3).trans (hb4.mono (unhide HBW3).size))
  have cSm : ∀ w', Below w4.heap.size w4 w' → Hid (Calls Try.prog 23 #[.slice A3 m c3, .slice A4 m c4] w' fun e w5 => e = .returned (.bool true) ∧ Below w'.heap.size w' w5) := fun w' h => hide <|
    (same_any A3 A4 m c3 m c4 F F w' w4.heap.size ((((unhide HR3).below hb4).more hb4.size).below h) (hr4.below h) (by have := HMN.out; omega) h.size).mono fun e w5 ⟨h1, h2⟩ => ⟨by rw [h1]; simp, h2⟩
  clear hr4 hb4
  go_wp2_with (go_at_call 28; (with_reducible refine (unhide (cWn _ (unhide HW14))).mono ?_); rintro e w5 ⟨rfl, hb5⟩)
  have HB5 := hide hb5
  have HBW5 : Hid (Below v.heap.size v w5) := hide ((unhide HBW4).trans (hb5.mono (unhide HBW4).size))
  have HW15 : Hid (Below w1.heap.size w1 w5) := hide ((unhide HW14).trans (hb5.mono (unhide HW14).size))
  clear hb5
  go_wp2_with (go_at_call 23; (with_reducible refine (unhide (cSm _ (unhide HB5))).mono ?_); rintro e w6 ⟨rfl, hb6⟩)
  have HBW6 : Hid (Below v.heap.size v w6) := hide ((unhide HBW5).trans (hb6.mono (unhide HBW5).size))
  have HW16 : Hid (Below w1.heap.size w1 w6) := hide ((unhide HW15).trans (hb6.mono (unhide HW15).size))
  clear hb6
  go_wp2_with (go_at_call 16; (with_reducible refine (unhide (cL0 _ (unhide HBW6))).mono ?_); rintro e w7 ⟨g7, c7, rfl, hc7, hr7, hb7⟩)
  have HBW7 : Hid (Below v.heap.size v w7) := hide ((unhide HBW6).trans (hb7.mono (unhide HBW6).size))
  have HW17 : Hid (Below w1.heap.size w1 w7) := hide ((unhide HW16).trans (hb7.mono (unhide HW16).size))
  have cWl := cW0 w7 _ _ hr7 hc7
  clear hb7 hr7 hc7
  go_wp2_with (go_at_call 28; (with_reducible refine (unhide cWl).mono ?_); rintro e w8 ⟨rfl, hb8⟩)
  have HBW8 : Hid (Below v.heap.size v w8) := hide ((unhide HBW7).trans (hb8.mono (unhide HBW7).size))
  have HW18 : Hid (Below w1.heap.size w1 w8) := hide ((unhide HW17).trans (hb8.mono (unhide HW17).size))
  clear hb8
  go_wp2_with (go_at_call 24; (with_reducible refine (unhide (cS _ (unhide HBW8))).mono ?_); rintro e w9 ⟨rfl, hb9⟩)
  have hv9 : Below v.heap.size v w9 := (unhide HBW8).trans (hb9.mono (unhide HBW8).size)
  have h19 : Below w1.heap.size w1 w9 := (unhide HW18).trans (hb9.mono (unhide HW18).size)
  have hIN := unhide HIN
  exact ⟨⟨g, cap, zs, g2, cap2, ⟨rfl, rfl, rfl, rfl, rfl⟩, (unhide HR).below (hv9.mono HB.out), ⟨rfl, hIN.len, hIN.cap_, hIN.ge, (Chg.of_below hv9 (fun _ => False)).own hIN.own (fun _ _ f => f)⟩, by rw [HU.out]; rfl, by rw [HU1.out]; rfl, rfl, by have := HC2.out; omega, by have := HB.out; have := HG2.out; omega, by have := HL2.out; have := h19.size; omega, ((unhide HR2).below h19).more h19.size⟩, hv9.mono HB.out⟩
end Go.Proofs.Ytoipkpndfgcmcaa.Crew

/-
  CheckOwn's last region, operation by operation, in the whole machine: two calls of Parts among it. The conditions stand in each theorem. (Printed by wip/k11gen.py.)
-/
namespace Go.Proofs.Ytoipkpndfgcmcaa.Crew
open Go Go.Conc Go.ConcN Go.RowKit Go.Conc.Lib Go.ConcR.Gen Go.ConcN.Gen Go.Proofs.Ytoipkpndfgcmcaa.Veils
set_option linter.unusedVariables false
set_option linter.unusedSectionVars false
set_option linter.unusedSimpArgs false
def O51of (c : Code) : Array Oper := opsOf (seqHead (seqTails 21 c))
/-- Bytes that are known. -/
def Byt (X : Nat → Prop) (w : World) (n : Nat) (xs : List UInt8) (v : Value) : Prop :=
  ∃ g c, v = .slice (some ⟨g, 0, none⟩) n c ∧ n ≤ c ∧ g < w.heap.size ∧ ¬ X g ∧ Reads w w.heap.size 1 (some ⟨g, 0, none⟩) n (xs.map bv)
/-- A row of one thing twice. -/
def RowP (X : Nat → Prop) (w : World) (x v : Value) : Prop :=
  ∃ g, v = .slice (some ⟨g, 0, none⟩) 2 2 ∧ g < w.heap.size ∧ ¬ X g ∧ w.cell? ⟨g, 0, none⟩ = some x ∧ w.cell? ⟨g, 1, none⟩ = some x
inductive K11 where
  | val (v : Value)
  | byt (n : Nat) (xs : List UInt8)
  | row (x : Value)
def Ok11 (X : Nat → Prop) (w : World) (v : Value) : K11 → Prop
  | .val u => v = u
  | .byt n xs => Byt X w n xs v
  | .row x => RowP X w x v
def kd (A : Option Addr) (n c g cap g2 cap2 : Nat) (bs zs : List UInt8) : Nat → K11
  | 0 => .val (.int .u32 (upd 0 zs : Nat))
  | 1 => .val (.slice (some ⟨g2, 0, none⟩) n cap2)
  | 2 => .val (.int .u32 (upd 0 zs : Nat))
  | 3 => .val (.bool true)
  | 4 => .val (.bool true)
  | 5 => .val (.slice (some ⟨g, 0, none⟩) n cap)
  | 6 => .byt (n + 4) (sealed zs)
  | 7 => .val (.slice (some ⟨g2, 0, none⟩) n cap2)
  | 8 => .byt (n + 4) (sealed zs)
  | 9 => .val (.bool true)
  | 10 => .val (.bool true)
  | 11 => .val (.bool true)
  | 12 => .val (.slice A n c)
  | 13 => .byt n bs
  | 14 => .val (.int .u32 (upd 0 bs : Nat))
  | 15 => .val (.int .u32 (upd 0 bs : Nat))
  | 16 => .val (.bool true)
  | 17 => .val (.bool true)
  | 18 => .val (.bool true)
  | 19 => .val (.slice (some ⟨g, 0, none⟩) n cap)
  | 20 => .val (.slice (some ⟨g, 0, none⟩) n cap)
  | 21 => .row (.slice (some ⟨g, 0, none⟩) n cap)
  | 22 => .val (.int .u32 (sumP [zs, zs] : Nat))
  | 23 => .val (.slice (some ⟨g2, 0, none⟩) n cap2)
  | 24 => .val (.slice (some ⟨g2, 0, none⟩) n cap2)
  | 25 => .row (.slice (some ⟨g2, 0, none⟩) n cap2)
  | 26 => .val (.int .u32 (sumP [zs, zs] : Nat))
  | 27 => .val (.bool true)
  | 28 => .val (.bool true)
  | _ => .val .nilFunc
section
variable {W w w' v' : World} {X X' : Nat → Prop} {T : Array Value} {l : List Nat} {k : List Item} {A : Option Addr} {n c g cap g2 cap2 m mm q Jm : Nat} {bs zs xs : List UInt8} {v x u : Value} {kk : K11}
theorem Byt.go (h : Byt X w n xs v) (hb : Below w.heap.size w w') (hX : ∀ r, r < w.heap.size → X' r → X r) : Byt X' w' n xs v :=
  let ⟨g, c, e, h1, h2, h3, h4⟩ := h; ⟨g, c, e, h1, Nat.lt_of_lt_of_le h2 hb.size, fun hx => h3 (hX _ h2 hx), (h4.below hb).more hb.size⟩
theorem RowP.go (h : RowP X w x v) (hb : Below w.heap.size w w') (hX : ∀ r, r < w.heap.size → X' r → X r) : RowP X' w' x v :=
  let ⟨g, e, h1, h2, h3, h4⟩ := h; ⟨g, e, Nat.lt_of_lt_of_le h1 hb.size, fun hx => h2 (hX _ h1 hx), (hb.cell (p := ⟨g, 0, none⟩) h1).trans h3, (hb.cell (p := ⟨g, 1, none⟩) h1).trans h4⟩
theorem Ok11.go (h : Ok11 X w v kk) (hb : Below w.heap.size w w') (hX : ∀ r, r < w.heap.size → X' r → X r) : Ok11 X' w' v kk := by
  cases kk with
  | val u => exact h
  | byt n xs => exact Byt.go h hb hX
  | row x => exact RowP.go h hb hX
theorem Ok11.at (h : Ok11 X w v kk) (d : Nat) : Ok11 X (w.at d) v kk := by
  cases kk with
  | val u => exact h
  | byt n xs => exact let ⟨g, c, e, h1, h2, h3, h4⟩ := h; ⟨g, c, e, h1, h2, h3, h4⟩
  | row x => exact let ⟨g, e, h1, h2, h3, h4⟩ := h; ⟨g, e, h1, h2, h3, h4⟩
theorem reads_veilX {B d : Nat} {t : Tape} {ys : List Value} (h : Reads w B 1 (some ⟨g, 0, none⟩) n ys) (hX : ¬ X g) : Reads { veilW X w with tape := t, drawn := d } B 1 (some ⟨g, 0, none⟩) n ys :=
  ⟨h.1, fun hn => by
    obtain ⟨ad, e, hb, hc⟩ := h.2 hn
    exact ⟨ad, e, hb, fun j u hu => veil_cell (fun hx => by cases e; rw [block_of_add] at hx; exact hX hx) (hc j u hu)⟩⟩
/-- What the slots in front of the region hold. -/
structure BT (A : Option Addr) (n c g cap g2 cap2 : Nat) (bs zs : List UInt8) (T : Array Value) : Prop where
  sz : T.size = 308
  t0 : T[0]? = some (.slice A n c)
  t9 : T[9]? = some (.slice (some ⟨g, 0, none⟩) n cap)
  t11 : T[11]? = some (.int .u32 (upd 0 bs : Nat))
  t27 : T[27]? = some (.slice (some ⟨g2, 0, none⟩) n cap2)
  t33 : T[33]? = some (.int .u32 (upd 0 zs : Nat))
theorem BT.put (h : BT A n c g cap g2 cap2 bs zs T) {d : Nat} (hd : 33 < d) (v : Value) : BT A n c g cap g2 cap2 bs zs (T.setIfInBounds d v) := by
  obtain ⟨h1, h2, h3, h4, h5, h6⟩ := h
  refine ⟨by simpa using h1, ?_, ?_, ?_, ?_, ?_⟩ <;> (rw [Array.getElem?_setIfInBounds_ne (by omega)]; assumption)
/-- The state between two operations. -/
structure Ph11 (A : Option Addr) (n c g cap g2 cap2 : Nat) (bs zs : List UInt8) (W : World) (X : Nat → Prop) (m : Nat) (T : Array Value) (w : World) : Prop where
  bt : BT A n c g cap g2 cap2 bs zs T
  inb : Byt X w n zs (.slice (some ⟨g, 0, none⟩) n cap)
  nowb : Byt X w n zs (.slice (some ⟨g2, 0, none⟩) n cap2)
  rb : Reads W W.heap.size 1 A n (bs.map bv)
  done : ∀ j, j < m → j < 29 → ∃ v, T[279 + j]? = some v ∧ Ok11 X w v (kd A n c g cap g2 cap2 bs zs j)
  wn : Wn W X w
theorem Ph11.put (h : Ph11 A n c g cap g2 cap2 bs zs W X m T w) (hm : m < 29) {v : Value} (hv : Ok11 X w' v (kd A n c g cap g2 cap2 bs zs m)) (hb : Below w.heap.size w w') : Ph11 A n c g cap g2 cap2 bs zs W X (m + 1) (T.setIfInBounds (279 + m) v) w' := by
  refine ⟨h.bt.put (by omega) v, h.inb.go hb fun _ _ x => x, h.nowb.go hb fun _ _ x => x, h.rb, fun j hj hj29 => ?_, h.wn.go hb⟩
  by_cases e : j = m
  · subst e
    have := h.bt.sz
    exact ⟨v, Array.getElem?_setIfInBounds_self_of_lt (by omega), hv⟩
  · rw [Array.getElem?_setIfInBounds_ne (by omega)]
    obtain ⟨u, h1, h2⟩ := h.done j (by omega) hj29
    exact ⟨u, h1, h2.go hb fun _ _ x => x⟩
theorem Ph11.at (h : Ph11 A n c g cap g2 cap2 bs zs W X m T w) (d : Nat) : Ph11 A n c g cap g2 cap2 bs zs W X m T (w.at d) :=
  ⟨h.bt, let ⟨g, c, e, h1, h2, h3, h4⟩ := h.inb; ⟨g, c, e, h1, h2, h3, h4⟩, let ⟨g, c, e, h1, h2, h3, h4⟩ := h.nowb; ⟨g, c, e, h1, h2, h3, h4⟩, h.rb, fun j hj hj29 => let ⟨v, h1, h2⟩ := h.done j hj hj29; ⟨v, h1, h2.at d⟩, h.wn.at d⟩
theorem Ph11.parts (h : Ph11 A n c g cap g2 cap2 bs zs W X m T w) (hm : m < 29) {v : Value} (hv : ∀ (X : Nat → Prop) (w : World), Ok11 X w v (kd A n c g cap g2 cap2 bs zs m)) (hb : Below w.heap.size w w') (hR : Veils.Rows (fun r => X r ∨ r = w.heap.size + 2) w') : Ph11 A n c g cap g2 cap2 bs zs W (fun r => X r ∨ r = w.heap.size + 2) (m + 1) (T.setIfInBounds (279 + m) v) w' := by
  have hsz := h.wn.below.size
  have hX : ∀ r, r < w.heap.size → (X r ∨ r = w.heap.size + 2) → X r := fun r hr hx => hx.resolve_right (by omega)
  refine ⟨h.bt.put (by omega) v, h.inb.go hb hX, h.nowb.go hb hX, h.rb, fun j hj hj29 => ?_, ⟨h.wn.below.trans (hb.mono hsz), hR, fun r hx => ?_⟩⟩
  · by_cases e : j = m
    · subst e
      have := h.bt.sz
      exact ⟨v, Array.getElem?_setIfInBounds_self_of_lt (by omega), hv _ _⟩
    · rw [Array.getElem?_setIfInBounds_ne (by omega)]
      obtain ⟨u, h1, h2⟩ := h.done j (by omega) hj29
      exact ⟨u, h1, h2.go hb hX⟩
  · rcases hx with hx | hx
    · have := h.wn.at_ r hx
      exact ⟨this.1, Nat.lt_of_lt_of_le this.2 hb.size⟩
    · subst hx
      obtain ⟨cc, ee, h5, _⟩ := hR _ (.inr rfl)
      exact ⟨by omega, (Array.getElem?_eq_some_iff.1 h5).1⟩
/-- Behind an operation. -/
def N11 (A : Option Addr) (n c g cap g2 cap2 : Nat) (bs zs : List UInt8) (W : World) (X : Nat → Prop) (k : List Item) (m : Nat) (l : List Nat) (gg : Goroutine) (w : World) : Prop := ∃ T, gg = InR 11 (O51of (bodyOf Try.f11)) k T l [] ∧ Ph11 A n c g cap g2 cap2 bs zs W X m T w
/-! the calls, in the veiled world -/
def QB1 (X : Nat → Prop) (w : World) (n : Nat) (xs : List UInt8) (x : Value) (v' : World) : Prop :=
  (∃ g c, x = .slice (some ⟨g, 0, none⟩) n c ∧ n ≤ c ∧ w.heap.size ≤ g ∧ g < v'.heap.size ∧ Reads v' v'.heap.size 1 (some ⟨g, 0, none⟩) n (xs.map bv)) ∧ ∃ tp, Below w.heap.size { veilW X w with tape := tp, drawn := 0 } v'
def QV1 (X : Nat → Prop) (w : World) (u : Value) (x : Value) (v' : World) : Prop := x = u ∧ ∃ tp, Below w.heap.size { veilW X w with tape := tp, drawn := 0 } v'
theorem QB1.ok (hq : QB1 X w n xs x v') (ha : Aft X w v' w') (hW : ∀ r, X r → r < w.heap.size) : Byt X w' n xs x ∧ Below w.heap.size w w' := by
  obtain ⟨⟨g, c, rfl, h1, h2, h2', h3⟩, tp, hb⟩ := hq
  exact ⟨⟨g, c, rfl, h1, by rw [← ha.size]; exact h2', fun hx => by have := hW _ hx; omega, h3.1, fun hn => let ⟨ad, e1, e2, e3⟩ := h3.2 hn; ⟨ad, e1, by rw [← ha.size]; exact e2, fun j u hu => ha.cell (e3 j u hu)⟩⟩, ha.below hb⟩
theorem QV1.ok (hq : QV1 X w u x v') (ha : Aft X w v' w') : x = u ∧ Below w.heap.size w w' := by
  obtain ⟨rfl, tp, hb⟩ := hq
  exact ⟨rfl, ha.below hb⟩
theorem free_1 {g : FuncId} (h : slotFree g = true) (k : Nat) : slotK g k = 0 := by
  simp only [slotFree, Bool.and_eq_true, bne_iff_ne, ne_eq] at h
  simp [slotK, h]
theorem o_seal {A : Option Addr} {c : Nat} (hr : ∀ tp, Reads { veilW X w with tape := tp, drawn := 0 } w.heap.size 1 A n (xs.map bv)) (hn : n + 4 ≤ 140737488355328) (tp : Tape) : Calls Try.prog 30 #[.slice A n c] { veilW X w with tape := tp, drawn := 0 } fun e v' => ∃ x, e = .returned x ∧ QB1 X w (n + 4) (sealed xs) x v' := by
  have e : ({ veilW X w with tape := tp, drawn := 0 } : World).heap.size = w.heap.size := veil_size _ w
  refine (seal_any A n c w.heap.size xs _ (hr tp) hn (Nat.le_of_eq e.symm)).mono fun e' v' ⟨v, h1, h2, h3⟩ => ?_
  obtain ⟨g, cap, hv, hg, hlt⟩ := h2.form (by omega)
  subst hv
  rw [e] at h3 hg
  exact ⟨_, h1, ⟨g, cap, rfl, own_capA h2, hg, hlt, Reads.of_own h2⟩, tp, h3⟩
theorem o_lent {A : Option Addr} {c : Nat} (hr : ∀ tp, Reads { veilW X w with tape := tp, drawn := 0 } w.heap.size 1 A n (xs.map bv)) (hn : n ≤ 140737488351232) (tp : Tape) : Calls Try.prog 16 #[.slice A n c] { veilW X w with tape := tp, drawn := 0 } fun e v' => ∃ x, e = .returned x ∧ QB1 X w n xs x v' := by
  have e : ({ veilW X w with tape := tp, drawn := 0 } : World).heap.size = w.heap.size := veil_size _ w
  refine (lent_any A n c xs _ ((hr tp).more (Nat.le_of_eq e.symm)) hn).mono fun e' v' ⟨g, cap, h1, h2, h3, h4, h5⟩ => ?_
  have hlt := (h4.lt g rfl).2
  rw [e] at h5 h3
  exact ⟨_, h1, ⟨g, cap, rfl, by omega, h3, hlt, (Reads.of_own h4).front (by have := (hr tp).1; simpa using this)⟩, tp, h5⟩
theorem o_same {A B : Option Addr} {m c d : Nat} {ys : List UInt8} {b : Bool} (hx : ∀ tp, Reads { veilW X w with tape := tp, drawn := 0 } w.heap.size 1 A n (xs.map bv)) (hy : ∀ tp, Reads { veilW X w with tape := tp, drawn := 0 } w.heap.size 1 B m (ys.map bv)) (hn : n ≤ 140737488355328) (hb : (xs == ys) = b) (tp : Tape) : Calls Try.prog 23 #[.slice A n c, .slice B m d] { veilW X w with tape := tp, drawn := 0 } fun e v' => ∃ x, e = .returned x ∧ QV1 X w (.bool b) x v' := by
  have e : ({ veilW X w with tape := tp, drawn := 0 } : World).heap.size = w.heap.size := veil_size _ w
  refine (same_any A B n c m d xs ys _ w.heap.size (hx tp) (hy tp) hn (Nat.le_of_eq e.symm)).mono fun e' v' ⟨h1, h2⟩ => ⟨_, h1, by rw [hb], tp, ?_⟩
  rw [e] at h2
  exact h2
theorem o_sum {A : Option Addr} {c : Nat} (hr : ∀ tp, Reads { veilW X w with tape := tp, drawn := 0 } w.heap.size 1 A n (xs.map bv)) (hn : n ≤ 140737488355328) (tp : Tape) : Calls Try.prog 24 #[.slice A n c] { veilW X w with tape := tp, drawn := 0 } fun e v' => ∃ x, e = .returned x ∧ QV1 X w (.int .u32 (upd 0 xs : Nat)) x v' := by
  have e : ({ veilW X w with tape := tp, drawn := 0 } : World).heap.size = w.heap.size := veil_size _ w
  refine (sum_any xs A n c w.heap.size _ (hr tp) hn (Nat.le_of_eq e.symm)).mono fun e' v' ⟨h1, h2⟩ => ⟨_, h1, rfl, tp, ?_⟩
  rw [e] at h2
  exact h2
theorem elem_sls : ElemOf Try.prog 62 29 1 24 := .mk' (.slice none 0 0) Try.underlying62 (by kernel_rfl) rfl (by omega)
theorem RowP.new (hX : ∀ r, X r → r < w.heap.size) (x : Value) (t : TypeId) : RowP X (w.alloc (.cells #[x, x] t)) x (.slice (some ⟨w.heap.size, 0, none⟩) 2 2) := by
  have hk : Blk (w.alloc (.cells #[x, x] t)) w.heap.size t #[x, x] := Blk.new _ _ _
  exact ⟨w.heap.size, rfl, by simp, fun hx => Nat.lt_irrefl _ (hX _ hx), hk.cell 0, hk.cell 1⟩
theorem o51_0 : ∃ o, (O51of (bodyOf Try.f11))[0]? = some o ∧ o.op = .move (.tmp 33) ∧ o.dst = some 279 ∧ o.guard = none ∧ opCalm Try.prog calmF D0 o = true := ⟨_, rfl, rfl, rfl, rfl, by kernel_rfl⟩
theorem o51_1 : ∃ o, (O51of (bodyOf Try.f11))[1]? = some o ∧ o.op = .move (.tmp 27) ∧ o.dst = some 280 ∧ o.guard = none ∧ opCalm Try.prog calmF D0 o = true := ⟨_, rfl, rfl, rfl, rfl, by kernel_rfl⟩
theorem o51_2 : ∃ o, (O51of (bodyOf Try.f11))[2]? = some o ∧ o.op = .call { callee := .value (.func 24), args := #[.tmp 280], argTypes := #[29] } ∧ o.dst = some 281 ∧ o.guard = none ∧ opCalm Try.prog calmF D0 o = true := ⟨_, rfl, rfl, rfl, rfl, by kernel_rfl⟩
theorem o51_3 : ∃ o, (O51of (bodyOf Try.f11))[3]? = some o ∧ o.op = .binOp .eql 40 (.tmp 279) (.tmp 281) 40 ∧ o.dst = some 282 ∧ o.guard = none ∧ opCalm Try.prog calmF D0 o = true := ⟨_, rfl, rfl, rfl, rfl, by kernel_rfl⟩
theorem o51_4 : ∃ o, (O51of (bodyOf Try.f11))[4]? = some o ∧ o.op = .move (.tmp 282) ∧ o.dst = some 283 ∧ o.guard = none ∧ opCalm Try.prog calmF D0 o = true := ⟨_, rfl, rfl, rfl, rfl, by kernel_rfl⟩
theorem o51_5 : ∃ o, (O51of (bodyOf Try.f11))[5]? = some o ∧ o.op = .move (.tmp 9) ∧ o.dst = some 284 ∧ o.guard = some (4, true) ∧ opCalm Try.prog calmF D0 o = true := ⟨_, rfl, rfl, rfl, rfl, by kernel_rfl⟩
theorem o51_6 : ∃ o, (O51of (bodyOf Try.f11))[6]? = some o ∧ o.op = .call { callee := .value (.func 30), args := #[.tmp 284], argTypes := #[29] } ∧ o.dst = some 285 ∧ o.guard = some (4, true) ∧ opCalm Try.prog calmF D0 o = true := ⟨_, rfl, rfl, rfl, rfl, by kernel_rfl⟩
theorem o51_7 : ∃ o, (O51of (bodyOf Try.f11))[7]? = some o ∧ o.op = .move (.tmp 27) ∧ o.dst = some 286 ∧ o.guard = some (4, true) ∧ opCalm Try.prog calmF D0 o = true := ⟨_, rfl, rfl, rfl, rfl, by kernel_rfl⟩
theorem o51_8 : ∃ o, (O51of (bodyOf Try.f11))[8]? = some o ∧ o.op = .call { callee := .value (.func 30), args := #[.tmp 286], argTypes := #[29] } ∧ o.dst = some 287 ∧ o.guard = some (4, true) ∧ opCalm Try.prog calmF D0 o = true := ⟨_, rfl, rfl, rfl, rfl, by kernel_rfl⟩
theorem o51_9 : ∃ o, (O51of (bodyOf Try.f11))[9]? = some o ∧ o.op = .call { callee := .value (.func 23), args := #[.tmp 285, .tmp 287], argTypes := #[29, 29] } ∧ o.dst = some 288 ∧ o.guard = some (4, true) ∧ opCalm Try.prog calmF D0 o = true := ⟨_, rfl, rfl, rfl, rfl, by kernel_rfl⟩
theorem o51_10 : ∃ o, (O51of (bodyOf Try.f11))[10]? = some o ∧ o.op = .pick (.tmp 283) (.tmp 288) (.const (.bool false)) ∧ o.dst = some 289 ∧ o.guard = none ∧ opCalm Try.prog calmF D0 o = true := ⟨_, rfl, rfl, rfl, rfl, by kernel_rfl⟩
theorem o51_11 : ∃ o, (O51of (bodyOf Try.f11))[11]? = some o ∧ o.op = .move (.tmp 289) ∧ o.dst = some 290 ∧ o.guard = none ∧ opCalm Try.prog calmF D0 o = true := ⟨_, rfl, rfl, rfl, rfl, by kernel_rfl⟩
theorem o51_12 : ∃ o, (O51of (bodyOf Try.f11))[12]? = some o ∧ o.op = .move (.tmp 0) ∧ o.dst = some 291 ∧ o.guard = some (11, true) ∧ opCalm Try.prog calmF D0 o = true := ⟨_, rfl, rfl, rfl, rfl, by kernel_rfl⟩
theorem o51_13 : ∃ o, (O51of (bodyOf Try.f11))[13]? = some o ∧ o.op = .call { callee := .value (.func 16), args := #[.tmp 291], argTypes := #[29] } ∧ o.dst = some 292 ∧ o.guard = some (11, true) ∧ opCalm Try.prog calmF D0 o = true := ⟨_, rfl, rfl, rfl, rfl, by kernel_rfl⟩
theorem o51_14 : ∃ o, (O51of (bodyOf Try.f11))[14]? = some o ∧ o.op = .call { callee := .value (.func 24), args := #[.tmp 292], argTypes := #[29] } ∧ o.dst = some 293 ∧ o.guard = some (11, true) ∧ opCalm Try.prog calmF D0 o = true := ⟨_, rfl, rfl, rfl, rfl, by kernel_rfl⟩
theorem o51_15 : ∃ o, (O51of (bodyOf Try.f11))[15]? = some o ∧ o.op = .move (.tmp 11) ∧ o.dst = some 294 ∧ o.guard = some (11, true) ∧ opCalm Try.prog calmF D0 o = true := ⟨_, rfl, rfl, rfl, rfl, by kernel_rfl⟩
theorem o51_16 : ∃ o, (O51of (bodyOf Try.f11))[16]? = some o ∧ o.op = .binOp .eql 40 (.tmp 293) (.tmp 294) 40 ∧ o.dst = some 295 ∧ o.guard = some (11, true) ∧ opCalm Try.prog calmF D0 o = true := ⟨_, rfl, rfl, rfl, rfl, by kernel_rfl⟩
theorem o51_17 : ∃ o, (O51of (bodyOf Try.f11))[17]? = some o ∧ o.op = .pick (.tmp 290) (.tmp 295) (.const (.bool false)) ∧ o.dst = some 296 ∧ o.guard = none ∧ opCalm Try.prog calmF D0 o = true := ⟨_, rfl, rfl, rfl, rfl, by kernel_rfl⟩
theorem o51_18 : ∃ o, (O51of (bodyOf Try.f11))[18]? = some o ∧ o.op = .move (.tmp 296) ∧ o.dst = some 297 ∧ o.guard = none ∧ opCalm Try.prog calmF D0 o = true := ⟨_, rfl, rfl, rfl, rfl, by kernel_rfl⟩
theorem o51_19 : ∃ o, (O51of (bodyOf Try.f11))[19]? = some o ∧ o.op = .move (.tmp 9) ∧ o.dst = some 298 ∧ o.guard = some (18, true) ∧ opCalm Try.prog calmF D0 o = true := ⟨_, rfl, rfl, rfl, rfl, by kernel_rfl⟩
theorem o51_20 : ∃ o, (O51of (bodyOf Try.f11))[20]? = some o ∧ o.op = .move (.tmp 9) ∧ o.dst = some 299 ∧ o.guard = some (18, true) ∧ opCalm Try.prog calmF D0 o = true := ⟨_, rfl, rfl, rfl, rfl, by kernel_rfl⟩
theorem o51_21 : ∃ o, (O51of (bodyOf Try.f11))[21]? = some o ∧ o.op = .buildSlice 62 2 #[(0, .tmp 298), (1, .tmp 299)] ∧ o.dst = some 300 ∧ o.guard = some (18, true) ∧ opCalm Try.prog calmF D0 o = true := ⟨_, rfl, rfl, rfl, rfl, by kernel_rfl⟩
theorem o51_22 : ∃ o, (O51of (bodyOf Try.f11))[22]? = some o ∧ o.op = .call { callee := .value (.func 38), args := #[.tmp 300], argTypes := #[62] } ∧ o.dst = some 301 ∧ o.guard = some (18, true) ∧ True := ⟨_, rfl, rfl, rfl, rfl, trivial⟩
theorem o51_23 : ∃ o, (O51of (bodyOf Try.f11))[23]? = some o ∧ o.op = .move (.tmp 27) ∧ o.dst = some 302 ∧ o.guard = some (18, true) ∧ opCalm Try.prog calmF D0 o = true := ⟨_, rfl, rfl, rfl, rfl, by kernel_rfl⟩
theorem o51_24 : ∃ o, (O51of (bodyOf Try.f11))[24]? = some o ∧ o.op = .move (.tmp 27) ∧ o.dst = some 303 ∧ o.guard = some (18, true) ∧ opCalm Try.prog calmF D0 o = true := ⟨_, rfl, rfl, rfl, rfl, by kernel_rfl⟩
theorem o51_25 : ∃ o, (O51of (bodyOf Try.f11))[25]? = some o ∧ o.op = .buildSlice 62 2 #[(0, .tmp 302), (1, .tmp 303)] ∧ o.dst = some 304 ∧ o.guard = some (18, true) ∧ opCalm Try.prog calmF D0 o = true := ⟨_, rfl, rfl, rfl, rfl, by kernel_rfl⟩
theorem o51_26 : ∃ o, (O51of (bodyOf Try.f11))[26]? = some o ∧ o.op = .call { callee := .value (.func 38), args := #[.tmp 304], argTypes := #[62] } ∧ o.dst = some 305 ∧ o.guard = some (18, true) ∧ True := ⟨_, rfl, rfl, rfl, rfl, trivial⟩
theorem o51_27 : ∃ o, (O51of (bodyOf Try.f11))[27]? = some o ∧ o.op = .binOp .eql 40 (.tmp 301) (.tmp 305) 40 ∧ o.dst = some 306 ∧ o.guard = some (18, true) ∧ opCalm Try.prog calmF D0 o = true := ⟨_, rfl, rfl, rfl, rfl, by kernel_rfl⟩
theorem o51_28 : ∃ o, (O51of (bodyOf Try.f11))[28]? = some o ∧ o.op = .pick (.tmp 297) (.tmp 306) (.const (.bool false)) ∧ o.dst = some 307 ∧ o.guard = none ∧ opCalm Try.prog calmF D0 o = true := ⟨_, rfl, rfl, rfl, rfl, by kernel_rfl⟩
theorem o51_29 : ∃ o, (O51of (bodyOf Try.f11))[29]? = some o ∧ o.op = .assign (.tmp 307) ∧ o.dst = some 8 ∧ o.guard = none ∧ opCalm Try.prog calmF D0 o = true := ⟨_, rfl, rfl, rfl, rfl, by kernel_rfl⟩
theorem s51_0 (h : Ph11 A n c g cap g2 cap2 bs zs W X 0 T w) : Runs Try.prog (DF X) (N11 A n c g cap g2 cap2 bs zs W X k 1 [1, 2, 3, 4, 5, 6, 7, 8, 9, 10, 11, 12, 13, 14, 15, 16, 17, 18, 19, 20, 21, 22, 23, 24, 25, 26, 27, 28, 29]) (InR 11 (O51of (bodyOf Try.f11)) k T [0, 1, 2, 3, 4, 5, 6, 7, 8, 9, 10, 11, 12, 13, 14, 15, 16, 17, 18, 19, 20, 21, 22, 23, 24, 25, 26, 27, 28, 29] []) w := by
  obtain ⟨o, ho, hop, hd, hg, hc⟩ := o51_0
  refine hand_pure ho (wanted_none hg) hc h.wn.rows (p_move hop h.bt.t33) ?_
  rw [hd]
  exact .stop fun d => ⟨_, rfl, (h.put (by decide) (show Ok11 X w (.int .u32 (upd 0 zs : Nat)) (kd A n c g cap g2 cap2 bs zs 0) from rfl) (Below.refl _ _)).at d⟩
theorem s51_1 (h : Ph11 A n c g cap g2 cap2 bs zs W X 1 T w) : Runs Try.prog (DF X) (N11 A n c g cap g2 cap2 bs zs W X k 2 [2, 3, 4, 5, 6, 7, 8, 9, 10, 11, 12, 13, 14, 15, 16, 17, 18, 19, 20, 21, 22, 23, 24, 25, 26, 27, 28, 29]) (InR 11 (O51of (bodyOf Try.f11)) k T [1, 2, 3, 4, 5, 6, 7, 8, 9, 10, 11, 12, 13, 14, 15, 16, 17, 18, 19, 20, 21, 22, 23, 24, 25, 26, 27, 28, 29] []) w := by
  obtain ⟨o, ho, hop, hd, hg, hc⟩ := o51_1
  refine hand_pure ho (wanted_none hg) hc h.wn.rows (p_move hop h.bt.t27) ?_
  rw [hd]
  exact .stop fun d => ⟨_, rfl, (h.put (by decide) (show Ok11 X w (.slice (some ⟨g2, 0, none⟩) n cap2) (kd A n c g cap g2 cap2 bs zs 1) from rfl) (Below.refl _ _)).at d⟩
theorem s51_2 (hn : n ≤ 140737488351232) (h : Ph11 A n c g cap g2 cap2 bs zs W X 2 T w) : Runs Try.prog (DF X) (N11 A n c g cap g2 cap2 bs zs W X k 3 [3, 4, 5, 6, 7, 8, 9, 10, 11, 12, 13, 14, 15, 16, 17, 18, 19, 20, 21, 22, 23, 24, 25, 26, 27, 28, 29]) (InR 11 (O51of (bodyOf Try.f11)) k T [2, 3, 4, 5, 6, 7, 8, 9, 10, 11, 12, 13, 14, 15, 16, 17, 18, 19, 20, 21, 22, 23, 24, 25, 26, 27, 28, 29] []) w := by
  obtain ⟨o, ho, hop, hd, hg, hc⟩ := o51_2
  obtain ⟨v1, e1, b1⟩ := h.done 1 (by decide) (by decide)
  obtain rfl : v1 = .slice (some ⟨g2, 0, none⟩) n cap2 := b1
  obtain ⟨ga, ca, ea, hca, hga, hXa, ra⟩ := h.nowb
  cases ea
  refine hand_call (Q := QV1 X w (.int .u32 (upd 0 zs : Nat))) ho (wanted_none hg) hop (by rfl) Try.func24 (by rfl) (by rfl) rfl (vs := #[.slice (some ⟨g2, 0, none⟩) n cap2]) (by simp [ev_tmp e1]) (fun k _ => free_1 (by rfl) k) h.wn.rows (fun tp => o_sum (fun _ => reads_veilX ra hXa) (by omega) tp) (fun x v' w' hQ ha => ?_)
  obtain ⟨q1, q2⟩ := QV1.ok hQ ha
  rw [hd]
  exact .stop fun d => ⟨_, rfl, (h.put (by decide) (show Ok11 X w' x (kd A n c g cap g2 cap2 bs zs 2) from q1) q2).at d⟩
theorem s51_3 (h : Ph11 A n c g cap g2 cap2 bs zs W X 3 T w) : Runs Try.prog (DF X) (N11 A n c g cap g2 cap2 bs zs W X k 4 [4, 5, 6, 7, 8, 9, 10, 11, 12, 13, 14, 15, 16, 17, 18, 19, 20, 21, 22, 23, 24, 25, 26, 27, 28, 29]) (InR 11 (O51of (bodyOf Try.f11)) k T [3, 4, 5, 6, 7, 8, 9, 10, 11, 12, 13, 14, 15, 16, 17, 18, 19, 20, 21, 22, 23, 24, 25, 26, 27, 28, 29] []) w := by
  obtain ⟨o, ho, hop, hd, hg, hc⟩ := o51_3
  obtain ⟨v0, e0, b0⟩ := h.done 0 (by decide) (by decide)
  obtain rfl : v0 = .int .u32 (upd 0 zs : Nat) := b0
  obtain ⟨v2, e2, b2⟩ := h.done 2 (by decide) (by decide)
  obtain rfl : v2 = .int .u32 (upd 0 zs : Nat) := b2
  refine hand_pure ho (wanted_none hg) hc h.wn.rows (p_eql (z := true) hop e0 e2 (by simp)) ?_
  rw [hd]
  exact .stop fun d => ⟨_, rfl, (h.put (by decide) (show Ok11 X w (.bool true) (kd A n c g cap g2 cap2 bs zs 3) from rfl) (Below.refl _ _)).at d⟩
theorem s51_4 (h : Ph11 A n c g cap g2 cap2 bs zs W X 4 T w) : Runs Try.prog (DF X) (N11 A n c g cap g2 cap2 bs zs W X k 5 [5, 6, 7, 8, 9, 10, 11, 12, 13, 14, 15, 16, 17, 18, 19, 20, 21, 22, 23, 24, 25, 26, 27, 28, 29]) (InR 11 (O51of (bodyOf Try.f11)) k T [4, 5, 6, 7, 8, 9, 10, 11, 12, 13, 14, 15, 16, 17, 18, 19, 20, 21, 22, 23, 24, 25, 26, 27, 28, 29] []) w := by
  obtain ⟨o, ho, hop, hd, hg, hc⟩ := o51_4
  obtain ⟨v3, e3, b3⟩ := h.done 3 (by decide) (by decide)
  obtain rfl : v3 = .bool true := b3
  refine hand_pure ho (wanted_none hg) hc h.wn.rows (p_move hop e3) ?_
  rw [hd]
  exact .stop fun d => ⟨_, rfl, (h.put (by decide) (show Ok11 X w (.bool true) (kd A n c g cap g2 cap2 bs zs 4) from rfl) (Below.refl _ _)).at d⟩
theorem s51_5 (h : Ph11 A n c g cap g2 cap2 bs zs W X 5 T w) : Runs Try.prog (DF X) (N11 A n c g cap g2 cap2 bs zs W X k 6 [6, 7, 8, 9, 10, 11, 12, 13, 14, 15, 16, 17, 18, 19, 20, 21, 22, 23, 24, 25, 26, 27, 28, 29]) (InR 11 (O51of (bodyOf Try.f11)) k T [5, 6, 7, 8, 9, 10, 11, 12, 13, 14, 15, 16, 17, 18, 19, 20, 21, 22, 23, 24, 25, 26, 27, 28, 29] []) w := by
  obtain ⟨o, ho, hop, hd, hg, hc⟩ := o51_5
  obtain ⟨v4, e4, b4⟩ := h.done 4 (by decide) (by decide)
  obtain rfl : v4 = .bool true := b4
  obtain ⟨og, hog, _, hogd, _⟩ := o51_4
  refine hand_pure ho (wanted_guard hg hog hogd e4) hc h.wn.rows (p_move hop h.bt.t9) ?_
  rw [hd]
  exact .stop fun d => ⟨_, rfl, (h.put (by decide) (show Ok11 X w (.slice (some ⟨g, 0, none⟩) n cap) (kd A n c g cap g2 cap2 bs zs 5) from rfl) (Below.refl _ _)).at d⟩
theorem s51_6 (hn : n ≤ 140737488351232) (h : Ph11 A n c g cap g2 cap2 bs zs W X 6 T w) : Runs Try.prog (DF X) (N11 A n c g cap g2 cap2 bs zs W X k 7 [7, 8, 9, 10, 11, 12, 13, 14, 15, 16, 17, 18, 19, 20, 21, 22, 23, 24, 25, 26, 27, 28, 29]) (InR 11 (O51of (bodyOf Try.f11)) k T [6, 7, 8, 9, 10, 11, 12, 13, 14, 15, 16, 17, 18, 19, 20, 21, 22, 23, 24, 25, 26, 27, 28, 29] []) w := by
  obtain ⟨o, ho, hop, hd, hg, hc⟩ := o51_6
  obtain ⟨v4, e4, b4⟩ := h.done 4 (by decide) (by decide)
  obtain rfl : v4 = .bool true := b4
  obtain ⟨v5, e5, b5⟩ := h.done 5 (by decide) (by decide)
  obtain rfl : v5 = .slice (some ⟨g, 0, none⟩) n cap := b5
  obtain ⟨og, hog, _, hogd, _⟩ := o51_4
  obtain ⟨ga, ca, ea, hca, hga, hXa, ra⟩ := h.inb
  cases ea
  refine hand_call (Q := QB1 X w (n + 4) (sealed zs)) ho (wanted_guard hg hog hogd e4) hop (by rfl) Try.func30 (by rfl) (by rfl) rfl (vs := #[.slice (some ⟨g, 0, none⟩) n cap]) (by simp [ev_tmp e5]) (fun k _ => free_1 (by rfl) k) h.wn.rows (fun tp => o_seal (fun _ => reads_veilX ra hXa) (by omega) tp) (fun x v' w' hQ ha => ?_)
  obtain ⟨q1, q2⟩ := QB1.ok hQ ha (fun r hx => (h.wn.at_ r hx).2)
  rw [hd]
  exact .stop fun d => ⟨_, rfl, (h.put (by decide) (show Ok11 X w' x (kd A n c g cap g2 cap2 bs zs 6) from q1) q2).at d⟩
theorem s51_7 (h : Ph11 A n c g cap g2 cap2 bs zs W X 7 T w) : Runs Try.prog (DF X) (N11 A n c g cap g2 cap2 bs zs W X k 8 [8, 9, 10, 11, 12, 13, 14, 15, 16, 17, 18, 19, 20, 21, 22, 23, 24, 25, 26, 27, 28, 29]) (InR 11 (O51of (bodyOf Try.f11)) k T [7, 8, 9, 10, 11, 12, 13, 14, 15, 16, 17, 18, 19, 20, 21, 22, 23, 24, 25, 26, 27, 28, 29] []) w := by
  obtain ⟨o, ho, hop, hd, hg, hc⟩ := o51_7
  obtain ⟨v4, e4, b4⟩ := h.done 4 (by decide) (by decide)
  obtain rfl : v4 = .bool true := b4
  obtain ⟨og, hog, _, hogd, _⟩ := o51_4
  refine hand_pure ho (wanted_guard hg hog hogd e4) hc h.wn.rows (p_move hop h.bt.t27) ?_
  rw [hd]
  exact .stop fun d => ⟨_, rfl, (h.put (by decide) (show Ok11 X w (.slice (some ⟨g2, 0, none⟩) n cap2) (kd A n c g cap g2 cap2 bs zs 7) from rfl) (Below.refl _ _)).at d⟩
theorem s51_8 (hn : n ≤ 140737488351232) (h : Ph11 A n c g cap g2 cap2 bs zs W X 8 T w) : Runs Try.prog (DF X) (N11 A n c g cap g2 cap2 bs zs W X k 9 [9, 10, 11, 12, 13, 14, 15, 16, 17, 18, 19, 20, 21, 22, 23, 24, 25, 26, 27, 28, 29]) (InR 11 (O51of (bodyOf Try.f11)) k T [8, 9, 10, 11, 12, 13, 14, 15, 16, 17, 18, 19, 20, 21, 22, 23, 24, 25, 26, 27, 28, 29] []) w := by
  obtain ⟨o, ho, hop, hd, hg, hc⟩ := o51_8
  obtain ⟨v4, e4, b4⟩ := h.done 4 (by decide) (by decide)
  obtain rfl : v4 = .bool true := b4
  obtain ⟨v7, e7, b7⟩ := h.done 7 (by decide) (by decide)
  obtain rfl : v7 = .slice (some ⟨g2, 0, none⟩) n cap2 := b7
  obtain ⟨og, hog, _, hogd, _⟩ := o51_4
  obtain ⟨ga, ca, ea, hca, hga, hXa, ra⟩ := h.nowb
  cases ea
  refine hand_call (Q := QB1 X w (n + 4) (sealed zs)) ho (wanted_guard hg hog hogd e4) hop (by rfl) Try.func30 (by rfl) (by rfl) rfl (vs := #[.slice (some ⟨g2, 0, none⟩) n cap2]) (by simp [ev_tmp e7]) (fun k _ => free_1 (by rfl) k) h.wn.rows (fun tp => o_seal (fun _ => reads_veilX ra hXa) (by omega) tp) (fun x v' w' hQ ha => ?_)
  obtain ⟨q1, q2⟩ := QB1.ok hQ ha (fun r hx => (h.wn.at_ r hx).2)
  rw [hd]
  exact .stop fun d => ⟨_, rfl, (h.put (by decide) (show Ok11 X w' x (kd A n c g cap g2 cap2 bs zs 8) from q1) q2).at d⟩
theorem s51_9 (hn : n ≤ 140737488351232) (h : Ph11 A n c g cap g2 cap2 bs zs W X 9 T w) : Runs Try.prog (DF X) (N11 A n c g cap g2 cap2 bs zs W X k 10 [10, 11, 12, 13, 14, 15, 16, 17, 18, 19, 20, 21, 22, 23, 24, 25, 26, 27, 28, 29]) (InR 11 (O51of (bodyOf Try.f11)) k T [9, 10, 11, 12, 13, 14, 15, 16, 17, 18, 19, 20, 21, 22, 23, 24, 25, 26, 27, 28, 29] []) w := by
  obtain ⟨o, ho, hop, hd, hg, hc⟩ := o51_9
  obtain ⟨v4, e4, b4⟩ := h.done 4 (by decide) (by decide)
  obtain rfl : v4 = .bool true := b4
  obtain ⟨v6, e6, b6⟩ := h.done 6 (by decide) (by decide)
  obtain ⟨g69, c6, rfl, hc6, hg6, hX6, r6⟩ := (b6 : Byt X w (n + 4) (sealed zs) v6)
  obtain ⟨v8, e8, b8⟩ := h.done 8 (by decide) (by decide)
  obtain ⟨g89, c8, rfl, hc8, hg8, hX8, r8⟩ := (b8 : Byt X w (n + 4) (sealed zs) v8)
  obtain ⟨og, hog, _, hogd, _⟩ := o51_4
  refine hand_call (Q := QV1 X w (.bool true)) ho (wanted_guard hg hog hogd e4) hop (by rfl) Try.func23 (by rfl) (by rfl) rfl (vs := #[.slice (some ⟨g69, 0, none⟩) (n + 4) c6, .slice (some ⟨g89, 0, none⟩) (n + 4) c8]) (by simp [ev_tmp e6, ev_tmp e8]) (fun k _ => free_1 (by rfl) k) h.wn.rows (fun tp => o_same (fun _ => reads_veilX r6 hX6) (fun _ => reads_veilX r8 hX8) (by omega) (by simp) tp) (fun x v' w' hQ ha => ?_)
  obtain ⟨q1, q2⟩ := QV1.ok hQ ha
  rw [hd]
  exact .stop fun d => ⟨_, rfl, (h.put (by decide) (show Ok11 X w' x (kd A n c g cap g2 cap2 bs zs 9) from q1) q2).at d⟩
theorem s51_10 (h : Ph11 A n c g cap g2 cap2 bs zs W X 10 T w) : Runs Try.prog (DF X) (N11 A n c g cap g2 cap2 bs zs W X k 11 [11, 12, 13, 14, 15, 16, 17, 18, 19, 20, 21, 22, 23, 24, 25, 26, 27, 28, 29]) (InR 11 (O51of (bodyOf Try.f11)) k T [10, 11, 12, 13, 14, 15, 16, 17, 18, 19, 20, 21, 22, 23, 24, 25, 26, 27, 28, 29] []) w := by
  obtain ⟨o, ho, hop, hd, hg, hc⟩ := o51_10
  obtain ⟨v4, e4, b4⟩ := h.done 4 (by decide) (by decide)
  obtain rfl : v4 = .bool true := b4
  obtain ⟨v9, e9, b9⟩ := h.done 9 (by decide) (by decide)
  obtain rfl : v9 = .bool true := b9
  refine hand_pure ho (wanted_none hg) hc h.wn.rows (p_pick_and hop e4 e9) ?_
  rw [hd]
  exact .stop fun d => ⟨_, rfl, (h.put (by decide) (show Ok11 X w (.bool true) (kd A n c g cap g2 cap2 bs zs 10) from rfl) (Below.refl _ _)).at d⟩
theorem s51_11 (h : Ph11 A n c g cap g2 cap2 bs zs W X 11 T w) : Runs Try.prog (DF X) (N11 A n c g cap g2 cap2 bs zs W X k 12 [12, 13, 14, 15, 16, 17, 18, 19, 20, 21, 22, 23, 24, 25, 26, 27, 28, 29]) (InR 11 (O51of (bodyOf Try.f11)) k T [11, 12, 13, 14, 15, 16, 17, 18, 19, 20, 21, 22, 23, 24, 25, 26, 27, 28, 29] []) w := by
  obtain ⟨o, ho, hop, hd, hg, hc⟩ := o51_11
  obtain ⟨v10, e10, b10⟩ := h.done 10 (by decide) (by decide)
  obtain rfl : v10 = .bool true := b10
  refine hand_pure ho (wanted_none hg) hc h.wn.rows (p_move hop e10) ?_
  rw [hd]
  exact .stop fun d => ⟨_, rfl, (h.put (by decide) (show Ok11 X w (.bool true) (kd A n c g cap g2 cap2 bs zs 11) from rfl) (Below.refl _ _)).at d⟩
theorem s51_12 (h : Ph11 A n c g cap g2 cap2 bs zs W X 12 T w) : Runs Try.prog (DF X) (N11 A n c g cap g2 cap2 bs zs W X k 13 [13, 14, 15, 16, 17, 18, 19, 20, 21, 22, 23, 24, 25, 26, 27, 28, 29]) (InR 11 (O51of (bodyOf Try.f11)) k T [12, 13, 14, 15, 16, 17, 18, 19, 20, 21, 22, 23, 24, 25, 26, 27, 28, 29] []) w := by
  obtain ⟨o, ho, hop, hd, hg, hc⟩ := o51_12
  obtain ⟨v11, e11, b11⟩ := h.done 11 (by decide) (by decide)
  obtain rfl : v11 = .bool true := b11
  obtain ⟨og, hog, _, hogd, _⟩ := o51_11
  refine hand_pure ho (wanted_guard hg hog hogd e11) hc h.wn.rows (p_move hop h.bt.t0) ?_
  rw [hd]
  exact .stop fun d => ⟨_, rfl, (h.put (by decide) (show Ok11 X w (.slice A n c) (kd A n c g cap g2 cap2 bs zs 12) from rfl) (Below.refl _ _)).at d⟩
theorem s51_13 (hn : n ≤ 140737488351232) (h : Ph11 A n c g cap g2 cap2 bs zs W X 13 T w) : Runs Try.prog (DF X) (N11 A n c g cap g2 cap2 bs zs W X k 14 [14, 15, 16, 17, 18, 19, 20, 21, 22, 23, 24, 25, 26, 27, 28, 29]) (InR 11 (O51of (bodyOf Try.f11)) k T [13, 14, 15, 16, 17, 18, 19, 20, 21, 22, 23, 24, 25, 26, 27, 28, 29] []) w := by
  obtain ⟨o, ho, hop, hd, hg, hc⟩ := o51_13
  obtain ⟨v11, e11, b11⟩ := h.done 11 (by decide) (by decide)
  obtain rfl : v11 = .bool true := b11
  obtain ⟨v12, e12, b12⟩ := h.done 12 (by decide) (by decide)
  obtain rfl : v12 = .slice A n c := b12
  obtain ⟨og, hog, _, hogd, _⟩ := o51_11
  refine hand_call (Q := QB1 X w n bs) ho (wanted_guard hg hog hogd e11) hop (by rfl) Try.func16 (by rfl) (by rfl) rfl (vs := #[.slice A n c]) (by simp [ev_tmp e12]) (fun k _ => free_1 (by rfl) k) h.wn.rows (fun tp => o_lent (fun _ => (reads_veil (h.rb.below h.wn.below) fun r hx => (h.wn.at_ r hx).1).more h.wn.below.size) hn tp) (fun x v' w' hQ ha => ?_)
  obtain ⟨q1, q2⟩ := QB1.ok hQ ha (fun r hx => (h.wn.at_ r hx).2)
  rw [hd]
  exact .stop fun d => ⟨_, rfl, (h.put (by decide) (show Ok11 X w' x (kd A n c g cap g2 cap2 bs zs 13) from q1) q2).at d⟩
theorem s51_14 (hn : n ≤ 140737488351232) (h : Ph11 A n c g cap g2 cap2 bs zs W X 14 T w) : Runs Try.prog (DF X) (N11 A n c g cap g2 cap2 bs zs W X k 15 [15, 16, 17, 18, 19, 20, 21, 22, 23, 24, 25, 26, 27, 28, 29]) (InR 11 (O51of (bodyOf Try.f11)) k T [14, 15, 16, 17, 18, 19, 20, 21, 22, 23, 24, 25, 26, 27, 28, 29] []) w := by
  obtain ⟨o, ho, hop, hd, hg, hc⟩ := o51_14
  obtain ⟨v11, e11, b11⟩ := h.done 11 (by decide) (by decide)
  obtain rfl : v11 = .bool true := b11
  obtain ⟨v13, e13, b13⟩ := h.done 13 (by decide) (by decide)
  obtain ⟨g139, c13, rfl, hc13, hg13, hX13, r13⟩ := (b13 : Byt X w n bs v13)
  obtain ⟨og, hog, _, hogd, _⟩ := o51_11
  refine hand_call (Q := QV1 X w (.int .u32 (upd 0 bs : Nat))) ho (wanted_guard hg hog hogd e11) hop (by rfl) Try.func24 (by rfl) (by rfl) rfl (vs := #[.slice (some ⟨g139, 0, none⟩) n c13]) (by simp [ev_tmp e13]) (fun k _ => free_1 (by rfl) k) h.wn.rows (fun tp => o_sum (fun _ => reads_veilX r13 hX13) (by omega) tp) (fun x v' w' hQ ha => ?_)
  obtain ⟨q1, q2⟩ := QV1.ok hQ ha
  rw [hd]
  exact .stop fun d => ⟨_, rfl, (h.put (by decide) (show Ok11 X w' x (kd A n c g cap g2 cap2 bs zs 14) from q1) q2).at d⟩
theorem s51_15 (h : Ph11 A n c g cap g2 cap2 bs zs W X 15 T w) : Runs Try.prog (DF X) (N11 A n c g cap g2 cap2 bs zs W X k 16 [16, 17, 18, 19, 20, 21, 22, 23, 24, 25, 26, 27, 28, 29]) (InR 11 (O51of (bodyOf Try.f11)) k T [15, 16, 17, 18, 19, 20, 21, 22, 23, 24, 25, 26, 27, 28, 29] []) w := by
  obtain ⟨o, ho, hop, hd, hg, hc⟩ := o51_15
  obtain ⟨v11, e11, b11⟩ := h.done 11 (by decide) (by decide)
  obtain rfl : v11 = .bool true := b11
  obtain ⟨og, hog, _, hogd, _⟩ := o51_11
  refine hand_pure ho (wanted_guard hg hog hogd e11) hc h.wn.rows (p_move hop h.bt.t11) ?_
  rw [hd]
  exact .stop fun d => ⟨_, rfl, (h.put (by decide) (show Ok11 X w (.int .u32 (upd 0 bs : Nat)) (kd A n c g cap g2 cap2 bs zs 15) from rfl) (Below.refl _ _)).at d⟩
theorem s51_16 (h : Ph11 A n c g cap g2 cap2 bs zs W X 16 T w) : Runs Try.prog (DF X) (N11 A n c g cap g2 cap2 bs zs W X k 17 [17, 18, 19, 20, 21, 22, 23, 24, 25, 26, 27, 28, 29]) (InR 11 (O51of (bodyOf Try.f11)) k T [16, 17, 18, 19, 20, 21, 22, 23, 24, 25, 26, 27, 28, 29] []) w := by
  obtain ⟨o, ho, hop, hd, hg, hc⟩ := o51_16
  obtain ⟨v11, e11, b11⟩ := h.done 11 (by decide) (by decide)
  obtain rfl : v11 = .bool true := b11
  obtain ⟨v14, e14, b14⟩ := h.done 14 (by decide) (by decide)
  obtain rfl : v14 = .int .u32 (upd 0 bs : Nat) := b14
  obtain ⟨v15, e15, b15⟩ := h.done 15 (by decide) (by decide)
  obtain rfl : v15 = .int .u32 (upd 0 bs : Nat) := b15
  obtain ⟨og, hog, _, hogd, _⟩ := o51_11
  refine hand_pure ho (wanted_guard hg hog hogd e11) hc h.wn.rows (p_eql (z := true) hop e14 e15 (by simp)) ?_
  rw [hd]
  exact .stop fun d => ⟨_, rfl, (h.put (by decide) (show Ok11 X w (.bool true) (kd A n c g cap g2 cap2 bs zs 16) from rfl) (Below.refl _ _)).at d⟩
theorem s51_17 (h : Ph11 A n c g cap g2 cap2 bs zs W X 17 T w) : Runs Try.prog (DF X) (N11 A n c g cap g2 cap2 bs zs W X k 18 [18, 19, 20, 21, 22, 23, 24, 25, 26, 27, 28, 29]) (InR 11 (O51of (bodyOf Try.f11)) k T [17, 18, 19, 20, 21, 22, 23, 24, 25, 26, 27, 28, 29] []) w := by
  obtain ⟨o, ho, hop, hd, hg, hc⟩ := o51_17
  obtain ⟨v11, e11, b11⟩ := h.done 11 (by decide) (by decide)
  obtain rfl : v11 = .bool true := b11
  obtain ⟨v16, e16, b16⟩ := h.done 16 (by decide) (by decide)
  obtain rfl : v16 = .bool true := b16
  refine hand_pure ho (wanted_none hg) hc h.wn.rows (p_pick_and hop e11 e16) ?_
  rw [hd]
  exact .stop fun d => ⟨_, rfl, (h.put (by decide) (show Ok11 X w (.bool true) (kd A n c g cap g2 cap2 bs zs 17) from rfl) (Below.refl _ _)).at d⟩
theorem s51_18 (h : Ph11 A n c g cap g2 cap2 bs zs W X 18 T w) : Runs Try.prog (DF X) (N11 A n c g cap g2 cap2 bs zs W X k 19 [19, 20, 21, 22, 23, 24, 25, 26, 27, 28, 29]) (InR 11 (O51of (bodyOf Try.f11)) k T [18, 19, 20, 21, 22, 23, 24, 25, 26, 27, 28, 29] []) w := by
  obtain ⟨o, ho, hop, hd, hg, hc⟩ := o51_18
  obtain ⟨v17, e17, b17⟩ := h.done 17 (by decide) (by decide)
  obtain rfl : v17 = .bool true := b17
  refine hand_pure ho (wanted_none hg) hc h.wn.rows (p_move hop e17) ?_
  rw [hd]
  exact .stop fun d => ⟨_, rfl, (h.put (by decide) (show Ok11 X w (.bool true) (kd A n c g cap g2 cap2 bs zs 18) from rfl) (Below.refl _ _)).at d⟩
theorem s51_19 (h : Ph11 A n c g cap g2 cap2 bs zs W X 19 T w) : Runs Try.prog (DF X) (N11 A n c g cap g2 cap2 bs zs W X k 20 [20, 21, 22, 23, 24, 25, 26, 27, 28, 29]) (InR 11 (O51of (bodyOf Try.f11)) k T [19, 20, 21, 22, 23, 24, 25, 26, 27, 28, 29] []) w := by
  obtain ⟨o, ho, hop, hd, hg, hc⟩ := o51_19
  obtain ⟨v18, e18, b18⟩ := h.done 18 (by decide) (by decide)
  obtain rfl : v18 = .bool true := b18
  obtain ⟨og, hog, _, hogd, _⟩ := o51_18
  refine hand_pure ho (wanted_guard hg hog hogd e18) hc h.wn.rows (p_move hop h.bt.t9) ?_
  rw [hd]
  exact .stop fun d => ⟨_, rfl, (h.put (by decide) (show Ok11 X w (.slice (some ⟨g, 0, none⟩) n cap) (kd A n c g cap g2 cap2 bs zs 19) from rfl) (Below.refl _ _)).at d⟩
theorem s51_20 (h : Ph11 A n c g cap g2 cap2 bs zs W X 20 T w) : Runs Try.prog (DF X) (N11 A n c g cap g2 cap2 bs zs W X k 21 [21, 22, 23, 24, 25, 26, 27, 28, 29]) (InR 11 (O51of (bodyOf Try.f11)) k T [20, 21, 22, 23, 24, 25, 26, 27, 28, 29] []) w := by
  obtain ⟨o, ho, hop, hd, hg, hc⟩ := o51_20
  obtain ⟨v18, e18, b18⟩ := h.done 18 (by decide) (by decide)
  obtain rfl : v18 = .bool true := b18
  obtain ⟨og, hog, _, hogd, _⟩ := o51_18
  refine hand_pure ho (wanted_guard hg hog hogd e18) hc h.wn.rows (p_move hop h.bt.t9) ?_
  rw [hd]
  exact .stop fun d => ⟨_, rfl, (h.put (by decide) (show Ok11 X w (.slice (some ⟨g, 0, none⟩) n cap) (kd A n c g cap g2 cap2 bs zs 20) from rfl) (Below.refl _ _)).at d⟩
theorem s51_21 (h : Ph11 A n c g cap g2 cap2 bs zs W X 21 T w) : Runs Try.prog (DF X) (N11 A n c g cap g2 cap2 bs zs W X k 22 [22, 23, 24, 25, 26, 27, 28, 29]) (InR 11 (O51of (bodyOf Try.f11)) k T [21, 22, 23, 24, 25, 26, 27, 28, 29] []) w := by
  obtain ⟨o, ho, hop, hd, hg, hc⟩ := o51_21
  obtain ⟨v18, e18, b18⟩ := h.done 18 (by decide) (by decide)
  obtain rfl : v18 = .bool true := b18
  obtain ⟨v19, e19, b19⟩ := h.done 19 (by decide) (by decide)
  obtain rfl : v19 = .slice (some ⟨g, 0, none⟩) n cap := b19
  obtain ⟨v20, e20, b20⟩ := h.done 20 (by decide) (by decide)
  obtain rfl : v20 = .slice (some ⟨g, 0, none⟩) n cap := b20
  obtain ⟨og, hog, _, hogd, _⟩ := o51_18
  have hr : ∀ w : World, (execOp (⟨T, []⟩ : Act).eval o).run Try.prog w = .ok (.value (.slice (some ⟨w.heap.size, 0, none⟩) 2 2)) (w.alloc (.cells #[.slice (some ⟨g, 0, none⟩) n cap, .slice (some ⟨g, 0, none⟩) n cap] 29)) := fun w => by
    obtain ⟨i, z, q1, q2, q3, q4, q5, q6⟩ := (elem_sls).ex
    unfold execOp
    simp only [hop]
    show (Instr.buildSlice _ _ _ >>= fun v => (Pure.pure (Next.value v) : Sem Next)).run _ _ = _
    rw [Sem.run_bind, run_buildSlice w 62 29 2 _ #[.slice (some ⟨g, 0, none⟩) n cap, .slice (some ⟨g, 0, none⟩) n cap] i z q1 q2 q3 (by rw [q4]; omega) (by rw [q4]; omega) ?_]
    · rfl
    · rw [q4]
      have hl : ((#[(0, Operand.tmp 298), (1, Operand.tmp 299)] : Array (Nat × Operand)).map fun (i, x) => (i, (⟨T, []⟩ : Act).eval x)).toList = (([.slice (some ⟨g, 0, none⟩) n cap, .slice (some ⟨g, 0, none⟩) n cap] : List Value).zipIdx 0).map fun x => (x.2, x.1) := by
        simp [ev_tmp e19, ev_tmp e20, List.zipIdx]
      rw [hl]
      exact Great.fill_flat _ _ (fun v hv => by
        simp only [List.mem_cons, List.not_mem_nil, or_false] at hv
        rcases hv with rfl | rfl <;> rfl) (by simp)
  refine hand_calm ho (wanted_guard hg hog hogd e18) hc h.wn.rows hr fun d => ?_
  rw [hd]
  exact .stop fun d' => ⟨_, rfl, ((h.at d).put (by decide) (show Ok11 X _ _ (kd A n c g cap g2 cap2 bs zs 21) from RowP.new (w := w.at d) (fun r hx => (h.wn.at_ r hx).2) _ _) ((Below.refl _ _).alloc (Nat.le_refl _) _)).at d'⟩
theorem s51_23 (h : Ph11 A n c g cap g2 cap2 bs zs W X 23 T w) : Runs Try.prog (DF X) (N11 A n c g cap g2 cap2 bs zs W X k 24 [24, 25, 26, 27, 28, 29]) (InR 11 (O51of (bodyOf Try.f11)) k T [23, 24, 25, 26, 27, 28, 29] []) w := by
  obtain ⟨o, ho, hop, hd, hg, hc⟩ := o51_23
  obtain ⟨v18, e18, b18⟩ := h.done 18 (by decide) (by decide)
  obtain rfl : v18 = .bool true := b18
  obtain ⟨og, hog, _, hogd, _⟩ := o51_18
  refine hand_pure ho (wanted_guard hg hog hogd e18) hc h.wn.rows (p_move hop h.bt.t27) ?_
  rw [hd]
  exact .stop fun d => ⟨_, rfl, (h.put (by decide) (show Ok11 X w (.slice (some ⟨g2, 0, none⟩) n cap2) (kd A n c g cap g2 cap2 bs zs 23) from rfl) (Below.refl _ _)).at d⟩
theorem s51_24 (h : Ph11 A n c g cap g2 cap2 bs zs W X 24 T w) : Runs Try.prog (DF X) (N11 A n c g cap g2 cap2 bs zs W X k 25 [25, 26, 27, 28, 29]) (InR 11 (O51of (bodyOf Try.f11)) k T [24, 25, 26, 27, 28, 29] []) w := by
  obtain ⟨o, ho, hop, hd, hg, hc⟩ := o51_24
  obtain ⟨v18, e18, b18⟩ := h.done 18 (by decide) (by decide)
  obtain rfl : v18 = .bool true := b18
  obtain ⟨og, hog, _, hogd, _⟩ := o51_18
  refine hand_pure ho (wanted_guard hg hog hogd e18) hc h.wn.rows (p_move hop h.bt.t27) ?_
  rw [hd]
  exact .stop fun d => ⟨_, rfl, (h.put (by decide) (show Ok11 X w (.slice (some ⟨g2, 0, none⟩) n cap2) (kd A n c g cap g2 cap2 bs zs 24) from rfl) (Below.refl _ _)).at d⟩
theorem s51_25 (h : Ph11 A n c g cap g2 cap2 bs zs W X 25 T w) : Runs Try.prog (DF X) (N11 A n c g cap g2 cap2 bs zs W X k 26 [26, 27, 28, 29]) (InR 11 (O51of (bodyOf Try.f11)) k T [25, 26, 27, 28, 29] []) w := by
  obtain ⟨o, ho, hop, hd, hg, hc⟩ := o51_25
  obtain ⟨v18, e18, b18⟩ := h.done 18 (by decide) (by decide)
  obtain rfl : v18 = .bool true := b18
  obtain ⟨v23, e23, b23⟩ := h.done 23 (by decide) (by decide)
  obtain rfl : v23 = .slice (some ⟨g2, 0, none⟩) n cap2 := b23
  obtain ⟨v24, e24, b24⟩ := h.done 24 (by decide) (by decide)
  obtain rfl : v24 = .slice (some ⟨g2, 0, none⟩) n cap2 := b24
  obtain ⟨og, hog, _, hogd, _⟩ := o51_18
  have hr : ∀ w : World, (execOp (⟨T, []⟩ : Act).eval o).run Try.prog w = .ok (.value (.slice (some ⟨w.heap.size, 0, none⟩) 2 2)) (w.alloc (.cells #[.slice (some ⟨g2, 0, none⟩) n cap2, .slice (some ⟨g2, 0, none⟩) n cap2] 29)) := fun w => by
    obtain ⟨i, z, q1, q2, q3, q4, q5, q6⟩ := (elem_sls).ex
    unfold execOp
    simp only [hop]
    show (Instr.buildSlice _ _ _ >>= fun v => (Pure.pure (Next.value v) : Sem Next)).run _ _ = _
    rw [Sem.run_bind, run_buildSlice w 62 29 2 _ #[.slice (some ⟨g2, 0, none⟩) n cap2, .slice (some ⟨g2, 0, none⟩) n cap2] i z q1 q2 q3 (by rw [q4]; omega) (by rw [q4]; omega) ?_]
    · rfl
    · rw [q4]
      have hl : ((#[(0, Operand.tmp 302), (1, Operand.tmp 303)] : Array (Nat × Operand)).map fun (i, x) => (i, (⟨T, []⟩ : Act).eval x)).toList = (([.slice (some ⟨g2, 0, none⟩) n cap2, .slice (some ⟨g2, 0, none⟩) n cap2] : List Value).zipIdx 0).map fun x => (x.2, x.1) := by
        simp [ev_tmp e23, ev_tmp e24, List.zipIdx]
      rw [hl]
      exact Great.fill_flat _ _ (fun v hv => by
        simp only [List.mem_cons, List.not_mem_nil, or_false] at hv
        rcases hv with rfl | rfl <;> rfl) (by simp)
  refine hand_calm ho (wanted_guard hg hog hogd e18) hc h.wn.rows hr fun d => ?_
  rw [hd]
  exact .stop fun d' => ⟨_, rfl, ((h.at d).put (by decide) (show Ok11 X _ _ (kd A n c g cap g2 cap2 bs zs 25) from RowP.new (w := w.at d) (fun r hx => (h.wn.at_ r hx).2) _ _) ((Below.refl _ _).alloc (Nat.le_refl _) _)).at d'⟩
theorem s51_27 (h : Ph11 A n c g cap g2 cap2 bs zs W X 27 T w) : Runs Try.prog (DF X) (N11 A n c g cap g2 cap2 bs zs W X k 28 [28, 29]) (InR 11 (O51of (bodyOf Try.f11)) k T [27, 28, 29] []) w := by
  obtain ⟨o, ho, hop, hd, hg, hc⟩ := o51_27
  obtain ⟨v18, e18, b18⟩ := h.done 18 (by decide) (by decide)
  obtain rfl : v18 = .bool true := b18
  obtain ⟨v22, e22, b22⟩ := h.done 22 (by decide) (by decide)
  obtain rfl : v22 = .int .u32 (sumP [zs, zs] : Nat) := b22
  obtain ⟨v26, e26, b26⟩ := h.done 26 (by decide) (by decide)
  obtain rfl : v26 = .int .u32 (sumP [zs, zs] : Nat) := b26
  obtain ⟨og, hog, _, hogd, _⟩ := o51_18
  refine hand_pure ho (wanted_guard hg hog hogd e18) hc h.wn.rows (p_eql (z := true) hop e22 e26 (by simp)) ?_
  rw [hd]
  exact .stop fun d => ⟨_, rfl, (h.put (by decide) (show Ok11 X w (.bool true) (kd A n c g cap g2 cap2 bs zs 27) from rfl) (Below.refl _ _)).at d⟩
theorem s51_28 (h : Ph11 A n c g cap g2 cap2 bs zs W X 28 T w) : Runs Try.prog (DF X) (N11 A n c g cap g2 cap2 bs zs W X k 29 [29]) (InR 11 (O51of (bodyOf Try.f11)) k T [28, 29] []) w := by
  obtain ⟨o, ho, hop, hd, hg, hc⟩ := o51_28
  obtain ⟨v18, e18, b18⟩ := h.done 18 (by decide) (by decide)
  obtain rfl : v18 = .bool true := b18
  obtain ⟨v27, e27, b27⟩ := h.done 27 (by decide) (by decide)
  obtain rfl : v27 = .bool true := b27
  refine hand_pure ho (wanted_none hg) hc h.wn.rows (p_pick_and hop e18 e27) ?_
  rw [hd]
  exact .stop fun d => ⟨_, rfl, (h.put (by decide) (show Ok11 X w (.bool true) (kd A n c g cap g2 cap2 bs zs 28) from rfl) (Below.refl _ _)).at d⟩
theorem args_two {x0 : Option Addr} {cx g3 : Nat} {a : Value} (hx : a = .slice x0 n cx) (hb : Byt X w n zs a) (hr : RowP X w a (.slice (some ⟨g3, 0, none⟩) 2 2)) : Args w w.heap.size X (some ⟨g3, 0, none⟩) 2 [zs, zs] (fun _ => (x0, cx)) := by
  obtain ⟨g, e, h1, h2, h3, h4⟩ := hr
  cases e
  obtain ⟨gb, cb, eb, k1, k2, k3, k4⟩ := hb
  have hl : zs.length = n := by have := k4.1; simpa using this
  subst hx
  cases eb
  have hc : ∀ j, j < 2 → ([zs, zs] : List (List UInt8)).getD j [] = zs := fun j hj => by
    match j, hj with
    | 0, _ => rfl
    | 1, _ => rfl
  refine ⟨rfl, fun _ => ⟨g3, 0, rfl, h1, h2, fun j hj => ?_⟩, fun j hj hp => ⟨gb, 0, rfl, k2, k3, fun k u hu => ?_⟩⟩
  · rw [hc j hj, hl]
    match j, hj with
    | 0, _ => exact h3
    | 1, _ => exact h4
  · rw [hc j hj] at hu hp
    obtain ⟨ad, e1, e2, e3⟩ := k4.2 (by omega)
    cases e1
    have := e3 k u hu
    rw [show (⟨gb, 0, none⟩ : Addr).add k = ⟨gb, k, none⟩ from by cases k <;> simp [Addr.add]] at this
    rw [Nat.zero_add]
    exact this
/-- The state between two operations, in the machine. -/
def At11 (A : Option Addr) (n c g cap g2 cap2 : Nat) (bs zs : List UInt8) (W : World) (k : List Item) (mm : Nat) (l : List Nat) (m : Machine) (t : Trace) : Prop := ∃ X Jm, Mach Try.prog X Jm (N11 A n c g cap g2 cap2 bs zs W X k mm l) m t
theorem s51_22 {m : Machine} {t : Trace} (hn : n ≤ 140737488351232) (hq : TakeQ 140737488355328 q) (h : At11 A n c g cap g2 cap2 bs zs W k 22 [22, 23, 24, 25, 26, 27, 28, 29] m t) : Leads Try.prog m t (At11 A n c g cap g2 cap2 bs zs W k 23 [23, 24, 25, 26, 27, 28, 29]) := by
  obtain ⟨X, Jm, hM⟩ := h
  obtain ⟨g0, W1, ⟨T, rfl, hP⟩, hM⟩ := hM.pin
  obtain ⟨o, ho, hop, hd, hg, _⟩ := o51_22
  obtain ⟨v18, e18, b18⟩ := hP.done 18 (by decide) (by decide)
  obtain rfl : v18 = .bool true := b18
  obtain ⟨vr, er, br⟩ := hP.done 21 (by decide) (by decide)
  obtain ⟨og, hog, _, hogd, _⟩ := o51_18
  have hr : RowP X W1 (.slice (some ⟨g, 0, none⟩) n cap) vr := br
  obtain ⟨g3, e3, _⟩ := hr
  subst e3
  have ha := args_two rfl hP.inb br
  have hl : zs.length = n := by obtain ⟨gb, cb, eb, k1, k2, k3, k4⟩ := hP.inb; have := k4.1; simpa using this
  have hB : ∀ j, j < 2 → (([zs, zs] : List (List UInt8)).getD j []).length ≤ 140737488355328 := fun j hj => by
    match j, hj with
    | 0, _ => show zs.length ≤ _; omega
    | 1, _ => show zs.length ≤ _; omega
  refine (hand_parts ho (wanted_guard hg hog hogd e18) hop (ev_tmp er) hq (fun r hx => (hP.wn.at_ r hx).2) hP.wn.rows ha hB (Nat.le_refl _) (by omega) hM).mono fun m2 t2 h2 => ⟨_, _, h2.mono fun gg w2 ⟨q1, q2, q3⟩ => ⟨putT T o.dst (.int .u32 (sumP [zs, zs] : Nat)), q1, ?_⟩⟩
  rw [hd]
  exact hP.parts (by decide) (fun _ _ => rfl) q2 q3
theorem s51_26 {m : Machine} {t : Trace} (hn : n ≤ 140737488351232) (hq : TakeQ 140737488355328 q) (h : At11 A n c g cap g2 cap2 bs zs W k 26 [26, 27, 28, 29] m t) : Leads Try.prog m t (At11 A n c g cap g2 cap2 bs zs W k 27 [27, 28, 29]) := by
  obtain ⟨X, Jm, hM⟩ := h
  obtain ⟨g0, W1, ⟨T, rfl, hP⟩, hM⟩ := hM.pin
  obtain ⟨o, ho, hop, hd, hg, _⟩ := o51_26
  obtain ⟨v18, e18, b18⟩ := hP.done 18 (by decide) (by decide)
  obtain rfl : v18 = .bool true := b18
  obtain ⟨vr, er, br⟩ := hP.done 25 (by decide) (by decide)
  obtain ⟨og, hog, _, hogd, _⟩ := o51_18
  have hr : RowP X W1 (.slice (some ⟨g2, 0, none⟩) n cap2) vr := br
  obtain ⟨g3, e3, _⟩ := hr
  subst e3
  have ha := args_two rfl hP.nowb br
  have hl : zs.length = n := by obtain ⟨gb, cb, eb, k1, k2, k3, k4⟩ := hP.nowb; have := k4.1; simpa using this
  have hB : ∀ j, j < 2 → (([zs, zs] : List (List UInt8)).getD j []).length ≤ 140737488355328 := fun j hj => by
    match j, hj with
    | 0, _ => show zs.length ≤ _; omega
    | 1, _ => show zs.length ≤ _; omega
  refine (hand_parts ho (wanted_guard hg hog hogd e18) hop (ev_tmp er) hq (fun r hx => (hP.wn.at_ r hx).2) hP.wn.rows ha hB (Nat.le_refl _) (by omega) hM).mono fun m2 t2 h2 => ⟨_, _, h2.mono fun gg w2 ⟨q1, q2, q3⟩ => ⟨putT T o.dst (.int .u32 (sumP [zs, zs] : Nat)), q1, ?_⟩⟩
  rw [hd]
  exact hP.parts (by decide) (fun _ _ => rfl) q2 q3
theorem own_one {l l' : List Nat} (hk : ∀ (X : Nat → Prop) (T : Array Value) (w : World), Ph11 A n c g cap g2 cap2 bs zs W X mm T w → Runs Try.prog (DF X) (N11 A n c g cap g2 cap2 bs zs W X k (mm + 1) l') (InR 11 (O51of (bodyOf Try.f11)) k T l []) w) (m : Machine) (t : Trace) (h : At11 A n c g cap g2 cap2 bs zs W k mm l m t) : Leads Try.prog m t (At11 A n c g cap g2 cap2 bs zs W k (mm + 1) l') := by
  obtain ⟨X, Jm, hM⟩ := h
  exact (hM.runs fun a w ⟨T, e, hP⟩ => by rw [e]; exact hk X T w hP).mono fun m' t' h' => ⟨X, Jm, h'⟩
theorem own_chain {m : Machine} {t : Trace} (hn : n ≤ 140737488351232) (hq : TakeQ 140737488355328 q) (h : At11 A n c g cap g2 cap2 bs zs W k 0 [0, 1, 2, 3, 4, 5, 6, 7, 8, 9, 10, 11, 12, 13, 14, 15, 16, 17, 18, 19, 20, 21, 22, 23, 24, 25, 26, 27, 28, 29] m t) : Leads Try.prog m t (At11 A n c g cap g2 cap2 bs zs W k 29 [29]) := by
  refine (own_one (fun X T w hP => s51_0 hP) m t h).bind fun m t h => ?_
  refine (own_one (fun X T w hP => s51_1 hP) m t h).bind fun m t h => ?_
  refine (own_one (fun X T w hP => s51_2 hn hP) m t h).bind fun m t h => ?_
  refine (own_one (fun X T w hP => s51_3 hP) m t h).bind fun m t h => ?_
  refine (own_one (fun X T w hP => s51_4 hP) m t h).bind fun m t h => ?_
  refine (own_one (fun X T w hP => s51_5 hP) m t h).bind fun m t h => ?_
  refine (own_one (fun X T w hP => s51_6 hn hP) m t h).bind fun m t h => ?_
  refine (own_one (fun X T w hP => s51_7 hP) m t h).bind fun m t h => ?_
  refine (own_one (fun X T w hP => s51_8 hn hP) m t h).bind fun m t h => ?_
  refine (own_one (fun X T w hP => s51_9 hn hP) m t h).bind fun m t h => ?_
  refine (own_one (fun X T w hP => s51_10 hP) m t h).bind fun m t h => ?_
  refine (own_one (fun X T w hP => s51_11 hP) m t h).bind fun m t h => ?_
  refine (own_one (fun X T w hP => s51_12 hP) m t h).bind fun m t h => ?_
  refine (own_one (fun X T w hP => s51_13 hn hP) m t h).bind fun m t h => ?_
  refine (own_one (fun X T w hP => s51_14 hn hP) m t h).bind fun m t h => ?_
  refine (own_one (fun X T w hP => s51_15 hP) m t h).bind fun m t h => ?_
  refine (own_one (fun X T w hP => s51_16 hP) m t h).bind fun m t h => ?_
  refine (own_one (fun X T w hP => s51_17 hP) m t h).bind fun m t h => ?_
  refine (own_one (fun X T w hP => s51_18 hP) m t h).bind fun m t h => ?_
  refine (own_one (fun X T w hP => s51_19 hP) m t h).bind fun m t h => ?_
  refine (own_one (fun X T w hP => s51_20 hP) m t h).bind fun m t h => ?_
  refine (own_one (fun X T w hP => s51_21 hP) m t h).bind fun m t h => ?_
  refine (s51_22 hn hq h).bind fun m t h => ?_
  refine (own_one (fun X T w hP => s51_23 hP) m t h).bind fun m t h => ?_
  refine (own_one (fun X T w hP => s51_24 hP) m t h).bind fun m t h => ?_
  refine (own_one (fun X T w hP => s51_25 hP) m t h).bind fun m t h => ?_
  refine (s51_26 hn hq h).bind fun m t h => ?_
  refine (own_one (fun X T w hP => s51_27 hP) m t h).bind fun m t h => ?_
  exact own_one (fun X T w hP => s51_28 hP) m t h
/-- The last operation. -/
theorem s51_29 (h : Ph11 A n c g cap g2 cap2 bs zs W X 29 T w) : Runs Try.prog (DF X) (fun gg w' => ∃ T', gg = InR 11 (O51of (bodyOf Try.f11)) k T' [] [] ∧ T'[8]? = some (.bool true) ∧ Wn W X w') (InR 11 (O51of (bodyOf Try.f11)) k T [29] []) w := by
  obtain ⟨o, ho, hop, hd, hg, hc⟩ := o51_29
  obtain ⟨v28, e28, b28⟩ := h.done 28 (by decide) (by decide)
  obtain rfl : v28 = .bool true := b28
  refine hand_pure ho (wanted_none hg) hc h.wn.rows (p_assign hop e28) ?_
  rw [hd]
  have := h.bt.sz
  exact .stop fun d => ⟨_, rfl, Array.getElem?_setIfInBounds_self_of_lt (by omega), h.wn.at d⟩
end
end Go.Proofs.Ytoipkpndfgcmcaa.Crew

/-
  CheckOwn: from its entry to its end, in the whole machine. The conditions stand in each theorem.
-/
namespace Go.Proofs.Ytoipkpndfgcmcaa.Crew
open Go Go.Conc Go.ConcN Go.RowKit Go.Conc.Lib Go.ConcR.Gen Go.ConcN.Gen Go.Proofs.Ytoipkpndfgcmcaa.Veils
set_option linter.unusedVariables false
set_option linter.unusedSectionVars false
set_option linter.unusedSimpArgs false
set_option maxRecDepth 100000 in
theorem enter11 (a b c d : Value) : Frame.enter Try.prog 11 #[a, b, c, d] .normal = fr11 (#[a, b, c, d] ++ Array.replicate 304 undef) [.code (bodyOf Try.f11)] := by kernel_rfl
theorem inits11 : Try.prog.inits.idxOf? 11 = none := by kernel_rfl
theorem text21 : seqTails 21 (bodyOf Try.f11) = (.seq (.region 51 (O51of (bodyOf Try.f11)) false) .ret) := by kernel_rfl
theorem size51 : (O51of (bodyOf Try.f11)).size = 30 := by kernel_rfl
theorem tA : tailed Try.prog calmF (slotK 11) (front 6 (bodyOf Try.f11)) = true := by kernel_rfl
theorem tB : tailed Try.prog calmF (slotK 11) (front 1 (seqTails 6 (bodyOf Try.f11))) = true := by kernel_rfl
theorem tC : tailed Try.prog calmF (slotK 11) (front 2 (seqTails 7 (bodyOf Try.f11))) = true := by kernel_rfl
theorem tD : tailed Try.prog calmF (slotK 11) (front 1 (seqTails 9 (bodyOf Try.f11))) = true := by kernel_rfl
theorem tE1 : tailed Try.prog calmF (slotK 11) (front 4 (seqTails 10 (bodyOf Try.f11))) = true := by kernel_rfl
theorem tE2 : tailed Try.prog calmF (slotK 11) (front 1 (seqTails 14 (bodyOf Try.f11))) = true := by kernel_rfl
theorem tE3 : tailed Try.prog calmF (slotK 11) (front 6 (seqTails 15 (bodyOf Try.f11))) = true := by kernel_rfl
theorem cA : bodyOf Try.f11 = graftf (seqTails 6 (bodyOf Try.f11)) (front 6 (bodyOf Try.f11)) := by kernel_rfl
theorem cB : seqTails 6 (bodyOf Try.f11) = graftf (seqTails 7 (bodyOf Try.f11)) (front 1 (seqTails 6 (bodyOf Try.f11))) := by kernel_rfl
theorem cC : seqTails 7 (bodyOf Try.f11) = graftf (seqTails 9 (bodyOf Try.f11)) (front 2 (seqTails 7 (bodyOf Try.f11))) := by kernel_rfl
theorem cD : seqTails 9 (bodyOf Try.f11) = graftf (seqTails 10 (bodyOf Try.f11)) (front 1 (seqTails 9 (bodyOf Try.f11))) := by kernel_rfl
theorem cE1 : seqTails 10 (bodyOf Try.f11) = graftf (seqTails 14 (bodyOf Try.f11)) (front 4 (seqTails 10 (bodyOf Try.f11))) := by kernel_rfl
theorem cE2 : seqTails 14 (bodyOf Try.f11) = graftf (seqTails 15 (bodyOf Try.f11)) (front 1 (seqTails 14 (bodyOf Try.f11))) := by kernel_rfl
theorem cE3 : seqTails 15 (bodyOf Try.f11) = graftf (seqTails 21 (bodyOf Try.f11)) (front 6 (seqTails 15 (bodyOf Try.f11))) := by kernel_rfl
section
variable {W : World} {A : Option Addr} {n c x0 y0 q : Nat} {i0 : Int} {bs : List UInt8}
/-- At the law's return. -/
def Ret11 (W : World) (g : Goroutine) (w : World) : Prop :=
  ∃ a' todo, g = G { (base 11).at a' todo with mode := .returning } [] ∧ a'.defers = [] ∧ a'.tmps.getD 8 undef = .bool true ∧ Below W.heap.size W w
theorem co_last {m : Machine} {t : Trace} (hn : n ≤ 140737488351232) (hr : Reads W W.heap.size 1 A n (bs.map bv)) (hq : TakeQ 140737488355328 q)
    (h : Mach Try.prog (fun _ => False) 0 (SO W W.heap.size (seqTails 21 (bodyOf Try.f11)) (RE W.heap.size A n c i0 x0 y0 bs)) m t) : Leads Try.prog m t fun m t => ∃ X J, Mach Try.prog X J (Ret11 W) m t := by
  obtain ⟨g0, w0, ⟨T, rfl, ⟨g, cap, zs, g2, cap2, h1, h2, h3, h4, h5, h6, h7, h8, h9, h10⟩, hb⟩, h⟩ := h.pin
  have hbt : BT A n c g cap g2 cap2 bs zs T := ⟨h1.sz, h1.t0, h3.t9, h4, h6, h5⟩
  have hgl := (h3.own.lt g rfl).2
  have hcp := h3.cap_
  have hz := h3.len
  refine (h.runs (S' := N11 A n c g cap g2 cap2 bs zs W (fun _ => False) [.code .ret] 0 [0, 1, 2, 3, 4, 5, 6, 7, 8, 9, 10, 11, 12, 13, 14, 15, 16, 17, 18, 19, 20, 21, 22, 23, 24, 25, 26, 27, 28, 29]) fun a w ⟨e1, e2⟩ => ?_).bind fun m1 t1 h' => ?_
  · subst e1 e2
    rw [text21]
    refine Runs.of_step rfl fun d => ⟨_, _, _, stepG_seq, ⟨Nat.le_refl _, fun e he => by simp at he⟩, ?_⟩
    refine Runs.of_step rfl fun d => ⟨_, _, _, stepG_region, ⟨Nat.le_refl _, fun e he => by simp at he⟩, ?_⟩
    rw [size51]
    have hP : Ph11 A n c g cap g2 cap2 bs zs W (fun _ => False) 0 T w :=
      ⟨hbt, ⟨g, cap, rfl, by omega, hgl, id, (Reads.of_own h3.own).front hz⟩, ⟨g2, cap2, rfl, h7, h9, id, h10⟩, hr, fun j hj => absurd hj (by omega), ⟨hb, fun b hb => hb.elim, fun r hx => hx.elim⟩⟩
    exact .stop fun d => ⟨T, rfl, (((hP.at _).at _).at _)⟩
  · refine (own_chain hn hq ⟨_, _, h'⟩).bind fun m2 t2 ⟨X, Jm, h2'⟩ => ?_
    refine (h2'.runs (S' := Ret11 W) fun a w ⟨T', e, hP⟩ => ?_).mono fun m3 t3 h3' => ⟨X, Jm, h3'⟩
    rw [e]
    refine runs_then (s51_29 hP) ?_
    rintro gg w' ⟨T2, rfl, h8', hW⟩
    refine hand_end ?_
    refine Runs.of_step rfl fun d => ⟨_, _, _, stepG_ret', ⟨Nat.le_refl _, fun e he => by simp at he⟩, ?_⟩
    exact .stop fun d => ⟨⟨T2, []⟩, _, rfl, rfl, by rw [Array.getD_eq_getD_getElem?, h8']; rfl, below_at (below_at hW.below _) _⟩
theorem ret_done11 {X : Nat → Prop} (g : Goroutine) (w : World) (h : Ret11 W g w) : AtDone Try.prog X (fun v w' => v = .bool true ∧ Below W.heap.size W w') g w := by
  obtain ⟨a', todo, rfl, hd, hx, hb⟩ := h
  refine ⟨rfl, fun d => ⟨.bool true, #[], ?_, fun e he => by simp at he, rfl, below_at hb d⟩⟩
  rw [stepG_last rfl hd Try.func11 (results_tmp (t := 8) rfl _ Try.prog (w.at d)) (events_results_tmp (t := 8) rfl _ _) inits11, hx]
set_option maxRecDepth 100000 in
theorem start11 : BsT A n c i0 x0 y0 (#[.slice A n c, .int .i64 i0, .int .u32 (x0 : Int), .int .u8 (y0 : Int)] ++ Array.replicate 304 undef) :=
  ⟨by simp, by rw [Array.getElem?_append_left (by simp)]; rfl, by rw [Array.getElem?_append_left (by simp)]; rfl, by rw [Array.getElem?_append_left (by simp)]; rfl, by rw [Array.getElem?_append_left (by simp)]; rfl⟩
/-- CHECKOWN. -/
theorem checkOwn_run (hr : Reads W W.heap.size 1 A n (bs.map bv)) (hn : n ≤ 140737488351232) (hx : x0 < U32) (hy : y0 < 256) (hi1 : -9223372036854775808 ≤ i0) (hi2 : i0 ≤ 9223372036854775807) :
    ∃ M last o w' t', runNT Try.prog (M + 1) (solo (G (Frame.enter Try.prog 11 #[.slice A n c, .int .i64 i0, .int .u32 x0, .int .u8 y0] .normal) []) W) #[] = (.ended o w', t') ∧ runN Try.prog M (solo (G (Frame.enter Try.prog 11 #[.slice A n c, .int .i64 i0, .int .u32 x0, .int .u8 y0] .normal) []) W) = .next last ∧
      step Try.prog last = .ended o w' ∧ Conc.Good Try.prog (fun v w' => v = .bool true ∧ Below W.heap.size W w') last o w' t' := by
  obtain ⟨q, hq⟩ := take_co 140737488355328 (Nat.le_refl _)
  have h0 : Mach Try.prog (fun _ => False) 0 (SO W W.heap.size (bodyOf Try.f11) (R0 W.heap.size A n c i0 x0 y0 bs)) (solo (G (Frame.enter Try.prog 11 #[.slice A n c, .int .i64 i0, .int .u32 x0, .int .u8 y0] .normal) []) W) #[] :=
    mach_one _ _ ⟨_, by rw [enter11], ⟨start11, hr⟩, Below.refl _ _⟩
  have hl : Leads Try.prog (solo (G (Frame.enter Try.prog 11 #[.slice A n c, .int .i64 i0, .int .u32 x0, .int .u8 y0] .normal) []) W) #[] (fun m t => ∃ X J, Mach Try.prog X J (Ret11 W) m t) := by
    refine (h0.runs fun a w k => stage cA tA (Nat.le_refl _) (fun T v w e h => h.eqv T v w e) (fun T v w e h => RA.eqv T v w e h) (fun T v h hB => co_A hn hB hx hi1 hi2 h) a w k).bind fun m t h => ?_
    refine (h.runs fun a w k => stage cB tB (Nat.le_refl _) (fun T v w e h => RA.eqv T v w e h) (fun T v w e h => RB.eqv T v w e h) (fun T v h hB => co_B hn hB h) a w k).bind fun m t h => ?_
    refine (h.runs fun a w k => stage cC tC (Nat.le_refl _) (fun T v w e h => RB.eqv T v w e h) (fun T v w e h => RC.eqv T v w e h) (fun T v h hB => co_C hn hB h) a w k).bind fun m t h => ?_
    refine (h.runs fun a w k => stage cD tD (Nat.le_refl _) (fun T v w e h => RC.eqv T v w e h) (fun T v w e h => RD.eqv T v w e h) (fun T v h hB => co_D hn hB h) a w k).bind fun m t h => ?_
    refine (h.runs fun a w k => stage cE1 tE1 (Nat.le_refl _) (fun T v w e h => RD.eqv T v w e h) (fun T v w e h => RE1.eqv T v w e h) (fun T v h hB => co_E1 hn hB hx hi1 hi2 h) a w k).bind fun m t h => ?_
    refine (h.runs fun a w k => stage cE2 tE2 (Nat.le_refl _) (fun T v w e h => RE1.eqv T v w e h) (fun T v w e h => RE1.eqv T v w e h) (fun T v h hB => co_E2 hn hB hy h) a w k).bind fun m t h => ?_
    refine (h.runs fun a w k => stage cE3 tE3 (Nat.le_refl _) (fun T v w e h => RE1.eqv T v w e h) (fun T v w e h => RE.eqv T v w e h) (fun T v h hB => co_E3 hn hB hx h) a w k).bind fun m t h => ?_
    exact co_last hn hr hq h
  obtain ⟨N, m1, t1, h1, X, J, h2⟩ := hl
  exact Leads.ends (X := X) (J := J) ⟨N, m1, t1, h1, h2⟩ fun a w hs => ret_done11 a w hs
end
end Go.Proofs.Ytoipkpndfgcmcaa.Crew

namespace Go.Proofs.Ytoipkpndfgcmcaa.checkOwn
open Go.RowKit Go.ChangeShapes Go.WideShapes Go.ChangeAt
set_option linter.unusedVariables false

theorem own : ownKnob Try.prog.godebug = none := by kernel_rfl
theorem laidOut : laidOutB Try.prog = true := by kernel_rfl

set_option maxRecDepth 100000 in
theorem lifted (os : Os) (started : os.Started) (H : Type) (enc : TypeId × Value → H) :
    ReturnsInLeavingWide {} Try.checked os 11 .any (Rows.checkOwnSpec.pre6 enc Try.prog Try.f11 Rows.checkOwnRow.domain false) (Rows.checkOwnSpec.post enc Try.prog Try.f11 false true false false) := by
  refine returnsInLeavingWide_of_change_sized (C := Try.checked) own started Try.func11
    (ChangeSpec.witness6 (enc := enc) (C := Try.checked) false ⟨#[], #[.slice none 0 0, .int .i64 0, .int .u32 0, .int .u8 0], []⟩ 8 (by kernel_rfl) (by kernel_rfl) (by kernel_rfl) (by kernel_rfl)) ?_
  intro W base args ds gs before hval0 hW hcnd hsz0 _
  have hsz : (DataW.weightsEach Try.prog (Try.f11.params.toList ++ Rows.checkOwnSpec.plain.varTypes Try.prog) (ds ++ gs)).all (· ≤ reachBytes) = true := hsz0
  clear hsz0
  have hval : ∀ (j : Nat) t v, Try.f11.params[j]? = some t → args[j]? = some v → Value.okWide Try.prog W .any base t v := hval0
  have hW' := hW
  obtain ⟨p, q, hA0, hV, rfl, hfz, hnd⟩ := hW
  have hA : DataW.TrodAll enc Try.prog W 0 (fun _ => true) true Try.f11.params.toList args.toList ds p := hA0
  rw [Try.params11] at hA hval hsz
  obtain ⟨v0, vs0, d0, ds0, p0, q0, hargs, rfl, rfl, h0, r0⟩ := trodAll_cons hA
  obtain ⟨v1, vs1, d1, ds1, p1, q1, rfl, rfl, rfl, h1, r1⟩ := trodAll_cons r0
  obtain ⟨v2, vs2, d2, ds2, p2, q2, rfl, rfl, rfl, h2, r2⟩ := trodAll_cons r1
  obtain ⟨v3, vs3, d3, ds3, p3, q3, rfl, rfl, rfl, h3, r3⟩ := trodAll_cons r2
  obtain ⟨rfl, rfl, rfl⟩ := trodAll_nil r3
  obtain rfl : args = #[v0, v1, v2, v3] := by cases args; simp_all
  obtain ⟨rfl, rfl⟩ := trodVars_none hV
  obtain ⟨a0, n0, c0, rfl⟩ := okWide_slice Try.underlying29 (hval 0 29 v0 rfl rfl)
  have k0 := h0
  have lt0 : ∀ x ∈ p0, x.block < W.heap.size := by obtain ⟨m, hm⟩ := k0; exact DataW.trod_lt m _ _ _ hm
  obtain ⟨⟨b0, hr0⟩, ho0⟩ := open_bytes Try.underlying29 Try.underlying5 (by kernel_rfl) h0
  have hn0 := reach_bytes hsz 0 rfl Try.underlying29 (by kernel_rfl) rfl ho0
  obtain ⟨x1, rfl, rfl, rfl, w1⟩ := open_int Try.underlying3 (hval 1 3 v1 rfl rfl) h1
  have bd1 := bounds_i64 w1
  obtain ⟨x2, rfl, rfl, rfl, w2⟩ := open_int Try.underlying40 (hval 2 40 v2 rfl rfl) h2
  have bd2 : 0 ≤ x2 ∧ x2 ≤ 4294967295 := by have h := w2; simp [Lit.wf, IntKind.min, IntKind.max, IntKind.signed, IntKind.bits] at h; omega
  obtain ⟨m2, rfl⟩ := Int.eq_ofNat_of_zero_le bd2.1
  have hm2 : m2 < U32 := by unfold U32; omega
  obtain ⟨x3, rfl, rfl, rfl, w3⟩ := open_int Try.underlying5 (hval 3 5 v3 rfl rfl) h3
  have bd3 : 0 ≤ x3 ∧ x3 ≤ 255 := by have h := w3; simp [Lit.wf, IntKind.min, IntKind.max, IntKind.signed, IntKind.bits] at h; omega
  obtain ⟨m3, rfl⟩ := Int.eq_ofNat_of_zero_le bd3.1
  have hm3 : m3 < 256 := by omega
  clear hA0 hval0
  obtain ⟨M, last, o, w', t', h1, h2, h3, h4⟩ := Crew.checkOwn_run (W := W) (c := c0) hr0 hn0 hm2 hm3 bd1.1 bd1.2
  refine ⟨M, last, o, w', t', h1, h2, h3, h4.mono fun v hp => ?_⟩
  obtain ⟨he, bel⟩ := hp
  subst he
  exact ⟨_, _, _, [], _, [], hW', trodAll_mk1 (shut_bool Try.underlying4 _), (trodAll_cons_mk (Below.trod laidOut (by kernel_rfl) (of_decide_eq_true (by kernel_rfl)) k0 bel lt0) (trodAll_cons_mk (shut_int Try.underlying3 w1) (trodAll_cons_mk (shut_int Try.underlying40 w2) (trodAll_cons_mk (shut_int Try.underlying5 w3) (trodAll_mk0))))), rfl, bel.frame _, fun h => by cases h⟩

theorem over : Rows.checkOwnRow.holds Try.pinned (OpenSpec.ofChange Rows.checkOwnSpec) :=
  OpenClaim.holds_of_wide_leaving 11 Try.f11 rfl rfl rfl rfl rfl rfl rfl ⟨rfl, rfl, rfl, rfl, rfl⟩ rfl rfl rfl rfl rfl (by kernel_rfl) Try.func11 (by kernel_rfl)
    (of_decide_eq_true (by kernel_rfl)) (by unfold Func.isWrapper; first | (rw [if_pos (by decide +kernel)]; kernel_rfl) | (rw [if_neg (by decide +kernel)]; exact ⟨rfl, rfl⟩))
    (fun os started H enc _ => lifted os started H enc)

theorem proved : Rows.CheckOwnSaid := over
#print axioms proved
end Go.Proofs.Ytoipkpndfgcmcaa.checkOwn
