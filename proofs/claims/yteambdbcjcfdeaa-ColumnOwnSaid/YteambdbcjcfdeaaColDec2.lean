/-
  Decode of a page of one of the four ways: the walks over the Go text. Condition: fewer than 2^47 bytes.
-/
import Derived.Test.YteambdbcjcfdeaaColDec
namespace Go.Proofs.Yteambdbcjcfdeaa
open Go.RowKit

theorem page_of {c : List UInt32} {y : Nat} {bs : List UInt8} (hy : 1 ≤ y ∧ y ≤ 4) (h : pageS c = UInt8.ofNat y :: bs) : wayS c = y ∧ laidS y c = bs := by
  rw [pageS] at h
  injection h with h1 h2
  have h3 := wayS_range c
  have h4 := congrArg UInt8.toNat h1
  rw [UInt8.toNat_ofNat', UInt8.toNat_ofNat', Nat.mod_eq_of_lt (by omega), Nat.mod_eq_of_lt (by omega)] at h4
  exact ⟨h4, by rw [← h4]; exact h2⟩
theorem own_caps {w : World} {B n c : Nat} {e : TypeId} {A : Option Addr} {xs : List Value} (h : w.ownsRow B e 1 (.slice A n c) n xs) : n ≤ c ∧ c ≤ 9223372036854775807 := by
  rcases h.2 with ⟨h', _⟩ | ⟨g', cap', cur, h', _, _, hn, hm, _⟩
  · cases h'; omega
  · cases h'
    simp only [maxLen] at hm
    omega
theorem own_base {w : World} {B n c : Nat} {e : TypeId} {A : Option Addr} {xs : List Value} (h : w.ownsRow B e 1 (.slice A n c) n xs) {ad : Addr} (ha : A = some ad) : B ≤ ad.block := by
  rcases h.2 with ⟨h', _⟩ | ⟨g', cap', cur, h', hb, _, hn, hm, _⟩
  · cases h'; cases ha
  · cases h'
    cases ha
    exact hb
theorem wayu0 (w : World) : (Instr.index 63 waysV (.int .u8 0)).run Try.prog w = .ok (.agg #[.func (.func 50) #[] #[], .func (.func 53) #[] #[], .func (.func 55) #[] #[]]) w := by kernel_rfl
theorem wayu1 (w : World) : (Instr.index 63 waysV (.int .u8 1)).run Try.prog w = .ok (.agg #[.func (.func 56) #[] #[], .func (.func 59) #[] #[], .func (.func 60) #[] #[]]) w := by kernel_rfl
theorem wayu2 (w : World) : (Instr.index 63 waysV (.int .u8 2)).run Try.prog w = .ok (.agg #[.func (.func 61) #[] #[], .func (.func 63) #[] #[], .func (.func 64) #[] #[]]) w := by kernel_rfl
theorem wayu3 (w : World) : (Instr.index 63 waysV (.int .u8 3)).run Try.prog w = .ok (.agg #[.func (.func 65) #[] #[], .func (.func 67) #[] #[], .func (.func 68) #[] #[]]) w := by kernel_rfl
set_option maxRecDepth 100000 in
set_option maxHeartbeats 1000000 in
theorem decode1 (A : Option Addr) (N cap rows B : Nat) (bs : List UInt8) (w : World) (hr : Reads w B 1 A N ((UInt8.ofNat 1 :: bs).map bv)) (hB : B ≤ w.heap.size) (hN : N ≤ 140737488355328) (hcap : N ≤ cap) (h : rows ≤ 65536) :
    Calls Try.prog 24 #[.slice A N cap, .int .i64 (rows : Int)] w (DecOut w (UInt8.ofNat 1 :: bs) (rows : Int)) := by
  have hlen : N = bs.length + 1 := by have := hr.1; simp at this; omega
  obtain ⟨b, off, u, rfl, hbB, hu, hc0, _⟩ := hr.at0 (k := 0) (by omega)
  simp only [List.map_cons, List.getElem?_cons_zero, Option.some.injEq] at hu
  subst hu
  have hc0' : w.cell? ⟨b, off, none⟩ = some (.int .u8 1) := hc0
  have h1 : ¬ (rows : Int) < 0 := by omega
  have h2 : ¬ (65536 : Int) < (rows : Int) := by omega
  have hN0 : ((N : Int) == 0) = false := by simp; omega
  have hN1 : (0 : Int) < (N : Int) := by omega
  obtain ⟨⟨iE, zE, eE1, eE2, eE3, eE4, eE5, eE6⟩, _⟩ := elem_u8
  have hsl := fun W => run_cut eE1 eE2 eE4 (some ⟨b, off, none⟩) cap (k := 1) (n := N) (by omega) W
  have hrt := hr.cut (k := 1) (cap := cap) (by omega) hcap
  rw [Nat.mul_one, ← List.map_drop, List.drop_one, List.tail_cons] at hrt
  obtain ⟨A', hA'⟩ : ∃ A', (if cap = 1 then some (⟨b, off, none⟩ : Addr) else (some (⟨b, off, none⟩ : Addr)).map (·.add 1)) = A' := ⟨_, rfl⟩
  simp only [Nat.mul_one, hA'] at hsl
  rw [hA'] at hrt
  rw [show ((1 : Nat) : Int) = 1 from rfl] at hsl
  have hbw : b < w.heap.size := by omega
  have HLEN := hide hlen
  have hN1n : 0 < N := by omega
  have hle1 : 1 ≤ N := hN1n
  have hcapI : (N : Int) ≤ (cap : Int) := by omega
  have hB' := hB
  have hu8 : IntKind.u8.wrap 0 = 0 := by decide +kernel
  clear hlen
  have hix := wayu0
  have hfd := field0_2
  have HR := hide hr
  have HRT := hide hrt
  clear hr hrt hc0 hA' eE1 eE2 eE3 eE4 eE5 eE6
  go_enter Try.func24, Try.ntmps24
  go_wp2_with fail
  go_region_held3 (fun w' => w'.cell? ⟨b, off, none⟩ = some (.int .u8 1)) (first | go_keep | exact d1 | exact d2) ((first
    | (go_at_call 34; (with_reducible refine (ways_any _).mono ?_); rintro e w1 ⟨rfl, hb1⟩
       have d1 : w1.cell? ⟨b, off, none⟩ = some (.int .u8 1) := (hb1.cell (p := ⟨b, off, none⟩) hbw).trans hc0'
       have hb01 : Below w.heap.size w w1 := ⟨hb1.os, hb1.tape, hb1.output, hb1.size, hb1.block⟩
       have hRd := hide (readPlain_any A' (N - 1) (cap - 1) B rows bs w1 ((unhide HRT).below (hb01.mono hB)) (by omega) h)
       have HB01 := hide hb01
       clear hb1 hb01)
    | (go_at_call 55; (with_reducible refine (unhide hRd).mono ?_); rintro e w2 ⟨v2, c, rfl, ho2, hcl, hb2, hcc⟩
       obtain ⟨A2, cp, rfl⟩ := ho2.shape
       have d2 : w2.cell? ⟨b, off, none⟩ = some (.int .u8 1) := (hb2.cell (p := ⟨b, off, none⟩) (Nat.lt_of_lt_of_le hbw (unhide HB01).size)).trans d1
       have HO2 := hide ho2
       have HB2 := hide ((unhide HB01).trans (hb2.mono (unhide HB01).size))
       have HCC := hide hcc
       clear ho2 hb2 hcc)))
  by_cases hcr : c.length = rows
  · subst hcr
    have hE := hide (encode_any c A2 c.length cp w2.heap.size w2 (Reads.of_own (unhide HO2)) (Nat.le_refl _) h)
    go_wp2_with fail
    refine (unhide hE).mono ?_
    rintro e w3 ⟨v3, rfl, ho3, hb3⟩
    obtain ⟨A3, c3, rfl⟩ := ho3.shape
    have hQ := equal_any A3 (some ⟨b, off, none⟩) (pageS c).length c3 N cap (pageS c) (UInt8.ofNat 1 :: bs) w3 w3.heap.size (Reads.of_own ho3) (((unhide HR).below (((unhide HB2).trans (hb3.mono (unhide HB2).size)).mono hB)).more (Nat.le_trans hB (((unhide HB2).trans (hb3.mono (unhide HB2).size))).size))
    have HB3 := hide ((unhide HB2).trans (hb3.mono (unhide HB2).size))
    have HR2 := hide (((Reads.of_own (unhide HO2)).below hb3).more hb3.size)
    have hcap2 := hide (own_caps (unhide HO2))
    have HF := hide (And.intro ((Row.clip (unhide HO2)).below hb3) (fun ad (e : A2 = some ad) => Nat.le_trans (unhide HB01).size (own_base (unhide HO2) e)))
    clear hb3 ho3
    by_cases hpe : pageS c = UInt8.ofNat 1 :: bs
    · rw [hpe, beq_self_eq_true] at hQ
      rw [hpe]
      have hQ' := hide hQ
      clear hQ
      have hD := hide (show DecOut w (UInt8.ofNat 1 :: bs) (c.length : Int) (.returned (.tuple #[.slice A2 c.length c.length, .int .i64 ((0 : Nat) : Int)])) w3 from
        ⟨A2, c, 0, rfl, unhide HR2, unhide HF, unhide HB3, .inr ⟨by omega, by omega, .inr ⟨rfl, by simp, hpe, fun c2 hl he => by
          rw [Int.toNat_natCast] at hl
          exact (unhide HCC) c2 (page_of (y := 1) (by decide) he).2 hl⟩⟩⟩)
      have hC := hide (clip_any A2 c.length cp w3 (unhide hcap2).1 h)
      clear hpe
      go_wp2_with fail
      refine (unhide hQ').mono ?_
      rintro e w4 ⟨rfl, rfl⟩
      go_wp2_with fail
      refine (unhide hC).mono ?_
      rintro e w4 ⟨rfl, rfl⟩
      go_wp2_with fail
      go_ret2
      exact unhide hD
    · rw [beq_false_of_ne hpe] at hQ
      have hQ' := hide hQ
      clear hQ
      have hD := hide (dec_err (w := w) (w' := w3) (bs := UInt8.ofNat 1 :: bs) (rows := (c.length : Int)) (e := 50) (unhide HB3) (.inr ⟨by omega, by omega, .inl ⟨rfl, rfl, fun c2 hl he => by
          rw [Int.toNat_natCast] at hl
          have := (unhide HCC) c2 (page_of (y := 1) (by decide) he).2 hl
          subst this
          exact hpe he⟩⟩))
      clear hpe
      go_wp2_with fail
      refine (unhide hQ').mono ?_
      rintro e w4 ⟨rfl, rfl⟩
      go_wp2_with fail
      go_ret2
      exact unhide hD
  · have hcr' : ¬ ((c.length : Int) = (rows : Int)) := by omega
    have hD := hide (dec_err (w := w) (w' := w2) (bs := UInt8.ofNat 1 :: bs) (rows := (rows : Int)) (e := 50) (unhide HB2) (.inr ⟨by omega, by omega, .inl ⟨rfl, rfl, fun c2 hl he => by
          rw [Int.toNat_natCast] at hl
          have := (unhide HCC) c2 (page_of (y := 1) (by decide) he).2 hl
          subst this
          exact hcr hl⟩⟩))
    go_wp2_with fail
    go_ret2
    exact unhide hD
set_option maxRecDepth 100000 in
set_option maxHeartbeats 1000000 in
theorem decode2 (A : Option Addr) (N cap rows B : Nat) (bs : List UInt8) (w : World) (hr : Reads w B 1 A N ((UInt8.ofNat 2 :: bs).map bv)) (hB : B ≤ w.heap.size) (hN : N ≤ 140737488355328) (hcap : N ≤ cap) (h : rows ≤ 65536) :
    Calls Try.prog 24 #[.slice A N cap, .int .i64 (rows : Int)] w (DecOut w (UInt8.ofNat 2 :: bs) (rows : Int)) := by
  have hlen : N = bs.length + 1 := by have := hr.1; simp at this; omega
  obtain ⟨b, off, u, rfl, hbB, hu, hc0, _⟩ := hr.at0 (k := 0) (by omega)
  simp only [List.map_cons, List.getElem?_cons_zero, Option.some.injEq] at hu
  subst hu
  have hc0' : w.cell? ⟨b, off, none⟩ = some (.int .u8 2) := hc0
  have h1 : ¬ (rows : Int) < 0 := by omega
  have h2 : ¬ (65536 : Int) < (rows : Int) := by omega
  have hN0 : ((N : Int) == 0) = false := by simp; omega
  have hN1 : (0 : Int) < (N : Int) := by omega
  obtain ⟨⟨iE, zE, eE1, eE2, eE3, eE4, eE5, eE6⟩, _⟩ := elem_u8
  have hsl := fun W => run_cut eE1 eE2 eE4 (some ⟨b, off, none⟩) cap (k := 1) (n := N) (by omega) W
  have hrt := hr.cut (k := 1) (cap := cap) (by omega) hcap
  rw [Nat.mul_one, ← List.map_drop, List.drop_one, List.tail_cons] at hrt
  obtain ⟨A', hA'⟩ : ∃ A', (if cap = 1 then some (⟨b, off, none⟩ : Addr) else (some (⟨b, off, none⟩ : Addr)).map (·.add 1)) = A' := ⟨_, rfl⟩
  simp only [Nat.mul_one, hA'] at hsl
  rw [hA'] at hrt
  rw [show ((1 : Nat) : Int) = 1 from rfl] at hsl
  have hbw : b < w.heap.size := by omega
  have HLEN := hide hlen
  have hN1n : 0 < N := by omega
  have hle1 : 1 ≤ N := hN1n
  have hcapI : (N : Int) ≤ (cap : Int) := by omega
  have hB' := hB
  have hu8 : IntKind.u8.wrap 1 = 1 := by decide +kernel
  clear hlen
  have hix := wayu1
  have hfd := field1_2
  have HR := hide hr
  have HRT := hide hrt
  clear hr hrt hc0 hA' eE1 eE2 eE3 eE4 eE5 eE6
  go_enter Try.func24, Try.ntmps24
  go_wp2_with fail
  go_region_held3 (fun w' => w'.cell? ⟨b, off, none⟩ = some (.int .u8 2)) (first | go_keep | exact d1 | exact d2) ((first
    | (go_at_call 34; (with_reducible refine (ways_any _).mono ?_); rintro e w1 ⟨rfl, hb1⟩
       have d1 : w1.cell? ⟨b, off, none⟩ = some (.int .u8 2) := (hb1.cell (p := ⟨b, off, none⟩) hbw).trans hc0'
       have hb01 : Below w.heap.size w w1 := ⟨hb1.os, hb1.tape, hb1.output, hb1.size, hb1.block⟩
       have hRd := hide (readDelta_any A' (N - 1) (cap - 1) B rows bs w1 ((unhide HRT).below (hb01.mono hB)) (by omega) h)
       have HB01 := hide hb01
       clear hb1 hb01)
    | (go_at_call 60; (with_reducible refine (unhide hRd).mono ?_); rintro e w2 ⟨v2, c, rfl, ho2, hcl, hb2, hcc⟩
       obtain ⟨A2, cp, rfl⟩ := ho2.shape
       have d2 : w2.cell? ⟨b, off, none⟩ = some (.int .u8 2) := (hb2.cell (p := ⟨b, off, none⟩) (Nat.lt_of_lt_of_le hbw (unhide HB01).size)).trans d1
       have HO2 := hide ho2
       have HB2 := hide ((unhide HB01).trans (hb2.mono (unhide HB01).size))
       have HCC := hide hcc
       clear ho2 hb2 hcc)))
  by_cases hcr : c.length = rows
  · subst hcr
    have hE := hide (encode_any c A2 c.length cp w2.heap.size w2 (Reads.of_own (unhide HO2)) (Nat.le_refl _) h)
    go_wp2_with fail
    refine (unhide hE).mono ?_
    rintro e w3 ⟨v3, rfl, ho3, hb3⟩
    obtain ⟨A3, c3, rfl⟩ := ho3.shape
    have hQ := equal_any A3 (some ⟨b, off, none⟩) (pageS c).length c3 N cap (pageS c) (UInt8.ofNat 2 :: bs) w3 w3.heap.size (Reads.of_own ho3) (((unhide HR).below (((unhide HB2).trans (hb3.mono (unhide HB2).size)).mono hB)).more (Nat.le_trans hB (((unhide HB2).trans (hb3.mono (unhide HB2).size))).size))
    have HB3 := hide ((unhide HB2).trans (hb3.mono (unhide HB2).size))
    have HR2 := hide (((Reads.of_own (unhide HO2)).below hb3).more hb3.size)
    have hcap2 := hide (own_caps (unhide HO2))
    have HF := hide (And.intro ((Row.clip (unhide HO2)).below hb3) (fun ad (e : A2 = some ad) => Nat.le_trans (unhide HB01).size (own_base (unhide HO2) e)))
    clear hb3 ho3
    by_cases hpe : pageS c = UInt8.ofNat 2 :: bs
    · rw [hpe, beq_self_eq_true] at hQ
      rw [hpe]
      have hQ' := hide hQ
      clear hQ
      have hD := hide (show DecOut w (UInt8.ofNat 2 :: bs) (c.length : Int) (.returned (.tuple #[.slice A2 c.length c.length, .int .i64 ((0 : Nat) : Int)])) w3 from
        ⟨A2, c, 0, rfl, unhide HR2, unhide HF, unhide HB3, .inr ⟨by omega, by omega, .inr ⟨rfl, by simp, hpe, fun c2 hl he => by
          rw [Int.toNat_natCast] at hl
          exact (unhide HCC) c2 (page_of (y := 2) (by decide) he).2 hl⟩⟩⟩)
      have hC := hide (clip_any A2 c.length cp w3 (unhide hcap2).1 h)
      clear hpe
      go_wp2_with fail
      refine (unhide hQ').mono ?_
      rintro e w4 ⟨rfl, rfl⟩
      go_wp2_with fail
      refine (unhide hC).mono ?_
      rintro e w4 ⟨rfl, rfl⟩
      go_wp2_with fail
      go_ret2
      exact unhide hD
    · rw [beq_false_of_ne hpe] at hQ
      have hQ' := hide hQ
      clear hQ
      have hD := hide (dec_err (w := w) (w' := w3) (bs := UInt8.ofNat 2 :: bs) (rows := (c.length : Int)) (e := 50) (unhide HB3) (.inr ⟨by omega, by omega, .inl ⟨rfl, rfl, fun c2 hl he => by
          rw [Int.toNat_natCast] at hl
          have := (unhide HCC) c2 (page_of (y := 2) (by decide) he).2 hl
          subst this
          exact hpe he⟩⟩))
      clear hpe
      go_wp2_with fail
      refine (unhide hQ').mono ?_
      rintro e w4 ⟨rfl, rfl⟩
      go_wp2_with fail
      go_ret2
      exact unhide hD
  · have hcr' : ¬ ((c.length : Int) = (rows : Int)) := by omega
    have hD := hide (dec_err (w := w) (w' := w2) (bs := UInt8.ofNat 2 :: bs) (rows := (rows : Int)) (e := 50) (unhide HB2) (.inr ⟨by omega, by omega, .inl ⟨rfl, rfl, fun c2 hl he => by
          rw [Int.toNat_natCast] at hl
          have := (unhide HCC) c2 (page_of (y := 2) (by decide) he).2 hl
          subst this
          exact hcr hl⟩⟩))
    go_wp2_with fail
    go_ret2
    exact unhide hD
set_option maxRecDepth 100000 in
set_option maxHeartbeats 1000000 in
theorem decode3 (A : Option Addr) (N cap rows B : Nat) (bs : List UInt8) (w : World) (hr : Reads w B 1 A N ((UInt8.ofNat 3 :: bs).map bv)) (hB : B ≤ w.heap.size) (hN : N ≤ 140737488355328) (hcap : N ≤ cap) (h : rows ≤ 65536) :
    Calls Try.prog 24 #[.slice A N cap, .int .i64 (rows : Int)] w (DecOut w (UInt8.ofNat 3 :: bs) (rows : Int)) := by
  have hlen : N = bs.length + 1 := by have := hr.1; simp at this; omega
  obtain ⟨b, off, u, rfl, hbB, hu, hc0, _⟩ := hr.at0 (k := 0) (by omega)
  simp only [List.map_cons, List.getElem?_cons_zero, Option.some.injEq] at hu
  subst hu
  have hc0' : w.cell? ⟨b, off, none⟩ = some (.int .u8 3) := hc0
  have h1 : ¬ (rows : Int) < 0 := by omega
  have h2 : ¬ (65536 : Int) < (rows : Int) := by omega
  have hN0 : ((N : Int) == 0) = false := by simp; omega
  have hN1 : (0 : Int) < (N : Int) := by omega
  obtain ⟨⟨iE, zE, eE1, eE2, eE3, eE4, eE5, eE6⟩, _⟩ := elem_u8
  have hsl := fun W => run_cut eE1 eE2 eE4 (some ⟨b, off, none⟩) cap (k := 1) (n := N) (by omega) W
  have hrt := hr.cut (k := 1) (cap := cap) (by omega) hcap
  rw [Nat.mul_one, ← List.map_drop, List.drop_one, List.tail_cons] at hrt
  obtain ⟨A', hA'⟩ : ∃ A', (if cap = 1 then some (⟨b, off, none⟩ : Addr) else (some (⟨b, off, none⟩ : Addr)).map (·.add 1)) = A' := ⟨_, rfl⟩
  simp only [Nat.mul_one, hA'] at hsl
  rw [hA'] at hrt
  rw [show ((1 : Nat) : Int) = 1 from rfl] at hsl
  have hbw : b < w.heap.size := by omega
  have HLEN := hide hlen
  have hN1n : 0 < N := by omega
  have hle1 : 1 ≤ N := hN1n
  have hcapI : (N : Int) ≤ (cap : Int) := by omega
  have hB' := hB
  have hu8 : IntKind.u8.wrap 2 = 2 := by decide +kernel
  clear hlen
  have hix := wayu2
  have hfd := field2_2
  have HR := hide hr
  have HRT := hide hrt
  clear hr hrt hc0 hA' eE1 eE2 eE3 eE4 eE5 eE6
  go_enter Try.func24, Try.ntmps24
  go_wp2_with fail
  go_region_held3 (fun w' => w'.cell? ⟨b, off, none⟩ = some (.int .u8 3)) (first | go_keep | exact d1 | exact d2) ((first
    | (go_at_call 34; (with_reducible refine (ways_any _).mono ?_); rintro e w1 ⟨rfl, hb1⟩
       have d1 : w1.cell? ⟨b, off, none⟩ = some (.int .u8 3) := (hb1.cell (p := ⟨b, off, none⟩) hbw).trans hc0'
       have hb01 : Below w.heap.size w w1 := ⟨hb1.os, hb1.tape, hb1.output, hb1.size, hb1.block⟩
       have hRd := hide (readRuns_any A' (N - 1) (cap - 1) B rows bs w1 ((unhide HRT).below (hb01.mono hB)) (by omega) h)
       have HB01 := hide hb01
       clear hb1 hb01)
    | (go_at_call 64; (with_reducible refine (unhide hRd).mono ?_); rintro e w2 ⟨v2, c, rfl, ho2, hcl, hb2, hcc⟩
       obtain ⟨A2, cp, rfl⟩ := ho2.shape
       have d2 : w2.cell? ⟨b, off, none⟩ = some (.int .u8 3) := (hb2.cell (p := ⟨b, off, none⟩) (Nat.lt_of_lt_of_le hbw (unhide HB01).size)).trans d1
       have HO2 := hide ho2
       have HB2 := hide ((unhide HB01).trans (hb2.mono (unhide HB01).size))
       have HCC := hide hcc
       clear ho2 hb2 hcc)))
  by_cases hcr : c.length = rows
  · subst hcr
    have hE := hide (encode_any c A2 c.length cp w2.heap.size w2 (Reads.of_own (unhide HO2)) (Nat.le_refl _) h)
    go_wp2_with fail
    refine (unhide hE).mono ?_
    rintro e w3 ⟨v3, rfl, ho3, hb3⟩
    obtain ⟨A3, c3, rfl⟩ := ho3.shape
    have hQ := equal_any A3 (some ⟨b, off, none⟩) (pageS c).length c3 N cap (pageS c) (UInt8.ofNat 3 :: bs) w3 w3.heap.size (Reads.of_own ho3) (((unhide HR).below (((unhide HB2).trans (hb3.mono (unhide HB2).size)).mono hB)).more (Nat.le_trans hB (((unhide HB2).trans (hb3.mono (unhide HB2).size))).size))
    have HB3 := hide ((unhide HB2).trans (hb3.mono (unhide HB2).size))
    have HR2 := hide (((Reads.of_own (unhide HO2)).below hb3).more hb3.size)
    have hcap2 := hide (own_caps (unhide HO2))
    have HF := hide (And.intro ((Row.clip (unhide HO2)).below hb3) (fun ad (e : A2 = some ad) => Nat.le_trans (unhide HB01).size (own_base (unhide HO2) e)))
    clear hb3 ho3
    by_cases hpe : pageS c = UInt8.ofNat 3 :: bs
    · rw [hpe, beq_self_eq_true] at hQ
      rw [hpe]
      have hQ' := hide hQ
      clear hQ
      have hD := hide (show DecOut w (UInt8.ofNat 3 :: bs) (c.length : Int) (.returned (.tuple #[.slice A2 c.length c.length, .int .i64 ((0 : Nat) : Int)])) w3 from
        ⟨A2, c, 0, rfl, unhide HR2, unhide HF, unhide HB3, .inr ⟨by omega, by omega, .inr ⟨rfl, by simp, hpe, fun c2 hl he => by
          rw [Int.toNat_natCast] at hl
          exact (unhide HCC) c2 (page_of (y := 3) (by decide) he).2 hl⟩⟩⟩)
      have hC := hide (clip_any A2 c.length cp w3 (unhide hcap2).1 h)
      clear hpe
      go_wp2_with fail
      refine (unhide hQ').mono ?_
      rintro e w4 ⟨rfl, rfl⟩
      go_wp2_with fail
      refine (unhide hC).mono ?_
      rintro e w4 ⟨rfl, rfl⟩
      go_wp2_with fail
      go_ret2
      exact unhide hD
    · rw [beq_false_of_ne hpe] at hQ
      have hQ' := hide hQ
      clear hQ
      have hD := hide (dec_err (w := w) (w' := w3) (bs := UInt8.ofNat 3 :: bs) (rows := (c.length : Int)) (e := 50) (unhide HB3) (.inr ⟨by omega, by omega, .inl ⟨rfl, rfl, fun c2 hl he => by
          rw [Int.toNat_natCast] at hl
          have := (unhide HCC) c2 (page_of (y := 3) (by decide) he).2 hl
          subst this
          exact hpe he⟩⟩))
      clear hpe
      go_wp2_with fail
      refine (unhide hQ').mono ?_
      rintro e w4 ⟨rfl, rfl⟩
      go_wp2_with fail
      go_ret2
      exact unhide hD
  · have hcr' : ¬ ((c.length : Int) = (rows : Int)) := by omega
    have hD := hide (dec_err (w := w) (w' := w2) (bs := UInt8.ofNat 3 :: bs) (rows := (rows : Int)) (e := 50) (unhide HB2) (.inr ⟨by omega, by omega, .inl ⟨rfl, rfl, fun c2 hl he => by
          rw [Int.toNat_natCast] at hl
          have := (unhide HCC) c2 (page_of (y := 3) (by decide) he).2 hl
          subst this
          exact hcr hl⟩⟩))
    go_wp2_with fail
    go_ret2
    exact unhide hD
set_option maxRecDepth 100000 in
set_option maxHeartbeats 1000000 in
theorem decode4 (A : Option Addr) (N cap rows B : Nat) (bs : List UInt8) (w : World) (hr : Reads w B 1 A N ((UInt8.ofNat 4 :: bs).map bv)) (hB : B ≤ w.heap.size) (hN : N ≤ 140737488355328) (hcap : N ≤ cap) (h : rows ≤ 65536) :
    Calls Try.prog 24 #[.slice A N cap, .int .i64 (rows : Int)] w (DecOut w (UInt8.ofNat 4 :: bs) (rows : Int)) := by
  have hlen : N = bs.length + 1 := by have := hr.1; simp at this; omega
  obtain ⟨b, off, u, rfl, hbB, hu, hc0, _⟩ := hr.at0 (k := 0) (by omega)
  simp only [List.map_cons, List.getElem?_cons_zero, Option.some.injEq] at hu
  subst hu
  have hc0' : w.cell? ⟨b, off, none⟩ = some (.int .u8 4) := hc0
  have h1 : ¬ (rows : Int) < 0 := by omega
  have h2 : ¬ (65536 : Int) < (rows : Int) := by omega
  have hN0 : ((N : Int) == 0) = false := by simp; omega
  have hN1 : (0 : Int) < (N : Int) := by omega
  obtain ⟨⟨iE, zE, eE1, eE2, eE3, eE4, eE5, eE6⟩, _⟩ := elem_u8
  have hsl := fun W => run_cut eE1 eE2 eE4 (some ⟨b, off, none⟩) cap (k := 1) (n := N) (by omega) W
  have hrt := hr.cut (k := 1) (cap := cap) (by omega) hcap
  rw [Nat.mul_one, ← List.map_drop, List.drop_one, List.tail_cons] at hrt
  obtain ⟨A', hA'⟩ : ∃ A', (if cap = 1 then some (⟨b, off, none⟩ : Addr) else (some (⟨b, off, none⟩ : Addr)).map (·.add 1)) = A' := ⟨_, rfl⟩
  simp only [Nat.mul_one, hA'] at hsl
  rw [hA'] at hrt
  rw [show ((1 : Nat) : Int) = 1 from rfl] at hsl
  have hbw : b < w.heap.size := by omega
  have HLEN := hide hlen
  have hN1n : 0 < N := by omega
  have hle1 : 1 ≤ N := hN1n
  have hcapI : (N : Int) ≤ (cap : Int) := by omega
  have hB' := hB
  have hu8 : IntKind.u8.wrap 3 = 3 := by decide +kernel
  clear hlen
  have hix := wayu3
  have hfd := field3_2
  have HR := hide hr
  have HRT := hide hrt
  clear hr hrt hc0 hA' eE1 eE2 eE3 eE4 eE5 eE6
  go_enter Try.func24, Try.ntmps24
  go_wp2_with fail
  go_region_held3 (fun w' => w'.cell? ⟨b, off, none⟩ = some (.int .u8 4)) (first | go_keep | exact d1 | exact d2) ((first
    | (go_at_call 34; (with_reducible refine (ways_any _).mono ?_); rintro e w1 ⟨rfl, hb1⟩
       have d1 : w1.cell? ⟨b, off, none⟩ = some (.int .u8 4) := (hb1.cell (p := ⟨b, off, none⟩) hbw).trans hc0'
       have hb01 : Below w.heap.size w w1 := ⟨hb1.os, hb1.tape, hb1.output, hb1.size, hb1.block⟩
       have hRd := hide (readPacked_any A' (N - 1) (cap - 1) B rows bs w1 ((unhide HRT).below (hb01.mono hB)) (by omega) h)
       have HB01 := hide hb01
       clear hb1 hb01)
    | (go_at_call 68; (with_reducible refine (unhide hRd).mono ?_); rintro e w2 ⟨v2, c, rfl, ho2, hcl, hb2, hcc⟩
       obtain ⟨A2, cp, rfl⟩ := ho2.shape
       have d2 : w2.cell? ⟨b, off, none⟩ = some (.int .u8 4) := (hb2.cell (p := ⟨b, off, none⟩) (Nat.lt_of_lt_of_le hbw (unhide HB01).size)).trans d1
       have HO2 := hide ho2
       have HB2 := hide ((unhide HB01).trans (hb2.mono (unhide HB01).size))
       have HCC := hide hcc
       clear ho2 hb2 hcc)))
  by_cases hcr : c.length = rows
  · subst hcr
    have hE := hide (encode_any c A2 c.length cp w2.heap.size w2 (Reads.of_own (unhide HO2)) (Nat.le_refl _) h)
    go_wp2_with fail
    refine (unhide hE).mono ?_
    rintro e w3 ⟨v3, rfl, ho3, hb3⟩
    obtain ⟨A3, c3, rfl⟩ := ho3.shape
    have hQ := equal_any A3 (some ⟨b, off, none⟩) (pageS c).length c3 N cap (pageS c) (UInt8.ofNat 4 :: bs) w3 w3.heap.size (Reads.of_own ho3) (((unhide HR).below (((unhide HB2).trans (hb3.mono (unhide HB2).size)).mono hB)).more (Nat.le_trans hB (((unhide HB2).trans (hb3.mono (unhide HB2).size))).size))
    have HB3 := hide ((unhide HB2).trans (hb3.mono (unhide HB2).size))
    have HR2 := hide (((Reads.of_own (unhide HO2)).below hb3).more hb3.size)
    have hcap2 := hide (own_caps (unhide HO2))
    have HF := hide (And.intro ((Row.clip (unhide HO2)).below hb3) (fun ad (e : A2 = some ad) => Nat.le_trans (unhide HB01).size (own_base (unhide HO2) e)))
    clear hb3 ho3
    by_cases hpe : pageS c = UInt8.ofNat 4 :: bs
    · rw [hpe, beq_self_eq_true] at hQ
      rw [hpe]
      have hQ' := hide hQ
      clear hQ
      have hD := hide (show DecOut w (UInt8.ofNat 4 :: bs) (c.length : Int) (.returned (.tuple #[.slice A2 c.length c.length, .int .i64 ((0 : Nat) : Int)])) w3 from
        ⟨A2, c, 0, rfl, unhide HR2, unhide HF, unhide HB3, .inr ⟨by omega, by omega, .inr ⟨rfl, by simp, hpe, fun c2 hl he => by
          rw [Int.toNat_natCast] at hl
          exact (unhide HCC) c2 (page_of (y := 4) (by decide) he).2 hl⟩⟩⟩)
      have hC := hide (clip_any A2 c.length cp w3 (unhide hcap2).1 h)
      clear hpe
      go_wp2_with fail
      refine (unhide hQ').mono ?_
      rintro e w4 ⟨rfl, rfl⟩
      go_wp2_with fail
      refine (unhide hC).mono ?_
      rintro e w4 ⟨rfl, rfl⟩
      go_wp2_with fail
      go_ret2
      exact unhide hD
    · rw [beq_false_of_ne hpe] at hQ
      have hQ' := hide hQ
      clear hQ
      have hD := hide (dec_err (w := w) (w' := w3) (bs := UInt8.ofNat 4 :: bs) (rows := (c.length : Int)) (e := 50) (unhide HB3) (.inr ⟨by omega, by omega, .inl ⟨rfl, rfl, fun c2 hl he => by
          rw [Int.toNat_natCast] at hl
          have := (unhide HCC) c2 (page_of (y := 4) (by decide) he).2 hl
          subst this
          exact hpe he⟩⟩))
      clear hpe
      go_wp2_with fail
      refine (unhide hQ').mono ?_
      rintro e w4 ⟨rfl, rfl⟩
      go_wp2_with fail
      go_ret2
      exact unhide hD
  · have hcr' : ¬ ((c.length : Int) = (rows : Int)) := by omega
    have hD := hide (dec_err (w := w) (w' := w2) (bs := UInt8.ofNat 4 :: bs) (rows := (rows : Int)) (e := 50) (unhide HB2) (.inr ⟨by omega, by omega, .inl ⟨rfl, rfl, fun c2 hl he => by
          rw [Int.toNat_natCast] at hl
          have := (unhide HCC) c2 (page_of (y := 4) (by decide) he).2 hl
          subst this
          exact hcr hl⟩⟩))
    go_wp2_with fail
    go_ret2
    exact unhide hD
theorem decode_any (A : Option Addr) (N cap B : Nat) (rows : Int) (bs : List UInt8) (w : World) (hr : Reads w B 1 A N (bs.map bv)) (hB : B ≤ w.heap.size) (hN : N ≤ 140737488355328) (hcap : N ≤ cap) :
    Calls Try.prog 24 #[.slice A N cap, .int .i64 rows] w (DecOut w bs rows) := by
  by_cases h : rows < 0 ∨ 65536 < rows
  · exact decode_arg A N cap rows bs w h
  · obtain ⟨r, rfl⟩ := Int.eq_ofNat_of_zero_le (show 0 ≤ rows by omega)
    have hr' : r ≤ 65536 := by omega
    cases bs with
    | nil =>
      have h0 : N = 0 := by have := hr.1; simp at this; omega
      subst h0
      exact decode_none A cap r w hr'
    | cons y bs =>
      by_cases hy : y.toNat < 1 ∨ 4 < y.toNat
      · exact decode_way A N cap r B y bs w hr hr' hy
      · have hy' : y = UInt8.ofNat y.toNat := by simp
        rcases (show y.toNat = 1 ∨ y.toNat = 2 ∨ y.toNat = 3 ∨ y.toNat = 4 by omega) with e | e | e | e <;> rw [e] at hy' <;> subst hy'
        · exact decode1 A N cap r B bs w hr hB hN hcap hr'
        · exact decode2 A N cap r B bs w hr hB hN hcap hr'
        · exact decode3 A N cap r B bs w hr hB hN hcap hr'
        · exact decode4 A N cap r B bs w hr hB hN hcap hr'
end Go.Proofs.Yteambdbcjcfdeaa
