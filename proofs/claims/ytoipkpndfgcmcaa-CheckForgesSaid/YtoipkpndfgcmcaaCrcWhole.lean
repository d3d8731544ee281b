/-
  Whole of the program's check sum and of the document's answer, over any bytes; the walks over the Go text. Condition: fewer than 2^47 bytes.
-/
import Derived.Test.YtoipkpndfgcmcaaRows
import Derived.Test.YtoipkpndfgcmcaaWords
import Derived.Test.YtoipkpndfgcmcaaCrcMath
import Derived.Test.YtoipkpndfgcmcaaCrcSeal
namespace Go.Proofs.Ytoipkpndfgcmcaa
open Go.RowKit


/-- Are the last four bytes those of the sum of what stands ahead of them? -/
def whole (bs : List UInt8) : Bool := decide (4 ≤ bs.length) && (bs.drop (bs.length - 4) == le4 (upd 0 (bs.take (bs.length - 4))))
theorem whole_short {bs : List UInt8} (h : bs.length < 4) : whole bs = false := by
  unfold whole
  rw [show decide (4 ≤ bs.length) = false by simp; omega]
  rfl
theorem whole_long {bs : List UInt8} {m : Nat} (h : bs.length = m + 4) : whole bs = (bs.drop m == le4 (upd 0 (bs.take m))) := by
  unfold whole
  rw [h, Nat.add_sub_cancel, show decide (4 ≤ m + 4) = true by simp]
  rfl
theorem Reads.upto_ {w : World} {B n k : Nat} {A : Option Addr} {xs : List UInt8} (h : Reads w B 1 A n (xs.map bv)) (hk : k ≤ n) : Reads w B 1 A k ((xs.take k).map bv) := by
  have hl : xs.length = n := by have := h.1; simpa using this
  refine ⟨by simp; omega, fun hn => ?_⟩
  obtain ⟨ad, e, hb, hc⟩ := h.2 (by omega)
  refine ⟨ad, e, hb, fun j u hu => hc j u ?_⟩
  rw [List.map_take, List.getElem?_take] at hu
  split at hu
  · exact hu
  · cases hu

set_option maxRecDepth 100000 in
set_option maxHeartbeats 600000 in
theorem refWhole_any (A : Option Addr) (n c B : Nat) (bs : List UInt8) (w : World) (hr : Reads w B 1 A n (bs.map bv)) (hn : n ≤ 140737488355328) (hB : B ≤ w.heap.size) (hnc : n ≤ c) :
    Calls Try.prog 29 #[.slice A n c] w fun e w' => e = .returned (.bool (whole bs)) ∧ Below w.heap.size w w' := by
  have hlen : bs.length = n := by have := hr.1; simpa using this
  by_cases h4 : n < 4
  · rw [whole_short (by omega)]
    clear hr
    go_enter Try.func29, Try.ntmps29
    go_wp2
    go_ret
    exact ⟨rfl, Below.refl _ _⟩
  · obtain ⟨m, rfl⟩ : ∃ m, n = m + 4 := ⟨n - 4, by omega⟩
    rw [whole_long hlen]
    have hS := hide (refSum_any (bs.take m) A m c B w (hr.upto_ (by omega)) (by omega))
    obtain ⟨s, hs⟩ : ∃ s, upd 0 (bs.take m) = s := ⟨_, rfl⟩
    rw [hs] at hS ⊢
    have HR := hide hr
    clear hs hr h4
    go_enter Try.func29, Try.ntmps29
    go_wp2_with (first
      | (go_at_call 25; refine (unhide hS).mono ?_; rintro e w2 ⟨rfl, rfl⟩)
      | (go_at_call 44; refine (four_any s _).mono ?_; rintro e w1 ⟨v1, rfl, ho1, hb1⟩))
    obtain ⟨A1, c1, rfl⟩ := ho1.shape
    have hb1z := hb1.size
    have r1 := (unhide HR).below (hb1.mono hB)
    have r2 := Reads.of_own ho1
    have HB1 := hide hb1
    clear hS ho1 hb1 HR
    go_loopg [5] 4 (fun q t wr => ∃ k : Nat, k + q = 4 ∧ t = .int .i64 (k : Int) ∧ Hid ((bs.drop m).take k = (le4 s).take k) ∧ Below w1.heap.size w1 wr)
    case atStart => exact ⟨0, rfl, rfl, rfl, Below.refl _ _⟩
    case round =>
      obtain ⟨k, hk, rfl, HT, hb⟩ := hrel
      by_cases hlt : k < 4
      · obtain ⟨q, rfl⟩ : ∃ q, gk = q + 1 := ⟨gk - 1, by omega⟩
        obtain ⟨b1, o1, u1, rfl, hl1, hx1, hc1, ha1⟩ := r1.at0 (k := m + k) (by omega)
        obtain ⟨b2, o2, u2, rfl, hl2, hx2, hc2, ha2⟩ := r2.at0 hlt
        rw [List.getElem?_map] at hx1 hx2
        obtain ⟨d1, hx1', rfl⟩ := Option.map_eq_some_iff.1 hx1
        obtain ⟨d2, hx2', rfl⟩ := Option.map_eq_some_iff.1 hx2
        have hx1'' : (bs.drop m)[k]? = some d1 := by rw [List.getElem?_drop]; exact hx1'
        have hd1 : wr.cell? ⟨b1, o1 + (m + k), none⟩ = some (.int .u8 (d1.toNat : Int)) := (hb.cell (p := ⟨b1, o1 + (m + k), none⟩) (Nat.lt_of_lt_of_le hl1 (Nat.le_trans hB hb1z))).trans hc1
        have hd2 : wr.cell? ⟨b2, o2 + k, none⟩ = some (.int .u8 (d2.toNat : Int)) := (hb.cell (p := ⟨b2, o2 + k, none⟩) hl2).trans hc2
        have HE := hide (take_ext HT.out hx1'' hx2')
        have HB := hide hb
        have hk0 : (0 : Int) ≤ (k : Int) := by omega
        have hk1 : (k : Int) < 4 := by omega
        have hsum : IntKind.i64.wrap ((m : Int) + (k : Int)) = (m : Int) + (k : Int) := IntWalk.i64_in _ (by omega)
        have hm0 : (0 : Int) ≤ (m : Int) + (k : Int) := by omega
        have hm1 : (m : Int) + (k : Int) < (m : Int) + 4 := by omega
        have hmt : ((m : Int) + (k : Int)).toNat = m + k := by omega
        by_cases hcc : d1 = d2
        · subst hcc
          have HN : Hid ((bs.drop m).take (k + 1) = (le4 s).take (k + 1)) := (unhide HE).2 rfl
          have hne : ((d1.toNat : Int) != (d1.toNat : Int)) = false := by simp
          clear r1 r2 hx1 hx2 hx1' hx1'' hx2' ha1 ha2 hc1 hc2 hb HE hlen
          go_wp2
          go_quiet (fail)
          clear hsum hmt
          go_wp2
          go_roundg q
          case rel => exact ⟨k + 1, by omega, by go_num, HN, ⟨(unhide HB).os, (unhide HB).tape, (unhide HB).output, (unhide HB).size, (unhide HB).block⟩⟩
          case measure => omega
        · have HR : Hid ((bs.drop m == le4 s) = false) := by
            show _ = _
            simp only [beq_eq_false_iff_ne]
            intro e
            rw [e, hx2'] at hx1''
            injection hx1'' with e
            exact hcc e.symm
          have hne : ((d1.toNat : Int) != (d2.toNat : Int)) = true := by
            simp only [bne_iff_ne, ne_eq, Int.natCast_inj]
            intro e
            exact hcc (UInt8.toNat_inj.1 e)
          clear r1 r2 hx1 hx2 hx1' hx1'' hx2' ha1 ha2 hc1 hc2 hb HE hlen
          go_wp2
          go_quiet (fail)
          clear hsum hmt
          go_wp2
          go_ret
          exact ⟨by rw [HR.out]; rfl, (unhide HB1).trans ((below_drewN (unhide HB) _).mono hb1z)⟩
      · have HR : Hid ((bs.drop m == le4 s) = true) := by
          show _ = _
          have := HT.out
          rw [List.take_of_length_le (by rw [List.length_drop]; omega), List.take_of_length_le (by rw [le4_len]; omega)] at this
          simpa using this
        have HB := hide hb
        clear r1 r2 hb
        go_wp2
        go_ret
        exact ⟨by rw [HR.out]; rfl, (unhide HB1).trans ((unhide HB).mono hb1z)⟩

theorem eql4 (a b c d a' b' c' d' : Int) (w : World) : (binOp .eql 60 (.agg #[.int .u8 a, .int .u8 b, .int .u8 c, .int .u8 d]) (.agg #[.int .u8 a', .int .u8 b', .int .u8 c', .int .u8 d'])).run Try.prog w = .ok (.bool (a == a' && (b == b' && (c == c' && d == d')))) w := by
  have u3 := Try.underlying5
  have a3 := Try.isAgg5
  have z3 := Try.sizeOf5
  rw [run_eql_struct]
  have : (Op.equalIn 10000 60 (.agg #[.int .u8 a, .int .u8 b, .int .u8 c, .int .u8 d]) (.agg #[.int .u8 a', .int .u8 b', .int .u8 c', .int .u8 d'])).run Try.prog w = .ok (a == a' && (b == b' && (c == c' && d == d'))) w := by
    rw [show (10000 : Nat) = 9999 + 1 from rfl, Op.equalIn]
    simp only [Sem.run_bind, run_underlying Try.underlying60, Result.andThen_ok]
    simp only [Std.Legacy.Range.forIn_eq_forIn_range', Std.Legacy.Range.size, Nat.sub_zero, Nat.add_sub_cancel, Nat.div_one, List.range'_succ, List.range'_zero, List.forIn_cons, List.forIn_nil]
    go_simp
    by_cases h1 : a = a' <;> by_cases h2 : b = b' <;> by_cases h3 : c = c' <;> by_cases h4 : d = d' <;> simp [h1, h2, h3, h4]
  rw [this]
  rfl

set_option maxRecDepth 100000 in
set_option maxHeartbeats 600000 in
theorem whole_any (A : Option Addr) (n c B : Nat) (bs : List UInt8) (w : World) (hr : Reads w B 1 A n (bs.map bv)) (hn : n ≤ 140737488355328) (hB : B ≤ w.heap.size) (hnc : n ≤ c) :
    Calls Try.prog 28 #[.slice A n c] w fun e w' => e = .returned (.bool (whole bs)) ∧ Below w.heap.size w w' := by
  have hlen : bs.length = n := by have := hr.1; simpa using this
  by_cases h4 : n < 4
  · rw [whole_short (by omega)]
    clear hr
    have hd : decide ((0 : Int) ≤ (n : Int) - 4) = false := by simp; omega
    have hd2 : decide ((4 : Int) ≤ (n : Int)) = false := by simp; omega
    have hd3 : decide (4 ≤ n) = false := by simp; omega
    go_enter Try.func28, Try.ntmps28
    go_wp2
    go_quiet (fail)
    go_wp2
    go_ret
    exact ⟨rfl, below_drewN (Below.refl _ _) _⟩
  · obtain ⟨m, rfl⟩ : ∃ m, n = m + 4 := ⟨n - 4, by omega⟩
    rw [whole_long hlen]
    obtain ⟨b1, o1, u1, rfl, hl1, hx1, hc1, ha1⟩ := hr.at0 (k := 0) (by omega)
    have hS := hide (sum_any (bs.take m) (some ⟨b1, o1, none⟩) m c B w.drew (hr.drew.upto_ (by omega)) (by omega) hB)
    obtain ⟨s, hs⟩ : ∃ s, upd 0 (bs.take m) = s := ⟨_, rfl⟩
    rw [hs] at hS ⊢
    have hBy := fun w => bytes_any s w
    have hsz1 := hB
    obtain ⟨x0, x1, x2, x3, hxs⟩ : ∃ x0 x1 x2 x3 : UInt8, bs.drop m = [x0, x1, x2, x3] := by
      have : (bs.drop m).length = 4 := by rw [List.length_drop]; omega
      match h : bs.drop m, this with
      | [a, b, c, d], _ => exact ⟨a, b, c, d, rfl⟩
    have hget : ∀ j v, ([x0, x1, x2, x3] : List UInt8)[j]? = some v → w.cell? ⟨b1, o1 + m + j, none⟩ = some (.int .u8 (v.toNat : Int)) := fun j v hv => by
      have := ha1 (m + j) (bv v) (by rw [List.getElem?_map, ← List.getElem?_drop, hxs, hv]; rfl)
      rw [← Nat.add_assoc] at this
      exact this
    have p0 : w.cell? ⟨b1, o1 + m, none⟩ = some (.int .u8 (x0.toNat : Int)) := hget 0 x0 rfl
    have p1 := hget 1 x1 rfl
    have p2 := hget 2 x2 rfl
    have p3 := hget 3 x3 rfl
    rw [hxs]
    have hq := fun w => eql4 x0.toNat x1.toNat x2.toNat x3.toNat (s % 256 : Nat) (s / 256 % 256 : Nat) (s / 65536 % 256 : Nat) (s / 16777216 % 256 : Nat) w
    have hun : le4c s = #[.int .u8 ((s % 256 : Nat) : Int), .int .u8 ((s / 256 % 256 : Nat) : Int), .int .u8 ((s / 65536 % 256 : Nat) : Int), .int .u8 ((s / 16777216 % 256 : Nat) : Int)] := rfl
    obtain ⟨q0, h0q⟩ : ∃ q : Nat, s % 256 = q := ⟨_, rfl⟩
    obtain ⟨q1, h1q⟩ : ∃ q : Nat, s / 256 % 256 = q := ⟨_, rfl⟩
    obtain ⟨q2, h2q⟩ : ∃ q : Nat, s / 65536 % 256 = q := ⟨_, rfl⟩
    obtain ⟨q3, h3q⟩ : ∃ q : Nat, s / 16777216 % 256 = q := ⟨_, rfl⟩
    rw [h0q, h1q, h2q, h3q] at hun hq
    simp only [hun] at hBy
    have hfin : Hid (([x0, x1, x2, x3] == le4 s) = ((x0.toNat : Int) == (q0 : Int) && ((x1.toNat : Int) == (q1 : Int) && ((x2.toNat : Int) == (q2 : Int) && (x3.toNat : Int) == (q3 : Int))))) := by
      show _ = _
      have hp : ∀ (x : UInt8) (q : Nat), q < 256 → (x == UInt8.ofNat q) = ((x.toNat : Int) == (q : Int)) := fun x q hq => by
        rw [Bool.eq_iff_iff]
        simp only [beq_iff_eq, Int.natCast_inj]
        constructor
        · rintro rfl; simp [UInt8.toNat_ofNat']; omega
        · rintro rfl; simp
      unfold le4
      rw [h0q, h1q, h2q, h3q]
      rw [← hp _ _ (by omega), ← hp _ _ (by omega), ← hp _ _ (by omega), ← hp _ _ (by omega)]
      simp
    have hBy' := fun w => hide (hBy w)
    clear hBy hun h0q h1q h2q h3q
    have hmc : ¬ (c = m) := by omega
    have h0 : decide ((0 : Int) ≤ (m : Int)) = true := by simp
    have hm0 : (0 : Int) ≤ (m : Int) := by omega
    have hm1 : (m : Int) ≤ (m : Int) + 4 := by omega
    have hm2 : (m : Int) ≤ (c : Int) := by omega
    have harr := fun w => run_arrayAt (P := Try.prog) (w := w) 60 5 4 (some ⟨b1, o1 + m, none⟩) 4 (c - m) Try.underlying60 (Nat.le_refl _)
    clear hr hx1 hc1 ha1 hs hxs hget h4
    go_enter Try.func28, Try.ntmps28
    go_wp2
    go_region_held3 (fun w' => w'.cell? ⟨b1, o1 + m, none⟩ = some (.int .u8 (x0.toNat : Int)) ∧ w'.cell? ⟨b1, o1 + m + 1, none⟩ = some (.int .u8 (x1.toNat : Int)) ∧ w'.cell? ⟨b1, o1 + m + 2, none⟩ = some (.int .u8 (x2.toNat : Int)) ∧ w'.cell? ⟨b1, o1 + m + 3, none⟩ = some (.int .u8 (x3.toNat : Int))) (first | go_keep) ((first
      | (go_at_call 24
         refine (unhide hS).mono ?_
         rintro e w1 ⟨rfl, hb1⟩
         have d0 := (hb1.cell (p := ⟨b1, o1 + m, none⟩) (Nat.lt_of_lt_of_le hl1 hB)).trans p0
         have d1 := (hb1.cell (p := ⟨b1, o1 + m + 1, none⟩) (Nat.lt_of_lt_of_le hl1 hB)).trans p1
         have d2 := (hb1.cell (p := ⟨b1, o1 + m + 2, none⟩) (Nat.lt_of_lt_of_le hl1 hB)).trans p2
         have d3 := (hb1.cell (p := ⟨b1, o1 + m + 3, none⟩) (Nat.lt_of_lt_of_le hl1 hB)).trans p3
         have HB1 := hide hb1
         have hz1 := hb1.size
         clear hb1)
      | (go_at_call 47
         refine (unhide (hBy' _)).mono ?_
         rintro e w2 ⟨rfl, hb2⟩
         have e0 := (hb2.cell (p := ⟨b1, o1 + m, none⟩) (Nat.lt_of_lt_of_le (Nat.lt_of_lt_of_le hl1 hB) hz1)).trans d0
         have e1 := (hb2.cell (p := ⟨b1, o1 + m + 1, none⟩) (Nat.lt_of_lt_of_le (Nat.lt_of_lt_of_le hl1 hB) hz1)).trans d1
         have e2 := (hb2.cell (p := ⟨b1, o1 + m + 2, none⟩) (Nat.lt_of_lt_of_le (Nat.lt_of_lt_of_le hl1 hB) hz1)).trans d2
         have e3 := (hb2.cell (p := ⟨b1, o1 + m + 3, none⟩) (Nat.lt_of_lt_of_le (Nat.lt_of_lt_of_le hl1 hB) hz1)).trans d3
         have HB2 := hide hb2
         clear hb2)))
    all_goals go_wp2
    all_goals go_ret
    all_goals exact ⟨by rw [hfin.out]; rfl, Below.trans (b := w.drew) (below_drewN (Below.refl _ _) 1) ((unhide HB1).trans ((unhide HB2).mono hz1))⟩
end Go.Proofs.Ytoipkpndfgcmcaa
