/-
  The document's Decode: the walk over the Go text. Condition: at most 2^20 bytes.
-/
import Derived.Test.YteambdbcjcfdeaaColRefRead4
import Derived.Test.YteambdbcjcfdeaaColOut
namespace Go.Proofs.Yteambdbcjcfdeaa
open Go.RowKit

set_option maxRecDepth 100000 in
set_option maxHeartbeats 400000 in
theorem rsame_any (A B : Option Addr) (n c m d : Nat) (xs ys : List UInt8) (w : World) (K : Nat) (hx : Reads w K 1 A n (xs.map bv)) (hy : Reads w K 1 B m (ys.map bv)) (hn : n ≤ 140737488355328) (hK : K ≤ w.heap.size) :
    Calls Try.prog 42 #[.slice A n c, .slice B m d] w fun e w' => e = .returned (.bool (xs == ys)) ∧ Below w.heap.size w w' := by
  have hlx : xs.length = n := by have := hx.1; simpa using this
  have hly : ys.length = m := by have := hy.1; simpa using this
  by_cases hnm : n = m
  · subst hnm
    have ht : ((n : Int) != (n : Int)) = false := by simp
    go_enter Try.func42, Try.ntmps42
    go_wp2
    go_loopg [5] n (fun q t wr => ∃ k : Nat, k + q = n ∧ t = .int .i64 (k : Int) ∧ Hid (xs.take k = ys.take k) ∧ Below w.heap.size w wr)
    case atStart => exact ⟨0, by omega, rfl, by show _ = _; simp, Below.refl _ _⟩
    case round =>
      obtain ⟨k, hk, rfl, HT, hb⟩ := hrel
      by_cases hlt : k < n
      · obtain ⟨q, rfl⟩ : ∃ q, gk = q + 1 := ⟨gk - 1, by omega⟩
        obtain ⟨b1, o1, u1, rfl, hl1, hx1, hc1, ha1⟩ := hx.at0 hlt
        obtain ⟨b2, o2, u2, rfl, hl2, hx2, hc2, ha2⟩ := hy.at0 hlt
        rw [List.getElem?_map] at hx1 hx2
        obtain ⟨c1, hx1', rfl⟩ := Option.map_eq_some_iff.1 hx1
        obtain ⟨c2, hx2', rfl⟩ := Option.map_eq_some_iff.1 hx2
        have hd1 : wr.cell? ⟨b1, o1 + k, none⟩ = some (.int .u8 (c1.toNat : Int)) := (hb.cell (p := ⟨b1, o1 + k, none⟩) (Nat.lt_of_lt_of_le hl1 hK)).trans hc1
        have hd2 : wr.cell? ⟨b2, o2 + k, none⟩ = some (.int .u8 (c2.toNat : Int)) := (hb.cell (p := ⟨b2, o2 + k, none⟩) (Nat.lt_of_lt_of_le hl2 hK)).trans hc2
        have HE := hide (take_ext HT.out hx1' hx2')
        have HB := hide hb
        have hk0 : (0 : Int) ≤ (k : Int) := by omega
        have hk1 : (k : Int) < (n : Int) := by omega
        by_cases hcc : c1 = c2
        · subst hcc
          have HN : Hid (xs.take (k + 1) = ys.take (k + 1)) := (unhide HE).2 rfl
          have hne : ((c1.toNat : Int) != (c1.toNat : Int)) = false := by simp
          clear hx hy hx1 hx2 hx1' hx2' ha1 ha2 hc1 hc2 hb HE hlx hly
          go_wp2
          go_quiet (fail)
          go_wp2
          go_roundg q
          case rel => exact ⟨k + 1, by omega, by go_num, HN, ⟨(unhide HB).os, (unhide HB).tape, (unhide HB).output, (unhide HB).size, (unhide HB).block⟩⟩
          case measure => omega
        · have HR : Hid ((xs == ys) = false) := by
            show _ = _
            simp only [beq_eq_false_iff_ne]
            rintro rfl
            rw [hx1'] at hx2'
            injection hx2' with e
            exact hcc e
          have hne : ((c1.toNat : Int) != (c2.toNat : Int)) = true := by
            simp only [bne_iff_ne, ne_eq, Int.natCast_inj]
            intro e
            exact hcc (UInt8.toNat_inj.1 e)
          clear hx hy hx1 hx2 hx1' hx2' ha1 ha2 hc1 hc2 hb HE hlx hly
          go_wp2
          go_quiet (fail)
          go_wp2
          go_ret
          exact ⟨by rw [HR.out]; rfl, ⟨(unhide HB).os, (unhide HB).tape, (unhide HB).output, (unhide HB).size, (unhide HB).block⟩⟩
      · have HR : Hid ((xs == ys) = true) := by
          show _ = _
          have := HT.out
          rw [List.take_of_length_le (by omega), List.take_of_length_le (by omega)] at this
          simpa using this
        have HB := hide hb
        clear hx hy hb
        go_wp2
        go_ret
        exact ⟨by rw [HR.out]; rfl, unhide HB⟩
  · have hne : ((n : Int) != (m : Int)) = true := by simp; omega
    have HR : Hid ((xs == ys) = false) := by
      show _ = _
      simp only [beq_eq_false_iff_ne]
      rintro rfl
      omega
    clear hx hy
    go_enter Try.func42, Try.ntmps42
    go_wp2
    go_ret
    exact ⟨by rw [HR.out]; rfl, Below.refl _ _⟩

def RdecOut (w : World) (bs : List UInt8) (rows : Int) (E : Ending) (w' : World) : Prop :=
  ∃ v c e, E = .returned (.tuple #[v, .int .i64 ((e : Nat) : Int)]) ∧ w'.ownsRow w.heap.size 40 1 v c.length (c.map uw) ∧ Below w.heap.size w w' ∧ Dec bs rows c e
theorem rdec_err {w w' : World} {bs : List UInt8} {rows : Int} {e : Nat} (hb : Below w.heap.size w w') (h : Dec bs rows [] e) : RdecOut w bs rows (.returned (.tuple #[.slice none 0 0, .int .i64 (e : Int)])) w' :=
  ⟨_, [], e, rfl, World.ownsRow_nil _ _ _ _, hb, h⟩
theorem dec_same {bs : List UInt8} {rows : Int} {c c' : List UInt32} {e e' : Nat} (h : Dec bs rows c e) (h' : Dec bs rows c' e') : c = c' ∧ e = e' := by
  rcases h with ⟨rfl, rfl, h1⟩ | ⟨h1, h2, ⟨rfl, rfl, h3⟩ | ⟨rfl, h3, h4, h5⟩⟩
  · rcases h' with ⟨rfl, rfl, _⟩ | ⟨h1', h2', _⟩
    · exact ⟨rfl, rfl⟩
    · omega
  · rcases h' with ⟨rfl, rfl, _⟩ | ⟨_, _, ⟨rfl, rfl, _⟩ | ⟨rfl, h3', h4', _⟩⟩
    · omega
    · exact ⟨rfl, rfl⟩
    · exact absurd h4' (h3 _ h3')
  · rcases h' with ⟨rfl, rfl, _⟩ | ⟨_, _, ⟨rfl, rfl, h3'⟩ | ⟨rfl, h3', h4', _⟩⟩
    · omega
    · exact absurd h4 (h3' _ h3)
    · exact ⟨h5 _ h3' h4', rfl⟩
theorem rdecode_arg (A : Option Addr) (N cap : Nat) (rows : Int) (bs : List UInt8) (w : World) (h : rows < 0 ∨ 65536 < rows) :
    Calls Try.prog 23 #[.slice A N cap, .int .i64 rows] w (RdecOut w bs rows) := by
  have HD := hide (rdec_err (w := w) (w' := w) (bs := bs) (rows := rows) (e := 2) (Below.refl _ _) (.inl ⟨rfl, rfl, h⟩))
  by_cases h1 : rows < 0
  · clear h
    go_enter Try.func23, Try.ntmps23
    go_wp2_with fail
    go_ret2
    exact unhide HD
  · have h2 : 65536 < rows := by omega
    clear h
    go_enter Try.func23, Try.ntmps23
    go_wp2_with fail
    go_ret2
    exact unhide HD
theorem rdecode_none (A : Option Addr) (cap rows : Nat) (w : World) (h : rows ≤ 65536) :
    Calls Try.prog 23 #[.slice A 0 cap, .int .i64 (rows : Int)] w (RdecOut w [] (rows : Int)) := by
  have HD := hide (rdec_err (w := w) (w' := w) (bs := []) (rows := (rows : Int)) (e := 50) (Below.refl _ _) (.inr ⟨by omega, by omega, .inl ⟨rfl, rfl, fun c2 _ e => by rw [pageS] at e; cases e⟩⟩))
  have h1 : ¬ (rows : Int) < 0 := by omega
  have h2 : ¬ (65536 : Int) < (rows : Int) := by omega
  go_enter Try.func23, Try.ntmps23
  go_wp2_with fail
  go_ret2
  exact unhide HD
theorem rdecode_way (A : Option Addr) (N cap rows B : Nat) (y : UInt8) (bs : List UInt8) (w : World) (hr : Reads w B 1 A N ((y :: bs).map bv)) (h : rows ≤ 65536) (hy : y.toNat < 1 ∨ 4 < y.toNat) :
    Calls Try.prog 23 #[.slice A N cap, .int .i64 (rows : Int)] w (RdecOut w (y :: bs) (rows : Int)) := by
  have hlen : N = bs.length + 1 := by have := hr.1; simp at this; omega
  have HD := hide (rdec_err (w := w) (w' := w) (bs := y :: bs) (rows := (rows : Int)) (e := 50) (Below.refl _ _) (.inr ⟨by omega, by omega, .inl ⟨rfl, rfl, fun c2 _ e => by
    rw [pageS] at e
    injection e with e1 _
    have h3 := wayS_range c2
    rw [← e1, UInt8.toNat_ofNat', Nat.mod_eq_of_lt (by omega)] at hy
    omega⟩⟩))
  obtain ⟨b, off, u, rfl, _, hu, hc0, _⟩ := hr.at0 (k := 0) (by omega)
  simp only [List.map_cons, List.getElem?_cons_zero, Option.some.injEq] at hu
  subst hu
  rw [Nat.add_zero, bv] at hc0
  obtain ⟨Y, hY⟩ : ∃ Y, y.toNat = Y := ⟨_, rfl⟩
  rw [hY] at hc0 hy
  have h1 : ¬ (rows : Int) < 0 := by omega
  have h2 : ¬ (65536 : Int) < (rows : Int) := by omega
  have hN0 : ((N : Int) == 0) = false := by simp; omega
  have hN1 : (0 : Int) < (N : Int) := by omega
  clear hr hlen hY
  by_cases hy1 : Y < 1
  · have e1 : (Y : Int) < 1 := by omega
    clear hy
    go_enter Try.func23, Try.ntmps23
    go_wp2_with fail
    go_ret2
    exact unhide HD
  · have e1 : ¬ (Y : Int) < 1 := by omega
    have e2 : (4 : Int) < (Y : Int) := by omega
    clear hy
    go_enter Try.func23, Try.ntmps23
    go_wp2_with fail
    go_ret2
    exact unhide HD

set_option maxRecDepth 100000 in
set_option maxHeartbeats 1000000 in
theorem rdecode1 (A : Option Addr) (N cap rows B : Nat) (bs : List UInt8) (w : World) (hr : Reads w B 1 A N ((UInt8.ofNat 1 :: bs).map bv)) (hB : B ≤ w.heap.size) (hN : N ≤ 1048576) (hcap : N ≤ cap) (hcm : cap ≤ 9223372036854775807) (h : rows ≤ 65536) :
    Calls Try.prog 23 #[.slice A N cap, .int .i64 (rows : Int)] w (RdecOut w (UInt8.ofNat 1 :: bs) (rows : Int)) := by
  have hlen : N = bs.length + 1 := by have := hr.1; simp at this; omega
  obtain ⟨b, off, u, rfl, hbB, hu, hc0, _⟩ := hr.at0 (k := 0) (by omega)
  simp only [List.map_cons, List.getElem?_cons_zero, Option.some.injEq] at hu
  subst hu
  have hc0' : w.cell? ⟨b, off, none⟩ = some (.int .u8 1) := hc0
  have h1 : ¬ (rows : Int) < 0 := by omega
  have h2 : ¬ (65536 : Int) < (rows : Int) := by omega
  have hN0 : ((N : Int) == 0) = false := by simp; omega
  have hN1 : (0 : Int) < (N : Int) := by omega
  obtain ⟨⟨iE, zE, eE1, eE2, eE3, eE4, eE5, eE6⟩, _⟩ := elem_u8
  have hsl := fun W => run_cut eE1 eE2 eE4 (some ⟨b, off, none⟩) cap (k := 1) (n := N) (by omega) W
  have hrt := hr.cut (k := 1) (cap := cap) (by omega) hcap
  rw [Nat.mul_one, ← List.map_drop, List.drop_one, List.tail_cons] at hrt
  obtain ⟨A', hA'⟩ : ∃ A', (if cap = 1 then some (⟨b, off, none⟩ : Addr) else (some (⟨b, off, none⟩ : Addr)).map (·.add 1)) = A' := ⟨_, rfl⟩
  simp only [Nat.mul_one, hA'] at hsl
  rw [hA'] at hrt
  rw [show ((1 : Nat) : Int) = 1 from rfl] at hsl
  have hbw : b < w.heap.size := by omega
  have hN1n : 0 < N := by omega
  have hle1 : 1 ≤ N := hN1n
  have hcapI : (N : Int) ≤ (cap : Int) := by omega
  have hcap1 : N - 1 ≤ cap - 1 := by omega
  have hcm1 : cap - 1 ≤ 9223372036854775807 := by omega
  have hwy : IntKind.i64.wrap 1 = 1 := by decide +kernel
  have HR := hide hr
  have HRT := hide hrt
  have HRd := hide (fun W (hb : Below w.heap.size w W) => rread1 A' (N - 1) (cap - 1) B rows bs W (hrt.below (hb.mono hB)) (Nat.le_trans hB hb.size) (by omega) hcap1 hcm1 h)
  clear hr hrt hc0 hA' eE1 eE2 eE3 eE4 eE5 eE6 hlen hcap1 hcm1
  go_enter Try.func23, Try.ntmps23
  go_wp2_with fail
  go_region_held3 (fun w' => w'.cell? ⟨b, off, none⟩ = some (.int .u8 1)) (first | go_keep | exact d2) ((first
    | (go_at_call 41; (with_reducible refine ((unhide HRd) _ (by first | exact (Below.refl _ _).drew | exact below_drewN (Below.refl _ _) _ | exact Below.refl _ _)).mono ?_)
       rintro e w2 ⟨v2, c, ok, rfl, ho2, hb2, hok, hcc⟩
       obtain ⟨A2, cp, rfl⟩ := ho2.shape
       have hb02 : Below w.heap.size w w2 := (show Below w.heap.size w _ from (by first | exact (Below.refl _ _).drew | exact below_drewN (Below.refl _ _) _ | exact Below.refl _ _)).trans hb2
       have d2 : w2.cell? ⟨b, off, none⟩ = some (.int .u8 1) := (hb02.cell (p := ⟨b, off, none⟩) hbw).trans hc0'
       have HO2 : Hid (w2.ownsRow w.heap.size 40 1 (.slice A2 c.length cp) c.length (c.map uw)) := ho2
       have HB2 := hide hb02
       have HCC := hide hcc
       have HOK := hide hok
       clear ho2 hb2 hb02 hcc hok)))
  cases ok with
  | true =>
    have hcl := unhide HOK rfl
    have HCL := Lib.hid hcl
    have hE := hide (rencode_any c A2 c.length cp w2.heap.size w2 (Reads.of_own (unhide HO2)) (Nat.le_refl _) (by omega))
    obtain ⟨lc, hlc⟩ : ∃ n, c.length = n := ⟨_, rfl⟩
    have HLC := Lib.hid hlc
    rw [hlc] at hE ⊢
    clear hcl hlc
    go_wp2_with fail
    refine (unhide hE).mono ?_
    rintro e w3 ⟨v3, rfl, hbo3⟩
    have ho3 := hbo3.1
    have hb3 := hbo3.2
    obtain ⟨A3, c3, rfl⟩ := ho3.shape
    have hQ := rsame_any A3 (some ⟨b, off, none⟩) (pageS c).length c3 N cap (pageS c) (UInt8.ofNat 1 :: bs) w3 w3.heap.size (Reads.of_own ho3) (((unhide HR).below (((unhide HB2).trans (hb3.mono (unhide HB2).size)).mono hB)).more (Nat.le_trans hB (((unhide HB2).trans (hb3.mono (unhide HB2).size))).size)) (by have := page_len c; have h6 := HCL.out; omega) (Nat.le_refl _)
    have HB3 := hide ((unhide HB2).trans (hb3.mono (unhide HB2).size))
    have HO3 := hide ((Chg.of_below hb3 (fun _ => False)).own (unhide HO2) (fun _ _ h => h))
    clear hb3 ho3 hbo3 hE
    by_cases hpe : pageS c = UInt8.ofNat 1 :: bs
    · rw [hpe, beq_self_eq_true] at hQ
      rw [hpe]
      have hQ' := hide hQ
      have hdec : Dec (UInt8.ofNat 1 :: bs) (rows : Int) c 0 := .inr ⟨by omega, by omega, .inr ⟨rfl, by rw [Int.toNat_natCast]; exact HCL.out, hpe, fun c2 hl he => by
          rw [Int.toNat_natCast] at hl
          exact ((unhide HCC) c2 (page_of (y := 1) (by decide) he).2 hl).2⟩⟩
      have HD := hide hdec
      clear hpe hQ hdec
      go_wp2_with fail
      refine (unhide hQ').mono ?_
      rintro e w4 ⟨rfl, hb4⟩
      have HB4 := hide ((unhide HB3).trans (hb4.mono (unhide HB3).size))
      have HO4 := hide ((Chg.of_below hb4 (fun _ => False)).own (unhide HO3) (fun _ _ h => h))
      clear hb4
      go_wp2_with fail
      go_ret2
      refine ⟨_, c, 0, rfl, ?_, unhide HB4, unhide HD⟩
      have h5 := unhide HO4
      rw [HLC.out] at h5 ⊢
      exact h5
    · rw [beq_false_of_ne hpe] at hQ
      have hQ' := hide hQ
      have hdec : Dec (UInt8.ofNat 1 :: bs) (rows : Int) [] 50 := .inr ⟨by omega, by omega, .inl ⟨rfl, rfl, fun c2 hl he => by
          rw [Int.toNat_natCast] at hl
          have := ((unhide HCC) c2 (page_of (y := 1) (by decide) he).2 hl).2
          subst this
          exact hpe he⟩⟩
      have HD := hide hdec
      clear hpe hQ hdec
      go_wp2_with fail
      refine (unhide hQ').mono ?_
      rintro e w4 ⟨rfl, hb4⟩
      have hD := hide (rdec_err (w := w) (w' := w4) ((unhide HB3).trans (hb4.mono (unhide HB3).size)) (unhide HD))
      clear hb4
      go_wp2_with fail
      go_ret2
      exact unhide hD
  | false =>
    have hD := hide (rdec_err (w := w) (w' := w2) (bs := UInt8.ofNat 1 :: bs) (rows := (rows : Int)) (e := 50) (unhide HB2) (.inr ⟨by omega, by omega, .inl ⟨rfl, rfl, fun c2 hl he => by
          rw [Int.toNat_natCast] at hl
          exact absurd ((unhide HCC) c2 (page_of (y := 1) (by decide) he).2 hl).1 (by decide)⟩⟩))
    go_wp2_with fail
    go_ret2
    exact unhide hD

set_option maxRecDepth 100000 in
set_option maxHeartbeats 1000000 in
theorem rdecode2 (A : Option Addr) (N cap rows B : Nat) (bs : List UInt8) (w : World) (hr : Reads w B 1 A N ((UInt8.ofNat 2 :: bs).map bv)) (hB : B ≤ w.heap.size) (hN : N ≤ 1048576) (hcap : N ≤ cap) (hcm : cap ≤ 9223372036854775807) (h : rows ≤ 65536) :
    Calls Try.prog 23 #[.slice A N cap, .int .i64 (rows : Int)] w (RdecOut w (UInt8.ofNat 2 :: bs) (rows : Int)) := by
  have hlen : N = bs.length + 1 := by have := hr.1; simp at this; omega
  obtain ⟨b, off, u, rfl, hbB, hu, hc0, _⟩ := hr.at0 (k := 0) (by omega)
  simp only [List.map_cons, List.getElem?_cons_zero, Option.some.injEq] at hu
  subst hu
  have hc0' : w.cell? ⟨b, off, none⟩ = some (.int .u8 2) := hc0
  have h1 : ¬ (rows : Int) < 0 := by omega
  have h2 : ¬ (65536 : Int) < (rows : Int) := by omega
  have hN0 : ((N : Int) == 0) = false := by simp; omega
  have hN1 : (0 : Int) < (N : Int) := by omega
  obtain ⟨⟨iE, zE, eE1, eE2, eE3, eE4, eE5, eE6⟩, _⟩ := elem_u8
  have hsl := fun W => run_cut eE1 eE2 eE4 (some ⟨b, off, none⟩) cap (k := 1) (n := N) (by omega) W
  have hrt := hr.cut (k := 1) (cap := cap) (by omega) hcap
  rw [Nat.mul_one, ← List.map_drop, List.drop_one, List.tail_cons] at hrt
  obtain ⟨A', hA'⟩ : ∃ A', (if cap = 1 then some (⟨b, off, none⟩ : Addr) else (some (⟨b, off, none⟩ : Addr)).map (·.add 1)) = A' := ⟨_, rfl⟩
  simp only [Nat.mul_one, hA'] at hsl
  rw [hA'] at hrt
  rw [show ((1 : Nat) : Int) = 1 from rfl] at hsl
  have hbw : b < w.heap.size := by omega
  have hN1n : 0 < N := by omega
  have hle1 : 1 ≤ N := hN1n
  have hcapI : (N : Int) ≤ (cap : Int) := by omega
  have hcap1 : N - 1 ≤ cap - 1 := by omega
  have hcm1 : cap - 1 ≤ 9223372036854775807 := by omega
  have hwy : IntKind.i64.wrap 2 = 2 := by decide +kernel
  have HR := hide hr
  have HRT := hide hrt
  have HRd := hide (fun W (hb : Below w.heap.size w W) => rread2 A' (N - 1) (cap - 1) B rows bs W (hrt.below (hb.mono hB)) (Nat.le_trans hB hb.size) (by omega) hcap1 hcm1 h)
  clear hr hrt hc0 hA' eE1 eE2 eE3 eE4 eE5 eE6 hlen hcap1 hcm1
  go_enter Try.func23, Try.ntmps23
  go_wp2_with fail
  go_region_held3 (fun w' => w'.cell? ⟨b, off, none⟩ = some (.int .u8 2)) (first | go_keep | exact d2) ((first
    | (go_at_call 41; (with_reducible refine ((unhide HRd) _ (by first | exact (Below.refl _ _).drew | exact below_drewN (Below.refl _ _) _ | exact Below.refl _ _)).mono ?_)
       rintro e w2 ⟨v2, c, ok, rfl, ho2, hb2, hok, hcc⟩
       obtain ⟨A2, cp, rfl⟩ := ho2.shape
       have hb02 : Below w.heap.size w w2 := (show Below w.heap.size w _ from (by first | exact (Below.refl _ _).drew | exact below_drewN (Below.refl _ _) _ | exact Below.refl _ _)).trans hb2
       have d2 : w2.cell? ⟨b, off, none⟩ = some (.int .u8 2) := (hb02.cell (p := ⟨b, off, none⟩) hbw).trans hc0'
       have HO2 : Hid (w2.ownsRow w.heap.size 40 1 (.slice A2 c.length cp) c.length (c.map uw)) := ho2
       have HB2 := hide hb02
       have HCC := hide hcc
       have HOK := hide hok
       clear ho2 hb2 hb02 hcc hok)))
  cases ok with
  | true =>
    have hcl := unhide HOK rfl
    have HCL := Lib.hid hcl
    have hE := hide (rencode_any c A2 c.length cp w2.heap.size w2 (Reads.of_own (unhide HO2)) (Nat.le_refl _) (by omega))
    obtain ⟨lc, hlc⟩ : ∃ n, c.length = n := ⟨_, rfl⟩
    have HLC := Lib.hid hlc
    rw [hlc] at hE ⊢
    clear hcl hlc
    go_wp2_with fail
    refine (unhide hE).mono ?_
    rintro e w3 ⟨v3, rfl, hbo3⟩
    have ho3 := hbo3.1
    have hb3 := hbo3.2
    obtain ⟨A3, c3, rfl⟩ := ho3.shape
    have hQ := rsame_any A3 (some ⟨b, off, none⟩) (pageS c).length c3 N cap (pageS c) (UInt8.ofNat 2 :: bs) w3 w3.heap.size (Reads.of_own ho3) (((unhide HR).below (((unhide HB2).trans (hb3.mono (unhide HB2).size)).mono hB)).more (Nat.le_trans hB (((unhide HB2).trans (hb3.mono (unhide HB2).size))).size)) (by have := page_len c; have h6 := HCL.out; omega) (Nat.le_refl _)
    have HB3 := hide ((unhide HB2).trans (hb3.mono (unhide HB2).size))
    have HO3 := hide ((Chg.of_below hb3 (fun _ => False)).own (unhide HO2) (fun _ _ h => h))
    clear hb3 ho3 hbo3 hE
    by_cases hpe : pageS c = UInt8.ofNat 2 :: bs
    · rw [hpe, beq_self_eq_true] at hQ
      rw [hpe]
      have hQ' := hide hQ
      have hdec : Dec (UInt8.ofNat 2 :: bs) (rows : Int) c 0 := .inr ⟨by omega, by omega, .inr ⟨rfl, by rw [Int.toNat_natCast]; exact HCL.out, hpe, fun c2 hl he => by
          rw [Int.toNat_natCast] at hl
          exact ((unhide HCC) c2 (page_of (y := 2) (by decide) he).2 hl).2⟩⟩
      have HD := hide hdec
      clear hpe hQ hdec
      go_wp2_with fail
      refine (unhide hQ').mono ?_
      rintro e w4 ⟨rfl, hb4⟩
      have HB4 := hide ((unhide HB3).trans (hb4.mono (unhide HB3).size))
      have HO4 := hide ((Chg.of_below hb4 (fun _ => False)).own (unhide HO3) (fun _ _ h => h))
      clear hb4
      go_wp2_with fail
      go_ret2
      refine ⟨_, c, 0, rfl, ?_, unhide HB4, unhide HD⟩
      have h5 := unhide HO4
      rw [HLC.out] at h5 ⊢
      exact h5
    · rw [beq_false_of_ne hpe] at hQ
      have hQ' := hide hQ
      have hdec : Dec (UInt8.ofNat 2 :: bs) (rows : Int) [] 50 := .inr ⟨by omega, by omega, .inl ⟨rfl, rfl, fun c2 hl he => by
          rw [Int.toNat_natCast] at hl
          have := ((unhide HCC) c2 (page_of (y := 2) (by decide) he).2 hl).2
          subst this
          exact hpe he⟩⟩
      have HD := hide hdec
      clear hpe hQ hdec
      go_wp2_with fail
      refine (unhide hQ').mono ?_
      rintro e w4 ⟨rfl, hb4⟩
      have hD := hide (rdec_err (w := w) (w' := w4) ((unhide HB3).trans (hb4.mono (unhide HB3).size)) (unhide HD))
      clear hb4
      go_wp2_with fail
      go_ret2
      exact unhide hD
  | false =>
    have hD := hide (rdec_err (w := w) (w' := w2) (bs := UInt8.ofNat 2 :: bs) (rows := (rows : Int)) (e := 50) (unhide HB2) (.inr ⟨by omega, by omega, .inl ⟨rfl, rfl, fun c2 hl he => by
          rw [Int.toNat_natCast] at hl
          exact absurd ((unhide HCC) c2 (page_of (y := 2) (by decide) he).2 hl).1 (by decide)⟩⟩))
    go_wp2_with fail
    go_ret2
    exact unhide hD

set_option maxRecDepth 100000 in
set_option maxHeartbeats 1000000 in
theorem rdecode3 (A : Option Addr) (N cap rows B : Nat) (bs : List UInt8) (w : World) (hr : Reads w B 1 A N ((UInt8.ofNat 3 :: bs).map bv)) (hB : B ≤ w.heap.size) (hN : N ≤ 1048576) (hcap : N ≤ cap) (hcm : cap ≤ 9223372036854775807) (h : rows ≤ 65536) :
    Calls Try.prog 23 #[.slice A N cap, .int .i64 (rows : Int)] w (RdecOut w (UInt8.ofNat 3 :: bs) (rows : Int)) := by
  have hlen : N = bs.length + 1 := by have := hr.1; simp at this; omega
  obtain ⟨b, off, u, rfl, hbB, hu, hc0, _⟩ := hr.at0 (k := 0) (by omega)
  simp only [List.map_cons, List.getElem?_cons_zero, Option.some.injEq] at hu
  subst hu
  have hc0' : w.cell? ⟨b, off, none⟩ = some (.int .u8 3) := hc0
  have h1 : ¬ (rows : Int) < 0 := by omega
  have h2 : ¬ (65536 : Int) < (rows : Int) := by omega
  have hN0 : ((N : Int) == 0) = false := by simp; omega
  have hN1 : (0 : Int) < (N : Int) := by omega
  obtain ⟨⟨iE, zE, eE1, eE2, eE3, eE4, eE5, eE6⟩, _⟩ := elem_u8
  have hsl := fun W => run_cut eE1 eE2 eE4 (some ⟨b, off, none⟩) cap (k := 1) (n := N) (by omega) W
  have hrt := hr.cut (k := 1) (cap := cap) (by omega) hcap
  rw [Nat.mul_one, ← List.map_drop, List.drop_one, List.tail_cons] at hrt
  obtain ⟨A', hA'⟩ : ∃ A', (if cap = 1 then some (⟨b, off, none⟩ : Addr) else (some (⟨b, off, none⟩ : Addr)).map (·.add 1)) = A' := ⟨_, rfl⟩
  simp only [Nat.mul_one, hA'] at hsl
  rw [hA'] at hrt
  rw [show ((1 : Nat) : Int) = 1 from rfl] at hsl
  have hbw : b < w.heap.size := by omega
  have hN1n : 0 < N := by omega
  have hle1 : 1 ≤ N := hN1n
  have hcapI : (N : Int) ≤ (cap : Int) := by omega
  have hcap1 : N - 1 ≤ cap - 1 := by omega
  have hcm1 : cap - 1 ≤ 9223372036854775807 := by omega
  have hwy : IntKind.i64.wrap 3 = 3 := by decide +kernel
  have HR := hide hr
  have HRT := hide hrt
  have HRd := hide (fun W (hb : Below w.heap.size w W) => rread3 A' (N - 1) (cap - 1) B rows bs W (hrt.below (hb.mono hB)) (Nat.le_trans hB hb.size) (by omega) hcap1 hcm1 h)
  clear hr hrt hc0 hA' eE1 eE2 eE3 eE4 eE5 eE6 hlen hcap1 hcm1
  go_enter Try.func23, Try.ntmps23
  go_wp2_with fail
  go_region_held3 (fun w' => w'.cell? ⟨b, off, none⟩ = some (.int .u8 3)) (first | go_keep | exact d2) ((first
    | (go_at_call 41; (with_reducible refine ((unhide HRd) _ (by first | exact (Below.refl _ _).drew | exact below_drewN (Below.refl _ _) _ | exact Below.refl _ _)).mono ?_)
       rintro e w2 ⟨v2, c, ok, rfl, ho2, hb2, hok, hcc⟩
       obtain ⟨A2, cp, rfl⟩ := ho2.shape
       have hb02 : Below w.heap.size w w2 := (show Below w.heap.size w _ from (by first | exact (Below.refl _ _).drew | exact below_drewN (Below.refl _ _) _ | exact Below.refl _ _)).trans hb2
       have d2 : w2.cell? ⟨b, off, none⟩ = some (.int .u8 3) := (hb02.cell (p := ⟨b, off, none⟩) hbw).trans hc0'
       have HO2 : Hid (w2.ownsRow w.heap.size 40 1 (.slice A2 c.length cp) c.length (c.map uw)) := ho2
       have HB2 := hide hb02
       have HCC := hide hcc
       have HOK := hide hok
       clear ho2 hb2 hb02 hcc hok)))
  cases ok with
  | true =>
    have hcl := unhide HOK rfl
    have HCL := Lib.hid hcl
    have hE := hide (rencode_any c A2 c.length cp w2.heap.size w2 (Reads.of_own (unhide HO2)) (Nat.le_refl _) (by omega))
    obtain ⟨lc, hlc⟩ : ∃ n, c.length = n := ⟨_, rfl⟩
    have HLC := Lib.hid hlc
    rw [hlc] at hE ⊢
    clear hcl hlc
    go_wp2_with fail
    refine (unhide hE).mono ?_
    rintro e w3 ⟨v3, rfl, hbo3⟩
    have ho3 := hbo3.1
    have hb3 := hbo3.2
    obtain ⟨A3, c3, rfl⟩ := ho3.shape
    have hQ := rsame_any A3 (some ⟨b, off, none⟩) (pageS c).length c3 N cap (pageS c) (UInt8.ofNat 3 :: bs) w3 w3.heap.size (Reads.of_own ho3) (((unhide HR).below (((unhide HB2).trans (hb3.mono (unhide HB2).size)).mono hB)).more (Nat.le_trans hB (((unhide HB2).trans (hb3.mono (unhide HB2).size))).size)) (by have := page_len c; have h6 := HCL.out; omega) (Nat.le_refl _)
    have HB3 := hide ((unhide HB2).trans (hb3.mono (unhide HB2).size))
    have HO3 := hide ((Chg.of_below hb3 (fun _ => False)).own (unhide HO2) (fun _ _ h => h))
    clear hb3 ho3 hbo3 hE
    by_cases hpe : pageS c = UInt8.ofNat 3 :: bs
    · rw [hpe, beq_self_eq_true] at hQ
      rw [hpe]
      have hQ' := hide hQ
      have hdec : Dec (UInt8.ofNat 3 :: bs) (rows : Int) c 0 := .inr ⟨by omega, by omega, .inr ⟨rfl, by rw [Int.toNat_natCast]; exact HCL.out, hpe, fun c2 hl he => by
          rw [Int.toNat_natCast] at hl
          exact ((unhide HCC) c2 (page_of (y := 3) (by decide) he).2 hl).2⟩⟩
      have HD := hide hdec
      clear hpe hQ hdec
      go_wp2_with fail
      refine (unhide hQ').mono ?_
      rintro e w4 ⟨rfl, hb4⟩
      have HB4 := hide ((unhide HB3).trans (hb4.mono (unhide HB3).size))
      have HO4 := hide ((Chg.of_below hb4 (fun _ => False)).own (unhide HO3) (fun _ _ h => h))
      clear hb4
      go_wp2_with fail
      go_ret2
      refine ⟨_, c, 0, rfl, ?_, unhide HB4, unhide HD⟩
      have h5 := unhide HO4
      rw [HLC.out] at h5 ⊢
      exact h5
    · rw [beq_false_of_ne hpe] at hQ
      have hQ' := hide hQ
      have hdec : Dec (UInt8.ofNat 3 :: bs) (rows : Int) [] 50 := .inr ⟨by omega, by omega, .inl ⟨rfl, rfl, fun c2 hl he => by
          rw [Int.toNat_natCast] at hl
          have := ((unhide HCC) c2 (page_of (y := 3) (by decide) he).2 hl).2
          subst this
          exact hpe he⟩⟩
      have HD := hide hdec
      clear hpe hQ hdec
      go_wp2_with fail
      refine (unhide hQ').mono ?_
      rintro e w4 ⟨rfl, hb4⟩
      have hD := hide (rdec_err (w := w) (w' := w4) ((unhide HB3).trans (hb4.mono (unhide HB3).size)) (unhide HD))
      clear hb4
      go_wp2_with fail
      go_ret2
      exact unhide hD
  | false =>
    have hD := hide (rdec_err (w := w) (w' := w2) (bs := UInt8.ofNat 3 :: bs) (rows := (rows : Int)) (e := 50) (unhide HB2) (.inr ⟨by omega, by omega, .inl ⟨rfl, rfl, fun c2 hl he => by
          rw [Int.toNat_natCast] at hl
          exact absurd ((unhide HCC) c2 (page_of (y := 3) (by decide) he).2 hl).1 (by decide)⟩⟩))
    go_wp2_with fail
    go_ret2
    exact unhide hD

set_option maxRecDepth 100000 in
set_option maxHeartbeats 1000000 in
theorem rdecode4 (A : Option Addr) (N cap rows B : Nat) (bs : List UInt8) (w : World) (hr : Reads w B 1 A N ((UInt8.ofNat 4 :: bs).map bv)) (hB : B ≤ w.heap.size) (hN : N ≤ 1048576) (hcap : N ≤ cap) (hcm : cap ≤ 9223372036854775807) (h : rows ≤ 65536) :
    Calls Try.prog 23 #[.slice A N cap, .int .i64 (rows : Int)] w (RdecOut w (UInt8.ofNat 4 :: bs) (rows : Int)) := by
  have hlen : N = bs.length + 1 := by have := hr.1; simp at this; omega
  obtain ⟨b, off, u, rfl, hbB, hu, hc0, _⟩ := hr.at0 (k := 0) (by omega)
  simp only [List.map_cons, List.getElem?_cons_zero, Option.some.injEq] at hu
  subst hu
  have hc0' : w.cell? ⟨b, off, none⟩ = some (.int .u8 4) := hc0
  have h1 : ¬ (rows : Int) < 0 := by omega
  have h2 : ¬ (65536 : Int) < (rows : Int) := by omega
  have hN0 : ((N : Int) == 0) = false := by simp; omega
  have hN1 : (0 : Int) < (N : Int) := by omega
  obtain ⟨⟨iE, zE, eE1, eE2, eE3, eE4, eE5, eE6⟩, _⟩ := elem_u8
  have hsl := fun W => run_cut eE1 eE2 eE4 (some ⟨b, off, none⟩) cap (k := 1) (n := N) (by omega) W
  have hrt := hr.cut (k := 1) (cap := cap) (by omega) hcap
  rw [Nat.mul_one, ← List.map_drop, List.drop_one, List.tail_cons] at hrt
  obtain ⟨A', hA'⟩ : ∃ A', (if cap = 1 then some (⟨b, off, none⟩ : Addr) else (some (⟨b, off, none⟩ : Addr)).map (·.add 1)) = A' := ⟨_, rfl⟩
  simp only [Nat.mul_one, hA'] at hsl
  rw [hA'] at hrt
  rw [show ((1 : Nat) : Int) = 1 from rfl] at hsl
  have hbw : b < w.heap.size := by omega
  have hN1n : 0 < N := by omega
  have hle1 : 1 ≤ N := hN1n
  have hcapI : (N : Int) ≤ (cap : Int) := by omega
  have hcap1 : N - 1 ≤ cap - 1 := by omega
  have hcm1 : cap - 1 ≤ 9223372036854775807 := by omega
  have hwy : IntKind.i64.wrap 4 = 4 := by decide +kernel
  have HR := hide hr
  have HRT := hide hrt
  have HRd := hide (fun W (hb : Below w.heap.size w W) => rread4 A' (N - 1) (cap - 1) B rows bs W (hrt.below (hb.mono hB)) (Nat.le_trans hB hb.size) (by omega) h)
  clear hr hrt hc0 hA' eE1 eE2 eE3 eE4 eE5 eE6 hlen hcap1 hcm1
  go_enter Try.func23, Try.ntmps23
  go_wp2_with fail
  go_region_held3 (fun w' => w'.cell? ⟨b, off, none⟩ = some (.int .u8 4)) (first | go_keep | exact d2) ((first
    | (go_at_call 41; (with_reducible refine ((unhide HRd) _ (by first | exact (Below.refl _ _).drew | exact below_drewN (Below.refl _ _) _ | exact Below.refl _ _)).mono ?_)
       rintro e w2 ⟨v2, c, ok, rfl, ho2, hb2, hok, hcc⟩
       obtain ⟨A2, cp, rfl⟩ := ho2.shape
       have hb02 : Below w.heap.size w w2 := (show Below w.heap.size w _ from (by first | exact (Below.refl _ _).drew | exact below_drewN (Below.refl _ _) _ | exact Below.refl _ _)).trans hb2
       have d2 : w2.cell? ⟨b, off, none⟩ = some (.int .u8 4) := (hb02.cell (p := ⟨b, off, none⟩) hbw).trans hc0'
       have HO2 : Hid (w2.ownsRow w.heap.size 40 1 (.slice A2 c.length cp) c.length (c.map uw)) := ho2
       have HB2 := hide hb02
       have HCC := hide hcc
       have HOK := hide hok
       clear ho2 hb2 hb02 hcc hok)))
  cases ok with
  | true =>
    have hcl := unhide HOK rfl
    have HCL := Lib.hid hcl
    have hE := hide (rencode_any c A2 c.length cp w2.heap.size w2 (Reads.of_own (unhide HO2)) (Nat.le_refl _) (by omega))
    obtain ⟨lc, hlc⟩ : ∃ n, c.length = n := ⟨_, rfl⟩
    have HLC := Lib.hid hlc
    rw [hlc] at hE ⊢
    clear hcl hlc
    go_wp2_with fail
    refine (unhide hE).mono ?_
    rintro e w3 ⟨v3, rfl, hbo3⟩
    have ho3 := hbo3.1
    have hb3 := hbo3.2
    obtain ⟨A3, c3, rfl⟩ := ho3.shape
    have hQ := rsame_any A3 (some ⟨b, off, none⟩) (pageS c).length c3 N cap (pageS c) (UInt8.ofNat 4 :: bs) w3 w3.heap.size (Reads.of_own ho3) (((unhide HR).below (((unhide HB2).trans (hb3.mono (unhide HB2).size)).mono hB)).more (Nat.le_trans hB (((unhide HB2).trans (hb3.mono (unhide HB2).size))).size)) (by have := page_len c; have h6 := HCL.out; omega) (Nat.le_refl _)
    have HB3 := hide ((unhide HB2).trans (hb3.mono (unhide HB2).size))
    have HO3 := hide ((Chg.of_below hb3 (fun _ => False)).own (unhide HO2) (fun _ _ h => h))
    clear hb3 ho3 hbo3 hE
    by_cases hpe : pageS c = UInt8.ofNat 4 :: bs
    · rw [hpe, beq_self_eq_true] at hQ
      rw [hpe]
      have hQ' := hide hQ
      have hdec : Dec (UInt8.ofNat 4 :: bs) (rows : Int) c 0 := .inr ⟨by omega, by omega, .inr ⟨rfl, by rw [Int.toNat_natCast]; exact HCL.out, hpe, fun c2 hl he => by
          rw [Int.toNat_natCast] at hl
          exact ((unhide HCC) c2 (page_of (y := 4) (by decide) he).2 hl).2⟩⟩
      have HD := hide hdec
      clear hpe hQ hdec
      go_wp2_with fail
      refine (unhide hQ').mono ?_
      rintro e w4 ⟨rfl, hb4⟩
      have HB4 := hide ((unhide HB3).trans (hb4.mono (unhide HB3).size))
      have HO4 := hide ((Chg.of_below hb4 (fun _ => False)).own (unhide HO3) (fun _ _ h => h))
      clear hb4
      go_wp2_with fail
      go_ret2
      refine ⟨_, c, 0, rfl, ?_, unhide HB4, unhide HD⟩
      have h5 := unhide HO4
      rw [HLC.out] at h5 ⊢
      exact h5
    · rw [beq_false_of_ne hpe] at hQ
      have hQ' := hide hQ
      have hdec : Dec (UInt8.ofNat 4 :: bs) (rows : Int) [] 50 := .inr ⟨by omega, by omega, .inl ⟨rfl, rfl, fun c2 hl he => by
          rw [Int.toNat_natCast] at hl
          have := ((unhide HCC) c2 (page_of (y := 4) (by decide) he).2 hl).2
          subst this
          exact hpe he⟩⟩
      have HD := hide hdec
      clear hpe hQ hdec
      go_wp2_with fail
      refine (unhide hQ').mono ?_
      rintro e w4 ⟨rfl, hb4⟩
      have hD := hide (rdec_err (w := w) (w' := w4) ((unhide HB3).trans (hb4.mono (unhide HB3).size)) (unhide HD))
      clear hb4
      go_wp2_with fail
      go_ret2
      exact unhide hD
  | false =>
    have hD := hide (rdec_err (w := w) (w' := w2) (bs := UInt8.ofNat 4 :: bs) (rows := (rows : Int)) (e := 50) (unhide HB2) (.inr ⟨by omega, by omega, .inl ⟨rfl, rfl, fun c2 hl he => by
          rw [Int.toNat_natCast] at hl
          exact absurd ((unhide HCC) c2 (page_of (y := 4) (by decide) he).2 hl).1 (by decide)⟩⟩))
    go_wp2_with fail
    go_ret2
    exact unhide hD

theorem rdecode_any (A : Option Addr) (N cap B : Nat) (rows : Int) (bs : List UInt8) (w : World) (hr : Reads w B 1 A N (bs.map bv)) (hB : B ≤ w.heap.size) (hN : N ≤ 1048576) (hcap : N ≤ cap) (hcm : cap ≤ 9223372036854775807) :
    Calls Try.prog 23 #[.slice A N cap, .int .i64 rows] w (RdecOut w bs rows) := by
  by_cases h : rows < 0 ∨ 65536 < rows
  · exact rdecode_arg A N cap rows bs w h
  · obtain ⟨r, rfl⟩ := Int.eq_ofNat_of_zero_le (show 0 ≤ rows by omega)
    have hr' : r ≤ 65536 := by omega
    cases bs with
    | nil =>
      have h0 : N = 0 := by have := hr.1; simp at this; omega
      subst h0
      exact rdecode_none A cap r w hr'
    | cons y bs =>
      by_cases hy : y.toNat < 1 ∨ 4 < y.toNat
      · exact rdecode_way A N cap r B y bs w hr hr' hy
      · have hy' : y = UInt8.ofNat y.toNat := by simp
        rcases (show y.toNat = 1 ∨ y.toNat = 2 ∨ y.toNat = 3 ∨ y.toNat = 4 by omega) with e | e | e | e <;> rw [e] at hy' <;> subst hy'
        · exact rdecode1 A N cap r B bs w hr hB hN hcap hcm hr'
        · exact rdecode2 A N cap r B bs w hr hB hN hcap hcm hr'
        · exact rdecode3 A N cap r B bs w hr hB hN hcap hcm hr'
        · exact rdecode4 A N cap r B bs w hr hB hN hcap hcm hr'
end Go.Proofs.Yteambdbcjcfdeaa
