/-
  The law's own helpers: same, alike, num; the walks over the Go text. Condition: lists below 2^47.
-/
import Derived.Test.YteambdbcjcfdeaaColEnc2
import Derived.Deep.QuietTactic
import Derived.BigQuiet
namespace Go.Proofs.Yteambdbcjcfdeaa
open Go.RowKit

theorem take_ext {α : Type} {xs ys : List α} {k : Nat} {c d : α} (h : xs.take k = ys.take k) (hx : xs[k]? = some c) (hy : ys[k]? = some d) : xs.take (k + 1) = ys.take (k + 1) ↔ c = d := by
  obtain ⟨h1, rfl⟩ := List.getElem?_eq_some_iff.1 hx
  obtain ⟨h2, rfl⟩ := List.getElem?_eq_some_iff.1 hy
  rw [List.take_succ_eq_append_getElem h1, List.take_succ_eq_append_getElem h2, h, List.append_cancel_left_eq]
  simp
set_option maxRecDepth 100000 in
set_option maxHeartbeats 400000 in
theorem same5_any (A B : Option Addr) (n c m d : Nat) (xs ys : List UInt8) (w : World) (K : Nat) (hx : Reads w K 1 A n (xs.map bv)) (hy : Reads w K 1 B m (ys.map bv)) (hn : n ≤ 140737488355328) (hK : K ≤ w.heap.size) :
    Calls Try.prog 18 #[.slice A n c, .slice B m d] w fun e w' => e = .returned (.bool (xs == ys)) ∧ Below w.heap.size w w' := by
  have hlx : xs.length = n := by have := hx.1; simpa using this
  have hly : ys.length = m := by have := hy.1; simpa using this
  by_cases hnm : n = m
  · subst hnm
    have ht : ((n : Int) != (n : Int)) = false := by simp
    go_enter Try.func18, Try.ntmps18
    go_wp2
    go_loopg [5] n (fun q t wr => ∃ k : Nat, k + q = n ∧ t = .int .i64 (k : Int) ∧ Hid (xs.take k = ys.take k) ∧ Below w.heap.size w wr)
    case atStart => exact ⟨0, by omega, rfl, by show _ = _; simp, Below.refl _ _⟩
    case round =>
      obtain ⟨k, hk, rfl, HT, hb⟩ := hrel
      by_cases hlt : k < n
      · obtain ⟨q, rfl⟩ : ∃ q, gk = q + 1 := ⟨gk - 1, by omega⟩
        obtain ⟨b1, o1, u1, rfl, hl1, hx1, hc1, ha1⟩ := hx.at0 hlt
        obtain ⟨b2, o2, u2, rfl, hl2, hx2, hc2, ha2⟩ := hy.at0 hlt
        rw [List.getElem?_map] at hx1 hx2
        obtain ⟨c1, hx1', rfl⟩ := Option.map_eq_some_iff.1 hx1
        obtain ⟨c2, hx2', rfl⟩ := Option.map_eq_some_iff.1 hx2
        have hd1 : wr.cell? ⟨b1, o1 + k, none⟩ = some (.int .u8 (c1.toNat : Int)) := (hb.cell (p := ⟨b1, o1 + k, none⟩) (Nat.lt_of_lt_of_le hl1 hK)).trans hc1
        have hd2 : wr.cell? ⟨b2, o2 + k, none⟩ = some (.int .u8 (c2.toNat : Int)) := (hb.cell (p := ⟨b2, o2 + k, none⟩) (Nat.lt_of_lt_of_le hl2 hK)).trans hc2
        have HE := hide (take_ext HT.out hx1' hx2')
        have HB := hide hb
        have hk0 : (0 : Int) ≤ (k : Int) := by omega
        have hk1 : (k : Int) < (n : Int) := by omega
        by_cases hcc : c1 = c2
        · subst hcc
          have HN : Hid (xs.take (k + 1) = ys.take (k + 1)) := (unhide HE).2 rfl
          have hne : ((c1.toNat : Int) != (c1.toNat : Int)) = false := by simp
          clear hx hy hx1 hx2 hx1' hx2' ha1 ha2 hc1 hc2 hb HE hlx hly
          go_wp2
          go_quiet (fail)
          go_wp2
          go_roundg q
          case rel => exact ⟨k + 1, by omega, by go_num, HN, ⟨(unhide HB).os, (unhide HB).tape, (unhide HB).output, (unhide HB).size, (unhide HB).block⟩⟩
          case measure => omega
        · have HR : Hid ((xs == ys) = false) := by
            show _ = _
            simp only [beq_eq_false_iff_ne]
            rintro rfl
            rw [hx1'] at hx2'
            injection hx2' with e
            exact hcc e
          have hne : ((c1.toNat : Int) != (c2.toNat : Int)) = true := by
            simp only [bne_iff_ne, ne_eq, Int.natCast_inj]
            intro e
            exact hcc (UInt8.toNat_inj.1 e)
          clear hx hy hx1 hx2 hx1' hx2' ha1 ha2 hc1 hc2 hb HE hlx hly
          go_wp2
          go_quiet (fail)
          go_wp2
          go_ret
          exact ⟨by rw [HR.out]; rfl, ⟨(unhide HB).os, (unhide HB).tape, (unhide HB).output, (unhide HB).size, (unhide HB).block⟩⟩
      · have HR : Hid ((xs == ys) = true) := by
          show _ = _
          have := HT.out
          rw [List.take_of_length_le (by omega), List.take_of_length_le (by omega)] at this
          simpa using this
        have HB := hide hb
        clear hx hy hb
        go_wp2
        go_ret
        exact ⟨by rw [HR.out]; rfl, unhide HB⟩
  · have hne : ((n : Int) != (m : Int)) = true := by simp; omega
    have HR : Hid ((xs == ys) = false) := by
      show _ = _
      simp only [beq_eq_false_iff_ne]
      rintro rfl
      omega
    clear hx hy
    go_enter Try.func18, Try.ntmps18
    go_wp2
    go_ret
    exact ⟨by rw [HR.out]; rfl, Below.refl _ _⟩
set_option maxRecDepth 100000 in
set_option maxHeartbeats 400000 in
theorem alike_any (A B : Option Addr) (n c m d : Nat) (xs ys : List UInt32) (w : World) (K : Nat) (hx : Reads w K 1 A n (xs.map uw)) (hy : Reads w K 1 B m (ys.map uw)) (hn : n ≤ 140737488355328) (hK : K ≤ w.heap.size) :
    Calls Try.prog 25 #[.slice A n c, .slice B m d] w fun e w' => e = .returned (.bool (xs == ys)) ∧ Below w.heap.size w w' := by
  have hlx : xs.length = n := by have := hx.1; simpa using this
  have hly : ys.length = m := by have := hy.1; simpa using this
  by_cases hnm : n = m
  · subst hnm
    have ht : ((n : Int) != (n : Int)) = false := by simp
    go_enter Try.func25, Try.ntmps25
    go_wp2
    go_loopg [5] n (fun q t wr => ∃ k : Nat, k + q = n ∧ t = .int .i64 (k : Int) ∧ Hid (xs.take k = ys.take k) ∧ Below w.heap.size w wr)
    case atStart => exact ⟨0, by omega, rfl, by show _ = _; simp, Below.refl _ _⟩
    case round =>
      obtain ⟨k, hk, rfl, HT, hb⟩ := hrel
      by_cases hlt : k < n
      · obtain ⟨q, rfl⟩ : ∃ q, gk = q + 1 := ⟨gk - 1, by omega⟩
        obtain ⟨b1, o1, u1, rfl, hl1, hx1, hc1, ha1⟩ := hx.at0 hlt
        obtain ⟨b2, o2, u2, rfl, hl2, hx2, hc2, ha2⟩ := hy.at0 hlt
        rw [List.getElem?_map] at hx1 hx2
        obtain ⟨c1, hx1', rfl⟩ := Option.map_eq_some_iff.1 hx1
        obtain ⟨c2, hx2', rfl⟩ := Option.map_eq_some_iff.1 hx2
        have hd1 : wr.cell? ⟨b1, o1 + k, none⟩ = some (.int .u32 (c1.toNat : Int)) := (hb.cell (p := ⟨b1, o1 + k, none⟩) (Nat.lt_of_lt_of_le hl1 hK)).trans hc1
        have hd2 : wr.cell? ⟨b2, o2 + k, none⟩ = some (.int .u32 (c2.toNat : Int)) := (hb.cell (p := ⟨b2, o2 + k, none⟩) (Nat.lt_of_lt_of_le hl2 hK)).trans hc2
        have HE := hide (take_ext HT.out hx1' hx2')
        have HB := hide hb
        have hk0 : (0 : Int) ≤ (k : Int) := by omega
        have hk1 : (k : Int) < (n : Int) := by omega
        by_cases hcc : c1 = c2
        · subst hcc
          have HN : Hid (xs.take (k + 1) = ys.take (k + 1)) := (unhide HE).2 rfl
          have hne : ((c1.toNat : Int) != (c1.toNat : Int)) = false := by simp
          clear hx hy hx1 hx2 hx1' hx2' ha1 ha2 hc1 hc2 hb HE hlx hly
          go_wp2
          go_quiet (fail)
          go_wp2
          go_roundg q
          case rel => exact ⟨k + 1, by omega, by go_num, HN, ⟨(unhide HB).os, (unhide HB).tape, (unhide HB).output, (unhide HB).size, (unhide HB).block⟩⟩
          case measure => omega
        · have HR : Hid ((xs == ys) = false) := by
            show _ = _
            simp only [beq_eq_false_iff_ne]
            rintro rfl
            rw [hx1'] at hx2'
            injection hx2' with e
            exact hcc e
          have hne : ((c1.toNat : Int) != (c2.toNat : Int)) = true := by
            simp only [bne_iff_ne, ne_eq, Int.natCast_inj]
            intro e
            exact hcc (UInt32.toNat_inj.1 e)
          clear hx hy hx1 hx2 hx1' hx2' ha1 ha2 hc1 hc2 hb HE hlx hly
          go_wp2
          go_quiet (fail)
          go_wp2
          go_ret
          exact ⟨by rw [HR.out]; rfl, ⟨(unhide HB).os, (unhide HB).tape, (unhide HB).output, (unhide HB).size, (unhide HB).block⟩⟩
      · have HR : Hid ((xs == ys) = true) := by
          show _ = _
          have := HT.out
          rw [List.take_of_length_le (by omega), List.take_of_length_le (by omega)] at this
          simpa using this
        have HB := hide hb
        clear hx hy hb
        go_wp2
        go_ret
        exact ⟨by rw [HR.out]; rfl, unhide HB⟩
  · have hne : ((n : Int) != (m : Int)) = true := by simp; omega
    have HR : Hid ((xs == ys) = false) := by
      show _ = _
      simp only [beq_eq_false_iff_ne]
      rintro rfl
      omega
    clear hx hy
    go_enter Try.func25, Try.ntmps25
    go_wp2
    go_ret
    exact ⟨by rw [HR.out]; rfl, Below.refl _ _⟩
theorem num5_any (x : Int) (w : World) : Calls Try.prog 17 #[.int .i64 x] w fun e w' => e = .returned (.int .i64 x) ∧ w = w' := by
  go_enter Try.func17, Try.ntmps17
  go_wp2_with fail
  go_ret
  exact ⟨rfl, rfl⟩
end Go.Proofs.Yteambdbcjcfdeaa
