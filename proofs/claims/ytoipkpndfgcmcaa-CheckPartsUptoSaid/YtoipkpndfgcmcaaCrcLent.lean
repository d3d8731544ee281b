/-
  The law's own helpers lent, same and kept: bytes lent with marks behind them, held against others, looked at again; the walks over the Go text. Condition: slices below 2^47 bytes.
-/
import Derived.Test.YtoipkpndfgcmcaaRows
import Derived.Test.YtoipkpndfgcmcaaWords
import Derived.Test.YtoipkpndfgcmcaaCrcMath
import Derived.Deep.QuietTactic
import Derived.BigQuiet
namespace Go.Proofs.Ytoipkpndfgcmcaa
open Go.RowKit

theorem elem_u8 : ElemOf Try.prog 29 5 1 1 := .mk' (.int .u8 0) Try.underlying29 (by kernel_rfl) rfl (by omega)
theorem bv_nat (r : Nat) (h : r < 256) : Value.int IntKind.u8 (r : Int) = bv (UInt8.ofNat r) := by
  have : (UInt8.ofNat r).toNat = r := by rw [UInt8.toNat_ofNat']; omega
  rw [bv, this]
def mk (k : Nat) : List UInt8 := (List.range k).map fun i => UInt8.ofNat (201 + i)
theorem mk_len (k : Nat) : (mk k).length = k := by simp [mk]
theorem mk_succ (k : Nat) : mk (k + 1) = mk k ++ [UInt8.ofNat (201 + k)] := by simp [mk, List.range_succ]
theorem lent_row {w : World} {B n k : Nat} {e : TypeId} {v : Value} {bs : List UInt8} (hk : k < 5) (h : w.ownsRow B e 1 v (n + k + 1) ((bs ++ mk k).map bv ++ [Value.int IntKind.u8 (201 + (k : Int))])) : w.ownsRow B e 1 v (n + (k + 1)) ((bs ++ mk (k + 1)).map bv) := by
  rw [show (201 : Int) + (k : Int) = ((201 + k : Nat) : Int) by omega, bv_nat _ (by omega)] at h
  rw [mk_succ]
  simpa [Nat.add_assoc] using h
theorem own_capm {w : World} {B n N g cap : Nat} {e : TypeId} {xs : List Value} (h : w.ownsRow B e 1 (.slice (some ⟨g, 0, none⟩) n cap) N xs) : cap ≤ 9223372036854775807 := by
  rcases h.2 with ⟨h', _⟩ | ⟨g', cap', cur, h', _, _, hn, hm, _⟩
  · cases h'
  · cases h'
    simp only [maxLen] at hm
    omega
theorem own_cap {w : World} {B n g cap : Nat} {e : TypeId} {xs : List Value} (h : w.ownsRow B e 1 (.slice (some ⟨g, 0, none⟩) n cap) n xs) : n ≤ cap := by
  rcases h.2 with ⟨h', _⟩ | ⟨g', cap', cur, h', _, _, hn, _⟩
  · cases h'
  · cases h'
    exact hn

set_option maxRecDepth 100000 in
set_option maxHeartbeats 400000 in
theorem lent_any (A : Option Addr) (n c : Nat) (bs : List UInt8) (w : World) (hr : Reads w w.heap.size 1 A n (bs.map bv)) (hn : n ≤ 140737488351232) :
    Calls Try.prog 16 #[.slice A n c] w fun e w' => ∃ g cap, e = .returned (.slice (some ⟨g, 0, none⟩) n cap) ∧ n + 5 ≤ cap ∧ w.heap.size ≤ g ∧
      w'.ownsRow w.heap.size 5 1 (.slice (some ⟨g, 0, none⟩) (n + 5 : Nat) cap) (n + 5) ((bs ++ mk 5).map bv) ∧ Below w.heap.size w w' := by
  have hlen : bs.length = n := by have := hr.1; simpa using this
  have HC : Hid (0 + n ≤ maxLen ∧ (0 + n) * 1 ≤ 140737488355328) := cap1 (by omega)
  go_enter Try.func16, Try.ntmps16
  go_wp2_with (first | (at_builtin; refine wpList_app _ rfl (.tmp 5) (.tmp 6) 29 rfl elem_u8 w.heap.size (.slice none 0 0) 0 [] rfl (World.ownsRow_nil _ _ _ _) w.heap.size A n c _ rfl hr (bv_one _) HC.out (Nat.le_refl _) ?_; intro v1 w1 hown1 hg1 hat1))
  have HB : Hid (Below w.heap.size w w1) := grownBy_below hg1 (Nat.le_refl _) (by simp [Value.ownBlock])
  clear hg1 hat1
  go_loopg [3, 4] 5 (fun g b t wr => ∃ k : Nat, k + g = 5 ∧ t = .int .i64 (k : Int) ∧ wr.ownsRow w.heap.size 5 1 b (n + k) ((bs ++ mk k).map bv) ∧ Below w.heap.size w wr)
  case atStart => exact ⟨0, rfl, rfl, by simpa [mk] using hown1, HB.out⟩
  case round =>
    obtain ⟨k, hk, rfl, ho, hb⟩ := hrel
    have hsz := hb.size
    by_cases hlt : k < 5
    · obtain ⟨g, rfl⟩ : ∃ g, gk = g + 1 := ⟨gk - 1, by omega⟩
      have HC2 : Hid (n + k + 1 ≤ maxLen ∧ (n + k + 1) * 1 ≤ 140737488355328) := cap1 (by omega)
      clear hn HC hown1
      go_wp2_with (first | (at_builtin; refine wpList_app1 _ rfl (.tmp 12) (.tmp 16) 29 rfl elem_u8 w.heap.size _ _ _ rfl ho _ _ (by simp) rfl rfl HC2.out (by omega) ?_; intro v2 w2 hown2 hg2 hat2))
      go_roundg g
      case rel => exact ⟨k + 1, by omega, by go_num, lent_row hlt hown2, hb.grown hg2 (by omega) (fun j hj => (ho.lt j hj).1)⟩
      case measure => omega
    · obtain rfl : k = 5 := by omega
      obtain ⟨g, cap, rfl, hg, _⟩ := ho.form (by omega)
      have hcap := own_cap ho
      go_wp2
      go_ret
      exact ⟨g, cap, rfl, hcap, hg, ho, hb⟩

theorem take_ext {xs ys : List UInt8} {k : Nat} {c d : UInt8} (h : xs.take k = ys.take k) (hx : xs[k]? = some c) (hy : ys[k]? = some d) : xs.take (k + 1) = ys.take (k + 1) ↔ c = d := by
  obtain ⟨h1, rfl⟩ := List.getElem?_eq_some_iff.1 hx
  obtain ⟨h2, rfl⟩ := List.getElem?_eq_some_iff.1 hy
  rw [List.take_succ_eq_append_getElem h1, List.take_succ_eq_append_getElem h2, h, List.append_cancel_left_eq]
  simp
set_option maxRecDepth 100000 in
set_option maxHeartbeats 400000 in
theorem same_any (A B : Option Addr) (n c m d : Nat) (xs ys : List UInt8) (w : World) (K : Nat) (hx : Reads w K 1 A n (xs.map bv)) (hy : Reads w K 1 B m (ys.map bv)) (hn : n ≤ 140737488355328) (hK : K ≤ w.heap.size) :
    Calls Try.prog 23 #[.slice A n c, .slice B m d] w fun e w' => e = .returned (.bool (xs == ys)) ∧ Below w.heap.size w w' := by
  have hlx : xs.length = n := by have := hx.1; simpa using this
  have hly : ys.length = m := by have := hy.1; simpa using this
  by_cases hnm : n = m
  · subst hnm
    have ht : ((n : Int) != (n : Int)) = false := by simp
    go_enter Try.func23, Try.ntmps23
    go_wp2
    go_loopg [5] n (fun q t wr => ∃ k : Nat, k + q = n ∧ t = .int .i64 (k : Int) ∧ Hid (xs.take k = ys.take k) ∧ Below w.heap.size w wr)
    case atStart => exact ⟨0, by omega, rfl, by show _ = _; simp, Below.refl _ _⟩
    case round =>
      obtain ⟨k, hk, rfl, HT, hb⟩ := hrel
      by_cases hlt : k < n
      · obtain ⟨q, rfl⟩ : ∃ q, gk = q + 1 := ⟨gk - 1, by omega⟩
        obtain ⟨b1, o1, u1, rfl, hl1, hx1, hc1, ha1⟩ := hx.at0 hlt
        obtain ⟨b2, o2, u2, rfl, hl2, hx2, hc2, ha2⟩ := hy.at0 hlt
        rw [List.getElem?_map] at hx1 hx2
        obtain ⟨c1, hx1', rfl⟩ := Option.map_eq_some_iff.1 hx1
        obtain ⟨c2, hx2', rfl⟩ := Option.map_eq_some_iff.1 hx2
        have hd1 : wr.cell? ⟨b1, o1 + k, none⟩ = some (.int .u8 (c1.toNat : Int)) := (hb.cell (p := ⟨b1, o1 + k, none⟩) (Nat.lt_of_lt_of_le hl1 hK)).trans hc1
        have hd2 : wr.cell? ⟨b2, o2 + k, none⟩ = some (.int .u8 (c2.toNat : Int)) := (hb.cell (p := ⟨b2, o2 + k, none⟩) (Nat.lt_of_lt_of_le hl2 hK)).trans hc2
        have HE := hide (take_ext HT.out hx1' hx2')
        have HB := hide hb
        have hk0 : (0 : Int) ≤ (k : Int) := by omega
        have hk1 : (k : Int) < (n : Int) := by omega
        by_cases hcc : c1 = c2
        · subst hcc
          have HN : Hid (xs.take (k + 1) = ys.take (k + 1)) := (unhide HE).2 rfl
          have hne : ((c1.toNat : Int) != (c1.toNat : Int)) = false := by simp
          clear hx hy hx1 hx2 hx1' hx2' ha1 ha2 hc1 hc2 hb HE hlx hly
          go_wp2
          go_quiet (fail)
          go_wp2
          go_roundg q
          case rel => exact ⟨k + 1, by omega, by go_num, HN, ⟨(unhide HB).os, (unhide HB).tape, (unhide HB).output, (unhide HB).size, (unhide HB).block⟩⟩
          case measure => omega
        · have HR : Hid ((xs == ys) = false) := by
            show _ = _
            simp only [beq_eq_false_iff_ne]
            rintro rfl
            rw [hx1'] at hx2'
            injection hx2' with e
            exact hcc e
          have hne : ((c1.toNat : Int) != (c2.toNat : Int)) = true := by
            simp only [bne_iff_ne, ne_eq, Int.natCast_inj]
            intro e
            exact hcc (UInt8.toNat_inj.1 e)
          clear hx hy hx1 hx2 hx1' hx2' ha1 ha2 hc1 hc2 hb HE hlx hly
          go_wp2
          go_quiet (fail)
          go_wp2
          go_ret
          exact ⟨by rw [HR.out]; rfl, ⟨(unhide HB).os, (unhide HB).tape, (unhide HB).output, (unhide HB).size, (unhide HB).block⟩⟩
      · have HR : Hid ((xs == ys) = true) := by
          show _ = _
          have := HT.out
          rw [List.take_of_length_le (by omega), List.take_of_length_le (by omega)] at this
          simpa using this
        have HB := hide hb
        clear hx hy hb
        go_wp2
        go_ret
        exact ⟨by rw [HR.out]; rfl, unhide HB⟩
  · have hne : ((n : Int) != (m : Int)) = true := by simp; omega
    have HR : Hid ((xs == ys) = false) := by
      show _ = _
      simp only [beq_eq_false_iff_ne]
      rintro rfl
      omega
    clear hx hy
    go_enter Try.func23, Try.ntmps23
    go_wp2
    go_ret
    exact ⟨by rw [HR.out]; rfl, Below.refl _ _⟩
theorem Reads.front {w : World} {B n k : Nat} {A : Option Addr} {xs ys : List UInt8} (h : Reads w B 1 A (n + k) ((xs ++ ys).map bv)) (hx : xs.length = n) : Reads w B 1 A n (xs.map bv) := by
  refine ⟨by simpa using hx, fun hn => ?_⟩
  obtain ⟨ad, e, hb, hc⟩ := h.2 (by omega)
  refine ⟨ad, e, hb, fun j u hu => hc j u ?_⟩
  rw [List.map_append, List.getElem?_append_left (List.getElem?_eq_some_iff.1 hu).1]
  exact hu
theorem mark_at {w : World} {B n g k : Nat} {xs : List UInt8} (h : Reads w B 1 (some ⟨g, 0, none⟩) (n + 5) ((xs ++ mk 5).map bv)) (hx : xs.length = n) (hk : k < 5) : w.cell? ⟨g, n + k, none⟩ = some (.int .u8 (201 + (k : Int))) := by
  obtain ⟨b, off, u, e, _, hu, hc, _⟩ := h.at0 (k := n + k) (by omega)
  injection e with e
  injection e with e1 e2
  subst e1 e2
  rw [Nat.zero_add] at hc
  rw [hc]
  rw [List.getElem?_map, List.getElem?_append_right (by omega), hx, Nat.add_sub_cancel_left] at hu
  simp only [mk, List.getElem?_map, List.getElem?_range hk, Option.map_some] at hu
  injection hu with hu
  rw [← hu, ← bv_nat _ (by omega)]
  congr 2
set_option maxRecDepth 100000 in
/-- kept: the bytes lent are as they were, the marks too. -/
theorem kept_any (A : Option Addr) (g n cap m d B : Nat) (xs ys : List UInt8) (w : World) (hx : xs.length = n) (hcap : n + 5 ≤ cap) (hr : Reads w B 1 (some ⟨g, 0, none⟩) (n + 5) ((xs ++ mk 5).map bv)) (hy : Reads w B 1 A m (ys.map bv)) (hn : n ≤ 140737488355328) (hB : B ≤ w.heap.size) :
    Calls Try.prog 20 #[.slice (some ⟨g, 0, none⟩) n cap, .slice A m d] w fun e w' => e = .returned (.bool (xs == ys)) ∧ Below w.heap.size w w' := by
  have hS := hide (same_any (some ⟨g, 0, none⟩) A n cap m d xs ys w B (hr.front hx) hy hn hB)
  by_cases hxy : xs = ys
  · subst hxy
    obtain rfl : n = m := by have := hy.1; simp at this; omega
    rw [show (xs == xs) = true by simp] at hS ⊢
    have HR := hide hr
    clear hr hy
    go_enter Try.func20, Try.ntmps20
    go_wp2_with (go_at_call 23; refine (unhide hS).mono ?_; rintro e w1 ⟨rfl, hb1⟩)
    have HB := hide hb1
    have HM := fun k => hide (mark_at (k := k) ((unhide HR).below (hb1.mono hB)) hx)
    clear hb1 hS HR
    go_loopg [6] 5 (fun q t wr => ∃ k : Nat, k + q = 5 ∧ t = .int .i64 (k : Int) ∧ w1 = wr)
    case atStart => exact ⟨0, rfl, rfl, rfl⟩
    case round =>
      obtain ⟨k, hk, rfl, rfl⟩ := hrel
      by_cases hlt : k < 5
      · obtain ⟨q, rfl⟩ : ∃ q, gk = q + 1 := ⟨gk - 1, by omega⟩
        have hc := unhide (HM k) hlt
        clear HM
        go_wp2
        go_roundg q
        case rel => exact ⟨k + 1, by omega, by go_num, rfl⟩
        case measure => omega
      · clear HM
        go_wp2
        go_ret
        exact ⟨rfl, unhide HB⟩
  · rw [show (xs == ys) = false by simpa using hxy] at hS ⊢
    clear hxy hr hy
    go_enter Try.func20, Try.ntmps20
    go_wp2_with (go_at_call 23; refine (unhide hS).mono ?_; rintro e w1 ⟨rfl, hb1⟩)
    go_ret
    exact ⟨rfl, hb1⟩
end Go.Proofs.Ytoipkpndfgcmcaa
