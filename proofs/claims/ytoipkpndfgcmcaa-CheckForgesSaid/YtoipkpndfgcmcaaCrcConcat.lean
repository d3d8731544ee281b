/-
  A number's four bytes, and slices put side by side (slices.Concat), as the check sum's Seal and Forge want them; the walks over the Go text. Condition: fewer than 2^47 bytes in all.
-/
import Derived.Test.YtoipkpndfgcmcaaRows
import Derived.Test.YtoipkpndfgcmcaaWords
import Derived.Test.YtoipkpndfgcmcaaCrcMath
import Derived.Test.YtoipkpndfgcmcaaCrcLent
import Derived.Lib.AppendZeros
namespace Go.Proofs.Ytoipkpndfgcmcaa
open Go.RowKit


/-- A number's four bytes, the lowest first. -/
def le4 (n : Nat) : List UInt8 := [UInt8.ofNat (n % 256), UInt8.ofNat (n / 256 % 256), UInt8.ofNat (n / 65536 % 256), UInt8.ofNat (n / 16777216 % 256)]
theorem le4_len (n : Nat) : (le4 n).length = 4 := rfl
def le4c (n : Nat) : Array Value := #[.int .u8 ((n % 256 : Nat) : Int), .int .u8 ((n / 256 % 256 : Nat) : Int), .int .u8 ((n / 65536 % 256 : Nat) : Int), .int .u8 ((n / 16777216 % 256 : Nat) : Int)]
theorem le4c_list (n : Nat) : (le4c n).toList = (le4 n).map bv := by
  simp only [le4c, le4, List.map_cons, List.map_nil]
  rw [← bv_nat _ (by omega), ← bv_nat _ (by omega), ← bv_nat _ (by omega), ← bv_nat _ (by omega)]

set_option maxRecDepth 100000 in
theorem bytes_any (n : Nat) (w : World) :
    Calls Try.prog 47 #[.int .u32 (n : Int)] w fun e w' => e = .returned (.agg (le4c n)) ∧ Below w.heap.size w w' := by
  go_enter Try.func47, Try.ntmps47
  go_wp2
  refine bodyPost_ret (v := .agg #[.int .u8 ((n : Int) % 256), .int .u8 ((n : Int) / 256 % 256), .int .u8 ((n : Int) / 65536 % 256), .int .u8 ((n : Int) / 16777216 % 256)]) (by simp [results, Try.results47, go_sem]) rfl ⟨?_, ?_⟩
  · unfold le4c
    rfl
  · exact (Below.refl _ _).alloc (Nat.le_refl _) _

theorem grow_nil (n : Nat) (w : World) (hn : n ≤ 140737488355328) :
    Calls Try.prog 58 #[.slice none 0 0, .int .i64 (n : Int)] w fun e w' => ∃ v, e = .returned v ∧ w'.ownsRow w.heap.size 5 1 v 0 [] ∧ Below w.heap.size w w' := by
  rcases Nat.eq_zero_or_pos n with h0 | h0
  · subst h0
    go_enter Try.func58, Try.ntmps58
    go_wp2
    go_ret
    exact ⟨_, rfl, World.ownsRow_nil _ _ _ _, Below.refl _ _⟩
  · obtain ⟨⟨i, z, e1, e2, e3, e4, e5, e6⟩, _⟩ := elem_u8
    have hr := hide (Lib.run_append_nil_zeros (P := Try.prog) w 29 3 29 5 i z .i64 .i64 e1 Try.underlying3 e2 e3 n h0 (by omega) (by omega) (by rw [e5]; omega))
    have hge := grownCap_ge w n 0 5
    have hcm := grownCap_le_maxLen w n 0 5 (by simp only [maxLen]; omega)
    have hsz : (Builtin.zeroCells z.cells n ++ Builtin.zeroCells z.cells (grownCap w n 0 5 - n)).size = grownCap w n 0 5 * 1 := by
      simp only [Array.size_append, size_zeroCells, e6]
      omega
    have HO := hide (World.ownsRow_made (base := w.heap.size) (e := 5) (size := 1) w.drew _ _ (Nat.le_refl _) hcm hsz)
    generalize grownCap w n 0 5 = c at hr hge HO
    generalize Builtin.zeroCells z.cells n ++ Builtin.zeroCells z.cells (c - n) = cur at hr HO
    have hnc : ¬ ((n : Int) < 0) := by omega
    clear hsz hcm e1 e2 e3 e4 e5 e6
    go_enter Try.func58, Try.ntmps58
    go_wp2_with (at_builtin; refine Lib.wpList_append_run w rfl (.tmp 20) (.tmp 21) 29 3 rfl _ _ rfl rfl _ _ (unhide hr) ?_)
    go_ret
    exact ⟨_, rfl, unhide HO, ((Below.refl _ _).drew).alloc (Nat.le_refl _) _⟩

/-- A slice that is one of several. -/
structure Part where
  A : Option Addr
  n : Nat
  c : Nat
  bs : List UInt8
def total (L : List Part) : Nat := (L.map (·.n)).sum
def joined (L : List Part) : List UInt8 := L.flatMap (·.bs)
theorem total_append (a b : List Part) : total (a ++ b) = total a + total b := by
  unfold total
  rw [List.map_append, List.sum_append]
theorem total_take (L : List Part) (k : Nat) : total (L.take k) ≤ total L := by
  have h := total_append (L.take k) (L.drop k)
  rw [List.take_append_drop] at h
  omega
theorem total_succ {L : List Part} {k : Nat} {p : Part} (h : L[k]? = some p) : total (L.take (k + 1)) = total (L.take k) + p.n := by
  obtain ⟨hl, rfl⟩ := List.getElem?_eq_some_iff.1 h
  rw [List.take_succ_eq_append_getElem hl, total_append]
  simp [total]
theorem joined_append (a b : List Part) : joined (a ++ b) = joined a ++ joined b := by
  unfold joined
  rw [List.flatMap_append]
theorem joined_succ {L : List Part} {k : Nat} {p : Part} (h : L[k]? = some p) : joined (L.take (k + 1)) = joined (L.take k) ++ p.bs := by
  obtain ⟨hl, rfl⟩ := List.getElem?_eq_some_iff.1 h
  rw [List.take_succ_eq_append_getElem hl, joined_append]
  simp [joined]
theorem four_next {n k : Nat} (hk : k < 4) : ((le4 n).take k).map bv ++ [Value.int IntKind.u8 ((n : Int) / 2 ^ (8 * k) % 256)] = ((le4 n).take (k + 1)).map bv := by
  have e : ∀ m : Nat, Value.int IntKind.u8 ((n : Int) / (m : Int) % 256) = bv (UInt8.ofNat (n / m % 256)) := fun m => by
    rw [← bv_nat _ (by omega)]
    congr 1
  match k, hk with
  | 0, _ => have := e 1; simpa [le4] using this
  | 1, _ => have := e 256; simpa [le4] using this
  | 2, _ => have := e 65536; simpa [le4] using this
  | 3, _ => have := e 16777216; simpa [le4] using this

set_option maxRecDepth 100000 in
set_option maxHeartbeats 600000 in
theorem concat_any (L : List Part) (gb B : Nat) (w : World) (hB : B ≤ w.heap.size) (hgb : gb < w.heap.size) (hL : L.length ≤ 1000) (ht : total L ≤ 140737488355328)
    (hc : ∀ (i : Nat) p, L[i]? = some p → w.cell? ⟨gb, i, none⟩ = some (.slice p.A p.n p.c) ∧ Reads w B 1 p.A p.n (p.bs.map bv)) :
    Calls Try.prog 49 #[.slice (some ⟨gb, 0, none⟩) L.length L.length] w fun e w' => ∃ v, e = .returned v ∧ w'.ownsRow w.heap.size 5 1 v (total L) ((joined L).map bv) ∧ Below w.heap.size w w' := by
  have HC := hide hc
  obtain ⟨m, hm⟩ : ∃ m, L.length = m := ⟨_, rfl⟩
  rw [hm] at hL ⊢
  clear hc
  go_enter Try.func49, Try.ntmps49
  go_wp2
  go_loopg [3, 11] m (fun q t i wr => ∃ k s : Nat, k + q = m ∧ i = .int .i64 (k : Int) ∧ t = .int .i64 (s : Int) ∧ Hid (s = total (L.take k)) ∧ w = wr)
  case atStart => exact ⟨0, 0, by omega, rfl, rfl, rfl, rfl⟩
  case round =>
    obtain ⟨k, s, hk, rfl, rfl, HS, rfl⟩ := hrel
    have hs1 : s ≤ 140737488355328 := by rw [HS.out]; exact Nat.le_trans (total_take L k) ht
    by_cases hlt : k < m
    · obtain ⟨q, rfl⟩ : ∃ q, gk = q + 1 := ⟨gk - 1, by omega⟩
      obtain ⟨p, hp⟩ : ∃ p, L[k]? = some p := ⟨_, List.getElem?_eq_getElem (by omega)⟩
      have hcl := ((unhide HC) k p hp).1
      have hN : s + p.n = total (L.take (k + 1)) := by rw [total_succ hp, HS.out]
      have hs2 : s + p.n ≤ 140737488355328 := by rw [hN]; exact Nat.le_trans (total_take L (k + 1)) ht
      have HN := Lib.hid hN
      obtain ⟨A, n, c, bs⟩ := p
      simp only at hcl hs2 HN
      clear hp hN ht hm
      go_wp2
      go_roundg q
      case rel => exact ⟨k + 1, s + n, by omega, by go_num, by go_num, HN.out, rfl⟩
      case measure => omega
    · obtain rfl : k = m := by omega
      have hst : s = total L := by rw [HS.out, List.take_of_length_le (by omega)]
      have HT := Lib.hid hst
      have hG := hide (grow_nil s w hs1)
      clear HS hst ht
      go_wp2_with (go_at_call 58; refine (unhide hG).mono ?_; rintro e w1 ⟨v1, rfl, ho1, hb1⟩)
      go_loopg [6, 27] k (fun q t i wr => ∃ j : Nat, j + q = k ∧ i = .int .i64 (j : Int) ∧ wr.ownsRow w.heap.size 5 1 t (total (L.take j)) ((joined (L.take j)).map bv) ∧ Below w.heap.size w wr)
      case atStart => exact ⟨0, by omega, rfl, ho1, hb1⟩
      case round =>
        obtain ⟨j, hj, rfl, ho, hb⟩ := hrel
        clear ho1 hb1 hG
        by_cases hlt : j < k
        · obtain ⟨q, rfl⟩ : ∃ q, gk = q + 1 := ⟨gk - 1, by omega⟩
          obtain ⟨p, hp⟩ : ∃ p, L[j]? = some p := ⟨_, List.getElem?_eq_getElem (by omega)⟩
          have hcl := (hb.cell (p := ⟨gb, j, none⟩) hgb).trans ((unhide HC) j p hp).1
          have HR := hide ((((unhide HC) j p hp).2.below (hb.mono hB)))
          have hbd : total (L.take j) + p.n ≤ 140737488355328 := by
            rw [← total_succ hp]
            have := total_take L (j + 1)
            rw [HT.out] at hs1
            omega
          have Hcap := hide (cap1 hbd)
          have HN1 := Lib.hid (total_succ hp)
          have HN2 := Lib.hid (joined_succ hp)
          have HB := hide hb
          have hz := hb.size
          obtain ⟨A, n, c, bs⟩ := p
          simp only at hcl HR Hcap HN1 HN2
          clear hp hb hbd
          go_wp2_with (at_builtin; refine wpList_app _ rfl (.tmp 31) (.tmp 32) 29 rfl elem_u8 w.heap.size _ _ _ rfl ho B A n c _ rfl (unhide HR) (bv_one _) (unhide Hcap) hz ?_; intro v2 w2 ho2 hg2 hat2)
          go_roundg q
          case rel => exact ⟨j + 1, by omega, by go_num, by rw [HN1.out, HN2.out, List.map_append]; exact ho2, (unhide HB).grown hg2 hz (fun i hi => (ho.lt i hi).1)⟩
          case measure => omega
        · obtain rfl : j = k := by omega
          rw [List.take_of_length_le (by omega)] at ho
          have HB := hide hb
          clear hb
          go_wp2
          go_ret
          exact ⟨_, rfl, ho, unhide HB⟩

set_option maxRecDepth 100000 in
theorem four_any (n : Nat) (w : World) :
    Calls Try.prog 44 #[.int .u32 (n : Int)] w fun e w' => ∃ v, e = .returned v ∧ w'.ownsRow w.heap.size 5 1 v 4 ((le4 n).map bv) ∧ Below w.heap.size w w' := by
  go_enter Try.func44, Try.ntmps44
  go_wp2
  go_loopg [3, 4] 4 (fun q b i wr => ∃ k : Nat, k + q = 4 ∧ i = .int .i64 (k : Int) ∧ wr.ownsRow w.heap.size 5 1 b k (((le4 n).take k).map bv) ∧ Below w.heap.size w wr)
  case atStart => exact ⟨0, rfl, rfl, World.ownsRow_nil _ _ _ _, Below.refl _ _⟩
  case round =>
    obtain ⟨k, hk, rfl, ho, hb⟩ := hrel
    have hz := hb.size
    by_cases hlt : k < 4
    · obtain ⟨q, rfl⟩ : ∃ q, gk = q + 1 := ⟨gk - 1, by omega⟩
      have Hcap := hide (cap1 (n := k + 1) (by omega))
      go_wp2_with (at_builtin; refine wpList_app1 _ rfl (.tmp 9) (.tmp 16) 29 rfl elem_u8 w.heap.size _ _ _ rfl ho _ _ (by simp) rfl rfl (unhide Hcap) hz ?_; intro v2 w2 ho2 hg2 hat2)
      go_roundg q
      case rel => exact ⟨k + 1, by omega, by go_num, by rw [← four_next hlt]; exact ho2, hb.grown hg2 hz (fun i hi => (ho.lt i hi).1)⟩
      case measure => omega
    · obtain rfl : k = 4 := by omega
      go_wp2
      go_ret
      exact ⟨_, rfl, ho, hb⟩
end Go.Proofs.Ytoipkpndfgcmcaa
