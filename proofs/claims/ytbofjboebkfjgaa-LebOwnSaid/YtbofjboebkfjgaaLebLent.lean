/-
  The law's own helpers lent, turned and kept: bytes lent with marks behind them, written over, looked at again; the walks over the Go text.
-/
import Derived.Test.YtbofjboebkfjgaaRows
import Derived.Test.YtbofjboebkfjgaaWords
import Derived.Test.YtbofjboebkfjgaaLebMath
import Derived.Test.YtbofjboebkfjgaaLebPut
import Derived.Test.YtbofjboebkfjgaaLebTurn
namespace Go.Proofs.Ytbofjboebkfjgaa
open Go.RowKit


def mk (k : Nat) : List UInt8 := (List.range k).map fun i => UInt8.ofNat (201 + i)
theorem mk_len (k : Nat) : (mk k).length = k := by simp [mk]
theorem mk_succ (k : Nat) : mk (k + 1) = mk k ++ [UInt8.ofNat (201 + k)] := by simp [mk, List.range_succ]
def t91 (c : UInt8) : UInt8 := UInt8.ofNat ((c.toNat + 91) % 256)
theorem t91_val (c : UInt8) : Value.int IntKind.u8 (((c.toNat : Int) + 91) % 256) = bv (t91 c) := by
  rw [show ((c.toNat : Int) + 91) % 256 = (((c.toNat + 91) % 256 : Nat) : Int) by omega, bv_nat _ (by omega)]
  rfl
def half (bs : List UInt8) (k : Nat) : List UInt8 := (bs.take k).map t91 ++ bs.drop k
theorem half_zero (bs : List UInt8) : half bs 0 = bs := by simp [half]
theorem half_all (bs : List UInt8) : half bs bs.length = bs.map t91 := by simp [half]
theorem half_len (bs : List UInt8) (k : Nat) : (half bs k).length = bs.length := by simp [half]; omega
theorem half_at (bs : List UInt8) (k : Nat) (c : UInt8) (h : bs[k]? = some c) : (half bs k)[k]? = some c := by
  obtain ⟨hl, rfl⟩ := List.getElem?_eq_some_iff.1 h
  unfold half
  rw [List.getElem?_append_right (by simp; omega)]
  simp only [List.length_map, List.length_take, List.getElem?_drop]
  rw [← h]
  congr 1
  omega
theorem half_next (bs : List UInt8) (k : Nat) (c : UInt8) (h : bs[k]? = some c) : (half bs k).set k (t91 c) = half bs (k + 1) := by
  obtain ⟨hl, rfl⟩ := List.getElem?_eq_some_iff.1 h
  unfold half
  rw [List.take_succ_eq_append_getElem hl, List.drop_eq_getElem_cons hl, List.set_append_right _ _ (by simp; omega)]
  have e : k - (List.map t91 (List.take k bs)).length = 0 := by simp; omega
  rw [e, List.set_cons_zero, List.map_append, List.append_assoc]
  rfl

theorem lent_row {w : World} {B n k : Nat} {e : TypeId} {v : Value} {bs : List UInt8} (hk : k < 20) (h : w.ownsRow B e 1 v (n + k + 1) ((bs ++ mk k).map bv ++ [Value.int IntKind.u8 (201 + (k : Int))])) : w.ownsRow B e 1 v (n + (k + 1)) ((bs ++ mk (k + 1)).map bv) := by
  rw [show (201 : Int) + (k : Int) = ((201 + k : Nat) : Int) by omega, bv_nat _ (by omega)] at h
  rw [mk_succ]
  simpa [Nat.add_assoc] using h
theorem own_capm {w : World} {B n N g cap : Nat} {e : TypeId} {xs : List Value} (h : w.ownsRow B e 1 (.slice (some ⟨g, 0, none⟩) n cap) N xs) : cap ≤ 9223372036854775807 := by
  rcases h.2 with ⟨h', _⟩ | ⟨g', cap', cur, h', _, _, hn, hm, _⟩
  · cases h'
  · cases h'
    simp only [maxLen] at hm
    omega
theorem own_cap {w : World} {B n g cap : Nat} {e : TypeId} {xs : List Value} (h : w.ownsRow B e 1 (.slice (some ⟨g, 0, none⟩) n cap) n xs) : n ≤ cap := by
  rcases h.2 with ⟨h', _⟩ | ⟨g', cap', cur, h', _, _, hn, _⟩
  · cases h'
  · cases h'
    exact hn

set_option maxRecDepth 100000 in
set_option maxHeartbeats 400000 in
theorem lent_any (A : Option Addr) (n c : Nat) (bs : List UInt8) (w : World) (hr : Reads w w.heap.size 1 A n (bs.map bv)) (hn : n ≤ 140737488351232) :
    Calls Try.prog 11 #[.slice A n c] w fun e w' => ∃ g cap, e = .returned (.slice (some ⟨g, 0, none⟩) n cap) ∧ n + 20 ≤ cap ∧ w.heap.size ≤ g ∧
      w'.ownsRow w.heap.size 5 1 (.slice (some ⟨g, 0, none⟩) (n + 20 : Nat) cap) (n + 20) ((bs ++ mk 20).map bv) ∧ Below w.heap.size w w' := by
  have hlen : bs.length = n := by have := hr.1; simpa using this
  have HC : Hid (0 + n ≤ maxLen ∧ (0 + n) * 1 ≤ 140737488355328) := cap1 (by omega)
  go_enter Try.func11, Try.ntmps11
  go_wp2_with (first | (at_builtin; refine wpList_app _ rfl (.tmp 5) (.tmp 6) 22 rfl elem_u8 w.heap.size (.slice none 0 0) 0 [] rfl (World.ownsRow_nil _ _ _ _) w.heap.size A n c _ rfl hr (bv_one _) HC.out (Nat.le_refl _) ?_; intro v1 w1 hown1 hg1 hat1))
  have HB : Hid (Below w.heap.size w w1) := grownBy_below hg1 (Nat.le_refl _) (by simp [Value.ownBlock])
  clear hg1 hat1
  go_loopg [3, 4] 20 (fun g b t wr => ∃ k : Nat, k + g = 20 ∧ t = .int .i64 (k : Int) ∧ wr.ownsRow w.heap.size 5 1 b (n + k) ((bs ++ mk k).map bv) ∧ Below w.heap.size w wr)
  case atStart => exact ⟨0, rfl, rfl, by simpa [mk] using hown1, HB.out⟩
  case round =>
    obtain ⟨k, hk, rfl, ho, hb⟩ := hrel
    have hsz := hb.size
    by_cases hlt : k < 20
    · obtain ⟨g, rfl⟩ : ∃ g, gk = g + 1 := ⟨gk - 1, by omega⟩
      have HC2 : Hid (n + k + 1 ≤ maxLen ∧ (n + k + 1) * 1 ≤ 140737488355328) := cap1 (by omega)
      clear hn HC hown1
      go_wp2_with (first | (at_builtin; refine wpList_app1 _ rfl (.tmp 12) (.tmp 16) 22 rfl elem_u8 w.heap.size _ _ _ rfl ho _ _ (by simp) rfl rfl HC2.out (by omega) ?_; intro v2 w2 hown2 hg2 hat2))
      go_roundg g
      case rel => exact ⟨k + 1, by omega, by go_num, lent_row hlt hown2, hb.grown hg2 (by omega) (fun j hj => (ho.lt j hj).1)⟩
      case measure => omega
    · obtain rfl : k = 20 := by omega
      obtain ⟨g, cap, rfl, hg, _⟩ := ho.form (by omega)
      have hcap := own_cap ho
      go_wp2
      go_ret
      exact ⟨g, cap, rfl, hcap, hg, ho, hb⟩
/-- turned: the first n bytes of a row of the call's own are written over. -/
theorem turned_any (base g n N cap : Nat) (bs rest : List UInt8) (w : World) (hn : bs.length = n) (ho : w.ownsRow base 5 1 (.slice (some ⟨g, 0, none⟩) N cap) N ((bs ++ rest).map bv)) (hN : N ≤ 140737488355328) :
    Calls Try.prog 15 #[.slice (some ⟨g, 0, none⟩) n cap] w fun e w' => e = .returned (.tuple #[]) ∧
      w'.ownsRow base 5 1 (.slice (some ⟨g, 0, none⟩) N cap) N ((bs.map t91 ++ rest).map bv) ∧ w.grownBy w' (some g) := by
  have hNl : n ≤ N := by have := ho.1; simp at this; omega
  go_enter Try.func15, Try.ntmps15
  go_wp2
  go_loopg [2] n (fun q t wr => ∃ k : Nat, k + q = n ∧ t = .int .i64 (k : Int) ∧ wr.ownsRow base 5 1 (.slice (some ⟨g, 0, none⟩) N cap) N ((half bs k ++ rest).map bv) ∧ w.grownBy wr (some g))
  case atStart => exact ⟨0, by omega, rfl, by simpa [half_zero] using ho, World.grownBy.refl w _⟩
  case round =>
    obtain ⟨k, hk, rfl, hor, hb⟩ := hrel
    by_cases hlt : k < n
    · obtain ⟨q, rfl⟩ : ∃ q, gk = q + 1 := ⟨gk - 1, by omega⟩
      obtain ⟨c, hx⟩ : ∃ c, bs[k]? = some c := ⟨_, List.getElem?_eq_getElem (by omega)⟩
      have hlen := half_len bs k
      have hc : wr.cell? ⟨g, k, none⟩ = some (.int .u8 (c.toNat : Int)) := by
        rw [hor.cellAt k (by omega), List.getElem?_map, List.getElem?_append_left (by omega), half_at bs k c hx]
        rfl
      have hf : wr.frozen? ⟨g, k, none⟩ = false := hor.frozenAt k
      have HS := hide (hor.stored k (.int .u8 (((c.toNat : Int) + 91) % 256)))
      have HX : Hid (((half bs k ++ rest).map bv).set k (.int .u8 (((c.toNat : Int) + 91) % 256)) = (half bs (k + 1) ++ rest).map bv) := by
        show _ = _
        rw [t91_val, ← half_next bs k c hx, ← List.map_set, List.set_append_left _ _ (by omega)]
      clear hx ho hor hlen
      go_wp2
      go_roundg q
      case rel => exact ⟨k + 1, by omega, by go_num, by rw [← HX.out]; exact (unhide HS).1, grownBy_trans hb (unhide HS).2 (.inl rfl)⟩
      case measure => omega
    · obtain rfl : k = n := by omega
      have HX : Hid (half bs k = bs.map t91) := by
        show _ = _
        rw [← hn, half_all]
      go_wp2
      go_end0
      exact ⟨rfl, by rw [← HX.out]; exact hor, hb⟩
theorem turned_nil (A : Option Addr) (c : Nat) (w : World) :
    Calls Try.prog 15 #[.slice A 0 c] w fun e w' => e = .returned (.tuple #[]) ∧ w = w' := by
  go_enter Try.func15, Try.ntmps15
  go_wp2
  refine wp_loop_rounds 1 ?_
  rw [rounds_succ]
  go_wp2
  go_end0
  exact ⟨rfl, rfl⟩

theorem Reads.front {w : World} {B n k : Nat} {A : Option Addr} {xs ys : List UInt8} (h : Reads w B 1 A (n + k) ((xs ++ ys).map bv)) (hx : xs.length = n) : Reads w B 1 A n (xs.map bv) := by
  refine ⟨by simpa using hx, fun hn => ?_⟩
  obtain ⟨ad, e, hb, hc⟩ := h.2 (by omega)
  refine ⟨ad, e, hb, fun j u hu => hc j u ?_⟩
  rw [List.map_append, List.getElem?_append_left (List.getElem?_eq_some_iff.1 hu).1]
  exact hu
theorem mark_at {w : World} {B n g k : Nat} {xs : List UInt8} (h : Reads w B 1 (some ⟨g, 0, none⟩) (n + 20) ((xs ++ mk 20).map bv)) (hx : xs.length = n) (hk : k < 20) : w.cell? ⟨g, n + k, none⟩ = some (.int .u8 (201 + (k : Int))) := by
  obtain ⟨b, off, u, e, _, hu, hc, _⟩ := h.at0 (k := n + k) (by omega)
  injection e with e
  injection e with e1 e2
  subst e1 e2
  rw [Nat.zero_add] at hc
  rw [hc]
  rw [List.getElem?_map, List.getElem?_append_right (by omega), hx, Nat.add_sub_cancel_left] at hu
  simp only [mk, List.getElem?_map, List.getElem?_range hk, Option.map_some] at hu
  injection hu with hu
  rw [← hu, ← bv_nat _ (by omega)]
  congr 2
set_option maxRecDepth 100000 in
/-- kept: the bytes lent are as they were, the marks too. -/
theorem kept_any (A : Option Addr) (g n cap m d B : Nat) (xs ys : List UInt8) (w : World) (hx : xs.length = n) (hcap : n + 20 ≤ cap) (hr : Reads w B 1 (some ⟨g, 0, none⟩) (n + 20) ((xs ++ mk 20).map bv)) (hy : Reads w B 1 A m (ys.map bv)) (hcm : cap ≤ 9223372036854775807) :
    Calls Try.prog 14 #[.slice (some ⟨g, 0, none⟩) n cap, .slice A m d] w fun e w' => e = .returned (.bool (xs == ys)) ∧ w = w' := by
  have hS := hide (same_any (some ⟨g, 0, none⟩) A n cap m d xs ys w B (hr.front hx) hy)
  by_cases hxy : xs = ys
  · subst hxy
    obtain rfl : n = m := by have := hy.1; simp at this; omega
    rw [show (xs == xs) = true by simp] at hS ⊢
    go_enter Try.func14, Try.ntmps14
    go_wp2_with (go_at_call 18; refine (unhide hS).mono ?_; rintro e w1 ⟨rfl, rfl⟩)
    go_loopg [6] 20 (fun q t wr => ∃ k : Nat, k + q = 20 ∧ t = .int .i64 (k : Int) ∧ w = wr)
    case atStart => exact ⟨0, rfl, rfl, rfl⟩
    case round =>
      obtain ⟨k, hk, rfl, rfl⟩ := hrel
      by_cases hlt : k < 20
      · obtain ⟨q, rfl⟩ : ∃ q, gk = q + 1 := ⟨gk - 1, by omega⟩
        have hc := mark_at hr hx hlt
        clear hr hy hS
        go_wp2
        go_roundg q
        case rel => exact ⟨k + 1, by omega, by go_num, rfl⟩
        case measure => omega
      · clear hr hy hS
        go_wp2
        go_ret
        exact ⟨rfl, rfl⟩
  · rw [show (xs == ys) = false by simpa using hxy] at hS ⊢
    clear hxy
    go_enter Try.func14, Try.ntmps14
    go_wp2_with (go_at_call 18; refine (unhide hS).mono ?_; rintro e w1 ⟨rfl, rfl⟩)
    go_ret
    exact ⟨rfl, rfl⟩
end Go.Proofs.Ytbofjboebkfjgaa
