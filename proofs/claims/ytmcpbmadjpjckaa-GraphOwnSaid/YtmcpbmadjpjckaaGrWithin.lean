/-
  within: true where each number of one rising list stands in another rising one.
-/
import Derived.Test.YtmcpbmadjpjckaaGrLists
namespace Go.Proofs.Ytmcpbmadjpjckaa
open Go.RowKit

/-- One rising list within another. -/
def Wthn (xs ys : List Int) : Prop := xs.Pairwise (· < ·) ∧ ys.Pairwise (· < ·) ∧ ∀ x ∈ xs, x ∈ ys
theorem pw_at {xs : List Int} (h : xs.Pairwise (· < ·)) {i j : Nat} {x y : Int} (hi : xs[i]? = some x) (hj : xs[j]? = some y) (hij : i < j) : x < y := by
  obtain ⟨h1, rfl⟩ := List.getElem?_eq_some_iff.1 hi
  obtain ⟨h2, rfl⟩ := List.getElem?_eq_some_iff.1 hj
  exact List.pairwise_iff_getElem.1 h i j h1 h2 hij
set_option maxRecDepth 100000 in
set_option maxHeartbeats 2000000 in
theorem within_any (W : World) (A1 A2 : Option Addr) (n1 n2 c1 c2 B1 B2 : Nat) (xs ys : List Int) (h1 : Reads W B1 1 A1 n1 (xs.map iz)) (h2 : Reads W B2 1 A2 n2 (ys.map iz)) (hn1 : n1 ≤ 140737488355328) (hn2 : n2 ≤ 140737488355328) :
    Calls Try.prog 21 #[.slice A1 n1 c1, .slice A2 n2 c2] W fun e W' => ∃ r : Bool, e = .returned (.bool r) ∧ (Wthn xs ys → r = true) ∧ ∃ a, W' = W.drewN a := by
  have hl1 : xs.length = n1 := by have := h1.1; simpa using this
  have hl2 : ys.length = n2 := by have := h2.1; simpa using this
  have H1 := hide h1
  have H2 := hide h2
  have L1 := Lib.hid hl1
  have L2 := Lib.hid hl2
  clear h1 h2 hl1 hl2
  go_enter Try.func21, Try.ntmps21
  go_wp2_with fail
  go_loopg [5, 6] n1 (fun q tk t W' => ∃ k i : Nat, tk = .int .i64 (k : Int) ∧ t = .int .i64 (i : Int) ∧ i + q = n1 ∧ k ≤ n2 ∧ (Wthn xs ys → ∀ (j : Nat) (y x : Int), j < k → ys[j]? = some y → xs[i]? = some x → y < x) ∧ ∃ a, W' = W.drewN a)
  case atStart => exact ⟨0, 0, rfl, rfl, by omega, by omega, fun _ j y x h => by omega, 0, rfl⟩
  case round =>
    obtain ⟨k, i, rfl, rfl, hiq, hk, hinv, a, hw⟩ := hrel
    have hi0 : (0 : Int) ≤ (i : Int) := by omega
    by_cases hi : i < n1
    · have hiI : (i : Int) < (n1 : Int) := by omega
      obtain ⟨gq, rfl⟩ : ∃ q, gk = q + 1 := ⟨gk - 1, by omega⟩
      obtain ⟨b1, o1, x1, rfl, _, hx1, hc1⟩ := (unhide H1).int_at hi
      have HIN := hide hinv
      have HX1 := hide hx1
      have HC1 := hide hc1
      clear hinv hx1 hc1
      go_wp2_with fail
      go_loopg [5] (n2 - k) (fun q tk W' => ∃ k' a : Nat, tk = .int .i64 (k' : Int) ∧ k' + q = n2 ∧ (Wthn xs ys → ∀ (j : Nat) (y : Int), j < k' → ys[j]? = some y → y < x1) ∧ W' = W.drewN a)
      case atStart => exact ⟨k, a, rfl, by omega, fun hH j y hj hy => unhide HIN hH j y x1 hj hy (unhide HX1), rfl⟩
      case round =>
        clear HIN hk
        obtain ⟨k', a', rfl, hkq, hinv, hw'⟩ := hrel
        have hk0 : (0 : Int) ≤ (k' : Int) := by omega
        have d1 : wr.cell? ⟨b1, o1 + i, none⟩ = some (.int .i64 x1) := by rw [hw']; exact unhide HC1
        have HW := Lib.hid hw'
        have HIN := hide hinv
        clear hw' hinv
        by_cases hk : k' < n2
        · have hkI : (k' : Int) < (n2 : Int) := by omega
          have hke : ¬ (k' : Int) = (n2 : Int) := by omega
          obtain ⟨gq2, rfl⟩ : ∃ q, gk = q + 1 := ⟨gk - 1, by omega⟩
          obtain ⟨b2, o2, y1, rfl, _, hy1, hc2⟩ := (unhide H2).int_at hk
          have d2 : wr.cell? ⟨b2, o2 + k', none⟩ = some (.int .i64 y1) := by rw [HW.out]; exact hc2
          have HY1 := hide hy1
          clear hy1 hc2
          by_cases hlt : y1 < x1
          · go_wp2_with fail
            go_quiet (fail)
            rename_i nq
            go_wp2_with fail
            go_roundg gq2
            case rel => exact ⟨k' + 1, a' + nq, by go_num, by omega, fun hH j y hj hy => by
                by_cases e : j = k'
                · subst e
                  have e := hy.symm.trans (unhide HY1)
                  injection e with e
                  omega
                · exact unhide HIN hH j y (by omega) hy, by rw [HW.out, World.drewN_drewN]⟩
            case measure => omega
          · by_cases heq : y1 = x1
            · subst heq
              go_wp2_with fail
              go_quiet (fail)
              go_wp2_with fail
              go_quiet (fail)
              go_wp2_with fail
              go_roundg gq
              case rel =>
                refine ⟨k', i + 1, rfl, by go_num, by omega, by omega, fun hH j y x hj hy hx => by
                  have e1 := unhide HIN hH j y hj hy
                  have e2 := pw_at hH.1 (unhide HX1) hx (by omega)
                  omega, ?_⟩
                simp only [HW.out, World.drewN_drewN]
                exact ⟨_, rfl⟩
              case measure => omega
            · have hno : ¬ Wthn xs ys := fun hH => by
                obtain ⟨j, hj⟩ := List.getElem?_of_mem (hH.2.2 x1 (List.mem_of_getElem? (unhide HX1)))
                rcases Nat.lt_trichotomy j k' with h | h | h
                · have := unhide HIN hH j x1 h hj; omega
                · subst h
                  have e := hj.symm.trans (unhide HY1)
                  injection e with e
                  omega
                · have := pw_at hH.2.1 (unhide HY1) hj h; omega
              have HNO := hide hno
              have hbne : (y1 != x1) = true := by simpa using heq
              clear hno
              go_wp2_with fail
              go_quiet (fail)
              go_wp2_with fail
              go_quiet (fail)
              go_wp2_with fail
              go_ret
              refine ⟨false, rfl, fun hH => absurd hH (unhide HNO), ?_⟩
              simp only [HW.out, World.drewN_drewN]
              exact ⟨_, rfl⟩
        · obtain rfl : k' = n2 := by omega
          have hno : ¬ Wthn xs ys := fun hH => by
            obtain ⟨j, hj⟩ := List.getElem?_of_mem (hH.2.2 x1 (List.mem_of_getElem? (unhide HX1)))
            have hjl := (List.getElem?_eq_some_iff.1 hj).1
            have := unhide HIN hH j x1 (by have := L2.out; omega) hj
            omega
          have HNO := hide hno
          clear hno
          go_wp2_with fail
          go_quiet (fail)
          go_wp2_with fail
          go_quiet (fail)
          go_wp2_with fail
          go_ret
          refine ⟨false, rfl, fun hH => absurd hH (unhide HNO), ?_⟩
          simp only [HW.out, World.drewN_drewN]
          exact ⟨_, rfl⟩
    · obtain rfl : i = n1 := by omega
      have HW := Lib.hid hw
      clear hw
      go_wp2_with fail
      go_ret
      exact ⟨true, rfl, fun _ => rfl, a, HW.out⟩
end Go.Proofs.Ytmcpbmadjpjckaa
