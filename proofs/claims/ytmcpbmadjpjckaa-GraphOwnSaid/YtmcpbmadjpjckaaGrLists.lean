/-
  lists: two lists of lists of the same integers are the same. Condition: at most 140737488355328 rows and numbers in a row.
-/
import Derived.Test.YtmcpbmadjpjckaaGrAwkM
import Derived.Test.YtmcpbmadjpjckaaGrSame
namespace Go.Proofs.Ytmcpbmadjpjckaa
open Go.RowKit

/-- A row of integers, wherever it stands. -/
def RowI (W : World) (v : Value) (xs : List Int) : Prop := ∃ A m c B, v = .slice A m c ∧ Reads W B 1 A m (xs.map iz) ∧ m ≤ 140737488355328 ∧ B ≤ W.heap.size
theorem RowI.own {W : World} {base m : Nat} {v : Value} {xs : List Nat} (h : W.ownsRow base 3 1 v m (xs.map iv)) (hm : m ≤ 140737488355328) : RowI W v (xs.map fun u : Nat => (u : Int)) := by
  obtain ⟨A, c, rfl⟩ := h.shape
  rw [map_iv_iz'] at h
  exact ⟨A, m, c, _, rfl, own_reads h, hm, Nat.le_refl _⟩
theorem RowI.below {W W' : World} {v : Value} {xs : List Int} (h : RowI W v xs) (hb : Below W.heap.size W W') : RowI W' v xs := by
  obtain ⟨A, m, c, B, rfl, h1, h2, h3⟩ := h
  exact ⟨A, m, c, B, rfl, h1.below (hb.mono h3), h2, Nat.le_trans h3 hb.size⟩
theorem Reads.arr {W : World} {g B n : Nat} {t : TypeId} {xs : List Value} (h : Blk W g t xs.toArray) (hg : g < B) (hn : xs.length = n) : Reads W B 1 (some ⟨g, 0, none⟩) n xs := by
  refine ⟨by omega, fun _ => ⟨⟨g, 0, none⟩, rfl, hg, fun j u hu => ?_⟩⟩
  have hadd : (⟨g, 0, none⟩ : Addr).add j = ⟨g, j, none⟩ := by unfold Addr.add; split <;> simp_all
  rw [hadd, h.cell j, ← hu, List.getElem?_toArray]
theorem RowI.arr {W : World} {g n c : Nat} {t : TypeId} {xs : List Int} (h : Blk W g t (xs.map iz).toArray) (hn : xs.length = n) (hm : n ≤ 140737488355328) : RowI W (.slice (some ⟨g, 0, none⟩) n c) xs :=
  ⟨_, _, _, W.heap.size, rfl, Reads.arr h h.lt (by simpa using hn), hm, Nat.le_refl _⟩
set_option maxHeartbeats 1000000 in
theorem lists_same (W : World) (A1 A2 : Option Addr) (n c1 c2 B1 B2 : Nat) (vs1 vs2 : List Value) (xs : Nat → List Int) (h1 : Reads W B1 1 A1 n vs1) (h2 : Reads W B2 1 A2 n vs2) (hn : n ≤ 140737488355328)
    (r1 : ∀ (k : Nat) (v : Value), vs1[k]? = some v → RowI W v (xs k)) (r2 : ∀ (k : Nat) (v : Value), vs2[k]? = some v → RowI W v (xs k)) :
    Calls Try.prog 25 #[.slice A1 n c1, .slice A2 n c2] W fun e W' => e = .returned (.bool true) ∧ ∃ a, W' = W.drewN a := by
  have H1 := hide h1
  have H2 := hide h2
  have R1 := hide r1
  have R2 := hide r2
  clear h1 h2 r1 r2
  go_enter Try.func25, Try.ntmps25
  go_wp2_with fail
  go_loopg [5] n (fun q t W' => ∃ k a : Nat, t = .int .i64 (k : Int) ∧ k + q = n ∧ W' = W.drewN a)
  case atStart => exact ⟨0, 0, rfl, by omega, rfl⟩
  case round =>
    obtain ⟨k, a, rfl, hkq, hw⟩ := hrel
    have hk0 : (0 : Int) ≤ (k : Int) := by omega
    by_cases hk : k < n
    · have hkI : (k : Int) < (n : Int) := by omega
      obtain ⟨gq, rfl⟩ : ∃ q, gk = q + 1 := ⟨gk - 1, by omega⟩
      obtain ⟨b1, o1, x1, rfl, _, hx1, hc1, _⟩ := (unhide H1).at0 hk
      obtain ⟨b2, o2, x2, rfl, _, hx2, hc2, _⟩ := (unhide H2).at0 hk
      obtain ⟨A3, m3, c3, B3, rfl, h3, hm3, _⟩ := unhide R1 k _ hx1
      obtain ⟨A4, m4, c4, B4, rfl, h4, hm4, _⟩ := unhide R2 k _ hx2
      obtain rfl : m3 = m4 := by
        have e3 := h3.1
        have e4 := h4.1
        rw [List.length_map] at e3 e4
        omega
      have d1 : wr.cell? ⟨b1, o1 + k, none⟩ = some (.slice A3 m3 c3) := by rw [hw]; exact hc1
      have d2 : wr.cell? ⟨b2, o2 + k, none⟩ = some (.slice A4 m3 c4) := by rw [hw]; exact hc2
      have hI : ∀ m, Hid (Calls Try.prog 15 #[.slice A3 m3 c3, .slice A4 m3 c4] (wr.drewN m) fun e w'' => e = .returned (.bool true) ∧ ∃ m, w'' = wr.drewN m) := fun m => hide ((ints_same (wr.drewN m) A3 A4 m3 c3 c4 B3 B4 (xs k) ((hw ▸ h3.drewN a : Reads wr B3 1 A3 m3 _).drewN m) ((hw ▸ h4.drewN a : Reads wr B4 1 A4 m3 _).drewN m) hm3).mono fun e w' ⟨he, a', hw'⟩ => ⟨he, m + a', by rw [hw', World.drewN_drewN]⟩)
      have HW := Lib.hid hw
      clear hx1 hx2 hc1 hc2 h3 h4 hw hm4
      go_wp2_with fail
      go_quiet ((go_at_call 15; exact unhide (hI _)))
      rename_i nq
      go_wp2_with fail
      go_roundg gq
      case rel => exact ⟨k + 1, a + nq, by go_num, by omega, by rw [HW.out, World.drewN_drewN]⟩
      case measure => omega
    · obtain rfl : k = n := by omega
      have HW := Lib.hid hw
      clear hw
      go_wp2_with fail
      go_ret
      exact ⟨rfl, a, HW.out⟩
end Go.Proofs.Ytmcpbmadjpjckaa
