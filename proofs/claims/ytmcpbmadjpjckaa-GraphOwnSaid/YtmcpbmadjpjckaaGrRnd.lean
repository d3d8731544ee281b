/-
  The shortest round of a graph: least, Contains, Round: the walks over the Go text.
-/
import Derived.Test.YtmcpbmadjpjckaaGrSteps
namespace Go.Proofs.Ytmcpbmadjpjckaa
open Go.RowKit

def IdxI (l : List Nat) (s : Nat) (w : World) (e : Ending) (w' : World) : Prop := ∃ r : Int, e = .returned (.int .i64 r) ∧ decide (0 ≤ r) = decide (s ∈ l) ∧ w = w'
set_option maxHeartbeats 1000000 in
theorem idxI_any (w : World) (A : Option Addr) (n c B0 : Nat) (l : List Nat) (hr : Reads w B0 1 A n (l.map iv)) (hn : n ≤ 140737488355328) (s : Nat) :
    Calls Try.prog 47 #[.slice A n c, .int .i64 (s : Int)] w (IdxI l s w) := by
  have hl : l.length = n := by have := hr.1; simpa using this
  have HL := Lib.hid hl
  have HR := hide hr
  clear hr hl
  go_enter Try.func47, Try.ntmps47
  go_wp2_with fail
  go_loopg [8] n (fun q t W' => ∃ k : Nat, t = .int .i64 (k : Int) ∧ k + q = n ∧ w = W' ∧ s ∉ l.take k)
  case atStart => exact ⟨0, rfl, by omega, rfl, by simp⟩
  case round =>
    obtain ⟨k, rfl, hkq, rfl, hno⟩ := hrel
    have HNO := hide hno
    clear hno
    have hk0 : (0 : Int) ≤ (k : Int) := by omega
    by_cases hk : k < n
    · have hkI : (k : Int) < (n : Int) := by omega
      obtain ⟨gq, rfl⟩ : ∃ q, gk = q + 1 := ⟨gk - 1, by omega⟩
      obtain ⟨b, off, u, rfl, hb, hu, hcu, _⟩ := (unhide HR).at0 hk
      rw [List.getElem?_map] at hu
      obtain ⟨i, hi, rfl⟩ := Option.map_eq_some_iff.1 hu
      have c1 : w.cell? ⟨b, off + k, none⟩ = some (.int .i64 (i : Int)) := hcu
      have hsn : l.take (k + 1) = l.take k ++ [i] := by rw [List.take_add_one, hi, Option.toList_some]
      have HSN := Lib.hid hsn
      have HM := hide (List.mem_of_getElem? hi)
      clear hu hi hsn hcu hb
      by_cases hsi : s = i
      · subst hsi
        go_wp2_with fail
        go_ret
        refine ⟨k, rfl, ?_, rfl⟩
        rw [decide_eq_true hk0, decide_eq_true (unhide HM)]
      · have hsI : ¬ (s : Int) = (i : Int) := by omega
        go_wp2_with fail
        go_roundg gq
        case rel => exact ⟨k + 1, by go_num, by omega, rfl, by
          rw [HSN.out, List.mem_append, List.mem_singleton, not_or]
          exact ⟨unhide HNO, hsi⟩⟩
        case measure => omega
    · obtain rfl : k = n := by omega
      go_wp2_with fail
      go_ret
      refine ⟨-1, rfl, ?_, rfl⟩
      have := unhide HNO
      rw [List.take_of_length_le (by have := HL.out; omega)] at this
      rw [decide_eq_false this]
      rfl
theorem containsI_any (w : World) (A : Option Addr) (n c B0 : Nat) (l : List Nat) (hr : Reads w B0 1 A n (l.map iv)) (hn : n ≤ 140737488355328) (s : Nat) :
    Calls Try.prog 38 #[.slice A n c, .int .i64 (s : Int)] w fun e w' => e = .returned (.bool (decide (s ∈ l))) ∧ w = w' := by
  have hI := hide (idxI_any w A n c B0 l hr hn s)
  clear hr
  go_enter Try.func38, Try.ntmps38
  go_wp2_with fail
  refine (unhide hI).mono ?_
  rintro e w' ⟨r, rfl, hr, rfl⟩
  have HR := Lib.hid hr
  clear hr hI
  go_wp2_with fail
  go_ret
  exact ⟨by rw [← HR.out]; rfl, rfl⟩
/-- What least answers. -/
def LeastOut (l : List Nat) (fr : Nat → Option Nat) (want : Nat) (w : World) (e : Ending) (w' : World) : Prop := ∃ r : Nat, e = .returned (.int .i64 (r : Int)) ∧ r ∈ l ∧ fr r = some want ∧ w = w'
set_option maxHeartbeats 2000000 in
theorem least_any (w : World) (A : Option Addr) (n c B0 : Nat) (l : List Nat) (hr : Reads w B0 1 A n (l.map iv)) (hn : n ≤ 140737488355328) (gF N : Nat) (fr : Nat → Option Nat) (hf : Blk w gF 3 (tab N fun u => pv (fr u))) (hl : ∀ i ∈ l, i < N) (want : Nat) (hex : ∃ i ∈ l, fr i = some want) :
    Calls Try.prog 40 #[.slice A n c, .slice (some ⟨gF, 0, none⟩) N N, .int .i64 (want : Int)] w (LeastOut l fr want w) := by
  have hll : l.length = n := by have := hr.1; simpa using this
  have HL := Lib.hid hll
  have HR := hide hr
  have HF := hide hf
  have HLT := hide hl
  have HEX := hide hex
  clear hr hll hf hl hex
  go_enter Try.func40, Try.ntmps40
  go_wp2_with fail
  go_loopg [7, 12] n (fun q t7 t W' => ∃ (k : Nat) (b : Option Nat), t7 = pv b ∧ t = .int .i64 (k : Int) ∧ k + q = n ∧ w = W' ∧ (∀ x, b = some x → x ∈ l ∧ fr x = some want) ∧ (∀ i ∈ l.take k, fr i = some want → b ≠ none))
  case atStart => exact ⟨0, none, rfl, rfl, by omega, rfl, by simp, by simp⟩
  case round =>
    obtain ⟨k, b, rfl, rfl, hkq, rfl, hb1, hb2⟩ := hrel
    have hk0 : (0 : Int) ≤ (k : Int) := by omega
    by_cases hk : k < n
    · have hkI : (k : Int) < (n : Int) := by omega
      obtain ⟨gq, rfl⟩ : ∃ q, gk = q + 1 := ⟨gk - 1, by omega⟩
      obtain ⟨ba, off, u, rfl, hba, hu, hcu, _⟩ := (unhide HR).at0 hk
      rw [List.getElem?_map] at hu
      obtain ⟨i, hi, rfl⟩ := Option.map_eq_some_iff.1 hu
      have c1 : w.cell? ⟨ba, off + k, none⟩ = some (.int .i64 (i : Int)) := hcu
      have hiN : i < N := unhide HLT i (List.mem_of_getElem? hi)
      have hi0 : (0 : Int) ≤ (i : Int) := by omega
      have hiI : (i : Int) < (N : Int) := by omega
      have hsn : l.take (k + 1) = l.take k ++ [i] := by rw [List.take_add_one, hi, Option.toList_some]
      have HSN := Lib.hid hsn
      have HM := hide (List.mem_of_getElem? hi)
      have HB1 := hide hb1
      have HB2 := hide hb2
      have c2 : w.cell? ⟨gF, i, none⟩ = some (pv (fr i)) := ((unhide HF).cell i).trans (tab_at _ hiN)
      clear hu hi hsn hcu hba hb1 hb2
      by_cases hw : fr i = some want
      · have c3 : w.cell? ⟨gF, i, none⟩ = some (.int .i64 (want : Int)) := by rw [c2, hw]; rfl
        have HW := Lib.hid hw
        clear c2 hw
        cases b with
        | none =>
          simp only [pv]
          go_wp2_with fail
          go_roundg gq
          case rel => exact ⟨k + 1, some i, rfl, by go_num, by omega, rfl, fun x hx => by injection hx with hx; subst hx; exact ⟨unhide HM, HW.out⟩, fun _ _ _ h => by cases h⟩
          case measure => omega
        | some x =>
          simp only [pv]
          have hx0 : ¬ (x : Int) < 0 := by omega
          by_cases hlt : i < x
          · have hltI : (i : Int) < (x : Int) := by omega
            go_wp2_with fail
            go_roundg gq
            case rel => exact ⟨k + 1, some i, rfl, by go_num, by omega, rfl, fun x hx => by injection hx with hx; subst hx; exact ⟨unhide HM, HW.out⟩, fun _ _ _ h => by cases h⟩
            case measure => omega
          · have hltI : ¬ (i : Int) < (x : Int) := by omega
            go_wp2_with fail
            go_roundg gq
            case rel => exact ⟨k + 1, some x, rfl, by go_num, by omega, rfl, unhide HB1, fun _ _ _ h => by cases h⟩
            case measure => omega
      · obtain ⟨vi, hvi⟩ : ∃ z : Int, pv (fr i) = .int .i64 z ∧ ¬ z = (want : Int) := by
          cases h : fr i with
          | none => exact ⟨-1, rfl, by omega⟩
          | some y => exact ⟨y, rfl, fun e => hw (by rw [h]; congr 1; omega)⟩
        have c3 : w.cell? ⟨gF, i, none⟩ = some (.int .i64 vi) := by rw [c2, hvi.1]
        have hvn := hvi.2
        have HW := hide hw
        obtain ⟨vb, hvb⟩ : ∃ z : Int, pv b = .int .i64 z := by
          cases b with
          | none => exact ⟨-1, rfl⟩
          | some y => exact ⟨y, rfl⟩
        rw [hvb]
        have HVB := Lib.hid hvb
        clear c2 hw hvi hvb
        go_wp2_with fail
        go_roundg gq
        case rel => exact ⟨k + 1, b, HVB.out.symm, by go_num, by omega, rfl, unhide HB1, fun x hx h => by
          rw [HSN.out, List.mem_append, List.mem_singleton] at hx
          rcases hx with hx | rfl
          · exact unhide HB2 x hx h
          · exact absurd h (unhide HW)⟩
        case measure => omega
    · obtain rfl : k = n := by omega
      rw [List.take_of_length_le (by have := HL.out; omega)] at hb2
      obtain ⟨i, hi, hfi⟩ := unhide HEX
      cases b with
      | none => exact absurd rfl (hb2 i hi hfi)
      | some x =>
        have HB := hide (hb1 x rfl)
        simp only [pv]
        clear hb1 hb2 hi hfi
        go_wp2_with fail
        go_ret
        exact ⟨x, rfl, (unhide HB).1, (unhide HB).2, rfl⟩
end Go.Proofs.Ytmcpbmadjpjckaa
