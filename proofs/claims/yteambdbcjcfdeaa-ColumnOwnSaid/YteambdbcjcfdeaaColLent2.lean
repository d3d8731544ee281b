/-
  The law's own helpers lent (lists of numbers), kept, keptBytes: the walks over the Go text. Condition: lists below 2^47 bytes.
-/
import Derived.Test.YteambdbcjcfdeaaColLent
import Derived.Test.YteambdbcjcfdeaaColumnBackW
namespace Go.Proofs.Yteambdbcjcfdeaa
open Go.RowKit

set_option maxRecDepth 100000 in
set_option maxHeartbeats 400000 in
set_option linter.unusedVariables false in
theorem lent_any (A : Option Addr) (n c : Nat) (bs : List UInt32) (w : World) (hr : Reads w w.heap.size 1 A n (bs.map uw)) (hn : n ≤ 35184372088000) :
    Calls Try.prog 10 #[.slice A n c] w fun e w' => ∃ g cap, e = .returned (.slice (some ⟨g, 0, none⟩) n cap) ∧ n + 2 ≤ cap ∧ cap ≤ 9223372036854775807 ∧ w.heap.size ≤ g ∧
      w'.ownsRow w.heap.size 40 1 (.slice (some ⟨g, 0, none⟩) (n + 2) cap) (n + 2) ((bs ++ [71, 72]).map uw) ∧ Below w.heap.size w w' := by
  have hlen : bs.length = n := by have := hr.1; simpa using this
  have HC : Hid (0 + n ≤ maxLen ∧ (0 + n) * 4 ≤ 140737488355328) := cap4 (by omega)
  have HC2 : Hid (n + 2 ≤ maxLen ∧ (n + 2) * 4 ≤ 140737488355328) := cap4 (by omega)
  have HLEN := Lib.hid hlen
  clear hlen
  go_enter Try.func10, Try.ntmps10
  go_wp2_with (first
    | (at_builtin
       refine wpList_app _ rfl (.tmp 4) (.tmp 5) 22 rfl elem_u32 w.heap.size (.slice none 0 0) 0 [] rfl (World.ownsRow_nil _ _ _ _) w.heap.size A n c _ rfl hr (uw_one _) HC.out (Nat.le_refl _) ?_
       intro v1 w1 hown1 hg1 hat1
       have hb1 : Below w.heap.size w w1 := grownBy_below hg1 (Nat.le_refl _) (by simp [Value.ownBlock])
       rw [List.nil_append, Nat.zero_add] at hown1
       obtain ⟨A1, c1, rfl⟩ := hown1.shape
       have HO1 := hide hown1
       have HB1 := hide hb1
       have HL := hide (reads_lit w1 _ rfl 40 #[.int .u32 71, .int .u32 72] 2 rfl ([71, 72].map uw) rfl)
       clear hown1 hg1 hat1 hb1)
    | (at_builtin
       refine wpList_app _ rfl (.tmp 7) (.tmp 8) 22 rfl elem_u32 w.heap.size (.slice A1 n c1) n (bs.map uw) rfl ((unhide HO1).grown_alloc) (w1.heap.size + 1) (some ⟨w1.heap.size, 0, none⟩) 2 2 _ rfl (unhide HL) (uw_one _) HC2.out ?_ ?_
       · have := (unhide HB1).size; simp; omega
       intro v2 w2 hown2 hg2 hat2
       rw [← List.map_append] at hown2
       have hb2 := ((unhide HB1).alloc (unhide HB1).size _).grown hg2 (by have := (unhide HB1).size; simp; omega) (fun j hj => ((unhide HO1).lt j hj).1)
       obtain ⟨g, cap, rfl, hg, _⟩ := hown2.form (by omega)
       obtain ⟨hcap1, hcap2⟩ := own_caps hown2
       have hsl : ∀ W : World, (Instr.slice 22 (.slice (some ⟨g, 0, none⟩) (n + 2) cap) none (some (.int .i64 (n : Int))) none).run Try.prog W = .ok (.slice (some ⟨g, 0, none⟩) n cap) W := fun W => run_first elem_u32 (by omega) W
       have HO3 := hide hown2
       have HB2 := hide hb2
       clear hown2 hg2 hat2 hb2))
  go_ret
  exact ⟨g, cap, rfl, hcap1, hcap2, hg, unhide HO3, unhide HB2⟩

set_option maxRecDepth 100000 in
set_option maxHeartbeats 400000 in
theorem kept5_any (A : Option Addr) (g n cap m d B : Nat) (xs ys : List UInt32) (w : World) (hx : xs.length = n) (hcap : n + 2 ≤ cap) (hr : Reads w B 1 (some ⟨g, 0, none⟩) (n + 2) ((xs ++ [71, 72]).map uw)) (hy : Reads w B 1 A m (ys.map uw)) (hn : n ≤ 140737488355328) (hB : B ≤ w.heap.size) :
    Calls Try.prog 19 #[.slice (some ⟨g, 0, none⟩) n cap, .slice A m d] w fun e w' => e = .returned (.bool (xs == ys)) ∧ Below w.heap.size w w' := by
  have hrf : Reads w B 1 (some ⟨g, 0, none⟩) n (xs.map uw) := by
    have h := words_cut hr (k := n) (by omega)
    rwa [List.take_append_of_le_length (by omega), List.take_of_length_le (by omega)] at h
  have hS := hide (alike_any (some ⟨g, 0, none⟩) A n cap m d xs ys w B hrf hy hn hB)
  obtain ⟨b0, o0, u0, e0, _, hu0, hc0, _⟩ := hr.at0 (k := n) (by omega)
  cases e0
  rw [Nat.zero_add] at hc0
  obtain ⟨b1, o1, u1, e1, _, hu1, hc1, _⟩ := hr.at0 (k := n + 1) (by omega)
  cases e1
  rw [Nat.zero_add] at hc1
  rw [List.getElem?_map, List.getElem?_append_right (by omega), hx, Nat.sub_self] at hu0
  rw [List.getElem?_map, List.getElem?_append_right (by omega), hx, Nat.add_sub_cancel_left] at hu1
  obtain rfl : Value.int .u32 71 = u0 := (show _ from (by simpa using hu0 : uw 71 = u0))
  obtain rfl : Value.int .u32 72 = u1 := (show _ from (by simpa using hu1 : uw 72 = u1))
  have HC0 := fun W (h : Below w.heap.size w W) => Lib.hid ((h.cell (p := ⟨g, n, none⟩) (by have := (hr.at_ (k := n) (by omega)); obtain ⟨ad, u, e, hb, _⟩ := this; cases e; exact Nat.lt_of_lt_of_le hb hB)).trans hc0)
  have HC1 := fun W (h : Below w.heap.size w W) => Lib.hid ((h.cell (p := ⟨g, n + 1, none⟩) (by have := (hr.at_ (k := n) (by omega)); obtain ⟨ad, u, e, hb, _⟩ := this; cases e; exact Nat.lt_of_lt_of_le hb hB)).trans hc1)
  have hI : IntKind.i64.wrap ((n : Int) + 1) = ((n + 1 : Nat) : Int) := by rw [IntWalk.i64_in _ (by omega)]; omega
  have hsl := fun W => run_first elem_u32 (g := g) (n := n + 2) (N := n) (cap := cap) (by omega) W
  have hcapI : (n : Int) + 2 ≤ (cap : Int) := by omega
  clear hc0 hc1 hu0 hu1 hr hrf hy
  obtain ⟨r, hr⟩ : ∃ r, (xs == ys) = r := ⟨_, rfl⟩
  rw [hr] at hS ⊢
  clear hr hx
  go_enter Try.func19, Try.ntmps19
  cases r with
  | true =>
    go_wp2_with (go_at_call 25; refine (unhide hS).mono ?_; rintro e w1 ⟨rfl, hb1⟩; have hc0 := (HC0 w1 hb1).out; have hc1 := (HC1 w1 hb1).out; have HB1 := hide hb1; clear hb1)
    go_ret
    exact ⟨rfl, unhide HB1⟩
  | false =>
    go_wp2_with (go_at_call 25; refine (unhide hS).mono ?_; rintro e w1 ⟨rfl, hb1⟩; have HB1 := hide hb1; clear hb1)
    go_ret
    exact ⟨rfl, unhide HB1⟩

set_option maxRecDepth 100000 in
set_option maxHeartbeats 400000 in
theorem keptBytes5_any (A : Option Addr) (g n cap m d B : Nat) (xs ys : List UInt8) (w : World) (hx : xs.length = n) (hcap : n + 2 ≤ cap) (hr : Reads w B 1 (some ⟨g, 0, none⟩) (n + 2) ((xs ++ [201, 202]).map bv)) (hy : Reads w B 1 A m (ys.map bv)) (hn : n ≤ 140737488355328) (hB : B ≤ w.heap.size) :
    Calls Try.prog 26 #[.slice (some ⟨g, 0, none⟩) n cap, .slice A m d] w fun e w' => e = .returned (.bool (xs == ys)) ∧ Below w.heap.size w w' := by
  have hrf : Reads w B 1 (some ⟨g, 0, none⟩) n (xs.map bv) := by
    have h := Reads.cutTo hr (k := n) (by omega)
    rwa [List.take_append_of_le_length (by omega), List.take_of_length_le (by omega)] at h
  have hS := hide (same5_any (some ⟨g, 0, none⟩) A n cap m d xs ys w B hrf hy hn hB)
  obtain ⟨b0, o0, u0, e0, _, hu0, hc0, _⟩ := hr.at0 (k := n) (by omega)
  cases e0
  rw [Nat.zero_add] at hc0
  obtain ⟨b1, o1, u1, e1, _, hu1, hc1, _⟩ := hr.at0 (k := n + 1) (by omega)
  cases e1
  rw [Nat.zero_add] at hc1
  rw [List.getElem?_map, List.getElem?_append_right (by omega), hx, Nat.sub_self] at hu0
  rw [List.getElem?_map, List.getElem?_append_right (by omega), hx, Nat.add_sub_cancel_left] at hu1
  obtain rfl : Value.int .u8 201 = u0 := (show _ from (by simpa using hu0 : bv 201 = u0))
  obtain rfl : Value.int .u8 202 = u1 := (show _ from (by simpa using hu1 : bv 202 = u1))
  have HC0 := fun W (h : Below w.heap.size w W) => Lib.hid ((h.cell (p := ⟨g, n, none⟩) (by have := (hr.at_ (k := n) (by omega)); obtain ⟨ad, u, e, hb, _⟩ := this; cases e; exact Nat.lt_of_lt_of_le hb hB)).trans hc0)
  have HC1 := fun W (h : Below w.heap.size w W) => Lib.hid ((h.cell (p := ⟨g, n + 1, none⟩) (by have := (hr.at_ (k := n) (by omega)); obtain ⟨ad, u, e, hb, _⟩ := this; cases e; exact Nat.lt_of_lt_of_le hb hB)).trans hc1)
  have hI : IntKind.i64.wrap ((n : Int) + 1) = ((n + 1 : Nat) : Int) := by rw [IntWalk.i64_in _ (by omega)]; omega
  have hsl := fun W => run_first elem_u8 (g := g) (n := n + 2) (N := n) (cap := cap) (by omega) W
  have hcapI : (n : Int) + 2 ≤ (cap : Int) := by omega
  clear hc0 hc1 hu0 hu1 hr hrf hy
  obtain ⟨r, hr⟩ : ∃ r, (xs == ys) = r := ⟨_, rfl⟩
  rw [hr] at hS ⊢
  clear hr hx
  go_enter Try.func26, Try.ntmps26
  cases r with
  | true =>
    go_wp2_with (go_at_call 18; refine (unhide hS).mono ?_; rintro e w1 ⟨rfl, hb1⟩; have hc0 := (HC0 w1 hb1).out; have hc1 := (HC1 w1 hb1).out; have HB1 := hide hb1; clear hb1)
    go_ret
    exact ⟨rfl, unhide HB1⟩
  | false =>
    go_wp2_with (go_at_call 18; refine (unhide hS).mono ?_; rintro e w1 ⟨rfl, hb1⟩; have HB1 := hide hb1; clear hb1)
    go_ret
    exact ⟨rfl, unhide HB1⟩
end Go.Proofs.Yteambdbcjcfdeaa
