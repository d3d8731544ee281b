/-
  The law's own helpers lentBytes, lent: lists in memory of their own with two marks behind them; the walks over the Go text. Condition: lists below 2^47 bytes.
-/
import Derived.Test.YteambdbcjcfdeaaColOut
import Derived.Test.YteambdbcjcfdeaaColDec2
namespace Go.Proofs.Yteambdbcjcfdeaa
open Go.RowKit

theorem _root_.Go.World.ownsRow.grown_alloc {w : World} {base n size : Nat} {e : TypeId} {v : Value} {xs : List Value} {o : Obj} (h : w.ownsRow base e size v n xs) : (w.alloc o).ownsRow base e size v n xs :=
  (Chg.of_below ((Below.refl _ _).alloc (Nat.le_refl _) o) (fun _ => False)).own h (fun _ _ hf => hf)
theorem run_first {t e : TypeId} {size bytes : Nat} (he : ElemOf Try.prog t e size bytes) {g n N cap : Nat} (h : n ≤ cap) (w : World) :
    (Instr.slice t (.slice (some ⟨g, 0, none⟩) N cap) none (some (.int .i64 (n : Int))) none).run Try.prog w = .ok (.slice (some ⟨g, 0, none⟩) n cap) w := by
  obtain ⟨⟨i, z, h1, h2, h3, h4, h5, h6⟩, _⟩ := he
  have hE : Try.prog.elem t = e := by simp [Program.elem, h1]
  rw [run_slice_h w t _ N cap (by rw [hE]; exact h1) .i64 n (by omega) (by omega), hE]
  simp [sizeOf, typeInfo, h2, Result.andThen, sliced]
  try exact fun _ => rfl
set_option maxRecDepth 100000 in
set_option maxHeartbeats 400000 in
set_option linter.unusedVariables false in
theorem lentBytes_any (A : Option Addr) (n c : Nat) (bs : List UInt8) (w : World) (hr : Reads w w.heap.size 1 A n (bs.map bv)) (hn : n ≤ 140737488355000) :
    Calls Try.prog 22 #[.slice A n c] w fun e w' => ∃ g cap, e = .returned (.slice (some ⟨g, 0, none⟩) n cap) ∧ n + 2 ≤ cap ∧ cap ≤ 9223372036854775807 ∧ w.heap.size ≤ g ∧
      w'.ownsRow w.heap.size 5 1 (.slice (some ⟨g, 0, none⟩) (n + 2) cap) (n + 2) ((bs ++ [201, 202]).map bv) ∧ Below w.heap.size w w' := by
  have hlen : bs.length = n := by have := hr.1; simpa using this
  have HC : Hid (0 + n ≤ maxLen ∧ (0 + n) * 1 ≤ 140737488355328) := cap1 (by omega)
  have HC2 : Hid (n + 2 ≤ maxLen ∧ (n + 2) * 1 ≤ 140737488355328) := cap1 (by omega)
  have HLEN := Lib.hid hlen
  clear hlen
  go_enter Try.func22, Try.ntmps22
  go_wp2_with (first
    | (at_builtin
       refine wpList_app _ rfl (.tmp 4) (.tmp 5) 24 rfl elem_u8 w.heap.size (.slice none 0 0) 0 [] rfl (World.ownsRow_nil _ _ _ _) w.heap.size A n c _ rfl hr (bv_one _) HC.out (Nat.le_refl _) ?_
       intro v1 w1 hown1 hg1 hat1
       have hb1 : Below w.heap.size w w1 := grownBy_below hg1 (Nat.le_refl _) (by simp [Value.ownBlock])
       rw [List.nil_append, Nat.zero_add] at hown1
       obtain ⟨A1, c1, rfl⟩ := hown1.shape
       have HO1 := hide hown1
       have HB1 := hide hb1
       have HL := hide (reads_lit w1 _ rfl 5 #[.int .u8 201, .int .u8 202] 2 rfl ([201, 202].map bv) rfl)
       clear hown1 hg1 hat1 hb1)
    | (at_builtin
       refine wpList_app _ rfl (.tmp 7) (.tmp 8) 24 rfl elem_u8 w.heap.size (.slice A1 n c1) n (bs.map bv) rfl ((unhide HO1).grown_alloc) (w1.heap.size + 1) (some ⟨w1.heap.size, 0, none⟩) 2 2 _ rfl (unhide HL) (bv_one _) HC2.out ?_ ?_
       · have := (unhide HB1).size; simp; omega
       intro v2 w2 hown2 hg2 hat2
       rw [← List.map_append] at hown2
       have hb2 := ((unhide HB1).alloc (unhide HB1).size _).grown hg2 (by have := (unhide HB1).size; simp; omega) (fun j hj => ((unhide HO1).lt j hj).1)
       obtain ⟨g, cap, rfl, hg, _⟩ := hown2.form (by omega)
       obtain ⟨hcap1, hcap2⟩ := own_caps hown2
       have hsl : ∀ W : World, (Instr.slice 24 (.slice (some ⟨g, 0, none⟩) (n + 2) cap) none (some (.int .i64 (n : Int))) none).run Try.prog W = .ok (.slice (some ⟨g, 0, none⟩) n cap) W := fun W => run_first elem_u8 (by omega) W
       have HO3 := hide hown2
       have HB2 := hide hb2
       clear hown2 hg2 hat2 hb2))
  go_ret
  exact ⟨g, cap, rfl, hcap1, hcap2, hg, unhide HO3, unhide HB2⟩
end Go.Proofs.Yteambdbcjcfdeaa
