/-
  The writer's Text where the string may be as long as a slice that came in: the walk over the Go text. Condition: what the writer holds stays below 2^47 bytes.
-/
import Derived.Test.YtbofjboebkfjgaaLebWr2
namespace Go.Proofs.Ytbofjboebkfjgaa
open Go.RowKit

theorem wtext_wide (w : World) (g : Nat) (v : Value) (bs xs : List UInt8) (h : WrP w g v bs) (hb0 : bs.length ≤ 1000) (hb : bs.length + 10 + xs.length ≤ 140737488355328) :
    Calls Try.prog 32 #[.pointer (some ⟨g, 0, none⟩), .string ⟨xs.toArray⟩] w fun e w' => e = .returned (.tuple #[]) ∧ ∃ v', WrP w' g v' (bs ++ form xs.length ++ xs) ∧ Turns w g v w' v' := by
  have hgl := h.blk.lt
  have hb1 : Below w.heap.size w (w.alloc (.cells #[uv xs.length] 24)) := (Below.refl _ _).alloc (Nat.le_refl _) _
  have h1 : WrP (w.alloc (.cells #[uv xs.length] 24)) g v bs := h.chg (Chg.of_below hb1 (fun _ => False)) (fun h => h) (fun _ _ h => h)
  have hE := hide (wnum_any _ g w.heap.size v bs [xs.length] h1 (Blk.new w _ _) (by omega) (fun e => by have := (h.own.lt _ e).2; omega) (fun n hn => by
    simp only [List.mem_singleton] at hn
    subst hn
    unfold U64
    omega) (by simp) (by simp; omega))
  have hT1 : Turns w g v (w.alloc (.cells #[uv xs.length] 24)) v := ⟨Chg.of_below hb1 _, .inl rfl⟩
  have HT1 := hide hT1
  obtain ⟨N, hN⟩ : ∃ N, xs.length = N := ⟨_, rfl⟩
  have hsz : (⟨xs.toArray⟩ : ByteArray).size = N := by rw [← hN]; rfl
  have hf : forms [N] = form N := by simp [forms]
  rw [hN] at hE HT1 hb
  rw [hf] at hE
  rw [hN]
  have hlen : (((⟨xs.toArray⟩ : ByteArray).size : Nat) : Int) = (N : Int) := by rw [hsz]
  clear h h1 hb1 hT1 hf
  go_enter Try.func32, Try.ntmps32
  go_wp2_with fail
  refine (unhide hE).mono ?_
  rintro e w1 ⟨rfl, v1, hW1, hT1⟩
  obtain ⟨A1, c1, rfl⟩ := hW1.own.shape
  obtain ⟨ys, hys⟩ : ∃ ys, bs ++ form N = ys := ⟨_, rfl⟩
  have hyl : ys.length ≤ bs.length + 10 := by rw [← hys, List.length_append]; have := (form_len N).2; omega
  rw [hys] at hW1
  obtain ⟨M, hM⟩ : ∃ M, ys.length = M := ⟨_, rfl⟩
  simp only [hys, hM] at hT1 hW1
  have c0 : w1.cell? ⟨g, 0, none⟩ = some (.slice A1 M c1) := hW1.blk.cell 0
  have f0 : w1.frozen? ⟨g, 0, none⟩ = false := hW1.blk.frozen 0
  have hN1 := hide (none_made w1 g _ hW1.blk)
  have hgl1 := hW1.blk.lt
  have hgne := hW1.ne
  have HC : Hid (M + N ≤ maxLen ∧ (M + N) * 1 ≤ 140737488355328) := cap1 (by omega)
  have hsrc : Src Try.prog 1 9 (.string ⟨xs.toArray⟩) N (xs.map bv) w1 := by
    have := Src.ofString (P := Try.prog) w1 (tx := 9) Try.underlying9 ⟨xs.toArray⟩
    rw [hsz] at this
    exact this
  have HS := hide hsrc
  have HW1 := hide hW1
  have HT2 := hide ((unhide HT1).trans hT1)
  clear hW1 hT1 hsrc hE HT1 hlen hsz
  go_wp2_with (first
    | (go_at_call 47; refine (unhide hN1).mono ?_; rintro e w2 ⟨rfl, rfl⟩)
    | (at_builtin
       refine wpList_app_src _ rfl (.tmp 17) (.tmp 18) 22 9 rfl elem_u8 (g + 1) (.slice A1 M c1) M (ys.map bv) rfl (hM ▸ (unhide HW1).own) _ N (xs.map bv) rfl (unhide HS) HC.out (by omega) ?_
       intro v4 w4 ho4 ha4
       obtain ⟨hg4, hr4⟩ := ha4.grown
       obtain ⟨A4, c4, rfl⟩ := ho4.shape
       have d0 : w4.cell? ⟨g, 0, none⟩ = some (.slice A1 M c1) := hg4.cell c0 (fun e => hgne e.symm)
       have e0 : w4.frozen? ⟨g, 0, none⟩ = false := (World.frozen?_of_block (hg4.block g hgl1 (fun e => hgne e.symm))).trans f0
       have HO4 := hide ho4
       have HG4 := hide hg4
       have HR4 := hide hr4
       clear ho4 hg4 hr4 ha4))
  go_end0
  have hn := (unhide HW1).next (f := xs) (v2 := .slice A4 (M + N) c4) (w4 := w4) (by rw [hM, hN]; exact unhide HO4) (unhide HG4) (by
    rcases unhide HR4 with h | h
    · exact .inl h
    · exact .inr ⟨_, h, Nat.le_refl _⟩)
  exact ⟨rfl, _, by rw [hys]; exact hn.1, (unhide HT2).trans hn.2⟩
end Go.Proofs.Ytbofjboebkfjgaa
