/-
  LebOneForm: what is put is got whatever stands behind, what is got of any bytes is put as just those; no form begins another: the law's walk. Condition: none beyond the form's own reach.
-/
import Derived.Test.YtbofjboebkfjgaaRows
import Derived.Test.YtbofjboebkfjgaaWords
import Derived.Test.YtbofjboebkfjgaaLebMath
import Derived.Test.YtbofjboebkfjgaaLebOneMath
import Derived.Test.YtbofjboebkfjgaaLebAwake
import Derived.Test.YtbofjboebkfjgaaLebLent
import Derived.Deep.RegionHeld3
namespace Go.Proofs.Ytbofjboebkfjgaa
open Go.RowKit


theorem Reads.cutTo {w : World} {B n k : Nat} {A : Option Addr} {xs : List UInt8} (h : Reads w B 1 A n (xs.map bv)) (hk : k ≤ n) : Reads w B 1 A k ((xs.take k).map bv) := by
  have hl : xs.length = n := by have := h.1; simpa using this
  refine ⟨by simp; omega, fun hn => ?_⟩
  obtain ⟨ad, e, hb, hc⟩ := h.2 (by omega)
  refine ⟨ad, e, hb, fun j u hu => hc j u ?_⟩
  rw [List.map_take, List.getElem?_take] at hu
  split at hu
  · exact hu
  · cases hu

set_option maxRecDepth 100000 in
set_option maxHeartbeats 1000000 in
theorem lebOneForm_walk (n : Nat) (A : Option Addr) (m c : Nat) (bs : List UInt8) (w : World) (hn : n < U64) (hr : Reads w w.heap.size 1 A m (bs.map bv)) (hm : m ≤ 140737488351232) (hmc : m ≤ c) :
    Calls Try.prog 7 #[.int .u64 (n : Int), .slice A m c] w fun e w' => e = .returned (.bool true) ∧ Below w.heap.size w w' := by
  have hlen : bs.length = m := by have := hr.1; simpa using this
  have hP := fun w => hide (put_any n w hn)
  have hF := form_len n
  have HG := Lib.hid (get_form n hn bs)
  have HC := fun j => hide (get_cut n hn j)
  have hS := fun w => hide (size_any n w hn)
  have hRW := hide hr
  clear hn hr
  go_enter Try.func7, Try.ntmps7
  go_wp2_with (go_at_call 24; refine (awake_any w).mono ?_; rintro e w1 ⟨rfl, hb1⟩)
  go_wp2_with (first
    | (go_at_call 16
       refine (unhide (hP w1)).mono ?_
       rintro e w2 ⟨v2, rfl, ho2, hb2⟩
       obtain ⟨g, cap, rfl, hg, hgl⟩ := ho2.form (by omega)
       have hcap := own_cap ho2
       have hcm := own_capm ho2
       have HF := hide (Reads.of_own ho2)
       have hbb : Hid (Below w.heap.size w w2) := hb1.trans (hb2.mono hb1.size)
       have HB := hide (((unhide hRW).below hbb.out).more hbb.out.size)
       have hq1 : Hid (0 + (form n).length ≤ maxLen ∧ (0 + (form n).length) * 1 ≤ 140737488355328) := cap1 (by omega)
       have hq2 : Hid (0 + (form n).length + m ≤ maxLen ∧ (0 + (form n).length + m) * 1 ≤ 140737488355328) := cap1 (by omega)
       clear ho2 hb1 hb2 hP)
    | (at_builtin
       refine wpList_app _ rfl (.tmp 21) (.tmp 22) 22 rfl elem_u8 w2.heap.size (.slice none 0 0) 0 [] rfl (World.ownsRow_nil _ _ _ _) _ _ (form n).length cap _ rfl (unhide HF) (bv_one _) hq1.out (Nat.le_refl _) ?_
       intro v3 w3 hown3 hg3 hat3
       have hb3 := hide (grownBy_below hg3 (Nat.le_refl _) (by simp [Value.ownBlock]))
       have hz3 := (unhide hb3).size)
    | (at_builtin
       refine wpList_app _ rfl (.tmp 23) (.tmp 24) 22 rfl elem_u8 w2.heap.size v3 _ _ rfl hown3 w2.heap.size _ m c _ rfl ((unhide HB).below (unhide hb3)) (bv_one _) hq2.out hz3 ?_
       intro v4 w4 hown4 hg4 hat4
       obtain ⟨A4, c4, rfl⟩ := hown4.shape
       have hb4 : Below w2.heap.size w2 w4 := (unhide hb3).grown hg4 hz3 (fun j hj => (hown3.lt j hj).1)
       have hR4 := hide (Reads.of_own hown4)
       have hF4 := hide (((unhide HF).below hb4).more hb4.size)
       have hB4 := hide (((unhide HB).below hb4).more hb4.size)
       have hbw := hide (hbb.out.trans (hb4.mono hbb.out.size))
       clear hown4 hown3 hg3 hg4 hat3 hat4 hb3 hb4 HF HB hbb))
  have hR5 : Hid (Reads w4 w4.heap.size 1 A4 ((form n).length + m) ((form n ++ bs).map bv)) := by have := unhide hR4; rw [List.nil_append, ← List.map_append, Nat.zero_add] at this; exact this
  refine (get_r _ (unhide hR5) HG.out).mono ?_
  rintro e w5 ⟨rfl, rfl⟩
  have hF1 : 1 ≤ (form n).length := hF.1
  have hF2 : (form n).length ≤ 10 := hF.2
  clear hF hR4
  go_wp2_with (go_at_call 19; refine (unhide (hS w4)).mono ?_; rintro e w6 ⟨rfl, rfl⟩)
  obtain ⟨r, hres⟩ : ∃ r, getS bs = r := ⟨_, rfl⟩
  obtain ⟨rx, rl, re⟩ := r
  have HR := Lib.hid hres
  clear hR5 hq1 hq2 hS hres HG hcm
  go_loopg [10] (form n).length (fun q t wr => ∃ k : Nat, k + q = (form n).length ∧ t = .int .i64 (k : Int) ∧ w4 = wr)
  case atStart => exact ⟨0, by omega, rfl, rfl⟩
  case round =>
    obtain ⟨k, hk, rfl, rfl⟩ := hrel
    by_cases hlt : k < (form n).length
    · obtain ⟨q, rfl⟩ : ∃ q, gk = q + 1 := ⟨gk - 1, by omega⟩
      have hG := hide (get_r cap ((unhide hF4).cutTo (Nat.le_of_lt hlt)) ((unhide (HC k)) hlt))
      go_wp2_with (go_at_call 12; refine (unhide hG).mono ?_; rintro e w6 ⟨rfl, rfl⟩)
      go_roundg q
      case rel => exact ⟨k + 1, by omega, by go_num, rfl⟩
      case measure => omega
    · have hG := hide (get_r c (unhide hB4) HR.out)
      by_cases hre : re = 0
      · subst hre
        obtain ⟨h1, h2, h3⟩ := get_back HR.out
        have hle : (rl : Int) ≤ (m : Int) := by omega
        have h2' := Lib.hid h2
        clear h2
        go_wp2_with (go_at_call 12; refine (unhide hG).mono ?_; rintro e w6 ⟨rfl, rfl⟩)
        have hPx := hide (put_any rx w4.drew h3)
        have hlm : rl ≤ m := by omega
        have hlc : rl ≤ c := by omega
        clear hG hF4 HR
        clear HC hF1 hF2 hlen hRW hcap hgl hg hz3
        go_region_held3 (fun _ => True) (exact True.intro) ((first
          | (go_at_call 16
             refine (unhide hPx).mono ?_
             rintro e w6 ⟨v6, rfl, ho6, hb6⟩
             obtain ⟨A6, c6, rfl⟩ := ho6.shape
             have hb7 : Below w4.heap.size w4 w6 := ⟨hb6.os, hb6.tape, hb6.output, hb6.size, hb6.block⟩
             have hE := hide (same_any A6 A _ c6 rl c (form rx) (bs.take rl) w6 w6.heap.size (Reads.of_own ho6) ((((unhide hB4).below hb7).more hb7.size).cutTo hlm))
             rw [show (form rx == bs.take rl) = true by rw [h2'.out]; simp] at hE
             have hb8 := hide ((unhide hbw).trans (hb7.mono (unhide hbw).size))
             clear ho6 hb6 hb7)
          | (go_at_call 18
             refine (unhide hE).mono ?_
             rintro e w8 ⟨rfl, rfl⟩)))
        all_goals go_wp2
        all_goals go_ret
        all_goals exact ⟨rfl, unhide hb8⟩
      · obtain ⟨rfl, rfl, h3⟩ := get_err HR.out hre
        have hne : ((re : Int) != 0) = true := by simp; omega
        have hne' : ((re : Int) == 0) = false := by simp; omega
        rcases h3 with rfl | rfl
        all_goals
          go_wp2_with (go_at_call 12; refine (unhide hG).mono ?_; rintro e w6 ⟨rfl, rfl⟩)
          go_ret
          exact ⟨rfl, unhide hbw⟩
end Go.Proofs.Ytbofjboebkfjgaa
