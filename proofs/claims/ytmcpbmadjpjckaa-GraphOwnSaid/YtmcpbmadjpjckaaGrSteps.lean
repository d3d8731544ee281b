/-
  The shortest round of a graph: steps, least: the walks over the Go text.
-/
import Derived.Test.YtmcpbmadjpjckaaGrRndM
import Derived.Test.YtmcpbmadjpjckaaGrOrd
import Derived.Test.YtmcpbmadjpjckaaGrReachW
namespace Go.Proofs.Ytmcpbmadjpjckaa
open Go.RowKit

def un (N : Nat) (fr : Nat → Option Nat) : Nat := wh N (fun u => match fr u with | none => 0 | some _ => 1)
theorem un_add {N i v : Nat} {fr : Nat → Option Nat} (hi : i < N) (hn : fr i = none) : un N (upf fr i (some v)) + 1 = un N fr := by
  have h : (fun u => match upf fr i (some v) u with | none => 0 | some _ => 1) = upf (fun u => match fr u with | none => 0 | some _ => 1) i 1 := by
    funext u
    by_cases e : u = i
    · subst e; rw [upf_same, upf_same]
    · rw [upf_ne _ _ e, upf_ne _ _ e]
  unfold un
  rw [h]
  exact wh_meet hi (by rw [hn]) (by decide)
theorem un_start {N tg : Nat} (ht : tg < N) : un N (upf (fun _ => none) tg (some 0)) + 1 ≤ N := by
  have := un_add (v := 0) (fr := fun _ => none) ht rfl
  have h2 : un N (fun _ => none) = N := wh_all N
  omega
theorem chain_lt {N tg : Nat} {bk : Nat → List Nat} {fr : Nat → Option Nat} (ht : tg < N) (hd : ∀ i k, fr i = some k → (i = tg ∧ k = 0) ∨ (tg < i ∧ i < N ∧ ∃ j k', j < N ∧ k = k' + 1 ∧ fr j = some k' ∧ i ∈ bk j)) {i k : Nat} (hi : fr i = some k) : k < N := by
  have h := down_chain ht hd k i hi
  have h1 : ∀ d, ∃ c, d ≤ k → c < N ∧ fr c = some d := fun d => by
    by_cases e : d ≤ k
    · obtain ⟨c, h2⟩ := h d e; exact ⟨c, fun _ => h2⟩
    · exact ⟨0, fun h => absurd h e⟩
  have := pig N (k + 1) (fun d => Classical.choose (h1 d)) (fun d hd => (Classical.choose_spec (h1 d) (by omega)).1) (fun a b ha hb e => by
    have e1 := (Classical.choose_spec (h1 a) (by omega)).2
    have e2 := (Classical.choose_spec (h1 b) (by omega)).2
    have e : Classical.choose (h1 a) = Classical.choose (h1 b) := e
    rw [e, e2] at e1
    injection e1 with e1
    exact e1.symm)
  omega
/-- What steps answers. -/
def StOut (W : World) (N : Nat) (bk : Nat → List Nat) (tg : Nat) (e : Ending) (W' : World) : Prop :=
  ∃ g fr, e = .returned (.slice (some ⟨g, 0, none⟩) N N) ∧ W.heap.size ≤ g ∧ Blk W' g 3 (tab N fun u => pv (fr u)) ∧ Below W.heap.size W W' ∧ FarD N bk tg fr
set_option maxRecDepth 100000 in
set_option maxHeartbeats 4000000 in
theorem steps_any (W : World) (gB Bn N : Nat) (V : Nat → Value) (bk : Nat → List Nat) (hnet : NetS W gB Bn N V bk) (hbk : ∀ u, u < N → ∀ t ∈ bk u, t < N) (hbl : ∀ u, (bk u).length ≤ 1048576) (hN : N ≤ 65536) {tg : Nat} (ht : tg < N) :
    Calls Try.prog 39 #[.slice (some ⟨gB, 0, none⟩) N N, .int .i64 (tg : Int)] W (StOut W N bk tg) := by
  have hmk := fun w => make_ints w N (by omega)
  obtain ⟨gF, hgF⟩ : ∃ g, W.heap.size = g := ⟨_, rfl⟩
  obtain ⟨W1, hW1⟩ : ∃ W1, W.alloc (.cells (tab N fun _ => .int .i64 0) 3) = W1 := ⟨_, rfl⟩
  have hb1 : Below W.heap.size W W1 := by rw [← hW1]; exact (Below.refl _ _).alloc (Nat.le_refl _) _
  have hf1 : Blk W1 gF 3 (tab N fun u => if u < 0 then .int .i64 (-1) else .int .i64 0) := by rw [← hW1, ← hgF]; simp only [Nat.not_lt_zero, if_false]; exact Blk.new _ _ _
  have HNET := hide hnet
  have HB1 := hide hb1
  have HF1 := hide hf1
  have HGF := Lib.hid hgF
  have HBK := hide hbk
  have HBL := hide hbl
  have htg0 : (0 : Int) ≤ (tg : Int) := by omega
  have htgI : (tg : Int) < (N : Int) := by omega
  clear hnet hb1 hf1 hbk hbl
  go_enter Try.func39, Try.ntmps39
  go_wp2_with fail
  clear hW1 hgF hmk
  go_loopg [15] N (fun q t W' => ∃ k : Nat, t = .int .i64 (k : Int) ∧ k + q = N ∧ Blk W' gF 3 (tab N fun u => if u < k then .int .i64 (-1) else .int .i64 0) ∧ Below W.heap.size W W')
  case atStart => exact ⟨0, rfl, by omega, unhide HF1, unhide HB1⟩
  case round =>
    clear HF1 HB1
    obtain ⟨k, rfl, hkq, hf, hb⟩ := hrel
    have hk0 : (0 : Int) ≤ (k : Int) := by omega
    by_cases hk : k < N
    · have hkI : (k : Int) < (N : Int) := by omega
      obtain ⟨gq, rfl⟩ : ∃ q, gk = q + 1 := ⟨gk - 1, by omega⟩
      have p0 : wr.cell? ⟨gF, k, none⟩ = some (.int .i64 0) := by rw [hf.cell k, tab_at _ hk, if_neg (by omega)]
      have pf : wr.frozen? ⟨gF, k, none⟩ = false := hf.frozen k
      have HF := hide hf
      have HB := hide hb
      clear hf hb
      go_wp2_with fail
      go_roundg gq
      case rel =>
        refine ⟨k + 1, by go_num, by omega, ?_, (unhide HB).setCell (p := ⟨gF, k, none⟩) (by have := HGF.out; show W.heap.size ≤ gF; omega) _⟩
        have h := (unhide HF).set_ k (.int .i64 (-1))
        rw [tab_set] at h
        rw [tab_congr (upf_below k _ _)]
        exact h
      case measure => omega
    · obtain rfl : k = N := by omega
      have hf2 : Blk wr gF 3 (tab k fun u => pv ((fun _ => none) u)) := by
        have e : (tab k fun u => if u < k then Value.int .i64 (-1) else .int .i64 0) = tab k fun u => pv ((fun _ => none) u) := by
          unfold tab
          congr 1
          apply List.map_congr_left
          intro u hu
          rw [if_pos (List.mem_range.1 hu)]
          rfl
        rw [← e]; exact hf
      have p0 : wr.cell? ⟨gF, tg, none⟩ = some (.int .i64 (-1)) := (hf2.cell tg).trans (tab_at _ ht)
      have pf : wr.frozen? ⟨gF, tg, none⟩ = false := hf2.frozen tg
      obtain ⟨W2, hW2⟩ : ∃ W2, (wr.setCell ⟨gF, tg, none⟩ (.int .i64 0)).alloc (.cells #[.int .i64 (tg : Int)] 3) = W2 := ⟨_, rfl⟩
      obtain ⟨gr, hgr⟩ : ∃ g, wr.heap.size = g := ⟨_, rfl⟩
      have hfl := hf2.lt
      have hzs : (wr.setCell ⟨gF, tg, none⟩ (.int .i64 0)).heap.size = gr := by rw [← hgr]; simp [World.setCell]
      have hf3 : Blk W2 gF 3 (tab k fun u => pv (upf (fun _ => none) tg (some 0) u)) := by
        rw [← hW2]
        refine (Blk.set_tab hf2 tg _ (fun u => ?_)).alloc _
        by_cases e : u = tg
        · subst e; rw [upf_same, upf_same]; rfl
        · rw [upf_ne _ _ e, upf_ne _ _ e]
      have hr3 : Blk W2 gr 3 #[.int .i64 (tg : Int)] := by rw [← hW2]; exact Blk.at_ hzs
      have hb3 : Below W.heap.size W W2 := by rw [← hW2]; exact (hb.setCell (p := ⟨gF, tg, none⟩) (by have := HGF.out; show W.heap.size ≤ gF; omega) _).alloc (by rw [hzs]; have := hb.size; omega) _
      have hm3 : Mid W2 (gF + 1) 3 (.slice (some ⟨gr, 0, none⟩) 1 1) [tg].length ([tg].map iv) := ⟨rfl, .inr ⟨gr, 0, 1, #[.int .i64 (tg : Int)], rfl, by omega, hr3, Nat.le_refl _, by simp [maxLen], by simp, rfl⟩⟩
      obtain ⟨hbf, hcl⟩ := BF.start (bk := bk) ht
      have hun := un_start ht
      have HF3 := hide hf3
      have HB3 := hide hb3
      have HM3 := hide hm3
      have HBF := hide hbf
      have HCL := hide hcl
      have HUN := hide hun
      clear hf hb hf2 hf3 hr3 hb3 hm3 hbf hcl hun hfl hzs
      go_wp2_with fail
      clear hW2 hgr
      go_loopg [7] k (fun q t W' => ∃ (fr : Nat → Option Nat) (row : List Nat), un k fr + row.length ≤ q ∧ un k fr + row.length ≤ k ∧ BF k bk tg fr row ∧ Clo bk tg fr row ∧ Mid W' (gF + 1) 3 t row.length (row.map iv) ∧ Blk W' gF 3 (tab k fun u => pv (fr u)) ∧ Below W.heap.size W W')
      case atStart => exact ⟨_, [tg], unhide HUN, unhide HUN, unhide HBF, unhide HCL, unhide HM3, unhide HF3, unhide HB3⟩
      case round =>
        clear HUN HBF HCL HM3 HF3 HB3 p0 pf
        obtain ⟨fr, row, hq, hqk, hbf, hcl, hm, hf, hb⟩ := hrel
        rcases row with _ | ⟨h, rest⟩
        · obtain ⟨Ar, cr, rfl⟩ := hm.shape
          have hfar := hide (hbf.done hcl)
          have HF := hide hf
          have HB := hide hb
          have hgW : W.heap.size ≤ gF := by have := HGF.out; omega
          clear hbf hcl hm hf hb hq hqk
          go_wp2_with fail
          go_ret
          exact ⟨gF, fr, rfl, hgW, unhide HF, unhide HB, unhide hfar⟩
        · obtain ⟨hhN, kh, hkh⟩ := hbf.mem h (by simp)
          obtain ⟨gq, rfl⟩ : ∃ q, gk = q + 1 := ⟨gk - 1, by simp at hq; omega⟩
          have hnr := (unhide HNET).below hb
          obtain ⟨La, hLa⟩ : ∃ L, (bk h).length = L := ⟨_, rfl⟩
          have hoa := hnr.own h hhN
          obtain ⟨Ax, cx, hvx⟩ := hoa.shape
          rw [hvx] at hoa
          rw [hLa] at hoa hvx
          have g1 : wr.cell? ⟨gB, h, none⟩ = some (.slice Ax La cx) := by rw [← hvx]; exact (hnr.blk.cell h).trans (tab_at _ hhN)
          have hLal : La ≤ 1048576 := hLa ▸ unhide HBL h
          have hrd := Reads.of_own ((unhide HNET).own h hhN |> fun o => by rw [hvx, hLa] at o; exact o)
          obtain ⟨Lr, hLr⟩ : ∃ L, (h :: rest).length = L + 1 := ⟨rest.length, rfl⟩
          have hm' := hm
          rw [hLr] at hm'
          obtain ⟨Ao, co, rfl⟩ := hm'.shape
          obtain ⟨gr2, off, rfl, hgB, hgl, hlc, hcm, hcell⟩ := hm'.form (by omega)
          have c2 : wr.cell? ⟨gr2, off, none⟩ = some (.int .i64 (h : Int)) := hcell 0 (by omega)
          have hLrI : (0 : Int) < ((Lr + 1 : Nat) : Int) := by omega
          have hx0I : (0 : Int) ≤ (h : Int) := by omega
          have hxI : (h : Int) < (k : Int) := by omega
          obtain ⟨w0, hw0⟩ : ∃ w0, un k fr + (h :: rest).length = w0 := ⟨_, rfl⟩
          have HQ := hide (show w0 ≤ gq + 1 ∧ w0 ≤ k from ⟨hw0 ▸ hq, hw0 ▸ hqk⟩)
          have HW0 := Lib.hid hw0
          have HLA := Lib.hid hLa
          have HRD := hide hrd
          have HLR := Lib.hid hLr
          have HM := hide hm
          have HBF := hide hbf
          have HCL := hide hcl
          have HF := hide hf
          have HB := hide hb
          clear hnr hoa hvx hLa hrd hLr hm hm' hgB hgl hlc hcm hcell hbf hcl hf hb hq hqk hw0 hkh
          go_wp2_with fail
          go_loopg [7, 39] La (fun q t7 t W' => ∃ (j : Nat) (fr' : Nat → Option Nat) (rest' : List Nat), t = .int .i64 (j : Int) ∧ j + q = La ∧ un k fr' + (h :: rest').length ≤ w0 ∧ BF k bk tg fr' (h :: rest') ∧ Clo bk tg fr' (h :: rest') ∧ Tld tg fr' h ((bk h).take j) ∧ Mid W' (gF + 1) 3 t7 (h :: rest').length ((h :: rest').map iv) ∧ Blk W' gF 3 (tab k fun u => pv (fr' u)) ∧ Below W.heap.size W W')
          case atStart => exact ⟨0, fr, rest, rfl, by omega, by rw [HW0.out]; exact Nat.le_refl _, unhide HBF, unhide HCL, fun i hi => by simp at hi, by
            have h := unhide HM
            rw [HLR.out] at h ⊢
            exact h, unhide HF, unhide HB⟩
          case round =>
            clear HBF HCL HM HF HB c2 g1
            obtain ⟨j, fr', rest', rfl, hjq, hun, hbf, hcl, htl, hm, hf, hb⟩ := hrel
            have hj0 : (0 : Int) ≤ (j : Int) := by omega
            obtain ⟨Lp, hLp⟩ : ∃ L, (h :: rest').length = L + 1 := ⟨rest'.length, rfl⟩
            have hm' := hm
            rw [hLp] at hm'
            obtain ⟨A6, c6, rfl⟩ := hm'.shape
            by_cases hj : j < La
            · have hjI : (j : Int) < (La : Int) := by omega
              obtain ⟨gq2, rfl⟩ : ∃ q, gk = q + 1 := ⟨gk - 1, by omega⟩
              obtain ⟨i, hi⟩ : ∃ i, (bk h)[j]? = some i := ⟨_, List.getElem?_eq_getElem (by rw [HLA.out]; exact hj)⟩
              obtain ⟨ba, oa, u, rfl, _, hu, hcu, _⟩ := ((unhide HRD).below hb).at0 hj
              rw [List.getElem?_map, hi] at hu
              injection hu with hu
              subst hu
              have c3 : wr.cell? ⟨ba, oa + j, none⟩ = some (.int .i64 (i : Int)) := hcu
              have hiN : i < k := unhide HBK h hhN i (List.mem_of_getElem? hi)
              have hsn : (bk h).take (j + 1) = (bk h).take j ++ [i] := by rw [List.take_add_one, hi, Option.toList_some]
              have HSN := Lib.hid hsn
              have himem : i ∈ bk h := List.mem_of_getElem? hi
              have hi0 : (0 : Int) ≤ (i : Int) := by omega
              have hiI : (i : Int) < (k : Int) := by omega
              obtain ⟨_, kh', hkh'⟩ := hbf.mem h (by simp)
              have hkl := chain_lt ht hbf.down hkh'
              by_cases hgt : tg < i
              · have hgI : (tg : Int) < (i : Int) := by omega
                cases hfi : fr' i with
                | none =>
                  have y1 : wr.cell? ⟨gF, i, none⟩ = some (.int .i64 (-1)) := by rw [hf.cell i, tab_at _ hiN, hfi]; rfl
                  have y1f : wr.frozen? ⟨gF, i, none⟩ = false := hf.frozen i
                  have y2 : wr.cell? ⟨gF, h, none⟩ = some (.int .i64 (kh' : Int)) := by rw [hf.cell h, tab_at _ hhN, hkh']; rfl
                  obtain ⟨gr6, off6, rfl, hgB6, hgl6, hlc6, hcm6, hcell6⟩ := hm'.form (by omega)
                  have y3 : wr.cell? ⟨gr6, off6, none⟩ = some (.int .i64 (h : Int)) := hcell6 0 (by omega)
                  have hLpI : (0 : Int) < ((Lp + 1 : Nat) : Int) := by omega
                  obtain ⟨Wb, hWb⟩ : ∃ Wb, wr.setCell ⟨gF, i, none⟩ (.int .i64 ((kh' : Int) + 1)) = Wb := ⟨_, rfl⟩
                  have hcb : Chg wr Wb (fun b => b = gF) := by rw [← hWb]; exact Chg.of_set wr ⟨gF, i, none⟩ _
                  have hkv : kv fr' h = kh' := kv_of hkh'
                  have hfb : Blk Wb gF 3 (tab k fun u => pv (upf fr' i (some (kv fr' h + 1)) u)) := by
                    rw [← hWb]
                    refine Blk.set_tab hf i _ (fun u => ?_)
                    by_cases e : u = i
                    · subst e; rw [upf_same, upf_same, hkv]; rfl
                    · rw [upf_ne _ _ e, upf_ne _ _ e]
                  have hmb : Mid Wb (gF + 1) 3 (.slice (some ⟨gr6, off6, none⟩) (Lp + 1) c6) (Lp + 1) ((h :: rest').map iv) := hm'.chg hcb (fun b hb' e => by have := (hm'.lt hb').1; omega)
                  have hbb : Below W.heap.size W Wb := hb.trans (hcb.below hb.size (fun b hb' e => by have := HGF.out; omega))
                  have hzb : gF + 1 ≤ Wb.heap.size := hfb.lt
                  have hbf2 := hbf.add hiN hgt hfi himem
                  have hcl2 := hcl.add (v := kv fr' h + 1) hfi
                  have hne : h ≠ i := fun e => by rw [← e, hkh'] at hfi; cases hfi
                  have htl2 : Tld tg (upf fr' i (some (kv fr' h + 1))) h ((bk h).take (j + 1)) := by
                    rw [hsn]
                    intro x hx hlt
                    rw [List.mem_append, List.mem_singleton] at hx
                    rcases hx with hx | rfl
                    · exact htl.add hfi hne x hx hlt
                    · refine ⟨_, upf_same _ _ _, ?_⟩
                      have : kv (upf fr' x (some (kv fr' h + 1))) h = kv fr' h := by unfold kv; rw [upf_ne _ _ hne]
                      rw [this]; exact Nat.le_refl _
                  have hun2 : un k (upf fr' i (some (kv fr' h + 1))) + ((h :: rest') ++ [i]).length ≤ w0 := by
                    have := un_add (v := kv fr' h + 1) hiN hfi
                    rw [List.length_append]; simp at hun ⊢; omega
                  have hlr : Lp ≤ 70000 := by
                    have h1 := unhide HQ
                    omega
                  have HFB := hide hfb
                  have HMB := hide hmb
                  have HBB := hide hbb
                  have HBF2 := hide hbf2
                  have HCL2 := hide hcl2
                  have HTL2 := hide htl2
                  have HUN2 := hide hun2
                  have HLP := Lib.hid hLp
                  have HC8 : Hid (Lp + 1 + 1 ≤ maxLen ∧ (Lp + 1 + 1) * 8 ≤ 140737488355328) := cap8 (by omega)
                  clear hbf hcl htl hm hm' hf hb hun hi hsn hcu hgB6 hgl6 hlc6 hcm6 hcell6 hcb hkv hfb hmb hbb hbf2 hcl2 htl2 hun2 hLp hfi hkh' himem hne
                  go_wp2_with (first
                    | (at_builtin
                       refine wpList_mid1 Wb rfl (.tmp 63) (.tmp 65) 25 rfl elem_int (gF + 1) (.slice (some ⟨gr6, off6, none⟩) (Lp + 1) c6) (Lp + 1) ((h :: rest').map iv) rfl (unhide HMB) (.int .i64 (i : Int)) Wb.heap.size rfl rfl rfl HC8.out hzb ?_
                       intro v5 w5 hm5 hg5 hr5
                       obtain ⟨A5, c5, rfl⟩ := hm5.shape
                       have HF5 := hide ((unhide HFB).grown hg5 (fun e => by have := ((unhide HMB).lt e.symm).1; omega))
                       have HB5 := hide ((unhide HBB).grown hg5 (unhide HBB).size (fun g e => by have := ((unhide HMB).lt e).1; have := HGF.out; omega))
                       have HM5 := hide hm5
                       clear hm5 hg5 hr5))
                  go_roundg gq2
                  case rel => exact ⟨j + 1, _, rest' ++ [i], by go_num, by omega, unhide HUN2, unhide HBF2, unhide HCL2, unhide HTL2, by
                    have h5 := unhide HM5
                    have e1 : (h :: (rest' ++ [i])).length = Lp + 1 + 1 := by have := HLP.out; simp at this ⊢; omega
                    have e2 : (h :: (rest' ++ [i])).map iv = (h :: rest').map iv ++ [.int .i64 (i : Int)] := by simp [iv]
                    rw [e1, e2]
                    exact h5, unhide HF5, unhide HB5⟩
                  case measure => omega
                | some kk =>
                  have hkkl := chain_lt ht hbf.down hfi
                  have y1 : wr.cell? ⟨gF, i, none⟩ = some (.int .i64 (kk : Int)) := by rw [hf.cell i, tab_at _ hiN, hfi]; rfl
                  have hkk0 : ¬ (kk : Int) < 0 := by omega
                  have htl2 : Tld tg fr' h ((bk h).take (j + 1)) := by
                    rw [hsn]
                    intro x hx hlt
                    rw [List.mem_append, List.mem_singleton] at hx
                    rcases hx with hx | rfl
                    · exact htl x hx hlt
                    · exact ⟨kk, hfi, hbf.bound h rest' rfl x kk hfi⟩
                  have HUN := hide hun
                  have HBF := hide hbf
                  have HCL := hide hcl
                  have HTL := hide htl2
                  have HM := hide hm
                  have HLP := Lib.hid hLp
                  have HF := hide hf
                  have HB := hide hb
                  clear hbf hcl htl htl2 hm hm' hf hb hun hi hsn hcu hLp hfi hkh' himem
                  go_wp2_with fail
                  go_roundg gq2
                  case rel => exact ⟨j + 1, fr', rest', by go_num, by omega, unhide HUN, unhide HBF, unhide HCL, unhide HTL, by
                    have h := unhide HM
                    rw [HLP.out] at h ⊢
                    exact h, unhide HF, unhide HB⟩
                  case measure => omega
              · have hgI : ¬ (tg : Int) < (i : Int) := by omega
                have htl2 : Tld tg fr' h ((bk h).take (j + 1)) := by
                  rw [hsn]
                  intro x hx hlt
                  rw [List.mem_append, List.mem_singleton] at hx
                  rcases hx with hx | rfl
                  · exact htl x hx hlt
                  · exact absurd hlt hgt
                have HUN := hide hun
                have HBF := hide hbf
                have HCL := hide hcl
                have HTL := hide htl2
                have HM := hide hm
                have HLP := Lib.hid hLp
                have HF := hide hf
                have HB := hide hb
                clear hbf hcl htl htl2 hm hm' hf hb hun hi hsn hcu hLp hkh' himem
                go_wp2_with fail
                go_roundg gq2
                case rel => exact ⟨j + 1, fr', rest', by go_num, by omega, unhide HUN, unhide HBF, unhide HCL, unhide HTL, by
                  have h := unhide HM
                  rw [HLP.out] at h ⊢
                  exact h, unhide HF, unhide HB⟩
                case measure => omega
            · obtain rfl : j = La := by omega
              rw [List.take_of_length_le (by have := HLA.out; omega)] at htl
              have hmid := hm'
              have hlr : Lp = rest'.length := by simp at hLp; omega
              rw [List.map_cons] at hmid
              have hmc := hmid.cut
              obtain ⟨Ac, hAc⟩ : ∃ v, v = (if c6 = 1 then A6 else A6.map (·.add (1 * 1))) := ⟨_, rfl⟩
              obtain ⟨cc, hcc⟩ : ∃ v, v = c6 - 1 := ⟨_, rfl⟩
              rw [← hAc, ← hcc] at hmc
              have hsl : ∀ w, (Instr.slice 25 (.slice A6 (Lp + 1) c6) (some (.int .i64 1)) none none).run Try.prog w = .ok (.slice Ac Lp cc) w := fun w => by rw [hAc, hcc]; exact run_cut1 A6 c6 (by omega) w
              have HUN := hide (show un k fr' + rest'.length ≤ gq ∧ un k fr' + rest'.length ≤ k by have := unhide HQ; simp at hun; omega)
              have HBF := hide hbf.pop
              have HCL := hide (hcl.pop htl)
              have HM := hide (show Mid wr (gF + 1) 3 (.slice Ac Lp cc) rest'.length (rest'.map iv) from hlr ▸ hmc)
              have HF := hide hf
              have HB := hide hb
              clear hbf hcl htl hm hm' hmid hmc hf hb hun hLp hAc hcc hlr
              go_wp2_with fail
              go_roundg gq
              case rel => exact ⟨fr', rest', (unhide HUN).1, (unhide HUN).2, unhide HBF, unhide HCL, unhide HM, unhide HF, unhide HB⟩
              case measure => omega
end Go.Proofs.Ytmcpbmadjpjckaa
