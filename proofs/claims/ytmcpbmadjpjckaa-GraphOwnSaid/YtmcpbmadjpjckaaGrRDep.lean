/-
  The document's depths of a graph: the walk over the Go text. (IN WORK)
-/
import Derived.Test.YtmcpbmadjpjckaaGrWays
import Derived.BigQuiet
namespace Go.Proofs.Ytmcpbmadjpjckaa
open Go.RowKit

def tot (N : Nat) (D : Nat → Nat) : Nat := ((List.range N).map D).sum
theorem tot_succ (N : Nat) (D : Nat → Nat) : tot (N + 1) D = tot N D + D N := by rw [tot, List.range_succ, List.map_append, List.sum_append]; simp [tot]
theorem tot_le {N : Nat} {D F : Nat → Nat} (h : ∀ u, u < N → D u ≤ F u) : tot N D ≤ tot N F := by
  induction N with
  | zero => exact Nat.le_refl _
  | succ N ih => rw [tot_succ, tot_succ]; have := ih (fun u hu => h u (by omega)); have := h N (by omega); omega
theorem tot_upf {N : Nat} {D : Nat → Nat} {k v : Nat} (hk : k < N) (hv : D k < v) : tot N D < tot N (upf D k v) := by
  induction N with
  | zero => omega
  | succ N ih =>
    rw [tot_succ, tot_succ]
    by_cases e : k = N
    · subst e
      rw [upf_same]
      have : tot k (upf D k v) = tot k D := by
        unfold tot
        congr 1
        apply List.map_congr_left
        intro u hu
        rw [upf_ne _ _ (by have := List.mem_range.1 hu; omega)]
      omega
    · rw [upf_ne _ _ (fun h => e h.symm)]
      have := ih (by omega)
      omega

theorem Blk.set_tab2 {W : World} {g n : Nat} {t : TypeId} {f f' : Nat → Value} (h : Blk W g t (tab n f)) (p : Nat) (v : Value) (he : ∀ u, f' u = upf f p v u) : Blk (W.setCell ⟨g, p, none⟩ v) g t (tab n f') := by
  have h2 := h.set_ p v
  rw [tab_set] at h2
  rw [tab_congr he]
  exact h2
/-- A weight on a round, as the document asks for it. -/
def OnRound (E : List (Int × Int × Int)) (e : Int × Int × Int) : Prop := 0 < e.2.2 ∧ (e.1 = e.2.1 ∨ Way (adjOf E false) e.2.1.toNat e.1.toNat)
/-- Numbers that fall by each edge's weight. -/
def Sol (E : List (Int × Int × Int)) (F : Nat → Nat) : Prop := ∀ e ∈ E, F e.2.1.toNat + e.2.2.toNat ≤ F e.1.toNat
/-- What the document's Depths answers. -/
def RDepOut (W : World) (n : Int) (E : List (Int × Int × Int)) (e : Ending) (W' : World) : Prop :=
  Below W.heap.size W W' ∧ ((chkS n E ≠ 0 ∧ e = .returned (.tuple #[.slice none 0 0, .int .i64 (chkS n E)])) ∨ (chkS n E = 0 ∧
    (((∃ e ∈ E, OnRound E e) ∧ e = .returned (.tuple #[.slice none 0 0, .int .i64 100])) ∨
     ((∀ e ∈ E, ¬ OnRound E e) ∧ ∃ (N : Nat) (D : Nat → Nat) (g : Nat), n = (N : Int) ∧ e = .returned (.tuple #[.slice (some ⟨g, 0, none⟩) N N, .int .i64 0]) ∧ W.heap.size ≤ g ∧ Blk W' g 3 (tab N fun u => iv (D u)) ∧ IsDepth N E D))))

set_option maxRecDepth 100000 in
set_option maxHeartbeats 4000000 in
theorem refDepths_any (W : World) (n : Int) (A : Option Addr) (m cap B0 : Nat) (E : List (Int × Int × Int)) (hr : Reads W B0 3 A m (ecells E)) (hB0 : B0 ≤ W.heap.size) (hm : m ≤ 140737488355328)
    (Fs : Nat → Nat) (hFb : ∀ u, Fs u ≤ 1099511627776) (hFs : chkS n E = 0 → (∀ e ∈ E, ¬ OnRound E e) → Sol E Fs) :
    Calls Try.prog 12 #[.int .i64 n, .slice A m cap] W (RDepOut W n E) := by
  have hC := hide (refCheck_any W n A m cap B0 E hr hB0 hm)
  have hlen : E.length = m := by have := hr.1; rw [ecells_len] at this; omega
  have HL := Lib.hid hlen
  obtain ⟨c, hc⟩ : ∃ c, chkS n E = c := ⟨_, rfl⟩
  rw [hc] at hC
  have HR := hide hr
  have HC := Lib.hid hc
  have HFS := hide hFs
  have HFB := hide hFb
  clear hr hlen hc hFs hFb
  go_enter Try.func12, Try.ntmps12
  go_wp2_with fail
  refine (unhide hC).mono ?_
  rintro e w1 ⟨rfl, hb1⟩
  have HB1 := hide hb1
  clear hb1 hC
  by_cases h0 : c = 0
  · subst h0
    obtain ⟨g1, g2, g3, hE⟩ := chk_ok HC.out
    obtain ⟨N, rfl⟩ := Int.eq_ofNat_of_zero_le g3
    have hN : N ≤ 65536 := by omega
    have hm2 : m ≤ 1048576 := by rw [← HL.out]; exact g2
    have hF := hide (ways_any w1 N A m cap B0 E ((unhide HR).below ((unhide HB1).mono hB0)) (Nat.le_trans hB0 (unhide HB1).size) hN hm2 hE)
    have HE := hide hE
    have HG := hide (And.intro g1 g2)
    clear hE g1 g2 g3
    go_wp2_with fail
    refine (unhide hF).mono ?_
    rintro e w2 ⟨v, G, rfl, hwo⟩
    obtain ⟨Ao, co, rfl⟩ := hwo.own.shape
    have hmk := fun w => make_ints w N (by omega)
    have HWO := hide hwo
    have hbb : Below W.heap.size W w2 := (unhide HB1).trans (hwo.bel.mono (unhide HB1).size)
    have HBB := hide hbb
    clear hwo hF hbb
    go_wp2_with fail
    go_loopg [8] m (fun q t W' => ∃ j : Nat, t = .int .i64 (j : Int) ∧ j + q = m ∧ Below w2.heap.size w2 W' ∧ ∀ e ∈ E.take j, ¬ OnRound E e)
    case atStart => exact ⟨0, rfl, by omega, Below.refl _ _, by simp⟩
    case round =>
      obtain ⟨j, rfl, hjq, hb, hno⟩ := hrel
      have hj0 : (0 : Int) ≤ (j : Int) := by omega
      by_cases hj : j < m
      · have hjm : (j : Int) < (m : Int) := by omega
        obtain ⟨gq, rfl⟩ : ∃ q, gk = q + 1 := ⟨gk - 1, by omega⟩
        have hbw : Below W.heap.size W wr := (unhide HBB).trans (hb.mono (unhide HBB).size)
        obtain ⟨b, off, f, t, gw, rfl, hbB, he, c1, c2, c3⟩ := ((unhide HR).below (hbw.mono hB0)).edge hj
        obtain ⟨F, T, WT, he2, hFN, hTN, hWT⟩ := okE_parts (unhide HE _ (List.mem_of_getElem? he))
        injection he2 with e1 e2
        injection e2 with e2 e3
        subst e1
        subst e2
        subst e3
        obtain ⟨x, hx⟩ : ∃ x, wr.heap.size = x := ⟨_, rfl⟩
        obtain ⟨W2, hW2⟩ : ∃ W2, wr.alloc (.cells #[.int .i64 (F : Int), .int .i64 (T : Int), .int .i64 (WT : Int)] 65) = W2 := ⟨_, rfl⟩
        have hb2 : Below wr.heap.size wr W2 := by rw [← hW2]; exact (Below.refl _ _).alloc (Nat.le_refl _) _
        have hx2 : Blk W2 x 65 #[.int .i64 (F : Int), .int .i64 (T : Int), .int .i64 (WT : Int)] := by rw [← hW2, ← hx]; exact Blk.new _ _ _
        have hb3 := hb.trans (hb2.mono hb.size)
        have hown := (Chg.of_below hb3 (fun _ => False)).own (unhide HWO).own (fun _ _ h => h)
        obtain ⟨go, cap', hv, _, _⟩ := hown.form (by omega)
        obtain ⟨rfl, rfl⟩ : Ao = some ⟨go, 0, none⟩ ∧ co = cap' := by cases hv; exact ⟨rfl, rfl⟩
        have d0 : W2.cell? ⟨x, 0, none⟩ = some (.int .i64 (F : Int)) := hx2.cell 0
        have d1 : W2.cell? ⟨x, 1, none⟩ = some (.int .i64 (T : Int)) := hx2.cell 1
        have d2 : W2.cell? ⟨x, 2, none⟩ = some (.int .i64 (WT : Int)) := hx2.cell 2
        have r0 : W2.cell? ⟨go, T, none⟩ = some (.slice (some ⟨G T, 0, none⟩) N N) := by rw [own_cell hown hTN, List.getElem?_map, List.getElem?_range hTN]; rfl
        have r1 : W2.cell? ⟨G T, F, none⟩ = some (.bool (wayB (adjOf E false) T F)) := by
          have hb4 := (unhide HWO).blk T hTN
          exact ((hb4.below hb3 hb4.lt).cell F).trans (tab_at _ hFN)
        have hF0 : (0 : Int) ≤ (F : Int) := by omega
        have hT0 : (0 : Int) ≤ (T : Int) := by omega
        have hFI : (F : Int) < (N : Int) := by omega
        have hTI : (T : Int) < (N : Int) := by omega
        have hsnoc : E.take (j + 1) = E.take j ++ [((F : Int), (T : Int), (WT : Int))] := by rw [List.take_add_one, he, Option.toList_some]
        have HSN := Lib.hid hsnoc
        have HB := hide hb3
        have HNO := hide hno
        have HMEM := hide (List.mem_of_getElem? he)
        have hbx := hide (hbw.trans (hb2.mono hbw.size))
        have hyes : OnRound E ((F : Int), (T : Int), (WT : Int)) ↔ (0 < WT ∧ (F = T ∨ wayB (adjOf E false) T F = true)) := by
          unfold OnRound wayB
          simp only [Int.toNat_natCast, decide_eq_true_eq]
          constructor
          · rintro ⟨h1, h2⟩; exact ⟨by omega, h2.imp (by intro h; omega) id⟩
          · rintro ⟨h1, h2⟩; exact ⟨by omega, h2.imp (by intro h; omega) id⟩
        have HYES := hide hyes
        obtain ⟨wb, hwb⟩ : ∃ b, wayB (adjOf E false) T F = b := ⟨_, rfl⟩
        have HWB := Lib.hid hwb
        rw [hwb] at r1
        clear hb hno he hb2 hx2 hb3 hown hv hbw hsnoc hyes hwb
        by_cases hw : 0 < WT
        · have hwI : (0 : Int) < (WT : Int) := by omega
          by_cases hft : F = T
          · subst hft
            go_wp2_with fail
            go_quiet (fail)
            all_goals
              go_wp2_with fail
              go_ret2
              exact ⟨below_drewN (unhide hbx) _, .inr ⟨HC.out, .inl ⟨⟨_, unhide HMEM, (unhide HYES).2 ⟨hw, .inl trivial⟩⟩, rfl⟩⟩⟩
          · have hftI : ¬ (F : Int) = (T : Int) := by omega
            cases wb with
            | true =>
              go_wp2_with fail
              go_quiet (fail)
              all_goals
                go_wp2_with fail
                go_ret2
                exact ⟨below_drewN (unhide hbx) _, .inr ⟨HC.out, .inl ⟨⟨_, unhide HMEM, (unhide HYES).2 ⟨hw, .inr HWB.out⟩⟩, rfl⟩⟩⟩
            | false =>
              go_wp2_with fail
              go_quiet (fail)
              rename_i nq
              go_wp2_with fail
              go_roundg gq
              case rel =>
                refine ⟨j + 1, by go_num, by omega, below_drewN (unhide HB) nq, fun e he => ?_⟩
                rw [HSN.out, List.mem_append, List.mem_singleton] at he
                rcases he with he | rfl
                · exact unhide HNO e he
                · intro h
                  have h := (unhide HYES).1 h
                  rcases h.2 with h | h
                  · exact hft h
                  · rw [HWB.out] at h; cases h
              case measure => omega
        · have hwI : ¬ (0 : Int) < (WT : Int) := by omega
          go_wp2_with fail
          go_quiet (fail)
          rename_i nq
          go_wp2_with fail
          go_roundg gq
          case rel =>
            refine ⟨j + 1, by go_num, by omega, below_drewN (unhide HB) nq, fun e he => ?_⟩
            rw [HSN.out, List.mem_append, List.mem_singleton] at he
            rcases he with he | rfl
            · exact unhide HNO e he
            · intro h
              have h := (unhide HYES).1 h
              exact hw h.1
          case measure => omega
      · obtain rfl : j = m := by omega
        obtain ⟨wo, rfl⟩ : ∃ w : World, w = wr := ⟨_, rfl⟩
        have hel : E.take j = E := List.take_of_length_le (by have := HL.out; omega)
        rw [hel] at hno
        have hsol : Sol E Fs := unhide HFS HC.out hno
        have hbw : Below W.heap.size W wo := (unhide HBB).trans (hb.mono (unhide HBB).size)
        obtain ⟨g, hg⟩ : ∃ g, wo.heap.size = g := ⟨_, rfl⟩
        obtain ⟨W3, hW3⟩ : ∃ W3, wo.alloc (.cells (tab N fun _ => .int .i64 0) 3) = W3 := ⟨_, rfl⟩
        have hb3 : Below wo.heap.size wo W3 := by rw [← hW3]; exact (Below.refl _ _).alloc (Nat.le_refl _) _
        have hd3 : Blk W3 g 3 (tab N fun u => iv ((fun _ => 0) u)) := by rw [← hW3, ← hg]; exact Blk.new _ _ _
        obtain ⟨TF, hTF⟩ : ∃ t, tot N Fs = t := ⟨_, rfl⟩
        have HTF := Lib.hid hTF
        have HNO := hide hno
        have HSOL := hide hsol
        have HBW := hide hbw
        have HB3 := hide hb3
        have HD3 := hide hd3
        have HGG := Lib.hid hg
        clear hb hno hel hsol hbw hb3 hd3 hTF
        go_wp2_with fail
        clear hW3 hg
        go_loopg [11] (TF + 1) (fun q t W' => ∃ (D : Nat → Nat) (more : Bool), t = .bool more ∧ (TF - tot N D) + (if more then 1 else 0) ≤ q ∧ Blk W' g 3 (tab N fun u => iv (D u)) ∧ Chg W3 W' (fun b => b = g) ∧ (∀ F, Sol E F → ∀ u, D u ≤ F u) ∧ (more = false → Sol E D))
        case atStart => exact ⟨fun _ => 0, true, rfl, by simp, unhide HD3, Chg.refl _ _, fun F _ u => Nat.zero_le _, by simp⟩
        case round =>
          obtain ⟨D, more, rfl, hq, hd, hc, hle, hso⟩ := hrel
          clear HD3
          cases more with
          | true =>
            simp only [if_true] at hq
            obtain ⟨gq, rfl⟩ : ∃ q, gk = q + 1 := ⟨gk - 1, by omega⟩
            obtain ⟨w0, hw0⟩ : ∃ w0, TF - tot N D = w0 := ⟨_, rfl⟩
            rw [hw0] at hq
            have HW0 := Lib.hid hw0
            have HD := hide hd
            have HC2 := hide hc
            have HLE := hide hle
            clear hd hc hle hso hw0
            go_wp2_with fail
            go_loopg [11, 12] j (fun q t11 t12 W' => ∃ (i : Nat) (D' : Nat → Nat) (more : Bool), t11 = .bool more ∧ t12 = .int .i64 (i : Int) ∧ i + q = j ∧ (TF - tot N D') + (if more then 1 else 0) ≤ w0 ∧ Blk W' g 3 (tab N fun u => iv (D' u)) ∧ Chg W3 W' (fun b => b = g) ∧ (∀ F, Sol E F → ∀ u, D' u ≤ F u) ∧ (more = false → Sol (E.take i) D'))
            case atStart => exact ⟨0, D, false, rfl, rfl, by omega, by rw [HW0.out]; simp, unhide HD, unhide HC2, unhide HLE, fun _ e he => by simp at he⟩
            case round =>
              obtain ⟨i, D', more, rfl, rfl, hiq, hwm, hd, hc, hle, hso⟩ := hrel
              clear HD HC2 HLE
              have hi0 : (0 : Int) ≤ (i : Int) := by omega
              by_cases hi : i < j
              · have hij : (i : Int) < (j : Int) := by omega
                obtain ⟨gq3, rfl⟩ : ∃ q, gk = q + 1 := ⟨gk - 1, by omega⟩
                have hbo : Below wo.heap.size wo wr := (unhide HB3).trans (hc.below (unhide HB3).size (fun i hi e => by have := HGG.out; omega))
                have hbw : Below W.heap.size W wr := (unhide HBW).trans (hbo.mono (unhide HBW).size)
                obtain ⟨b, off, f, t, gw, rfl, hbB, he, c1, c2, c3⟩ := ((unhide HR).below (hbw.mono hB0)).edge hi
                obtain ⟨F, T, WT, he2, hFN, hTN, hWT⟩ := okE_parts (unhide HE _ (List.mem_of_getElem? he))
                injection he2 with e1 e2
                injection e2 with e2 e3
                subst e1
                subst e2
                subst e3
                obtain ⟨x, hx⟩ : ∃ x, wr.heap.size = x := ⟨_, rfl⟩
                obtain ⟨W2, hW2⟩ : ∃ W2, wr.alloc (.cells #[.int .i64 (F : Int), .int .i64 (T : Int), .int .i64 (WT : Int)] 65) = W2 := ⟨_, rfl⟩
                have hb2 : Below wr.heap.size wr W2 := by rw [← hW2]; exact (Below.refl _ _).alloc (Nat.le_refl _) _
                have hx2 : Blk W2 x 65 #[.int .i64 (F : Int), .int .i64 (T : Int), .int .i64 (WT : Int)] := by rw [← hW2, ← hx]; exact Blk.new _ _ _
                have hd2 := hd.below hb2 hd.lt
                have hgx : g ≠ x := by have := hd.lt; omega
                obtain ⟨dF, hdF⟩ : ∃ d, D' F = d := ⟨_, rfl⟩
                obtain ⟨dT, hdT⟩ : ∃ d, D' T = d := ⟨_, rfl⟩
                have hdFb : dF ≤ 1099511627776 := hdF ▸ Nat.le_trans (hle Fs (unhide HSOL) F) (unhide HFB F)
                have hdTb : dT ≤ 1099511627776 := hdT ▸ Nat.le_trans (hle Fs (unhide HSOL) T) (unhide HFB T)
                have d0 : W2.cell? ⟨x, 0, none⟩ = some (.int .i64 (F : Int)) := hx2.cell 0
                have d1 : W2.cell? ⟨x, 1, none⟩ = some (.int .i64 (T : Int)) := hx2.cell 1
                have d2 : W2.cell? ⟨x, 2, none⟩ = some (.int .i64 (WT : Int)) := hx2.cell 2
                have p0 : W2.cell? ⟨g, F, none⟩ = some (.int .i64 (dF : Int)) := by rw [← hdF]; exact (hd2.cell F).trans (tab_at _ hFN)
                have p1 : W2.cell? ⟨g, T, none⟩ = some (.int .i64 (dT : Int)) := by rw [← hdT]; exact (hd2.cell T).trans (tab_at _ hTN)
                have pf : W2.frozen? ⟨g, F, none⟩ = false := hd2.frozen F
                have hF0 : (0 : Int) ≤ (F : Int) := by omega
                have hT0 : (0 : Int) ≤ (T : Int) := by omega
                have hFI : (F : Int) < (N : Int) := by omega
                have hTI : (T : Int) < (N : Int) := by omega
                have hs1 : (0 : Int) ≤ (dT : Int) + (WT : Int) := by omega
                have hs2 : (dT : Int) + (WT : Int) ≤ 2199023255552 := by omega
                have hsnoc : E.take (i + 1) = E.take i ++ [((F : Int), (T : Int), (WT : Int))] := by rw [List.take_add_one, he, Option.toList_some]
                have HSN := Lib.hid hsnoc
                have HMEM := hide (List.mem_of_getElem? he)
                have HDF := Lib.hid hdF
                have HDT := Lib.hid hdT
                have HD2 := hide hd2
                have HC3 := hide (hc.bel hb2)
                have HLE2 := hide hle
                have HSO := hide hso
                clear hbo hbw he hb2 hx2 hd2 hd hc hle hso hdF hdT hsnoc
                by_cases hgt : dF < dT + WT
                · have hgI : (dF : Int) < (dT : Int) + (WT : Int) := by omega
                  go_wp2_with fail
                  go_quiet (fail)
                  rename_i nq
                  go_wp2_with fail
                  obtain ⟨Wa, hWa⟩ : ∃ w, W2.drewN nq = w := ⟨_, rfl⟩
                  rw [hWa]
                  have hVk : ∀ p, Wa.cell? p = W2.cell? p := fun p => by rw [← hWa]; rfl
                  have hVf : ∀ p, Wa.frozen? p = W2.frozen? p := fun p => by rw [← hWa]; rfl
                  rw [← hVk] at d0 d1 d2 p0 p1
                  rw [← hVf] at pf
                  have HDA : Hid (Blk Wa g 3 (tab N fun u => iv (D' u))) := by show Blk _ _ _ _; rw [← hWa]; exact unhide HD2
                  have HCA : Hid (Chg W3 Wa (fun i => i = g)) := by
                    show Chg _ _ _
                    rw [← hWa]
                    have h := unhide HC3
                    exact ⟨h.os, h.tape, h.output, h.size, h.block⟩
                  clear hVk hVf hWa HD2 HC3 hW2 c1 c2 c3
                  go_region
                  go_wp2_with fail
                  go_roundg gq3
                  case rel =>
                    have hlt : D' F < dT + WT := by rw [HDF.out]; exact hgt
                    have hle3 : ∀ F', Sol E F' → ∀ u, upf D' F (dT + WT) u ≤ F' u := fun F' hs u => by
                      by_cases e : u = F
                      · subst e
                        rw [upf_same]
                        have h1 := hs _ (unhide HMEM)
                        have h2 := unhide HLE2 F' hs T
                        rw [HDT.out] at h2
                        simp only [Int.toNat_natCast] at h1
                        omega
                      · rw [upf_ne _ _ e]; exact unhide HLE2 F' hs u
                    refine ⟨i + 1, upf D' F (dT + WT), true, rfl, by go_num, by omega, ?_, ?_, (unhide HCA).drew.set_ ⟨g, F, none⟩ _ (fun _ => rfl), hle3, by simp⟩
                    · have h1 := tot_upf hFN hlt
                      have h2 : tot N (upf D' F (dT + WT)) ≤ TF := by rw [← HTF.out]; exact tot_le fun u _ => hle3 Fs (unhide HSOL) u
                      simp only [if_true]
                      omega
                    · exact Blk.set_tab2 (Blk.drew (unhide HDA)) F _ (fun v => by
                        by_cases e : v = F
                        · subst e; rw [upf_same, upf_same]; rfl
                        · rw [upf_ne _ _ e, upf_ne _ _ e])
                  case measure => omega
                · have hgI : ¬ (dF : Int) < (dT : Int) + (WT : Int) := by omega
                  go_wp2_with fail
                  go_quiet (fail)
                  rename_i nq
                  go_wp2_with fail
                  go_roundg gq3
                  case rel =>
                    refine ⟨i + 1, D', more, rfl, by go_num, by omega, hwm, (unhide HD2).drewN nq, ?_, unhide HLE2, fun hm e he => ?_⟩
                    · have h := unhide HC3
                      exact ⟨h.os, h.tape, h.output, h.size, h.block⟩
                    · rw [HSN.out, List.mem_append, List.mem_singleton] at he
                      rcases he with he | rfl
                      · exact unhide HSO hm e he
                      · simp only [Int.toNat_natCast]
                        rw [HDF.out, HDT.out]
                        omega
                  case measure => omega
              · obtain rfl : i = j := by omega
                have hel : E.take i = E := List.take_of_length_le (by have := HL.out; omega)
                rw [hel] at hso
                have HD2 := hide hd
                have HC3 := hide hc
                have HLE2 := hide hle
                have HSO := hide hso
                clear hd hc hle hso hel
                go_wp2_with fail
                go_roundg gq
                case rel => exact ⟨D', more, rfl, by omega, unhide HD2, unhide HC3, unhide HLE2, unhide HSO⟩
                case measure => omega
          | false =>
            have HD := hide hd
            have HBF := hide ((unhide HBW).trans (((unhide HB3).trans (hc.below (unhide HB3).size (fun i hi e => by have := HGG.out; omega))).mono (unhide HBW).size))
            have HIS := hide (show IsDepth N E D from ⟨hso rfl, fun F hF u _ => hle F hF u⟩)
            have hgW : W.heap.size ≤ g := by have := (unhide HBW).size; have := HGG.out; omega
            clear hd hc hle hso
            go_wp2_with fail
            go_ret2
            exact ⟨unhide HBF, .inr ⟨HC.out, .inr ⟨unhide HNO, N, D, g, rfl, rfl, hgW, unhide HD, unhide HIS⟩⟩⟩
  · go_wp2_with fail
    go_ret2
    exact ⟨unhide HB1, .inl ⟨by rw [HC.out]; exact h0, by rw [HC.out]; rfl⟩⟩
end Go.Proofs.Ytmcpbmadjpjckaa
