/-
  The document's ways: from each node to each, is there a way of one edge or more: the walk over the Go text. (IN WORK)
-/
import Derived.Test.YtmcpbmadjpjckaaGrFr
import Derived.Test.YtmcpbmadjpjckaaGrDepM
namespace Go.Proofs.Ytmcpbmadjpjckaa
open Go.RowKit

/-- A table of yes and no, as numbers. -/
def tb (th : Nat → Nat) (u : Nat) : Value := .bool (decide (th u ≠ 0))
open Classical in
noncomputable def wayB (adj : Nat → List Nat) (i j : Nat) : Bool := decide (Way adj i j)
theorem make_bools (w : World) (L : Nat) (hL : L ≤ 2097152) : (Instr.makeSlice 47 (.int .i64 (L : Int)) (.int .i64 (L : Int))).run Try.prog w = .ok (.slice (some ⟨w.heap.size, 0, none⟩) L L) (w.alloc (.cells (tab L fun _ => .bool false) 4)) :=
  make_tab (bytes := 1) Try.underlying47 (by kernel_rfl) rfl w L hL (by omega)
theorem elem_bools : ElemOf Try.prog 63 47 1 24 := .mk' (.slice none 0 0) Try.underlying63 (by kernel_rfl) rfl (by omega)

theorem wh_all0 (k : Nat) : wh k (fun _ => 0) = k := by
  induction k with
  | zero => rfl
  | succ k ih => rw [wh_succ, ih, if_pos rfl]
/-- What stands while the ways from a node grow. -/
structure WyS (W : World) (g N : Nat) (adj : Nat → List Nat) (i : Nat) (th : Nat → Nat) : Prop where
  blk : Blk W g 4 (tab N (tb th))
  sound : ∀ u, th u ≠ 0 → Way adj i u
theorem WyS.mark {W : World} {g N i f t : Nat} {adj : Nat → List Nat} {th : Nat → Nat} (h : WyS W g N adj i th) (ht : t ∈ adj f) (hf : f = i ∨ th f ≠ 0) : WyS (W.setCell ⟨g, t, none⟩ (.bool true)) g N adj i (upf th t 1) := by
  refine ⟨?_, fun u hu => ?_⟩
  · have := h.blk.set_ t (.bool true)
    rw [tab_set] at this
    rw [tab_congr (g := upf (tb th) t (.bool true)) fun v => ?_]
    · exact this
    · unfold tb upf
      split <;> simp
  · by_cases e : u = t
    · subst e
      rcases hf with rfl | hf
      · exact ⟨u, ht, .refl _⟩
      · obtain ⟨z, h1, h2⟩ := h.sound f hf
        exact ⟨z, h1, h2.tail ht⟩
    · rw [upf_ne _ _ e] at hu
      exact h.sound u hu
/-- All ways from a node are there. -/
theorem ways_closed {adj : Nat → List Nat} {i : Nat} {th : Nat → Nat} (h : ∀ f t, t ∈ adj f → (f = i ∨ th f ≠ 0) → th t ≠ 0) {j : Nat} (hw : Way adj i j) : th j ≠ 0 := by
  obtain ⟨t, h1, h2⟩ := hw
  have h0 := h i t h1 (.inl rfl)
  clear h1
  induction h2 with
  | refl => exact h0
  | step h3 _ ih => exact ih (h _ _ h3 (.inr h0))
open Classical in
theorem tab_ways {N i : Nat} {adj : Nat → List Nat} {th : Nat → Nat} (hs : ∀ u, th u ≠ 0 → Way adj i u) (h : ∀ f t, t ∈ adj f → (f = i ∨ th f ≠ 0) → th t ≠ 0) : tab N (tb th) = tab N fun j => .bool (wayB adj i j) :=
  tab_congr fun v => by
    unfold tb wayB
    by_cases e : th v ≠ 0
    · rw [decide_eq_true e, decide_eq_true (hs v e)]
    · rw [decide_eq_false e, decide_eq_false (fun hw => e (ways_closed h hw))]
/-- What ways answers. -/
structure WaysOut (W W' : World) (N : Nat) (adj : Nat → List Nat) (v : Value) (G : Nat → Nat) (k : Nat) : Prop where
  own : W'.ownsRow W.heap.size 47 1 v k ((List.range k).map fun i => .slice (some ⟨G i, 0, none⟩) N N)
  blk : ∀ i, i < k → Blk W' (G i) 4 (tab N fun j => .bool (wayB adj i j))
  bel : Below W.heap.size W W'

set_option maxRecDepth 100000 in
set_option maxHeartbeats 4000000 in
theorem ways_any (W : World) (N : Nat) (A : Option Addr) (m cap B0 : Nat) (E : List (Int × Int × Int)) (hr : Reads W B0 3 A m (ecells E)) (hB0 : B0 ≤ W.heap.size) (hN : N ≤ 65536) (hm : m ≤ 1048576) (hE : ∀ e ∈ E, okE (N : Int) e = true) :
    Calls Try.prog 33 #[.int .i64 (N : Int), .slice A m cap] W fun e W' => ∃ v G, e = .returned v ∧ WaysOut W W' N (adjOf E false) v G N := by
  have HR := hide hr
  have HE := hide hE
  have hmk := fun w => make_bools w N (by omega)
  obtain ⟨adj, hadj⟩ : ∃ adj, adjOf E false = adj := ⟨_, rfl⟩
  have HADJ := Lib.hid hadj
  have hlen : E.length = m := by have := hr.1; rw [ecells_len] at this; omega
  have HL := Lib.hid hlen
  clear hr hE hlen
  rw [hadj]
  clear hadj
  go_enter Try.func33, Try.ntmps33
  go_wp2_with fail
  go_loopg [5, 6] N (fun q t5 t6 W' => ∃ (k : Nat) (G : Nat → Nat), t6 = .int .i64 (k : Int) ∧ k + q = N ∧ WaysOut W W' N adj t5 G k)
  case atStart => exact ⟨0, fun _ => 0, rfl, by omega, ⟨⟨rfl, .inl ⟨rfl, rfl⟩⟩, fun i hi => by omega, Below.refl _ _⟩⟩
  case round =>
    obtain ⟨k, G, rfl, hkq, hw⟩ := hrel
    have hk0 : (0 : Int) ≤ (k : Int) := by omega
    obtain ⟨Ao, co, rfl⟩ := hw.own.shape
    by_cases hk : k < N
    · have hkN : (k : Int) < (N : Int) := by omega
      obtain ⟨gq, rfl⟩ : ∃ q, gk = q + 1 := ⟨gk - 1, by omega⟩
      obtain ⟨Wn, hWn⟩ : ∃ Wn, wr.alloc (.cells (tab N fun _ => .bool false) 4) = Wn := ⟨_, rfl⟩
      obtain ⟨g, hg⟩ : ∃ g, wr.heap.size = g := ⟨_, rfl⟩
      have hbn : Below wr.heap.size wr Wn := by rw [← hWn]; exact (Below.refl _ _).alloc (Nat.le_refl _) _
      have hy : WyS Wn g N adj k (fun _ => 0) := ⟨by rw [← hWn, ← hg]; exact Blk.new _ _ _, fun u hu => absurd rfl hu⟩
      have HW := hide hw
      obtain ⟨wo, rfl⟩ : ∃ wo : World, wo = wr := ⟨_, rfl⟩
      have HY := hide hy
      have HBN := hide hbn
      have HG := Lib.hid hg
      clear hw hy hbn hg
      go_wp2_with fail
      rw [HG.out]
      clear hWn
      have HWH := Lib.hid (wh_all0 N)
      go_loopg [8] (N + 1) (fun q t8 W' => ∃ (th : Nat → Nat) (more : Bool), t8 = .bool more ∧ wh N th + (if more then 1 else 0) ≤ q ∧ WyS W' g N adj k th ∧ Chg Wn W' (fun b => b = g) ∧ (more = false → ∀ e ∈ E, (e.1.toNat = k ∨ th e.1.toNat ≠ 0) → th e.2.1.toNat ≠ 0))
      case atStart => exact ⟨fun _ => 0, true, rfl, by rw [HWH.out]; simp, unhide HY, Chg.refl _ _, by simp⟩
      case round =>
        obtain ⟨th, more, rfl, hq, hy, hch, hcl⟩ := hrel
        clear HY
        cases more with
        | true =>
          simp only [if_true] at hq
          obtain ⟨gq2, rfl⟩ : ∃ q, gk = q + 1 := ⟨gk - 1, by omega⟩
          obtain ⟨w0, hw0⟩ : ∃ w0, wh N th = w0 := ⟨_, rfl⟩
          rw [hw0] at hq
          have HW0 := Lib.hid hw0
          have HY := hide hy
          have HCH := hide hch
          clear hy hch hcl hw0
          go_wp2_with fail
          go_loopg [8, 9] m (fun q t8 t9 W' => ∃ (j : Nat) (th' : Nat → Nat) (more : Bool), t8 = .bool more ∧ t9 = .int .i64 (j : Int) ∧ j + q = m ∧ wh N th' + (if more then 1 else 0) ≤ w0 ∧ WyS W' g N adj k th' ∧ Chg Wn W' (fun b => b = g) ∧ (more = false → ∀ e ∈ E.take j, (e.1.toNat = k ∨ th' e.1.toNat ≠ 0) → th' e.2.1.toNat ≠ 0))
          case atStart => exact ⟨0, th, false, rfl, rfl, by omega, by rw [HW0.out]; simp, unhide HY, unhide HCH, by simp⟩
          case round =>
            obtain ⟨j, th', more, rfl, rfl, hjq, hwm, hy, hch, hcl⟩ := hrel
            clear HY HCH
            have hj0 : (0 : Int) ≤ (j : Int) := by omega
            by_cases hj : j < m
            · have hjm : (j : Int) < (m : Int) := by omega
              obtain ⟨gq3, rfl⟩ : ∃ q, gk = q + 1 := ⟨gk - 1, by omega⟩
              have hbw : Below W.heap.size W wr := (unhide HW).bel.trans ((unhide HBN).trans (hch.below (unhide HBN).size (fun i hi e => by have := HG.out; omega)) |>.mono (unhide HW).bel.size)
              obtain ⟨b, off, f, t, gw, rfl, hbB, he, c1, c2, c3⟩ := ((unhide HR).below (hbw.mono hB0)).edge hj
              obtain ⟨F, T, WT, he2, hFN, hTN, _⟩ := okE_parts (unhide HE _ (List.mem_of_getElem? he))
              injection he2 with e1 e2
              injection e2 with e2 e3
              subst e1
              subst e2
              subst e3
              have hadj : T ∈ adj F := by rw [← HADJ.out]; exact (adj_mem (unhide HE)).2 ⟨_, List.mem_of_getElem? he, by simp, by simp⟩
              obtain ⟨x, hx⟩ : ∃ x, wr.heap.size = x := ⟨_, rfl⟩
              obtain ⟨W2, hW2⟩ : ∃ W2, wr.alloc (.cells #[.int .i64 (F : Int), .int .i64 (T : Int), .int .i64 (WT : Int)] 65) = W2 := ⟨_, rfl⟩
              have hb2 : Below wr.heap.size wr W2 := by rw [← hW2]; exact (Below.refl _ _).alloc (Nat.le_refl _) _
              have hx2 : Blk W2 x 65 #[.int .i64 (F : Int), .int .i64 (T : Int), .int .i64 (WT : Int)] := by rw [← hW2, ← hx]; exact Blk.new _ _ _
              have hy2 : WyS W2 g N adj k th' := ⟨hy.blk.below hb2 hy.blk.lt, hy.sound⟩
              have hch2 := hch.bel hb2
              have d0 : W2.cell? ⟨x, 0, none⟩ = some (.int .i64 (F : Int)) := hx2.cell 0
              have d1 : W2.cell? ⟨x, 1, none⟩ = some (.int .i64 (T : Int)) := hx2.cell 1
              have yF : W2.cell? ⟨g, F, none⟩ = some (tb th' F) := (hy2.blk.cell F).trans (tab_at _ hFN)
              have yT : W2.cell? ⟨g, T, none⟩ = some (tb th' T) := (hy2.blk.cell T).trans (tab_at _ hTN)
              have fT : W2.frozen? ⟨g, T, none⟩ = false := hy2.blk.frozen T
              have hF0 : (0 : Int) ≤ (F : Int) := by omega
              have hT0 : (0 : Int) ≤ (T : Int) := by omega
              have hFI : (F : Int) < (N : Int) := by omega
              have hTI : (T : Int) < (N : Int) := by omega
              have HCL := hide hcl
              have HX := Lib.hid he
              have HY := hide hy2
              have HCH := hide hch2
              have hsnoc : E.take (j + 1) = E.take j ++ [((F : Int), (T : Int), (WT : Int))] := by rw [List.take_add_one, he, Option.toList_some]
              have HSN := Lib.hid hsnoc
              clear hy hch hcl he hb2 hx2 hy2 hch2 hsnoc
              unfold tb at yF yT
              by_cases hFk : F = k
              · subst hFk
                by_cases hT : th' T = 0
                · rw [decide_eq_false (by omega)] at yT
                  go_wp2_with fail
                  go_roundg gq3
                  case rel => exact ⟨j + 1, upf th' T 1, true, rfl, by go_num, by omega, by simp only [if_true]; have := wh_meet hTN hT (show 1 ≠ 0 by decide); omega, (unhide HY).mark hadj (by first | exact .inl rfl | exact .inr hF), (unhide HCH).set_ ⟨g, T, none⟩ _ (fun _ => rfl), by simp⟩
                  case measure => omega
                · rw [decide_eq_true hT] at yT
                  go_wp2_with fail
                  go_roundg gq3
                  case rel => exact ⟨j + 1, th', more, rfl, by go_num, by omega, hwm, unhide HY, unhide HCH, fun hm e he hf => by
                    rw [HSN.out, List.mem_append, List.mem_singleton] at he
                    rcases he with he | rfl
                    · exact unhide HCL hm e he hf
                    · simp only [Int.toNat_natCast] at hf ⊢
                      first | exact hT | (rcases hf with h | h; exact absurd h hFk; exact absurd hF h)⟩
                  case measure => omega
              · have hFkI : ¬ (F : Int) = (k : Int) := by omega
                by_cases hF : th' F = 0
                · rw [decide_eq_false (by omega)] at yF
                  go_wp2_with fail
                  go_roundg gq3
                  case rel => exact ⟨j + 1, th', more, rfl, by go_num, by omega, hwm, unhide HY, unhide HCH, fun hm e he hf => by
                    rw [HSN.out, List.mem_append, List.mem_singleton] at he
                    rcases he with he | rfl
                    · exact unhide HCL hm e he hf
                    · simp only [Int.toNat_natCast] at hf ⊢
                      first | exact hT | (rcases hf with h | h; exact absurd h hFk; exact absurd hF h)⟩
                  case measure => omega
                · rw [decide_eq_true hF] at yF
                  by_cases hT : th' T = 0
                  · rw [decide_eq_false (by omega)] at yT
                    go_wp2_with fail
                    go_roundg gq3
                    case rel => exact ⟨j + 1, upf th' T 1, true, rfl, by go_num, by omega, by simp only [if_true]; have := wh_meet hTN hT (show 1 ≠ 0 by decide); omega, (unhide HY).mark hadj (by first | exact .inl rfl | exact .inr hF), (unhide HCH).set_ ⟨g, T, none⟩ _ (fun _ => rfl), by simp⟩
                    case measure => omega
                  · rw [decide_eq_true hT] at yT
                    go_wp2_with fail
                    go_roundg gq3
                    case rel => exact ⟨j + 1, th', more, rfl, by go_num, by omega, hwm, unhide HY, unhide HCH, fun hm e he hf => by
                      rw [HSN.out, List.mem_append, List.mem_singleton] at he
                      rcases he with he | rfl
                      · exact unhide HCL hm e he hf
                      · simp only [Int.toNat_natCast] at hf ⊢
                        first | exact hT | (rcases hf with h | h; exact absurd h hFk; exact absurd hF h)⟩
                    case measure => omega
            · obtain rfl : j = m := by omega
              have hel : E.take j = E := List.take_of_length_le (by have := HL.out; omega)
              rw [hel] at hcl
              have HCL := hide hcl
              have HY := hide hy
              have HCH := hide hch
              clear hcl hy hch hel
              go_wp2_with fail
              go_roundg gq2
              case rel => exact ⟨th', more, rfl, by omega, unhide HY, unhide HCH, unhide HCL⟩
              case measure => omega
        | false =>
          have hcl2 : ∀ f t, t ∈ adj f → (f = k ∨ th f ≠ 0) → th t ≠ 0 := fun f t ht hf => by
            rw [← HADJ.out] at ht
            obtain ⟨e, he, rfl, rfl⟩ := (adj_mem (unhide HE)).1 ht
            exact hcl rfl e he hf
          have hbk : Blk wr g 4 (tab N fun j => .bool (wayB adj k j)) := by rw [← tab_ways hy.sound hcl2]; exact hy.blk
          have hbw : Below wo.heap.size wo wr := (unhide HBN).trans (hch.below (unhide HBN).size (fun i hi e => by have := HG.out; omega))
          have hlast : ∀ i, i < k → G i ≠ g := fun i hi e => by have := ((unhide HW).blk i hi).lt; have := HG.out; omega
          have ho := (unhide HW).own
          have ho2 := (Chg.of_below hbw (fun _ => False)).own ho (fun _ _ h => h)
          have HO := hide ho2
          have HBK := hide hbk
          have HBW := hide hbw
          have hz := hbw.size
          have hz2 := (unhide HW).bel.size
          have HCP := hide (show k + 1 ≤ maxLen ∧ (k + 1) * 24 ≤ 140737488355328 from cap24 (by omega))
          clear hy hch hcl hcl2 hbk hbw ho ho2
          go_wp2_with (first
            | (at_builtin
               refine wpList_app1 wr rfl (.tmp 52) (.tmp 54) 63 rfl elem_bools W.heap.size (.slice Ao k co) k _ rfl (unhide HO) (.slice (some ⟨g, 0, none⟩) N N) wr.heap.size rfl rfl rfl (unhide HCP) (by omega) ?_
               intro v5 w5 ho5 hg5 hr5
               obtain ⟨A5, c5, rfl⟩ := ho5.shape
               have HO5 := hide ho5
               have HG5 := hide hg5
               clear ho5 hg5 hr5))
          go_roundg gq
          case rel =>
            have hch5 := Chg.of_grown (unhide HG5)
            have hl := (unhide HO).lt
            have hnot : ∀ i, (Value.slice Ao k co).ownBlock = some i → ∀ cs, ¬ Blk wr i 4 cs := fun i e cs hb => own_blk_ne (unhide HO) hb (by decide) e
            refine ⟨k + 1, upf G k g, by go_num, by omega, ?_, fun i hi => ?_, ?_⟩
            · have h := unhide HO5
              rw [List.range_succ, List.map_append]
              have e1 : (List.range k).map (fun i => Value.slice (some ⟨upf G k g i, 0, none⟩) N N) = (List.range k).map (fun i => Value.slice (some ⟨G i, 0, none⟩) N N) := List.map_congr_left fun i hi => by rw [upf_ne _ _ (by have := List.mem_range.1 hi; omega)]
              rw [e1, List.map_singleton, upf_same]
              exact h
            · by_cases e : i = k
              · subst e
                rw [upf_same]
                exact hch5.blk (unhide HBK) (fun e => hnot g e _ (unhide HBK))
              · rw [upf_ne _ _ e]
                have hb := (unhide HW).blk i (by omega)
                have hb2 := hb.below (unhide HBW) hb.lt
                exact hch5.blk hb2 (fun e => hnot _ e _ hb2)
            · exact ((unhide HW).bel.trans ((unhide HBW).mono (unhide HW).bel.size)).grown (unhide HG5) (by omega) (fun g e => (hl g e).1)
          case measure => omega
    · obtain rfl : k = N := by omega
      have HW := hide hw
      clear hw
      go_wp2_with fail
      go_ret
      exact ⟨_, G, rfl, unhide HW⟩
end Go.Proofs.Ytmcpbmadjpjckaa
