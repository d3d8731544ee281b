/-
  What is reached in a graph: the document's Reach: the walk over the Go text.
-/
import Derived.Test.YtmcpbmadjpjckaaGrReach
namespace Go.Proofs.Ytmcpbmadjpjckaa
open Go.RowKit

/-- What stands while what is reached grows, by edges. -/
structure RyS (W : World) (g N : Nat) (adj : Nat → List Nat) (S : List Nat) (th : Nat → Nat) : Prop where
  blk : Blk W g 4 (tab N (tb th))
  sound : ∀ u, th u ≠ 0 → ∃ s ∈ S, Rs adj s u
  seeds : ∀ s ∈ S, th s ≠ 0
theorem tb_set {W : World} {g N t : Nat} {th : Nat → Nat} (h : Blk W g 4 (tab N (tb th))) : Blk (W.setCell ⟨g, t, none⟩ (.bool true)) g 4 (tab N (tb (upf th t 1))) := by
  have := h.set_ t (.bool true)
  rw [tab_set] at this
  rw [tab_congr (g := upf (tb th) t (.bool true)) fun v => by unfold tb upf; split <;> simp]
  exact this
theorem RyS.mark {W : World} {g N f t : Nat} {adj : Nat → List Nat} {S : List Nat} {th : Nat → Nat} (h : RyS W g N adj S th) (ht : t ∈ adj f) (hf : th f ≠ 0) : RyS (W.setCell ⟨g, t, none⟩ (.bool true)) g N adj S (upf th t 1) := by
  refine ⟨tb_set h.blk, fun u hu => ?_, fun s hs => upf_mono (h.seeds s hs)⟩
  by_cases e : u = t
  · subst e
    obtain ⟨s, h1, h2⟩ := h.sound f hf
    exact ⟨s, h1, h2.tail ht⟩
  · rw [upf_ne _ _ e] at hu
    exact h.sound u hu
open Classical in
theorem RyS.tab_ {W : World} {g N : Nat} {adj : Nat → List Nat} {S : List Nat} {th : Nat → Nat} (h : RyS W g N adj S th) (hc : ∀ f t, t ∈ adj f → th f ≠ 0 → th t ≠ 0) : Blk W g 4 (tab N fun u => .bool (rchB adj S u)) := by
  have e : tab N (tb th) = tab N fun u => .bool (rchB adj S u) := tab_congr fun u => by
    unfold tb rchB
    congr 1
    by_cases e : th u ≠ 0
    · rw [decide_eq_true e, decide_eq_true (h.sound u e)]
    · rw [decide_eq_false e, decide_eq_false (fun ⟨s, h1, h2⟩ => e (closed_rs (fun v hv t ht => hc v t ht hv) h2 (h.seeds s h1)))]
  exact e ▸ h.blk

set_option maxRecDepth 100000 in
set_option maxHeartbeats 4000000 in
theorem refReach_any (W : World) (n : Int) (A : Option Addr) (m cap B0 : Nat) (E : List (Int × Int × Int)) (hr : Reads W B0 3 A m (ecells E)) (hB0 : B0 ≤ W.heap.size) (hm : m ≤ 140737488355328)
    (Af : Option Addr) (nf capf : Nat) (fr : List Int) (hf : Reads W B0 1 Af nf (fr.map (.int .i64))) (hnf : nf ≤ 140737488355328) :
    Calls Try.prog 14 #[.int .i64 n, .slice Af nf capf, .slice A m cap] W (ReachOut W n fr E) := by
  have hC := hide (refCheck_any W n A m cap B0 E hr hB0 hm)
  have hlen : E.length = m := by have := hr.1; rw [ecells_len] at this; omega
  have hfl : fr.length = nf := by have := hf.1; simpa using this
  have HL := Lib.hid hlen
  have HFL := Lib.hid hfl
  obtain ⟨ck, hck⟩ : ∃ c, chkS n E = c := ⟨_, rfl⟩
  rw [hck] at hC
  have HR := hide hr
  have HF := hide hf
  have HC := Lib.hid hck
  clear hr hf hlen hfl hck
  go_enter Try.func14, Try.ntmps14
  go_wp2_with fail
  refine (unhide hC).mono ?_
  rintro e w2 ⟨rfl, hb2⟩
  have HB2 := hide hb2
  clear hb2 hC
  by_cases h0 : ck = 0
  · subst h0
    obtain ⟨g1, g2, g3, hE⟩ := chk_ok HC.out
    obtain ⟨N, rfl⟩ := Int.eq_ofNat_of_zero_le g3
    have hN : N ≤ 65536 := by omega
    have hm2 : m ≤ 1048576 := by rw [← HL.out]; exact g2
    have HE := hide hE
    clear hE g1 g2 g3
    obtain ⟨adj, hadj⟩ : ∃ adj, adjOf E false = adj := ⟨_, rfl⟩
    have HADJ := Lib.hid hadj
    have hmk := fun w => make_bools w N (by omega)
    obtain ⟨g, hg⟩ : ∃ g, w2.heap.size = g := ⟨_, rfl⟩
    obtain ⟨W3, hW3⟩ : ∃ W3, w2.alloc (.cells (tab N fun _ => .bool false) 4) = W3 := ⟨_, rfl⟩
    have hb3 : Below w2.heap.size w2 W3 := by rw [← hW3]; exact (Below.refl _ _).alloc (Nat.le_refl _) _
    have hd3 : Blk W3 g 4 (tab N (tb fun _ => 0)) := by rw [← hW3, ← hg]; exact Blk.new _ _ _
    have HB3 := hide ((unhide HB2).trans (hb3.mono (unhide HB2).size))
    have HD3 := hide hd3
    have hgW : W.heap.size ≤ g := hg ▸ (unhide HB2).size
    clear hb3 hd3 hadj
    go_wp2_with fail
    clear hW3 hg hmk
    go_loopg [10] nf (fun q t W' => ∃ (k : Nat) (th : Nat → Nat), t = .int .i64 (k : Int) ∧ k + q = nf ∧ Blk W' g 4 (tab N (tb th)) ∧ (fr.take k).any (outB (N : Int)) = false ∧ (∀ u, th u ≠ 0 ↔ u ∈ (fr.take k).map Int.toNat) ∧ Chg W3 W' (fun b => b = g))
    case atStart => exact ⟨0, fun _ => 0, rfl, by omega, unhide HD3, by simp, by simp, Chg.refl _ _⟩
    case round =>
      obtain ⟨k, th, rfl, hkq, hd, hno, hth, hc⟩ := hrel
      clear HD3
      have hk0 : (0 : Int) ≤ (k : Int) := by omega
      have hbw : Below W.heap.size W wr := (unhide HB3).trans (hc.below (unhide HB3).size (fun i hi e => by omega))
      by_cases hk : k < nf
      · have hkI : (k : Int) < (nf : Int) := by omega
        obtain ⟨gq, rfl⟩ : ∃ q, gk = q + 1 := ⟨gk - 1, by omega⟩
        obtain ⟨b, off, u, rfl, hb, hu, hcu, _⟩ := ((unhide HF).below (hbw.mono hB0)).at0 hk
        rw [List.getElem?_map] at hu
        obtain ⟨i, hi, rfl⟩ := Option.map_eq_some_iff.1 hu
        have hsn : fr.take (k + 1) = fr.take k ++ [i] := by rw [List.take_add_one, hi, Option.toList_some]
        have hmem : i ∈ fr := List.mem_of_getElem? hi
        have HSN := Lib.hid hsn
        have HM := hide hmem
        have HNO := Lib.hid hno
        have HTH := hide hth
        have HC2 := hide hc
        have HBW := hide hbw
        clear hu hi hsn hmem hno hth hc hbw hb
        by_cases h1 : i < 0
        · go_wp2_with fail
          go_ret2
          exact ⟨unhide HBW, .inr (.inl ⟨HC.out, List.any_eq_true.2 ⟨i, unhide HM, outB_t (.inl h1)⟩, rfl⟩)⟩
        · by_cases h2 : (N : Int) ≤ i
          · go_wp2_with fail
            go_ret2
            exact ⟨unhide HBW, .inr (.inl ⟨HC.out, List.any_eq_true.2 ⟨i, unhide HM, outB_t (.inr h2)⟩, rfl⟩)⟩
          · obtain ⟨I, rfl⟩ := Int.eq_ofNat_of_zero_le (show 0 ≤ i by omega)
            have hIN : I < N := by omega
            have hI0 : (0 : Int) ≤ (I : Int) := by omega
            have hII : (I : Int) < (N : Int) := by omega
            have b1 : wr.cell? ⟨g, I, none⟩ = some (tb th I) := (hd.cell I).trans (tab_at _ hIN)
            have b2 : wr.frozen? ⟨g, I, none⟩ = false := hd.frozen I
            have HD := hide hd
            clear hd
            go_wp2_with fail
            go_roundg gq
            case rel =>
              refine ⟨k + 1, upf th I 1, by go_num, by omega, tb_set (unhide HD), ?_, fun u => ?_, (unhide HC2).set_ ⟨g, I, none⟩ _ (fun _ => rfl)⟩
              · rw [HSN.out, List.any_append, HNO.out]
                simp only [List.any_cons, List.any_nil, Bool.or_false, Bool.false_or]
                exact outB_f (by omega)
              · rw [HSN.out, List.map_append, List.mem_append, ← unhide HTH u]
                by_cases e : u = I
                · subst e; rw [upf_same]; simp
                · rw [upf_ne _ _ e]; simp [e]
            case measure => omega
      · obtain rfl : k = nf := by omega
        have hel : fr.take k = fr := List.take_of_length_le (by have := HFL.out; omega)
        rw [hel] at hno hth
        obtain ⟨S, hS⟩ : ∃ S, fr.map Int.toNat = S := ⟨_, rfl⟩
        rw [hS] at hth
        have hy : RyS wr g N adj S th := ⟨hd, fun u hu => ⟨u, (hth u).1 hu, .refl _⟩, fun s hs => (hth s).2 hs⟩
        obtain ⟨wo, rfl⟩ : ∃ wo : World, wo = wr := ⟨_, rfl⟩
        have hwh : wh N th ≤ N := by
          unfold wh
          exact Nat.le_trans (List.length_filter_le _ _) (by simp)
        have HNO := Lib.hid hno
        have HS := Lib.hid hS
        have HY := hide hy
        have HBW := hide hbw
        clear hd hno hth hc hbw hel hS hy
        go_wp2_with fail
        go_loopg [11] (N + 1) (fun q t W' => ∃ (th : Nat → Nat) (more : Bool), t = .bool more ∧ wh N th + (if more then 1 else 0) ≤ q ∧ RyS W' g N adj S th ∧ Chg wo W' (fun b => b = g) ∧ (more = false → ∀ e ∈ E, th e.1.toNat ≠ 0 → th e.2.1.toNat ≠ 0))
        case atStart => exact ⟨th, true, rfl, by simp; omega, unhide HY, Chg.refl _ _, by simp⟩
        case round =>
          clear HY hwh
          obtain ⟨th, more, rfl, hq, hy, hch, hcl⟩ := hrel
          cases more with
          | true =>
            simp only [if_true] at hq
            obtain ⟨gq, rfl⟩ : ∃ q, gk = q + 1 := ⟨gk - 1, by omega⟩
            obtain ⟨w0, hw0⟩ : ∃ w0, wh N th = w0 := ⟨_, rfl⟩
            rw [hw0] at hq
            have HW0 := Lib.hid hw0
            have HY := hide hy
            have HCH := hide hch
            clear hy hch hcl hw0
            go_wp2_with fail
            go_loopg [11, 12] m (fun q t11 t12 W' => ∃ (j : Nat) (th' : Nat → Nat) (more : Bool), t11 = .bool more ∧ t12 = .int .i64 (j : Int) ∧ j + q = m ∧ wh N th' + (if more then 1 else 0) ≤ w0 ∧ RyS W' g N adj S th' ∧ Chg wo W' (fun b => b = g) ∧ (more = false → ∀ e ∈ E.take j, th' e.1.toNat ≠ 0 → th' e.2.1.toNat ≠ 0))
            case atStart => exact ⟨0, th, false, rfl, rfl, by omega, by rw [HW0.out]; simp, unhide HY, unhide HCH, by simp⟩
            case round =>
              obtain ⟨j, th', more, rfl, rfl, hjq, hwm, hy, hch, hcl⟩ := hrel
              clear HY HCH
              have hj0 : (0 : Int) ≤ (j : Int) := by omega
              by_cases hj : j < m
              · have hjm : (j : Int) < (m : Int) := by omega
                obtain ⟨gq3, rfl⟩ : ∃ q, gk = q + 1 := ⟨gk - 1, by omega⟩
                have hbw : Below W.heap.size W wr := (unhide HBW).trans (hch.below (unhide HBW).size (fun i hi e => by omega))
                obtain ⟨b, off, f, t, gw, rfl, hbB, he, c1, c2, c3⟩ := ((unhide HR).below (hbw.mono hB0)).edge hj
                obtain ⟨F, T, WT, he2, hFN, hTN, _⟩ := okE_parts (unhide HE _ (List.mem_of_getElem? he))
                injection he2 with e1 e2
                injection e2 with e2 e3
                subst e1
                subst e2
                subst e3
                have hadj : T ∈ adj F := by rw [← HADJ.out]; exact (adj_mem (unhide HE)).2 ⟨_, List.mem_of_getElem? he, by simp, by simp⟩
                have hsnoc : E.take (j + 1) = E.take j ++ [((F : Int), (T : Int), (WT : Int))] := by rw [List.take_add_one, he, Option.toList_some]
                have yF : wr.cell? ⟨g, F, none⟩ = some (.bool (decide (th' F ≠ 0))) := (hy.blk.cell F).trans (tab_at _ hFN)
                have yT : wr.cell? ⟨g, T, none⟩ = some (.bool (decide (th' T ≠ 0))) := (hy.blk.cell T).trans (tab_at _ hTN)
                have fT : wr.frozen? ⟨g, T, none⟩ = false := hy.blk.frozen T
                have hF0 : (0 : Int) ≤ (F : Int) := by omega
                have hT0 : (0 : Int) ≤ (T : Int) := by omega
                have hFI : (F : Int) < (N : Int) := by omega
                have hTI : (T : Int) < (N : Int) := by omega
                have HSN := Lib.hid hsnoc
                have HY := hide hy
                have HCH := hide hch
                have HCL := hide hcl
                have HADJ2 := hide hadj
                clear hbw he hadj hsnoc hy hch hcl
                by_cases hF : th' F = 0
                · rw [decide_eq_false (by omega)] at yF
                  go_wp2_with fail
                  go_roundg gq3
                  case rel => exact ⟨j + 1, th', more, rfl, by go_num, by omega, hwm, unhide HY, unhide HCH, fun hm e he hf => by
                    rw [HSN.out, List.mem_append, List.mem_singleton] at he
                    rcases he with he | rfl
                    · exact unhide HCL hm e he hf
                    · simp only [Int.toNat_natCast] at hf; exact absurd hF hf⟩
                  case measure => omega
                · rw [decide_eq_true hF] at yF
                  by_cases hT : th' T = 0
                  · rw [decide_eq_false (by omega)] at yT
                    go_wp2_with fail
                    go_roundg gq3
                    case rel => exact ⟨j + 1, upf th' T 1, true, rfl, by go_num, by omega, by simp only [if_true]; have := wh_meet hTN hT (show 1 ≠ 0 by decide); omega, (unhide HY).mark (unhide HADJ2) hF, (unhide HCH).set_ ⟨g, T, none⟩ _ (fun _ => rfl), by simp⟩
                    case measure => omega
                  · rw [decide_eq_true hT] at yT
                    go_wp2_with fail
                    go_roundg gq3
                    case rel => exact ⟨j + 1, th', more, rfl, by go_num, by omega, hwm, unhide HY, unhide HCH, fun hm e he hf => by
                      rw [HSN.out, List.mem_append, List.mem_singleton] at he
                      rcases he with he | rfl
                      · exact unhide HCL hm e he hf
                      · simp only [Int.toNat_natCast]; exact hT⟩
                    case measure => omega
              · obtain rfl : j = m := by omega
                have hel : E.take j = E := List.take_of_length_le (by have := HL.out; omega)
                rw [hel] at hcl
                have HCL := hide hcl
                have HY := hide hy
                have HCH := hide hch
                clear hcl hy hch hel
                go_wp2_with fail
                go_roundg gq
                case rel => exact ⟨th', more, rfl, by omega, unhide HY, unhide HCH, unhide HCL⟩
                case measure => omega
          | false =>
            have hbt := hy.tab_ (fun f t ht hf => by
              rw [← HADJ.out] at ht
              obtain ⟨e, he, rfl, rfl⟩ := (adj_mem (unhide HE)).1 ht
              exact hcl rfl e he hf)
            have HBT := hide hbt
            have HBW2 := hide ((unhide HBW).trans (hch.below (unhide HBW).size (fun i hi e => by omega)))
            obtain ⟨wl, rfl⟩ : ∃ w : World, w = wr := ⟨_, rfl⟩
            clear hy hch hcl hbt hq
            go_wp2_with fail
            go_loopg [13, 14] N (fun q v t W' => ∃ k : Nat, t = .int .i64 (k : Int) ∧ k + q = N ∧ W'.ownsRow wl.heap.size 3 1 v (rchL k adj S).length ((rchL k adj S).map iv) ∧ Below wl.heap.size wl W')
            case atStart => exact ⟨0, rfl, by omega, ⟨rfl, .inl ⟨rfl, rfl⟩⟩, Below.refl _ _⟩
            case round =>
              obtain ⟨k, rfl, hkq, ho, hb⟩ := hrel
              obtain ⟨N1, hN1⟩ : ∃ n, (rchL k adj S).length = n := ⟨_, rfl⟩
              rw [hN1] at ho
              obtain ⟨Av, cv, rfl⟩ := ho.shape
              have hk0 : (0 : Int) ≤ (k : Int) := by omega
              by_cases hk : k < N
              · have hkI : (k : Int) < (N : Int) := by omega
                obtain ⟨gq, rfl⟩ : ∃ q, gk = q + 1 := ⟨gk - 1, by omega⟩
                have b1 : wr.cell? ⟨g, k, none⟩ = some (.bool (rchB adj S k)) := (((unhide HBT).below hb (unhide HBT).lt).cell k).trans (tab_at _ hk)
                have hsn := rch_succ k adj S
                have hll := rch_len k adj S
                obtain ⟨L, hL⟩ : ∃ L, rchL k adj S = L := ⟨_, rfl⟩
                rw [hN1] at hll
                rw [hL] at ho hsn hN1
                obtain ⟨bb, hbb⟩ : ∃ b, rchB adj S k = b := ⟨_, rfl⟩
                rw [hbb] at hsn b1
                have HO := hide ho
                have HB := hide hb
                have HSN := Lib.hid hsn
                have HN1 := Lib.hid hN1
                have hzw := hb.size
                clear ho hb hsn hL hN1 hbb
                cases bb with
                | true =>
                  have HC8 : Hid (N1 + 1 ≤ maxLen ∧ (N1 + 1) * 8 ≤ 140737488355328) := cap8 (by omega)
                  go_wp2_with (first
                    | (at_builtin
                       refine wpList_app1 wr rfl (.tmp 90) (.tmp 92) 25 rfl elem_int wl.heap.size (.slice Av N1 cv) N1 (L.map iv) rfl (unhide HO) (.int .i64 (k : Int)) wr.heap.size rfl rfl rfl HC8.out hzw ?_
                       intro v5 w5 ho5 hg5 hr5
                       obtain ⟨A5, c5, rfl⟩ := ho5.shape
                       have HO5 := hide ho5
                       have HB5 := hide ((unhide HB).grown hg5 hzw (fun g e => ((unhide HO).lt g e).1))
                       clear ho5 hg5 hr5))
                  go_roundg gq
                  case rel => exact ⟨k + 1, by go_num, by omega, by
                    rw [HSN.out, if_pos (by trivial), List.length_append, HN1.out, List.map_append]
                    exact unhide HO5, unhide HB5⟩
                  case measure => omega
                | false =>
                  go_wp2_with fail
                  go_roundg gq
                  case rel => exact ⟨k + 1, by go_num, by omega, by
                    rw [HSN.out, if_neg (by simp), List.append_nil, HN1.out]
                    exact unhide HO, unhide HB⟩
                  case measure => omega
              · obtain rfl : k = N := by omega
                have HO := hide (ho.base (unhide HBW2).size)
                have HB := hide ((unhide HBW2).trans (hb.mono (unhide HBW2).size))
                have HN1 := Lib.hid hN1
                clear ho hb hN1
                go_wp2_with fail
                go_ret2
                refine ⟨unhide HB, .inr (.inr ⟨HC.out, HNO.out, k, _, rfl, rfl, ?_⟩)⟩
                rw [HADJ.out, HS.out, HN1.out]
                exact unhide HO
  · go_wp2_with fail
    go_ret2
    exact ⟨unhide HB2, .inl ⟨by rw [HC.out]; exact h0, by rw [HC.out]; rfl⟩⟩
end Go.Proofs.Ytmcpbmadjpjckaa
