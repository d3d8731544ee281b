/-
  What is reached in a graph: Reach: the main walk over the Go text.
-/
import Derived.Test.YtmcpbmadjpjckaaGrReach
import Derived.Test.YtmcpbmadjpjckaaGrFound
namespace Go.Proofs.Ytmcpbmadjpjckaa
open Go.RowKit

theorem run_cut1 (A : Option Addr) {n : Nat} (c : Nat) (hk : 1 ≤ n) (w : World) :
    (Instr.slice 25 (.slice A n c) (some (.int .i64 1)) none none).run Try.prog w = .ok (.slice (if c = 1 then A else A.map (·.add (1 * 1))) (n - 1) (c - 1)) w := by
  obtain ⟨⟨i, z, ht, hi, _, hs, _, _⟩, _⟩ := elem_int
  exact run_cut ht hi hs A c (k := 1) hk w
set_option maxRecDepth 100000 in
set_option maxHeartbeats 4000000 in
theorem reach_any (W : World) (n : Int) (A : Option Addr) (m cap B0 : Nat) (E : List (Int × Int × Int)) (hr : Reads W B0 3 A m (ecells E)) (hB0 : B0 ≤ W.heap.size) (hm : m ≤ 140737488355328)
    (Af : Option Addr) (nf capf : Nat) (fr : List Int) (hf : Reads W B0 1 Af nf (fr.map (.int .i64))) (hnf : nf ≤ 140737488355328) :
    Calls Try.prog 11 #[.int .i64 n, .slice Af nf capf, .slice A m cap] W (ReachOut W n fr E) := by
  obtain ⟨W1, hW1⟩ : ∃ W1, W.alloc (.cells #[.int .i64 n] 3) = W1 := ⟨_, rfl⟩
  obtain ⟨c, hcc⟩ : ∃ c, W.heap.size = c := ⟨_, rfl⟩
  have hb1 : Below W.heap.size W W1 := by rw [← hW1]; exact (Below.refl _ _).alloc (Nat.le_refl _) _
  have hx1 : Blk W1 c 3 #[.int .i64 n] := by rw [← hW1, ← hcc]; exact Blk.new _ _ _
  have hr1 := hr.below (hb1.mono hB0)
  have hf1 := hf.below (hb1.mono hB0)
  have hB1 : B0 ≤ W1.heap.size := Nat.le_trans hB0 hb1.size
  have hC := hide (check_any W1 n A m cap B0 E hr1 hB1 hm)
  have hlen : E.length = m := by have := hr.1; rw [ecells_len] at this; omega
  have hfl : fr.length = nf := by have := hf.1; simpa using this
  have HL := Lib.hid hlen
  have HFL := Lib.hid hfl
  obtain ⟨ck, hck⟩ : ∃ c, chkS n E = c := ⟨_, rfl⟩
  rw [hck] at hC
  have HR := hide hr1
  have HF := hide hf1
  have HC := Lib.hid hck
  have HX1 := hide hx1
  have HB1 := hide hb1
  have HCC := Lib.hid hcc
  have hn1 : W1.cell? ⟨c, 0, none⟩ = some (.int .i64 n) := hx1.cell 0
  clear hr hf hr1 hf1 hlen hfl hck hb1 hx1
  go_enter Try.func11, Try.ntmps11
  go_wp2_with fail
  refine (unhide hC).mono ?_
  rintro e w2 ⟨rfl, hb2⟩
  have HB2 := hide ((unhide HB1).trans (hb2.mono (unhide HB1).size))
  have hx2 := (unhide HX1).below hb2 (unhide HX1).lt
  have hr2 := hide ((unhide HR).below (hb2.mono hB1))
  have hf2 := hide ((unhide HF).below (hb2.mono hB1))
  have hB2 : B0 ≤ w2.heap.size := Nat.le_trans hB1 hb2.size
  have n2 : w2.cell? ⟨c, 0, none⟩ = some (.int .i64 n) := hx2.cell 0
  have HX2 := hide hx2
  clear hb2 hx2 hn1 hC hW1 hcc HX1
  by_cases h0 : ck = 0
  · subst h0
    obtain ⟨g1, g2, g3, hE⟩ := chk_ok HC.out
    obtain ⟨N, rfl⟩ := Int.eq_ofNat_of_zero_le g3
    have hN : N ≤ 65536 := by omega
    have hm2 : m ≤ 1048576 := by rw [← HL.out]; exact g2
    have hK := hide (contains_any w2 c (N : Int) Af nf capf B0 fr n2 (unhide hf2) hnf)
    have HE := hide hE
    clear hE g1 g2 g3
    obtain ⟨an, han⟩ : ∃ b, fr.any (outB (N : Int)) = b := ⟨_, rfl⟩
    rw [han] at hK
    have HAN := Lib.hid han
    clear han
    cases an with
    | true =>
      go_wp2_with fail
      refine (unhide hK).mono ?_
      rintro e w' ⟨rfl, rfl⟩
      go_wp2_with fail
      go_ret2
      exact ⟨unhide HB2, .inr (.inl ⟨HC.out, HAN.out, rfl⟩)⟩
    | false =>
      have hG := hide (netOf_any w2 A m cap N B0 E false (unhide hr2) hB2 hN hm2 (fun e he => by
        have h : 0 ≤ e.1 ∧ e.1 < N ∧ 0 ≤ e.2.1 ∧ e.2.1 < N ∧ 0 ≤ e.2.2 ∧ e.2.2 ≤ 1048576 := of_decide_eq_true (unhide HE e he)
        exact ⟨h.1, h.2.1, h.2.2.1, h.2.2.2.1⟩))
      go_wp2_with fail
      refine (unhide hK).mono ?_
      rintro e w' ⟨rfl, rfl⟩
      clear hK
      go_wp2_with fail
      refine (unhide hG).mono ?_
      rintro e w3 ⟨V, rfl, hnet, hb3⟩
      obtain ⟨adj, hadj⟩ : ∃ adj, adjOf E false = adj := ⟨_, rfl⟩
      rw [hadj] at hnet
      have HADJ := Lib.hid hadj
      have hx3 := (unhide HX2).below hb3 (unhide HX2).lt
      have n3 : w3.cell? ⟨c, 0, none⟩ = some (.int .i64 (N : Int)) := hx3.cell 0
      obtain ⟨gG, hgG⟩ : ∃ g, w2.heap.size = g := ⟨_, rfl⟩
      rw [hgG] at hnet
      have HGG := Lib.hid hgG
      have hB3 := hide ((unhide HB2).trans (hb3.mono (unhide HB2).size))
      have HNET := hide hnet
      have hf3 := hide ((unhide hf2).below (hb3.mono hB2))
      have hB03 : B0 ≤ w3.heap.size := Nat.le_trans hB2 hb3.size
      clear hx3 hb3 hG n2 hadj hnet
      obtain ⟨gT, hgT⟩ : ∃ g, w3.heap.size = g := ⟨_, rfl⟩
      obtain ⟨W4, hW4⟩ : ∃ W4, ((w3.alloc (.cells (tab N fun _ => .bool false) 4)).alloc (.cells #[.slice (some ⟨gT, 0, none⟩) N N] 47)).alloc (.cells #[.slice none 0 0] 25) = W4 := ⟨_, rfl⟩
      have hmk := fun w => make_bools w N (by omega)
      clear hgG
      go_wp2_with fail
      rw [HGG.out]
      obtain ⟨cT, hcT⟩ : ∃ g, gT + 1 = g := ⟨_, rfl⟩
      rw [hcT]
      obtain ⟨cR, hcR⟩ : ∃ g, cT + 1 = g := ⟨_, rfl⟩
      rw [hcR]
      obtain ⟨B, hB⟩ : ∃ B, cR + 1 = B := ⟨_, rfl⟩
      have hz4 : W4.heap.size = B := by rw [← hW4]; simp only [World.size_alloc]; omega
      have hb4 : Below w3.heap.size w3 W4 := by rw [← hW4]; exact (((Below.refl _ _).alloc (Nat.le_refl _) _).alloc (by simp) _).alloc (by simp only [World.size_alloc]; omega) _
      have hgGlt : gG < gT := by rw [← hgT]; exact (unhide HNET).blk.lt
      have hch4 : Rch W4 cT cR gT N B (fun _ => 0) (.slice none 0 0) [] := by
        refine ⟨?_, ?_, ?_, Mid.nil_ _ _ _, by omega, by omega, by omega, by omega, by omega, by omega⟩
        · rw [← hW4]
          exact (Blk.at_ (by simp only [World.size_alloc]; omega)).alloc _
        · rw [← hW4]
          exact Blk.at_ (by simp only [World.size_alloc]; omega)
        · rw [← hW4]
          exact ((Blk.at_ hgT).alloc _).alloc _
      have hnet4 := (unhide HNET).below hb4
      have hnm4 : NetM W4 (fun b => b < B ∧ b ≠ gT ∧ b ≠ cR) gG N adj := NetM.of_rows hnet4 ⟨by omega, by omega, by omega⟩ (fun u hu b e => by
        have := ((unhide HNET).own u hu).lt b e
        exact ⟨by omega, by omega, by omega⟩)
      have hbi4 : BI N adj (fr.map Int.toNat) (fun _ => 0) [] := ⟨fun u h => absurd rfl h, fun u h => by simp at h, fun u h => absurd rfl h⟩
      have hf4 := hide ((unhide hf3).below (hb4.mono hB03))
      have hb04 : Below W.heap.size W W4 := (unhide hB3).trans (hb4.mono (unhide hB3).size)
      have hw04 : wh N (fun _ => 0) = N := wh_all0 N
      have hadjn : ∀ u, u < N → ∀ t ∈ adj u, t < N := fun u hu t ht => by
        rw [← HADJ.out] at ht
        obtain ⟨e, he, rfl, rfl⟩ := (adj_mem (unhide HE)).1 ht
        obtain ⟨f, t', g, rfl, _, h2, _⟩ := okE_parts (unhide HE e he)
        simpa using h2
      have hadjl : ∀ u, (adj u).length ≤ 1048576 := fun u => by
        rw [← HADJ.out]
        exact Nat.le_trans (adjOf_len _ _ _) (by have := HL.out; omega)
      have HRC := hide hch4
      have HNM := hide hnm4
      have HBI := hide hbi4
      have HB4 := hide hb04
      have HWH := Lib.hid hw04
      have HZ := Lib.hid hz4
      have HAN2 := hide hadjn
      have HAL := hide hadjl
      have HLT := hide (show gG < gT ∧ gT < cT ∧ cT < cR ∧ cR < B ∧ W.heap.size ≤ gT from ⟨hgGlt, by omega, by omega, by omega, by rw [← hgT]; exact (unhide hB3).size⟩)
      have HfrN := hide (show ∀ i ∈ fr, 0 ≤ i ∧ i < (N : Int) from fun i hi => by
        have h := HAN.out
        rw [List.any_eq_false] at h
        have := h i hi
        simp only [outB, decide_eq_true_eq] at this
        omega)
      clear hW4 hcT hcR hB hz4 hb4 hgGlt hch4 hnet4 hnm4 hbi4 hf3 hb04 hw04 hgT hmk HNET HX2 n3 hadjn hadjl hr2 hf2
      go_loopg [39] nf (fun q t W' => ∃ (k : Nat) (th : Nat → Nat) (rv : Value) (row : List Nat), t = .int .i64 (k : Int) ∧ k + q = nf ∧ Rch W' cT cR gT N B th rv row ∧ BI N adj (fr.map Int.toNat) th row ∧ wh N th + row.length ≤ N ∧ (∀ i ∈ fr.take k, th i.toNat ≠ 0) ∧ Chg W4 W' (Rt cR gT B))
      case atStart => exact ⟨0, fun _ => 0, _, [], rfl, by omega, unhide HRC, unhide HBI, by rw [HWH.out]; simp, by simp, Chg.refl _ _⟩
      case round =>
        obtain ⟨k, th, rv, row, rfl, hkq, hrc, hbi, hcnt, hsd, hch⟩ := hrel
        clear HRC HBI HWH
        have hk0 : (0 : Int) ≤ (k : Int) := by omega
        have hzr : B ≤ wr.heap.size := by have := hch.size; have := HZ.out; omega
        by_cases hk : k < nf
        · have hkI : (k : Int) < (nf : Int) := by omega
          obtain ⟨gq, rfl⟩ : ∃ q, gk = q + 1 := ⟨gk - 1, by omega⟩
          have hbr : Below B0 W4 wr := hch.below (by have := HZ.out; have := (unhide HLT); have := hB03; omega) (fun i hi e => by
            have q := unhide HLT
            rcases e with e | e | e <;> omega)
          obtain ⟨b, off, u, rfl, hb, hu, hcu, _⟩ := ((unhide hf4).below hbr).at0 hk
          rw [List.getElem?_map] at hu
          obtain ⟨i, hi, rfl⟩ := Option.map_eq_some_iff.1 hu
          obtain ⟨i1, i2⟩ := unhide HfrN i (List.mem_of_getElem? hi)
          obtain ⟨I, rfl⟩ := Int.eq_ofNat_of_zero_le i1
          have hIN : I < N := by have : (I : Int) < (N : Int) := i2; omega
          have hsn : fr.take (k + 1) = fr.take k ++ [(I : Int)] := by rw [List.take_add_one, hi, Option.toList_some]
          have hin : ∃ s ∈ fr.map Int.toNat, Rs adj s I := ⟨I, List.mem_map.2 ⟨(I : Int), List.mem_of_getElem? hi, by simp⟩, .refl _⟩
          have HSN := Lib.hid hsn
          have HIN := hide hin
          clear hi hu i1 i2 hsn hin hb
          by_cases ht : th I = 0
          · have hA := hide (add_new hrc hIN ht (by omega) hzr)
            have HBI2 := hide (hbi.add hIN (unhide HIN))
            have HCN := hide (show wh N (upf th I 1) + (row ++ [I]).length ≤ N by have := wh_meet hIN ht (show 1 ≠ 0 by decide); rw [List.length_append]; simp; omega)
            have HSD := hide hsd
            have HCH := hide hch
            clear hrc hbi hcnt hsd hch hbr ht
            go_wp2_with fail
            refine (unhide hA).mono ?_
            rintro e w5 ⟨rfl, rv5, hrc5, hch5⟩
            have HRC5 := hide hrc5
            have HCH5 := hide ((unhide HCH).trans hch5 (fun _ _ h => h))
            clear hrc5 hch5 hA
            go_wp2_with fail
            go_roundg gq
            case rel => exact ⟨k + 1, _, rv5, _, by go_num, by omega, unhide HRC5, unhide HBI2, unhide HCN, fun j hj => by
              rw [HSN.out, List.mem_append, List.mem_singleton] at hj
              rcases hj with hj | rfl
              · exact upf_mono (unhide HSD j hj)
              · simp only [Int.toNat_natCast]; rw [upf_same]; omega, unhide HCH5⟩
            case measure => omega
          · have hA := hide (add_old hrc hIN ht)
            have HRC := hide hrc
            have HBI2 := hide hbi
            have HCN := hide hcnt
            have HSD := hide hsd
            have HCH := hide hch
            have HT := hide ht
            clear hrc hbi hcnt hsd hch hbr ht
            go_wp2_with fail
            refine (unhide hA).mono ?_
            rintro e w5 ⟨rfl, rfl⟩
            clear hA
            go_wp2_with fail
            go_roundg gq
            case rel => exact ⟨k + 1, th, rv, row, by go_num, by omega, unhide HRC, unhide HBI2, unhide HCN, fun j hj => by
              rw [HSN.out, List.mem_append, List.mem_singleton] at hj
              rcases hj with hj | rfl
              · exact unhide HSD j hj
              · simp only [Int.toNat_natCast]; exact unhide HT, unhide HCH⟩
            case measure => omega
        · obtain rfl : k = nf := by omega
          have hel : fr.take k = fr := List.take_of_length_le (by have := HFL.out; omega)
          rw [hel] at hsd
          have HRC := hide hrc
          have HBI2 := hide hbi
          have HCN := hide hcnt
          have HSD := hide hsd
          have HCH := hide hch
          clear hrc hbi hcnt hsd hch hel
          go_wp2_with fail
          have hkeep : ∀ W' : World, Chg W4 W' (Rt cR gT B) → ∀ p : Addr, (p.block < B ∧ p.block ≠ gT ∧ p.block ≠ cR) → W'.cell? p = W4.cell? p := fun W' hc p hp => World.cell?_of_block (hc.block _ (by have := HZ.out; omega) (fun e => by
            rcases e with e | e | e
            · exact hp.2.1 e
            · exact hp.2.2 e
            · omega))
          have HKEEP := hide hkeep
          clear hkeep hzr
          go_loopg [17] N (fun q t W' => ∃ (th : Nat → Nat) (rv : Value) (row : List Nat), t = t ∧ wh N th + row.length ≤ q ∧ Rch W' cT cR gT N B th rv row ∧ BI N adj (fr.map Int.toNat) th row ∧ wh N th + row.length ≤ N ∧ (∀ i ∈ fr, th i.toNat ≠ 0) ∧ Chg W4 W' (Rt cR gT B))
          case atStart => exact ⟨th, rv, row, rfl, unhide HCN, unhide HRC, unhide HBI2, unhide HCN, unhide HSD, unhide HCH⟩
          case round =>
            clear HRC HBI2 HCN HSD HCH
            obtain ⟨th, rv, row, _, hq, hrc, hbi, hcnt, hsd, hch⟩ := hrel
            have hzr : B ≤ wr.heap.size := by have := hch.size; have := HZ.out; omega
            rcases row with _ | ⟨x, rest⟩
            · obtain ⟨Ao, co, rfl⟩ := hrc.mid.shape
              have c1 : wr.cell? ⟨cR, 0, none⟩ = some (.slice Ao 0 co) := hrc.bR.cell 0
              have c2 : wr.cell? ⟨cT, 0, none⟩ = some (.slice (some ⟨gT, 0, none⟩) N N) := hrc.bT.cell 0
              have htab := hbi.tab_ (fun s hs => by
                obtain ⟨i, hi, rfl⟩ := List.mem_map.1 hs
                exact hsd i hi)
              have hbt : Blk wr gT 4 (tab N fun u => .bool (rchB adj (fr.map Int.toNat) u)) := htab ▸ hrc.bt
              obtain ⟨S, hS⟩ : ∃ S, fr.map Int.toNat = S := ⟨_, rfl⟩
              rw [hS] at hbt
              have HS := Lib.hid hS
              have HBT := hide hbt
              have HBW := hide ((unhide HB4).trans (hch.below (unhide HB4).size (fun i hi e => by
                have q := unhide HLT
                rcases e with e | e | e <;> omega)))
              obtain ⟨wl, rfl⟩ : ∃ w : World, w = wr := ⟨_, rfl⟩
              clear hrc hbi hcnt hsd hch htab hbt hS hq
              go_wp2_with fail
              go_loopg [12, 69] N (fun q v t W' => ∃ k : Nat, t = .int .i64 (k : Int) ∧ k + q = N ∧ W'.ownsRow wl.heap.size 3 1 v (rchL k adj S).length ((rchL k adj S).map iv) ∧ Below wl.heap.size wl W')
              case atStart => exact ⟨0, rfl, by omega, ⟨rfl, .inl ⟨rfl, rfl⟩⟩, Below.refl _ _⟩
              case round =>
                obtain ⟨k, rfl, hkq, ho, hb⟩ := hrel
                obtain ⟨N1, hN1⟩ : ∃ n, (rchL k adj S).length = n := ⟨_, rfl⟩
                rw [hN1] at ho
                obtain ⟨Av, cv, rfl⟩ := ho.shape
                have hk0 : (0 : Int) ≤ (k : Int) := by omega
                by_cases hk : k < N
                · have hkI : (k : Int) < (N : Int) := by omega
                  obtain ⟨gq, rfl⟩ : ∃ q, gk = q + 1 := ⟨gk - 1, by omega⟩
                  have b1 : wr.cell? ⟨gT, k, none⟩ = some (.bool (rchB adj S k)) := (((unhide HBT).below hb (unhide HBT).lt).cell k).trans (tab_at _ hk)
                  have hsn := rch_succ k adj S
                  have hll := rch_len k adj S
                  obtain ⟨L, hL⟩ : ∃ L, rchL k adj S = L := ⟨_, rfl⟩
                  rw [hN1] at hll
                  rw [hL] at ho hsn hN1
                  obtain ⟨bb, hbb⟩ : ∃ b, rchB adj S k = b := ⟨_, rfl⟩
                  rw [hbb] at hsn b1
                  have HO := hide ho
                  have HB := hide hb
                  have HSN := Lib.hid hsn
                  have HLL := Lib.hid hL
                  have HN1 := Lib.hid hN1
                  have hzw := hb.size
                  clear ho hb hsn hL hN1 hbb
                  cases bb with
                  | true =>
                    have HC8 : Hid (N1 + 1 ≤ maxLen ∧ (N1 + 1) * 8 ≤ 140737488355328) := cap8 (by omega)
                    go_wp2_with (first
                      | (at_builtin
                         refine wpList_app1 wr rfl (.tmp 75) (.tmp 77) 25 rfl elem_int wl.heap.size (.slice Av N1 cv) N1 (L.map iv) rfl (unhide HO) (.int .i64 (k : Int)) wr.heap.size rfl rfl rfl HC8.out hzw ?_
                         intro v5 w5 ho5 hg5 hr5
                         obtain ⟨A5, c5, rfl⟩ := ho5.shape
                         have HO5 := hide ho5
                         have HB5 := hide ((unhide HB).grown hg5 hzw (fun g e => ((unhide HO).lt g e).1))
                         clear ho5 hg5 hr5))
                    go_roundg gq
                    case rel => exact ⟨k + 1, by go_num, by omega, by
                      rw [HSN.out, if_pos (by trivial), List.length_append, HN1.out, List.map_append]
                      exact unhide HO5, unhide HB5⟩
                    case measure => omega
                  | false =>
                    go_wp2_with fail
                    go_roundg gq
                    case rel => exact ⟨k + 1, by go_num, by omega, by
                      rw [HSN.out, if_neg (by simp), List.append_nil, HN1.out]
                      exact unhide HO, unhide HB⟩
                    case measure => omega
                · obtain rfl : k = N := by omega
                  have HO := hide (ho.base (unhide HBW).size)
                  have HB := hide ((unhide HBW).trans (hb.mono (unhide HBW).size))
                  have HN1 := Lib.hid hN1
                  clear ho hb hN1
                  go_wp2_with fail
                  go_ret2
                  refine ⟨unhide HB, .inr (.inr ⟨HC.out, HAN.out, k, _, rfl, rfl, ?_⟩)⟩
                  rw [HADJ.out, HS.out, HN1.out]
                  exact unhide HO
            · obtain ⟨hx0, hxN⟩ := hbi.mem x (by simp)
              obtain ⟨gq, rfl⟩ : ∃ q, gk = q + 1 := ⟨gk - 1, by simp at hq; omega⟩
              obtain ⟨Ax, cx, hax, hel⟩ := (unhide HNM).row x hxN
              have g1 : wr.cell? ⟨gG, x, none⟩ = some (.slice Ax (adj x).length cx) := (unhide HKEEP wr hch _ ⟨by have := unhide HLT; show gG < B; omega, by have := unhide HLT; show gG ≠ gT; omega, by have := unhide HLT; show gG ≠ cR; omega⟩).trans hax
              obtain ⟨La, hLa⟩ : ∃ L, (adj x).length = L := ⟨_, rfl⟩
              rw [hLa] at g1
              have hLal : La ≤ 1048576 := hLa ▸ unhide HAL x
              obtain ⟨Ao, co, rfl⟩ := hrc.mid.shape
              have c1 : wr.cell? ⟨cR, 0, none⟩ = some (.slice Ao (x :: rest).length co) := hrc.bR.cell 0
              obtain ⟨gr, off, rfl, hgB, hgl, hlc, hcm, hcell⟩ := hrc.mid.form (by simp)
              have c2 : wr.cell? ⟨gr, off, none⟩ = some (.int .i64 (x : Int)) := hcell 0 (by simp)
              obtain ⟨Lr, hLr⟩ : ∃ L, (x :: rest).length = L + 1 := ⟨rest.length, rfl⟩
              rw [hLr] at c1
              have hLrI : (0 : Int) < ((Lr + 1 : Nat) : Int) := by omega
              have hx0I : (0 : Int) ≤ (x : Int) := by omega
              have hxI : (x : Int) < (N : Int) := by omega
              obtain ⟨w0, hw0⟩ : ∃ w0, wh N th + (x :: rest).length = w0 := ⟨_, rfl⟩
              have hbnd : w0 ≤ gq + 1 ∧ w0 ≤ N := ⟨hw0 ▸ hq, hw0 ▸ hcnt⟩
              have HLA := Lib.hid hLa
              have HEL := hide hel
              have HW0 := Lib.hid hw0
              have HBND := hide hbnd
              have HRC := hide hrc
              have HBI2 := hide hbi
              have HSD := hide hsd
              have HCH := hide hch
              clear hax hel hLa hrc hbi hcnt hsd hch hq hcell hgB hgl hlc hcm hLr hw0 hbnd hx0
              go_wp2_with fail
              go_loopg [59] La (fun q t W' => ∃ (j : Nat) (th' : Nat → Nat) (rv' : Value) (rest' : List Nat), t = .int .i64 (j : Int) ∧ j + q = La ∧ Rch W' cT cR gT N B th' rv' (x :: rest') ∧ BI N adj (fr.map Int.toNat) th' (x :: rest') ∧ wh N th' + (x :: rest').length ≤ w0 ∧ (∀ i ∈ fr, th' i.toNat ≠ 0) ∧ (∀ t ∈ (adj x).take j, th' t ≠ 0) ∧ Chg W4 W' (Rt cR gT B))
              case atStart => exact ⟨0, th, _, rest, rfl, by omega, unhide HRC, unhide HBI2, by rw [HW0.out]; exact Nat.le_refl _, unhide HSD, by simp, unhide HCH⟩
              case round =>
                clear HRC HBI2 HSD HCH
                obtain ⟨j, th', rv', rest', rfl, hjq, hrc, hbi, hcnt, hsd, hcl, hch⟩ := hrel
                have hj0 : (0 : Int) ≤ (j : Int) := by omega
                have hzr : B ≤ wr.heap.size := by have := hch.size; have := HZ.out; omega
                by_cases hj : j < La
                · have hjI : (j : Int) < (La : Int) := by omega
                  obtain ⟨gq2, rfl⟩ : ∃ q, gk = q + 1 := ⟨gk - 1, by omega⟩
                  obtain ⟨t, ht⟩ : ∃ t, (adj x)[j]? = some t := ⟨_, List.getElem?_eq_getElem (by have := HLA.out; omega)⟩
                  obtain ⟨ba, oa, rfl, hba, hca⟩ := unhide HEL j t ht
                  have c3 : wr.cell? ⟨ba, oa + j, none⟩ = some (.int .i64 (t : Int)) := (unhide HKEEP wr hch _ hba).trans hca
                  have htN : t < N := unhide HAN2 x hxN t (List.mem_of_getElem? ht)
                  have hsn : (adj x).take (j + 1) = (adj x).take j ++ [t] := by rw [List.take_add_one, ht, Option.toList_some]
                  have hbd := unhide HBND
                  have HSN := Lib.hid hsn
                  by_cases hz : th' t = 0
                  · have hre : ∃ s ∈ fr.map Int.toNat, Rs adj s t := by
                      obtain ⟨s, hs, hr⟩ := hbi.sound x (hbi.mem x (by simp)).1
                      exact ⟨s, hs, hr.tail (List.mem_of_getElem? ht)⟩
                    have hA := hide (add_new hrc htN hz (by omega) hzr)
                    have HBI2 := hide (hbi.add htN hre)
                    have HCN := hide (show wh N (upf th' t 1) + ((x :: rest') ++ [t]).length ≤ w0 by have := wh_meet htN hz (show 1 ≠ 0 by decide); rw [List.length_append]; simp at hcnt ⊢; omega)
                    have HSD := hide hsd
                    have HCL := hide hcl
                    have HCH := hide hch
                    clear hrc hbi hcnt hsd hcl hch hz ht hba hca hsn hre hbd
                    go_wp2_with fail
                    refine (unhide hA).mono ?_
                    rintro e w5 ⟨rfl, rv5, hrc5, hch5⟩
                    have HRC5 := hide hrc5
                    have HCH5 := hide ((unhide HCH).trans hch5 (fun _ _ h => h))
                    clear hrc5 hch5 hA
                    go_wp2_with fail
                    go_roundg gq2
                    case rel => exact ⟨j + 1, _, rv5, rest' ++ [t], by go_num, by omega, unhide HRC5, unhide HBI2, unhide HCN, fun i hi => upf_mono (unhide HSD i hi), fun s hs => by
                      rw [HSN.out, List.mem_append, List.mem_singleton] at hs
                      rcases hs with hs | rfl
                      · exact upf_mono (unhide HCL s hs)
                      · rw [upf_same]; omega, unhide HCH5⟩
                    case measure => omega
                  · have hA := hide (add_old hrc htN hz)
                    have HRC := hide hrc
                    have HBI2 := hide hbi
                    have HCN := hide hcnt
                    have HSD := hide hsd
                    have HCL := hide hcl
                    have HCH := hide hch
                    have HZT := hide hz
                    clear hrc hbi hcnt hsd hcl hch hz ht hba hca hsn hbd
                    go_wp2_with fail
                    refine (unhide hA).mono ?_
                    rintro e w5 ⟨rfl, rfl⟩
                    clear hA
                    go_wp2_with fail
                    go_roundg gq2
                    case rel => exact ⟨j + 1, th', rv', rest', by go_num, by omega, unhide HRC, unhide HBI2, unhide HCN, unhide HSD, fun s hs => by
                      rw [HSN.out, List.mem_append, List.mem_singleton] at hs
                      rcases hs with hs | rfl
                      · exact unhide HCL s hs
                      · exact unhide HZT, unhide HCH⟩
                    case measure => omega
                · obtain rfl : j = La := by omega
                  have hel2 : (adj x).take j = adj x := List.take_of_length_le (by have := HLA.out; omega)
                  rw [hel2] at hcl
                  have hbi3 := hbi.pop hcl
                  obtain ⟨A6, c6, rfl⟩ := hrc.mid.shape
                  obtain ⟨Lp, hLp⟩ : ∃ L, rest'.length = L := ⟨_, rfl⟩
                  have hmid := hrc.mid
                  rw [List.map_cons, List.length_cons, hLp] at hmid
                  have hmc := hmid.cut
                  obtain ⟨Ac, hAc⟩ : ∃ v, v = (if c6 = 1 then A6 else A6.map (·.add (1 * 1))) := ⟨_, rfl⟩
                  obtain ⟨cc, hcc⟩ : ∃ v, v = c6 - 1 := ⟨_, rfl⟩
                  rw [← hAc, ← hcc] at hmc
                  have hsl : ∀ w, (Instr.slice 25 (.slice A6 (Lp + 1) c6) (some (.int .i64 1)) none none).run Try.prog w = .ok (.slice Ac Lp cc) w := fun w => by rw [hAc, hcc]; exact run_cut1 A6 c6 (by omega) w
                  have k1 : wr.cell? ⟨cR, 0, none⟩ = some (.slice A6 (Lp + 1) c6) := by rw [← hLp]; exact hrc.bR.cell 0
                  have k2 : wr.frozen? ⟨cR, 0, none⟩ = false := hrc.bR.frozen 0
                  have hrc3 : Rch (wr.setCell ⟨cR, 0, none⟩ (.slice Ac Lp cc)) cT cR gT N B th' (.slice Ac Lp cc) rest' := by
                    obtain ⟨e1, e2, e3, e4, e5, e6⟩ := hrc.ne
                    refine ⟨hrc.bT.far (p := ⟨cR, 0, none⟩) e3 _, hrc.bR.set_ 0 (.slice Ac Lp cc), hrc.bt.far (p := ⟨cR, 0, none⟩) (fun e => e2 e.symm) _, ?_, e1, e2, e3, e4, e5, e6⟩
                    rw [hLp]
                    exact hmc.chg (S := fun i => i = cR) (Chg.of_set wr ⟨cR, 0, none⟩ _) (fun b hb e => by have := (hmc.lt hb).1; omega)
                  have hbd := unhide HBND
                  have HCN := hide (show wh N th' + rest'.length ≤ gq ∧ wh N th' + rest'.length ≤ N by simp at hcnt; omega)
                  have HRC := hide hrc3
                  have HBI2 := hide hbi3
                  have HSD := hide hsd
                  have HCH := hide (hch.set_ ⟨cR, 0, none⟩ (.slice Ac Lp cc) (fun _ => .inr (.inl rfl)))
                  clear hrc hbi hcnt hsd hcl hch hel2 hbi3 hmid hmc hAc hcc hrc3 hbd hLp
                  go_wp2_with fail
                  go_roundg gq
                  case rel => exact ⟨th', (.slice Ac Lp cc), rest', by trivial, (unhide HCN).1, unhide HRC, unhide HBI2, (unhide HCN).2, unhide HSD, unhide HCH⟩
                  case measure => omega
  · go_wp2_with fail
    go_ret2
    exact ⟨unhide HB2, .inl ⟨by rw [HC.out]; exact h0, by rw [HC.out]; rfl⟩⟩
end Go.Proofs.Ytmcpbmadjpjckaa
