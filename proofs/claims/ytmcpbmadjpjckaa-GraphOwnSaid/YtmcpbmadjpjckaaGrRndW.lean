/-
  The shortest round of a graph: Round: the walk over the Go text.
-/
import Derived.Test.YtmcpbmadjpjckaaGrRnd
namespace Go.Proofs.Ytmcpbmadjpjckaa
open Go.RowKit

theorem bk_adj {n : Nat} {E : List (Int × Int × Int)} (hE : ∀ e ∈ E, okE (n : Int) e = true) {u t : Nat} : t ∈ adjOf E true u ↔ u ∈ adjOf E false t := by
  rw [adj_mem hE, adjOf, List.mem_filterMap]
  constructor
  · rintro ⟨e, he, h⟩
    obtain ⟨f, t', g, rfl, _⟩ := okE_parts (hE e he)
    simp only [if_true, Int.toNat_natCast] at h
    split at h
    · injection h with h
      exact ⟨_, he, by simpa using h, by simpa using by omega⟩
    · cases h
  · rintro ⟨e, he, rfl, rfl⟩
    obtain ⟨f, t', g, rfl, _⟩ := okE_parts (hE e he)
    exact ⟨_, he, by simp⟩
/-- A round: from each an edge leads to the next, from the last to the first, which is the least. -/
structure Rnd (N : Nat) (adj : Nat → List Nat) (first : Nat) (r : List Nat) : Prop where
  lt : first < N ∧ ∀ x ∈ r, x < N ∧ first < x
  step : ∀ i a b, (first :: r)[i]? = some a → (first :: r)[i + 1]? = some b → b ∈ adj a
  last : ∀ a, (first :: r)[r.length]? = some a → first ∈ adj a
  len : r.length < N
/-- No round goes through a node that is the least of it. -/
def NoC (N : Nat) (adj bk : Nat → List Nat) (part : Nat → Nat) (s : Nat) : Prop :=
  (¬ 2 ≤ (nds part N (part s)).length ∧ s ∉ adj s) ∨ ∃ fr, FarD N bk s fr ∧ ∀ i ∈ adj s, fr i = none
/-- What is the best so far. -/
def Bst (N : Nat) (adj bk : Nat → List Nat) (z1 z2 : Int) (lim : Nat) (none_ : Prop) : Prop :=
  (z1 = -1 ∧ z2 = (N : Int) + 1 ∧ none_) ∨
  ∃ (f d : Nat), z1 = (f : Int) ∧ z2 = (d : Int) + 1 ∧ f < lim ∧ d < N ∧ ∃ fr i0, FarD N bk f fr ∧ i0 ∈ adj f ∧ fr i0 = some d
theorem Bst.more {N : Nat} {adj bk : Nat → List Nat} {z1 z2 : Int} {l l' : Nat} {P P' : Prop} (h : Bst N adj bk z1 z2 l P) (hl : l ≤ l') (hp : P → P') : Bst N adj bk z1 z2 l' P' := by
  rcases h with ⟨h1, h2, h3⟩ | ⟨f, d, h1, h2, h3, h4⟩
  · exact .inl ⟨h1, h2, hp h3⟩
  · exact .inr ⟨f, d, h1, h2, by omega, h4⟩
theorem Bst.bd {N : Nat} {adj bk : Nat → List Nat} {z1 z2 : Int} {l : Nat} {P : Prop} (h : Bst N adj bk z1 z2 l P) : -1 ≤ z1 ∧ 1 ≤ z2 ∧ z2 ≤ (N : Int) + 1 := by
  rcases h with ⟨h1, h2, h3⟩ | ⟨f, d, h1, h2, h3, h4, _⟩ <;> omega
/-- What Round answers. -/
def RndOut (W : World) (n : Int) (E : List (Int × Int × Int)) (e : Ending) (W' : World) : Prop :=
  Below W.heap.size W W' ∧ ((chkS n E ≠ 0 ∧ e = .returned (.tuple #[.slice none 0 0, .int .i64 (chkS n E)])) ∨
   (chkS n E = 0 ∧ ∃ (N : Nat) (part : Nat → Nat) (al : Nat), n = (N : Int) ∧ Parts N (adjOf E false) part al ∧ (∀ p, p < al → ∃ u, u < N ∧ part u = p) ∧
    (((∀ s, s < N → NoC N (adjOf E false) (adjOf E true) part s) ∧ e = .returned (.tuple #[.slice none 0 0, .int .i64 0])) ∨
     (∃ v first r, e = .returned (.tuple #[v, .int .i64 0]) ∧ Rnd N (adjOf E false) first r ∧ W'.ownsRow W.heap.size 3 1 v (r.length + 1) ((first :: r).map iv)))))
set_option maxRecDepth 100000 in
set_option maxHeartbeats 8000000 in
theorem round_all (W : World) (n : Int) (A : Option Addr) (m cap B0 : Nat) (E : List (Int × Int × Int)) (hr : Reads W B0 3 A m (ecells E)) (hB0 : B0 ≤ W.heap.size) (hm : m ≤ 140737488355328) :
    Calls Try.prog 23 #[.int .i64 n, .slice A m cap] W (RndOut W n E) := by
  have hC := hide (check_any W n A m cap B0 E hr hB0 hm)
  have hlen : E.length = m := by have := hr.1; rw [ecells_len] at this; omega
  have HL := Lib.hid hlen
  obtain ⟨ck, hc⟩ : ∃ c, chkS n E = c := ⟨_, rfl⟩
  rw [hc] at hC
  have HR := hide hr
  have HC := Lib.hid hc
  clear hr hlen hc
  go_enter Try.func23, Try.ntmps23
  go_wp2_with fail
  refine (unhide hC).mono ?_
  rintro e w1 ⟨rfl, hb1⟩
  have HB1 := hide hb1
  clear hb1 hC
  by_cases h0 : ck = 0
  · subst h0
    obtain ⟨g1, g2, g3, hE⟩ := chk_ok HC.out
    obtain ⟨N, rfl⟩ := Int.eq_ofNat_of_zero_le g3
    have hN : N ≤ 65536 := by omega
    have hm2 : m ≤ 1048576 := by rw [← HL.out]; exact g2
    have hEd : ∀ e ∈ E, 0 ≤ e.1 ∧ e.1 < (N : Int) ∧ 0 ≤ e.2.1 ∧ e.2.1 < (N : Int) := fun e he => by
      have h : 0 ≤ e.1 ∧ e.1 < N ∧ 0 ≤ e.2.1 ∧ e.2.1 < N ∧ 0 ≤ e.2.2 ∧ e.2.2 ≤ 1048576 := of_decide_eq_true (hE e he)
      exact ⟨h.1, h.2.1, h.2.2.1, h.2.2.2.1⟩
    have hG1 := hide (netOf_any w1 A m cap N B0 E false ((unhide HR).below ((unhide HB1).mono hB0)) (Nat.le_trans hB0 (unhide HB1).size) hN hm2 hEd)
    have HE := hide hE
    have HED := hide hEd
    clear hE g1 g2 g3 hEd
    go_wp2_with fail
    refine (unhide hG1).mono ?_
    rintro e w2 ⟨V, rfl, hnet, hb2⟩
    have hbw2 : Below W.heap.size W w2 := (unhide HB1).trans (hb2.mono (unhide HB1).size)
    have hG2 := hide (netOf_any w2 A m cap N B0 E true ((unhide HR).below (hbw2.mono hB0)) (Nat.le_trans hB0 hbw2.size) hN hm2 (unhide HED))
    obtain ⟨gG, hgG⟩ : ∃ g, w1.heap.size = g := ⟨_, rfl⟩
    rw [hgG] at hnet ⊢
    have HNET := hide hnet
    have HB2 := hide hbw2
    clear hnet hb2 hbw2 hG1 hgG
    go_wp2_with fail
    refine (unhide hG2).mono ?_
    rintro e w3 ⟨Vb, rfl, hbnet, hb3⟩
    have hbw3 : Below W.heap.size W w3 := (unhide HB2).trans (hb3.mono (unhide HB2).size)
    have hF := hide (found_any w3 A m cap N B0 E ((unhide HR).below (hbw3.mono hB0)) (Nat.le_trans hB0 hbw3.size) hN hm2 (unhide HED))
    obtain ⟨gB, hgB⟩ : ∃ g, w2.heap.size = g := ⟨_, rfl⟩
    rw [hgB] at hbnet ⊢
    have HNET3 := hide ((unhide HNET).below hb3)
    have HBNET := hide hbnet
    have HB3 := hide hbw3
    clear hbnet hb3 hbw3 hG2 hgB HNET
    go_wp2_with fail
    refine (unhide hF).mono ?_
    rintro e w4 ⟨gP, part, al, rfl, hfo⟩
    have haln := hfo.aln
    have hmk := fun w => make_ints w al (by omega)
    have HNET4 := hide ((unhide HNET3).below hfo.bel)
    have HBNET4 := hide ((unhide HBNET).below hfo.bel)
    have HB4 := hide ((unhide HB3).trans (hfo.bel.mono (unhide HB3).size))
    have HFO := hide hfo
    clear hfo hF HNET3 HBNET
    simp only [iv]
    obtain ⟨gS, hgS⟩ : ∃ g, w4.heap.size = g := ⟨_, rfl⟩
    obtain ⟨W5, hW5⟩ : ∃ W5, w4.alloc (.cells (tab al fun _ => .int .i64 0) 3) = W5 := ⟨_, rfl⟩
    have hb5 : Below w4.heap.size w4 W5 := by rw [← hW5]; exact (Below.refl _ _).alloc (Nat.le_refl _) _
    have hs5 : Blk W5 gS 3 (tab al fun p => iv (nds part 0 p).length) := by rw [← hW5, ← hgS]; exact Blk.new _ _ _
    have HB5 := hide hb5
    have HS5 := hide hs5
    have HGS := Lib.hid hgS
    clear hb5 hs5
    go_wp2_with fail
    clear hW5 hgS hmk
    go_loopg [45] N (fun q t W' => ∃ k : Nat, t = .int .i64 (k : Int) ∧ k + q = N ∧ Blk W' gS 3 (tab al fun p => iv (nds part k p).length) ∧ Below w4.heap.size w4 W')
    case atStart => exact ⟨0, rfl, by omega, unhide HS5, unhide HB5⟩
    case round =>
      clear HS5 HB5
      obtain ⟨k, rfl, hkq, hs, hb⟩ := hrel
      have hk0 : (0 : Int) ≤ (k : Int) := by omega
      by_cases hk : k < N
      · have hkI : (k : Int) < (N : Int) := by omega
        obtain ⟨gq, rfl⟩ : ∃ q, gk = q + 1 := ⟨gk - 1, by omega⟩
        obtain ⟨pa, hpa⟩ : ∃ a, part k = a := ⟨_, rfl⟩
        have hpal : pa < al := by rw [← hpa]; exact (unhide HFO).lt k hk
        obtain ⟨sz, hsz⟩ : ∃ s, (nds part k pa).length = s := ⟨_, rfl⟩
        have hszl : sz ≤ k := hsz ▸ nds_len _ _ _
        have x1 : wr.cell? ⟨gP, k, none⟩ = some (.int .i64 (pa : Int)) := by rw [← hpa]; exact (((unhide HFO).blk.below hb (unhide HFO).blk.lt).cell k).trans (tab_at _ hk)
        have x2 : wr.cell? ⟨gS, pa, none⟩ = some (.int .i64 (sz : Int)) := by rw [← hsz]; exact (hs.cell pa).trans (tab_at _ hpal)
        have x2f : wr.frozen? ⟨gS, pa, none⟩ = false := hs.frozen pa
        have hpa0 : (0 : Int) ≤ (pa : Int) := by omega
        have hpaI : (pa : Int) < (al : Int) := by omega
        have HS := hide hs
        have HB := hide hb
        have HPA := Lib.hid hpa
        have HSZ := Lib.hid hsz
        clear hs hb hpa hsz
        go_wp2_with fail
        go_roundg gq
        case rel => exact ⟨k + 1, by go_num, by omega, (unhide HS).set_tab pa _ (fun p => by
          rw [nds_succ, HPA.out, List.length_append]
          by_cases e : p = pa
          · subst e; rw [upf_same, if_pos rfl, HSZ.out]; rfl
          · rw [upf_ne _ _ e, if_neg (fun h => e h.symm)]; rfl), (unhide HB).setCell (p := ⟨gS, pa, none⟩) (by have := HGS.out; show w4.heap.size ≤ gS; omega) _⟩
        case measure => omega
      · obtain rfl : k = N := by omega
        obtain ⟨w6, rfl⟩ : ∃ w : World, w = wr := ⟨_, rfl⟩
        have hadjn : ∀ u, u < k → ∀ t ∈ adjOf E false u, t < k := fun u hu t ht => ((unhide HFO).le u hu t ht).1
        have hbkn : ∀ u, u < k → ∀ t ∈ adjOf E true u, t < k := fun u hu t ht => by
          obtain ⟨e, he, rfl, _⟩ := (adj_mem (unhide HE)).1 ((bk_adj (unhide HE)).1 ht)
          obtain ⟨f, t', g, rfl, h1, _⟩ := okE_parts (unhide HE e he)
          simpa using h1
        have hadjl : ∀ u, (adjOf E false u).length ≤ 1048576 := fun u => Nat.le_trans (adjOf_len _ _ _) (by have := HL.out; omega)
        have hbkl : ∀ u, (adjOf E true u).length ≤ 1048576 := fun u => Nat.le_trans (adjOf_len _ _ _) (by have := HL.out; omega)
        have HNET6 := hide ((unhide HNET4).below hb)
        have HBNET6 := hide ((unhide HBNET4).below hb)
        have HP6 := hide ((unhide HFO).blk.below hb (unhide HFO).blk.lt)
        have HS6 := hide hs
        have HB6 := hide ((unhide HB4).trans (hb.mono (unhide HB4).size))
        have hbka : ∀ u t, t ∈ adjOf E true u ↔ u ∈ adjOf E false t := fun u t => bk_adj (unhide HE)
        obtain ⟨adj, hadj⟩ : ∃ a, adjOf E false = a := ⟨_, rfl⟩
        obtain ⟨bk, hbk⟩ : ∃ a, adjOf E true = a := ⟨_, rfl⟩
        rw [hadj] at hadjn hadjl hbka HNET6
        rw [hbk] at hbkn hbkl hbka HBNET6
        have HAN := hide hadjn
        have HAL := hide hadjl
        have HBKN := hide hbkn
        have HBKL := hide hbkl
        have HBKA := hide hbka
        have HADJ := Lib.hid hadj
        have HBK := Lib.hid hbk
        clear hs hb hadjn hbkn hadjl hbkl hbka hadj hbk HNET4 HBNET4
        go_wp2_with fail
        go_loopg [14, 15, 59] k (fun q t14 t15 t W' => ∃ (s : Nat) (z1 z2 : Int), t14 = .int .i64 z1 ∧ t15 = .int .i64 z2 ∧ t = .int .i64 (s : Int) ∧ s + q = k ∧ Bst k adj bk z1 z2 s (∀ s', s' < s → NoC k adj bk part s') ∧ Below w6.heap.size w6 W')
        case atStart => exact ⟨0, _, _, rfl, rfl, rfl, by omega, .inl ⟨rfl, rfl, fun s h => by omega⟩, Below.refl _ _⟩
        case round =>
          obtain ⟨s, z1, z2, rfl, rfl, rfl, hsq, hbst, hb⟩ := hrel
          have hs0 : (0 : Int) ≤ (s : Int) := by omega
          have hnet := (unhide HNET6).below hb
          have hbnet := (unhide HBNET6).below hb
          have hp := (unhide HP6).below hb (unhide HP6).lt
          have hsz := (unhide HS6).below hb (unhide HS6).lt
          by_cases hs : s < k
          · have hsI : (s : Int) < (k : Int) := by omega
            obtain ⟨gq, rfl⟩ : ∃ q, gk = q + 1 := ⟨gk - 1, by omega⟩
            obtain ⟨pa, hpa⟩ : ∃ a, part s = a := ⟨_, rfl⟩
            have hpal : pa < al := by rw [← hpa]; exact (unhide HFO).lt s hs
            obtain ⟨sz, hszz⟩ : ∃ x, (nds part k pa).length = x := ⟨_, rfl⟩
            have x1 : wr.cell? ⟨gP, s, none⟩ = some (.int .i64 (pa : Int)) := by rw [← hpa]; exact (hp.cell s).trans (tab_at _ hs)
            have x2 : wr.cell? ⟨gS, pa, none⟩ = some (.int .i64 (sz : Int)) := by rw [← hszz]; exact (hsz.cell pa).trans (tab_at _ hpal)
            have hpa0 : (0 : Int) ≤ (pa : Int) := by omega
            have hpaI : (pa : Int) < (al : Int) := by omega
            obtain ⟨La, hLa⟩ : ∃ L, (adj s).length = L := ⟨_, rfl⟩
            have hoa := hnet.own s hs
            obtain ⟨Ax, cx, hvx⟩ := hoa.shape
            rw [hvx] at hoa
            rw [hLa] at hoa hvx
            have g1 : wr.cell? ⟨gG, s, none⟩ = some (.slice Ax La cx) := by rw [← hvx]; exact (hnet.blk.cell s).trans (tab_at _ hs)
            have hrd := own_readsO hoa
            have hLal : La ≤ 1048576 := hLa ▸ unhide HAL s
            have hCn := hide (containsI_any wr Ax La cx wr.heap.size (adj s) hrd (by omega) s)
            have hSt := hide (steps_any wr gB (gB + 1) k Vb bk hbnet (unhide HBKN) (unhide HBKL) hN hs)
            have HRD := hide hrd
            have HPA := Lib.hid hpa
            have HSZ := Lib.hid hszz
            have HLA := Lib.hid hLa
            have HBST := hide hbst
            have HB := hide hb
            clear hnet hbnet hp hsz hoa hvx hrd hpa hszz hLa hbst hb
            obtain ⟨cb, hcb⟩ : ∃ b, decide (s ∈ adj s) = b := ⟨_, rfl⟩
            rw [hcb] at hCn
            have HCB := Lib.hid hcb
            clear hcb
            by_cases hskip : sz < 2 ∧ cb = false
            · obtain ⟨hs2, rfl⟩ := hskip
              have hs2I : (sz : Int) < 2 := by omega
              go_wp2_with fail
              refine (unhide hCn).mono ?_
              rintro e w' ⟨rfl, rfl⟩
              clear hCn hSt
              go_wp2_with fail
              go_roundg gq
              case rel => exact ⟨s + 1, z1, z2, rfl, rfl, by go_num, by omega, (unhide HBST).more (by omega) (fun h s' hs' => by
                by_cases e : s' = s
                · subst e
                  exact .inl ⟨by rw [HPA.out, HSZ.out]; omega, of_decide_eq_false HCB.out⟩
                · exact h s' (by omega)), unhide HB⟩
              case measure => omega
            · have hT : ∀ W' : World, W' = wr → True := fun _ _ => trivial
              clear hT
              have hnext : sz < 2 → cb = true := fun h => by
                cases cb
                · exact absurd ⟨h, rfl⟩ hskip
                · rfl
              by_cases hs2 : sz < 2
              case' pos => have hs2I : (sz : Int) < 2 := by omega
              case' pos => obtain rfl := hnext hs2
              case' pos => go_wp2_with fail
              case' pos => refine (unhide hCn).mono ?_
              case' pos => rintro e w' ⟨rfl, rfl⟩
              case' neg => have hs2I : ¬ (sz : Int) < 2 := by omega
              all_goals
                clear hCn
                go_wp2_with fail
                refine (unhide hSt).mono ?_
                rintro e w7 ⟨gs, fr, rfl, hgs, hfb, hb7, hfd⟩
                have HFB := hide hfb
                have HB7 := hide ((unhide HB).trans (hb7.mono (unhide HB).size))
                have HFD := hide hfd
                have g17 : w7.cell? ⟨gG, s, none⟩ = some (.slice Ax La cx) := (hb7.cell (p := ⟨gG, s, none⟩) (World.block_lt_of_cell? wr _ g1)).trans g1
                have HRD7 := hide ((unhide HRD).below hb7)
                clear hfb hb7 hfd hSt g1 x1 x2
                go_wp2_with fail
                go_loopg [14, 15, 87] La (fun q t14 t15 t W' => ∃ (j : Nat) (y1 y2 : Int), t14 = .int .i64 y1 ∧ t15 = .int .i64 y2 ∧ t = .int .i64 (j : Int) ∧ j + q = La ∧ Bst k adj bk y1 y2 (s + 1) ((∀ s', s' < s → NoC k adj bk part s') ∧ ∀ i ∈ (adj s).take j, fr i = none) ∧ ∃ a, W' = w7.drewN a)
                case atStart => exact ⟨0, z1, z2, rfl, rfl, rfl, by omega, (unhide HBST).more (by omega) (fun h => ⟨h, by simp⟩), 0, rfl⟩
                case round =>
                  obtain ⟨j, y1, y2, rfl, rfl, rfl, hjq, hbst, a, hwa⟩ := hrel
                  have hj0 : (0 : Int) ≤ (j : Int) := by omega
                  by_cases hj : j < La
                  · have hjI : (j : Int) < (La : Int) := by omega
                    obtain ⟨gq2, rfl⟩ : ∃ q, gk = q + 1 := ⟨gk - 1, by omega⟩
                    obtain ⟨ba, off, u, rfl, _, hu, hcu, _⟩ := (unhide HRD7).at0 hj
                    rw [List.getElem?_map] at hu
                    obtain ⟨i, hi, rfl⟩ := Option.map_eq_some_iff.1 hu
                    have c1 : wr.cell? ⟨ba, off + j, none⟩ = some (.int .i64 (i : Int)) := by rw [hwa]; exact hcu
                    have him : i ∈ adj s := List.mem_of_getElem? hi
                    have hiN : i < k := unhide HAN s hs i him
                    have hi0 : (0 : Int) ≤ (i : Int) := by omega
                    have hiI : (i : Int) < (k : Int) := by omega
                    have hsn : (adj s).take (j + 1) = (adj s).take j ++ [i] := by rw [List.take_add_one, hi, Option.toList_some]
                    have c2 : wr.cell? ⟨gs, i, none⟩ = some (pv (fr i)) := by rw [hwa]; exact ((unhide HFB).cell i).trans (tab_at _ hiN)
                    obtain ⟨b1, b2, b3⟩ := hbst.bd
                    have HSN := Lib.hid hsn
                    have HIM := hide him
                    have HBS := hide hbst
                    have HWA := Lib.hid hwa
                    clear hu hi hsn him hcu hbst hwa
                    cases hfi : fr i with
                    | none =>
                      have c3 : wr.cell? ⟨gs, i, none⟩ = some (.int .i64 (-1)) := by rw [c2, hfi]; rfl
                      have HFI := Lib.hid hfi
                      clear c2 hfi
                      go_wp2_with fail
                      go_roundg gq2
                      case rel => exact ⟨j + 1, y1, y2, rfl, rfl, by go_num, by omega, (unhide HBS).more (Nat.le_refl _) (fun h => ⟨h.1, fun x hx => by
                        rw [HSN.out, List.mem_append, List.mem_singleton] at hx
                        rcases hx with hx | rfl
                        · exact h.2 x hx
                        · exact HFI.out⟩), a, HWA.out⟩
                      case measure => omega
                    | some d =>
                      have hdk := chain_lt hs (unhide HFD).down hfi
                      have c3 : wr.cell? ⟨gs, i, none⟩ = some (.int .i64 (d : Int)) := by rw [c2, hfi]; rfl
                      have HFI := Lib.hid hfi
                      have hd0 : (0 : Int) ≤ (d : Int) := by omega
                      clear c2 hfi
                      by_cases hlt : (d : Int) + 1 < y2
                      · go_wp2_with fail
                        go_quiet (fail)
                        rename_i nq
                        go_wp2_with fail
                        go_roundg gq2
                        case rel => exact ⟨j + 1, _, _, rfl, rfl, by go_num, by omega, .inr ⟨s, d, rfl, rfl, by omega, hdk, fr, i, unhide HFD, unhide HIM, HFI.out⟩, a + nq, by rw [HWA.out, World.drewN_drewN]⟩
                        case measure => omega
                      · go_wp2_with fail
                        go_roundg gq2
                        case rel =>
                          refine ⟨j + 1, y1, y2, rfl, rfl, by go_num, by omega, ?_, a, HWA.out⟩
                          rcases unhide HBS with ⟨h1, h2, h3⟩ | h
                          · omega
                          · exact .inr h
                        case measure => omega
                  · obtain rfl : j = La := by omega
                    rw [List.take_of_length_le (by have := HLA.out; omega)] at hbst
                    have HBS := hide (hbst.more (Nat.le_refl _) (P' := ∀ s', s' < s + 1 → NoC k adj bk part s') (fun h s' hs' => by
                      by_cases e : s' = s
                      · subst e; exact .inr ⟨fr, unhide HFD, h.2⟩
                      · exact h.1 s' (by omega)))
                    have HBW := hide (show Below w6.heap.size w6 wr by rw [hwa]; exact below_drewN (unhide HB7) a)
                    clear hbst hwa
                    go_wp2_with fail
                    go_roundg gq
                    case rel => exact ⟨s + 1, y1, y2, rfl, rfl, by go_num, by omega, unhide HBS, unhide HBW⟩
                    case measure => omega
          · obtain rfl : s = k := by omega
            have HBW := hide ((unhide HB6).trans (hb.mono (unhide HB6).size))
            rcases hbst with ⟨rfl, rfl, hno⟩ | ⟨f, d, rfl, rfl, hfk, hdk, fr, i0, hfd, hi0, hfi⟩
            · have HNO := hide hno
              clear hb hnet hbnet hp hsz hno
              go_wp2_with fail
              go_ret2
              refine ⟨unhide HBW, .inr ⟨HC.out, s, part, al, rfl, (unhide HFO).parts, (unhide HFO).surj, .inl ⟨?_, rfl⟩⟩⟩
              rw [HADJ.out, HBK.out]
              exact unhide HNO
            · have hSt := hide (steps_any wr gB (gB + 1) s Vb bk hbnet (unhide HBKN) (unhide HBKL) hN hfk)
              have HNR := hide hnet
              have HFD0 := hide hfd
              have HI0 := hide (And.intro hi0 hfi)
              have hf0 : ¬ (f : Int) < 0 := by omega
              clear hb hnet hbnet hp hsz hfd hi0 hfi
              go_wp2_with fail
              refine (unhide hSt).mono ?_
              rintro e w7 ⟨gs, fr', rfl, hgs, hfb, hb7, hfd'⟩
              obtain rfl := (unhide HFD0).one hfd'
              obtain ⟨W8, hW8⟩ : ∃ W8, w7.alloc (.cells #[.int .i64 (f : Int)] 3) = W8 := ⟨_, rfl⟩
              obtain ⟨go, hgo⟩ : ∃ g, w7.heap.size = g := ⟨_, rfl⟩
              have hb8 : Below w7.heap.size w7 W8 := by rw [← hW8]; exact (Below.refl _ _).alloc (Nat.le_refl _) _
              have hx8 : Blk W8 go 3 #[.int .i64 (f : Int)] := by rw [← hW8, ← hgo]; exact Blk.new _ _ _
              have ho8 : W8.ownsRow go 3 1 (.slice (some ⟨go, 0, none⟩) 1 1) ([] : List Nat).length.succ ((f :: ([] : List Nat)).map iv) := ⟨rfl, .inr ⟨go, 1, #[.int .i64 (f : Int)], rfl, Nat.le_refl _, hx8, Nat.le_refl _, by simp [maxLen], rfl, rfl⟩⟩
              have HO8 := hide ho8
              have HB8 := hide hb8
              have HFB := hide hfb
              have HN7 := hide ((unhide HNR).below hb7)
              have HB7 := hide ((unhide HBW).trans (hb7.mono (unhide HBW).size))
              have HGO := Lib.hid hgo
              clear hb8 hx8 ho8 hfb hfd' hb7 hSt HNR
              have hdd : ((d : Int) + 1) - 1 = (d : Int) := by omega
              go_wp2_with fail
              clear hW8 hgo
              go_loopg [21, 22] d (fun q t21 t W' => ∃ (r : List Nat) (kk : Nat), t = .int .i64 (kk : Int) ∧ kk ≤ q ∧ kk + r.length = d ∧ W'.ownsRow go 3 1 t21 (r.length + 1) ((f :: r).map iv) ∧ Below w7.heap.size w7 W' ∧ (∀ x ∈ r, x < s ∧ f < x) ∧ (∀ i a b, (f :: r)[i]? = some a → (f :: r)[i + 1]? = some b → b ∈ adj a) ∧ (∀ a, (f :: r)[r.length]? = some a → a < s ∧ ∃ j ∈ adj a, fr j = some kk))
              case atStart => exact ⟨[], d, rfl, Nat.le_refl _, by simp, unhide HO8, unhide HB8, by simp, fun i a b h1 h2 => by simp at h2, fun a h => by
                simp at h
                subst h
                exact ⟨hfk, i0, (unhide HI0).1, (unhide HI0).2⟩⟩
              case round =>
                clear HO8 HB8
                obtain ⟨r, kk, rfl, hkkq, hkr, ho, hb, hlt, hst, hla⟩ := hrel
                obtain ⟨Lo, hLo⟩ : ∃ L, r.length = L := ⟨_, rfl⟩
                obtain ⟨M, hM⟩ : ∃ M, Lo + 1 = M := ⟨_, rfl⟩
                rw [hLo] at hkr hla ho
                rw [hM] at ho
                obtain ⟨Ao, co, rfl⟩ := ho.shape
                obtain ⟨go2, cap2, hv2, hgB2, hn2, hc2⟩ := own_form ho (by omega)
                obtain ⟨rfl, rfl⟩ : Ao = some ⟨go2, 0, none⟩ ∧ co = cap2 := by cases hv2; exact ⟨rfl, rfl⟩
                cases kk with
                | zero =>
                  have hrnd : Rnd s adj f r := ⟨⟨hfk, hlt⟩, hst, fun a ha => by
                    rw [hLo] at ha
                    obtain ⟨_, j, h1, h2⟩ := hla a ha
                    rw [(unhide HFD0).zero h2] at h1
                    exact h1, by omega⟩
                  have HRN := hide hrnd
                  have HO := hide ((show wr.ownsRow go 3 1 (.slice (some ⟨go2, 0, none⟩) M co) (r.length + 1) ((f :: r).map iv) from by rw [hLo, hM]; exact ho).base (base' := W.heap.size) (by have := (unhide HB7).size; have := HGO.out; omega))
                  have HBF := hide ((unhide HB7).trans (hb.mono (unhide HB7).size))
                  clear ho hb hlt hst hla hv2 hrnd
                  go_wp2_with fail
                  go_ret2
                  refine ⟨unhide HBF, .inr ⟨HC.out, s, part, al, rfl, (unhide HFO).parts, (unhide HFO).surj, .inr ⟨_, f, r, rfl, ?_, unhide HO⟩⟩⟩
                  rw [HADJ.out]
                  exact unhide HRN
                | succ kk =>
                  obtain ⟨gq, rfl⟩ : ∃ q, gk = q + 1 := ⟨gk - 1, by omega⟩
                  have hln : (f :: r).length = M := by rw [List.length_cons, hLo]; exact hM
                  obtain ⟨a, ha⟩ : ∃ a, (f :: r)[Lo]? = some a := ⟨_, List.getElem?_eq_getElem (by omega)⟩
                  obtain ⟨hak, j, hj1, hj2⟩ := hla a ha
                  have c1 : wr.cell? ⟨go2, Lo, none⟩ = some (.int .i64 (a : Int)) := by rw [own_cell ho (by omega), List.getElem?_map, ha]; rfl
                  have hnr := (unhide HN7).below hb
                  have hfr := (unhide HFB).below hb (unhide HFB).lt
                  obtain ⟨La, hLa⟩ : ∃ L, (adj a).length = L := ⟨_, rfl⟩
                  have hoa := hnr.own a hak
                  obtain ⟨Ax, cx, hvx⟩ := hoa.shape
                  rw [hvx] at hoa
                  rw [hLa] at hoa hvx
                  have g1 : wr.cell? ⟨gG, a, none⟩ = some (.slice Ax La cx) := by rw [← hvx]; exact (hnr.blk.cell a).trans (tab_at _ hak)
                  have hLal : La ≤ 1048576 := hLa ▸ unhide HAL a
                  have hLe := hide (least_any wr Ax La cx wr.heap.size (adj a) (own_readsO hoa) (by omega) gs s fr hfr (fun i hi => unhide HAN a hak i hi) (kk + 1) ⟨j, hj1, hj2⟩)
                  have ha0 : (0 : Int) ≤ (a : Int) := by omega
                  have haI : (a : Int) < (s : Int) := by omega
                  have hLo0 : (0 : Int) ≤ (Lo : Int) := by omega
                  have hLoI : (Lo : Int) < (M : Int) := by omega
                  have hMd : (M : Int) - 1 = (Lo : Int) := by omega
                  have hkp : (0 : Int) < ((kk + 1 : Nat) : Int) := by omega
                  obtain ⟨K1, hK1⟩ : ∃ K, kk + 1 = K := ⟨_, rfl⟩
                  rw [hK1] at hLe hkp
                  have hKd : (K1 : Int) - 1 = (kk : Int) := by omega
                  have hkb : kk ≤ d := by omega
                  have HK1 := Lib.hid hK1
                  have HLT := hide hlt
                  have HST := hide hst
                  have HLN := Lib.hid hln
                  have HA := Lib.hid ha
                  have HO := hide ho
                  have HB := hide hb
                  have HLO := Lib.hid hLo
                  have HM := Lib.hid hM
                  have HKR := hide hkr
                  have hzb : go ≤ wr.heap.size := by have := hb.size; have := HGO.out; omega
                  have HC8 : Hid (M + 1 ≤ maxLen ∧ (M + 1) * 8 ≤ 140737488355328) := cap8 (by omega)
                  clear hlt hst hla hln ha ho hb hv2 hnr hfr hLa hoa hvx hLo hM hj1 hj2 hkr hK1
                  rw [HK1.out]
                  go_wp2_with fail
                  refine (unhide hLe).mono ?_
                  rintro e w' ⟨x, rfl, hx1, hx2, rfl⟩
                  have HX := hide (And.intro hx1 hx2)
                  clear hx1 hx2 hLe
                  go_wp2_with (first
                    | (at_builtin
                       refine wpList_app1 wr rfl (.tmp 126) (.tmp 139) 25 rfl elem_int go (.slice (some ⟨go2, 0, none⟩) M co) M ((f :: r).map iv) rfl (unhide HO) (.int .i64 (x : Int)) wr.heap.size rfl rfl rfl HC8.out hzb ?_
                       intro v5 w5 ho5 hg5 hr5
                       obtain ⟨A5, c5, rfl⟩ := ho5.shape
                       have HO5 := hide ho5
                       have HB5 := hide ((unhide HB).grown hg5 (unhide HB).size (fun g e => by have := ((unhide HO).lt g e).1; have := HGO.out; omega))
                       clear ho5 hg5 hr5))
                  go_roundg gq
                  case rel =>
                    obtain ⟨hx1, hx2⟩ := unhide HX
                    have hxk := unhide HAN a hak x hx1
                    have hxd := (unhide HFD0).down x K1 hx2
                    have hxs : f < x ∧ ∃ j' ∈ adj x, fr j' = some kk := by
                      rcases hxd with ⟨_, e⟩ | ⟨h1, _, j', k', _, h3, h4, h5⟩
                      · have := HK1.out; omega
                      · refine ⟨h1, j', (unhide HBKA j' x).1 h5, ?_⟩
                        have e : k' = kk := by have := HK1.out; omega
                        rw [← e]; exact h4
                    have hl : (f :: (r ++ [x])) = (f :: r) ++ [x] := rfl
                    refine ⟨r ++ [x], kk, rfl, by omega, by have := unhide HKR; have := HLO.out; rw [List.length_append]; simp; omega, ?_, unhide HB5, fun y hy => ?_, fun i a' b' h1 h2 => ?_, fun a' h1 => ?_⟩
                    · have h := unhide HO5
                      have e : (r ++ [x]).length + 1 = M + 1 := by have := HLO.out; have := HM.out; rw [List.length_append]; simp; omega
                      rw [e, hl, List.map_append]
                      exact h
                    · rw [List.mem_append, List.mem_singleton] at hy
                      rcases hy with hy | rfl
                      · exact unhide HLT y hy
                      · exact ⟨hxk, hxs.1⟩
                    · rw [hl] at h1 h2
                      by_cases c : i + 1 < (f :: r).length
                      · rw [List.getElem?_append_left (by omega)] at h1
                        rw [List.getElem?_append_left c] at h2
                        exact unhide HST i a' b' h1 h2
                      · have h3 : i + 1 = (f :: r).length := by
                          have := (List.getElem?_eq_some_iff.1 h2).1
                          rw [List.length_append] at this
                          simp only [List.length_singleton] at this
                          omega
                        have hi : i = Lo := by have := HLN.out; have := HM.out; omega
                        subst hi
                        rw [List.getElem?_append_left (by omega), HA.out] at h1
                        rw [List.getElem?_append_right (by omega), h3, Nat.sub_self] at h2
                        injection h1 with h1
                        injection h2 with h2
                        subst h1 h2
                        exact hx1
                    · rw [hl] at h1
                      have e : (r ++ [x]).length = (f :: r).length := by simp
                      rw [e, List.getElem?_append_right (Nat.le_refl _), Nat.sub_self] at h1
                      injection h1 with h1
                      subst h1
                      exact ⟨hxk, hxs.2⟩
                  case measure => omega
  · go_wp2_with fail
    go_ret2
    exact ⟨unhide HB1, .inl ⟨by rw [HC.out]; exact h0, by rw [HC.out]; rfl⟩⟩
end Go.Proofs.Ytmcpbmadjpjckaa
