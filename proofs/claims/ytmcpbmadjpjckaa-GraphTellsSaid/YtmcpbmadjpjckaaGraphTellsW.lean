/-
  GraphTells: the walk over the law's text. Condition: at most 5864062014634 edges.
-/
import Derived.Test.YtmcpbmadjpjckaaGrTells3
import Derived.BigRegion
namespace Go.Proofs.Ytmcpbmadjpjckaa
open Go.RowKit

set_option maxRecDepth 100000 in
set_option maxHeartbeats 8000000 in
theorem graphTells_walk (W : World) (n : Int) (Ae : Option Addr) (m ce : Nat) (E : List (Int × Int × Int)) (hr : Reads W W.heap.size 3 Ae m (ecells E)) (hm : m ≤ 5864062014634) :
    Calls Try.prog 4 #[.agg #[.int .i64 n, .slice Ae m ce]] W fun e W' => e = .returned (.bool true) ∧ Below W.heap.size W W' := by
  obtain ⟨W1, hW1⟩ : ∃ W1, W.alloc (.cells #[.int .i64 n, .slice Ae m ce] 24) = W1 := ⟨_, rfl⟩
  obtain ⟨x, hx⟩ : ∃ x, W.heap.size = x := ⟨_, rfl⟩
  have hb1 : Below W.heap.size W W1 := by rw [← hW1]; exact (Below.refl _ _).alloc (Nat.le_refl _) _
  have hx1 : Blk W1 x 24 #[.int .i64 n, .slice Ae m ce] := by rw [← hW1, ← hx]; exact Blk.new _ _ _
  have hr1 := hr.below hb1
  have hlen : E.length = m := by have := hr.1; rw [ecells_len] at this; omega
  have HL := Lib.hid hlen
  have HR := hide hr1
  have HX := hide hx1
  have HB1 := hide hb1
  have HXX := Lib.hid hx
  have hA := hide (awake_any W1)
  clear hr hb1 hx1 hr1 hlen
  go_enter Try.func4, Try.ntmps4
  go_wp2_with fail
  refine (unhide hA).mono ?_
  rintro e w0 ⟨rfl, hb0⟩
  have HXa := hide ((unhide HX).below hb0 (unhide HX).lt)
  have HBa := hide ((unhide HB1).trans (hb0.mono (unhide HB1).size))
  have HRa := hide ((unhide HR).below (hb0.mono (unhide HB1).size))
  have xa0 : w0.cell? ⟨x, 0, none⟩ = some (.int .i64 n) := (unhide HXa).cell 0
  have xa1 : w0.cell? ⟨x, 1, none⟩ = some (.slice Ae m ce) := (unhide HXa).cell 1
  clear hb0 HX HB1 HR hA hW1 hx
  have hG := hide (great_any w0 n Ae m ce W.heap.size E (unhide HRa) (unhide HBa).size (by omega))
  go_wp2_with fail
  refine (unhide hG).mono ?_
  rintro e w1 ⟨bg, rfl, hb2⟩
  have HXb := hide ((unhide HXa).below hb2 (unhide HXa).lt)
  have HBb := hide ((unhide HBa).trans (hb2.mono (unhide HBa).size))
  have HRb := hide ((unhide HRa).below (hb2.mono (unhide HBa).size))
  have xb0 : w1.cell? ⟨x, 0, none⟩ = some (.int .i64 n) := (unhide HXb).cell 0
  have xb1 : w1.cell? ⟨x, 1, none⟩ = some (.slice Ae m ce) := (unhide HXb).cell 1
  clear hb2 HXa HBa HRa xa0 xa1 hG
  cases bg with
  | true =>
    go_wp2_with fail
    go_ret
    exact ⟨rfl, unhide HBb⟩
  | false =>
    have hD := hide (edges_any w1 n Ae m ce W.heap.size E (unhide HRb) (unhide HBb).size (by omega))
    go_wp2_with fail
    refine (unhide hD).mono ?_
    rintro e w2 ⟨gl, cl, rfl, hel, hb2⟩
    have HX2 := hide ((unhide HXb).below hb2 (unhide HXb).lt)
    have HB2 := hide ((unhide HBb).trans (hb2.mono (unhide HBb).size))
    have HR2 := hide ((unhide HRb).below (hb2.mono (unhide HBb).size))
    have hre : Reads w2 w2.heap.size 3 (some ⟨gl, 0, none⟩) m (ecells E) := by
      have h := Reads.of_own hel
      rw [ecells_app] at h
      exact h.front3 (by rw [ecells_len, HL.out])
    have HRE := hide hre
    have x20 : w2.cell? ⟨x, 0, none⟩ = some (.int .i64 n) := (unhide HX2).cell 0
    have x21 : w2.cell? ⟨x, 1, none⟩ = some (.slice Ae m ce) := (unhide HX2).cell 1
    have hF := hide (parts_tells w2 n _ m cl _ E hre (Nat.le_refl _) (by omega))
    clear hb2 hel hre HXb HBb HRb xb0 xb1 hD
    go_wp2_with fail
    refine (unhide hF).mono ?_
    rintro e w3 ⟨hb3, hout⟩
    have HX3 := hide ((unhide HX2).below hb3 (unhide HX2).lt)
    have HB3 := hide ((unhide HB2).trans (hb3.mono (unhide HB2).size))
    have HR3 := hide ((unhide HR2).below (hb3.mono (unhide HB2).size))
    have HRE3 := hide (((unhide HRE).below hb3).more hb3.size)
    have x30 : w3.cell? ⟨x, 0, none⟩ = some (.int .i64 n) := (unhide HX3).cell 0
    have x31 : w3.cell? ⟨x, 1, none⟩ = some (.slice Ae m ce) := (unhide HX3).cell 1
    clear hb3 HX2 HB2 HR2 x20 x21 hF HRE
    rcases hout with ⟨h1, rfl⟩ | ⟨h0, N, al, part, os, V, Av, cv, rfl, rfl, htp⟩
    · obtain ⟨ck, hck⟩ : ∃ c, chkS n E = c := ⟨_, rfl⟩
      rw [hck] at h1
      have hK := hide (refused_any w3 n Ae m ce W.heap.size E (unhide HR3) (unhide HB3).size hm ck hck h1)
      have hb0 : (ck != 0) = true := by simpa using h1
      rw [hck]
      clear hck
      go_wp2_with fail
      refine (unhide hK).mono ?_
      rintro e w4 ⟨rfl, hb4⟩
      have HB4 := hide ((unhide HB3).trans (hb4.mono (unhide HB3).size))
      clear hb4
      go_wp2_with fail
      go_ret
      exact ⟨rfl, unhide HB4⟩
    · have hE := hide (chk_ok h0).2.2.2
      have hN6 : N ≤ 65536 := by have := (chk_ok h0).1; omega
      have hal6 : al ≤ 65536 := by have := htp.parts.aln; omega
      have H0 := hide h0
      have HTP := hide htp
      have HSTAT := hide (show Parts N (adjOf E false) part al ∧ (∀ p, p < al → ∃ u, u < N ∧ part u = p) ∧ PSpec part E al (fstN part N) os ∧ (∀ p, p < al → p ∈ os) ∧ os.length = al from ⟨htp.parts, htp.surj, htp.spec, htp.all, htp.len⟩)
      obtain ⟨ga, hga⟩ : ∃ g, w3.heap.size = g := ⟨_, rfl⟩
      obtain ⟨w4, hw4⟩ : ∃ w, w3.alloc (.cells (tab N fun _ => .int .i64 0) 3) = w := ⟨_, rfl⟩
      have hb4 : Below ga w3 w4 := by rw [← hw4, ← hga]; exact (Below.refl _ _).alloc (Nat.le_refl _) _
      have hj4 : Blk w4 ga 3 (tab N fun u => iv (atF part os 0 u)) := by
        have e : (tab N fun u => iv (atF part os 0 u)) = tab N fun _ => .int .i64 0 := tab_congr fun u => by rw [atF_zero]; rfl
        rw [e, ← hw4, ← hga]; exact Blk.new _ _ _
      have HB4 := hide hb4
      have HJ4 := hide hj4
      have HGA := Lib.hid hga
      have hmk := fun w => make_ints w N (by omega)
      have hN0 : (0 : Int) ≤ (N : Int) := by omega
      clear h0 htp hb4 hj4
      go_wp2_with fail
      clear hmk hw4 x30 x31 HR3 hga
      go_loopg [7, 8, 9] al (fun q t7 t8 t9 W' => ∃ i : Nat, t7 = .int .i64 (i : Int) ∧ i + q = al ∧ Blk W' ga 3 (tab N fun u => iv (atF part os i u)) ∧ Below ga w3 W')
      case atStart => exact ⟨0, rfl, by omega, unhide HJ4, unhide HB4⟩
      case round =>
        clear HB4 HJ4
        obtain ⟨i, rfl, hiq, hj, hb⟩ := hrel
        have hi0 : (0 : Int) ≤ (i : Int) := by omega
        have hb' : Below w3.heap.size w3 wr := HGA.out ▸ hb
        by_cases hi : i < al
        · have hiI : (i : Int) < (al : Int) := by omega
          obtain ⟨gq, rfl⟩ : ∃ q, gk = q + 1 := ⟨gk - 1, by omega⟩
          obtain ⟨gv, off, p, Ap, lp, cp, rfl, hgv, hp, hpa, hlp, hlp0, hlc, hcm, hc1, hrow⟩ := (unhide HTP).at_ hi
          have HC1 : Hid (∀ w, Below w3.heap.size w3 w → w.cell? ⟨gv, off + i, none⟩ = some (.slice Ap lp cp)) := hide (fun w hw => by rw [hw.cell (show (⟨gv, off + i, none⟩ : Addr).block < _ from hgv)]; exact hc1)
          have c1 := unhide HC1 wr hb'
          have hlp6 : lp ≤ 65536 := by have := nds_len part N p; omega
          have hj0 : Blk wr ga 3 (tab N fun u => iv (atK part os N i p 0 u)) := by rw [tab_congr fun u => by rw [atK_zero]]; exact hj
          have hlpb : ((lp : Int) == 0) = false := by simp; omega
          obtain ⟨I1, hI1⟩ : ∃ z, i + 1 = z := ⟨_, rfl⟩
          have hsum : IntKind.i64.wrap ((i : Int) + 1) = (I1 : Int) := by rw [IntWalk.i64_in _ (by omega)]; omega
          have HI1 := Lib.hid hI1
          have HJ := hide hj0
          have HB := hide hb
          have HP := hide hp
          have HLP := Lib.hid hlp
          have HROW := hide hrow
          clear hj hj0 hb hb' hp hlp hrow hc1 hI1
          go_wp2_with fail
          clear c1
          go_loopg [8, 9] lp (fun q t8 t9 W' => ∃ k : Nat, t8 = .int .i64 (k : Int) ∧ k + q = lp ∧ Blk W' ga 3 (tab N fun u => iv (atK part os N i p k u)) ∧ Below ga w3 W')
          case atStart => exact ⟨0, rfl, by omega, unhide HJ, unhide HB⟩
          case round =>
            clear HJ HB
            obtain ⟨k, rfl, hkq, hj, hb⟩ := hrel
            have hk0 : (0 : Int) ≤ (k : Int) := by omega
            have hb' : Below w3.heap.size w3 wr := HGA.out ▸ hb
            have c1 := unhide HC1 wr hb'
            by_cases hk : k < lp
            · have hkI : (k : Int) < (lp : Int) := by omega
              obtain ⟨gq2, rfl⟩ : ∃ q, gk = q + 1 := ⟨gk - 1, by omega⟩
              have hrowr := (unhide HROW).below hb'
              obtain ⟨b2, o2, u, hAp, hu, d1⟩ := hrowr.nat_at hk
              subst hAp
              obtain ⟨huN, hup, hun⟩ := nds_at hu
              have hnd := (unhide HSTAT).2.2.1.nodup
              have k3 : wr.cell? ⟨ga, u, none⟩ = some (.int .i64 0) := (hj.cell u).trans ((tab_at _ huN).trans (by rw [atK_here hnd (unhide HP) hu]; rfl))
              have k4 : wr.frozen? ⟨ga, u, none⟩ = false := hj.frozen _
              have xr0 : wr.cell? ⟨x, 0, none⟩ = some (.int .i64 (N : Int)) := ((unhide HX3).below hb' (unhide HX3).lt).cell 0
              have fin : Blk (wr.setCell ⟨ga, u, none⟩ (.int .i64 (I1 : Int))) ga 3 (tab N fun u => iv (atK part os N i p (k + 1) u)) ∧ Below ga w3 (wr.setCell ⟨ga, u, none⟩ (.int .i64 (I1 : Int))) := by
                have e := HI1.out
                subst e
                exact ⟨hj.set_tab u _ (atK_put hnd (unhide HP) hu), hb.setCell (Nat.le_refl _) _⟩
              have FIN := hide fin
              have hu0 : (0 : Int) ≤ (u : Int) := by omega
              have huI : (u : Int) < (N : Int) := by omega
              have hnn : ¬ (u : Int) < 0 := by omega
              have hng : ¬ (N : Int) ≤ (u : Int) := by omega
              have hup1 := hu
              clear hj hb hb' hun hnd fin HP
              by_cases hz : 0 < k
              · obtain ⟨kp, rfl⟩ : ∃ j, k = j + 1 := ⟨k - 1, by omega⟩
                obtain ⟨b3, o3, u3, hAp3, hu3, d3⟩ := hrowr.nat_at (k := kp) (by omega)
                injection hAp3 with e
                injection e with e1 e2
                subst e1 e2
                have hrise := nds_rise hu3 hu
                obtain ⟨K1, hK1⟩ : ∃ z, kp + 1 = z := ⟨_, rfl⟩
                rw [hK1] at d1 FIN hkI hk0 hz hkq hk
                have hpre : IntKind.i64.wrap ((K1 : Int) - 1) = (kp : Int) := by rw [IntWalk.i64_in _ (by omega)]; omega
                have hzI : decide ((0 : Int) < (K1 : Int)) = true := decide_eq_true (by omega)
                have hkp0 : (0 : Int) ≤ (kp : Int) := by omega
                have hkpI : (kp : Int) < (lp : Int) := by omega
                have hle : ¬ (u : Int) ≤ (u3 : Int) := by omega
                have HK1 := Lib.hid hK1
                rw [hK1]
                clear hu hup1 hu3 hrowr hK1
                go_wp2_with fail
                go_roundg gq2
                case rel => exact ⟨K1 + 1, by go_num, by omega, (unhide FIN).1, (unhide FIN).2⟩
                case measure => omega
              · obtain rfl : k = 0 := by omega
                rw [Nat.add_zero] at d1
                clear hu hup1 hrowr
                go_wp2_with fail
                go_roundg gq2
                case rel => exact ⟨1, rfl, by omega, (unhide FIN).1, (unhide FIN).2⟩
                case measure => omega
            · obtain rfl : k = lp := by omega
              have hje : Blk wr ga 3 (tab N fun u => iv (atF part os (i + 1) u)) := by
                have e : (tab N fun u => iv (atK part os N i p k u)) = tab N fun u => iv (atF part os (i + 1) u) := tab_congr_lt fun u hu => by rw [atK_end (unhide HSTAT).2.2.1.nodup (unhide HSTAT).1 (unhide HSTAT).2.2.2.1 (unhide HP) (by have := HLP.out; omega) hu]
                rw [← e]
                exact hj
              have HJE := hide hje
              have HBE := hide hb
              clear hj hb hb' hje
              go_wp2_with fail
              go_roundg gq
              case rel => exact ⟨I1, rfl, by have := HI1.out; omega, by rw [← HI1.out]; exact unhide HJE, unhide HBE⟩
              case measure => omega
        · obtain rfl : al = i := by omega
          have hjp : Blk wr ga 3 (tab N fun u => iv (plc part os u)) := by
            have e : (tab N fun u => iv (atF part os al u)) = tab N fun u => iv (plc part os u) := tab_congr_lt fun u hu => by
              have h := atF_full (unhide HSTAT).1 (unhide HSTAT).2.2.2.1 hu
              rw [(unhide HSTAT).2.2.2.2] at h
              rw [h]
            rw [← e]
            exact hj
          obtain ⟨w5, hw5⟩ : ∃ w : World, w = wr := ⟨_, rfl⟩
          subst hw5
          obtain ⟨L2, hL2⟩ : ∃ z, al + 2 = z := ⟨_, rfl⟩
          have hsum2 : IntKind.i64.wrap ((al : Int) + 2) = (L2 : Int) := by rw [IntWalk.i64_in _ (by omega)]; omega
          obtain ⟨gm, hgm⟩ : ∃ g, w5.heap.size = g := ⟨_, rfl⟩
          obtain ⟨w6, hw6⟩ : ∃ w, w5.alloc (.cells (tab L2 fun _ => .bool false) 4) = w := ⟨_, rfl⟩
          have hb6 : Below gm w5 w6 := by rw [← hw6, ← hgm]; exact (Below.refl _ _).alloc (Nat.le_refl _) _
          have hm6 : Blk w6 gm 4 (tab L2 fun j => .bool (mst part os (E.take 0) j)) := by
            have e : (tab L2 fun j => Value.bool (mst part os (E.take 0) j)) = tab L2 fun _ => .bool false := tab_congr fun j => by simp [mst]
            rw [e, ← hw6, ← hgm]; exact Blk.new _ _ _
          have HB5 := hide hb'
          have HB6 := hide hb6
          have HM6 := hide hm6
          have HAT := hide hjp
          have hgal := hjp.lt
          have HGM := Lib.hid hgm
          have HL2 := Lib.hid hL2
          have hmk := fun w => make_bools w L2 (by omega)
          have xr5 : w5.cell? ⟨x, 0, none⟩ = some (.int .i64 (N : Int)) := ((unhide HX3).below hb' (unhide HX3).lt).cell 0
          have xr6 : w6.cell? ⟨x, 0, none⟩ = some (.int .i64 (N : Int)) := (((unhide HX3).below hb' (unhide HX3).lt).below hb6 (by rw [← hgm]; exact ((unhide HX3).below hb' (unhide HX3).lt).lt)).cell 0
          clear hj hb hb' hjp hb6 hm6 hL2
          go_wp2_with fail
          clear hmk hw6 xr5 xr6 hgm
          go_loopg [11, 12, 13, 14] m (fun q t11 t12 t13 t14 W' => ∃ i : Nat, t12 = .int .i64 (i : Int) ∧ i + q = m ∧ t11 = .bool (sglB al N (E.take i)) ∧ Blk W' gm 4 (tab L2 fun j => .bool (mst part os (E.take i) j)) ∧ Below gm w5 W')
          case atStart => exact ⟨0, rfl, by omega, by simp only [sglB, selfB, List.take_zero, List.any_nil, Bool.not_false, Bool.and_true]; congr 1; rw [Bool.eq_iff_iff, beq_iff_eq, decide_eq_true_eq]; omega, unhide HM6, unhide HB6⟩
          case round =>
            clear HB6 HM6
            obtain ⟨i, rfl, hiq, rfl, hj, hb⟩ := hrel
            have hi0 : (0 : Int) ≤ (i : Int) := by omega
            have hb5 : Below w5.heap.size w5 wr := HGM.out ▸ hb
            have hb' : Below w3.heap.size w3 wr := (unhide HB5).trans (hb5.mono (unhide HB5).size)
            obtain ⟨J, hJ⟩ : ∃ b, sglB al N (E.take i) = b := ⟨_, rfl⟩
            rw [hJ]
            by_cases hi : i < m
            · have hiI : (i : Int) < (m : Int) := by omega
              obtain ⟨gq, rfl⟩ : ∃ q, gk = q + 1 := ⟨gk - 1, by omega⟩
              obtain ⟨f, t, gw, he, c1, c2, c3⟩ := ((unhide HRE3).below hb').edge0 hi
              obtain ⟨f, t, gw, hcs, hf, ht, hgw⟩ := okE_parts (unhide hE _ (List.mem_of_getElem? he))
              cases hcs
              have htk : E.take (i + 1) = E.take i ++ [((f : Int), (t : Int), (gw : Int))] := by rw [List.take_add_one, he]; rfl
              have hpe := plc_edge (unhide HSTAT).1 (unhide hE) (unhide HSTAT).2.2.1 (unhide HSTAT).2.2.2.1 (List.mem_of_getElem? he)
              have hpl := plc_le (unhide HSTAT).1 (unhide HSTAT).2.2.2.1 hf
              rw [(unhide HSTAT).2.2.2.2] at hpl
              have hatr := (unhide HAT).below hb5 hgal
              have k1 : wr.cell? ⟨ga, f, none⟩ = some (.int .i64 ((plc part os f : Nat) : Int)) := (hatr.cell f).trans (tab_at _ hf)
              have k2 : wr.cell? ⟨ga, t, none⟩ = some (.int .i64 ((plc part os t : Nat) : Int)) := (hatr.cell t).trans (tab_at _ ht)
              have hsg := sgl_snoc al N (E.take i) (f : Int) (t : Int) (gw : Int)
              rw [← htk, hJ] at hsg
              have HSG := hide hsg
              have hf1 : 1 ≤ plc part os f := by unfold plc; omega
              have ht1 : 1 ≤ plc part os t := by unfold plc; omega
              have hput := fun h u => mst_put (part := part) (os := os) (l := E.take i) (f := f) (t := t) (g := gw) h u
              have hkeep := fun h u => mst_keep (part := part) (os := os) (l := E.take i) (f := f) (t := t) (g := gw) h u
              rw [← htk] at hput hkeep
              obtain ⟨a, ha⟩ : ∃ a, plc part os f = a := ⟨_, rfl⟩
              obtain ⟨b, hb0⟩ : ∃ b, plc part os t = b := ⟨_, rfl⟩
              rw [ha] at hpe hpl k1 hf1 hput hkeep
              rw [hb0] at hpe k2 ht1 hput hkeep
              obtain ⟨a1, ha1⟩ : ∃ z, z + 1 = a := ⟨a - 1, by omega⟩
              have hpre : IntKind.i64.wrap ((a : Int) - 1) = (a1 : Int) := by rw [IntWalk.i64_in _ (by omega)]; omega
              have hab0 : ((a : Int) == 0) = false := by simp; omega
              have hbb0 : ((b : Int) == 0) = false := by simp; omega
              have hnlt : ¬ (a : Int) < (b : Int) := by omega
              have hf0 : (0 : Int) ≤ (f : Int) := by omega
              have ht0 : (0 : Int) ≤ (t : Int) := by omega
              have hfI : (f : Int) < (N : Int) := by omega
              have htI : (t : Int) < (N : Int) := by omega
              have ha0 : (0 : Int) ≤ (a : Int) := by omega
              have haI : (a : Int) < (L2 : Int) := by have := HL2.out; omega
              have HJ := hide hj
              have HB := hide hb
              have HPUT := hide hput
              have HKEEP := hide hkeep
              have HE1 := hide he
              have HBW := hide hb'
              clear he htk hsg hj hb hb5 hb' hatr hJ ha hb0 hput hkeep
              by_cases hba : b = a1
              · subst hba
                have kf : wr.frozen? ⟨gm, a, none⟩ = false := (unhide HJ).frozen _
                obtain ⟨Jm, km⟩ : ∃ b : Bool, wr.cell? ⟨gm, a, none⟩ = some (.bool b) := ⟨_, ((unhide HJ).cell a).trans (tab_at _ (by omega))⟩
                obtain ⟨w7, hw7⟩ : ∃ w, wr.setCell ⟨gm, a, none⟩ (.bool true) = w := ⟨_, rfl⟩
                have hg3 : w3.heap.size ≤ gm := by have := (unhide HB5).size; have := HGM.out; omega
                have hb7 : Below w3.heap.size w3 w7 := by rw [← hw7]; exact (unhide HBW).setCell hg3 _
                have HJ7 : Hid (Blk w7 gm 4 (tab L2 fun j => .bool (mst part os (E.take (i + 1)) j))) := hide (by rw [← hw7]; exact (unhide HJ).set_tab a _ ((unhide HPUT) (by omega)))
                have HB7 : Hid (Below gm w5 w7) := hide (by rw [← hw7]; exact (unhide HB).setCell (Nat.le_refl _) _)
                obtain ⟨f', t', gw', he', q1, q2, _⟩ := ((unhide HRE3).below hb7).edge0 hi
                have hee := he'.symm.trans (unhide HE1)
                injection hee with hee
                injection hee with e1 hee
                injection hee with e2 e3
                subst e1 e2
                clear hb7 he' HPUT HKEEP HE1
                go_wp2_with fail
                clear hw7 c1 c2 c3 k1 k2 km HJ HB
                cases J with
                | false =>
                  go_wp2_with fail
                  go_quiet (fail)
                  rename_i nq
                  go_wp2_with fail
                  go_roundg gq
                  case rel => exact ⟨i + 1, by go_num, by omega, by rw [unhide HSG]; rfl, (unhide HJ7).drewN nq, below_drewN (unhide HB7) nq⟩
                  case measure => omega
                | true =>
                  by_cases hft : f = t
                  · subst hft
                    go_wp2_with fail
                    go_quiet (fail)
                    rename_i nq
                    go_wp2_with fail
                    go_roundg gq
                    case rel => exact ⟨i + 1, by go_num, by omega, by rw [unhide HSG]; simp, (unhide HJ7).drewN nq, below_drewN (unhide HB7) nq⟩
                    case measure => omega
                  · have hftb : ((f : Int) != (t : Int)) = true := by simp; omega
                    have hfti : ¬ (f : Int) = (t : Int) := by omega
                    go_wp2_with fail
                    go_quiet (fail)
                    rename_i nq
                    go_wp2_with fail
                    go_roundg gq
                    case rel => exact ⟨i + 1, by go_num, by omega, by rw [unhide HSG, hftb]; rfl, (unhide HJ7).drewN nq, below_drewN (unhide HB7) nq⟩
                    case measure => omega
              · have hbne : ((b : Int) == (a1 : Int)) = false := by simp; omega
                have HB7 := HB
                have HJ7 : Hid (Blk wr gm 4 (tab L2 fun j => .bool (mst part os (E.take (i + 1)) j))) := hide (by rw [tab_congr ((unhide HKEEP) (by omega))]; exact unhide HJ)
                clear HPUT HKEEP HE1 HJ HB
                cases J with
                | false =>
                  go_wp2_with fail
                  go_quiet (fail)
                  rename_i nq
                  go_wp2_with fail
                  go_roundg gq
                  case rel => exact ⟨i + 1, by go_num, by omega, by rw [unhide HSG]; rfl, (unhide HJ7).drewN nq, below_drewN (unhide HB7) nq⟩
                  case measure => omega
                | true =>
                  by_cases hft : f = t
                  · subst hft
                    go_wp2_with fail
                    go_quiet (fail)
                    rename_i nq
                    go_wp2_with fail
                    go_roundg gq
                    case rel => exact ⟨i + 1, by go_num, by omega, by rw [unhide HSG]; simp, (unhide HJ7).drewN nq, below_drewN (unhide HB7) nq⟩
                    case measure => omega
                  · have hftb : ((f : Int) != (t : Int)) = true := by simp; omega
                    have hfti : ¬ (f : Int) = (t : Int) := by omega
                    go_wp2_with fail
                    go_quiet (fail)
                    rename_i nq
                    go_wp2_with fail
                    go_roundg gq
                    case rel => exact ⟨i + 1, by go_num, by omega, by rw [unhide HSG, hftb]; rfl, (unhide HJ7).drewN nq, below_drewN (unhide HB7) nq⟩
                    case measure => omega
            · obtain rfl : m = i := by omega
              have htl : E.take m = E := List.take_of_length_le (by have := HL.out; omega)
              rw [htl] at hj hJ
              have hatr := (unhide HAT).below hb5 hgal
              have HJM := hide hj
              have HB7 := hide hb'
              have HB8 := hide hb
              have HAT7 := hide hatr
              have HSJ := hide hJ
              have xr7 : wr.cell? ⟨x, 0, none⟩ = some (.int .i64 (N : Int)) := ((unhide HX3).below hb' (unhide HX3).lt).cell 0
              clear hj hb hb5 hb' hatr hJ htl HAT HB5
              go_wp2_with fail
              go_loopg [15] N (fun q tu W' => ∃ u : Nat, tu = .int .i64 (u : Int) ∧ u + q = N ∧ wr = W')
              case atStart => exact ⟨0, rfl, by omega, rfl⟩
              case round =>
                obtain ⟨u, rfl, huq, rfl⟩ := hrel
                have hu0 : (0 : Int) ≤ (u : Int) := by omega
                by_cases hu : u < N
                · have huI : (u : Int) < (N : Int) := by omega
                  obtain ⟨gq, rfl⟩ : ∃ q, gk = q + 1 := ⟨gk - 1, by omega⟩
                  have k1 : wr.cell? ⟨ga, u, none⟩ = some (.int .i64 ((plc part os u : Nat) : Int)) := ((unhide HAT7).cell u).trans (tab_at _ hu)
                  have hp1 : 1 ≤ plc part os u := by unfold plc; omega
                  obtain ⟨a, ha⟩ : ∃ a, plc part os u = a := ⟨_, rfl⟩
                  rw [ha] at k1 hp1
                  have hab0 : ((a : Int) == 0) = false := by simp; omega
                  clear ha
                  go_wp2_with fail
                  go_roundg gq
                  case rel => exact ⟨u + 1, by go_num, by omega, rfl⟩
                  case measure => omega
                · obtain rfl : N = u := by omega
                  obtain ⟨w7, hw7⟩ : ∃ w : World, w = wr := ⟨_, rfl⟩
                  subst hw7
                  clear HAT7
                  go_wp2_with fail
                  go_loopg [16, 17, 18] al (fun q t16 t17 t18 W' => ∃ i : Nat, t16 = .int .i64 (i : Int) ∧ i + q = al ∧ Below w7.heap.size w7 W')
                  case atStart => exact ⟨0, rfl, by omega, Below.refl _ _⟩
                  case round =>
                    obtain ⟨i, rfl, hiq, hb7⟩ := hrel
                    have hi0 : (0 : Int) ≤ (i : Int) := by omega
                    have hb' : Below w3.heap.size w3 wr := (unhide HB7).trans (hb7.mono (unhide HB7).size)
                    have xr0 : wr.cell? ⟨x, 0, none⟩ = some (.int .i64 (N : Int)) := ((unhide HX3).below hb' (unhide HX3).lt).cell 0
                    by_cases hi : i < al
                    · have hiI : (i : Int) < (al : Int) := by omega
                      obtain ⟨gq, rfl⟩ : ∃ q, gk = q + 1 := ⟨gk - 1, by omega⟩
                      obtain ⟨gv, off, p, Ap, lp, cp, rfl, hgv, hp, hpa, hlp, hlp0, hlc, hcm, hc1, hrow⟩ := (unhide HTP).at_ hi
                      have HC1 : Hid (∀ w, Below w3.heap.size w3 w → w.cell? ⟨gv, off + i, none⟩ = some (.slice Ap lp cp)) := hide (fun w hw => by rw [hw.cell (show (⟨gv, off + i, none⟩ : Addr).block < _ from hgv)]; exact hc1)
                      have c1 := unhide HC1 wr hb'
                      have hlp6 : lp ≤ 65536 := by have := nds_len part N p; omega
                      have HROW := hide hrow
                      have HP := hide hp
                      obtain ⟨b2, o2, x0, hAp, hx0, d0⟩ := (hrow.below hb').nat_at hlp0
                      subst hAp
                      obtain ⟨hxN, _, _⟩ := nds_at hx0
                      rw [Nat.add_zero] at d0
                      have HX0 := hide hx0
                      have HD0 : Hid (∀ w, Below w3.heap.size w3 w → w.cell? ⟨b2, o2, none⟩ = some (.int .i64 (x0 : Int))) := hide (fun w hw => by
                        obtain ⟨b3, o3, x3, e1, e2, e3⟩ := ((unhide HROW).below hw).nat_at hlp0
                        injection e1 with e1
                        injection e1 with e4 e5
                        subst e4 e5
                        have e := e2.symm.trans (unhide HX0)
                        injection e with e
                        rw [Nat.add_zero, e] at e3
                        exact e3)
                      have hcI : (1 : Int) ≤ (cp : Int) := by omega
                      have hRc : Hid (∀ w : World, Below wr.heap.size wr w → Hid (Calls Try.prog 11 #[.int .i64 (N : Int), .slice (some ⟨b2, o2, none⟩) 1 cp, .slice (some ⟨gl, 0, none⟩) m cl] w fun e W' => ∃ A' k c, e = .returned (.tuple #[.slice A' k c, .int .i64 0]) ∧ RowI W' (.slice A' k c) ((rchL N (adjOf E false) [x0]).map fun u : Nat => (u : Int)) ∧ Below wr.heap.size wr W')) := hide (fun (w : World) (h2 : Below wr.heap.size wr w) => hide ((reach_tells w (N : Int) (some ⟨gl, 0, none⟩) m cl w3.heap.size E ((unhide HRE3).below (hb'.trans (h2.mono hb'.size))) (Nat.le_trans hb'.size h2.size) (by omega) rfl hxN (unhide H0) (some ⟨b2, o2, none⟩) cp (by
                        have h := ((unhide HROW).below (hb'.trans (h2.mono hb'.size))).more (Nat.le_trans hb'.size h2.size)
                        refine ⟨rfl, fun _ => ⟨_, rfl, ?_, fun j u hu => ?_⟩⟩
                        · obtain ⟨ad, e1, e2, _⟩ := h.2 hlp0
                          injection e1 with e1
                          subst e1
                          exact e2
                        · match j, hu with
                          | 0, hu =>
                            obtain rfl : iz (x0 : Int) = u := by simpa using hu
                            have h2 := (unhide HD0) w (hb'.trans (h2.mono hb'.size))
                            have e : (⟨b2, o2, none⟩ : Addr).add 0 = ⟨b2, o2, none⟩ := by simp [Addr.add]
                            rw [e]
                            exact h2
                          | j + 1, hu => simp at hu)).mono fun e W' ⟨A', k, c, h3, h4, h5⟩ => ⟨A', k, c, h3, h4, h2.trans (h5.mono h2.size)⟩))
                      have HBR := hide hb'
                      have HB6 := hide hb7
                      clear hb' hb7 hp hlp hc1 hrow hx0
                      go_wp2_with fail
                      go_cut [17, 18] from 187 to 198 (fun t17 t18 wx => ∃ (A' : Option Addr) (k c : Nat), t17 = .slice A' k c ∧ t18 = .int .i64 0 ∧ RowI wx (.slice A' k c) ((rchL N (adjOf E false) [x0]).map fun u : Nat => (u : Int)) ∧ Below wr.heap.size wr wx)
                      case first =>
                        (go_region_with ((first
                          | (go_at_call 11; (with_reducible refine (unhide ((unhide hRc) _ (by repeat (first | exact Below.refl _ _ | with_reducible refine Below.drew ?_)))).mono ?_); rintro e w8 ⟨A8, k8, c8, rfl, hrow8, hb8⟩
                             have HROW8 := hide hrow8
                             have HB8 := hide hb8
                             clear hrow8 hb8))))
                        all_goals
                          go_wp2_with fail
                          go_meet
                          case rel => exact ⟨A8, k8, c8, rfl, rfl, unhide HROW8, unhide HB8⟩
                      case rest =>
                        obtain ⟨A8, k8, c8, rfl, rfl, hrow8, hb8⟩ := hcut
                        have hbc : Below w3.heap.size w3 wc := (unhide HBR).trans (hb8.mono (unhide HBR).size)
                        have e1 := unhide HC1 wc hbc
                        have hwi := hide (within_tells wc (unhide HSTAT).1 (unhide HX0) (by omega) (some ⟨b2, o2, none⟩) A8 cp k8 c8 _ ((unhide HROW).below hbc) hrow8)
                        have HBC := hide hbc
                        have HB8 := hide ((unhide HB6).trans (hb8.mono (unhide HB6).size))
                        clear hRc c1 d0 xr0 hrow8 hb8 hbc HB6 HBR
                        go_wp2_with fail
                        refine (unhide hwi).mono ?_
                        rintro e w9 ⟨rfl, hb9⟩
                        have hb39 := (unhide HBC).trans (hb9.mono (unhide HBC).size)
                        have c1 := unhide HC1 w9 hb39
                        have d0 := unhide HD0 w9 hb39
                        have HB9 := hide ((unhide HB8).trans (hb9.mono (unhide HB8).size))
                        obtain ⟨I1, hI1⟩ : ∃ z, i + 1 = z := ⟨_, rfl⟩
                        have hsum : IntKind.i64.wrap ((i : Int) + 1) = (I1 : Int) := by rw [IntWalk.i64_in _ (by omega)]; omega
                        have HI1 := Lib.hid hI1
                        obtain ⟨Jm, hJm⟩ : ∃ b, mst part os E I1 = b := ⟨_, rfl⟩
                        have km : w9.cell? ⟨gm, I1, none⟩ = some (.bool Jm) := by
                          rw [← hJm]
                          exact ((((unhide HJM).below (unhide HB9) (unhide HJM).lt).cell I1)).trans (tab_at _ (by have := HL2.out; omega))
                        have hI0 : (0 : Int) ≤ (I1 : Int) := by omega
                        have hIL : (I1 : Int) < (L2 : Int) := by have := HL2.out; omega
                        have hlpI : (0 : Int) < (lp : Int) := by omega
                        have HB39 := hide hb39
                        clear e1 hwi HB8 hb9 hb39 HBC
                        by_cases hz : 0 < i
                        · have hzI : decide ((0 : Int) < (i : Int)) = true := decide_eq_true (by omega)
                          cases Jm with
                          | true =>
                            clear hI1 hJm
                            go_wp2_with fail
                            go_quiet (fail)
                            rename_i nq
                            go_wp2_with fail
                            go_roundg gq
                            case rel => exact ⟨I1, rfl, by have := HI1.out; omega, below_drewN (unhide HB9) nq⟩
                            case measure => omega
                          | false =>
                            obtain ⟨ip, hip⟩ : ∃ j, j + 1 = i := ⟨i - 1, by omega⟩
                            have hpre : IntKind.i64.wrap ((i : Int) - 1) = (ip : Int) := by rw [IntWalk.i64_in _ (by omega)]; omega
                            obtain ⟨gv', off', p', Ap', lp', cp', hA', hgv', hp', hpa', hlp', hlp0', hlc', hcm', hc1', hrow'⟩ := (unhide HTP).at_ (i := ip) (by omega)
                            injection hA' with hA'
                            injection hA' with e4 e5
                            subst e4 e5
                            have hcp : w9.cell? ⟨gv, off + ip, none⟩ = some (.slice Ap' lp' cp') := by rw [(unhide HB39).cell (show (⟨gv, off + ip, none⟩ : Addr).block < _ from hgv)]; exact hc1'
                            obtain ⟨b4, o4, y0, hAp', hy0, dy⟩ := (hrow'.below (unhide HB39)).nat_at hlp0'
                            subst hAp'
                            rw [Nat.add_zero] at dy
                            have hsd := side (unhide HSTAT).2.2.1 hz (unhide HP) (show os[i - 1]? = some p' from by rw [show i - 1 = ip from by omega]; exact hp') (by rw [hI1]; exact hJm)
                            rw [fstN_at (unhide HX0), fstN_at hy0] at hsd
                            have hyI : decide ((x0 : Int) < (y0 : Int)) = false := decide_eq_false (by omega)
                            have hyn : ¬ (x0 : Int) < (y0 : Int) := by omega
                            have hip0 : (0 : Int) ≤ (ip : Int) := by omega
                            have hipI : (ip : Int) < (al : Int) := by omega
                            have hlpI' : (0 : Int) < (lp' : Int) := by omega
                            clear hI1 hJm hip hp' hlp' hc1' hrow' hy0 hsd
                            go_wp2_with fail
                            go_quiet (fail)
                            rename_i nq
                            go_wp2_with fail
                            go_roundg gq
                            case rel => exact ⟨I1, rfl, by have := HI1.out; omega, below_drewN (unhide HB9) nq⟩
                            case measure => omega
                        · have hzI : decide ((0 : Int) < (i : Int)) = false := decide_eq_false (by omega)
                          clear hI1 hJm
                          go_wp2_with fail
                          go_quiet (fail)
                          rename_i nq
                          go_wp2_with fail
                          go_roundg gq
                          case rel => exact ⟨I1, rfl, by have := HI1.out; omega, below_drewN (unhide HB9) nq⟩
                          case measure => omega
                    · obtain rfl : al = i := by omega
                      have hre8 := (unhide HRE3).below hb'
                      have HB8 := hide hb'
                      have HREQ := hide (hre8.more hb'.size)
                      obtain ⟨w8, hw8⟩ : ∃ w : World, w = wr := ⟨_, rfl⟩
                      subst hw8
                      have hO := hide (order_tells w8 (N : Int) (some ⟨gl, 0, none⟩) m cl w8.heap.size E (unhide HREQ) (Nat.le_refl _) (by omega) rfl (unhide HSTAT).1 (unhide HSTAT).2.1 (unhide H0) J (unhide HSJ))
                      clear hb7 hb' hre8
                      go_wp2_with fail
                      refine (unhide hO).mono ?_
                      rintro e w9 ⟨hb9, A9, k9, c9, z9, rfl, ht9, hf9⟩
                      have HB9 := hide ((unhide HB8).trans (hb9.mono (unhide HB8).size))
                      have xr9 : w9.cell? ⟨x, 0, none⟩ = some (.int .i64 (N : Int)) := ((unhide HX3).below (unhide HB9) (unhide HX3).lt).cell 0
                      have HRE9 := hide (((unhide HREQ).below hb9).more hb9.size)
                      have hQ := hide (round_tells w9 (N : Int) (some ⟨gl, 0, none⟩) m cl w9.heap.size E (unhide HRE9) (Nat.le_refl _) (by omega) rfl (unhide HSTAT).1 (unhide HSTAT).2.1 (unhide H0) J (unhide HSJ))
                      have HT9 := hide ht9
                      have HF9 := hide hf9
                      clear hb9 hO xr0 HREQ HB8 ht9 hf9
                      go_wp2_with fail
                      refine (unhide hQ).mono ?_
                      rintro e w10 ⟨hb10, A10, k10, c10, rfl, hk10, ht10, hf10⟩
                      have HB10 := hide ((unhide HB9).trans (hb10.mono (unhide HB9).size))
                      have x10 : w10.cell? ⟨x, 0, none⟩ = some (.int .i64 (N : Int)) := ((unhide HX3).below (unhide HB10) (unhide HX3).lt).cell 0
                      have HRE10 := hide ((unhide HRE9).below hb10)
                      have HT10 := hide ht10
                      have HF10 := hide hf10
                      clear hb10 hQ xr9 HRE9 HB9 ht10 hf10
                      cases J with
                      | true =>
                        obtain ⟨rfl, rfl⟩ := (unhide HT9) rfl
                        obtain rfl := (unhide HT10) rfl
                        clear HT9 HF9 HT10 HF10
                        go_wp2_with fail
                        go_ret
                        exact ⟨by simp, (unhide HB3).trans ((unhide HB10).mono (unhide HB3).size)⟩
                      | false =>
                        obtain ⟨rfl, rfl⟩ := (unhide HF9) rfl
                        obtain ⟨f, r, hk, hrn, hrd⟩ := (unhide HF10) rfl
                        have hIs := hide (round_is w10 (unhide hE) hrn A10 (some ⟨gl, 0, none⟩) k10 m c10 cl w10.heap.size w9.heap.size hk hk10 hrd (unhide HRE10) (by omega))
                        clear HT9 HF9 HT10 HF10 hk hrn hrd
                        go_wp2_with fail
                        refine (unhide hIs).mono ?_
                        rintro e w11 ⟨rfl, hb11⟩
                        have HB11 := hide ((unhide HB10).trans (hb11.mono (unhide HB10).size))
                        clear hb11 hIs
                        go_wp2_with fail
                        go_ret
                        exact ⟨rfl, (unhide HB3).trans ((unhide HB11).mono (unhide HB3).size)⟩
end Go.Proofs.Ytmcpbmadjpjckaa
