/-
  GraphOwn: the walk over the law's text. Condition: at most 5864062014634 edges in each graph. (Printed by wip/grown.py.)
-/
import Derived.Test.YtmcpbmadjpjckaaGrOwnH
import Derived.Deep.CutRange
import Derived.Deep.CutBlock
namespace Go.Proofs.Ytmcpbmadjpjckaa
open Go.RowKit

theorem elem_outer : ElemOf Try.prog 49 43 1 24 := .mk' (.slice none 0 0) Try.underlying49 (by kernel_rfl) rfl (by omega)
theorem rows_one {L : Nat} {e : TypeId} {W : World} {U : Nat → Value} {ys : Nat → List Value} (h : Rws L e W U ys) : ∀ u ∈ (List.range L).map U, u.oneCell' = true := fun u hu => by
  obtain ⟨i, hi, rfl⟩ := List.mem_map.1 hu
  obtain ⟨A, c, hv⟩ := (h.own i (List.mem_range.1 hi)).shape
  rw [hv]
  rfl
theorem own_len {W : World} {B n : Nat} {e : TypeId} {v : Value} {xs : List Value} (h : W.ownsRow B e 1 v n xs) : xs.length = n := by have := h.1; omega
theorem grow_bel {W0 W W' : World} {B n : Nat} {e : TypeId} {v : Value} {xs : List Value} (hb : Below B W0 W) (h : W.ownsRow B e 1 v n xs) (hg : W.grownBy W' v.ownBlock) (hB : B ≤ W.heap.size) : Below B W0 W' := hb.grown hg hB (fun _ e => (h.lt _ e).1)
set_option maxRecDepth 100000 in
set_option maxHeartbeats 16000000 in
theorem graphOwn_walk (W : World) (nx ny : Int) (Ax Ay : Option Addr) (mx my cx cy : Nat) (Ex Ey : List (Int × Int × Int)) (hrx : Reads W W.heap.size 3 Ax mx (ecells Ex)) (hry : Reads W W.heap.size 3 Ay my (ecells Ey)) (hmx : mx ≤ 5864062014634) (hmy : my ≤ 5864062014634) :
    Calls Try.prog 7 #[.agg #[.int .i64 nx, .slice Ax mx cx], .agg #[.int .i64 ny, .slice Ay my cy]] W fun e W' => e = .returned (.bool true) ∧ Below W.heap.size W W' := by
  obtain ⟨W1, hW1⟩ : ∃ W1, W.alloc (.cells #[.int .i64 nx, .slice Ax mx cx] 24) = W1 := ⟨_, rfl⟩
  obtain ⟨W2, hW2⟩ : ∃ W2, W1.alloc (.cells #[.int .i64 ny, .slice Ay my cy] 24) = W2 := ⟨_, rfl⟩
  obtain ⟨x, hx⟩ : ∃ x, W.heap.size = x := ⟨_, rfl⟩
  have hz1 : W1.heap.size = x + 1 := by rw [← hW1, World.size_alloc, hx]
  obtain ⟨y, hy⟩ : ∃ y, x + 1 = y := ⟨_, rfl⟩
  have hb1 : Below W.heap.size W W1 := by rw [← hW1]; exact (Below.refl _ _).alloc (Nat.le_refl _) _
  have hb2 : Below W1.heap.size W1 W2 := by rw [← hW2]; exact (Below.refl _ _).alloc (Nat.le_refl _) _
  have hx1 : Blk W1 x 24 #[.int .i64 nx, .slice Ax mx cx] := by rw [← hW1, ← hx]; exact Blk.new _ _ _
  have hy2 : Blk W2 y 24 #[.int .i64 ny, .slice Ay my cy] := by rw [← hW2, ← hy, ← hz1]; exact Blk.new _ _ _
  have hbb := hb1.trans (hb2.mono hb1.size)
  have HX := hide (hx1.bel hb2)
  have HY := hide hy2
  have HB1 := hide hbb
  have HRX := hide (hrx.below hbb)
  have HRY := hide (hry.below hbb)
  have hlx : Ex.length = mx := by have := hrx.1; rw [ecells_len] at this; omega
  have hly : Ey.length = my := by have := hry.1; rw [ecells_len] at this; omega
  have HLX := Lib.hid hlx
  have HLY := Lib.hid hly
  have hA := hide (awake_any W2)
  rw [← hW2, ← hW1] at hA
  have hsz : (W.alloc (.cells #[.int .i64 nx, .slice Ax mx cx] 24)).heap.size = y := by rw [hW1, hz1, hy]
  clear hrx hry hb1 hb2 hx1 hy2 hbb hlx hly hz1
  go_enter Try.func7, Try.ntmps7
  have HW1 := Lib.hid hW1
  have HW2 := Lib.hid hW2
  clear hW1 hW2
  go_wp2_with fail
  refine (unhide hA).mono ?_
  rintro e w0 ⟨rfl, hb0⟩
  rw [HW1.out, HW2.out] at hb0
  have HXa := hide ((unhide HX).bel hb0)
  have HYa := hide ((unhide HY).bel hb0)
  have HBa := hide ((unhide HB1).trans (hb0.mono (unhide HB1).size))
  have HRXa := hide ((unhide HRX).below (hb0.mono (unhide HB1).size))
  have HRYa := hide ((unhide HRY).below (hb0.mono (unhide HB1).size))
  have xa0 : w0.cell? ⟨x, 0, none⟩ = some (.int .i64 nx) := (unhide HXa).cell 0
  have xa1 : w0.cell? ⟨x, 1, none⟩ = some (.slice Ax mx cx) := (unhide HXa).cell 1
  clear hb0 HX HY HB1 HRX HRY hA HW1 HW2 hsz hx hy
  have hG := hide (great_any w0 nx Ax mx cx W.heap.size Ex (unhide HRXa) (unhide HBa).size (by omega))
  go_wp2_with fail
  refine (unhide hG).mono ?_
  rintro e w1 ⟨bg, rfl, hb2⟩
  have HXb := hide ((unhide HXa).bel hb2)
  have HYb := hide ((unhide HYa).bel hb2)
  have HBb := hide ((unhide HBa).trans (hb2.mono (unhide HBa).size))
  have HRXb := hide ((unhide HRXa).below (hb2.mono (unhide HBa).size))
  have HRYb := hide ((unhide HRYa).below (hb2.mono (unhide HBa).size))
  have xb0 : w1.cell? ⟨x, 0, none⟩ = some (.int .i64 nx) := (unhide HXb).cell 0
  have xb1 : w1.cell? ⟨x, 1, none⟩ = some (.slice Ax mx cx) := (unhide HXb).cell 1
  have yb0 : w1.cell? ⟨y, 0, none⟩ = some (.int .i64 ny) := (unhide HYb).cell 0
  have yb1 : w1.cell? ⟨y, 1, none⟩ = some (.slice Ay my cy) := (unhide HYb).cell 1
  clear hb2 HXa HYa HBa HRXa HRYa xa0 xa1 hG
  cases bg with
  | true =>
    go_wp2_with fail
    go_ret
    exact ⟨rfl, unhide HBb⟩
  | false =>
    have hG := hide (great_any w1 ny Ay my cy W.heap.size Ey (unhide HRYb) (unhide HBb).size (by omega))
    go_wp2_with fail
    refine (unhide hG).mono ?_
    rintro e w2 ⟨bg, rfl, hb2⟩
    have HXc := hide ((unhide HXb).bel hb2)
    have HYc := hide ((unhide HYb).bel hb2)
    have HBc := hide ((unhide HBb).trans (hb2.mono (unhide HBb).size))
    have HRXc := hide ((unhide HRXb).below (hb2.mono (unhide HBb).size))
    have HRYc := hide ((unhide HRYb).below (hb2.mono (unhide HBb).size))
    have xc0 : w2.cell? ⟨x, 0, none⟩ = some (.int .i64 nx) := (unhide HXc).cell 0
    have xc1 : w2.cell? ⟨x, 1, none⟩ = some (.slice Ax mx cx) := (unhide HXc).cell 1
    clear hb2 HXb HYb HBb HRXb HRYb xb0 xb1 yb0 yb1 hG
    cases bg with
    | true =>
      go_wp2_with fail
      go_ret
      exact ⟨rfl, unhide HBc⟩
    | false =>
      have hD := hide (edges_any w2 nx Ax mx cx W.heap.size Ex (unhide HRXc) (unhide HBc).size (by omega))
      go_wp2_with fail
      refine (unhide hD).mono ?_
      rintro e w3 ⟨gl, cl, rfl, hel, hb3⟩
      have HEL := hide hel
      have HXd := hide ((unhide HXc).bel hb3)
      have HYd := hide ((unhide HYc).bel hb3)
      have HBd := hide ((unhide HBc).trans (hb3.mono (unhide HBc).size))
      have HRXd := hide ((unhide HRXc).below (hb3.mono (unhide HBc).size))
      have HRYd := hide ((unhide HRYc).below (hb3.mono (unhide HBc).size))
      have yd0 : w3.cell? ⟨y, 0, none⟩ = some (.int .i64 ny) := (unhide HYd).cell 0
      have yd1 : w3.cell? ⟨y, 1, none⟩ = some (.slice Ay my cy) := (unhide HYd).cell 1
      clear hb3 hel HXc HYc HBc HRXc HRYc xc0 xc1 hD
      have hD := hide (edges_any w3 ny Ay my cy W.heap.size Ey (unhide HRYd) (unhide HBd).size (by omega))
      go_wp2_with fail
      refine (unhide hD).mono ?_
      rintro e w4 ⟨gm, cm, rfl, hem, hb4⟩
      have hfr : ∀ {w : World} {g m c b : Nat} {E : List (Int × Int × Int)}, EdS w b g m c E → E.length = m → Reads w w.heap.size 3 (some ⟨g, 0, none⟩) m (ecells E) := fun h hl => by
        have h := Reads.of_own h
        rw [ecells_app] at h
        exact h.front3 (by rw [ecells_len, hl])
      have hel4 : EdS w4 w2.heap.size gl mx cl Ex := (Chg.of_below hb4 (fun _ => False)).own (unhide HEL) (fun _ _ h => h)
      have HEL4 := hide hel4
      have HEM4 := hide hem
      have HRL := hide (hfr hel4 HLX.out)
      have HRM := hide (hfr hem HLY.out)
      have HX4 := hide ((unhide HXd).bel hb4)
      have HY4 := hide ((unhide HYd).bel hb4)
      have HB4 := hide ((unhide HBd).trans (hb4.mono (unhide HBd).size))
      have HRX4 := hide ((unhide HRXd).below (hb4.mono (unhide HBd).size))
      have HRY4 := hide ((unhide HRYd).below (hb4.mono (unhide HBd).size))
      clear hb4 hem hel4 HEL HXd HYd HBd HRXd HRYd yd0 yd1 hD hfr
      go_upto_block 0 with fail
      go_cut [7, 8] from 54 to 116 (fun t7 t8 wx => ∃ la V xs P ps, Gath w4.heap.size wx 3 t7 t8 la V xs P ps ∧ Below w4.heap.size w4 wx)
      case first =>
        as_aux_lemma =>
          go_wp2_with fail
          go_loopg [7, 8, 9, 10, 11, 12, 13, 14, 15, 16, 17, 18, 19, 20, 21] 3 (fun q t7 t8 t9 t10 t11 t12 t13 t14 t15 t16 t17 t18 t19 t20 t21 W' => ∃ (t la : Nat) (V : Nat → Value) (xs : Nat → List Value) (P : Nat → Value) (ps : Nat → List Value), t9 = .int .i64 (t : Int) ∧ t + q = 3 ∧ Gath w4.heap.size W' t t7 t8 la V xs P ps ∧ Below w4.heap.size w4 W')
          case atStart => exact ⟨0, 0, fun _ => .slice none 0 0, fun _ => [], fun _ => .slice none 0 0, fun _ => [], rfl, rfl, Gath.nil _ _ _ _ _, Below.refl _ _⟩
          case round =>
            obtain ⟨t, la, V, xs, P, ps, rfl, htq, hga, hb⟩ := hrel
            by_cases ht : t < 3
            · have htI : (t : Int) < 3 := by omega
              obtain ⟨gq, rfl⟩ : ∃ q, gk = q + 1 := ⟨gk - 1, by omega⟩
              obtain ⟨A7, c7, rfl⟩ := hga.a.shape
              obtain ⟨A8, c8, rfl⟩ := hga.tt.o.shape
              have xr0 : wr.cell? ⟨x, 0, none⟩ = some (.int .i64 nx) := ((unhide HX4).below hb (unhide HX4).lt).cell 0
              have yr0 : wr.cell? ⟨y, 0, none⟩ = some (.int .i64 ny) := ((unhide HY4).below hb (unhide HY4).lt).cell 0
              by_cases ht1 : t = 1
              · have hteq : ((t : Int) == 1) = true := by rw [ht1]; rfl
                clear ht1
                have hP := hide (parts_own wr ny (some ⟨gm, 0, none⟩) my cm w4.heap.size Ey ((unhide HRM).below hb) hb.size (by omega))
                have HGA := hide hga
                have HB := hide hb
                clear hga hb
                go_wp2_with fail
                refine (unhide hP).mono ?_
                rintro e w5 ⟨vp, z1, L, U, ys, rfl, hp, hU, hyl, hL, htell, hb5⟩
                clear htell
                obtain ⟨Ap, cp, rfl⟩ := hp.shape
                have HP5 := hide hp
                have HU5 := hide hU
                have HYL := hide hyl
                have HS5 := hide hb5.size
                have HB5 := hide hb5
                have HBB5 := hide ((unhide HB).trans (hb5.mono (unhide HB).size))
                clear hp hU hyl hb5 hP xr0 yr0
                have hP := hide (order_own w5 ny (some ⟨gm, 0, none⟩) my cm w4.heap.size Ey ((unhide HRM).below (unhide HBB5)) (unhide HBB5).size (by omega))
                go_wp2_with fail
                refine (unhide hP).mono ?_
                rintro e w6 ⟨vo, z2, no, xo, rfl, ho, hno, hb6⟩
                obtain ⟨Ao, co, rfl⟩ := ho.shape
                have HO6 := hide (RB.one ho)
                have HLO := Lib.hid (own_len ho)
                have HS6 := hide hb6.size
                have HB6 := hide hb6
                have HBB6 := hide ((unhide HBB5).trans (hb6.mono (unhide HBB5).size))
                clear ho hb6 hP
                have hP := hide (round_own w6 ny (some ⟨gm, 0, none⟩) my cm w4.heap.size Ey ((unhide HRM).below (unhide HBB6)) (unhide HBB6).size (by omega))
                go_wp2_with fail
                refine (unhide hP).mono ?_
                rintro e w7 ⟨vr, z3, nr, xr, rfl, hr, hnr, hb7⟩
                obtain ⟨Ar, cr, rfl⟩ := hr.shape
                have HR7 := hide (RB.one hr)
                have HLR := Lib.hid (own_len hr)
                have HS7 := hide hb7.size
                have HB7 := hide hb7
                have HBB7 := hide ((unhide HBB6).trans (hb7.mono (unhide HBB6).size))
                clear hr hb7 hP
                have hP := hide (depths_own w7 ny (some ⟨gm, 0, none⟩) my cm w4.heap.size Ey ((unhide HRM).below (unhide HBB7)) (unhide HBB7).size (by omega))
                go_wp2_with fail
                refine (unhide hP).mono ?_
                rintro e w8 ⟨vd, z4, nd, xd, rfl, hd, hnd, hb8⟩
                obtain ⟨Ad, cd, rfl⟩ := hd.shape
                have HD8 := hide (RB.one hd)
                have HLD := Lib.hid (own_len hd)
                have HS8 := hide hb8.size
                have HB8 := hide hb8
                have HBB8 := hide ((unhide HBB7).trans (hb8.mono (unhide HBB7).size))
                clear hd hb8 hP
                have hba : Below w8.heap.size w8 (w8.alloc (.cells #[.int .i64 0] 3)) := (Below.refl _ _).alloc (Nat.le_refl _) _
                have hx0 : Reads (w8.alloc (.cells #[.int .i64 0] 3)) (w8.alloc (.cells #[.int .i64 0] 3)).heap.size 1 (some ⟨w8.heap.size, 0, none⟩) 1 (([0] : List Int).map iz) := Reads.arr (Blk.new w8 3 #[.int .i64 0]) (by simp) rfl
                have hP := hide (reach_own (w8.alloc (.cells #[.int .i64 0] 3)) ny (some ⟨gm, 0, none⟩) my cm w4.heap.size Ey ((unhide HRM).below ((unhide HBB8).trans (hba.mono (unhide HBB8).size))) (Nat.le_trans (unhide HBB8).size hba.size) (by omega) (some ⟨w8.heap.size, 0, none⟩) 1 1 [0] hx0 (by omega))
                have HBA := hide hba
                clear hba hx0
                go_wp2_with fail
                refine (unhide hP).mono ?_
                rintro e w9 ⟨vw, z5, nw, xw, rfl, hw, hnw, hb9⟩
                obtain ⟨Aw, cw, rfl⟩ := hw.shape
                have HW9 := hide (RB.one hw)
                have HLW := Lib.hid (own_len hw)
                have hb89 := (unhide HBA).trans (hb9.mono (unhide HBA).size)
                have hb79 := (unhide HB8).trans (hb89.mono (unhide HB8).size)
                have hb69 := (unhide HB7).trans (hb79.mono (unhide HB7).size)
                have hb59 := (unhide HB6).trans (hb69.mono (unhide HB6).size)
                have hbr9 := (unhide HB5).trans (hb59.mono (unhide HB5).size)
                have hbb9 := (unhide HB).trans (hbr9.mono (unhide HB).size)
                have hk4 := rb4 ((unhide HO6).bel hb69) ((unhide HR7).bel hb79) ((unhide HD8).bel hb89) ((unhide HW9).wide (unhide HBA).size (Nat.le_refl _)) (unhide HS6) (unhide HS7) (unhide HS8) hb89.size
                have hown9 : w9.ownsRow wr.heap.size 25 1 (.slice Ap L cp) L ((List.range L).map U) := (Chg.of_below hb59 (fun _ => False)).own (unhide HP5) (fun _ _ h => h)
                have hT := (unhide HGA).tt.next hbr9 hk4 ((unhide HU5).bel hb59) (unhide HS5) hb59.size (x4_le (by rw [HLO.out]; exact hno) (by rw [HLR.out]; exact hnr) (by rw [HLD.out]; exact hnd) (by rw [HLW.out]; exact hnw)) (unhide HYL) hL hown9
                have hA9 : w9.ownsRow w4.heap.size 25 1 (.slice A7 la c7) la ((List.range la).map V) := (Chg.of_below hbr9 (fun _ => False)).own (unhide HGA).a (fun _ _ h => h)
                have hap9 : ∀ j, j < t + 1 → ∀ b, (jn t P (fun _ => .slice Ap L cp) j).ownBlock = some b → (Value.slice A7 la c7).ownBlock ≠ some b := fun j hj b h1 h2 => by
                  by_cases c : j < t
                  · rw [jn_lt c] at h1
                    exact (unhide HGA).ap j c b h1 h2
                  · obtain rfl : j = t := by omega
                    rw [jn_self] at h1
                    have g1 := (hown9.lt b h1).1
                    have g2 := ((unhide HGA).a.lt b h2).2
                    omega
                have HLAL := hide (unhide HGA).lal
                have HLAB := hide (unhide HGA).lab
                have HT9 := hide hT
                have HA9 := hide hA9
                have HAP9 := hide hap9
                have HBB9 := hide hbb9
                have hz9 := hbb9.size
                have hla : la ≤ 131088 := by have := (unhide HGA).lal; omega
                obtain ⟨l1, hl1⟩ : ∃ z, la + 1 = z := ⟨_, rfl⟩
                obtain ⟨l2, hl2⟩ : ∃ z, l1 + 1 = z := ⟨_, rfl⟩
                obtain ⟨l3, hl3⟩ : ∃ z, l2 + 1 = z := ⟨_, rfl⟩
                obtain ⟨l4, hl4⟩ : ∃ z, l3 + 1 = z := ⟨_, rfl⟩
                obtain ⟨l5, hl5⟩ : ∃ z, l4 + L = z := ⟨_, rfl⟩
                have HC1 : Hid (la + 1 ≤ maxLen ∧ (la + 1) * 24 ≤ 140737488355328) := cap24 (by omega)
                have HC2 : Hid (l1 + 1 ≤ maxLen ∧ (l1 + 1) * 24 ≤ 140737488355328) := cap24 (by omega)
                have HC3 : Hid (l2 + 1 ≤ maxLen ∧ (l2 + 1) * 24 ≤ 140737488355328) := cap24 (by omega)
                have HC4 : Hid (l3 + 1 ≤ maxLen ∧ (l3 + 1) * 24 ≤ 140737488355328) := cap24 (by omega)
                have HC5 : Hid (l4 + L ≤ maxLen ∧ (l4 + L) * 24 ≤ 140737488355328) := cap24 (by omega)
                have HC6 : Hid (t + 1 ≤ maxLen ∧ (t + 1) * 24 ≤ 140737488355328) := cap24 (by omega)
                have HL1 := Lib.hid hl1
                have HL2 := Lib.hid hl2
                have HL3 := Lib.hid hl3
                have HL4 := Lib.hid hl4
                have HL5 := Lib.hid hl5
                clear hb89 hb79 hb69 hb59 hbr9 hbb9 hk4 hown9 hT hA9 hap9 hw hb9 hP HP5 HYL HO6 HR7 HD8 HW9 HS5 HS6 HS7 HS8 HB5 HB6 HB7 HB8 HBA HBB5 HBB6 HBB7 HBB8 HGA HB hl1 hl2 hl3 hl4 hl5
                go_wp2_with (first
                  | (at_builtin
                     refine wpList_app1 w9 rfl (.tmp 97) (.tmp 99) 43 rfl elem_rows w4.heap.size (.slice A7 la c7) la _ rfl (unhide HA9) (.slice Ao no co) w9.heap.size rfl rfl rfl HC1.out hz9 ?_
                     intro v1 wa ho1 hg1 hr1
                     rw [HL1.out] at ho1
                     obtain ⟨A1, c1, rfl⟩ := ho1.shape
                     have HA1 := hide ho1
                     have HT1 := hide ((unhide HT9).gro (unhide HA9) (unhide HAP9) hg1)
                     have HAP1 := hide (apart_next (unhide HT9) (unhide HAP9) hr1)
                     have HBB1 := hide (grow_bel (unhide HBB9) (unhide HA9) hg1 hz9)
                     have hza := Nat.le_trans hz9 hg1.size
                     clear ho1 hg1 hr1)
                  | (at_builtin
                     refine wpList_app1 wa rfl (.tmp 100) (.tmp 102) 43 rfl elem_rows w4.heap.size (.slice A1 l1 c1) l1 _ rfl (unhide HA1) (.slice Ar nr cr) wa.heap.size rfl rfl rfl HC2.out hza ?_
                     intro v2 wb ho2 hg2 hr2
                     rw [HL2.out] at ho2
                     obtain ⟨A2, c2, rfl⟩ := ho2.shape
                     have HA2 := hide ho2
                     have HT2 := hide ((unhide HT1).gro (unhide HA1) (unhide HAP1) hg2)
                     have HAP2 := hide (apart_next (unhide HT1) (unhide HAP1) hr2)
                     have HBB2 := hide (grow_bel (unhide HBB1) (unhide HA1) hg2 hza)
                     have hzb := Nat.le_trans hza hg2.size
                     clear ho2 hg2 hr2)
                  | (at_builtin
                     refine wpList_app1 wb rfl (.tmp 103) (.tmp 105) 43 rfl elem_rows w4.heap.size (.slice A2 l2 c2) l2 _ rfl (unhide HA2) (.slice Ad nd cd) wb.heap.size rfl rfl rfl HC3.out hzb ?_
                     intro v3 wc3 ho3 hg3 hr3
                     rw [HL3.out] at ho3
                     obtain ⟨A3, c3, rfl⟩ := ho3.shape
                     have HA3 := hide ho3
                     have HT3 := hide ((unhide HT2).gro (unhide HA2) (unhide HAP2) hg3)
                     have HAP3 := hide (apart_next (unhide HT2) (unhide HAP2) hr3)
                     have HBB3 := hide (grow_bel (unhide HBB2) (unhide HA2) hg3 hzb)
                     have hzc := Nat.le_trans hzb hg3.size
                     clear ho3 hg3 hr3)
                  | (at_builtin
                     refine wpList_app1 wc3 rfl (.tmp 106) (.tmp 108) 43 rfl elem_rows w4.heap.size (.slice A3 l3 c3) l3 _ rfl (unhide HA3) (.slice Aw nw cw) wc3.heap.size rfl rfl rfl HC4.out hzc ?_
                     intro v4 wd ho4 hg4 hr4
                     rw [HL4.out] at ho4
                     obtain ⟨A4, c4, rfl⟩ := ho4.shape
                     have HA4 := hide ho4
                     have HT4 := hide ((unhide HT3).gro (unhide HA3) (unhide HAP3) hg4)
                     have HAP4 := hide (apart_next (unhide HT3) (unhide HAP3) hr4)
                     have HBB4 := hide (grow_bel (unhide HBB3) (unhide HA3) hg4 hzc)
                     have hzd := Nat.le_trans hzc hg4.size
                     have hrp := (unhide HT4).p.rws.own t (Nat.lt_succ_self t)
                     rw [jn_self, jn_self, List.length_map, List.length_range] at hrp
                     have HRP := hide hrp.reads
                     clear ho4 hg4 hr4 hrp)
                  | (at_builtin
                     refine wpList_app wd rfl (.tmp 110) (.tmp 111) 43 rfl elem_rows w4.heap.size (.slice A4 l4 c4) l4 _ rfl (unhide HA4) wd.heap.size Ap L cp ((List.range L).map U) rfl (unhide HRP) (rows_one (unhide HU5).rws) HC5.out hzd ?_
                     intro v5 we ho5 hg5 hr5
                     rw [HL5.out] at ho5
                     obtain ⟨A5, c5, rfl⟩ := ho5.shape
                     have HA5 := hide ho5
                     have HT5 := hide ((unhide HT4).gro (unhide HA4) (unhide HAP4) hg5)
                     have HAP5 := hide (apart_next (unhide HT4) (unhide HAP4) (hr5.imp id fun h => ⟨_, h, Nat.le_refl _⟩))
                     have HBB5 := hide (grow_bel (unhide HBB4) (unhide HA4) hg5 hzd)
                     have hze := Nat.le_trans hzd hg5.size
                     have HOU := hide (unhide HT5).o
                     clear ho5 hg5 hr5)
                  | (at_builtin
                     refine wpList_app1 we rfl (.tmp 113) (.tmp 115) 49 rfl elem_outer w4.heap.size (.slice A8 t c8) t _ rfl (unhide HOU) (.slice Ap L cp) we.heap.size rfl rfl rfl HC6.out hze ?_
                     intro v6 wf ho6 hg6 hr6
                     have HA6 := hide ho6
                     have HG6 := hide hg6
                     have HBB6 := hide (grow_bel (unhide HBB5) (unhide HOU) hg6 hze)
                     clear ho6 hg6 hr6))
                go_roundg gq
                case rel =>
                  have hl : l5 = la + (4 + L) := by have := HL1.out; have := HL2.out; have := HL3.out; have := HL4.out; have := HL5.out; omega
                  subst hl
                  have hA := unhide HA5
                  have e : (List.range la).map V ++ [Value.slice Ao no co] ++ [Value.slice Ar nr cr] ++ [Value.slice Ad nd cd] ++ [Value.slice Aw nw cw] ++ (List.range L).map U = (List.range (la + (4 + L))).map (jn la V (jn 4 (V4 (.slice Ao no co) (.slice Ar nr cr) (.slice Ad nd cd) (.slice Aw nw cw)) U)) := by
                    rw [jn_map, jn_map, v4_map]
                    simp only [List.append_assoc, List.cons_append, List.nil_append]
                  rw [e] at hA
                  have ho : wf.ownsRow w4.heap.size 43 1 v6 (t + 1) ((List.range t).map (jn t P (fun _ => .slice Ap L cp)) ++ [jn t P (fun _ => .slice Ap L cp) t]) := by rw [jn_self]; exact unhide HA6
                  have hf := Gath.turn (unhide HLAL) (unhide HLAB) hL (unhide HT5) hA (unhide HAP5) ho (unhide HG6)
                  have HF := hide hf
                  clear hf hA e ho
                  exact ⟨t + 1, _, _, _, _, _, rfl, by omega, unhide HF, unhide HBB6⟩
                case measure => omega
              · have hteq : ((t : Int) == 1) = false := by simp; omega
                clear ht1
                have hP := hide (parts_own wr nx (some ⟨gl, 0, none⟩) mx cl w4.heap.size Ex ((unhide HRL).below hb) hb.size (by omega))
                have HGA := hide hga
                have HB := hide hb
                clear hga hb
                go_wp2_with fail
                refine (unhide hP).mono ?_
                rintro e w5 ⟨vp, z1, L, U, ys, rfl, hp, hU, hyl, hL, htell, hb5⟩
                clear htell
                obtain ⟨Ap, cp, rfl⟩ := hp.shape
                have HP5 := hide hp
                have HU5 := hide hU
                have HYL := hide hyl
                have HS5 := hide hb5.size
                have HB5 := hide hb5
                have HBB5 := hide ((unhide HB).trans (hb5.mono (unhide HB).size))
                clear hp hU hyl hb5 hP xr0 yr0
                have hP := hide (order_own w5 nx (some ⟨gl, 0, none⟩) mx cl w4.heap.size Ex ((unhide HRL).below (unhide HBB5)) (unhide HBB5).size (by omega))
                go_wp2_with fail
                refine (unhide hP).mono ?_
                rintro e w6 ⟨vo, z2, no, xo, rfl, ho, hno, hb6⟩
                obtain ⟨Ao, co, rfl⟩ := ho.shape
                have HO6 := hide (RB.one ho)
                have HLO := Lib.hid (own_len ho)
                have HS6 := hide hb6.size
                have HB6 := hide hb6
                have HBB6 := hide ((unhide HBB5).trans (hb6.mono (unhide HBB5).size))
                clear ho hb6 hP
                have hP := hide (round_own w6 nx (some ⟨gl, 0, none⟩) mx cl w4.heap.size Ex ((unhide HRL).below (unhide HBB6)) (unhide HBB6).size (by omega))
                go_wp2_with fail
                refine (unhide hP).mono ?_
                rintro e w7 ⟨vr, z3, nr, xr, rfl, hr, hnr, hb7⟩
                obtain ⟨Ar, cr, rfl⟩ := hr.shape
                have HR7 := hide (RB.one hr)
                have HLR := Lib.hid (own_len hr)
                have HS7 := hide hb7.size
                have HB7 := hide hb7
                have HBB7 := hide ((unhide HBB6).trans (hb7.mono (unhide HBB6).size))
                clear hr hb7 hP
                have hP := hide (depths_own w7 nx (some ⟨gl, 0, none⟩) mx cl w4.heap.size Ex ((unhide HRL).below (unhide HBB7)) (unhide HBB7).size (by omega))
                go_wp2_with fail
                refine (unhide hP).mono ?_
                rintro e w8 ⟨vd, z4, nd, xd, rfl, hd, hnd, hb8⟩
                obtain ⟨Ad, cd, rfl⟩ := hd.shape
                have HD8 := hide (RB.one hd)
                have HLD := Lib.hid (own_len hd)
                have HS8 := hide hb8.size
                have HB8 := hide hb8
                have HBB8 := hide ((unhide HBB7).trans (hb8.mono (unhide HBB7).size))
                clear hd hb8 hP
                have hba : Below w8.heap.size w8 (w8.alloc (.cells #[.int .i64 0] 3)) := (Below.refl _ _).alloc (Nat.le_refl _) _
                have hx0 : Reads (w8.alloc (.cells #[.int .i64 0] 3)) (w8.alloc (.cells #[.int .i64 0] 3)).heap.size 1 (some ⟨w8.heap.size, 0, none⟩) 1 (([0] : List Int).map iz) := Reads.arr (Blk.new w8 3 #[.int .i64 0]) (by simp) rfl
                have hP := hide (reach_own (w8.alloc (.cells #[.int .i64 0] 3)) nx (some ⟨gl, 0, none⟩) mx cl w4.heap.size Ex ((unhide HRL).below ((unhide HBB8).trans (hba.mono (unhide HBB8).size))) (Nat.le_trans (unhide HBB8).size hba.size) (by omega) (some ⟨w8.heap.size, 0, none⟩) 1 1 [0] hx0 (by omega))
                have HBA := hide hba
                clear hba hx0
                go_wp2_with fail
                refine (unhide hP).mono ?_
                rintro e w9 ⟨vw, z5, nw, xw, rfl, hw, hnw, hb9⟩
                obtain ⟨Aw, cw, rfl⟩ := hw.shape
                have HW9 := hide (RB.one hw)
                have HLW := Lib.hid (own_len hw)
                have hb89 := (unhide HBA).trans (hb9.mono (unhide HBA).size)
                have hb79 := (unhide HB8).trans (hb89.mono (unhide HB8).size)
                have hb69 := (unhide HB7).trans (hb79.mono (unhide HB7).size)
                have hb59 := (unhide HB6).trans (hb69.mono (unhide HB6).size)
                have hbr9 := (unhide HB5).trans (hb59.mono (unhide HB5).size)
                have hbb9 := (unhide HB).trans (hbr9.mono (unhide HB).size)
                have hk4 := rb4 ((unhide HO6).bel hb69) ((unhide HR7).bel hb79) ((unhide HD8).bel hb89) ((unhide HW9).wide (unhide HBA).size (Nat.le_refl _)) (unhide HS6) (unhide HS7) (unhide HS8) hb89.size
                have hown9 : w9.ownsRow wr.heap.size 25 1 (.slice Ap L cp) L ((List.range L).map U) := (Chg.of_below hb59 (fun _ => False)).own (unhide HP5) (fun _ _ h => h)
                have hT := (unhide HGA).tt.next hbr9 hk4 ((unhide HU5).bel hb59) (unhide HS5) hb59.size (x4_le (by rw [HLO.out]; exact hno) (by rw [HLR.out]; exact hnr) (by rw [HLD.out]; exact hnd) (by rw [HLW.out]; exact hnw)) (unhide HYL) hL hown9
                have hA9 : w9.ownsRow w4.heap.size 25 1 (.slice A7 la c7) la ((List.range la).map V) := (Chg.of_below hbr9 (fun _ => False)).own (unhide HGA).a (fun _ _ h => h)
                have hap9 : ∀ j, j < t + 1 → ∀ b, (jn t P (fun _ => .slice Ap L cp) j).ownBlock = some b → (Value.slice A7 la c7).ownBlock ≠ some b := fun j hj b h1 h2 => by
                  by_cases c : j < t
                  · rw [jn_lt c] at h1
                    exact (unhide HGA).ap j c b h1 h2
                  · obtain rfl : j = t := by omega
                    rw [jn_self] at h1
                    have g1 := (hown9.lt b h1).1
                    have g2 := ((unhide HGA).a.lt b h2).2
                    omega
                have HLAL := hide (unhide HGA).lal
                have HLAB := hide (unhide HGA).lab
                have HT9 := hide hT
                have HA9 := hide hA9
                have HAP9 := hide hap9
                have HBB9 := hide hbb9
                have hz9 := hbb9.size
                have hla : la ≤ 131088 := by have := (unhide HGA).lal; omega
                obtain ⟨l1, hl1⟩ : ∃ z, la + 1 = z := ⟨_, rfl⟩
                obtain ⟨l2, hl2⟩ : ∃ z, l1 + 1 = z := ⟨_, rfl⟩
                obtain ⟨l3, hl3⟩ : ∃ z, l2 + 1 = z := ⟨_, rfl⟩
                obtain ⟨l4, hl4⟩ : ∃ z, l3 + 1 = z := ⟨_, rfl⟩
                obtain ⟨l5, hl5⟩ : ∃ z, l4 + L = z := ⟨_, rfl⟩
                have HC1 : Hid (la + 1 ≤ maxLen ∧ (la + 1) * 24 ≤ 140737488355328) := cap24 (by omega)
                have HC2 : Hid (l1 + 1 ≤ maxLen ∧ (l1 + 1) * 24 ≤ 140737488355328) := cap24 (by omega)
                have HC3 : Hid (l2 + 1 ≤ maxLen ∧ (l2 + 1) * 24 ≤ 140737488355328) := cap24 (by omega)
                have HC4 : Hid (l3 + 1 ≤ maxLen ∧ (l3 + 1) * 24 ≤ 140737488355328) := cap24 (by omega)
                have HC5 : Hid (l4 + L ≤ maxLen ∧ (l4 + L) * 24 ≤ 140737488355328) := cap24 (by omega)
                have HC6 : Hid (t + 1 ≤ maxLen ∧ (t + 1) * 24 ≤ 140737488355328) := cap24 (by omega)
                have HL1 := Lib.hid hl1
                have HL2 := Lib.hid hl2
                have HL3 := Lib.hid hl3
                have HL4 := Lib.hid hl4
                have HL5 := Lib.hid hl5
                clear hb89 hb79 hb69 hb59 hbr9 hbb9 hk4 hown9 hT hA9 hap9 hw hb9 hP HP5 HYL HO6 HR7 HD8 HW9 HS5 HS6 HS7 HS8 HB5 HB6 HB7 HB8 HBA HBB5 HBB6 HBB7 HBB8 HGA HB hl1 hl2 hl3 hl4 hl5
                go_wp2_with (first
                  | (at_builtin
                     refine wpList_app1 w9 rfl (.tmp 97) (.tmp 99) 43 rfl elem_rows w4.heap.size (.slice A7 la c7) la _ rfl (unhide HA9) (.slice Ao no co) w9.heap.size rfl rfl rfl HC1.out hz9 ?_
                     intro v1 wa ho1 hg1 hr1
                     rw [HL1.out] at ho1
                     obtain ⟨A1, c1, rfl⟩ := ho1.shape
                     have HA1 := hide ho1
                     have HT1 := hide ((unhide HT9).gro (unhide HA9) (unhide HAP9) hg1)
                     have HAP1 := hide (apart_next (unhide HT9) (unhide HAP9) hr1)
                     have HBB1 := hide (grow_bel (unhide HBB9) (unhide HA9) hg1 hz9)
                     have hza := Nat.le_trans hz9 hg1.size
                     clear ho1 hg1 hr1)
                  | (at_builtin
                     refine wpList_app1 wa rfl (.tmp 100) (.tmp 102) 43 rfl elem_rows w4.heap.size (.slice A1 l1 c1) l1 _ rfl (unhide HA1) (.slice Ar nr cr) wa.heap.size rfl rfl rfl HC2.out hza ?_
                     intro v2 wb ho2 hg2 hr2
                     rw [HL2.out] at ho2
                     obtain ⟨A2, c2, rfl⟩ := ho2.shape
                     have HA2 := hide ho2
                     have HT2 := hide ((unhide HT1).gro (unhide HA1) (unhide HAP1) hg2)
                     have HAP2 := hide (apart_next (unhide HT1) (unhide HAP1) hr2)
                     have HBB2 := hide (grow_bel (unhide HBB1) (unhide HA1) hg2 hza)
                     have hzb := Nat.le_trans hza hg2.size
                     clear ho2 hg2 hr2)
                  | (at_builtin
                     refine wpList_app1 wb rfl (.tmp 103) (.tmp 105) 43 rfl elem_rows w4.heap.size (.slice A2 l2 c2) l2 _ rfl (unhide HA2) (.slice Ad nd cd) wb.heap.size rfl rfl rfl HC3.out hzb ?_
                     intro v3 wc3 ho3 hg3 hr3
                     rw [HL3.out] at ho3
                     obtain ⟨A3, c3, rfl⟩ := ho3.shape
                     have HA3 := hide ho3
                     have HT3 := hide ((unhide HT2).gro (unhide HA2) (unhide HAP2) hg3)
                     have HAP3 := hide (apart_next (unhide HT2) (unhide HAP2) hr3)
                     have HBB3 := hide (grow_bel (unhide HBB2) (unhide HA2) hg3 hzb)
                     have hzc := Nat.le_trans hzb hg3.size
                     clear ho3 hg3 hr3)
                  | (at_builtin
                     refine wpList_app1 wc3 rfl (.tmp 106) (.tmp 108) 43 rfl elem_rows w4.heap.size (.slice A3 l3 c3) l3 _ rfl (unhide HA3) (.slice Aw nw cw) wc3.heap.size rfl rfl rfl HC4.out hzc ?_
                     intro v4 wd ho4 hg4 hr4
                     rw [HL4.out] at ho4
                     obtain ⟨A4, c4, rfl⟩ := ho4.shape
                     have HA4 := hide ho4
                     have HT4 := hide ((unhide HT3).gro (unhide HA3) (unhide HAP3) hg4)
                     have HAP4 := hide (apart_next (unhide HT3) (unhide HAP3) hr4)
                     have HBB4 := hide (grow_bel (unhide HBB3) (unhide HA3) hg4 hzc)
                     have hzd := Nat.le_trans hzc hg4.size
                     have hrp := (unhide HT4).p.rws.own t (Nat.lt_succ_self t)
                     rw [jn_self, jn_self, List.length_map, List.length_range] at hrp
                     have HRP := hide hrp.reads
                     clear ho4 hg4 hr4 hrp)
                  | (at_builtin
                     refine wpList_app wd rfl (.tmp 110) (.tmp 111) 43 rfl elem_rows w4.heap.size (.slice A4 l4 c4) l4 _ rfl (unhide HA4) wd.heap.size Ap L cp ((List.range L).map U) rfl (unhide HRP) (rows_one (unhide HU5).rws) HC5.out hzd ?_
                     intro v5 we ho5 hg5 hr5
                     rw [HL5.out] at ho5
                     obtain ⟨A5, c5, rfl⟩ := ho5.shape
                     have HA5 := hide ho5
                     have HT5 := hide ((unhide HT4).gro (unhide HA4) (unhide HAP4) hg5)
                     have HAP5 := hide (apart_next (unhide HT4) (unhide HAP4) (hr5.imp id fun h => ⟨_, h, Nat.le_refl _⟩))
                     have HBB5 := hide (grow_bel (unhide HBB4) (unhide HA4) hg5 hzd)
                     have hze := Nat.le_trans hzd hg5.size
                     have HOU := hide (unhide HT5).o
                     clear ho5 hg5 hr5)
                  | (at_builtin
                     refine wpList_app1 we rfl (.tmp 113) (.tmp 115) 49 rfl elem_outer w4.heap.size (.slice A8 t c8) t _ rfl (unhide HOU) (.slice Ap L cp) we.heap.size rfl rfl rfl HC6.out hze ?_
                     intro v6 wf ho6 hg6 hr6
                     have HA6 := hide ho6
                     have HG6 := hide hg6
                     have HBB6 := hide (grow_bel (unhide HBB5) (unhide HOU) hg6 hze)
                     clear ho6 hg6 hr6))
                go_roundg gq
                case rel =>
                  have hl : l5 = la + (4 + L) := by have := HL1.out; have := HL2.out; have := HL3.out; have := HL4.out; have := HL5.out; omega
                  subst hl
                  have hA := unhide HA5
                  have e : (List.range la).map V ++ [Value.slice Ao no co] ++ [Value.slice Ar nr cr] ++ [Value.slice Ad nd cd] ++ [Value.slice Aw nw cw] ++ (List.range L).map U = (List.range (la + (4 + L))).map (jn la V (jn 4 (V4 (.slice Ao no co) (.slice Ar nr cr) (.slice Ad nd cd) (.slice Aw nw cw)) U)) := by
                    rw [jn_map, jn_map, v4_map]
                    simp only [List.append_assoc, List.cons_append, List.nil_append]
                  rw [e] at hA
                  have ho : wf.ownsRow w4.heap.size 43 1 v6 (t + 1) ((List.range t).map (jn t P (fun _ => .slice Ap L cp)) ++ [jn t P (fun _ => .slice Ap L cp) t]) := by rw [jn_self]; exact unhide HA6
                  have hf := Gath.turn (unhide HLAL) (unhide HLAB) hL (unhide HT5) hA (unhide HAP5) ho (unhide HG6)
                  have HF := hide hf
                  clear hf hA e ho
                  exact ⟨t + 1, _, _, _, _, _, rfl, by omega, unhide HF, unhide HBB6⟩
                case measure => omega
            · obtain rfl : t = 3 := by omega
              have HGA := hide hga
              have HB := hide hb
              clear hga hb
              go_wp2_with fail
              go_meet
              case rel => exact ⟨la, V, xs, P, ps, unhide HGA, unhide HB⟩
      case rest =>
        obtain ⟨la, V, xs, P, ps, hga, hb⟩ := hcut
        obtain ⟨wg, hwg⟩ : ∃ w : World, w = wc := ⟨_, rfl⟩
        subst hwg
        obtain ⟨X, c7, VS, hv7, hX0, hxb, hvs⟩ := own_vs hga.a (by have := hga.lab; omega)
        subst hv7
        obtain ⟨Y, c8, YS, hv8, hY0, hyb, hys⟩ := own_vs hga.tt.o (by omega)
        subst hv8
        have xr0 : wg.cell? ⟨x, 0, none⟩ = some (.int .i64 nx) := ((unhide HX4).below hb (unhide HX4).lt).cell 0
        have hP := hide (parts_own wg nx (some ⟨gl, 0, none⟩) mx cl w4.heap.size Ex ((unhide HRL).below hb) hb.size (by omega))
        have HGA := hide hga
        have HBC := hide hb
        have HXB := hide hxb
        have HYB := hide hyb
        have HVS := hide (show ∀ i, i < la → VS[i]? = some (V i) from fun i hi => hvs i _ (map_at hi))
        have HYS := hide (show ∀ i, i < 3 → YS[i]? = some (P i) from fun i hi => hys i _ (map_at hi))
        have hla0 : 0 < la := by have := hga.lab; omega
        have hla9 : la ≤ 196632 := by have := hga.lal; omega
        clear hga hb hxb hyb hvs hys
        go_wp2_with fail
        refine (unhide hP).mono ?_
        rintro e ww ⟨vw, zw, Lw, Uw, yw, rfl, hw, hU, hwl, hLw, htell, hbw⟩
        obtain ⟨Aw, cw, rfl⟩ := hw.shape
        have HGW := hide ((unhide HGA).bel hbw)
        have XB := hide ((unhide HXB).bel hbw)
        have YB := hide ((unhide HYB).bel hbw)
        have HW := hide hw
        have HUW := hide hU
        have HWL := hide hwl
        have HTELL := hide htell
        have HBW := hide ((unhide HBC).trans (hbw.mono (unhide HBC).size))
        have HFT : Hid (∀ b, Ft la V b → w4.heap.size ≤ b ∧ b < wg.heap.size) := hide (fun b ⟨i, hi, he⟩ => (unhide HGA).tt.r.at_ i hi b he)
        have HFP : Hid (∀ b, Ft 3 P b → w4.heap.size ≤ b ∧ b < wg.heap.size) := hide (fun b ⟨i, hi, he⟩ => (unhide HGA).tt.p.at_ i hi b he)
        have HSW := hide hbw.size
        have HLN := hide (unhide HGA).tt.xl
        clear hw hU hwl htell hbw hP xr0 HGA HXB HYB
        go_upto_block 2 with fail
        go_cut [24, 25] from 124 to 146 (fun t24 t25 wx => (∀ i, i < la → Row wx 3 (V i) (xs i).length (fl fI (xs i).length i)) ∧ Blk wx X 25 VS ∧ Chg ww wx (Ft la V))
        case first =>
          as_aux_lemma =>
            obtain ⟨ln, hln⟩ : ∃ f : Nat → Nat, (fun i => (xs i).length) = f := ⟨_, rfl⟩
            have hln' : ∀ i, (xs i).length = ln i := fun i => congrFun hln i
            have HLEN0 := hide hln'
            have hrw := (unhide HGW).tt.r.rws
            have ROWS := hide hrw
            clear hln hln' hrw
            go_wp2_with fail
            go_loopg [24, 25] la (fun q t t25 W => ∃ (i : Nat) (zs : Nat → List Value), i + q = la ∧ t = .int .i64 (i : Int) ∧ Rws la 3 W V zs ∧ (∀ i, (zs i).length = ln i) ∧ (∀ i', i' < i → zs i' = fl fI (ln i') i') ∧ Blk W X 25 VS ∧ Chg ww W (Ft la V))
            case atStart => exact ⟨0, xs, by omega, rfl, unhide ROWS, unhide HLEN0, fun i' h => by omega, unhide XB, Chg.refl _ _⟩
            case round =>
              obtain ⟨i, zs, hiq, rfl, hrows, hlen1, hdone, hxb, hbel⟩ := hrel
              clear ROWS
              by_cases hi : i < la
              · obtain ⟨q, rfl⟩ : ∃ q, gk = q + 1 := ⟨gk - 1, by omega⟩
                have hiI : (i : Int) < (la : Int) := by omega
                have hi0 : (0 : Int) ≤ (i : Int) := by omega
                have ROWS := hide hrows
                have LEN := hide hlen1
                have DONE := hide hdone
                have XB1 := hide hxb
                have BEL1 := hide hbel
                clear hrows hlen1 hdone hxb hbel
                go_wp2_with fail
                go_loopg [25] (ln i) (fun q t W => ∃ (k : Nat) (zs : Nat → List Value), k + q = ln i ∧ t = .int .i64 (k : Int) ∧ Rws la 3 W V zs ∧ (∀ i, (zs i).length = ln i) ∧ (∀ i', i' < i → zs i' = fl fI (ln i') i') ∧ (zs i).take k = fl fI k i ∧ Blk W X 25 VS ∧ Chg ww W (Ft la V))
                case atStart => exact ⟨0, zs, by omega, rfl, unhide ROWS, unhide LEN, unhide DONE, rfl, unhide XB1, unhide BEL1⟩
                case round =>
                  clear ROWS LEN XB1 BEL1 DONE
                  obtain ⟨k, zs2, hkq, rfl, hrows, hlen2, hdone, htake, hxb, hbel⟩ := hrel
                  have how := hrows.own i hi
                  rw [hlen2] at how
                  obtain ⟨Ai, ci, hVi⟩ := how.shape
                  have cX : wr.cell? ⟨X, i, none⟩ = some (.slice Ai (ln i) ci) := by rw [← hVi]; exact (hxb.cell i).trans (unhide HVS i hi)
                  obtain ⟨li, hli⟩ : ∃ l, ln i = l := ⟨_, rfl⟩
                  have hlN : ln i ≤ 65536 := by rw [← unhide HLEN0 i]; exact unhide HLN i hi
                  rw [hli] at hlN
                  have HLI := Lib.hid hli
                  have hk0 : (0 : Int) ≤ (k : Int) := by omega
                  by_cases hk : k < ln i
                  · obtain ⟨q2, rfl⟩ : ∃ q, gk = q + 1 := ⟨gk - 1, by omega⟩
                    obtain ⟨b, cap, hv, _, _⟩ := how.form (by omega)
                    obtain ⟨va, hva⟩ : ∃ a : Int, -5000 - (i : Int) = a := ⟨_, rfl⟩
                    have w1 : IntKind.i64.wrap (-5000 - (i : Int)) = va := by rw [IntWalk.i64_in _ (by omega)]; omega
                    have hfv : fI i k = .int .i64 va := by rw [fI, hva]
                    have hst := hrows.store hi (hlen2 i) hv k (fI i k)
                    have hVb : (V i).ownBlock = some b := by rw [hv]; rfl
                    rw [hv] at hVi how
                    injection hVi with hA _ hc
                    subst hA hc
                    obtain ⟨c, hc⟩ : ∃ c, (zs2 i)[k]? = some c := ⟨_, List.getElem?_eq_getElem (by rw [hlen2]; exact hk)⟩
                    have hcell : wr.cell? ⟨b, k, none⟩ = some c := by rw [how.cellAt hk, hc]
                    have hf : wr.frozen? ⟨b, k, none⟩ = false := how.frozenAt k
                    have hbX : b ≠ X := fun e => how.ne_blk hxb (by decide) (by rw [← e]; rfl)
                    rw [hli] at cX
                    have hkl : (k : Int) < (li : Int) := by omega
                    rw [hfv] at hst
                    have HST := hide hst
                    have LEN := hide hlen2
                    have DONE := hide hdone
                    have TAKE := hide htake
                    have XB2 := hide hxb
                    have BEL1 := hide hbel
                    have HFV := Lib.hid hfv
                    have HVB := Lib.hid hVb
                    clear hst hlen2 hdone htake hxb hbel how hrows hc hli hv hfv hVb hva
                    go_wp2_with fail
                    go_roundg q2
                    case rel =>
                      refine ⟨k + 1, updV zs2 i ((zs2 i).set k (fI i k)), by omega, by go_num, by rw [HFV.out]; exact unhide HST, fun i' => ?_, fun i' h1 => ?_, ?_, (unhide XB2).far (fun e => hbX e.symm) _, (unhide BEL1).set_ ⟨b, k, none⟩ _ (fun _ => ⟨i, hi, HVB.out⟩)⟩
                      · by_cases e : i' = i
                        · subst e; rw [updV_same, List.length_set]; exact unhide LEN i'
                        · rw [updV_ne _ _ e]; exact unhide LEN i'
                      · rw [updV_ne _ _ (by omega)]; exact unhide DONE i' h1
                      · rw [updV_same]; exact fl_set (by rw [unhide LEN i]; exact hk) (unhide TAKE)
                    case measure => omega
                  · obtain rfl : ln i = k := by omega
                    rw [hli] at cX
                    have hxe : zs2 i = fl fI (ln i) i := by rw [← htake, List.take_of_length_le (by rw [hlen2]; exact Nat.le_refl _)]
                    have HXE := Lib.hid hxe
                    have HROWS := hide hrows
                    have LEN := hide hlen2
                    have DONE := hide hdone
                    have XB2 := hide hxb
                    have BEL1 := hide hbel
                    clear hlen2 hdone htake hxb hbel how hrows hxe hVi
                    go_wp2_with fail
                    go_roundg q
                    case rel =>
                      refine ⟨i + 1, zs2, by omega, by go_num, unhide HROWS, unhide LEN, fun i' h1 => ?_, unhide XB2, unhide BEL1⟩
                      by_cases e : i' = i
                      · subst e; exact HXE.out
                      · exact unhide DONE i' (by omega)
                    case measure => omega
              · obtain rfl : la = i := by omega
                have HROWS := hide hrows
                have LEN := hide hlen1
                have DONE := hide hdone
                have XB1 := hide hxb
                have BEL1 := hide hbel
                clear hrows hlen1 hdone hxb hbel
                go_wp2_with fail
                go_meet
                case rel =>
                  refine ⟨fun i' h1 => ?_, unhide XB1, unhide BEL1⟩
                  have := (unhide HROWS).own i' h1
                  rw [unhide LEN, unhide DONE i' h1] at this
                  rw [unhide HLEN0]
                  exact this
        case rest =>
          obtain ⟨hrows, hxb, hch⟩ := hcut
          obtain ⟨wf, hwf⟩ : ∃ w : World, w = wc := ⟨_, rfl⟩
          subst hwf
          obtain ⟨ln, hln⟩ : ∃ f : Nat → Nat, (fun i => (xs i).length) = f := ⟨_, rfl⟩
          have hln' : ∀ i, (xs i).length = ln i := fun i => congrFun hln i
          have hlnN : ∀ i, i < la → ln i ≤ 65536 := fun i hi => by rw [← hln' i]; exact unhide HLN i hi
          obtain ⟨Z, hZ⟩ : ∃ z, wf.heap.size = z := ⟨_, rfl⟩
          have hrows' : ∀ i, i < la → Row wf 3 (V i) (ln i) (fl fI (ln i) i) := fun i hi => by
            have := hrows i hi
            rw [hln' i] at this
            exact this
          have hap := (unhide HGW).tt.r.rws.apart
          have hCst : Cst la Z X V VS := ⟨hap, fun i hi b hb => by rw [← hZ]; exact (hrows' i hi).lt hb, unhide HVS, by rw [← hZ]; exact hxb.lt⟩
          have hG0 : Gr0 la 12 3 25 fI gI Z X V VS ln wf wf 0 (.slice none 0 0) (fun _ => .slice none 0 0) :=
            ⟨fun i' h1 => Sees.of_row (hrows' i' h1), fun i' _ h2 => hrows' i' h2, World.ownsRow_nil _ _ _ _, fun j hj => by omega, fun j hj => by omega, hxb, Chg.refl _ _, hZ⟩
          have CST := hide hCst
          have HG0 := hide hG0
          have HLNN := hide hlnN
          have HZ := Lib.hid hZ
          have HCH := hide hch
          have HAPV := hide hap
          clear hrows hxb hch hln hln' hlnN hrows' hCst hG0 hZ hap
          go_upto_block 6 with fail
          go_cut [26, 27, 28, 29] from 147 to 169 (fun t26 t27 t28 t29 wx => ∃ G, Gr0 la 12 3 25 fI gI Z X V VS ln wf wx la t26 G)
          case first =>
            as_aux_lemma =>
              go_wp2_with fail
              go_loopg [26, 27, 28, 29] la (fun q t j t28 t29 W => ∃ (i : Nat) (G : Nat → Value), i + q = la ∧ j = .int .i64 (i : Int) ∧ Gr0 la 12 3 25 fI gI Z X V VS ln wf W i t G)
              case atStart => exact ⟨0, _, by omega, rfl, unhide HG0⟩
              case round =>
                obtain ⟨i, G, hiq, rfl, hgr⟩ := hrel
                clear HG0
                obtain ⟨At, ct', rfl⟩ := hgr.trow.shape
                by_cases hi : i < la
                · obtain ⟨q, rfl⟩ : ∃ q, gk = q + 1 := ⟨gk - 1, by omega⟩
                  have hiI : (i : Int) < (la : Int) := by omega
                  have hi0 : (0 : Int) ≤ (i : Int) := by omega
                  have hE := hgr.enter (unhide CST) hi
                  obtain ⟨Ai, ci, hVi⟩ := hE.cur.shape
                  rw [Nat.add_zero] at hVi
                  have cX : wr.cell? ⟨X, i, none⟩ = some (.slice Ai (ln i) ci) := by rw [← hVi]; exact (hgr.xb.cell i).trans (unhide HVS i hi)
                  rw [hVi] at hE
                  have HE := hide hE
                  clear hE hgr hVi
                  go_wp2_with fail
                  go_loopg [28, 29] 12 (fun q l kk W => ∃ k : Nat, k + q = 12 ∧ kk = .int .i64 (k : Int) ∧ Gr la 12 3 25 fI gI Z X V VS ln wf W i k (.slice At i ct') G l)
                  case atStart => exact ⟨0, by omega, rfl, unhide HE⟩
                  case round =>
                    obtain ⟨k, hkq, rfl, hgr⟩ := hrel
                    clear HE cX
                    obtain ⟨Al, cl2, rfl⟩ := hgr.cur.shape
                    by_cases hk : k < 12
                    · obtain ⟨q2, rfl⟩ : ∃ q, gk = q + 1 := ⟨gk - 1, by omega⟩
                      have hk12 : (k : Int) < 12 := by omega
                      have hk0 : (0 : Int) ≤ (k : Int) := by omega
                      obtain ⟨va, hva⟩ : ∃ a : Int, -600000 - (i : Int) = a := ⟨_, rfl⟩
                      have w1 : IntKind.i64.wrap (-600000 - (i : Int)) = va := by rw [IntWalk.i64_in _ (by omega)]; omega
                      have hgv : gI i k = .int .i64 va := by rw [gI, hva]
                      have hcur := hgr.cur.below ((Below.refl wr.heap.size wr).alloc (Nat.le_refl _) (.cells #[.int .i64 va] 3))
                      have hsrc := src_one wr (t := 25) (e := 3) Try.underlying25 (.int .i64 va) rfl
                      have hlN := unhide HLNN i hi
                      obtain ⟨li, hli⟩ : ∃ l, ln i + k = l := ⟨_, rfl⟩
                      have hcur2 := hcur
                      rw [hli] at hcur2 ⊢
                      have HLI := Lib.hid hli
                      have HC1 : Hid (li + 1 ≤ maxLen ∧ (li + 1) * 8 ≤ 140737488355328) := cap8 (by omega)
                      have HGR := hide hgr
                      have HCUR := hide hcur2
                      have HSRC := hide hsrc
                      have HGV := Lib.hid hgv
                      clear hgr hcur hcur2 hsrc hlN hgv hva hli
                      go_wp2_with (first
                        | (at_builtin
                           refine wpList_app_row _ rfl (.tmp 161) (.tmp 164) 25 25 rfl elem_int (.slice Al li cl2) li (ct fI gI (ln i) i k) rfl (unhide HCUR) _ (.int .i64 va) rfl (unhide HSRC) HC1.out ?_
                           intro v2 w2 ho2 how2
                           have HO2 := hide ho2
                           have HOW2 := hide how2
                           clear ho2 how2))
                      go_roundg q2
                      case rel =>
                        refine ⟨k + 1, by omega, by go_num, (unhide HGR).step (unhide CST) hi (by omega) (by decide) ?_ ?_⟩
                        · rw [HGV.out, HLI.out]; exact unhide HO2
                        · rw [HGV.out, HLI.out]; exact unhide HOW2
                      case measure => omega
                    · obtain rfl : k = 12 := by omega
                      have HC2 : Hid (i + 1 ≤ maxLen ∧ (i + 1) * 24 ≤ 140737488355328) := cap24 (by omega)
                      have hz : Z ≤ wr.heap.size := by have := hgr.chg.size; have := HZ.out; omega
                      have HT := hide hgr.trow
                      obtain ⟨li, hli⟩ : ∃ l, ln i + 12 = l := ⟨_, rfl⟩
                      rw [hli] at hgr ⊢
                      have HGR := hide hgr
                      clear hgr hli
                      go_wp2_with (first
                        | (at_builtin
                           refine wpList_app1 wr rfl (.tmp 166) (.tmp 168) 43 rfl elem_rows Z (.slice At i ct') i ((List.range i).map G) rfl (unhide HT) (.slice Al li cl2) wr.heap.size rfl rfl rfl HC2.out hz ?_
                           intro v4 w4' ho4 hg4 hr4
                           have HO4 := hide ho4
                           have HG4 := hide hg4
                           clear ho4 hg4 hr4))
                      go_roundg q
                      case rel => exact ⟨i + 1, _, by omega, by go_num, (unhide HGR).leave (unhide CST) hi (by decide) (unhide HO4) (unhide HG4)⟩
                      case measure => omega
                · obtain rfl : la = i := by omega
                  have HGR := hide hgr
                  clear hgr
                  go_wp2_with fail
                  go_meet
                  case rel => exact ⟨G, unhide HGR⟩
          case rest =>
            obtain ⟨G, hgr⟩ := hcut
            obtain ⟨wq, hwq⟩ : ∃ w : World, w = wc := ⟨_, rfl⟩
            subst hwq
            obtain ⟨Yg, cg, GS, hvg, _, hgb, hgs⟩ := own_vs hgr.trow hla0
            subst hvg
            have HGS := hide (show ∀ i, i < la → GS[i]? = some (G i) from fun i hi => hgs i _ (map_at hi))
            have HGB := hide hgb
            have HGOT := hide hgr.got
            have HOLD := hide hgr.old
            have HXB3 := hide hgr.xb
            have HCHG := hide hgr.chg
            clear hgr hgb hgs CST HG0
            go_upto_block 10 with fail
            go_cut [30, 31] from 170 to 236 (fun t30 t31 wx => wq = wx)
            case first =>
              as_aux_lemma =>
                go_wp2_with fail
                go_loopg [30, 31] la (fun q t t31 W => ∃ i : Nat, i + q = la ∧ t = .int .i64 (i : Int) ∧ wq = W)
                case atStart => exact ⟨0, by omega, rfl, rfl⟩
                case round =>
                  obtain ⟨i, hiq, rfl, rfl⟩ := hrel
                  by_cases hi : i < la
                  · obtain ⟨q, rfl⟩ : ∃ q, gk = q + 1 := ⟨gk - 1, by omega⟩
                    have hiI : (i : Int) < (la : Int) := by omega
                    have hi0 : (0 : Int) ≤ (i : Int) := by omega
                    have hG := unhide HGOT i hi
                    have hV := unhide HOLD i hi
                    obtain ⟨Bj, cj, hGj⟩ := hG.shape
                    obtain ⟨Ai, ci, hVi⟩ := hV.shape
                    rw [ct_len] at hGj
                    rw [fl_len] at hVi
                    obtain ⟨li, hli⟩ : ∃ l, ln i = l := ⟨_, rfl⟩
                    have hlN := unhide HLNN i hi
                    rw [hli] at hVi hGj hG hV hlN
                    obtain ⟨lj, hlj⟩ : ∃ l, li + 12 = l := ⟨_, rfl⟩
                    rw [hlj] at hGj
                    have cY : wq.cell? ⟨Yg, i, none⟩ = some (.slice Bj lj cj) := by rw [← hGj]; exact ((unhide HGB).cell i).trans (unhide HGS i hi)
                    have cX : wq.cell? ⟨X, i, none⟩ = some (.slice Ai li ci) := by rw [← hVi]; exact ((unhide HXB3).cell i).trans (unhide HVS i hi)
                    have HGI := hide hG
                    have HVI := hide hV
                    have HGJ := Lib.hid hGj
                    have HVJ := Lib.hid hVi
                    clear hG hV hGj hVi hli
                    go_wp2_with fail
                    go_loopg [31] lj (fun q t W => ∃ k : Nat, k + q = lj ∧ t = .int .i64 (k : Int) ∧ wq = W)
                    case atStart => exact ⟨0, by omega, rfl, rfl⟩
                    case round =>
                      obtain ⟨k, hkq, rfl, rfl⟩ := hrel
                      have hk0 : (0 : Int) ≤ (k : Int) := by omega
                      by_cases hk : k < lj
                      · obtain ⟨q2, rfl⟩ : ∃ q, gk = q + 1 := ⟨gk - 1, by omega⟩
                        have hkJ : (k : Int) < (lj : Int) := by omega
                        obtain ⟨va, hva⟩ : ∃ a : Int, -5000 - (i : Int) = a := ⟨_, rfl⟩
                        have w1 : IntKind.i64.wrap (-5000 - (i : Int)) = va := by rw [IntWalk.i64_in _ (by omega)]; omega
                        obtain ⟨vb, hvb⟩ : ∃ a : Int, -600000 - (i : Int) = a := ⟨_, rfl⟩
                        have w2 : IntKind.i64.wrap (-600000 - (i : Int)) = vb := by rw [IntWalk.i64_in _ (by omega)]; omega
                        by_cases hkl : k < li
                        · have hklI : (k : Int) < (li : Int) := by omega
                          have hklD : decide ((k : Int) < (li : Int)) = true := decide_eq_true hklI
                          have hklG : ¬ (li : Int) ≤ (k : Int) := by omega
                          obtain ⟨b1, rfl, hc1⟩ := (unhide HVI).cell HVJ.out (fl_at (fv := fI) (i := i) hkl)
                          obtain ⟨b2, rfl, hc2⟩ := (unhide HGI).cell HGJ.out (ct_front (fv := fI) (gv := gI) (i := i) (k := 12) hkl)
                          rw [fI, hva] at hc1 hc2
                          clear hva hvb
                          go_wp2_with fail
                          go_roundg q2
                          case rel => exact ⟨k + 1, by omega, by go_num, rfl⟩
                          case measure => omega
                        · have hklI : ¬ (k : Int) < (li : Int) := by omega
                          have hklD : decide ((k : Int) < (li : Int)) = false := decide_eq_false hklI
                          have hklG : (li : Int) ≤ (k : Int) := by omega
                          obtain ⟨kr, hkr⟩ : ∃ r, li + r = k := ⟨k - li, by omega⟩
                          obtain ⟨b2, rfl, hc2⟩ := (unhide HGI).cell HGJ.out (ct_back (fv := fI) (gv := gI) (n := li) (i := i) (k := 12) (j := kr) (by omega))
                          rw [gI, hvb, hkr] at hc2
                          clear hva hvb hkr
                          go_wp2_with fail
                          go_roundg q2
                          case rel => exact ⟨k + 1, by omega, by go_num, rfl⟩
                          case measure => omega
                      · obtain rfl : lj = k := by omega
                        go_wp2_with fail
                        go_roundg q
                        case rel => exact ⟨i + 1, by omega, by go_num, rfl⟩
                        case measure => omega
                  · obtain rfl : la = i := by omega
                    go_wp2_with fail
                    go_meet
                    case rel => rfl
            case rest =>
              subst hcut
              have hc0 := (unhide HCH).trans (unhide HCHG) (fun _ _ h => h)
              have hrp := (unhide HGW).tt.p.rws
              have hrr := (unhide HGW).tt.r.rws
              have hp0 : Rws 3 25 wq P ps := ⟨fun j hj => (hrp.own j hj).chg hc0 (fun b hb ⟨i, hi, hv⟩ => (hrp.own j hj).ne_row (hrr.own i hi) (by decide) hb hv), hrp.apart⟩
              have hy0 : Blk wq Y 43 YS := hc0.blk (unhide YB) (fun ⟨i, hi, hv⟩ => (hrr.own i hi).ne_blk (unhide YB) (by decide) hv)
              obtain ⟨mn, hmn⟩ : ∃ f : Nat → Nat, (fun j => (ps j).length) = f := ⟨_, rfl⟩
              have hmn' : ∀ j, (ps j).length = mn j := fun j => congrFun hmn j
              have hmnN : ∀ j, j < 3 → mn j ≤ 65536 := fun j hj => by rw [← hmn' j]; exact (unhide HGW).tt.pl j hj
              have hf0 : Fil 3 P mn Y YS wq wq 0 0 ps (fun _ _ => .slice none 0 0) := ⟨hp0, hmn', fun j hj => by omega, rfl, fun j k' hj => by omega, hy0, Chg.refl _ _⟩
              have HC0 := hide hc0
              have HF0 := hide hf0
              have HMN := hide hmnN
              clear hc0 hrp hrr hp0 hy0 hmn hmn' hmnN hf0 HGOT HOLD HXB3 HCHG HCH HGS HGB HVS XB
              go_upto_block 14 with fail
              go_cut [32, 33] from 237 to 260 (fun t32 t33 wx => ∃ zs F, Fil 3 P mn Y YS wq wx 3 0 zs F)
              case first =>
                as_aux_lemma =>
                  go_wp2_with fail
                  go_loopg [32, 33] 3 (fun q t t33 W => ∃ (i : Nat) (zs : Nat → List Value) (F : Nat → Nat → Value), i + q = 3 ∧ t = .int .i64 (i : Int) ∧ Fil 3 P mn Y YS wq W i 0 zs F)
                  case atStart => exact ⟨0, ps, _, by omega, rfl, unhide HF0⟩
                  case round =>
                    obtain ⟨i, zs, F, hiq, rfl, hf⟩ := hrel
                    clear HF0
                    have HF := hide hf
                    clear hf
                    by_cases hi : i < 3
                    · obtain ⟨q, rfl⟩ : ∃ q, gk = q + 1 := ⟨gk - 1, by omega⟩
                      have hiI : (i : Int) < 3 := by omega
                      have hi0 : (0 : Int) ≤ (i : Int) := by omega
                      go_wp2_with fail
                      go_loopg [33] (mn i) (fun q t W => ∃ (k : Nat) (zs : Nat → List Value) (F : Nat → Nat → Value), k + q = mn i ∧ t = .int .i64 (k : Int) ∧ Fil 3 P mn Y YS wq W i k zs F)
                      case atStart => exact ⟨0, zs, F, by omega, rfl, unhide HF⟩
                      case round =>
                        clear HF
                        obtain ⟨k, zs2, F2, hkq, rfl, hf⟩ := hrel
                        have how := hf.rows.own i hi
                        rw [hf.len] at how
                        obtain ⟨Ai, ci, hPi⟩ := how.shape
                        have cY : wr.cell? ⟨Y, i, none⟩ = some (.slice Ai (mn i) ci) := by rw [← hPi]; exact (hf.yb.cell i).trans (unhide HYS i hi)
                        obtain ⟨mi, hmi⟩ : ∃ l, mn i = l := ⟨_, rfl⟩
                        have hmN : mn i ≤ 65536 := unhide HMN i hi
                        have HMI := Lib.hid hmi
                        have hk0 : (0 : Int) ≤ (k : Int) := by omega
                        by_cases hk : k < mn i
                        · obtain ⟨q2, rfl⟩ : ∃ q, gk = q + 1 := ⟨gk - 1, by omega⟩
                          obtain ⟨b, cap, hv, _, _⟩ := how.form (by omega)
                          obtain ⟨va, hva⟩ : ∃ a : Int, -(i : Int) = a := ⟨_, rfl⟩
                          have w1 : IntKind.i64.wrap (-(i : Int)) = va := by rw [IntWalk.i64_in _ (by omega)]; omega
                          have hst := hf.store hi hk hv va hva.symm
                          rw [hv] at hPi how
                          injection hPi with hA _ hc
                          subst hA hc
                          have hb1 : Below wr.heap.size wr (wr.alloc (.cells #[.int .i64 va] 3)) := (Below.refl _ _).alloc (Nat.le_refl _) _
                          obtain ⟨c, hc⟩ : ∃ c, (zs2 i)[k]? = some c := ⟨_, List.getElem?_eq_getElem (by rw [hf.len]; exact hk)⟩
                          have hcell : (wr.alloc (.cells #[.int .i64 va] 3)).cell? ⟨b, k, none⟩ = some c := by rw [(how.below hb1).cellAt hk, hc]
                          have hfz : (wr.alloc (.cells #[.int .i64 va] 3)).frozen? ⟨b, k, none⟩ = false := (how.below hb1).frozenAt k
                          rw [hmi] at cY hmN
                          have hkl : (k : Int) < (mi : Int) := by omega
                          have HST := hide hst
                          clear hst how hc hmi hv hva hf hb1
                          go_wp2_with fail
                          go_roundg q2
                          case rel => exact ⟨k + 1, _, _, by omega, by go_num, unhide HST⟩
                          case measure => omega
                        · obtain rfl : k = mi := by omega
                          rw [hmi] at cY hmN
                          have HF2 := hide hf
                          clear how hmi hf hPi
                          go_wp2_with fail
                          go_roundg q
                          case rel => exact ⟨i + 1, zs2, F2, by omega, by go_num, Fil.next (by rw [HMI.out]; exact unhide HF2)⟩
                          case measure => omega
                    · obtain rfl : i = 3 := by omega
                      go_wp2_with fail
                      go_meet
                      case rel => exact ⟨zs, F, unhide HF⟩
              case rest =>
                obtain ⟨zs, F, hf⟩ := hcut
                obtain ⟨wv, hwv⟩ : ∃ w : World, w = wc := ⟨_, rfl⟩
                subst hwv
                have hrows : ∀ j, j < 3 → Row wv 25 (P j) (mn j) (fl F (mn j) j) := fun j hj => by
                  have := hf.rows.own j hj
                  rw [hf.len, hf.done j hj] at this
                  exact this
                obtain ⟨Z2, hZ2⟩ : ∃ z, wv.heap.size = z := ⟨_, rfl⟩
                have hCst : Cst 3 Z2 Y P YS := ⟨hf.rows.apart, fun j hj b hb => by rw [← hZ2]; exact (hrows j hj).lt hb, unhide HYS, by rw [← hZ2]; exact hf.yb.lt⟩
                have hG0 : Gk0 mn Z2 Y P YS F (fun _ _ => .slice none 0 0) wv wv 0 (.slice none 0 0) (fun _ => .slice none 0 0) :=
                  ⟨⟨fun j h1 => Sees.of_row (hrows j h1), fun j _ h2 => hrows j h2, World.ownsRow_nil _ _ _ _, fun j hj => by omega, fun j hj => by omega, hf.yb, Chg.refl _ _, hZ2⟩, fun j k' h1 h2 => hf.ints j k' (.inl ⟨h1, h2⟩), fun j k' h => by omega⟩
                have CST2 := hide hCst
                have HG2 := hide hG0
                have HZ2 := Lib.hid hZ2
                have HCH5 := hide hf.chg
                clear hrows hCst hG0 hZ2 hf HF0
                go_upto_block 18 with fail
                go_cut [34, 35, 36, 37] from 261 to 284 (fun t34 t35 t36 t37 wx => ∃ gv H, Gk0 mn Z2 Y P YS F gv wv wx 3 t34 H)
                case first =>
                  as_aux_lemma =>
                    go_wp2_with fail
                    go_loopg [34, 35, 36, 37] 3 (fun q t j t36 t37 W => ∃ (i : Nat) (gv : Nat → Nat → Value) (H : Nat → Value), i + q = 3 ∧ j = .int .i64 (i : Int) ∧ Gk0 mn Z2 Y P YS F gv wv W i t H)
                    case atStart => exact ⟨0, _, _, by omega, rfl, unhide HG2⟩
                    case round =>
                      obtain ⟨i, gv, H, hiq, rfl, hgr⟩ := hrel
                      clear HG2
                      obtain ⟨At, ct', rfl⟩ := hgr.gr.trow.shape
                      by_cases hi : i < 3
                      · obtain ⟨q, rfl⟩ : ∃ q, gk = q + 1 := ⟨gk - 1, by omega⟩
                        have hiI : (i : Int) < 3 := by omega
                        have hi0 : (0 : Int) ≤ (i : Int) := by omega
                        have hE := hgr.enter (unhide CST2) hi
                        obtain ⟨Ai, ci, hPi⟩ := hE.gr.cur.shape
                        rw [Nat.add_zero] at hPi
                        have cY : wr.cell? ⟨Y, i, none⟩ = some (.slice Ai (mn i) ci) := by rw [← hPi]; exact (hgr.gr.xb.cell i).trans (unhide HYS i hi)
                        rw [hPi] at hE
                        have HE := hide hE
                        clear hE hgr hPi
                        go_wp2_with fail
                        go_loopg [36, 37] 9 (fun q l kk W => ∃ (k : Nat) (gv : Nat → Nat → Value), k + q = 9 ∧ kk = .int .i64 (k : Int) ∧ Gk mn Z2 Y P YS F gv wv W i k (.slice At i ct') H l)
                        case atStart => exact ⟨0, gv, by omega, rfl, unhide HE⟩
                        case round =>
                          obtain ⟨k, gv2, hkq, rfl, hgr⟩ := hrel
                          clear HE cY
                          obtain ⟨Al, cl2, rfl⟩ := hgr.gr.cur.shape
                          by_cases hk : k < 9
                          · obtain ⟨q2, rfl⟩ : ∃ q, gk = q + 1 := ⟨gk - 1, by omega⟩
                            have hk9 : (k : Int) < 9 := by omega
                            have hk0 : (0 : Int) ≤ (k : Int) := by omega
                            obtain ⟨va, hva⟩ : ∃ a : Int, 1 + (i : Int) = a := ⟨_, rfl⟩
                            have w1 : IntKind.i64.wrap (1 + (i : Int)) = va := by rw [IntWalk.i64_in _ (by omega)]; omega
                            obtain ⟨wi, hwi⟩ : ∃ w, wr.alloc (.cells #[.int .i64 va] 3) = w := ⟨_, rfl⟩
                            have hb1 : Below wr.heap.size wr wi := by rw [← hwi]; exact (Below.refl _ _).alloc (Nat.le_refl _) _
                            obtain ⟨sw, hsw⟩ : ∃ n, wr.heap.size = n := ⟨_, rfl⟩
                            have hcur := (hgr.gr.cur.below hb1).below ((Below.refl wi.heap.size wi).alloc (Nat.le_refl _) (.cells #[.slice (some ⟨sw, 0, none⟩) 1 1] 25))
                            have hsrc := src_one wi (t := 43) (e := 25) Try.underlying43 (.slice (some ⟨sw, 0, none⟩) 1 1) rfl
                            have hmN := unhide HMN i hi
                            obtain ⟨li, hli⟩ : ∃ l, mn i + k = l := ⟨_, rfl⟩
                            rw [hli] at hcur ⊢
                            have HLI := Lib.hid hli
                            have HC1 : Hid (li + 1 ≤ maxLen ∧ (li + 1) * 24 ≤ 140737488355328) := cap24 (by omega)
                            have HGR := hide hgr
                            have HCUR := hide hcur
                            have HSRC := hide hsrc
                            have HVA := Lib.hid hva
                            have HWI := Lib.hid hwi
                            have HSW := Lib.hid hsw
                            clear hgr hcur hsrc hmN hva hli hb1
                            go_wp2_with (first
                              | (at_builtin
                                 refine wpList_app_row _ rfl (.tmp 275) (.tmp 279) 43 43 rfl elem_rows (.slice Al li cl2) li (ct F gv2 (mn i) i k) rfl (unhide HCUR) _ (.slice (some ⟨sw, 0, none⟩) 1 1) rfl (unhide HSRC) HC1.out ?_
                                 intro v2 w2 ho2 how2
                                 have HO2 := hide ho2
                                 have HOW2 := hide how2
                                 clear ho2 how2))
                            go_roundg q2
                            case rel =>
                              refine ⟨k + 1, _, by omega, by go_num, (unhide HGR).step (unhide CST2) hi HVA.out.symm HWI.out ?_ ?_⟩
                              · rw [HSW.out, HLI.out]; exact unhide HO2
                              · rw [HSW.out, HLI.out]; exact unhide HOW2
                            case measure => omega
                          · obtain rfl : k = 9 := by omega
                            have HC2 : Hid (i + 1 ≤ maxLen ∧ (i + 1) * 24 ≤ 140737488355328) := cap24 (by omega)
                            have hz : Z2 ≤ wr.heap.size := by have := hgr.gr.chg.size; have := HZ2.out; omega
                            have HT := hide hgr.gr.trow
                            obtain ⟨li, hli⟩ : ∃ l, mn i + 9 = l := ⟨_, rfl⟩
                            rw [hli] at hgr ⊢
                            have HGR := hide hgr
                            clear hgr hli
                            go_wp2_with (first
                              | (at_builtin
                                 refine wpList_app1 wr rfl (.tmp 281) (.tmp 283) 49 rfl elem_outer Z2 (.slice At i ct') i ((List.range i).map H) rfl (unhide HT) (.slice Al li cl2) wr.heap.size rfl rfl rfl HC2.out hz ?_
                                 intro v4 w4' ho4 hg4 hr4
                                 have HO4 := hide ho4
                                 have HG4 := hide hg4
                                 clear ho4 hg4 hr4))
                            go_roundg q
                            case rel => exact ⟨i + 1, _, _, by omega, by go_num, (unhide HGR).leave (unhide CST2) hi (unhide HO4) (unhide HG4)⟩
                            case measure => omega
                      · obtain rfl : i = 3 := by omega
                        have HGR := hide hgr
                        clear hgr
                        go_wp2_with fail
                        go_meet
                        case rel => exact ⟨gv, H, unhide HGR⟩
                case rest =>
                  obtain ⟨gv, H, hgr⟩ := hcut
                  obtain ⟨wz, hwz⟩ : ∃ w : World, w = wc := ⟨_, rfl⟩
                  subst hwz
                  obtain ⟨Yh, ch, HS, hvh, _, hhb, hhs⟩ := own_vs hgr.gr.trow (by omega)
                  subst hvh
                  have HHS := hide (show ∀ i, i < 3 → HS[i]? = some (H i) from fun i hi => hhs i _ (map_at hi))
                  have HHB := hide hhb
                  have HGOT2 := hide hgr.gr.got
                  have HOLD2 := hide hgr.gr.old
                  have HYB3 := hide hgr.gr.xb
                  have HCHG6 := hide hgr.gr.chg
                  have HFI := hide hgr.fi
                  have HGI := hide hgr.gi
                  clear hgr hhb hhs CST2 HG2
                  go_upto_block 22 with fail
                  go_cut [38, 39] from 285 to 357 (fun t38 t39 wx => wz = wx)
                  case first =>
                    as_aux_lemma =>
                      go_wp2_with fail
                      go_loopg [38, 39] 3 (fun q t t31 W => ∃ i : Nat, i + q = 3 ∧ t = .int .i64 (i : Int) ∧ wz = W)
                      case atStart => exact ⟨0, by omega, rfl, rfl⟩
                      case round =>
                        obtain ⟨i, hiq, rfl, rfl⟩ := hrel
                        by_cases hi : i < 3
                        · obtain ⟨q, rfl⟩ : ∃ q, gk = q + 1 := ⟨gk - 1, by omega⟩
                          have hiI : (i : Int) < 3 := by omega
                          have hi0 : (0 : Int) ≤ (i : Int) := by omega
                          have hG := unhide HGOT2 i hi
                          have hV := unhide HOLD2 i hi
                          obtain ⟨Bj, cj, hGj⟩ := hG.shape
                          obtain ⟨Ai, ci, hVi⟩ := hV.shape
                          rw [ct_len] at hGj
                          rw [fl_len] at hVi
                          obtain ⟨li, hli⟩ : ∃ l, mn i = l := ⟨_, rfl⟩
                          have hlN := unhide HMN i hi
                          have hFI := unhide HFI i
                          have hGI := unhide HGI i
                          rw [hli] at hVi hGj hG hV hlN hFI
                          obtain ⟨lj, hlj⟩ : ∃ l, li + 9 = l := ⟨_, rfl⟩
                          rw [hlj] at hGj
                          have cH : wz.cell? ⟨Yh, i, none⟩ = some (.slice Bj lj cj) := by rw [← hGj]; exact ((unhide HHB).cell i).trans (unhide HHS i hi)
                          have cY : wz.cell? ⟨Y, i, none⟩ = some (.slice Ai li ci) := by rw [← hVi]; exact ((unhide HYB3).cell i).trans (unhide HYS i hi)
                          have HGK := hide hG
                          have HVI := hide hV
                          have HFJ := hide hFI
                          have HGL := hide hGI
                          have HGJ := Lib.hid hGj
                          have HVJ := Lib.hid hVi
                          clear hG hV hGj hVi hli hFI hGI
                          go_wp2_with fail
                          go_loopg [39] lj (fun q t W => ∃ k : Nat, k + q = lj ∧ t = .int .i64 (k : Int) ∧ wz = W)
                          case atStart => exact ⟨0, by omega, rfl, rfl⟩
                          case round =>
                            obtain ⟨k, hkq, rfl, rfl⟩ := hrel
                            have hk0 : (0 : Int) ≤ (k : Int) := by omega
                            by_cases hk : k < lj
                            · obtain ⟨q2, rfl⟩ : ∃ q, gk = q + 1 := ⟨gk - 1, by omega⟩
                              have hkJ : (k : Int) < (lj : Int) := by omega
                              obtain ⟨va, hva⟩ : ∃ a : Int, -(i : Int) = a := ⟨_, rfl⟩
                              have w1 : IntKind.i64.wrap (-(i : Int)) = va := by rw [IntWalk.i64_in _ (by omega)]; omega
                              obtain ⟨vb, hvb⟩ : ∃ a : Int, 1 + (i : Int) = a := ⟨_, rfl⟩
                              have w2 : IntKind.i64.wrap (1 + (i : Int)) = vb := by rw [IntWalk.i64_in _ (by omega)]; omega
                              by_cases hkl : k < li
                              · have hklI : (k : Int) < (li : Int) := by omega
                                have hklD : decide ((k : Int) < (li : Int)) = true := decide_eq_true hklI
                                have hklG : ¬ (li : Int) ≤ (k : Int) := by omega
                                obtain ⟨b1, rfl, hc1⟩ := (unhide HVI).cell HVJ.out (fl_at (fv := F) (i := i) hkl)
                                obtain ⟨b2, rfl, hc2⟩ := (unhide HGK).cell HGJ.out (ct_front (fv := F) (gv := gv) (i := i) (k := 9) hkl)
                                obtain ⟨b3, hF3, hB3⟩ := unhide HFJ k hi hkl
                                have hc3 : wz.cell? ⟨b3, 0, none⟩ = some (.int .i64 va) := by rw [← hva]; exact hB3.cell 0
                                rw [hF3] at hc1 hc2
                                clear hva hvb hF3 hB3
                                go_wp2_with fail
                                go_roundg q2
                                case rel => exact ⟨k + 1, by omega, by go_num, rfl⟩
                                case measure => omega
                              · have hklI : ¬ (k : Int) < (li : Int) := by omega
                                have hklD : decide ((k : Int) < (li : Int)) = false := decide_eq_false hklI
                                have hklG : (li : Int) ≤ (k : Int) := by omega
                                obtain ⟨kr, hkr⟩ : ∃ r, li + r = k := ⟨k - li, by omega⟩
                                obtain ⟨b2, rfl, hc2⟩ := (unhide HGK).cell HGJ.out (ct_back (fv := F) (gv := gv) (n := li) (i := i) (k := 9) (j := kr) (by omega))
                                obtain ⟨b3, hF3, hB3⟩ := unhide HGL kr hi (by omega)
                                have hc3 : wz.cell? ⟨b3, 0, none⟩ = some (.int .i64 vb) := by rw [← hvb]; exact hB3.cell 0
                                rw [hF3, hkr] at hc2
                                clear hva hvb hkr hF3 hB3
                                go_wp2_with fail
                                go_roundg q2
                                case rel => exact ⟨k + 1, by omega, by go_num, rfl⟩
                                case measure => omega
                            · obtain rfl : lj = k := by omega
                              go_wp2_with fail
                              go_roundg q
                              case rel => exact ⟨i + 1, by omega, by go_num, rfl⟩
                              case measure => omega
                        · obtain rfl : i = 3 := by omega
                          go_wp2_with fail
                          go_meet
                          case rel => rfl
                  case rest =>
                    subst hcut
                    have hcc : Chg ww wz (fun b => w4.heap.size ≤ b ∧ b < wg.heap.size) := (((unhide HC0).more (fun b hb => unhide HFT b hb)).trans (unhide HCH5) (fun b _ hb => unhide HFP b hb)).trans (unhide HCHG6) (fun b _ hb => unhide HFP b hb)
                    have hbz : Below w4.heap.size w4 wz := (unhide HBW).trans (hcc.below (unhide HBW).size (fun b hb h => by omega))
                    have hs9 := (unhide HBC).size
                    have hw9 : wz.ownsRow wg.heap.size 25 1 (.slice Aw Lw cw) Lw ((List.range Lw).map Uw) := hcc.own (unhide HW) (fun b hb h => by have := ((unhide HW).lt b hb).1; omega)
                    have hu9 : RB Lw 3 wz Uw yw wg.heap.size ww.heap.size := (unhide HUW).chg hcc (fun j hj b hb h => by have := ((unhide HUW).at_ j hj b hb).1; omega)
                    have xz0 : wz.cell? ⟨x, 0, none⟩ = some (.int .i64 nx) := ((unhide HX4).below hbz (unhide HX4).lt).cell 0
                    have hP := hide (parts_own wz nx (some ⟨gl, 0, none⟩) mx cl w4.heap.size Ex ((unhide HRL).below hbz) hbz.size (by omega))
                    have HBZ := hide hbz
                    have HW9 := hide hw9
                    have HU9 := hide hu9
                    clear hcc hbz hw9 hu9 hs9 HC0 HFT HFP HCH5 HCHG6 HW HUW HBW HBC HHS HHB HGOT2 HOLD2 HYB3 HFI HGI HYS YB HGW HLN
                    go_wp2_with fail
                    refine (unhide hP).mono ?_
                    rintro e wa ⟨va, za, La, Ua, ya, rfl, ha, hua, hal, hLa, htella, hba⟩
                    obtain ⟨rfl, hsame⟩ := htella.one (unhide HTELL)
                    obtain ⟨zs9, hzs9⟩ := htella.ints
                    obtain ⟨Aa, ca, rfl⟩ := ha.shape
                    have hbza := (unhide HBZ).trans (hba.mono (unhide HBZ).size)
                    have hwa := (Chg.of_below hba (fun _ => False)).own (unhide HW9) (fun _ _ h => h)
                    have huw := (unhide HU9).bel hba
                    have r1 : ∀ (k : Nat) (v : Value), ((List.range La).map Ua)[k]? = some v → RowI wa v (zs9 k) := fun k v hv => by
                      have hk : k < La := by have := (List.getElem?_eq_some_iff.1 hv).1; simpa using this
                      rw [map_at hk] at hv
                      injection hv with hv
                      have h := hua.rws.own k hk
                      have hl := hal k hk
                      rw [hv, hzs9 k hk] at h
                      exact RowI.row h (by rw [← hzs9 k hk]; omega)
                    have r2 : ∀ (k : Nat) (v : Value), ((List.range La).map Uw)[k]? = some v → RowI wa v (zs9 k) := fun k v hv => by
                      have hk : k < La := by have := (List.getElem?_eq_some_iff.1 hv).1; simpa using this
                      rw [map_at hk] at hv
                      injection hv with hv
                      have h := huw.rws.own k hk
                      have hl := hal k hk
                      rw [hv, ← hsame k hk, hzs9 k hk] at h
                      exact RowI.row h (by rw [← hzs9 k hk]; omega)
                    have hS := hide (lists_same wa Aa Aw La ca cw _ _ _ _ zs9 (own_reads ha) (own_reads hwa) (by omega) r1 r2)
                    have hI3 := hide (fun (w : World) (hb : Below w4.heap.size w4 w) => hide (kept_any w nx Ax mx cx W.heap.size w2.heap.size gl cl Ex ((unhide HRX4).below (hb.mono (unhide HB4).size)) (Nat.le_trans (unhide HB4).size hb.size) (by omega) ((Chg.of_below hb (fun _ => False)).own (unhide HEL4) (fun _ _ h => h))))
                    have hI4 := hide (fun (w : World) (hb : Below w4.heap.size w4 w) => hide (kept_any w ny Ay my cy W.heap.size w3.heap.size gm cm Ey ((unhide HRY4).below (hb.mono (unhide HB4).size)) (Nat.le_trans (unhide HB4).size hb.size) (by omega) ((Chg.of_below hb (fun _ => False)).own (unhide HEM4) (fun _ _ h => h))))
                    have HBZA := hide hbza
                    clear ha hua hal hLa htella hba hsame hzs9 hwa huw r1 r2 hbza hP xz0 HW9 HU9 HWL HTELL HSW HMN
                    go_wp2_with fail
                    refine (unhide hS).mono ?_
                    rintro e wb ⟨rfl, ab, hwb⟩
                    have hbb : Below w4.heap.size w4 wb := (unhide HBZA).trans (by rw [hwb]; exact below_drewN (Below.refl _ _) _)
                    have hC1 := (unhide hI3) wb hbb
                    have xx0 : wb.cell? ⟨x, 0, none⟩ = some (.int .i64 nx) := ((unhide HX4).below hbb (unhide HX4).lt).cell 0
                    have xx1 : wb.cell? ⟨x, 1, none⟩ = some (.slice Ax mx cx) := ((unhide HX4).below hbb (unhide HX4).lt).cell 1
                    have HBB := hide hbb
                    clear hwb hbb hS hI3
                    go_wp2_with fail
                    refine (unhide hC1).mono ?_
                    rintro e wc9 ⟨rfl, hb9⟩
                    have hbc : Below w4.heap.size w4 wc9 := (unhide HBB).trans (hb9.mono (unhide HBB).size)
                    have hC2 := (unhide hI4) wc9 hbc
                    have yy0 : wc9.cell? ⟨y, 0, none⟩ = some (.int .i64 ny) := ((unhide HY4).below hbc (unhide HY4).lt).cell 0
                    have yy1 : wc9.cell? ⟨y, 1, none⟩ = some (.slice Ay my cy) := ((unhide HY4).below hbc (unhide HY4).lt).cell 1
                    have HBC9 := hide hbc
                    clear hb9 hbc hC1 hI4 xx0 xx1
                    go_wp2_with fail
                    refine (unhide hC2).mono ?_
                    rintro e wd9 ⟨rfl, hb9⟩
                    have hbd : Below w4.heap.size w4 wd9 := (unhide HBC9).trans (hb9.mono (unhide HBC9).size)
                    have HBD9 := hide hbd
                    clear hb9 hbd hC2 yy0 yy1
                    go_wp2_with fail
                    go_ret
                    exact ⟨rfl, (unhide HB4).trans ((unhide HBD9).mono (unhide HB4).size)⟩
theorem graphOwn_any (W : World) (nx : Int) (Ax : Option Addr) (mx cx : Nat) (Ex : List (Int × Int × Int)) (hrx : Reads W W.heap.size 3 Ax mx (ecells Ex)) (hmx : mx ≤ 5864062014634) (ny : Int) (Ay : Option Addr) (my cy : Nat) (Ey : List (Int × Int × Int)) (hry : Reads W W.heap.size 3 Ay my (ecells Ey)) (hmy : my ≤ 5864062014634) :
    Calls Try.prog 7 #[.agg #[.int .i64 nx, .slice Ax mx cx], .agg #[.int .i64 ny, .slice Ay my cy]] W fun e W' => e = .returned (.bool true) ∧ Below W.heap.size W W' :=
  graphOwn_walk W nx ny Ax Ay mx my cx cy Ex Ey hrx hry hmx hmy
end Go.Proofs.Ytmcpbmadjpjckaa
