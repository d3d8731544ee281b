/-
  GraphDepths: the walk over the law's text. Conditions: at most 5864062014634 edges, at most 17592186043904 nodes to start from.
-/
import Derived.Test.YtmcpbmadjpjckaaGrSame
namespace Go.Proofs.Ytmcpbmadjpjckaa
open Go.RowKit

/-- What stands at the head of a turn. -/
structure GD (W W' : World) (x gl cl gs cs : Nat) (n : Int) (m nf : Nat) (E : List (Int × Int × Int)) (fr : List Int) (Ae : Option Addr) (ce : Nat) : Prop where
  bx : Blk W' x 24 #[.int .i64 n, .slice Ae m ce]
  re : Reads W' W'.heap.size 3 Ae m (ecells E)
  el : EdS W' W.heap.size gl m cl E
  st : W'.ownsRow W.heap.size 3 1 (.slice (some ⟨gs, 0, none⟩) (nf + 1) cs) (nf + 1) ((fr ++ [-78]).map iz)
  xb : W.heap.size ≤ x
  bel : Below W.heap.size W W'
  ln : E.length = m ∧ fr.length = nf
theorem own_cellS {w : World} {base n g cap k s : Nat} {e : TypeId} {xs : List Value} (h : w.ownsRow base e s (.slice (some ⟨g, 0, none⟩) n cap) n xs) (hk : k < n * s) : w.cell? ⟨g, k, none⟩ = xs[k]? := by
  rcases h.2 with ⟨h', _⟩ | ⟨g', cap', cur, h', hb, hg, h1, h2, h3, ht⟩
  · cases h'
  · cases h'
    rw [cell_of_row w g k cur e (0, 0) hg, ← ht, List.getElem?_take, if_pos hk]
    simp
theorem own_ne {w : World} {b1 b2 n1 n2 g1 g2 c1 c2 s1 s2 : Nat} {e1 e2 : TypeId} {xs ys : List Value} (h : w.ownsRow b1 e1 s1 (.slice (some ⟨g1, 0, none⟩) n1 c1) n1 xs) (k : w.ownsRow b2 e2 s2 (.slice (some ⟨g2, 0, none⟩) n2 c2) n2 ys) (hne : e1 ≠ e2) : g1 ≠ g2 := by
  rintro rfl
  rcases k.2 with ⟨h', _⟩ | ⟨g', cap', cur, h', hb, hg, _⟩
  · cases h'
  · cases h'
    exact own_blk_ne h hg hne rfl
def half (x : Int) : Int := wrap64 (x.tdiv 2)

set_option maxRecDepth 100000 in
set_option maxHeartbeats 8000000 in
theorem graphDepths_walk (W : World) (n : Int) (Ae : Option Addr) (m ce : Nat) (E : List (Int × Int × Int)) (hr : Reads W W.heap.size 3 Ae m (ecells E)) (hm : m ≤ 5864062014634)
    (Af : Option Addr) (nf cf : Nat) (fr : List Int) (hf : Reads W W.heap.size 1 Af nf (fr.map iz)) (hnf : nf ≤ 17592186043904) :
    Calls Try.prog 3 #[.agg #[.int .i64 n, .slice Ae m ce], .slice Af nf cf] W fun e W' => e = .returned (.bool true) ∧ Below W.heap.size W W' := by
  obtain ⟨W1, hW1⟩ : ∃ W1, W.alloc (.cells #[.int .i64 n, .slice Ae m ce] 24) = W1 := ⟨_, rfl⟩
  obtain ⟨x, hx⟩ : ∃ x, W.heap.size = x := ⟨_, rfl⟩
  have hb1 : Below W.heap.size W W1 := by rw [← hW1]; exact (Below.refl _ _).alloc (Nat.le_refl _) _
  have hx1 : Blk W1 x 24 #[.int .i64 n, .slice Ae m ce] := by rw [← hW1, ← hx]; exact Blk.new _ _ _
  have hr1 := hr.below hb1
  have hf1 := hf.below hb1
  have hlen : E.length = m := by have := hr.1; rw [ecells_len] at this; omega
  have hfl : fr.length = nf := by have := hf.1; simpa using this
  have x10 : W1.cell? ⟨x, 0, none⟩ = some (.int .i64 n) := hx1.cell 0
  have x11 : W1.cell? ⟨x, 1, none⟩ = some (.slice Ae m ce) := hx1.cell 1
  have hG := hide (great_any W1 n Ae m ce W.heap.size E hr1 hb1.size (by omega))
  have HL := Lib.hid hlen
  have HFL := Lib.hid hfl
  have HR := hide hr1
  have HF := hide hf1
  have HX := hide hx1
  have HB1 := hide hb1
  have HXX := Lib.hid hx
  clear hr hf hb1 hx1 hr1 hf1 hlen hfl
  go_enter Try.func3, Try.ntmps3
  go_wp2_with fail
  refine (unhide hG).mono ?_
  rintro e w2 ⟨bg, rfl, hb2⟩
  have hx2 := (unhide HX).below hb2 (unhide HX).lt
  have x20 : w2.cell? ⟨x, 0, none⟩ = some (.int .i64 n) := hx2.cell 0
  have x21 : w2.cell? ⟨x, 1, none⟩ = some (.slice Ae m ce) := hx2.cell 1
  have HX2 := hide hx2
  have HB2 := hide ((unhide HB1).trans (hb2.mono (unhide HB1).size))
  have HR2 := hide ((unhide HR).below (hb2.mono (unhide HB1).size))
  have HF2 := hide ((unhide HF).below (hb2.mono (unhide HB1).size))
  clear hG hb2 hx2 x10 x11 hW1 hx HX
  cases bg with
  | true =>
    go_wp2_with fail
    go_ret
    exact ⟨rfl, unhide HB2⟩
  | false =>
    by_cases hn6 : 600 < nf
    · have hn6I : (600 : Int) < (nf : Int) := by omega
      go_wp2_with fail
      go_ret
      exact ⟨rfl, unhide HB2⟩
    have hn6I : ¬ (600 : Int) < (nf : Int) := by omega
    have hD := hide (edges_any w2 n Ae m ce W.heap.size E (unhide HR2) (unhide HB2).size (by omega))
    go_wp2_with fail
    refine (unhide hD).mono ?_
    rintro e w3 ⟨gl, cl, rfl, hel, hb3⟩
    have hx3 := (unhide HX2).below hb3 (unhide HX2).lt
    have HX3 := hide hx3
    have HB3 := hide ((unhide HB2).trans (hb3.mono (unhide HB2).size))
    have HR3 := hide ((unhide HR2).below (hb3.mono (unhide HB2).size))
    have HF3 := hide ((unhide HF2).below (hb3.mono (unhide HB2).size))
    have HEL3 := hide (hel.base (base' := W.heap.size) (unhide HB2).size)
    have hz3 := (unhide HB3).size
    clear hb3 hx3 x20 x21 hel hD HX2 HR2 HF2
    have HC8 : Hid (0 + nf ≤ maxLen ∧ (0 + nf) * 8 ≤ 140737488355328) := cap8 (by omega)
    have HC81 : Hid (nf + 1 ≤ maxLen ∧ (nf + 1) * 8 ≤ 140737488355328) := cap8 (by omega)
    obtain ⟨B3, hB3⟩ : ∃ B, w3.heap.size = B := ⟨_, rfl⟩
    have HBB3 := Lib.hid hB3
    have hB3le : B3 ≤ w3.heap.size := by omega
    clear hB3
    go_wp2_with (first
      | (at_builtin
         refine wpList_app w3 rfl (.tmp 28) (.tmp 29) 25 rfl elem_int B3 (.slice none 0 0) 0 [] rfl ⟨rfl, .inl ⟨rfl, rfl⟩⟩ W.heap.size Af nf cf (fr.map iz) rfl (unhide HF3) (by intro u hu; obtain ⟨z, _, rfl⟩ := List.mem_map.1 hu; rfl) HC8.out hB3le ?_
         intro v4 w4 ho4 hg4 hr4
         rw [Nat.zero_add, List.nil_append] at ho4
         obtain ⟨A4, c4, rfl⟩ := ho4.shape
         have hb34 : Below w3.heap.size w3 w4 := grownBy_below hg4 (Nat.le_refl _) (fun g e => by cases e)
         have hB4le : B3 ≤ w4.heap.size := Nat.le_trans hB3le hb34.size
         have HB34 := hide hb34
         have HO4 := hide ho4
         clear ho4 hg4 hr4 hb34)
      | (at_builtin
         refine wpList_app1 w4 rfl (.tmp 30) (.tmp 31) 25 rfl elem_int B3 (.slice A4 nf c4) nf (fr.map iz) rfl (unhide HO4) (.int .i64 (-78)) w4.heap.size rfl rfl rfl HC81.out hB4le ?_
         intro v5 w5 ho5 hg5 hr5
         obtain ⟨A5, c5, rfl⟩ := ho5.shape
         obtain ⟨gs, cs, hv5, _, _⟩ := ho5.form (by omega)
         obtain ⟨rfl, rfl⟩ : A5 = some ⟨gs, 0, none⟩ ∧ c5 = cs := by cases hv5; exact ⟨rfl, rfl⟩
         have hcp := own_cap ho5
         have hsl := fun W => run_first elem_int (g := gs) (n := nf) (N := nf + 1) (cap := c5) (by omega) W
         have HB35 := hide ((unhide HB34).grown hg5 (by have := (unhide HB34).size; omega) (fun g e => by have := ((unhide HO4).lt g e).1; have := HBB3.out; omega))
         have HO5 := hide ho5
         clear ho5 hg5 hr5 hv5 hcp))
    obtain ⟨w5n, hw5n⟩ : ∃ w, w = w5 := ⟨_, rfl⟩
    have hgd : GD W w5 x gl cl gs c5 n m nf E fr Ae ce := by
      have h35 := unhide HB35
      exact ⟨(unhide HX3).below h35 (unhide HX3).lt, ((unhide HR3).below (h35.mono hz3)).more (Nat.le_trans hz3 h35.size), (Chg.of_below h35 (fun _ => False)).own (unhide HEL3) (fun _ _ h => h),
        by rw [List.map_append]; exact (unhide HO5).base (by have := HBB3.out; omega), by have := HXX.out; omega, (unhide HB3).trans (h35.mono hz3), HL.out, HFL.out⟩
    have HGD := hide hgd
    clear hgd hw5n HX3 HR3 HF3 HEL3 HB34 HO4 HO5 HB35 HB2 HB3
    go_loopg [7] 2 (fun q t W' => ∃ (k : Nat) (E' : List (Int × Int × Int)) (fr' : List Int) (Ae' : Option Addr) (ce' : Nat), t = .int .i64 (k : Int) ∧ k + q = 2 ∧ GD W W' x gl cl gs c5 n m nf E' fr' Ae' ce')
    case atStart => exact ⟨0, E, fr, Ae, ce, rfl, by omega, unhide HGD⟩
    case round =>
      clear HGD
      obtain ⟨k, E', fr', Ae', ce', rfl, hkq, hgd⟩ := hrel
      have hk0 : (0 : Int) ≤ (k : Int) := by omega
      by_cases hk : k < 2
      · have hkI : (k : Int) < 2 := by omega
        obtain ⟨gq, rfl⟩ : ∃ q, gk = q + 1 := ⟨gk - 1, by omega⟩
        obtain ⟨wo, rfl⟩ : ∃ w : World, w = wr := ⟨_, rfl⟩
        obtain ⟨B, hB⟩ : ∃ B, wo.heap.size = B := ⟨_, rfl⟩
        have hst0 : Reads wo B 1 (some ⟨gs, 0, none⟩) nf (fr'.map iz) := by
          have h := Reads.of_own hgd.st
          rw [List.map_append, hB] at h
          exact h.front3 (by rw [List.length_map]; have := hgd.ln.2; omega)
        have hel0 : Reads wo B 3 (some ⟨gl, 0, none⟩) m (ecells E') := by
          have h := Reads.of_own hgd.el
          rw [ecells_app, hB] at h
          exact h.front3 (by rw [ecells_len, hgd.ln.1])
        have hre0 : Reads wo B 3 Ae' m (ecells E') := hB ▸ hgd.re
        have HB := Lib.hid hB
        have hBle : B ≤ wo.heap.size := by omega
        have HGD := hide hgd
        have HST := hide hst0
        have HEL := hide hel0
        have HRE := hide hre0
        clear hgd hst0 hel0 hre0 hB
        go_wp2_with (first
          | (at_builtin
             refine wpList_app wo rfl (.tmp 41) (.tmp 42) 25 rfl elem_int B (.slice none 0 0) 0 [] rfl ⟨rfl, .inl ⟨rfl, rfl⟩⟩ B (some ⟨gs, 0, none⟩) nf c5 (fr'.map iz) rfl (unhide HST) (by intro u hu; obtain ⟨z, _, rfl⟩ := List.mem_map.1 hu; rfl) HC8.out hBle ?_
             intro v6 w6 ho6 hg6 hr6
             rw [Nat.zero_add, List.nil_append] at ho6
             obtain ⟨Aa, ca, rfl⟩ := ho6.shape
             have hb6 : Below wo.heap.size wo w6 := grownBy_below hg6 (Nat.le_refl _) (fun g e => by cases e)
             have hx6 := (unhide HGD).bx.below hb6 (unhide HGD).bx.lt
             have x60 : w6.cell? ⟨x, 0, none⟩ = some (.int .i64 n) := hx6.cell 0
             have hD6 := hide (depths_any w6 n (some ⟨gl, 0, none⟩) m cl B E' ((unhide HEL).below (hb6.mono hBle)) (Nat.le_trans hBle hb6.size) (by omega))
             have HB6 := hide hb6
             have HX6 := hide hx6
             have HO6 := hide ho6
             clear ho6 hg6 hr6 hb6 hx6))
        refine (unhide hD6).mono ?_
        rintro e w7 hdo
        obtain ⟨Ad, kd, cd, ed, rfl, hdr, hb67, Fs, hF1, hF2⟩ := hdo.res
        have hb7 := (unhide HB6).trans (hb67.mono (unhide HB6).size)
        have hx7 := (unhide HGD).bx.below hb7 (unhide HGD).bx.lt
        have x70 : w7.cell? ⟨x, 0, none⟩ = some (.int .i64 n) := hx7.cell 0
        have hR7 := hide (reach_any w7 n (some ⟨gl, 0, none⟩) m cl B E' ((unhide HEL).below (hb7.mono hBle)) (Nat.le_trans hBle hb7.size) (by omega) (some ⟨gs, 0, none⟩) nf c5 fr' ((unhide HST).below (hb7.mono hBle)) (by omega))
        have HDR := hide hdr
        have HFS := hide (And.intro hF1 hF2)
        have HB67 := hide hb67
        have HB7 := hide hb7
        clear hdo hdr hb67 hF1 hF2 hb7 hx7 x60 hD6
        go_wp2_with fail
        refine (unhide hR7).mono ?_
        rintro e w8 hro
        obtain ⟨Ar, kr, cr, er, rfl, hrr, hb78⟩ := hro.res
        have hb8 := (unhide HB7).trans (hb78.mono (unhide HB7).size)
        have hx8 := (unhide HGD).bx.below hb8 (unhide HGD).bx.lt
        have x80 : w8.cell? ⟨x, 0, none⟩ = some (.int .i64 n) := hx8.cell 0
        have x81 : w8.cell? ⟨x, 1, none⟩ = some (.slice Ae' m ce') := hx8.cell 1
        have HRR := hide hrr
        have HB78 := hide hb78
        have HB8 := hide hb8
        have HX8 := hide hx8
        have hx8l := hx8.lt
        have hP := hide (fun (w : World) (hb : Below w8.heap.size w8 w) => hide (plain_any w n Ae' m ce' B E' ((unhide HRE).below ((hb8.trans (hb.mono hb8.size)).mono hBle)) (Nat.le_trans hBle (Nat.le_trans hb8.size hb.size)) (by omega)))
        have hK := hide (fun (w : World) (A' : Option Addr) (c' base : Nat) (h : w.ownsRow base 65 3 (.slice A' m c') m (ecells E')) => hide (refDepths_any w n A' m c' w.heap.size E' (Reads.of_own h) (Nat.le_refl _) (by omega) Fs (unhide HFS).1 (unhide HFS).2))
        clear hro hrr hb8 hx8 x70 hR7 hb78
        go_wp2_with fail
        go_region_held3 (fun w' => w'.cell? ⟨x, 0, none⟩ = some (.int .i64 n) ∧ w'.cell? ⟨x, 1, none⟩ = some (.slice Ae' m ce')) (first | go_keep | exact d1 | exact d2) ((first
          | (go_at_call 13; (with_reducible refine (unhide ((unhide hP) _ (by first | exact (Below.refl _ _).drew | exact Below.refl _ _))).mono ?_); rintro e w9 ⟨A9, c9, rfl, ho9, hb9⟩
             have hb89 : Below w8.heap.size w8 w9 := (show Below w8.heap.size w8 _ from (by first | exact (Below.refl _ _).drew | exact Below.refl _ _)).trans hb9
             have hx9 := (unhide HX8).below hb89 hx8l
             have d1 : w9.cell? ⟨x, 0, none⟩ = some (.int .i64 n) ∧ w9.cell? ⟨x, 1, none⟩ = some (.slice Ae' m ce') := ⟨hx9.cell 0, hx9.cell 1⟩
             have hK9 := hide ((unhide hK) w9 A9 c9 _ ho9)
             have HB9 := hide hb89
             clear hb9 hb89 hx9 ho9)
          | (go_at_call 12; (with_reducible refine (unhide (unhide hK9)).mono ?_); rintro e w10 hrd
             obtain ⟨Aq, kq, cq, eq, rfl, hqr, hb910⟩ := RDepOut.res hrd
             have hb810 : Below w8.heap.size w8 w10 := (unhide HB9).trans (hb910.mono (unhide HB9).size)
             have hx10 := (unhide HX8).below hb810 hx8l
             have d2 : w10.cell? ⟨x, 0, none⟩ = some (.int .i64 n) ∧ w10.cell? ⟨x, 1, none⟩ = some (.slice Ae' m ce') := ⟨hx10.cell 0, hx10.cell 1⟩
             have HQR := hide hqr
             have HB10 := hide hb810
             have HB810 := hide hb810
             clear hrd hqr hb910 hb810 hx10)))
        obtain ⟨rfl, rfl, hkb, ds, hds1, hds2⟩ := (unhide HDR).same (unhide HQR)
        have HD1 := hide hds1
        have HD2 := hide hds2
        have hb10 := (unhide HB8).trans ((unhide HB10).mono (unhide HB8).size)
        have hx10 := (unhide HGD).bx.below hb10 (unhide HGD).bx.lt
        have x100 : w10.cell? ⟨x, 0, none⟩ = some (.int .i64 n) := hx10.cell 0
        have x101 : w10.cell? ⟨x, 1, none⟩ = some (.slice Ae' m ce') := hx10.cell 1
        have HB10 := hide hb10
        have HX10 := hide hx10
        have hx10l := hx10.lt
        have hP2 := hide (fun (w : World) (hb : Below w10.heap.size w10 w) => hide (plain_any w n Ae' m ce' B E' ((unhide HRE).below ((hb10.trans (hb.mono hb10.size)).mono hBle)) (Nat.le_trans hBle (Nat.le_trans hb10.size hb.size)) (by omega)))
        have hK2 := hide (fun (w : World) (A' : Option Addr) (c' base : Nat) (hb : Below w10.heap.size w10 w) (h : w.ownsRow base 65 3 (.slice A' m c') m (ecells E')) => hide (refReach_any w n A' m c' w.heap.size E' (Reads.of_own h) (Nat.le_refl _) (by omega) Aa nf ca fr' (((own_reads (unhide HO6)).below ((((unhide HB67).trans ((unhide HB78).mono (unhide HB67).size)).trans ((unhide HB810).mono (Nat.le_trans (unhide HB67).size (unhide HB78).size))).trans (hb.mono (Nat.le_trans (unhide HB67).size (Nat.le_trans (unhide HB78).size (unhide HB810).size))))).more (Nat.le_trans (unhide HB67).size (Nat.le_trans (unhide HB78).size (Nat.le_trans (unhide HB810).size hb.size)))) (by omega)))
        clear hds1 hds2 hb10 hx10 hP hK d1 d2 hK9 HB9 x80 x81
        go_wp2_with fail
        go_region_held3 (fun w' => w'.cell? ⟨x, 0, none⟩ = some (.int .i64 n) ∧ w'.cell? ⟨x, 1, none⟩ = some (.slice Ae' m ce')) (first | go_keep | exact d1 | exact d2) ((first
          | (go_at_call 13; (with_reducible refine (unhide ((unhide hP2) _ (by first | exact (Below.refl _ _).drew | exact Below.refl _ _))).mono ?_); rintro e w11 ⟨A9, c9, rfl, ho9, hb9⟩
             have hb89 : Below w10.heap.size w10 w11 := (show Below w10.heap.size w10 _ from (by first | exact (Below.refl _ _).drew | exact Below.refl _ _)).trans hb9
             have hx9 := (unhide HX10).below hb89 hx10l
             have d1 : w11.cell? ⟨x, 0, none⟩ = some (.int .i64 n) ∧ w11.cell? ⟨x, 1, none⟩ = some (.slice Ae' m ce') := ⟨hx9.cell 0, hx9.cell 1⟩
             have hK9 := hide ((unhide hK2) w11 A9 c9 _ hb89 ho9)
             have HB11 := hide hb89
             clear hb9 hb89 hx9 ho9)
          | (go_at_call 14; (with_reducible refine (unhide (unhide hK9)).mono ?_); rintro e w12 hrd
             obtain ⟨Ap, kp, cp, ep, rfl, hqr, hb910⟩ := ReachOut.res hrd
             have hb810 : Below w10.heap.size w10 w12 := (unhide HB11).trans (hb910.mono (unhide HB11).size)
             have hx12 := (unhide HX10).below hb810 hx10l
             have d2 : w12.cell? ⟨x, 0, none⟩ = some (.int .i64 n) ∧ w12.cell? ⟨x, 1, none⟩ = some (.slice Ae' m ce') := ⟨hx12.cell 0, hx12.cell 1⟩
             have HPR := hide hqr
             have HB12 := hide hb810
             clear hrd hqr hb910 hb810 hx12)))
        obtain ⟨rfl, rfl, hkrb, rs, hrs1, hrs2⟩ := (unhide HRR).same (unhide HPR)
        have hb78 := unhide HB78
        have hb810 := unhide HB810
        have hb12 := unhide HB12
        have hb712 : Below w7.heap.size w7 w12 := (hb78.trans (hb810.mono hb78.size)).trans (hb12.mono (Nat.le_trans hb78.size hb810.size))
        have hb812 : Below w8.heap.size w8 w12 := hb810.trans (hb12.mono hb810.size)
        have hb612 := (unhide HB67).trans (hb712.mono (unhide HB67).size)
        have hbo12 := (unhide HB6).trans (hb612.mono (unhide HB6).size)
        have HBO := hide hbo12
        have hI1 := hide (ints_same w12 Ad Aq kd cd cq w7.heap.size w10.heap.size ds ((unhide HD1) w12 hb712) ((unhide HD2) w12 hb12) (by omega))
        have hI2 := hide (fun (w : World) (hb : Below w12.heap.size w12 w) => hide (ints_same w Ar Ap kr cr cp w8.heap.size w12.heap.size rs (hrs1 w (hb812.trans (hb.mono hb812.size))) (hrs2 w hb) (by omega)))
        have hI3 := hide (fun (w : World) (hb : Below w12.heap.size w12 w) => hide (kept_any w n Ae' m ce' B W.heap.size gl cl E' ((unhide HRE).below ((hbo12.trans (hb.mono hbo12.size)).mono hBle)) (Nat.le_trans hBle (Nat.le_trans hbo12.size hb.size)) (by omega) ((Chg.of_below (hbo12.trans (hb.mono hbo12.size)) (fun _ => False)).own (unhide HGD).el (fun _ _ h => h))))
        have hI4 := hide (fun (w : World) (hb : Below w12.heap.size w12 w) => hide (ints_same w (some ⟨gs, 0, none⟩) Aa nf c5 ca B w6.heap.size fr' ((unhide HST).below ((hbo12.trans (hb.mono hbo12.size)).mono hBle)) ((own_reads (unhide HO6)).below (hb612.trans (hb.mono hb612.size))) (by omega)))
        have hI5 := hide (fun (w : World) (hb : Below w12.heap.size w12 w) => hide (turned_any w n Ae' m ce' B E' ((unhide HRE).below ((hbo12.trans (hb.mono hbo12.size)).mono hBle)) (Nat.le_trans hBle (Nat.le_trans hbo12.size hb.size)) (by omega)))
        have hmk78 : w12.cell? ⟨gs, nf, none⟩ = some (.int .i64 (-78)) := by
          have h := (Chg.of_below hbo12 (fun _ => False)).own (unhide HGD).st (fun _ _ h => h)
          rw [own_cell h (k := nf) (by omega), List.getElem?_map, List.getElem?_append_right (by have := (unhide HGD).ln.2; omega), (unhide HGD).ln.2, Nat.sub_self]
          rfl
        have hcapS := own_cap (unhide HGD).st
        have hsl2 := fun W => run_first elem_int (g := gs) (n := nf + 1) (N := nf) (cap := c5) (by omega) W
        obtain ⟨M, hM⟩ : ∃ M, nf + 1 = M := ⟨_, rfl⟩
        have hw1 : IntKind.i64.wrap ((nf : Int) + 1) = (M : Int) := by rw [IntWalk.i64_in _ (by omega)]; omega
        have hMI : (nf : Int) < (M : Int) := by omega
        rw [hM] at hsl2
        have HM := Lib.hid hM
        have HBX := hide (unhide HGD).bx
        clear hrs1 hrs2 hb78 hb810 hb12 hb712 hb812 hb612 hbo12 hP2 hK2 d1 d2 hK9 HB11 hM x100 x101 hsl HR HF HXX hcapS
        go_wp2_with fail
        refine (unhide hI1).mono ?_
        rintro e w13 ⟨rfl, a13, hw13⟩
        have hb13 : Below w12.heap.size w12 w13 := by rw [hw13]; exact below_drewN (Below.refl _ _) _
        have hC14 := (unhide hI2) w13 hb13
        have HB13 := hide hb13
        clear hw13 hb13 hI1 hI2
        go_wp2_with fail
        refine (unhide hC14).mono ?_
        rintro e w14 ⟨rfl, a14, hw14⟩
        have hb14 : Below w12.heap.size w12 w14 := (unhide HB13).trans (by rw [hw14]; exact below_drewN (Below.refl _ _) _)
        have hC15 := (unhide hI3) w14 hb14
        have hx14 := (unhide HBX).below ((unhide HBO).trans (hb14.mono (unhide HBO).size)) (unhide HBX).lt
        have x140 : w14.cell? ⟨x, 0, none⟩ = some (.int .i64 n) := hx14.cell 0
        have x141 : w14.cell? ⟨x, 1, none⟩ = some (.slice Ae' m ce') := hx14.cell 1
        have HB14 := hide hb14
        clear hw14 hb14 hC14 hI3 hx14
        go_wp2_with fail
        refine (unhide hC15).mono ?_
        rintro e w15 ⟨rfl, hb15⟩
        have hb15 : Below w12.heap.size w12 w15 := (unhide HB14).trans (hb15.mono (unhide HB14).size)
        have hC16 := (unhide hI4) w15 hb15
        have HB15 := hide hb15
        clear hb15 hC15 hI4 x140 x141
        go_wp2_with fail
        refine (unhide hC16).mono ?_
        rintro e w16 ⟨rfl, a16, hw16⟩
        have hb16 : Below w12.heap.size w12 w16 := (unhide HB15).trans (by rw [hw16]; exact below_drewN (Below.refl _ _) _)
        have hC17 := (unhide hI5) w16 hb16
        have hbo16 := (unhide HBO).trans (hb16.mono (unhide HBO).size)
        have hx16 := (unhide HBX).below hbo16 (unhide HBX).lt
        have x160 : w16.cell? ⟨x, 0, none⟩ = some (.int .i64 n) := hx16.cell 0
        have x161 : w16.cell? ⟨x, 1, none⟩ = some (.slice Ae' m ce') := hx16.cell 1
        have m16 : w16.cell? ⟨gs, nf, none⟩ = some (.int .i64 (-78)) := by
          have hlt := ((unhide HGD).st.lt gs rfl).2
          exact (hb16.cell (p := ⟨gs, nf, none⟩) (Nat.lt_of_lt_of_le hlt (unhide HBO).size)).trans hmk78
        have HX16 := hide hx16
        have HB16 := hide hbo16
        clear hw16 hb16 hbo16 hC16 hI5 hx16 hmk78
        go_wp2_with fail
        refine (unhide hC17).mono ?_
        rintro e w17 ⟨At, ct, rfl, hot, hb17⟩
        have hx17 := (unhide HX16).below hb17 (unhide HX16).lt
        have x170 : w17.cell? ⟨x, 0, none⟩ = some (.int .i64 n) := hx17.cell 0
        have x171 : w17.cell? ⟨x, 1, none⟩ = some (.slice Ae' m ce') := hx17.cell 1
        have x17f : w17.frozen? ⟨x, 0, none⟩ = false := hx17.frozen 0
        have x17g : w17.frozen? ⟨x, 1, none⟩ = false := hx17.frozen 1
        have HOT := hide hot
        have HX17 := hide hx17
        have HB17 := hide ((unhide HB16).trans (hb17.mono (unhide HB16).size))
        have h1617 : w16.heap.size ≤ w17.heap.size := hb17.size
        have ho16 : wo.heap.size ≤ w16.heap.size := (unhide HB16).size
        clear hot hb17 hx17 x160 x161 hC17 hsl2 hw1 hMI m16
        go_wp2_with fail
        obtain ⟨W18, hW18⟩ : ∃ W18, (w17.setCell ⟨x, 0, none⟩ (.int .i64 n)).setCell ⟨x, 1, none⟩ (.slice At m ct) = W18 := ⟨_, rfl⟩
        have hc18 : Chg w17 W18 (fun b => b = x) := by rw [← hW18]; exact ((Chg.refl w17 (fun b => b = x)).set_ ⟨x, 0, none⟩ _ (fun _ => rfl)).set_ ⟨x, 1, none⟩ _ (fun _ => rfl)
        have hx18 : Blk W18 x 24 #[.int .i64 n, .slice At m ct] := by rw [← hW18]; exact ((unhide HX17).set_ 0 _).set_ 1 _
        rw [hW18]
        have hxo : x < wo.heap.size := (unhide HGD).bx.lt
        have hot18 := hc18.own (unhide HOT) (fun i hi e => by have := ((unhide HOT).lt i hi).1; omega)
        have hel17 := (Chg.of_below (unhide HB17) (fun _ => False)).own (unhide HGD).el (fun _ _ h => h)
        have hst17 := (Chg.of_below (unhide HB17) (fun _ => False)).own (unhide HGD).st (fun _ _ h => h)
        have hel18 := hc18.own hel17 (fun i hi e => own_blk_ne hel17 (unhide HX17) (by decide) (by rw [hi, e]))
        have hst18 := hc18.own hst17 (fun i hi e => own_blk_ne hst17 (unhide HX17) (by decide) (by rw [hi, e]))
        have hgne : gl ≠ gs := own_ne hel18 hst18 (by decide)
        have hxl : x ≠ gl := fun e => own_blk_ne hel17 (unhide HX17) (by decide) (by rw [e]; rfl)
        have hxs : x ≠ gs := fun e => own_blk_ne hst17 (unhide HX17) (by decide) (by rw [e]; rfl)
        have hglo : gl < wo.heap.size := ((unhide HGD).el.lt gl rfl).2
        have hgso : gs < wo.heap.size := ((unhide HGD).st.lt gs rfl).2
        have hglB : W.heap.size ≤ gl := ((unhide HGD).el.lt gl rfl).1
        have hgsB : W.heap.size ≤ gs := ((unhide HGD).st.lt gs rfl).1
        have hxB : W.heap.size ≤ x := (unhide HGD).xb
        have hbw18 : Below W.heap.size W W18 := ((unhide HGD).bel.trans ((unhide HB17).mono (unhide HGD).bel.size)).trans (hc18.below (Nat.le_trans (unhide HGD).bel.size (unhide HB17).size) (fun i hi e => by omega))
        have HX18 := hide hx18
        have HOT18 := hide hot18
        have HEL18 := hide hel18
        have HST18 := hide hst18
        have HBW18 := hide hbw18
        clear hW18 hc18 hx18 hot18 hel17 hst17 hel18 hst18 hbw18 x170 x171 x17f x17g
        go_loopg [17] m (fun q t W' => ∃ j : Nat, t = .int .i64 (j : Int) ∧ j + q = m ∧ W'.ownsRow W.heap.size 41 3 (.slice (some ⟨gl, 0, none⟩) (m + 1) cl) (m + 1) (ecells ((E'.take j).map swE ++ (E'.drop j ++ [mkE]))) ∧ Chg W18 W' (fun b => b = gl))
        case atStart => exact ⟨0, rfl, by omega, unhide HEL18, Chg.refl _ _⟩
        case round =>
          obtain ⟨j, rfl, hjq, ho, hc⟩ := hrel
          have hj0 : (0 : Int) ≤ (j : Int) := by omega
          by_cases hj : j < m
          · have hjI : (j : Int) < (m : Int) := by omega
            obtain ⟨gq2, rfl⟩ : ∃ q, gk = q + 1 := ⟨gk - 1, by omega⟩
            have hlE : j < E'.length := by rw [(unhide HGD).ln.1]; exact hj
            obtain ⟨⟨f, t, g⟩, he⟩ : ∃ e, E'[j]? = some e := ⟨_, List.getElem?_eq_getElem hlE⟩
            have hdr : E'.drop j = (f, t, g) :: E'.drop (j + 1) := by
              rw [List.drop_eq_getElem_cons hlE]
              rw [List.getElem?_eq_getElem hlE] at he
              injection he with he
              rw [he]
            have htk : (E'.take (j + 1)).map swE = (E'.take j).map swE ++ [(t, f, g)] := by rw [List.take_add_one, he, Option.toList_some, List.map_append]; rfl
            obtain ⟨P, hP⟩ : ∃ P, (E'.take j).map swE = P := ⟨_, rfl⟩
            have hPl : P.length = j := by rw [← hP, List.length_map, List.length_take]; omega
            rw [hdr, hP, List.cons_append] at ho
            have hat := ecells_at (P ++ (f, t, g) :: (E'.drop (j + 1) ++ [mkE])) (k := j) (e := (f, t, g)) (by rw [List.getElem?_append_right (by omega), hPl, Nat.sub_self]; rfl)
            have c1 : wr.cell? ⟨gl, j * 3, none⟩ = some (.int .i64 f) := by rw [own_cellS ho (by omega), show j * 3 = 3 * j by omega]; exact hat.1
            have c2 : wr.cell? ⟨gl, j * 3 + 1, none⟩ = some (.int .i64 t) := by rw [own_cellS ho (by omega), show j * 3 + 1 = 3 * j + 1 by omega]; exact hat.2.1
            have f1 : wr.frozen? ⟨gl, j * 3, none⟩ = false := own_frozen2 ho _
            have f2 : wr.frozen? ⟨gl, j * 3 + 1, none⟩ = false := own_frozen2 ho _
            have hos := own_store2 (own_store2 ho (j * 3) (.int .i64 t)) (j * 3 + 1) (.int .i64 f)
            have hes := ecells_set (P := P) (Q := E'.drop (j + 1) ++ [mkE]) (f := f) (t := t) (g := g)
            rw [hPl] at hes
            rw [hes] at hos
            have s1 : (wr.setCell ⟨gl, j * 3, none⟩ (.int .i64 t)).cell? ⟨gl, j * 3 + 1, none⟩ = some (.int .i64 t) := by rw [World.cell?_setCell_other _ _ _ _ (by intro e; injection e with _ e; omega)]; exact c2
            have HOS := hide hos
            have HTK := Lib.hid htk
            have HP := Lib.hid hP
            have HC5 := hide hc
            clear he hdr htk hP hPl ho hat hos hes hc hlE
            go_wp2_with fail
            go_region
            go_wp2_with fail
            go_roundg gq2
            case rel =>
              refine ⟨j + 1, by go_num, by omega, ?_, (((unhide HC5).drew.set_ ⟨gl, j * 3, none⟩ _ (fun _ => rfl)).set_ ⟨gl, j * 3 + 1, none⟩ _ (fun _ => rfl))⟩
              rw [HTK.out, HP.out, List.append_assoc]
              exact unhide HOS
            case measure => omega
          · obtain rfl : j = m := by omega
            have hlE : E'.length = j := (unhide HGD).ln.1
            rw [List.take_of_length_le (by omega), List.drop_of_length_le (by omega), List.nil_append] at ho
            obtain ⟨w19, rfl⟩ : ∃ w : World, w = wr := ⟨_, rfl⟩
            have hx19 := hc.blk (unhide HX18) hxl
            have hot19 := hc.own (unhide HOT18) (fun i hi e => by have := ((unhide HOT18).lt i hi).1; omega)
            have hst19 := hc.own (unhide HST18) (fun i hi e => hgne (by cases hi; exact e.symm))
            have hbw19 := (unhide HBW18).trans (hc.below (unhide HBW18).size (fun i hi e => by omega))
            have HX19 := hide hx19
            have HOT19 := hide hot19
            have HST19 := hide hst19
            have HBW19 := hide hbw19
            have HEL19 := hide ho
            clear ho hc hx19 hot19 hst19 hbw19 HX18 HOT18 HST18 HEL18 HBW18 hlE
            go_wp2_with fail
            go_loopg [18] nf (fun q t W' => ∃ i : Nat, t = .int .i64 (i : Int) ∧ i + q = nf ∧ W'.ownsRow W.heap.size 3 1 (.slice (some ⟨gs, 0, none⟩) (nf + 1) c5) (nf + 1) (((fr'.take i).map half ++ (fr'.drop i ++ [-78])).map iz) ∧ Chg w19 W' (fun b => b = gs))
            case atStart => exact ⟨0, rfl, by omega, unhide HST19, Chg.refl _ _⟩
            case round =>
              obtain ⟨i, rfl, hiq, ho, hc⟩ := hrel
              have hi0 : (0 : Int) ≤ (i : Int) := by omega
              by_cases hi : i < nf
              · have hiI : (i : Int) < (nf : Int) := by omega
                obtain ⟨gq3, rfl⟩ : ∃ q, gk = q + 1 := ⟨gk - 1, by omega⟩
                have hlF : i < fr'.length := by rw [(unhide HGD).ln.2]; exact hi
                obtain ⟨y, hy⟩ : ∃ y, fr'[i]? = some y := ⟨_, List.getElem?_eq_getElem hlF⟩
                have hdr : fr'.drop i = y :: fr'.drop (i + 1) := by
                  rw [List.drop_eq_getElem_cons hlF]
                  rw [List.getElem?_eq_getElem hlF] at hy
                  injection hy with hy
                  rw [hy]
                have htk : (fr'.take (i + 1)).map half = (fr'.take i).map half ++ [half y] := by rw [List.take_add_one, hy, Option.toList_some, List.map_append]; rfl
                obtain ⟨P, hP⟩ : ∃ P, (fr'.take i).map half = P := ⟨_, rfl⟩
                have hPl : P.length = i := by rw [← hP, List.length_map, List.length_take]; omega
                rw [hdr, hP, List.cons_append] at ho
                have c1 : wr.cell? ⟨gs, i, none⟩ = some (.int .i64 y) := by rw [own_cell ho (by omega), List.getElem?_map, List.getElem?_append_right (by omega), hPl, Nat.sub_self]; rfl
                have f1 : wr.frozen? ⟨gs, i, none⟩ = false := own_frozen2 ho _
                have hos := own_store2 ho i (iz (half y))
                have hes : ((P ++ y :: (fr'.drop (i + 1) ++ [-78])).map iz).set i (iz (half y)) = ((P ++ [half y]) ++ (fr'.drop (i + 1) ++ [-78])).map iz := by
                  rw [← List.map_set, List.set_append_right _ _ (by omega), hPl, Nat.sub_self]
                  simp
                rw [hes] at hos
                have HOS := hide hos
                have HTK := Lib.hid htk
                have HP := Lib.hid hP
                have HC5 := hide hc
                clear hy hdr htk hP hPl ho hos hes hc hlF
                go_wp2_with fail
                go_roundg gq3
                case rel => exact ⟨i + 1, by go_num, by omega, by rw [HTK.out, HP.out]; exact unhide HOS, (unhide HC5).set_ ⟨gs, i, none⟩ _ (fun _ => rfl)⟩
                case measure => omega
              · obtain rfl : i = nf := by omega
                have hlF : fr'.length = i := (unhide HGD).ln.2
                rw [List.take_of_length_le (by omega), List.drop_of_length_le (by omega), List.nil_append] at ho
                have hx20 := hc.blk (unhide HX19) hxs
                have hot20 := hc.own (unhide HOT19) (fun i hi e => by have := ((unhide HOT19).lt i hi).1; omega)
                have hel20 := hc.own (unhide HEL19) (fun i hi e => hgne (by cases hi; exact e))
                have hbw20 := (unhide HBW19).trans (hc.below (unhide HBW19).size (fun i hi e => by omega))
                have hgd2 : GD W wr x gl cl gs c5 n j i (E'.map swE) (fr'.map half) At ct := ⟨hx20, Reads.of_own hot20, hel20, ho, hxB, hbw20, by rw [List.length_map]; exact (unhide HGD).ln.1, by rw [List.length_map]; exact hlF⟩
                have HGD2 := hide hgd2
                clear ho hc hx20 hot20 hel20 hbw20 hgd2 hlF HGD HX19 HOT19 HEL19 HST19 HBW19
                go_wp2_with fail
                go_roundg gq
                case rel => exact ⟨k + 1, _, _, At, ct, by go_num, by omega, unhide HGD2⟩
                case measure => omega
      · obtain rfl : k = 2 := by omega
        have HB2 := hide hgd.bel
        clear hgd
        go_wp2_with fail
        go_ret
        exact ⟨rfl, unhide HB2⟩
end Go.Proofs.Ytmcpbmadjpjckaa
