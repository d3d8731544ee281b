/-
  The depths of a graph: Depths: the walk over the Go text. (IN WORK)
-/
import Derived.Test.YtmcpbmadjpjckaaGrFound
import Derived.Test.YtmcpbmadjpjckaaGrDepM
namespace Go.Proofs.Ytmcpbmadjpjckaa
open Go.RowKit

theorem FOut.parts {W W' : World} {gP n al : Nat} {adj : Nat → List Nat} {part : Nat → Nat} (h : FOut W W' gP n adj part al) : Parts n adj part al := ⟨h.lt, h.le, h.same, h.aln⟩
/-- One element appended, which stands in a block of its own, in a region that draws. -/
theorem run_appn {P : Program} (w : World) {t e : TypeId} {s bytes : Nat} (E : ElemOf P t e s bytes) (base : Nat)
    (v : Value) (n : Nat) (xs : List Value) (hown : w.ownsRow base e s v n xs)
    (news : List Value) (hl : news.length = s) (h1 : ∀ u ∈ news, u.oneCell' = true)
    (hbytes : n + 1 ≤ maxLen ∧ (n + 1) * bytes ≤ 140737488355328) (hbase : base ≤ w.heap.size) :
    ∃ v' w', (appSem #[t, t] t #[v, .slice (some ⟨w.heap.size, 0, none⟩) 1 1]).run P (w.alloc (.cells news.toArray e)).drew = .ok v' w' ∧ w'.ownsRow base e s v' (n + 1) (xs ++ news) ∧ w.grownBy w' v.ownBlock ∧ (v'.ownBlock = v.ownBlock ∨ ∃ g, v'.ownBlock = some g ∧ w.heap.size ≤ g) := by
  obtain ⟨⟨i, z, e1, e2, e3, e4, e5, e6⟩, e7⟩ := E
  have hd : (w.alloc (.cells news.toArray e)).drew.heap.size = w.heap.size + 1 := by show (w.alloc (.cells news.toArray e)).heap.size = _; simp
  obtain ⟨v', w', hrun, h2, h3, h4⟩ := run_append_any (P := P) (w.alloc (.cells news.toArray e)).drew base t t e i z s bytes e1 e2 e3 e4 e5 e6 e7 v n xs (show (w.alloc (.cells news.toArray e)).ownsRow base e s v n xs from hown.alloc _) (w.heap.size + 1) (some ⟨w.heap.size, 0, none⟩) 1 1 news (by
    refine ⟨by omega, fun _ => ⟨_, rfl, by simp, fun j u' hu => ?_⟩⟩
    have hadd : (⟨w.heap.size, 0, none⟩ : Addr).add j = ⟨w.heap.size, j, none⟩ := by unfold Addr.add; split <;> simp_all
    rw [hadd]
    exact ((Blk.new w e news.toArray).cell j).trans (by rw [← hu]; simp)) h1 hbytes.1 hbytes.2 (by omega)
  refine ⟨v', w', hrun, h2, ⟨h3.os, h3.tape, h3.output, Nat.le_trans (by omega) h3.size, fun k hk hne => (h3.block k (by omega) hne).trans (Below.heap_alloc w _ k hk)⟩, ?_⟩
  rcases h4 with h4 | h4
  · exact .inl h4
  · exact .inr ⟨_, h4, by omega⟩
theorem Blk.set_tab {W : World} {g n : Nat} {t : TypeId} {f f' : Nat → Value} (h : Blk W g t (tab n f)) (p : Nat) (v : Value) (he : ∀ u, f' u = upf f p v u) : Blk (W.setCell ⟨g, p, none⟩ v) g t (tab n f') := by
  have h2 := h.set_ p v
  rw [tab_set] at h2
  rw [tab_congr he]
  exact h2
theorem elem_edge : ElemOf Try.prog 27 41 3 24 := .mk' (.agg #[.int .i64 0, .int .i64 0, .int .i64 0]) Try.underlying27 (by kernel_rfl) rfl (by omega)
theorem make_down (w : World) (L : Nat) (hL : L ≤ 2097152) : (Instr.makeSlice 57 (.int .i64 (L : Int)) (.int .i64 (L : Int))).run Try.prog w = .ok (.slice (some ⟨w.heap.size, 0, none⟩) L L) (w.alloc (.cells (tab L fun _ => .slice none 0 0) 27)) :=
  make_tab (bytes := 24) Try.underlying57 (by kernel_rfl) rfl w L hL (by omega)
theorem build_edge (x y z : Int) (W : World) : (Instr.build 41 #[(0, .int .i64 x), (1, .int .i64 y), (2, .int .i64 z)]).run Try.prog W = .ok (.agg #[.int .i64 x, .int .i64 y, .int .i64 z]) W :=
  run_build W _ _ _ (by kernel_rfl)
/-- What Depths answers. -/
def DepOut (W : World) (n : Int) (E : List (Int × Int × Int)) (e : Ending) (W' : World) : Prop :=
  Below W.heap.size W W' ∧ ((chkS n E ≠ 0 ∧ e = .returned (.tuple #[.slice none 0 0, .int .i64 (chkS n E)])) ∨ (chkS n E = 0 ∧ ∃ (N : Nat) (part : Nat → Nat) (al : Nat), n = (N : Int) ∧ Parts N (adjOf E false) part al ∧
    (((∃ e ∈ E, part e.1.toNat = part e.2.1.toNat ∧ 0 < e.2.2) ∧ e = .returned (.tuple #[.slice none 0 0, .int .i64 100])) ∨
     ((∀ e ∈ E, part e.1.toNat = part e.2.1.toNat → e.2.2.toNat = 0) ∧ ∃ g, e = .returned (.tuple #[.slice (some ⟨g, 0, none⟩) N N, .int .i64 0]) ∧ W.heap.size ≤ g ∧ Blk W' g 3 (tab N fun u => iv (dps (downOf part E) al (part u)))))))

/-- The edges that lead down, by parts, in memory. -/
abbrev DownS (W : World) (gG al : Nat) (part : Nat → Nat) (E : List (Int × Int × Int)) (V : Nat → Value) : Prop := RowsS W gG (gG + 1) al 27 41 3 V (fun u => (downOf part E u).length) (fun u => ecells (downOf part E u))
attribute [local go_sem ↓] appSem_eq in
set_option maxRecDepth 100000 in
set_option maxHeartbeats 4000000 in
theorem depths_any (W : World) (n : Int) (A : Option Addr) (m cap B0 : Nat) (E : List (Int × Int × Int)) (hr : Reads W B0 3 A m (ecells E)) (hB0 : B0 ≤ W.heap.size) (hm : m ≤ 140737488355328) :
    Calls Try.prog 10 #[.int .i64 n, .slice A m cap] W (DepOut W n E) := by
  have hC := hide (check_any W n A m cap B0 E hr hB0 hm)
  have hlen : E.length = m := by have := hr.1; rw [ecells_len] at this; omega
  have HL := Lib.hid hlen
  obtain ⟨c, hc⟩ : ∃ c, chkS n E = c := ⟨_, rfl⟩
  rw [hc] at hC
  have HR := hide hr
  have HC := Lib.hid hc
  clear hr hlen hc
  have hbuild := build_edge
  go_enter Try.func10, Try.ntmps10
  go_wp2_with fail
  refine (unhide hC).mono ?_
  rintro e w1 ⟨rfl, hb1⟩
  have HB1 := hide hb1
  clear hb1 hC
  by_cases h0 : c = 0
  · subst h0
    obtain ⟨g1, g2, g3, hE⟩ := chk_ok HC.out
    obtain ⟨N, rfl⟩ := Int.eq_ofNat_of_zero_le g3
    have hF := hide (found_any w1 A m cap N B0 E ((unhide HR).below ((unhide HB1).mono hB0)) (Nat.le_trans hB0 (unhide HB1).size) (by omega) (by rw [← HL.out]; exact g2) (fun e he => by
      have h : 0 ≤ e.1 ∧ e.1 < N ∧ 0 ≤ e.2.1 ∧ e.2.1 < N ∧ 0 ≤ e.2.2 ∧ e.2.2 ≤ 1048576 := of_decide_eq_true (hE e he)
      exact ⟨h.1, h.2.1, h.2.2.1, h.2.2.2.1⟩))
    have HE := hide hE
    have HG := hide (And.intro g1 g2)
    clear hE g1 g2 g3
    go_wp2_with fail
    refine (unhide hF).mono ?_
    rintro e w2 ⟨gP, part, al, rfl, hfo⟩
    have haln := hfo.aln
    have hN : N ≤ 65536 := by have := (unhide HG).1; omega
    have hmk := fun w => make_down w al (by omega)
    have hmk2 := fun w => make_ints w al (by omega)
    have hmk3 := fun w => make_ints w N (by omega)
    have hm2 : m ≤ 1048576 := by rw [← HL.out]; exact (unhide HG).2
    have HFO := hide hfo
    have HBB := hide (show Below W.heap.size W w2 from (unhide HB1).trans (hfo.bel.mono (unhide HB1).size))
    clear hfo hF
    simp only [iv]
    go_wp2_with fail
    obtain ⟨gG, hgG⟩ : ∃ g, w2.heap.size = g := ⟨_, rfl⟩
    obtain ⟨W3, hW3⟩ : ∃ W3, w2.alloc (.cells (tab al fun _ => .slice none 0 0) 27) = W3 := ⟨_, rfl⟩
    have hb3 : Below w2.heap.size w2 W3 := by rw [← hW3]; exact (Below.refl _ _).alloc (Nat.le_refl _) _
    have hs3 : DownS W3 gG al part (E.take 0) (fun _ => .slice none 0 0) := by
      refine ⟨?_, fun u _ => ?_, fun u v _ _ _ b e => by cases e⟩
      · rw [← hW3, ← hgG]; exact Blk.new _ _ _
      · exact ⟨rfl, .inl ⟨rfl, rfl⟩⟩
    rw [hW3]
    have HS3 := hide hs3
    have HB3 := hide hb3
    have HGG := Lib.hid hgG
    rw [hgG]
    clear hW3 hs3 hb3 hgG hmk
    go_loopg [36] m (fun q t W' => ∃ (k : Nat) (V : Nat → Value), t = .int .i64 (k : Int) ∧ k + q = m ∧ DownS W' gG al part (E.take k) V ∧ Below w2.heap.size w2 W' ∧ gG < W'.heap.size ∧ ∀ e ∈ E.take k, part e.1.toNat = part e.2.1.toNat → e.2.2.toNat = 0)
    case atStart => exact ⟨0, _, rfl, by omega, unhide HS3, unhide HB3, (unhide HS3).blk.lt, by simp⟩
    case round =>
      obtain ⟨k, V, rfl, hkq, hs, hb, hgl, hno⟩ := hrel
      clear HS3 HB3
      have hk0 : (0 : Int) ≤ (k : Int) := by omega
      by_cases hk : k < m
      · have hbw : Below W.heap.size W wr := (unhide HBB).trans (hb.mono (unhide HBB).size)
        obtain ⟨b, off, f, t, g, rfl, hbB, he, c1, c2, c3⟩ := ((unhide HR).below (hbw.mono hB0)).edge hk
        have hkm : (k : Int) < (m : Int) := by omega
        obtain ⟨gq, rfl⟩ : ∃ q, gk = q + 1 := ⟨gk - 1, by omega⟩
        obtain ⟨F, T, WT, he2, hFN, hTN, hWT⟩ := okE_parts (unhide HE _ (List.mem_of_getElem? he))
        injection he2 with e1 e2
        injection e2 with e2 e3
        subst e1
        subst e2
        subst e3
        obtain ⟨x, hx⟩ : ∃ x, wr.heap.size = x := ⟨_, rfl⟩
        obtain ⟨W2, hW2⟩ : ∃ W2, wr.alloc (.cells #[.int .i64 (F : Int), .int .i64 (T : Int), .int .i64 (WT : Int)] 41) = W2 := ⟨_, rfl⟩
        have hb2 : Below wr.heap.size wr W2 := by rw [← hW2]; exact (Below.refl _ _).alloc (Nat.le_refl _) _
        have hx2 : Blk W2 x 41 #[.int .i64 (F : Int), .int .i64 (T : Int), .int .i64 (WT : Int)] := by rw [← hW2, ← hx]; exact Blk.new _ _ _
        have hs2 := hs.below hb2
        have hb4 := hb.trans (hb2.mono hb.size)
        have hz2 := hb2.size
        have hxl := hx2.lt
        rw [hx] at hz2
        have hsnoc : E.take (k + 1) = E.take k ++ [((F : Int), (T : Int), (WT : Int))] := by rw [List.take_add_one, he, Option.toList_some]
        obtain ⟨pa, hpa⟩ : ∃ a, part F = a := ⟨_, rfl⟩
        obtain ⟨pb, hpb⟩ : ∃ b, part T = b := ⟨_, rfl⟩
        have hpal : pa < al := by rw [← hpa]; exact (unhide HFO).lt F hFN
        have hbl := (unhide HFO).blk.below hb4 (unhide HFO).blk.lt
        have d0 : W2.cell? ⟨x, 0, none⟩ = some (.int .i64 (F : Int)) := hx2.cell 0
        have d1 : W2.cell? ⟨x, 1, none⟩ = some (.int .i64 (T : Int)) := hx2.cell 1
        have d2 : W2.cell? ⟨x, 2, none⟩ = some (.int .i64 (WT : Int)) := hx2.cell 2
        have p0 : W2.cell? ⟨gP, F, none⟩ = some (.int .i64 (pa : Int)) := by rw [← hpa]; exact (hbl.cell F).trans (tab_at _ hFN)
        have p1 : W2.cell? ⟨gP, T, none⟩ = some (.int .i64 (pb : Int)) := by rw [← hpb]; exact (hbl.cell T).trans (tab_at _ hTN)
        have hF0 : (0 : Int) ≤ (F : Int) := by omega
        have hT0 : (0 : Int) ≤ (T : Int) := by omega
        have hFI : (F : Int) < (N : Int) := by omega
        have hTI : (T : Int) < (N : Int) := by omega
        have HSN := Lib.hid hsnoc
        have HMEM := hide (List.mem_of_getElem? he)
        have HPA := Lib.hid hpa
        have HPB := Lib.hid hpb
        have HS := hide hs2
        have HB := hide hb4
        have HNO := hide hno
        have hvl : ∀ u, u < al → ∀ b, (V u).ownBlock = some b → b < x := fun u hu b e => hx ▸ ((hs.own u hu).lt b e).2
        have HVL := hide hvl
        have hxg : gG < x := hx ▸ hgl
        have hbx := hide (show Below W.heap.size W W2 from hbw.trans (hb2.mono hbw.size))
        clear hs hb hno he hb2 hx2 hs2 hb4 hbw hsnoc hpa hpb hbl hvl hgl
        by_cases hab : pa = pb
        · subst hab
          by_cases hw : 0 < WT
          · have hwI : (0 : Int) < (WT : Int) := by omega
            go_wp2_with fail
            go_quiet (fail)
            go_wp2_with fail
            go_ret2
            exact ⟨below_drewN (unhide hbx) _, .inr ⟨HC.out, N, part, al, rfl, (unhide HFO).parts, .inl ⟨⟨_, unhide HMEM, by simp only [Int.toNat_natCast]; rw [HPA.out, HPB.out], by show (0 : Int) < _; omega⟩, rfl⟩⟩⟩
          · have hwI : ¬ (0 : Int) < (WT : Int) := by omega
            go_wp2_with fail
            go_quiet (fail)
            rename_i nq
            go_wp2_with fail
            go_roundg gq
            case rel =>
              refine ⟨k + 1, V, by go_num, by omega, ?_, below_drewN (unhide HB) nq, by show gG < W2.heap.size; omega, fun e he hp => ?_⟩
              · rw [HSN.out]
                have h := unhide HS
                refine RowsS.congr (V' := V) (⟨h.blk.drewN nq, fun u hu => h.own u hu, h.apart⟩ : DownS (W2.drewN nq) gG al part (E.take k) V) (fun _ => rfl) (fun u => ?_) (fun u => ?_)
                all_goals
                  rw [downOf_snoc, if_neg (by simp only [Int.toNat_natCast]; rw [HPA.out, HPB.out]; omega), List.append_nil]
              · rw [HSN.out, List.mem_append, List.mem_singleton] at he
                rcases he with he | rfl
                · exact unhide HNO e he hp
                · simp only [Int.toNat_natCast]; omega
            case measure => omega
        · have habI : ¬ (pa : Int) = (pb : Int) := by omega
          obtain ⟨Ax, cx, hvx⟩ := ((unhide HS).own pa hpal).shape
          obtain ⟨La, hLa⟩ : ∃ L, (downOf part (E.take k) pa).length = L := ⟨_, rfl⟩
          have hal : La ≤ k := by rw [← hLa]; exact Nat.le_trans (downOf_len _ _ _) (by simp; omega)
          rw [hLa] at hvx
          have ho2 := (unhide HS).own pa hpal
          rw [hLa, hvx] at ho2
          have c0 : W2.cell? ⟨gG, pa, none⟩ = some (.slice Ax La cx) := by rw [← hvx]; exact ((unhide HS).blk.cell pa).trans (tab_at _ hpal)
          have f0 : W2.frozen? ⟨gG, pa, none⟩ = false := (unhide HS).blk.frozen pa
          have hp0 : (0 : Int) ≤ (pa : Int) := by omega
          have hpI : (pa : Int) < (al : Int) := by omega
          have HO := hide ho2
          have HVX := Lib.hid hvx
          have HLA := Lib.hid hLa
          clear ho2 hvx hLa
          go_wp2_with fail
          go_quiet (fail)
          rename_i nq
          go_wp2_with fail
          clear c1 c2 c3 hW2
          obtain ⟨Wa, hWa⟩ : ∃ w, W2.drewN nq = w := ⟨_, rfl⟩
          rw [hWa]
          have HO1 := hide (hWa ▸ unhide HO : Wa.ownsRow (gG + 1) 41 3 (.slice Ax La cx) La (ecells (downOf part (E.take k) pa)))
          have HS1 : Hid (DownS Wa gG al part (E.take k) V) := by
            have h := unhide HS
            show DownS Wa gG al part (E.take k) V
            rw [← hWa]
            exact ⟨h.blk.drewN nq, fun u hu => h.own u hu, h.apart⟩
          have HB1 : Hid (Below w2.heap.size w2 Wa) := by show Below _ _ _; rw [← hWa]; exact below_drewN (unhide HB) nq
          have b0 : Wa.cell? ⟨gG, pa, none⟩ = some (.slice Ax La cx) := by rw [← hWa]; exact c0
          have n0 : Wa.frozen? ⟨gG, pa, none⟩ = false := by rw [← hWa]; exact f0
          have b2 : Wa.cell? ⟨x, 2, none⟩ = some (.int .i64 (WT : Int)) := by rw [← hWa]; exact d2
          have hzz : W2.heap.size ≤ Wa.heap.size := by rw [← hWa]; exact Nat.le_refl _
          clear hWa c0 f0 d0 d1 d2 p0 p1 HO HS HB
          have hCAP : La + 1 ≤ maxLen ∧ (La + 1) * 24 ≤ 140737488355328 := cap24 (by omega)
          have HCAP := Lib.hid hCAP
          clear hCAP
          obtain ⟨v4, w4, hrun, ho4, hg4, hr4⟩ := run_appn (P := Try.prog) Wa elem_edge (gG + 1) (.slice Ax La cx) La (ecells (downOf part (E.take k) pa)) (unhide HO1) [.int .i64 (pa : Int), .int .i64 (pb : Int), .int .i64 (WT : Int)] rfl (by intro u hu; simp at hu; rcases hu with rfl | rfl | rfl <;> rfl) HCAP.out (by omega)
          obtain ⟨A4, c4, rfl⟩ := ho4.shape
          have hgW : gG < Wa.heap.size := by omega
          have hng : some gG ≠ Value.ownBlock (.slice Ax La cx) := fun e => by have := ((unhide HO1).lt _ e.symm).1; omega
          have hnx : some x ≠ Value.ownBlock (.slice Ax La cx) := fun e => by have := unhide HVL pa hpal x (HVX.out ▸ e.symm); omega
          have e0 : w4.cell? ⟨gG, pa, none⟩ = some (.slice Ax La cx) := hg4.cell b0 hng
          have g0 : w4.frozen? ⟨gG, pa, none⟩ = false := (hg4.frozen_far ⟨gG, pa, none⟩ hgW hng).trans n0
          have k0 : (Wa.alloc (.cells #[.int .i64 (pa : Int), .int .i64 (pb : Int), .int .i64 (WT : Int)] 41)).drew.cell? ⟨gG, pa, none⟩ = some (.slice Ax La cx) := (World.cell?_alloc_lt Wa _ ⟨gG, pa, none⟩ hgW).trans b0
          have k2 : (Wa.alloc (.cells #[.int .i64 (pa : Int), .int .i64 (pb : Int), .int .i64 (WT : Int)] 41)).drew.cell? ⟨x, 2, none⟩ = some (.int .i64 (WT : Int)) := (World.cell?_alloc_lt Wa _ ⟨x, 2, none⟩ (by show x < Wa.heap.size; omega)).trans b2
          have HO4 := hide ho4
          have HG4 := hide hg4
          have HR4 := hide hr4
          clear ho4 hg4 hr4
          have hB4 := hide (show Below w2.heap.size w2 (w4.setCell ⟨gG, pa, none⟩ (.slice A4 (La + 1) c4)) from ((unhide HB1).grown (unhide HG4) (unhide HB1).size (fun g e => by have := ((unhide HO1).lt g e).1; have := HGG.out; omega)).setCell (by have := HGG.out; show w2.heap.size ≤ gG; omega) _)
          have hS4 := hide ((unhide HS1).grow (s := 3) (news := [.int .i64 (pa : Int), .int .i64 (pb : Int), .int .i64 (WT : Int)]) hpal (by omega) HVX.out (by show w4.ownsRow _ _ _ _ ((downOf part (E.take k) pa).length + 1) _; rw [HLA.out]; exact unhide HO4) (unhide HG4) (unhide HR4))
          have hz4 := (unhide HG4).size
          clear HO1 HS1 HB1 HO4 HG4 HR4 HCAP hng hnx
          go_region
          go_wp2_with fail
          go_roundg gq
          case rel =>
            refine ⟨k + 1, _, by go_num, by omega, (unhide hS4).congr (fun _ => rfl) (fun u => ?_) (fun u => ?_), unhide hB4, by show gG < (w4.setCell _ _).heap.size; rw [show (w4.setCell ⟨gG, pa, none⟩ (.slice A4 (La + 1) c4)).heap.size = w4.heap.size by simp [World.setCell]]; omega, fun e he hp => ?_⟩
            · rw [HSN.out, downOf_snoc, List.length_append]
              simp only [Int.toNat_natCast]
              rw [HPA.out, HPB.out]
              by_cases e : u = pa
              · subst e; rw [upf_same, if_pos ⟨rfl, fun h => hab h.symm⟩]; rfl
              · rw [upf_ne _ _ e, if_neg (fun h => e h.1.symm)]; rfl
            · rw [HSN.out, downOf_snoc]
              simp only [Int.toNat_natCast]
              rw [HPA.out, HPB.out]
              by_cases e : u = pa
              · subst e; rw [upf_same, if_pos ⟨rfl, fun h => hab h.symm⟩]; simp [ecells]
              · rw [upf_ne _ _ e, if_neg (fun h => e h.1.symm), List.append_nil]
            · rw [HSN.out, List.mem_append, List.mem_singleton] at he
              rcases he with he | rfl
              · exact unhide HNO e he hp
              · simp only [Int.toNat_natCast] at hp; rw [HPA.out, HPB.out] at hp; exact absurd hp hab
          case measure => omega
      · obtain rfl : k = m := by omega
        obtain ⟨wo, rfl⟩ : ∃ wo : World, wo = wr := ⟨_, rfl⟩
        have hel : E.take k = E := List.take_of_length_le (by have := HL.out; omega)
        rw [hel] at hs hno
        have HS := hide hs
        have HB := hide hb
        have HNO := hide hno
        obtain ⟨gD, hgD⟩ : ∃ g, wo.heap.size = g := ⟨_, rfl⟩
        obtain ⟨W5, hW5⟩ : ∃ W5, wo.alloc (.cells (tab al fun _ => .int .i64 0) 3) = W5 := ⟨_, rfl⟩
        have hb5 : Below wo.heap.size wo W5 := by rw [← hW5]; exact (Below.refl _ _).alloc (Nat.le_refl _) _
        have hd5 : Blk W5 gD 3 (tab al fun u => iv (dps (downOf part E) 0 u)) := by rw [← hW5, ← hgD]; exact Blk.new _ _ _
        have hc5 : Chg W5 W5 (fun i => i = gD) := Chg.refl _ _
        have HD5 := hide hd5
        have HB5 := hide hb5
        have HGD := Lib.hid hgD
        clear hs hb hno hb5 hd5 hel hgl
        go_wp2_with fail
        clear hW5 hgD
        go_loopg [76] al (fun q t W' => ∃ p : Nat, t = .int .i64 (p : Int) ∧ p + q = al ∧ Blk W' gD 3 (tab al fun u => iv (dps (downOf part E) p u)) ∧ Chg W5 W' (fun i => i = gD))
        case atStart => exact ⟨0, rfl, by omega, unhide HD5, hc5⟩
        case round =>
          obtain ⟨p, rfl, hpq, hd, hc⟩ := hrel
          clear HD5 hc5
          have hp0 : (0 : Int) ≤ (p : Int) := by omega
          have hbo : Below wo.heap.size wo wr := (unhide HB5).trans (hc.below (unhide HB5).size (fun i hi e => by have := HGD.out; omega))
          by_cases hp : p < al
          · obtain ⟨gq, rfl⟩ : ∃ q, gk = q + 1 := ⟨gk - 1, by omega⟩
            have hpI : (p : Int) < (al : Int) := by omega
            have hsr := (unhide HS).below hbo
            obtain ⟨dn, hdn⟩ : ∃ d, downOf part E p = d := ⟨_, rfl⟩
            obtain ⟨D0, hD0⟩ : ∃ d, dps (downOf part E) p = d := ⟨_, rfl⟩
            have ho := hsr.own p hp
            obtain ⟨Ax, cx, hvx⟩ := ho.shape
            rw [hdn] at ho hvx
            rw [hvx] at ho
            obtain ⟨La, hLa⟩ : ∃ L, dn.length = L := ⟨_, rfl⟩
            rw [hLa] at ho hvx
            have how := (unhide HS).own p hp
            rw [hdn, hvx, hLa] at how
            have hrd := Reads.of_own how
            have c0 : wr.cell? ⟨gG, p, none⟩ = some (.slice Ax La cx) := by rw [← hvx]; exact (hsr.blk.cell p).trans (tab_at _ hp)
            have hDb : ∀ q, q < p → D0 q ≤ p * 1048576 := fun q hq => by rw [← hD0]; exact Nat.le_trans (dps_bound _ (down_ok (unhide HFO).parts (unhide HE)) p q) (Nat.mul_le_mul_right _ (by omega))
            have hDp : D0 p = 0 := by rw [← hD0]; exact dps_zero _ (Nat.le_refl _)
            have hok : ∀ e ∈ dn, ∃ q wt : Nat, e = ((p : Int), (q : Int), (wt : Int)) ∧ q < p ∧ wt ≤ 1048576 := fun e he => by
              rw [← hdn] at he
              have h1 := down_ok (unhide HFO).parts (unhide HE) p e he
              obtain ⟨e', he', h2, h3, rfl⟩ := downOf_mem he
              obtain ⟨f, t, g, rfl, _⟩ := okE_parts (unhide HE e' he')
              exact ⟨part t, g, by simp, by simpa using h1.1, by simpa using h1.2⟩
            rw [hD0] at hd
            have HD0 := Lib.hid hD0
            have HDN := Lib.hid hdn
            have HLA := Lib.hid hLa
            have HRD := hide hrd
            have HDB := hide hDb
            have HDP := Lib.hid hDp
            have HOK := hide hok
            have HD := hide hd
            have HC2 := hide hc
            have hwr := wr
            obtain ⟨w1', hw1'⟩ : ∃ w : World, w = wr := ⟨_, rfl⟩
            subst hw1'
            have hgDl : gD < w1'.heap.size := hd.lt
            have hLal : La ≤ 1048576 := by rw [← hLa, ← hdn]; exact Nat.le_trans (downOf_len _ _ _) (by have := HL.out; omega)
            clear hsr ho how hvx hrd hDb hDp hok hd hc hdn hD0 hLa
            go_wp2_with fail
            go_loopg [84] La (fun q t W' => ∃ j : Nat, t = .int .i64 (j : Int) ∧ j + q = La ∧ Blk W' gD 3 (tab al fun u => iv (upf D0 p (dmax D0 0 (dn.take j)) u)) ∧ Chg w1' W' (fun i => i = gD))
            case atStart => exact ⟨0, rfl, by omega, by
              have h := unhide HD
              rw [show (tab al fun u => iv (upf D0 p (dmax D0 0 (dn.take 0)) u)) = tab al fun u => iv (D0 u) from tab_congr fun v => by
                unfold upf
                split
                · rename_i e; subst e; rw [HDP.out]; rfl
                · rfl]
              exact h, Chg.refl _ _⟩
            case round =>
              obtain ⟨j, rfl, hjq, hd, hc⟩ := hrel
              have hj0 : (0 : Int) ≤ (j : Int) := by omega
              by_cases hj : j < La
              · obtain ⟨gq2, rfl⟩ : ∃ q, gk = q + 1 := ⟨gk - 1, by omega⟩
                have hjI : (j : Int) < (La : Int) := by omega
                have hcc := (unhide HC2).trans hc (fun _ _ h => h)
                have hbo2 : Below wo.heap.size wo wr := (unhide HB5).trans (hcc.below (unhide HB5).size (fun i hi e => by have := HGD.out; omega))
                obtain ⟨b, off, f, t, g, rfl, hbB, he, c1, c2, c3⟩ := ((unhide HRD).below hbo2).edge hj
                obtain ⟨q, wt, he2, hqp, hwt⟩ := unhide HOK _ (List.mem_of_getElem? he)
                injection he2 with e1 e2
                injection e2 with e2 e3
                subst e1
                subst e2
                subst e3
                obtain ⟨x, hx⟩ : ∃ x, wr.heap.size = x := ⟨_, rfl⟩
                obtain ⟨W2, hW2⟩ : ∃ W2, wr.alloc (.cells #[.int .i64 (p : Int), .int .i64 (q : Int), .int .i64 (wt : Int)] 41) = W2 := ⟨_, rfl⟩
                have hb2 : Below wr.heap.size wr W2 := by rw [← hW2]; exact (Below.refl _ _).alloc (Nat.le_refl _) _
                have hx2 : Blk W2 x 41 #[.int .i64 (p : Int), .int .i64 (q : Int), .int .i64 (wt : Int)] := by rw [← hW2, ← hx]; exact Blk.new _ _ _
                obtain ⟨cu, hcu⟩ : ∃ c, dmax D0 0 (dn.take j) = c := ⟨_, rfl⟩
                rw [hcu] at hd
                have hd2 := hd.below hb2 hd.lt
                obtain ⟨dq, hdq⟩ : ∃ d, D0 q = d := ⟨_, rfl⟩
                have hcub : cu ≤ p * 1048576 + 1048576 := by
                  rw [← hcu]
                  refine dmax_le (by omega) (fun e he => ?_)
                  obtain ⟨q', wt', rfl, h1, h2⟩ := unhide HOK e (List.mem_of_mem_take he)
                  have := unhide HDB q' h1
                  simp only [Int.toNat_natCast]
                  omega
                have hdqb : dq ≤ p * 1048576 := hdq ▸ unhide HDB q hqp
                have hsn : dmax D0 0 (dn.take (j + 1)) = max cu (dq + wt) := by
                  rw [List.take_add_one, he, Option.toList_some, dmax_snoc, hcu]
                  simp only [Int.toNat_natCast]
                  rw [hdq]
                have hpal : p ≤ 65536 := by omega
                have d1 : W2.cell? ⟨x, 1, none⟩ = some (.int .i64 (q : Int)) := hx2.cell 1
                have d2 : W2.cell? ⟨x, 2, none⟩ = some (.int .i64 (wt : Int)) := hx2.cell 2
                have p0 : W2.cell? ⟨gD, p, none⟩ = some (.int .i64 (cu : Int)) := by rw [hd2.cell p, tab_at _ hp, upf_same]; rfl
                have p1 : W2.cell? ⟨gD, q, none⟩ = some (.int .i64 (dq : Int)) := by rw [hd2.cell q, tab_at _ (by omega), upf_ne _ _ (by omega), hdq]; rfl
                have pf : W2.frozen? ⟨gD, p, none⟩ = false := hd2.frozen p
                have hq0 : (0 : Int) ≤ (q : Int) := by omega
                have hqI : (q : Int) < (al : Int) := by omega
                have hs1 : (0 : Int) ≤ (dq : Int) + (wt : Int) := by omega
                have hs2 : (dq : Int) + (wt : Int) ≤ 1099511627776 := by omega
                have HD2 := hide hd2
                have HC3 := hide (hc.bel hb2)
                have HSN := Lib.hid hsn
                clear hcc hbo2 he hb2 hx2 hd hd2 hc hcu hdq hsn hcub hdqb
                by_cases hmx : cu ≤ dq + wt
                case' pos => have hmI : (cu : Int) ≤ (dq : Int) + (wt : Int) := by omega
                case' pos => have hmM : max (cu : Int) ((dq : Int) + (wt : Int)) = (dq : Int) + (wt : Int) := by omega
                case' pos => have hmN : max cu (dq + wt) = dq + wt := by omega
                case' neg => have hmI : ¬ (cu : Int) ≤ (dq : Int) + (wt : Int) := by omega
                case' neg => have hmM : max (cu : Int) ((dq : Int) + (wt : Int)) = (cu : Int) := by omega
                case' neg => have hmN : max cu (dq + wt) = cu := by omega
                all_goals
                  rw [hmN] at HSN
                  clear hmN
                  go_wp2_with fail
                  refine region_tail 16 (by kernel_rfl) (by kernel_rfl) fun V2 hV => ?_
                  simp only [List.take_succ_cons, List.take_zero, List.drop_succ_cons, List.drop_zero]
                  have hVk : ∀ p, V2.cell? p = W2.cell? p := fun p => by rw [← hV]; rfl
                  have hVf : ∀ p, V2.frozen? p = W2.frozen? p := fun p => by rw [← hV]; rfl
                  rw [← hVk] at d1 d2 p0 p1
                  rw [← hVf] at pf
                  have HDV : Hid (Blk V2 gD 3 (tab al fun u => iv (upf D0 p cu u))) := by show Blk _ _ _ _; rw [← hV]; exact unhide HD2
                  have HCV : Hid (Chg w1' V2 (fun i => i = gD)) := by show Chg _ _ _; rw [← hV]; exact (unhide HC3).drew
                  clear hVk hVf hV HD2 HC3 hW2
                  repeat still_step
                  refine wpStill_nil ?_
                  go_wp2_with fail
                  all_goals
                    go_roundg gq2
                    case rel =>
                      refine ⟨j + 1, by go_num, by omega, ?_, (unhide HCV).set_ ⟨gD, p, none⟩ _ (fun _ => rfl)⟩
                      rw [HSN.out]
                      exact (unhide HDV).set_tab p _ (fun v => by
                        by_cases e : v = p
                        · subst e; rw [upf_same, upf_same]; first | rfl | (show Value.int IntKind.i64 _ = Value.int IntKind.i64 _; congr 1; omega)
                        · rw [upf_ne _ _ e, upf_ne _ _ e, upf_ne _ _ e])
                    case measure => omega
              · obtain rfl : j = La := by omega
                rw [List.take_of_length_le (by have := HLA.out; omega)] at hd
                have hD1 : (tab al fun u => iv (upf D0 p (dmax D0 0 dn) u)) = tab al fun u => iv (dps (downOf part E) (p + 1) u) := by
                  rw [← HD0.out, ← HDN.out]; rfl
                rw [hD1] at hd
                have HDD := hide hd
                have HCC := hide ((unhide HC2).trans hc (fun _ _ h => h))
                clear hd hc hD1
                go_wp2_with fail
                go_roundg gq
                case rel => exact ⟨p + 1, by go_num, by omega, unhide HDD, unhide HCC⟩
                case measure => omega
          · obtain rfl : p = al := by omega
            obtain ⟨w8, rfl⟩ : ∃ w : World, w = wr := ⟨_, rfl⟩
            obtain ⟨gO, hgO⟩ : ∃ g, w8.heap.size = g := ⟨_, rfl⟩
            obtain ⟨W9, hW9⟩ : ∃ W9, w8.alloc (.cells (tab N fun _ => .int .i64 0) 3) = W9 := ⟨_, rfl⟩
            have hb9 : Below w8.heap.size w8 W9 := by rw [← hW9]; exact (Below.refl _ _).alloc (Nat.le_refl _) _
            obtain ⟨DD, hDD⟩ : ∃ D, dps (downOf part E) p = D := ⟨_, rfl⟩
            rw [hDD] at hd
            have hd9 := hd.below hb9 hd.lt
            have hp9 := (unhide HFO).blk.below ((unhide HB).trans ((hbo.mono (unhide HB).size).trans (hb9.mono (Nat.le_trans (unhide HB).size hbo.size)))) (unhide HFO).blk.lt
            have ho9 : Blk W9 gO 3 (tab N fun u => if u < 0 then iv (DD (part u)) else .int .i64 0) := by
              rw [← hW9, ← hgO]
              simp only [Nat.not_lt_zero, if_false]
              exact Blk.new _ _ _
            have hgDO : gD ≠ gO := by have := hd.lt; omega
            have hgPO : gP ≠ gO := by
              have h1 := (unhide HFO).blk.lt
              have h2 := (unhide HB).size
              have h3 := hbo.size
              omega
            have hwd : Below W.heap.size W W9 := (unhide HBB).trans (((unhide HB).trans ((hbo.mono (unhide HB).size).trans (hb9.mono (Nat.le_trans (unhide HB).size hbo.size)))).mono (unhide HBB).size)
            have hgW : W.heap.size ≤ gO := by
              have h1 := (unhide HBB).size
              have h2 := (unhide HB).size
              have h3 := hbo.size
              omega
            have HD9 := hide hd9
            have HP9 := hide hp9
            have HO9 := hide ho9
            have HWD := hide hwd
            have HGO := Lib.hid hgO
            have HDD := Lib.hid hDD
            clear hb9 hd hd9 hp9 ho9 hwd hc hbo HB5 HS hDD
            go_wp2_with fail
            clear hW9 hgO
            go_loopg [110] N (fun q t W' => ∃ k : Nat, t = .int .i64 (k : Int) ∧ k + q = N ∧ Blk W' gO 3 (tab N fun u => if u < k then iv (DD (part u)) else .int .i64 0) ∧ Chg W9 W' (fun i => i = gO))
            case atStart => exact ⟨0, rfl, by omega, unhide HO9, Chg.refl _ _⟩
            case round =>
              obtain ⟨k, rfl, hkq, ho, hc⟩ := hrel
              have hk0 : (0 : Int) ≤ (k : Int) := by omega
              by_cases hk : k < N
              · have hkI : (k : Int) < (N : Int) := by omega
                obtain ⟨gq, rfl⟩ : ∃ q, gk = q + 1 := ⟨gk - 1, by omega⟩
                obtain ⟨pa, hpa⟩ : ∃ a, part k = a := ⟨_, rfl⟩
                have hpal : pa < p := by rw [← hpa]; exact (unhide HFO).lt k hk
                obtain ⟨da, hda⟩ : ∃ a, DD pa = a := ⟨_, rfl⟩
                have x1 : wr.cell? ⟨gP, k, none⟩ = some (.int .i64 (pa : Int)) := by rw [← hpa]; exact ((hc.blk (unhide HP9) hgPO).cell k).trans (tab_at _ hk)
                have x2 : wr.cell? ⟨gD, pa, none⟩ = some (.int .i64 (da : Int)) := by rw [← hda]; exact ((hc.blk (unhide HD9) hgDO).cell pa).trans (tab_at _ hpal)
                have x3 : wr.cell? ⟨gO, k, none⟩ = some (.int .i64 0) := by rw [ho.cell k, tab_at _ hk, if_neg (by omega)]
                have x4 : wr.frozen? ⟨gO, k, none⟩ = false := ho.frozen k
                have y1 : (0 : Int) ≤ (pa : Int) := by omega
                have y2 : (pa : Int) < (p : Int) := by omega
                have HO := hide ho
                have HC4 := hide hc
                have HDA := Lib.hid hda
                have HPA := Lib.hid hpa
                clear ho hc hda hpa
                go_wp2_with fail
                go_roundg gq
                case rel =>
                  refine ⟨k + 1, by go_num, by omega, ?_, (unhide HC4).set_ ⟨gO, k, none⟩ _ (fun _ => rfl)⟩
                  exact (unhide HO).set_tab k _ (fun v => by
                    by_cases e : v = k
                    · subst e; rw [upf_same, if_pos (by omega), HPA.out, HDA.out]; rfl
                    · rw [upf_ne _ _ e]
                      by_cases e2 : v < k
                      · exact (if_pos (by omega)).trans (if_pos e2).symm
                      · exact (if_neg (by omega)).trans (if_neg e2).symm)
                case measure => omega
              · obtain rfl : k = N := by omega
                have HO := hide ho
                have HC4 := hide ((unhide HWD).trans (hc.below (unhide HWD).size (fun i hi e => by have := HGO.out; omega)))
                clear ho hc
                go_wp2_with fail
                go_ret2
                refine ⟨unhide HC4, .inr ⟨HC.out, k, part, p, rfl, (unhide HFO).parts, .inr ⟨unhide HNO, gO, rfl, hgW, ?_⟩⟩⟩
                rw [HDD.out]
                refine Eq.mp ?_ (unhide HO)
                congr 1
                unfold tab
                congr 1
                exact List.map_congr_left fun u hu => by rw [if_pos (List.mem_range.1 hu)]
  · go_wp2_with fail
    go_ret2
    exact ⟨unhide HB1, .inl ⟨by rw [HC.out]; exact h0, by rw [HC.out]; rfl⟩⟩
end Go.Proofs.Ytmcpbmadjpjckaa
