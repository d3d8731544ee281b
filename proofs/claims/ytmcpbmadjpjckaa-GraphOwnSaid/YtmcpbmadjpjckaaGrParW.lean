/-
  The parts in order: Parts: the walk over the Go text.
-/
import Derived.Test.YtmcpbmadjpjckaaGrParM
import Derived.Test.YtmcpbmadjpjckaaGrHeapQ
import Derived.Test.YtmcpbmadjpjckaaGrDep
namespace Go.Proofs.Ytmcpbmadjpjckaa
open Go.RowKit

/-- A part's first node. -/
def fstN (part : Nat → Nat) (N p : Nat) : Nat := (nds part N p).headD 0
/-- What Parts answers, where it answers. -/
structure POut (W W' : World) (N : Nat) (E : List (Int × Int × Int)) (part : Nat → Nat) (al : Nat) (os : List Nat) (v : Value) (V : Nat → Value) : Prop where
  parts : Parts N (adjOf E false) part al
  surj : ∀ p, p < al → ∃ u, u < N ∧ part u = p
  spec : PSpec part E al (fstN part N) os
  all : ∀ p, p < al → p ∈ os
  own : W'.ownsRow W.heap.size 25 1 v os.length (os.map V)
  rows : ∀ p, p < al → W'.ownsRow W.heap.size 3 1 (V p) (nds part N p).length ((nds part N p).map iv)
  apart : ∀ p q, p < al → q < al → p ≠ q → ∀ b, (V p).ownBlock = some b → (V q).ownBlock ≠ some b
def PartsOut (W : World) (n : Int) (E : List (Int × Int × Int)) (e : Ending) (W' : World) : Prop :=
  Below W.heap.size W W' ∧ ((chkS n E ≠ 0 ∧ e = .returned (.tuple #[.slice none 0 0, .int .i64 (chkS n E)])) ∨ (chkS n E = 0 ∧ ∃ (N : Nat) (part : Nat → Nat) (al : Nat) (os : List Nat) (v : Value) (V : Nat → Value), n = (N : Int) ∧ e = .returned (.tuple #[v, .int .i64 0]) ∧ POut W W' N E part al os v V))
theorem make_rows (w : World) (L : Nat) (hL : L ≤ 2097152) : (Instr.makeSlice 43 (.int .i64 (L : Int)) (.int .i64 (L : Int))).run Try.prog w = .ok (.slice (some ⟨w.heap.size, 0, none⟩) L L) (w.alloc (.cells (tab L fun _ => .slice none 0 0) 25)) :=
  make_tab (bytes := 24) Try.underlying43 (by kernel_rfl) rfl w L hL (by omega)
theorem elem_rows : ElemOf Try.prog 43 25 1 24 := .mk' (.slice none 0 0) Try.underlying43 (by kernel_rfl) rfl (by omega)
/-- The nodes by parts, in memory. -/
abbrev NdS (W : World) (g al : Nat) (part : Nat → Nat) (k : Nat) (V : Nat → Value) : Prop := RowsS W g (g + 1) al 25 3 1 V (fun p => (nds part k p).length) (fun p => (nds part k p).map iv)
abbrev BkS (W : World) (g al : Nat) (part : Nat → Nat) (E : List (Int × Int × Int)) (V : Nat → Value) : Prop := RowsS W g (g + 1) al 25 3 1 V (fun p => (bk part E p).length) (fun p => (bk part E p).map iv)

/-- What may stand next, as pairs. -/
def Rdy (fst : Nat → Nat) (lim : Nat) (os : List Nat) (w : Nat → Nat) (y : Nat × Nat) : Prop := ∃ a, a < lim ∧ a ∉ os ∧ w a = 0 ∧ y = (fst a, a)
theorem HpM.congr {W : World} {gN B n : Nat} {rv : Value} {f : Nat → Nat × Nat} {S S' : Nat × Nat → Prop} (h : HpM W gN B n rv f S) (e : ∀ y, S y ↔ S' y) : HpM W gN B n rv f S' := by
  obtain rfl : S = S' := funext fun y => propext (e y)
  exact h
theorem pig : ∀ (al n : Nat) (g : Nat → Nat), (∀ i, i < n → g i < al) → (∀ i j, i < n → j < n → g i = g j → i = j) → n ≤ al
  | 0, n, g, h, _ => by
    rcases Nat.eq_zero_or_pos n with h0 | h0
    · omega
    · have := h 0 h0; omega
  | al + 1, 0, _, _, _ => Nat.zero_le _
  | al + 1, n + 1, g, h, inj => by
    have ih := pig al n (fun i => if g i = al then g n else g i) (fun i hi => by
      show (if g i = al then g n else g i) < al
      have h1 := h i (by omega)
      have h2 := h n (by omega)
      by_cases e : g i = al
      · rw [if_pos e]
        have : g n ≠ al := fun e2 => by have := inj i n (by omega) (by omega) (by rw [e, e2]); omega
        omega
      · rw [if_neg e]; omega) (fun i j hi hj e => by
      have e : (if g i = al then g n else g i) = (if g j = al then g n else g j) := e
      by_cases a1 : g i = al
      · by_cases a2 : g j = al
        · exact inj i j (by omega) (by omega) (by rw [a1, a2])
        · rw [if_pos a1, if_neg a2] at e
          have := inj n j (by omega) (by omega) e
          omega
      · by_cases a2 : g j = al
        · rw [if_neg a1, if_pos a2] at e
          have := inj i n (by omega) (by omega) e
          omega
        · rw [if_neg a1, if_neg a2] at e
          exact inj i j (by omega) (by omega) e)
    omega
theorem Rdy.few {fst : Nat → Nat} {lim n : Nat} {os : List Nat} {w : Nat → Nat} {f : Nat → Nat × Nat} (h : Bag n f (Rdy fst lim os w)) : n ≤ lim := by
  refine pig lim n (fun i => (f i).2) (fun i hi => ?_) (fun i j hi hj e => ?_)
  · obtain ⟨a, h1, _, _, h2⟩ := (h.mem (f i)).2 ⟨i, hi, rfl⟩
    show (f i).2 < lim
    rw [h2]; exact h1
  · obtain ⟨a, _, _, _, h2⟩ := (h.mem (f i)).2 ⟨i, hi, rfl⟩
    obtain ⟨b, _, _, _, h3⟩ := (h.mem (f j)).2 ⟨j, hj, rfl⟩
    have e : (f i).2 = (f j).2 := e
    refine h.inj i j hi hj ?_
    rw [h2, h3] at e ⊢
    have e : a = b := e
    rw [e]
theorem index_pair (x y : Int) (W : World) : (Instr.index 70 (.agg #[.int .i64 x, .int .i64 y]) (.int .i64 1)).run Try.prog W = .ok (.int .i64 y) W := by kernel_rfl
theorem PSpec.len {part : Nat → Nat} {E : List (Int × Int × Int)} {al : Nat} {fst : Nat → Nat} {os : List Nat} (h : PSpec part E al fst os) : os.length ≤ al := by
  have hget : ∀ i, i < os.length → ∃ x, os[i]? = some x ∧ os.getD i 0 = x := fun i hi => ⟨os[i], List.getElem?_eq_getElem hi, by simp [List.getD, List.getElem?_eq_getElem hi]⟩
  refine pig al os.length (fun i => os.getD i 0) (fun i hi => ?_) (fun i j hi hj e => ?_)
  · obtain ⟨x, h1, h2⟩ := hget i hi
    show os.getD i 0 < al
    rw [h2]; exact h.lt x (List.mem_of_getElem? h1)
  · obtain ⟨x, h1, h2⟩ := hget i hi
    obtain ⟨y, h3, h4⟩ := hget j hj
    have e : os.getD i 0 = os.getD j 0 := e
    rw [h2, h4] at e
    have hnd := List.pairwise_iff_getElem.1 h.nodup
    rw [List.getElem?_eq_getElem hi] at h1
    rw [List.getElem?_eq_getElem hj] at h3
    injection h1 with h1
    injection h3 with h3
    rcases Nat.lt_trichotomy i j with c | c | c
    · exact absurd (by rw [h1, h3, e]) (hnd i j hi hj c)
    · exact c
    · exact absurd (by rw [h1, h3, e]) (hnd j i hj hi c)
theorem PSpec.zero {part : Nat → Nat} {E : List (Int × Int × Int)} {al : Nat} {fst : Nat → Nat} {os : List Nat} (h : PSpec part E al fst os) {a : Nat} (ha : a ∈ os) : wts part E os a = 0 := by
  obtain ⟨k, hk, rfl⟩ := List.getElem_of_mem ha
  have := wts_zero.1 (h.free k os[k] (List.getElem?_eq_getElem hk))
  exact wts_zero.2 fun e he h1 h2 => List.mem_of_mem_take (this e he h1 h2)
theorem own_own_ne {w : World} {b1 b2 n1 n2 s1 s2 : Nat} {e1 e2 : TypeId} {v1 v2 : Value} {xs ys : List Value} (h : w.ownsRow b1 e1 s1 v1 n1 xs) (k : w.ownsRow b2 e2 s2 v2 n2 ys) (hne : e1 ≠ e2) {b : Nat} (h1 : v1.ownBlock = some b) : v2.ownBlock ≠ some b := by
  rcases h.2 with ⟨rfl, _⟩ | ⟨g', cap', cur, rfl, hb, hg, _⟩
  · cases h1
  · have : g' = b := by simpa [Value.ownBlock] using h1
    subst this
    exact own_blk_ne k hg (fun e => hne e.symm)
/-- What the search for the order may turn. -/
def Co (gN gw B b : Nat) : Prop := b = gN ∨ b = gw ∨ B ≤ b
theorem RowsS.chg {W W' : World} {gG B n s : Nat} {tE e : TypeId} {V : Nat → Value} {len : Nat → Nat} {xs : Nat → List Value} {S : Nat → Prop} (h : RowsS W gG B n tE e s V len xs) (hc : Chg W W' S) (hg : ¬ S gG) (hV : ∀ u, u < n → ∀ b, (V u).ownBlock = some b → ¬ S b) : RowsS W' gG B n tE e s V len xs :=
  ⟨hc.blk h.blk hg, fun u hu => hc.own (h.own u hu) (hV u hu), h.apart⟩
attribute [local go_sem ↓] appSem_eq in
set_option maxRecDepth 100000 in
set_option maxHeartbeats 8000000 in
theorem parts_any (W : World) (n : Int) (A : Option Addr) (m cap B0 : Nat) (E : List (Int × Int × Int)) (hr : Reads W B0 3 A m (ecells E)) (hB0 : B0 ≤ W.heap.size) (hm : m ≤ 140737488355328) :
    Calls Try.prog 19 #[.int .i64 n, .slice A m cap] W (PartsOut W n E) := by
  have hC := hide (check_any W n A m cap B0 E hr hB0 hm)
  have hlen : E.length = m := by have := hr.1; rw [ecells_len] at this; omega
  have HL := Lib.hid hlen
  obtain ⟨ck, hc⟩ : ∃ c, chkS n E = c := ⟨_, rfl⟩
  rw [hc] at hC
  have HR := hide hr
  have HC := Lib.hid hc
  clear hr hlen hc
  go_enter Try.func19, Try.ntmps19
  go_wp2_with fail
  refine (unhide hC).mono ?_
  rintro e w1 ⟨rfl, hb1⟩
  have HB1 := hide hb1
  clear hb1 hC
  by_cases h0 : ck = 0
  · subst h0
    obtain ⟨g1, g2, g3, hE⟩ := chk_ok HC.out
    obtain ⟨N, rfl⟩ := Int.eq_ofNat_of_zero_le g3
    have hF := hide (found_any w1 A m cap N B0 E ((unhide HR).below ((unhide HB1).mono hB0)) (Nat.le_trans hB0 (unhide HB1).size) (by omega) (by rw [← HL.out]; exact g2) (fun e he => by
      have h : 0 ≤ e.1 ∧ e.1 < N ∧ 0 ≤ e.2.1 ∧ e.2.1 < N ∧ 0 ≤ e.2.2 ∧ e.2.2 ≤ 1048576 := of_decide_eq_true (hE e he)
      exact ⟨h.1, h.2.1, h.2.2.1, h.2.2.2.1⟩))
    have HE := hide hE
    have HG := hide (And.intro g1 g2)
    clear hE g1 g2 g3
    go_wp2_with fail
    refine (unhide hF).mono ?_
    rintro e w2 ⟨gP, part, al, rfl, hfo⟩
    have haln := hfo.aln
    have hN : N ≤ 65536 := by have := (unhide HG).1; omega
    have hmk := fun w => make_rows w al (by omega)
    have hmk2 := fun w => make_ints w al (by omega)
    have hm2 : m ≤ 1048576 := by rw [← HL.out]; exact (unhide HG).2
    have HFO := hide hfo
    have HBB := hide (show Below W.heap.size W w2 from (unhide HB1).trans (hfo.bel.mono (unhide HB1).size))
    clear hfo hF
    simp only [iv]
    go_wp2_with fail
    obtain ⟨g9, hg9⟩ : ∃ g, w2.heap.size = g := ⟨_, rfl⟩
    obtain ⟨W3, hW3⟩ : ∃ W3, w2.alloc (.cells (tab al fun _ => .slice none 0 0) 25) = W3 := ⟨_, rfl⟩
    have hb3 : Below w2.heap.size w2 W3 := by rw [← hW3]; exact (Below.refl _ _).alloc (Nat.le_refl _) _
    have hs3 : NdS W3 g9 al part 0 (fun _ => .slice none 0 0) := by
      refine ⟨?_, fun u _ => ?_, fun u v _ _ _ b e => by cases e⟩
      · rw [← hW3, ← hg9]; exact Blk.new _ _ _
      · exact ⟨rfl, .inl ⟨rfl, rfl⟩⟩
    rw [hW3]
    have HS3 := hide hs3
    have HB3 := hide hb3
    have HG9 := Lib.hid hg9
    rw [hg9]
    clear hW3 hs3 hb3 hg9
    go_loopg [38] N (fun q t W' => ∃ (k : Nat) (V : Nat → Value), t = .int .i64 (k : Int) ∧ k + q = N ∧ NdS W' g9 al part k V ∧ Below w2.heap.size w2 W' ∧ g9 < W'.heap.size)
    case atStart => exact ⟨0, _, rfl, by omega, unhide HS3, unhide HB3, (unhide HS3).blk.lt⟩
    case round =>
      obtain ⟨k, V, rfl, hkq, hs, hb, hgl⟩ := hrel
      clear HS3 HB3
      have hk0 : (0 : Int) ≤ (k : Int) := by omega
      by_cases hk : k < N
      · have hkm : (k : Int) < (N : Int) := by omega
        obtain ⟨gq, rfl⟩ : ∃ q, gk = q + 1 := ⟨gk - 1, by omega⟩
        obtain ⟨pa, hpa⟩ : ∃ a, part k = a := ⟨_, rfl⟩
        have hpal : pa < al := by rw [← hpa]; exact (unhide HFO).lt k hk
        have hbl := (unhide HFO).blk.below hb (unhide HFO).blk.lt
        have hPg : gP < g9 := by have := (unhide HFO).blk.lt; have := HG9.out; omega
        have p0 : wr.cell? ⟨gP, k, none⟩ = some (.int .i64 (pa : Int)) := by rw [← hpa]; exact (hbl.cell k).trans (tab_at _ hk)
        obtain ⟨La, hLa⟩ : ∃ L, (nds part k pa).length = L := ⟨_, rfl⟩
        have hLk : La ≤ k := by rw [← hLa]; exact nds_len _ _ _
        obtain ⟨Ax, cx, hvx⟩ := (hs.own pa hpal).shape
        rw [hLa] at hvx
        have ho2 := hs.own pa hpal
        rw [hLa, hvx] at ho2
        have c0 : wr.cell? ⟨g9, pa, none⟩ = some (.slice Ax La cx) := by rw [← hvx]; exact (hs.blk.cell pa).trans (tab_at _ hpal)
        have f0 : wr.frozen? ⟨g9, pa, none⟩ = false := hs.blk.frozen pa
        have hp0 : (0 : Int) ≤ (pa : Int) := by omega
        have hpI : (pa : Int) < (al : Int) := by omega
        obtain ⟨v4, w4, hrun, ho4, hg4, hr4⟩ := run_app1 (P := Try.prog) wr elem_int (g9 + 1) (.slice Ax La cx) La ((nds part k pa).map iv) ho2 (.int .i64 (k : Int)) rfl (cap8 (by omega)) (by omega)
        obtain ⟨A4, c4, rfl⟩ := ho4.shape
        have hng : some g9 ≠ Value.ownBlock (.slice Ax La cx) := fun e => by have := (ho2.lt _ e.symm).1; omega
        have hnp : some gP ≠ Value.ownBlock (.slice Ax La cx) := fun e => by have := (ho2.lt _ e.symm).1; omega
        have e0 : w4.cell? ⟨g9, pa, none⟩ = some (.slice Ax La cx) := hg4.cell c0 hng
        have q0 : w4.cell? ⟨gP, k, none⟩ = some (.int .i64 (pa : Int)) := hg4.cell p0 hnp
        have g0 : w4.frozen? ⟨g9, pa, none⟩ = false := (hg4.frozen_far ⟨g9, pa, none⟩ hgl hng).trans f0
        have k0 : (wr.alloc (.cells #[.int .i64 (k : Int)] 3)).drew.cell? ⟨g9, pa, none⟩ = some (.slice Ax La cx) := (World.cell?_alloc_lt wr _ ⟨g9, pa, none⟩ hgl).trans c0
        have k1 : (wr.alloc (.cells #[.int .i64 (k : Int)] 3)).drew.cell? ⟨gP, k, none⟩ = some (.int .i64 (pa : Int)) := (World.cell?_alloc_lt wr _ ⟨gP, k, none⟩ (by show gP < wr.heap.size; omega)).trans p0
        have hB4 := hide (show Below w2.heap.size w2 (w4.setCell ⟨g9, pa, none⟩ (.slice A4 (La + 1) c4)) from (hb.grown hg4 hb.size (fun g e => by have := (ho2.lt g e).1; have := HG9.out; omega)).setCell (by have := HG9.out; show w2.heap.size ≤ g9; omega) _)
        have hS4 := hide (hs.grow (s := 1) (news := [iv k]) hpal (by omega) hvx (by show w4.ownsRow _ _ _ _ ((nds part k pa).length + 1) _; rw [hLa]; exact ho4) hg4 hr4)
        have hz4 := hg4.size
        have HPA := Lib.hid hpa
        have HLA := Lib.hid hLa
        clear hs hb hbl hpa hLa hvx ho2 ho4 hg4 hr4 hng hnp
        go_wp2_with fail
        go_region
        go_wp2_with fail
        go_roundg gq
        case rel =>
          refine ⟨k + 1, _, by go_num, by omega, (unhide hS4).congr (fun _ => rfl) (fun u => ?_) (fun u => ?_), unhide hB4, by show g9 < (w4.setCell _ _).heap.size; rw [show (w4.setCell ⟨g9, pa, none⟩ (.slice A4 (La + 1) c4)).heap.size = w4.heap.size by simp [World.setCell]]; omega⟩
          · rw [nds_succ, HPA.out, List.length_append]
            by_cases e : u = pa
            · subst e; rw [upf_same, if_pos rfl]; rfl
            · rw [upf_ne _ _ e, if_neg (fun h => e h.symm)]; rfl
          · rw [nds_succ, HPA.out, List.map_append]
            by_cases e : u = pa
            · subst e; rw [upf_same, if_pos rfl]; rfl
            · rw [upf_ne _ _ e, if_neg (fun h => e h.symm)]; simp
        case measure => omega
      · obtain rfl : k = N := by omega
        obtain ⟨wo, rfl⟩ : ∃ w : World, w = wr := ⟨_, rfl⟩
        obtain ⟨g11, hg11⟩ : ∃ g, wo.heap.size = g := ⟨_, rfl⟩
        obtain ⟨W5, hW5⟩ : ∃ W5, (wo.alloc (.cells (tab al fun _ => .int .i64 0) 3)).alloc (.cells (tab al fun _ => .slice none 0 0) 25) = W5 := ⟨_, rfl⟩
        have hb5 : Below wo.heap.size wo W5 := by rw [← hW5]; exact ((Below.refl _ _).alloc (Nat.le_refl _) _).alloc (by simp) _
        have hw5 : Blk W5 g11 3 (tab al fun a => iv (wts part (E.take 0) [] a)) := by rw [← hW5, ← hg11]; exact (Blk.new _ _ _).alloc _
        have hk5 : BkS W5 (g11 + 1) al part (E.take 0) (fun _ => .slice none 0 0) := by
          refine ⟨?_, fun u _ => ?_, fun u v _ _ _ b e => by cases e⟩
          · rw [← hW5]
            exact Blk.at_ (by rw [World.size_alloc, hg11])
          · exact ⟨rfl, .inl ⟨rfl, rfl⟩⟩
        have HND := hide hs
        have HBN := hide hb
        have HB5 := hide hb5
        have HW5 := hide hw5
        have HK5 := hide hk5
        have HG11 := Lib.hid hg11
        have hPg : gP < g9 := by have := (unhide HFO).blk.lt; have := HG9.out; omega
        have h911 : g9 < g11 := by omega
        clear hs hb hb5 hw5 hk5 hgl
        go_wp2_with fail
        clear hW5 hg11
        go_loopg [64] m (fun q t W' => ∃ (j : Nat) (Vb : Nat → Value), t = .int .i64 (j : Int) ∧ j + q = m ∧ Blk W' g11 3 (tab al fun a => iv (wts part (E.take j) [] a)) ∧ BkS W' (g11 + 1) al part (E.take j) Vb ∧ Below wo.heap.size wo W')
        case atStart => exact ⟨0, _, rfl, by omega, unhide HW5, unhide HK5, unhide HB5⟩
        case round =>
          obtain ⟨j, Vb, rfl, hjq, hw, hk2, hb⟩ := hrel
          clear HW5 HK5 HB5
          have hj0 : (0 : Int) ≤ (j : Int) := by omega
          by_cases hj : j < m
          · have hbw : Below W.heap.size W wr := (unhide HBB).trans (((unhide HBN).trans (hb.mono (unhide HBN).size)).mono (unhide HBB).size)
            obtain ⟨b, off, f, t, g, rfl, hbB, he, c1, c2, c3⟩ := ((unhide HR).below (hbw.mono hB0)).edge hj
            have hjm : (j : Int) < (m : Int) := by omega
            obtain ⟨gq, rfl⟩ : ∃ q, gk = q + 1 := ⟨gk - 1, by omega⟩
            obtain ⟨F, T, WT, he2, hFN, hTN, hWT⟩ := okE_parts (unhide HE _ (List.mem_of_getElem? he))
            injection he2 with e1 e2
            injection e2 with e2 e3
            subst e1
            subst e2
            subst e3
            obtain ⟨x, hx⟩ : ∃ x, wr.heap.size = x := ⟨_, rfl⟩
            obtain ⟨W2, hW2⟩ : ∃ W2, wr.alloc (.cells #[.int .i64 (F : Int), .int .i64 (T : Int), .int .i64 (WT : Int)] 41) = W2 := ⟨_, rfl⟩
            have hb2 : Below wr.heap.size wr W2 := by rw [← hW2]; exact (Below.refl _ _).alloc (Nat.le_refl _) _
            have hx2 : Blk W2 x 41 #[.int .i64 (F : Int), .int .i64 (T : Int), .int .i64 (WT : Int)] := by rw [← hW2, ← hx]; exact Blk.new _ _ _
            have hsnoc : E.take (j + 1) = E.take j ++ [((F : Int), (T : Int), (WT : Int))] := by rw [List.take_add_one, he, Option.toList_some]
            obtain ⟨pa, hpa⟩ : ∃ a, part F = a := ⟨_, rfl⟩
            obtain ⟨pb, hpb⟩ : ∃ b, part T = b := ⟨_, rfl⟩
            have hpal : pa < al := by rw [← hpa]; exact (unhide HFO).lt F hFN
            have hpbl : pb < al := by rw [← hpb]; exact (unhide HFO).lt T hTN
            have hbl := (unhide HFO).blk.below ((unhide HBN).trans ((hb.trans (hb2.mono hb.size)).mono (unhide HBN).size)) (unhide HFO).blk.lt
            have d0 : W2.cell? ⟨x, 0, none⟩ = some (.int .i64 (F : Int)) := hx2.cell 0
            have d1 : W2.cell? ⟨x, 1, none⟩ = some (.int .i64 (T : Int)) := hx2.cell 1
            have p0 : W2.cell? ⟨gP, F, none⟩ = some (.int .i64 (pa : Int)) := by rw [← hpa]; exact (hbl.cell F).trans (tab_at _ hFN)
            have p1 : W2.cell? ⟨gP, T, none⟩ = some (.int .i64 (pb : Int)) := by rw [← hpb]; exact (hbl.cell T).trans (tab_at _ hTN)
            have hF0 : (0 : Int) ≤ (F : Int) := by omega
            have hT0 : (0 : Int) ≤ (T : Int) := by omega
            have hFI : (F : Int) < (k : Int) := by omega
            have hTI : (T : Int) < (k : Int) := by omega
            have HSN := Lib.hid hsnoc
            have HPA := Lib.hid hpa
            have HPB := Lib.hid hpb
            have HW := hide (hw.below hb2 hw.lt)
            have HK := hide (hk2.below hb2)
            have HB := hide (hb.trans (hb2.mono hb.size))
            clear he hsnoc hpa hpb hw hk2 hb hb2 hx2 hbl hbw
            go_wp2_with fail
            go_quiet (fail)
            rename_i nq
            obtain ⟨Wa, hWa⟩ : ∃ w, W2.drewN nq = w := ⟨_, rfl⟩
            rw [hWa]
            have HW' : Hid (Blk Wa g11 3 (tab al fun a => iv (wts part (E.take j) [] a))) := by show Blk _ _ _ _; rw [← hWa]; exact (unhide HW).drewN nq
            have HK' : Hid (BkS Wa (g11 + 1) al part (E.take j) Vb) := by
              show BkS _ _ _ _ _ _
              rw [← hWa]
              have h := unhide HK
              exact ⟨h.blk.drewN nq, fun u hu => h.own u hu, h.apart⟩
            have HB' : Hid (Below wo.heap.size wo Wa) := by show Below _ _ _; rw [← hWa]; exact below_drewN (unhide HB) nq
            clear hWa hW2 HW HK HB c1 c2 c3 d0 d1 p0 p1
            by_cases hab : pa = pb
            · subst hab
              go_wp2_with fail
              go_roundg gq
              case rel =>
                refine ⟨j + 1, Vb, by go_num, by omega, ?_, ?_, unhide HB'⟩
                · rw [HSN.out, tab_congr (f := fun a => iv (wts part (E.take j ++ [((F : Int), (T : Int), (WT : Int))]) [] a)) (g := fun a => iv (wts part (E.take j) [] a)) fun a => ?_]
                  · exact unhide HW'
                  · show iv _ = iv _
                    rw [wts_snoc, wts1, if_neg, Nat.add_zero]
                    simp only [Int.toNat_natCast]
                    rw [HPA.out, HPB.out]
                    exact fun h => h.2.1 h.1
                · rw [HSN.out]
                  refine RowsS.congr (V' := Vb) (unhide HK') (fun _ => rfl) (fun u => ?_) (fun u => ?_)
                  all_goals
                    rw [bk_snoc, if_neg (by simp only [Int.toNat_natCast]; rw [HPA.out, HPB.out]; exact fun h => h.2 h.1), List.append_nil]
              case measure => omega
            · have habI : ¬ (pa : Int) = (pb : Int) := by omega
              obtain ⟨w0, hw0⟩ : ∃ w0, wts part (E.take j) [] pa = w0 := ⟨_, rfl⟩
              have hwle : w0 ≤ j := by rw [← hw0]; exact Nat.le_trans (wts_le _ _ _ _) (by simp; omega)
              have x1 : Wa.cell? ⟨g11, pa, none⟩ = some (.int .i64 (w0 : Int)) := by rw [← hw0]; exact ((unhide HW').cell pa).trans (tab_at _ hpal)
              have x1f : Wa.frozen? ⟨g11, pa, none⟩ = false := (unhide HW').frozen pa
              have hpa0 : (0 : Int) ≤ (pa : Int) := by omega
              have hpaI : (pa : Int) < (al : Int) := by omega
              have hpb0 : (0 : Int) ≤ (pb : Int) := by omega
              have hpbI : (pb : Int) < (al : Int) := by omega
              obtain ⟨Wb, hWb⟩ : ∃ Wb, Wa.setCell ⟨g11, pa, none⟩ (.int .i64 ((w0 : Int) + 1)) = Wb := ⟨_, rfl⟩
              have hcb : Chg Wa Wb (fun b => b = g11) := by rw [← hWb]; exact Chg.of_set Wa ⟨g11, pa, none⟩ _
              have hwb : Blk Wb g11 3 (tab al fun a => iv (wts part (E.take (j + 1)) [] a)) := by
                rw [← hWb]
                refine (unhide HW').set_tab pa _ (fun a => ?_)
                rw [HSN.out, wts_snoc, wts1]
                simp only [Int.toNat_natCast]
                by_cases e : a = pa
                · subst e; rw [upf_same, if_pos ⟨HPA.out, by rw [HPB.out]; exact fun h => hab h.symm, by simp⟩, hw0]; rfl
                · rw [upf_ne _ _ e, if_neg (fun h => e (by rw [← h.1, HPA.out]))]; rfl
              have hkb : BkS Wb (g11 + 1) al part (E.take j) Vb := (unhide HK').chg hcb (by omega) (fun u hu b e => by have := ((unhide HK').own u hu).lt b e; omega)
              obtain ⟨La, hLa⟩ : ∃ L, (bk part (E.take j) pb).length = L := ⟨_, rfl⟩
              have hLj : La ≤ j := by rw [← hLa]; exact Nat.le_trans (bk_len _ _ _) (by simp; omega)
              obtain ⟨Ax, cx, hvx⟩ := (hkb.own pb hpbl).shape
              rw [hLa] at hvx
              have ho2 := hkb.own pb hpbl
              rw [hLa, hvx] at ho2
              have y1 : Wb.cell? ⟨g11 + 1, pb, none⟩ = some (.slice Ax La cx) := by rw [← hvx]; exact (hkb.blk.cell pb).trans (tab_at _ hpbl)
              have y1f : Wb.frozen? ⟨g11 + 1, pb, none⟩ = false := hkb.blk.frozen pb
              have hbb : Below wo.heap.size wo Wb := (unhide HB').trans (hcb.below (unhide HB').size (fun i hi e => by have := HG11.out; omega))
              have hgb : g11 + 1 + 1 ≤ Wb.heap.size := hkb.blk.lt
              have HWB := hide hwb
              have HKB := hide hkb
              have HBB2 := hide hbb
              have HO2 := hide ho2
              have HVX := Lib.hid hvx
              have HLA := Lib.hid hLa
              have HC8 : Hid (La + 1 ≤ maxLen ∧ (La + 1) * 8 ≤ 140737488355328) := cap8 (by omega)
              have HW0 := Lib.hid hw0
              clear hcb hwb hkb hbb ho2 hvx hLa hw0 HW' HK' HB'
              go_wp2_with (first
                | (at_builtin
                   refine wpList_app1 Wb rfl (.tmp 92) (.tmp 94) 25 rfl elem_int (g11 + 1 + 1) (.slice Ax La cx) La ((bk part (E.take j) pb).map iv) rfl (unhide HO2) (.int .i64 (pa : Int)) Wb.heap.size rfl rfl rfl HC8.out hgb ?_
                   intro v5 w5 ho5 hg5 hr5
                   obtain ⟨A5, c5, rfl⟩ := ho5.shape
                   have hng : some (g11 + 1) ≠ Value.ownBlock (.slice Ax La cx) := fun e => by have := ((unhide HO2).lt _ e.symm).1; omega
                   have hnw : some g11 ≠ Value.ownBlock (.slice Ax La cx) := fun e => by have := ((unhide HO2).lt _ e.symm).1; omega
                   have z1 : w5.cell? ⟨g11 + 1, pb, none⟩ = some (.slice Ax La cx) := hg5.cell y1 hng
                   have z1f : w5.frozen? ⟨g11 + 1, pb, none⟩ = false := (hg5.frozen_far ⟨g11 + 1, pb, none⟩ (by show g11 + 1 < Wb.heap.size; omega) hng).trans y1f
                   have HW6 := hide (((unhide HWB).grown hg5 hnw).far (p := ⟨g11 + 1, pb, none⟩) (by show g11 ≠ g11 + 1; omega) (.slice A5 (La + 1) c5))
                   have HB6 := hide (((unhide HBB2).grown hg5 (unhide HBB2).size (fun g e => by have := ((unhide HO2).lt g e).1; have := HG11.out; omega)).setCell (p := ⟨g11 + 1, pb, none⟩) (by have := HG11.out; show wo.heap.size ≤ g11 + 1; omega) (.slice A5 (La + 1) c5))
                   have HK6 := hide ((unhide HKB).grow (s := 1) (news := [iv pa]) hpbl (by omega) HVX.out (by show w5.ownsRow _ _ _ _ ((bk part (E.take j) pb).length + 1) _; rw [HLA.out]; exact ho5) hg5 hr5)
                   clear ho5 hg5 hr5 hng hnw))
              go_roundg gq
              case rel =>
                refine ⟨j + 1, _, by go_num, by omega, unhide HW6, (unhide HK6).congr (fun _ => rfl) (fun u => ?_) (fun u => ?_), unhide HB6⟩
                · rw [HSN.out, bk_snoc, List.length_append]
                  simp only [Int.toNat_natCast]
                  rw [HPA.out, HPB.out]
                  by_cases e : u = pb
                  · subst e; rw [upf_same, if_pos ⟨rfl, hab⟩]; rfl
                  · rw [upf_ne _ _ e, if_neg (fun h => e h.1.symm)]; rfl
                · rw [HSN.out, bk_snoc, List.map_append]
                  simp only [Int.toNat_natCast]
                  rw [HPA.out, HPB.out]
                  by_cases e : u = pb
                  · subst e; rw [upf_same, if_pos ⟨rfl, hab⟩]; rfl
                  · rw [upf_ne _ _ e, if_neg (fun h => e h.1.symm)]; simp
              case measure => omega
          · obtain rfl : j = m := by omega
            have hel : E.take j = E := List.take_of_length_le (by have := HL.out; omega)
            rw [hel] at hw hk2
            obtain ⟨wl, rfl⟩ : ∃ w : World, w = wr := ⟨_, rfl⟩
            obtain ⟨gN, hgN⟩ : ∃ g, wl.heap.size = g := ⟨_, rfl⟩
            obtain ⟨W7, hW7⟩ : ∃ W7, wl.alloc (.cells #[.slice none 0 0] 67) = W7 := ⟨_, rfl⟩
            have hb7 : Below wl.heap.size wl W7 := by rw [← hW7]; exact (Below.refl _ _).alloc (Nat.le_refl _) _
            have hx7 : Blk W7 gN 67 #[.slice none 0 0] := by rw [← hW7, ← hgN]; exact Blk.new _ _ _
            have hz7 : gN + 1 ≤ W7.heap.size := hx7.lt
            have hw7 := hw.below hb7 hw.lt
            have hk7 := hk2.below hb7
            have hnl := (unhide HND).below hb
            have hn7 := hnl.below hb7
            have hkg : ∀ u, u < al → ∀ b, (Vb u).ownBlock = some b → g11 + 1 < b ∧ b < gN := fun u hu b e => by have := (hk2.own u hu).lt b e; omega
            have hng : ∀ u, u < al → ∀ b, (V u).ownBlock = some b → g9 < b ∧ b < g11 := fun u hu b e => by have := ((unhide HND).own u hu).lt b e; have := HG11.out; omega
            have hgl : g11 + 1 < gN := by have := hk2.blk.lt; omega
            have hbW7 : Below W.heap.size W W7 := (unhide HBB).trans (((unhide HBN).trans ((hb.trans (hb7.mono hb.size)).mono (unhide HBN).size)).mono (unhide HBB).size)
            have hgW : W.heap.size ≤ g9 := by have := (unhide HBB).size; have := HG9.out; omega
            have hfst : ∀ p, p < al → ∃ L, (nds part k p).length = L + 1 ∧ (nds part k p)[0]? = some (fstN part k p) := fun p hp => by
              obtain ⟨u, hu, hpu⟩ := (unhide HFO).surj p hp
              have hmem : u ∈ nds part k p := nds_mem.2 ⟨hu, hpu⟩
              cases h : nds part k p with
              | nil => rw [h] at hmem; cases hmem
              | cons y r => exact ⟨r.length, rfl, by simp [fstN, h]⟩
            have hm0 : HpM W7 gN (gN + 1) 0 (.slice none 0 0) (fun _ => (0, 0)) (Rdy (fstN part k) 0 [] (wts part E [])) := ⟨⟨hx7, ⟨rfl, .inl ⟨rfl, rfl⟩⟩⟩, fun i h0 h1 => by omega, ⟨fun y => ⟨fun ⟨a, h, _⟩ => by omega, fun ⟨i, h, _⟩ => by omega⟩, fun i j h => by omega⟩⟩
            have HW7 := hide hw7
            have HK7 := hide hk7
            have HN7 := hide hn7
            have HM0 := hide hm0
            have HKG := hide hkg
            have HNG := hide hng
            have HBW7 := hide hbW7
            have HFST := hide hfst
            clear hw hk2 hb hel hb7 hx7 hw7 hk7 hnl hn7 hm0 hkg hng hbW7 hfst HND
            go_wp2_with fail
            clear hW7
            have HGN := Lib.hid hgN
            clear hgN
            go_loopg [99] al (fun q t W' => ∃ (p n : Nat) (rv : Value) (f : Nat → Nat × Nat), t = .int .i64 (p : Int) ∧ p + q = al ∧ HpM W' gN (gN + 1) n rv f (Rdy (fstN part k) p [] (wts part E [])) ∧ Chg W7 W' (Co gN g11 (gN + 1)) ∧ Blk W' g11 3 (tab al fun a => iv (wts part E [] a)))
            case atStart => exact ⟨0, 0, _, _, rfl, by omega, unhide HM0, Chg.refl _ _, unhide HW7⟩
            case round =>
              obtain ⟨p, nh, rv, f, rfl, hpq, hh, hch, hw⟩ := hrel
              clear HM0 HW7
              have hp0 : (0 : Int) ≤ (p : Int) := by omega
              have hzr : gN + 1 ≤ wr.heap.size := Nat.le_trans hz7 hch.size
              by_cases hp : p < al
              · have hpI : (p : Int) < (al : Int) := by omega
                obtain ⟨gq, rfl⟩ : ∃ q, gk = q + 1 := ⟨gk - 1, by omega⟩
                obtain ⟨w0, hw0⟩ : ∃ w0, wts part E [] p = w0 := ⟨_, rfl⟩
                have x1 : wr.cell? ⟨g11, p, none⟩ = some (.int .i64 (w0 : Int)) := by rw [← hw0]; exact (hw.cell p).trans (tab_at _ hp)
                by_cases h0 : w0 = 0
                · have h0I : (w0 : Int) = 0 := by omega
                  have hnd := (unhide HN7).chg hch (fun h => by rcases h with h | h | h <;> omega) (fun u hu b e h => by have := unhide HNG u hu b e; rcases h with h | h | h <;> omega)
                  obtain ⟨L, hL1, hL2⟩ := unhide HFST p hp
                  obtain ⟨Ax, cx, hvx⟩ := (hnd.own p hp).shape
                  have ho := hnd.own p hp
                  rw [hvx] at ho
                  rw [hL1] at ho hvx
                  obtain ⟨gr, capr, hv, hBr, hnr, hcr⟩ := own_form ho (by omega)
                  obtain ⟨rfl, rfl⟩ : Ax = some ⟨gr, 0, none⟩ ∧ cx = capr := by cases hv; exact ⟨rfl, rfl⟩
                  obtain ⟨fs, hfs⟩ : ∃ x, fstN part k p = x := ⟨_, rfl⟩
                  have x2 : wr.cell? ⟨g9, p, none⟩ = some (.slice (some ⟨gr, 0, none⟩) (L + 1) cx) := by rw [← hvx]; exact (hnd.blk.cell p).trans (tab_at _ hp)
                  have x3 : wr.cell? ⟨gr, 0, none⟩ = some (.int .i64 (fs : Int)) := by rw [← hfs, own_cell ho (k := 0) (by omega), List.getElem?_map, hL2]; rfl
                  have hLI : (0 : Int) < ((L + 1 : Nat) : Int) := by omega
                  have hnot : ¬ Rdy (fstN part k) p [] (wts part E []) (fs, p) := fun ⟨a, h1, _, _, h2⟩ => by
                    have h2 : p = a := congrArg Prod.snd h2
                    omega
                  have hP := hide (heapPush_any hh (by omega) hzr (by have := Rdy.few hh.bag; omega) fs p hnot)
                  have hbuild := build_pair
                  have HCH := hide hch
                  have HW := hide hw
                  have HW0 := Lib.hid hw0
                  have HFS := Lib.hid hfs
                  have HOL := hide (hh.mem.own.lt)
                  clear hh hch hw hnd hL1 hL2 hvx ho hv hBr hnr hcr hnot hw0 hfs
                  rw [h0I] at x1
                  go_wp2_with fail
                  refine (unhide hP).mono ?_
                  rintro e w8 ⟨rfl, rv8, f8, hh8, hc8, hn8⟩
                  have HH8 := hide (hh8.congr (S' := Rdy (fstN part k) (p + 1) [] (wts part E [])) (fun y => by
                    constructor
                    · rintro (⟨a, h1, h2, h3, h4⟩ | rfl)
                      · exact ⟨a, by omega, h2, h3, h4⟩
                      · exact ⟨p, by omega, by simp, by rw [HW0.out]; exact h0, by rw [HFS.out]⟩
                    · rintro ⟨a, h1, h2, h3, h4⟩
                      by_cases e : a = p
                      · subst e; exact .inr (by rw [h4, HFS.out])
                      · exact .inl ⟨a, by omega, h2, h3, h4⟩))
                  have HW8 := hide (hc8.blk (unhide HW) (fun h => by
                    rcases h with h | h
                    · omega
                    · have := (unhide HOL _ h).1; omega))
                  have HC8 := hide ((unhide HCH).trans hc8 (fun i hi h => by
                    rcases h with h | h
                    · exact .inl h
                    · exact .inr (.inr (unhide HOL _ h).1)))
                  clear hh8 hc8 hn8 hP
                  go_wp2_with fail
                  go_roundg gq
                  case rel => exact ⟨p + 1, nh + 1, rv8, f8, by go_num, by omega, unhide HH8, unhide HC8, unhide HW8⟩
                  case measure => omega
                · have h0I : ¬ (w0 : Int) = 0 := by omega
                  have HH8 := hide (hh.congr (S' := Rdy (fstN part k) (p + 1) [] (wts part E [])) (fun y => by
                    constructor
                    · rintro ⟨a, h1, h2, h3, h4⟩
                      exact ⟨a, by omega, h2, h3, h4⟩
                    · rintro ⟨a, h1, h2, h3, h4⟩
                      by_cases e : a = p
                      · subst e; omega
                      · exact ⟨a, by omega, h2, h3, h4⟩))
                  have HW8 := hide hw
                  have HC8 := hide hch
                  clear hh hch hw hw0
                  go_wp2_with fail
                  go_roundg gq
                  case rel => exact ⟨p + 1, nh, rv, f, by go_num, by omega, unhide HH8, unhide HC8, unhide HW8⟩
                  case measure => omega
              · obtain rfl : p = al := by omega
                have HH := hide hh
                have HCH := hide hch
                have HW := hide hw
                have hle : ∀ e ∈ E, part e.2.1.toNat ≤ part e.1.toNat := fun e he => by
                  obtain ⟨f, t, g, rfl, hf, ht, hg⟩ := okE_parts (unhide HE e he)
                  exact ((unhide HFO).le f hf t ((adj_mem (unhide HE)).2 ⟨_, he, by simp, by simp⟩)).2
                have hplt : ∀ e ∈ E, part e.1.toNat < p := fun e he => by
                  obtain ⟨f, t, g, rfl, hf, ht, hg⟩ := okE_parts (unhide HE e he)
                  exact (unhide HFO).lt f hf
                have HLE := hide hle
                have HPLT := hide hplt
                obtain ⟨fst, hfs⟩ : ∃ f, fstN part k = f := ⟨_, rfl⟩
                rw [hfs] at HH HFST
                have HFS := Lib.hid hfs
                clear hh hch hw hle hplt hfs
                go_wp2_with fail
                go_loopg [19] p (fun q t W' => ∃ (os : List Nat) (nh : Nat) (rv : Value) (f : Nat → Nat × Nat), os.length + q = p ∧ PSpec part E p fst os ∧ HpM W' gN (gN + 1) nh rv f (Rdy fst p os (wts part E os)) ∧ Blk W' g11 3 (tab p fun a => iv (wts part E os a)) ∧ W'.ownsRow (gN + 1) 25 1 t os.length (os.map V) ∧ Chg W7 W' (Co gN g11 (gN + 1)))
                case atStart => exact ⟨[], nh, rv, f, by simp, PSpec.nil _ _ _ _, unhide HH, unhide HW, ⟨rfl, .inl ⟨rfl, rfl⟩⟩, unhide HCH⟩
                case round =>
                  clear HH HCH HW
                  obtain ⟨os, nh2, rv2, f2, hosq, hps, hh, hw, ho, hch⟩ := hrel
                  obtain ⟨Ah, ch, rfl⟩ := hh.mem.own.shape
                  obtain ⟨Lo, hLo⟩ : ∃ L, os.length = L := ⟨_, rfl⟩
                  rw [hLo] at ho
                  obtain ⟨Av, cv, rfl⟩ := ho.shape
                  have r1 : wr.cell? ⟨gN, 0, none⟩ = some (.slice Ah nh2 ch) := hh.mem.blk.cell 0
                  have hLn := hide (len_ready wr Ah nh2 ch)
                  have hzr : gN + 1 ≤ wr.heap.size := Nat.le_trans hz7 hch.size
                  have hfew := Rdy.few hh.bag
                  cases nh2 with
                  | zero =>
                    have hall : ∀ a, a < p → a ∈ os := fun a ha => by
                      by_cases hn : a ∈ os
                      · exact hn
                      · obtain ⟨q, h1, h2, h3⟩ := wts_some (unhide HLE) ha hn
                        obtain ⟨i, hi, _⟩ := (hh.bag.mem _).1 ⟨q, h1, h2, h3, rfl⟩
                        omega
                    have hnd := (unhide HN7).chg hch (fun h => by rcases h with h | h | h <;> omega) (fun u hu b e h => by have := unhide HNG u hu b e; rcases h with h | h | h <;> omega)
                    have hout : POut W wr k E part p os (.slice Av Lo cv) V := ⟨(unhide HFO).parts, (unhide HFO).surj, by rw [HFS.out]; exact hps, hall, by rw [hLo]; exact ho.base (by omega), fun a ha => (hnd.own a ha).base (by omega), hnd.apart⟩
                    have HOUT := hide hout
                    have HBF := hide ((unhide HBW7).trans (hch.below (unhide HBW7).size (fun i hi h => by rcases h with h | h | h <;> omega)))
                    clear hps hh hw ho hch hall hnd hout hLo
                    go_wp2_with fail
                    refine (unhide hLn).mono ?_
                    rintro e w' ⟨rfl, rfl⟩
                    go_wp2_with fail
                    go_ret2
                    exact ⟨unhide HBF, .inr ⟨HC.out, k, part, p, os, _, V, rfl, rfl, unhide HOUT⟩⟩
                  | succ nh2 =>
                    obtain ⟨a0, ha1, ha2, ha3, ha4⟩ := (hh.bag.mem (f2 0)).2 ⟨0, by omega, rfl⟩
                    have hmin : ∀ q, q < p → q ∉ os → wts part E os q = 0 → fst a0 ≤ fst q := fun q h1 h2 h3 => by
                      obtain ⟨i, hi, e⟩ := (hh.bag.mem _).1 ⟨q, h1, h2, h3, rfl⟩
                      have := hh.hp.least i hi
                      rw [e, ha4] at this
                      exact this
                    have hps2 := hps.put ha1 ha2 ha3 hmin
                    have hlen2 := hps2.len
                    rw [List.length_append, hLo] at hlen2
                    have hlen2 : Lo + 1 ≤ p := hlen2
                    obtain ⟨gq, rfl⟩ : ∃ q, gk = q + 1 := ⟨gk - 1, by omega⟩
                    have hpop := heapPop_any hh (by omega) hzr (by omega)
                    rw [ha4] at hpop
                    simp only [iv] at hpop
                    have hPop := hide hpop
                    clear hpop
                    have hta := assert_pair (fst a0 : Int) (a0 : Int)
                    have hix := index_pair (fst a0 : Int) (a0 : Int)
                    have hown2 : ∀ b, (Value.slice Ah (nh2 + 1) ch).ownBlock = some b → (Value.slice Av Lo cv).ownBlock ≠ some b := fun b h => own_own_ne hh.mem.own ho (by decide) h
                    have HOW := hide hh.mem.own.lt
                    have HOO := hide hown2
                    have HPS2 := hide hps2
                    have HCH := hide hch
                    have HW := hide hw
                    have HO := hide ho
                    have HLO := Lib.hid hLo
                    have HA2 := hide ha2
                    have HLn := hLn
                    clear hps hh hw ho hch hmin hps2 hown2 hLo ha2 ha3 ha4
                    have hnI : (0 : Int) < ((nh2 + 1 : Nat) : Int) := by omega
                    go_wp2_with fail
                    refine (unhide hLn).mono ?_
                    rintro e w' ⟨rfl, rfl⟩
                    clear hLn HLn r1
                    go_wp2_with fail
                    refine (unhide hPop).mono ?_
                    rintro e w8 ⟨rfl, rv8, f8, hh8, hc8, hn8⟩
                    have hw8 : Blk w8 g11 3 (tab p fun a => iv (wts part E os a)) := hc8.blk (unhide HW) (fun h => by
                      rcases h with h | h
                      · omega
                      · have := (unhide HOW _ h).1; omega)
                    have ho8 : w8.ownsRow (gN + 1) 25 1 (.slice Av Lo cv) Lo (os.map V) := hc8.own (unhide HO) (fun i hi h => by
                      rcases h with h | h
                      · have := ((unhide HO).lt i hi).1; omega
                      · exact unhide HOO _ h hi)
                    have hch8 : Chg W7 w8 (Co gN g11 (gN + 1)) := (unhide HCH).trans hc8 (fun i hi h => by
                      rcases h with h | h
                      · exact .inl h
                      · exact .inr (.inr (unhide HOW _ h).1))
                    have hh8' : HpM w8 gN (gN + 1) nh2 rv8 f8 (Rdy fst p (os ++ [a0]) (fun a => wts part E (os ++ [a0]) a + ((bk part E a0).drop 0).count a)) := hh8.congr (fun y => by
                      have hw' : ∀ a, wts part E (os ++ [a0]) a + ((bk part E a0).drop 0).count a = wts part E os a := fun a => (wts_put (unhide HA2)).symm
                      constructor
                      · rintro ⟨⟨a, h1, h2, h3, h4⟩, h5⟩
                        refine ⟨a, h1, ?_, (hw' a).trans h3, h4⟩
                        rw [List.mem_append, List.mem_singleton]
                        rintro (h | rfl)
                        · exact h2 h
                        · exact h5 h4
                      · rintro ⟨a, h1, h2, h3, h4⟩
                        rw [List.mem_append, List.mem_singleton, not_or] at h2
                        refine ⟨⟨a, h1, h2.1, (hw' a).symm.trans h3, h4⟩, fun h => ?_⟩
                        rw [h4] at h
                        exact h2.2 (congrArg Prod.snd h))
                    have hnd := (unhide HN7).chg hch8 (fun h => by rcases h with h | h | h <;> omega) (fun u hu b e h => by have := unhide HNG u hu b e; rcases h with h | h | h <;> omega)
                    have hbk := (unhide HK7).chg hch8 (fun h => by rcases h with h | h | h <;> omega) (fun u hu b e h => by have := unhide HKG u hu b e; rcases h with h | h | h <;> omega)
                    obtain ⟨Ln, hLn⟩ : ∃ L, (nds part k a0).length = L := ⟨_, rfl⟩
                    obtain ⟨Lb, hLb⟩ : ∃ L, (bk part E a0).length = L := ⟨_, rfl⟩
                    obtain ⟨An, cn, hvn⟩ := (hnd.own a0 ha1).shape
                    obtain ⟨Ab, cb, hvb⟩ := (hbk.own a0 ha1).shape
                    have hob := hbk.own a0 ha1
                    rw [hLn] at hvn
                    rw [hLb, hvb] at hob
                    rw [hLb] at hvb hob
                    have n1 : w8.cell? ⟨g9, a0, none⟩ = some (.slice An Ln cn) := by rw [← hvn]; exact (hnd.blk.cell a0).trans (tab_at _ ha1)
                    have b1 : w8.cell? ⟨g11 + 1, a0, none⟩ = some (.slice Ab Lb cb) := by rw [← hvb]; exact (hbk.blk.cell a0).trans (tab_at _ ha1)
                    have ha0 : (0 : Int) ≤ (a0 : Int) := by omega
                    have haI : (a0 : Int) < (p : Int) := by omega
                    have hz8 : gN + 1 ≤ w8.heap.size := Nat.le_trans hz7 hch8.size
                    have HW8 := hide hw8
                    have HO8 := hide ho8
                    have HCH8 := hide hch8
                    have HH8 := hide hh8'
                    have HVN := Lib.hid hvn
                    have HLB := Lib.hid hLb
                    have HVB := Lib.hid hvb
                    have HC24 : Hid (Lo + 1 ≤ maxLen ∧ (Lo + 1) * 24 ≤ 140737488355328) := cap24 (by omega)
                    clear hh8 hc8 hn8 hw8 ho8 hch8 hh8' hnd hbk hvn hvb hLn hLb hPop HW HO HCH HOO HOW
                    go_wp2_with (first
                      | (at_builtin
                         refine wpList_app1 w8 rfl (.tmp 126) (.tmp 131) 43 rfl elem_rows (gN + 1) (.slice Av Lo cv) Lo (os.map V) rfl (unhide HO8) (.slice An Ln cn) w8.heap.size rfl rfl rfl HC24.out hz8 ?_
                         intro v9 w9 ho9 hg9' hr9
                         obtain ⟨A9, c9, rfl⟩ := ho9.shape
                         have hno : ∀ b, b < gN + 1 → some b ≠ Value.ownBlock (.slice Av Lo cv) := fun b hb e => by have := ((unhide HO8).lt b e.symm).1; omega
                         have b19 : w9.cell? ⟨g11 + 1, a0, none⟩ = some (.slice Ab Lb cb) := hg9'.cell b1 (hno (g11 + 1) (by omega))
                         have HW9 := hide ((unhide HW8).grown hg9' (hno g11 (by omega)))
                         have HCH9 := hide ((unhide HCH8).grown hg9' (fun i e hi => .inr (.inr ((unhide HO8).lt i e).1)))
                         have hh9 : HpM w9 gN (gN + 1) nh2 rv8 f8 (Rdy fst p (os ++ [a0]) (fun a => wts part E (os ++ [a0]) a + ((bk part E a0).drop 0).count a)) := ⟨⟨(unhide HH8).mem.blk.grown hg9' (hno gN (by omega)), (Chg.of_grown hg9').own (unhide HH8).mem.own (fun i hi h => own_own_ne (unhide HH8).mem.own (unhide HO8) (by decide) hi h)⟩, (unhide HH8).hp, (unhide HH8).bag⟩
                         have HH9 := hide hh9
                         have HO9 := hide ho9
                         clear ho9 hg9' hr9 hno hh9))
                    obtain ⟨bl, hbl⟩ : ∃ l, bk part E a0 = l := ⟨_, rfl⟩
                    obtain ⟨os2, hos2⟩ : ∃ l, os ++ [a0] = l := ⟨_, rfl⟩
                    have hblm : ∀ c ∈ bl, c < p ∧ c ∉ os2 := fun c hc => by
                      rw [← hbl] at hc
                      obtain ⟨e, he, h1, h2, h3⟩ := bk_mem.1 hc
                      refine ⟨h3 ▸ unhide HPLT e he, ?_⟩
                      rw [← hos2, List.mem_append, List.mem_singleton]
                      rintro (h | rfl)
                      · have h4 := (unhide HPS2)
                        have h5 : wts part E os c = 0 := by
                          have h6 := h4.zero (a := c) (by rw [List.mem_append]; exact .inl h)
                          have h7 := wts_put (part := part) (E := E) (a := c) (unhide HA2)
                          obtain ⟨kk, hkk, hcc⟩ := List.getElem_of_mem h
                          have h8 := h4.free kk c (by rw [List.getElem?_append_left hkk, ← hcc]; exact List.getElem?_eq_getElem hkk)
                          have h9 : ∀ e ∈ E, part e.1.toNat = c → part e.2.1.toNat ≠ c → part e.2.1.toNat ∈ os := fun e he g1 g2 => by
                            have := wts_zero.1 h8 e he g1 g2
                            rw [List.take_append_of_le_length (by omega)] at this
                            exact List.mem_of_mem_take this
                          exact wts_zero.2 h9
                        exact (unhide HA2) (by rw [← h1]; exact wts_zero.1 h5 e he h3 (by rw [h1, ← h3]; exact fun h => h2 h.symm))
                      · exact h2 h3
                    rw [hbl, hos2] at HH9
                    rw [hbl] at HLB hob
                    have HBL := Lib.hid hbl
                    have HOS2 := Lib.hid hos2
                    have HBLM := hide hblm
                    have hzl : Lb ≤ 1048576 := by rw [← HLB.out, ← hbl]; exact Nat.le_trans (bk_len _ _ _) (by have := HL.out; omega)
                    have hbk7 := (unhide HK7).own a0 ha1
                    rw [HVB.out, hbl, HLB.out] at hbk7
                    have HBK7 := hide hbk7
                    have hbk7b : ∀ b, (Value.slice Ab Lb cb).ownBlock = some b → g11 + 1 < b ∧ b < gN := fun b e => unhide HKG a0 ha1 b (by rw [HVB.out]; exact e)
                    have HBK7B := hide hbk7b
                    clear hbl hos2 hblm hob hbk7 hbk7b HW8 HO8 HCH8 HH8 n1 b1 b19 hz8
                    obtain ⟨w9', hw9'⟩ : ∃ w : World, w = w9 := ⟨_, rfl⟩
                    subst hw9'
                    go_loopg [138] Lb (fun q t W' => ∃ (i nh3 : Nat) (rv3 : Value) (f3 : Nat → Nat × Nat), t = .int .i64 (i : Int) ∧ i + q = Lb ∧ HpM W' gN (gN + 1) nh3 rv3 f3 (Rdy fst p os2 (fun a => wts part E os2 a + (bl.drop i).count a)) ∧ Blk W' g11 3 (tab p fun a => iv (wts part E os2 a + (bl.drop i).count a)) ∧ W'.ownsRow (gN + 1) 25 1 (.slice A9 (Lo + 1) c9) (Lo + 1) (os.map V ++ [.slice An Ln cn]) ∧ Chg W7 W' (Co gN g11 (gN + 1)))
                    case atStart => exact ⟨0, _, _, _, rfl, by omega, unhide HH9, by
                      refine Eq.mp ?_ (unhide HW9)
                      congr 1
                      exact tab_congr fun a => by
                        have := wts_put (part := part) (E := E) (p := a0) (a := a) (unhide HA2)
                        rw [this, HBL.out, HOS2.out]; rfl, unhide HO9, unhide HCH9⟩
                    case round =>
                      clear HH9 HW9 HO9 HCH9
                      obtain ⟨i, nh3, rv3, f3, rfl, hiq, hh, hw, ho, hch⟩ := hrel
                      have hi0 : (0 : Int) ≤ (i : Int) := by omega
                      have hzr : gN + 1 ≤ wr.heap.size := Nat.le_trans hz7 hch.size
                      by_cases hi : i < Lb
                      · have hiI : (i : Int) < (Lb : Int) := by omega
                        obtain ⟨gq2, rfl⟩ : ∃ q, gk = q + 1 := ⟨gk - 1, by omega⟩
                        have hlB : i < bl.length := by rw [HLB.out]; exact hi
                        obtain ⟨c, hc⟩ : ∃ c, bl[i]? = some c := ⟨_, List.getElem?_eq_getElem hlB⟩
                        obtain ⟨hcp, hcos⟩ := unhide HBLM c (List.mem_of_getElem? hc)
                        have hdr : bl.drop i = c :: bl.drop (i + 1) := by
                          rw [List.drop_eq_getElem_cons hlB]
                          rw [List.getElem?_eq_getElem hlB] at hc
                          injection hc with hc
                          rw [hc]
                        obtain ⟨gb, capb, hvb, hBb, hnb, hcb⟩ := own_form (unhide HBK7) (by omega)
                        obtain ⟨rfl, rfl⟩ : Ab = some ⟨gb, 0, none⟩ ∧ cb = capb := by cases hvb; exact ⟨rfl, rfl⟩
                        have hgb := unhide HBK7B gb rfl
                        have x1 : wr.cell? ⟨gb, i, none⟩ = some (.int .i64 (c : Int)) := by
                          have h1 : wr.cell? ⟨gb, i, none⟩ = W7.cell? ⟨gb, i, none⟩ := World.cell?_of_block (hch.block gb (by omega) (fun h => by rcases h with h | h | h <;> omega))
                          rw [h1, own_cell (unhide HBK7) hi, List.getElem?_map, hc]; rfl
                        obtain ⟨wc, hwc⟩ : ∃ w, wts part E os2 c + (bl.drop (i + 1)).count c = w := ⟨_, rfl⟩
                        obtain ⟨w1c, hw1c⟩ : ∃ w, wc + 1 = w := ⟨_, rfl⟩
                        have hold : wts part E os2 c + (bl.drop i).count c = w1c := by rw [hdr, List.count_cons_self]; omega
                        have hoth : ∀ a, a ≠ c → wts part E os2 a + (bl.drop i).count a = wts part E os2 a + (bl.drop (i + 1)).count a := fun a ha => by rw [hdr, List.count_cons_of_ne (fun h => ha h.symm)]
                        have hwb : wc ≤ 3000000 := by
                          rw [← hwc]
                          have h1 := wts_le part E os2 c
                          have h2 := List.count_le_length (a := c) (l := bl.drop (i + 1))
                          have h3 := HLB.out
                          have h4 := HL.out
                          rw [List.length_drop] at h2
                          omega
                        have x2 : wr.cell? ⟨g11, c, none⟩ = some (.int .i64 (w1c : Int)) := by rw [hw.cell c, tab_at _ hcp, hold]; rfl
                        have x2f : wr.frozen? ⟨g11, c, none⟩ = false := hw.frozen c
                        have hd1 : (w1c : Int) - 1 = (wc : Int) := by omega
                        have hc0 : (0 : Int) ≤ (c : Int) := by omega
                        have hcI : (c : Int) < (p : Int) := by omega
                        obtain ⟨Wb, hWb⟩ : ∃ Wb, wr.setCell ⟨g11, c, none⟩ (.int .i64 (wc : Int)) = Wb := ⟨_, rfl⟩
                        have hcb2 : Chg wr Wb (fun b => b = g11) := by rw [← hWb]; exact Chg.of_set wr ⟨g11, c, none⟩ _
                        have hwb2 : Blk Wb g11 3 (tab p fun a => iv (wts part E os2 a + (bl.drop (i + 1)).count a)) := by
                          rw [← hWb]
                          refine hw.set_tab c _ (fun a => ?_)
                          by_cases e : a = c
                          · subst e; rw [upf_same, hwc]; rfl
                          · rw [upf_ne _ _ e, hoth a e]
                        have hhb : HpM Wb gN (gN + 1) nh3 rv3 f3 (Rdy fst p os2 (fun a => wts part E os2 a + (bl.drop i).count a)) := ⟨⟨hcb2.blk hh.mem.blk (by omega), hcb2.own hh.mem.own (fun j hj e => by have := (hh.mem.own.lt j hj).1; omega)⟩, hh.hp, hh.bag⟩
                        have hob2 := hcb2.own ho (fun j hj e => by have := (ho.lt j hj).1; omega)
                        have hchb : Chg W7 Wb (Co gN g11 (gN + 1)) := hch.trans hcb2 (fun j hj e => .inr (.inl e))
                        have hzb : gN + 1 ≤ Wb.heap.size := Nat.le_trans hz7 hchb.size
                        have x3 : Wb.cell? ⟨g11, c, none⟩ = some (.int .i64 (wc : Int)) := by rw [hwb2.cell c, tab_at _ hcp, hwc]; rfl
                        have HHB := hide hhb
                        have HWB := hide hwb2
                        have HOB := hide hob2
                        have HCHB := hide hchb
                        have HOLD := Lib.hid hold
                        have HOTH := hide hoth
                        have HWC := Lib.hid hwc
                        clear hh hw ho hch hcb2 hwb2 hhb hob2 hchb hold hoth hwc hdr hc hvb hBb hnb hcb hw1c hgb
                        by_cases hz : wc = 0
                        · have hzI : (wc : Int) = 0 := by omega
                          have hnd := (unhide HN7).chg (unhide HCHB) (fun h => by rcases h with h | h | h <;> omega) (fun u hu b e h => by have := unhide HNG u hu b e; rcases h with h | h | h <;> omega)
                          obtain ⟨L, hL1, hL2⟩ := unhide HFST c hcp
                          obtain ⟨Ax, cx, hvx⟩ := (hnd.own c hcp).shape
                          have hor := hnd.own c hcp
                          rw [hvx] at hor
                          rw [hL1] at hor hvx
                          obtain ⟨gr, capr, hv, hBr, hnr, hcr⟩ := own_form hor (by omega)
                          obtain ⟨rfl, rfl⟩ : Ax = some ⟨gr, 0, none⟩ ∧ cx = capr := by cases hv; exact ⟨rfl, rfl⟩
                          obtain ⟨fs, hfs⟩ : ∃ x, fst c = x := ⟨_, rfl⟩
                          have x4 : Wb.cell? ⟨g9, c, none⟩ = some (.slice (some ⟨gr, 0, none⟩) (L + 1) cx) := by rw [← hvx]; exact (hnd.blk.cell c).trans (tab_at _ hcp)
                          have x5 : Wb.cell? ⟨gr, 0, none⟩ = some (.int .i64 (fs : Int)) := by rw [← hfs, own_cell hor (k := 0) (by omega), List.getElem?_map, hL2]; rfl
                          have hLI : (0 : Int) < ((L + 1 : Nat) : Int) := by omega
                          have hnot : ¬ Rdy fst p os2 (fun a => wts part E os2 a + (bl.drop i).count a) (fs, c) := fun ⟨a, h1, _, h3, h2⟩ => by
                            have h2 : c = a := congrArg Prod.snd h2
                            subst h2
                            have h3 : wts part E os2 c + (bl.drop i).count c = 0 := h3
                            rw [HOLD.out] at h3
                            omega
                          have hP := hide (heapPush_any (unhide HHB) (by omega) hzb (by have := Rdy.few (unhide HHB).bag; omega) fs c hnot)
                          have hbuild := build_pair
                          have HFS2 := Lib.hid hfs
                          have HOL := hide ((unhide HHB).mem.own.lt)
                          have hon : ∀ b, rv3.ownBlock = some b → (Value.slice A9 (Lo + 1) c9).ownBlock ≠ some b := fun b h => own_own_ne (unhide HHB).mem.own (unhide HOB) (by decide) h
                          have HON := hide hon
                          clear hnd hL1 hL2 hvx hor hv hBr hnr hcr hnot hfs hon
                          rw [hzI] at x3 hd1
                          rw [hzI] at hWb
                          go_wp2_with fail
                          refine (unhide hP).mono ?_
                          rintro e w8 ⟨rfl, rv8, f8, hh8, hc8, hn8⟩
                          have HH8 := hide (hh8.congr (S' := Rdy fst p os2 (fun a => wts part E os2 a + (bl.drop (i + 1)).count a)) (fun y => by
                            constructor
                            · rintro (⟨a, h1, h2, h3, h4⟩ | rfl)
                              · refine ⟨a, h1, h2, ?_, h4⟩
                                by_cases e : a = c
                                · subst e
                                  have h3 : wts part E os2 a + (bl.drop i).count a = 0 := h3
                                  rw [HOLD.out] at h3; omega
                                · exact (unhide HOTH a e).symm.trans h3
                              · exact ⟨c, hcp, hcos, HWC.out.trans hz, by rw [HFS2.out]⟩
                            · rintro ⟨a, h1, h2, h3, h4⟩
                              by_cases e : a = c
                              · subst e; exact .inr (by rw [h4, HFS2.out])
                              · exact .inl ⟨a, h1, h2, (unhide HOTH a e).trans h3, h4⟩))
                          have HW8 := hide (hc8.blk (unhide HWB) (fun h => by
                            rcases h with h | h
                            · omega
                            · have := (unhide HOL _ h).1; omega))
                          have HO8 := hide (hc8.own (unhide HOB) (fun j hj h => by
                            rcases h with h | h
                            · have := ((unhide HOB).lt j hj).1; omega
                            · exact unhide HON _ h hj))
                          have HC8b := hide ((unhide HCHB).trans hc8 (fun i hi h => by
                            rcases h with h | h
                            · exact .inl h
                            · exact .inr (.inr (unhide HOL _ h).1)))
                          clear hh8 hc8 hn8 hP
                          go_wp2_with fail
                          go_roundg gq2
                          case rel => exact ⟨i + 1, nh3 + 1, rv8, f8, by go_num, by omega, unhide HH8, unhide HW8, unhide HO8, unhide HC8b⟩
                          case measure => omega
                        · have hzI : ¬ (wc : Int) = 0 := by omega
                          have HH8 := hide ((unhide HHB).congr (S' := Rdy fst p os2 (fun a => wts part E os2 a + (bl.drop (i + 1)).count a)) (fun y => by
                            constructor
                            · rintro ⟨a, h1, h2, h3, h4⟩
                              refine ⟨a, h1, h2, ?_, h4⟩
                              by_cases e : a = c
                              · subst e
                                have h3 : wts part E os2 a + (bl.drop i).count a = 0 := h3
                                rw [HOLD.out] at h3; omega
                              · exact (unhide HOTH a e).symm.trans h3
                            · rintro ⟨a, h1, h2, h3, h4⟩
                              refine ⟨a, h1, h2, ?_, h4⟩
                              by_cases e : a = c
                              · subst e
                                have h3 : wts part E os2 a + (bl.drop (i + 1)).count a = 0 := h3
                                rw [HWC.out] at h3; omega
                              · exact (unhide HOTH a e).trans h3))
                          go_wp2_with fail
                          go_roundg gq2
                          case rel => exact ⟨i + 1, nh3, rv3, f3, by go_num, by omega, unhide HH8, unhide HWB, unhide HOB, unhide HCHB⟩
                          case measure => omega
                      · obtain rfl : i = Lb := by omega
                        have hdl : bl.drop i = [] := List.drop_of_length_le (by have := HLB.out; omega)
                        rw [hdl] at hh hw
                        simp only [List.count_nil, Nat.add_zero] at hh hw
                        have hps2 := unhide HPS2
                        rw [HOS2.out] at hps2
                        have hV : os.map V ++ [.slice An Ln cn] = os2.map V := by rw [← HOS2.out, List.map_append, List.map_singleton, HVN.out]
                        have hl2 : os2.length = Lo + 1 := by rw [← HOS2.out, List.length_append, HLO.out]; rfl
                        rw [hV] at ho
                        have HH := hide hh
                        have HW := hide hw
                        have HO := hide (show wr.ownsRow (gN + 1) 25 1 (.slice A9 (Lo + 1) c9) os2.length (os2.map V) from by rw [hl2]; exact ho)
                        have HCH := hide hch
                        have HPS := hide hps2
                        have HL2 := Lib.hid hl2
                        clear hh hw ho hch hps2 hV hdl hl2
                        go_wp2_with fail
                        go_roundg gq
                        case rel => exact ⟨os2, nh3, rv3, f3, by rw [HL2.out]; have := HLO.out; omega, unhide HPS, unhide HH, unhide HW, unhide HO, unhide HCH⟩
                        case measure => omega
  · go_wp2_with fail
    go_ret2
    exact ⟨unhide HB1, .inl ⟨by rw [HC.out]; exact h0, by rw [HC.out]; rfl⟩⟩
end Go.Proofs.Ytmcpbmadjpjckaa
