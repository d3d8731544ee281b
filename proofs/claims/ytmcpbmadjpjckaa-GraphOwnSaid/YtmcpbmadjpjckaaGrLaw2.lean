/-
  The graph laws' own small functions: ints, turned, kept, great: the walks over the Go text.
-/
import Derived.Test.YtmcpbmadjpjckaaGrLaw
import Derived.BigQuiet
import Derived.Deep.RegionHeld3
import Derived.Deep.RegionWith
namespace Go.Proofs.Ytmcpbmadjpjckaa
open Go.RowKit

def iz (z : Int) : Value := .int .i64 z
theorem Reads.int_at {w : World} {B n k : Nat} {A : Option Addr} {xs : List Int} (h : Reads w B 1 A n (xs.map iz)) (hk : k < n) : ∃ b off x, A = some ⟨b, off, none⟩ ∧ b < B ∧ xs[k]? = some x ∧ w.cell? ⟨b, off + k, none⟩ = some (.int .i64 x) := by
  obtain ⟨b, off, u, rfl, hb, hu, hc, _⟩ := h.at0 hk
  rw [List.getElem?_map] at hu
  obtain ⟨i, hi, rfl⟩ := Option.map_eq_some_iff.1 hu
  exact ⟨b, off, i, rfl, hb, hi, hc⟩
set_option maxHeartbeats 1000000 in
theorem ints_same (W : World) (A1 A2 : Option Addr) (n c1 c2 B1 B2 : Nat) (xs : List Int) (h1 : Reads W B1 1 A1 n (xs.map iz)) (h2 : Reads W B2 1 A2 n (xs.map iz)) (hn : n ≤ 140737488355328) :
    Calls Try.prog 15 #[.slice A1 n c1, .slice A2 n c2] W fun e W' => e = .returned (.bool true) ∧ ∃ a, W' = W.drewN a := by
  have H1 := hide h1
  have H2 := hide h2
  clear h1 h2
  go_enter Try.func15, Try.ntmps15
  go_wp2_with fail
  go_loopg [5] n (fun q t W' => ∃ k a : Nat, t = .int .i64 (k : Int) ∧ k + q = n ∧ W' = W.drewN a)
  case atStart => exact ⟨0, 0, rfl, by omega, rfl⟩
  case round =>
    obtain ⟨k, a, rfl, hkq, hw⟩ := hrel
    have hk0 : (0 : Int) ≤ (k : Int) := by omega
    by_cases hk : k < n
    · have hkI : (k : Int) < (n : Int) := by omega
      obtain ⟨gq, rfl⟩ : ∃ q, gk = q + 1 := ⟨gk - 1, by omega⟩
      obtain ⟨b1, o1, x1, rfl, _, hx1, hc1⟩ := (unhide H1).int_at hk
      obtain ⟨b2, o2, x2, rfl, _, hx2, hc2⟩ := (unhide H2).int_at hk
      obtain rfl : x1 = x2 := by rw [hx1] at hx2; injection hx2
      have d1 : wr.cell? ⟨b1, o1 + k, none⟩ = some (.int .i64 x1) := by rw [hw]; exact hc1
      have d2 : wr.cell? ⟨b2, o2 + k, none⟩ = some (.int .i64 x1) := by rw [hw]; exact hc2
      have HW := Lib.hid hw
      clear hx1 hx2 hc1 hc2 hw
      go_wp2_with fail
      go_quiet (fail)
      rename_i nq
      go_wp2_with fail
      go_roundg gq
      case rel => exact ⟨k + 1, a + nq, by go_num, by omega, by rw [HW.out, World.drewN_drewN]⟩
      case measure => omega
    · obtain rfl : k = n := by omega
      have HW := Lib.hid hw
      clear hw
      go_wp2_with fail
      go_ret
      exact ⟨rfl, a, HW.out⟩

/-- An edge the other way round. -/
def swE (e : Int × Int × Int) : Int × Int × Int := (e.2.1, e.1, e.2.2)
theorem elem_arr : ElemOf Try.prog 22 53 3 24 := .mk' (.agg #[.int .i64 0, .int .i64 0, .int .i64 0]) Try.underlying22 (by kernel_rfl) rfl (by omega)
theorem build_arr3 (x y z : Int) (W : World) : (Instr.build 53 #[(0, .int .i64 x), (1, .int .i64 y), (2, .int .i64 z)]).run Try.prog W = .ok (.agg #[.int .i64 x, .int .i64 y, .int .i64 z]) W :=
  run_build W _ _ _ (by kernel_rfl)
attribute [local go_sem ↓] appSem_eq in
set_option maxRecDepth 100000 in
set_option maxHeartbeats 2000000 in
theorem turned_any (W : World) (n : Int) (A : Option Addr) (m cap B0 : Nat) (E : List (Int × Int × Int)) (hr : Reads W B0 3 A m (ecells E)) (hB0 : B0 ≤ W.heap.size) (hm : m ≤ 5864062014700) :
    Calls Try.prog 17 #[.agg #[.int .i64 n, .slice A m cap]] W fun e W' => ∃ A' c', e = .returned (.agg #[.int .i64 n, .slice A' m c']) ∧ W'.ownsRow W.heap.size 53 3 (.slice A' m c') m (ecells (E.map swE)) ∧ Below W.heap.size W W' := by
  obtain ⟨x, hx⟩ : ∃ x, W.heap.size = x := ⟨_, rfl⟩
  obtain ⟨W1, hW1⟩ : ∃ W1, ((W.alloc (.cells #[.int .i64 n, .slice A m cap] 24)).alloc (.cells #[.int .i64 0, .slice none 0 0] 24)).alloc (.cells #[.int .i64 n, .slice none 0 0] 24) = W1 := ⟨_, rfl⟩
  have hb1 : Below W.heap.size W W1 := by rw [← hW1]; exact (((Below.refl _ _).alloc (Nat.le_refl _) _).alloc (by simp) _).alloc (by simp only [World.size_alloc]; omega) _
  have hx1 : Blk W1 x 24 #[.int .i64 n, .slice A m cap] := by rw [← hW1]; exact (((Blk.at_ hx).alloc _).alloc _)
  have hx2 : Blk W1 (x + 1) 24 #[.int .i64 0, .slice none 0 0] := by rw [← hW1]; exact (Blk.at_ (by simp only [World.size_alloc]; omega)).alloc _
  have hx3 : Blk W1 (x + 1 + 1) 24 #[.int .i64 n, .slice none 0 0] := by rw [← hW1]; exact Blk.at_ (by simp only [World.size_alloc]; omega)
  have hz1 : W1.heap.size = x + 3 := by rw [← hW1, ← hx]; simp
  have hr1 := hr.below (hb1.mono hB0)
  have hlen : E.length = m := by have := hr.1; rw [ecells_len] at this; omega
  have HL := Lib.hid hlen
  have HR := hide hr1
  have HX := hide hx1
  have HX2 := hide hx2
  have HX3 := hide hx3
  have HB1 := hide hb1
  have HZ := Lib.hid hz1
  have hxle : W.heap.size ≤ x ∧ x ≤ W.heap.size := by omega
  have hbuild := build_arr3
  have HW1 := Lib.hid hW1
  have HXX := Lib.hid hx
  clear hr hb1 hx1 hx2 hx3 hz1 hr1 hlen hW1 hx
  go_enter Try.func17, Try.ntmps17
  go_wp2_with fail
  rw [HW1.out, HXX.out]
  go_loopg [4] m (fun q t W' => ∃ (k : Nat) (v : Value), t = .int .i64 (k : Int) ∧ k + q = m ∧ W'.ownsRow (x + 3) 53 3 v k (ecells ((E.take k).map swE)) ∧ Blk W' (x + 1 + 1) 24 #[.int .i64 n, v] ∧ Chg W1 W' (fun b => b = x + 1 + 1))
  case atStart => exact ⟨0, _, rfl, by omega, ⟨rfl, .inl ⟨rfl, rfl⟩⟩, unhide HX3, Chg.refl _ _⟩
  case round =>
    obtain ⟨k, v, rfl, hkq, ho, hy, hc⟩ := hrel
    obtain ⟨Av, cv, rfl⟩ := ho.shape
    clear HX3
    have hk0 : (0 : Int) ≤ (k : Int) := by omega
    have hxr := hc.blk (unhide HX) (by omega)
    have hx2r := hc.blk (unhide HX2) (by omega)
    have x1 : wr.cell? ⟨x, 1, none⟩ = some (.slice A m cap) := hxr.cell 1
    have y1 : wr.cell? ⟨x + 1 + 1, 1, none⟩ = some (.slice Av k cv) := hy.cell 1
    have y1f : wr.frozen? ⟨x + 1 + 1, 1, none⟩ = false := hy.frozen 1
    have hzr : x + 3 ≤ wr.heap.size := by have := hc.size; have := HZ.out; omega
    by_cases hk : k < m
    · have hbr : Below B0 W1 wr := hc.below (by have := HZ.out; omega) (fun i hi e => by omega)
      obtain ⟨b, off, f, t, g, rfl, hbB, he, c1, c2, c3⟩ := ((unhide HR).below hbr).edge hk
      have hkm : (k : Int) < (m : Int) := by omega
      obtain ⟨gq, rfl⟩ : ∃ q, gk = q + 1 := ⟨gk - 1, by omega⟩
      have hsnoc : (E.take (k + 1)).map swE = (E.take k).map swE ++ [(t, f, g)] := by rw [List.take_add_one, he, Option.toList_some, List.map_append]; rfl
      obtain ⟨v4, w4, hrun, ho4, hg4, hr4⟩ := run_appn (P := Try.prog) wr elem_arr (x + 3) (.slice Av k cv) k (ecells ((E.take k).map swE)) ho [.int .i64 t, .int .i64 f, .int .i64 g] rfl (three_one t f g) (cap24e (by omega)) hzr
      obtain ⟨A4, c4, rfl⟩ := ho4.shape
      have hno : ∀ b, b < x + 3 → some b ≠ Value.ownBlock (.slice Av k cv) := fun b hb e => by have := (ho.lt b e.symm).1; omega
      have hy4 := hy.grown hg4 (hno _ (by omega))
      have z1 : w4.cell? ⟨x + 1 + 1, 1, none⟩ = some (.slice Av k cv) := hy4.cell 1
      have z1f : w4.frozen? ⟨x + 1 + 1, 1, none⟩ = false := hy4.frozen 1
      have k1 : (wr.alloc (.cells #[.int .i64 t, .int .i64 f, .int .i64 g] 53)).drew.cell? ⟨x + 1 + 1, 1, none⟩ = some (.slice Av k cv) := (World.cell?_alloc_lt wr _ ⟨x + 1 + 1, 1, none⟩ (by show x + 1 + 1 < wr.heap.size; omega)).trans y1
      have HY5 := hide (hy4.set_ 1 (.slice A4 (k + 1) c4))
      have HC4 := hide ((hc.grown hg4 (fun i e hi => by have := (ho.lt i e).1; have := HZ.out; omega)).set_ ⟨x + 1 + 1, 1, none⟩ (.slice A4 (k + 1) c4) (fun _ => rfl))
      have HO4 := hide ((Chg.of_set w4 ⟨x + 1 + 1, 1, none⟩ (.slice A4 (k + 1) c4)).own ho4 (fun i hi e => by have := (ho4.lt i hi).1; simp only at e; omega))
      have HSN := Lib.hid hsnoc
      clear he hsnoc ho hc hxr hx2r ho4 hg4 hr4 hy hy4 hno hbr
      go_wp2_with fail
      go_region
      go_wp2_with fail
      go_roundg gq
      case rel => exact ⟨k + 1, _, by go_num, by omega, by rw [HSN.out, ecells_snoc]; exact unhide HO4, unhide HY5, unhide HC4⟩
      case measure => omega
    · obtain rfl : k = m := by omega
      rw [List.take_of_length_le (by have := HL.out; omega)] at ho
      have y0 : wr.cell? ⟨x + 1 + 1, 0, none⟩ = some (.int .i64 n) := hy.cell 0
      have u0 : wr.cell? ⟨x + 1, 0, none⟩ = some (.int .i64 0) := hx2r.cell 0
      have u1 : wr.cell? ⟨x + 1, 1, none⟩ = some (.slice none 0 0) := hx2r.cell 1
      have f0 : wr.frozen? ⟨x + 1, 0, none⟩ = false := hx2r.frozen 0
      have f1 : wr.frozen? ⟨x + 1, 1, none⟩ = false := hx2r.frozen 1
      have hox := (Chg.of_set _ ⟨x + 1, 1, none⟩ (.slice Av k cv)).own ((Chg.of_set wr ⟨x + 1, 0, none⟩ (.int .i64 n)).own ho (fun i hi e => by have := (ho.lt i hi).1; simp only at e; omega)) (fun i hi e => by have := (ho.lt i hi).1; simp only at e; omega)
      have HO := hide (hox.base (base' := W.heap.size) (by omega))
      have hcx := (hc.below (B := W.heap.size) (by have := HZ.out; omega) (fun i hi e => by omega))
      have HB := hide ((((unhide HB1).trans hcx).setCell (p := ⟨x + 1, 0, none⟩) (by show W.heap.size ≤ x + 1; omega) (.int .i64 n)).setCell (p := ⟨x + 1, 1, none⟩) (by show W.heap.size ≤ x + 1; omega) (.slice Av k cv))
      have hr0 := ((hx2r.set_ 0 (.int .i64 n)).set_ 1 (.slice Av k cv))
      have r0 : ((wr.setCell ⟨x + 1, 0, none⟩ (.int .i64 n)).setCell ⟨x + 1, 1, none⟩ (.slice Av k cv)).cell? ⟨x + 1, 0, none⟩ = some (.int .i64 n) := hr0.cell 0
      have r1 : ((wr.setCell ⟨x + 1, 0, none⟩ (.int .i64 n)).setCell ⟨x + 1, 1, none⟩ (.slice Av k cv)).cell? ⟨x + 1, 1, none⟩ = some (.slice Av k cv) := hr0.cell 1
      clear ho hc hxr hx2r hy hox hcx hr0
      go_wp2_with fail
      exact bodyPost_ret (v := .agg #[.int .i64 n, .slice Av k cv]) (by simp [results, Try.results17, go_sem, r0, r1]) rfl ⟨Av, cv, rfl, unhide HO, unhide HB⟩
theorem Reads.edge_mark {w : World} {base g m cap : Nat} {E : List (Int × Int × Int)} (h : EdS w base g m cap E) (hl : E.length = m) : w.cell? ⟨g, m * 3, none⟩ = some (.int .i64 (-77)) := by
  obtain ⟨b, off, f, t, gw, hA, _, he, c1, _, _⟩ := (Reads.of_own h).edge (k := m) (by omega)
  injection hA with hA
  injection hA with e1 e2
  subst e1 e2
  rw [List.getElem?_append_right (by omega), hl, Nat.sub_self] at he
  injection he with he
  injection he with he
  subst he
  rw [Nat.zero_add] at c1
  exact c1
theorem own_cap {w : World} {base g n cap : Nat} {e : TypeId} {s : Nat} {xs : List Value} (h : w.ownsRow base e s (.slice (some ⟨g, 0, none⟩) n cap) n xs) : n ≤ cap ∧ cap ≤ 9223372036854775807 := by
  rcases h.2 with ⟨h', _⟩ | ⟨_, _, _, h', _, _, h1, h2, _⟩
  · cases h'
  · cases h'; exact ⟨h1, by simp only [maxLen] at h2; omega⟩
set_option maxRecDepth 100000 in
set_option maxHeartbeats 2000000 in
theorem kept_any (W : World) (n : Int) (A : Option Addr) (m cap B0 base g c : Nat) (E : List (Int × Int × Int)) (hr : Reads W B0 3 A m (ecells E)) (hB0 : B0 ≤ W.heap.size) (hm : m ≤ 5864062014700) (hl : EdS W base g m c E) :
    Calls Try.prog 16 #[.agg #[.int .i64 n, .slice A m cap], .slice (some ⟨g, 0, none⟩) m c] W fun e W' => e = .returned (.bool true) ∧ Below W.heap.size W W' := by
  obtain ⟨W1, hW1⟩ : ∃ W1, W.alloc (.cells #[.int .i64 n, .slice A m cap] 24) = W1 := ⟨_, rfl⟩
  obtain ⟨x, hx⟩ : ∃ x, W.heap.size = x := ⟨_, rfl⟩
  have hb1 : Below W.heap.size W W1 := by rw [← hW1]; exact (Below.refl _ _).alloc (Nat.le_refl _) _
  have hx1 : Blk W1 x 24 #[.int .i64 n, .slice A m cap] := by rw [← hW1, ← hx]; exact Blk.new _ _ _
  have hr1 := hr.below (hb1.mono hB0)
  have hl1 : EdS W1 base g m c E := (Chg.of_below hb1 (fun _ => False)).own hl (fun _ _ h => h)
  have hlen : E.length = m := by have := hr.1; rw [ecells_len] at this; omega
  have hmk := Reads.edge_mark hl1 hlen
  have hcp := own_cap hl1
  have x1 : W1.cell? ⟨x, 1, none⟩ = some (.slice A m cap) := hx1.cell 1
  have hsl := fun W => run_first elem_edge (g := g) (n := m + 1) (N := m) (cap := c) (by omega) W
  have HR := hide hr1
  have HL1 := hide hl1
  have HL := Lib.hid hlen
  have HX := hide hx1
  have HB1 := hide hb1
  have hm1 : (m : Int) < ((m + 1 : Nat) : Int) := by omega
  have hm0 : (0 : Int) ≤ (m : Int) := by omega
  obtain ⟨M, hM⟩ : ∃ M, m + 1 = M := ⟨_, rfl⟩
  have hw1 : IntKind.i64.wrap ((m : Int) + 1) = (M : Int) := by rw [IntWalk.i64_in _ (by omega)]; omega
  rw [hM] at hsl hm1
  have HM := Lib.hid hM
  have HXX := Lib.hid hx
  have hbuild := build_edge
  clear hr hl hb1 hx1 hr1 hl1 hlen hM
  go_enter Try.func16, Try.ntmps16
  go_wp2_with fail
  clear hmk hsl
  go_loopg [5] m (fun q t W' => ∃ k a : Nat, t = .int .i64 (k : Int) ∧ k + q = m ∧ W' = W1.drewN a)
  case atStart => exact ⟨0, 0, rfl, by omega, rfl⟩
  case round =>
    obtain ⟨k, a, rfl, hkq, hw⟩ := hrel
    have hk0 : (0 : Int) ≤ (k : Int) := by omega
    by_cases hk : k < m
    · have hkI : (k : Int) < (m : Int) := by omega
      obtain ⟨gq, rfl⟩ : ∃ q, gk = q + 1 := ⟨gk - 1, by omega⟩
      obtain ⟨b, off, f, t, gw, rfl, _, he, c1, c2, c3⟩ := (unhide HR).edge hk
      obtain ⟨b2, off2, f2, t2, gw2, hA, _, he2, d1, d2, d3⟩ := (Reads.of_own (unhide HL1)).edge (k := k) (by omega)
      injection hA with hA
      injection hA with e1 e2
      subst e1 e2
      rw [Nat.zero_add] at d1 d2 d3
      rw [List.getElem?_append_left (by have := HL.out; omega), he] at he2
      injection he2 with he2
      cases he2
      have x1r : wr.cell? ⟨x, 1, none⟩ = some (.slice (some ⟨b, off, none⟩) m cap) := by rw [hw]; exact x1
      have c1r : wr.cell? ⟨b, off + k * 3, none⟩ = some (.int .i64 f) := by rw [hw]; exact c1
      have c2r : wr.cell? ⟨b, off + k * 3 + 1, none⟩ = some (.int .i64 t) := by rw [hw]; exact c2
      have c3r : wr.cell? ⟨b, off + k * 3 + 2, none⟩ = some (.int .i64 gw) := by rw [hw]; exact c3
      have d1r : wr.cell? ⟨g, k * 3, none⟩ = some (.int .i64 f) := by rw [hw]; exact d1
      have d2r : wr.cell? ⟨g, k * 3 + 1, none⟩ = some (.int .i64 t) := by rw [hw]; exact d2
      have d3r : wr.cell? ⟨g, k * 3 + 2, none⟩ = some (.int .i64 gw) := by rw [hw]; exact d3
      have HW := Lib.hid hw
      clear he c1 c2 c3 d1 d2 d3 hw x1
      go_wp2_with fail
      go_quiet (fail)
      rename_i nq
      go_wp2_with fail
      go_roundg gq
      case rel => exact ⟨k + 1, a + nq, by go_num, by omega, by rw [HW.out, World.drewN_drewN]⟩
      case measure => omega
    · obtain rfl : k = m := by omega
      have HW := Lib.hid hw
      clear hw
      go_wp2_with fail
      go_ret
      exact ⟨rfl, by rw [HW.out]; exact below_drewN (unhide HB1) a⟩

/-- What great answers: whatever it is, memory stays. -/
def GreatOut (W : World) (e : Ending) (W' : World) : Prop := ∃ b : Bool, e = .returned (.bool b) ∧ Below W.heap.size W W'
set_option maxRecDepth 100000 in
set_option maxHeartbeats 4000000 in
theorem great_any (W : World) (n : Int) (A : Option Addr) (m cap B0 : Nat) (E : List (Int × Int × Int)) (hr : Reads W B0 3 A m (ecells E)) (hB0 : B0 ≤ W.heap.size) (hm : m ≤ 5864062014700) :
    Calls Try.prog 8 #[.agg #[.int .i64 n, .slice A m cap]] W (GreatOut W) := by
  obtain ⟨W1, hW1⟩ : ∃ W1, W.alloc (.cells #[.int .i64 n, .slice A m cap] 24) = W1 := ⟨_, rfl⟩
  obtain ⟨x, hx⟩ : ∃ x, W.heap.size = x := ⟨_, rfl⟩
  have hb1 : Below W.heap.size W W1 := by rw [← hW1]; exact (Below.refl _ _).alloc (Nat.le_refl _) _
  have hx1 : Blk W1 x 24 #[.int .i64 n, .slice A m cap] := by rw [← hW1, ← hx]; exact Blk.new _ _ _
  have hr1 := hr.below (hb1.mono hB0)
  have hz1 : B0 ≤ W1.heap.size := Nat.le_trans hB0 hb1.size
  have x0 : W1.cell? ⟨x, 0, none⟩ = some (.int .i64 n) := hx1.cell 0
  have x1 : W1.cell? ⟨x, 1, none⟩ = some (.slice A m cap) := hx1.cell 1
  have hlt := hx1.lt
  have hP := hide (fun (w : World) (hb : Below W1.heap.size W1 w) => hide (plain_any w n A m cap B0 E (hr1.below (hb.mono hz1)) (Nat.le_trans hz1 hb.size) hm))
  have hK := hide (fun (w : World) (A' : Option Addr) (c' : Nat) (base : Nat) (h : w.ownsRow base 65 3 (.slice A' m c') m (ecells E)) => hide (refCheck_any w n A' m c' w.heap.size E (Reads.of_own h) (Nat.le_refl _) (by omega)))
  have HB1 := hide hb1
  have HX1 := hide hx1
  have HXX := Lib.hid hx
  clear hr hb1 hx1 hr1
  go_enter Try.func8, Try.ntmps8
  by_cases h1 : 120 < n
  · have h1d : decide (120 < n) = true := decide_eq_true h1
    clear h1
    go_wp2_with fail
    (first | go_region_with ((first
      | (go_at_call 13; (with_reducible refine (unhide ((unhide hP) _ (by first | exact (Below.refl _ _).drew | exact Below.refl _ _))).mono ?_); rintro e w8 ⟨A8, c8, rfl, ho8, hb8⟩
         have hb78 : Below W1.heap.size W1 w8 := (show Below W1.heap.size W1 _ from (by first | exact (Below.refl _ _).drew | exact Below.refl _ _)).trans hb8
         have hx8 := (unhide HX1).below hb78 hlt
         have d0 : w8.cell? ⟨x, 0, none⟩ = some (.int .i64 n) := hx8.cell 0
         have hK8 := hide ((unhide hK) w8 A8 c8 _ ho8)
         have HB8 := hide hb78
         clear hb8 hb78 hx8 ho8)
      | (go_at_call 26; (with_reducible refine (unhide (unhide hK8)).mono ?_); rintro e w9 ⟨rfl, hb9⟩
         have hb79 : Below W1.heap.size W1 w9 := (unhide HB8).trans (hb9.mono (unhide HB8).size)
         have HB9 := hide hb79
         clear hb9 hb79))) | fail)
    all_goals
      go_wp2_with fail
      go_ret
      exact ⟨_, rfl, (unhide HB1).trans ((unhide HB9).mono (unhide HB1).size)⟩
  · by_cases h2 : 600 < m
    · have h1d : decide (120 < n) = false := decide_eq_false h1
      have h2d : decide ((600 : Int) < (m : Int)) = true := decide_eq_true (by omega)
      clear h1 h2
      go_wp2_with fail
      (first | go_region_with ((first
        | (go_at_call 13; (with_reducible refine (unhide ((unhide hP) _ (by first | exact (Below.refl _ _).drew | exact Below.refl _ _))).mono ?_); rintro e w8 ⟨A8, c8, rfl, ho8, hb8⟩
           have hb78 : Below W1.heap.size W1 w8 := (show Below W1.heap.size W1 _ from (by first | exact (Below.refl _ _).drew | exact Below.refl _ _)).trans hb8
           have hx8 := (unhide HX1).below hb78 hlt
           have d0 : w8.cell? ⟨x, 0, none⟩ = some (.int .i64 n) := hx8.cell 0
           have hK8 := hide ((unhide hK) w8 A8 c8 _ ho8)
           have HB8 := hide hb78
           clear hb8 hb78 hx8 ho8)
        | (go_at_call 26; (with_reducible refine (unhide (unhide hK8)).mono ?_); rintro e w9 ⟨rfl, hb9⟩
           have hb79 : Below W1.heap.size W1 w9 := (unhide HB8).trans (hb9.mono (unhide HB8).size)
           have HB9 := hide hb79
           clear hb9 hb79))) | fail)
      all_goals
        go_wp2_with fail
        go_ret
        exact ⟨_, rfl, (unhide HB1).trans ((unhide HB9).mono (unhide HB1).size)⟩
    · have h1d : decide (120 < n) = false := decide_eq_false h1
      have h2d : decide ((600 : Int) < (m : Int)) = false := decide_eq_false (by omega)
      clear h1 h2
      go_wp2_with fail
      go_quiet (fail)
      go_wp2_with fail
      go_ret
      exact ⟨false, rfl, below_drewN (unhide HB1) _⟩
end Go.Proofs.Ytmcpbmadjpjckaa
