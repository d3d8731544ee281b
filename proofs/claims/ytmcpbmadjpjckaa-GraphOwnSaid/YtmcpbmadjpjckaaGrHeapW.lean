/-
  The heap of what may stand next, in memory: its methods and container/heap's Push and Pop: the walks over the Go text.
-/
import Derived.Test.YtmcpbmadjpjckaaGrHeap
import Derived.Test.YtmcpbmadjpjckaaGrFr
import Derived.Test.YtmcpbmadjpjckaaGrNet
import Derived.BigQuiet
import Derived.BigRegion
namespace Go.Proofs.Ytmcpbmadjpjckaa
open Go.RowKit

/-- The heap's cells. -/
def hc (n : Nat) (f : Nat → Nat × Nat) : List Value := fcells ((List.range n).map f)
theorem hc_len (n : Nat) (f : Nat → Nat × Nat) : (hc n f).length = n * 2 := by rw [hc, fcells_len]; simp
theorem fcells_get : ∀ (l : List (Nat × Nat)) {k : Nat} {e : Nat × Nat}, l[k]? = some e → (fcells l)[2 * k]? = some (iv e.1) ∧ (fcells l)[2 * k + 1]? = some (iv e.2)
  | [], k, e, h => by cases h
  | x :: r, 0, e, h => by
    simp at h
    subst h
    exact ⟨rfl, rfl⟩
  | x :: r, k + 1, e, h => by
    have ih := fcells_get r (k := k) (e := e) (by simpa using h)
    have hx : fcells (x :: r) = [iv x.1, iv x.2] ++ fcells r := rfl
    rw [hx]
    refine ⟨?_, ?_⟩
    · rw [List.getElem?_append_right (by simp; omega)]; rw [show 2 * (k + 1) - [iv x.1, iv x.2].length = 2 * k by simp; omega]; exact ih.1
    · rw [List.getElem?_append_right (by simp; omega)]; rw [show 2 * (k + 1) + 1 - [iv x.1, iv x.2].length = 2 * k + 1 by simp; omega]; exact ih.2
theorem hc_get {n : Nat} (f : Nat → Nat × Nat) {k : Nat} (h : k < n) : (hc n f)[2 * k]? = some (iv (f k).1) ∧ (hc n f)[2 * k + 1]? = some (iv (f k).2) :=
  fcells_get _ (by rw [List.getElem?_map, List.getElem?_range h]; rfl)
/-- Two lists of pairs of one length are one if their cells are. -/
theorem hc_set {n : Nat} (f : Nat → Nat × Nat) {k : Nat} (h : k < n) (x : Nat × Nat) : ((hc n f).set (k * 2) (iv x.1)).set (k * 2 + 1) (iv x.2) = hc n (upf f k x) := by
  apply List.ext_getElem?
  intro j
  by_cases hj : j < n * 2
  · have e : j = 2 * (j / 2) ∨ j = 2 * (j / 2) + 1 := by omega
    have hq : j / 2 < n := by omega
    obtain ⟨q, hqe⟩ : ∃ q, j / 2 = q := ⟨_, rfl⟩
    rw [hqe] at e hq
    obtain ⟨a1, a2⟩ := hc_get f hq
    obtain ⟨b1, b2⟩ := hc_get (upf f k x) hq
    by_cases ek : q = k
    · subst ek
      rw [upf_same] at b1 b2
      rcases e with e | e
      · subst e
        rw [b1, List.getElem?_set_ne (by omega), Nat.mul_comm q 2, List.getElem?_set_self (by rw [hc_len]; omega)]
      · subst e
        rw [b2, Nat.mul_comm q 2, List.getElem?_set_self (by rw [List.length_set, hc_len]; omega)]
    · rw [upf_ne _ _ ek] at b1 b2
      rw [List.getElem?_set_ne (by omega), List.getElem?_set_ne (by omega)]
      rcases e with e | e <;> subst e
      · rw [a1, b1]
      · rw [a2, b2]
  · rw [List.getElem?_eq_none (by rw [List.length_set, List.length_set, hc_len]; omega), List.getElem?_eq_none (by rw [hc_len]; omega)]
theorem elem_pair : ElemOf Try.prog 67 70 2 16 := .mk' (.agg #[.int .i64 0, .int .i64 0]) Try.underlying67 (by kernel_rfl) rfl (by omega)
/-- The heap, in memory. -/
structure HpS (W : World) (gN B n : Nat) (rv : Value) (f : Nat → Nat × Nat) : Prop where
  blk : Blk W gN 67 #[rv]
  own : W.ownsRow B 70 2 rv n (hc n f)
section
variable {W : World} {gN B n : Nat} {f : Nat → Nat × Nat} {A : Option Addr} {c : Nat}
set_option maxHeartbeats 1000000 in
theorem less_any (h : W.ownsRow B 70 2 (.slice A n c) n (hc n f)) {i j : Nat} (hi : i < n) (hj : j < n) :
    Calls Try.prog 68 #[.slice A n c, .int .i64 (i : Int), .int .i64 (j : Int)] W fun e W' => e = .returned (.bool (decide ((f i).1 < (f j).1))) ∧ ∃ a, W' = W.drewN a := by
  obtain ⟨g, cap, hv, hB, hn, hcm⟩ := own_form2 h (by omega)
  obtain ⟨rfl, rfl⟩ : A = some ⟨g, 0, none⟩ ∧ c = cap := by cases hv; exact ⟨rfl, rfl⟩
  have c1 : W.cell? ⟨g, i * 2, none⟩ = some (.int .i64 ((f i).1 : Int)) := by rw [own_cell2 h (by omega), Nat.mul_comm]; exact (hc_get f hi).1
  have c2 : W.cell? ⟨g, j * 2, none⟩ = some (.int .i64 ((f j).1 : Int)) := by rw [own_cell2 h (by omega), Nat.mul_comm]; exact (hc_get f hj).1
  have hi0 : (0 : Int) ≤ (i : Int) := by omega
  have hj0 : (0 : Int) ≤ (j : Int) := by omega
  have hiI : (i : Int) < (n : Int) := by omega
  have hjI : (j : Int) < (n : Int) := by omega
  obtain ⟨x, hx⟩ : ∃ x, (f i).1 = x := ⟨_, rfl⟩
  obtain ⟨y, hy⟩ : ∃ x, (f j).1 = x := ⟨_, rfl⟩
  rw [hx] at c1 ⊢
  rw [hy] at c2 ⊢
  clear h hv hx hy
  go_enter Try.func68, Try.ntmps68
  go_wp2_with fail
  go_quiet (fail)
  rename_i nq
  go_wp2_with fail
  go_ret
  exact ⟨by simp, nq, rfl⟩
set_option maxHeartbeats 1000000 in
theorem swap_any (h : W.ownsRow B 70 2 (.slice A n c) n (hc n f)) {i j : Nat} (hi : i < n) (hj : j < n) :
    Calls Try.prog 69 #[.slice A n c, .int .i64 (i : Int), .int .i64 (j : Int)] W fun e W' => e = .returned (.tuple #[]) ∧ W'.ownsRow B 70 2 (.slice A n c) n (hc n (swp f i j)) ∧ Chg W W' (fun b => (Value.slice A n c).ownBlock = some b) := by
  obtain ⟨g, cap, hv, hB, hn, hcm⟩ := own_form2 h (by omega)
  obtain ⟨rfl, rfl⟩ : A = some ⟨g, 0, none⟩ ∧ c = cap := by cases hv; exact ⟨rfl, rfl⟩
  have c1 : W.cell? ⟨g, i * 2, none⟩ = some (.int .i64 ((f i).1 : Int)) := by rw [own_cell2 h (by omega), Nat.mul_comm]; exact (hc_get f hi).1
  have c2 : W.cell? ⟨g, j * 2, none⟩ = some (.int .i64 ((f j).1 : Int)) := by rw [own_cell2 h (by omega), Nat.mul_comm]; exact (hc_get f hj).1
  have d1 : W.cell? ⟨g, i * 2 + 1, none⟩ = some (.int .i64 ((f i).2 : Int)) := by rw [own_cell2 h (by omega), Nat.mul_comm]; exact (hc_get f hi).2
  have d2 : W.cell? ⟨g, j * 2 + 1, none⟩ = some (.int .i64 ((f j).2 : Int)) := by rw [own_cell2 h (by omega), Nat.mul_comm]; exact (hc_get f hj).2
  have f1 : W.frozen? ⟨g, i * 2, none⟩ = false := own_frozen2 h _
  have f2 : W.frozen? ⟨g, j * 2, none⟩ = false := own_frozen2 h _
  have e1 : W.frozen? ⟨g, i * 2 + 1, none⟩ = false := own_frozen2 h _
  have e2 : W.frozen? ⟨g, j * 2 + 1, none⟩ = false := own_frozen2 h _
  have hi0 : (0 : Int) ≤ (i : Int) := by omega
  have hj0 : (0 : Int) ≤ (j : Int) := by omega
  have hiI : (i : Int) < (n : Int) := by omega
  have hjI : (j : Int) < (n : Int) := by omega
  have HH := hide h
  obtain ⟨x1, hx1⟩ : ∃ x : Int, ((f i).1 : Int) = x := ⟨_, rfl⟩
  obtain ⟨x2, hx2⟩ : ∃ x : Int, ((f i).2 : Int) = x := ⟨_, rfl⟩
  obtain ⟨y1, hy1⟩ : ∃ x : Int, ((f j).1 : Int) = x := ⟨_, rfl⟩
  obtain ⟨y2, hy2⟩ : ∃ x : Int, ((f j).2 : Int) = x := ⟨_, rfl⟩
  rw [hx1] at c1
  rw [hx2] at d1
  rw [hy1] at c2
  rw [hy2] at d2
  obtain ⟨v1, k1⟩ := cell?_setCell_some (w := W.drew) (p := ⟨g, i * 2, none⟩) (x := .int .i64 y1) (q := ⟨g, i * 2 + 1, none⟩) d1
  obtain ⟨u2, k2'⟩ := cell?_setCell_some (w := W.drew) (p := ⟨g, i * 2, none⟩) (x := .int .i64 y1) (q := ⟨g, j * 2, none⟩) c2
  obtain ⟨v2, k2⟩ := cell?_setCell_some (w := W.drew.setCell ⟨g, i * 2, none⟩ (.int .i64 y1)) (p := ⟨g, i * 2 + 1, none⟩) (x := .int .i64 y2) (q := ⟨g, j * 2, none⟩) k2'
  obtain ⟨u3, k3'⟩ := cell?_setCell_some (w := W.drew) (p := ⟨g, i * 2, none⟩) (x := .int .i64 y1) (q := ⟨g, j * 2 + 1, none⟩) d2
  obtain ⟨v3', k3''⟩ := cell?_setCell_some (w := W.drew.setCell ⟨g, i * 2, none⟩ (.int .i64 y1)) (p := ⟨g, i * 2 + 1, none⟩) (x := .int .i64 y2) (q := ⟨g, j * 2 + 1, none⟩) k3'
  obtain ⟨v3, k3⟩ := cell?_setCell_some (w := (W.drew.setCell ⟨g, i * 2, none⟩ (.int .i64 y1)).setCell ⟨g, i * 2 + 1, none⟩ (.int .i64 y2)) (p := ⟨g, j * 2, none⟩) (x := .int .i64 x1) (q := ⟨g, j * 2 + 1, none⟩) k3''
  simp only [World.setCell_drew, World.cell?_drew] at k1 k2 k3
  have HX1 := Lib.hid hx1
  have HX2 := Lib.hid hx2
  have HY1 := Lib.hid hy1
  have HY2 := Lib.hid hy2
  clear h hv hx1 hx2 hy1 hy2 k2' k3' k3''
  go_enter Try.func69, Try.ntmps69
  go_wp2_with fail
  go_region
  go_end0
  refine ⟨rfl, ?_, ?_⟩
  · have h := own_store2 (own_store2 (own_store2 (own_store2 (unhide HH) (i * 2) (iv (f j).1)) (i * 2 + 1) (iv (f j).2)) (j * 2) (iv (f i).1)) (j * 2 + 1) (iv (f i).2)
    rw [hc_set f hi, hc_set _ hj] at h
    simp only [iv] at h
    rw [HX1.out, HX2.out, HY1.out, HY2.out] at h
    exact h
  · exact ((((Chg.refl W (fun b => (Value.slice (some ⟨g, 0, none⟩) n c).ownBlock = some b)).set_ ⟨g, i * 2, none⟩ _ (fun _ => rfl)).set_ ⟨g, i * 2 + 1, none⟩ _ (fun _ => rfl)).set_ ⟨g, j * 2, none⟩ _ (fun _ => rfl)).set_ ⟨g, j * 2 + 1, none⟩ _ (fun _ => rfl) |>.drew
end
theorem build_pair (x y : Int) (W : World) : (Instr.build 70 #[(0, .int .i64 x), (1, .int .i64 y)]).run Try.prog W = .ok (.agg #[.int .i64 x, .int .i64 y]) W :=
  run_build W _ _ _ (by kernel_rfl)
theorem assert_pair (x y : Int) (W : World) : (Instr.typeAssert (.iface 70 (.agg #[.int .i64 x, .int .i64 y])) 20 70 false).run Try.prog W = .ok (.agg #[.int .i64 x, .int .i64 y]) W := by kernel_rfl
/-- One element appended, which stands in a block of its own, in a region that draws. -/
theorem run_appnH {P : Program} (w : World) {t e : TypeId} {s bytes : Nat} (E : ElemOf P t e s bytes) (base : Nat)
    (v : Value) (n : Nat) (xs : List Value) (hown : w.ownsRow base e s v n xs)
    (news : List Value) (hl : news.length = s) (h1 : ∀ u ∈ news, u.oneCell' = true)
    (hbytes : n + 1 ≤ maxLen ∧ (n + 1) * bytes ≤ 140737488355328) (hbase : base ≤ w.heap.size) :
    ∃ v' w', (appSem #[t, t] t #[v, .slice (some ⟨w.heap.size, 0, none⟩) 1 1]).run P (w.alloc (.cells news.toArray e)).drew = .ok v' w' ∧ w'.ownsRow base e s v' (n + 1) (xs ++ news) ∧ w.grownBy w' v.ownBlock ∧ (v'.ownBlock = v.ownBlock ∨ ∃ g, v'.ownBlock = some g ∧ w.heap.size ≤ g) := by
  obtain ⟨⟨i, z, e1, e2, e3, e4, e5, e6⟩, e7⟩ := E
  have hd : (w.alloc (.cells news.toArray e)).drew.heap.size = w.heap.size + 1 := by show (w.alloc (.cells news.toArray e)).heap.size = _; simp
  obtain ⟨v', w', hrun, h2, h3, h4⟩ := run_append_any (P := P) (w.alloc (.cells news.toArray e)).drew base t t e i z s bytes e1 e2 e3 e4 e5 e6 e7 v n xs (show (w.alloc (.cells news.toArray e)).ownsRow base e s v n xs from hown.alloc _) (w.heap.size + 1) (some ⟨w.heap.size, 0, none⟩) 1 1 news (by
    refine ⟨by omega, fun _ => ⟨_, rfl, by simp, fun j u' hu => ?_⟩⟩
    have hadd : (⟨w.heap.size, 0, none⟩ : Addr).add j = ⟨w.heap.size, j, none⟩ := by unfold Addr.add; split <;> simp_all
    rw [hadd]
    exact ((Blk.new w e news.toArray).cell j).trans (by rw [← hu]; simp)) h1 hbytes.1 hbytes.2 (by omega)
  refine ⟨v', w', hrun, h2, ⟨h3.os, h3.tape, h3.output, Nat.le_trans (by omega) h3.size, fun k hk hne => (h3.block k (by omega) hne).trans (Below.heap_alloc w _ k hk)⟩, ?_⟩
  rcases h4 with h4 | h4
  · exact .inl h4
  · exact .inr ⟨_, h4, by omega⟩
/-- What the heap's steps may turn. -/
def Ht (gN : Nat) (rv : Value) (b : Nat) : Prop := b = gN ∨ rv.ownBlock = some b
/-- Where the heap's row is now. -/
def Nx (W : World) (rv rv' : Value) : Prop := rv'.ownBlock = rv.ownBlock ∨ ∃ g, rv'.ownBlock = some g ∧ W.heap.size ≤ g
section
variable {W : World} {gN B n : Nat} {rv : Value} {f : Nat → Nat × Nat}
attribute [local go_sem ↓] appSem_eq in
set_option maxHeartbeats 1000000 in
theorem mPush_any (h : HpS W gN B n rv f) (hg : gN < B) (hB : B ≤ W.heap.size) (hn : n ≤ 1000000) (a b : Nat) :
    Calls Try.prog 71 #[.pointer (some ⟨gN, 0, none⟩), .iface 70 (.agg #[.int .i64 (a : Int), .int .i64 (b : Int)])] W fun e W' => e = .returned (.tuple #[]) ∧ ∃ rv', HpS W' gN B (n + 1) rv' (upf f n (a, b)) ∧ Chg W W' (Ht gN rv) ∧ Nx W rv rv' := by
  obtain ⟨A, c, rfl⟩ := h.own.shape
  have c1 : W.cell? ⟨gN, 0, none⟩ = some (.slice A n c) := h.blk.cell 0
  have f1 : W.frozen? ⟨gN, 0, none⟩ = false := h.blk.frozen 0
  obtain ⟨v4, w4, hrun, ho4, hg4, hr4⟩ := run_appnH (P := Try.prog) W elem_pair B (.slice A n c) n (hc n f) h.own [.int .i64 (a : Int), .int .i64 (b : Int)] rfl (by intro u hu; simp at hu; rcases hu with rfl | rfl <;> rfl) (by simp only [maxLen]; omega) hB
  obtain ⟨A4, c4, rfl⟩ := ho4.shape
  have hno : some gN ≠ Value.ownBlock (.slice A n c) := fun e => by have := (h.own.lt _ e.symm).1; omega
  have e0 : w4.cell? ⟨gN, 0, none⟩ = some (.slice A n c) := hg4.cell c1 hno
  have g0 : w4.frozen? ⟨gN, 0, none⟩ = false := (hg4.frozen_far ⟨gN, 0, none⟩ (by show gN < W.heap.size; omega) hno).trans f1
  have k0 : (W.alloc (.cells #[.int .i64 (a : Int), .int .i64 (b : Int)] 70)).drew.cell? ⟨gN, 0, none⟩ = some (.slice A n c) := (World.cell?_alloc_lt W _ ⟨gN, 0, none⟩ (by show gN < W.heap.size; omega)).trans c1
  have hS : HpS (w4.setCell ⟨gN, 0, none⟩ (.slice A4 (n + 1) c4)) gN B (n + 1) (.slice A4 (n + 1) c4) (upf f n (a, b)) := by
    refine ⟨(h.blk.grown hg4 hno).set_ 0 _, ?_⟩
    have h2 := (Chg.of_set w4 ⟨gN, 0, none⟩ (.slice A4 (n + 1) c4)).own ho4 (fun i hi e => by have := (ho4.lt i hi).1; simp only at e; omega)
    have h3 : hc (n + 1) (upf f n (a, b)) = hc n f ++ [.int .i64 (a : Int), .int .i64 (b : Int)] := by
      rw [hc, List.range_succ, List.map_append, fcells_app]
      congr 1
      · rw [hc]
        congr 1
        exact List.map_congr_left fun i hi => upf_ne _ _ (by have := List.mem_range.1 hi; omega)
      · simp [fcells, upf_same, iv]
    rw [h3]
    exact h2
  have hC : Chg W (w4.setCell ⟨gN, 0, none⟩ (.slice A4 (n + 1) c4)) (Ht gN (.slice A n c)) := ((Chg.refl W _).grown hg4 (fun i e _ => .inr e)).set_ ⟨gN, 0, none⟩ _ (fun _ => .inl rfl)
  have HN := hide (show Nx W (.slice A n c) (.slice A4 (n + 1) c4) from hr4)
  have HS := hide hS
  have HC := hide hC
  have hta := assert_pair (a : Int) (b : Int)
  clear h ho4 hg4 hr4 hno hS hC
  go_enter Try.func71, Try.ntmps71
  go_wp2_with fail
  go_region
  go_end0
  exact ⟨rfl, _, unhide HS, unhide HC, unhide HN⟩
set_option maxHeartbeats 1000000 in
theorem mPop_any (h : HpS W gN B (n + 1) rv f) (hg : gN < B) (hB : B ≤ W.heap.size) (hn : n ≤ 1000000) :
    Calls Try.prog 70 #[.pointer (some ⟨gN, 0, none⟩)] W fun e W' => e = .returned (.iface 70 (.agg #[iv (f n).1, iv (f n).2])) ∧ ∃ rv', HpS W' gN B n rv' f ∧ Chg W W' (Ht gN rv) ∧ Nx W rv rv' := by
  obtain ⟨g, c, rfl, hgB, hnc, hcm⟩ := own_form2 h.own (by omega)
  have c1 : W.cell? ⟨gN, 0, none⟩ = some (.slice (some ⟨g, 0, none⟩) (n + 1) c) := h.blk.cell 0
  have f1 : W.frozen? ⟨gN, 0, none⟩ = false := h.blk.frozen 0
  have d1 : W.cell? ⟨g, n * 2, none⟩ = some (.int .i64 ((f n).1 : Int)) := by rw [own_cell2 h.own (by omega), Nat.mul_comm]; exact (hc_get f (by omega)).1
  have d2 : W.cell? ⟨g, n * 2 + 1, none⟩ = some (.int .i64 ((f n).2 : Int)) := by rw [own_cell2 h.own (by omega), Nat.mul_comm]; exact (hc_get f (by omega)).2
  have hw1 : IntKind.i64.wrap (((n + 1 : Nat) : Int) - 1) = (n : Int) := by rw [IntWalk.i64_in _ (by omega)]; omega
  have hsl := fun W => run_first elem_pair (g := g) (n := n) (N := n + 1) (cap := c) (by omega) W
  have hn0 : (0 : Int) ≤ (n : Int) := by omega
  have hnI : (n : Int) < ((n + 1 : Nat) : Int) := by omega
  obtain ⟨M, hM⟩ : ∃ M, n + 1 = M := ⟨_, rfl⟩
  rw [hM] at c1 hw1 hsl hnI
  have hHn : HpS W gN B M (.slice (some ⟨g, 0, none⟩) M c) f := hM ▸ h
  have HM := Lib.hid hM
  have HH := hide hHn
  have hgl : g < W.heap.size := (hHn.own.lt g (by simp [Value.ownBlock])).2
  obtain ⟨o, ho⟩ : ∃ o, o = Obj.cells #[.int .i64 0, .int .i64 0] 70 := ⟨_, rfl⟩
  have k1 : (W.alloc (.cells #[.int .i64 0, .int .i64 0] 70)).drew.cell? ⟨gN, 0, none⟩ = some (.slice (some ⟨g, 0, none⟩) M c) := (World.cell?_alloc_lt W _ ⟨gN, 0, none⟩ (by show gN < W.heap.size; omega)).trans c1
  have k2 : (W.alloc (.cells #[.int .i64 0, .int .i64 0] 70)).drew.cell? ⟨g, n * 2, none⟩ = some (.int .i64 ((f n).1 : Int)) := (World.cell?_alloc_lt W _ ⟨g, n * 2, none⟩ hgl).trans d1
  have k3 : (W.alloc (.cells #[.int .i64 0, .int .i64 0] 70)).drew.cell? ⟨g, n * 2 + 1, none⟩ = some (.int .i64 ((f n).2 : Int)) := (World.cell?_alloc_lt W _ ⟨g, n * 2 + 1, none⟩ hgl).trans d2
  clear h hHn hM ho o
  go_enter Try.func70, Try.ntmps70
  go_wp2_with fail
  go_region
  go_wp2_with fail
  obtain ⟨W2, hW2⟩ : ∃ W2, (W.alloc (.cells #[.int .i64 ((f n).1 : Int), .int .i64 ((f n).2 : Int)] 70)).drew = W2 := ⟨_, rfl⟩
  obtain ⟨x, hx⟩ : ∃ x, W.heap.size = x := ⟨_, rfl⟩
  have hb2 : Below W.heap.size W W2 := by rw [← hW2]; exact ((Below.refl _ _).alloc (Nat.le_refl _) _).drew
  have hx2 : Blk W2 x 70 #[.int .i64 ((f n).1 : Int), .int .i64 ((f n).2 : Int)] := by rw [← hW2, ← hx]; exact (Blk.new _ _ _).drew
  have hH2 : HpS W2 gN B M (.slice (some ⟨g, 0, none⟩) M c) f := ⟨(unhide HH).blk.below hb2 (unhide HH).blk.lt, (Chg.of_below hb2 (fun _ => False)).own (unhide HH).own (fun _ _ h => h)⟩
  rw [hW2, hx]
  have c2 : W2.cell? ⟨gN, 0, none⟩ = some (.slice (some ⟨g, 0, none⟩) M c) := hH2.blk.cell 0
  have f2 : W2.frozen? ⟨gN, 0, none⟩ = false := hH2.blk.frozen 0
  have hxg : x ≠ gN := by omega
  have HB2 := hide hb2
  have HX2 := hide hx2
  have HH2 := hide hH2
  have HX := Lib.hid hx
  clear hW2 hb2 hx2 hH2 hx c1 f1 d1 d2 k1 k2 k3
  go_region
  obtain ⟨W3, hW3⟩ : ∃ W3, (W2.setCell ⟨gN, 0, none⟩ (.slice (some ⟨g, 0, none⟩) n c)).drew = W3 := ⟨_, rfl⟩
  have hx3 : Blk W3 x 70 #[.int .i64 ((f n).1 : Int), .int .i64 ((f n).2 : Int)] := by rw [← hW3]; exact ((unhide HX2).far (p := ⟨gN, 0, none⟩) hxg _).drew
  have hH3 : HpS W3 gN B n (.slice (some ⟨g, 0, none⟩) n c) f := by
    rw [← hW3]
    refine ⟨((unhide HH2).blk.set_ 0 _).drew, ?_⟩
    have h := (Chg.of_set W2 ⟨gN, 0, none⟩ (.slice (some ⟨g, 0, none⟩) n c)).own (unhide HH2).own (fun i hi e => by have := ((unhide HH2).own.lt i hi).1; simp only at e; omega)
    have h4 := own_cut2 h (k := n) (by have := HM.out; omega)
    have h5 : (hc M f).take (n * 2) = hc n f := by
      rw [← HM.out, hc, List.range_succ, List.map_append, fcells_app, List.take_left' (by rw [fcells_len]; simp)]
      rfl
    rw [h5] at h4
    exact h4
  have hc3 : Chg W W3 (Ht gN (.slice (some ⟨g, 0, none⟩) (n + 1) c)) := by rw [← hW3]; exact ((Chg.of_below (unhide HB2) _).set_ ⟨gN, 0, none⟩ _ (fun _ => .inl rfl)).drew
  rw [hW3]
  have e0 : W3.cell? ⟨x, 0, none⟩ = some (.int .i64 ((f n).1 : Int)) := hx3.cell 0
  have e1 : W3.cell? ⟨x, 1, none⟩ = some (.int .i64 ((f n).2 : Int)) := hx3.cell 1
  have HH3 := hide hH3
  have HC3 := hide hc3
  clear hW3 hx3 hH3 hc3 c2 f2
  go_wp2_with fail
  go_ret
  exact ⟨rfl, _, unhide HH3, unhide HC3, .inl rfl⟩
end
end Go.Proofs.Ytmcpbmadjpjckaa
