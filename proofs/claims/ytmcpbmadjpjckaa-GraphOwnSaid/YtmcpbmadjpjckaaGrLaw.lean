/-
  The graph laws' own small functions: edges, plain, ints: the walks over the Go text.
-/
import Derived.Test.YtmcpbmadjpjckaaGrDep
namespace Go.Proofs.Ytmcpbmadjpjckaa
open Go.RowKit

/-- The mark behind a law's edges. -/
def mkE : Int × Int × Int := (-77, 0, 0)
theorem ecells_app (a b : List (Int × Int × Int)) : ecells (a ++ b) = ecells a ++ ecells b := by simp [ecells]
theorem Reads.front3 {w : World} {B n k s : Nat} {A : Option Addr} {xs ys : List Value} (h : Reads w B s A (n + k) (xs ++ ys)) (hx : xs.length = n * s) : Reads w B s A n xs := by
  refine ⟨hx, fun hn => ?_⟩
  obtain ⟨ad, e, hb, hc⟩ := h.2 (by omega)
  refine ⟨ad, e, hb, fun j u hu => hc j u ?_⟩
  rw [List.getElem?_append_left (List.getElem?_eq_some_iff.1 hu).1]
  exact hu
theorem elem_redge : ElemOf Try.prog 34 65 3 24 := .mk' (.agg #[.int .i64 0, .int .i64 0, .int .i64 0]) Try.underlying34 (by kernel_rfl) rfl (by omega)
theorem build_redge (x y z : Int) (W : World) : (Instr.build 65 #[(0, .int .i64 x), (1, .int .i64 y), (2, .int .i64 z)]).run Try.prog W = .ok (.agg #[.int .i64 x, .int .i64 y, .int .i64 z]) W :=
  run_build W _ _ _ (by kernel_rfl)
/-- One element appended, which stands in a block of its own. -/
theorem run_appn0 {P : Program} (w : World) {t e : TypeId} {s bytes : Nat} (E : ElemOf P t e s bytes) (base : Nat)
    (v : Value) (n : Nat) (xs : List Value) (hown : w.ownsRow base e s v n xs)
    (news : List Value) (hl : news.length = s) (h1 : ∀ u ∈ news, u.oneCell' = true)
    (hbytes : n + 1 ≤ maxLen ∧ (n + 1) * bytes ≤ 140737488355328) (hbase : base ≤ w.heap.size) :
    ∃ v' w', (appSem #[t, t] t #[v, .slice (some ⟨w.heap.size, 0, none⟩) 1 1]).run P (w.alloc (.cells news.toArray e)) = .ok v' w' ∧ w'.ownsRow base e s v' (n + 1) (xs ++ news) ∧ w.grownBy w' v.ownBlock ∧ (v'.ownBlock = v.ownBlock ∨ ∃ g, v'.ownBlock = some g ∧ w.heap.size ≤ g) := by
  obtain ⟨⟨i, z, e1, e2, e3, e4, e5, e6⟩, e7⟩ := E
  have hd : (w.alloc (.cells news.toArray e)).heap.size = w.heap.size + 1 := by simp
  obtain ⟨v', w', hrun, h2, h3, h4⟩ := run_append_any (P := P) (w.alloc (.cells news.toArray e)) base t t e i z s bytes e1 e2 e3 e4 e5 e6 e7 v n xs (hown.alloc _) (w.heap.size + 1) (some ⟨w.heap.size, 0, none⟩) 1 1 news (by
    refine ⟨by omega, fun _ => ⟨_, rfl, by simp, fun j u' hu => ?_⟩⟩
    have hadd : (⟨w.heap.size, 0, none⟩ : Addr).add j = ⟨w.heap.size, j, none⟩ := by unfold Addr.add; split <;> simp_all
    rw [hadd]
    exact ((Blk.new w e news.toArray).cell j).trans (by rw [← hu]; simp)) h1 hbytes.1 hbytes.2 (by omega)
  refine ⟨v', w', hrun, h2, ⟨h3.os, h3.tape, h3.output, Nat.le_trans (by omega) h3.size, fun k hk hne => (h3.block k (by omega) hne).trans (Below.heap_alloc w _ k hk)⟩, ?_⟩
  rcases h4 with h4 | h4
  · exact .inl h4
  · exact .inr ⟨_, h4, by omega⟩
theorem three_one (x y z : Int) : ∀ u ∈ [Value.int .i64 x, .int .i64 y, .int .i64 z], u.oneCell' = true := by
  intro u hu
  simp at hu
  rcases hu with rfl | rfl | rfl <;> rfl
theorem ecells_snoc (E : List (Int × Int × Int)) (f t g : Int) : ecells (E ++ [(f, t, g)]) = ecells E ++ [.int .i64 f, .int .i64 t, .int .i64 g] := by simp [ecells]
theorem cap24e {n : Nat} (h : n ≤ 5864062014700) : n + 1 ≤ maxLen ∧ (n + 1) * 24 ≤ 140737488355328 := by
  simp only [maxLen]
  omega

attribute [local go_sem ↓] appSem_eq in
set_option maxRecDepth 100000 in
set_option maxHeartbeats 2000000 in
theorem plain_any (W : World) (n : Int) (A : Option Addr) (m cap B0 : Nat) (E : List (Int × Int × Int)) (hr : Reads W B0 3 A m (ecells E)) (hB0 : B0 ≤ W.heap.size) (hm : m ≤ 5864062014700) :
    Calls Try.prog 13 #[.agg #[.int .i64 n, .slice A m cap]] W fun e W' => ∃ A' c', e = .returned (.slice A' m c') ∧ W'.ownsRow W.heap.size 65 3 (.slice A' m c') m (ecells E) ∧ Below W.heap.size W W' := by
  obtain ⟨W1, hW1⟩ : ∃ W1, W.alloc (.cells #[.int .i64 n, .slice A m cap] 24) = W1 := ⟨_, rfl⟩
  obtain ⟨x, hx⟩ : ∃ x, W.heap.size = x := ⟨_, rfl⟩
  have hb1 : Below W.heap.size W W1 := by rw [← hW1]; exact (Below.refl _ _).alloc (Nat.le_refl _) _
  have hx1 : Blk W1 x 24 #[.int .i64 n, .slice A m cap] := by rw [← hW1, ← hx]; exact Blk.new _ _ _
  have hz1 : W1.heap.size = x + 1 := by rw [← hW1, ← hx]; simp
  have hr1 := hr.below (hb1.mono hB0)
  have hlen : E.length = m := by have := hr.1; rw [ecells_len] at this; omega
  have HL := Lib.hid hlen
  have HR := hide hr1
  have HX := hide hx1
  have HB1 := hide hb1
  have HZ := Lib.hid hz1
  have HXX := Lib.hid hx
  have hbuild := build_redge
  clear hr hb1 hx1 hz1 hr1 hlen hx
  go_enter Try.func13, Try.ntmps13
  go_wp2_with fail
  rw [HXX.out]
  clear hW1
  go_loopg [3, 4] m (fun q v t W' => ∃ k : Nat, t = .int .i64 (k : Int) ∧ k + q = m ∧ W'.ownsRow (x + 1) 65 3 v k (ecells (E.take k)) ∧ Below (x + 1) W1 W')
  case atStart => exact ⟨0, rfl, by omega, ⟨rfl, .inl ⟨rfl, rfl⟩⟩, Below.refl _ _⟩
  case round =>
    obtain ⟨k, rfl, hkq, ho, hb⟩ := hrel
    obtain ⟨Av, cv, rfl⟩ := ho.shape
    have hk0 : (0 : Int) ≤ (k : Int) := by omega
    have hxr := (unhide HX).below hb (by omega)
    have x1 : wr.cell? ⟨x, 1, none⟩ = some (.slice A m cap) := hxr.cell 1
    by_cases hk : k < m
    · obtain ⟨b, off, f, t, g, rfl, hbB, he, c1, c2, c3⟩ := ((unhide HR).below (hb.mono (by have := HXX.out; omega))).edge hk
      have hkm : (k : Int) < (m : Int) := by omega
      obtain ⟨gq, rfl⟩ : ∃ q, gk = q + 1 := ⟨gk - 1, by omega⟩
      have hsnoc : E.take (k + 1) = E.take k ++ [(f, t, g)] := by rw [List.take_add_one, he, Option.toList_some]
      have hzr : x + 1 ≤ wr.heap.size := by have := hb.size; have := HZ.out; omega
      obtain ⟨v4, w4, hrun, ho4, hg4, hr4⟩ := run_appn (P := Try.prog) wr elem_redge (x + 1) (.slice Av k cv) k (ecells (E.take k)) ho [.int .i64 f, .int .i64 t, .int .i64 g] rfl (three_one f t g) (cap24e (by omega)) hzr
      obtain ⟨A4, c4, rfl⟩ := ho4.shape
      have HB4 := hide (hb.grown hg4 (by have := HZ.out; omega) (fun g e => (ho.lt g e).1))
      have HO4 := hide ho4
      have HSN := Lib.hid hsnoc
      clear he hsnoc ho hb hxr ho4 hg4 hr4
      go_wp2_with fail
      go_region
      go_wp2_with fail
      go_roundg gq
      case rel => exact ⟨k + 1, by go_num, by omega, by rw [HSN.out, ecells_snoc]; exact unhide HO4, unhide HB4⟩
      case measure => omega
    · obtain rfl : k = m := by omega
      rw [List.take_of_length_le (by have := HL.out; omega)] at ho
      have HO := hide (ho.base (base' := W.heap.size) (by have := HXX.out; omega))
      have HB := hide ((unhide HB1).trans (hb.mono (by have := HXX.out; omega)))
      clear ho hb hxr
      go_wp2_with fail
      go_ret
      exact ⟨Av, cv, rfl, unhide HO, unhide HB⟩
/-- A law's edges, in memory, with the mark behind them. -/
abbrev EdS (W : World) (base g m cap : Nat) (E : List (Int × Int × Int)) : Prop := W.ownsRow base 41 3 (.slice (some ⟨g, 0, none⟩) (m + 1) cap) (m + 1) (ecells (E ++ [mkE]))
theorem build_mark (W : World) : (Instr.build 41 #[(0, .int .i64 (-77))]).run Try.prog W = .ok (.agg #[.int .i64 (-77), .int .i64 0, .int .i64 0]) W :=
  run_build W _ _ _ (by kernel_rfl)
attribute [local go_sem ↓] appSem_eq in
set_option maxRecDepth 100000 in
set_option maxHeartbeats 2000000 in
theorem edges_any (W : World) (n : Int) (A : Option Addr) (m cap B0 : Nat) (E : List (Int × Int × Int)) (hr : Reads W B0 3 A m (ecells E)) (hB0 : B0 ≤ W.heap.size) (hm : m ≤ 5864062014700) :
    Calls Try.prog 9 #[.agg #[.int .i64 n, .slice A m cap]] W fun e W' => ∃ g c', e = .returned (.slice (some ⟨g, 0, none⟩) m c') ∧ EdS W' W.heap.size g m c' E ∧ Below W.heap.size W W' := by
  obtain ⟨W1, hW1⟩ : ∃ W1, W.alloc (.cells #[.int .i64 n, .slice A m cap] 24) = W1 := ⟨_, rfl⟩
  obtain ⟨x, hx⟩ : ∃ x, W.heap.size = x := ⟨_, rfl⟩
  have hb1 : Below W.heap.size W W1 := by rw [← hW1]; exact (Below.refl _ _).alloc (Nat.le_refl _) _
  have hx1 : Blk W1 x 24 #[.int .i64 n, .slice A m cap] := by rw [← hW1, ← hx]; exact Blk.new _ _ _
  have hz1 : W1.heap.size = x + 1 := by rw [← hW1, ← hx]; simp
  have hr1 := hr.below (hb1.mono hB0)
  have hlen : E.length = m := by have := hr.1; rw [ecells_len] at this; omega
  have HL := Lib.hid hlen
  have HR := hide hr1
  have HX := hide hx1
  have HB1 := hide hb1
  have HZ := Lib.hid hz1
  have HXX := Lib.hid hx
  have hbuild := build_edge
  have hbuild2 := build_mark
  clear hr hb1 hx1 hz1 hr1 hlen hx
  go_enter Try.func9, Try.ntmps9
  go_wp2_with fail
  rw [HXX.out]
  clear hW1
  go_loopg [3, 4] m (fun q v t W' => ∃ k : Nat, t = .int .i64 (k : Int) ∧ k + q = m ∧ W'.ownsRow (x + 1) 41 3 v k (ecells (E.take k)) ∧ Below (x + 1) W1 W')
  case atStart => exact ⟨0, rfl, by omega, ⟨rfl, .inl ⟨rfl, rfl⟩⟩, Below.refl _ _⟩
  case round =>
    obtain ⟨k, rfl, hkq, ho, hb⟩ := hrel
    obtain ⟨Av, cv, rfl⟩ := ho.shape
    have hk0 : (0 : Int) ≤ (k : Int) := by omega
    have hxr := (unhide HX).below hb (by omega)
    have x1 : wr.cell? ⟨x, 1, none⟩ = some (.slice A m cap) := hxr.cell 1
    have hzr : x + 1 ≤ wr.heap.size := by have := hb.size; have := HZ.out; omega
    by_cases hk : k < m
    · obtain ⟨b, off, f, t, g, rfl, hbB, he, c1, c2, c3⟩ := ((unhide HR).below (hb.mono (by have := HXX.out; omega))).edge hk
      have hkm : (k : Int) < (m : Int) := by omega
      obtain ⟨gq, rfl⟩ : ∃ q, gk = q + 1 := ⟨gk - 1, by omega⟩
      have hsnoc : E.take (k + 1) = E.take k ++ [(f, t, g)] := by rw [List.take_add_one, he, Option.toList_some]
      obtain ⟨v4, w4, hrun, ho4, hg4, hr4⟩ := run_appn (P := Try.prog) wr elem_edge (x + 1) (.slice Av k cv) k (ecells (E.take k)) ho [.int .i64 f, .int .i64 t, .int .i64 g] rfl (three_one f t g) (cap24e (by omega)) hzr
      obtain ⟨A4, c4, rfl⟩ := ho4.shape
      have HB4 := hide (hb.grown hg4 (by have := HZ.out; omega) (fun g e => (ho.lt g e).1))
      have HO4 := hide ho4
      have HSN := Lib.hid hsnoc
      clear he hsnoc ho hb hxr ho4 hg4 hr4
      go_wp2_with fail
      go_region
      go_wp2_with fail
      go_roundg gq
      case rel => exact ⟨k + 1, by go_num, by omega, by rw [HSN.out, ecells_snoc]; exact unhide HO4, unhide HB4⟩
      case measure => omega
    · obtain rfl : k = m := by omega
      rw [List.take_of_length_le (by have := HL.out; omega)] at ho
      obtain ⟨v4, w4, hrun, ho4, hg4, hr4⟩ := run_appn0 (P := Try.prog) wr elem_edge (x + 1) (.slice Av k cv) k (ecells E) ho [.int .i64 (-77), .int .i64 0, .int .i64 0] rfl (three_one _ _ _) (cap24e (by omega)) hzr
      obtain ⟨A4, c4, rfl⟩ := ho4.shape
      obtain ⟨g4, cap4, hv4, _, _⟩ := ho4.form (by omega)
      obtain ⟨rfl, rfl⟩ : A4 = some ⟨g4, 0, none⟩ ∧ c4 = cap4 := by cases hv4; exact ⟨rfl, rfl⟩
      have hcap : k + 1 ≤ c4 := by
        rcases ho4.2 with ⟨h', _⟩ | ⟨_, _, _, h', _, _, h1, _⟩
        · cases h'
        · cases h'; exact h1
      have hB4 := hb.grown hg4 (by have := HZ.out; omega) (fun g e => (ho.lt g e).1)
      have HO := hide (ho4.base (base' := W.heap.size) (by have := HXX.out; omega))
      have HB := hide ((unhide HB1).trans (hB4.mono (by have := HXX.out; omega)))
      have hw1 : IntKind.i64.wrap (((k + 1 : Nat) : Int) - 1) = (k : Int) := by rw [IntWalk.i64_in _ (by omega)]; omega
      have hsl := fun W => run_first elem_edge (g := g4) (n := k) (N := k + 1) (cap := c4) (by omega) W
      obtain ⟨M, hM⟩ : ∃ M, k + 1 = M := ⟨_, rfl⟩
      rw [hM] at hrun hw1 hsl
      have HM := Lib.hid hM
      clear ho hb hxr ho4 hg4 hr4 hB4 hv4 hM hcap
      go_wp2_with fail
      go_ret
      refine ⟨g4, c4, rfl, ?_, unhide HB⟩
      show World.ownsRow _ _ _ _ _ _ (ecells (E ++ [((-77 : Int), (0 : Int), (0 : Int))]))
      rw [ecells_snoc]
      exact unhide HO
end Go.Proofs.Ytmcpbmadjpjckaa
