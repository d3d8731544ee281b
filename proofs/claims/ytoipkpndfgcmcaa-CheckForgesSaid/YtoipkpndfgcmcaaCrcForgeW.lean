/-
  Forge: the walk. Condition: fewer than 2^47 bytes.
-/
import Derived.RangeFuncFrom
import Derived.Deep.RegionHeld3
import Derived.Test.YtoipkpndfgcmcaaCrcSeal
import Derived.Test.YtoipkpndfgcmcaaCrcAwake
import Derived.Test.YtoipkpndfgcmcaaCrcJoinW
import Derived.Test.YtoipkpndfgcmcaaCrcBackward
import Derived.Test.YtoipkpndfgcmcaaCrcForgeM
namespace Go.Proofs.Ytoipkpndfgcmcaa
open Go.RowKit Go.Shelf
attribute [local go_sem] Oper.semAt_some

theorem backward_in (F : Fence) (n : Nat) (h5 : F.fn 45) (hro : F.round = none) (a : Option Addr) (len cap : Nat) (w : World) :
    CallsIn F n Try.prog 45 #[.slice a len cap] w fun e w' => e = .returned (.func (.func 56) #[] #[.pointer (some ⟨w.heap.size, 0, none⟩)]) ∧ w' = w.alloc (.cells #[.slice a len cap] 29) := by
  refine callsIn_of_wp Try.func45 rfl h5 ?_ hro
  simp only [Try.ntmps45, List.size_toArray, List.length_cons, List.length_nil, Nat.reduceAdd, Nat.reduceSub, Array.replicate_succ, Array.replicate_zero, List.push_toArray, List.append_toArray, List.nil_append, List.cons_append]
  gi_wp2
  go_ret
  exact ⟨rfl, rfl⟩

theorem backward_stops (F : Fence) (n : Nat) (h7 : F.fn 56) (hro : F.round = none) (hn : 1 ≤ n) (Bs n₀ cap : Nat) (A : Option Addr) (zs : List UInt8) (hreach : zs.length ≤ 140737488355328) (w : World) (hBs : Bs < w.heap.size) (hn₀ : n₀ ≤ w.heap.size)
    (hc : w.cell? ⟨Bs, 0, none⟩ = some (.slice A zs.length cap)) (hI : Reads w n₀ 1 A zs.length (zs.map bv)) :
    SeqStopsK F n Try.prog 56 #[.pointer (some ⟨Bs, 0, none⟩)] (fun x : Nat × UInt8 => #[Value.int .i64 (x.1 : Int), Value.int .u8 (x.2.toNat : Int)]) (KpB n₀ Bs) (fun ys => ys = came zs zs.length) (fun _ => True) zs.length w := fun l J Jx W hW _ _ hY h0 => by
  have hc' := (hW.cell (p := ⟨Bs, 0, none⟩) hBs).trans hc
  refine (backward1_in F n h7 hro hn l Bs n₀ cap A zs hreach J Jx hY W hc' (hI.below (hW.mono hn₀)) h0).mono ?_
  rintro e W' ⟨he, ⟨ys, rfl, hj⟩ | ⟨pre, ⟨k, hk, rfl⟩, hj⟩⟩
  · exact ⟨he, .inl ⟨_, rfl, hj⟩⟩
  · exact ⟨he, .inr ⟨_, trivial, hj⟩⟩

/-- The register behind what has come. -/
def regs (y : Nat) (l : List (Nat × UInt8)) : Nat := l.foldl (fun y x => bn 8 y ^^^ x.2.toNat) y
theorem regs_snoc (y : Nat) (l : List (Nat × UInt8)) (x : Nat × UInt8) : regs y (l ++ [x]) = bn 8 (regs y l) ^^^ x.2.toNat := by simp [regs]
theorem regs_lt {y : Nat} (h : y < U32) (l : List (Nat × UInt8)) : regs y l < U32 := by
  induction l generalizing y with
  | nil => exact h
  | cons x l ih => exact ih (xor_lt (bn_lt h 8) (u8_lt x.2))
theorem regs_came (y : Nat) (zs : List UInt8) (k : Nat) (hk : k ≤ zs.length) : regs y (came zs k) = inv y (zs.drop (zs.length - k)) := by
  induction k with
  | zero => simp [came, regs, inv]
  | succ k ih =>
    rw [came_succ, regs_snoc, ih (by omega)]
    have hl : zs.length - 1 - k < zs.length := by omega
    rw [show zs.length - k = zs.length - (k + 1) + 1 by omega]
    conv => rhs; rw [List.drop_eq_getElem_cons (i := zs.length - (k + 1)) (by omega)]
    have e : zs[zs.length - 1 - k]?.getD 0 = zs[zs.length - (k + 1)] := by
      rw [List.getElem?_eq_getElem hl]
      simp only [Option.getD_some]
      congr 1
      omega
    show bn 8 (inv y _) ^^^ (zs[zs.length - 1 - k]?.getD 0).toNat = _
    rw [e]
    rfl
theorem regs_all (y : Nat) (zs : List UInt8) : regs y (came zs zs.length) = inv y zs := by
  rw [regs_came y zs zs.length (Nat.le_refl _)]
  simp

theorem cell_lt {W : World} {b o : Nat} {v : Value} (h : W.cell? ⟨b, o, none⟩ = some v) : b < W.heap.size := by
  rcases Nat.lt_or_ge b W.heap.size with h' | h'
  · exact h'
  · simp [World.cell?, Array.getElem?_eq_none h'] at h
theorem cell_of_box_l {W : World} {B : Nat} {v : Value} {t : TypeId} (h : W.heap[B]? = some (.cells #[v] t (0, 0))) : W.cell? ⟨B, 0, none⟩ = some v ∧ W.frozen? ⟨B, 0, none⟩ = false := by
  constructor <;> simp [World.cell?, World.frozen?, h]
theorem cell_new_l (W : World) (v : Value) (t : TypeId) : (W.alloc (.cells #[v] t)).cell? ⟨W.heap.size, 0, none⟩ = some v ∧ (W.alloc (.cells #[v] t)).frozen? ⟨W.heap.size, 0, none⟩ = false := by
  have h := World.alloc_heap_new W (.cells #[v] t)
  exact cell_of_box_l h
theorem cell_alloc_l {W : World} {a : Addr} {v : Value} (o : Obj) (h : W.cell? a = some v) : (W.alloc o).cell? a = some v := cell_kept h (World.grownBy_alloc W o none) (fun r e => by cases e)
theorem frozen_alloc_l {W : World} {a : Addr} {v : Value} (o : Obj) (h : W.cell? a = some v) (hf : W.frozen? a = false) : (W.alloc o).frozen? a = false := (frozen_kept h (World.grownBy_alloc W o none) (fun r e => by cases e)).trans hf
/-- Four new bytes 0. -/
structure Four (W : World) (g : Nat) : Prop where
  c0 : W.cell? ⟨g, 0, none⟩ = some (.int .u8 0)
  c1 : W.cell? ⟨g, 1, none⟩ = some (.int .u8 0)
  c2 : W.cell? ⟨g, 2, none⟩ = some (.int .u8 0)
  c3 : W.cell? ⟨g, 3, none⟩ = some (.int .u8 0)
  f : ∀ i, W.frozen? ⟨g, i, none⟩ = false
theorem Four.new (W : World) (t : TypeId) : Four (W.alloc (.cells #[.int .u8 0, .int .u8 0, .int .u8 0, .int .u8 0] t)) W.heap.size := by
  have h := Blk.new W t #[.int .u8 0, .int .u8 0, .int .u8 0, .int .u8 0]
  exact ⟨h.cell 0, h.cell 1, h.cell 2, h.cell 3, fun i => h.frozen i⟩
theorem Four.below {W W' : World} {g B : Nat} (h : Four W g) (hb : Below B W W') (hg : g < B) : Four W' g :=
  ⟨(hb.cell (p := ⟨g, 0, none⟩) hg).trans h.c0, (hb.cell (p := ⟨g, 1, none⟩) hg).trans h.c1, (hb.cell (p := ⟨g, 2, none⟩) hg).trans h.c2, (hb.cell (p := ⟨g, 3, none⟩) hg).trans h.c3, fun i => by
    have := hb.block g hg
    have e := h.f i
    unfold World.frozen? at e ⊢
    rw [this]
    exact e⟩
theorem four_far {w : World} {b g : Nat} {v a0 a1 a2 a3 : Value} (h : w.cell? ⟨b, 0, none⟩ = some v) (hn : b ≠ g) : ((((w.setCell ⟨g, 0, none⟩ a0).setCell ⟨g, 1, none⟩ a1).setCell ⟨g, 2, none⟩ a2).setCell ⟨g, 3, none⟩ a3).cell? ⟨b, 0, none⟩ = some v :=
  cell_far (cell_far (cell_far (cell_far h hn _) hn _) hn _) hn _
/-- The four cells behind the store. -/
theorem four_set {w : World} {g : Nat} (h0 : w.cell? ⟨g, 0, none⟩ = some (.int .u8 0)) (h1 : w.cell? ⟨g, 1, none⟩ = some (.int .u8 0)) (h2 : w.cell? ⟨g, 2, none⟩ = some (.int .u8 0)) (h3 : w.cell? ⟨g, 3, none⟩ = some (.int .u8 0)) (a0 a1 a2 a3 : Value) : ∀ j u, ([a0, a1, a2, a3] : List Value)[j]? = some u → ((((w.setCell ⟨g, 0, none⟩ a0).setCell ⟨g, 1, none⟩ a1).setCell ⟨g, 2, none⟩ a2).setCell ⟨g, 3, none⟩ a3).cell? ⟨g, j, none⟩ = some u := by
  have o : ∀ (W : World) (i k : Nat) (a : Value), i ≠ k → (W.setCell ⟨g, k, none⟩ a).cell? ⟨g, i, none⟩ = W.cell? ⟨g, i, none⟩ := fun W i k a hne => World.cell?_setCell_other W ⟨g, k, none⟩ ⟨g, i, none⟩ a (fun e => hne (by cases e; rfl))
  have s : ∀ (W : World) (k : Nat) (a v : Value), W.cell? ⟨g, k, none⟩ = some v → (W.setCell ⟨g, k, none⟩ a).cell? ⟨g, k, none⟩ = some a := fun W k a v h => World.cell?_setCell_same' W ⟨g, k, none⟩ a (by rw [h]; rfl)
  intro j u hu
  match j, hu with
  | 0, hu => cases hu; rw [o _ _ _ _ (by omega), o _ _ _ _ (by omega), o _ _ _ _ (by omega), s _ _ _ _ h0]
  | 1, hu => cases hu; rw [o _ _ _ _ (by omega), o _ _ _ _ (by omega), s _ _ _ (.int .u8 0) (by rw [o _ _ _ _ (by omega)]; exact h1)]
  | 2, hu => cases hu; rw [o _ _ _ _ (by omega), s _ _ _ (.int .u8 0) (by rw [o _ _ _ _ (by omega), o _ _ _ _ (by omega)]; exact h2)]
  | 3, hu => cases hu; rw [s _ _ _ (.int .u8 0) (by rw [o _ _ _ _ (by omega), o _ _ _ _ (by omega), o _ _ _ _ (by omega)]; exact h3)]
  | _ + 4, hu => cases hu
/-- What the tail wants of the world behind the four bytes. -/
structure Tail (w : World) (D G q : Nat) (W : World) : Prop where
  bel : Below w.heap.size w W
  dd : W.heap[D]? = some (.deferred (some []))
  rd : Reads W (G + 1) 1 (some ⟨G, 0, none⟩) 4 ((le4 q).map bv)
  lt : G < W.heap.size
theorem Tail.of_set {w W : World} {D G q : Nat} {a0 a1 a2 a3 : Value} (hb : Below w.heap.size w W) (hd : W.heap[D]? = some (.deferred (some []))) (hg : w.heap.size ≤ G) (hl : G < W.heap.size) (hq : (le4 q).map bv = [a0, a1, a2, a3])
    (h0 : W.cell? ⟨G, 0, none⟩ = some (.int .u8 0)) (h1 : W.cell? ⟨G, 1, none⟩ = some (.int .u8 0)) (h2 : W.cell? ⟨G, 2, none⟩ = some (.int .u8 0)) (h3 : W.cell? ⟨G, 3, none⟩ = some (.int .u8 0)) :
    Tail w D G q ((((W.setCell ⟨G, 0, none⟩ a0).setCell ⟨G, 1, none⟩ a1).setCell ⟨G, 2, none⟩ a2).setCell ⟨G, 3, none⟩ a3) := by
  have hne : ∀ (V : World) (i : Nat) (a : Value), V.heap[D]? = some (.deferred (some [])) → (V.setCell ⟨G, i, none⟩ a).heap[D]? = some (.deferred (some [])) := fun V i a h => (KeepsOthers.setCell V ⟨G, i, none⟩ a).same D _ h rfl
  refine ⟨(((hb.setCell (p := ⟨G, 0, none⟩) hg _).setCell (p := ⟨G, 1, none⟩) hg _).setCell (p := ⟨G, 2, none⟩) hg _).setCell (p := ⟨G, 3, none⟩) hg _, hne _ _ _ (hne _ _ _ (hne _ _ _ (hne _ _ _ hd))), ?_, by simpa [World.setCell] using hl⟩
  rw [hq]
  refine ⟨rfl, fun _ => ⟨_, rfl, Nat.lt_succ_self _, fun j u hu => ?_⟩⟩
  rw [add0, Nat.zero_add]
  exact four_set h0 h1 h2 h3 a0 a1 a2 a3 j u hu
theorem bn_succ' (n a : Nat) : bn (n + 1) a = bk (bn n a) := by rw [Nat.add_comm, bn_add]; rfl

/-- The three parts put side by side, whatever world lies behind the four bytes. -/
theorem tail_concat {w W3 W4 : World} {D G q n c p B zl C' gb : Nat} {A A' : Option Addr} {bs zs : List UInt8} (T1 : Tail w D G q W3) (hr : Reads w B 1 A n (bs.map bv)) (hB : B ≤ w.heap.size) (hn : n ≤ 140737488355328) (hpn : p ≤ n)
    (hz : Reads w w.heap.size 1 A' zl (zs.map bv)) (htot : p + (4 + zl) = n) (hb : Below W3.heap.size W3 W4) (hk : Blk W4 gb 29 #[.slice A p c, .slice (some ⟨G, 0, none⟩) 4 4, .slice A' zl C']) :
    Calls Try.prog 49 #[.slice (some ⟨gb, 0, none⟩) 3 3] W4 fun e w' => ∃ v, e = .returned v ∧ w'.ownsRow w.heap.size 5 1 v n ((bs.take p ++ (le4 q ++ zs)).map bv) ∧ Below w.heap.size w w' ∧ w'.heap[D]? = some (.deferred (some [])) := by
  have hb4 : Below w.heap.size w W4 := T1.bel.trans (hb.mono T1.bel.size)
  have cL : ∀ (i : Nat) (x : Part), [(⟨A, p, c, bs.take p⟩ : Part), ⟨some ⟨G, 0, none⟩, 4, 4, le4 q⟩, ⟨A', zl, C', zs⟩][i]? = some x →
      W4.cell? ⟨gb, i, none⟩ = some (.slice x.A x.n x.c) ∧ Reads W4 W4.heap.size 1 x.A x.n (x.bs.map bv) := by
    intro i x hx
    match i, hx with
    | 0, hx =>
      simp only [List.getElem?_cons_zero, Option.some.injEq] at hx
      subst hx
      exact ⟨hk.cell 0, (((hr.upto_ hpn).below (hb4.mono hB)).more (Nat.le_trans hB hb4.size))⟩
    | 1, hx =>
      simp only [List.getElem?_cons_succ, List.getElem?_cons_zero, Option.some.injEq] at hx
      subst hx
      exact ⟨hk.cell 1, (T1.rd.below (hb.mono (by have := T1.lt; omega))).more (by have := T1.lt; have := hb.size; omega)⟩
    | 2, hx =>
      simp only [List.getElem?_cons_succ, List.getElem?_cons_zero, Option.some.injEq] at hx
      subst hx
      exact ⟨hk.cell 2, (hz.below hb4).more hb4.size⟩
    | i + 3, hx => simp at hx
  have e1 : total [(⟨A, p, c, bs.take p⟩ : Part), ⟨some ⟨G, 0, none⟩, 4, 4, le4 q⟩, ⟨A', zl, C', zs⟩] = n := by simp [total]; omega
  have e2 : joined [(⟨A, p, c, bs.take p⟩ : Part), ⟨some ⟨G, 0, none⟩, 4, 4, le4 q⟩, ⟨A', zl, C', zs⟩] = bs.take p ++ (le4 q ++ zs) := by simp [joined]
  have hC := concat_any [⟨A, p, c, bs.take p⟩, ⟨some ⟨G, 0, none⟩, 4, 4, le4 q⟩, ⟨A', zl, C', zs⟩] gb W4.heap.size W4 (Nat.le_refl _) hk.lt (by simp) (by rw [e1]; exact hn) cL
  rw [e1, e2] at hC
  refine hC.mono ?_
  rintro e w' ⟨v, rfl, ho, hb'⟩
  refine ⟨v, rfl, ho.base hb4.size, hb4.trans (hb'.mono hb4.size), ?_⟩
  have hD : D < W3.heap.size := (Array.getElem?_eq_some_iff.1 T1.dd).1
  rw [hb'.block D (by have := hb.size; omega), hb.block D hD]
  exact T1.dd

theorem done_put {w w5 : World} {D n B : Nat} {e : TypeId} {v : Value} {xs : List Value} (hD : w.heap.size ≤ D) (hd : w5.heap[D]? = some (.deferred (some []))) (ho : w5.ownsRow B e 1 v n xs) (hb : Below w.heap.size w w5) (o : Obj) :
    (w5.putObj D o).ownsRow B e 1 v n xs ∧ Below w.heap.size w (w5.putObj D o) := by
  have hc : Chg w5 (w5.putObj D o) (· = D) := ⟨rfl, rfl, rfl, by simp [World.putObj], fun k _ hn => World.putObj_heap_other hn⟩
  refine ⟨hc.own ho (fun i hi e => ?_), ⟨hb.os, hb.tape, hb.output, by simpa [World.putObj] using hb.size, fun k hk => (World.putObj_heap_other (by omega)).trans (hb.block k hk)⟩⟩
  subst e
  rcases ho.2 with ⟨rfl, _⟩ | ⟨g, cap, cur, rfl, _, hg, _⟩
  · simp [Value.ownBlock] at hi
  · obtain rfl : g = i := by simpa [Value.ownBlock] using hi
    rw [hd] at hg
    cases hg

set_option maxRecDepth 100000 in
set_option maxHeartbeats 2000000 in
theorem forge_any (A : Option Addr) (n c B p x : Nat) (bs : List UInt8) (w : World) (hr : Reads w B 1 A n (bs.map bv)) (hn : n ≤ 140737488355328) (hB : B ≤ w.heap.size) (hx : x < U32) (hcap : n ≤ c) (hp : p + 4 ≤ n) :
    Calls Try.prog 22 #[.slice A n c, .int .i64 (p : Int), .int .u32 (x : Int)] w fun e w' => ∃ v, e = .returned (.tuple #[v, .int .i64 0]) ∧ w'.ownsRow w.heap.size 5 1 v n ((forged bs p x).map bv) ∧ Below w.heap.size w w' := by
  have hlen : bs.length = n := by have := hr.1; simpa using this
  have hBB := hB
  have hd1 : decide ((p : Int) < 0) = false := by simp
  have hd2 : decide ((n : Int) - 4 < (p : Int)) = false := by simp; omega
  have hnot := not_u32 x hx
  obtain ⟨y, hy⟩ : ∃ y, x ^^^ ONES = y := ⟨_, rfl⟩
  rw [hy] at hnot
  have hyl : y < U32 := hy ▸ xor_lt hx ones_lt
  obtain ⟨P4, hP4⟩ : ∃ k, p + 4 = k := ⟨_, rfl⟩
  have hs4 : IntKind.i64.wrap ((p : Int) + 4) = (P4 : Int) := by rw [IntWalk.i64_in _ (by omega)]; omega
  have hn4 : IntKind.i64.wrap ((n : Int) - 4) = (n : Int) - 4 := IntWalk.i64_in _ (by omega)
  have hb1 : (P4 : Int) ≤ (n : Int) := by omega
  have hb2 : (n : Int) ≤ (c : Int) := by omega
  have hb3 : (P4 : Int) ≤ (c : Int) := by omega
  have hb0 : (0 : Int) ≤ (P4 : Int) := by omega
  have hcut := hr.cut (k := P4) (cap := c) (by omega) hcap
  obtain ⟨A', hA'⟩ : ∃ A', (if c = P4 then A else A.map (·.add (P4 * 1))) = A' := ⟨_, rfl⟩
  rw [hA'] at hcut
  obtain ⟨⟨iE, zE, eE1, eE2, eE3, eE4, eE5, eE6⟩, _⟩ := elem_u8
  have hsl := fun W => run_cut eE1 eE2 eE4 A c (k := P4) (n := n) (by omega) W
  rw [hA'] at hsl
  clear eE1 eE2 eE3 eE4 eE5 eE6
  refine (callsIn_wide (n := 3)).1 ?_
  refine callsIn_of_wp_marks Try.func22 rfl trivial ?_ rfl
  simp only [Try.ntmps22, List.size_toArray, List.length_cons, List.length_nil, Nat.reduceAdd, Nat.reduceSub, Array.replicate_succ, Array.replicate_zero, List.push_toArray, List.append_toArray, List.nil_append, List.cons_append]
  gi_wp2_with (refine ⟨trivial, ?_⟩; gi_at_call 45; refine (backward_in _ _ trivial rfl _ _ _ _).mono ?_; rintro e w1 ⟨rfl, rfl⟩)
  obtain ⟨zs, hzs⟩ : ∃ zs, bs.drop P4 = zs := ⟨_, rfl⟩
  have hzl : n - P4 = zs.length := by rw [← hzs, List.length_drop, hlen]
  rw [Nat.mul_one, ← List.map_drop, hzs, hzl] at hcut
  rw [hzl]
  obtain ⟨C', hC'⟩ : ∃ k, c - P4 = k := ⟨_, rfl⟩
  rw [hC']
  simp only [hzl, hC'] at hsl
  have hs := cell_new_l w (.int .u32 (y : Int)) 40
  have hb := cell_new_l (w.alloc (.cells #[.int .u32 (y : Int)] 40)) (.slice A' zs.length C') 29
  rw [World.size_alloc] at hb
  have hB0 : Below w.heap.size w ((w.alloc (.cells #[.int .u32 (y : Int)] 40)).alloc (.cells #[.slice A' zs.length C'] 29)) := ((Below.refl _ w).alloc (Nat.le_refl _) _).alloc (by simp) _
  refine wpIn_rangeFunc_ownF (F := Fence.wide) rfl (by omega) (gf := 56) (lb := #[.pointer (some ⟨w.heap.size + 1, 0, none⟩)]) rfl trivial (enters_of Try.func56 (by kernel_rfl) rfl)
    (backward_stops Fence.wide 2 trivial rfl (by omega) (w.heap.size + 1) w.heap.size C' A' zs (by omega) _ (by simp) (by simp; omega) hb.1 ((hcut.more hB).below hB0)) kpB_t (kpB_b (by simp; omega)) (Below.refl _ _) (fun _ => rfl)
    (fun pre W => (W.cell? ⟨w.heap.size, 0, none⟩ = some (.int .u32 (regs y pre : Nat)) ∧ W.frozen? ⟨w.heap.size, 0, none⟩ = false) ∧ Below w.heap.size w W)
    (fun _ _ _ => False)
    (OwnFrom.and (Own.from (fun s A B row hs hg hr => ⟨cell_kept hs.1 hg hr, (frozen_kept hs.1 hg hr).trans hs.2⟩) _) (ownFrom_below (Nat.le_refl _) (by simp; omega)))
    (fun _ _ _ _ _ hs _ _ => hs)
    ⟨⟨cell_alloc_l _ hs.1, frozen_alloc_l _ hs.1 hs.2⟩, hB0⟩
    (fun x' => { tmps := #[.slice A n c, .int .i64 (p : Int), .int .u32 (x : Int), undef, undef, undef, .slice none 0 0, .int .i64 0, .pointer (some ⟨w.heap.size, 0, none⟩), undef, .int .u8 (x'.2.toNat : Int), undef, .int .i64 (p : Int), .bool false, .bool false, .int .i64 (p : Int), .slice A n c, .int .i64 (n : Int), .int .i64 ((n : Int) - 4), .bool false, .bool false, .int .u32 (x : Int), .int .u32 (y : Int), .slice A n c, .int .i64 (p : Int), .int .i64 (P4 : Int), .slice A' zs.length C', .func (.func 56) #[] #[.pointer (some ⟨w.heap.size + 1, 0, none⟩)], .int .i64 (x'.1 : Int), .int .u8 (x'.2.toNat : Int), undef, undef, undef, undef, undef, undef, undef, undef, undef, undef, undef, undef, undef, undef, undef, undef, undef, undef, undef, undef, undef, undef, undef, undef, undef, undef, undef, undef, undef, undef, undef], defers := [] }) ?assign ?body ?done ?stop
  case assign =>
    intro l x W K hK
    gi_wp2
    exact hK
  case body =>
    rintro l pre x' W ⟨⟨hc, hf⟩, hB⟩ _
    have hl0 := regs_lt hyl pre
    have hsn := regs_snoc y pre x'
    obtain ⟨r0, hr0⟩ : ∃ r, regs y pre = r := ⟨_, rfl⟩
    rw [hr0] at hc hl0 hsn
    gi_wp2
    gi_loopw [30] (fun i wr => ∃ j : Nat, j ≤ 8 ∧ i = .int .i64 (j : Int) ∧ (wr.cell? ⟨w.heap.size, 0, none⟩ = some (.int .u32 (bn j r0 : Nat)) ∧ wr.frozen? ⟨w.heap.size, 0, none⟩ = false) ∧ Below w.heap.size w wr ∧ KeepsOthers W wr ∧ KpB w.heap.size (w.heap.size + 1) W wr)
      (fun i _ => (8 - intOf i).toNat)
    case atStart => exact ⟨0, by omega, rfl, ⟨hc, hf⟩, hB, KeepsOthers.refl _, Below.refl _ _, fun _ h => h⟩
    case round =>
      obtain ⟨j, hj, rfl, ⟨hcj, hfj⟩, hBj, hKj, hPj⟩ := hrel
      by_cases hlt : j < 8
      · have hbl := bn_lt hl0 j
        have hbs := bn_succ' j r0
        obtain ⟨rj, hrj⟩ : ∃ r, bn j r0 = r := ⟨_, rfl⟩
        rw [hrj] at hcj hbl hbs
        gi_wp2_with (refine ⟨trivial, ?_⟩; gi_at_call 46; refine (CallsIn.inRound l (callsIn_wide.2 (back_any rj _ hbl))).mono ?_; rintro e w2 ⟨rfl, rfl⟩)
        go_roundw
        case rel => exact ⟨j + 1, by omega, by simp, ⟨by rw [hbs]; exact World.cell?_setCell_same' _ _ _ (by rw [hcj]; rfl), by rw [World.frozen?_setCell]; exact hfj⟩, hBj.setCell (p := ⟨w.heap.size, 0, none⟩) (Nat.le_refl _) _, hKj.trans (KeepsOthers.setCell _ _ _), kpB_t hPj ⟨(Below.refl _ _).setCell (p := ⟨w.heap.size, 0, none⟩) (Nat.le_refl _) _, fun v hv => by rw [World.cell?_setCell_other _ _ _ _ (by simp)]; exact hv⟩⟩
        case measure => simp [intOf]; omega
      · obtain rfl : j = 8 := by omega
        have hv := xor_u32 (bn 8 r0) x'.2.toNat (bn_lt hl0 8) (u8_lt _)
        rw [← hsn] at hv
        obtain ⟨r8, hr8⟩ : ∃ r, bn 8 r0 = r := ⟨_, rfl⟩
        rw [hr8] at hv hcj
        obtain ⟨r9, hr9⟩ : ∃ r, regs y (pre ++ [x']) = r := ⟨_, rfl⟩
        rw [hr9] at hv
        have hmod : (x'.2.toNat : Int) % 4294967296 = (x'.2.toNat : Int) := by have := x'.2.toNat_lt; omega
        gi_wp2
        exact ⟨hKj.trans (KeepsOthers.setCell _ _ _), kpB_t hPj ⟨(Below.refl _ _).setCell (p := ⟨w.heap.size, 0, none⟩) (Nat.le_refl _) _, fun v hv => by rw [World.cell?_setCell_other _ _ _ _ (by simp)]; exact hv⟩, ⟨by rw [hr9]; exact World.cell?_setCell_same' _ _ _ (by rw [hcj]; rfl), by rw [World.frozen?_setCell]; exact hfj⟩, hBj.setCell (p := ⟨w.heap.size, 0, none⟩) (Nat.le_refl _) _⟩
  case done =>
    rintro D ys W hD rfl ⟨⟨hc, hf⟩, hB⟩ hK
    rw [regs_all] at hc
    obtain ⟨R0, hR0⟩ : ∃ r, inv y zs = r := ⟨_, rfl⟩
    have hRl : R0 < U32 := hR0 ▸ inv_lt hyl zs
    rw [hR0] at hc
    gi_wp2
    gi_loopw [39] (fun i wr => ∃ j : Nat, j ≤ 32 ∧ i = .int .i64 (j : Int) ∧ (wr.cell? ⟨w.heap.size, 0, none⟩ = some (.int .u32 (bn j R0 : Nat)) ∧ wr.frozen? ⟨w.heap.size, 0, none⟩ = false) ∧ Below w.heap.size w wr ∧ wr.heap[D]? = some (.deferred (some [])))
      (fun i _ => (32 - intOf i).toNat)
    case atStart => exact ⟨0, by omega, rfl, ⟨hc, hf⟩, hB, hK⟩
    case round =>
      obtain ⟨j, hj, rfl, ⟨hcj, hfj⟩, hBj, hKj⟩ := hrel
      by_cases hlt : j < 32
      · have hbl := bn_lt hRl j
        have hbs := bn_succ' j R0
        obtain ⟨rj, hrj⟩ : ∃ r, bn j R0 = r := ⟨_, rfl⟩
        rw [hrj] at hcj hbl hbs
        gi_wp2_with (refine ⟨trivial, ?_⟩; gi_at_call 46; refine (callsIn_wide.2 (back_any rj _ hbl)).mono ?_; rintro e w2 ⟨rfl, rfl⟩)
        go_roundw
        case rel => exact ⟨j + 1, by omega, by simp, ⟨by rw [hbs]; exact World.cell?_setCell_same' _ _ _ (by rw [hcj]; rfl), by rw [World.frozen?_setCell]; exact hfj⟩, hBj.setCell (p := ⟨w.heap.size, 0, none⟩) (Nat.le_refl _) _, (KeepsOthers.setCell _ _ _).same D _ hKj rfl⟩
        case measure => simp [intOf]; omega
      · obtain rfl : j = 32 := by omega
        obtain ⟨R, hR⟩ : ∃ r, bn 32 R0 = r := ⟨_, rfl⟩
        rw [hR] at hcj
        gi_wp2
        obtain ⟨T, hT⟩ : ∃ r, crc ONES (bs.take p) = r := ⟨_, rfl⟩
        have hTl : T < U32 := hT ▸ crc_lt ones_lt _
        have hTk : ∀ w', Below wr.heap.size wr w' → Hid (Calls Try.prog 48 #[.int .u32 4294967295, .slice A p c] w' fun e w2 => e = .returned (.int .u32 (T : Int)) ∧ Below w'.heap.size w' w2) := fun w' h => hide <| by
          have h2 := hBj.trans (h.mono hBj.size)
          have := take_any ONES (bs.take p) A p c B w' ones_lt ((hr.below (h2.mono hBB)).upto_ (by omega)) (by omega) (Nat.le_trans hBB h2.size)
          rw [hT] at this
          exact this
        have hxq := xor_u32 R T (hR ▸ bn_lt hRl 32) hTl
        obtain ⟨q, hq⟩ : ∃ q, R ^^^ T = q := ⟨_, rfl⟩
        rw [hq] at hxq
        have hBy := fun w => hide (bytes_any q w)
        obtain ⟨x0, x1, x2, x3, hx4⟩ := le4c_lit q
        rw [hx4] at hBy
        have hbs0 : w.heap.size < wr.heap.size := cell_lt hcj
        have HBj := hide hBj
        have HKj := hide hKj
        have HQX : Hid ((le4 q).map bv = [.int .u8 x0, .int .u8 x1, .int .u8 x2, .int .u8 x3]) := by show _ = _; rw [← le4c_list, hx4]
        have hn0 : w.heap.size ≠ wr.heap.size := by omega
        have hp0 : (0 : Int) ≤ (p : Int) := by omega
        have hp1 : (p : Int) ≤ (c : Int) := by omega
        clear hBj hKj
        refine wpIn_wide.2 ?_
        go_region_held3 (fun w' => w'.cell? ⟨w.heap.size, 0, none⟩ = some (.int .u32 (R : Int))) (first | go_keep | exact four_far d2 hn1 | exact four_far d2 hn0) ((first
          | (go_at_call 48; refine (unhide (hTk _ (by first | exact below_drewN (Below.refl _ _) 1 | exact (below_drewN (Below.refl _ _) 1).alloc (Nat.le_refl _) _))).mono ?_; rintro e w1 ⟨rfl, hb1⟩
             have d1 : w1.cell? ⟨w.heap.size, 0, none⟩ = some (.int .u32 (R : Int)) := (hb1.cell (p := ⟨w.heap.size, 0, none⟩) (by first | exact hbs0 | (simp; omega))).trans (by first | exact hcj | exact cell_alloc_l _ hcj)
             have HB1 := hide hb1
             have hz1 := hb1.size
             have hn1 : w.heap.size ≠ w1.heap.size := by (first | (simp at hz1; omega) | (have := hz1; simp at this; omega))
             first
               | (have F1 : Four w1 wr.heap.size := (Four.new wr.drew 60).below hb1 (by simp)
                  have hzf : wr.heap.size < w1.heap.size := by (simp at hz1; omega))
               | skip
             clear hb1)
          | (go_at_call 47; refine (unhide (hBy _)).mono ?_; rintro e w2 ⟨rfl, hb2⟩
             have d2 : w2.cell? ⟨w.heap.size, 0, none⟩ = some (.int .u32 (R : Int)) := (hb2.cell (p := ⟨w.heap.size, 0, none⟩) (by first | exact Nat.lt_of_lt_of_le hbs0 hz1 | (simp at hz1 ⊢; omega))).trans (by first | exact d1 | exact cell_alloc_l _ d1)
             have HB2 := hide hb2
             first
               | (obtain ⟨m0, m1, m2, m3, mf⟩ := (Four.new w1 60).below hb2 (by simp)
                  have mf0 := mf 0; have mf1 := mf 1; have mf2 := mf 2; have mf3 := mf 3; clear mf)
               | (obtain ⟨m0, m1, m2, m3, mf⟩ := F1.below hb2 hzf
                  have mf0 := mf 0; have mf1 := mf 1; have mf2 := mf 2; have mf3 := mf 3; clear mf F1)
               | skip
             clear hb2)))
        focus
          have hb : Below wr.heap.size wr w2 := Below.trans (b := wr.drew) (below_drewN (Below.refl _ _) 1) ((unhide HB1).trans ((unhide HB2).mono hz1))
          have T1 : Tail w D w2.heap.size q (w2.alloc (.cells #[.int .u8 x0, .int .u8 x1, .int .u8 x2, .int .u8 x3] 60)) := by
            have hb' := (unhide HBj).trans (hb.mono (unhide HBj).size)
            refine ⟨hb'.alloc hb'.size _, ?_, reads_lit w2 _ rfl _ _ 4 rfl _ (by rw [HQX.out]), by simp⟩
            have hDl := (Array.getElem?_eq_some_iff.1 (unhide HKj)).1
            have e := hb.block D hDl
            exact (Below.heap_alloc w2 _ D (by have := hb.size; omega)).trans (e.trans (unhide HKj))
          obtain ⟨G, hG⟩ : ∃ G, w2.heap.size = G := ⟨_, rfl⟩
          obtain ⟨W3, hW3⟩ : ∃ W3, w2.alloc (.cells #[.int .u8 x0, .int .u8 x1, .int .u8 x2, .int .u8 x3] 60) = W3 := ⟨_, rfl⟩
          rw [hG, hW3] at T1
          rw [hG, hW3]
        rotate_left
        focus
          have hb : Below wr.heap.size wr w2 := Below.trans (b := wr.drew) (below_drewN (Below.refl _ _) 1) ((unhide HB1).trans (((Below.refl _ _).alloc (Nat.le_refl _) _ |>.trans ((unhide HB2).mono (by simp))).mono hz1))
          have T1 : Tail w D w1.heap.size q ((((w2.setCell ⟨w1.heap.size, 0, none⟩ (.int .u8 x0)).setCell ⟨w1.heap.size, 1, none⟩ (.int .u8 x1)).setCell ⟨w1.heap.size, 2, none⟩ (.int .u8 x2)).setCell ⟨w1.heap.size, 3, none⟩ (.int .u8 x3)) := by
            have hb' := (unhide HBj).trans (hb.mono (unhide HBj).size)
            have hz2 := (unhide HB2).size
            simp at hz1 hz2
            exact Tail.of_set hb' ((hb.block D (Array.getElem?_eq_some_iff.1 (unhide HKj)).1).trans (unhide HKj)) (by have := (unhide HBj).size; omega) (by omega) HQX.out m0 m1 m2 m3
          obtain ⟨G, hG⟩ : ∃ G, w1.heap.size = G := ⟨_, rfl⟩
          rw [hG] at T1
          rw [hG]
          obtain ⟨W3, hW3⟩ : ∃ W3, ((((w2.setCell ⟨G, 0, none⟩ (.int .u8 x0)).setCell ⟨G, 1, none⟩ (.int .u8 x1)).setCell ⟨G, 2, none⟩ (.int .u8 x2)).setCell ⟨G, 3, none⟩ (.int .u8 x3)) = W3 := ⟨_, rfl⟩
          rw [hW3] at T1
          rw [hW3]
        rotate_left
        focus
          have ha : Below wr.heap.size wr.drew (wr.drew.alloc (.cells #[.int .u8 0, .int .u8 0, .int .u8 0, .int .u8 0] 60)) := (Below.refl _ wr.drew).alloc (Nat.le_refl _) _
          have hb : Below wr.heap.size wr w2 := Below.trans (b := wr.drew) (below_drewN (Below.refl _ _) 1) (ha.trans (((unhide HB1).trans ((unhide HB2).mono hz1)).mono (by simp)))
          have T1 : Tail w D wr.heap.size q ((((w2.setCell ⟨wr.heap.size, 0, none⟩ (.int .u8 x0)).setCell ⟨wr.heap.size, 1, none⟩ (.int .u8 x1)).setCell ⟨wr.heap.size, 2, none⟩ (.int .u8 x2)).setCell ⟨wr.heap.size, 3, none⟩ (.int .u8 x3)) := by
            have hb' := (unhide HBj).trans (hb.mono (unhide HBj).size)
            have hz2 := (unhide HB2).size
            simp at hz1 hz2
            exact Tail.of_set hb' ((hb.block D (Array.getElem?_eq_some_iff.1 (unhide HKj)).1).trans (unhide HKj)) (by have := (unhide HBj).size; omega) (by omega) HQX.out m0 m1 m2 m3
          obtain ⟨G, hG⟩ : ∃ G, wr.heap.size = G := ⟨_, rfl⟩
          rw [hG] at T1
          rw [hG]
          obtain ⟨W3, hW3⟩ : ∃ W3, ((((w2.setCell ⟨G, 0, none⟩ (.int .u8 x0)).setCell ⟨G, 1, none⟩ (.int .u8 x1)).setCell ⟨G, 2, none⟩ (.int .u8 x2)).setCell ⟨G, 3, none⟩ (.int .u8 x3)) = W3 := ⟨_, rfl⟩
          rw [hW3] at T1
          rw [hW3]
        all_goals
          gi_wp2
          have hC4 : ∀ W4 gb, Below W3.heap.size W3 W4 → Blk W4 gb 29 #[.slice A p c, .slice (some ⟨G, 0, none⟩) 4 4, .slice A' zs.length C'] → Hid (Calls Try.prog 49 #[.slice (some ⟨gb, 0, none⟩) 3 3] W4 fun e w' => ∃ v, e = .returned v ∧ w'.ownsRow w.heap.size 5 1 v n ((bs.take p ++ (le4 q ++ zs)).map bv) ∧ Below w.heap.size w w' ∧ w'.heap[D]? = some (.deferred (some []))) :=
            fun W4 gb h1 h2 => hide (tail_concat T1 hr hBB hn (by omega) (hcut.more hBB) (by omega) h1 h2)
          clear hBy hTk hW3 HBj HKj HB1 HB2 hb
          refine wpIn_wide.2 ?_
          go_region_held3 (fun w' => True) (trivial) ((first
            | (go_at_call 49; refine (unhide (hC4 _ _ ?_ ?_)).mono ?_; exact ((Below.refl _ _).alloc (Nat.le_refl _) _).drew; exact (Blk.new _ _ _).drew; rintro e w5 ⟨v5, rfl, ho5, hb5, hd5⟩)))
          gi_wp2
          refine ⟨by simp, .inl ⟨_, _, rfl, run_takeDeferred hd5, ?_⟩⟩
          have hfin := done_put (by simp at hD; omega) hd5 ho5 hb5 (.deferred none)
          have hfg : forged bs p x = bs.take p ++ (le4 q ++ zs) := by
            unfold forged at4 fq
            rw [hP4, hzs, hy, hR0, hR, hT, hq]
          rw [hfg]
          exact ⟨.tuple #[v5, .int .i64 0], by simp [results, Try.results22, go_sem], v5, rfl, hfin.1, hfin.2⟩
  case stop =>
    rintro D c pre W _ _ h _
    exact h.elim
end Go.Proofs.Ytoipkpndfgcmcaa
