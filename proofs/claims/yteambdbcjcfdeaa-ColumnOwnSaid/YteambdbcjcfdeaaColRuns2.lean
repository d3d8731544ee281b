/-
  The run way: its size and what it lays, ranging over the column's runs: the walks over the Go text. Condition: fewer than 2^47 bytes; to lay, a million numbers.
-/
import Derived.Test.YteambdbcjcfdeaaColRuns
namespace Go.Proofs.Yteambdbcjcfdeaa
open Go.RowKit Go.Shelf
attribute [local go_sem] Oper.semAt_some

theorem cell_new_l (W : World) (v : Value) (t : TypeId) : (W.alloc (.cells #[v] t)).cell? ⟨W.heap.size, 0, none⟩ = some v ∧ (W.alloc (.cells #[v] t)).frozen? ⟨W.heap.size, 0, none⟩ = false :=
  ⟨(Blk.new W t #[v]).cell 0, (Blk.new W t #[v]).frozen 0⟩
theorem cell_alloc_l {W : World} {a : Addr} {v : Value} (o : Obj) (h : W.cell? a = some v) : (W.alloc o).cell? a = some v := cell_kept h (World.grownBy_alloc W o none) (fun r e => by cases e)
theorem frozen_alloc_l {W : World} {a : Addr} {v : Value} (o : Obj) (h : W.cell? a = some v) (hf : W.frozen? a = false) : (W.alloc o).frozen? a = false := (frozen_kept h (World.grownBy_alloc W o none) (fun r e => by cases e)).trans hf
theorem runs_any (A : Option Addr) (n cap : Nat) (w : World) :
    Calls Try.prog 62 #[.slice A n cap] w fun e w' => e = .returned (.func (.func 83) #[] #[.pointer (some ⟨w.heap.size, 0, none⟩)]) ∧ w' = w.alloc (.cells #[.slice A n cap] 22) := by
  go_enter Try.func62, Try.ntmps62
  go_wp2
  go_ret
  exact ⟨rfl, rfl⟩
theorem runs_stops (n : Nat) (hn : 1 ≤ n) (bx : Nat) (A : Option Addr) (len cap B : Nat) (c : List UInt32) (hN : len ≤ 140737488355328) (w : World) (hb : bx < w.heap.size) (hB : B ≤ w.heap.size) (hbx : w.cell? ⟨bx, 0, none⟩ = some (.slice A len cap)) (hr : Reads w B 1 A len (c.map uw)) :
    SeqStopsK Fence.wide n Try.prog 83 #[.pointer (some ⟨bx, 0, none⟩)] encR (KeepC bx A len) (fun xs => xs.map (·.1) = runs c) (fun _ => True) (runs c).length w := fun l J Jx W hW hJ _ hY h0 =>
  runs1_in n hn l bx A len cap B c hN J Jx W (fun pre w q h => hJ pre w _ none h ⟨rfl, rfl, rfl, Nat.le_refl _, fun _ _ _ => rfl⟩ (fun r e => by cases e)) hY ((hW.cell (p := ⟨bx, 0, none⟩) hb).trans hbx) (hr.below (hW.mono hB)) h0
theorem runs_len (c : List UInt32) : (runs c).length ≤ c.length := by
  have h : ∀ (f : Nat) (l : List UInt32), l.length ≤ f → (runs l).length ≤ l.length := by
    intro f
    induction f with
    | zero => intro l hl; obtain rfl : l = [] := List.eq_nil_of_length_eq_zero (by omega); simp [runs_nil]
    | succ f ih =>
      intro l hl
      cases l with
      | nil => simp [runs_nil]
      | cons x r =>
        have h1 := dropW_len r x
        simp only [List.length_cons] at hl
        have h2 := ih (r.dropWhile (· == x)) (by omega)
        rw [runs_cons, List.length_cons, List.length_cons]
        omega
  exact h _ _ (Nat.le_refl _)
theorem reads_lt {w : World} {B n : Nat} {A : Option Addr} {xs : List Value} (h : Reads w B 1 A n xs) (hn : 0 < n) {ad : Addr} (e : A = some ad) : ad.block < B := by
  obtain ⟨ad', e', hb, _⟩ := h.2 hn
  rw [e] at e'
  cases e'
  exact hb
/-- What some runs take. -/
def runB (xs : List Run) : List UInt8 := xs.flatMap fun x => form x.1.1.toNat ++ form x.1.2
theorem runB_snoc (xs : List Run) (x : Run) : runB (xs ++ [x]) = runB xs ++ (form x.1.1.toNat ++ form x.1.2) := by simp [runB]
theorem runB_all {xs : List Run} {c : List UInt32} (h : xs.map (·.1) = runs c) : runB xs = runS c := by rw [runS, ← h, runB, List.flatMap_map]
theorem run_fifteen (x : Run) : (form x.1.1.toNat ++ form x.1.2).length ≤ 20 := by
  have h1 := (form_len x.1.1.toNat).2
  have h2 := (form_len x.1.2).2
  rw [List.length_append]
  omega
theorem runB_len (xs : List Run) : (runB xs).length ≤ 20 * xs.length := by
  induction xs with
  | nil => simp [runB]
  | cons x r ih =>
    have h1 := run_fifteen x
    have h2 : runB (x :: r) = (form x.1.1.toNat ++ form x.1.2) ++ runB r := by simp [runB]
    rw [h2, List.length_append, List.length_cons]
    omega

set_option maxRecDepth 100000 in
set_option maxHeartbeats 2000000 in
theorem size5_any (c : List UInt32) (A : Option Addr) (n cap B : Nat) (w : World) (hr : Reads w B 1 A n (c.map uw)) (hB : B ≤ w.heap.size) (hN : n ≤ 140737488355328) :
    Calls Try.prog 61 #[.slice A n cap] w fun e w' => e = .returned (.int .i64 ((runS c).length : Nat)) ∧ Below w.heap.size w w' := by
  have hlen : c.length = n := by have := hr.1; simpa using this
  have hrl := runs_len c
  refine (callsIn_wide (n := 6)).1 ?_
  refine callsIn_of_wp_marks Try.func61 rfl trivial ?_ rfl
  simp only [Try.ntmps61, List.size_toArray, List.length_cons, List.length_nil, Nat.reduceAdd, Nat.reduceSub, Array.replicate_succ, Array.replicate_zero, List.push_toArray, List.append_toArray, List.nil_append, List.cons_append]
  gi_wp2_with (refine ⟨trivial, ?_⟩; gi_at_call 62; refine (callsIn_wide.2 (runs_any A n cap _)).mono ?_; rintro e w' ⟨rfl, rfl⟩)
  have hs := cell_new_l w (.int .i64 0) 3
  have hb := cell_new_l (w.alloc (.cells #[.int .i64 0] 3)) (.slice A n cap) 22
  rw [World.size_alloc] at hb
  have hB0 : Below w.heap.size w ((w.alloc (.cells #[.int .i64 0] 3)).alloc (.cells #[.slice A n cap] 22)) := ((Below.refl _ w).alloc (Nat.le_refl _) _).alloc (by simp) _
  have hr2 : Reads ((w.alloc (.cells #[.int .i64 0] 3)).alloc (.cells #[.slice A n cap] 22)) B 1 A n (c.map uw) := (hr.alloc hB _).alloc (by simp; omega) _
  refine wpIn_rangeFunc_ownF rfl (by omega) (gf := 83) (lb := #[.pointer (some ⟨w.heap.size + 1, 0, none⟩)]) rfl trivial (enters_of Try.func83 (by kernel_rfl) rfl)
    (runs_stops _ (by omega) (w.heap.size + 1) A n cap B c hN _ (by simp) (by simp; omega) hb.1 hr2) keepC_t (keepC_b (by simp) (fun h ad e => by have := reads_lt hr h e; simp; omega)) (Below.refl _ _) (fun _ => rfl)
    (fun pre W => (W.cell? ⟨w.heap.size, 0, none⟩ = some (.int .i64 ((runB pre).length : Nat)) ∧ W.frozen? ⟨w.heap.size, 0, none⟩ = false) ∧ Below w.heap.size w W)
    (fun _ _ _ => False)
    (OwnFrom.and (Own.from (fun s A B row hs hg hr => ⟨cell_kept hs.1 hg hr, (frozen_kept hs.1 hg hr).trans hs.2⟩) _) (ownFrom_below (Nat.le_refl _) (by simp; omega)))
    (fun _ _ _ _ _ hs _ _ => hs)
    ⟨⟨cell_alloc_l _ hs.1, frozen_alloc_l _ hs.1 hs.2⟩, hB0⟩
    (fun x => { tmps := #[.slice A n cap, undef, .int .i64 0, .pointer (some ⟨w.heap.size, 0, none⟩), .int .u32 (x.1.1.toNat : Int), .int .i64 (x.1.2 : Int), .slice A n cap, .func (.func 83) #[] #[.pointer (some ⟨w.heap.size + 1, 0, none⟩)], .int .u32 (x.1.1.toNat : Int), .int .i64 (x.1.2 : Int), undef, undef, undef, undef, undef, undef, undef, undef, undef, undef], defers := [] }) ?assign ?body ?done ?stop
  case assign =>
    intro l x W K hK
    simp only [encR]
    gi_wp2
    exact hK
  case body =>
    rintro l pre x W ⟨⟨hc, hf⟩, hBW⟩ hpl
    have hd : 1 ≤ 6 - 1 - 1 := by omega
    have hmx : Try.prog.follows .mixedOrders = true := by kernel_rfl
    have hx4 := u32_lt x.1.1
    have hl47 := x.2
    have hS1 := hide (size_any x.1.1.toNat W.drew (by unfold U64; omega))
    have hS2 := hide (size_any x.1.2 W.drew (by unfold U64; omega))
    have hf1 := (form_len x.1.1.toNat).2
    have hf2 := (form_len x.1.2).2
    have hrb := runB_len pre
    have hsn : (runB (pre ++ [x])).length = (runB pre).length + ((form x.1.1.toNat).length + (form x.1.2).length) := by rw [runB_snoc, List.length_append, List.length_append]
    obtain ⟨X, hX⟩ : ∃ X, x.1.1.toNat = X := ⟨_, rfl⟩
    obtain ⟨L, hL⟩ : ∃ X, x.1.2 = X := ⟨_, rfl⟩
    rw [hX] at hx4 hf1 hsn
    rw [hL] at hl47 hf2 hsn
    simp only [hX] at hS1
    simp only [hL] at hS2
    rw [hX, hL]
    obtain ⟨a, ha⟩ : ∃ a, (form X).length = a := ⟨_, rfl⟩
    obtain ⟨b, hb'⟩ : ∃ a, (form L).length = a := ⟨_, rfl⟩
    obtain ⟨s, hs'⟩ : ∃ a, (runB pre).length = a := ⟨_, rfl⟩
    rw [ha] at hf1 hsn
    rw [hb'] at hf2 hsn
    rw [hs'] at hc hrb hsn
    simp only [ha] at hS1
    simp only [hb'] at hS2
    have HB := hide hBW
    have hw2 : IntKind.u64.wrap (X : Int) = (X : Int) := wrapu_nat X (by omega)
    have hw1 : IntKind.u64.wrap (L : Int) = (L : Int) := wrapu_nat L (by omega)
    obtain ⟨ab, hab⟩ : ∃ ab, a + b = ab := ⟨_, rfl⟩
    obtain ⟨t, ht⟩ : ∃ t, s + ab = t := ⟨_, rfl⟩
    rw [hab, ht] at hsn
    have hg1 : IntKind.i64.wrap ((a : Int) + (b : Int)) = (ab : Int) := by rw [IntWalk.i64_in _ (by omega)]; omega
    have hg2 : IntKind.i64.wrap ((s : Int) + (ab : Int)) = (t : Int) := by rw [IntWalk.i64_in _ (by omega)]; omega
    have HSN := Lib.hid hsn
    have HC := hide hc
    clear hX hL ha hb' hs' hsn hBW hab ht
    gi_wp2
    gi_region_with_o (first
      | (refine ⟨trivial, ?_⟩; gi_at_call 39; (with_reducible refine (CallsIn.inRound l (callsIn_wide.2 (unhide hS1))).mono ?_); rintro e w' ⟨rfl, rfl⟩)
      | (refine ⟨trivial, ?_⟩; gi_at_call 39; (with_reducible refine (CallsIn.inRound l (callsIn_wide.2 (unhide hS2))).mono ?_); rintro e w' ⟨rfl, rfl⟩))
    all_goals exact ⟨(KeepsOthers.setCell _ _ _).trans (KeepsOthers.drew _), (KeepC.set_ (q := ⟨w.heap.size, 0, none⟩) _ (by simp) (fun h ad e => by have := reads_lt hr h e; simp; omega)).drewN 1, ⟨by rw [HSN.out]; exact World.cell?_setCell_same' _ _ _ (by rw [unhide HC]; rfl), by rw [frozen_drew_own, World.frozen?_setCell]; exact hf⟩, (unhide HB).setCell (p := ⟨w.heap.size, 0, none⟩) (Nat.le_refl _) _ |>.drew⟩
  case done =>
    rintro D ys W hD hys ⟨⟨hc, _⟩, hBW⟩ hK
    rw [runB_all hys] at hc
    gi_wp2
    refine ⟨by simp, .inl ⟨_, _, rfl, run_takeDeferred hK, ?_⟩⟩
    exact ⟨_, results_tmp rfl _ _ _, rfl, hBW.trans (belowK_b (w := w) (Nat.le_refl _) W D _ _ (by simp at hD; omega) hK rfl rfl)⟩
  case stop =>
    rintro D c pre W _ _ h _
    exact h.elim
end Go.Proofs.Yteambdbcjcfdeaa
