/-
  What the run way lays into a writer, ranging over the column's runs: the walk over the Go text. Condition: what the writer holds stays below 2^47 bytes.
-/
import Derived.Test.YteambdbcjcfdeaaColLay
namespace Go.Proofs.Yteambdbcjcfdeaa
open Go.RowKit Go.Shelf
attribute [local go_sem] Oper.semAt_some

/-- Between two rounds: the writer, and the two boxes. -/
def LayI (w : World) (g : Nat) (v : Value) (bs : List UInt8) (A : Option Addr) (n cap : Nat) (pre : List Run) (W : World) : Prop :=
  (∃ v', WrP W g v' (bs ++ runB pre) ∧ Turns w g v W v') ∧ Blk W w.heap.size 56 #[.pointer (some ⟨g, 0, none⟩)] ∧ Blk W (w.heap.size + 1) 22 #[.slice A n cap]
theorem own_cells {w : World} {base n : Nat} {e : TypeId} {v : Value} {xs : List Value} (h : w.ownsRow base e 1 v n xs) {i : Nat} (hi : v.ownBlock = some i) : ∃ cur, w.heap[i]? = some (.cells cur e (0, 0)) := by
  rcases h.2 with ⟨rfl, _⟩ | ⟨g, cap, cur, rfl, _, hg, _⟩
  · cases hi
  · cases hi; exact ⟨cur, hg⟩
theorem layI_own {w : World} {g : Nat} {v : Value} {bs : List UInt8} {A : Option Addr} {n cap B : Nat} (hB : w.heap.size + 2 ≤ B) : OwnFrom B (LayI w g v bs A n cap) := by
  rintro pre W W' row ⟨⟨v', hw, ht⟩, h1, h2⟩ hgr hr
  have hc := Chg.of_grown hgr
  have hno : ∀ i cs t, row = some i → W.heap[i]? = some (.cells cs t (0, 0)) → False := fun i cs t e h => by
    obtain ⟨_, o, ho, hcells⟩ := hr i e
    rw [h] at ho
    cases ho
    cases hcells
  refine ⟨⟨v', hw.chg hc (fun e => hno _ _ _ e hw.blk) (fun i hi e => ?_), ⟨ht.chg.grown hgr (fun i e hi => by have := (hr i e).1; omega), ht.row⟩⟩, hc.blk h1 (fun e => hno _ _ _ e h1), hc.blk h2 (fun e => hno _ _ _ e h2)⟩
  obtain ⟨cur, hcur⟩ := own_cells hw.own hi
  exact hno _ _ _ e hcur
theorem keeps_turns {W W' : World} {g : Nat} {v v' : Value} {bs : List UInt8} (hw : WrP W g v bs) (ht : Turns W g v W' v') : KeepsOthers W W' :=
  ⟨ht.chg.size, fun k o hk ho => by
    refine (ht.chg.block k (Array.getElem?_eq_some_iff.1 hk).1 (fun e => ?_)).trans hk
    rcases e with e | e
    · have := hw.blk
      unfold Blk at this
      rw [← e, hk] at this
      cases this
      cases ho
    · obtain ⟨cur, hcur⟩ := own_cells hw.own e
      rw [hk] at hcur
      cases hcur
      cases ho⟩

set_option maxRecDepth 100000 in
set_option maxHeartbeats 2000000 in
theorem lay6_any (c : List UInt32) (A : Option Addr) (n cap B : Nat) (w : World) (g : Nat) (v : Value) (bs : List UInt8) (h : WrP w g v bs) (hr : Reads w B 1 A n (c.map uw)) (hB : B ≤ g) (hb : bs.length + 20 * n ≤ 140737488340000) :
    Calls Try.prog 63 #[.pointer (some ⟨g, 0, none⟩), .slice A n cap] w fun e w' => e = .returned (.tuple #[]) ∧ ∃ v', WrP w' g v' (bs ++ runS c) ∧ Turns w g v w' v' := by
  have hlen : c.length = n := by have := hr.1; simpa using this
  have hrl := runs_len c
  have hgl := h.blk.lt
  obtain ⟨W0, hW0⟩ : ∃ W0, (w.alloc (.cells #[.pointer (some ⟨g, 0, none⟩)] 56)).alloc (.cells #[.slice A n cap] 22) = W0 := ⟨_, rfl⟩
  have hb0 : Below w.heap.size w W0 := by rw [← hW0]; exact ((Below.refl _ _).alloc (Nat.le_refl _) _).alloc (by simp) _
  have hx1 : Blk W0 w.heap.size 56 #[.pointer (some ⟨g, 0, none⟩)] := by rw [← hW0]; exact (Blk.new w _ _).alloc _
  have hx2 : Blk W0 (w.heap.size + 1) 22 #[.slice A n cap] := by
    rw [← hW0]
    have := Blk.new (w.alloc (.cells #[.pointer (some ⟨g, 0, none⟩)] 56)) 22 #[.slice A n cap]
    rwa [World.size_alloc] at this
  have hz0 : W0.heap.size = w.heap.size + 2 := by rw [← hW0]; simp
  have hI0 : LayI w g v bs A n cap [] W0 := ⟨⟨v, by simpa [runB] using h.chg (Chg.of_below hb0 (fun _ => False)) (fun h => h) (fun _ _ h => h), ⟨Chg.of_below hb0 _, .inl rfl⟩⟩, hx1, hx2⟩
  have hr2 := hr.below (hb0.mono (show B ≤ w.heap.size by omega))
  have hlA : 0 < n → ∀ ad, A = some ad → ad.block < B := fun hn ad e => reads_lt hr hn e
  refine (callsIn_wide (n := 6)).1 ?_
  refine callsIn_of_wp_marks Try.func63 rfl trivial ?_ rfl
  simp only [Try.ntmps63, List.size_toArray, List.length_cons, List.length_nil, Nat.reduceAdd, Nat.reduceSub, Array.replicate_succ, Array.replicate_zero, List.push_toArray, List.append_toArray, List.nil_append, List.cons_append]
  gi_wp2_with (refine ⟨trivial, ?_⟩; gi_at_call 62; refine (callsIn_wide.2 (runs_any A n cap _)).mono ?_; rintro e w' ⟨rfl, rfl⟩)
  refine wpIn_rangeFunc_ownF rfl (by omega) (gf := 83) (lb := #[.pointer (some ⟨w.heap.size + 1, 0, none⟩)]) rfl trivial (enters_of Try.func83 (by kernel_rfl) rfl)
    (runs_stops _ (by omega) (w.heap.size + 1) A n cap B c (by omega) W0 (by omega) (by omega) (hx2.cell 0) hr2) keepC_t (keepC_b (by omega) (fun h ad e => by have := hlA h ad e; omega)) (Below.refl _ _) (fun _ => rfl)
    (LayI w g v bs A n cap) (fun _ _ _ => False) (layI_own (by omega)) (fun _ _ _ _ _ hs _ _ => hs) hI0
    (fun x => { tmps := #[.pointer (some ⟨g, 0, none⟩), .slice A n cap, .pointer (some ⟨w.heap.size, 0, none⟩), undef, .int .u32 (x.1.1.toNat : Int), .int .i64 (x.1.2 : Int), .slice A n cap, .func (.func 83) #[] #[.pointer (some ⟨w.heap.size + 1, 0, none⟩)], .int .u32 (x.1.1.toNat : Int), .int .i64 (x.1.2 : Int), undef, undef, undef, undef, undef, undef, undef], defers := [] }) ?assign ?body ?done ?stop
  case assign =>
    intro l x W K hK
    simp only [encR]
    gi_wp2
    exact hK
  case body =>
    rintro l pre x W ⟨⟨v', hw, ht⟩, hy1, hy2⟩ hpl
    have hx4 := u32_lt x.1.1
    have hl47 := x.2
    have hrb := runB_len pre
    have hN := num_step W g v' (bs ++ runB pre) [x.1.1.toNat, x.1.2] hw (fun n hn => by
      simp only [List.mem_cons, List.not_mem_nil, or_false] at hn
      rcases hn with rfl | rfl <;> (unfold U64; omega)) (by simp) (by rw [List.length_append]; simp; omega)
    rw [forms_two, List.append_assoc, ← runB_snoc] at hN
    have hkt := fun (W2 : World) (v2 : Value) (ht2 : Turns W g v' W2 v2) => keeps_turns hw ht2
    have hkc : ∀ (W2 : World) (v2 : Value), Turns W g v' W2 v2 → KeepC (w.heap.size + 1) A n W W2 ∧ Blk W2 w.heap.size 56 #[.pointer (some ⟨g, 0, none⟩)] ∧ Blk W2 (w.heap.size + 1) 22 #[.slice A n cap] := fun W2 v2 ht2 => by
      have e1 : ∀ i t cs, Blk W i t cs → 5 ≠ t → ¬ (i = g) → ¬ (i = g ∨ v'.ownBlock = some i) := fun i t cs hb hne hg e => by
        rcases e with e | e
        · exact hg e
        · exact own_blk_ne hw.own hb hne e
      refine ⟨KeepC.of_chg ht2.chg hy2.lt (e1 _ _ _ hy2 (by decide) (by omega)) (fun hn ad e => ?_), ht2.chg.blk hy1 (e1 _ _ _ hy1 (by decide) (by omega)), ht2.chg.blk hy2 (e1 _ _ _ hy2 (by decide) (by omega))⟩
      have h1 := hlA hn ad e
      have h2 := hy1.lt
      refine ⟨by omega, fun e2 => ?_⟩
      rcases e2 with e2 | e2
      · omega
      · have := (hw.own.lt _ e2).1; omega
    have q0 : W.cell? ⟨w.heap.size, 0, none⟩ = some (.pointer (some ⟨g, 0, none⟩)) := hy1.cell 0
    obtain ⟨X, hX⟩ : ∃ X, x.1.1.toNat = X := ⟨_, rfl⟩
    obtain ⟨L, hL⟩ : ∃ X, x.1.2 = X := ⟨_, rfl⟩
    rw [hX] at hx4
    rw [hL] at hl47
    rw [hX, hL] at hN ⊢
    have HN := hide hN
    have HT := hide ht
    have HKT := hide hkt
    have HKC := hide hkc
    have hw2 : IntKind.u64.wrap (X : Int) = (X : Int) := wrapu_nat X (by omega)
    have hw1 : IntKind.u64.wrap (L : Int) = (L : Int) := wrapu_nat L (by omega)
    have hd : 1 ≤ 6 - 1 - 1 := by omega
    clear hX hL hN ht hkt hkc hw hy1 hy2
    gi_wp2_with (refine ⟨trivial, ?_⟩; gi_at_call 54; refine (CallsIn.inRound l (callsIn_wide.2 (unhide HN))).mono ?_; rintro e w' ⟨rfl, v2, hw2', ht2⟩
                 have HW2 := hide hw2'
                 have HT2 := hide ht2
                 clear hw2' ht2)
    have k := unhide HKC _ _ (unhide HT2)
    exact ⟨unhide HKT _ _ (unhide HT2), k.1, ⟨v2, unhide HW2, (unhide HT).trans (unhide HT2)⟩, k.2.1, k.2.2⟩
  case done =>
    rintro D ys W hD hys hI hK
    have hI2 := (layI_own (w := w) (g := g) (v := v) (bs := bs) (A := A) (n := n) (cap := cap) (B := W0.heap.size) (by omega)).putObj (.deferred none) hI hD hK rfl
    obtain ⟨⟨v', hw, ht⟩, _, _⟩ := hI2
    rw [runB_all hys] at hw
    have HW := hide hw
    have HT := hide ht
    clear hw ht hI hys
    gi_wp2
    refine ⟨by simp, .inl ⟨_, _, rfl, run_takeDeferred hK, ?_⟩⟩
    exact ⟨_, results_none rfl _ _ _, rfl, v', unhide HW, unhide HT⟩
  case stop =>
    rintro D c pre W _ _ h _
    exact h.elim
end Go.Proofs.Yteambdbcjcfdeaa
