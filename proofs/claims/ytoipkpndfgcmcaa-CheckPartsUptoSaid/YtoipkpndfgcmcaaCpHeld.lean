/-
  Parts lent: the law's row of slices with marks behind each, what stays of it; the document's sum of parts. The conditions stand in each theorem.
-/
import Derived.Test.YtoipkpndfgcmcaaCrcRef
import Derived.Test.YtoipkpndfgcmcaaCrcLent
import Derived.Test.YtoipkpndfgcmcaaCvRest
namespace Go.Proofs.Ytoipkpndfgcmcaa.Crew
open Go Go.RowKit
set_option linter.unusedVariables false
theorem elem_sl : ElemOf Try.prog 62 29 1 24 := .mk' (.slice none 0 0) Try.underlying62 (by kernel_rfl) rfl (by omega)
/-- Parts as they are handed in. -/
structure PartsIn (w : World) (B : Nat) (a0 : Option Addr) (n : Nat) (ps : List (List UInt8)) (sl : Nat → Option Addr × Nat) : Prop where
  len : ps.length = n
  cells : 0 < n → ∃ g off, a0 = some ⟨g, off, none⟩ ∧ g < B ∧ ∀ j, j < n → w.cell? ⟨g, off + j, none⟩ = some (.slice (sl j).1 (ps.getD j []).length (sl j).2)
  bytes : ∀ j, j < n → Reads w B 1 (sl j).1 (ps.getD j []).length ((ps.getD j []).map bv)
section
variable {w w' : World} {B n : Nat} {a0 : Option Addr} {ps : List (List UInt8)} {sl : Nat → Option Addr × Nat}
theorem PartsIn.keep (h : PartsIn w B a0 n ps sl) (hk : ∀ (p : Addr) (u : Value), p.block < B → w.cell? p = some u → w'.cell? p = some u) : PartsIn w' B a0 n ps sl := by
  refine ⟨h.len, fun hp => ?_, fun j hj => ?_⟩
  · obtain ⟨g, off, h1, h2, h3⟩ := h.cells hp
    exact ⟨g, off, h1, h2, fun j hj => hk _ _ h2 (h3 j hj)⟩
  · obtain ⟨h1, h2⟩ := h.bytes j hj
    refine ⟨h1, fun hn => ?_⟩
    obtain ⟨ad, e, hb, hc⟩ := h2 hn
    exact ⟨ad, e, hb, fun i u hu => hk _ _ (by rw [block_of_add]; exact hb) (hc i u hu)⟩
theorem PartsIn.below (h : PartsIn w B a0 n ps sl) (hb : Below B w w') : PartsIn w' B a0 n ps sl := h.keep fun p u hp hc => (hb.cell hp).trans hc
theorem PartsIn.args (h : PartsIn w B a0 n ps sl) {X : Nat → Prop} {N : Nat} (hBN : B ≤ N) (hX : ∀ r, X r → B ≤ r) : Args w N X a0 n ps sl := by
  refine ⟨h.len, fun hp => ?_, fun j hj hp => ?_⟩
  · obtain ⟨g, off, h1, h2, h3⟩ := h.cells hp
    exact ⟨g, off, h1, by omega, fun x => by have := hX g x; omega, h3⟩
  · obtain ⟨b, off, u, h1, h2, _, _, h3⟩ := (h.bytes j hj).at0 hp
    exact ⟨b, off, h1, by omega, fun x => by have := hX b x; omega, fun k u hu => h3 k u hu⟩
set_option maxRecDepth 100000 in
set_option maxHeartbeats 1000000 in
theorem refParts_any (a0 : Option Addr) (n cap : Nat) (w : World) (h : PartsIn w B a0 n ps sl) (hB : ∀ j, j < n → (ps.getD j []).length ≤ 140737488355328) (hn : n < 2147483648) :
    Calls Try.prog 37 #[.slice a0 n cap] w fun e w' => e = .returned (.int .u32 (sumP ps : Nat)) ∧ w = w' := by
  have HR := hide h
  clear h
  go_enter Try.func37, Try.ntmps37
  go_wp2
  go_loopg [3, 4] n (fun q t i wr => ∃ k s : Nat, k + q = n ∧ i = .int .i64 (k : Int) ∧ t = .int .u32 (s : Int) ∧ Hid (s = sumP (ps.take k)) ∧ w = wr)
  case atStart => exact ⟨0, 0, by omega, rfl, rfl, rfl, rfl⟩
  case round =>
    obtain ⟨k, s, hk, rfl, rfl, hs, rfl⟩ := hrel
    by_cases hlt : k < n
    · obtain ⟨q, rfl⟩ : ∃ q, gk = q + 1 := ⟨gk - 1, by omega⟩
      have h0 := unhide HR
      obtain ⟨g, off, rfl, hg, hcell⟩ := h0.cells (by omega)
      have c1 := hcell k hlt
      have hsl : s < U32 := by rw [unhide hs]; exact sumP_lt _
      have HU := hide (refUpdate_any s (ps.getD k []) (sl k).1 _ (sl k).2 B w hsl (h0.bytes k hlt) (hB k hlt))
      have HN := hide (show upd s (ps.getD k []) = sumP (ps.take (k + 1)) by rw [sumP_succ (by rw [h0.len]; exact hlt), ← unhide hs])
      obtain ⟨u, hu⟩ : ∃ u, upd s (ps.getD k []) = u := ⟨_, rfl⟩
      rw [hu] at HU HN
      obtain ⟨A, hA⟩ : ∃ A, (sl k).1 = A := ⟨_, rfl⟩
      obtain ⟨c, hc⟩ : ∃ c, (sl k).2 = c := ⟨_, rfl⟩
      obtain ⟨m, hm⟩ : ∃ m, (ps.getD k []).length = m := ⟨_, rfl⟩
      rw [hA, hc, hm] at c1 HU
      clear h0 hcell hs hsl hu hA hc hm hB
      go_wp2_with (go_at_call 27; refine (unhide HU).mono ?_; rintro e w1 ⟨rfl, rfl⟩)
      go_roundg q
      case rel => exact ⟨k + 1, u, by omega, by go_num, rfl, unhide HN, rfl⟩
      case measure => omega
    · obtain rfl : k = n := by omega
      have hx : s = sumP ps := by rw [unhide hs, List.take_of_length_le (by rw [(unhide HR).len]; exact Nat.le_refl _)]
      clear hs
      go_wp2
      go_ret
      exact ⟨by rw [hx]; rfl, rfl⟩
end
theorem _root_.Go.World.ownsRow.bel {w w' : World} {base n size : Nat} {e : TypeId} {v : Value} {xs : List Value} (h : w.ownsRow base e size v n xs) (hb : Below w.heap.size w w') : w'.ownsRow base e size v n xs :=
  (Chg.of_below hb (fun _ => False)).own h (fun _ _ f => f)
/-- A slice that 'lent' gave. -/
structure Lnt (w : World) (bs : List UInt8) (p : Nat × Nat) : Prop where
  cap : bs.length + 5 ≤ p.2
  lt : p.1 < w.heap.size
  cells : ∀ k u, ((bs ++ mk 5).map bv)[k]? = some u → w.cell? ⟨p.1, k, none⟩ = some u
theorem Lnt.keep {w w' : World} {bs : List UInt8} {p : Nat × Nat} (h : Lnt w bs p) (hs : w.heap.size ≤ w'.heap.size) (hb : w'.heap[p.1]? = w.heap[p.1]?) : Lnt w' bs p :=
  ⟨h.cap, Nat.lt_of_lt_of_le h.lt hs, fun k u hu => (World.cell?_of_block (a := ⟨p.1, k, none⟩) hb).trans (h.cells k u hu)⟩
theorem Lnt.below {w w' : World} {N : Nat} {bs : List UInt8} {p : Nat × Nat} (h : Lnt w bs p) (hb : Below N w w') (hN : p.1 < N) : Lnt w' bs p := h.keep hb.size (hb.block _ hN)
theorem Lnt.reads {w : World} {bs : List UInt8} {p : Nat × Nat} (h : Lnt w bs p) : Reads w w.heap.size 1 (some ⟨p.1, 0, none⟩) (bs.length + 5) ((bs ++ Go.Proofs.Ytoipkpndfgcmcaa.mk 5).map bv) :=
  ⟨by simp [mk_len], fun _ => ⟨_, rfl, h.lt, fun j u hu => by rw [show (⟨p.1, 0, none⟩ : Addr).add j = ⟨p.1, j, none⟩ by unfold Addr.add; split <;> simp_all]; exact h.cells j u hu⟩⟩
theorem Lnt.of_own {w : World} {B L g cap : Nat} {bs : List UInt8} (hL : bs.length = L) (hc : L + 5 ≤ cap) (h : w.ownsRow B 5 1 (.slice (some ⟨g, 0, none⟩) (L + 5 : Nat) cap) (L + 5) ((bs ++ Go.Proofs.Ytoipkpndfgcmcaa.mk 5).map bv)) : Lnt w bs (g, cap) := by
  obtain ⟨g', cap', e, _, hlt⟩ := h.form (by omega)
  simp only [Value.slice.injEq, Option.some.injEq, Addr.mk.injEq, and_true, true_and] at e
  obtain ⟨rfl, rfl⟩ := e
  refine ⟨by rw [hL]; exact hc, hlt, fun k u hu => ?_⟩
  have hk : k < (L + 5) * 1 := by
    have := (List.getElem?_eq_some_iff.1 hu).1
    simp [mk_len, hL] at this
    omega
  exact (h.cellAt k hk).trans hu
def slv (bs : List UInt8) (p : Nat × Nat) : Value := .slice (some ⟨p.1, 0, none⟩) bs.length p.2
/-- The row of lent slices while it grows. -/
structure HeldAt (N : Nat) (w0 : World) (qs : List (List UInt8)) (i : Nat) (v : Value) (G : Nat → Nat × Nat) (w : World) : Prop where
  own : w.ownsRow N 29 1 v i ((List.range i).map fun j => slv (qs.getD j []) (G j))
  each : ∀ j, j < i → Lnt w (qs.getD j []) (G j) ∧ v.ownBlock ≠ some (G j).1 ∧ N ≤ (G j).1
  below : Below N w0 w
section
variable {N i : Nat} {w0 w w1 w2 : World} {qs : List (List UInt8)} {v v2 : Value} {G : Nat → Nat × Nat}
theorem HeldAt.nil : HeldAt N w0 qs 0 (.slice none 0 0) G w0 := ⟨World.ownsRow_nil _ _ _ _, fun j hj => by omega, Below.refl _ _⟩
theorem HeldAt.grow (h : HeldAt N w0 qs i v G w) (hb : Below w.heap.size w w1) (hN : N ≤ w.heap.size) : HeldAt N w0 qs i v G w1 := by
  refine ⟨h.own.bel hb, fun j hj => ?_, h.below.trans (hb.mono hN)⟩
  obtain ⟨h1, h2, h3⟩ := h.each j hj
  exact ⟨h1.below hb h1.lt, h2, h3⟩
theorem HeldAt.step (h : HeldAt N w0 qs i v G w) {g cap : Nat} (hN : N ≤ w.heap.size) (hg : w.heap.size ≤ g) (hl : Lnt w1 (qs.getD i []) (g, cap)) (hb : Below w.heap.size w w1)
    (ho : w2.ownsRow N 29 1 v2 (i + 1) (((List.range i).map fun j => slv (qs.getD j []) (G j)) ++ [slv (qs.getD i []) (g, cap)])) (hgr : w1.grownBy w2 v.ownBlock) (hv : v2.ownBlock = v.ownBlock ∨ ∃ b, v2.ownBlock = some b ∧ w1.heap.size ≤ b) :
    HeldAt N w0 qs (i + 1) v2 (fun j => if j = i then (g, cap) else G j) w2 := by
  have h1 := h.grow hb hN
  have hs := hb.size
  have hvb : ∀ k, v.ownBlock = some k → k < w.heap.size := fun k hk => (h.own.lt k hk).2
  refine ⟨?_, fun j hj => ?_, h1.below.grown hgr (Nat.le_trans hN hs) fun k hk => (h.own.lt k hk).1⟩
  · rw [List.range_succ, List.map_append]
    simp only [List.map_cons, List.map_nil, if_true]
    rw [show ((List.range i).map fun j => slv (qs.getD j []) (if j = i then (g, cap) else G j)) = (List.range i).map fun j => slv (qs.getD j []) (G j) from List.map_congr_left fun j hj => by
      have := List.mem_range.1 hj
      rw [if_neg (by omega)]]
    exact ho
  · by_cases e : j = i
    · subst e
      simp only [if_true]
      refine ⟨hl.keep hgr.size (hgr.block _ hl.lt fun e => ?_), fun e => ?_, by omega⟩
      · have := hvb _ e.symm
        have : g < w.heap.size := this
        omega
      · rcases hv with hv | ⟨b, hv, hb2⟩
        · have := hvb _ (hv.symm.trans e)
          have : g < w.heap.size := this
          omega
        · rw [hv] at e
          injection e with e
          have := hl.lt
          subst e
          omega
    · simp only [e, if_false]
      obtain ⟨k1, k2, k3⟩ := h1.each j (by omega)
      refine ⟨k1.keep hgr.size (hgr.block _ k1.lt fun e => k2 e.symm), fun e => ?_, k3⟩
      rcases hv with hv | ⟨b, hv, hb2⟩
      · exact k2 (hv.symm.trans e)
      · rw [hv] at e
        injection e with e
        have := k1.lt
        subst e
        omega
end
/-- The row of lent slices, made. -/
structure HeldC (w : World) (qs : List (List UInt8)) (m h : Nat) (G : Nat → Nat × Nat) : Prop where
  lt : h < w.heap.size
  row : ∀ j, j < m → w.cell? ⟨h, j, none⟩ = some (slv (qs.getD j []) (G j))
  each : ∀ j, j < m → Lnt w (qs.getD j []) (G j)
theorem HeldAt.made {N i h c : Nat} {w0 w : World} {qs : List (List UInt8)} {G : Nat → Nat × Nat} (H : HeldAt N w0 qs i (.slice (some ⟨h, 0, none⟩) i c) G w) (hi : 0 < i) : HeldC w qs i h G := by
  refine ⟨(H.own.lt h rfl).2, fun j hj => ?_, fun j hj => (H.each j hj).1⟩
  rw [H.own.cellAt j (by omega), List.getElem?_map, List.getElem?_range hj]
  rfl
theorem HeldC.below {N m h : Nat} {w w' : World} {qs : List (List UInt8)} {G : Nat → Nat × Nat} (H : HeldC w qs m h G) (hb : Below N w w') (hN : w.heap.size ≤ N) : HeldC w' qs m h G :=
  ⟨Nat.lt_of_lt_of_le H.lt hb.size, fun j hj => (hb.cell (p := ⟨h, j, none⟩) (Nat.lt_of_lt_of_le H.lt hN)).trans (H.row j hj), fun j hj => (H.each j hj).below hb (Nat.lt_of_lt_of_le (H.each j hj).lt hN)⟩
/-- The lent slices as parts. -/
theorem HeldC.parts {m n h : Nat} {w : World} {qs ps : List (List UInt8)} {G : Nat → Nat × Nat} (H : HeldC w qs m h G) (hn : n ≤ m) (hl : ps.length = n) (hq : ∀ j, j < n → qs.getD j [] = ps.getD j []) :
    PartsIn w w.heap.size (some ⟨h, 0, none⟩) n ps (fun j => (some ⟨(G j).1, 0, none⟩, (G j).2)) := by
  refine ⟨hl, fun _ => ⟨h, 0, rfl, H.lt, fun j hj => ?_⟩, fun j hj => ?_⟩
  · have := H.row j (by omega)
    rw [hq j hj] at this
    rw [Nat.zero_add]
    exact this
  · have := (H.each j (by omega)).reads
    rw [hq j hj] at this
    exact this.front rfl
end Go.Proofs.Ytoipkpndfgcmcaa.Crew
