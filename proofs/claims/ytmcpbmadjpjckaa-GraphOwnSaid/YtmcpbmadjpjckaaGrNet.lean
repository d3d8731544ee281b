/-
  netOf: the walk over the Go text. (IN WORK)
-/
import Derived.Test.YtmcpbmadjpjckaaGrFr
import Derived.Deep.RegionHeld3
namespace Go.Proofs.Ytmcpbmadjpjckaa
open Go.RowKit

/-- The cells of a list of edges. -/
def ecells (E : List (Int × Int × Int)) : List Value := E.flatMap fun e => [.int .i64 e.1, .int .i64 e.2.1, .int .i64 e.2.2]
theorem ecells_len (E : List (Int × Int × Int)) : (ecells E).length = E.length * 3 := by
  induction E with
  | nil => rfl
  | cons f r ih => rw [ecells, List.flatMap_cons, List.length_append]; show 3 + (ecells r).length = _; rw [ih, List.length_cons]; omega
theorem ecells_at : ∀ (E : List (Int × Int × Int)) {k : Nat} {e : Int × Int × Int}, E[k]? = some e → (ecells E)[3 * k]? = some (.int .i64 e.1) ∧ (ecells E)[3 * k + 1]? = some (.int .i64 e.2.1) ∧ (ecells E)[3 * k + 2]? = some (.int .i64 e.2.2)
  | [], k, e, h => by cases h
  | x :: r, 0, e, h => by
    simp at h
    subst h
    exact ⟨rfl, rfl, rfl⟩
  | x :: r, k + 1, e, h => by
    have ih := ecells_at r (k := k) (e := e) (by simpa using h)
    have hx : ecells (x :: r) = [.int .i64 x.1, .int .i64 x.2.1, .int .i64 x.2.2] ++ ecells r := rfl
    rw [hx]
    refine ⟨?_, ?_, ?_⟩
    · rw [List.getElem?_append_right (by simp; omega)]; rw [show 3 * (k + 1) - [Value.int .i64 x.1, .int .i64 x.2.1, .int .i64 x.2.2].length = 3 * k by simp; omega]; exact ih.1
    · rw [List.getElem?_append_right (by simp; omega)]; rw [show 3 * (k + 1) + 1 - [Value.int .i64 x.1, .int .i64 x.2.1, .int .i64 x.2.2].length = 3 * k + 1 by simp; omega]; exact ih.2.1
    · rw [List.getElem?_append_right (by simp; omega)]; rw [show 3 * (k + 1) + 2 - [Value.int .i64 x.1, .int .i64 x.2.1, .int .i64 x.2.2].length = 3 * k + 2 by simp; omega]; exact ih.2.2
/-- An edge that reads, at a place. -/
theorem Reads.edge {w : World} {B m k : Nat} {A : Option Addr} {E : List (Int × Int × Int)} (h : Reads w B 3 A m (ecells E)) (hk : k < m) :
    ∃ b off f t g, A = some ⟨b, off, none⟩ ∧ b < B ∧ E[k]? = some (f, t, g) ∧ w.cell? ⟨b, off + k * 3, none⟩ = some (.int .i64 f) ∧ w.cell? ⟨b, off + k * 3 + 1, none⟩ = some (.int .i64 t) ∧ w.cell? ⟨b, off + k * 3 + 2, none⟩ = some (.int .i64 g) := by
  obtain ⟨ad, rfl, hb, hc⟩ := h.2 (by omega)
  have hl : E.length = m := by have := h.1; rw [ecells_len] at this; omega
  have hk2 : k < E.length := by omega
  obtain ⟨⟨f, t, g⟩, he⟩ : ∃ e, E[k]? = some e := ⟨_, List.getElem?_eq_getElem hk2⟩
  obtain ⟨c1, c2, c3⟩ := ecells_at E he
  obtain ⟨e0, he0⟩ : ∃ e, E[0]? = some e := ⟨_, List.getElem?_eq_getElem (by omega)⟩
  have hs := World.cell?_spot (hc _ _ (ecells_at E he0).1)
  obtain ⟨b, off, spot⟩ := ad
  have hs0 : spot = none := hs
  subst hs0
  have hadd : ∀ j, (⟨b, off, none⟩ : Addr).add j = ⟨b, off + j, none⟩ := fun j => by unfold Addr.add; split <;> simp_all
  have d1 := hc _ _ c1
  have d2 := hc _ _ c2
  have d3 := hc _ _ c3
  rw [hadd] at d1 d2 d3
  refine ⟨b, off, f, t, g, rfl, hb, he, ?_, ?_, ?_⟩
  · rw [show off + k * 3 = off + 3 * k by omega]; exact d1
  · rw [show off + k * 3 + 1 = off + (3 * k + 1) by omega]; exact d2
  · rw [show off + k * 3 + 2 = off + (3 * k + 2) by omega]; exact d3
/-- The edges so far, by the node that they leave. -/
def adjOf (E : List (Int × Int × Int)) (back : Bool) (u : Nat) : List Nat :=
  E.filterMap fun e => if (if back then e.2.1 else e.1) = (u : Int) then some (if back then e.1 else e.2.1).toNat else none
theorem adjOf_snoc (E : List (Int × Int × Int)) (back : Bool) (e : Int × Int × Int) (u : Nat) :
    adjOf (E ++ [e]) back u = adjOf E back u ++ (if (if back then e.2.1 else e.1) = (u : Int) then [(if back then e.1 else e.2.1).toNat] else []) := by
  rw [adjOf, List.filterMap_append]
  congr 1
  rw [List.filterMap_cons, List.filterMap_nil]
  by_cases h : (if back then e.2.1 else e.1) = (u : Int)
  · rw [if_pos h, if_pos h]
  · rw [if_neg h, if_neg h]
theorem made_tab (L : Nat) (z : Value) (hz : z.cells = #[z]) : madeCells z.cells L = tab L (fun _ => z) := by
  rw [hz]
  apply Array.ext
  · simp [size_madeCells, tab]
  · intro j h1 h2
    simp [madeCells, Nat.mod_one, tab]
theorem make_tab {P : Program} {t e : TypeId} {z : Value} {bytes : Nat} (ht : P.underlying t = some (.slice e)) (hi : (P.info? e).map (fun i => (i.zero, i.size, i.bytes)) = some (some z, 1, bytes)) (hz : z.cells = #[z]) (w : World) (L : Nat) (hL : L ≤ 2097152) (hb : bytes ≤ 1024) :
    (Instr.makeSlice t (.int .i64 (L : Int)) (.int .i64 (L : Int))).run P w = .ok (.slice (some ⟨w.heap.size, 0, none⟩) L L) (w.alloc (.cells (tab L fun _ => z) e)) := by
  obtain ⟨i, hi, hz', hs, hb'⟩ := info_parts hi
  have h3 : bytes * L ≤ 1024 * L := Nat.mul_le_mul_right _ hb
  have h := run_make (P := P) w t e i z ht hi hz' .i64 .i64 (L : Int) (L : Int) (by omega) (by omega) (by rw [hb']; omega) (by omega)
  rw [hs, Int.toNat_natCast, Nat.mul_one, made_tab L z hz] at h
  exact h
theorem make_ints (w : World) (L : Nat) (hL : L ≤ 2097152) : (Instr.makeSlice 25 (.int .i64 (L : Int)) (.int .i64 (L : Int))).run Try.prog w = .ok (.slice (some ⟨w.heap.size, 0, none⟩) L L) (w.alloc (.cells (tab L fun _ => .int .i64 0) 3)) :=
  make_tab (bytes := 8) Try.underlying25 (by kernel_rfl) rfl w L hL (by omega)
theorem make_net (w : World) (L : Nat) (hL : L ≤ 2097152) : (Instr.makeSlice 60 (.int .i64 (L : Int)) (.int .i64 (L : Int))).run Try.prog w = .ok (.slice (some ⟨w.heap.size, 0, none⟩) L L) (w.alloc (.cells (tab L fun _ => .slice none 0 0) 25)) :=
  make_tab (bytes := 24) Try.underlying60 (by kernel_rfl) rfl w L hL (by omega)

/-- Where a table of rows stands: n rows, apart, each of the caller's own. -/
structure RowsS (W : World) (gG B n : Nat) (tE e : TypeId) (s : Nat) (V : Nat → Value) (len : Nat → Nat) (xs : Nat → List Value) : Prop where
  blk : Blk W gG tE (tab n V)
  own : ∀ u, u < n → W.ownsRow B e s (V u) (len u) (xs u)
  apart : ∀ u v, u < n → v < n → u ≠ v → ∀ b, (V u).ownBlock = some b → (V v).ownBlock ≠ some b
section
variable {W W' : World} {gG B n s : Nat} {tE e : TypeId} {V : Nat → Value} {len : Nat → Nat} {xs : Nat → List Value}
theorem RowsS.below (h : RowsS W gG B n tE e s V len xs) (hb : Below W.heap.size W W') : RowsS W' gG B n tE e s V len xs :=
  ⟨h.blk.below hb h.blk.lt, fun u hu => (Chg.of_below hb (fun _ => False)).own (h.own u hu) (fun _ _ h => h), h.apart⟩
theorem RowsS.grow {w4 : World} (h : RowsS W gG B n tE e s V len xs) {p : Nat} (hp : p < n) (hgB : gG < B) {v v4 : Value} (hV : V p = v) {news : List Value} (ho4 : w4.ownsRow B e s v4 (len p + 1) (xs p ++ news)) (hg : W.grownBy w4 v.ownBlock)
    (hr : v4.ownBlock = v.ownBlock ∨ ∃ g, v4.ownBlock = some g ∧ W.heap.size ≤ g) :
    RowsS (w4.setCell ⟨gG, p, none⟩ v4) gG B n tE e s (upf V p v4) (upf len p (len p + 1)) (upf xs p (xs p ++ news)) := by
  subst hV
  have hB : ∀ u, u < n → ∀ b, (V u).ownBlock = some b → B ≤ b ∧ b < W.heap.size := fun u hu b e => (h.own u hu).lt b e
  have h4 : ∀ b, v4.ownBlock = some b → B ≤ b := fun b e => (ho4.lt b e).1
  refine ⟨?_, fun u hu => ?_, fun u v hu hv hne b e1 e2 => ?_⟩
  · rw [← tab_set]
    exact ((h.blk).grown hg (fun e => by have := (hB p hp _ e.symm).1; omega)).set_ _ _
  · by_cases e : u = p
    · subst e
      rw [upf_same, upf_same, upf_same]
      exact (Chg.of_set w4 ⟨gG, u, none⟩ v4).own ho4 (fun i hi e => by have := h4 i hi; simp only at e; omega)
    · rw [upf_ne _ _ e, upf_ne _ _ e, upf_ne _ _ e]
      refine (Chg.of_set w4 ⟨gG, p, none⟩ v4).own ((Chg.of_grown hg).own (h.own u hu) (fun i hi e2 => h.apart u p hu hp e i hi e2)) (fun i hi e => by have := (hB u hu i hi).1; simp only at e; omega)
  · by_cases eu : u = p
    · subst eu
      rw [upf_same] at e1
      rw [upf_ne _ _ (fun e => hne e.symm)] at e2
      rcases hr with hr | ⟨g, hr, hg⟩
      · exact h.apart u v hu hv hne b (hr ▸ e1) e2
      · rw [hr] at e1
        cases e1
        have := (hB v hv _ e2).2
        omega
    · rw [upf_ne _ _ eu] at e1
      by_cases ev : v = p
      · subst ev
        rw [upf_same] at e2
        rcases hr with hr | ⟨g, hr, hg⟩
        · exact h.apart u v hu hv hne b e1 (hr ▸ e2)
        · rw [hr] at e2
          cases e2
          have := (hB u hu _ e1).2
          omega
      · rw [upf_ne _ _ ev] at e2
        exact h.apart u v hu hv hne b e1 e2
theorem RowsS.congr {V' : Nat → Value} {len' : Nat → Nat} {xs' : Nat → List Value} (h : RowsS W gG B n tE e s V len xs) (h1 : ∀ u, V u = V' u) (h2 : ∀ u, len u = len' u) (h3 : ∀ u, xs u = xs' u) : RowsS W gG B n tE e s V' len' xs' := by
  obtain rfl : V = V' := funext h1
  obtain rfl : len = len' := funext h2
  obtain rfl : xs = xs' := funext h3
  exact h
end
/-- A net in memory, its rows the caller's own. -/
abbrev NetS (W : World) (gG B n : Nat) (V : Nat → Value) (a : Nat → List Nat) : Prop := RowsS W gG B n 25 3 1 V (fun u => (a u).length) (fun u => (a u).map iv)
/-- Append's meaning under a name of its own: the walk then takes an equation on it. -/
def appSem (ts : Array TypeId) (t : TypeId) (args : Array Value) : Sem Value := Builtin.append_ ts t args
theorem appSem_eq (ts : Array TypeId) (t : TypeId) (args : Array Value) : Builtin.append_ ts t args = appSem ts t args := rfl
/-- One element of one cell appended, which stands in a block of its own, in a region that draws. -/
theorem run_app1 {P : Program} (w : World) {t e : TypeId} {bytes : Nat} (E : ElemOf P t e 1 bytes) (base : Nat)
    (v : Value) (n : Nat) (xs : List Value) (hown : w.ownsRow base e 1 v n xs)
    (u : Value) (h1 : u.oneCell' = true)
    (hbytes : n + 1 ≤ maxLen ∧ (n + 1) * bytes ≤ 140737488355328) (hbase : base ≤ w.heap.size) :
    ∃ v' w', (appSem #[t, t] t #[v, .slice (some ⟨w.heap.size, 0, none⟩) 1 1]).run P (w.alloc (.cells #[u] e)).drew = .ok v' w' ∧ w'.ownsRow base e 1 v' (n + 1) (xs ++ [u]) ∧ w.grownBy w' v.ownBlock ∧ (v'.ownBlock = v.ownBlock ∨ ∃ g, v'.ownBlock = some g ∧ w.heap.size ≤ g) := by
  obtain ⟨⟨i, z, e1, e2, e3, e4, e5, e6⟩, e7⟩ := E
  have hd : (w.alloc (.cells #[u] e)).drew.heap.size = w.heap.size + 1 := by show (w.alloc (.cells #[u] e)).heap.size = _; simp
  obtain ⟨v', w', hrun, h2, h3, h4⟩ := run_append_any (P := P) (w.alloc (.cells #[u] e)).drew base t t e i z 1 bytes e1 e2 e3 e4 e5 e6 e7 v n xs (show (w.alloc (.cells #[u] e)).ownsRow base e 1 v n xs from hown.alloc _) (w.heap.size + 1) (some ⟨w.heap.size, 0, none⟩) 1 1 [u] (by
    refine ⟨rfl, fun _ => ⟨_, rfl, by simp, fun j u' hu => ?_⟩⟩
    match j, hu with
    | 0, hu =>
      simp at hu
      subst hu
      show (w.alloc (.cells #[u] e)).cell? _ = _
      simp [Addr.add, World.cell?_alloc_at]) (by
    intro u' hu
    simp at hu
    subst hu
    exact h1) hbytes.1 hbytes.2 (by omega)
  refine ⟨v', w', hrun, h2, ⟨h3.os, h3.tape, h3.output, Nat.le_trans (by omega) h3.size, fun k hk hne => (h3.block k (by omega) hne).trans (Below.heap_alloc w _ k hk)⟩, ?_⟩
  rcases h4 with h4 | h4
  · exact .inl h4
  · exact .inr ⟨_, h4, by omega⟩
theorem adjOf_len (E : List (Int × Int × Int)) (back : Bool) (u : Nat) : (adjOf E back u).length ≤ E.length := List.length_filterMap_le _ _
attribute [local go_sem ↓] appSem_eq in
set_option maxRecDepth 100000 in
set_option maxHeartbeats 2000000 in
theorem netOf_any (W : World) (A : Option Addr) (m cap n B0 : Nat) (E : List (Int × Int × Int)) (back : Bool) (hr : Reads W B0 3 A m (ecells E)) (hB0 : B0 ≤ W.heap.size) (hn : n ≤ 65536) (hm : m ≤ 1048576)
    (hE : ∀ e ∈ E, 0 ≤ e.1 ∧ e.1 < (n : Int) ∧ 0 ≤ e.2.1 ∧ e.2.1 < (n : Int)) :
    Calls Try.prog 31 #[.int .i64 (n : Int), .slice A m cap, .bool back] W fun e W' => ∃ V, e = .returned (.slice (some ⟨W.heap.size, 0, none⟩) n n) ∧ NetS W' W.heap.size (W.heap.size + 1) n V (adjOf E back) ∧ Below W.heap.size W W' := by
  have HR := hide hr
  have HE := hide hE
  have hmk := fun w => make_net w n (by omega)
  clear hr hE
  go_enter Try.func31, Try.ntmps31
  go_wp2_with fail
  obtain ⟨W1, hW1⟩ : ∃ W1, W.alloc (.cells (tab n fun _ => .slice none 0 0) 25) = W1 := ⟨_, rfl⟩
  obtain ⟨gG, hgG⟩ : ∃ g, W.heap.size = g := ⟨_, rfl⟩
  have hb1 : Below W.heap.size W W1 := by rw [← hW1]; exact (Below.refl _ _).alloc (Nat.le_refl _) _
  have hs1 : NetS W1 gG (gG + 1) n (fun _ => .slice none 0 0) (adjOf (E.take 0) back) := by
    refine ⟨?_, fun u _ => ?_, fun u v _ _ _ b e => by cases e⟩
    · rw [← hW1, ← hgG]; exact Blk.new _ _ _
    · exact ⟨rfl, .inl ⟨rfl, rfl⟩⟩
  rw [hW1]
  have HS1 := hide hs1
  have HB1 := hide hb1
  have HGG := Lib.hid hgG
  rw [hgG]
  clear hW1 hs1 hb1 hgG hmk
  go_loopg [14] m (fun q t W' => ∃ (k : Nat) (V : Nat → Value), t = .int .i64 (k : Int) ∧ k + q = m ∧ NetS W' gG (gG + 1) n V (adjOf (E.take k) back) ∧ Below W.heap.size W W' ∧ gG < W'.heap.size)
  case atStart => exact ⟨0, _, rfl, by omega, unhide HS1, unhide HB1, (unhide HS1).blk.lt⟩
  case round =>
    obtain ⟨k, V, rfl, hkq, hs, hb, hgl⟩ := hrel
    have hk0 : (0 : Int) ≤ (k : Int) := by omega
    by_cases hk : k < m
    · obtain ⟨b, off, f, t, g, rfl, hbB, he, c1, c2, c3⟩ := ((unhide HR).below (hb.mono hB0)).edge hk
      have hkm : (k : Int) < (m : Int) := by omega
      obtain ⟨x1, x2, x3, x4⟩ := unhide HE _ (List.mem_of_getElem? he)
      obtain ⟨gq, rfl⟩ : ∃ q, gk = q + 1 := ⟨gk - 1, by omega⟩
      obtain ⟨F, rfl⟩ := Int.eq_ofNat_of_zero_le x1
      obtain ⟨T, rfl⟩ := Int.eq_ofNat_of_zero_le x3
      obtain ⟨p, q, hsw⟩ : ∃ p q : Nat, (back = false ∧ p = F ∧ q = T) ∨ (back = true ∧ p = T ∧ q = F) := by
        cases back
        · exact ⟨F, T, .inl ⟨rfl, rfl, rfl⟩⟩
        · exact ⟨T, F, .inr ⟨rfl, rfl, rfl⟩⟩
      have hpn : p < n ∧ q < n := by
        have y2 : (F : Int) < (n : Int) := x2
        have y4 : (T : Int) < (n : Int) := x4
        rcases hsw with ⟨_, rfl, rfl⟩ | ⟨_, rfl, rfl⟩ <;> exact ⟨by omega, by omega⟩
      have hnx : ∀ u, adjOf (E.take (k + 1)) back u = adjOf (E.take k) back u ++ (if p = u then [q] else []) := fun u => by
        rw [List.take_add_one, he, Option.toList_some, adjOf_snoc]
        rcases hsw with ⟨rfl, rfl, rfl⟩ | ⟨rfl, rfl, rfl⟩ <;> simp [Int.natCast_inj]
      obtain ⟨a0, ha0⟩ : ∃ a0, adjOf (E.take k) back = a0 := ⟨_, rfl⟩
      rw [ha0] at hs hnx
      have hal : (a0 p).length ≤ k := by rw [← ha0]; exact Nat.le_trans (adjOf_len _ _ _) (by simp; omega)
      obtain ⟨x, hx⟩ : ∃ x, wr.heap.size = x := ⟨_, rfl⟩
      obtain ⟨Ax, cx, hvx⟩ := (hs.own p hpn.1).shape
      obtain ⟨La, hLa⟩ : ∃ L, (a0 p).length = L := ⟨_, rfl⟩
      obtain ⟨W2, hW2⟩ : ∃ W2, wr.alloc (.cells #[.int .i64 (p : Int), .int .i64 (q : Int), .int .i64 g] 41) = W2 := ⟨_, rfl⟩
      have hb2 : Below wr.heap.size wr W2 := by rw [← hW2]; exact (Below.refl _ _).alloc (Nat.le_refl _) _
      have hx2 : Blk W2 x 41 #[.int .i64 (p : Int), .int .i64 (q : Int), .int .i64 g] := by rw [← hW2, ← hx]; exact Blk.new _ _ _
      have hs2 := hs.below hb2
      have HN := hide hnx
      have hb3 := hb.trans (hb2.mono hb.size)
      have hz2 := hb2.size
      have hxl := hx2.lt
      rw [hx] at hz2
      have ho2 := hs2.own p hpn.1
      rw [hLa] at hvx ho2 hal
      rw [hvx] at ho2
      have c0 : W2.cell? ⟨gG, p, none⟩ = some (.slice Ax La cx) := by rw [← hvx]; exact (hs2.blk.cell p).trans (tab_at _ hpn.1)
      have f0 : W2.frozen? ⟨gG, p, none⟩ = false := hs2.blk.frozen p
      have d0 : W2.cell? ⟨x, 0, none⟩ = some (.int .i64 (p : Int)) := hx2.cell 0
      have d1 : W2.cell? ⟨x, 1, none⟩ = some (.int .i64 (q : Int)) := hx2.cell 1
      have hp0 : (0 : Int) ≤ (p : Int) := by omega
      have hpI : (p : Int) < (n : Int) := by omega
      have hvl : ∀ b, Value.ownBlock (.slice Ax La cx) = some b → b ≠ x := fun b e1 e2 => by have := ((hs.own p hpn.1).lt b (hvx ▸ e1)).2; omega
      have HO := hide ho2
      have HS := hide hs2
      have HB := hide hb3
      have HVX := Lib.hid hvx
      have HLA := Lib.hid hLa
      have hgx : gG ≠ x := by omega
      clear hs hb he hnx hs2 hb3 ho2 hvx hLa ha0 hx2 hb2
      rcases hsw with ⟨rfl, rfl, rfl⟩ | ⟨rfl, rfl, rfl⟩
      case' inl => go_wp2_with fail
      case' inr => go_wp2_with fail
      all_goals
        clear c1 c2 c3 HR hW2
        have hCAP : La + 1 ≤ maxLen ∧ (La + 1) * 8 ≤ 140737488355328 := cap8 (by omega)
        have HCAP := Lib.hid hCAP
        clear hCAP
        obtain ⟨v4, w4, hrun, ho4, hg4, hr4⟩ := run_app1 (P := Try.prog) W2 elem_int (gG + 1) (.slice Ax La cx) La ((a0 p).map iv) (unhide HO) (.int .i64 (q : Int)) rfl HCAP.out (by omega)
        obtain ⟨A4, c4, rfl⟩ := ho4.shape
        have hgW : gG < W2.heap.size := by omega
        have hng : some gG ≠ Value.ownBlock (.slice Ax La cx) := fun e => by have := ((unhide HO).lt _ e.symm).1; omega
        have hnx : some x ≠ Value.ownBlock (.slice Ax La cx) := fun e => hvl x e.symm rfl
        have e0 : w4.cell? ⟨gG, p, none⟩ = some (.slice Ax La cx) := hg4.cell c0 hng
        have g0 : w4.frozen? ⟨gG, p, none⟩ = false := (hg4.frozen_far ⟨gG, p, none⟩ hgW hng).trans f0
        have e1 : w4.cell? ⟨x, 0, none⟩ = some (.int .i64 (p : Int)) := hg4.cell d0 hnx
        have e2 : w4.cell? ⟨x, 1, none⟩ = some (.int .i64 (q : Int)) := hg4.cell d1 hnx
        have k0 : (W2.alloc (.cells #[.int .i64 (q : Int)] 3)).drew.cell? ⟨gG, p, none⟩ = some (.slice Ax La cx) := (World.cell?_alloc_lt W2 _ ⟨gG, p, none⟩ hgW).trans c0
        have k1 : (W2.alloc (.cells #[.int .i64 (q : Int)] 3)).drew.cell? ⟨x, 0, none⟩ = some (.int .i64 (p : Int)) := (World.cell?_alloc_lt W2 _ ⟨x, 0, none⟩ hxl).trans d0
        have k2 : (W2.alloc (.cells #[.int .i64 (q : Int)] 3)).drew.cell? ⟨x, 1, none⟩ = some (.int .i64 (q : Int)) := (World.cell?_alloc_lt W2 _ ⟨x, 1, none⟩ hxl).trans d1
        have HO4 := hide ho4
        have HG4 := hide hg4
        have HR4 := hide hr4
        clear ho4 hg4 hr4
        have hB4 := hide (show Below W.heap.size W (w4.setCell ⟨gG, p, none⟩ (.slice A4 (La + 1) c4)) from ((unhide HB).grown (unhide HG4) (Nat.le_trans (by omega) (unhide HB).size) (fun g e => by have := ((unhide HO).lt g e).1; have := HGG.out; omega)).setCell (by have := HGG.out; show W.heap.size ≤ gG; omega) _)
        have hS4 := hide ((unhide HS).grow (s := 1) (news := [iv q]) hpn.1 (by omega) HVX.out (by show w4.ownsRow _ _ _ _ ((a0 p).length + 1) _; rw [HLA.out]; exact unhide HO4) (unhide HG4) (unhide HR4))
        have hz4 := (unhide HG4).size
        clear HO HS HB HO4 HG4 HR4 HCAP hng hnx hvl
        go_region
        go_wp2_with fail
        go_roundg gq
        case rel => exact ⟨k + 1, _, by go_num, by omega, (unhide hS4).congr (fun _ => rfl) (fun u => by rw [unhide HN u, List.length_append]; by_cases e : p = u; (· subst e; rw [upf_same, if_pos rfl]; rfl); (· rw [upf_ne _ _ (fun h => e h.symm), if_neg e]; rfl)) (fun u => by rw [unhide HN u, List.map_append]; by_cases e : p = u; (· subst e; rw [upf_same, if_pos rfl]; rfl); (· rw [upf_ne _ _ (fun h => e h.symm), if_neg e]; simp)), unhide hB4, by show gG < (w4.setCell _ _).heap.size; rw [show (w4.setCell ⟨gG, p, none⟩ (.slice A4 (La + 1) c4)).heap.size = w4.heap.size by simp [World.setCell]]; omega⟩
        case measure => omega
    · obtain rfl : k = m := by omega
      rw [List.take_of_length_le (by have := (unhide HR).1; rw [ecells_len] at this; omega)] at hs
      go_wp2_with fail
      go_ret
      exact ⟨V, (by rw [HGG.out] : Ending.returned (Value.slice (some ⟨gG, 0, none⟩) n n) = Ending.returned (Value.slice (some ⟨W.heap.size, 0, none⟩) n n)), by rw [HGG.out]; exact hs, hb⟩
end Go.Proofs.Ytmcpbmadjpjckaa
