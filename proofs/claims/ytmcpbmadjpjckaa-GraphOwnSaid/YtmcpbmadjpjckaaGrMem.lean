/-
  The search for the parts of a graph: its memory, and its small steps (meet, close): the walks over the Go text.
-/
import Derived.Test.YtmcpbmadjpjckaaRows
import Derived.Test.YtmcpbmadjpjckaaGrTar
import Derived.Test.YtmcpbmadjpjckaaQuiet
import Derived.Test.YtmcpbmadjpjckaaAppTwo
import Derived.BigRegion
import Derived.Deep.RegionHeld3
import Derived.StillTailTactics
namespace Go.Proofs.Ytmcpbmadjpjckaa
open Go.RowKit

def iv (k : Nat) : Value := .int .i64 (k : Int)
def pv : Option Nat → Value
  | none => .int .i64 (-1)
  | some p => .int .i64 (p : Int)
def tab (n : Nat) (f : Nat → Value) : Array Value := ((List.range n).map f).toArray
theorem tab_at {n : Nat} (f : Nat → Value) {u : Nat} (h : u < n) : (tab n f)[u]? = some (f u) := by
  rw [tab, List.getElem?_toArray, List.getElem?_map, List.getElem?_range h]; rfl
theorem tab_set {n : Nat} (f : Nat → Value) {u : Nat} (v : Value) : (tab n f).setIfInBounds u v = tab n (upf f u v) := by
  apply Array.ext_getElem?
  intro j
  by_cases hj : j < n
  · rw [tab_at _ hj, Array.getElem?_setIfInBounds]
    by_cases e : u = j
    · subst e; rw [if_pos rfl, upf_same, if_pos (by simp [tab]; omega)]
    · rw [if_neg e, tab_at _ hj, upf_ne _ _ (fun e2 => e e2.symm)]
  · rw [Array.getElem?_eq_none (by simp [tab]; omega), Array.getElem?_eq_none (by simp [tab]; omega)]
theorem tab_congr {n : Nat} {f g : Nat → Value} (h : ∀ v, f v = g v) : tab n f = tab n g := by rw [show f = g from funext h]
theorem iv_one (l : List Nat) : ∀ u ∈ l.map iv, u.oneCell' = true := by
  intro u hu
  obtain ⟨c, _, rfl⟩ := List.mem_map.1 hu
  rfl
theorem elem_int : ElemOf Try.prog 25 3 1 8 := .mk' (.int .i64 0) Try.underlying25 (by kernel_rfl) rfl (by omega)

/-- A region that draws: reads and quiet calls, then a forced tail: from one world, told by name. -/
theorem region_tail {P : Program} {id : Nat} {Q : Exit → Act → World → Prop} {a : Act} {w : World} {l : List Oper} (n : Nat) (hm : P.follows .mixedOrders = true) (hB : Region.lexTailB .any l.toArray n = true)
    (h : ∀ V : World, w.drew = V → wpStill P l.toArray V (fun a' => wpList P l.toArray Q (l.drop n) a' V) (l.take n) a) : (Code.region id l.toArray true).wp P Q a w :=
  wp_region_still_tail n hm hB (h _ rfl)
/-- Where the search's memory lies. -/
structure Pl (X gM gL gP B : Nat) : Prop where
  ml : gM ≠ gL
  mp : gM ≠ gP
  mx : gM ≠ X
  lp : gL ≠ gP
  lx : gL ≠ X
  px : gP ≠ X
  mB : gM < B
  lB : gL < B
  pB : gP < B
  xB : X < B
/-- What the search may turn. -/
def Tn (X gM gL gP B b : Nat) : Prop := b = X ∨ b = gM ∨ b = gL ∨ b = gP ∨ B ≤ b
def Tv (X gM gL gP : Nat) (ov : Value) (b : Nat) : Prop := b = X ∨ b = gM ∨ b = gL ∨ b = gP ∨ ov.ownBlock = some b
/-- The search's memory. -/
structure Wk (W : World) (X gM gL gP B n : Nat) (gv ov : Value) (met low : Nat → Nat) (part : Nat → Option Nat) (opn : List Nat) (m0 al : Nat) : Prop where
  blk : Blk W X 79 #[gv, .slice (some ⟨gM, 0, none⟩) n n, .slice (some ⟨gL, 0, none⟩) n n, .slice (some ⟨gP, 0, none⟩) n n, ov, iv m0, iv al]
  bm : Blk W gM 3 (tab n fun u => iv (met u))
  bl : Blk W gL 3 (tab n fun u => iv (low u))
  bp : Blk W gP 3 (tab n fun u => pv (part u))
  own : W.ownsRow B 3 1 ov opn.length (opn.map iv)
section
variable {W : World} {X gM gL gP B n : Nat} {gv ov : Value} {met low : Nat → Nat} {part : Nat → Option Nat} {opn : List Nat} {m0 al : Nat}
theorem ov_ne {b : Nat} (h : Wk W X gM gL gP B n gv ov met low part opn m0 al) (hb : b < B) : ov.ownBlock ≠ some b := fun e => by have := (h.own.lt b e).1; omega

set_option maxRecDepth 100000 in
set_option maxHeartbeats 2000000 in
theorem meet_any (h : Wk W X gM gL gP B n gv ov met low part opn m0 al) (p : Pl X gM gL gP B) (hBW : B ≤ W.heap.size) {u : Nat} (hu : u < n) (hm : m0 ≤ 1000000) (ho : opn.length ≤ 1000000) :
    Calls Try.prog 48 #[.pointer (some ⟨X, 0, none⟩), .int .i64 (u : Int)] W fun e W' => e = .returned (.tuple #[]) ∧ ∃ ov', Wk W' X gM gL gP B n gv ov' (upf met u (m0 + 1)) (upf low u (m0 + 1)) part (opn ++ [u]) (m0 + 1) al ∧ Chg W W' (Tv X gM gL gP ov) := by
  obtain ⟨Ao, co, rfl⟩ := h.own.shape
  obtain ⟨L, hL⟩ : ∃ L, opn.length = L := ⟨_, rfl⟩
  have hown := h.own
  rw [hL] at ho
  have HL := Lib.hid hL
  have c1 : W.cell? ⟨X, 1, none⟩ = some (.slice (some ⟨gM, 0, none⟩) n n) := h.blk.cell 1
  have c2 : W.cell? ⟨X, 2, none⟩ = some (.slice (some ⟨gL, 0, none⟩) n n) := h.blk.cell 2
  have c4 : W.cell? ⟨X, 4, none⟩ = some (.slice Ao L co) := by rw [← hL]; exact h.blk.cell 4
  have c5 : W.cell? ⟨X, 5, none⟩ = some (.int .i64 (m0 : Int)) := h.blk.cell 5
  have f5 : W.frozen? ⟨X, 5, none⟩ = false := h.blk.frozen 5
  have hu0 : (0 : Int) ≤ (u : Int) := by omega
  have hun : (u : Int) < (n : Int) := by omega
  have HH := hide h
  have HP := hide p
  have HBW := Lib.hid hBW
  clear h p hown hL hBW
  go_enter Try.func48, Try.ntmps48
  go_wp2_with fail
  obtain ⟨W1, hW1⟩ : ∃ W1, W.setCell ⟨X, 5, none⟩ (.int .i64 ((m0 : Int) + 1)) = W1 := ⟨_, rfl⟩
  have HW1 := Lib.hid hW1
  have hm1 : Value.int .i64 ((m0 : Int) + 1) = iv (m0 + 1) := by rw [iv]; congr 1
  have hx1 : Blk W1 X 79 #[gv, .slice (some ⟨gM, 0, none⟩) n n, .slice (some ⟨gL, 0, none⟩) n n, .slice (some ⟨gP, 0, none⟩) n n, .slice Ao L co, iv (m0 + 1), iv al] := by
    have := (unhide HH).blk.set_ 5 (iv (m0 + 1))
    rw [← hW1, hm1]
    rw [HL.out] at this
    exact this
  have hbm := (unhide HH).bm.far (p := ⟨X, 5, none⟩) (unhide HP).mx (.int .i64 ((m0 : Int) + 1))
  have hbl := (unhide HH).bl.far (p := ⟨X, 5, none⟩) (unhide HP).lx (.int .i64 ((m0 : Int) + 1))
  have hbp := (unhide HH).bp.far (p := ⟨X, 5, none⟩) (unhide HP).px (.int .i64 ((m0 : Int) + 1))
  rw [hW1] at hbm hbl hbp ⊢
  have d1 : W1.cell? ⟨X, 1, none⟩ = some (.slice (some ⟨gM, 0, none⟩) n n) := hx1.cell 1
  have d2 : W1.cell? ⟨X, 2, none⟩ = some (.slice (some ⟨gL, 0, none⟩) n n) := hx1.cell 2
  have d5 : W1.cell? ⟨X, 5, none⟩ = some (.int .i64 ((m0 : Int) + 1)) := by rw [hm1]; exact hx1.cell 5
  have em : W1.cell? ⟨gM, u, none⟩ = some (iv (met u)) := (hbm.cell u).trans (tab_at _ hu)
  have el : W1.cell? ⟨gL, u, none⟩ = some (iv (low u)) := (hbl.cell u).trans (tab_at _ hu)
  have fm : W1.frozen? ⟨gM, u, none⟩ = false := hbm.frozen u
  have fl : W1.frozen? ⟨gL, u, none⟩ = false := hbl.frozen u
  have hml : gL ≠ gM := fun e => (unhide HP).ml e.symm
  have hlm : gM ≠ gL := (unhide HP).ml
  have hxm : X ≠ gM := fun e => (unhide HP).mx e.symm
  have hxl : X ≠ gL := fun e => (unhide HP).lx e.symm
  have el2 : (W1.setCell ⟨gM, u, none⟩ (.int .i64 ((m0 : Int) + 1))).cell? ⟨gL, u, none⟩ = some (iv (low u)) := ((hbl.far (p := ⟨gM, u, none⟩) hml (.int .i64 ((m0 : Int) + 1))).cell u).trans (tab_at _ hu)
  have fl2 : (W1.setCell ⟨gM, u, none⟩ (.int .i64 ((m0 : Int) + 1))).frozen? ⟨gL, u, none⟩ = false := (hbl.far (p := ⟨gM, u, none⟩) hml (.int .i64 ((m0 : Int) + 1))).frozen u
  have x1gM : (W1.setCell ⟨gM, u, none⟩ (.int .i64 ((m0 : Int) + 1))).cell? ⟨X, 1, none⟩ = some (.slice (some ⟨gM, 0, none⟩) n n) := (hx1.far (p := ⟨gM, u, none⟩) hxm (.int .i64 ((m0 : Int) + 1))).cell 1
  have x2gM : (W1.setCell ⟨gM, u, none⟩ (.int .i64 ((m0 : Int) + 1))).cell? ⟨X, 2, none⟩ = some (.slice (some ⟨gL, 0, none⟩) n n) := (hx1.far (p := ⟨gM, u, none⟩) hxm (.int .i64 ((m0 : Int) + 1))).cell 2
  have x5gM : (W1.setCell ⟨gM, u, none⟩ (.int .i64 ((m0 : Int) + 1))).cell? ⟨X, 5, none⟩ = some (.int .i64 ((m0 : Int) + 1)) := by rw [hm1]; exact (hx1.far (p := ⟨gM, u, none⟩) hxm (iv (m0 + 1))).cell 5
  have em2 : (W1.setCell ⟨gL, u, none⟩ (.int .i64 ((m0 : Int) + 1))).cell? ⟨gM, u, none⟩ = some (iv (met u)) := ((hbm.far (p := ⟨gL, u, none⟩) hlm (.int .i64 ((m0 : Int) + 1))).cell u).trans (tab_at _ hu)
  have fm2 : (W1.setCell ⟨gL, u, none⟩ (.int .i64 ((m0 : Int) + 1))).frozen? ⟨gM, u, none⟩ = false := (hbm.far (p := ⟨gL, u, none⟩) hlm (.int .i64 ((m0 : Int) + 1))).frozen u
  have x1gL : (W1.setCell ⟨gL, u, none⟩ (.int .i64 ((m0 : Int) + 1))).cell? ⟨X, 1, none⟩ = some (.slice (some ⟨gM, 0, none⟩) n n) := (hx1.far (p := ⟨gL, u, none⟩) hxl (.int .i64 ((m0 : Int) + 1))).cell 1
  have x2gL : (W1.setCell ⟨gL, u, none⟩ (.int .i64 ((m0 : Int) + 1))).cell? ⟨X, 2, none⟩ = some (.slice (some ⟨gL, 0, none⟩) n n) := (hx1.far (p := ⟨gL, u, none⟩) hxl (.int .i64 ((m0 : Int) + 1))).cell 2
  have x5gL : (W1.setCell ⟨gL, u, none⟩ (.int .i64 ((m0 : Int) + 1))).cell? ⟨X, 5, none⟩ = some (.int .i64 ((m0 : Int) + 1)) := by rw [hm1]; exact (hx1.far (p := ⟨gL, u, none⟩) hxl (iv (m0 + 1))).cell 5
  clear hml hlm hxm hxl
  have HX1 := hide hx1
  have HBM := hide hbm
  have HBL := hide hbl
  have HBP := hide hbp
  clear hx1 hbm hbl hbp c1 c2 c4 c5 f5 hW1 hm1
  go_region
  have hbX : B ≤ W.heap.size := HBW.out
  obtain ⟨W3, hW3⟩ : ∃ W3, ((W1.setCell ⟨gM, u, none⟩ (.int .i64 ((m0 : Int) + 1))).setCell ⟨gL, u, none⟩ (.int .i64 ((m0 : Int) + 1))).drew = W3 := ⟨_, rfl⟩
  have hm1 : Value.int .i64 ((m0 : Int) + 1) = iv (m0 + 1) := by rw [iv]; congr 1
  have hx3 := (((unhide HX1).far (p := ⟨gM, u, none⟩) (fun e => (unhide HP).mx e.symm) (.int .i64 ((m0 : Int) + 1))).far (p := ⟨gL, u, none⟩) (fun e => (unhide HP).lx e.symm) (.int .i64 ((m0 : Int) + 1))).drew
  have hm3 := (((unhide HBM).set_ u (.int .i64 ((m0 : Int) + 1))).far (p := ⟨gL, u, none⟩) (unhide HP).ml (.int .i64 ((m0 : Int) + 1))).drew
  have hl3 := (((unhide HBL).far (p := ⟨gM, u, none⟩) (fun e => (unhide HP).ml e.symm) (.int .i64 ((m0 : Int) + 1))).set_ u (.int .i64 ((m0 : Int) + 1))).drew
  have hp3 := (((unhide HBP).far (p := ⟨gM, u, none⟩) (fun e => (unhide HP).mp e.symm) (.int .i64 ((m0 : Int) + 1))).far (p := ⟨gL, u, none⟩) (fun e => (unhide HP).lp e.symm) (.int .i64 ((m0 : Int) + 1))).drew
  have hch3 : Chg W W3 (Tv X gM gL gP (.slice Ao opn.length co)) := by
    rw [← hW3, ← HW1.out]
    exact ((((Chg.refl W _).set_ ⟨X, 5, none⟩ _ (fun _ => .inl rfl)).set_ ⟨gM, u, none⟩ _ (fun _ => .inr (.inl rfl))).set_ ⟨gL, u, none⟩ _ (fun _ => .inr (.inr (.inl rfl)))).drew
  have ho3 : W3.ownsRow B 3 1 (.slice Ao L co) L (opn.map iv) := by
    rw [← hW3, ← HW1.out]
    have h := (unhide HH).own
    rw [HL.out] at h
    have q := unhide HP
    have e0 := (Chg.of_set W ⟨X, 5, none⟩ (.int .i64 ((m0 : Int) + 1))).own h (fun i hi e => by have := (h.lt i hi).1; have := q.xB; simp only at e; omega)
    have e1 := (Chg.of_set _ ⟨gM, u, none⟩ (.int .i64 ((m0 : Int) + 1))).own e0 (fun i hi e => by have := (e0.lt i hi).1; have := q.mB; simp only at e; omega)
    have e2 := (Chg.of_set _ ⟨gL, u, none⟩ (.int .i64 ((m0 : Int) + 1))).own e1 (fun i hi e => by have := (e1.lt i hi).1; have := q.lB; simp only at e; omega)
    exact e2
  rw [hW3] at hx3 hm3 hl3 hp3 ⊢
  have hz3 : B ≤ W3.heap.size := Nat.le_trans hbX hch3.size
  have c4 : W3.cell? ⟨X, 4, none⟩ = some (.slice Ao L co) := hx3.cell 4
  have HX3 := hide hx3
  have HM3 := hide hm3
  have HL3 := hide hl3
  have HP3 := hide hp3
  have HCH := hide hch3
  have HO3 := hide ho3
  have HC : Hid (L + 1 ≤ maxLen ∧ (L + 1) * 8 ≤ 140737488355328) := cap8 (by omega)
  clear hx3 hm3 hl3 hp3 hch3 ho3 hW3 hm1 HX1 HBM HBL HBP em el fm fl em2 el2 fm2 fl2 d1 d2 d5 x1gM x2gM x5gM x1gL x2gL x5gL hbX
  go_wp2_with (first
    | (at_builtin
       refine wpList_app1 W3 rfl (.tmp 35) (.tmp 37) 25 rfl elem_int B (.slice Ao L co) L (opn.map iv) rfl (unhide HO3) (.int .i64 (u : Int)) W3.heap.size rfl rfl rfl HC.out hz3 ?_
       intro v5 w5 ho5 hg5 _
       obtain ⟨A5, c5, rfl⟩ := ho5.shape
       have hno : ∀ b, b < B → some b ≠ Value.ownBlock (.slice Ao L co) := fun b hb e => by have := ((unhide HO3).lt b e.symm).1; omega
       have hx5 := (unhide HX3).grown hg5 (hno X (unhide HP).xB)
       have HM5 := hide ((unhide HM3).grown hg5 (hno gM (unhide HP).mB))
       have HL5 := hide ((unhide HL3).grown hg5 (hno gL (unhide HP).lB))
       have HP5 := hide ((unhide HP3).grown hg5 (hno gP (unhide HP).pB))
       have HCH5 := hide ((unhide HCH).grown hg5 (fun i e _ => .inr (.inr (.inr (.inr (HL.out ▸ e))))))
       have c4' : w5.cell? ⟨X, 4, none⟩ = some (.slice Ao L co) := hx5.cell 4
       have f4' : w5.frozen? ⟨X, 4, none⟩ = false := hx5.frozen 4
       have HX5 := hide hx5
       have HO5 := hide ho5
       clear hx5 ho5 hg5 hno))
  go_end0
  refine ⟨rfl, .slice A5 (L + 1) c5, ⟨?_, ?_, ?_, ?_, ?_⟩, (unhide HCH5).set_ ⟨X, 4, none⟩ _ (fun _ => .inl rfl)⟩
  · exact (unhide HX5).set_ 4 (.slice A5 (L + 1) c5)
  · have h := (unhide HM5).far (p := ⟨X, 4, none⟩) (unhide HP).mx (.slice A5 (L + 1) c5)
    rw [tab_set] at h
    rw [show (tab n fun v => iv (upf met u (m0 + 1) v)) = tab n (upf (fun v => iv (met v)) u (.int .i64 ((m0 : Int) + 1))) from tab_congr fun v => by unfold upf; split <;> rfl]
    exact h
  · have h := (unhide HL5).far (p := ⟨X, 4, none⟩) (unhide HP).lx (.slice A5 (L + 1) c5)
    rw [tab_set] at h
    rw [show (tab n fun v => iv (upf low u (m0 + 1) v)) = tab n (upf (fun v => iv (low v)) u (.int .i64 ((m0 : Int) + 1))) from tab_congr fun v => by unfold upf; split <;> rfl]
    exact h
  · exact (unhide HP5).far (p := ⟨X, 4, none⟩) (unhide HP).px (.slice A5 (L + 1) c5)
  · have h := (Chg.of_set w5 ⟨X, 4, none⟩ (.slice A5 (L + 1) c5)).own (unhide HO5) (fun i hi e => by have := ((unhide HO5).lt i hi).1; have := (unhide HP).xB; simp only at e; omega)
    rw [List.length_append, HL.out, List.map_append]
    exact h
end
theorem own_cut {w : World} {base g cap N k : Nat} {e : TypeId} {xs : List Value} (h : w.ownsRow base e 1 (.slice (some ⟨g, 0, none⟩) N cap) N xs) (hk : k ≤ N) : w.ownsRow base e 1 (.slice (some ⟨g, 0, none⟩) k cap) k (xs.take k) := by
  have hx := h.1
  rcases h.2 with ⟨h', _⟩ | ⟨g', cap', cur, h', hb, hh, hnc, hcm, hcs, ht⟩
  · cases h'
  · cases h'
    refine ⟨by rw [List.length_take, hx]; omega, .inr ⟨g, cap, cur, rfl, hb, hh, by omega, hcm, hcs, ?_⟩⟩
    rw [← ht, List.take_take]
    congr 1
    omega
theorem own_form {w : World} {base n : Nat} {e : TypeId} {v : Value} {xs : List Value} (h : w.ownsRow base e 1 v n xs) (hn : 0 < n) : ∃ g cap, v = .slice (some ⟨g, 0, none⟩) n cap ∧ base ≤ g ∧ n ≤ cap ∧ cap ≤ 9223372036854775807 := by
  rcases h.2 with ⟨_, h0⟩ | ⟨g, cap, cur, rfl, hb, hg, h1, h2, _⟩
  · omega
  · exact ⟨g, cap, rfl, hb, h1, by simp only [maxLen] at h2; omega⟩
theorem own_cell {w : World} {base n g cap k : Nat} {e : TypeId} {xs : List Value} (h : w.ownsRow base e 1 (.slice (some ⟨g, 0, none⟩) n cap) n xs) (hk : k < n) : w.cell? ⟨g, k, none⟩ = xs[k]? := by
  rcases h.2 with ⟨h', _⟩ | ⟨g', cap', cur, h', hb, hg, h1, h2, h3, ht⟩
  · cases h'
  · cases h'
    rw [cell_of_row w g k cur e (0, 0) hg, ← ht, Nat.mul_one, List.getElem?_take, if_pos hk]
    simp
theorem run_first {t e : TypeId} {size bytes : Nat} (he : ElemOf Try.prog t e size bytes) {g n N cap : Nat} (h : n ≤ cap) (w : World) :
    (Instr.slice t (.slice (some ⟨g, 0, none⟩) N cap) none (some (.int .i64 (n : Int))) none).run Try.prog w = .ok (.slice (some ⟨g, 0, none⟩) n cap) w := by
  obtain ⟨⟨i, z, h1, h2, h3, h4, h5, h6⟩, _⟩ := he
  have hE : Try.prog.elem t = e := by simp [Program.elem, h1]
  rw [run_slice_h w t _ N cap (by rw [hE]; exact h1) .i64 n (by omega) (by omega), hE]
  simp [sizeOf, typeInfo, h2, Result.andThen, sliced]
  try exact fun _ => rfl
section
variable {W : World} {X gM gL gP B n : Nat} {gv ov : Value} {met low : Nat → Nat} {part : Nat → Option Nat} {opn : List Nat} {m0 al : Nat}
theorem Wk.drew (h : Wk W X gM gL gP B n gv ov met low part opn m0 al) : Wk W.drew X gM gL gP B n gv ov met low part opn m0 al := ⟨h.blk, h.bm, h.bl, h.bp, h.own⟩
theorem Wk.drewN (h : Wk W X gM gL gP B n gv ov met low part opn m0 al) (k : Nat) : Wk (W.drewN k) X gM gL gP B n gv ov met low part opn m0 al := ⟨h.blk, h.bm, h.bl, h.bp, h.own⟩
theorem Wk.chg {W2 : World} {S : Nat → Prop} (h : Wk W X gM gL gP B n gv ov met low part opn m0 al) (hc : Chg W W2 S) (hx : ¬ S X) (hm : ¬ S gM) (hl : ¬ S gL) (hp : ¬ S gP) (ho : ∀ b, ov.ownBlock = some b → ¬ S b) : Wk W2 X gM gL gP B n gv ov met low part opn m0 al :=
  ⟨hc.blk h.blk hx, hc.blk h.bm hm, hc.blk h.bl hl, hc.blk h.bp hp, hc.own h.own ho⟩
theorem Wk.bel {W2 : World} (h : Wk W X gM gL gP B n gv ov met low part opn m0 al) (hb : Below W.heap.size W W2) : Wk W2 X gM gL gP B n gv ov met low part opn m0 al :=
  h.chg (Chg.of_below hb (fun _ => False)) (fun f => f) (fun f => f) (fun f => f) (fun f => f) (fun _ _ f => f)
theorem own_far {W : World} {B k : Nat} {v u : Value} {xs : List Value} {q : Addr} (h : W.ownsRow B 3 1 v k xs) (hq : q.block < B) : (W.setCell q u).ownsRow B 3 1 v k xs :=
  (Chg.of_set W q u).own h (fun i hi e => by have := (h.lt i hi).1; omega)
theorem Wk.setOpen (h : Wk W X gM gL gP B n gv ov met low part opn m0 al) (p : Pl X gM gL gP B) {ov2 : Value} {opn2 : List Nat} (ho : W.ownsRow B 3 1 ov2 opn2.length (opn2.map iv)) : Wk (W.setCell ⟨X, 4, none⟩ ov2) X gM gL gP B n gv ov2 met low part opn2 m0 al :=
  ⟨h.blk.set_ 4 ov2, h.bm.far p.mx ov2, h.bl.far p.lx ov2, h.bp.far p.px ov2, own_far ho p.xB⟩
theorem Wk.setAll (h : Wk W X gM gL gP B n gv ov met low part opn m0 al) (p : Pl X gM gL gP B) (a : Nat) : Wk (W.setCell ⟨X, 6, none⟩ (iv a)) X gM gL gP B n gv ov met low part opn m0 a :=
  ⟨h.blk.set_ 6 (iv a), h.bm.far p.mx _, h.bl.far p.lx _, h.bp.far p.px _, own_far h.own p.xB⟩
theorem Wk.setPart (h : Wk W X gM gL gP B n gv ov met low part opn m0 al) (p : Pl X gM gL gP B) (u : Nat) (v : Option Nat) : Wk (W.setCell ⟨gP, u, none⟩ (pv v)) X gM gL gP B n gv ov met low (upf part u v) opn m0 al := by
  refine ⟨h.blk.far (fun e => p.px e.symm) _, h.bm.far p.mp _, h.bl.far p.lp _, ?_, own_far h.own p.pB⟩
  have h2 := h.bp.set_ u (pv v)
  rw [tab_set] at h2
  rw [show (tab n fun k => pv (upf part u v k)) = tab n (upf (fun k => pv (part k)) u (pv v)) from tab_congr fun k => by unfold upf; split <;> rfl]
  exact h2
theorem Wk.setLow (h : Wk W X gM gL gP B n gv ov met low part opn m0 al) (p : Pl X gM gL gP B) (u v : Nat) : Wk (W.setCell ⟨gL, u, none⟩ (iv v)) X gM gL gP B n gv ov met (upf low u v) part opn m0 al := by
  refine ⟨h.blk.far (fun e => p.lx e.symm) _, h.bm.far p.ml _, ?_, h.bp.far (fun e => p.lp e.symm) _, own_far h.own p.lB⟩
  have h2 := h.bl.set_ u (iv v)
  rw [tab_set] at h2
  rw [show (tab n fun k => iv (upf low u v k)) = tab n (upf (fun k => iv (low k)) u (iv v)) from tab_congr fun k => by unfold upf; split <;> rfl]
  exact h2
theorem Wk.part_eq {part2 : Nat → Option Nat} (h : Wk W X gM gL gP B n gv ov met low part opn m0 al) (he : ∀ v, part v = part2 v) : Wk W X gM gL gP B n gv ov met low part2 opn m0 al := by
  rw [show part = part2 from funext he] at h; exact h
set_option maxRecDepth 100000 in
set_option maxHeartbeats 2000000 in
theorem close_any (p : Pl X gM gL gP B) {o1 o2 : List Nat} {x : Nat} (h : Wk W X gM gL gP B n gv ov met low part (o1 ++ x :: o2) m0 al) (hlt : ∀ u ∈ o1 ++ x :: o2, u < n) (hx : x ∉ o2) (ha : al ≤ 1000000) (ho : (o1 ++ x :: o2).length ≤ 1000000) :
    Calls Try.prog 49 #[.pointer (some ⟨X, 0, none⟩), .int .i64 (x : Int)] W fun e W' => e = .returned (.tuple #[]) ∧ ∃ ov', Wk W' X gM gL gP B n gv ov' met low (fun v => if v ∈ x :: o2 then some al else part v) o1 m0 (al + 1) ∧ Chg W W' (Tv X gM gL gP ov) := by
  have HP := hide p
  have H0 := hide h
  have HLT := hide hlt
  have HX := hide hx
  have HLO := Lib.hid ho
  clear p h hlt hx ho
  go_enter Try.func49, Try.ntmps49
  go_wp2_with fail
  go_loopg [4] (o2.length + 1) (fun q _ W' => ∃ (r s : List Nat) (ov' : Value), o2 = r ++ s ∧ q = r.length + 1 ∧ Wk W' X gM gL gP B n gv ov' met low (fun v => if v ∈ s then some al else part v) (o1 ++ x :: r) m0 al ∧ Chg W W' (Tv X gM gL gP ov))
  case atStart => exact ⟨o2, [], ov, by simp, rfl, by simpa using unhide H0, Chg.refl _ _⟩
  case round =>
    obtain ⟨r, s, ov', hrs, hq, hw, hch⟩ := hrel
    clear H0
    obtain ⟨q, rfl⟩ : ∃ q, gk = q + 1 := ⟨gk - 1, by omega⟩
    rcases r.eq_nil_or_concat with rfl | ⟨r2, y, rfl⟩
    · have hq2 : True := trivial
      obtain ⟨N, hN⟩ : ∃ N, (o1 ++ [x]).length = N + 1 := ⟨o1.length, by simp⟩
      have hN1 : N + 1 ≤ 1000000 := by
        rw [← hN]
        have := HLO.out
        rw [hrs] at this
        simp at this ⊢
        omega
      have hy : (o1 ++ [x])[N]? = some x := by
        have : N = o1.length := by have := hN; simp at this; omega
        subst this
        rw [List.getElem?_append_right (by omega), Nat.sub_self]; rfl
      have hyn : x < n := (unhide HLT) x (by rw [hrs]; simp)
      have ho := hw.own
      rw [hN] at ho
      obtain ⟨g, c, rfl, hgB, hNc, hcm⟩ := own_form ho (by omega)
      have hsl := fun W => run_first elem_int (g := g) (n := N) (N := N + 1) (cap := c) (by omega) W
      have c4 : wr.cell? ⟨X, 4, none⟩ = some (.slice (some ⟨g, 0, none⟩) (N + 1) c) := hw.blk.cell 4
      have c3 : wr.cell? ⟨X, 3, none⟩ = some (.slice (some ⟨gP, 0, none⟩) n n) := hw.blk.cell 3
      have c6 : wr.cell? ⟨X, 6, none⟩ = some (.int .i64 (al : Int)) := hw.blk.cell 6
      have f4 : wr.frozen? ⟨X, 4, none⟩ = false := hw.blk.frozen 4
      have cy : wr.cell? ⟨g, N, none⟩ = some (.int .i64 (x : Int)) := by rw [own_cell ho (k := N) (by omega), List.getElem?_map, hy]; rfl
      have hyn0 : (0 : Int) ≤ (x : Int) := by omega
      have hynI : (x : Int) < (n : Int) := by omega
      have hgX : g ≠ X := fun e => by have := (unhide HP).xB; omega
      have HW := hide hw
      have HCH := hide hch
      have HRS := Lib.hid hrs
      have HN := Lib.hid hN
      have hw1 : IntKind.i64.wrap (((N + 1 : Nat) : Int) - 1) = (N : Int) := by rw [IntWalk.i64_in _ (by omega)]; omega
      obtain ⟨M, hM⟩ : ∃ M, N + 1 = M := ⟨_, rfl⟩
      rw [hM] at c4 hw1 hsl
      have HM := Lib.hid hM
      have hMc : (N : Int) ≤ (c : Int) := by omega
      have hNM : (N : Int) < (M : Int) := by omega
      have hN0 : (0 : Int) ≤ (N : Int) := by omega
      have hnM : N < M := by omega
      clear ho hw hch hrs hN hM hy
      go_wp2_with fail
      go_quiet (fail)
      rename_i nq
      go_wp2_with fail
      obtain ⟨wa, hwa⟩ : ∃ w, wr.drewN nq = w := ⟨_, rfl⟩
      rw [hwa]
      have HWA := hide (hwa ▸ (unhide HW).drewN nq : Wk wa X gM gL gP B n gv _ met low _ _ m0 al)
      have HCHA : Hid (Chg W wa (Tv X gM gL gP ov)) := by show Chg W wa _; rw [← hwa]; exact ⟨(unhide HCH).os, (unhide HCH).tape, (unhide HCH).output, (unhide HCH).size, (unhide HCH).block⟩
      have b4 : wa.cell? ⟨X, 4, none⟩ = some (.slice (some ⟨g, 0, none⟩) M c) := by rw [← hwa]; exact c4
      have k4 : wa.frozen? ⟨X, 4, none⟩ = false := by rw [← hwa]; exact f4
      clear hwa c4 c3 c6 f4 cy HW HCH
      go_region
      obtain ⟨W1, hW1⟩ : ∃ W1, (wa.setCell ⟨X, 4, none⟩ (.slice (some ⟨g, 0, none⟩) N c)).drew = W1 := ⟨_, rfl⟩
      have hwk1 : Wk W1 X gM gL gP B n gv (.slice (some ⟨g, 0, none⟩) N c) met low (fun v => if v ∈ s then some al else part v) (o1) m0 al := by
        rw [← hW1]
        refine ((unhide HWA).setOpen (unhide HP) (opn2 := o1) ?_).drew
        have h := (unhide HWA).own
        rw [HN.out, HM.out] at h
        have h2 := own_cut h (k := N) (by omega)
        have e : (o1).length = N := by have := HN.out; simp at this ⊢; omega
        rw [e]
        rw [show (o1 ++ [x]) = (o1) ++ [x] by simp, List.map_append, List.take_left' (by rw [List.length_map, e])] at h2
        exact h2
      have hch1 : Chg W W1 (Tv X gM gL gP ov) := by
        rw [← hW1]
        exact ((unhide HCHA).set_ ⟨X, 4, none⟩ _ (fun _ => .inl rfl)).drew
      rw [hW1]
      have e3 : W1.cell? ⟨X, 3, none⟩ = some (.slice (some ⟨gP, 0, none⟩) n n) := hwk1.blk.cell 3
      have e6 : W1.cell? ⟨X, 6, none⟩ = some (.int .i64 (al : Int)) := hwk1.blk.cell 6
      have ep : W1.cell? ⟨gP, x, none⟩ = some (pv (if x ∈ s then some al else part x)) := (hwk1.bp.cell x).trans (tab_at _ hyn)
      have fp : W1.frozen? ⟨gP, x, none⟩ = false := hwk1.bp.frozen x
      have HW1 := hide hwk1
      have HCH1 := hide hch1
      clear hwk1 hch1 hW1 b4 k4 hsl
      go_wp2_with fail
      go_region
      obtain ⟨W2, hW2⟩ : ∃ W2, (W1.setCell ⟨gP, x, none⟩ (.int .i64 (al : Int))).drew = W2 := ⟨_, rfl⟩
      have hwk2 : Wk W2 X gM gL gP B n gv (.slice (some ⟨g, 0, none⟩) N c) met low (fun v => if v ∈ x :: s then some al else part v) (o1) m0 al := by
        rw [← hW2]
        refine (((unhide HW1).setPart (unhide HP) x (some al)).drew).part_eq (fun v => ?_)
        unfold upf
        by_cases e : v = x
        · simp [e]
        · simp [e]
      have hch2 : Chg W W2 (Tv X gM gL gP ov) := by
        rw [← hW2]
        exact ((unhide HCH1).set_ ⟨gP, x, none⟩ _ (fun _ => .inr (.inr (.inr (.inl rfl))))).drew
      rw [hW2]
      have HW2 := hide hwk2
      have HCH2 := hide hch2
      clear hwk2 hch2 hW2 e3 e6 ep fp
      have c6 : W2.cell? ⟨X, 6, none⟩ = some (.int .i64 (al : Int)) := (unhide HW2).blk.cell 6
      have f6 : W2.frozen? ⟨X, 6, none⟩ = false := (unhide HW2).blk.frozen 6
      go_wp2_with fail
      refine bodyPost_ret (results_none rfl _ _ _) rfl ?_
      have hiv : Value.int .i64 ((al : Int) + 1) = iv (al + 1) := by rw [iv]; congr 1
      refine ⟨rfl, .slice (some ⟨g, 0, none⟩) N c, ?_, (unhide HCH2).set_ ⟨X, 6, none⟩ _ (fun _ => .inl rfl)⟩
      rw [hiv]
      have h := (unhide HW2).setAll (unhide HP) (al + 1)
      have es : o2 = s := by have := HRS.out; simpa using this
      rw [es]
      exact h
    · rw [List.concat_eq_append] at hrs hq hw
      have hyx : ¬ y = x := fun e => (unhide HX) (by rw [hrs, ← e]; simp)
      obtain ⟨N, hN⟩ : ∃ N, (o1 ++ x :: (r2 ++ [y])).length = N + 1 := ⟨o1.length + (r2.length + 1), by simp; omega⟩
      have hN1 : N + 1 ≤ 1000000 := by
        rw [← hN]
        have := HLO.out
        rw [hrs] at this
        simp at this ⊢
        omega
      have hy : (o1 ++ x :: (r2 ++ [y]))[N]? = some y := by
        have : N = o1.length + (r2.length + 1) := by have := hN; simp at this; omega
        subst this
        rw [List.getElem?_append_right (by omega), Nat.add_sub_cancel_left, List.getElem?_cons_succ, List.getElem?_append_right (by omega), Nat.sub_self]; rfl
      have hyn : y < n := (unhide HLT) y (by rw [hrs]; simp)
      have ho := hw.own
      rw [hN] at ho
      obtain ⟨g, c, rfl, hgB, hNc, hcm⟩ := own_form ho (by omega)
      have hsl := fun W => run_first elem_int (g := g) (n := N) (N := N + 1) (cap := c) (by omega) W
      have c4 : wr.cell? ⟨X, 4, none⟩ = some (.slice (some ⟨g, 0, none⟩) (N + 1) c) := hw.blk.cell 4
      have c3 : wr.cell? ⟨X, 3, none⟩ = some (.slice (some ⟨gP, 0, none⟩) n n) := hw.blk.cell 3
      have c6 : wr.cell? ⟨X, 6, none⟩ = some (.int .i64 (al : Int)) := hw.blk.cell 6
      have f4 : wr.frozen? ⟨X, 4, none⟩ = false := hw.blk.frozen 4
      have cy : wr.cell? ⟨g, N, none⟩ = some (.int .i64 (y : Int)) := by rw [own_cell ho (k := N) (by omega), List.getElem?_map, hy]; rfl
      have hyn0 : (0 : Int) ≤ (y : Int) := by omega
      have hynI : (y : Int) < (n : Int) := by omega
      have hgX : g ≠ X := fun e => by have := (unhide HP).xB; omega
      have HW := hide hw
      have HCH := hide hch
      have HRS := Lib.hid hrs
      have HN := Lib.hid hN
      have hw1 : IntKind.i64.wrap (((N + 1 : Nat) : Int) - 1) = (N : Int) := by rw [IntWalk.i64_in _ (by omega)]; omega
      obtain ⟨M, hM⟩ : ∃ M, N + 1 = M := ⟨_, rfl⟩
      rw [hM] at c4 hw1 hsl
      have HM := Lib.hid hM
      have hMc : (N : Int) ≤ (c : Int) := by omega
      have hNM : (N : Int) < (M : Int) := by omega
      have hN0 : (0 : Int) ≤ (N : Int) := by omega
      have hnM : N < M := by omega
      clear ho hw hch hrs hN hM hy
      go_wp2_with fail
      go_quiet (fail)
      rename_i nq
      go_wp2_with fail
      obtain ⟨wa, hwa⟩ : ∃ w, wr.drewN nq = w := ⟨_, rfl⟩
      rw [hwa]
      have HWA := hide (hwa ▸ (unhide HW).drewN nq : Wk wa X gM gL gP B n gv _ met low _ _ m0 al)
      have HCHA : Hid (Chg W wa (Tv X gM gL gP ov)) := by show Chg W wa _; rw [← hwa]; exact ⟨(unhide HCH).os, (unhide HCH).tape, (unhide HCH).output, (unhide HCH).size, (unhide HCH).block⟩
      have b4 : wa.cell? ⟨X, 4, none⟩ = some (.slice (some ⟨g, 0, none⟩) M c) := by rw [← hwa]; exact c4
      have k4 : wa.frozen? ⟨X, 4, none⟩ = false := by rw [← hwa]; exact f4
      clear hwa c4 c3 c6 f4 cy HW HCH
      go_region
      obtain ⟨W1, hW1⟩ : ∃ W1, (wa.setCell ⟨X, 4, none⟩ (.slice (some ⟨g, 0, none⟩) N c)).drew = W1 := ⟨_, rfl⟩
      have hwk1 : Wk W1 X gM gL gP B n gv (.slice (some ⟨g, 0, none⟩) N c) met low (fun v => if v ∈ s then some al else part v) (o1 ++ x :: r2) m0 al := by
        rw [← hW1]
        refine ((unhide HWA).setOpen (unhide HP) (opn2 := o1 ++ x :: r2) ?_).drew
        have h := (unhide HWA).own
        rw [HN.out, HM.out] at h
        have h2 := own_cut h (k := N) (by omega)
        have e : (o1 ++ x :: r2).length = N := by have := HN.out; simp at this ⊢; omega
        rw [e]
        rw [show (o1 ++ x :: (r2 ++ [y])) = (o1 ++ x :: r2) ++ [y] by simp, List.map_append, List.take_left' (by rw [List.length_map, e])] at h2
        exact h2
      have hch1 : Chg W W1 (Tv X gM gL gP ov) := by
        rw [← hW1]
        exact ((unhide HCHA).set_ ⟨X, 4, none⟩ _ (fun _ => .inl rfl)).drew
      rw [hW1]
      have e3 : W1.cell? ⟨X, 3, none⟩ = some (.slice (some ⟨gP, 0, none⟩) n n) := hwk1.blk.cell 3
      have e6 : W1.cell? ⟨X, 6, none⟩ = some (.int .i64 (al : Int)) := hwk1.blk.cell 6
      have ep : W1.cell? ⟨gP, y, none⟩ = some (pv (if y ∈ s then some al else part y)) := (hwk1.bp.cell y).trans (tab_at _ hyn)
      have fp : W1.frozen? ⟨gP, y, none⟩ = false := hwk1.bp.frozen y
      have HW1 := hide hwk1
      have HCH1 := hide hch1
      clear hwk1 hch1 hW1 b4 k4 hsl
      go_wp2_with fail
      go_region
      obtain ⟨W2, hW2⟩ : ∃ W2, (W1.setCell ⟨gP, y, none⟩ (.int .i64 (al : Int))).drew = W2 := ⟨_, rfl⟩
      have hwk2 : Wk W2 X gM gL gP B n gv (.slice (some ⟨g, 0, none⟩) N c) met low (fun v => if v ∈ y :: s then some al else part v) (o1 ++ x :: r2) m0 al := by
        rw [← hW2]
        refine (((unhide HW1).setPart (unhide HP) y (some al)).drew).part_eq (fun v => ?_)
        unfold upf
        by_cases e : v = y
        · simp [e]
        · simp [e]
      have hch2 : Chg W W2 (Tv X gM gL gP ov) := by
        rw [← hW2]
        exact ((unhide HCH1).set_ ⟨gP, y, none⟩ _ (fun _ => .inr (.inr (.inr (.inl rfl))))).drew
      rw [hW2]
      have HW2 := hide hwk2
      have HCH2 := hide hch2
      clear hwk2 hch2 hW2 e3 e6 ep fp
      go_wp2_with fail
      go_roundg q
      case rel => exact ⟨r2, y :: s, _, by rw [HRS.out]; simp, by simp at hq; omega, unhide HW2, unhide HCH2⟩
      case measure => omega
end
end Go.Proofs.Ytmcpbmadjpjckaa
