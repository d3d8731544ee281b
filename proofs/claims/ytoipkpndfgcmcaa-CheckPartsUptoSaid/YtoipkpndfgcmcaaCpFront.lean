/-
  The beginning of CheckParts, walked alone: each part lent, seven lent, the document's sum. The conditions stand in each theorem.
-/
import Derived.Test.YtoipkpndfgcmcaaCpHeld
import Derived.Test.YtoipkpndfgcmcaaCvFront
namespace Go.Proofs.Ytoipkpndfgcmcaa.Crew
open Go Go.RowKit
set_option linter.unusedVariables false
set_option linter.unusedSimpArgs false
/-- What the law knows behind its beginning. -/
structure CpT (T : Array Value) (a0 : Option Addr) (n cap h c : Nat) (ps : List (List UInt8)) : Prop where
  sz : T.size = 66
  t0 : T[0]? = some (.slice a0 n cap)
  t3 : T[3]? = some (.slice (some ⟨h, 0, none⟩) n c)
  t5 : T[5]? = some (.slice (some ⟨h, 0, none⟩) (n + 1 : Nat) c)
  t6 : T[6]? = some (.int .u32 (sumP ps : Nat))
def seven : List UInt8 := [7]
theorem qs_at {ps : List (List UInt8)} {j : Nat} (h : j < ps.length) : (ps ++ [seven]).getD j [] = ps.getD j [] := by
  rw [List.getD_eq_getElem?_getD, List.getD_eq_getElem?_getD, List.getElem?_append_left h]
theorem qs_last (ps : List (List UInt8)) : (ps ++ [seven]).getD ps.length [] = seven := by
  rw [List.getD_eq_getElem?_getD, List.getElem?_append_right (Nat.le_refl _)]
  simp
theorem cap24' {a : Nat} (h : a ≤ 5864062014805) : a ≤ maxLen ∧ a * 24 ≤ 140737488355328 := by simp only [maxLen]; omega
def CpFin (w : World) (a0 : Option Addr) (n cap : Nat) (ps : List (List UInt8)) (a' : Act) (w' : World) : Prop :=
  ∃ h c G, a'.defers = [] ∧ CpT a'.tmps a0 n cap h c ps ∧ n + 1 ≤ c ∧ HeldC w' (ps ++ [seven]) (n + 1) h G ∧ Below w.heap.size w w'
set_option maxRecDepth 100000 in
set_option maxHeartbeats 4000000 in
theorem cp_front (w : World) (a0 : Option Addr) (n cap : Nat) (ps : List (List UInt8)) (sl : Nat → Option Addr × Nat) (hp : PartsIn w w.heap.size a0 n ps sl) (hB : ∀ j, j < n → (ps.getD j []).length ≤ 1048576) (hn : n ≤ 1048576) :
    (front 7 (bodyOf Try.f9)).wp Try.prog (fun e a' w' => e = .normal ∧ CpFin w a0 n cap ps a' w') { tmps := #[.slice a0 n cap, undef, undef, undef, undef, undef, undef, undef, undef, undef, undef, undef, undef, undef, undef, undef, undef, undef, undef, undef, undef, undef, undef, undef, undef, undef, undef, undef, undef, undef, undef, undef, undef, undef, undef, undef, undef, undef, undef, undef, undef, undef, undef, undef, undef, undef, undef, undef, undef, undef, undef, undef, undef, undef, undef, undef, undef, undef, undef, undef, undef, undef, undef, undef, undef, undef], defers := [] } w := by
  have HP := hide hp
  have HBD := hide hB
  have hlen := hp.len
  clear hp hB
  simp only [front, bodyOf, Try.f9, Option.getD_some]
  go_wp2
  go_loopg [3, 4] n (fun q v i wr => ∃ (k : Nat) (G : Nat → Nat × Nat), k + q = n ∧ i = .int .i64 (k : Int) ∧ HeldAt w.heap.size w (ps ++ [seven]) k v G wr)
  case atStart => exact ⟨0, fun _ => (0, 0), by omega, rfl, HeldAt.nil⟩
  case round =>
    obtain ⟨k, G, hk, rfl, hh⟩ := hrel
    have hsz := hh.below.size
    obtain ⟨Av, cv, rfl⟩ := hh.own.shape
    by_cases hlt : k < n
    · obtain ⟨q, rfl⟩ : ∃ q, gk = q + 1 := ⟨gk - 1, by omega⟩
      have h0 := (unhide HP).below hh.below
      obtain ⟨g0, off, rfl, hg0, hcell⟩ := h0.cells (by omega)
      have c1 := hcell k hlt
      have hLk := unhide HBD k hlt
      have hqk := qs_at (ps := ps) (j := k) (by omega)
      have HLt := hide (lent_any (sl k).1 _ (sl k).2 (ps.getD k []) wr ((h0.bytes k hlt).more hsz) (Nat.le_trans hLk (by omega)))
      have HST := hide (fun (g cap : Nat) (w1 w2 : World) (v2 : Value) (h1 : (ps.getD k []).length + 5 ≤ cap) (hg : wr.heap.size ≤ g) (ho1 : w1.ownsRow wr.heap.size 5 1 (.slice (some ⟨g, 0, none⟩) ((ps.getD k []).length + 5 : Nat) cap) ((ps.getD k []).length + 5) ((ps.getD k [] ++ mk 5).map bv)) (hb : Below wr.heap.size wr w1)
        (ho : w2.ownsRow w.heap.size 29 1 v2 (k + 1) (((List.range k).map fun j => slv ((ps ++ [seven]).getD j []) (G j)) ++ [slv ((ps ++ [seven]).getD k []) (g, cap)])) => hh.step (v2 := v2) (w2 := w2) (g := g) (cap := cap) hsz hg (by rw [hqk]; exact Lnt.of_own rfl h1 ho1) hb ho)
      have HOWN := hide hh.own
      have hsl : slv ((ps ++ [seven]).getD k []) = fun p => .slice (some ⟨p.1, 0, none⟩) (ps.getD k []).length p.2 := by rw [hqk]; rfl
      obtain ⟨A, hA⟩ : ∃ A, (sl k).1 = A := ⟨_, rfl⟩
      obtain ⟨c, hc⟩ : ∃ c, (sl k).2 = c := ⟨_, rfl⟩
      obtain ⟨m, hm⟩ : ∃ m, (ps.getD k []).length = m := ⟨_, rfl⟩
      rw [hA, hc, hm] at c1 HLt
      rw [hsl, hm] at HST
      have HC := hide (cap24' (a := k + 1) (by omega))
      have HOB : Hid (∀ w1 : World, Below wr.heap.size wr w1 → w1.ownsRow w.heap.size 29 1 (.slice Av k cv) k ((List.range k).map fun j => slv ((ps ++ [seven]).getD j []) (G j)) ∧ w.heap.size ≤ w1.heap.size) := hide fun w1 hb => ⟨(unhide HOWN).bel hb, Nat.le_trans hsz hb.size⟩
      clear h0 hcell hLk hqk hA hc hm hh HOWN hsl
      go_wp2_with (first
        | (go_at_call 16
           refine (unhide HLt).mono ?_
           rintro e w1 ⟨g, cp, rfl, hcp, hg, ho1, hb1⟩
           have HS2 := hide (fun w2 v2 => unhide HST g cp w1 w2 v2 hcp hg ho1 hb1)
           have HO2 := hide (unhide HOB w1 hb1)
           clear ho1 hb1)
        | (at_builtin
           go_loud (
           refine wpList_app1 w1 rfl (.tmp 15) (.tmp 21) 62 rfl elem_sl w.heap.size (.slice Av k cv) k _ rfl (unhide HO2).1 (.slice (some ⟨g, 0, none⟩) m cp) w1.heap.size rfl rfl rfl (unhide HC) (unhide HO2).2 ?_
           intro v2 w2 hown2 hg2 hat2
           have HS3 := hide (unhide HS2 w2 v2 hown2 hg2 hat2)
           clear hown2 hg2 hat2)))
      go_roundg q
      case rel => exact ⟨k + 1, _, by omega, by go_num, unhide HS3⟩
      case measure => omega
    · obtain ⟨Z, hZ⟩ : ∃ Z, wr.alloc (.cells #[.int .u8 7] 5) = Z := ⟨_, rfl⟩
      have hkn : k = n := by omega
      have hZb : Below wr.heap.size wr Z := by rw [← hZ]; exact (Below.refl _ _).alloc (Nat.le_refl _) _
      have hZs : Z.heap.size = wr.heap.size + 1 := by rw [← hZ]; simp
      have hZc : Z.cell? ⟨wr.heap.size, 0, none⟩ = some (.int .u8 7) := by rw [← hZ]; simp [World.cell?_alloc_at]
      have hhZ := hh.grow hZb hsz
      have hZ1 : Reads Z Z.heap.size 1 (some ⟨wr.heap.size, 0, none⟩) 1 (seven.map bv) := ⟨rfl, fun _ => ⟨_, rfl, by show wr.heap.size < _; omega, fun j u hu => by
        match j, hu with
        | 0, hu =>
          cases hu
          exact hZc⟩⟩
      have HLt := hide (lent_any (some ⟨wr.heap.size, 0, none⟩) 1 1 seven Z hZ1 (by omega))
      have hq7 : (ps ++ [seven]).getD k [] = seven := by rw [hkn, ← hlen]; exact qs_last ps
      have HST := hide (fun (g cap : Nat) (w1 w2 : World) (v2 : Value) (h1 : 1 + 5 ≤ cap) (hg : Z.heap.size ≤ g) (ho1 : w1.ownsRow Z.heap.size 5 1 (.slice (some ⟨g, 0, none⟩) (1 + 5 : Nat) cap) (1 + 5) ((seven ++ mk 5).map bv)) (hb : Below Z.heap.size Z w1)
        (ho : w2.ownsRow w.heap.size 29 1 v2 (k + 1) (((List.range k).map fun j => slv ((ps ++ [seven]).getD j []) (G j)) ++ [slv ((ps ++ [seven]).getD k []) (g, cap)])) => hhZ.step (v2 := v2) (w2 := w2) (g := g) (cap := cap) (by omega) hg (by rw [hq7]; exact Lnt.of_own rfl h1 ho1) hb ho)
      have hsl : slv ((ps ++ [seven]).getD k []) = fun p => .slice (some ⟨p.1, 0, none⟩) 1 p.2 := by rw [hq7]; rfl
      rw [hsl] at HST
      have HC := hide (cap24' (a := k + 1) (by omega))
      have HOWN := hide hhZ.own
      have HOB : Hid (∀ w1 : World, Below Z.heap.size Z w1 → w1.ownsRow w.heap.size 29 1 (.slice Av k cv) k ((List.range k).map fun j => slv ((ps ++ [seven]).getD j []) (G j)) ∧ w.heap.size ≤ w1.heap.size) := hide fun w1 hb => ⟨(unhide HOWN).bel hb, by have := hb.size; omega⟩
      have HRP : Hid (∀ W : World, Below w.heap.size w W → Calls Try.prog 37 #[.slice a0 n cap] W fun e w' => e = .returned (.int .u32 (sumP ps : Nat)) ∧ W = w') := hide fun W hb => refParts_any a0 n cap W ((unhide HP).below hb) (fun j hj => Nat.le_trans (unhide HBD j hj) (by omega)) (by omega)
      clear hZb hZs hZc hhZ hZ1 hq7 hsl hh HOWN hlen
      subst hkn hZ
      go_wp2_with (first
        | (go_at_call 16
           refine (unhide HLt).mono ?_
           rintro e w1 ⟨g, cp, rfl, hcp, hg, ho1, hb1⟩
           have HS2 := hide (fun w2 v2 => unhide HST g cp w1 w2 v2 hcp hg ho1 hb1)
           have HO2 := hide (unhide HOB w1 hb1)
           clear ho1 hb1 hg)
        | (at_builtin
           refine wpList_app1 w1 rfl (.tmp 23) (.tmp 26) 62 rfl elem_sl w.heap.size (.slice Av k cv) k _ rfl (unhide HO2).1 (.slice (some ⟨g, 0, none⟩) 1 cp) w1.heap.size rfl rfl rfl (unhide HC) (unhide HO2).2 ?_
           intro v2 w2 hown2 hg2 hat2
           have hS3 := unhide HS2 w2 v2 hown2 hg2 hat2
           obtain ⟨h, c2, rfl, _, _⟩ := hown2.form (by omega)
           have hcc := own_cap hown2
           have hcm := own_capm hown2
           have HRP2 := hide (unhide HRP w2 hS3.below)
           have HS3 := hide hS3
           clear hown2 hg2 hat2 hS3)
        | (go_at_call 37
           refine (unhide HRP2).mono ?_
           rintro e w3 ⟨rfl, rfl⟩))
      exact ⟨h, c2, _, rfl, ⟨rfl, rfl, rfl, rfl, rfl⟩, hcc, (unhide HS3).made (by omega), (unhide HS3).below⟩
end Go.Proofs.Ytoipkpndfgcmcaa.Crew
