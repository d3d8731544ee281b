/-
  The law's own helper again: the walk over the Go text. Condition: at most 65536 numbers, in memory that the caller owns.
-/
import Derived.Test.YteambdbcjcfdeaaColLent2
import Derived.Test.YteambdbcjcfdeaaColShort
import Derived.Test.YteambdbcjcfdeaaColRow
import Derived.Test.YteambdbcjcfdeaaColumnPagesW
namespace Go.Proofs.Yteambdbcjcfdeaa
open Go.RowKit

theorem _root_.Go.World.ownsRow.bel {w w' : World} {base n size : Nat} {e : TypeId} {v : Value} {xs : List Value} (h : w.ownsRow base e size v n xs) (hb : Below w.heap.size w w') : w'.ownsRow base e size v n xs :=
  (Chg.of_below hb (fun _ => False)).own h (fun _ _ f => f)
theorem uw_nat2 (X : Nat) (hX : X < 4294967296) : uw (UInt32.ofNat X) = .int .u32 (X : Int) := by rw [uw, UInt32.toNat_ofNat', Nat.mod_eq_of_lt hX]
set_option maxRecDepth 100000 in
set_option maxHeartbeats 4000000 in
theorem again_any (cs0 : List UInt32) (g n gc T : Nat) (W0 : World) (hrow0 : Row W0 40 (.slice (some ⟨g, 0, none⟩) n gc) n (cs0.map uw)) (hn : n ≤ 1000) (_hgc : n ≤ gc) (_hT : T < 4294967296) :
    Calls Try.prog 30 #[.slice (some ⟨g, 0, none⟩) n gc, .int .u32 (T : Int)] W0 fun e W' => e = .returned (.bool true) ∧ Chg W0 W' (fun b => b = g) := by
  have hlen0 : cs0.length = n := by have := hrow0.1; simpa using this
  obtain ⟨cs, hcs⟩ : ∃ c, cs0 = c := ⟨_, rfl⟩
  rw [hcs] at hrow0 hlen0
  clear hcs
  have HLEN := Lib.hid hlen0
  have HROW := hide hrow0
  have HCH : Hid (Chg W0 W0 (fun b => b = g)) := Chg.refl _ _
  have HNum := fun x w => hide (num5_any x w)
  clear hrow0 hlen0
  have hS := hide (sizes_any cs (some ⟨g, 0, none⟩) n gc W0.heap.size W0 (unhide HROW).reads (Nat.le_refl _) (by omega))
  go_enter Try.func30, Try.ntmps30
  go_wp2_with fail
  refine (unhide hS).mono ?_
  rintro e w1 ⟨rfl, hb1⟩
  have HROW := hide ((unhide HROW).below hb1)
  have HCH := hide ((unhide HCH).bel hb1)
  clear hb1 hS
  go_wp2_with fail
  go_loopg [5] n (fun q t W => ∃ (i : Nat) (xs : List UInt32), i + q = n ∧ t = .int .i64 (i : Int) ∧ xs.length = n ∧ Row W 40 (.slice (some ⟨g, 0, none⟩) n gc) n (xs.map uw) ∧ Chg W0 W (fun b => b = g))
  case atStart => exact ⟨0, cs, by omega, rfl, HLEN.out, unhide HROW, unhide HCH⟩
  case round =>
    obtain ⟨i, xs, hi, rfl, hxl, hrow, hch⟩ := hrel
    clear HROW HCH HLEN
    by_cases hlt : i < n
    · obtain ⟨q, rfl⟩ : ∃ q, gk = q + 1 := ⟨gk - 1, by omega⟩
      have hiI : (i : Int) < (n : Int) := by omega
      have hi0 : (0 : Int) ≤ (i : Int) := by omega
      obtain ⟨x, hx⟩ : ∃ x, xs[i]? = some x := ⟨_, List.getElem?_eq_getElem (by omega)⟩
      obtain ⟨X, hX⟩ : ∃ X, x.toNat = X := ⟨_, rfl⟩
      have hx4 : X < 4294967296 := by rw [← hX]; exact u32_lt x
      have hcell : wr.cell? ⟨g, i, none⟩ = some (.int .u32 (X : Int)) := by rw [hrow.cellAt hlt, List.getElem?_map, hx, ← hX]; rfl
      have hf : wr.frozen? ⟨g, i, none⟩ = false := hrow.frozenAt i
      obtain ⟨P, hP⟩ : ∃ P, i % 2 = P := ⟨_, rfl⟩
      have a1 : (i : Int) % 2 = (P : Int) := by omega
      have a2 : IntKind.u32.wrap (P : Int) = (P : Int) := by rw [IntWalk.u32_in _ (by omega)]
      obtain ⟨Q, hQ⟩ : ∃ Q, 200 * P = Q := ⟨_, rfl⟩
      have a3 : IntKind.u32.wrap (200 * (P : Int)) = (Q : Int) := by rw [IntWalk.u32_in _ (by omega)]; omega
      obtain ⟨Y, hY⟩ : ∃ Y, (X + T) % 4294967296 = Y := ⟨_, rfl⟩
      have a4 : IntKind.u32.wrap ((X : Int) + (T : Int)) = (Y : Int) := by rw [IntKind.wrap_u32]; omega
      obtain ⟨Z, hZ⟩ : ∃ Z, (Y + Q) % 4294967296 = Z := ⟨_, rfl⟩
      have a5 : IntKind.u32.wrap ((Y : Int) + (Q : Int)) = (Z : Int) := by rw [IntKind.wrap_u32]; omega
      have hZ4 : Z < 4294967296 := by omega
      clear hP hQ hY hZ
      have hst := hrow.store i (.int .u32 (Z : Int))
      rw [← uw_nat2 Z hZ4, ← List.map_set, uw_nat2 Z hZ4] at hst
      have HST := hide hst
      have HCH2 := hide (hch.set_ ⟨g, i, none⟩ (.int .u32 (Z : Int)) (fun _ => rfl))
      have HXL := Lib.hid hxl
      clear hrow hch hst hx hX hxl hZ4
      go_wp2_with fail
      go_roundg q
      case rel => exact ⟨i + 1, xs.set i (UInt32.ofNat Z), by omega, by go_num, by rw [List.length_set]; exact HXL.out, unhide HST, unhide HCH2⟩
      case measure => omega
    · obtain rfl : n = i := by omega
      obtain ⟨cs, hcs⟩ : ∃ c, xs = c := ⟨_, rfl⟩
      rw [hcs] at hxl hrow
      clear hcs
      have HLEN := Lib.hid hxl
      have HROW := hide hrow
      have HCH := hide hch
      clear hxl hrow hch
      have hS := hide (sizes_any cs (some ⟨g, 0, none⟩) n gc wr.heap.size wr (unhide HROW).reads (Nat.le_refl _) (by omega))
      go_wp2_with fail
      refine (unhide hS).mono ?_
      rintro e w1 ⟨rfl, hb1⟩
      have hrow := (unhide HROW).below hb1
      have hch := (unhide HCH).bel hb1
      clear hb1 hS
      obtain ⟨s0, hs0⟩ : ∃ s, (plainS cs).length = s := ⟨_, rfl⟩
      obtain ⟨s1, hs1⟩ : ∃ s, (deltaS cs).length = s := ⟨_, rfl⟩
      obtain ⟨s2, hs2⟩ : ∃ s, (runS cs).length = s := ⟨_, rfl⟩
      obtain ⟨s3, hs3⟩ : ∃ s, (packS cs).length = s := ⟨_, rfl⟩
      rw [hs0, hs1, hs2, hs3]
      obtain ⟨W2, hW2⟩ : ∃ W, w1.alloc (.cells (c4 s0 s1 s2 s3) 30) = W := ⟨_, rfl⟩
      have hb2 : Below w1.heap.size w1 W2 := by rw [← hW2]; exact (Below.refl _ _).alloc (Nat.le_refl _) _
      have HROW := hide (hrow.below hb2)
      have HCH := hide (hch.bel hb2)
      rw [c4] at hW2
      have hS := hide (way_any cs (some ⟨g, 0, none⟩) n gc W2.heap.size W2 (hrow.below hb2).reads (Nat.le_refl _) (by omega))
      clear hrow hch hb2 hs0 hs1 hs2 hs3
      go_wp2_with fail
      refine (unhide hS).mono ?_
      rintro e w3 ⟨rfl, hb3⟩
      have HROW := hide ((unhide HROW).below hb3)
      have HCH := hide ((unhide HCH).bel hb3)
      clear hb3 hS hW2
      go_wp2_with fail
      go_loopg [7] n (fun q t W => ∃ (i : Nat) (xs : List UInt32), i + q = n ∧ t = .int .i64 (i : Int) ∧ xs.length = n ∧ Row W 40 (.slice (some ⟨g, 0, none⟩) n gc) n (xs.map uw) ∧ Chg W0 W (fun b => b = g))
      case atStart => exact ⟨0, cs, by omega, rfl, HLEN.out, unhide HROW, unhide HCH⟩
      case round =>
        obtain ⟨i, xs, hi, rfl, hxl, hrow, hch⟩ := hrel
        clear HROW HCH HLEN
        by_cases hlt : i < n
        · obtain ⟨q, rfl⟩ : ∃ q, gk = q + 1 := ⟨gk - 1, by omega⟩
          have hiI : (i : Int) < (n : Int) := by omega
          have hi0 : (0 : Int) ≤ (i : Int) := by omega
          obtain ⟨x, hx⟩ : ∃ x, xs[i]? = some x := ⟨_, List.getElem?_eq_getElem (by omega)⟩
          obtain ⟨X, hX⟩ : ∃ X, x.toNat = X := ⟨_, rfl⟩
          have hx4 : X < 4294967296 := by rw [← hX]; exact u32_lt x
          have hcell : wr.cell? ⟨g, i, none⟩ = some (.int .u32 (X : Int)) := by rw [hrow.cellAt hlt, List.getElem?_map, hx, ← hX]; rfl
          have hf : wr.frozen? ⟨g, i, none⟩ = false := hrow.frozenAt i
          obtain ⟨P, hP⟩ : ∃ P, i % 3 = P := ⟨_, rfl⟩
          have a1 : (i : Int) % 3 = (P : Int) := by omega
          have a2 : IntKind.u32.wrap (P : Int) = (P : Int) := by rw [IntWalk.u32_in _ (by omega)]
          obtain ⟨Y, hY⟩ : ∃ Y, X / 128 = Y := ⟨_, rfl⟩
          have a4 : (X : Int) / 128 = (Y : Int) := by omega
          have a4' : (X : Int) / 2 ^ 7 = (Y : Int) := by omega
          obtain ⟨Z, hZ⟩ : ∃ Z, Y * P = Z := ⟨_, rfl⟩
          have hZl : Z ≤ 33554431 * 2 := by rw [← hZ]; exact Nat.mul_le_mul (by omega) (by omega)
          have a5 : IntKind.u32.wrap ((Y : Int) * (P : Int)) = (Z : Int) := by rw [← Int.natCast_mul, hZ, IntWalk.u32_in _ (by omega)]
          have hZ4 : Z < 4294967296 := by omega
          clear hP hY hZ
          have hst := hrow.store i (.int .u32 (Z : Int))
          rw [← uw_nat2 Z hZ4, ← List.map_set, uw_nat2 Z hZ4] at hst
          have HST := hide hst
          have HCH2 := hide (hch.set_ ⟨g, i, none⟩ (.int .u32 (Z : Int)) (fun _ => rfl))
          have HXL := Lib.hid hxl
          clear hrow hch hst hx hX hxl hZ4
          go_wp2_with fail
          go_roundg q
          case rel => exact ⟨i + 1, xs.set i (UInt32.ofNat Z), by omega, by go_num, by rw [List.length_set]; exact HXL.out, unhide HST, unhide HCH2⟩
          case measure => omega
        · obtain rfl : n = i := by omega
          obtain ⟨cs, hcs⟩ : ∃ c, xs = c := ⟨_, rfl⟩
          rw [hcs] at hxl hrow
          clear hcs
          have HLEN := Lib.hid hxl
          have HROW := hide hrow
          have HCH := hide hch
          clear hxl hrow hch
          have hS := hide (way_any cs (some ⟨g, 0, none⟩) n gc wr.heap.size wr (unhide HROW).reads (Nat.le_refl _) (by omega))
          go_wp2_with fail
          refine (unhide hS).mono ?_
          rintro e w1 ⟨rfl, hb1⟩
          have HROW := hide ((unhide HROW).below hb1)
          have HCH := hide ((unhide HCH).bel hb1)
          obtain ⟨y, hy⟩ : ∃ y, wayS cs = y := ⟨_, rfl⟩
          have HY := Lib.hid hy
          rw [hy]
          have hL := hide (lent_any (some ⟨g, 0, none⟩) n gc cs w1 (unhide HROW).reads (by omega))
          clear hb1 hS hy
          go_wp2_with fail
          refine (unhide hL).mono ?_
          rintro e w2 ⟨g2, gc2, rfl, hgc2, _, hg2, ho2, hb2⟩
          have hr2 := words_cut (Reads.of_own ho2) (k := n) (by omega)
          rw [List.take_append_of_le_length (by rw [HLEN.out]; exact Nat.le_refl _), List.take_of_length_le (by rw [HLEN.out]; exact Nat.le_refl _)] at hr2
          have hS := way_any cs (some ⟨g2, 0, none⟩) n gc2 w2.heap.size w2 hr2 (Nat.le_refl _) (by omega)
          rw [HY.out] at hS
          have HS := hide hS
          have HROW := hide ((unhide HROW).below hb2)
          have HCH := hide ((unhide HCH).bel hb2)
          clear hb2 hS ho2 hr2 hL
          go_wp2_with fail
          refine (unhide HS).mono ?_
          rintro e w3 ⟨rfl, hb3⟩
          have HROW := hide ((unhide HROW).below hb3)
          have HCH := hide ((unhide HCH).bel hb3)
          clear hb3 HS
          have hE := hide (encode_any cs (some ⟨g, 0, none⟩) n gc w3.heap.size w3 (unhide HROW).reads (Nat.le_refl _) (by omega))
          go_wp2_with fail
          refine (unhide hE).mono ?_
          rintro e w4 ⟨v4, rfl, _, hb4⟩
          have HROW := hide ((unhide HROW).below hb4)
          have HCH := hide ((unhide HCH).bel hb4)
          clear hb4 hE
          go_wp2_with fail
          go_loopg [9] n (fun q t W => ∃ (i : Nat) (xs : List UInt32), i + q = n ∧ t = .int .i64 (i : Int) ∧ xs.length = n ∧ Row W 40 (.slice (some ⟨g, 0, none⟩) n gc) n (xs.map uw) ∧ Chg W0 W (fun b => b = g))
          case atStart => exact ⟨0, cs, by omega, rfl, HLEN.out, unhide HROW, unhide HCH⟩
          case round =>
            obtain ⟨i, xs, hi, rfl, hxl, hrow, hch⟩ := hrel
            clear HROW HCH HLEN
            by_cases hlt : i < n
            · obtain ⟨q, rfl⟩ : ∃ q, gk = q + 1 := ⟨gk - 1, by omega⟩
              have hiI : (i : Int) < (n : Int) := by omega
              have hi0 : (0 : Int) ≤ (i : Int) := by omega
              obtain ⟨x, hx⟩ : ∃ x, xs[i]? = some x := ⟨_, List.getElem?_eq_getElem (by omega)⟩
              obtain ⟨X, hX⟩ : ∃ X, x.toNat = X := ⟨_, rfl⟩
              have hx4 : X < 4294967296 := by rw [← hX]; exact u32_lt x
              have hcell : wr.cell? ⟨g, i, none⟩ = some (.int .u32 (X : Int)) := by rw [hrow.cellAt hlt, List.getElem?_map, hx, ← hX]; rfl
              have hf : wr.frozen? ⟨g, i, none⟩ = false := hrow.frozenAt i
              obtain ⟨P, hP⟩ : ∃ P, i % 5 = P := ⟨_, rfl⟩
              have a1 : (i : Int) % 5 = (P : Int) := by omega
              have a2 : IntKind.u32.wrap (P : Int) = (P : Int) := by rw [IntWalk.u32_in _ (by omega)]
              obtain ⟨Q, hQ⟩ : ∃ Q, 3 * P = Q := ⟨_, rfl⟩
              have a3 : IntKind.u32.wrap (3 * (P : Int)) = (Q : Int) := by rw [IntWalk.u32_in _ (by omega)]; omega
              obtain ⟨Z, hZ⟩ : ∃ Z, (X + Q) % 4294967296 = Z := ⟨_, rfl⟩
              have a5 : IntKind.u32.wrap ((X : Int) + (Q : Int)) = (Z : Int) := by rw [IntKind.wrap_u32]; omega
              have hZ4 : Z < 4294967296 := by omega
              clear hP hQ hZ
              have hst := hrow.store i (.int .u32 (Z : Int))
              rw [← uw_nat2 Z hZ4, ← List.map_set, uw_nat2 Z hZ4] at hst
              have HST := hide hst
              have HCH2 := hide (hch.set_ ⟨g, i, none⟩ (.int .u32 (Z : Int)) (fun _ => rfl))
              have HXL := Lib.hid hxl
              clear hrow hch hst hx hX hxl hZ4
              go_wp2_with fail
              go_roundg q
              case rel => exact ⟨i + 1, xs.set i (UInt32.ofNat Z), by omega, by go_num, by rw [List.length_set]; exact HXL.out, unhide HST, unhide HCH2⟩
              case measure => omega
            · obtain rfl : n = i := by omega
              obtain ⟨cs, hcs⟩ : ∃ c, xs = c := ⟨_, rfl⟩
              rw [hcs] at hxl hrow
              clear hcs
              have HLEN := Lib.hid hxl
              have HROW := hide hrow
              have HCH := hide hch
              clear hxl hrow hch
              have hE := hide (encode_any cs (some ⟨g, 0, none⟩) n gc wr.heap.size wr (unhide HROW).reads (Nat.le_refl _) (by omega))
              have HGB := Lib.hid ((unhide HROW).lt rfl : g < wr.heap.size)
              go_wp2_with fail
              refine (unhide hE).mono ?_
              rintro e w1 ⟨v1, rfl, ho1, hb1⟩
              obtain ⟨A1, c1, rfl⟩ := ho1.shape
              obtain ⟨pg, hpg⟩ : ∃ p, pageS cs = p := ⟨_, rfl⟩
              obtain ⟨L, hL⟩ : ∃ L, pg.length = L := ⟨_, rfl⟩
              have hL5 : L ≤ 5 * n + 1 := by rw [← hL, ← hpg, ← HLEN.out]; exact page_len cs
              have HPG := Lib.hid hpg
              have HL := Lib.hid hL
              rw [hpg, hL] at ho1 ⊢
              obtain ⟨B1, hB1⟩ : ∃ B, wr.heap.size = B := ⟨_, rfl⟩
              have hz1 := hb1.size
              have hbx := hb1
              rw [hB1] at HGB ho1 hz1
              have HROW := hide ((unhide HROW).below hbx)
              have HCH := hide ((unhide HCH).bel hbx)
              have HO1 := hide ho1
              have hLt := hide (lent_any (some ⟨g, 0, none⟩) n gc cs w1 (unhide HROW).reads (by omega))
              clear hb1 hbx hE ho1 hpg hL hB1
              go_wp2_with fail
              refine (unhide hLt).mono ?_
              rintro e w2 ⟨g2, gc2, rfl, hgc2, _, hg2, ho2, hb2⟩
              have hr2 := words_cut (Reads.of_own ho2) (k := n) (by omega)
              rw [List.take_append_of_le_length (by rw [HLEN.out]; exact Nat.le_refl _), List.take_of_length_le (by rw [HLEN.out]; exact Nat.le_refl _)] at hr2
              have hE := hide (encode_any cs (some ⟨g2, 0, none⟩) n gc2 w2.heap.size w2 hr2 (Nat.le_refl _) (by omega))
              have HROW := hide ((unhide HROW).below hb2)
              have HCH := hide ((unhide HCH).bel hb2)
              have HO1 := hide ((unhide HO1).bel hb2)
              have hz2 := Nat.le_trans hz1 hb2.size
              clear hb2 ho2 hr2 hLt
              go_wp2_with fail
              refine (unhide hE).mono ?_
              rintro e w3 ⟨v3, rfl, ho3, hb3⟩
              obtain ⟨A3, c3, rfl⟩ := ho3.shape
              rw [HPG.out, HL.out] at ho3 ⊢
              have HROW := hide ((unhide HROW).below hb3)
              have HCH := hide ((unhide HCH).bel hb3)
              have HO1 := hide ((unhide HO1).bel hb3)
              have HO3 := hide (ho3.base hz2)
              have hS := hide (sizes_any cs (some ⟨g, 0, none⟩) n gc w3.heap.size w3 (unhide HROW).reads (Nat.le_refl _) (by omega))
              clear hb3 hE ho3
              go_wp2_with fail
              refine (unhide hS).mono ?_
              rintro e w4 ⟨rfl, hb4⟩
              have HROW := hide ((unhide HROW).below hb4)
              have HCH := hide ((unhide HCH).bel hb4)
              have HO1 := hide ((unhide HO1).bel hb4)
              have HO3 := hide ((unhide HO3).bel hb4)
              clear hb4 hS hz1 hz2
              obtain ⟨w5, hw5⟩ : ∃ w, w4 = w := ⟨_, rfl⟩
              rw [hw5] at HROW HCH HO1 HO3 ⊢
              clear hw5
              go_wp2_with fail
              go_loopg [14] n (fun q t W => ∃ (i : Nat) (xs : List UInt32), i + q = n ∧ t = .int .i64 (i : Int) ∧ xs.length = n ∧ Row W 40 (.slice (some ⟨g, 0, none⟩) n gc) n (xs.map uw) ∧ Chg W0 W (fun b => b = g) ∧ Chg w5 W (fun b => b = g))
              case atStart => exact ⟨0, cs, by omega, rfl, HLEN.out, unhide HROW, unhide HCH, Chg.refl _ _⟩
              case round =>
                obtain ⟨i, xs, hi, rfl, hxl, hrow, hch, hch5⟩ := hrel
                clear HROW HCH HLEN
                by_cases hlt : i < n
                · obtain ⟨q, rfl⟩ : ∃ q, gk = q + 1 := ⟨gk - 1, by omega⟩
                  have hiI : (i : Int) < (n : Int) := by omega
                  have hi0 : (0 : Int) ≤ (i : Int) := by omega
                  obtain ⟨x, hx⟩ : ∃ x, xs[i]? = some x := ⟨_, List.getElem?_eq_getElem (by omega)⟩
                  obtain ⟨X, hX⟩ : ∃ X, x.toNat = X := ⟨_, rfl⟩
                  have hx4 : X < 4294967296 := by rw [← hX]; exact u32_lt x
                  have hcell : wr.cell? ⟨g, i, none⟩ = some (.int .u32 (X : Int)) := by rw [hrow.cellAt hlt, List.getElem?_map, hx, ← hX]; rfl
                  have hf : wr.frozen? ⟨g, i, none⟩ = false := hrow.frozenAt i
                  obtain ⟨P, hP⟩ : ∃ P, i % 2 = P := ⟨_, rfl⟩
                  have a1 : (i : Int) % 2 = (P : Int) := by omega
                  have a2 : IntKind.u32.wrap (P : Int) = (P : Int) := by rw [IntWalk.u32_in _ (by omega)]
                  obtain ⟨Q, hQ⟩ : ∃ Q, 300 * P = Q := ⟨_, rfl⟩
                  have a3 : IntKind.u32.wrap (300 * (P : Int)) = (Q : Int) := by rw [IntWalk.u32_in _ (by omega)]; omega
                  obtain ⟨Z, hZ⟩ : ∃ Z, (X + Q) % 4294967296 = Z := ⟨_, rfl⟩
                  have a5 : IntKind.u32.wrap ((X : Int) + (Q : Int)) = (Z : Int) := by rw [IntKind.wrap_u32]; omega
                  have hZ4 : Z < 4294967296 := by omega
                  clear hP hQ hZ
                  have hst := hrow.store i (.int .u32 (Z : Int))
                  rw [← uw_nat2 Z hZ4, ← List.map_set, uw_nat2 Z hZ4] at hst
                  have HST := hide hst
                  have HCH2 := hide (hch.set_ ⟨g, i, none⟩ (.int .u32 (Z : Int)) (fun _ => rfl))
                  have HXL := Lib.hid hxl
                  have HCH5 := hide (hch5.set_ ⟨g, i, none⟩ (.int .u32 (Z : Int)) (fun _ => rfl))
                  clear hch5 hrow hch hst hx hX hxl hZ4
                  go_wp2_with fail
                  go_roundg q
                  case rel => exact ⟨i + 1, xs.set i (UInt32.ofNat Z), by omega, by go_num, by rw [List.length_set]; exact HXL.out, unhide HST, unhide HCH2, unhide HCH5⟩
                  case measure => omega
                · obtain rfl : n = i := by omega
                  obtain ⟨cs, hcs⟩ : ∃ c, xs = c := ⟨_, rfl⟩
                  rw [hcs] at hxl hrow
                  clear hcs
                  have HLEN := Lib.hid hxl
                  have HROW := hide hrow
                  have HCH := hide hch
                  have HCH5 := hide hch5
                  clear hch5
                  clear hxl hrow hch
                  have HO1 := hide ((unhide HCH5).own (unhide HO1) (fun i hi e => by have := ((unhide HO1).lt i hi).1; have := HGB.out; omega))
                  have HO3 := hide ((unhide HCH5).own (unhide HO3) (fun i hi e => by have := ((unhide HO3).lt i hi).1; have := HGB.out; omega))
                  have hS := sizes_any cs (some ⟨g, 0, none⟩) n gc wr.heap.size wr (unhide HROW).reads (Nat.le_refl _) (by omega)
                  obtain ⟨s0, hs0⟩ : ∃ s, (plainS cs).length = s := ⟨_, rfl⟩
                  obtain ⟨s1, hs1⟩ : ∃ s, (deltaS cs).length = s := ⟨_, rfl⟩
                  obtain ⟨s2, hs2⟩ : ∃ s, (runS cs).length = s := ⟨_, rfl⟩
                  obtain ⟨s3, hs3⟩ : ∃ s, (packS cs).length = s := ⟨_, rfl⟩
                  rw [hs0, hs1, hs2, hs3] at hS
                  have HEQ := hide (And.intro hs0 (And.intro hs1 (And.intro hs2 hs3)))
                  have HS := hide hS
                  clear hS hs0 hs1 hs2 hs3 HCH5
                  go_wp2_with fail
                  refine (unhide HS).mono ?_
                  rintro e w6 ⟨rfl, hb6⟩
                  have HROW := hide ((unhide HROW).below hb6)
                  have HCH := hide ((unhide HCH).bel hb6)
                  have HO1 := hide ((unhide HO1).bel hb6)
                  have HO3 := hide ((unhide HO3).bel hb6)
                  clear hb6 HS
                  obtain ⟨W7, hW7⟩ : ∃ W, w6.alloc (.cells (c4 s0 s1 s2 s3) 30) = W := ⟨_, rfl⟩
                  have hb7 : Below w6.heap.size w6 W7 := by rw [← hW7]; exact (Below.refl _ _).alloc (Nat.le_refl _) _
                  have hx7 : Blk W7 w6.heap.size 30 (c4 s0 s1 s2 s3) := by rw [← hW7]; exact Blk.new _ _ _
                  obtain ⟨gx, hgx⟩ : ∃ g, w6.heap.size = g := ⟨_, rfl⟩
                  rw [hgx] at hx7
                  have HROW := hide ((unhide HROW).below hb7)
                  have HCH := hide ((unhide HCH).bel hb7)
                  have HO1 := hide ((unhide HO1).bel hb7)
                  have HO3 := hide ((unhide HO3).bel hb7)
                  have HX7 := hide hx7
                  rw [c4] at hW7
                  clear hb7 hx7
                  have heq := eq_four s0 s1 s2 s3
                  have hRs := fun W (hb : Below W7.heap.size W7 W) => same5_any A1 A3 L c1 L c3 pg pg W W7.heap.size ((Reads.of_own (unhide HO1)).below hb) ((Reads.of_own (unhide HO3)).below hb) (by omega) hb.size
                  simp only [beq_self_eq_true] at hRs
                  have HRs := hide hRs
                  have HLt := hide (fun W (hb : Below W7.heap.size W7 W) => lent_any (some ⟨g, 0, none⟩) n gc cs W ((unhide HROW).below hb).reads (by omega))
                  clear hRs
                  have hxl := (unhide HX7).lt
                  have k0 : W7.cell? ⟨gx, 0, none⟩ = some (.int .i64 (s0 : Int)) := (unhide HX7).cell 0
                  have k1 : W7.cell? ⟨gx, 1, none⟩ = some (.int .i64 (s1 : Int)) := (unhide HX7).cell 1
                  have k2 : W7.cell? ⟨gx, 2, none⟩ = some (.int .i64 (s2 : Int)) := (unhide HX7).cell 2
                  have k3 : W7.cell? ⟨gx, 3, none⟩ = some (.int .i64 (s3 : Int)) := (unhide HX7).cell 3
                  go_wp2_with fail
                  go_region_held3 (fun w' => w'.cell? ⟨gx, 0, none⟩ = some (.int .i64 (s0 : Int)) ∧ w'.cell? ⟨gx, 1, none⟩ = some (.int .i64 (s1 : Int)) ∧ w'.cell? ⟨gx, 2, none⟩ = some (.int .i64 (s2 : Int)) ∧ w'.cell? ⟨gx, 3, none⟩ = some (.int .i64 (s3 : Int))) (first | go_keep | exact d1 | exact d2 | exact d3) ((first
                    | (go_at_call 18; (with_reducible refine ((unhide HRs) _ (by first | exact (Below.refl _ _).drew | exact Below.refl _ _)).mono ?_); rintro e w8 ⟨rfl, hb8⟩
                       have hb78 : Below W7.heap.size W7 w8 := (show Below W7.heap.size W7 _ from (by first | exact (Below.refl _ _).drew | exact Below.refl _ _)).trans hb8
                       have hx8 := (unhide HX7).below hb78 hxl
                       have d1 : w8.cell? ⟨gx, 0, none⟩ = some (.int .i64 (s0 : Int)) ∧ w8.cell? ⟨gx, 1, none⟩ = some (.int .i64 (s1 : Int)) ∧ w8.cell? ⟨gx, 2, none⟩ = some (.int .i64 (s2 : Int)) ∧ w8.cell? ⟨gx, 3, none⟩ = some (.int .i64 (s3 : Int)) := ⟨hx8.cell 0, hx8.cell 1, hx8.cell 2, hx8.cell 3⟩
                       have HB8 := hide hb78
                       clear hb8 hb78 hx8)
                    | (go_at_call 10; (with_reducible refine ((unhide HLt) _ (by first | exact unhide HB8 | exact (unhide HB8).drew)).mono ?_); rintro e w9 ⟨g2, gc2, rfl, hgc2, _, hg2, ho2, hb9⟩
                       have hb79 : Below W7.heap.size W7 w9 := (unhide HB8).trans (Below.mono (show Below _ _ w9 from (by first | exact hb9 | exact hb9)) (unhide HB8).size)
                       have hx9 := (unhide HX7).below hb79 hxl
                       have d2 : w9.cell? ⟨gx, 0, none⟩ = some (.int .i64 (s0 : Int)) ∧ w9.cell? ⟨gx, 1, none⟩ = some (.int .i64 (s1 : Int)) ∧ w9.cell? ⟨gx, 2, none⟩ = some (.int .i64 (s2 : Int)) ∧ w9.cell? ⟨gx, 3, none⟩ = some (.int .i64 (s3 : Int)) := ⟨hx9.cell 0, hx9.cell 1, hx9.cell 2, hx9.cell 3⟩
                       have hr2 := words_cut (Reads.of_own ho2) (k := n) (by omega)
                       rw [List.take_append_of_le_length (by rw [HLEN.out]; exact Nat.le_refl _), List.take_of_length_le (by rw [HLEN.out]; exact Nat.le_refl _)] at hr2
                       have hS := fun W (hb : Below w9.heap.size w9 W) => sizes_any cs (some ⟨g2, 0, none⟩) n gc2 w9.heap.size W (hr2.below hb) hb.size (by omega)
                       rw [(unhide HEQ).1, (unhide HEQ).2.1, (unhide HEQ).2.2.1, (unhide HEQ).2.2.2] at hS
                       have HS := hide hS
                       have HB9 := hide hb79
                       clear hb9 hb79 hx9 hS ho2 hr2)
                    | (go_at_call 13; (with_reducible refine ((unhide HS) _ (by first | exact (Below.refl _ _).drew | exact Below.refl _ _)).mono ?_); rintro e w10 ⟨rfl, hb10⟩
                       have hb710 : Below W7.heap.size W7 w10 := (unhide HB9).trans (hb10.mono (unhide HB9).size)
                       have hx10 := (unhide HX7).below hb710 hxl
                       have d3 : w10.cell? ⟨gx, 0, none⟩ = some (.int .i64 (s0 : Int)) ∧ w10.cell? ⟨gx, 1, none⟩ = some (.int .i64 (s1 : Int)) ∧ w10.cell? ⟨gx, 2, none⟩ = some (.int .i64 (s2 : Int)) ∧ w10.cell? ⟨gx, 3, none⟩ = some (.int .i64 (s3 : Int)) := ⟨hx10.cell 0, hx10.cell 1, hx10.cell 2, hx10.cell 3⟩
                       have HB10 := hide hb710
                       clear hb10 hb710 hx10)))
                  go_wp2_with fail
                  go_ret
                  exact ⟨rfl, (unhide HCH).bel (unhide HB10)⟩
end Go.Proofs.Yteambdbcjcfdeaa
