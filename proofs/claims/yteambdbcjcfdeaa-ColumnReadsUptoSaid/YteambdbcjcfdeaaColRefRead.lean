/-
  The document's reading of a column of the plain, the delta and the run way: the walks over the Go text. Condition: at most 2^20 bytes, at most 65536 rows.
-/
import Derived.Test.YteambdbcjcfdeaaColRefRdM
namespace Go.Proofs.Yteambdbcjcfdeaa
open Go.RowKit

/-- What the document's reading answers. -/
def RrOut (w : World) (lay : List UInt32 → List UInt8) (bs : List UInt8) (rows : Nat) (E : Ending) (w' : World) : Prop :=
  ∃ v c ok, E = .returned (.tuple #[v, .bool ok]) ∧ w'.ownsRow w.heap.size 40 1 v c.length (c.map uw) ∧ Below w.heap.size w w' ∧ (ok = true → c.length = rows) ∧ ∀ c2, lay c2 = bs → c2.length = rows → ok = true ∧ c = c2
theorem rr_no {w w' : World} {lay : List UInt32 → List UInt8} {bs : List UInt8} {rows : Nat} (hb : Below w.heap.size w w') (h : ∀ c2, lay c2 = bs → c2.length = rows → False) : RrOut w lay bs rows (.returned (.tuple #[.slice none 0 0, .bool false])) w' :=
  ⟨_, [], false, rfl, World.ownsRow_nil _ _ _ _, hb, fun h => (by cases h), fun c2 h1 h2 => (h c2 h1 h2).elim⟩
theorem uw_nat (X : Nat) (hX : X < 4294967296) : uw (UInt32.ofNat X) = .int .u32 (X : Int) := by rw [uw, UInt32.toNat_ofNat', Nat.mod_eq_of_lt hX]

set_option maxRecDepth 100000 in
set_option maxHeartbeats 2000000 in
theorem rread1 (A : Option Addr) (N cap B rows : Nat) (bs : List UInt8) (w : World) (hr : Reads w B 1 A N (bs.map bv)) (hB : B ≤ w.heap.size) (hN : N ≤ 1048576) (hcap : N ≤ cap) (hcm : cap ≤ 9223372036854775807) (hrows : rows ≤ 65536) :
    Calls Try.prog 41 #[.int .i64 1, .slice A N cap, .int .i64 (rows : Int)] w (RrOut w plainS bs rows) := by
  have HN := hide (numbers_any A N cap B bs w hr hB hN hcap hcm)
  have hlen : bs.length = N := by have := hr.1; simpa using this
  have HLEN := Lib.hid hlen
  clear hr hlen
  go_enter Try.func41, Try.ntmps41
  go_wp2_with fail
  refine (unhide HN).mono ?_
  rintro e w1 ⟨v1, l, ok, rfl, ho1, hb1, hcase⟩
  have HB1 := hide hb1
  clear hb1 HN
  rcases hcase with ⟨rfl, hl, hle, hbs⟩ | ⟨rfl, rfl, hno⟩
  · have hcand : ∀ c2, plainS c2 = bs → c2.length = rows → numsA c2 = l := fun c2 h1 h2 => forms_inj (numsA_lt c2) hl (by rw [← numsA_lay, h1, hbs])
    have HCAND := hide hcand
    have HLT := hide hl
    obtain ⟨Al, cl, rfl⟩ := ho1.shape
    obtain ⟨L, hL⟩ : ∃ L, l.length = L := ⟨_, rfl⟩
    rw [hL] at ho1 hle ⊢
    have HL := Lib.hid hL
    have HRL := hide (Reads.of_own ho1)
    have HF : Hid (FitA l rows 0 []) := fun c _ _ => by simp
    have hLN : L ≤ 1048576 := by have := HLEN.out; omega
    clear hcand hl ho1 hbs hL hle
    go_wp2_with fail
    go_loopg [8, 16, 17] L (fun q v t3 t4 W => ∃ (i : Nat) (acc : List UInt32) (last : Nat), i + q = L ∧ t4 = .int .i64 (i : Int) ∧ t3 = .int .i64 (last : Int) ∧ last < 4294967296 ∧ acc.length ≤ rows ∧ W.ownsRow w1.heap.size 40 1 v acc.length (acc.map uw) ∧ Below w1.heap.size w1 W ∧ FitA l rows i acc ∧ acc.length = i)
    case atStart => exact ⟨0, [], 0, by omega, rfl, rfl, by omega, Nat.zero_le _, World.ownsRow_nil _ _ _ _, Below.refl _ _, unhide HF, rfl⟩
    case round =>
      obtain ⟨i, acc, last, hi, rfl, rfl, hlast, hk, ho, hb, hfit, hai⟩ := hrel
      clear HF
      obtain ⟨At, ct, rfl⟩ := ho.shape
      obtain ⟨k, hkk⟩ : ∃ k, acc.length = k := ⟨_, rfl⟩
      rw [hkk] at ho hk ⊢
      have HK := Lib.hid hkk
      have HO := hide ho
      have HB := hide hb
      have HFIT := hide hfit
      by_cases hlt : i < L
      · obtain ⟨q, rfl⟩ : ∃ q, gk = q + 1 := ⟨gk - 1, by omega⟩
        have hiI : (i : Int) < (L : Int) := by omega
        have hiI0 : (0 : Int) ≤ (i : Int) := by omega
        obtain ⟨lb, lo, a, rfl, hlb, hla0, hlc0⟩ := (unhide HRL).nums hlt
        have hlc := (hb.cell (p := ⟨lb, lo + i, none⟩) hlb).trans hlc0
        have ha64 : a < U64 := (unhide HLT) a (List.mem_of_getElem? hla0)
        have hDw : IntKind.i64.wrap ((rows : Int) - (k : Int)) = ((rows - k : Nat) : Int) := by rw [IntWalk.i64_in _ (by omega)]; omega
        obtain ⟨D, hD⟩ : ∃ D, rows - k = D := ⟨_, rfl⟩
        rw [hD] at hDw
        have hkD : k + D = rows := by omega
        obtain ⟨hfn1, hfn2⟩ := fitA_next hfit hla0
        have HAI := Lib.hid (show k = i by rw [← hai, hkk])
        by_cases hx4 : a < 4294967296
        · by_cases hkr : k < rows
          · have hmD : ¬ (D : Int) < (1 : Int) := by omega
            have hfin := hfn2 (UInt32.ofNat a) (by rw [UInt32.toNat_ofNat', Nat.mod_eq_of_lt hx4])
            have HFIN := hide hfin
            clear hfin hfn1 hfn2
            clear hfit ho hb hlc0 hkk hai hla0 hD
            have hw32 : IntKind.u32.wrap (a : Int) = (a : Int) := by rw [IntWalk.u32_in _ (by omega)]
            have hwi : IntKind.i64.wrap (a : Int) = (a : Int) := by rw [IntWalk.i64_in _ (by omega)]
            have hXle : ¬ (4294967295 : Int) < (a : Int) := by omega
            have HX4 := Lib.hid hx4
            clear hx4
            go_wp2_with fail
            go_loopg [8, 20] 1 (fun p v t W => ∃ j : Nat, j + p = 1 ∧ t = .int .i64 (j : Int) ∧ W.ownsRow w1.heap.size 40 1 v (k + j) ((acc ++ List.replicate j (UInt32.ofNat a)).map uw) ∧ Below w1.heap.size w1 W)
            case atStart => exact ⟨0, by omega, rfl, by rw [List.replicate_zero, List.append_nil]; exact unhide HO, unhide HB⟩
            case round =>
              obtain ⟨j, hj, rfl, ho, hb⟩ := hrel
              obtain ⟨Aj, cj, rfl⟩ := ho.shape
              obtain ⟨kj, hkj⟩ : ∃ s, k + j = s := ⟨_, rfl⟩
              rw [hkj] at ho ⊢
              have HOJ := hide ho
              have HBJ := hide hb
              have HKJ := Lib.hid hkj
              have hz := hb.size
              have HC : Hid (kj + 1 ≤ maxLen ∧ (kj + 1) * 4 ≤ 140737488355328) := cap4 (by omega)
              clear ho hb hkj
              by_cases hjm : j < 1
              · obtain ⟨p, rfl⟩ : ∃ p, gk = p + 1 := ⟨gk - 1, by omega⟩
                have hjI : (j : Int) < (1 : Int) := by omega
                go_wp2_with (first
                  | (at_builtin
                     refine wpList_app1 wr rfl (.tmp 161) (.tmp 164) 22 rfl elem_u32 w1.heap.size (.slice Aj kj cj) kj ((acc ++ List.replicate j (UInt32.ofNat a)).map uw) rfl (unhide HOJ) (.int .u32 (a : Int)) wr.heap.size rfl rfl rfl HC.out hz ?_
                     intro v5 w5 ho5 hg5 hr5
                     have HO5 := hide ho5
                     have HB5 := hide ((unhide HBJ).grown hg5 (unhide HBJ).size (fun i e => ((unhide HOJ).lt i e).1))
                     clear ho5 hg5 hr5))
                go_roundg p
                case rel =>
                  refine ⟨j + 1, by omega, by go_num, ?_, unhide HB5⟩
                  have h := unhide HO5
                  rw [← uw_nat a HX4.out] at h
                  rw [← Nat.add_assoc, HKJ.out, List.replicate_succ', ← List.append_assoc, List.map_append (l₁ := acc ++ List.replicate j (UInt32.ofNat a))]
                  exact h
                case measure => omega
              · obtain rfl : j = 1 := by omega
                go_wp2_with fail
                go_roundg q
                case rel => 
                  have hxr : List.replicate 1 (UInt32.ofNat a) = [UInt32.ofNat a] := rfl
                  have h := unhide HOJ
                  rw [hxr] at h
                  refine ⟨i + 1, acc ++ [UInt32.ofNat a], a, by omega, by go_num, rfl, HX4.out, by rw [List.length_append, HK.out]; simp; omega, by rw [List.length_append, HK.out, show k + [UInt32.ofNat a].length = kj from HKJ.out]; exact h, unhide HBJ, unhide HFIN, by rw [List.length_append, HK.out]; simp; have := HAI.out; omega⟩
                case measure => omega
          · have hmD : (D : Int) < (1 : Int) := by omega
            have hXle : ¬ (4294967295 : Int) < (a : Int) := by omega
            have hout := rr_no (lay := plainS) (bs := bs) (rows := rows) (show Below w.heap.size w wr from (unhide HB1).trans ((unhide HB).mono (unhide HB1).size)) (fun c2 h1 h2 => by have h3 := (hfn1 c2 (unhide HCAND c2 h1 h2) h2).2; have := HAI.out; omega)
            have HOUT := hide hout
            clear hout
            clear hfit ho hb hlc0 hkk hai hla0 hD
            clear hfn1 hfn2
            go_wp2_with fail
            go_ret2
            exact unhide HOUT
        · have hXle : (4294967295 : Int) < (a : Int) := by omega
          have hout := rr_no (lay := plainS) (bs := bs) (rows := rows) (show Below w.heap.size w wr from (unhide HB1).trans ((unhide HB).mono (unhide HB1).size)) (fun c2 h1 h2 => by have h3 := (hfn1 c2 (unhide HCAND c2 h1 h2) h2).1; omega)
          have HOUT := hide hout
          clear hout
          clear hfit ho hb hlc0 hkk hai hla0 hD
          clear hfn1 hfn2
          go_wp2_with fail
          go_ret2
          exact unhide HOUT
      · obtain rfl : i = L := by omega
        have hdone := fitA_done hfit (by rw [HL.out]; exact Nat.le_refl _)
        have HDONE := hide hdone
        clear hfit hdone ho hb
        by_cases hkr : k = rows
        · have hkb : ((k : Int) == (rows : Int)) = true := by simp only [beq_iff_eq]; omega
          have HKR := Lib.hid hkr
          clear hkr hkk
          go_wp2_with fail
          go_ret2
          exact ⟨_, acc, true, rfl, by rw [HK.out]; exact (unhide HO).base (unhide HB1).size, (unhide HB1).trans ((unhide HB).mono (unhide HB1).size), fun _ => by rw [HK.out, HKR.out], fun c2 h1 h2 => ⟨rfl, unhide HDONE c2 (unhide HCAND c2 h1 h2) h2⟩⟩
        · have hkb : ((k : Int) == (rows : Int)) = false := by simp only [beq_eq_false_iff_ne, ne_eq]; omega
          have HKR := Lib.hid hkr
          clear hkr hkk
          go_wp2_with fail
          go_ret2
          exact ⟨_, acc, false, rfl, by rw [HK.out]; exact (unhide HO).base (unhide HB1).size, (unhide HB1).trans ((unhide HB).mono (unhide HB1).size), fun h => (by cases h), fun c2 h1 h2 => absurd (by rw [← HK.out, unhide HDONE c2 (unhide HCAND c2 h1 h2) h2, h2] : k = rows) HKR.out⟩
  · have hout := rr_no (lay := plainS) (rows := rows) (unhide HB1) (fun c2 h1 h2 => hno (numsA c2) (numsA_lt c2) (by rw [← numsA_lay, h1]))
    have HOUT := hide hout
    clear hout hno ho1
    go_wp2_with fail
    go_ret2
    exact unhide HOUT

set_option maxRecDepth 100000 in
set_option maxHeartbeats 2000000 in
theorem rread2 (A : Option Addr) (N cap B rows : Nat) (bs : List UInt8) (w : World) (hr : Reads w B 1 A N (bs.map bv)) (hB : B ≤ w.heap.size) (hN : N ≤ 1048576) (hcap : N ≤ cap) (hcm : cap ≤ 9223372036854775807) (hrows : rows ≤ 65536) :
    Calls Try.prog 41 #[.int .i64 2, .slice A N cap, .int .i64 (rows : Int)] w (RrOut w deltaS bs rows) := by
  have HN := hide (numbers_any A N cap B bs w hr hB hN hcap hcm)
  have hlen : bs.length = N := by have := hr.1; simpa using this
  have HLEN := Lib.hid hlen
  clear hr hlen
  go_enter Try.func41, Try.ntmps41
  go_wp2_with fail
  refine (unhide HN).mono ?_
  rintro e w1 ⟨v1, l, ok, rfl, ho1, hb1, hcase⟩
  have HB1 := hide hb1
  clear hb1 HN
  rcases hcase with ⟨rfl, hl, hle, hbs⟩ | ⟨rfl, rfl, hno⟩
  · have hcand : ∀ c2, deltaS c2 = bs → c2.length = rows → numsB c2 = l := fun c2 h1 h2 => forms_inj (numsB_lt c2) hl (by rw [← numsB_lay, h1, hbs])
    have HCAND := hide hcand
    have HLT := hide hl
    obtain ⟨Al, cl, rfl⟩ := ho1.shape
    obtain ⟨L, hL⟩ : ∃ L, l.length = L := ⟨_, rfl⟩
    rw [hL] at ho1 hle ⊢
    have HL := Lib.hid hL
    have HRL := hide (Reads.of_own ho1)
    have HF : Hid (FitB l rows 0 []) := fun c _ _ => by simp
    have hLN : L ≤ 1048576 := by have := HLEN.out; omega
    clear hcand hl ho1 hbs hL hle
    go_wp2_with fail
    go_loopg [8, 16, 17] L (fun q v t3 t4 W => ∃ (i : Nat) (acc : List UInt32) (last : Nat), i + q = L ∧ t4 = .int .i64 (i : Int) ∧ t3 = .int .i64 (last : Int) ∧ last < 4294967296 ∧ acc.length ≤ rows ∧ W.ownsRow w1.heap.size 40 1 v acc.length (acc.map uw) ∧ Below w1.heap.size w1 W ∧ FitB l rows i acc ∧ acc.length = i ∧ (0 < i → last = (acc.getD (i - 1) 0).toNat))
    case atStart => exact ⟨0, [], 0, by omega, rfl, rfl, by omega, Nat.zero_le _, World.ownsRow_nil _ _ _ _, Below.refl _ _, unhide HF, rfl, by omega⟩
    case round =>
      obtain ⟨i, acc, last, hi, rfl, rfl, hlast, hk, ho, hb, hfit, hai, hla⟩ := hrel
      clear HF
      obtain ⟨At, ct, rfl⟩ := ho.shape
      obtain ⟨k, hkk⟩ : ∃ k, acc.length = k := ⟨_, rfl⟩
      rw [hkk] at ho hk ⊢
      have HK := Lib.hid hkk
      have HO := hide ho
      have HB := hide hb
      have HFIT := hide hfit
      by_cases hlt : i < L
      · obtain ⟨q, rfl⟩ : ∃ q, gk = q + 1 := ⟨gk - 1, by omega⟩
        have hiI : (i : Int) < (L : Int) := by omega
        have hiI0 : (0 : Int) ≤ (i : Int) := by omega
        obtain ⟨lb, lo, a, rfl, hlb, hla0, hlc0⟩ := (unhide HRL).nums hlt
        have hlc := (hb.cell (p := ⟨lb, lo + i, none⟩) hlb).trans hlc0
        have ha64 : a < U64 := (unhide HLT) a (List.mem_of_getElem? hla0)
        have hDw : IntKind.i64.wrap ((rows : Int) - (k : Int)) = ((rows - k : Nat) : Int) := by rw [IntWalk.i64_in _ (by omega)]; omega
        obtain ⟨D, hD⟩ : ∃ D, rows - k = D := ⟨_, rfl⟩
        rw [hD] at hDw
        have hkD : k + D = rows := by omega
        obtain ⟨hfn1, hfn2⟩ := fitB_next hfit hla0
        have HAI := Lib.hid (show k = i by rw [← hai, hkk])
        by_cases hi0 : i = 0
        · have hv : valD acc a = a := by rw [valD, if_pos (by omega)]
          rw [hv] at hfn1 hfn2
          have hi0I : ¬ (0 : Int) < (i : Int) := by omega
          have HI0 := Lib.hid hi0
          clear hv hla
          by_cases hx4 : a < 4294967296
          · by_cases hkr : k < rows
            · have hmD : ¬ (D : Int) < (1 : Int) := by omega
              have hfin := hfn2 (UInt32.ofNat a) (by rw [UInt32.toNat_ofNat', Nat.mod_eq_of_lt hx4])
              have HFIN := hide hfin
              clear hfin hfn1 hfn2
              clear hi0 hfit ho hb hlc0 hkk hai hla0 hD
              have hw32 : IntKind.u32.wrap (a : Int) = (a : Int) := by rw [IntWalk.u32_in _ (by omega)]
              have hwi : IntKind.i64.wrap (a : Int) = (a : Int) := by rw [IntWalk.i64_in _ (by omega)]
              have hXle : ¬ (4294967295 : Int) < (a : Int) := by omega
              have HX4 := Lib.hid hx4
              clear hx4
              go_wp2_with fail
              go_loopg [8, 20] 1 (fun p v t W => ∃ j : Nat, j + p = 1 ∧ t = .int .i64 (j : Int) ∧ W.ownsRow w1.heap.size 40 1 v (k + j) ((acc ++ List.replicate j (UInt32.ofNat a)).map uw) ∧ Below w1.heap.size w1 W)
              case atStart => exact ⟨0, by omega, rfl, by rw [List.replicate_zero, List.append_nil]; exact unhide HO, unhide HB⟩
              case round =>
                obtain ⟨j, hj, rfl, ho, hb⟩ := hrel
                obtain ⟨Aj, cj, rfl⟩ := ho.shape
                obtain ⟨kj, hkj⟩ : ∃ s, k + j = s := ⟨_, rfl⟩
                rw [hkj] at ho ⊢
                have HOJ := hide ho
                have HBJ := hide hb
                have HKJ := Lib.hid hkj
                have hz := hb.size
                have HC : Hid (kj + 1 ≤ maxLen ∧ (kj + 1) * 4 ≤ 140737488355328) := cap4 (by omega)
                clear ho hb hkj
                by_cases hjm : j < 1
                · obtain ⟨p, rfl⟩ : ∃ p, gk = p + 1 := ⟨gk - 1, by omega⟩
                  have hjI : (j : Int) < (1 : Int) := by omega
                  go_wp2_with (first
                    | (at_builtin
                       refine wpList_app1 wr rfl (.tmp 161) (.tmp 164) 22 rfl elem_u32 w1.heap.size (.slice Aj kj cj) kj ((acc ++ List.replicate j (UInt32.ofNat a)).map uw) rfl (unhide HOJ) (.int .u32 (a : Int)) wr.heap.size rfl rfl rfl HC.out hz ?_
                       intro v5 w5 ho5 hg5 hr5
                       have HO5 := hide ho5
                       have HB5 := hide ((unhide HBJ).grown hg5 (unhide HBJ).size (fun i e => ((unhide HOJ).lt i e).1))
                       clear ho5 hg5 hr5))
                  go_roundg p
                  case rel =>
                    refine ⟨j + 1, by omega, by go_num, ?_, unhide HB5⟩
                    have h := unhide HO5
                    rw [← uw_nat a HX4.out] at h
                    rw [← Nat.add_assoc, HKJ.out, List.replicate_succ', ← List.append_assoc, List.map_append (l₁ := acc ++ List.replicate j (UInt32.ofNat a))]
                    exact h
                  case measure => omega
                · obtain rfl : j = 1 := by omega
                  go_wp2_with fail
                  go_roundg q
                  case rel => 
                    have hxr : List.replicate 1 (UInt32.ofNat a) = [UInt32.ofNat a] := rfl
                    have h := unhide HOJ
                    rw [hxr] at h
                    refine ⟨i + 1, acc ++ [UInt32.ofNat a], a, by omega, by go_num, rfl, HX4.out, by rw [List.length_append, HK.out]; simp; omega, by rw [List.length_append, HK.out, show k + [UInt32.ofNat a].length = kj from HKJ.out]; exact h, unhide HBJ, unhide HFIN, by rw [List.length_append, HK.out]; simp; have := HAI.out; omega, fun _ => ?_⟩
                    rw [Nat.add_sub_cancel, List.getD_eq_getElem?_getD, List.getElem?_append_right (by rw [HK.out, HAI.out]; exact Nat.le_refl _), HK.out, HAI.out, Nat.sub_self]
                    show a = (UInt32.ofNat a).toNat
                    rw [UInt32.toNat_ofNat', Nat.mod_eq_of_lt HX4.out]
                  case measure => omega
            · have hmD : (D : Int) < (1 : Int) := by omega
              have hXle : ¬ (4294967295 : Int) < (a : Int) := by omega
              have hout := rr_no (lay := deltaS) (bs := bs) (rows := rows) (show Below w.heap.size w wr from (unhide HB1).trans ((unhide HB).mono (unhide HB1).size)) (fun c2 h1 h2 => by have h3 := (hfn1 c2 (unhide HCAND c2 h1 h2) h2).2; have := HAI.out; omega)
              have HOUT := hide hout
              clear hout
              clear hi0 hfit ho hb hlc0 hkk hai hla0 hD
              clear hfn1 hfn2
              go_wp2_with fail
              go_ret2
              exact unhide HOUT
          · have hXle : (4294967295 : Int) < (a : Int) := by omega
            have hout := rr_no (lay := deltaS) (bs := bs) (rows := rows) (show Below w.heap.size w wr from (unhide HB1).trans ((unhide HB).mono (unhide HB1).size)) (fun c2 h1 h2 => by have h3 := (hfn1 c2 (unhide HCAND c2 h1 h2) h2).1; omega)
            have HOUT := hide hout
            clear hout
            clear hi0 hfit ho hb hlc0 hkk hai hla0 hD
            clear hfn1 hfn2
            go_wp2_with fail
            go_ret2
            exact unhide HOUT
        · obtain ⟨X, hX⟩ : ∃ X, valD acc a = X := ⟨_, rfl⟩
          rw [hX] at hfn1 hfn2
          have hi0I : (0 : Int) < (i : Int) := by omega
          replace hla := hla (by omega)
          have hBk := refBack_any a
          obtain ⟨K, hK⟩ : ∃ K, backS a = K := ⟨_, rfl⟩
          rw [valD, if_neg (by omega), hai, ← hla, hK] at hX
          simp only [hK] at hBk
          obtain ⟨S1, hS1⟩ : ∃ S, IntKind.i64.wrap ((last : Int) + K) = S := ⟨_, rfl⟩
          rw [hS1] at hX
          have hX2 : IntKind.u64.wrap S1 = (X : Int) := by rw [← hX]; rw [Int.toNat_of_nonneg (by rw [IntKind.wrap_u64]; omega)]
          have hX64 : X < U64 := by have h : IntKind.u64.wrap S1 < 18446744073709551616 := by { rw [IntKind.wrap_u64]; omega }
                                    unfold U64; omega
          have HBk := fun W => hide (hBk W ha64)
          clear hX hBk hK
          by_cases hx4 : X < 4294967296
          · by_cases hkr : k < rows
            · have hmD : ¬ (D : Int) < (1 : Int) := by omega
              have hfin := hfn2 (UInt32.ofNat X) (by rw [UInt32.toNat_ofNat', Nat.mod_eq_of_lt hx4])
              have HFIN := hide hfin
              clear hfin hfn1 hfn2
              clear hla hi0 hfit ho hb hlc0 hkk hai hla0 hD
              have hw32 : IntKind.u32.wrap (X : Int) = (X : Int) := by rw [IntWalk.u32_in _ (by omega)]
              have hwi : IntKind.i64.wrap (X : Int) = (X : Int) := by rw [IntWalk.i64_in _ (by omega)]
              have hXle : ¬ (4294967295 : Int) < (X : Int) := by omega
              have HX4 := Lib.hid hx4
              clear hx4
              go_wp2_with (go_at_call 72; refine (unhide (HBk _)).mono ?_; rintro e w2 ⟨rfl, rfl⟩)
              go_loopg [8, 20] 1 (fun p v t W => ∃ j : Nat, j + p = 1 ∧ t = .int .i64 (j : Int) ∧ W.ownsRow w1.heap.size 40 1 v (k + j) ((acc ++ List.replicate j (UInt32.ofNat X)).map uw) ∧ Below w1.heap.size w1 W)
              case atStart => exact ⟨0, by omega, rfl, by rw [List.replicate_zero, List.append_nil]; exact unhide HO, unhide HB⟩
              case round =>
                obtain ⟨j, hj, rfl, ho, hb⟩ := hrel
                obtain ⟨Aj, cj, rfl⟩ := ho.shape
                obtain ⟨kj, hkj⟩ : ∃ s, k + j = s := ⟨_, rfl⟩
                rw [hkj] at ho ⊢
                have HOJ := hide ho
                have HBJ := hide hb
                have HKJ := Lib.hid hkj
                have hz := hb.size
                have HC : Hid (kj + 1 ≤ maxLen ∧ (kj + 1) * 4 ≤ 140737488355328) := cap4 (by omega)
                clear ho hb hkj
                by_cases hjm : j < 1
                · obtain ⟨p, rfl⟩ : ∃ p, gk = p + 1 := ⟨gk - 1, by omega⟩
                  have hjI : (j : Int) < (1 : Int) := by omega
                  go_wp2_with (first
                    | (at_builtin
                       refine wpList_app1 wr rfl (.tmp 161) (.tmp 164) 22 rfl elem_u32 w1.heap.size (.slice Aj kj cj) kj ((acc ++ List.replicate j (UInt32.ofNat X)).map uw) rfl (unhide HOJ) (.int .u32 (X : Int)) wr.heap.size rfl rfl rfl HC.out hz ?_
                       intro v5 w5 ho5 hg5 hr5
                       have HO5 := hide ho5
                       have HB5 := hide ((unhide HBJ).grown hg5 (unhide HBJ).size (fun i e => ((unhide HOJ).lt i e).1))
                       clear ho5 hg5 hr5))
                  go_roundg p
                  case rel =>
                    refine ⟨j + 1, by omega, by go_num, ?_, unhide HB5⟩
                    have h := unhide HO5
                    rw [← uw_nat X HX4.out] at h
                    rw [← Nat.add_assoc, HKJ.out, List.replicate_succ', ← List.append_assoc, List.map_append (l₁ := acc ++ List.replicate j (UInt32.ofNat X))]
                    exact h
                  case measure => omega
                · obtain rfl : j = 1 := by omega
                  go_wp2_with (go_at_call 72; refine (unhide (HBk _)).mono ?_; rintro e w2 ⟨rfl, rfl⟩)
                  go_roundg q
                  case rel => 
                    have hxr : List.replicate 1 (UInt32.ofNat X) = [UInt32.ofNat X] := rfl
                    have h := unhide HOJ
                    rw [hxr] at h
                    refine ⟨i + 1, acc ++ [UInt32.ofNat X], X, by omega, by go_num, rfl, HX4.out, by rw [List.length_append, HK.out]; simp; omega, by rw [List.length_append, HK.out, show k + [UInt32.ofNat X].length = kj from HKJ.out]; exact h, unhide HBJ, unhide HFIN, by rw [List.length_append, HK.out]; simp; have := HAI.out; omega, fun _ => ?_⟩
                    rw [Nat.add_sub_cancel, List.getD_eq_getElem?_getD, List.getElem?_append_right (by rw [HK.out, HAI.out]; exact Nat.le_refl _), HK.out, HAI.out, Nat.sub_self]
                    show X = (UInt32.ofNat X).toNat
                    rw [UInt32.toNat_ofNat', Nat.mod_eq_of_lt HX4.out]
                  case measure => omega
            · have hmD : (D : Int) < (1 : Int) := by omega
              have hXle : ¬ (4294967295 : Int) < (X : Int) := by omega
              have hout := rr_no (lay := deltaS) (bs := bs) (rows := rows) (show Below w.heap.size w wr from (unhide HB1).trans ((unhide HB).mono (unhide HB1).size)) (fun c2 h1 h2 => by have h3 := (hfn1 c2 (unhide HCAND c2 h1 h2) h2).2; have := HAI.out; omega)
              have HOUT := hide hout
              clear hout
              clear hla hi0 hfit ho hb hlc0 hkk hai hla0 hD
              clear hfn1 hfn2
              go_wp2_with (go_at_call 72; refine (unhide (HBk _)).mono ?_; rintro e w2 ⟨rfl, rfl⟩)
              go_ret2
              exact unhide HOUT
          · have hXle : (4294967295 : Int) < (X : Int) := by omega
            have hout := rr_no (lay := deltaS) (bs := bs) (rows := rows) (show Below w.heap.size w wr from (unhide HB1).trans ((unhide HB).mono (unhide HB1).size)) (fun c2 h1 h2 => by have h3 := (hfn1 c2 (unhide HCAND c2 h1 h2) h2).1; omega)
            have HOUT := hide hout
            clear hout
            clear hla hi0 hfit ho hb hlc0 hkk hai hla0 hD
            clear hfn1 hfn2
            go_wp2_with (go_at_call 72; refine (unhide (HBk _)).mono ?_; rintro e w2 ⟨rfl, rfl⟩)
            go_ret2
            exact unhide HOUT
      · obtain rfl : i = L := by omega
        have hdone := fitB_done hfit (by rw [HL.out]; exact Nat.le_refl _)
        have HDONE := hide hdone
        clear hfit hdone ho hb
        by_cases hkr : k = rows
        · have hkb : ((k : Int) == (rows : Int)) = true := by simp only [beq_iff_eq]; omega
          have HKR := Lib.hid hkr
          clear hkr hkk
          go_wp2_with fail
          go_ret2
          exact ⟨_, acc, true, rfl, by rw [HK.out]; exact (unhide HO).base (unhide HB1).size, (unhide HB1).trans ((unhide HB).mono (unhide HB1).size), fun _ => by rw [HK.out, HKR.out], fun c2 h1 h2 => ⟨rfl, unhide HDONE c2 (unhide HCAND c2 h1 h2) h2⟩⟩
        · have hkb : ((k : Int) == (rows : Int)) = false := by simp only [beq_eq_false_iff_ne, ne_eq]; omega
          have HKR := Lib.hid hkr
          clear hkr hkk
          go_wp2_with fail
          go_ret2
          exact ⟨_, acc, false, rfl, by rw [HK.out]; exact (unhide HO).base (unhide HB1).size, (unhide HB1).trans ((unhide HB).mono (unhide HB1).size), fun h => (by cases h), fun c2 h1 h2 => absurd (by rw [← HK.out, unhide HDONE c2 (unhide HCAND c2 h1 h2) h2, h2] : k = rows) HKR.out⟩
  · have hout := rr_no (lay := deltaS) (rows := rows) (unhide HB1) (fun c2 h1 h2 => hno (numsB c2) (numsB_lt c2) (by rw [← numsB_lay, h1]))
    have HOUT := hide hout
    clear hout hno ho1
    go_wp2_with fail
    go_ret2
    exact unhide HOUT

set_option maxRecDepth 100000 in
set_option maxHeartbeats 2000000 in
theorem rread3 (A : Option Addr) (N cap B rows : Nat) (bs : List UInt8) (w : World) (hr : Reads w B 1 A N (bs.map bv)) (hB : B ≤ w.heap.size) (hN : N ≤ 1048576) (hcap : N ≤ cap) (hcm : cap ≤ 9223372036854775807) (hrows : rows ≤ 65536) :
    Calls Try.prog 41 #[.int .i64 3, .slice A N cap, .int .i64 (rows : Int)] w (RrOut w runS bs rows) := by
  have HN := hide (numbers_any A N cap B bs w hr hB hN hcap hcm)
  have hlen : bs.length = N := by have := hr.1; simpa using this
  have HLEN := Lib.hid hlen
  clear hr hlen
  go_enter Try.func41, Try.ntmps41
  go_wp2_with fail
  refine (unhide HN).mono ?_
  rintro e w1 ⟨v1, l, ok, rfl, ho1, hb1, hcase⟩
  have HB1 := hide hb1
  clear hb1 HN
  rcases hcase with ⟨rfl, hl, hle, hbs⟩ | ⟨rfl, rfl, hno⟩
  · have hcand : ∀ c2, runS c2 = bs → c2.length = rows → numsC c2 = l := fun c2 h1 h2 => forms_inj (numsC_lt c2 (by omega)) hl (by rw [← numsC_lay, h1, hbs])
    have HCAND := hide hcand
    have HLT := hide hl
    obtain ⟨Al, cl, rfl⟩ := ho1.shape
    obtain ⟨L, hL⟩ : ∃ L, l.length = L := ⟨_, rfl⟩
    rw [hL] at ho1 hle ⊢
    have HL := Lib.hid hL
    have HRL := hide (Reads.of_own ho1)
    have HF : Hid (FitC l rows 0 []) := fun c h1 _ => ⟨[], runs c, rfl, h1.symm, rfl⟩
    have hLN : L ≤ 1048576 := by have := HLEN.out; omega
    clear hcand hl ho1 hbs hL hle
    go_wp2_with fail
    go_loopg [8, 16, 17] L (fun q v t3 t4 W => ∃ (i : Nat) (acc : List UInt32) (last : Nat), i + q = L ∧ t4 = .int .i64 (i : Int) ∧ t3 = .int .i64 (last : Int) ∧ last < 4294967296 ∧ acc.length ≤ rows ∧ W.ownsRow w1.heap.size 40 1 v acc.length (acc.map uw) ∧ Below w1.heap.size w1 W ∧ FitC l rows i acc)
    case atStart => exact ⟨0, [], 0, by omega, rfl, rfl, by omega, Nat.zero_le _, World.ownsRow_nil _ _ _ _, Below.refl _ _, unhide HF⟩
    case round =>
      obtain ⟨i, acc, last, hi, rfl, rfl, hlast, hk, ho, hb, hfit⟩ := hrel
      clear HF
      obtain ⟨At, ct, rfl⟩ := ho.shape
      obtain ⟨k, hkk⟩ : ∃ k, acc.length = k := ⟨_, rfl⟩
      rw [hkk] at ho hk ⊢
      have HK := Lib.hid hkk
      have HO := hide ho
      have HB := hide hb
      have HFIT := hide hfit
      by_cases hlt : i < L
      · obtain ⟨q, rfl⟩ : ∃ q, gk = q + 1 := ⟨gk - 1, by omega⟩
        have hiI : (i : Int) < (L : Int) := by omega
        have hiI0 : (0 : Int) ≤ (i : Int) := by omega
        obtain ⟨lb, lo, a, rfl, hlb, hla0, hlc0⟩ := (unhide HRL).nums hlt
        have hlc := (hb.cell (p := ⟨lb, lo + i, none⟩) hlb).trans hlc0
        have ha64 : a < U64 := (unhide HLT) a (List.mem_of_getElem? hla0)
        have hDw : IntKind.i64.wrap ((rows : Int) - (k : Int)) = ((rows - k : Nat) : Int) := by rw [IntWalk.i64_in _ (by omega)]; omega
        obtain ⟨D, hD⟩ : ∃ D, rows - k = D := ⟨_, rfl⟩
        rw [hD] at hDw
        have hkD : k + D = rows := by omega
        obtain ⟨hfn1, hfnm⟩ := fitC_next hfit hla0
        have hi1w : IntKind.i64.wrap ((i : Int) + 1) = ((i + 1 : Nat) : Int) := by rw [IntWalk.i64_in _ (by omega)]; omega
        have hDu : IntKind.u64.wrap (D : Int) = (D : Int) := wrapu_nat D (by omega)
        by_cases hi1 : i + 1 < L
        · have hi1I : (i : Int) + 1 < (L : Int) := by omega
          obtain ⟨q2, rfl⟩ : ∃ x, q = x + 1 := ⟨q - 1, by omega⟩
          obtain ⟨lb', lo', m, hlA, _, hlm0, hlmc0⟩ := (unhide HRL).nums hi1
          cases hlA
          have hlm := (hb.cell (p := ⟨lb, lo + (i + 1), none⟩) hlb).trans hlmc0
          clear hlmc0
          have hm64 : m < U64 := (unhide HLT) m (List.mem_of_getElem? hlm0)
          obtain ⟨hfm1, hfm2⟩ := hfnm m hlm0
          rw [HK.out, hD] at hfm1
          clear hfnm
          by_cases hmD : m ≤ D
          · have hmI : ¬ (D : Int) < (m : Int) := by omega
            have hmw : IntKind.i64.wrap (m : Int) = (m : Int) := by rw [IntWalk.i64_in _ (by omega)]
            have hmDn : ¬ D < m := by omega
            by_cases hx4 : a < 4294967296
            · have hx64 : a < U64 := by unfold U64; omega
              have hfin := hfm2 (UInt32.ofNat a) (by rw [UInt32.toNat_ofNat', Nat.mod_eq_of_lt hx4])
              have HFIN := hide hfin
              have hmm := hmD
              clear hfin hfn1 hfm1 hfm2 hlm0
              clear hfit ho hb hlc0 hkk hla0 hD
              have hw32 : IntKind.u32.wrap (a : Int) = (a : Int) := by rw [IntWalk.u32_in _ (by omega)]
              have hwi : IntKind.i64.wrap (a : Int) = (a : Int) := by rw [IntWalk.i64_in _ (by omega)]
              have hXle : ¬ (4294967295 : Int) < (a : Int) := by omega
              have HX4 := Lib.hid hx4
              clear hx4
              go_wp2_with fail
              go_loopg [8, 20] m (fun p v t W => ∃ j : Nat, j + p = m ∧ t = .int .i64 (j : Int) ∧ W.ownsRow w1.heap.size 40 1 v (k + j) ((acc ++ List.replicate j (UInt32.ofNat a)).map uw) ∧ Below w1.heap.size w1 W)
              case atStart => exact ⟨0, by omega, rfl, by rw [List.replicate_zero, List.append_nil]; exact unhide HO, unhide HB⟩
              case round =>
                obtain ⟨j, hj, rfl, ho, hb⟩ := hrel
                obtain ⟨Aj, cj, rfl⟩ := ho.shape
                obtain ⟨kj, hkj⟩ : ∃ s, k + j = s := ⟨_, rfl⟩
                rw [hkj] at ho ⊢
                have HOJ := hide ho
                have HBJ := hide hb
                have HKJ := Lib.hid hkj
                have hz := hb.size
                have HC : Hid (kj + 1 ≤ maxLen ∧ (kj + 1) * 4 ≤ 140737488355328) := cap4 (by omega)
                clear ho hb hkj
                by_cases hjm : j < m
                · obtain ⟨p, rfl⟩ : ∃ p, gk = p + 1 := ⟨gk - 1, by omega⟩
                  have hjI : (j : Int) < (m : Int) := by omega
                  go_wp2_with (first
                    | (at_builtin
                       refine wpList_app1 wr rfl (.tmp 161) (.tmp 164) 22 rfl elem_u32 w1.heap.size (.slice Aj kj cj) kj ((acc ++ List.replicate j (UInt32.ofNat a)).map uw) rfl (unhide HOJ) (.int .u32 (a : Int)) wr.heap.size rfl rfl rfl HC.out hz ?_
                       intro v5 w5 ho5 hg5 hr5
                       have HO5 := hide ho5
                       have HB5 := hide ((unhide HBJ).grown hg5 (unhide HBJ).size (fun i e => ((unhide HOJ).lt i e).1))
                       clear ho5 hg5 hr5))
                  go_roundg p
                  case rel =>
                    refine ⟨j + 1, by omega, by go_num, ?_, unhide HB5⟩
                    have h := unhide HO5
                    rw [← uw_nat a HX4.out] at h
                    rw [← Nat.add_assoc, HKJ.out, List.replicate_succ', ← List.append_assoc, List.map_append (l₁ := acc ++ List.replicate j (UInt32.ofNat a))]
                    exact h
                  case measure => omega
                · obtain rfl : j = m := by omega
                  go_wp2_with fail
                  go_roundg q2
                  case rel => 
                    have h := unhide HOJ
                    refine ⟨i + 2, acc ++ List.replicate j (UInt32.ofNat a), a, by omega, by go_num, rfl, HX4.out, by rw [List.length_append, HK.out, List.length_replicate]; omega, by rw [List.length_append, HK.out, List.length_replicate, HKJ.out]; exact h, unhide HBJ, unhide HFIN⟩
                  case measure => omega
            · have hXle : (4294967295 : Int) < (a : Int) := by omega
              have hout := rr_no (lay := runS) (bs := bs) (rows := rows) (show Below w.heap.size w wr from (unhide HB1).trans ((unhide HB).mono (unhide HB1).size)) (fun c2 h1 h2 => by have h3 := (hfn1 c2 (unhide HCAND c2 h1 h2) h2).1; omega)
              have HOUT := hide hout
              clear hout
              clear hfm1 hfm2 hlm0
              clear hfit ho hb hlc0 hkk hla0 hD
              clear hfn1
              go_wp2_with fail
              go_ret2
              exact unhide HOUT
          · have hmI : (D : Int) < (m : Int) := by omega
            have hout := rr_no (lay := runS) (bs := bs) (rows := rows) (show Below w.heap.size w wr from (unhide HB1).trans ((unhide HB).mono (unhide HB1).size)) (fun c2 h1 h2 => absurd (hfm1 c2 (unhide HCAND c2 h1 h2) h2) hmD)
            have HOUT := hide hout
            clear hout
            clear hfm1 hfm2 hlm0
            clear hfit ho hb hlc0 hkk hla0 hD
            clear hfn1
            go_wp2_with fail
            go_ret2
            exact unhide HOUT
        · have hi1I : ¬ (i : Int) + 1 < (L : Int) := by omega
          have hout := rr_no (lay := runS) (bs := bs) (rows := rows) (show Below w.heap.size w wr from (unhide HB1).trans ((unhide HB).mono (unhide HB1).size)) (fun c2 h1 h2 => by have h3 := (hfn1 c2 (unhide HCAND c2 h1 h2) h2).2; rw [HL.out] at h3; omega)
          have HOUT := hide hout
          clear hout
          clear hfit ho hb hlc0 hkk hla0 hD
          clear hfn1 hfnm
          go_wp2_with fail
          go_ret2
          exact unhide HOUT
      · obtain rfl : i = L := by omega
        have hdone := fitC_done hfit (by rw [HL.out]; exact Nat.le_refl _)
        have HDONE := hide hdone
        clear hfit hdone ho hb
        by_cases hkr : k = rows
        · have hkb : ((k : Int) == (rows : Int)) = true := by simp only [beq_iff_eq]; omega
          have HKR := Lib.hid hkr
          clear hkr hkk
          go_wp2_with fail
          go_ret2
          exact ⟨_, acc, true, rfl, by rw [HK.out]; exact (unhide HO).base (unhide HB1).size, (unhide HB1).trans ((unhide HB).mono (unhide HB1).size), fun _ => by rw [HK.out, HKR.out], fun c2 h1 h2 => ⟨rfl, unhide HDONE c2 (unhide HCAND c2 h1 h2) h2⟩⟩
        · have hkb : ((k : Int) == (rows : Int)) = false := by simp only [beq_eq_false_iff_ne, ne_eq]; omega
          have HKR := Lib.hid hkr
          clear hkr hkk
          go_wp2_with fail
          go_ret2
          exact ⟨_, acc, false, rfl, by rw [HK.out]; exact (unhide HO).base (unhide HB1).size, (unhide HB1).trans ((unhide HB).mono (unhide HB1).size), fun h => (by cases h), fun c2 h1 h2 => absurd (by rw [← HK.out, unhide HDONE c2 (unhide HCAND c2 h1 h2) h2, h2] : k = rows) HKR.out⟩
  · have hout := rr_no (lay := runS) (rows := rows) (unhide HB1) (fun c2 h1 h2 => hno (numsC c2) (numsC_lt c2 (by omega)) (by rw [← numsC_lay, h1]))
    have HOUT := hide hout
    clear hout hno ho1
    go_wp2_with fail
    go_ret2
    exact unhide HOUT
end Go.Proofs.Yteambdbcjcfdeaa
