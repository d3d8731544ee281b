/-
  The law's own helper size: the walk over the Go text. Condition: at most 65536 numbers. (IN WORK)
-/
import Derived.Test.YteambdbcjcfdeaaColOut
import Derived.StillTailTactics
namespace Go.Proofs.Yteambdbcjcfdeaa
open Go.RowKit

/-- A region that draws: reads and quiet calls, then a forced tail: from one world, told by name. -/
theorem region_tail {P : Program} {id : Nat} {Q : Exit → Act → World → Prop} {a : Act} {w : World} {l : List Oper} (n : Nat) (hm : P.follows .mixedOrders = true) (hB : Region.lexTailB .any l.toArray n = true)
    (h : ∀ V : World, w.drew = V → wpStill P l.toArray V (fun a' => wpList P l.toArray Q (l.drop n) a' V) (l.take n) a) : (Code.region id l.toArray true).wp P Q a w :=
  wp_region_still_tail n hm hB (h _ rfl)
def n3 (a b r : Nat) : Array Value := #[.int .i64 (a : Int), .int .i64 (b : Int), .int .i64 (r : Int)]
set_option maxRecDepth 100000 in
set_option maxHeartbeats 4000000 in
theorem sizeL_any (c : List UInt32) (A : Option Addr) (n cap B : Nat) (w : World) (hr : Reads w B 1 A n (c.map uw)) (hB : B ≤ w.heap.size) (hN : n ≤ 65536) :
    Calls Try.prog 21 #[.slice A n cap] w fun e w' => e = .returned (.agg #[.int .i64 ((plainS c).length : Nat), .int .i64 ((deltaS c).length : Nat), .int .i64 ((runS c).length : Nat)]) ∧ Below w.heap.size w w' := by
  have hlen : c.length = n := by have := hr.1; simpa using this
  obtain ⟨W0, hW0⟩ : ∃ W0, ((w.alloc (.cells #[.int .i64 0, .int .i64 0, .int .i64 0] 38)).alloc (.cells #[.int .i64 0, .int .i64 0, .int .i64 0] 38)) = W0 := ⟨_, rfl⟩
  have hx0 : Blk W0 w.heap.size 38 (n3 0 0 0) := by rw [← hW0]; exact (Blk.new w _ _).alloc _
  have hx1 : Blk W0 (w.heap.size + 1) 38 (n3 0 0 0) := by
    rw [← hW0]
    have := Blk.new (w.alloc (.cells #[.int .i64 0, .int .i64 0, .int .i64 0] 38)) 38 #[.int .i64 0, .int .i64 0, .int .i64 0]
    rwa [World.size_alloc] at this
  have hb0 : Below w.heap.size w W0 := by rw [← hW0]; exact ((Below.refl _ _).alloc (Nat.le_refl _) _).alloc (by simp) _
  have HR := hide hr
  have HLEN := Lib.hid hlen
  have HX0 := hide hx0
  have HX1 := hide hx1
  have HB0 := hide hb0
  clear hr hlen hx0 hx1 hb0
  go_enter Try.func21, Try.ntmps21
  go_wp2_with fail
  go_loopg [4] n (fun q t W => ∃ i r : Nat, i + q = n ∧ t = .int .i64 (i : Int) ∧ r + (runS (c.drop i)).length = (runS c).length ∧ Blk W w.heap.size 38 (n3 0 0 0) ∧ Blk W (w.heap.size + 1) 38 (n3 (plainS (c.take i)).length (deltaTo c i).length r) ∧ Below w.heap.size w W)
  case atStart => exact ⟨0, 0, by omega, rfl, by simp, unhide HX0, unhide HX1, unhide HB0⟩
  case round =>
    obtain ⟨i, r, hi, rfl, hrun, hx0, hx1, hb⟩ := hrel
    clear HX0 HX1 HB0
    have HX0 := hide hx0
    have HX1 := hide hx1
    have HB := hide hb
    have HRUN := Lib.hid hrun
    clear hx0 hx1 hb hrun
    by_cases hlt : i < n
    · obtain ⟨q, rfl⟩ : ∃ q, gk = q + 1 := ⟨gk - 1, by omega⟩
      have hin : (i : Int) < (n : Int) := by omega
      have hi0 : (0 : Int) ≤ (i : Int) := by omega
      go_wp2_with fail
      go_loopg [5] (n - i) (fun p t W => ∃ k : Nat, k + p = n ∧ t = .int .i64 (k : Int) ∧ i ≤ k ∧ (∀ j, i ≤ j → j < k → c[j]? = c[i]?) ∧ Blk W w.heap.size 38 (n3 0 0 0) ∧ Blk W (w.heap.size + 1) 38 (n3 (plainS (c.take k)).length (deltaTo c k).length r) ∧ Below w.heap.size w W)
      case atStart => exact ⟨i, by omega, rfl, Nat.le_refl _, fun j h1 h2 => by omega, unhide HX0, unhide HX1, unhide HB⟩
      case round =>
        obtain ⟨k, hk, rfl, hik, hsame, hx0, hx1, hb⟩ := hrel
        have hr' := unhide HR
        obtain ⟨b, off, xi, rfl, hbB, hxi, hci0⟩ := hr'.num hlt
        have hgb : b < w.heap.size := by omega
        have hci := (hb.cell (p := ⟨b, off + i, none⟩) hgb).trans hci0
        have HX0' := hide hx0
        have HX1' := hide hx1
        have HB' := hide hb
        have HSAME := hide hsame
        by_cases hkn : k < n
        · obtain ⟨b', off', xk, hA', _, hxk, hck0⟩ := hr'.num hkn
          cases hA'
          have hck := (hb.cell (p := ⟨b, off + k, none⟩) hgb).trans hck0
          obtain ⟨X, hX⟩ : ∃ X, xi.toNat = X := ⟨_, rfl⟩
          have hxlt : X < U64 := by have := u32_lt xi; unfold U64; omega
          rw [hX] at hci
          by_cases hcc : xk = xi
          · subst hcc
            rw [hX] at hck hck0
            have HCK0 := Lib.hid hck0
            clear hck0 hci0
            have hwX : IntKind.u64.wrap (X : Int) = (X : Int) := wrapu_nat X hxlt
            obtain ⟨s, hs⟩ : ∃ s, (form X).length = s := ⟨_, rfl⟩
            have hSz : ∀ V : World, Hid (Calls Try.prog 39 #[.int .u64 (X : Int)] V fun e w'' => e = .returned (.int .i64 (s : Nat)) ∧ w'' = V) := fun V => hide ((size_any X V hxlt).mono fun _ _ h => ⟨by rw [← hs]; exact h.1, h.2.symm⟩)
            have HS := Lib.hid hs
            clear hs
            obtain ⟨p, rfl⟩ : ∃ p', gk = p' + 1 := ⟨gk - 1, by omega⟩
            have hkI : (k : Int) < (n : Int) := by omega
            have hkI0 : (0 : Int) ≤ (k : Int) := by omega
            obtain ⟨a0, ha0⟩ : ∃ a, (plainS (c.take k)).length = a := ⟨_, rfl⟩
            obtain ⟨d0, hd0⟩ : ∃ a, (deltaTo c k).length = a := ⟨_, rfl⟩
            rw [ha0, hd0] at hx1
            have HA0 := Lib.hid ha0
            have HD0 := Lib.hid hd0
            clear hd0
            have HX1a := hide hx1
            have ha5 : a0 ≤ 5 * k := by rw [← ha0]; exact plain_le c k
            have hs10 : s ≤ 10 := by rw [← HS.out]; exact (form_len X).2
            have c0 : wr.cell? ⟨w.heap.size + 1, 0, none⟩ = some (.int .i64 (a0 : Int)) := hx1.cell 0
            have c1 : wr.cell? ⟨w.heap.size + 1, 1, none⟩ = some (.int .i64 (d0 : Int)) := hx1.cell 1
            have f0 : wr.frozen? ⟨w.heap.size + 1, 0, none⟩ = false := hx1.frozen 0
            have f1 : wr.frozen? ⟨w.heap.size + 1, 1, none⟩ = false := hx1.frozen 1
            clear hx0 hx1 hb hsame
            go_wp2_with fail
            go_quiet (fail)
            rename_i nq
            go_wp2_with fail
            refine region_tail 10 (by kernel_rfl) (by kernel_rfl) fun V hV => ?_
            simp only [List.take_succ_cons, List.take_zero, List.drop_succ_cons, List.drop_zero]
            have hbV : Below w.heap.size w V := by rw [← hV]; exact ⟨(unhide HB').os, (unhide HB').tape, (unhide HB').output, (unhide HB').size, (unhide HB').block⟩
            have hVk : ∀ p, V.cell? p = wr.cell? p := fun p => by rw [← hV]; rfl
            have hVf : ∀ p, V.frozen? p = wr.frozen? p := fun p => by rw [← hV]; rfl
            rw [← hVk] at c0 c1 hck hci
            rw [← hVf] at f0 f1
            have hx0V : Blk V w.heap.size 38 (n3 0 0 0) := by rw [← hV]; exact (unhide HX0').drewN nq |>.drew
            have hx1V : Blk V (w.heap.size + 1) 38 (n3 a0 d0 r) := by rw [← hV]; exact (unhide HX1a).drewN nq |>.drew
            obtain ⟨a1, ha1⟩ : ∃ m, a0 + s = m := ⟨_, rfl⟩
            have HA1 := Lib.hid ha1
            have HXS0 := hide (hx0V.far (p := ⟨w.heap.size + 1, 0, none⟩) (by simp) (.int .i64 (a1 : Int)))
            have HXS1 := hide (hx1V.set_ 0 (.int .i64 (a1 : Int)))
            have HBS := hide (hbV.setCell (p := ⟨w.heap.size + 1, 0, none⟩) (by simp) (.int .i64 (a1 : Int)))
            clear hV hVk hVf hx0V hx1V hbV
            repeat still_step
            still_call (unhide (hSz V))
            repeat still_step
            refine wpStill_nil ?_
            have hwA : IntKind.i64.wrap ((a0 : Int) + (s : Int)) = (a1 : Int) := by rw [IntWalk.i64_in _ (by omega)]; omega
            rw [hwA]
            obtain ⟨W1, hW1⟩ : ∃ W, V.setCell ⟨w.heap.size + 1, 0, none⟩ (.int .i64 (a1 : Int)) = W := ⟨_, rfl⟩
            rw [hW1] at HXS0 HXS1 HBS
            clear c1 f1 hck hci hwA ha1
            by_cases hk0 : k = 0
            · have hk0b : ((k : Int) == 0) = true := by simp; omega
              have HK0 := Lib.hid hk0
              clear hk0
              go_wp2_with fail
              refine region_tail 10 (by kernel_rfl) (by kernel_rfl) fun V2 hV2 => ?_
              simp only [List.take_succ_cons, List.take_zero, List.drop_succ_cons, List.drop_zero]
              have hb2 : Below w.heap.size w V2 := by rw [← hV2]; exact ⟨(unhide HBS).os, (unhide HBS).tape, (unhide HBS).output, (unhide HBS).size, (unhide HBS).block⟩
              have hx2 : Blk V2 w.heap.size 38 (n3 0 0 0) := by rw [← hV2]; exact (unhide HXS0).drew
              have hx3 : Blk V2 (w.heap.size + 1) 38 (n3 a1 d0 r) := by rw [← hV2]; exact (unhide HXS1).drew
              have c1 : V2.cell? ⟨w.heap.size + 1, 1, none⟩ = some (.int .i64 (d0 : Int)) := hx3.cell 1
              have f1 : V2.frozen? ⟨w.heap.size + 1, 1, none⟩ = false := hx3.frozen 1
              have hck := (hb2.cell (p := ⟨b, off + k, none⟩) hgb).trans HCK0.out
              have hd5 : d0 ≤ 5 * k := by rw [← HD0.out]; exact deltaTo_len c k
              obtain ⟨d1, hd1⟩ : ∃ m, d0 + s = m := ⟨_, rfl⟩
              have HD1 := Lib.hid hd1
              have hwD : IntKind.i64.wrap ((d0 : Int) + (s : Int)) = (d1 : Int) := by rw [IntWalk.i64_in _ (by omega)]; omega
              have HXT0 := hide (hx2.far (p := ⟨w.heap.size + 1, 1, none⟩) (by simp) (.int .i64 (d1 : Int)))
              have HXT1 := hide (hx3.set_ 1 (.int .i64 (d1 : Int)))
              have HBT := hide (hb2.setCell (p := ⟨w.heap.size + 1, 1, none⟩) (by simp) (.int .i64 (d1 : Int)))
              clear hV2 hb2 hx2 hx3 HXS0 HXS1 HBS hd5 c0 f0 hW1 hd1
              repeat still_step
              still_call (unhide (hSz V2))
              repeat still_step
              refine wpStill_nil ?_
              obtain ⟨W2, hW2⟩ : ∃ W, V2.setCell ⟨w.heap.size + 1, 1, none⟩ (.int .i64 (d1 : Int)) = W := ⟨_, rfl⟩
              rw [hW2] at HXT0 HXT1 HBT
              clear hck hwD
              go_wp2_with fail
              go_roundg p
              case rel =>
                refine ⟨k + 1, by omega, by go_num, by omega, ?_, unhide HXT0, ?_, unhide HBT⟩
                · intro j h1 h2
                  by_cases h : j < k
                  · exact (unhide HSAME) j h1 h
                  · obtain rfl : j = k := by omega
                    rw [hxk, hxi]
                · have hgd : (c.getD k 0).toNat = X := by rw [List.getD_eq_getElem?_getD, hxk]; exact hX
                  have e1 : (plainS (c.take (k + 1))).length = a1 := by rw [plain_next c (by rw [HLEN.out]; exact hkn), HA0.out, hgd, HS.out]; exact HA1.out
                  have e2 : (deltaTo c (k + 1)).length = d1 := by
                    rw [deltaTo, List.length_append, HD0.out, stepAt, if_pos HK0.out, ← HK0.out, hgd, HS.out]
                    exact HD1.out
                  rw [e1, e2]
                  exact unhide HXT1
              case measure => omega
            · have hk0b : ((k : Int) == 0) = false := by simp; omega
              obtain ⟨j, hkj⟩ : ∃ j, k = j + 1 := ⟨k - 1, by omega⟩
              obtain ⟨b', off', xj, hA', _, hxj, hcj0⟩ := hr'.num (show j < n by omega)
              cases hA'
              obtain ⟨Y, hY⟩ : ∃ Y, xj.toNat = Y := ⟨_, rfl⟩
              have hy4 : Y < 4294967296 := by rw [← hY]; exact u32_lt xj
              have hx4 : X < 4294967296 := by rw [← hX]; exact u32_lt xk
              rw [hY] at hcj0
              have hjI0 : (0 : Int) ≤ (j : Int) := by omega
              have hjI : (j : Int) < (n : Int) := by omega
              have hs2 : IntKind.i64.wrap ((k : Int) - 1) = (j : Int) := by rw [IntWalk.i64_in _ (by omega)]; omega
              have hwXi : IntKind.i64.wrap (X : Int) = (X : Int) := IntWalk.i64_in _ (by omega)
              have hwYi : IntKind.i64.wrap (Y : Int) = (Y : Int) := IntWalk.i64_in _ (by omega)
              have hs3 : IntKind.i64.wrap ((X : Int) - (Y : Int)) = (X : Int) - (Y : Int) := IntWalk.i64_in _ (by omega)
              have hst : stepAt c k = tn ((X : Int) - (Y : Int)) := by
                rw [stepAt, if_neg hk0, hkj, Nat.add_sub_cancel]
                rw [List.getD_eq_getElem?_getD, List.getD_eq_getElem?_getD, ← hkj, hxk, hxj]
                simp [hX, hY]
              have hstl := stepAt_lt c k
              rw [hst] at hstl
              have hTn : ∀ V : World, Hid (Calls Try.prog 40 #[.int .i64 ((X : Int) - (Y : Int))] V fun e w'' => e = .returned (.int .u64 (tn ((X : Int) - (Y : Int)) : Nat)) ∧ w'' = V) := fun V => hide ((turn_tn ((X : Int) - (Y : Int)) V (by omega) (by omega)).mono fun _ _ h => ⟨h.1, h.2.symm⟩)
              obtain ⟨M, hM⟩ : ∃ M, tn ((X : Int) - (Y : Int)) = M := ⟨_, rfl⟩
              rw [hM] at hst hstl
              simp only [hM] at hTn
              obtain ⟨s2, hs2'⟩ : ∃ s, (form M).length = s := ⟨_, rfl⟩
              have hSz2 : ∀ V : World, Hid (Calls Try.prog 39 #[.int .u64 (M : Int)] V fun e w'' => e = .returned (.int .i64 (s2 : Nat)) ∧ w'' = V) := fun V => hide ((size_any M V hstl).mono fun _ _ h => ⟨by rw [← hs2']; exact h.1, h.2.symm⟩)
              have hs210 : s2 ≤ 10 := by rw [← hs2']; exact (form_len M).2
              have HS2 := Lib.hid hs2'
              have HST := Lib.hid hst
              have HKJ := Lib.hid hkj
              have HK0 := hide hk0
              clear hk0 hkj hs2' hst hM hY
              go_wp2_with fail
              refine region_tail 18 (by kernel_rfl) (by kernel_rfl) fun V2 hV2 => ?_
              simp only [List.take_succ_cons, List.take_zero, List.drop_succ_cons, List.drop_zero]
              have hb2 : Below w.heap.size w V2 := by rw [← hV2]; exact ⟨(unhide HBS).os, (unhide HBS).tape, (unhide HBS).output, (unhide HBS).size, (unhide HBS).block⟩
              have hx2 : Blk V2 w.heap.size 38 (n3 0 0 0) := by rw [← hV2]; exact (unhide HXS0).drew
              have hx3 : Blk V2 (w.heap.size + 1) 38 (n3 a1 d0 r) := by rw [← hV2]; exact (unhide HXS1).drew
              have c1 : V2.cell? ⟨w.heap.size + 1, 1, none⟩ = some (.int .i64 (d0 : Int)) := hx3.cell 1
              have f1 : V2.frozen? ⟨w.heap.size + 1, 1, none⟩ = false := hx3.frozen 1
              have hck := (hb2.cell (p := ⟨b, off + k, none⟩) hgb).trans HCK0.out
              have hcj := (hb2.cell (p := ⟨b, off + j, none⟩) hgb).trans hcj0
              have hd5 : d0 ≤ 5 * k := by rw [← HD0.out]; exact deltaTo_len c k
              obtain ⟨d1, hd1⟩ : ∃ m, d0 + s2 = m := ⟨_, rfl⟩
              have HD1 := Lib.hid hd1
              have hwD : IntKind.i64.wrap ((d0 : Int) + (s2 : Int)) = (d1 : Int) := by rw [IntWalk.i64_in _ (by omega)]; omega
              have HXT0 := hide (hx2.far (p := ⟨w.heap.size + 1, 1, none⟩) (by simp) (.int .i64 (d1 : Int)))
              have HXT1 := hide (hx3.set_ 1 (.int .i64 (d1 : Int)))
              have HBT := hide (hb2.setCell (p := ⟨w.heap.size + 1, 1, none⟩) (by simp) (.int .i64 (d1 : Int)))
              clear hV2 hb2 hx2 hx3 HXS0 HXS1 HBS hd5 c0 f0 hW1 hd1 hcj0
              repeat still_step
              still_call (unhide (hTn V2))
              repeat still_step
              still_call (unhide (hSz2 V2))
              repeat still_step
              refine wpStill_nil ?_
              obtain ⟨W2, hW2⟩ : ∃ W, V2.setCell ⟨w.heap.size + 1, 1, none⟩ (.int .i64 (d1 : Int)) = W := ⟨_, rfl⟩
              rw [hW2] at HXT0 HXT1 HBT
              clear hck hcj hwD
              go_wp2_with fail
              go_roundg p
              case rel =>
                refine ⟨k + 1, by omega, by go_num, by omega, ?_, unhide HXT0, ?_, unhide HBT⟩
                · intro j h1 h2
                  by_cases h : j < k
                  · exact (unhide HSAME) j h1 h
                  · obtain rfl : j = k := by omega
                    rw [hxk, hxi]
                · have hgd : (c.getD k 0).toNat = X := by rw [List.getD_eq_getElem?_getD, hxk]; exact hX
                  have e1 : (plainS (c.take (k + 1))).length = a1 := by rw [plain_next c (by rw [HLEN.out]; exact hkn), HA0.out, hgd, HS.out]; exact HA1.out
                  have e2 : (deltaTo c (k + 1)).length = d1 := by
                    rw [deltaTo, List.length_append, HD0.out, HST.out, HS2.out]
                    exact HD1.out
                  rw [e1, e2]
                  exact unhide HXT1
              case measure => omega
          · have hik2 : i ≠ k := fun e => hcc (by subst e; rw [hxi] at hxk; injection hxk with e; exact e.symm)
            have hlt2 : i < k := by omega
            have hend : k = c.length ∨ c[k]? ≠ some xi := .inr (by rw [hxk]; exact fun e => hcc (by injection e))
            obtain ⟨X', hX'⟩ : ∃ X, xk.toNat = X := ⟨_, rfl⟩
            have hxx : ((X' : Int) == (X : Int)) = false := by
              simp only [beq_eq_false_iff_ne, ne_eq, Int.natCast_inj]
              intro e
              exact hcc (UInt32.toNat_inj.1 (by rw [hX', hX]; exact e))
            rw [hX'] at hck
            rw [hX] at hci0
            have hkI : (k : Int) < (n : Int) := by omega
            have hkI0 : (0 : Int) ≤ (k : Int) := by omega

            have hwX : IntKind.u64.wrap (X : Int) = (X : Int) := wrapu_nat X hxlt
            obtain ⟨D, hDk⟩ : ∃ D, k - i = D := ⟨_, rfl⟩
            have hwK : IntKind.i64.wrap ((k : Int) - (i : Int)) = (D : Int) := by rw [IntWalk.i64_in _ (by omega)]; omega
            have hDlt : D < U64 := by unfold U64; omega
            have hwD : IntKind.u64.wrap (D : Int) = (D : Int) := wrapu_nat D hDlt
            obtain ⟨s, hs⟩ : ∃ s, (form X).length = s := ⟨_, rfl⟩
            obtain ⟨s3, hs3⟩ : ∃ s, (form D).length = s := ⟨_, rfl⟩
            have hSz : ∀ V : World, Hid (Calls Try.prog 39 #[.int .u64 (X : Int)] V fun e w'' => e = .returned (.int .i64 (s : Nat)) ∧ w'' = V) := fun V => hide ((size_any X V hxlt).mono fun _ _ h => ⟨by rw [← hs]; exact h.1, h.2.symm⟩)
            have hSz3 : ∀ V : World, Hid (Calls Try.prog 39 #[.int .u64 (D : Int)] V fun e w'' => e = .returned (.int .i64 (s3 : Nat)) ∧ w'' = V) := fun V => hide ((size_any D V hDlt).mono fun _ _ h => ⟨by rw [← hs3]; exact h.1, h.2.symm⟩)
            have hrle : r ≤ 20 * n := by
              have h1 := HRUN.out
              have h2 := runS_len c
              rw [HLEN.out] at h2
              omega
            have hs10 : s ≤ 10 := by rw [← hs]; exact (form_len X).2
            have hs310 : s3 ≤ 10 := by rw [← hs3]; exact (form_len D).2
            obtain ⟨r1, hr1⟩ : ∃ m, r + s = m := ⟨_, rfl⟩
            obtain ⟨r2, hr2⟩ : ∃ m, r1 + s3 = m := ⟨_, rfl⟩
            have hw1 : IntKind.i64.wrap ((r : Int) + (s : Int)) = (r1 : Int) := by rw [IntWalk.i64_in _ (by omega)]; omega
            have hw2 : IntKind.i64.wrap ((r1 : Int) + (s3 : Int)) = (r2 : Int) := by rw [IntWalk.i64_in _ (by omega)]; omega
            have hNEXT : runs (c.drop i) = (xi, k - i) :: runs (c.drop k) := runs_at hxi hlt2 (fun j h1 h2 => ((unhide HSAME) j h1 h2).trans hxi) hend
            have hRUN2 : r2 + (runS (c.drop k)).length = (runS c).length := by
              have h1 := HRUN.out
              have h2 : (runS (c.drop i)).length = s + s3 + (runS (c.drop k)).length := by
                rw [runS, hNEXT, List.flatMap_cons, List.length_append, List.length_append, hX, hDk, hs, hs3]
                rfl
              omega
            have HRUN2 := Lib.hid hRUN2
            clear hNEXT hRUN2 hs hs3 hr1 hr2 hDk hend hX
            obtain ⟨P, hP⟩ : ∃ a, (plainS (c.take k)).length = a := ⟨_, rfl⟩
            obtain ⟨Q, hQ⟩ : ∃ a, (deltaTo c k).length = a := ⟨_, rfl⟩
            have HP := Lib.hid hP
            have HQ := Lib.hid hQ
            clear hP hQ hx0 hx1 hsame hb hr'
            go_wp2_with fail
            go_quiet (fail)
            rename_i nq
            go_wp2_with fail
            refine region_tail 16 (by kernel_rfl) (by kernel_rfl) fun V2 hV2 => ?_
            simp only [List.take_succ_cons, List.take_zero, List.drop_succ_cons, List.drop_zero]
            have hb2 : Below w.heap.size w V2 := by rw [← hV2]; exact ⟨(unhide HB').os, (unhide HB').tape, (unhide HB').output, (unhide HB').size, (unhide HB').block⟩
            have hx2 : Blk V2 w.heap.size 38 (n3 0 0 0) := by rw [← hV2]; exact unhide HX0'
            have hx3 : Blk V2 (w.heap.size + 1) 38 (n3 P Q r) := by rw [← hV2, ← HP.out, ← HQ.out]; exact unhide HX1'
            have c2 : V2.cell? ⟨w.heap.size + 1, 2, none⟩ = some (.int .i64 (r : Int)) := hx3.cell 2
            have f2 : V2.frozen? ⟨w.heap.size + 1, 2, none⟩ = false := hx3.frozen 2
            have hci2 := (hb2.cell (p := ⟨b, off + i, none⟩) hgb).trans hci0
            have HXT0 := hide (hx2.far (p := ⟨w.heap.size + 1, 2, none⟩) (by simp) (.int .i64 (r2 : Int)))
            have HXT1 := hide (hx3.set_ 2 (.int .i64 (r2 : Int)))
            have HBT := hide (hb2.setCell (p := ⟨w.heap.size + 1, 2, none⟩) (by simp) (.int .i64 (r2 : Int)))
            clear hV2 hb2 hx2 hx3 hci hci0
            repeat still_step
            still_call (unhide (hSz V2))
            repeat still_step
            still_call (unhide (hSz3 V2))
            repeat still_step
            refine wpStill_nil ?_
            obtain ⟨W2, hW2⟩ : ∃ W, V2.setCell ⟨w.heap.size + 1, 2, none⟩ (.int .i64 (r2 : Int)) = W := ⟨_, rfl⟩
            rw [hW2] at HXT0 HXT1 HBT
            clear hci2 hw1 hw2 hwK hwD hwX
            go_wp2_with fail
            go_roundg (n - k)
            case rel => exact ⟨k, r2, by omega, rfl, HRUN2.out, unhide HXT0, by rw [HP.out, HQ.out]; exact unhide HXT1, unhide HBT⟩
            case measure => omega
        · obtain rfl : k = n := by omega
          have hlt2 : i < k := hlt
          have hend : k = c.length ∨ c[k]? ≠ some xi := .inl HLEN.out.symm
          obtain ⟨X, hX⟩ : ∃ X, xi.toNat = X := ⟨_, rfl⟩
          have hxlt : X < U64 := by have := u32_lt xi; unfold U64; omega
          rw [hX] at hci hci0

          have hwX : IntKind.u64.wrap (X : Int) = (X : Int) := wrapu_nat X hxlt
          obtain ⟨D, hDk⟩ : ∃ D, k - i = D := ⟨_, rfl⟩
          have hwK : IntKind.i64.wrap ((k : Int) - (i : Int)) = (D : Int) := by rw [IntWalk.i64_in _ (by omega)]; omega
          have hDlt : D < U64 := by unfold U64; omega
          have hwD : IntKind.u64.wrap (D : Int) = (D : Int) := wrapu_nat D hDlt
          obtain ⟨s, hs⟩ : ∃ s, (form X).length = s := ⟨_, rfl⟩
          obtain ⟨s3, hs3⟩ : ∃ s, (form D).length = s := ⟨_, rfl⟩
          have hSz : ∀ V : World, Hid (Calls Try.prog 39 #[.int .u64 (X : Int)] V fun e w'' => e = .returned (.int .i64 (s : Nat)) ∧ w'' = V) := fun V => hide ((size_any X V hxlt).mono fun _ _ h => ⟨by rw [← hs]; exact h.1, h.2.symm⟩)
          have hSz3 : ∀ V : World, Hid (Calls Try.prog 39 #[.int .u64 (D : Int)] V fun e w'' => e = .returned (.int .i64 (s3 : Nat)) ∧ w'' = V) := fun V => hide ((size_any D V hDlt).mono fun _ _ h => ⟨by rw [← hs3]; exact h.1, h.2.symm⟩)
          have hrle : r ≤ 20 * k := by
            have h1 := HRUN.out
            have h2 := runS_len c
            rw [HLEN.out] at h2
            omega
          have hs10 : s ≤ 10 := by rw [← hs]; exact (form_len X).2
          have hs310 : s3 ≤ 10 := by rw [← hs3]; exact (form_len D).2
          obtain ⟨r1, hr1⟩ : ∃ m, r + s = m := ⟨_, rfl⟩
          obtain ⟨r2, hr2⟩ : ∃ m, r1 + s3 = m := ⟨_, rfl⟩
          have hw1 : IntKind.i64.wrap ((r : Int) + (s : Int)) = (r1 : Int) := by rw [IntWalk.i64_in _ (by omega)]; omega
          have hw2 : IntKind.i64.wrap ((r1 : Int) + (s3 : Int)) = (r2 : Int) := by rw [IntWalk.i64_in _ (by omega)]; omega
          have hNEXT : runs (c.drop i) = (xi, k - i) :: runs (c.drop k) := runs_at hxi hlt2 (fun j h1 h2 => ((unhide HSAME) j h1 h2).trans hxi) hend
          have hRUN2 : r2 + (runS (c.drop k)).length = (runS c).length := by
            have h1 := HRUN.out
            have h2 : (runS (c.drop i)).length = s + s3 + (runS (c.drop k)).length := by
              rw [runS, hNEXT, List.flatMap_cons, List.length_append, List.length_append, hX, hDk, hs, hs3]
              rfl
            omega
          have HRUN2 := Lib.hid hRUN2
          clear hNEXT hRUN2 hs hs3 hr1 hr2 hDk hend hX
          obtain ⟨P, hP⟩ : ∃ a, (plainS (c.take k)).length = a := ⟨_, rfl⟩
          obtain ⟨Q, hQ⟩ : ∃ a, (deltaTo c k).length = a := ⟨_, rfl⟩
          have HP := Lib.hid hP
          have HQ := Lib.hid hQ
          clear hP hQ hx0 hx1 hsame hb hr'
          go_wp2_with fail
          go_quiet (fail)
          rename_i nq
          go_wp2_with fail
          refine region_tail 16 (by kernel_rfl) (by kernel_rfl) fun V2 hV2 => ?_
          simp only [List.take_succ_cons, List.take_zero, List.drop_succ_cons, List.drop_zero]
          have hb2 : Below w.heap.size w V2 := by rw [← hV2]; exact ⟨(unhide HB').os, (unhide HB').tape, (unhide HB').output, (unhide HB').size, (unhide HB').block⟩
          have hx2 : Blk V2 w.heap.size 38 (n3 0 0 0) := by rw [← hV2]; exact unhide HX0'
          have hx3 : Blk V2 (w.heap.size + 1) 38 (n3 P Q r) := by rw [← hV2, ← HP.out, ← HQ.out]; exact unhide HX1'
          have c2 : V2.cell? ⟨w.heap.size + 1, 2, none⟩ = some (.int .i64 (r : Int)) := hx3.cell 2
          have f2 : V2.frozen? ⟨w.heap.size + 1, 2, none⟩ = false := hx3.frozen 2
          have hci2 := (hb2.cell (p := ⟨b, off + i, none⟩) hgb).trans hci0
          have HXT0 := hide (hx2.far (p := ⟨w.heap.size + 1, 2, none⟩) (by simp) (.int .i64 (r2 : Int)))
          have HXT1 := hide (hx3.set_ 2 (.int .i64 (r2 : Int)))
          have HBT := hide (hb2.setCell (p := ⟨w.heap.size + 1, 2, none⟩) (by simp) (.int .i64 (r2 : Int)))
          clear hV2 hb2 hx2 hx3 hci hci0
          repeat still_step
          still_call (unhide (hSz V2))
          repeat still_step
          still_call (unhide (hSz3 V2))
          repeat still_step
          refine wpStill_nil ?_
          obtain ⟨W2, hW2⟩ : ∃ W, V2.setCell ⟨w.heap.size + 1, 2, none⟩ (.int .i64 (r2 : Int)) = W := ⟨_, rfl⟩
          rw [hW2] at HXT0 HXT1 HBT
          clear hci2 hw1 hw2 hwK hwD hwX
          go_wp2_with fail
          go_roundg 0
          case rel => exact ⟨k, r2, by omega, rfl, HRUN2.out, unhide HXT0, by rw [HP.out, HQ.out]; exact unhide HXT1, unhide HBT⟩
          case measure => omega
    · obtain rfl : i = n := by omega
      have hr0 : r = (runS c).length := by
        have h := HRUN.out
        rw [List.drop_of_length_le (by rw [HLEN.out]; exact Nat.le_refl _)] at h
        simpa [runS, runs_nil] using h
      have hp0 : (plainS (c.take i)).length = (plainS c).length := by rw [List.take_of_length_le (by rw [HLEN.out]; exact Nat.le_refl _)]
      have hd0 : (deltaTo c i).length = (deltaS c).length := by rw [deltaS, HLEN.out]
      have h1 := unhide HX1
      rw [hr0, hp0, hd0] at h1
      obtain ⟨a, ha⟩ : ∃ a, (plainS c).length = a := ⟨_, rfl⟩
      obtain ⟨b, hb⟩ : ∃ b, (deltaS c).length = b := ⟨_, rfl⟩
      obtain ⟨d, hd⟩ : ∃ d, (runS c).length = d := ⟨_, rfl⟩
      rw [ha, hb, hd] at h1
      have HEQ := hide (⟨ha, hb, hd⟩ : (plainS c).length = a ∧ (deltaS c).length = b ∧ (runS c).length = d)
      have l0 : wr.cell? ⟨w.heap.size + 1, 0, none⟩ = some (.int .i64 (a : Int)) := h1.cell 0
      have l1 : wr.cell? ⟨w.heap.size + 1, 1, none⟩ = some (.int .i64 (b : Int)) := h1.cell 1
      have l2 : wr.cell? ⟨w.heap.size + 1, 2, none⟩ = some (.int .i64 (d : Int)) := h1.cell 2
      have s0 : wr.cell? ⟨w.heap.size, 0, none⟩ = some (.int .i64 0) := (unhide HX0).cell 0
      have s1 : wr.cell? ⟨w.heap.size, 1, none⟩ = some (.int .i64 0) := (unhide HX0).cell 1
      have s2 : wr.cell? ⟨w.heap.size, 2, none⟩ = some (.int .i64 0) := (unhide HX0).cell 2
      have f0 : wr.frozen? ⟨w.heap.size, 0, none⟩ = false := (unhide HX0).frozen 0
      have f1 : wr.frozen? ⟨w.heap.size, 1, none⟩ = false := (unhide HX0).frozen 1
      have f2 : wr.frozen? ⟨w.heap.size, 2, none⟩ = false := (unhide HX0).frozen 2
      clear h1 ha hb hd hr0 hp0 hd0
      go_wp2_with fail
      exact bodyPost_ret (v := .agg #[.int .i64 (a : Int), .int .i64 (b : Int), .int .i64 (d : Int)]) (by simp [results, Try.results21, go_sem, s0, s1, s2]) rfl ⟨by rw [(unhide HEQ).1, (unhide HEQ).2.1, (unhide HEQ).2.2], (((unhide HB).setCell (p := ⟨w.heap.size, 0, none⟩) (Nat.le_refl _) _).setCell (p := ⟨w.heap.size, 1, none⟩) (Nat.le_refl _) _).setCell (p := ⟨w.heap.size, 2, none⟩) (Nat.le_refl _) _⟩
end Go.Proofs.Yteambdbcjcfdeaa
