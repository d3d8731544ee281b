/-
  The law's own helpers apart, numbersApart: the walks over the Go text. Condition: four lists of at most a million values each.
-/
import Derived.Test.YteambdbcjcfdeaaColGrow
import Derived.Test.YteambdbcjcfdeaaColRead
namespace Go.Proofs.Yteambdbcjcfdeaa
open Go.RowKit

theorem elem_slb : ElemOf Try.prog 51 24 1 24 := .mk' (.slice none 0 0) Try.underlying51 (by kernel_rfl) rfl (by omega)
theorem elem_slw : ElemOf Try.prog 53 22 1 24 := .mk' (.slice none 0 0) Try.underlying53 (by kernel_rfl) rfl (by omega)

def apartF (i k : Nat) : Value := .int .u8 (((37 * i + k) % 256 : Nat) : Int)
def apartG (i k : Nat) : Value := .int .u8 (((100 + 11 * i + k) % 256 : Nat) : Int)
set_option maxRecDepth 100000 in
set_option maxHeartbeats 2000000 in
theorem apart_any (X : Nat) (V : Nat → Value) (VS : Array Value) (ln : Nat → Nat) (xs0 : Nat → List Value) (W0 : World) (hrows0 : Rws 5 W0 V xs0) (hlen0 : ∀ i, (xs0 i).length = ln i) (hln : ∀ i, i < 4 → ln i ≤ 1000000)
    (hat : ∀ i, i < 4 → VS[i]? = some (V i)) (hxb0 : Blk W0 X 24 VS) :
    Calls Try.prog 28 #[.slice (some ⟨X, 0, none⟩) 4 4] W0 fun e W' => e = .returned (.bool true) ∧ Chg W0 W' (Ft V) := by
  have hne : 5 ≠ 24 := by decide
  obtain ⟨Z, hZ⟩ : ∃ Z, W0.heap.size = Z := ⟨_, rfl⟩
  have hCst : Cst Z X V VS := ⟨hrows0.apart, fun i hi b hb => by rw [← hZ]; exact (hrows0.own i hi).lt hb, hat, by rw [← hZ]; exact hxb0.lt⟩
  have CST := hide hCst
  have ROWS := hide hrows0
  have LEN := hide hlen0
  have XB := hide hxb0
  have LN := hide hln
  have AT := hide hat
  have HZ := Lib.hid hZ
  have HNE := Lib.hid hne
  clear hrows0 hlen0 hln hat hxb0 hCst hZ hne
  go_enter Try.func28, Try.ntmps28
  go_wp2_with fail
  go_loopg [3] 4 (fun q t W => ∃ (i : Nat) (xs : Nat → List Value), i + q = 4 ∧ t = .int .i64 (i : Int) ∧ Rws 5 W V xs ∧ (∀ i, (xs i).length = ln i) ∧ (∀ i', i' < i → xs i' = fl apartF (ln i') i') ∧ Blk W X 24 VS ∧ Chg W0 W (Ft V))
  case atStart => exact ⟨0, xs0, by omega, rfl, unhide ROWS, unhide LEN, fun i' h => by omega, unhide XB, Chg.refl _ _⟩
  case round =>
    obtain ⟨i, xs1, hiq, rfl, hrows, hlen1, hdone, hxb, hbel⟩ := hrel
    clear ROWS XB LEN
    by_cases hi : i < 4
    · obtain ⟨q, rfl⟩ : ∃ q, gk = q + 1 := ⟨gk - 1, by omega⟩
      have hi4 : (i : Int) < 4 := by omega
      have ROWS := hide hrows
      have LEN := hide hlen1
      have DONE := hide hdone
      have XB := hide hxb
      have BEL1 := hide hbel
      clear hrows hlen1 hdone hxb hbel
      go_wp2_with fail
      obtain ⟨wo, rfl⟩ : ∃ wo : World, wo = wr := ⟨_, rfl⟩
      go_loopg [4] (ln i) (fun q t W => ∃ (k : Nat) (xs : Nat → List Value), k + q = ln i ∧ t = .int .i64 (k : Int) ∧ Rws 5 W V xs ∧ (∀ i, (xs i).length = ln i) ∧ (∀ i', i' < i → xs i' = fl apartF (ln i') i') ∧ (xs i).take k = fl apartF k i ∧ Blk W X 24 VS ∧ Chg W0 W (Ft V))
      case atStart => exact ⟨0, xs1, by omega, rfl, unhide ROWS, unhide LEN, unhide DONE, rfl, unhide XB, unhide BEL1⟩
      case round =>
        obtain ⟨k, xs2, hkq, rfl, hrows, hlen2, hdone, htake, hxb, hbel⟩ := hrel
        clear ROWS XB LEN BEL1 DONE
        have how := hrows.own i hi
        rw [hlen2] at how
        obtain ⟨Ai, ci, hVi⟩ := how.shape
        have cX : wr.cell? ⟨X, i, none⟩ = some (.slice Ai (ln i) ci) := by rw [← hVi]; exact (hxb.cell i).trans (unhide AT i hi)
        obtain ⟨li, hli⟩ : ∃ l, ln i = l := ⟨_, rfl⟩
        have hlN := unhide LN i hi
        rw [hli] at hlN
        have HLI := Lib.hid hli
        have hk0 : (0 : Int) ≤ (k : Int) := by omega
        by_cases hk : k < ln i
        · obtain ⟨q2, rfl⟩ : ∃ q, gk = q + 1 := ⟨gk - 1, by omega⟩
          obtain ⟨b, cap, hv, _, _⟩ := how.form (by omega)
          obtain ⟨va, hva⟩ : ∃ a, 37 * i = a := ⟨_, rfl⟩
          obtain ⟨vb, hvb⟩ : ∃ b, va + k = b := ⟨_, rfl⟩
          obtain ⟨vc, hvc⟩ : ∃ c, vb % 256 = c := ⟨_, rfl⟩
          have w1 : IntKind.i64.wrap (37 * (i : Int)) = (va : Int) := by rw [IntWalk.i64_in _ (by omega)]; omega
          have w2 : IntKind.i64.wrap ((va : Int) + (k : Int)) = (vb : Int) := by rw [IntWalk.i64_in _ (by omega)]; omega
          have w3 : IntKind.u8.wrap (vb : Int) = (vc : Int) := by rw [IntKind.wrap_u8]; omega
          have w4 : (vb : Int) % 256 = (vc : Int) := by omega
          have hfv : apartF i k = .int .u8 (vc : Int) := by rw [apartF, hva, hvb, hvc]
          have hst := hrows.store hi (hlen2 i) hv k (apartF i k)
          have hVb : (V i).ownBlock = some b := by rw [hv]; rfl
          rw [hv] at hVi how
          injection hVi with hA _ hc
          subst hA hc
          obtain ⟨c, hc⟩ : ∃ c, (xs2 i)[k]? = some c := ⟨_, List.getElem?_eq_getElem (by rw [hlen2]; exact hk)⟩
          have hcell : wr.cell? ⟨b, k, none⟩ = some c := by rw [how.cellAt hk, hc]
          have hf : wr.frozen? ⟨b, k, none⟩ = false := how.frozenAt k
          have hbX : b ≠ X := fun e => how.ne_blk hxb HNE.out (by rw [← e]; rfl)
          rw [hli] at cX
          have hkl : (k : Int) < (li : Int) := by omega
          have hi0 : (0 : Int) ≤ (i : Int) := by omega
          rw [hfv] at hst
          have HST := hide hst
          have LEN := hide hlen2
          have DONE := hide hdone
          have TAKE := hide htake
          have XB := hide hxb
          have BEL1 := hide hbel
          have HFV := Lib.hid hfv
          have HVB := Lib.hid hVb
          clear hst hlen2 hdone htake hxb hbel how hrows hc hli hv hfv hVb hva hvb hvc
          go_wp2_with fail
          go_roundg q2
          case rel =>
            refine ⟨k + 1, updV xs2 i ((xs2 i).set k (apartF i k)), by omega, by go_num, by rw [HFV.out]; exact unhide HST, fun i' => ?_, fun i' h1 => ?_, ?_, (unhide XB).far (fun e => hbX e.symm) _, (unhide BEL1).set_ ⟨b, k, none⟩ _ (fun _ => ⟨i, hi, HVB.out⟩)⟩
            · by_cases e : i' = i
              · subst e; rw [updV_same, List.length_set]; exact unhide LEN i'
              · rw [updV_ne _ _ e]; exact unhide LEN i'
            · rw [updV_ne _ _ (by omega)]; exact unhide DONE i' h1
            · rw [updV_same]; exact fl_set (by rw [unhide LEN i]; exact hk) (unhide TAKE)
          case measure => omega
        · obtain rfl : ln i = k := by omega
          rw [hli] at cX
          have hxe : xs2 i = fl apartF (ln i) i := by rw [← htake, List.take_of_length_le (by rw [hlen2]; exact Nat.le_refl _)]
          have HXE := Lib.hid hxe
          have HROWS := hide hrows
          have LEN := hide hlen2
          have DONE := hide hdone
          have XB := hide hxb
          have BEL1 := hide hbel
          have hi0 : (0 : Int) ≤ (i : Int) := by omega
          clear hlen2 hdone htake hxb hbel how hrows hxe hVi
          go_wp2_with fail
          go_roundg q
          case rel =>
            refine ⟨i + 1, xs2, by omega, by go_num, unhide HROWS, unhide LEN, fun i' h1 => ?_, unhide XB, unhide BEL1⟩
            by_cases e : i' = i
            · subst e; exact HXE.out
            · exact unhide DONE i' (by omega)
          case measure => omega
    · obtain rfl : i = 4 := by omega
      have hG0 : Gr0 5 24 apartF apartG Z X V VS ln W0 wr 0 (.slice none 0 0) (fun _ => .slice none 0 0) := by
        have hr : ∀ i', i' < 4 → Row wr 5 (V i') (ln i') (fl apartF (ln i') i') := fun i' h1 => by
          have := hrows.own i' h1
          rw [hlen1, hdone i' h1] at this
          exact this
        exact ⟨fun i' h1 => Sees.of_row (hr i' h1), fun i' _ h2 => hr i' h2, World.ownsRow_nil _ _ _ _, fun j hj => by omega, fun j hj => by omega, hxb, hbel, HZ.out⟩
      have HG0 := hide hG0
      clear hG0 hrows hlen1 hdone hxb hbel
      go_wp2_with fail
      go_loopg [5, 6] 4 (fun q t j W => ∃ (i : Nat) (G : Nat → Value), i + q = 4 ∧ j = .int .i64 (i : Int) ∧ Gr0 5 24 apartF apartG Z X V VS ln W0 W i t G)
      case atStart => exact ⟨0, _, by omega, rfl, unhide HG0⟩
      case round =>
        obtain ⟨i, G, hiq, rfl, hgr⟩ := hrel
        clear HG0
        by_cases hi : i < 4
        · obtain ⟨q, rfl⟩ : ∃ q, gk = q + 1 := ⟨gk - 1, by omega⟩
          have hi4 : (i : Int) < 4 := by omega
          have hi0 : (0 : Int) ≤ (i : Int) := by omega
          have hE := hgr.enter (unhide CST) hi
          obtain ⟨Ai, ci, hVi⟩ := hE.cur.shape
          rw [Nat.add_zero] at hVi
          obtain ⟨At, ct', rfl⟩ := hgr.trow.shape
          have cX : wr.cell? ⟨X, i, none⟩ = some (.slice Ai (ln i) ci) := by rw [← hVi]; exact (hgr.xb.cell i).trans (unhide AT i hi)
          rw [hVi] at hE
          have HE := hide hE
          clear hE hgr hVi
          go_wp2_with fail
          obtain ⟨wo, rfl⟩ : ∃ wo : World, wo = wr := ⟨_, rfl⟩
          go_loopg [7, 8] 40 (fun q l kk W => ∃ k : Nat, k + q = 40 ∧ kk = .int .i64 (k : Int) ∧ Gr 5 24 apartF apartG Z X V VS ln W0 W i k (.slice At i ct') G l)
          case atStart => exact ⟨0, by omega, rfl, unhide HE⟩
          case round =>
            obtain ⟨k, hkq, rfl, hgr⟩ := hrel
            clear HE cX
            obtain ⟨Al, cl, rfl⟩ := hgr.cur.shape
            by_cases hk : k < 40
            · obtain ⟨q2, rfl⟩ : ∃ q, gk = q + 1 := ⟨gk - 1, by omega⟩
              have hk40 : (k : Int) < 40 := by omega
              have hk0 : (0 : Int) ≤ (k : Int) := by omega
              obtain ⟨va, hva⟩ : ∃ a, 11 * i = a := ⟨_, rfl⟩
              obtain ⟨vb, hvb⟩ : ∃ b, 100 + va = b := ⟨_, rfl⟩
              obtain ⟨vd, hvd⟩ : ∃ b, vb + k = b := ⟨_, rfl⟩
              obtain ⟨vc, hvc⟩ : ∃ c, vd % 256 = c := ⟨_, rfl⟩
              have w1 : IntKind.i64.wrap (11 * (i : Int)) = (va : Int) := by rw [IntWalk.i64_in _ (by omega)]; omega
              have w2 : IntKind.i64.wrap (100 + (va : Int)) = (vb : Int) := by rw [IntWalk.i64_in _ (by omega)]; omega
              have w2' : IntKind.i64.wrap ((vb : Int) + (k : Int)) = (vd : Int) := by rw [IntWalk.i64_in _ (by omega)]; omega
              have w3 : IntKind.u8.wrap (vd : Int) = (vc : Int) := by rw [IntKind.wrap_u8]; omega
              have w4 : (vd : Int) % 256 = (vc : Int) := by omega
              have hgv : apartG i k = .int .u8 (vc : Int) := by rw [apartG, hva, hvb, hvd, hvc]
              have hcur := hgr.cur.below ((Below.refl wr.heap.size wr).alloc (Nat.le_refl _) (.cells #[.int .u8 (vc : Int)] 5))
              have hsrc : Src Try.prog 1 24 (.slice (some ⟨wr.heap.size, 0, none⟩) 1 1) 1 [.int .u8 (vc : Int)] (wr.alloc (.cells #[.int .u8 (vc : Int)] 5)) :=
                Src.ofSlice _ Try.underlying24 ⟨wr.heap.size, 0, none⟩ 1 1 _ rfl (fun j u' hu => by
                  match j, hu with
                  | 0, hu =>
                    simp at hu
                    subst hu
                    simp [Addr.add, World.cell?_alloc_at]) (fun u' hu => by
                  simp at hu
                  subst hu
                  rfl)
              have hlN := unhide LN i hi
              obtain ⟨li, hli⟩ : ∃ l, ln i + k = l := ⟨_, rfl⟩
              have hcur2 := hcur
              rw [hli] at hcur2 ⊢
              have HLI := Lib.hid hli
              have HC1 : Hid (li + 1 ≤ maxLen ∧ (li + 1) * 1 ≤ 140737488355328) := cap1 (by omega)
              have HGR := hide hgr
              have HCUR := hide hcur2
              have HSRC := hide hsrc
              have HGV := Lib.hid hgv
              clear hgr hcur hcur2 hsrc hlN hgv hva hvb hvc hvd hli
              go_wp2_with (first
                | (at_builtin
                   refine wpList_app_row _ rfl (.tmp 53) (.tmp 60) 24 24 rfl elem_u8 (.slice Al li cl) li (ct apartF apartG (ln i) i k) rfl (unhide HCUR) _ (.int .u8 (vc : Int)) rfl (unhide HSRC) HC1.out ?_
                   intro v2 w2 ho2 how2
                   have HO2 := hide ho2
                   have HOW2 := hide how2
                   clear ho2 how2))
              go_roundg q2
              case rel =>
                refine ⟨k + 1, by omega, by go_num, (unhide HGR).step (unhide CST) hi HNE.out ?_ ?_⟩
                · rw [HGV.out, HLI.out]; exact unhide HO2
                · rw [HGV.out, HLI.out]; exact unhide HOW2
              case measure => omega
            · obtain rfl : k = 40 := by omega
              have HC2 : Hid (i + 1 ≤ maxLen ∧ (i + 1) * 24 ≤ 140737488355328) := cap24 (by omega)
              have hz : Z ≤ wr.heap.size := by have := hgr.chg.size; have := HZ.out; omega
              have HT := hide hgr.trow
              obtain ⟨li, hli⟩ : ∃ l, ln i + 40 = l := ⟨_, rfl⟩
              rw [hli] at hgr ⊢
              have HGR := hide hgr
              clear hgr hli
              go_wp2_with (first
                | (at_builtin
                   refine wpList_app1 wr rfl (.tmp 62) (.tmp 64) 51 rfl elem_slb Z (.slice At i ct') i ((List.range i).map G) rfl (unhide HT) (.slice Al li cl) wr.heap.size rfl rfl rfl HC2.out hz ?_
                   intro v4 w4 ho4 hg4 hr4
                   have HO4 := hide ho4
                   have HG4 := hide hg4
                   clear ho4 hg4 hr4))
              go_roundg q
              case rel => exact ⟨i + 1, _, by omega, by go_num, (unhide HGR).leave (unhide CST) hi HNE.out (unhide HO4) (unhide HG4)⟩
              case measure => omega
        · obtain rfl : i = 4 := by omega
          have hrow := hgr.trow
          obtain ⟨Y, cY, rfl, _, _⟩ := hrow.form (by omega)
          have hcY : ∀ j, j < 4 → wr.cell? ⟨Y, j, none⟩ = some (G j) := fun j hj => by
            rw [hrow.cellAt j (by omega), List.getElem?_map, List.getElem?_range hj]; rfl
          have HCY := hide hcY
          have HGOT := hide hgr.got
          have HOLD := hide hgr.old
          have HXB := hide hgr.xb
          have HCHG := hide hgr.chg
          clear hgr hrow hcY
          go_wp2_with fail
          obtain ⟨wf, rfl⟩ : ∃ wf : World, wf = wr := ⟨_, rfl⟩
          go_loopg [9] 4 (fun q t W => ∃ i m : Nat, i + q = 4 ∧ t = .int .i64 (i : Int) ∧ W = wf.drewN m)
          case atStart => exact ⟨0, 0, by omega, rfl, rfl⟩
          case round =>
            obtain ⟨i, m0, hiq, rfl, rfl⟩ := hrel
            by_cases hi : i < 4
            · obtain ⟨q, rfl⟩ : ∃ q, gk = q + 1 := ⟨gk - 1, by omega⟩
              have hi4 : (i : Int) < 4 := by omega
              have hi0 : (0 : Int) ≤ (i : Int) := by omega
              have hG := unhide HGOT i hi
              have hV := unhide HOLD i hi
              obtain ⟨Bj, cj, hGj⟩ := hG.shape
              obtain ⟨Ai, ci, hVi⟩ := hV.shape
              rw [ct_len] at hGj
              rw [fl_len] at hVi
              obtain ⟨li, hli⟩ : ∃ l, ln i = l := ⟨_, rfl⟩
              have hlN := unhide LN i hi
              rw [hli] at hVi hGj hG hV hlN
              obtain ⟨lj, hlj⟩ : ∃ l, li + 40 = l := ⟨_, rfl⟩
              rw [hlj] at hGj
              have cY' : ∀ m, (wf.drewN m).cell? ⟨Y, i, none⟩ = some (.slice Bj lj cj) := fun m => by rw [← hGj]; exact unhide HCY i hi
              have cX : ∀ m, (wf.drewN m).cell? ⟨X, i, none⟩ = some (.slice Ai li ci) := fun m => by rw [← hVi]; exact ((unhide HXB).cell i).trans (unhide AT i hi)
              have HGI := hide hG
              have HVI := hide hV
              have HGJ := Lib.hid hGj
              have HVJ := Lib.hid hVi
              clear hG hV hGj hVi hli
              go_wp2_with fail
              go_loopg [11] li (fun q t W => ∃ k m : Nat, k + q = li ∧ t = .int .i64 (k : Int) ∧ W = wf.drewN m)
              case atStart => exact ⟨0, _, by omega, rfl, rfl⟩
              case round =>
                obtain ⟨k, m1, hkq, rfl, rfl⟩ := hrel
                by_cases hk : k < li
                · obtain ⟨q2, rfl⟩ : ∃ q, gk = q + 1 := ⟨gk - 1, by omega⟩
                  have hkI : (k : Int) < (li : Int) := by omega
                  have hkJ : (k : Int) < (lj : Int) := by omega
                  have hk0 : (0 : Int) ≤ (k : Int) := by omega
                  obtain ⟨va, hva⟩ : ∃ a, 37 * i = a := ⟨_, rfl⟩
                  obtain ⟨vb, hvb⟩ : ∃ b, va + k = b := ⟨_, rfl⟩
                  obtain ⟨vc, hvc⟩ : ∃ c, vb % 256 = c := ⟨_, rfl⟩
                  have w1 : IntKind.i64.wrap (37 * (i : Int)) = (va : Int) := by rw [IntWalk.i64_in _ (by omega)]; omega
                  have w2 : IntKind.i64.wrap ((va : Int) + (k : Int)) = (vb : Int) := by rw [IntWalk.i64_in _ (by omega)]; omega
                  have w3 : IntKind.u8.wrap (vb : Int) = (vc : Int) := by rw [IntKind.wrap_u8]; omega
                  have w4 : (vb : Int) % 256 = (vc : Int) := by omega
                  have hfv : apartF i k = .int .u8 (vc : Int) := by rw [apartF, hva, hvb, hvc]
                  obtain ⟨b1, rfl, hc1⟩ := (unhide HVI).cell HVJ.out (fl_at (fv := apartF) (i := i) hk)
                  obtain ⟨b2, rfl, hc2⟩ := (unhide HGI).cell HGJ.out (ct_front (fv := apartF) (gv := apartG) (i := i) (k := 40) hk)
                  rw [hfv] at hc1 hc2
                  have hd1 : ∀ m, (wf.drewN m).cell? ⟨b1, k, none⟩ = some (.int .u8 (vc : Int)) := fun m => hc1
                  have hd2 : ∀ m, (wf.drewN m).cell? ⟨b2, k, none⟩ = some (.int .u8 (vc : Int)) := fun m => hc2
                  clear hc1 hc2 hva hvb hvc hfv
                  go_wp2_with fail
                  try (go_quiet (fail); go_wp2_with fail)
                  go_roundg q2
                  case rel => exact ⟨k + 1, _, by omega, by go_num, by first | rfl | (rw [World.drewN_drewN])⟩
                  case measure => omega
                · obtain rfl : li = k := by omega
                  go_wp2_with fail
                  go_loopg [12] 40 (fun q t W => ∃ k m : Nat, k + q = 40 ∧ t = .int .i64 (k : Int) ∧ W = wf.drewN m)
                  case atStart => exact ⟨0, _, by omega, rfl, rfl⟩
                  case round =>
                    obtain ⟨k, m2, hkq, rfl, rfl⟩ := hrel
                    by_cases hk : k < 40
                    · obtain ⟨q2, rfl⟩ : ∃ q, gk = q + 1 := ⟨gk - 1, by omega⟩
                      have hk40 : (k : Int) < 40 := by omega
                      have hk0 : (0 : Int) ≤ (k : Int) := by omega
                      obtain ⟨va, hva⟩ : ∃ a, 11 * i = a := ⟨_, rfl⟩
                      obtain ⟨vb, hvb⟩ : ∃ b, 100 + va = b := ⟨_, rfl⟩
                      obtain ⟨vd, hvd⟩ : ∃ b, vb + k = b := ⟨_, rfl⟩
                      obtain ⟨vc, hvc⟩ : ∃ c, vd % 256 = c := ⟨_, rfl⟩
                      have w1 : IntKind.i64.wrap (11 * (i : Int)) = (va : Int) := by rw [IntWalk.i64_in _ (by omega)]; omega
                      have w2 : IntKind.i64.wrap (100 + (va : Int)) = (vb : Int) := by rw [IntWalk.i64_in _ (by omega)]; omega
                      have w2' : IntKind.i64.wrap ((vb : Int) + (k : Int)) = (vd : Int) := by rw [IntWalk.i64_in _ (by omega)]; omega
                      have w3 : IntKind.u8.wrap (vd : Int) = (vc : Int) := by rw [IntKind.wrap_u8]; omega
                      have w4 : (vd : Int) % 256 = (vc : Int) := by omega
                      have hgv : apartG i k = .int .u8 (vc : Int) := by rw [apartG, hva, hvb, hvd, hvc]
                      obtain ⟨sk, hsk⟩ : ∃ s, li + k = s := ⟨_, rfl⟩
                      have w5 : IntKind.i64.wrap ((li : Int) + (k : Int)) = (sk : Int) := by rw [IntWalk.i64_in _ (by omega)]; omega
                      have hskJ : (sk : Int) < (lj : Int) := by omega
                      have hsk0 : (0 : Int) ≤ (sk : Int) := by omega
                      obtain ⟨b2, rfl, hc2⟩ := (unhide HGI).cell HGJ.out (ct_back (fv := apartF) (gv := apartG) (n := li) (i := i) (k := 40) hk)
                      rw [hgv, hsk] at hc2
                      have hd2 : ∀ m, (wf.drewN m).cell? ⟨b2, sk, none⟩ = some (.int .u8 (vc : Int)) := fun m => hc2
                      clear hc2 hva hvb hvc hvd hgv hsk
                      go_wp2_with fail
                      go_roundg q2
                      case rel => exact ⟨k + 1, _, by omega, by go_num, by first | rfl | (rw [World.drewN_drewN])⟩
                      case measure => omega
                    · obtain rfl : k = 40 := by omega
                      go_wp2_with fail
                      go_roundg q
                      case rel => exact ⟨i + 1, _, by omega, by go_num, by first | rfl | (rw [World.drewN_drewN])⟩
                      case measure => omega
            · obtain rfl : i = 4 := by omega
              go_wp2_with fail
              go_ret
              exact ⟨rfl, ⟨(unhide HCHG).os, (unhide HCHG).tape, (unhide HCHG).output, (unhide HCHG).size, (unhide HCHG).block⟩⟩

def numbersApartF (i k : Nat) : Value := .int .u32 (((10000 * i + k) % 4294967296 : Nat) : Int)
def numbersApartG (i k : Nat) : Value := .int .u32 (((900000 + 10000 * i + k) % 4294967296 : Nat) : Int)
set_option maxRecDepth 100000 in
set_option maxHeartbeats 2000000 in
theorem numbersApart_any (X : Nat) (V : Nat → Value) (VS : Array Value) (ln : Nat → Nat) (xs0 : Nat → List Value) (W0 : World) (hrows0 : Rws 40 W0 V xs0) (hlen0 : ∀ i, (xs0 i).length = ln i) (hln : ∀ i, i < 4 → ln i ≤ 1000000)
    (hat : ∀ i, i < 4 → VS[i]? = some (V i)) (hxb0 : Blk W0 X 22 VS) :
    Calls Try.prog 29 #[.slice (some ⟨X, 0, none⟩) 4 4] W0 fun e W' => e = .returned (.bool true) ∧ Chg W0 W' (Ft V) := by
  have hne : 40 ≠ 22 := by decide
  obtain ⟨Z, hZ⟩ : ∃ Z, W0.heap.size = Z := ⟨_, rfl⟩
  have hCst : Cst Z X V VS := ⟨hrows0.apart, fun i hi b hb => by rw [← hZ]; exact (hrows0.own i hi).lt hb, hat, by rw [← hZ]; exact hxb0.lt⟩
  have CST := hide hCst
  have ROWS := hide hrows0
  have LEN := hide hlen0
  have XB := hide hxb0
  have LN := hide hln
  have AT := hide hat
  have HZ := Lib.hid hZ
  have HNE := Lib.hid hne
  clear hrows0 hlen0 hln hat hxb0 hCst hZ hne
  go_enter Try.func29, Try.ntmps29
  go_wp2_with fail
  go_loopg [3] 4 (fun q t W => ∃ (i : Nat) (xs : Nat → List Value), i + q = 4 ∧ t = .int .i64 (i : Int) ∧ Rws 40 W V xs ∧ (∀ i, (xs i).length = ln i) ∧ (∀ i', i' < i → xs i' = fl numbersApartF (ln i') i') ∧ Blk W X 22 VS ∧ Chg W0 W (Ft V))
  case atStart => exact ⟨0, xs0, by omega, rfl, unhide ROWS, unhide LEN, fun i' h => by omega, unhide XB, Chg.refl _ _⟩
  case round =>
    obtain ⟨i, xs1, hiq, rfl, hrows, hlen1, hdone, hxb, hbel⟩ := hrel
    clear ROWS XB LEN
    by_cases hi : i < 4
    · obtain ⟨q, rfl⟩ : ∃ q, gk = q + 1 := ⟨gk - 1, by omega⟩
      have hi4 : (i : Int) < 4 := by omega
      have ROWS := hide hrows
      have LEN := hide hlen1
      have DONE := hide hdone
      have XB := hide hxb
      have BEL1 := hide hbel
      clear hrows hlen1 hdone hxb hbel
      go_wp2_with fail
      obtain ⟨wo, rfl⟩ : ∃ wo : World, wo = wr := ⟨_, rfl⟩
      go_loopg [4] (ln i) (fun q t W => ∃ (k : Nat) (xs : Nat → List Value), k + q = ln i ∧ t = .int .i64 (k : Int) ∧ Rws 40 W V xs ∧ (∀ i, (xs i).length = ln i) ∧ (∀ i', i' < i → xs i' = fl numbersApartF (ln i') i') ∧ (xs i).take k = fl numbersApartF k i ∧ Blk W X 22 VS ∧ Chg W0 W (Ft V))
      case atStart => exact ⟨0, xs1, by omega, rfl, unhide ROWS, unhide LEN, unhide DONE, rfl, unhide XB, unhide BEL1⟩
      case round =>
        obtain ⟨k, xs2, hkq, rfl, hrows, hlen2, hdone, htake, hxb, hbel⟩ := hrel
        clear ROWS XB LEN BEL1 DONE
        have how := hrows.own i hi
        rw [hlen2] at how
        obtain ⟨Ai, ci, hVi⟩ := how.shape
        have cX : wr.cell? ⟨X, i, none⟩ = some (.slice Ai (ln i) ci) := by rw [← hVi]; exact (hxb.cell i).trans (unhide AT i hi)
        obtain ⟨li, hli⟩ : ∃ l, ln i = l := ⟨_, rfl⟩
        have hlN := unhide LN i hi
        rw [hli] at hlN
        have HLI := Lib.hid hli
        have hk0 : (0 : Int) ≤ (k : Int) := by omega
        by_cases hk : k < ln i
        · obtain ⟨q2, rfl⟩ : ∃ q, gk = q + 1 := ⟨gk - 1, by omega⟩
          obtain ⟨b, cap, hv, _, _⟩ := how.form (by omega)
          obtain ⟨va, hva⟩ : ∃ a, 10000 * i = a := ⟨_, rfl⟩
          obtain ⟨vb, hvb⟩ : ∃ b, va + k = b := ⟨_, rfl⟩
          obtain ⟨vc, hvc⟩ : ∃ c, vb % 4294967296 = c := ⟨_, rfl⟩
          have w1 : IntKind.i64.wrap (10000 * (i : Int)) = (va : Int) := by rw [IntWalk.i64_in _ (by omega)]; omega
          have w2 : IntKind.i64.wrap ((va : Int) + (k : Int)) = (vb : Int) := by rw [IntWalk.i64_in _ (by omega)]; omega
          have w3 : IntKind.u32.wrap (vb : Int) = (vc : Int) := by rw [IntKind.wrap_u32]; omega
          have w4 : (vb : Int) % 4294967296 = (vc : Int) := by omega
          have hfv : numbersApartF i k = .int .u32 (vc : Int) := by rw [numbersApartF, hva, hvb, hvc]
          have hst := hrows.store hi (hlen2 i) hv k (numbersApartF i k)
          have hVb : (V i).ownBlock = some b := by rw [hv]; rfl
          rw [hv] at hVi how
          injection hVi with hA _ hc
          subst hA hc
          obtain ⟨c, hc⟩ : ∃ c, (xs2 i)[k]? = some c := ⟨_, List.getElem?_eq_getElem (by rw [hlen2]; exact hk)⟩
          have hcell : wr.cell? ⟨b, k, none⟩ = some c := by rw [how.cellAt hk, hc]
          have hf : wr.frozen? ⟨b, k, none⟩ = false := how.frozenAt k
          have hbX : b ≠ X := fun e => how.ne_blk hxb HNE.out (by rw [← e]; rfl)
          rw [hli] at cX
          have hkl : (k : Int) < (li : Int) := by omega
          have hi0 : (0 : Int) ≤ (i : Int) := by omega
          rw [hfv] at hst
          have HST := hide hst
          have LEN := hide hlen2
          have DONE := hide hdone
          have TAKE := hide htake
          have XB := hide hxb
          have BEL1 := hide hbel
          have HFV := Lib.hid hfv
          have HVB := Lib.hid hVb
          clear hst hlen2 hdone htake hxb hbel how hrows hc hli hv hfv hVb hva hvb hvc
          go_wp2_with fail
          go_roundg q2
          case rel =>
            refine ⟨k + 1, updV xs2 i ((xs2 i).set k (numbersApartF i k)), by omega, by go_num, by rw [HFV.out]; exact unhide HST, fun i' => ?_, fun i' h1 => ?_, ?_, (unhide XB).far (fun e => hbX e.symm) _, (unhide BEL1).set_ ⟨b, k, none⟩ _ (fun _ => ⟨i, hi, HVB.out⟩)⟩
            · by_cases e : i' = i
              · subst e; rw [updV_same, List.length_set]; exact unhide LEN i'
              · rw [updV_ne _ _ e]; exact unhide LEN i'
            · rw [updV_ne _ _ (by omega)]; exact unhide DONE i' h1
            · rw [updV_same]; exact fl_set (by rw [unhide LEN i]; exact hk) (unhide TAKE)
          case measure => omega
        · obtain rfl : ln i = k := by omega
          rw [hli] at cX
          have hxe : xs2 i = fl numbersApartF (ln i) i := by rw [← htake, List.take_of_length_le (by rw [hlen2]; exact Nat.le_refl _)]
          have HXE := Lib.hid hxe
          have HROWS := hide hrows
          have LEN := hide hlen2
          have DONE := hide hdone
          have XB := hide hxb
          have BEL1 := hide hbel
          have hi0 : (0 : Int) ≤ (i : Int) := by omega
          clear hlen2 hdone htake hxb hbel how hrows hxe hVi
          go_wp2_with fail
          go_roundg q
          case rel =>
            refine ⟨i + 1, xs2, by omega, by go_num, unhide HROWS, unhide LEN, fun i' h1 => ?_, unhide XB, unhide BEL1⟩
            by_cases e : i' = i
            · subst e; exact HXE.out
            · exact unhide DONE i' (by omega)
          case measure => omega
    · obtain rfl : i = 4 := by omega
      have hG0 : Gr0 40 22 numbersApartF numbersApartG Z X V VS ln W0 wr 0 (.slice none 0 0) (fun _ => .slice none 0 0) := by
        have hr : ∀ i', i' < 4 → Row wr 40 (V i') (ln i') (fl numbersApartF (ln i') i') := fun i' h1 => by
          have := hrows.own i' h1
          rw [hlen1, hdone i' h1] at this
          exact this
        exact ⟨fun i' h1 => Sees.of_row (hr i' h1), fun i' _ h2 => hr i' h2, World.ownsRow_nil _ _ _ _, fun j hj => by omega, fun j hj => by omega, hxb, hbel, HZ.out⟩
      have HG0 := hide hG0
      clear hG0 hrows hlen1 hdone hxb hbel
      go_wp2_with fail
      go_loopg [5, 6] 4 (fun q t j W => ∃ (i : Nat) (G : Nat → Value), i + q = 4 ∧ j = .int .i64 (i : Int) ∧ Gr0 40 22 numbersApartF numbersApartG Z X V VS ln W0 W i t G)
      case atStart => exact ⟨0, _, by omega, rfl, unhide HG0⟩
      case round =>
        obtain ⟨i, G, hiq, rfl, hgr⟩ := hrel
        clear HG0
        by_cases hi : i < 4
        · obtain ⟨q, rfl⟩ : ∃ q, gk = q + 1 := ⟨gk - 1, by omega⟩
          have hi4 : (i : Int) < 4 := by omega
          have hi0 : (0 : Int) ≤ (i : Int) := by omega
          have hE := hgr.enter (unhide CST) hi
          obtain ⟨Ai, ci, hVi⟩ := hE.cur.shape
          rw [Nat.add_zero] at hVi
          obtain ⟨At, ct', rfl⟩ := hgr.trow.shape
          have cX : wr.cell? ⟨X, i, none⟩ = some (.slice Ai (ln i) ci) := by rw [← hVi]; exact (hgr.xb.cell i).trans (unhide AT i hi)
          rw [hVi] at hE
          have HE := hide hE
          clear hE hgr hVi
          go_wp2_with fail
          obtain ⟨wo, rfl⟩ : ∃ wo : World, wo = wr := ⟨_, rfl⟩
          go_loopg [7, 8] 40 (fun q l kk W => ∃ k : Nat, k + q = 40 ∧ kk = .int .i64 (k : Int) ∧ Gr 40 22 numbersApartF numbersApartG Z X V VS ln W0 W i k (.slice At i ct') G l)
          case atStart => exact ⟨0, by omega, rfl, unhide HE⟩
          case round =>
            obtain ⟨k, hkq, rfl, hgr⟩ := hrel
            clear HE cX
            obtain ⟨Al, cl, rfl⟩ := hgr.cur.shape
            by_cases hk : k < 40
            · obtain ⟨q2, rfl⟩ : ∃ q, gk = q + 1 := ⟨gk - 1, by omega⟩
              have hk40 : (k : Int) < 40 := by omega
              have hk0 : (0 : Int) ≤ (k : Int) := by omega
              obtain ⟨va, hva⟩ : ∃ a, 10000 * i = a := ⟨_, rfl⟩
              obtain ⟨vb, hvb⟩ : ∃ b, 900000 + va = b := ⟨_, rfl⟩
              obtain ⟨vd, hvd⟩ : ∃ b, vb + k = b := ⟨_, rfl⟩
              obtain ⟨vc, hvc⟩ : ∃ c, vd % 4294967296 = c := ⟨_, rfl⟩
              have w1 : IntKind.i64.wrap (10000 * (i : Int)) = (va : Int) := by rw [IntWalk.i64_in _ (by omega)]; omega
              have w2 : IntKind.i64.wrap (900000 + (va : Int)) = (vb : Int) := by rw [IntWalk.i64_in _ (by omega)]; omega
              have w2' : IntKind.i64.wrap ((vb : Int) + (k : Int)) = (vd : Int) := by rw [IntWalk.i64_in _ (by omega)]; omega
              have w3 : IntKind.u32.wrap (vd : Int) = (vc : Int) := by rw [IntKind.wrap_u32]; omega
              have w4 : (vd : Int) % 4294967296 = (vc : Int) := by omega
              have hgv : numbersApartG i k = .int .u32 (vc : Int) := by rw [numbersApartG, hva, hvb, hvd, hvc]
              have hcur := hgr.cur.below ((Below.refl wr.heap.size wr).alloc (Nat.le_refl _) (.cells #[.int .u32 (vc : Int)] 40))
              have hsrc : Src Try.prog 1 22 (.slice (some ⟨wr.heap.size, 0, none⟩) 1 1) 1 [.int .u32 (vc : Int)] (wr.alloc (.cells #[.int .u32 (vc : Int)] 40)) :=
                Src.ofSlice _ Try.underlying22 ⟨wr.heap.size, 0, none⟩ 1 1 _ rfl (fun j u' hu => by
                  match j, hu with
                  | 0, hu =>
                    simp at hu
                    subst hu
                    simp [Addr.add, World.cell?_alloc_at]) (fun u' hu => by
                  simp at hu
                  subst hu
                  rfl)
              have hlN := unhide LN i hi
              obtain ⟨li, hli⟩ : ∃ l, ln i + k = l := ⟨_, rfl⟩
              have hcur2 := hcur
              rw [hli] at hcur2 ⊢
              have HLI := Lib.hid hli
              have HC1 : Hid (li + 1 ≤ maxLen ∧ (li + 1) * 4 ≤ 140737488355328) := cap4 (by omega)
              have HGR := hide hgr
              have HCUR := hide hcur2
              have HSRC := hide hsrc
              have HGV := Lib.hid hgv
              clear hgr hcur hcur2 hsrc hlN hgv hva hvb hvc hvd hli
              go_wp2_with (first
                | (at_builtin
                   refine wpList_app_row _ rfl (.tmp 53) (.tmp 60) 22 22 rfl elem_u32 (.slice Al li cl) li (ct numbersApartF numbersApartG (ln i) i k) rfl (unhide HCUR) _ (.int .u32 (vc : Int)) rfl (unhide HSRC) HC1.out ?_
                   intro v2 w2 ho2 how2
                   have HO2 := hide ho2
                   have HOW2 := hide how2
                   clear ho2 how2))
              go_roundg q2
              case rel =>
                refine ⟨k + 1, by omega, by go_num, (unhide HGR).step (unhide CST) hi HNE.out ?_ ?_⟩
                · rw [HGV.out, HLI.out]; exact unhide HO2
                · rw [HGV.out, HLI.out]; exact unhide HOW2
              case measure => omega
            · obtain rfl : k = 40 := by omega
              have HC2 : Hid (i + 1 ≤ maxLen ∧ (i + 1) * 24 ≤ 140737488355328) := cap24 (by omega)
              have hz : Z ≤ wr.heap.size := by have := hgr.chg.size; have := HZ.out; omega
              have HT := hide hgr.trow
              obtain ⟨li, hli⟩ : ∃ l, ln i + 40 = l := ⟨_, rfl⟩
              rw [hli] at hgr ⊢
              have HGR := hide hgr
              clear hgr hli
              go_wp2_with (first
                | (at_builtin
                   refine wpList_app1 wr rfl (.tmp 62) (.tmp 64) 53 rfl elem_slw Z (.slice At i ct') i ((List.range i).map G) rfl (unhide HT) (.slice Al li cl) wr.heap.size rfl rfl rfl HC2.out hz ?_
                   intro v4 w4 ho4 hg4 hr4
                   have HO4 := hide ho4
                   have HG4 := hide hg4
                   clear ho4 hg4 hr4))
              go_roundg q
              case rel => exact ⟨i + 1, _, by omega, by go_num, (unhide HGR).leave (unhide CST) hi HNE.out (unhide HO4) (unhide HG4)⟩
              case measure => omega
        · obtain rfl : i = 4 := by omega
          have hrow := hgr.trow
          obtain ⟨Y, cY, rfl, _, _⟩ := hrow.form (by omega)
          have hcY : ∀ j, j < 4 → wr.cell? ⟨Y, j, none⟩ = some (G j) := fun j hj => by
            rw [hrow.cellAt j (by omega), List.getElem?_map, List.getElem?_range hj]; rfl
          have HCY := hide hcY
          have HGOT := hide hgr.got
          have HOLD := hide hgr.old
          have HXB := hide hgr.xb
          have HCHG := hide hgr.chg
          clear hgr hrow hcY
          go_wp2_with fail
          obtain ⟨wf, rfl⟩ : ∃ wf : World, wf = wr := ⟨_, rfl⟩
          go_loopg [9] 4 (fun q t W => ∃ i m : Nat, i + q = 4 ∧ t = .int .i64 (i : Int) ∧ W = wf.drewN m)
          case atStart => exact ⟨0, 0, by omega, rfl, rfl⟩
          case round =>
            obtain ⟨i, m0, hiq, rfl, rfl⟩ := hrel
            by_cases hi : i < 4
            · obtain ⟨q, rfl⟩ : ∃ q, gk = q + 1 := ⟨gk - 1, by omega⟩
              have hi4 : (i : Int) < 4 := by omega
              have hi0 : (0 : Int) ≤ (i : Int) := by omega
              have hG := unhide HGOT i hi
              have hV := unhide HOLD i hi
              obtain ⟨Bj, cj, hGj⟩ := hG.shape
              obtain ⟨Ai, ci, hVi⟩ := hV.shape
              rw [ct_len] at hGj
              rw [fl_len] at hVi
              obtain ⟨li, hli⟩ : ∃ l, ln i = l := ⟨_, rfl⟩
              have hlN := unhide LN i hi
              rw [hli] at hVi hGj hG hV hlN
              obtain ⟨lj, hlj⟩ : ∃ l, li + 40 = l := ⟨_, rfl⟩
              rw [hlj] at hGj
              have cY' : ∀ m, (wf.drewN m).cell? ⟨Y, i, none⟩ = some (.slice Bj lj cj) := fun m => by rw [← hGj]; exact unhide HCY i hi
              have cX : ∀ m, (wf.drewN m).cell? ⟨X, i, none⟩ = some (.slice Ai li ci) := fun m => by rw [← hVi]; exact ((unhide HXB).cell i).trans (unhide AT i hi)
              have HGI := hide hG
              have HVI := hide hV
              have HGJ := Lib.hid hGj
              have HVJ := Lib.hid hVi
              clear hG hV hGj hVi hli
              go_wp2_with fail
              go_loopg [11] li (fun q t W => ∃ k m : Nat, k + q = li ∧ t = .int .i64 (k : Int) ∧ W = wf.drewN m)
              case atStart => exact ⟨0, _, by omega, rfl, rfl⟩
              case round =>
                obtain ⟨k, m1, hkq, rfl, rfl⟩ := hrel
                by_cases hk : k < li
                · obtain ⟨q2, rfl⟩ : ∃ q, gk = q + 1 := ⟨gk - 1, by omega⟩
                  have hkI : (k : Int) < (li : Int) := by omega
                  have hkJ : (k : Int) < (lj : Int) := by omega
                  have hk0 : (0 : Int) ≤ (k : Int) := by omega
                  obtain ⟨va, hva⟩ : ∃ a, 10000 * i = a := ⟨_, rfl⟩
                  obtain ⟨vb, hvb⟩ : ∃ b, va + k = b := ⟨_, rfl⟩
                  obtain ⟨vc, hvc⟩ : ∃ c, vb % 4294967296 = c := ⟨_, rfl⟩
                  have w1 : IntKind.i64.wrap (10000 * (i : Int)) = (va : Int) := by rw [IntWalk.i64_in _ (by omega)]; omega
                  have w2 : IntKind.i64.wrap ((va : Int) + (k : Int)) = (vb : Int) := by rw [IntWalk.i64_in _ (by omega)]; omega
                  have w3 : IntKind.u32.wrap (vb : Int) = (vc : Int) := by rw [IntKind.wrap_u32]; omega
                  have w4 : (vb : Int) % 4294967296 = (vc : Int) := by omega
                  have hfv : numbersApartF i k = .int .u32 (vc : Int) := by rw [numbersApartF, hva, hvb, hvc]
                  obtain ⟨b1, rfl, hc1⟩ := (unhide HVI).cell HVJ.out (fl_at (fv := numbersApartF) (i := i) hk)
                  obtain ⟨b2, rfl, hc2⟩ := (unhide HGI).cell HGJ.out (ct_front (fv := numbersApartF) (gv := numbersApartG) (i := i) (k := 40) hk)
                  rw [hfv] at hc1 hc2
                  have hd1 : ∀ m, (wf.drewN m).cell? ⟨b1, k, none⟩ = some (.int .u32 (vc : Int)) := fun m => hc1
                  have hd2 : ∀ m, (wf.drewN m).cell? ⟨b2, k, none⟩ = some (.int .u32 (vc : Int)) := fun m => hc2
                  clear hc1 hc2 hva hvb hvc hfv
                  go_wp2_with fail
                  try (go_quiet (fail); go_wp2_with fail)
                  go_roundg q2
                  case rel => exact ⟨k + 1, _, by omega, by go_num, by first | rfl | (rw [World.drewN_drewN])⟩
                  case measure => omega
                · obtain rfl : li = k := by omega
                  go_wp2_with fail
                  go_loopg [12] 40 (fun q t W => ∃ k m : Nat, k + q = 40 ∧ t = .int .i64 (k : Int) ∧ W = wf.drewN m)
                  case atStart => exact ⟨0, _, by omega, rfl, rfl⟩
                  case round =>
                    obtain ⟨k, m2, hkq, rfl, rfl⟩ := hrel
                    by_cases hk : k < 40
                    · obtain ⟨q2, rfl⟩ : ∃ q, gk = q + 1 := ⟨gk - 1, by omega⟩
                      have hk40 : (k : Int) < 40 := by omega
                      have hk0 : (0 : Int) ≤ (k : Int) := by omega
                      obtain ⟨va, hva⟩ : ∃ a, 10000 * i = a := ⟨_, rfl⟩
                      obtain ⟨vb, hvb⟩ : ∃ b, 900000 + va = b := ⟨_, rfl⟩
                      obtain ⟨vd, hvd⟩ : ∃ b, vb + k = b := ⟨_, rfl⟩
                      obtain ⟨vc, hvc⟩ : ∃ c, vd % 4294967296 = c := ⟨_, rfl⟩
                      have w1 : IntKind.i64.wrap (10000 * (i : Int)) = (va : Int) := by rw [IntWalk.i64_in _ (by omega)]; omega
                      have w2 : IntKind.i64.wrap (900000 + (va : Int)) = (vb : Int) := by rw [IntWalk.i64_in _ (by omega)]; omega
                      have w2' : IntKind.i64.wrap ((vb : Int) + (k : Int)) = (vd : Int) := by rw [IntWalk.i64_in _ (by omega)]; omega
                      have w3 : IntKind.u32.wrap (vd : Int) = (vc : Int) := by rw [IntKind.wrap_u32]; omega
                      have w4 : (vd : Int) % 4294967296 = (vc : Int) := by omega
                      have hgv : numbersApartG i k = .int .u32 (vc : Int) := by rw [numbersApartG, hva, hvb, hvd, hvc]
                      obtain ⟨sk, hsk⟩ : ∃ s, li + k = s := ⟨_, rfl⟩
                      have w5 : IntKind.i64.wrap ((li : Int) + (k : Int)) = (sk : Int) := by rw [IntWalk.i64_in _ (by omega)]; omega
                      have hskJ : (sk : Int) < (lj : Int) := by omega
                      have hsk0 : (0 : Int) ≤ (sk : Int) := by omega
                      obtain ⟨b2, rfl, hc2⟩ := (unhide HGI).cell HGJ.out (ct_back (fv := numbersApartF) (gv := numbersApartG) (n := li) (i := i) (k := 40) hk)
                      rw [hgv, hsk] at hc2
                      have hd2 : ∀ m, (wf.drewN m).cell? ⟨b2, sk, none⟩ = some (.int .u32 (vc : Int)) := fun m => hc2
                      clear hc2 hva hvb hvc hvd hgv hsk
                      go_wp2_with fail
                      go_roundg q2
                      case rel => exact ⟨k + 1, _, by omega, by go_num, by first | rfl | (rw [World.drewN_drewN])⟩
                      case measure => omega
                    · obtain rfl : k = 40 := by omega
                      go_wp2_with fail
                      go_roundg q
                      case rel => exact ⟨i + 1, _, by omega, by go_num, by first | rfl | (rw [World.drewN_drewN])⟩
                      case measure => omega
            · obtain rfl : i = 4 := by omega
              go_wp2_with fail
              go_ret
              exact ⟨rfl, ⟨(unhide HCHG).os, (unhide HCHG).tape, (unhide HCHG).output, (unhide HCHG).size, (unhide HCHG).block⟩⟩
end Go.Proofs.Yteambdbcjcfdeaa
