/-
  Reading a column of the delta way: the walk over the Go text. Condition: fewer than 2^47 bytes, at most 65536 rows.
-/
import Derived.Test.YteambdbcjcfdeaaColRead
namespace Go.Proofs.Yteambdbcjcfdeaa
open Go.RowKit

theorem back_tn (K : Int) (h1 : -9223372036854775808 ≤ K) (h2 : K ≤ 9223372036854775807) : backS (tn K) = K := by
  unfold backS tn turnS
  split <;> split <;> omega
/-- The number behind what was read. -/
def valD (acc : List UInt32) (a : Nat) : Nat := if acc.length = 0 then a else (IntKind.u64.wrap (IntKind.i64.wrap (((acc.getD (acc.length - 1) 0).toNat : Int) + backS a))).toNat
theorem deltaTo_split (c : List UInt32) (k : Nat) : ∀ m, k ≤ m → ∃ rest, deltaTo c m = deltaTo c k ++ rest
  | 0, h => by obtain rfl : k = 0 := by omega
               exact ⟨[], by simp⟩
  | m + 1, h => by
    by_cases e : k = m + 1
    · subst e; exact ⟨[], by simp⟩
    · obtain ⟨r, hr⟩ := deltaTo_split c k m (by omega)
      exact ⟨r ++ form (stepAt c m), by rw [deltaTo, hr, List.append_assoc]⟩
theorem delta_read {c : List UInt32} {k : Nat} (h : k < c.length) :
    numS (deltaS c) (deltaTo c k).length 0 = (stepAt c k, (deltaTo c (k + 1)).length, 0) ∧ (deltaTo c k).length < (deltaS c).length := by
  obtain ⟨rest, hr⟩ := deltaTo_split c (k + 1) c.length (by omega)
  have hs : deltaS c = deltaTo c k ++ (form (stepAt c k) ++ rest) := by rw [deltaS, hr, deltaTo, List.append_assoc]
  have hd : (deltaS c).drop (deltaTo c k).length = form (stepAt c k) ++ rest := by rw [hs, List.drop_left]
  refine ⟨?_, ?_⟩
  · rw [numS_at hd (stepAt_lt c k), deltaTo, List.length_append]
  · rw [hs, List.length_append, List.length_append]
    have := (form_len (stepAt c k)).1
    omega
def FitD (bs : List UInt8) (rows : Nat) (acc : List UInt32) (p : Nat) : Prop := ∀ c, deltaS c = bs → c.length = rows → acc = c.take acc.length ∧ p = (deltaTo c acc.length).length
theorem val_step {c : List UInt32} {k : Nat} (h : k < c.length) : valD (c.take k) (stepAt c k) = (c.getD k 0).toNat := by
  have hl : (c.take k).length = k := by rw [List.length_take]; omega
  by_cases h0 : k = 0
  · subst h0
    rw [valD, if_pos (by simp), stepAt, if_pos rfl]
  · rw [valD, if_neg (by omega), hl, stepAt, if_neg h0]
    have e : (c.take k).getD (k - 1) 0 = c.getD (k - 1) 0 := by
      rw [List.getD_eq_getElem?_getD, List.getElem?_take, if_pos (by omega), List.getD_eq_getElem?_getD]
    have h1 := u32_lt (c.getD k 0)
    have h2 := u32_lt (c.getD (k - 1) 0)
    rw [e, back_tn _ (by omega) (by omega)]
    obtain ⟨x, hx⟩ : ∃ x, (c.getD k 0).toNat = x := ⟨_, rfl⟩
    obtain ⟨y, hy⟩ : ∃ y, (c.getD (k - 1) 0).toNat = y := ⟨_, rfl⟩
    rw [hx] at h1 ⊢
    rw [hy] at h2 ⊢
    rw [show (y : Int) + ((x : Int) - (y : Int)) = (x : Int) by omega, IntWalk.i64_in _ (by omega), wrapu_nat x (by omega)]
    omega
theorem fitD_next {bs : List UInt8} {rows : Nat} {acc : List UInt32} {p a p2 f : Nat} (h : FitD bs rows acc p) (hl : acc.length < rows) (hn : numS bs p 0 = (a, p2, f)) :
    (∀ c, deltaS c = bs → c.length = rows → f = 0 ∧ valD acc a < 4294967296) ∧ (∀ x : UInt32, x.toNat = valD acc a → FitD bs rows (acc ++ [x]) p2) := by
  have key : ∀ c, deltaS c = bs → c.length = rows → valD acc a = (c.getD acc.length 0).toNat ∧ p2 = (deltaTo c (acc.length + 1)).length ∧ f = 0 := fun c h1 h2 => by
    obtain ⟨e1, e2⟩ := h c h1 h2
    have hr := (delta_read (c := c) (k := acc.length) (by omega)).1
    rw [h1, ← e2, hn] at hr
    simp only [Prod.mk.injEq] at hr
    refine ⟨?_, hr.2.1, hr.2.2⟩
    rw [hr.1]
    have := val_step (c := c) (k := acc.length) (by omega)
    rwa [← e1] at this
  refine ⟨fun c h1 h2 => ?_, fun x hx c h1 h2 => ?_⟩
  · obtain ⟨e, _, e3⟩ := key c h1 h2
    exact ⟨e3, by rw [e]; exact u32_lt _⟩
  · obtain ⟨e, e2, _⟩ := key c h1 h2
    obtain ⟨e4, _⟩ := h c h1 h2
    have hxy : x = c.getD acc.length 0 := UInt32.toNat_inj.1 (by omega)
    refine ⟨?_, by rw [List.length_append]; exact e2⟩
    rw [List.length_append, List.length_singleton, List.take_succ_eq_append_getElem (by omega), ← e4, hxy]
    congr 2
    rw [List.getD_eq_getElem?_getD, List.getElem?_eq_getElem (by omega)]; rfl
theorem fitD_done {bs : List UInt8} {rows : Nat} {acc : List UInt32} {p : Nat} (h : FitD bs rows acc p) (hl : acc.length ≤ rows) (he : ¬ acc.length < rows ∨ ¬ p < bs.length) : ∀ c, deltaS c = bs → c.length = rows → acc = c := fun c h1 h2 => by
  obtain ⟨e1, e2⟩ := h c h1 h2
  by_cases hk : acc.length < rows
  · have := (delta_read (c := c) (k := acc.length) (by omega)).2
    rw [h1, ← e2] at this
    rcases he with he | he
    · exact absurd hk he
    · exact absurd this he
  · rw [e1, List.take_of_length_le (by omega)]

set_option maxRecDepth 100000 in
set_option maxHeartbeats 2000000 in
theorem readDelta_any (A : Option Addr) (N cap B rows : Nat) (bs : List UInt8) (w : World) (hr : Reads w B 1 A N (bs.map bv)) (hN : N ≤ 140737488355328) (hrows : rows ≤ 65536) :
    Calls Try.prog 60 #[.slice A N cap, .int .i64 (rows : Int)] w (RdOut w deltaS bs rows) := by
  have hlen : bs.length = N := by have := hr.1; simpa using this
  have hNR := hide (newReader_any A N cap B bs w hr hN)
  clear hr
  go_enter Try.func60, Try.ntmps60
  go_wp2_with fail
  refine (unhide hNR).mono ?_
  rintro e W1 ⟨r, A1, c1, rfl, hrl, _, hrd, hb1⟩
  have hrlt := hrd.blk.lt
  have HRD := hide hrd
  have HB1 := hide hb1
  have hz1 := hb1.size
  have HF : Hid (FitD bs rows [] 0) := fun c _ _ => ⟨rfl, rfl⟩
  clear hrd hb1 hNR
  go_wp2_with fail
  go_loopg [5] rows (fun q t W => ∃ (acc : List UInt32) (p : Nat), acc.length + q = rows ∧ W.ownsRow W1.heap.size 40 1 t acc.length (acc.map uw) ∧ RdP W r A1 N c1 bs p 0 ∧ Below w.heap.size w W ∧ W1.heap.size ≤ W.heap.size ∧ FitD bs rows acc p)
  case atStart => exact ⟨[], 0, by simp, World.ownsRow_nil _ _ _ _, unhide HRD, unhide HB1, Nat.le_refl _, unhide HF⟩
  case round =>
    obtain ⟨acc, p, hq, ho, hrd, hb, hz, hfit⟩ := hrel
    clear HRD HB1 HF
    obtain ⟨At, ct, rfl⟩ := ho.shape
    obtain ⟨k, hk⟩ : ∃ k, acc.length = k := ⟨_, rfl⟩
    rw [hk] at hq ho
    rw [hk]
    have hL := hide (left_made wr r A1 N c1 bs p 0 hrd)
    have hple := hrd.le
    have HO := hide ho
    have HRD := hide hrd
    have HB := hide hb
    have HFIT := hide hfit
    have HK := Lib.hid hk
    clear ho hrd hb hfit hk
    by_cases hgo : p < N ∧ k < rows
    · obtain ⟨hg1, hg2⟩ := hgo
      obtain ⟨q, rfl⟩ : ∃ q, gk = q + 1 := ⟨gk - 1, by omega⟩
      have hd1 : (0 : Int) < ((N - p : Nat) : Int) := by omega
      have hd2 : (k : Int) < (rows : Int) := by omega
      go_wp2_with fail
      refine (unhide hL).mono ?_
      rintro e w2 ⟨rfl, m2, rfl⟩
      have hNm := num_made (wr.drewN m2) r A1 N c1 bs p 0 ((unhide HRD).drewN m2)
      obtain ⟨⟨a, p2, f⟩, hnS⟩ : ∃ t, numS bs p 0 = t := ⟨_, rfl⟩
      have hal := numS_lt bs p 0
      rw [hnS] at hNm hal
      have HNM := hide hNm
      have HNS := Lib.hid hnS
      clear hNm hnS hL
      go_wp2_with fail
      refine (unhide HNM).mono ?_
      rintro e w3 ⟨rfl, ha3⟩
      have ho3 := ha3.2.own ((unhide HO)) (fun i h1 h2 => by have := ((unhide HO).lt i h1).1; omega)
      have hb3 := (below_drewN (unhide HB) m2).trans (ha3.2.below (below_drewN (unhide HB) m2).size (fun i h1 h2 => by omega))
      have hz3 := ha3.2.size
      have HRA3 := hide ha3.1
      have HO3' := hide ho3
      have HB3' := hide hb3
      clear ha3 ho3 hb3 HO HB HRD HNM
      by_cases hk0 : k = 0
      · have hk0I : ¬ (0 : Int) < (k : Int) := by omega
        obtain ⟨y, hy⟩ : ∃ y, valD acc a = y := ⟨_, rfl⟩
        obtain ⟨hfn1, hfn2⟩ := fitD_next (unhide HFIT) (by rw [HK.out]; exact hg2) HNS.out
        rw [hy] at hfn1 hfn2
        have hya : y = a := by rw [← hy, valD, if_pos (by rw [HK.out]; exact hk0)]
        subst hya
        have HF1 := hide hfn1
        have HF2 := hide hfn2
        have HO3 := HO3'
        have HB3 := HB3'
        have HRA := HRA3
        have hE := hide (err_made w3 r A1 N c1 bs p2 f (unhide HRA3))
        obtain ⟨w4, hw4⟩ : ∃ w4, w4 = w3 := ⟨_, rfl⟩
        subst hw4
        clear hfn1 hfn2 hy HO3' HB3' HRA3 hk0
        by_cases hx : y < 4294967296
        · go_wp2_with fail
          refine (taken_yes y w4 hx).mono ?_
          rintro e w5 ⟨rfl, rfl⟩
          go_wp2_with fail
          refine (unhide hE).mono ?_
          rintro e w5 ⟨rfl, rfl⟩
          by_cases hf : f = 0
          · subst hf
            have HC : Hid (k + 1 ≤ maxLen ∧ (k + 1) * 4 ≤ 140737488355328) := cap4 (by omega)
            have hzw : W1.heap.size ≤ w4.heap.size := Nat.le_trans hz (Nat.le_trans hz3 (by first | exact hz3' | exact Nat.le_refl _))
            clear hE
            go_wp2_with (first
              | (at_builtin
                 refine wpList_app1 w4 rfl (.tmp 49) (.tmp 51) 22 rfl elem_u32 W1.heap.size (.slice At k ct) k (acc.map uw) rfl (unhide HO3) (.int .u32 (y : Int)) w4.heap.size rfl rfl rfl HC.out hzw ?_
                 intro v5 w5 ho5 hg5 hr5
                 obtain ⟨A5, c5, rfl⟩ := ho5.shape
                 have HO5 := hide ho5
                 have HR5 := hide ((unhide HRA).chg (Chg.of_grown hg5) (fun i h1 h2 => by have := ((unhide HO3).lt i h2).1; omega))
                 have HB5 := hide ((unhide HB3).grown hg5 (by have := (unhide HB3).size; omega) (fun i e => by have := ((unhide HO3).lt i e).1; omega))
                 have hz5 := hg5.size
                 clear ho5 hg5 hr5))
            have hxa : (UInt32.ofNat y).toNat = y := by rw [UInt32.toNat_ofNat']; omega
            go_roundg q
            case rel =>
              refine ⟨acc ++ [UInt32.ofNat y], p2, by rw [List.length_append, HK.out]; simp; omega, ?_, unhide HR5, unhide HB5, by omega, unhide HF2 _ hxa⟩
              have h := unhide HO5
              rw [List.length_append, HK.out, List.map_append, List.map_cons, List.map_nil, uw, hxa]
              exact h
            case measure => omega
          · have hfb : ((f : Int) != 0) = true := by simp; omega
            go_wp2_with fail
            go_ret
            exact ⟨_, acc, rfl, HK.out ▸ ((unhide HO3).base (by omega) : w4.ownsRow w.heap.size _ _ _ _ _), by rw [HK.out]; omega, unhide HB3, fun c2 h1 h2 => absurd (unhide HF1 c2 h1 h2) (by omega)⟩
        · go_wp2_with fail
          refine (taken_no y w4 hx).mono ?_
          rintro e w5 ⟨rfl, rfl⟩
          go_wp2_with fail
          refine (unhide hE).mono ?_
          rintro e w5 ⟨rfl, rfl⟩
          by_cases hf : f = 0
          · subst hf
            go_wp2_with fail
            go_ret
            exact ⟨_, acc, rfl, HK.out ▸ ((unhide HO3).base (by omega) : w4.ownsRow w.heap.size _ _ _ _ _), by rw [HK.out]; omega, unhide HB3, fun c2 h1 h2 => absurd (unhide HF1 c2 h1 h2) (by omega)⟩
          · have hfb : ((f : Int) != 0) = true := by simp; omega
            go_wp2_with fail
            go_ret
            exact ⟨_, acc, rfl, HK.out ▸ ((unhide HO3).base (by omega) : w4.ownsRow w.heap.size _ _ _ _ _), by rw [HK.out]; omega, unhide HB3, fun c2 h1 h2 => absurd (unhide HF1 c2 h1 h2) (by omega)⟩
      · have hk0I : (0 : Int) < (k : Int) := by omega
        obtain ⟨g3, cap3, hv3, _, _⟩ := (unhide HO3').form (by omega)
        obtain ⟨x, hxl⟩ : ∃ x, acc[k - 1]? = some x := ⟨_, List.getElem?_eq_getElem (by rw [HK.out]; omega)⟩
        have hcell : w3.cell? ⟨g3, k - 1, none⟩ = some (.int .u32 (x.toNat : Int)) := by
          have h := unhide HO3'
          rw [hv3] at h
          rw [h.cellAt (k - 1) (by omega), List.getElem?_map, hxl]; rfl
        cases hv3
        have hx4 := u32_lt x
        obtain ⟨y, hy⟩ : ∃ y, valD acc a = y := ⟨_, rfl⟩
        obtain ⟨hfn1, hfn2⟩ := fitD_next (unhide HFIT) (by rw [HK.out]; exact hg2) HNS.out
        rw [hy] at hfn1 hfn2
        obtain ⟨hbd1, hbd2⟩ := backS_bd a hal
        have hyv : IntKind.u64.wrap (IntKind.i64.wrap ((x.toNat : Int) + backS a)) = (y : Int) := by
          rw [← hy, valD, if_neg (by rw [HK.out]; exact hk0), List.getD_eq_getElem?_getD, HK.out, hxl]
          show IntKind.u64.wrap (IntKind.i64.wrap ((x.toNat : Int) + backS a)) = ((IntKind.u64.wrap (IntKind.i64.wrap ((x.toNat : Int) + backS a))).toNat : Int)
          have : 0 ≤ IntKind.u64.wrap (IntKind.i64.wrap ((x.toNat : Int) + backS a)) := by rw [IntKind.wrap_u64]; omega
          omega
        obtain ⟨X, hX⟩ : ∃ X, x.toNat = X := ⟨_, rfl⟩
        obtain ⟨D, hD⟩ : ∃ D, backS a = D := ⟨_, rfl⟩
        have hB := fun q => back_any a (w3.drewN q) hal
        rw [hX, hD] at hyv
        rw [hD] at hbd1 hbd2
        rw [hX] at hcell hx4
        simp only [hD] at hB
        have HBK := fun q => hide (hB q)
        have hyw : IntKind.u64.wrap (wrap64 ((X : Int) + D)) = (y : Int) := by rw [← hyv, IntKind.wrap_i64]; unfold wrap64; rfl
        have hs1 : IntKind.i64.wrap ((k : Int) - 1) = ((k - 1 : Nat) : Int) := by rw [IntWalk.i64_in _ (by omega)]; omega
        have hs2 : ((k - 1 : Nat) : Int) < (k : Int) := by omega
        have HF1 := hide hfn1
        have HF2 := hide hfn2
        clear hfn1 hfn2 hy hxl hX hD hB
        go_wp2_with fail
        go_quiet ((go_at_call 82; exact quiet_left (unhide (HBK _))))
        obtain ⟨w4, hw4⟩ : ∃ w4, w3.drewN nq = w4 := ⟨_, rfl⟩
        have HO3 := hide ((chg_drewN w3 nq (fun _ => False)).own (unhide HO3') (fun _ _ h => h))
        have HB3 := hide (below_drewN (unhide HB3') nq)
        have HRA := hide ((unhide HRA3).drewN nq)
        have hz3' : w3.heap.size ≤ (w3.drewN nq).heap.size := Nat.le_refl _
        rw [hw4] at HO3 HB3 HRA hz3' ⊢
        have hE := hide (err_made w4 r A1 N c1 bs p2 f (unhide HRA))
        clear hw4 hcell HO3' HB3' HRA3 HBK hyv hs1 hs2 hk0
        by_cases hx : y < 4294967296
        · go_wp2_with fail
          refine (taken_yes y w4 hx).mono ?_
          rintro e w5 ⟨rfl, rfl⟩
          go_wp2_with fail
          refine (unhide hE).mono ?_
          rintro e w5 ⟨rfl, rfl⟩
          by_cases hf : f = 0
          · subst hf
            have HC : Hid (k + 1 ≤ maxLen ∧ (k + 1) * 4 ≤ 140737488355328) := cap4 (by omega)
            have hzw : W1.heap.size ≤ w4.heap.size := Nat.le_trans hz (Nat.le_trans hz3 (by first | exact hz3' | exact Nat.le_refl _))
            clear hE
            go_wp2_with (first
              | (at_builtin
                 refine wpList_app1 w4 rfl (.tmp 49) (.tmp 51) 22 rfl elem_u32 W1.heap.size (.slice (some ⟨g3, 0, none⟩) k ct) k (acc.map uw) rfl (unhide HO3) (.int .u32 (y : Int)) w4.heap.size rfl rfl rfl HC.out hzw ?_
                 intro v5 w5 ho5 hg5 hr5
                 obtain ⟨A5, c5, rfl⟩ := ho5.shape
                 have HO5 := hide ho5
                 have HR5 := hide ((unhide HRA).chg (Chg.of_grown hg5) (fun i h1 h2 => by have := ((unhide HO3).lt i h2).1; omega))
                 have HB5 := hide ((unhide HB3).grown hg5 (by have := (unhide HB3).size; omega) (fun i e => by have := ((unhide HO3).lt i e).1; omega))
                 have hz5 := hg5.size
                 clear ho5 hg5 hr5))
            have hxa : (UInt32.ofNat y).toNat = y := by rw [UInt32.toNat_ofNat']; omega
            go_roundg q
            case rel =>
              refine ⟨acc ++ [UInt32.ofNat y], p2, by rw [List.length_append, HK.out]; simp; omega, ?_, unhide HR5, unhide HB5, by omega, unhide HF2 _ hxa⟩
              have h := unhide HO5
              rw [List.length_append, HK.out, List.map_append, List.map_cons, List.map_nil, uw, hxa]
              exact h
            case measure => omega
          · have hfb : ((f : Int) != 0) = true := by simp; omega
            go_wp2_with fail
            go_ret
            exact ⟨_, acc, rfl, HK.out ▸ ((unhide HO3).base (by omega) : w4.ownsRow w.heap.size _ _ _ _ _), by rw [HK.out]; omega, unhide HB3, fun c2 h1 h2 => absurd (unhide HF1 c2 h1 h2) (by omega)⟩
        · go_wp2_with fail
          refine (taken_no y w4 hx).mono ?_
          rintro e w5 ⟨rfl, rfl⟩
          go_wp2_with fail
          refine (unhide hE).mono ?_
          rintro e w5 ⟨rfl, rfl⟩
          by_cases hf : f = 0
          · subst hf
            go_wp2_with fail
            go_ret
            exact ⟨_, acc, rfl, HK.out ▸ ((unhide HO3).base (by omega) : w4.ownsRow w.heap.size _ _ _ _ _), by rw [HK.out]; omega, unhide HB3, fun c2 h1 h2 => absurd (unhide HF1 c2 h1 h2) (by omega)⟩
          · have hfb : ((f : Int) != 0) = true := by simp; omega
            go_wp2_with fail
            go_ret
            exact ⟨_, acc, rfl, HK.out ▸ ((unhide HO3).base (by omega) : w4.ownsRow w.heap.size _ _ _ _ _), by rw [HK.out]; omega, unhide HB3, fun c2 h1 h2 => absurd (unhide HF1 c2 h1 h2) (by omega)⟩
    · have hfin := fitD_done (unhide HFIT) (by rw [HK.out]; omega) (by rw [HK.out, hlen]; omega)
      have HFIN := hide hfin
      clear hfin
      by_cases hp : p < N
      · have hd1 : (0 : Int) < ((N - p : Nat) : Int) := by omega
        have hd2 : ¬ (k : Int) < (rows : Int) := by omega
        go_wp2_with fail
        refine (unhide hL).mono ?_
        rintro e w2 ⟨rfl, m2, rfl⟩
        go_wp2_with fail
        go_ret
        exact ⟨_, acc, rfl, HK.out ▸ ((unhide HO).base (by omega) : wr.ownsRow w.heap.size _ _ _ _ _), by rw [HK.out]; omega, below_drewN (unhide HB) _, unhide HFIN⟩
      · have hd1 : ¬ (0 : Int) < ((N - p : Nat) : Int) := by omega
        go_wp2_with fail
        refine (unhide hL).mono ?_
        rintro e w2 ⟨rfl, m2, rfl⟩
        go_wp2_with fail
        go_ret
        exact ⟨_, acc, rfl, HK.out ▸ ((unhide HO).base (by omega) : wr.ownsRow w.heap.size _ _ _ _ _), by rw [HK.out]; omega, below_drewN (unhide HB) _, unhide HFIN⟩
end Go.Proofs.Yteambdbcjcfdeaa
