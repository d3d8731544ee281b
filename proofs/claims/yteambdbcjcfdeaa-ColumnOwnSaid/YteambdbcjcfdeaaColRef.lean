/-
  The document's answer for columns, way by way (plain, delta, run): the walks over the Go text. Condition: at most 2^40 numbers.
-/
import Derived.Test.YteambdbcjcfdeaaColEnc2
import Derived.Test.YteambdbcjcfdeaaColRead
namespace Go.Proofs.Yteambdbcjcfdeaa
open Go.RowKit

/-- Bytes made since w. -/
def Bo (w W : World) (v : Value) (bs : List UInt8) : Prop := W.ownsRow w.heap.size 5 1 v bs.length (bs.map bv) ∧ Below w.heap.size w W
theorem Bo.nil_ (w : World) : Bo w w (.slice none 0 0) [] := ⟨World.ownsRow_nil _ _ _ _, Below.refl _ _⟩
theorem Bo.below {w W W' : World} {v : Value} {bs : List UInt8} (h : Bo w W v bs) (hb : Below W.heap.size W W') : Bo w W' v bs :=
  ⟨(Chg.of_below hb (fun _ => False)).own h.1 (fun _ _ f => f), h.2.trans (hb.mono h.2.size)⟩
theorem Bo.drewN {w W : World} {v : Value} {bs : List UInt8} (h : Bo w W v bs) (n : Nat) : Bo w (W.drewN n) v bs := ⟨h.1, below_drewN h.2 n⟩
theorem Bo.app {w W W' : World} {v v' : Value} {bs ms : List UInt8} (h : Bo w W v bs) (ho : W'.ownsRow w.heap.size 5 1 v' (bs.length + ms.length) (bs.map bv ++ ms.map bv)) (hg : W.grownBy W' v.ownBlock) : Bo w W' v' (bs ++ ms) := by
  refine ⟨?_, h.2.grown hg h.2.size (fun i e => (h.1.lt i e).1)⟩
  rw [List.length_append, List.map_append]
  exact ho
theorem refTurn_tn (k : Int) (w : World) (h1 : -9223372036854775808 ≤ k) (h2 : k ≤ 9223372036854775807) :
    Calls Try.prog 74 #[.int .i64 k] w fun e w' => e = .returned (.int .u64 (tn k : Nat)) ∧ w = w' := by
  have h := refTurn_any k w h1 h2
  rw [tn_val] at h
  exact h

set_option maxRecDepth 100000 in
theorem rplain_any (c : List UInt32) (A : Option Addr) (n cap B : Nat) (w : World) (hr : Reads w B 1 A n (c.map uw)) (hB : B ≤ w.heap.size) (hN : n ≤ 1048576) :
    Calls Try.prog 45 #[.slice A n cap] w fun e w' => ∃ v, e = .returned v ∧ Bo w w' v (plainS c) := by
  have hlen : c.length = n := by have := hr.1; simpa using this
  have HR := hide hr
  have HLEN := Lib.hid hlen
  clear hr hlen
  go_enter Try.func45, Try.ntmps45
  go_wp2_with fail
  go_loopg [3, 4] n (fun q v t W => ∃ k : Nat, k + q = n ∧ t = .int .i64 (k : Int) ∧ Bo w W v (plainS (c.take k)))
  case atStart => exact ⟨0, by omega, rfl, Bo.nil_ w⟩
  case round =>
    obtain ⟨k, hk, rfl, hbo⟩ := hrel
    have HBO := hide hbo
    by_cases hlt : k < n
    · obtain ⟨q, rfl⟩ : ∃ q, gk = q + 1 := ⟨gk - 1, by omega⟩
      have hkn : (k : Int) < (n : Int) := by omega
      have hk0 : (0 : Int) ≤ (k : Int) := by omega
      have hr' := unhide HR
      obtain ⟨b, off, x, rfl, hbB, hxk, hck0⟩ := hr'.num hlt
      have hck := (hbo.2.cell (p := ⟨b, off + k, none⟩) (by simp only; omega)).trans hck0
      obtain ⟨X, hX⟩ : ∃ X, x.toNat = X := ⟨_, rfl⟩
      have hxlt : X < U64 := by have := u32_lt x; unfold U64; omega
      rw [hX] at hck
      have hwX : IntKind.u64.wrap (X : Int) = (X : Int) := wrapu_nat X hxlt
      have hP := fun W => hide (refPut_any X W hxlt)
      have hle := plain_le c k
      have hf10 := (form_len X).2
      have hnext := plainS_take c hxk
      rw [hX] at hnext
      have HNX := Lib.hid hnext
      obtain ⟨bs, hbs⟩ : ∃ bs, plainS (c.take k) = bs := ⟨_, rfl⟩
      obtain ⟨L, hL⟩ : ∃ L, bs.length = L := ⟨_, rfl⟩
      obtain ⟨M, hM⟩ : ∃ M, (form X).length = M := ⟨_, rfl⟩
      rw [hbs] at HBO HNX hle
      rw [hL] at hle
      rw [hM] at hf10
      have HL := Lib.hid hL
      have HM := Lib.hid hM
      have HC : Hid (L + M ≤ maxLen ∧ (L + M) * 1 ≤ 140737488355328) := cap1 (by omega)
      clear hbo hr' hck0 hX hnext hbs hL hM hxk
      go_wp2_with fail
      refine (unhide (hP _)).mono ?_
      rintro e w2 ⟨v2, rfl, ho2, hb2⟩
      rw [HM.out] at ho2
      obtain ⟨A2, c2, rfl⟩ := ho2.shape
      have hbo2 := (unhide HBO).below hb2
      have hz2 := hbo2.2.size
      have HBO2 := hide hbo2
      have HR2 := hide (Reads.of_own ho2)
      clear ho2 hb2 hbo2
      go_wp2_with (first
        | (at_builtin
           refine wpList_app w2 rfl (.tmp 11) (.tmp 17) 24 rfl elem_u8 w.heap.size _ L (bs.map bv) rfl (by rw [← HL.out]; exact (unhide HBO2).1) w2.heap.size A2 M c2 ((form X).map bv) rfl (unhide HR2) (bv_one _) HC.out hz2 ?_
           intro v4 w4 ho4 hg4 _
           have HBO4 := hide ((unhide HBO2).app (ms := form X) (by rw [HL.out, HM.out]; exact ho4) hg4)
           clear ho4 hg4))
      go_roundg q
      case rel => exact ⟨k + 1, by omega, by go_num, by rw [HNX.out]; exact unhide HBO4⟩
      case measure => omega
    · obtain rfl : k = n := by omega
      rw [List.take_of_length_le (by rw [HLEN.out]; exact Nat.le_refl _)] at hbo
      have HE := hide hbo
      clear hbo HBO
      go_wp2_with fail
      go_ret
      exact ⟨_, rfl, unhide HE⟩

set_option maxRecDepth 100000 in
theorem rdelta_any (c : List UInt32) (A : Option Addr) (n cap B : Nat) (w : World) (hr : Reads w B 1 A n (c.map uw)) (hB : B ≤ w.heap.size) (hN : n ≤ 1048576) :
    Calls Try.prog 46 #[.slice A n cap] w fun e w' => ∃ v, e = .returned v ∧ Bo w w' v (deltaS c) := by
  have hlen : c.length = n := by have := hr.1; simpa using this
  have HR := hide hr
  have HLEN := Lib.hid hlen
  clear hr hlen
  go_enter Try.func46, Try.ntmps46
  go_wp2_with fail
  go_loopg [3, 4] n (fun q v t W => ∃ k : Nat, k + q = n ∧ t = .int .i64 (k : Int) ∧ Bo w W v (deltaTo c k))
  case atStart => exact ⟨0, by omega, rfl, Bo.nil_ w⟩
  case round =>
    obtain ⟨k, hk, rfl, hbo⟩ := hrel
    have HBO := hide hbo
    by_cases hlt : k < n
    · obtain ⟨q, rfl⟩ : ∃ q, gk = q + 1 := ⟨gk - 1, by omega⟩
      have hkn : (k : Int) < (n : Int) := by omega
      have hk0 : (0 : Int) ≤ (k : Int) := by omega
      have hr' := unhide HR
      obtain ⟨b, off, x, rfl, hbB, hxk, hck0⟩ := hr'.num hlt
      have hck := (hbo.2.cell (p := ⟨b, off + k, none⟩) (by simp only; omega)).trans hck0
      obtain ⟨X, hX⟩ : ∃ X, x.toNat = X := ⟨_, rfl⟩
      have hx4 : X < 4294967296 := by rw [← hX]; exact u32_lt x
      have hxlt : X < U64 := by unfold U64; omega
      rw [hX] at hck
      have hwX : IntKind.u64.wrap (X : Int) = (X : Int) := wrapu_nat X hxlt
      obtain ⟨T, hT⟩ : ∃ T, stepAt c k = T := ⟨_, rfl⟩
      have hTlt : T < U64 := by rw [← hT]; exact stepAt_lt c k
      have hP := fun W => hide (refPut_any T W hTlt)
      have hle := deltaTo_len c k
      have hf10 := (form_len T).2
      have hnext : deltaTo c (k + 1) = deltaTo c k ++ form T := by rw [deltaTo, hT]
      have HNX := Lib.hid hnext
      obtain ⟨bs, hbs⟩ : ∃ bs, deltaTo c k = bs := ⟨_, rfl⟩
      obtain ⟨L, hL⟩ : ∃ L, bs.length = L := ⟨_, rfl⟩
      obtain ⟨M, hM⟩ : ∃ M, (form T).length = M := ⟨_, rfl⟩
      rw [hbs] at HBO HNX hle
      rw [hL] at hle
      rw [hM] at hf10
      have HL := Lib.hid hL
      have HM := Lib.hid hM
      have HC : Hid (L + M ≤ maxLen ∧ (L + M) * 1 ≤ 140737488355328) := cap1 (by omega)
      by_cases h0 : k = 0
      · have hTX : T = X := by rw [← hT, ← hX, stepAt, if_pos h0]; rw [h0] at hxk; rw [List.getD_eq_getElem?_getD, hxk]; rfl
        have hz : ¬ (0 : Int) < (k : Int) := by omega
        have hPX := fun W => hide (hTX ▸ (unhide (hP W)) : Calls Try.prog 73 #[.int .u64 (X : Int)] W fun e w' => ∃ v', e = .returned v' ∧ w'.ownsRow W.heap.size 5 1 v' (form T).length ((form T).map bv) ∧ Below W.heap.size W w')
        have HK0 := Lib.hid h0
        clear hbo hr' hck0 hX hnext hbs hL hM hxk hT hP hTX h0
        go_wp2_with fail
        refine (unhide (hPX _)).mono ?_
        rintro e w2 ⟨v2, rfl, ho2, hb2⟩
        rw [HM.out] at ho2
        obtain ⟨A2, c2, rfl⟩ := ho2.shape
        have hbo2 := (unhide HBO).below hb2
        have hz2 := hbo2.2.size
        have HBO2 := hide hbo2
        have HR2 := hide (Reads.of_own ho2)
        clear ho2 hb2 hbo2
        go_wp2_with (first
          | (at_builtin
             refine wpList_app w2 rfl (.tmp 32) (.tmp 34) 24 rfl elem_u8 w.heap.size _ L (bs.map bv) rfl (by rw [← HL.out]; exact (unhide HBO2).1) w2.heap.size A2 M c2 ((form T).map bv) rfl (unhide HR2) (bv_one _) HC.out hz2 ?_
             intro v4 w4 ho4 hg4 _
             have HBO4 := hide ((unhide HBO2).app (ms := form T) (by rw [HL.out, HM.out]; exact ho4) hg4)
             clear ho4 hg4))
        go_roundg q
        case rel => exact ⟨k + 1, by omega, by go_num, by rw [HNX.out]; exact unhide HBO4⟩
        case measure => omega
      · obtain ⟨j, hj⟩ : ∃ j, k = j + 1 := ⟨k - 1, by omega⟩
        obtain ⟨b', off', y, hA', _, hyj, hcj0⟩ := hr'.num (show j < n by omega)
        cases hA'
        have hcj := (hbo.2.cell (p := ⟨b, off + j, none⟩) (by simp only; omega)).trans hcj0
        obtain ⟨Y, hY⟩ : ∃ Y, y.toNat = Y := ⟨_, rfl⟩
        have hy4 : Y < 4294967296 := by rw [← hY]; exact u32_lt y
        rw [hY] at hcj
        have hkj : IntKind.i64.wrap ((k : Int) - 1) = (j : Int) := by rw [IntWalk.i64_in _ (by omega)]; omega
        have hz : (0 : Int) < (k : Int) := by omega
        have hwX2 : IntKind.i64.wrap (X : Int) = (X : Int) := by rw [IntWalk.i64_in _ (by omega)]
        have hwY2 : IntKind.i64.wrap (Y : Int) = (Y : Int) := by rw [IntWalk.i64_in _ (by omega)]
        have hTe : tn ((X : Int) - (Y : Int)) = T := by
          rw [← hT, stepAt, if_neg h0, List.getD_eq_getElem?_getD, hxk, ← hX, ← hY, hj, Nat.add_sub_cancel, List.getD_eq_getElem?_getD, hyj]; rfl
        have hTn : ∀ V : World, Calls Try.prog 74 #[.int .i64 ((X : Int) - (Y : Int))] V fun e w'' => e = .returned (.int .u64 (T : Nat)) ∧ V = w'' := fun V => by have h := refTurn_tn ((X : Int) - (Y : Int)) V (by omega) (by omega); rw [hTe] at h; exact h
        have HTn := fun V => hide (hTn V)
        have hjI : (j : Int) < (n : Int) := by omega
        have hjI0 : (0 : Int) ≤ (j : Int) := by omega
        clear hj
        clear hTn hTe hbo hr' hck0 hcj0 hX hY hnext hbs hL hM hxk hyj hT hwX
        go_wp2_with fail
        go_quiet ((go_at_call 74; exact quiet_left (unhide (HTn _))))
        rename_i nq
        go_wp2_with fail
        refine (unhide (hP _)).mono ?_
        rintro e w2 ⟨v2, rfl, ho2, hb2⟩
        rw [HM.out] at ho2
        obtain ⟨A2, c2, rfl⟩ := ho2.shape
        have hbo2 := ((unhide HBO).drewN nq).below hb2
        have hz2 := hbo2.2.size
        have HBO2 := hide hbo2
        have HR2 := hide (Reads.of_own ho2)
        clear ho2 hb2 hbo2
        go_wp2_with (first
          | (at_builtin
             refine wpList_app w2 rfl (.tmp 32) (.tmp 34) 24 rfl elem_u8 w.heap.size _ L (bs.map bv) rfl (by rw [← HL.out]; exact (unhide HBO2).1) w2.heap.size A2 M c2 ((form T).map bv) rfl (unhide HR2) (bv_one _) HC.out hz2 ?_
             intro v4 w4 ho4 hg4 _
             have HBO4 := hide ((unhide HBO2).app (ms := form T) (by rw [HL.out, HM.out]; exact ho4) hg4)
             clear ho4 hg4))
        go_roundg q
        case rel => exact ⟨k + 1, by omega, by go_num, by rw [HNX.out]; exact unhide HBO4⟩
        case measure => omega
    · obtain rfl : k = n := by omega
      have HE := hide (show Bo w wr _ (deltaS c) from by rw [deltaS, HLEN.out]; exact hbo)
      clear hbo HBO
      go_wp2_with fail
      go_ret
      exact ⟨_, rfl, unhide HE⟩
end Go.Proofs.Yteambdbcjcfdeaa
