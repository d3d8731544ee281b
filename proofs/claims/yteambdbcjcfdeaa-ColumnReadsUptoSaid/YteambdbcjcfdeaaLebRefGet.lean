/-
  sibylref01.Get: what any bytes begin with, by the document's answer; the walk over the Go text. No condition.
-/
import Derived.Test.YteambdbcjcfdeaaRows
import Derived.Test.YteambdbcjcfdeaaWords
import Derived.Test.YteambdbcjcfdeaaLebMath
namespace Go.Proofs.Yteambdbcjcfdeaa
open Go.RowKit


set_option maxRecDepth 100000 in
set_option maxHeartbeats 400000 in
theorem refGet_any (bs : List UInt8) (A : Option Addr) (n c : Nat) (w : World) (B : Nat) (hr : Reads w B 1 A n (bs.map bv)) :
    Calls Try.prog 87 #[.slice A n c] w fun e w' => e = gv (getS bs) ∧ w = w' := by
  have hlen : bs.length = n := by have := hr.1; simpa using this
  go_enter Try.func87, Try.ntmps87
  go_wp2
  go_loopg [5, 6, 7] 10 (fun g t5 t6 t7 wr => ∃ (i acc wt : Nat), i + g = 10 ∧ i ≤ 9 ∧ i ≤ n ∧ t7 = .int .i64 (i : Int) ∧ t6 = .int .u64 (wt : Int) ∧ t5 = .int .u64 (acc : Int) ∧ Hid (acc < 2 ^ (7 * i) ∧ wt = 2 ^ (7 * i) ∧ getGo g i acc (bs.drop i) = getS bs) ∧ w = wr)
  case atStart => exact ⟨0, 0, 1, rfl, by omega, by omega, rfl, rfl, rfl, ⟨by decide, rfl, rfl⟩, rfl⟩
  case round =>
    obtain ⟨i, acc, wt, hi, hi9, hin, rfl, rfl, rfl, HG, rfl⟩ := hrel
    · obtain ⟨g, rfl⟩ : ∃ g, gk = g + 1 := ⟨gk - 1, by omega⟩
      by_cases hlt : i < n
      · obtain ⟨b, off, u, rfl, hb, hx, hc, hcs⟩ := hr.at0 hlt
        rw [List.getElem?_map] at hx
        obtain ⟨c0, hx0, rfl⟩ := Option.map_eq_some_iff.1 hx
        have hc256 := c0.toNat_lt
        have HD := Lib.hid (drop_cons hx0)
        unfold bv at hc
        clear hcs hx hr hx0
        have hb0 : ((c0.toNat : Int) == 0) = decide (c0.toNat = 0) := by rw [Bool.eq_iff_iff]; simp
        by_cases h9 : i = 9
        · subst h9
          have hne : ((9 : Int) == (n : Int)) = false := by simp; omega
          by_cases hcond : 1 < c0.toNat ∨ c0.toNat = 0
          · have HF : Hid (getS bs = (0, 0, 11)) := by
              show _ = _
              rw [← HG.out.2.2, HD.out, getGo_form (by omega)]
            go_wp2
            all_goals go_ret3
            all_goals exact ⟨by rw [HF.out]; rfl, rfl⟩
          · have HF : Hid (getS bs = (acc + c0.toNat * 2 ^ (7 * 9), 9 + 1, 0)) := by
              show _ = _
              rw [← HG.out.2.2, HD.out, getGo_end (by omega) (by omega)]
            have HV := Lib.hid (ref_step acc c0.toNat wt 9 HG.out.2.1 (sum_bound9 (by omega) HG.out.1))
            have hm : c0.toNat % 128 = c0.toNat := by omega
            rw [hm] at HV
            clear hm
            go_wp2
            all_goals go_ret3
            all_goals exact ⟨by rw [HF.out]; exact gv_of HV.out rfl rfl, rfl⟩
        · have hne : ((i : Int) == (n : Int)) = false := by simp; omega
          by_cases hcond : 0 < i ∧ c0.toNat = 0
          · have HF : Hid (getS bs = (0, 0, 11)) := by
              show _ = _
              rw [← HG.out.2.2, HD.out, getGo_form (by omega)]
            go_wp2
            all_goals go_ret3
            all_goals exact ⟨by rw [HF.out]; rfl, rfl⟩
          · have HV := Lib.hid (ref_step acc c0.toNat wt i HG.out.2.1 (sum_bound (by omega) HG.out.1))
            have HW := Lib.hid (wt_next wt i HG.out.2.1 (by omega))
            by_cases h128 : c0.toNat < 128
            · have HF : Hid (getS bs = (acc + c0.toNat % 128 * 2 ^ (7 * i), i + 1, 0)) := by
                show _ = _
                rw [← HG.out.2.2, HD.out, getGo_end (by omega) h128, Nat.mod_eq_of_lt h128]
              go_wp2
              all_goals go_ret3
              all_goals exact ⟨by rw [HF.out]; exact gv_of HV.out rfl rfl, rfl⟩
            · have HN : Hid (acc + c0.toNat % 128 * 2 ^ (7 * i) < 2 ^ (7 * (i + 1)) ∧ 2 ^ (7 * (i + 1)) = 2 ^ (7 * (i + 1)) ∧ getGo g (i + 1) (acc + c0.toNat % 128 * 2 ^ (7 * i)) (bs.drop (i + 1)) = getS bs) :=
                ⟨acc_next HG.out.1, rfl, by rw [← HG.out.2.2, HD.out, getGo_go (by omega) h128]⟩
              go_wp2
              all_goals
                go_roundg g
                case rel => exact ⟨i + 1, acc + c0.toNat % 128 * 2 ^ (7 * i), 2 ^ (7 * (i + 1)), by omega, by omega, by omega, by go_num, by rw [HW.out], by rw [HV.out], ⟨HN.out.1, rfl, HN.out.2.2⟩, rfl⟩
                case measure => omega
      · have hd : bs.drop i = [] := List.drop_eq_nil_of_le (by omega)
        have HF : Hid (getS bs = (0, 0, 10)) := by
          show _ = _
          rw [← HG.out.2.2, hd]
          rfl
        clear hd
        have hne : ((i : Int) == (n : Int)) = true := by simp; omega
        go_wp2
        all_goals go_ret3
        all_goals exact ⟨by rw [HF.out]; rfl, rfl⟩
theorem refGet_r {bs : List UInt8} {A : Option Addr} {n : Nat} (c : Nat) {w : World} {B : Nat} (hr : Reads w B 1 A n (bs.map bv)) {a k f : Nat} (h : getS bs = (a, k, f)) :
    Calls Try.prog 87 #[.slice A n c] w fun e w' => e = .returned (.tuple #[.int .u64 (a : Int), .int .i64 (k : Int), .int .i64 (f : Int)]) ∧ w = w' :=
  (refGet_any bs A n c w B hr).mono fun _ _ hh => ⟨by rw [hh.1, h]; rfl, hh.2⟩
end Go.Proofs.Yteambdbcjcfdeaa
