/-
  leb.Get: what any bytes begin with; the walk over the Go text. No condition.
-/
import Derived.Test.YteambdbcjcfdeaaRows
import Derived.Test.YteambdbcjcfdeaaWords
import Derived.Test.YteambdbcjcfdeaaLebMath
namespace Go.Proofs.Yteambdbcjcfdeaa
open Go.RowKit

set_option maxRecDepth 100000 in
set_option maxHeartbeats 400000 in
theorem get_any (bs : List UInt8) (A : Option Addr) (n c : Nat) (w : World) (B : Nat) (hr : Reads w B 1 A n (bs.map bv)) :
    Calls Try.prog 96 #[.slice A n c] w fun e w' => e = gv (getS bs) ∧ w = w' := by
  have hlen : bs.length = n := by have := hr.1; simpa using this
  go_enter Try.func96, Try.ntmps96
  go_wp2
  go_step3
  go_wp2
  go_step3
  go_wp2
  go_loopg [5, 6, 9] 10 (fun g t5 t6 t9 wr => ∃ (i acc : Nat), i + g = 10 ∧ i ≤ 9 ∧ t9 = .int .i64 (i : Int) ∧ t6 = .int .i64 0 ∧ t5 = .int .u64 (acc : Int) ∧ Hid (acc < 2 ^ (7 * i) ∧ getGo g i acc (bs.drop i) = getS bs) ∧ w = wr)
  case atStart => exact ⟨0, 0, rfl, by omega, rfl, rfl, rfl, ⟨by decide, rfl⟩, rfl⟩
  case round =>
    obtain ⟨i, acc, hi, hi9, rfl, rfl, rfl, HG, rfl⟩ := hrel
    · obtain ⟨g, rfl⟩ : ∃ g, gk = g + 1 := ⟨gk - 1, by omega⟩
      by_cases hlt : i < n
      · obtain ⟨b, off, u, rfl, hb, hx, hc, hcs⟩ := hr.at0 hlt
        rw [List.getElem?_map] at hx
        obtain ⟨c0, hx0, rfl⟩ := Option.map_eq_some_iff.1 hx
        have hc256 := c0.toNat_lt
        have HD := Lib.hid (drop_cons hx0)
        unfold bv at hc
        clear hcs hx hr hx0
        have hb0 : ((c0.toNat : Int) == 0) = decide (c0.toNat = 0) := by rw [Bool.eq_iff_iff]; simp
        by_cases hcond : i = 9 ∧ 1 < c0.toNat ∨ 0 < i ∧ c0.toNat = 0
        · have HF : Hid (getS bs = (0, 0, 11)) := by
            show _ = _
            rw [← HG.out.2, HD.out, getGo_form hcond]
          go_wp2
          all_goals (try rw [Exit.noGoto_ret])
          all_goals go_ret3
          all_goals exact ⟨by rw [HF.out]; rfl, rfl⟩
        · by_cases h128 : c0.toNat < 128
          · have HF : Hid (getS bs = (acc + c0.toNat * 2 ^ (7 * i), i + 1, 0)) := by
              show _ = _
              rw [← HG.out.2, HD.out, getGo_end hcond h128]
            by_cases h9 : i = 9
            · have HV := Lib.hid (or_step9 acc c0.toNat (by have := HG.out.1; rw [h9] at this; exact this) (by omega))
              subst h9
              go_wp2
              all_goals (try rw [Exit.noGoto_ret])
              all_goals go_ret3
              all_goals exact ⟨by rw [HF.out]; exact gv_of HV.out rfl rfl, rfl⟩
            · have HV := Lib.hid (or_step acc c0.toNat i (by omega) HG.out.1 (small_step (by omega) (by omega)))
              go_wp2
              all_goals (try rw [Exit.noGoto_ret])
              all_goals go_ret3
              all_goals exact ⟨by rw [HF.out]; exact gv_of HV.out rfl rfl, rfl⟩
          · have HV := Lib.hid (or_step' acc c0.toNat i (by omega) HG.out.1 hc256)
            have HN : Hid (acc + c0.toNat % 128 * 2 ^ (7 * i) < 2 ^ (7 * (i + 1)) ∧ getGo g (i + 1) (acc + c0.toNat % 128 * 2 ^ (7 * i)) (bs.drop (i + 1)) = getS bs) :=
              ⟨acc_next HG.out.1, by rw [← HG.out.2, HD.out, getGo_go hcond h128]⟩
            go_wp2
            all_goals
              go_roundg g
              case rel => exact ⟨i + 1, acc + c0.toNat % 128 * 2 ^ (7 * i), by omega, by omega, by go_num, rfl, by rw [HV.out], HN.out, rfl⟩
              case measure => omega
      · have hd : bs.drop i = [] := List.drop_eq_nil_of_le (by omega)
        have HF : Hid (getS bs = (0, 0, 10)) := by
          show _ = _
          rw [← HG.out.2, hd]
          rfl
        clear hd
        go_wp2
        rw [Exit.noGoto_ret]
        go_ret3
        exact ⟨by rw [HF.out]; rfl, rfl⟩
theorem get_r {bs : List UInt8} {A : Option Addr} {n : Nat} (c : Nat) {w : World} {B : Nat} (hr : Reads w B 1 A n (bs.map bv)) {a k f : Nat} (h : getS bs = (a, k, f)) :
    Calls Try.prog 96 #[.slice A n c] w fun e w' => e = .returned (.tuple #[.int .u64 (a : Int), .int .i64 (k : Int), .int .i64 (f : Int)]) ∧ w = w' :=
  (get_any bs A n c w B hr).mono fun _ _ hh => ⟨by rw [hh.1, h]; rfl, hh.2⟩
end Go.Proofs.Yteambdbcjcfdeaa
