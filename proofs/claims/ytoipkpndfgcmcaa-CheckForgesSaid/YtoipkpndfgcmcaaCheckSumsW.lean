/-
  CheckSums: Sum, Update, Join, Seal and Whole of whatever is handed in are the document's: the law's walk. Condition: fewer than 2^47 bytes.
-/
import Derived.Test.YtoipkpndfgcmcaaRows
import Derived.Test.YtoipkpndfgcmcaaWords
import Derived.Test.YtoipkpndfgcmcaaCrcLent
import Derived.Test.YtoipkpndfgcmcaaCrcSeal
import Derived.Test.YtoipkpndfgcmcaaCrcJoinW
import Derived.Test.YtoipkpndfgcmcaaCrcWhole
import Derived.Test.YtoipkpndfgcmcaaCheckStreamsW
namespace Go.Proofs.Ytoipkpndfgcmcaa
open Go.RowKit

theorem own_capA {w : World} {B n c N : Nat} {A : Option Addr} {e : TypeId} {xs : List Value} (h : w.ownsRow B e 1 (.slice A n c) N xs) : n ≤ c := by
  rcases h.2 with ⟨h', _⟩ | ⟨g', cap', cur, h', _, _, hn, _⟩
  · cases h'
    exact Nat.le_refl _
  · cases h'
    exact hn

theorem whole_sealed (bs : List UInt8) : whole (sealed bs) = true := by
  have h : (sealed bs).length = bs.length + 4 := by simp [sealed, le4_len]
  rw [whole_long h]
  simp [sealed]

theorem joins (a b : Nat) (k : Int) (ha : a < U32) (hb : b < U32) (_h1 : -9223372036854775808 ≤ k) (h2 : k ≤ 9223372036854775807) :
    ∃ J F : Int, (∀ w, Calls Try.prog 33 #[.int .u32 (a : Int), .int .u32 (b : Int), .int .i64 k] w fun e w' => e = .returned (.tuple #[.int .u32 J, .int .i64 F]) ∧ Below w.heap.size w w')
      ∧ (∀ w, Calls Try.prog 32 #[.int .u32 (a : Int), .int .u32 (b : Int), .int .i64 k] w fun e w' => e = .returned (.tuple #[.int .u32 J, .int .i64 F]) ∧ Below w.heap.size w w') := by
  by_cases hk : k < 0
  · exact ⟨0, 2, fun w => (join_neg a b k w hk).mono (by rintro e w' ⟨rfl, rfl⟩; exact ⟨rfl, Below.refl _ _⟩), fun w => (refJoin_neg a b k w hk).mono (by rintro e w' ⟨rfl, rfl⟩; exact ⟨rfl, Below.refl _ _⟩)⟩
  · obtain ⟨m, rfl⟩ := Int.eq_ofNat_of_zero_le (by omega : 0 ≤ k)
    exact ⟨_, _, fun w => join_any a b m w ha hb (by omega), fun w => refJoin_any a b m w ha hb (by omega)⟩

set_option maxRecDepth 100000 in
set_option maxHeartbeats 1600000 in
theorem checkSums_walk (A : Option Addr) (n c : Nat) (bs : List UInt8) (a : Nat) (k : Int) (w : World) (hr : Reads w w.heap.size 1 A n (bs.map bv)) (hn : n ≤ 140737488351232) (hnc : n ≤ c) (ha : a < U32) (h1 : -9223372036854775808 ≤ k) (h2 : k ≤ 9223372036854775807) :
    Calls Try.prog 5 #[.slice A n c, .int .u32 (a : Int), .int .i64 k] w fun e w' => e = .returned (.bool true) ∧ Below w.heap.size w w' := by
  have hlen : bs.length = n := by have := hr.1; simpa using this
  have hL := hide (lent_any A n c bs w hr hn)
  obtain ⟨J, F, hj, hj'⟩ := joins a (upd 0 bs) k ha (upd_lt (by decide) _) h1 h2
  have HJ := fun w => hide (hj w)
  have HJ' := fun w => hide (hj' w)
  clear hj hj' h1 h2
  have HNum := fun x w => hide (num_any x w)
  have HR := hide hr
  clear hr
  go_enter Try.func5, Try.ntmps5
  go_wp2_with (go_at_call 16; refine (unhide hL).mono ?_; rintro e w1 ⟨g, cap, rfl, hcap, hg, hown, hb1⟩)
  obtain ⟨z, hz⟩ : ∃ z, upd 0 bs = z := ⟨_, rfl⟩
  obtain ⟨y, hy⟩ : ∃ y, upd a bs = y := ⟨_, rfl⟩
  obtain ⟨wb, hwb⟩ : ∃ b, whole bs = b := ⟨_, rfl⟩
  obtain ⟨sl, hsl⟩ : ∃ b, sealed bs = b := ⟨_, rfl⟩
  have hsll : sl.length = n + 4 := by rw [← hsl, ← hlen]; simp [sealed, le4_len]
  have hws : whole sl = true := by rw [← hsl]; exact whole_sealed bs
  have r1 := (unhide HR).below hb1
  have r2 := Reads.of_own hown
  have s1 := hb1.size
  have hgl : g < w1.heap.size := by
    obtain ⟨ad, e, hb, _⟩ := r2.2 (by omega)
    injection e with e
    subst e
    exact hb
  have hin : ∀ w', Below w1.heap.size w1 w' → Reads w' w1.heap.size 1 (some ⟨g, 0, none⟩) (n + 5) ((bs ++ mk 5).map bv) := fun w' h => r2.below h
  have hbb : ∀ w', Below w1.heap.size w1 w' → Reads w' w.heap.size 1 A n (bs.map bv) := fun w' h => r1.below (h.mono s1)
  have cSum : ∀ w', Below w1.heap.size w1 w' → Hid (Calls Try.prog 24 #[.slice (some ⟨g, 0, none⟩) n cap] w' fun e w2 => e = .returned (.int .u32 (z : Int)) ∧ Below w1.heap.size w1 w2) := fun w' h => hide <| by
    rw [← hz]; exact (sum_any bs _ n cap w1.heap.size w' ((hin w' h).front hlen) (by omega) h.size).mono fun e w2 ⟨he, hb⟩ => ⟨he, h.trans (hb.mono h.size)⟩
  have cUpd : ∀ w', Below w1.heap.size w1 w' → Hid (Calls Try.prog 26 #[.int .u32 (a : Int), .slice (some ⟨g, 0, none⟩) n cap] w' fun e w2 => e = .returned (.int .u32 (y : Int)) ∧ Below w1.heap.size w1 w2) := fun w' h => hide <| by
    rw [← hy]; exact (update_any a bs _ n cap w1.heap.size w' ha ((hin w' h).front hlen) (by omega) h.size).mono fun e w2 ⟨he, hb⟩ => ⟨he, h.trans (hb.mono h.size)⟩
  have cWh : ∀ w', Below w1.heap.size w1 w' → Hid (Calls Try.prog 28 #[.slice (some ⟨g, 0, none⟩) n cap] w' fun e w2 => e = .returned (.bool wb) ∧ Below w1.heap.size w1 w2) := fun w' h => hide <| by
    rw [← hwb]; exact (whole_any _ n cap w1.heap.size bs w' ((hin w' h).front hlen) (by omega) h.size (by omega)).mono fun e w2 ⟨he, hb⟩ => ⟨he, h.trans (hb.mono h.size)⟩
  have cSeal : ∀ w', Below w1.heap.size w1 w' → Hid (Calls Try.prog 30 #[.slice (some ⟨g, 0, none⟩) n cap] w' fun e w2 => ∃ v, e = .returned v ∧ w2.ownsRow w'.heap.size 5 1 v (n + 4) (sl.map bv) ∧ Below w1.heap.size w1 w2 ∧ Below w'.heap.size w' w2) := fun w' h => hide <| by
    rw [← hsl]; exact (seal_any _ n cap w1.heap.size bs w' ((hin w' h).front hlen) (by omega) h.size).mono fun e w2 ⟨v, he, ho, hb⟩ => ⟨v, he, ho, h.trans (hb.mono h.size), hb⟩
  have rSum : ∀ w', Below w1.heap.size w1 w' → Hid (Calls Try.prog 25 #[.slice A n c] w' fun e w2 => e = .returned (.int .u32 (z : Int)) ∧ w' = w2) := fun w' h => hide <| by
    rw [← hz]; exact refSum_any bs _ n c w.heap.size w' (hbb w' h) (by omega)
  have rUpd : ∀ w', Below w1.heap.size w1 w' → Hid (Calls Try.prog 27 #[.int .u32 (a : Int), .slice A n c] w' fun e w2 => e = .returned (.int .u32 (y : Int)) ∧ w' = w2) := fun w' h => hide <| by
    rw [← hy]; exact refUpdate_any a bs _ n c w.heap.size w' ha (hbb w' h) (by omega)
  have rWh : ∀ w', Below w1.heap.size w1 w' → Hid (Calls Try.prog 29 #[.slice A n c] w' fun e w2 => e = .returned (.bool wb) ∧ Below w1.heap.size w1 w2) := fun w' h => hide <| by
    rw [← hwb]; exact (refWhole_any _ n c w.heap.size bs w' (hbb w' h) (by omega) (Nat.le_trans s1 h.size) hnc).mono fun e w2 ⟨he, hb⟩ => ⟨he, h.trans (hb.mono h.size)⟩
  have rSeal : ∀ w', Below w1.heap.size w1 w' → Hid (Calls Try.prog 31 #[.slice A n c] w' fun e w2 => ∃ v, e = .returned v ∧ w2.ownsRow w'.heap.size 5 1 v (n + 4) (sl.map bv) ∧ Below w1.heap.size w1 w2 ∧ Below w'.heap.size w' w2) := fun w' h => hide <| by
    rw [← hsl]; exact (refSeal_any _ n c w.heap.size bs w' (hbb w' h) (by omega) (Nat.le_trans s1 h.size)).mono fun e w2 ⟨v, he, ho, hb⟩ => ⟨v, he, ho, h.trans (hb.mono h.size), hb⟩
  have cKept : ∀ w', Below w1.heap.size w1 w' → Hid (Calls Try.prog 20 #[.slice (some ⟨g, 0, none⟩) n cap, .slice A n c] w' fun e w2 => e = .returned (.bool true) ∧ Below w1.heap.size w1 w2) := fun w' h => hide <| by
    refine (kept_any A g n cap n c w1.heap.size bs bs w' hlen hcap (hin w' h) ((hbb w' h).more s1) (by omega) h.size).mono fun e w2 ⟨he, hb⟩ => ⟨?_, h.trans (hb.mono h.size)⟩
    rw [he]; simp
  have HB0 : Hid (Below w1.heap.size w1 w1) := hide (Below.refl _ _)
  have Hb1 := hide hb1
  rw [hz] at HJ HJ'
  clear r1 r2 hown hb1 hin hbb hsl hz hy hwb hL HR
  go_wp2_with (go_at_call 24; refine (unhide (cSum _ (unhide HB0))).mono ?_; rintro e w2 ⟨rfl, hb2⟩)
  have HB2 := hide hb2
  clear hb2
  go_wp2_with (go_at_call 25; refine (unhide (rSum _ (unhide HB2))).mono ?_; rintro e w3 ⟨rfl, rfl⟩)
  go_wp2_with (go_at_call 26; refine (unhide (cUpd _ (unhide HB2))).mono ?_; rintro e w3 ⟨rfl, hb3⟩)
  have HB3 := hide hb3
  clear hb3
  go_wp2_with (go_at_call 27; refine (unhide (rUpd _ (unhide HB3))).mono ?_; rintro e w4 ⟨rfl, rfl⟩)
  go_wp2_with (go_at_call 28; refine (unhide (cWh _ (unhide HB3))).mono ?_; rintro e w4 ⟨rfl, hb4⟩)
  have HB4 := hide hb4
  clear hb4
  have hbne : (wb != wb) = false := by simp
  go_wp2_with (go_at_call 29; refine (unhide (rWh _ (unhide HB4))).mono ?_; rintro e w5 ⟨rfl, hb5⟩)
  have HB5 := hide hb5
  clear hb5
  go_wp2_with (go_at_call 30; refine (unhide (cSeal _ (unhide HB5))).mono ?_; rintro e w6 ⟨v6, rfl, ho6, hb6, hc6⟩)
  obtain ⟨A6, c6, rfl⟩ := ho6.shape
  have HB6 := hide hb6
  have HO6 := hide ho6
  clear ho6 hb6 hc6
  go_wp2_with (go_at_call 31; refine (unhide (rSeal _ (unhide HB6))).mono ?_; rintro e w7 ⟨v7, rfl, ho7, hb7, hc7⟩)
  obtain ⟨A7, c7, rfl⟩ := ho7.shape
  have q6 := (Reads.of_own (unhide HO6)).below hc7
  have q7 := Reads.of_own ho7
  have hnc6 : n + 4 ≤ c6 := own_capA (unhide HO6)
  have cSame := hide (same_any A6 A7 (n + 4 : Nat) c6 (n + 4 : Nat) c7 sl sl w7 w7.heap.size (q6.more hc7.size) q7 (by omega) (Nat.le_refl _))
  have cW6 := fun w' (h : Below w7.heap.size w7 w') => hide (whole_any A6 (n + 4 : Nat) c6 w6.heap.size sl w' (q6.below (h.mono hc7.size)) (by omega) (Nat.le_trans hc7.size h.size) hnc6)
  rw [show (sl == sl) = true by simp] at cSame
  rw [hws] at cW6
  have HB7 := hide hb7
  clear ho7 hb7 hc7 q6 q7 HO6
  go_wp2_with (go_at_call 23; refine (unhide (cSame)).mono ?_; rintro e w8 ⟨rfl, hb8⟩)
  have HC8 := hide hb8
  have HB8 := hide ((unhide HB7).trans (hb8.mono (unhide HB7).size))
  clear hb8
  go_wp2_with (go_at_call 28; refine (unhide (cW6 _ (unhide HC8))).mono ?_; rintro e w9 ⟨rfl, hb9⟩)
  have HB9 := hide ((unhide HB8).trans (hb9.mono (unhide HB8).size))
  clear hb9
  go_wp2_with (go_at_call 20; refine (unhide (cKept _ (unhide HB9))).mono ?_; rintro e w10 ⟨rfl, hb10⟩)
  have HB10 := hide hb10
  clear hb10
  go_wp2_with (go_at_call 25; refine (unhide (rSum _ (unhide HB10))).mono ?_; rintro e w11 ⟨rfl, rfl⟩)
  go_wp2_with (go_at_call 32; refine (unhide (HJ' _)).mono ?_; rintro e w11 ⟨rfl, hb11⟩)
  have HB11 := hide ((unhide HB10).trans (hb11.mono (unhide HB10).size))
  clear hb11
  go_wp2_with (go_at_call 24; refine (unhide (cSum _ (unhide HB11))).mono ?_; rintro e w12 ⟨rfl, hb12⟩)
  have HB12 := hide hb12
  clear hb12
  go_wp2_with (go_at_call 33; refine (unhide (HJ _)).mono ?_; rintro e w13 ⟨rfl, hb13⟩)
  have HB13 := hide ((unhide HB12).trans (hb13.mono (unhide HB12).size))
  clear hb13
  go_wp2_with (go_at_call 19; refine (unhide (HNum _ _)).mono ?_; rintro e w14 ⟨rfl, rfl⟩)
  go_ret
  exact ⟨rfl, (unhide Hb1).trans ((unhide HB13).mono s1)⟩
end Go.Proofs.Ytoipkpndfgcmcaa
