/-
  CheckTells: bits turned within 32 of one another turn the sum, unseal what was sealed, and turn of every text of that length the same: the law's walk. Condition: fewer than 2^47 bytes.
-/
import Derived.Test.YtoipkpndfgcmcaaRows
import Derived.Test.YtoipkpndfgcmcaaWords
import Derived.Test.YtoipkpndfgcmcaaCrcTurnedW
import Derived.Test.YtoipkpndfgcmcaaCrcAwake
namespace Go.Proofs.Ytoipkpndfgcmcaa
open Go.RowKit

theorem len_own {w : World} {B n : Nat} {e : TypeId} {v : Value} {xs : List UInt8} (h : w.ownsRow B e 1 v n (xs.map bv)) : xs.length = n := by have := h.1; simpa using this

set_option maxRecDepth 100000 in
set_option maxHeartbeats 1600000 in
theorem checkTells_walk (A : Option Addr) (n c : Nat) (bs : List UInt8) (at_ : Int) (m : Nat) (A2 : Option Addr) (n2 c2 : Nat) (ys : List UInt8) (w : World) (hr : Reads w w.heap.size 1 A n (bs.map bv)) (hn : n ≤ 140737488351232) (h1 : -9223372036854775808 ≤ at_) (h2 : at_ ≤ 9223372036854775807) (hm : m < U32) (hr2 : Reads w w.heap.size 1 A2 n2 (ys.map bv)) (hn2 : n2 ≤ 140737488351232) :
    Calls Try.prog 7 #[.slice A n c, .int .i64 at_, .int .u32 (m : Int), .slice A2 n2 c2] w fun e w' => e = .returned (.bool true) ∧ Below w.heap.size w w' := by
  have hlen : bs.length = n := by have := hr.1; simpa using this
  have HA := hide (awake_any w)
  obtain ⟨n4, hn4⟩ : ∃ k, n + 4 = k := ⟨_, rfl⟩
  obtain ⟨P, hP⟩ : ∃ P, plc at_ (8 * n) = P := ⟨_, rfl⟩
  obtain ⟨P2, hP2⟩ : ∃ P, plc at_ (8 * (n4)) = P := ⟨_, rfl⟩
  have hPl : P ≤ 8 * n := hP ▸ plc_le _ _
  have hPl2 : P2 ≤ 8 * (n4) := hP2 ▸ plc_le _ _
  have hPlc : ∀ w, Hid (Calls Try.prog 36 #[.int .i64 at_, .int .i64 ((8 * n : Nat) : Int)] w fun e w' => e = .returned (.int .i64 (P : Int)) ∧ w = w') := fun w => hide <| by
    rw [← hP]; exact place_any at_ _ w h1 h2 (by omega)
  have hPlc2 : ∀ w, Hid (Calls Try.prog 36 #[.int .i64 at_, .int .i64 ((8 * (n4) : Nat) : Int)] w fun e w' => e = .returned (.int .i64 (P2 : Int)) ∧ w = w') := fun w => hide <| by
    rw [← hP2]; exact place_any at_ _ w h1 h2 (by omega)
  obtain ⟨an, han⟩ : ∃ a, hits n P m 32 = a := ⟨_, rfl⟩
  obtain ⟨tu, htu⟩ : ∃ a, hits n4 P2 m 32 = a := ⟨_, rfl⟩
  obtain ⟨X, hX⟩ : ∃ X, sn (8 * n - P) (met n P m 32) = X := ⟨_, rfl⟩
  have hall : ∀ os : List UInt8, os.length = n → upd 0 os ^^^ upd 0 (tl os P m 32) = X := fun os h => by
    rw [← hX, ← h]; exact xor_turned os P m (by rw [h]; exact hPl)
  have hXl : X < U32 := hX ▸ sn_lt (met_lt _ _ _ _ hm) _
  have hne : ((X : Int) != 0) = an := by
    rw [← han, hits, Bool.eq_iff_iff]
    have := sn_ne (n := 8 * n - P) (met_lt n P m 32 hm)
    rw [hX] at this
    simp only [bne_iff_ne, ne_eq, decide_eq_true_eq]
    rw [← this]
    omega
  obtain ⟨sl, hsl⟩ : ∃ b, sealed bs = b := ⟨_, rfl⟩
  have hsll : sl.length = n4 := by rw [← hsl, ← hn4, ← hlen]; simp [sealed, le4_len]
  have hws : whole sl = true := by rw [← hsl]; exact whole_sealed bs
  have hwu : whole (tl sl P2 m 32) = !tu := by
    rw [← htu, hits, ← hsll, ← hsl]
    exact whole_turned bs P2 m hm (by rw [hsl, hsll]; exact hPl2)
  have hbb : ∀ w', Below w.heap.size w w' → Reads w' w.heap.size 1 A n (bs.map bv) := fun w' h => hr.below h
  have hyy : ∀ w', Below w.heap.size w w' → Reads w' w.heap.size 1 A2 n2 (ys.map bv) := fun w' h => hr2.below h
  have cSum : ∀ w', Below w.heap.size w w' → Hid (Calls Try.prog 24 #[.slice A n c] w' fun e w2 => e = .returned (.int .u32 (upd 0 bs : Nat)) ∧ Below w'.heap.size w' w2) := fun w' h => hide <|
    sum_any bs _ n c w.heap.size w' (hbb w' h) (by omega) h.size
  have cTurn : ∀ w', Below w.heap.size w w' → Hid (Calls Try.prog 35 #[.slice A n c, .int .i64 (P : Int), .int .u32 (m : Int)] w' fun e w2 => ∃ v, e = .returned (.tuple #[v, .bool an]) ∧ w2.ownsRow w'.heap.size 5 1 v n ((tl bs P m 32).map bv) ∧ Below w'.heap.size w' w2) := fun w' h => hide <| by
    rw [← han]; exact turned_any A n c w.heap.size P m bs w' (hbb w' h) (by omega) h.size hPl hm
  have cSeal : ∀ w', Below w.heap.size w w' → Hid (Calls Try.prog 30 #[.slice A n c] w' fun e w2 => ∃ v, e = .returned v ∧ w2.ownsRow w'.heap.size 5 1 v (n4) (sl.map bv) ∧ Below w'.heap.size w' w2) := fun w' h => hide <| by
    rw [← hsl, ← hn4]; exact seal_any _ n c w.heap.size bs w' (hbb w' h) (by omega) h.size
  have hw8 : IntKind.i64.wrap (8 * (n : Int)) = ((8 * n : Nat) : Int) := by rw [IntWalk.i64_in _ (by omega)]; omega
  have hw84 : IntKind.i64.wrap (8 * (n4 : Int)) = ((8 * n4 : Nat) : Int) := by rw [IntWalk.i64_in _ (by omega)]; omega
  have HPl := hide hPl
  have HPl2 := hide hPl2
  clear hr hr2 h1 h2 hP hP2 hPl hPl2 han hX hsl
  go_enter Try.func7, Try.ntmps7
  go_wp2_with (go_at_call 34; refine (unhide HA).mono ?_; rintro e w1 ⟨rfl, hb1⟩)
  have HB1 := hide hb1
  clear hb1
  go_wp2_with fail
  refine (unhide (hPlc _)).mono ?_
  rintro e w2 ⟨rfl, rfl⟩
  go_wp2_with (go_at_call 35; refine (unhide (cTurn _ (unhide HB1))).mono ?_; rintro e w2 ⟨v2, rfl, ho2, hb2⟩; obtain ⟨A3, c3, rfl⟩ := ho2.shape)
  obtain ⟨ts, hts⟩ : ∃ l, tl bs P m 32 = l := ⟨_, rfl⟩
  obtain ⟨z1, hz1⟩ : ∃ z, upd 0 bs = z := ⟨_, rfl⟩
  obtain ⟨z2, hz2⟩ : ∃ z, upd 0 ts = z := ⟨_, rfl⟩
  have hx12 : bits BinOp.xor IntKind.u32 (z1 : Int) (z2 : Int) = (X : Int) := by
    rw [← hz1, ← hz2, xor_u32 _ _ (upd_lt (by decide) _) (upd_lt (by decide) _), ← hts, hall bs hlen]
  rw [hts] at ho2
  have HB2 := hide ((unhide HB1).trans (hb2.mono (unhide HB1).size))
  rw [hz1] at cSum
  have HO2 := hide ho2
  clear ho2 hb2 hts
  go_wp2_with (go_at_call 24; (with_reducible refine (unhide (cSum _ (unhide HB2))).mono ?_); rintro e w3 ⟨rfl, hb3⟩)
  have HB3 := hide ((unhide HB2).trans (hb3.mono (unhide HB2).size))
  have hS := hide (sum_any ts A3 n c3 w2.heap.size w3 ((Reads.of_own (unhide HO2)).below hb3) (by omega) hb3.size)
  rw [hz2] at hS
  clear hb3
  go_wp2_with (go_at_call 24; (with_reducible refine (unhide hS).mono ?_); rintro e w4 ⟨rfl, hb4⟩)
  have HB4 := hide ((unhide HB3).trans (hb4.mono (unhide HB3).size))
  have hnb : (an != an) = false := by simp
  clear hb4 hS HO2 hz2
  go_wp2_with (go_at_call 30; (with_reducible refine (unhide (cSeal _ (unhide HB4))).mono ?_); rintro e w5 ⟨v5, rfl, ho5, hb5⟩; obtain ⟨A5, c5, rfl⟩ := ho5.shape)
  have HB5 := hide ((unhide HB4).trans (hb5.mono (unhide HB4).size))
  have r5 := Reads.of_own ho5
  have hl5 := own_capA ho5
  have cW5 : ∀ w', Below w5.heap.size w5 w' → Hid (Calls Try.prog 28 #[.slice A5 n4 c5] w' fun e w2 => e = .returned (.bool true) ∧ Below w'.heap.size w' w2) := fun w' h => hide <| by
    rw [← hws]; exact whole_any A5 n4 c5 w5.heap.size sl w' (r5.below h) (by omega) h.size hl5
  have hT5 := hide (turned_any A5 n4 c5 w5.heap.size P2 m sl w5 r5 (by omega) (Nat.le_refl _) (unhide HPl2) hm)
  rw [htu] at hT5
  clear ho5 hb5 r5
  go_wp2_with fail
  refine (unhide (hPlc2 _)).mono ?_
  rintro e w6 ⟨rfl, rfl⟩
  go_wp2_with (go_at_call 35; (with_reducible refine (unhide hT5).mono ?_); rintro e w6 ⟨v6, rfl, ho6, hb6⟩; obtain ⟨A6, c6, rfl⟩ := ho6.shape)
  obtain ⟨us, hus⟩ : ∃ l, tl sl P2 m 32 = l := ⟨_, rfl⟩
  rw [hus] at ho6 hwu
  have HB6 := hide ((unhide HB5).trans (hb6.mono (unhide HB5).size))
  have HC6 := hide hb6
  have HO6 := hide ho6
  have hl6 := own_capA ho6
  clear ho6 hb6 hT5 hus
  go_wp2_with (go_at_call 28; (with_reducible refine (unhide (cW5 _ (unhide HC6))).mono ?_); rintro e w7 ⟨rfl, hb7⟩)
  have HB7 := hide ((unhide HB6).trans (hb7.mono (unhide HB6).size))
  have hW6 := hide (whole_any A6 n4 c6 w6.heap.size us w7 ((Reads.of_own (unhide HO6)).below hb7) (by omega) hb7.size hl6)
  rw [hwu] at hW6
  clear hb7 HO6 cW5
  have htt : ((!tu) == tu) = false := by cases tu <;> rfl
  have HC : Hid (0 + n ≤ maxLen ∧ (0 + n) * 1 ≤ 140737488355328) := cap1 (by omega)
  go_wp2_with (first
    | (go_at_call 28; (with_reducible refine (unhide hW6).mono ?_); rintro e w8 ⟨rfl, hb8⟩; have HB8 := hide ((unhide HB7).trans (hb8.mono (unhide HB7).size)); clear hb8)
    | (at_builtin; go_loud (refine wpList_app _ rfl (.tmp 63) (.tmp 64) 29 rfl elem_u8 w8.heap.size (.slice none 0 0) 0 [] rfl (World.ownsRow_nil _ _ _ _) w.heap.size A n c _ rfl (hbb _ (unhide HB8)) (bv_one _) HC.out (Nat.le_refl _) ?_; intro v9 w9 hown9 hg9 hat9; rw [Nat.zero_add, List.nil_append] at hown9; obtain ⟨A9, c9, rfl⟩ := hown9.shape)))
  have HC9 : Hid (Below w8.heap.size w8 w9) := grownBy_below hg9 (Nat.le_refl _) (by simp [Value.ownBlock])
  have HB9 := hide ((unhide HB8).trans ((unhide HC9).mono (unhide HB8).size))
  clear hg9 hat9 hW6 htt hnb
  clear hz1 hx12 cSum cTurn cSeal hne hwu htu hws hsll hw84 HPl2 hPlc2 hbb hn4 HC
  go_loopg [16] n (fun q i wx => ∃ (k : Nat) (os : List UInt8), k + q = n ∧ i = .int .i64 (k : Int) ∧ os.length = n ∧ wx.ownsRow w8.heap.size 5 1 (.slice A9 n c9) n (os.map bv) ∧ Below w8.heap.size w8 wx)
  case atStart => exact ⟨0, bs, by omega, rfl, hlen, hown9, unhide HC9⟩
  case round =>
    obtain ⟨k, os, hk, rfl, hol, ho, hb⟩ := hrel
    clear hown9 HC9 HB9
    have hbw := (unhide HB8).trans (hb.mono (unhide HB8).size)
    by_cases hin : k < n ∧ k < n2
    · obtain ⟨hlt, hlt2⟩ := hin
      obtain ⟨q, rfl⟩ : ∃ q, gk = q + 1 := ⟨gk - 1, by omega⟩
      obtain ⟨b2, o2, u2, rfl, hl2, hx2, hc2, ha2⟩ := (hyy _ hbw).at0 hlt2
      rw [List.getElem?_map] at hx2
      obtain ⟨d2, hx2', rfl⟩ := Option.map_eq_some_iff.1 hx2
      have hd2 : wr.cell? ⟨b2, o2 + k, none⟩ = some (.int .u8 (d2.toNat : Int)) := hc2
      obtain ⟨g, cap, hv, hgw, _⟩ := ho.form (by omega)
      injection hv with e1 e2 e3
      subst e1 e3
      have hfz : wr.frozen? ⟨g, k, none⟩ = false := ho.frozenAt k
      have hcz : ∃ v, wr.cell? ⟨g, k, none⟩ = some v := by
        obtain ⟨d, hd⟩ : ∃ d, os[k]? = some d := ⟨_, List.getElem?_eq_getElem (by omega)⟩
        exact ⟨bv d, by rw [ho.cellAt k (by omega), List.getElem?_map, hd]; rfl⟩
      obtain ⟨vz, hcz⟩ := hcz
      have hk0 : (0 : Int) ≤ (k : Int) := by omega
      have hk1 : (k : Int) < (n : Int) := by omega
      have hk2 : (k : Int) < (n2 : Int) := by omega
      have HZ := hide (ho.stored k (.int .u8 (d2.toNat : Int)))
      have HB := hide (hb.setCell (p := ⟨g, k, none⟩) hgw (.int .u8 (d2.toNat : Int)))
      clear ho hb hbw hx2 hx2' hc2 ha2
      go_wp2
      go_roundg q
      case rel => exact ⟨k + 1, os.set k d2, by omega, by go_num, by simpa using hol, by rw [List.map_set, bv]; exact (unhide HZ).1, unhide HB⟩
      case measure => omega
    · have hT := hide (turned_any A9 n c9 wr.heap.size P m os wr (Reads.of_own ho) (by omega) (Nat.le_refl _) (unhide HPl) hm)
      have HRo := hide (Reads.of_own ho)
      obtain ⟨an', han'⟩ : ∃ a, hits n P m 32 = a := ⟨_, rfl⟩
      rw [han'] at hT
      obtain ⟨z3, hz3⟩ : ∃ z, upd 0 os = z := ⟨_, rfl⟩
      obtain ⟨vs, hvs⟩ : ∃ z, tl os P m 32 = z := ⟨_, rfl⟩
      obtain ⟨z4, hz4⟩ : ∃ z, upd 0 vs = z := ⟨_, rfl⟩
      have hx34 : bits BinOp.xor IntKind.u32 (z3 : Int) (z4 : Int) = (X : Int) := by
        rw [← hz3, ← hz4, xor_u32 _ _ (upd_lt (by decide) _) (upd_lt (by decide) _), ← hvs, hall os hol]
      rw [hvs] at hT
      have HBw := hide hbw
      have hk0 : (0 : Int) ≤ (k : Int) := by omega
      have hx : n ≤ k ∨ (k < n ∧ n2 ≤ k) := by omega
      clear ho hb hbw hin han' hvs
      rcases hx with hx | ⟨hx, hx'⟩
      all_goals
        go_wp2_with fail
        refine (unhide (hPlc _)).mono ?_
        rintro e w10 ⟨rfl, rfl⟩
        go_wp2_with (go_at_call 35; (with_reducible refine (unhide hT).mono ?_); rintro e w10 ⟨v10, rfl, ho10, hb10⟩; obtain ⟨A10, c10, rfl⟩ := ho10.shape)
        have hS3 := hide (sum_any os A9 n c9 wr.heap.size w10 ((unhide HRo).below hb10) (by omega) hb10.size)
        have HO10 := hide ho10
        have HB10 := hide ((unhide HBw).trans (hb10.mono (unhide HBw).size))
        rw [hz3] at hS3
        clear ho10 hb10
        go_wp2_with (go_at_call 24; (with_reducible refine (unhide hS3).mono ?_); rintro e w11 ⟨rfl, hb11⟩)
        have hS4 := hide (sum_any vs A10 n c10 w10.heap.size w11 ((Reads.of_own (unhide HO10)).below hb11) (by omega) hb11.size)
        rw [hz4] at hS4
        have HB11 := hide ((unhide HB10).trans (hb11.mono (unhide HB10).size))
        clear hb11
        go_wp2_with (go_at_call 24; (with_reducible refine (unhide hS4).mono ?_); rintro e w12 ⟨rfl, hb12⟩)
        have HB12 := hide ((unhide HB11).trans (hb12.mono (unhide HB11).size))
        clear hb12
        go_ret
        exact ⟨rfl, unhide HB12⟩
end Go.Proofs.Ytoipkpndfgcmcaa
