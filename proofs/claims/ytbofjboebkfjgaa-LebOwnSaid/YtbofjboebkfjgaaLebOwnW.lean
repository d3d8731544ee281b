/-
  LebOwn: what is answered is new memory: the walk over the Go text of the statement. Condition: fewer than 2^47 bytes.
-/
import Derived.Test.YtbofjboebkfjgaaLebOwnG
import Derived.Test.YtbofjboebkfjgaaLebOwnT
import Derived.Test.YtbofjboebkfjgaaLebAwake
namespace Go.Proofs.Ytbofjboebkfjgaa
open Go.RowKit

set_option maxRecDepth 100000 in
set_option maxHeartbeats 2000000 in
theorem lebOwn_walk (n m : Nat) (Ab : Option Addr) (N cb : Nat) (bs : List UInt8) (w : World) (hn : n < U64) (hm : m < U64) (hrb : Reads w w.heap.size 1 Ab N (bs.map bv)) (hN : N ≤ 140737488351232) :
    Calls Try.prog 8 #[.int .u64 (n : Int), .int .u64 (m : Int), .slice Ab N cb] w fun e w' => e = .returned (.bool true) ∧ Below w.heap.size w w' := by
  have hlb : bs.length = N := by have := hrb.1; simpa using this
  have HRB := hide hrb
  clear hrb
  go_enter Try.func8, Try.ntmps8
  go_wp2_with fail
  refine (awake_any w).mono ?_
  rintro e w1 ⟨rfl, hb1⟩
  have hN1 := hide (newWriter_any w1)
  have hz1 := hb1.size
  have HB1 := hide hb1
  clear hb1
  go_wp2_with fail
  refine (unhide hN1).mono ?_
  rintro e w2 ⟨rfl, rfl⟩
  have hN2 := hide (newWriter_any (w1.alloc (.cells #[.slice none 0 0, .bool true] 43)))
  go_wp2_with fail
  refine (unhide hN2).mono ?_
  rintro e w3 ⟨rfl, rfl⟩
  obtain ⟨g1, hg1⟩ : ∃ g, w1.heap.size = g := ⟨_, rfl⟩
  obtain ⟨W3, hW3⟩ : ∃ W, (w1.alloc (.cells #[.slice none 0 0, .bool true] 43)).alloc (.cells #[.slice none 0 0, .bool true] 43) = W := ⟨_, rfl⟩
  have hsz2 : (w1.alloc (.cells #[.slice none 0 0, .bool true] 43)).heap.size = g1 + 1 := by rw [World.size_alloc, hg1]
  have hX1 : Blk W3 g1 43 #[.slice none 0 0, .bool true] := by rw [← hW3, ← hg1]; exact (Blk.new _ _ _).alloc _
  have hX2 : Blk W3 (g1 + 1) 43 #[.slice none 0 0, .bool true] := by rw [← hW3, ← hsz2]; exact Blk.new _ _ _
  have hB3 : Below w.heap.size w W3 := by rw [← hW3]; exact ((unhide HB1).alloc (unhide HB1).size _).alloc (by rw [hsz2]; omega) _
  rw [hW3, hsz2, hg1]
  rw [hg1] at hz1
  have hP1 : WrP W3 g1 (.slice none 0 0) [] := ⟨hX1, World.ownsRow_nil _ _ _ _⟩
  have hP2 : WrP W3 (g1 + 1) (.slice none 0 0) [] := ⟨hX2, World.ownsRow_nil _ _ _ _⟩
  have hR3 := hide (wraw_any W3 g1 (.slice none 0 0) [] Ab N cb w.heap.size bs hP1 ((unhide HRB).below hB3) (by simp; omega))
  have HP2 := hide hP2
  have HB3 := hide hB3
  clear hX1 hX2 hB3 hP1 hP2 hsz2 hW3 hg1 HB1 hN1 hN2
  go_wp2_with fail
  refine (unhide hR3).mono ?_
  rintro e W4 ⟨rfl, v1, hw1, ht1⟩
  have hp2 := (unhide HP2).chg ht1.chg (fun e => by
    rcases e with e | e
    · omega
    · cases e) (fun _ e => by cases e)
  have hb4 := (unhide HB3).trans (ht1.chg.below (unhide HB3).size (fun i hi e => by
    rcases e with e | e
    · omega
    · cases e))
  have hst := run_string_of ((unhide HRB).below hb4) cb 22 9 5 Try.underlying22 Try.underlying5 Try.underlying9
  have hT4 := hide (wtext_wide W4 (g1 + 1) (.slice none 0 0) [] bs hp2 (by simp) (by simp; omega))
  have HPB := hide hp2.blk
  have HW1 := hide hw1
  have HB4 := hide hb4
  clear hw1 ht1 hp2 hb4 HP2 HB3 hR3
  go_wp2_with fail
  refine (unhide hT4).mono ?_
  rintro e W5 ⟨rfl, v2, hw2, ht2⟩
  have hp1 := (unhide HW1).chg ht2.chg (fun e => by
    rcases e with e | e
    · omega
    · cases e) (fun i hi e => by
    rcases e with e | e
    · have := (ht2.chg.size)
      subst e
      exact own_blk_ne (unhide HW1).own (unhide HPB) (by decide) hi
    · cases e)
  have hb5 := (unhide HB4).trans (ht2.chg.below (unhide HB4).size (fun i hi e => by
    rcases e with e | e
    · omega
    · cases e))
  have hN5 := hide (newReader_any Ab N cb w.heap.size bs W5 ((unhide HRB).below hb5) (by omega))
  have HP1 := hide hp1
  have HP2 := hide hw2
  have HB5 := hide hb5
  clear hp1 hw2 hb5 ht2 HW1 HB4 hT4 hst
  go_wp2_with fail
  refine (unhide hN5).mono ?_
  rintro e W6 ⟨r, A1, c1, rfl, hr, hlo1, hrd1, hb6⟩
  have hN6 := hide (newReader_any Ab N cb w.heap.size bs W6 ((unhide HRB).below ((unhide HB5).trans (hb6.mono (unhide HB5).size))) (by omega))
  have HRD1 := hide hrd1
  have HB6 := hide hb6
  clear hrd1 hb6 hN5
  go_wp2_with fail
  refine (unhide hN6).mono ?_
  rintro e W7 ⟨s, A2, c2, rfl, hs, hlo2, hrd2, hb7⟩
  have hbw6 := (unhide HB5).trans ((unhide HB6).mono (unhide HB5).size)
  have hB7 := hide (hbw6.trans (hb7.mono hbw6.size))
  have hb57 := (unhide HB6).trans (hb7.mono (unhide HB6).size)
  have hyl := (form_len bs.length).2
  rw [List.nil_append] at HP2 HP1
  obtain ⟨ys, hys⟩ : ∃ ys, form bs.length ++ bs = ys := ⟨_, rfl⟩
  obtain ⟨M, hM⟩ : ∃ M, ys.length = M := ⟨_, rfl⟩
  have hMN : M ≤ N + 10 := by rw [← hM, ← hys, List.length_append]; omega
  rw [hys] at HP2
  obtain ⟨Av1, cv1, rfl⟩ := (unhide HP1).own.shape
  obtain ⟨Av2, cv2, rfl⟩ := (unhide HP2).own.shape
  rw [hlb] at HP1
  rw [hM] at HP2
  have hrl := (unhide HRD1).blk.lt
  have hF : Four W7 g1 (.slice Av1 N cv1) bs (.slice Av2 M cv2) ys r A1 c1 N 0 s A2 c2 0 :=
    ⟨(unhide HP1).chg (Chg.of_below hb57 (fun _ => False)) (fun h => h) (fun _ _ h => h), (unhide HP2).chg (Chg.of_below hb57 (fun _ => False)) (fun h => h) (fun _ _ h => h),
     (unhide HRD1).chg (Chg.of_below hb7 (fun _ => False)) (fun _ _ h => h), hrd2, by omega, fun ad e => by have := hlo2 ad e; omega⟩
  obtain ⟨L0, hL0⟩ : ∃ L, W7.heap.size = L := ⟨_, rfl⟩
  obtain ⟨H, hH⟩ : ∃ H : Nat, (N : Int) / 2 = (H : Int) ∧ 2 * H ≤ N ∧ N ≤ 2 * H + 1 := ⟨N / 2, by omega, by omega, by omega⟩
  obtain ⟨D, hD⟩ : ∃ D : Nat, (N : Int) - (H : Int) = (D : Int) ∧ H + D = N := ⟨N - H, by omega, by omega⟩
  obtain ⟨hH, hH1, hH2⟩ := hH
  obtain ⟨hD, hD1⟩ := hD
  have hrL : r < L0 := by have := hF.rr.blk.lt; omega
  have hsL : s < L0 := by have := hF.ss.blk.lt; omega
  have hrw : w.heap.size ≤ r := Nat.le_trans (unhide HB5).size hr
  have hsw : w.heap.size ≤ s := by omega
  have hg1L : g1 < L0 := by have := hF.a.blk.lt; omega
  have hvL := hide (show ∀ b, Value.ownBlock (.slice Av1 N cv1) = some b → b < L0 from fun b hb => by have := (hF.a.own.lt b hb).2; omega)
  have hwL : w.heap.size ≤ L0 := by have := (unhide hB7).size; omega
  have F0 := hide hF
  have R0 := hide (OwnRows.zero (L0 := L0) (W := W7) (V := fun _ => .slice none 0 0) (xs := fun _ => []))
  have z0 : L0 ≤ W7.heap.size := by omega
  have HHH := Lib.hid hH
  have HDD := Lib.hid hD
  clear hrd2 hb7 hN6 hbw6 hb57 hF HP1 HP2 HRD1 HB5 HB6 hL0 hlo1 hlo2 hys hD hH
  have hK0 := hide (put_any n W7 hn)
  go_wp2_with fail
  refine (unhide hK0).mono ?_
  rintro e X1 ⟨u0, rfl, ho, hb⟩
  obtain ⟨l0, hl0⟩ : ∃ l, (form n).length = l := ⟨_, rfl⟩
  rw [hl0] at ho
  obtain ⟨B0, d0, rfl⟩ := ho.shape
  have hlb0 : l0 ≤ 10 := by have := (form_len n).2; omega
  have R1 := hide ((unhide R0).next (Chg.of_below hb (fun _ => False)) (fun _ _ h => h) z0 hl0 ho)
  have F1 := hide ((unhide F0).below hb)
  have hB8 := hide ((unhide hB7).trans (hb.mono (unhide hB7).size))
  have z1 := Nat.le_trans z0 hb.size
  have HL0 := Lib.hid hl0
  clear ho hb hl0 hK0 R0 F0 hB7
  have hK1 := hide (put_any m X1 hm)
  go_wp2_with fail
  refine (unhide hK1).mono ?_
  rintro e X2 ⟨u1, rfl, ho, hb⟩
  obtain ⟨l1, hl1⟩ : ∃ l, (form m).length = l := ⟨_, rfl⟩
  rw [hl1] at ho
  obtain ⟨B1, d1, rfl⟩ := ho.shape
  have hlb1 : l1 ≤ 10 := by have := (form_len m).2; omega
  have R2 := hide ((unhide R1).next (Chg.of_below hb (fun _ => False)) (fun _ _ h => h) z1 hl1 ho)
  have F2 := hide ((unhide F1).below hb)
  have hB9 := hide ((unhide hB8).trans (hb.mono (unhide hB8).size))
  have z2 := Nat.le_trans z1 hb.size
  have HL1 := Lib.hid hl1
  clear ho hb hl1 hK1 R1 F1 hB8
  have hK2 := hide (put_any n X2 hn)
  go_wp2_with fail
  refine (unhide hK2).mono ?_
  rintro e X3 ⟨u2, rfl, ho, hb⟩
  obtain ⟨l2, hl2⟩ : ∃ l, (form n).length = l := ⟨_, rfl⟩
  rw [hl2] at ho
  obtain ⟨B2, d2, rfl⟩ := ho.shape
  have hlb2 : l2 ≤ 10 := by have := (form_len n).2; omega
  have R3 := hide ((unhide R2).next (Chg.of_below hb (fun _ => False)) (fun _ _ h => h) z2 hl2 ho)
  have F3 := hide ((unhide F2).below hb)
  have hB10 := hide ((unhide hB9).trans (hb.mono (unhide hB9).size))
  have z3 := Nat.le_trans z2 hb.size
  have HL2 := Lib.hid hl2
  clear ho hb hl2 hK2 R2 F2 hB9
  have ho := (unhide F3).a.own
  rw [hlb] at ho
  have hK3 := hide (bytes_made X3 g1 Av1 N cv1 X3.heap.size bs (unhide F3).a.blk (Reads.of_own ho) (by omega))
  clear ho
  go_wp2_with fail
  refine (unhide hK3).mono ?_
  rintro e X4 ⟨u3, rfl, ho, hb⟩
  obtain ⟨B3, d3, rfl⟩ := ho.shape
  have R4 := hide ((unhide R3).next (Chg.of_below hb (fun _ => False)) (fun _ _ h => h) z3 hlb ho)
  have F4 := hide ((unhide F3).below hb)
  have hB11 := hide ((unhide hB10).trans (hb.mono (unhide hB10).size))
  have z4 := Nat.le_trans z3 hb.size
  clear ho hb hK3 R3 F3 hB10
  have ho := (unhide F4).b.own
  rw [hM] at ho
  have hK4 := hide (bytes_made X4 (g1 + 1) Av2 M cv2 X4.heap.size ys (unhide F4).b.blk (Reads.of_own ho) (by omega))
  clear ho
  go_wp2_with fail
  refine (unhide hK4).mono ?_
  rintro e X5 ⟨u4, rfl, ho, hb⟩
  obtain ⟨B4, d4, rfl⟩ := ho.shape
  have R5 := hide ((unhide R4).next (Chg.of_below hb (fun _ => False)) (fun _ _ h => h) z4 hM ho)
  have F5 := hide ((unhide F4).below hb)
  have hB12 := hide ((unhide hB11).trans (hb.mono (unhide hB11).size))
  have z5 := Nat.le_trans z4 hb.size
  clear ho hb hK4 R4 F4 hB11
  have ho := (unhide F5).a.own
  rw [hlb] at ho
  have hK5 := hide (bytes_made X5 g1 Av1 N cv1 X5.heap.size bs (unhide F5).a.blk (Reads.of_own ho) (by omega))
  clear ho
  go_wp2_with fail
  refine (unhide hK5).mono ?_
  rintro e X6 ⟨u5, rfl, ho, hb⟩
  obtain ⟨B5, d5, rfl⟩ := ho.shape
  have R6 := hide ((unhide R5).next (Chg.of_below hb (fun _ => False)) (fun _ _ h => h) z5 hlb ho)
  have F6 := hide ((unhide F5).below hb)
  have hB13 := hide ((unhide hB12).trans (hb.mono (unhide hB12).size))
  have z6 := Nat.le_trans z5 hb.size
  clear ho hb hK5 R5 F5 hB12
  have hQ := raw_made X6 r A1 N c1 bs 0 0 (H : Int) (unhide F6).rr (by omega)
  rw [raw_half (by omega)] at hQ
  simp only at hQ
  have hK6 := hide hQ
  have HHQ := HHH.out
  have HDQ := HDD.out
  clear hQ
  go_wp2_with fail
  clear HHQ HDQ
  refine (unhide hK6).mono ?_
  rintro e X7 ⟨u6, rfl, ho, ha⟩
  obtain ⟨l6, hl6⟩ : ∃ l, (bs.take H).length = l := ⟨_, rfl⟩
  rw [hl6] at ho
  obtain ⟨B6, d6, rfl⟩ := ho.shape
  have hlb6 : l6 ≤ N := by rw [← hl6, List.length_take]; omega
  have R7 := hide ((unhide R6).next ha.2 (fun i h1 e => by omega) z6 hl6 ho)
  have F7 := hide ((unhide F6).rd ha)
  have hB14 := hide ((unhide hB13).trans (ha.2.below (unhide hB13).size (fun i h1 e => by omega)))
  have z7 := Nat.le_trans z6 ha.2.size
  have HL6 := Lib.hid hl6
  clear ho ha hl6 hK6 R6 F6 hB13
  have hQ := raw_made X7 s A2 N c2 bs 0 0 (N : Int) (unhide F7).ss (by omega)
  rw [raw_whole hlb] at hQ
  simp only at hQ
  have hK7 := hide hQ
  have HHQ := HHH.out
  have HDQ := HDD.out
  clear hQ
  go_wp2_with fail
  clear HHQ HDQ
  refine (unhide hK7).mono ?_
  rintro e X8 ⟨u7, rfl, ho, ha⟩
  obtain ⟨l7, hl7⟩ : ∃ l, bs.length = l := ⟨_, rfl⟩
  rw [hl7] at ho
  obtain ⟨B7, d7, rfl⟩ := ho.shape
  have hlb7 : l7 ≤ N := by omega
  have R8 := hide ((unhide R7).next ha.2 (fun i h1 e => by omega) z7 hl7 ho)
  have F8 := hide ((unhide F7).sd ha)
  have hB15 := hide ((unhide hB14).trans (ha.2.below (unhide hB14).size (fun i h1 e => by omega)))
  have z8 := Nat.le_trans z7 ha.2.size
  have HL7 := Lib.hid hl7
  clear ho ha hl7 hK7 R7 F7 hB14
  have hQ := raw_made X8 r A1 N c1 bs H 0 (D : Int) (unhide F8).rr (by omega)
  rw [raw_rest hlb hD1] at hQ
  simp only at hQ
  have hK8 := hide hQ
  have HHQ := HHH.out
  have HDQ := HDD.out
  clear hQ
  go_wp2_with fail
  clear HHQ HDQ
  refine (unhide hK8).mono ?_
  rintro e X9 ⟨u8, rfl, ho, ha⟩
  obtain ⟨l8, hl8⟩ : ∃ l, ((bs.drop H).take D).length = l := ⟨_, rfl⟩
  rw [hl8] at ho
  obtain ⟨B8, d8, rfl⟩ := ho.shape
  have hlb8 : l8 ≤ N := by rw [← hl8, List.length_take, List.length_drop]; omega
  have R9 := hide ((unhide R8).next ha.2 (fun i h1 e => by omega) z8 hl8 ho)
  have F9 := hide ((unhide F8).rd ha)
  have hB16 := hide ((unhide hB15).trans (ha.2.below (unhide hB15).size (fun i h1 e => by omega)))
  have z9 := Nat.le_trans z8 ha.2.size
  have HL8 := Lib.hid hl8
  clear ho ha hl8 hK8 R8 F8 hB15
  go_wp2_with fail
  obtain ⟨V, VS, xs, ln, hVS, hRows, hlen, hat, hln⟩ : ∃ (V : Nat → Value) (VS : Array Value) (xs : Nat → List UInt8) (ln : Nat → Nat), #[.slice B0 l0 d0, .slice B1 l1 d1, .slice B2 l2 d2, .slice B3 N d3, .slice B4 M d4, .slice B5 N d5, .slice B6 l6 d6, .slice B7 l7 d7, .slice B8 l8 d8] = VS ∧ OwnRows L0 X9 9 V xs ∧ (∀ i, (xs i).length = ln i) ∧ (∀ i, i < 9 → VS[i]? = some (V i)) ∧ ∀ i, i < 9 → ln i ≤ N + 10 := by
    refine ⟨_, _, _, _, rfl, unhide R9, fun _ => rfl, fun i hi => ?_, fun i hi => ?_⟩
    · match i, hi with
      | 0, _ => rfl
      | 1, _ => rfl
      | 2, _ => rfl
      | 3, _ => rfl
      | 4, _ => rfl
      | 5, _ => rfl
      | 6, _ => rfl
      | 7, _ => rfl
      | 8, _ => rfl
    · match i, hi with
      | 0, _ => exact Nat.le_trans (Nat.le_of_eq HL0.out) (by omega)
      | 1, _ => exact Nat.le_trans (Nat.le_of_eq HL1.out) (by omega)
      | 2, _ => exact Nat.le_trans (Nat.le_of_eq HL2.out) (by omega)
      | 3, _ => exact Nat.le_trans (Nat.le_of_eq hlb) (by omega)
      | 4, _ => exact Nat.le_trans (Nat.le_of_eq hM) (by omega)
      | 5, _ => exact Nat.le_trans (Nat.le_of_eq hlb) (by omega)
      | 6, _ => exact Nat.le_trans (Nat.le_of_eq HL6.out) (by omega)
      | 7, _ => exact Nat.le_trans (Nat.le_of_eq HL7.out) (by omega)
      | 8, _ => exact Nat.le_trans (Nat.le_of_eq HL8.out) (by omega)
  obtain ⟨X, hX⟩ : ∃ X, X9.heap.size = X := ⟨_, rfl⟩
  obtain ⟨W0, hW0⟩ : ∃ W, X9.alloc (.cells VS 22) = W := ⟨_, rfl⟩
  have hbX : Below X9.heap.size X9 W0 := by rw [← hW0]; exact (Below.refl _ _).alloc (Nat.le_refl _) _
  have hXB : Blk W0 X 22 VS := by rw [← hW0, ← hX]; exact Blk.new _ _ _
  have hCst : Cst L0 X V VS := ⟨hRows.apart, fun i hi b hb => by rw [← hX]; exact ((hRows.own i hi).lt b hb).2, hat, by omega⟩
  have CST := hide hCst
  have ROWS := hide (hRows.chg (Chg.of_below hbX (fun _ => False)) (fun _ _ h => h))
  have FIN := hide ((unhide F9).below hbX)
  have BEL := hide ((unhide hB16).trans (hbX.mono (unhide hB16).size))
  have XB := hide hXB
  have LEN := hide hlen
  have LN := hide hln
  have AT := hide hat
  have hL0 : L0 ≤ W0.heap.size := Nat.le_trans z9 hbX.size
  rw [hVS, hW0, hX]
  clear hVS hRows hlen hat hX hW0 hbX hXB hCst R9 F9 hB16 hln
  go_loopg [12] 9 (fun q t W => ∃ (i : Nat) (xs : Nat → List UInt8), i + q = 9 ∧ t = .int .i64 (i : Int) ∧ OwnRows L0 W 9 V xs ∧ (∀ i, (xs i).length = ln i) ∧ (∀ i', i' < i → xs i' = fills (ln i') i') ∧ Blk W X 22 VS ∧ Below L0 W0 W)
  case atStart => exact ⟨0, xs, by omega, rfl, unhide ROWS, unhide LEN, fun i' h => by omega, unhide XB, Below.refl _ _⟩
  case round =>
    obtain ⟨i, xs1, hiq, rfl, hrows, hlen1, hdone, hxb, hbel⟩ := hrel
    clear ROWS XB LEN
    by_cases hi : i < 9
    · obtain ⟨q, rfl⟩ : ∃ q, gk = q + 1 := ⟨gk - 1, by omega⟩
      have hi9 : (i : Int) < 9 := by omega
      have ROWS := hide hrows
      have LEN := hide hlen1
      have DONE := hide hdone
      have XB := hide hxb
      have BEL1 := hide hbel
      clear hrows hlen1 hdone hxb hbel
      go_wp2_with fail
      obtain ⟨wo, rfl⟩ : ∃ wo : World, wo = wr := ⟨_, rfl⟩
      go_loopg [13] (ln i) (fun q t W => ∃ (k : Nat) (xs : Nat → List UInt8), k + q = ln i ∧ t = .int .i64 (k : Int) ∧ OwnRows L0 W 9 V xs ∧ (∀ i, (xs i).length = ln i) ∧ (∀ i', i' < i → xs i' = fills (ln i') i') ∧ (xs i).take k = fills k i ∧ Blk W X 22 VS ∧ Below L0 W0 W)
      case atStart => exact ⟨0, xs1, by omega, rfl, unhide ROWS, unhide LEN, unhide DONE, rfl, unhide XB, unhide BEL1⟩
      case round =>
        obtain ⟨k, xs2, hkq, rfl, hrows, hlen2, hdone, htake, hxb, hbel⟩ := hrel
        clear ROWS XB LEN BEL1 DONE
        have how := hrows.own i hi
        rw [hlen2] at how
        obtain ⟨Ai, ci, hVi⟩ := how.shape
        have cX : wr.cell? ⟨X, i, none⟩ = some (.slice Ai (ln i) ci) := by rw [← hVi]; exact (hxb.cell i).trans (unhide AT i hi)
        obtain ⟨li, hli⟩ : ∃ l, ln i = l := ⟨_, rfl⟩
        have hlN := unhide LN i hi
        rw [hli] at hlN
        have HLI := Lib.hid hli
        have hk0 : (0 : Int) ≤ (k : Int) := by omega
        by_cases hk : k < ln i
        · obtain ⟨q2, rfl⟩ : ∃ q, gk = q + 1 := ⟨gk - 1, by omega⟩
          obtain ⟨b, cap, hv, hbL, hblt⟩ := how.form (by omega)
          have hst := hrows.store hi (hlen2 i) hv k (fa i)
          rw [hv] at hVi how
          injection hVi with hA _ hc
          subst hA hc
          obtain ⟨c, hc⟩ : ∃ c, (xs2 i)[k]? = some c := ⟨_, List.getElem?_eq_getElem (by rw [hlen2]; exact hk)⟩
          have hcell : wr.cell? ⟨b, k, none⟩ = some (bv c) := by rw [how.cellAt k (by omega), List.getElem?_map, hc]; rfl
          have hf : wr.frozen? ⟨b, k, none⟩ = false := how.frozenAt k
          have hbX : b ≠ X := fun e => own_blk_ne how hxb (by decide) (by rw [← e]; rfl)
          rw [hli] at cX
          have hkl : (k : Int) < (li : Int) := by omega
          have hi0 : (0 : Int) ≤ (i : Int) := by omega
          rw [bv_fa hi] at hst
          have HST := hide hst
          have LEN := hide hlen2
          have DONE := hide hdone
          have TAKE := hide htake
          have XB := hide hxb
          have BEL1 := hide hbel
          clear hst hlen2 hdone htake hxb hbel how hrows hc hli hv
          go_wp2_with fail
          go_roundg q2
          case rel =>
            refine ⟨k + 1, upd xs2 i ((xs2 i).set k (fa i)), by omega, by go_num, (unhide HST).1, fun i' => ?_, fun i' h1 => ?_, ?_, (unhide XB).far (fun e => hbX e.symm) _, (unhide BEL1).setCell (by exact hbL) _⟩
            · by_cases e : i' = i
              · subst e; rw [upd_same, List.length_set]; exact unhide LEN i'
              · rw [upd_ne _ _ e]; exact unhide LEN i'
            · rw [upd_ne _ _ (by omega)]; exact unhide DONE i' h1
            · rw [upd_same]; exact set_take (by rw [unhide LEN i]; exact hk) (unhide TAKE)
          case measure => omega
        · obtain rfl : ln i = k := by omega
          rw [hli] at cX
          have hxe : xs2 i = fills (ln i) i := by rw [← htake, List.take_of_length_le (by rw [hlen2]; exact Nat.le_refl _)]
          have HXE := Lib.hid hxe
          have HROWS := hide hrows
          have LEN := hide hlen2
          have DONE := hide hdone
          have XB := hide hxb
          have BEL1 := hide hbel
          clear hlen2 hdone htake hxb hbel how hrows hxe hVi
          go_wp2_with fail
          go_roundg q
          case rel =>
            refine ⟨i + 1, xs2, by omega, by go_num, unhide HROWS, unhide LEN, fun i' h1 => ?_, unhide XB, unhide BEL1⟩
            by_cases e : i' = i
            · subst e; exact HXE.out
            · exact unhide DONE i' (by omega)
          case measure => omega
    · obtain rfl : i = 9 := by omega
      have hG0 : Gr0 L0 X V VS ln W0 wr 0 (.slice none 0 0) (fun _ => .slice none 0 0) := by
        have hr : ∀ i', i' < 9 → wr.ownsRow L0 5 1 (V i') (ln i') ((fills (ln i') i').map bv) := fun i' h1 => by
          have := hrows.own i' h1
          rw [hlen1, hdone i' h1] at this
          exact this
        exact ⟨fun i' h1 => Hd.of_own (fills_len _ _) (hr i' h1), fun i' _ h2 => hr i' h2, World.ownsRow_nil _ _ _ _, fun j hj => by omega, fun j hj => by omega, hxb, hbel⟩
      have HG0 := hide hG0
      clear hG0 hrows hlen1 hdone hxb hbel
      go_wp2_with fail
      go_loopg [14, 15] 9 (fun q t j W => ∃ (i : Nat) (G : Nat → Value), i + q = 9 ∧ j = .int .i64 (i : Int) ∧ Gr0 L0 X V VS ln W0 W i t G)
      case atStart => exact ⟨0, _, by omega, rfl, unhide HG0⟩
      case round =>
        obtain ⟨i, G, hiq, rfl, hgr⟩ := hrel
        clear HG0
        by_cases hi : i < 9
        · obtain ⟨q, rfl⟩ : ∃ q, gk = q + 1 := ⟨gk - 1, by omega⟩
          have hi9 : (i : Int) < 9 := by omega
          have hi0 : (0 : Int) ≤ (i : Int) := by omega
          have hE := hgr.enter (unhide CST) hi
          obtain ⟨Ai, ci, hVi⟩ := hE.cur.shape
          rw [Nat.add_zero] at hVi
          obtain ⟨At, ct, rfl⟩ := hgr.trow.shape
          have cX : wr.cell? ⟨X, i, none⟩ = some (.slice Ai (ln i) ci) := by rw [← hVi]; exact (hgr.xb.cell i).trans (unhide AT i hi)
          rw [hVi] at hE
          have HE := hide hE
          have HVI := Lib.hid hVi
          clear hE hgr hVi
          go_wp2_with fail
          obtain ⟨wo, rfl⟩ : ∃ wo : World, wo = wr := ⟨_, rfl⟩
          go_loopg [14, 16, 17] 20 (fun q t l kk W => ∃ (k : Nat) (G : Nat → Value), k + q = 20 ∧ kk = .int .i64 (k : Int) ∧ Gr L0 X V VS ln W0 W i k t G l)
          case atStart => exact ⟨0, G, by omega, rfl, unhide HE⟩
          case round =>
            obtain ⟨k, G2, hkq, rfl, hgr⟩ := hrel
            clear HE cX
            obtain ⟨Al, cl, rfl⟩ := hgr.cur.shape
            obtain ⟨At2, ct2, rfl⟩ := hgr.trow.shape
            by_cases hk : k < 20
            · obtain ⟨q2, rfl⟩ : ∃ q, gk = q + 1 := ⟨gk - 1, by omega⟩
              have hk20 : (k : Int) < 20 := by omega
              have hcur := hgr.cur.alloc (.cells #[.int .u8 (3 * (i : Int) + 1)] 5)
              have hsrc : Src Try.prog 1 22 (.slice (some ⟨wr.heap.size, 0, none⟩) 1 1) 1 [.int .u8 (3 * (i : Int) + 1)] (wr.alloc (.cells #[.int .u8 (3 * (i : Int) + 1)] 5)) :=
                Src.ofSlice _ Try.underlying22 ⟨wr.heap.size, 0, none⟩ 1 1 _ rfl (fun j u' hu => by
                  match j, hu with
                  | 0, hu =>
                    simp at hu
                    subst hu
                    simp [Addr.add, World.cell?_alloc_at]) (fun u' hu => by
                  simp at hu
                  subst hu
                  rfl)
              have hlN := unhide LN i hi
              have HC1 : Hid (ln i + k + 1 ≤ maxLen ∧ (ln i + k + 1) * 1 ≤ 140737488355328) := cap1 (by omega)
              have HC2 : Hid (20 * i + k + 1 ≤ maxLen ∧ (20 * i + k + 1) * 24 ≤ 140737488355328) := cap24 (by omega)
              have hLw : L0 ≤ (wr.alloc (.cells #[.int .u8 (3 * (i : Int) + 1)] 5)).heap.size := by rw [World.size_alloc]; have := hgr.bel.size; omega
              have HGR := hide hgr
              have HCUR := hide hcur
              have HSRC := hide hsrc
              clear hgr hcur hsrc hlN
              go_wp2_with (first
                | (at_builtin
                   refine wpList_app_src _ rfl (.tmp 116) (.tmp 121) 22 22 rfl elem_u8 L0 (.slice Al (ln i + k) cl) (ln i + k) ((grows (ln i) i k).map bv) rfl (unhide HCUR) _ 1 [.int .u8 (3 * (i : Int) + 1)] rfl (unhide HSRC) HC1.out hLw ?_
                   intro v2 w2 ho2 how2
                   obtain ⟨ht2, hz2⟩ := (unhide HGR).trow2 how2
                   obtain ⟨A2', c2', rfl⟩ := ho2.shape
                   have HO2 := hide ho2
                   have HOW2 := hide how2
                   have HT2 := hide ht2
                   clear ho2 how2 ht2)
                | (at_builtin
                   refine wpList_app1 w2 rfl (.tmp 123) (.tmp 125) 39 rfl elem_sl (X + 1) (.slice At2 (20 * i + k) ct2) (20 * i + k) ((List.range (20 * i + k)).map G2) rfl (unhide HT2) (.slice A2' (ln i + k + 1) c2') w2.heap.size rfl rfl rfl HC2.out hz2 ?_
                   intro v4 w4 ho4 hg4 hr4
                   obtain ⟨A4', c4', rfl⟩ := ho4.shape
                   have HO4 := hide ho4
                   have HG4 := hide hg4
                   clear ho4 hg4 hr4))
              go_roundg q2
              case rel =>
                refine ⟨k + 1, upd G2 (20 * i + k) (.slice A2' (ln i + k + 1) c2'), by omega, by go_num, (unhide HGR).step (unhide CST) hi hk (by rw [bv_fb hi]; exact unhide HO2) (by rw [bv_fb hi]; exact unhide HOW2) (unhide HO4) (unhide HG4)⟩
              case measure => omega
            · obtain rfl : k = 20 := by omega
              have HL := hide hgr.leave
              clear hgr
              go_wp2_with fail
              go_roundg q
              case rel => exact ⟨i + 1, G2, by omega, by go_num, unhide HL⟩
              case measure => omega
        · obtain rfl : i = 9 := by omega
          have hrow : wr.ownsRow (X + 1) 22 1 _ 180 ((List.range 180).map G) := hgr.trow
          obtain ⟨Y, ct, rfl, _, _⟩ := hrow.form (by omega)
          have hcY : ∀ j, j < 180 → wr.cell? ⟨Y, j, none⟩ = some (G j) := fun j hj => by
            rw [hrow.cellAt j (by omega), List.getElem?_map, List.getElem?_range hj]; rfl
          have hgot : ∀ j, j < 180 → Hd wr (G j) (cont ln j) := hgr.got
          have HCY := hide hcY
          have HGOT := hide hgot
          have HOLD := hide hgr.old
          have HXB := hide hgr.xb
          have HBEL := hide hgr.bel
          clear hgr hrow hcY hgot
          go_wp2_with fail
          obtain ⟨wf, rfl⟩ : ∃ wf : World, wf = wr := ⟨_, rfl⟩
          go_loopg [18] 180 (fun q t W => ∃ j : Nat, j + q = 180 ∧ t = .int .i64 (j : Int) ∧ wf = W)
          case atStart => exact ⟨0, by omega, rfl, rfl⟩
          case round =>
            obtain ⟨j, hjq, rfl, rfl⟩ := hrel
            by_cases hj : j < 180
            · obtain ⟨q, rfl⟩ : ∃ q, gk = q + 1 := ⟨gk - 1, by omega⟩
              have hj180 : (j : Int) < 180 := by omega
              have hj0 : (0 : Int) ≤ (j : Int) := by omega
              obtain ⟨i, hi, hji⟩ : ∃ i, i < 9 ∧ j / 20 = i := ⟨j / 20, by omega, rfl⟩
              have hjI : (j : Int) / 20 = (i : Int) := by omega
              have hG := unhide HGOT j hj
              have hV := unhide HOLD i hi
              obtain ⟨Lj, hLj⟩ : ∃ L, (cont ln j).length = L := ⟨_, rfl⟩
              obtain ⟨Bj, cj, hGj⟩ := hG.shape
              obtain ⟨Ai, ci, hVi⟩ := hV.shape
              rw [hLj] at hGj
              rw [fills_len] at hVi
              obtain ⟨li, hli⟩ : ∃ l, ln i = l := ⟨_, rfl⟩
              rw [hli] at hVi
              have cY : wf.cell? ⟨Y, j, none⟩ = some (.slice Bj Lj cj) := by rw [← hGj]; exact unhide HCY j hj
              have cX : wf.cell? ⟨X, i, none⟩ = some (.slice Ai li ci) := by rw [← hVi]; exact ((unhide HXB).cell i).trans (unhide AT i hi)
              have hLb : Lj = li + (j % 20 + 1) := by rw [← hLj, cont_len, hji, hli]
              have hlN := unhide LN i hi
              rw [hli] at hlN
              have hgrow : cont ln j = grows li i (j % 20 + 1) := by rw [cont, hji, hli]
              rw [hgrow] at hG
              rw [hli] at hV
              have hi0 : (0 : Int) ≤ (i : Int) := by omega
              have hi9 : (i : Int) < 9 := by omega
              obtain ⟨jm, hjm⟩ : ∃ m, j % 20 + 1 = m := ⟨_, rfl⟩
              rw [hjm] at hG hLb
              have hjm20 : jm ≤ 20 := by omega
              have HG := hide hG
              have HV := hide hV
              have HGJ := Lib.hid hGj
              have HVI := Lib.hid hVi
              clear hG hV hGj hVi hLj hli hgrow hjm hji
              go_wp2_with fail
              go_loopg [20] Lj (fun q t W => ∃ k : Nat, k + q = Lj ∧ t = .int .i64 (k : Int) ∧ wf = W)
              case atStart => exact ⟨0, by omega, rfl, rfl⟩
              case round =>
                obtain ⟨k, hkq, rfl, rfl⟩ := hrel
                have hk0 : (0 : Int) ≤ (k : Int) := by omega
                by_cases hk : k < Lj
                · obtain ⟨q2, rfl⟩ : ∃ q, gk = q + 1 := ⟨gk - 1, by omega⟩
                  have hkL : (k : Int) < (Lj : Int) := by omega
                  by_cases hkl : k < li
                  · obtain ⟨b, rfl, hcb⟩ := (unhide HG).cell HGJ.out (grows_front (i := i) (k := jm) hkl)
                    obtain ⟨b', rfl, hcb'⟩ := (unhide HV).cell HVI.out (fills_at (i := i) hkl)
                    rw [bv_fa hi] at hcb hcb'
                    have hkI : (k : Int) < (li : Int) := by omega
                    go_wp2_with fail
                    go_roundg q2
                    case rel => exact ⟨k + 1, by omega, by go_num, rfl⟩
                    case measure => omega
                  · obtain ⟨b, rfl, hcb⟩ := (unhide HG).cell HGJ.out (grows_back (i := i) (k := jm) (Nat.le_of_not_lt hkl) (by omega))
                    rw [bv_fb hi] at hcb
                    have hkI : (li : Int) ≤ (k : Int) := by omega
                    go_wp2_with fail
                    go_roundg q2
                    case rel => exact ⟨k + 1, by omega, by go_num, rfl⟩
                    case measure => omega
                · obtain rfl : Lj = k := by omega
                  go_wp2_with fail
                  go_roundg q
                  case rel => exact ⟨j + 1, by omega, by go_num, rfl⟩
                  case measure => omega
            · have hb := unhide HBEL
              have hF := unhide FIN
              have hc : Chg W0 wf (fun i => L0 ≤ i) := ⟨hb.os, hb.tape, hb.output, hb.size, fun i _ h2 => hb.block i (by omega)⟩
              have ha := hF.a.chg hc (by omega) (fun b h1 h2 => by have := unhide hvL b h1; omega)
              have hrr := hF.rr.chg hc (fun i h1 h2 => by omega)
              have hss := hF.ss.chg hc (fun i h1 h2 => by omega)
              have hbw : Below w.heap.size w wf := (unhide BEL).trans (hb.mono hwL)
              have how := ha.own
              rw [hlb] at how
              have hK := hide (bytes_made wf g1 Av1 N cv1 wf.heap.size bs ha.blk (Reads.of_own how) (by omega))
              have HRR := hide hrr
              have HSS := hide hss
              have HBW := hide hbw
              clear hb hF hc ha hrr hss hbw how
              go_wp2_with fail
              refine (unhide hK).mono ?_
              rintro e w9 ⟨v9, rfl, ho9, hb9⟩
              obtain ⟨A9, c9, rfl⟩ := ho9.shape
              have hbw9 := (unhide HBW).trans (hb9.mono (unhide HBW).size)
              have hS := same_any A9 Ab N c9 N cb bs bs w9 w9.heap.size (Reads.of_own ho9) (((unhide HRB).below hbw9).more hbw9.size)
              rw [show (bs == bs) = true by simp] at hS
              have HS := hide hS
              have hL := left_made w9 s A2 N c2 bs N 0 ((unhide HSS).chg (Chg.of_below hb9 (fun _ => False)) (fun _ _ h => h))
              rw [Nat.sub_self] at hL
              have HL := hide hL
              have HR9 := hide ((unhide HRR).chg (Chg.of_below hb9 (fun _ => False)) (fun _ _ h => h))
              have HBW9 := hide hbw9
              clear ho9 hb9 hbw9 hS hL HBW HRR HSS hK
              go_wp2_with fail
              refine (unhide HS).mono ?_
              rintro e w10 ⟨rfl, rfl⟩
              go_wp2_with fail
              refine (unhide HL).mono ?_
              rintro e w10 ⟨rfl, q9, rfl⟩
              have hE := hide (err_made _ r A1 N c1 bs N 0 ((unhide HR9).drewN q9))
              go_wp2_with fail
              refine (unhide hE).mono ?_
              rintro e w10 ⟨rfl, rfl⟩
              go_wp2_with fail
              go_ret
              exact ⟨rfl, below_drewN (unhide HBW9) _⟩
end Go.Proofs.Ytbofjboebkfjgaa
