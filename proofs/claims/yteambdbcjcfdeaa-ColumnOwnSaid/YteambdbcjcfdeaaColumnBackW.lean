/-
  ColumnBack: the walk over the law's text. Condition: fewer than 2^45 numbers.
-/
import Derived.Test.YteambdbcjcfdeaaColRefuse
import Derived.Test.YteambdbcjcfdeaaColAwake
import Derived.Test.YteambdbcjcfdeaaColLent
import Derived.Test.YteambdbcjcfdeaaAppGuard
namespace Go.Proofs.Yteambdbcjcfdeaa
open Go.RowKit

theorem own_cut {w : World} {base g cap N k : Nat} {e : TypeId} {xs : List Value} (h : w.ownsRow base e 1 (.slice (some ⟨g, 0, none⟩) N cap) N xs) (hk : k ≤ N) : w.ownsRow base e 1 (.slice (some ⟨g, 0, none⟩) k cap) k (xs.take k) := by
  have hx := h.1
  rcases h.2 with ⟨h', _⟩ | ⟨g', cap', cur, h', hb, hh, hnc, hcm, hcs, ht⟩
  · cases h'
  · cases h'
    refine ⟨by rw [List.length_take, hx]; omega, .inr ⟨g, cap, cur, rfl, hb, hh, by omega, hcm, hcs, ?_⟩⟩
    rw [← ht, List.take_take]
    congr 1
    omega
theorem run_head {t e : TypeId} {size bytes : Nat} (he : ElemOf Try.prog t e size bytes) {A : Option Addr} {n N cap : Nat} (h : n ≤ cap) (w : World) :
    (Instr.slice t (.slice A N cap) none (some (.int .i64 (n : Int))) none).run Try.prog w = .ok (.slice A n cap) w := by
  obtain ⟨⟨i, z, h1, h2, h3, h4, h5, h6⟩, _⟩ := he
  have hE : Try.prog.elem t = e := by simp [Program.elem, h1]
  have h0 : (A.map fun x => x.add 0) = A := by cases A <;> simp [Addr.add]
  rw [run_slice_h w t _ N cap (by rw [hE]; exact h1) .i64 n (by omega) (by omega), hE]
  simp [sizeOf, typeInfo, h2, Result.andThen, sliced, h0]

set_option maxRecDepth 100000 in
set_option maxHeartbeats 2000000 in
theorem colBackA (A : Option Addr) (n cap : Nat) (cs : List UInt32) (x y : Int) (m : Nat) (w : World) (hr : Reads w w.heap.size 1 A n (cs.map uw)) (hm : m < 256) (hn : n ≤ 65536) :
    Calls Try.prog 7 #[.slice A n cap, .int .i64 x, .int .i64 y, .int .u8 (m : Int)] w fun e w' => e = .returned (.bool true) ∧ Below w.heap.size w w' := by
  have hlen : cs.length = n := by have := hr.1; simpa using this
  have HLEN := Lib.hid hlen
  have HA := hide (awake5_any w)
  have HNum := fun x w => hide (num5_any x w)
  have HR := hide hr
  obtain ⟨g0, hg0⟩ : ∃ g, w.heap.size = g := ⟨_, rfl⟩
  clear hr hlen
  go_enter Try.func7, Try.ntmps7
  go_wp2_with fail
  refine (unhide HA).mono ?_
  rintro e w1 ⟨rfl, hb1⟩
  clear HA
  have HB1 := hide hb1
  clear hb1

  have hE := hide (encode_any cs A n cap w.heap.size w1 ((unhide HR).below (unhide HB1)) (unhide HB1).size hn)
  go_wp2_with fail
  refine (unhide hE).mono ?_
  rintro e w2 ⟨v2, rfl, ho2, hb2⟩
  obtain ⟨A2, c2, rfl⟩ := ho2.shape
  obtain ⟨L, hL⟩ : ∃ L, (pageS cs).length = L := ⟨_, rfl⟩
  have hL5 : L ≤ 5 * n + 1 := by rw [← hL, ← HLEN.out]; exact page_len cs
  have hL1 : 1 ≤ L := by rw [← hL, pageS, List.length_cons]; omega
  obtain ⟨P, hP⟩ : ∃ P, pageS cs = P := ⟨_, rfl⟩
  have HP := Lib.hid hP
  rw [hL] at ho2
  rw [hP] at ho2 hL
  have HLP := Lib.hid hL
  rw [hP, hL]

  have hD := hide (decode_any A2 L c2 w2.heap.size (n : Int) P w2 (Reads.of_own ho2) (Nat.le_refl _) (by omega) (own_caps ho2).1)
  have hcap2 := (own_caps ho2).1
  have HO2 := hide ho2
  have HB2 := hide ((unhide HB1).trans (hb2.mono (unhide HB1).size))
  clear ho2 hb2 hL hE hP
  go_wp2_with fail
  refine (unhide hD).mono ?_
  rintro e w3 ⟨A3, d, k, rfl, hr3, hf3, hb3, hdec⟩
  obtain ⟨hk0, hdc⟩ : k = 0 ∧ d = cs := by
    rcases hdec with ⟨_, _, h⟩ | ⟨_, _, ⟨_, _, h⟩ | ⟨h0, _, _, h⟩⟩
    · omega
    · exact absurd HP.out (h cs (by rw [HLEN.out, Int.toNat_natCast]))
    · exact ⟨h0, h cs (by rw [HLEN.out, Int.toNat_natCast]) HP.out⟩
  subst hk0
  rw [hdc, HLEN.out] at hr3
  rw [hdc, HLEN.out]
  have hb3' := (unhide HB2).trans (hb3.mono (unhide HB2).size)
  have hA := alike_any A3 A n n n cap cs cs w3 w3.heap.size hr3 (((unhide HR).below hb3').more hb3'.size) (by omega) (Nat.le_refl _)
  rw [beq_self_eq_true] at hA
  have hAl := hide hA
  have HB3 := hide hb3'
  have HS3 := hide hb3
  have h5 : (L : Int) ≤ 5 * (n : Int) + 1 := by omega
  clear hb3 hb3' hdec hr3 hf3 hA hdc hD
  have hL0 : (L : Int) ≠ 0 := by omega
  have hLp : (0 : Int) < (L : Int) := by omega
  obtain ⟨T, hT⟩ : ∃ T, y.tmod (L : Int) = T := ⟨_, rfl⟩
  have hT1 : T < (L : Int) := by rw [← hT]; exact Int.tmod_lt_of_pos y hLp
  have hT2 : -(L : Int) < T := by rw [← hT]; have := Int.lt_tmod_of_pos y hLp; omega
  have HHT := Lib.hid hT
  by_cases hx : x = (n : Int)
  · subst hx
    by_cases hTn : T < 0
    · obtain ⟨K, hK⟩ := Int.eq_ofNat_of_zero_le (show 0 ≤ T + (L : Int) by omega)
      have hKL : K < L := by omega
      have hKw : wrap64 (T + (L : Int)) = (K : Int) := by rw [hK]; unfold wrap64; omega
      clear hT1 hT2 hK
      have hsl := fun W => run_head elem_u8 (A := A2) (n := K) (N := L) (cap := c2) (by omega) W
      go_wp2_with (first
        | (go_at_call 17; refine (unhide (HNum _ _)).mono ?_; rintro e w4 ⟨rfl, rfl⟩)
        | (go_at_call 25; refine (unhide hAl).mono ?_; rintro e w4 ⟨rfl, hb4⟩))
      have HB4 := hide ((unhide HB3).trans (hb4.mono (unhide HB3).size))
      have HR4 := hide (((Reads.of_own (unhide HO2)).below (unhide HS3)).below (hb4.mono (unhide HS3).size))
      have hz4 : w2.heap.size ≤ w4.heap.size := Nat.le_trans (unhide HS3).size hb4.size
      clear hb4 hAl HS3 HO2
      obtain ⟨w5, hw5⟩ : ∃ w5, w4 = w5 := ⟨_, rfl⟩
      rw [hw5]
      have HB5 := hide (hw5 ▸ unhide HB4)
      have HR5 := hide (hw5 ▸ unhide HR4)
      have hz5 : w2.heap.size ≤ w5.heap.size := hw5 ▸ hz4
      clear hw5
      have hRf := hide (refused_any A2 K c2 w2.heap.size (n : Int) (P.take K) w5 ((unhide HR5).cutTo (by omega)) hz5 (by omega) (by omega))
      refine (unhide hRf).mono ?_
      rintro e w6 ⟨k6, rfl, hk6, hb6⟩
      obtain rfl : k6 = 50 := ref_none hk6 hn (fun c3 hl => by rw [← HP.out]; exact front_none (by rw [HP.out, HLP.out]; exact hKL) (by rw [hl, HLEN.out]) (by rw [HLEN.out]; exact hn))
      have HB6 := hide ((unhide HB5).trans (hb6.mono (unhide HB5).size))
      have HR6 := hide ((unhide HR5).below (hb6.mono hz5))
      have hz6 : w2.heap.size ≤ w6.heap.size := Nat.le_trans hz5 hb6.size
      have hLt := hide (lentBytes_any A2 L c2 P w6 ((unhide HR6).more hz6) (by omega))
      have HCP : Hid (L + 1 ≤ maxLen ∧ (L + 1) * 1 ≤ 140737488355328) := cap1 (by omega)
      clear hb6 hk6 hRf
      go_wp2_with fail
      refine (unhide hLt).mono ?_
      rintro e w7 ⟨g, gc, rfl, hgc, hgm, hg, ho7, hb7⟩
      have ho8 := own_cut ho7 (k := L) (by omega)
      rw [← List.map_take, List.take_append_of_le_length (by rw [HLP.out]; exact Nat.le_refl _), List.take_of_length_le (by rw [HLP.out]; exact Nat.le_refl _)] at ho8
      have HO8 := hide ho8
      have HB7 := hide ((unhide HB6).trans (hb7.mono (unhide HB6).size))
      have hz7 := hb7.size
      clear ho7 ho8 hb7 hLt
      go_wp2_with (first
        | (at_builtin
           refine wpList_app1g w7 (by rfl) (.tmp 124) (.tmp 126) 24 rfl elem_u8 w6.heap.size (.slice (some ⟨g, 0, none⟩) L gc) L (P.map bv) rfl (unhide HO8) (.int .u8 (m : Int)) w7.heap.size rfl rfl rfl HCP.out hz7 ?_
           intro v8 w8 ho9 hg9 hat9
           obtain ⟨A8, c8, rfl⟩ := ho9.shape
           have HO9 := hide ho9
           have HG9 := hide hg9
           clear ho9 hg9 hat9))
      have HB8 := hide ((unhide HB7).grown (unhide HG9) (Nat.le_trans (unhide HB6).size hz7) (fun j hj => by
        have e : g = j := by simpa [Value.ownBlock] using hj
        have := (unhide HB6).size
        omega))
      have hr9 : Reads w8 w8.heap.size 1 A8 (L + 1) ((P ++ [UInt8.ofNat m]).map bv) := by
        have h := Reads.of_own (unhide HO9)
        rw [bv_nat m hm] at h
        rw [List.map_append, List.map_cons, List.map_nil]
        exact h
      have hRf2 := hide (refused_any A8 (L + 1) c8 w8.heap.size (n : Int) (P ++ [UInt8.ofNat m]) w8 hr9 (Nat.le_refl _) (by omega) (own_caps (unhide HO9)).1)
      clear hr9
      refine (unhide hRf2).mono ?_
      rintro e w9 ⟨k9, rfl, hk9, hb9⟩
      obtain rfl : k9 = 50 := ref_none hk9 hn (fun c3 hl => by rw [← HP.out]; exact more_none (by rw [hl, HLEN.out]) (by rw [HLEN.out]; exact hn))
      have HB9 := hide ((unhide HB8).trans (hb9.mono (unhide HB8).size))
      clear hb9 hk9 hRf2
      go_wp2_with fail
      go_ret
      exact ⟨rfl, unhide HB9⟩
    · obtain ⟨K, rfl⟩ := Int.eq_ofNat_of_zero_le (show 0 ≤ T by omega)
      have hKL : K < L := by omega
      clear hT1 hT2
      have hsl := fun W => run_head elem_u8 (A := A2) (n := K) (N := L) (cap := c2) (by omega) W
      go_wp2_with (first
        | (go_at_call 17; refine (unhide (HNum _ _)).mono ?_; rintro e w4 ⟨rfl, rfl⟩)
        | (go_at_call 25; refine (unhide hAl).mono ?_; rintro e w4 ⟨rfl, hb4⟩))
      have HB4 := hide ((unhide HB3).trans (hb4.mono (unhide HB3).size))
      have HR4 := hide (((Reads.of_own (unhide HO2)).below (unhide HS3)).below (hb4.mono (unhide HS3).size))
      have hz4 : w2.heap.size ≤ w4.heap.size := Nat.le_trans (unhide HS3).size hb4.size
      clear hb4 hAl HS3 HO2
      obtain ⟨w5, hw5⟩ : ∃ w5, w4 = w5 := ⟨_, rfl⟩
      rw [hw5]
      have HB5 := hide (hw5 ▸ unhide HB4)
      have HR5 := hide (hw5 ▸ unhide HR4)
      have hz5 : w2.heap.size ≤ w5.heap.size := hw5 ▸ hz4
      clear hw5
      have hRf := hide (refused_any A2 K c2 w2.heap.size (n : Int) (P.take K) w5 ((unhide HR5).cutTo (by omega)) hz5 (by omega) (by omega))
      refine (unhide hRf).mono ?_
      rintro e w6 ⟨k6, rfl, hk6, hb6⟩
      obtain rfl : k6 = 50 := ref_none hk6 hn (fun c3 hl => by rw [← HP.out]; exact front_none (by rw [HP.out, HLP.out]; exact hKL) (by rw [hl, HLEN.out]) (by rw [HLEN.out]; exact hn))
      have HB6 := hide ((unhide HB5).trans (hb6.mono (unhide HB5).size))
      have HR6 := hide ((unhide HR5).below (hb6.mono hz5))
      have hz6 : w2.heap.size ≤ w6.heap.size := Nat.le_trans hz5 hb6.size
      have hLt := hide (lentBytes_any A2 L c2 P w6 ((unhide HR6).more hz6) (by omega))
      have HCP : Hid (L + 1 ≤ maxLen ∧ (L + 1) * 1 ≤ 140737488355328) := cap1 (by omega)
      clear hb6 hk6 hRf
      go_wp2_with fail
      refine (unhide hLt).mono ?_
      rintro e w7 ⟨g, gc, rfl, hgc, hgm, hg, ho7, hb7⟩
      have ho8 := own_cut ho7 (k := L) (by omega)
      rw [← List.map_take, List.take_append_of_le_length (by rw [HLP.out]; exact Nat.le_refl _), List.take_of_length_le (by rw [HLP.out]; exact Nat.le_refl _)] at ho8
      have HO8 := hide ho8
      have HB7 := hide ((unhide HB6).trans (hb7.mono (unhide HB6).size))
      have hz7 := hb7.size
      clear ho7 ho8 hb7 hLt
      go_wp2_with (first
        | (at_builtin
           refine wpList_app1g w7 (by rfl) (.tmp 124) (.tmp 126) 24 rfl elem_u8 w6.heap.size (.slice (some ⟨g, 0, none⟩) L gc) L (P.map bv) rfl (unhide HO8) (.int .u8 (m : Int)) w7.heap.size rfl rfl rfl HCP.out hz7 ?_
           intro v8 w8 ho9 hg9 hat9
           obtain ⟨A8, c8, rfl⟩ := ho9.shape
           have HO9 := hide ho9
           have HG9 := hide hg9
           clear ho9 hg9 hat9))
      have HB8 := hide ((unhide HB7).grown (unhide HG9) (Nat.le_trans (unhide HB6).size hz7) (fun j hj => by
        have e : g = j := by simpa [Value.ownBlock] using hj
        have := (unhide HB6).size
        omega))
      have hr9 : Reads w8 w8.heap.size 1 A8 (L + 1) ((P ++ [UInt8.ofNat m]).map bv) := by
        have h := Reads.of_own (unhide HO9)
        rw [bv_nat m hm] at h
        rw [List.map_append, List.map_cons, List.map_nil]
        exact h
      have hRf2 := hide (refused_any A8 (L + 1) c8 w8.heap.size (n : Int) (P ++ [UInt8.ofNat m]) w8 hr9 (Nat.le_refl _) (by omega) (own_caps (unhide HO9)).1)
      clear hr9
      refine (unhide hRf2).mono ?_
      rintro e w9 ⟨k9, rfl, hk9, hb9⟩
      obtain rfl : k9 = 50 := ref_none hk9 hn (fun c3 hl => by rw [← HP.out]; exact more_none (by rw [hl, HLEN.out]) (by rw [HLEN.out]; exact hn))
      have HB9 := hide ((unhide HB8).trans (hb9.mono (unhide HB8).size))
      clear hb9 hk9 hRf2
      go_wp2_with fail
      go_ret
      exact ⟨rfl, unhide HB9⟩
  · by_cases hTn : T < 0
    · obtain ⟨K, hK⟩ := Int.eq_ofNat_of_zero_le (show 0 ≤ T + (L : Int) by omega)
      have hKL : K < L := by omega
      have hKw : wrap64 (T + (L : Int)) = (K : Int) := by rw [hK]; unfold wrap64; omega
      clear hT1 hT2 hK
      have hsl := fun W => run_head elem_u8 (A := A2) (n := K) (N := L) (cap := c2) (by omega) W
      go_wp2_with (first
        | (go_at_call 17; refine (unhide (HNum _ _)).mono ?_; rintro e w4 ⟨rfl, rfl⟩)
        | (go_at_call 25; refine (unhide hAl).mono ?_; rintro e w4 ⟨rfl, hb4⟩))
      have HB4 := hide ((unhide HB3).trans (hb4.mono (unhide HB3).size))
      have HR4 := hide (((Reads.of_own (unhide HO2)).below (unhide HS3)).below (hb4.mono (unhide HS3).size))
      have hz4 : w2.heap.size ≤ w4.heap.size := Nat.le_trans (unhide HS3).size hb4.size
      clear hb4 hAl HS3 HO2
      have hR0 := hide (refused_any A2 L c2 w2.heap.size x P w4 (unhide HR4) hz4 (by omega) hcap2)
      refine (unhide hR0).mono ?_
      rintro e w5 ⟨k0, rfl, hk, hb5⟩
      rw [← HP.out] at hk
      have hk0 : ¬ k0 = 0 := ref_other hk (by rw [HLEN.out]; exact hx)
      have HB5 := hide ((unhide HB4).trans (hb5.mono (unhide HB4).size))
      have HR5 := hide ((unhide HR4).below (hb5.mono hz4))
      have hz5 : w2.heap.size ≤ w5.heap.size := Nat.le_trans hz4 hb5.size
      clear hb5 hk hR0
      go_wp2_with fail
      have hRf := hide (refused_any A2 K c2 w2.heap.size (n : Int) (P.take K) w5 ((unhide HR5).cutTo (by omega)) hz5 (by omega) (by omega))
      refine (unhide hRf).mono ?_
      rintro e w6 ⟨k6, rfl, hk6, hb6⟩
      obtain rfl : k6 = 50 := ref_none hk6 hn (fun c3 hl => by rw [← HP.out]; exact front_none (by rw [HP.out, HLP.out]; exact hKL) (by rw [hl, HLEN.out]) (by rw [HLEN.out]; exact hn))
      have HB6 := hide ((unhide HB5).trans (hb6.mono (unhide HB5).size))
      have HR6 := hide ((unhide HR5).below (hb6.mono hz5))
      have hz6 : w2.heap.size ≤ w6.heap.size := Nat.le_trans hz5 hb6.size
      have hLt := hide (lentBytes_any A2 L c2 P w6 ((unhide HR6).more hz6) (by omega))
      have HCP : Hid (L + 1 ≤ maxLen ∧ (L + 1) * 1 ≤ 140737488355328) := cap1 (by omega)
      clear hb6 hk6 hRf
      go_wp2_with fail
      refine (unhide hLt).mono ?_
      rintro e w7 ⟨g, gc, rfl, hgc, hgm, hg, ho7, hb7⟩
      have ho8 := own_cut ho7 (k := L) (by omega)
      rw [← List.map_take, List.take_append_of_le_length (by rw [HLP.out]; exact Nat.le_refl _), List.take_of_length_le (by rw [HLP.out]; exact Nat.le_refl _)] at ho8
      have HO8 := hide ho8
      have HB7 := hide ((unhide HB6).trans (hb7.mono (unhide HB6).size))
      have hz7 := hb7.size
      clear ho7 ho8 hb7 hLt
      go_wp2_with (first
        | (at_builtin
           refine wpList_app1g w7 (by rfl) (.tmp 124) (.tmp 126) 24 rfl elem_u8 w6.heap.size (.slice (some ⟨g, 0, none⟩) L gc) L (P.map bv) rfl (unhide HO8) (.int .u8 (m : Int)) w7.heap.size rfl rfl rfl HCP.out hz7 ?_
           intro v8 w8 ho9 hg9 hat9
           obtain ⟨A8, c8, rfl⟩ := ho9.shape
           have HO9 := hide ho9
           have HG9 := hide hg9
           clear ho9 hg9 hat9))
      have HB8 := hide ((unhide HB7).grown (unhide HG9) (Nat.le_trans (unhide HB6).size hz7) (fun j hj => by
        have e : g = j := by simpa [Value.ownBlock] using hj
        have := (unhide HB6).size
        omega))
      have hr9 : Reads w8 w8.heap.size 1 A8 (L + 1) ((P ++ [UInt8.ofNat m]).map bv) := by
        have h := Reads.of_own (unhide HO9)
        rw [bv_nat m hm] at h
        rw [List.map_append, List.map_cons, List.map_nil]
        exact h
      have hRf2 := hide (refused_any A8 (L + 1) c8 w8.heap.size (n : Int) (P ++ [UInt8.ofNat m]) w8 hr9 (Nat.le_refl _) (by omega) (own_caps (unhide HO9)).1)
      clear hr9
      refine (unhide hRf2).mono ?_
      rintro e w9 ⟨k9, rfl, hk9, hb9⟩
      obtain rfl : k9 = 50 := ref_none hk9 hn (fun c3 hl => by rw [← HP.out]; exact more_none (by rw [hl, HLEN.out]) (by rw [HLEN.out]; exact hn))
      have HB9 := hide ((unhide HB8).trans (hb9.mono (unhide HB8).size))
      clear hb9 hk9 hRf2
      go_wp2_with fail
      go_ret
      exact ⟨rfl, unhide HB9⟩
    · obtain ⟨K, rfl⟩ := Int.eq_ofNat_of_zero_le (show 0 ≤ T by omega)
      have hKL : K < L := by omega
      clear hT1 hT2
      have hsl := fun W => run_head elem_u8 (A := A2) (n := K) (N := L) (cap := c2) (by omega) W
      go_wp2_with (first
        | (go_at_call 17; refine (unhide (HNum _ _)).mono ?_; rintro e w4 ⟨rfl, rfl⟩)
        | (go_at_call 25; refine (unhide hAl).mono ?_; rintro e w4 ⟨rfl, hb4⟩))
      have HB4 := hide ((unhide HB3).trans (hb4.mono (unhide HB3).size))
      have HR4 := hide (((Reads.of_own (unhide HO2)).below (unhide HS3)).below (hb4.mono (unhide HS3).size))
      have hz4 : w2.heap.size ≤ w4.heap.size := Nat.le_trans (unhide HS3).size hb4.size
      clear hb4 hAl HS3 HO2
      have hR0 := hide (refused_any A2 L c2 w2.heap.size x P w4 (unhide HR4) hz4 (by omega) hcap2)
      refine (unhide hR0).mono ?_
      rintro e w5 ⟨k0, rfl, hk, hb5⟩
      rw [← HP.out] at hk
      have hk0 : ¬ k0 = 0 := ref_other hk (by rw [HLEN.out]; exact hx)
      have HB5 := hide ((unhide HB4).trans (hb5.mono (unhide HB4).size))
      have HR5 := hide ((unhide HR4).below (hb5.mono hz4))
      have hz5 : w2.heap.size ≤ w5.heap.size := Nat.le_trans hz4 hb5.size
      clear hb5 hk hR0
      go_wp2_with fail
      have hRf := hide (refused_any A2 K c2 w2.heap.size (n : Int) (P.take K) w5 ((unhide HR5).cutTo (by omega)) hz5 (by omega) (by omega))
      refine (unhide hRf).mono ?_
      rintro e w6 ⟨k6, rfl, hk6, hb6⟩
      obtain rfl : k6 = 50 := ref_none hk6 hn (fun c3 hl => by rw [← HP.out]; exact front_none (by rw [HP.out, HLP.out]; exact hKL) (by rw [hl, HLEN.out]) (by rw [HLEN.out]; exact hn))
      have HB6 := hide ((unhide HB5).trans (hb6.mono (unhide HB5).size))
      have HR6 := hide ((unhide HR5).below (hb6.mono hz5))
      have hz6 : w2.heap.size ≤ w6.heap.size := Nat.le_trans hz5 hb6.size
      have hLt := hide (lentBytes_any A2 L c2 P w6 ((unhide HR6).more hz6) (by omega))
      have HCP : Hid (L + 1 ≤ maxLen ∧ (L + 1) * 1 ≤ 140737488355328) := cap1 (by omega)
      clear hb6 hk6 hRf
      go_wp2_with fail
      refine (unhide hLt).mono ?_
      rintro e w7 ⟨g, gc, rfl, hgc, hgm, hg, ho7, hb7⟩
      have ho8 := own_cut ho7 (k := L) (by omega)
      rw [← List.map_take, List.take_append_of_le_length (by rw [HLP.out]; exact Nat.le_refl _), List.take_of_length_le (by rw [HLP.out]; exact Nat.le_refl _)] at ho8
      have HO8 := hide ho8
      have HB7 := hide ((unhide HB6).trans (hb7.mono (unhide HB6).size))
      have hz7 := hb7.size
      clear ho7 ho8 hb7 hLt
      go_wp2_with (first
        | (at_builtin
           refine wpList_app1g w7 (by rfl) (.tmp 124) (.tmp 126) 24 rfl elem_u8 w6.heap.size (.slice (some ⟨g, 0, none⟩) L gc) L (P.map bv) rfl (unhide HO8) (.int .u8 (m : Int)) w7.heap.size rfl rfl rfl HCP.out hz7 ?_
           intro v8 w8 ho9 hg9 hat9
           obtain ⟨A8, c8, rfl⟩ := ho9.shape
           have HO9 := hide ho9
           have HG9 := hide hg9
           clear ho9 hg9 hat9))
      have HB8 := hide ((unhide HB7).grown (unhide HG9) (Nat.le_trans (unhide HB6).size hz7) (fun j hj => by
        have e : g = j := by simpa [Value.ownBlock] using hj
        have := (unhide HB6).size
        omega))
      have hr9 : Reads w8 w8.heap.size 1 A8 (L + 1) ((P ++ [UInt8.ofNat m]).map bv) := by
        have h := Reads.of_own (unhide HO9)
        rw [bv_nat m hm] at h
        rw [List.map_append, List.map_cons, List.map_nil]
        exact h
      have hRf2 := hide (refused_any A8 (L + 1) c8 w8.heap.size (n : Int) (P ++ [UInt8.ofNat m]) w8 hr9 (Nat.le_refl _) (by omega) (own_caps (unhide HO9)).1)
      clear hr9
      refine (unhide hRf2).mono ?_
      rintro e w9 ⟨k9, rfl, hk9, hb9⟩
      obtain rfl : k9 = 50 := ref_none hk9 hn (fun c3 hl => by rw [← HP.out]; exact more_none (by rw [hl, HLEN.out]) (by rw [HLEN.out]; exact hn))
      have HB9 := hide ((unhide HB8).trans (hb9.mono (unhide HB8).size))
      clear hb9 hk9 hRf2
      go_wp2_with fail
      go_ret
      exact ⟨rfl, unhide HB9⟩

theorem words_cut {w : World} {B n k : Nat} {A : Option Addr} {xs : List UInt32} (h : Reads w B 1 A n (xs.map uw)) (hk : k ≤ n) : Reads w B 1 A k ((xs.take k).map uw) := by
  have hl : xs.length = n := by have := h.1; simpa using this
  refine ⟨by simp; omega, fun hk0 => ?_⟩
  obtain ⟨ad, e, hb, hc⟩ := h.2 (by omega)
  refine ⟨ad, e, hb, fun j u hu => hc j u ?_⟩
  rw [List.map_take, List.getElem?_take] at hu
  split at hu
  · exact hu
  · cases hu
set_option maxRecDepth 100000 in
set_option maxHeartbeats 2000000 in
theorem colBackB (A : Option Addr) (N cap : Nat) (cs0 : List UInt32) (x y : Int) (m : Nat) (w : World) (hr : Reads w w.heap.size 1 A N (cs0.map uw)) (hcap : N ≤ cap) (hm : m < 256) (hN : 65536 < N) :
    Calls Try.prog 7 #[.slice A N cap, .int .i64 x, .int .i64 y, .int .u8 (m : Int)] w fun e w' => e = .returned (.bool true) ∧ Below w.heap.size w w' := by
  have hr2 := words_cut hr (k := 65536) (by omega)
  obtain ⟨cs, hcs⟩ : ∃ cs, cs0.take 65536 = cs := ⟨_, rfl⟩
  rw [hcs] at hr2
  clear hcs
  obtain ⟨n, hn0⟩ : ∃ n : Nat, 65536 = n := ⟨_, rfl⟩
  rw [hn0] at hr2
  have hsl0 := fun W => run_head elem_u32 (A := A) (n := n) (N := N) (cap := cap) (by omega) W
  rw [show ((n : Nat) : Int) = 65536 by omega] at hsl0
  have hN0 : (65536 : Int) < (N : Int) := by omega
  have hn : n ≤ 65536 := by omega
  have hlen : cs.length = n := by have := hr2.1; simpa using this
  have HLEN := Lib.hid hlen
  have HA := hide (awake5_any w)
  have HNum := fun x w => hide (num5_any x w)
  have HR := hide hr2
  obtain ⟨g0, hg0⟩ : ∃ g, w.heap.size = g := ⟨_, rfl⟩
  clear hr hr2 hlen hn0 hN hcap
  go_enter Try.func7, Try.ntmps7
  go_wp2_with fail
  refine (unhide HA).mono ?_
  rintro e w1 ⟨rfl, hb1⟩
  clear HA
  have HB1 := hide hb1
  clear hb1

  have hE := hide (encode_any cs A n cap w.heap.size w1 ((unhide HR).below (unhide HB1)) (unhide HB1).size hn)
  go_wp2_with fail
  refine (unhide hE).mono ?_
  rintro e w2 ⟨v2, rfl, ho2, hb2⟩
  obtain ⟨A2, c2, rfl⟩ := ho2.shape
  obtain ⟨L, hL⟩ : ∃ L, (pageS cs).length = L := ⟨_, rfl⟩
  have hL5 : L ≤ 5 * n + 1 := by rw [← hL, ← HLEN.out]; exact page_len cs
  have hL1 : 1 ≤ L := by rw [← hL, pageS, List.length_cons]; omega
  obtain ⟨P, hP⟩ : ∃ P, pageS cs = P := ⟨_, rfl⟩
  have HP := Lib.hid hP
  rw [hL] at ho2
  rw [hP] at ho2 hL
  have HLP := Lib.hid hL
  rw [hP, hL]

  have hD := hide (decode_any A2 L c2 w2.heap.size (n : Int) P w2 (Reads.of_own ho2) (Nat.le_refl _) (by omega) (own_caps ho2).1)
  have hcap2 := (own_caps ho2).1
  have HO2 := hide ho2
  have HB2 := hide ((unhide HB1).trans (hb2.mono (unhide HB1).size))
  clear ho2 hb2 hL hE hP
  go_wp2_with fail
  refine (unhide hD).mono ?_
  rintro e w3 ⟨A3, d, k, rfl, hr3, hf3, hb3, hdec⟩
  obtain ⟨hk0, hdc⟩ : k = 0 ∧ d = cs := by
    rcases hdec with ⟨_, _, h⟩ | ⟨_, _, ⟨_, _, h⟩ | ⟨h0, _, _, h⟩⟩
    · omega
    · exact absurd HP.out (h cs (by rw [HLEN.out, Int.toNat_natCast]))
    · exact ⟨h0, h cs (by rw [HLEN.out, Int.toNat_natCast]) HP.out⟩
  subst hk0
  rw [hdc, HLEN.out] at hr3
  rw [hdc, HLEN.out]
  have hb3' := (unhide HB2).trans (hb3.mono (unhide HB2).size)
  have hA := alike_any A3 A n n n cap cs cs w3 w3.heap.size hr3 (((unhide HR).below hb3').more hb3'.size) (by omega) (Nat.le_refl _)
  rw [beq_self_eq_true] at hA
  have hAl := hide hA
  have HB3 := hide hb3'
  have HS3 := hide hb3
  have h5 : (L : Int) ≤ 5 * (n : Int) + 1 := by omega
  clear hb3 hb3' hdec hr3 hf3 hA hdc hD
  have hL0 : (L : Int) ≠ 0 := by omega
  have hLp : (0 : Int) < (L : Int) := by omega
  obtain ⟨T, hT⟩ : ∃ T, y.tmod (L : Int) = T := ⟨_, rfl⟩
  have hT1 : T < (L : Int) := by rw [← hT]; exact Int.tmod_lt_of_pos y hLp
  have hT2 : -(L : Int) < T := by rw [← hT]; have := Int.lt_tmod_of_pos y hLp; omega
  have HHT := Lib.hid hT
  by_cases hx : x = (n : Int)
  · subst hx
    by_cases hTn : T < 0
    · obtain ⟨K, hK⟩ := Int.eq_ofNat_of_zero_le (show 0 ≤ T + (L : Int) by omega)
      have hKL : K < L := by omega
      have hKw : wrap64 (T + (L : Int)) = (K : Int) := by rw [hK]; unfold wrap64; omega
      clear hT1 hT2 hK
      have hsl := fun W => run_head elem_u8 (A := A2) (n := K) (N := L) (cap := c2) (by omega) W
      go_wp2_with (first
        | (go_at_call 17; refine (unhide (HNum _ _)).mono ?_; rintro e w4 ⟨rfl, rfl⟩)
        | (go_at_call 25; refine (unhide hAl).mono ?_; rintro e w4 ⟨rfl, hb4⟩))
      have HB4 := hide ((unhide HB3).trans (hb4.mono (unhide HB3).size))
      have HR4 := hide (((Reads.of_own (unhide HO2)).below (unhide HS3)).below (hb4.mono (unhide HS3).size))
      have hz4 : w2.heap.size ≤ w4.heap.size := Nat.le_trans (unhide HS3).size hb4.size
      clear hb4 hAl HS3 HO2
      obtain ⟨w5, hw5⟩ : ∃ w5, w4 = w5 := ⟨_, rfl⟩
      rw [hw5]
      have HB5 := hide (hw5 ▸ unhide HB4)
      have HR5 := hide (hw5 ▸ unhide HR4)
      have hz5 : w2.heap.size ≤ w5.heap.size := hw5 ▸ hz4
      clear hw5
      have hRf := hide (refused_any A2 K c2 w2.heap.size (n : Int) (P.take K) w5 ((unhide HR5).cutTo (by omega)) hz5 (by omega) (by omega))
      refine (unhide hRf).mono ?_
      rintro e w6 ⟨k6, rfl, hk6, hb6⟩
      obtain rfl : k6 = 50 := ref_none hk6 hn (fun c3 hl => by rw [← HP.out]; exact front_none (by rw [HP.out, HLP.out]; exact hKL) (by rw [hl, HLEN.out]) (by rw [HLEN.out]; exact hn))
      have HB6 := hide ((unhide HB5).trans (hb6.mono (unhide HB5).size))
      have HR6 := hide ((unhide HR5).below (hb6.mono hz5))
      have hz6 : w2.heap.size ≤ w6.heap.size := Nat.le_trans hz5 hb6.size
      have hLt := hide (lentBytes_any A2 L c2 P w6 ((unhide HR6).more hz6) (by omega))
      have HCP : Hid (L + 1 ≤ maxLen ∧ (L + 1) * 1 ≤ 140737488355328) := cap1 (by omega)
      clear hb6 hk6 hRf
      go_wp2_with fail
      refine (unhide hLt).mono ?_
      rintro e w7 ⟨g, gc, rfl, hgc, hgm, hg, ho7, hb7⟩
      have ho8 := own_cut ho7 (k := L) (by omega)
      rw [← List.map_take, List.take_append_of_le_length (by rw [HLP.out]; exact Nat.le_refl _), List.take_of_length_le (by rw [HLP.out]; exact Nat.le_refl _)] at ho8
      have HO8 := hide ho8
      have HB7 := hide ((unhide HB6).trans (hb7.mono (unhide HB6).size))
      have hz7 := hb7.size
      clear ho7 ho8 hb7 hLt
      go_wp2_with (first
        | (at_builtin
           refine wpList_app1g w7 (by rfl) (.tmp 124) (.tmp 126) 24 rfl elem_u8 w6.heap.size (.slice (some ⟨g, 0, none⟩) L gc) L (P.map bv) rfl (unhide HO8) (.int .u8 (m : Int)) w7.heap.size rfl rfl rfl HCP.out hz7 ?_
           intro v8 w8 ho9 hg9 hat9
           obtain ⟨A8, c8, rfl⟩ := ho9.shape
           have HO9 := hide ho9
           have HG9 := hide hg9
           clear ho9 hg9 hat9))
      have HB8 := hide ((unhide HB7).grown (unhide HG9) (Nat.le_trans (unhide HB6).size hz7) (fun j hj => by
        have e : g = j := by simpa [Value.ownBlock] using hj
        have := (unhide HB6).size
        omega))
      have hr9 : Reads w8 w8.heap.size 1 A8 (L + 1) ((P ++ [UInt8.ofNat m]).map bv) := by
        have h := Reads.of_own (unhide HO9)
        rw [bv_nat m hm] at h
        rw [List.map_append, List.map_cons, List.map_nil]
        exact h
      have hRf2 := hide (refused_any A8 (L + 1) c8 w8.heap.size (n : Int) (P ++ [UInt8.ofNat m]) w8 hr9 (Nat.le_refl _) (by omega) (own_caps (unhide HO9)).1)
      clear hr9
      refine (unhide hRf2).mono ?_
      rintro e w9 ⟨k9, rfl, hk9, hb9⟩
      obtain rfl : k9 = 50 := ref_none hk9 hn (fun c3 hl => by rw [← HP.out]; exact more_none (by rw [hl, HLEN.out]) (by rw [HLEN.out]; exact hn))
      have HB9 := hide ((unhide HB8).trans (hb9.mono (unhide HB8).size))
      clear hb9 hk9 hRf2
      go_wp2_with fail
      go_ret
      exact ⟨rfl, unhide HB9⟩
    · obtain ⟨K, rfl⟩ := Int.eq_ofNat_of_zero_le (show 0 ≤ T by omega)
      have hKL : K < L := by omega
      clear hT1 hT2
      have hsl := fun W => run_head elem_u8 (A := A2) (n := K) (N := L) (cap := c2) (by omega) W
      go_wp2_with (first
        | (go_at_call 17; refine (unhide (HNum _ _)).mono ?_; rintro e w4 ⟨rfl, rfl⟩)
        | (go_at_call 25; refine (unhide hAl).mono ?_; rintro e w4 ⟨rfl, hb4⟩))
      have HB4 := hide ((unhide HB3).trans (hb4.mono (unhide HB3).size))
      have HR4 := hide (((Reads.of_own (unhide HO2)).below (unhide HS3)).below (hb4.mono (unhide HS3).size))
      have hz4 : w2.heap.size ≤ w4.heap.size := Nat.le_trans (unhide HS3).size hb4.size
      clear hb4 hAl HS3 HO2
      obtain ⟨w5, hw5⟩ : ∃ w5, w4 = w5 := ⟨_, rfl⟩
      rw [hw5]
      have HB5 := hide (hw5 ▸ unhide HB4)
      have HR5 := hide (hw5 ▸ unhide HR4)
      have hz5 : w2.heap.size ≤ w5.heap.size := hw5 ▸ hz4
      clear hw5
      have hRf := hide (refused_any A2 K c2 w2.heap.size (n : Int) (P.take K) w5 ((unhide HR5).cutTo (by omega)) hz5 (by omega) (by omega))
      refine (unhide hRf).mono ?_
      rintro e w6 ⟨k6, rfl, hk6, hb6⟩
      obtain rfl : k6 = 50 := ref_none hk6 hn (fun c3 hl => by rw [← HP.out]; exact front_none (by rw [HP.out, HLP.out]; exact hKL) (by rw [hl, HLEN.out]) (by rw [HLEN.out]; exact hn))
      have HB6 := hide ((unhide HB5).trans (hb6.mono (unhide HB5).size))
      have HR6 := hide ((unhide HR5).below (hb6.mono hz5))
      have hz6 : w2.heap.size ≤ w6.heap.size := Nat.le_trans hz5 hb6.size
      have hLt := hide (lentBytes_any A2 L c2 P w6 ((unhide HR6).more hz6) (by omega))
      have HCP : Hid (L + 1 ≤ maxLen ∧ (L + 1) * 1 ≤ 140737488355328) := cap1 (by omega)
      clear hb6 hk6 hRf
      go_wp2_with fail
      refine (unhide hLt).mono ?_
      rintro e w7 ⟨g, gc, rfl, hgc, hgm, hg, ho7, hb7⟩
      have ho8 := own_cut ho7 (k := L) (by omega)
      rw [← List.map_take, List.take_append_of_le_length (by rw [HLP.out]; exact Nat.le_refl _), List.take_of_length_le (by rw [HLP.out]; exact Nat.le_refl _)] at ho8
      have HO8 := hide ho8
      have HB7 := hide ((unhide HB6).trans (hb7.mono (unhide HB6).size))
      have hz7 := hb7.size
      clear ho7 ho8 hb7 hLt
      go_wp2_with (first
        | (at_builtin
           refine wpList_app1g w7 (by rfl) (.tmp 124) (.tmp 126) 24 rfl elem_u8 w6.heap.size (.slice (some ⟨g, 0, none⟩) L gc) L (P.map bv) rfl (unhide HO8) (.int .u8 (m : Int)) w7.heap.size rfl rfl rfl HCP.out hz7 ?_
           intro v8 w8 ho9 hg9 hat9
           obtain ⟨A8, c8, rfl⟩ := ho9.shape
           have HO9 := hide ho9
           have HG9 := hide hg9
           clear ho9 hg9 hat9))
      have HB8 := hide ((unhide HB7).grown (unhide HG9) (Nat.le_trans (unhide HB6).size hz7) (fun j hj => by
        have e : g = j := by simpa [Value.ownBlock] using hj
        have := (unhide HB6).size
        omega))
      have hr9 : Reads w8 w8.heap.size 1 A8 (L + 1) ((P ++ [UInt8.ofNat m]).map bv) := by
        have h := Reads.of_own (unhide HO9)
        rw [bv_nat m hm] at h
        rw [List.map_append, List.map_cons, List.map_nil]
        exact h
      have hRf2 := hide (refused_any A8 (L + 1) c8 w8.heap.size (n : Int) (P ++ [UInt8.ofNat m]) w8 hr9 (Nat.le_refl _) (by omega) (own_caps (unhide HO9)).1)
      clear hr9
      refine (unhide hRf2).mono ?_
      rintro e w9 ⟨k9, rfl, hk9, hb9⟩
      obtain rfl : k9 = 50 := ref_none hk9 hn (fun c3 hl => by rw [← HP.out]; exact more_none (by rw [hl, HLEN.out]) (by rw [HLEN.out]; exact hn))
      have HB9 := hide ((unhide HB8).trans (hb9.mono (unhide HB8).size))
      clear hb9 hk9 hRf2
      go_wp2_with fail
      go_ret
      exact ⟨rfl, unhide HB9⟩
  · by_cases hTn : T < 0
    · obtain ⟨K, hK⟩ := Int.eq_ofNat_of_zero_le (show 0 ≤ T + (L : Int) by omega)
      have hKL : K < L := by omega
      have hKw : wrap64 (T + (L : Int)) = (K : Int) := by rw [hK]; unfold wrap64; omega
      clear hT1 hT2 hK
      have hsl := fun W => run_head elem_u8 (A := A2) (n := K) (N := L) (cap := c2) (by omega) W
      go_wp2_with (first
        | (go_at_call 17; refine (unhide (HNum _ _)).mono ?_; rintro e w4 ⟨rfl, rfl⟩)
        | (go_at_call 25; refine (unhide hAl).mono ?_; rintro e w4 ⟨rfl, hb4⟩))
      have HB4 := hide ((unhide HB3).trans (hb4.mono (unhide HB3).size))
      have HR4 := hide (((Reads.of_own (unhide HO2)).below (unhide HS3)).below (hb4.mono (unhide HS3).size))
      have hz4 : w2.heap.size ≤ w4.heap.size := Nat.le_trans (unhide HS3).size hb4.size
      clear hb4 hAl HS3 HO2
      have hR0 := hide (refused_any A2 L c2 w2.heap.size x P w4 (unhide HR4) hz4 (by omega) hcap2)
      refine (unhide hR0).mono ?_
      rintro e w5 ⟨k0, rfl, hk, hb5⟩
      rw [← HP.out] at hk
      have hk0 : ¬ k0 = 0 := ref_other hk (by rw [HLEN.out]; exact hx)
      have HB5 := hide ((unhide HB4).trans (hb5.mono (unhide HB4).size))
      have HR5 := hide ((unhide HR4).below (hb5.mono hz4))
      have hz5 : w2.heap.size ≤ w5.heap.size := Nat.le_trans hz4 hb5.size
      clear hb5 hk hR0
      go_wp2_with fail
      have hRf := hide (refused_any A2 K c2 w2.heap.size (n : Int) (P.take K) w5 ((unhide HR5).cutTo (by omega)) hz5 (by omega) (by omega))
      refine (unhide hRf).mono ?_
      rintro e w6 ⟨k6, rfl, hk6, hb6⟩
      obtain rfl : k6 = 50 := ref_none hk6 hn (fun c3 hl => by rw [← HP.out]; exact front_none (by rw [HP.out, HLP.out]; exact hKL) (by rw [hl, HLEN.out]) (by rw [HLEN.out]; exact hn))
      have HB6 := hide ((unhide HB5).trans (hb6.mono (unhide HB5).size))
      have HR6 := hide ((unhide HR5).below (hb6.mono hz5))
      have hz6 : w2.heap.size ≤ w6.heap.size := Nat.le_trans hz5 hb6.size
      have hLt := hide (lentBytes_any A2 L c2 P w6 ((unhide HR6).more hz6) (by omega))
      have HCP : Hid (L + 1 ≤ maxLen ∧ (L + 1) * 1 ≤ 140737488355328) := cap1 (by omega)
      clear hb6 hk6 hRf
      go_wp2_with fail
      refine (unhide hLt).mono ?_
      rintro e w7 ⟨g, gc, rfl, hgc, hgm, hg, ho7, hb7⟩
      have ho8 := own_cut ho7 (k := L) (by omega)
      rw [← List.map_take, List.take_append_of_le_length (by rw [HLP.out]; exact Nat.le_refl _), List.take_of_length_le (by rw [HLP.out]; exact Nat.le_refl _)] at ho8
      have HO8 := hide ho8
      have HB7 := hide ((unhide HB6).trans (hb7.mono (unhide HB6).size))
      have hz7 := hb7.size
      clear ho7 ho8 hb7 hLt
      go_wp2_with (first
        | (at_builtin
           refine wpList_app1g w7 (by rfl) (.tmp 124) (.tmp 126) 24 rfl elem_u8 w6.heap.size (.slice (some ⟨g, 0, none⟩) L gc) L (P.map bv) rfl (unhide HO8) (.int .u8 (m : Int)) w7.heap.size rfl rfl rfl HCP.out hz7 ?_
           intro v8 w8 ho9 hg9 hat9
           obtain ⟨A8, c8, rfl⟩ := ho9.shape
           have HO9 := hide ho9
           have HG9 := hide hg9
           clear ho9 hg9 hat9))
      have HB8 := hide ((unhide HB7).grown (unhide HG9) (Nat.le_trans (unhide HB6).size hz7) (fun j hj => by
        have e : g = j := by simpa [Value.ownBlock] using hj
        have := (unhide HB6).size
        omega))
      have hr9 : Reads w8 w8.heap.size 1 A8 (L + 1) ((P ++ [UInt8.ofNat m]).map bv) := by
        have h := Reads.of_own (unhide HO9)
        rw [bv_nat m hm] at h
        rw [List.map_append, List.map_cons, List.map_nil]
        exact h
      have hRf2 := hide (refused_any A8 (L + 1) c8 w8.heap.size (n : Int) (P ++ [UInt8.ofNat m]) w8 hr9 (Nat.le_refl _) (by omega) (own_caps (unhide HO9)).1)
      clear hr9
      refine (unhide hRf2).mono ?_
      rintro e w9 ⟨k9, rfl, hk9, hb9⟩
      obtain rfl : k9 = 50 := ref_none hk9 hn (fun c3 hl => by rw [← HP.out]; exact more_none (by rw [hl, HLEN.out]) (by rw [HLEN.out]; exact hn))
      have HB9 := hide ((unhide HB8).trans (hb9.mono (unhide HB8).size))
      clear hb9 hk9 hRf2
      go_wp2_with fail
      go_ret
      exact ⟨rfl, unhide HB9⟩
    · obtain ⟨K, rfl⟩ := Int.eq_ofNat_of_zero_le (show 0 ≤ T by omega)
      have hKL : K < L := by omega
      clear hT1 hT2
      have hsl := fun W => run_head elem_u8 (A := A2) (n := K) (N := L) (cap := c2) (by omega) W
      go_wp2_with (first
        | (go_at_call 17; refine (unhide (HNum _ _)).mono ?_; rintro e w4 ⟨rfl, rfl⟩)
        | (go_at_call 25; refine (unhide hAl).mono ?_; rintro e w4 ⟨rfl, hb4⟩))
      have HB4 := hide ((unhide HB3).trans (hb4.mono (unhide HB3).size))
      have HR4 := hide (((Reads.of_own (unhide HO2)).below (unhide HS3)).below (hb4.mono (unhide HS3).size))
      have hz4 : w2.heap.size ≤ w4.heap.size := Nat.le_trans (unhide HS3).size hb4.size
      clear hb4 hAl HS3 HO2
      have hR0 := hide (refused_any A2 L c2 w2.heap.size x P w4 (unhide HR4) hz4 (by omega) hcap2)
      refine (unhide hR0).mono ?_
      rintro e w5 ⟨k0, rfl, hk, hb5⟩
      rw [← HP.out] at hk
      have hk0 : ¬ k0 = 0 := ref_other hk (by rw [HLEN.out]; exact hx)
      have HB5 := hide ((unhide HB4).trans (hb5.mono (unhide HB4).size))
      have HR5 := hide ((unhide HR4).below (hb5.mono hz4))
      have hz5 : w2.heap.size ≤ w5.heap.size := Nat.le_trans hz4 hb5.size
      clear hb5 hk hR0
      go_wp2_with fail
      have hRf := hide (refused_any A2 K c2 w2.heap.size (n : Int) (P.take K) w5 ((unhide HR5).cutTo (by omega)) hz5 (by omega) (by omega))
      refine (unhide hRf).mono ?_
      rintro e w6 ⟨k6, rfl, hk6, hb6⟩
      obtain rfl : k6 = 50 := ref_none hk6 hn (fun c3 hl => by rw [← HP.out]; exact front_none (by rw [HP.out, HLP.out]; exact hKL) (by rw [hl, HLEN.out]) (by rw [HLEN.out]; exact hn))
      have HB6 := hide ((unhide HB5).trans (hb6.mono (unhide HB5).size))
      have HR6 := hide ((unhide HR5).below (hb6.mono hz5))
      have hz6 : w2.heap.size ≤ w6.heap.size := Nat.le_trans hz5 hb6.size
      have hLt := hide (lentBytes_any A2 L c2 P w6 ((unhide HR6).more hz6) (by omega))
      have HCP : Hid (L + 1 ≤ maxLen ∧ (L + 1) * 1 ≤ 140737488355328) := cap1 (by omega)
      clear hb6 hk6 hRf
      go_wp2_with fail
      refine (unhide hLt).mono ?_
      rintro e w7 ⟨g, gc, rfl, hgc, hgm, hg, ho7, hb7⟩
      have ho8 := own_cut ho7 (k := L) (by omega)
      rw [← List.map_take, List.take_append_of_le_length (by rw [HLP.out]; exact Nat.le_refl _), List.take_of_length_le (by rw [HLP.out]; exact Nat.le_refl _)] at ho8
      have HO8 := hide ho8
      have HB7 := hide ((unhide HB6).trans (hb7.mono (unhide HB6).size))
      have hz7 := hb7.size
      clear ho7 ho8 hb7 hLt
      go_wp2_with (first
        | (at_builtin
           refine wpList_app1g w7 (by rfl) (.tmp 124) (.tmp 126) 24 rfl elem_u8 w6.heap.size (.slice (some ⟨g, 0, none⟩) L gc) L (P.map bv) rfl (unhide HO8) (.int .u8 (m : Int)) w7.heap.size rfl rfl rfl HCP.out hz7 ?_
           intro v8 w8 ho9 hg9 hat9
           obtain ⟨A8, c8, rfl⟩ := ho9.shape
           have HO9 := hide ho9
           have HG9 := hide hg9
           clear ho9 hg9 hat9))
      have HB8 := hide ((unhide HB7).grown (unhide HG9) (Nat.le_trans (unhide HB6).size hz7) (fun j hj => by
        have e : g = j := by simpa [Value.ownBlock] using hj
        have := (unhide HB6).size
        omega))
      have hr9 : Reads w8 w8.heap.size 1 A8 (L + 1) ((P ++ [UInt8.ofNat m]).map bv) := by
        have h := Reads.of_own (unhide HO9)
        rw [bv_nat m hm] at h
        rw [List.map_append, List.map_cons, List.map_nil]
        exact h
      have hRf2 := hide (refused_any A8 (L + 1) c8 w8.heap.size (n : Int) (P ++ [UInt8.ofNat m]) w8 hr9 (Nat.le_refl _) (by omega) (own_caps (unhide HO9)).1)
      clear hr9
      refine (unhide hRf2).mono ?_
      rintro e w9 ⟨k9, rfl, hk9, hb9⟩
      obtain rfl : k9 = 50 := ref_none hk9 hn (fun c3 hl => by rw [← HP.out]; exact more_none (by rw [hl, HLEN.out]) (by rw [HLEN.out]; exact hn))
      have HB9 := hide ((unhide HB8).trans (hb9.mono (unhide HB8).size))
      clear hb9 hk9 hRf2
      go_wp2_with fail
      go_ret
      exact ⟨rfl, unhide HB9⟩
theorem columnBack_walk (A : Option Addr) (n cap : Nat) (cs : List UInt32) (x y : Int) (m : Nat) (w : World) (hr : Reads w w.heap.size 1 A n (cs.map uw)) (_hn : n ≤ 35184372087808) (hcap : n ≤ cap)
    (_x1 : -9223372036854775808 ≤ x) (_x2 : x ≤ 9223372036854775807) (_y1 : -9223372036854775808 ≤ y) (_y2 : y ≤ 9223372036854775807) (hm : m < 256) :
    Calls Try.prog 7 #[.slice A n cap, .int .i64 x, .int .i64 y, .int .u8 (m : Int)] w fun e w' => e = .returned (.bool true) ∧ Below w.heap.size w w' := by
  by_cases h : n ≤ 65536
  · exact colBackA A n cap cs x y m w hr hm h
  · exact colBackB A n cap cs x y m w hr hcap hm (by omega)
end Go.Proofs.Yteambdbcjcfdeaa
