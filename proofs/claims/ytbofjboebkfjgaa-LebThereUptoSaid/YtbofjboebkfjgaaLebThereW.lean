/-
  LebThere: what a writer was given is read by the same reads: the walk over the Go text of the statement. Condition: a script of at most 2^20 steps, each with at most 2^20 bytes.
-/
import Derived.Test.YtbofjboebkfjgaaLebAgain2
import Derived.Test.YtbofjboebkfjgaaLebRound
import Derived.Test.YtbofjboebkfjgaaLebAwake
namespace Go.Proofs.Ytbofjboebkfjgaa
open Go.RowKit

theorem WM.next_ {w' : World} {g B : Nat} {v' m' : Value} {bs out : List UInt8} (h : WM w' g B v' m' (bs ++ out) ([] ++ out)) : WM w' g B v' (.slice none 0 0) (bs ++ out) [] :=
  ⟨h.wr, World.ownsRow_nil _ _ _ _, fun e => (by cases e), fun _ e => (by cases e)⟩

theorem own_caps {w : World} {B n c : Nat} {e : TypeId} {A : Option Addr} {xs : List Value} (h : w.ownsRow B e 1 (.slice A n c) n xs) : n ≤ c ∧ c ≤ 9223372036854775807 := by
  rcases h.2 with ⟨h', _⟩ | ⟨g', cap', cur, h', _, _, hn, hm, _⟩
  · cases h'; omega
  · cases h'
    simp only [maxLen] at hm
    omega

set_option maxRecDepth 100000 in
set_option maxHeartbeats 2000000 in
theorem lebThere_walk (Ao : Option Addr) (no co : Nat) (x : Int) (w : World) (_x1 : -9223372036854775808 ≤ x) (_x2 : x ≤ 9223372036854775807)
    (hno : no ≤ 1048576) (hop : ∀ k, k < no → ∃ b off kd wh N K A' n' c' bs', Ao = some ⟨b, off, none⟩ ∧ OpAt w b (off + k * 5) kd wh N K A' n' c' bs' ∧ n' ≤ 1048576) :
    Calls Try.prog 10 #[.slice Ao no co, .int .i64 x] w fun e w' => e = .returned (.bool true) ∧ Below w.heap.size w w' := by
  obtain ⟨b, off, S, hAo, hST⟩ := steps_at hop
  have HA := hide hAo
  have HST := hide hST
  obtain ⟨L, hL⟩ : ∃ L, (outs S no).length = L := ⟨_, rfl⟩
  have hLs : L ≤ 1099536793600 := by
    have h1 := hST.outs_len no (Nat.le_refl _)
    have h2 : no * 1048600 ≤ 1048576 * 1048600 := Nat.mul_le_mul_right _ hno
    omega
  have hkl : ∀ k, k ≤ no → (outs S k).length ≤ L := fun k hk => by
    obtain ⟨r, hr⟩ := outs_pre S no k hk
    rw [← hL, hr, List.length_append]
    omega
  have HKL := hide hkl
  have HL := Lib.hid hL
  clear hop hAo hST hL hkl
  go_enter Try.func10, Try.ntmps10
  go_wp2_with fail
  refine (awake_any w).mono ?_
  rintro e w1 ⟨rfl, hb1⟩
  have hN := hide (newWriter_any w1)
  have hz1 := hb1.size
  have HB1 := hide hb1
  clear hb1
  go_wp2_with fail
  refine (unhide hN).mono ?_
  rintro e w2 ⟨rfl, rfl⟩
  obtain ⟨g, hg⟩ : ∃ g, w1.heap.size = g := ⟨_, rfl⟩
  obtain ⟨W2, hW2⟩ : ∃ W, w1.alloc (.cells #[.slice none 0 0, .bool true] 43) = W := ⟨_, rfl⟩
  have hX2 : Blk W2 g 43 #[.slice none 0 0, .bool true] := by rw [← hW2, ← hg]; exact Blk.new _ _ _
  have hB2 : Below w.heap.size w W2 := by rw [← hW2]; exact (unhide HB1).alloc (unhide HB1).size _
  have HX2 := hide hX2
  have HB2 := hide hB2
  rw [hW2, hg]
  rw [hg] at hz1
  clear hX2 hB2 hW2 hg HB1 hN
  go_wp2_with fail
  go_loopg [6] no (fun q t W => ∃ (k : Nat) (V : Value), k + q = no ∧ t = .int .i64 (k : Int) ∧ WM W g w.heap.size V (.slice none 0 0) (outs S k) [] ∧ Below w.heap.size w W)
  case atStart => exact ⟨0, _, by omega, rfl, ⟨⟨unhide HX2, World.ownsRow_nil _ _ _ _⟩, World.ownsRow_nil _ _ _ _, fun e => (by cases e), fun _ e => (by cases e)⟩, unhide HB2⟩
  case round =>
    obtain ⟨k, V, hk, rfl, hWM, hbel⟩ := hrel
    clear HX2 HB2
    by_cases hlt : k < no
    · obtain ⟨q, rfl⟩ : ∃ q, gk = q + 1 := ⟨gk - 1, by omega⟩
      obtain rfl := unhide HA (by omega)
      have hO := (unhide HST).at_ k hlt
      have hsm := (unhide HST).small k hlt
      obtain ⟨J, hJ⟩ : ∃ J, off + k * 5 = J := ⟨_, rfl⟩
      rw [hJ] at hO
      have hlk := unhide HKL k (by omega)
      obtain ⟨⟨kd, wh, N, K, A', n', c', bs'⟩, hs⟩ : ∃ s, S k = s := ⟨_, rfl⟩
      rw [hs] at hO hsm
      have hout : (S k).out = outS kd N K n' bs' := by rw [hs]; rfl
      simp only at hO hsm
      have q0 : wr.cell? ⟨b, J, none⟩ = some (.int .i64 kd) := (hbel.cell (p := ⟨b, J, none⟩) hO.lt).trans hO.f0
      have q1 : wr.cell? ⟨b, J + 1, none⟩ = some (.int .i64 wh) := (hbel.cell (p := ⟨b, J + 1, none⟩) hO.lt).trans hO.f1
      have q2 : wr.cell? ⟨b, J + 2, none⟩ = some (.int .u64 (N : Int)) := (hbel.cell (p := ⟨b, J + 2, none⟩) hO.lt).trans hO.f2
      have q3 : wr.cell? ⟨b, J + 3, none⟩ = some (.int .i64 K) := (hbel.cell (p := ⟨b, J + 3, none⟩) hO.lt).trans hO.f3
      have q4 : wr.cell? ⟨b, J + 4, none⟩ = some (.slice A' n' c') := (hbel.cell (p := ⟨b, J + 4, none⟩) hO.lt).trans hO.f4
      have hk0 : (0 : Int) ≤ (k : Int) := by omega
      have hk1 : (k : Int) < (no : Int) := by omega
      have hxr : Reads wr w.heap.size 1 A' n' (bs'.map bv) := hO.reads.below hbel
      have hP := hide (puts_any wr g w.heap.size V (.slice none 0 0) (outs S k) [] hWM hbel.size kd (.int .i64 wh) N hO.nlt K hO.k1 hO.k2 A' n' c' bs' w.heap.size hxr (by omega) (Nat.le_refl _) (by omega) (by omega) (by simp))
      have HW := hide hWM
      have HB := hide hbel
      have HS := Lib.hid hs
      have HO := Lib.hid hout
      clear hWM hbel hs hout hO hxr
      go_wp2_with fail
      refine (unhide hP).mono ?_
      rintro e w3 ⟨v3, m3, rfl, hw3, hc3, _, _⟩
      have hW3 := hw3.next_
      rw [← HO.out] at hW3
      have HW3 := hide hW3
      have HB3 := hide ((unhide HB).trans (hc3.below (unhide HB).size (fun i hi e => by
        rcases e with e | e | e
        · omega
        · have := ((unhide HW).wr.own.lt i e).1; omega
        · cases e)))
      obtain ⟨Am, cm, rfl⟩ := hw3.own.shape
      clear hw3 hc3 hW3 HW HB HS HO hP
      go_wp2_with fail
      go_roundg q
      case rel => exact ⟨k + 1, v3, by omega, by go_num, unhide HW3, unhide HB3⟩
      case measure => omega
    · obtain rfl : no = k := by omega
      have how := hWM.wr.own
      have hbk := hWM.wr.blk
      obtain ⟨Av, cv, hV⟩ := how.shape
      rw [HL.out] at hV how
      rw [hV] at how hbk
      have hB := hide (bytes_made wr g Av L cv wr.heap.size (outs S no) hbk (Reads.of_own how) (by omega))
      have HBK := hide hbk
      have HBel := hide hbel
      clear hWM how hbk hV hbel
      go_wp2_with fail
      refine (unhide hB).mono ?_
      rintro e w4 ⟨v4, rfl, ho4, hb4⟩
      have hbk4 := (unhide HBK).below hb4 (unhide HBK).lt
      obtain ⟨A4, c4, rfl⟩ := ho4.shape
      obtain ⟨hc1, hc2⟩ := own_caps ho4
      have hLn := hide (len_made w4 g Av L cv hbk4)
      have HR4 := hide (Reads.of_own ho4)
      have HB4 := hide ((unhide HBel).trans (hb4.mono (unhide HBel).size))
      have hz4 := (unhide HB4).size
      clear ho4 hb4 hbk4 HBK HBel hB
      go_wp2_with fail
      refine (unhide hLn).mono ?_
      rintro e w5 ⟨rfl, rfl⟩
      have hN1 := hide (newReader_any A4 L c4 w4.heap.size (outs S no) w4 (unhide HR4) (by omega))
      go_wp2_with fail
      refine (unhide hN1).mono ?_
      rintro e w5 ⟨r, A1, c1, rfl, hr, hlo1, hrd1, hb5⟩
      have hR := hide (round_any x ((L : Int) + 1) w5 (by omega) (by omega))
      obtain ⟨j, hj, hjL⟩ : ∃ j : Nat, x % ((L : Int) + 1) = (j : Int) ∧ j ≤ L := by
        have h1 := Int.emod_lt_of_pos x (show (0 : Int) < (L : Int) + 1 by omega)
        have h2 := Int.emod_nonneg x (show (L : Int) + 1 ≠ 0 by omega)
        exact ⟨(x % ((L : Int) + 1)).toNat, by omega, by omega⟩
      rw [hj] at hR
      have hj0 : (0 : Int) ≤ (j : Int) := by omega
      have hj1 : (j : Int) ≤ (c4 : Int) := by omega
      have hz5 := hb5.size
      have hN2 := hide (newReader_any A4 j c4 w5.heap.size ((outs S no).take j) w5 ((((unhide HR4).below hb5).more hb5.size).cutTo hjL) (by omega))
      have HB5 := hide ((unhide HB4).trans (hb5.mono (unhide HB4).size))
      have hrl := hrd1.blk.lt
      have HRD1 := hide hrd1
      have HJ := Lib.hid hj
      clear hj hb5 hrd1 HB4 HR4 hN1 hLn
      go_wp2_with fail
      refine (unhide hR).mono ?_
      rintro e w6 ⟨rfl, rfl⟩
      go_wp2_with fail
      refine (unhide hN2).mono ?_
      rintro e w6 ⟨s, A2, c2, rfl, hs, hlo2, hrd2, hb6⟩
      have HRD6 := hide ((unhide HRD1).chg (Chg.of_below hb6 (fun _ => False)) (fun _ _ h => h))
      have HB6 := hide ((unhide HB5).trans (hb6.mono (unhide HB5).size))
      have HRD2 := hide hrd2
      have HLO2 := hide hlo2
      clear hb6 hrd2 HB5 HRD1 hN2 hR hlo2 hlo1
      go_wp2_with fail
      go_loopg [10] no (fun q t W => ∃ k p f, k + q = no ∧ t = .int .i64 (k : Int) ∧ RdP W r A1 L c1 (outs S no) (outs S k).length 0 ∧ RdP W s A2 j c2 ((outs S no).take j) p f ∧ Cut S j k p f ∧ Below w.heap.size w W)
      case atStart => exact ⟨0, 0, 0, by omega, rfl, unhide HRD6, unhide HRD2, .inl ⟨rfl, rfl, Nat.zero_le _⟩, unhide HB6⟩
      case round =>
        obtain ⟨k, p, f, hk, rfl, hR1, hR2, hC, hbel⟩ := hrel
        clear HRD6 HRD2 HB6
        by_cases hlt : k < no
        · obtain ⟨q, rfl⟩ : ∃ q, gk = q + 1 := ⟨gk - 1, by omega⟩
          obtain rfl := unhide HA (by omega)
          have hO := (unhide HST).at_ k hlt
          have hsm := (unhide HST).small k hlt
          have hcs := cut_step (unhide HST) hlt (by rw [HL.out]; exact hjL) hC
          obtain ⟨hw1, hw2⟩ := whole_step (unhide HST) hlt
          obtain ⟨J, hJ⟩ : ∃ J, off + k * 5 = J := ⟨_, rfl⟩
          rw [hJ] at hO
          obtain ⟨⟨kd, wh, N, K, A', n', c', bs'⟩, hs⟩ : ∃ s, S k = s := ⟨_, rfl⟩
          rw [hs] at hO hsm hcs hw1 hw2
          simp only at hO hsm hcs hw1 hw2
          have q0 : wr.cell? ⟨b, J, none⟩ = some (.int .i64 kd) := (hbel.cell (p := ⟨b, J, none⟩) hO.lt).trans hO.f0
          have q1 : wr.cell? ⟨b, J + 1, none⟩ = some (.int .i64 wh) := (hbel.cell (p := ⟨b, J + 1, none⟩) hO.lt).trans hO.f1
          have q2 : wr.cell? ⟨b, J + 2, none⟩ = some (.int .u64 (N : Int)) := (hbel.cell (p := ⟨b, J + 2, none⟩) hO.lt).trans hO.f2
          have q3 : wr.cell? ⟨b, J + 3, none⟩ = some (.int .i64 K) := (hbel.cell (p := ⟨b, J + 3, none⟩) hO.lt).trans hO.f3
          have q4 : wr.cell? ⟨b, J + 4, none⟩ = some (.slice A' n' c') := (hbel.cell (p := ⟨b, J + 4, none⟩) hO.lt).trans hO.f4
          have hk0 : (0 : Int) ≤ (k : Int) := by omega
          have hk1 : (k : Int) < (no : Int) := by omega
          have hP := hide (again_any wr s A2 j c2 ((outs S no).take j) p f hR2 kd (.int .i64 wh) N K A' n' c' bs' w.heap.size (hO.reads.below hbel) (by omega) (by omega))
          obtain ⟨⟨p2, f2⟩, hpf⟩ : ∃ r, ag kd n' ((outs S no).take j) p f = r := ⟨_, rfl⟩
          rw [hpf] at hcs hP
          obtain ⟨bb, hbb⟩ : ∃ r, agB kd N K n' bs' ((outs S no).take j) p f = r := ⟨_, rfl⟩
          rw [hbb] at hP
          have HR1 := hide hR1
          have HBE := hide hbel
          have HCS := hide hcs
          have HW1 := Lib.hid hw1
          have HW2 := Lib.hid hw2
          have HO := hide hO
          have hOl := hO.lt
          clear hR1 hR2 hbel hcs hw1 hw2 hs hO hpf hbb hC
          go_wp2_with fail
          refine (unhide hP).mono ?_
          rintro e w7 ⟨rfl, ha7⟩
          have hbel := (unhide HBE).trans (ha7.2.below (unhide HBE).size (fun i hi e => by omega))
          have hR1 := (unhide HR1).chg ha7.2 (fun i hi e => by omega)
          have r0 : w7.cell? ⟨b, J, none⟩ = some (.int .i64 kd) := (hbel.cell (p := ⟨b, J, none⟩) hOl).trans (unhide HO).f0
          have r1 : w7.cell? ⟨b, J + 1, none⟩ = some (.int .i64 wh) := (hbel.cell (p := ⟨b, J + 1, none⟩) hOl).trans (unhide HO).f1
          have r2 : w7.cell? ⟨b, J + 2, none⟩ = some (.int .u64 (N : Int)) := (hbel.cell (p := ⟨b, J + 2, none⟩) hOl).trans (unhide HO).f2
          have r3 : w7.cell? ⟨b, J + 3, none⟩ = some (.int .i64 K) := (hbel.cell (p := ⟨b, J + 3, none⟩) hOl).trans (unhide HO).f3
          have r4 : w7.cell? ⟨b, J + 4, none⟩ = some (.slice A' n' c') := (hbel.cell (p := ⟨b, J + 4, none⟩) hOl).trans (unhide HO).f4
          have hP2 := hide (again_any w7 r A1 L c1 (outs S no) (outs S k).length 0 hR1 kd (.int .i64 wh) N K A' n' c' bs' w.heap.size ((unhide HO).reads.below hbel) (by omega) (by omega))
          rw [HW1.out, HW2.out] at hP2
          have HA7 := hide ha7
          have HBE7 := hide hbel
          clear ha7 hR1 hbel HR1 HBE hP q0 q1 q2 q3 q4
          go_wp2_with fail
          refine (unhide hP2).mono ?_
          rintro e w8 ⟨rfl, ha8⟩
          have HR8 := hide ha8.1
          have HS8 := hide ((unhide HA7).1.chg2 (L := w5.heap.size) ha8.2 (unhide HLO2) (fun i h1 h2 e => by omega) (fun e => by omega))
          have HB8 := hide ((unhide HBE7).trans (ha8.2.below (unhide HBE7).size (fun i hi e => by omega)))
          clear ha8 HA7 HBE7 hP2 r0 r1 r2 r3 r4
          go_wp2_with fail
          go_roundg q
          case rel => exact ⟨k + 1, p2, f2, by omega, by go_num, unhide HR8, unhide HS8, unhide HCS, unhide HB8⟩
          case measure => omega
        · obtain rfl : no = k := by omega
          rw [HL.out] at hR1
          have hR := round_any x ((L : Int) + 1) wr (by omega) (by omega)
          rw [HJ.out] at hR
          have HR := hide hR
          have hE2 := hide (err_made _ s A2 j c2 ((outs S no).take j) p f hR2)
          have q3 := hide (err_made _ r A1 L c1 (outs S no) L 0 hR1)
          have e0 : endS L L 0 = 0 := by simp [endS]
          have q4 := end_made _ r A1 L c1 (outs S no) L 0 hR1
          rw [e0] at q4
          have Q4 := hide q4
          have HR1 := hide hR1
          have HB := hide hbel
          have hf : Hid (j < L → f = 10) := hide (fun h => by
            rcases hC with ⟨_, _, h2⟩ | ⟨h1, _⟩
            · rw [HL.out] at h2; omega
            · exact h1)
          clear hR1 hR2 hC hbel e0 hR q4
          by_cases hjl : j < L
          · obtain rfl := unhide hf hjl
            go_wp2_with fail
            refine (unhide HR).mono ?_
            rintro e w9 ⟨rfl, rfl⟩
            go_wp2_with fail
            refine (unhide hE2).mono ?_
            rintro e w9 ⟨rfl, rfl⟩
            go_wp2_with fail
            refine (unhide q3).mono ?_
            rintro e w9 ⟨rfl, rfl⟩
            go_wp2_with fail
            refine (unhide Q4).mono ?_
            rintro e w9 ⟨rfl, n9, rfl⟩
            have q1 := hide (at_made _ r A1 L c1 (outs S no) L 0 ((unhide HR1).drewN n9))
            have q2 := left_made _ r A1 L c1 (outs S no) L 0 ((unhide HR1).drewN n9)
            rw [Nat.sub_self] at q2
            have Q2 := hide q2
            clear q2
            go_wp2_with fail
            refine (unhide q1).mono ?_
            rintro e w9 ⟨rfl, rfl⟩
            go_wp2_with fail
            refine (unhide Q2).mono ?_
            rintro e w9 ⟨rfl, m9, rfl⟩
            go_wp2_with fail
            go_ret
            exact ⟨rfl, below_drewN (unhide HB) _⟩
          · go_wp2_with fail
            refine (unhide HR).mono ?_
            rintro e w9 ⟨rfl, rfl⟩
            go_wp2_with fail
            refine (unhide q3).mono ?_
            rintro e w9 ⟨rfl, rfl⟩
            go_wp2_with fail
            refine (unhide Q4).mono ?_
            rintro e w9 ⟨rfl, n9, rfl⟩
            have q1 := hide (at_made _ r A1 L c1 (outs S no) L 0 ((unhide HR1).drewN n9))
            have q2 := left_made _ r A1 L c1 (outs S no) L 0 ((unhide HR1).drewN n9)
            rw [Nat.sub_self] at q2
            have Q2 := hide q2
            clear q2
            go_wp2_with fail
            refine (unhide q1).mono ?_
            rintro e w9 ⟨rfl, rfl⟩
            go_wp2_with fail
            refine (unhide Q2).mono ?_
            rintro e w9 ⟨rfl, m9, rfl⟩
            go_wp2_with fail
            go_ret
            exact ⟨rfl, below_drewN (unhide HB) _⟩
end Go.Proofs.Ytbofjboebkfjgaa
