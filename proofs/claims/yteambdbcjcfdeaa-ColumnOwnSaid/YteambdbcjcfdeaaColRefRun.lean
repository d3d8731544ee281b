/-
  The document's answer for columns: the run way: the walk over the Go text. Condition: at most 2^20 numbers.
-/
import Derived.Test.YteambdbcjcfdeaaColRef
namespace Go.Proofs.Yteambdbcjcfdeaa
open Go.RowKit

set_option maxRecDepth 100000 in
set_option maxHeartbeats 1000000 in
theorem rrun_any (c : List UInt32) (A : Option Addr) (n cap B : Nat) (w : World) (hr : Reads w B 1 A n (c.map uw)) (hB : B ≤ w.heap.size) (hNn : n ≤ 1048576) :
    Calls Try.prog 47 #[.slice A n cap] w fun e w' => ∃ v, e = .returned v ∧ Bo w w' v (runS c) := by
  have hlen : c.length = n := by have := hr.1; simpa using this
  have HR := hide hr
  have HLEN := Lib.hid hlen
  clear hr hlen
  go_enter Try.func47, Try.ntmps47
  go_wp2_with fail
  go_loopg [3, 4] n (fun q v t W => ∃ (i : Nat) (bs : List UInt8), i + q = n ∧ t = .int .i64 (i : Int) ∧ bs ++ runS (c.drop i) = runS c ∧ Bo w W v bs)
  case atStart => exact ⟨0, [], by omega, rfl, by simp, Bo.nil_ w⟩
  case round =>
    obtain ⟨i, bs, hi, rfl, hout, hbo⟩ := hrel
    obtain ⟨Av, cv, rfl⟩ := hbo.1.shape
    obtain ⟨L, hL⟩ : ∃ L, bs.length = L := ⟨_, rfl⟩
    rw [hL] at hbo ⊢
    have HL := Lib.hid hL
    clear hL
    have HBO := hide hbo
    have HOUT := Lib.hid hout
    clear hbo hout
    by_cases hlt : i < n
    · obtain ⟨q, rfl⟩ : ∃ q, gk = q + 1 := ⟨gk - 1, by omega⟩
      have hin : (i : Int) < (n : Int) := by omega
      have hi0 : (0 : Int) ≤ (i : Int) := by omega
      go_wp2_with fail
      go_loopg [5] (n - i) (fun p t W => ∃ k : Nat, k + p = n ∧ t = .int .i64 (k : Int) ∧ i ≤ k ∧ (∀ j, i ≤ j → j < k → c[j]? = c[i]?) ∧ Bo w W (.slice Av L cv) bs)
      case atStart => exact ⟨i, by omega, rfl, Nat.le_refl _, fun j h1 h2 => by omega, unhide HBO⟩
      case round =>
        obtain ⟨k, hk, rfl, hik, hsame, hbo⟩ := hrel
        have hr' := unhide HR
        obtain ⟨b, off, xi, rfl, hbB, hxi, hci0⟩ := hr'.num hlt
        have hci := (hbo.2.cell (p := ⟨b, off + i, none⟩) (by simp only; omega)).trans hci0
        have HBI := hide hbo
        have HSAME := hide hsame
        obtain ⟨X, hX⟩ : ∃ X, xi.toNat = X := ⟨_, rfl⟩
        have hxlt : X < U64 := by have := u32_lt xi; unfold U64; omega
        rw [hX] at hci
        have hwX : IntKind.u64.wrap (X : Int) = (X : Int) := wrapu_nat X hxlt
        obtain ⟨D, hDk⟩ : ∃ D, k - i = D := ⟨_, rfl⟩
        have hDlt : D < U64 := by unfold U64; omega
        by_cases hkn : k < n
        · obtain ⟨b', off', xk, hA', _, hxk, hck0⟩ := hr'.num hkn
          cases hA'
          have hck := (hbo.2.cell (p := ⟨b, off + k, none⟩) (by simp only; omega)).trans hck0
          have hkI : (k : Int) < (n : Int) := by omega
          have hkI0 : (0 : Int) ≤ (k : Int) := by omega
          by_cases hcc : xk = xi
          · subst hcc
            obtain ⟨p, rfl⟩ : ∃ p', gk = p' + 1 := ⟨gk - 1, by omega⟩
            rw [hX] at hck
            clear hbo hsame hr' hck0 hci0 hX hDk hwX
            go_wp2_with fail
            go_quiet (fail)
            rename_i nq
            go_wp2_with fail
            go_roundg p
            case rel =>
              refine ⟨k + 1, by omega, by go_num, by omega, ?_, (unhide HBI).drewN nq⟩
              intro j h1 h2
              by_cases h : j < k
              · exact (unhide HSAME) j h1 h
              · obtain rfl : j = k := by omega
                rw [hxk, hxi]
            case measure => omega
          · have hik2 : i ≠ k := fun e => hcc (by subst e; rw [hxi] at hxk; injection hxk with e; exact e.symm)
            have hlt2 : i < k := by omega
            have hend : k = c.length ∨ c[k]? ≠ some xi := .inr (by rw [hxk]; exact fun e => hcc (by injection e))
            have HNEXT := Lib.hid (runs_at hxi hlt2 (fun j h1 h2 => ((unhide HSAME) j h1 h2).trans hxi) hend)
            obtain ⟨X', hX'⟩ : ∃ X, xk.toNat = X := ⟨_, rfl⟩
            have hne : ¬ X' = X := fun e => hcc (UInt32.toNat_inj.1 (by rw [hX', hX]; exact e))
            have hxx : ((X' : Int) == (X : Int)) = false := by
              simp only [beq_eq_false_iff_ne, ne_eq, Int.natCast_inj]
              exact hne
            rw [hX'] at hck
            clear hbo hsame hr' hck0 hci0 hend hX' hxk hxi hcc

            have hIK : IntKind.i64.wrap ((k : Int) - (i : Int)) = (D : Int) := by rw [IntWalk.i64_in _ (by omega)]; omega
            have hwD : IntKind.u64.wrap (D : Int) = (D : Int) := wrapu_nat D hDlt
            have hP := fun W => hide (refPut_any X W hxlt)
            have hP2 := fun W => hide (refPut_any D W hDlt)
            obtain ⟨M, hM⟩ : ∃ M, (form X).length = M := ⟨_, rfl⟩
            obtain ⟨N, hN⟩ : ∃ M, (form D).length = M := ⟨_, rfl⟩
            have hf1 := (form_len X).2
            have hf2 := (form_len D).2
            rw [hM] at hf1
            rw [hN] at hf2
            have HM := Lib.hid hM
            have HN := Lib.hid hN
            have hLR : L ≤ 20 * n := by
              have h := congrArg List.length HOUT.out
              rw [List.length_append, HL.out] at h
              have h2 := runS_len c
              rw [HLEN.out] at h2
              omega
            have HC : Hid (L + M ≤ maxLen ∧ (L + M) * 1 ≤ 140737488355328) := cap1 (by omega)
            have HC2 : Hid (L + M + N ≤ maxLen ∧ (L + M + N) * 1 ≤ 140737488355328) := cap1 (by omega)
            have hOUT2 : (bs ++ form X ++ form D) ++ runS (c.drop k) = runS c := by
              rw [← HOUT.out, runS, runS, HNEXT.out, List.flatMap_cons, hX, hDk]
              simp only [List.append_assoc]
            have HOUT2 := Lib.hid hOUT2
            clear hM hN hX hOUT2 hDk
            go_wp2_with fail
            go_quiet (fail)
            rename_i nq
            go_wp2_with fail
            refine (unhide (hP _)).mono ?_
            rintro e w2 ⟨v2, rfl, ho2, hb2⟩
            rw [HM.out] at ho2
            obtain ⟨A2, c2, rfl⟩ := ho2.shape
            have hbo2 := ((unhide HBI).drewN nq).below hb2
            have hz2 := hbo2.2.size
            have HBO2 := hide hbo2
            have HR2 := hide (Reads.of_own ho2)
            clear ho2 hb2 hbo2
            go_wp2_with (first
              | (at_builtin
                 refine wpList_app w2 rfl (.tmp 28) (.tmp 34) 24 rfl elem_u8 w.heap.size (.slice Av L cv) L (bs.map bv) rfl (by have h := (unhide HBO2).1; rwa [HL.out] at h) w2.heap.size A2 M c2 ((form X).map bv) rfl (unhide HR2) (bv_one _) HC.out hz2 ?_
                 intro v4 w4 ho4 hg4 _
                 obtain ⟨A4, c4, rfl⟩ := ho4.shape
                 have HBO4 := hide ((unhide HBO2).app (ms := form X) (by rw [HL.out, HM.out]; exact ho4) hg4)
                 clear ho4 hg4))
            refine (unhide (hP2 _)).mono ?_
            rintro e w5 ⟨v5, rfl, ho5, hb5⟩
            rw [HN.out] at ho5
            obtain ⟨A5, c5, rfl⟩ := ho5.shape
            have hbo5 := (unhide HBO4).below hb5
            have hz5 := hbo5.2.size
            have HBO5 := hide hbo5
            have HR5 := hide (Reads.of_own ho5)
            clear ho5 hb5 hbo5
            go_wp2_with (first
              | (at_builtin
                 refine wpList_app w5 rfl (.tmp 36) (.tmp 41) 24 rfl elem_u8 w.heap.size (.slice A4 (L + M) c4) (L + M) ((bs ++ form X).map bv) rfl (by have h := (unhide HBO5).1; rwa [List.length_append, HL.out, HM.out] at h) w5.heap.size A5 N c5 ((form D).map bv) rfl (unhide HR5) (bv_one _) HC2.out hz5 ?_
                 intro v6 w6 ho6 hg6 _
                 have HBO6 := hide ((unhide HBO5).app (ms := form D) (by rw [List.length_append, HL.out, HM.out, HN.out]; exact ho6) hg6)
                 clear ho6 hg6))
            go_roundg (n - k)
            case rel => exact ⟨k, _, by omega, rfl, HOUT2.out, unhide HBO6⟩
            case measure => omega

        · obtain rfl : k = n := by omega
          have hlt2 : i < k := hlt
          have hend : k = c.length ∨ c[k]? ≠ some xi := .inl HLEN.out.symm
          have HNEXT := Lib.hid (runs_at hxi hlt2 (fun j h1 h2 => ((unhide HSAME) j h1 h2).trans hxi) hend)
          clear hbo hsame hr' hci0 hend hxi

          have hIK : IntKind.i64.wrap ((k : Int) - (i : Int)) = (D : Int) := by rw [IntWalk.i64_in _ (by omega)]; omega
          have hwD : IntKind.u64.wrap (D : Int) = (D : Int) := wrapu_nat D hDlt
          have hP := fun W => hide (refPut_any X W hxlt)
          have hP2 := fun W => hide (refPut_any D W hDlt)
          obtain ⟨M, hM⟩ : ∃ M, (form X).length = M := ⟨_, rfl⟩
          obtain ⟨N, hN⟩ : ∃ M, (form D).length = M := ⟨_, rfl⟩
          have hf1 := (form_len X).2
          have hf2 := (form_len D).2
          rw [hM] at hf1
          rw [hN] at hf2
          have HM := Lib.hid hM
          have HN := Lib.hid hN
          have hLR : L ≤ 20 * k := by
            have h := congrArg List.length HOUT.out
            rw [List.length_append, HL.out] at h
            have h2 := runS_len c
            rw [HLEN.out] at h2
            omega
          have HC : Hid (L + M ≤ maxLen ∧ (L + M) * 1 ≤ 140737488355328) := cap1 (by omega)
          have HC2 : Hid (L + M + N ≤ maxLen ∧ (L + M + N) * 1 ≤ 140737488355328) := cap1 (by omega)
          have hOUT2 : (bs ++ form X ++ form D) ++ runS (c.drop k) = runS c := by
            rw [← HOUT.out, runS, runS, HNEXT.out, List.flatMap_cons, hX, hDk]
            simp only [List.append_assoc]
          have HOUT2 := Lib.hid hOUT2
          clear hM hN hX hOUT2 hDk
          go_wp2_with fail
          go_quiet (fail)
          rename_i nq
          go_wp2_with fail
          refine (unhide (hP _)).mono ?_
          rintro e w2 ⟨v2, rfl, ho2, hb2⟩
          rw [HM.out] at ho2
          obtain ⟨A2, c2, rfl⟩ := ho2.shape
          have hbo2 := ((unhide HBI).drewN nq).below hb2
          have hz2 := hbo2.2.size
          have HBO2 := hide hbo2
          have HR2 := hide (Reads.of_own ho2)
          clear ho2 hb2 hbo2
          go_wp2_with (first
            | (at_builtin
               refine wpList_app w2 rfl (.tmp 28) (.tmp 34) 24 rfl elem_u8 w.heap.size (.slice Av L cv) L (bs.map bv) rfl (by have h := (unhide HBO2).1; rwa [HL.out] at h) w2.heap.size A2 M c2 ((form X).map bv) rfl (unhide HR2) (bv_one _) HC.out hz2 ?_
               intro v4 w4 ho4 hg4 _
               obtain ⟨A4, c4, rfl⟩ := ho4.shape
               have HBO4 := hide ((unhide HBO2).app (ms := form X) (by rw [HL.out, HM.out]; exact ho4) hg4)
               clear ho4 hg4))
          refine (unhide (hP2 _)).mono ?_
          rintro e w5 ⟨v5, rfl, ho5, hb5⟩
          rw [HN.out] at ho5
          obtain ⟨A5, c5, rfl⟩ := ho5.shape
          have hbo5 := (unhide HBO4).below hb5
          have hz5 := hbo5.2.size
          have HBO5 := hide hbo5
          have HR5 := hide (Reads.of_own ho5)
          clear ho5 hb5 hbo5
          go_wp2_with (first
            | (at_builtin
               refine wpList_app w5 rfl (.tmp 36) (.tmp 41) 24 rfl elem_u8 w.heap.size (.slice A4 (L + M) c4) (L + M) ((bs ++ form X).map bv) rfl (by have h := (unhide HBO5).1; rwa [List.length_append, HL.out, HM.out] at h) w5.heap.size A5 N c5 ((form D).map bv) rfl (unhide HR5) (bv_one _) HC2.out hz5 ?_
               intro v6 w6 ho6 hg6 _
               have HBO6 := hide ((unhide HBO5).app (ms := form D) (by rw [List.length_append, HL.out, HM.out, HN.out]; exact ho6) hg6)
               clear ho6 hg6))
          go_roundg 0
          case rel => exact ⟨k, _, by omega, rfl, HOUT2.out, unhide HBO6⟩
          case measure => omega

    · obtain rfl : i = n := by omega
      have hou : bs = runS c := by
        have h := HOUT.out
        rw [List.drop_of_length_le (by rw [HLEN.out]; exact Nat.le_refl _)] at h
        simpa [runS, runs_nil] using h
      rw [hou] at HBO
      clear hou
      go_wp2_with fail
      go_ret
      exact ⟨_, rfl, unhide HBO⟩
end Go.Proofs.Yteambdbcjcfdeaa
