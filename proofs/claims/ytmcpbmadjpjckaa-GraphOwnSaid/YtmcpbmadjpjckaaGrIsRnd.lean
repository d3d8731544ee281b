/-
  isRound: true of a round whose first is the least.
-/
import Derived.Test.YtmcpbmadjpjckaaGrFalls
namespace Go.Proofs.Ytmcpbmadjpjckaa
open Go.RowKit

/-- Does an edge of the list lead from a to b. -/
def ldB (l : List (Int × Int × Int)) (a b : Int) : Bool := l.any fun e => e.1 == a && e.2.1 == b
theorem ldB_snoc (l : List (Int × Int × Int)) (f t g a b : Int) : ldB (l ++ [(f, t, g)]) a b = (ldB l a b || (f == a && t == b)) := by simp [ldB]
set_option maxRecDepth 100000 in
set_option maxHeartbeats 4000000 in
theorem isRound_any (W : World) (A1 A2 : Option Addr) (n1 m c1 c2 B1 B2 : Nat) (xs : List Int) (E : List (Int × Int × Int)) (h1 : Reads W B1 1 A1 n1 (xs.map iz)) (h2 : Reads W B2 3 A2 m (ecells E)) (hn1 : n1 ≤ 9223372036854775807) (hm : m ≤ 140737488355328) (hp : 0 < n1)
    (hs : ∀ (i : Nat) (a b : Int), xs[i]? = some a → xs[(i + 1) % n1]? = some b → ldB E a b = true) (hl : ∀ (i : Nat) (a b : Int), 0 < i → xs[i]? = some a → xs[0]? = some b → b < a) :
    Calls Try.prog 24 #[.slice A1 n1 c1, .slice A2 m c2] W fun e W' => e = .returned (.bool true) ∧ ∃ a, W' = W.drewN a := by
  have hel : E.length = m := by have := h2.1; rw [ecells_len] at this; omega
  have H1 := hide h1
  have H2 := hide h2
  have HS := hide hs
  have HL := hide hl
  have HE := Lib.hid hel
  clear h1 h2 hs hl hel
  go_enter Try.func24, Try.ntmps24
  go_wp2_with fail
  go_loopg [5, 6, 7] n1 (fun q ti t6 t7 W' => ∃ i : Nat, ti = .int .i64 (i : Int) ∧ i + q = n1 ∧ ∃ a, W' = W.drewN a)
  case atStart => exact ⟨0, rfl, by omega, 0, rfl⟩
  case round =>
    obtain ⟨i, rfl, hiq, a, hw⟩ := hrel
    have hi0 : (0 : Int) ≤ (i : Int) := by omega
    by_cases hi : i < n1
    · have hiI : (i : Int) < (n1 : Int) := by omega
      obtain ⟨gq, rfl⟩ : ∃ q, gk = q + 1 := ⟨gk - 1, by omega⟩
      obtain ⟨j, hj⟩ : ∃ j, (i + 1) % n1 = j := ⟨_, rfl⟩
      have hjn : j < n1 := by rw [← hj]; exact Nat.mod_lt _ hp
      obtain ⟨b1, o1, r1, hA1, _, hr1, k1⟩ := (unhide H1).int_at hi
      obtain ⟨b1', o1', r2, hA1', _, hr2, k2⟩ := (unhide H1).int_at hjn
      obtain ⟨b1'', o1'', r0, hA1'', _, hr0, k0⟩ := (unhide H1).int_at hp
      rw [hA1] at hA1' hA1''
      injection hA1' with e; injection e with e1 e2; subst e1 e2
      injection hA1'' with e; injection e with e1 e2; subst e1 e2
      subst hA1
      rw [Nat.add_zero] at k0
      have hld := unhide HS i r1 r2 hr1 (by rw [hj]; exact hr2)
      have HLD := hide hld
      have HW := Lib.hid hw
      have hlt := fun h0 => unhide HL i r1 r0 h0 hr1 hr0
      have HLT := hide hlt
      obtain ⟨I1, hI1⟩ : ∃ z, i + 1 = z := ⟨_, rfl⟩
      have hsum : IntKind.i64.wrap ((i : Int) + 1) = (I1 : Int) := by rw [IntWalk.i64_in _ (by omega)]; omega
      have hmt : (I1 : Int).tmod (n1 : Int) = (j : Int) := by
        rw [Int.tmod_eq_emod_of_nonneg (by omega), ← hj, hI1]
        simp
      have hmw : IntKind.i64.wrap ((I1 : Int).tmod (n1 : Int)) = (j : Int) := by rw [hmt, IntWalk.i64_in _ (by omega)]
      have hn0 : ¬ (n1 : Int) = 0 := by omega
      have hnb : ((n1 : Int) == 0) = false := by simp; omega
      have HI1 := Lib.hid hI1
      have HK := hide (And.intro k1 (And.intro k2 k0))
      clear hr1 hr2 hr0 hld k1 k2 k0 hj hw hlt hI1
      go_wp2_with fail
      go_loopg [6, 7] m (fun q t6 tk W' => ∃ k : Nat, tk = .int .i64 (k : Int) ∧ k + q = m ∧ t6 = .bool (ldB (E.take k) r1 r2) ∧ ∃ a, W' = W.drewN a)
      case atStart => exact ⟨0, rfl, by omega, by simp [ldB], a, HW.out⟩
      case round =>
        obtain ⟨k, rfl, hkq, rfl, a', hw'⟩ := hrel
        obtain ⟨k1, k2, k0⟩ := unhide HK
        have q1 : wr.cell? ⟨b1, o1 + i, none⟩ = some (.int .i64 r1) := by rw [hw']; exact k1
        have q2 : wr.cell? ⟨b1, o1 + j, none⟩ = some (.int .i64 r2) := by rw [hw']; exact k2
        have q0 : wr.cell? ⟨b1, o1, none⟩ = some (.int .i64 r0) := by rw [hw']; exact k0
        clear k1 k2 k0
        have hk0 : (0 : Int) ≤ (k : Int) := by omega
        by_cases hk : k < m
        · have hkI : (k : Int) < (m : Int) := by omega
          obtain ⟨gq2, rfl⟩ : ∃ q, gk = q + 1 := ⟨gk - 1, by omega⟩
          obtain ⟨b2, o2, f, t, gw, rfl, _, he, d1, d2, _⟩ := (unhide H2).edge hk
          have e1 : wr.cell? ⟨b2, o2 + k * 3, none⟩ = some (.int .i64 f) := by rw [hw']; exact d1
          have e2 : wr.cell? ⟨b2, o2 + k * 3 + 1, none⟩ = some (.int .i64 t) := by rw [hw']; exact d2
          have htk : E.take (k + 1) = E.take k ++ [(f, t, gw)] := by rw [List.take_add_one, he]; rfl
          have hsn := ldB_snoc (E.take k) f t gw r1 r2
          rw [← htk] at hsn
          obtain ⟨J, hJ⟩ : ∃ b, ldB (E.take k) r1 r2 = b := ⟨_, rfl⟩
          rw [hJ] at hsn ⊢
          have HSN := hide hsn
          have HW2 := Lib.hid hw'
          have hj0 : (0 : Int) ≤ (j : Int) := by omega
          have hjI : (j : Int) < (n1 : Int) := by omega
          have hn0 : ¬ (n1 : Int) = 0 := by omega
          clear he d1 d2 htk hsn hJ hw'
          cases J with
          | true =>
            go_wp2_with fail
            go_quiet (fail)
            rename_i nq
            go_wp2_with fail
            go_roundg gq2
            case rel => exact ⟨k + 1, by go_num, by omega, by rw [unhide HSN]; simp, a' + nq, by rw [HW2.out, World.drewN_drewN]⟩
            case measure => omega
          | false =>
            by_cases hf : f = r1
            · subst hf
              by_cases ht : t = r2
              · subst ht
                go_wp2_with fail
                go_quiet (fail)
                rename_i nq
                go_wp2_with fail
                go_roundg gq2
                case rel => exact ⟨k + 1, by go_num, by omega, by rw [unhide HSN]; simp, a' + nq, by rw [HW2.out, World.drewN_drewN]⟩
                case measure => omega
              · have htb : (t == r2) = false := by simpa using ht
                go_wp2_with fail
                go_quiet (fail)
                rename_i nq
                go_wp2_with fail
                go_roundg gq2
                case rel => exact ⟨k + 1, by go_num, by omega, by rw [unhide HSN, htb]; simp, a' + nq, by rw [HW2.out, World.drewN_drewN]⟩
                case measure => omega
            · have hfb : (f == r1) = false := by simpa using hf
              go_wp2_with fail
              go_quiet (fail)
              rename_i nq
              go_wp2_with fail
              go_roundg gq2
              case rel => exact ⟨k + 1, by go_num, by omega, by rw [unhide HSN, hfb]; simp, a' + nq, by rw [HW2.out, World.drewN_drewN]⟩
              case measure => omega
        · obtain rfl : k = m := by omega
          rw [List.take_of_length_le (by have := HE.out; omega), unhide HLD]
          have HW2 := Lib.hid hw'
          clear hw'
          have hq : ∃ b, wr = W.drewN b := ⟨a', HW2.out⟩
          by_cases hz : 0 < i
          · have hzI : decide ((0 : Int) < (i : Int)) = true := decide_eq_true (by omega)
            have hle : ¬ r1 ≤ r0 := by have := (unhide HLT) hz; omega
            go_wp2_with fail
            go_quiet (fail)
            rename_i nq
            go_wp2_with fail
            go_roundg gq
            case rel => exact ⟨I1, rfl, by have := HI1.out; omega, a' + nq, by rw [HW2.out, World.drewN_drewN]⟩
            case measure => omega
          · have hz0 : i = 0 := by omega
            have hzI : decide ((0 : Int) < (i : Int)) = false := decide_eq_false (by omega)
            go_wp2_with fail
            go_quiet (fail)
            rename_i nq
            go_wp2_with fail
            go_roundg gq
            case rel => exact ⟨1, rfl, by omega, a' + nq, by rw [HW2.out, World.drewN_drewN]⟩
            case measure => omega
    · obtain rfl : i = n1 := by omega
      have HW := Lib.hid hw
      have hpI : (0 : Int) < (i : Int) := by omega
      clear hw
      go_wp2_with fail
      go_ret
      exact ⟨rfl, a, HW.out⟩
end Go.Proofs.Ytmcpbmadjpjckaa
