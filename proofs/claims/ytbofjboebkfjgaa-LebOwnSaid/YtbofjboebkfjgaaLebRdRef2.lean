/-
  The document's reader: Text; the walks over the Go text. Condition: the reader's bytes stay below 2^47.
-/
import Derived.Test.YtbofjboebkfjgaaLebRdRef
namespace Go.Proofs.Ytbofjboebkfjgaa
open Go.RowKit
set_option maxHeartbeats 1000000 in
theorem rtext_any (w : World) (B g : Nat) (A : Option Addr) (n c : Nat) (bs : List UInt8) (p f : Nat) (k : Int) (h : RdR w B g A n c bs p f) (h2 : k ≤ 9223372036854775807) :
    Calls Try.prog 58 #[.pointer (some ⟨g, 0, none⟩), .int .i64 k] w fun E w' =>
      E = .returned (.string ⟨(textS bs k p f).1.toArray⟩) ∧ AfterR w B g A n c bs (textS bs k p f).2.1 (textS bs k p f).2.2 w' := by
  have hlen := h.len
  have c0 : w.cell? ⟨g, 0, none⟩ = some (.slice A n c) := h.blk.cell 0
  have c1 : w.cell? ⟨g, 1, none⟩ = some (.int .i64 (p : Int)) := h.blk.cell 1
  have c2 : w.cell? ⟨g, 2, none⟩ = some (.int .i64 (f : Int)) := h.blk.cell 2
  have f1 : w.frozen? ⟨g, 1, none⟩ = false := h.blk.frozen 1
  by_cases hf : f = 0
  · subst hf
    by_cases hneg : k < 0
    · rw [textS_neg hneg]
      have hF := hide (fails_any w B g A n c bs p 0 2 h)
      clear h
      go_enter Try.func58, Try.ntmps58
      go_wp2_with (go_at_call 66; refine (unhide hF).mono ?_; rintro E w1 ⟨rfl, ha⟩)
      go_ret
      exact ⟨rfl, ha⟩
    · obtain ⟨m, rfl⟩ := Int.eq_ofNat_of_zero_le (by omega : 0 ≤ k)
      have hm0 : (0 : Int) ≤ (m : Int) := by omega
      obtain ⟨r, hg⟩ : ∃ r, getS (bs.drop p) = r := ⟨_, rfl⟩
      obtain ⟨a, j, e⟩ := r
      have hle := h.le
      have hcap := h.cap
      have hsm := h.small
      obtain ⟨⟨iE, zE, eE1, eE2, eE3, eE4, eE5, eE6⟩, _⟩ := elem_u8
      have hsl := fun W => run_cut eE1 eE2 eE4 A c (k := p) (n := n) hle W
      have hr := h.rd.cut hle hcap
      rw [Nat.mul_one, ← List.map_drop] at hr
      obtain ⟨A', hA'⟩ : ∃ A', (if c = p then A else A.map (·.add p)) = A' := ⟨_, rfl⟩
      simp only [Nat.mul_one, hA'] at hsl
      rw [hA'] at hr
      have hG : ∀ q, Hid (Calls Try.prog 13 #[.slice A' (n - p) (c - p)] (w.drewN q) fun E w' => E = .returned (.tuple #[.int .u64 (a : Int), .int .i64 (j : Int), .int .i64 (e : Int)]) ∧ w.drewN q = w') := fun q => hide (refGet_r _ (hr.drewN q) hg)
      have hp0 : (0 : Int) ≤ (p : Int) := by omega
      have hpn : (p : Int) ≤ (n : Int) := by omega
      have hnc : (n : Int) ≤ (c : Int) := by omega
      have HE := hide (And.intro eE1 (And.intro eE2 eE4))
      clear hr hA' eE1 eE2 eE3 eE4 eE5 eE6
      rcases get_fit bs p a j e hg with ⟨rfl, hj, ha⟩ | ⟨he, rfl, rfl⟩
      · by_cases hm : m < a
        · rw [textS_long hg hm]
          have hd : (m : Int) < (a : Int) := by omega
          have hF := fun q => hide (fails_any _ B g A n c bs p 0 3 (h.drewN q))
          clear h hg HE
          go_enter Try.func58, Try.ntmps58
          go_wp2
          go_quiet ((go_at_call 13; exact quiet_left (unhide (hG _))))
          go_wp2_with (go_at_call 66; refine (unhide (hF _)).mono ?_; rintro E w1 ⟨rfl, ha⟩)
          go_ret
          exact ⟨rfl, ha.1, (chg_drewN w _ _).trans ha.2 (fun _ _ h => h)⟩
        · have hd : ¬ (m : Int) < (a : Int) := by omega
          obtain ⟨L, hL⟩ : ∃ L, n - p - j = L := ⟨_, rfl⟩
          obtain ⟨L0, hL0⟩ : ∃ L, n - p = L := ⟨_, rfl⟩
          have hs1 : IntKind.i64.wrap ((n : Int) - (p : Int)) = (L0 : Int) := by rw [IntWalk.i64_in _ (by omega)]; omega
          have hs2 : IntKind.i64.wrap ((L0 : Int) - (j : Int)) = (L : Int) := by rw [IntWalk.i64_in _ (by omega)]; omega
          have hs3 : IntKind.u64.wrap (L : Int) = (L : Int) := wrapu_nat L (by omega)
          by_cases hsh : bs.length - (p + j) < a
          · rw [textS_short hg hm hsh]
            have hd2 : decide (L < a) = true := by simp; omega
            have hF := fun q => hide (fails_any _ B g A n c bs p 0 10 (h.drewN q))
            clear h hg HE hL hL0 hsh hm
            go_enter Try.func58, Try.ntmps58
            go_wp2
            go_quiet ((go_at_call 13; exact quiet_left (unhide (hG _))))
            go_wp2
            go_quiet (fail)
            go_wp2_with (go_at_call 66; refine (unhide (hF _)).mono ?_; rintro E w1 ⟨rfl, ha⟩)
            go_ret
            exact ⟨rfl, ha.1, (chg_drewN w _ _).trans ha.2 (fun _ _ h => h)⟩
          · rw [textS_yes hg hm hsh]
            have hd2 : decide (L < a) = false := by simp; omega
            obtain ⟨l, hl⟩ : ∃ l, p + j = l := ⟨_, rfl⟩
            obtain ⟨q, hq⟩ : ∃ q, l + a = q := ⟨_, rfl⟩
            rw [hl, hq]
            have hmid := h.rd.midof hcap (l := l) (m := a) (by omega)
            have hsm2 := fun W => run_mid (unhide HE).1 (unhide HE).2.1 (unhide HE).2.2 A (n := n) c (l := l) (h := q) (by omega) (by omega) W
            obtain ⟨A2, hA2⟩ : ∃ A', (if c = l then A else A.map (·.add (l * 1))) = A' := ⟨_, rfl⟩
            simp only [hA2, show q - l = a by omega] at hsm2
            rw [hA2] at hmid
            obtain ⟨out, hout⟩ : ∃ o, (bs.drop l).take a = o := ⟨_, rfl⟩
            rw [hout] at hmid ⊢
            have hst := fun q' q'' => run_string_of (P := Try.prog) (((hmid.drewN q').setCell (p := ⟨g, 1, none⟩) h.lo (.int .i64 (q : Int))).drewN q'') (c - l) 22 9 5 Try.underlying22 Try.underlying5 Try.underlying9
            have hw1 : IntKind.i64.wrap ((p : Int) + (j : Int)) = (l : Int) := by rw [IntWalk.i64_in _ (by omega)]; omega
            have hw2 : (a : Int) ≤ 140737488355328 := by omega
            have hw3 : IntKind.i64.wrap ((l : Int) + (a : Int)) = (q : Int) := by rw [IntWalk.i64_in _ (by omega)]; omega
            have hqn : q ≤ n := by omega
            have hq0 : (0 : Int) ≤ (q : Int) := by omega
            have hl0 : (0 : Int) ≤ (l : Int) := by omega
            have hlq : (l : Int) ≤ (q : Int) := by omega
            have hqc : (q : Int) ≤ (c : Int) := by omega
            have HH := hide h
            clear h hg HE hmid hA2 hout hL hL0 hl hq hsh hm
            go_enter Try.func58, Try.ntmps58
            go_wp2
            go_quiet ((go_at_call 13; exact quiet_left (unhide (hG _))))
            go_wp2
            go_quiet (fail)
            go_wp2
            go_quiet (fail)
            go_wp2
            go_ret
            exact ⟨rfl, (((unhide HH).drewN _).at_ q hqn).drewN _, (((chg_drewN w _ (fun i => i = g))).set_ ⟨g, 1, none⟩ _ (fun _ => rfl)).drewN _⟩
      · rw [textS_no hg he]
        have heb : ((e : Int) != 0) = true := by simp; omega
        have hF := fun q => hide (fails_any _ B g A n c bs p 0 e (h.drewN q))
        clear h hg HE
        go_enter Try.func58, Try.ntmps58
        go_wp2
        go_quiet ((go_at_call 13; exact quiet_left (unhide (hG _))))
        go_wp2_with (go_at_call 66; refine (unhide (hF _)).mono ?_; rintro E w1 ⟨rfl, ha⟩)
        go_ret
        exact ⟨rfl, ha.1, (chg_drewN w _ _).trans ha.2 (fun _ _ h => h)⟩
  · rw [textS_fault hf]
    have hfb : ((f : Int) != 0) = true := by simp; omega
    have HH := hide h
    clear h hf
    go_enter Try.func58, Try.ntmps58
    go_wp2
    go_ret
    exact ⟨rfl, unhide HH, Chg.refl _ _⟩

theorem rend_any (w : World) (B g : Nat) (A : Option Addr) (n c : Nat) (bs : List UInt8) (p f : Nat) (h : RdR w B g A n c bs p f) :
    Calls Try.prog 59 #[.pointer (some ⟨g, 0, none⟩)] w fun E w' => E = .returned (.int .i64 (endS n p f : Nat)) ∧ ∃ q, w' = w.drewN q := by
  have c0 : w.cell? ⟨g, 0, none⟩ = some (.slice A n c) := h.blk.cell 0
  have c1 : w.cell? ⟨g, 1, none⟩ = some (.int .i64 (p : Int)) := h.blk.cell 1
  have c2 : w.cell? ⟨g, 2, none⟩ = some (.int .i64 (f : Int)) := h.blk.cell 2
  clear h
  by_cases hf : f = 0
  · subst hf
    by_cases hp : p < n
    · have e : endS n p 0 = 10 := by unfold endS; rw [if_neg (by simp), if_pos hp]
      rw [e]
      have hd : decide (p < n) = true := by simp; omega
      go_enter Try.func59, Try.ntmps59
      go_wp2
      go_quiet (fail)
      go_wp2
      go_ret
      exact ⟨rfl, _, rfl⟩
    · have e : endS n p 0 = 0 := by unfold endS; rw [if_neg (by simp), if_neg hp]
      rw [e]
      have hd : decide (p < n) = false := by simp; omega
      go_enter Try.func59, Try.ntmps59
      go_wp2
      go_quiet (fail)
      go_wp2
      go_ret
      exact ⟨rfl, _, rfl⟩
  · have e : endS n p f = f := by unfold endS; rw [if_pos hf]
    rw [e]
    have hfb : ((f : Int) != 0) = true := by simp; omega
    go_enter Try.func59, Try.ntmps59
    go_wp2
    go_ret
    exact ⟨rfl, 0, rfl⟩
end Go.Proofs.Ytbofjboebkfjgaa
