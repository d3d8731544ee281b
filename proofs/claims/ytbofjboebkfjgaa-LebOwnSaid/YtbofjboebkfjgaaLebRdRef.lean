/-
  The document's reader: Num, Int, Raw, Text, End; the walks over the Go text. Condition: the reader's bytes stay below 2^47.
-/
import Derived.Test.YtbofjboebkfjgaaLebRd2
import Derived.Test.YtbofjboebkfjgaaLebRefGet
namespace Go.Proofs.Ytbofjboebkfjgaa
open Go.RowKit

/-- The document's reader: its struct lies in block g, its bytes in a block before B. -/
structure RdR (w : World) (B g : Nat) (A : Option Addr) (n c : Nat) (bs : List UInt8) (p f : Nat) : Prop where
  blk : Blk w g 60 #[.slice A n c, .int .i64 (p : Int), .int .i64 (f : Int)]
  rd : Reads w B 1 A n (bs.map bv)
  lo : B ≤ g
  le : p ≤ n
  cap : n ≤ c
  small : n ≤ 140737488355328
section
variable {w w' : World} {B g : Nat} {A : Option Addr} {n c : Nat} {bs : List UInt8} {p f : Nat}
theorem RdR.len (h : RdR w B g A n c bs p f) : bs.length = n := by have := h.rd.1; simpa using this
theorem RdR.drewN (h : RdR w B g A n c bs p f) (k : Nat) : RdR (w.drewN k) B g A n c bs p f := ⟨h.blk.drewN k, h.rd.drewN k, h.lo, h.le, h.cap, h.small⟩
theorem RdR.chg (h : RdR w B g A n c bs p f) {S : Nat → Prop} (hc : Chg w w' S) (hS : ∀ i, i < B → ¬ S i) (hg : ¬ S g) : RdR w' B g A n c bs p f :=
  ⟨hc.blk h.blk hg, hc.reads h.rd (Nat.le_trans h.lo (Nat.le_of_lt h.blk.lt)) hS, h.lo, h.le, h.cap, h.small⟩
theorem RdR.at_ (h : RdR w B g A n c bs p f) (q : Nat) (hq : q ≤ n) : RdR (w.setCell ⟨g, 1, none⟩ (.int .i64 (q : Int))) B g A n c bs q f :=
  ⟨h.blk.set_ 1 _, h.rd.setCell (p := ⟨g, 1, none⟩) h.lo _, h.lo, hq, h.cap, h.small⟩
theorem RdR.fault (h : RdR w B g A n c bs p f) (q : Nat) : RdR (w.setCell ⟨g, 2, none⟩ (.int .i64 (q : Int))) B g A n c bs p q :=
  ⟨h.blk.set_ 2 _, h.rd.setCell (p := ⟨g, 2, none⟩) h.lo _, h.lo, h.le, h.cap, h.small⟩
end
def AfterR (w : World) (B g : Nat) (A : Option Addr) (n c : Nat) (bs : List UInt8) (p f : Nat) (w' : World) : Prop := RdR w' B g A n c bs p f ∧ Chg w w' (fun i => i = g)

theorem fails_any (w : World) (B g : Nat) (A : Option Addr) (n c : Nat) (bs : List UInt8) (p f e : Nat) (h : RdR w B g A n c bs p f) :
    Calls Try.prog 66 #[.pointer (some ⟨g, 0, none⟩), .int .i64 (e : Int)] w fun E w' => E = .returned (.tuple #[]) ∧ AfterR w B g A n c bs p e w' := by
  have c2 : w.cell? ⟨g, 2, none⟩ = some (.int .i64 (f : Int)) := h.blk.cell 2
  have f2 : w.frozen? ⟨g, 2, none⟩ = false := h.blk.frozen 2
  have HH := hide h
  clear h
  go_enter Try.func66, Try.ntmps66
  go_wp2
  go_end0
  exact ⟨rfl, (unhide HH).fault e, (Chg.refl w (fun i => i = g)).set_ ⟨g, 2, none⟩ _ (fun _ => rfl)⟩

theorem rnum_any (w : World) (B g : Nat) (A : Option Addr) (n c : Nat) (bs : List UInt8) (p f : Nat) (h : RdR w B g A n c bs p f) :
    Calls Try.prog 55 #[.pointer (some ⟨g, 0, none⟩)] w fun E w' => E = .returned (.int .u64 ((numS bs p f).1 : Int)) ∧ AfterR w B g A n c bs (numS bs p f).2.1 (numS bs p f).2.2 w' := by
  have hlen := h.len
  have c0 : w.cell? ⟨g, 0, none⟩ = some (.slice A n c) := h.blk.cell 0
  have c1 : w.cell? ⟨g, 1, none⟩ = some (.int .i64 (p : Int)) := h.blk.cell 1
  have c2 : w.cell? ⟨g, 2, none⟩ = some (.int .i64 (f : Int)) := h.blk.cell 2
  have f1 : w.frozen? ⟨g, 1, none⟩ = false := h.blk.frozen 1
  by_cases hf : f = 0
  · subst hf
    obtain ⟨r, hg⟩ : ∃ r, getS (bs.drop p) = r := ⟨_, rfl⟩
    obtain ⟨a, k, e⟩ := r
    have hle := h.le
    have hcap := h.cap
    have hsm := h.small
    obtain ⟨⟨iE, zE, eE1, eE2, eE3, eE4, eE5, eE6⟩, _⟩ := elem_u8
    have hsl := fun W => run_cut eE1 eE2 eE4 A c (k := p) (n := n) hle W
    have hr := h.rd.cut hle hcap
    rw [Nat.mul_one, ← List.map_drop] at hr
    obtain ⟨A', hA'⟩ : ∃ A', (if c = p then A else A.map (·.add p)) = A' := ⟨_, rfl⟩
    simp only [Nat.mul_one, hA'] at hsl
    rw [hA'] at hr
    have hG : ∀ m, Hid (Calls Try.prog 13 #[.slice A' (n - p) (c - p)] (w.drewN m) fun E w' => E = .returned (.tuple #[.int .u64 (a : Int), .int .i64 (k : Int), .int .i64 (e : Int)]) ∧ w.drewN m = w') := fun m => hide (refGet_r _ (hr.drewN m) hg)
    have hp0 : (0 : Int) ≤ (p : Int) := by omega
    have hpn : (p : Int) ≤ (n : Int) := by omega
    have hnc : (n : Int) ≤ (c : Int) := by omega
    clear hr hA' eE1 eE2 eE3 eE4 eE5 eE6
    rcases get_fit bs p a k e hg with ⟨rfl, hk, _⟩ | ⟨he, rfl, rfl⟩
    · rw [numS_yes hg]
      obtain ⟨q, hq⟩ : ∃ q, p + k = q := ⟨_, rfl⟩
      have hs : IntKind.i64.wrap ((p : Int) + (k : Int)) = (q : Int) := by rw [IntWalk.i64_in _ (by omega)]; omega
      rw [hq]
      have hqn : q ≤ n := by omega
      have HH := hide h
      clear h hg hq hk
      go_enter Try.func55, Try.ntmps55
      go_wp2
      go_quiet ((go_at_call 13; exact quiet_left (unhide (hG _))))
      go_wp2
      go_ret
      exact ⟨rfl, ((unhide HH).at_ q hqn).drewN _, ((Chg.refl w (fun i => i = g)).set_ ⟨g, 1, none⟩ _ (fun _ => rfl)).drewN _⟩
    · rw [numS_no hg he]
      have heb : ((e : Int) != 0) = true := by simp; omega
      have hF := fun m => hide (fails_any _ B g A n c bs p 0 e (h.drewN m))
      clear h hg
      go_enter Try.func55, Try.ntmps55
      go_wp2
      go_quiet ((go_at_call 13; exact quiet_left (unhide (hG _))))
      go_wp2_with (go_at_call 66; refine (unhide (hF _)).mono ?_; rintro E w1 ⟨rfl, ha⟩)
      go_ret
      exact ⟨rfl, ha.1, (chg_drewN w _ _).trans ha.2 (fun _ _ h => h)⟩
  · rw [numS_fault hf]
    have hfb : ((f : Int) != 0) = true := by simp; omega
    have HH := hide h
    clear h hf
    go_enter Try.func55, Try.ntmps55
    go_wp2
    go_ret
    exact ⟨rfl, unhide HH, Chg.refl _ _⟩
theorem rint_any (w : World) (B g : Nat) (A : Option Addr) (n c : Nat) (bs : List UInt8) (p f : Nat) (h : RdR w B g A n c bs p f) :
    Calls Try.prog 56 #[.pointer (some ⟨g, 0, none⟩)] w fun E w' => E = .returned (.int .i64 (backS (numS bs p f).1)) ∧ AfterR w B g A n c bs (numS bs p f).2.1 (numS bs p f).2.2 w' := by
  have hN := hide (rnum_any w B g A n c bs p f h)
  have hlt := numS_lt bs p f
  obtain ⟨r, hr⟩ : ∃ r, numS bs p f = r := ⟨_, rfl⟩
  rw [hr] at hN hlt ⊢
  obtain ⟨x, y, z⟩ := r
  have hB := fun w => hide (refBack_any x w hlt)
  clear h hr hlt
  go_enter Try.func56, Try.ntmps56
  go_wp2_with (first
    | (go_at_call 55; refine (unhide hN).mono ?_; rintro e w1 ⟨rfl, ha⟩)
    | (go_at_call 23; refine (unhide (hB _)).mono ?_; rintro e w2 ⟨rfl, rfl⟩))
  go_ret
  exact ⟨rfl, ha⟩

set_option maxHeartbeats 1000000 in
theorem rraw_any (w : World) (B g : Nat) (A : Option Addr) (n c : Nat) (bs : List UInt8) (p f : Nat) (k : Int) (h : RdR w B g A n c bs p f) (h2 : k ≤ 9223372036854775807) :
    Calls Try.prog 57 #[.pointer (some ⟨g, 0, none⟩), .int .i64 k] w fun E w' =>
      ∃ v, E = .returned v ∧ w'.ownsRow w.heap.size 5 1 v (rawS bs k p f).1.length ((rawS bs k p f).1.map bv) ∧ AfterR w B g A n c bs (rawS bs k p f).2.1 (rawS bs k p f).2.2 w' := by
  have hlen := h.len
  have c0 : w.cell? ⟨g, 0, none⟩ = some (.slice A n c) := h.blk.cell 0
  have c1 : w.cell? ⟨g, 1, none⟩ = some (.int .i64 (p : Int)) := h.blk.cell 1
  have c2 : w.cell? ⟨g, 2, none⟩ = some (.int .i64 (f : Int)) := h.blk.cell 2
  have f1 : w.frozen? ⟨g, 1, none⟩ = false := h.blk.frozen 1
  by_cases hf : f = 0
  · subst hf
    by_cases hneg : k < 0
    · rw [rawS_neg hneg]
      have hF := hide (fails_any w B g A n c bs p 0 2 h)
      clear h
      go_enter Try.func57, Try.ntmps57
      go_wp2_with (go_at_call 66; refine (unhide hF).mono ?_; rintro E w1 ⟨rfl, ha⟩)
      go_ret
      exact ⟨_, rfl, World.ownsRow_nil _ _ _ _, ha⟩
    · obtain ⟨m, rfl⟩ := Int.eq_ofNat_of_zero_le (by omega : 0 ≤ k)
      have hle := h.le
      have hcap := h.cap
      have hsm := h.small
      obtain ⟨L, hL⟩ : ∃ L, n - p = L := ⟨_, rfl⟩
      have hs : IntKind.i64.wrap ((n : Int) - (p : Int)) = (L : Int) := by rw [IntWalk.i64_in _ (by omega)]; omega
      by_cases hno : bs.length - p < m
      · rw [rawS_no hno]
        have hd : decide ((L : Int) < (m : Int)) = true := by simp; omega
        have hF := fun q => hide (fails_any _ B g A n c bs p 0 10 (h.drewN q))
        clear h
        go_enter Try.func57, Try.ntmps57
        go_wp2
        go_quiet (fail)
        go_wp2_with (go_at_call 66; refine (unhide (hF _)).mono ?_; rintro E w1 ⟨rfl, ha⟩)
        go_ret
        exact ⟨_, rfl, World.ownsRow_nil _ _ _ _, ha.1, (chg_drewN w _ _).trans ha.2 (fun _ _ h => h)⟩
      · rw [rawS_yes hno]
        have hd : decide ((L : Int) < (m : Int)) = false := by simp; omega
        have hr := h.rd.midof hcap (l := p) (m := m) (by omega)
        have hol : ((bs.drop p).take m).length = m := by rw [List.length_take, List.length_drop]; omega
        obtain ⟨out, hout⟩ : ∃ o, (bs.drop p).take m = o := ⟨_, rfl⟩
        obtain ⟨q, hq⟩ : ∃ q, p + m = q := ⟨_, rfl⟩
        have hw2 : IntKind.i64.wrap ((p : Int) + (m : Int)) = (q : Int) := by rw [IntWalk.i64_in _ (by omega)]; omega
        obtain ⟨⟨iE, zE, eE1, eE2, eE3, eE4, eE5, eE6⟩, eE7⟩ := elem_u8
        have hsl := fun W => run_mid eE1 eE2 eE4 A (n := n) c (l := p) (h := q) (by omega) (by omega) W
        obtain ⟨A', hA'⟩ : ∃ A', (if c = p then A else A.map (·.add (p * 1))) = A' := ⟨_, rfl⟩
        simp only [hA', show q - p = m by omega] at hsl
        rw [hA', hout] at hr
        rw [hout] at hol ⊢
        rw [hq]
        have hqn : q ≤ n := by omega
        have hq0 : (0 : Int) ≤ (q : Int) := by omega
        have hp0 : (0 : Int) ≤ (p : Int) := by omega
        have hpq : (p : Int) ≤ (q : Int) := by omega
        have hqc : (q : Int) ≤ (c : Int) := by omega
        have hk1 : 0 + m ≤ maxLen := by unfold maxLen; omega
        have hk2 : (0 + m) * 1 ≤ 140737488355328 := by omega
        have HH := hide h
        have hgl := h.blk.lt
        have HR := hide hr
        have HE := hide (And.intro eE1 (And.intro eE2 (And.intro eE3 (And.intro eE4 (And.intro eE5 eE6)))))
        clear h hr hA' hout hq eE1 eE2 eE3 eE4 eE5 eE6
        go_enter Try.func57, Try.ntmps57
        go_wp2
        go_quiet (fail)
        go_wp2
        go_region_held3 (fun w' => w'.cell? ⟨g, 0, none⟩ = some (.slice A n c) ∧ w'.cell? ⟨g, 1, none⟩ = some (.int .i64 (p : Int))) (first | go_keep | exact ⟨hg1.cell c0 (by simp [Value.ownBlock]), hg1.cell c1 (by simp [Value.ownBlock])⟩)
          ((refine step_append_any _ (by rfl) (.tmp 29) (.tmp 44) 22 (by rfl) w.heap.size 5 iE zE 1 1 (unhide HE).1 (unhide HE).2.1 (unhide HE).2.2.1 (unhide HE).2.2.2.1 (unhide HE).2.2.2.2.1 (unhide HE).2.2.2.2.2 eE7 (.slice none 0 0) 0 [] (by rfl) (World.ownsRow_nil _ _ _ _) B A' m (c - p) (out.map bv) (by rfl) (((unhide HR).drewN _).drewN 1) (bv_one _) hk1 hk2 (Nat.le_refl _) ?_; intro v1 w1 ho1 hg1 hat1))
        have hc1 : Chg w w1 (fun i => i = g) := ((chg_drewN w _ (fun i => i = g)).drewN 1).grown hg1 (fun i h => by simp [Value.ownBlock] at h)
        have h1 : RdR w1 B g A n c bs p 0 := (((unhide HH).drewN _).drewN 1).chg (Chg.of_grown hg1) (fun _ _ h => by simp [Value.ownBlock] at h) (fun h => by simp [Value.ownBlock] at h)
        have d1 : w1.cell? ⟨g, 1, none⟩ = some (.int .i64 (p : Int)) := h1.blk.cell 1
        have e1 : w1.frozen? ⟨g, 1, none⟩ = false := h1.blk.frozen 1
        have H1 := hide h1
        have HC1 := hide hc1
        rw [Nat.zero_add, List.nil_append] at ho1
        have HO := hide ho1
        clear hc1 h1 ho1 hg1 hat1
        go_wp2
        go_ret
        refine ⟨_, rfl, ?_, (unhide H1).at_ q hqn, (unhide HC1).set_ ⟨g, 1, none⟩ _ (fun _ => rfl)⟩
        rw [hol]
        exact (Chg.of_set w1 ⟨g, 1, none⟩ _).own (unhide HO) (fun i hi h => by
          have := ((unhide HO).lt i hi).1
          simp only at h
          omega)
  · rw [rawS_fault hf]
    have hfb : ((f : Int) != 0) = true := by simp; omega
    have HH := hide h
    clear h hf
    go_enter Try.func57, Try.ntmps57
    go_wp2
    go_ret
    exact ⟨_, rfl, World.ownsRow_nil _ _ _ _, unhide HH, Chg.refl _ _⟩
end Go.Proofs.Ytbofjboebkfjgaa
