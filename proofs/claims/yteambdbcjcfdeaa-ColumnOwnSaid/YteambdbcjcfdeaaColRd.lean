/-
  The reader of leb, over the Go text, as far as columns call it: NewReader, Num, Left, Err. Condition: the reader's bytes stay below 2^47.
-/
import Derived.Test.YteambdbcjcfdeaaRows
import Derived.Test.YteambdbcjcfdeaaWords
import Derived.Test.YteambdbcjcfdeaaQuiet
import Derived.Test.YteambdbcjcfdeaaLebMath
import Derived.Test.YteambdbcjcfdeaaLebAdd
import Derived.Test.YteambdbcjcfdeaaLebGet
import Derived.Test.YteambdbcjcfdeaaLebTurn
import Derived.Test.YteambdbcjcfdeaaLebTurnM
import Derived.Test.YteambdbcjcfdeaaLebSize
import Derived.Test.YteambdbcjcfdeaaLebOneMath
import Derived.Deep.RegionHeld3
import Derived.Deep.RegionWith
import Derived.Deep.DrawnRows
namespace Go.Proofs.Yteambdbcjcfdeaa
open Go.RowKit

/-- What a read of a number does: the number, the place, the fault. -/
def numS (bs : List UInt8) (p f : Nat) : Nat × Nat × Nat :=
  if f ≠ 0 then (0, p, f) else if (getS (bs.drop p)).2.2 ≠ 0 then (0, p, (getS (bs.drop p)).2.2) else ((getS (bs.drop p)).1, p + (getS (bs.drop p)).2.1, 0)
/-- A reader that was made: its struct lies in block g, its bytes in a block before it. -/
structure RdP (w : World) (g : Nat) (A : Option Addr) (n c : Nat) (bs : List UInt8) (p f : Nat) : Prop where
  blk : Blk w g 105 #[.slice A n c, .int .i64 (p : Int), .int .i64 (f : Int), .bool true]
  rd : Reads w g 1 A n (bs.map bv)
  le : p ≤ n
  cap : n ≤ c
  small : n ≤ 140737488355328
section
variable {w w' : World} {g : Nat} {A : Option Addr} {n c : Nat} {bs : List UInt8} {p f : Nat}
theorem RdP.len (h : RdP w g A n c bs p f) : bs.length = n := by have := h.rd.1; simpa using this
theorem RdP.drewN (h : RdP w g A n c bs p f) (k : Nat) : RdP (w.drewN k) g A n c bs p f := ⟨h.blk.drewN k, h.rd.drewN k, h.le, h.cap, h.small⟩
theorem RdP.chg (h : RdP w g A n c bs p f) {S : Nat → Prop} (hc : Chg w w' S) (hS : ∀ i, i ≤ g → ¬ S i) : RdP w' g A n c bs p f :=
  ⟨hc.blk h.blk (hS g (Nat.le_refl _)), hc.reads h.rd (Nat.le_of_lt h.blk.lt) (fun i hi => hS i (by omega)), h.le, h.cap, h.small⟩
theorem RdP.chg2 (h : RdP w g A n c bs p f) {S : Nat → Prop} {L : Nat} (hc : Chg w w' S) (hlo : ∀ ad, A = some ad → L ≤ ad.block) (hS : ∀ i, L ≤ i → i ≤ g → ¬ S i) (hg : ¬ S g) : RdP w' g A n c bs p f := by
  refine ⟨hc.blk h.blk hg, ⟨h.rd.1, fun hn => ?_⟩, h.le, h.cap, h.small⟩
  obtain ⟨ad, e, hb, hcell⟩ := h.rd.2 hn
  refine ⟨ad, e, hb, fun j u hu => ?_⟩
  have hblk : (ad.add j).block = ad.block := block_of_add ad j
  have hl := h.blk.lt
  exact (World.cell?_of_block (hc.block (ad.add j).block (by rw [hblk]; omega) (by rw [hblk]; exact hS _ (hlo ad e) (by omega)))).trans (hcell j u hu)
theorem RdP.at_ (h : RdP w g A n c bs p f) (q : Nat) (hq : q ≤ n) : RdP (w.setCell ⟨g, 1, none⟩ (.int .i64 (q : Int))) g A n c bs q f :=
  ⟨h.blk.set_ 1 _, h.rd.setCell (p := ⟨g, 1, none⟩) (Nat.le_refl _) _, hq, h.cap, h.small⟩
theorem RdP.fault (h : RdP w g A n c bs p f) (q : Nat) : RdP (w.setCell ⟨g, 2, none⟩ (.int .i64 (q : Int))) g A n c bs p q :=
  ⟨h.blk.set_ 2 _, h.rd.setCell (p := ⟨g, 2, none⟩) (Nat.le_refl _) _, h.le, h.cap, h.small⟩
end
theorem chg_drewN (w : World) (k : Nat) (S : Nat → Prop) : Chg w (w.drewN k) S := ⟨rfl, rfl, rfl, Nat.le_refl _, fun _ _ _ => rfl⟩
theorem Chg.drewN {w w1 : World} {S : Nat → Prop} (h : Chg w w1 S) (k : Nat) : Chg w (w1.drewN k) S := ⟨h.os, h.tape, h.output, h.size, h.block⟩
theorem newReader_any (A : Option Addr) (n c B : Nat) (bs : List UInt8) (w : World) (hr : Reads w B 1 A n (bs.map bv)) (hn : n ≤ 140737488355328) :
    Calls Try.prog 77 #[.slice A n c] w fun e w' => ∃ g A' c', e = .returned (.pointer (some ⟨g, 0, none⟩)) ∧ w.heap.size ≤ g ∧ (∀ ad, A' = some ad → w.heap.size ≤ ad.block) ∧ RdP w' g A' n c' bs 0 0 ∧ Below w.heap.size w w' := by
  have hC := hide (clone_any A n c bs w B hr hn)
  go_enter Try.func77, Try.ntmps77
  go_wp2_with (go_at_call 69; refine (unhide hC).mono ?_; rintro e w1 ⟨v1, rfl, ho, hb⟩; obtain ⟨A1, c1, rfl⟩ := ho.shape)
  go_ret
  have hcap : n ≤ c1 := by
    rcases ho.2 with ⟨h', _⟩ | ⟨g', cap', cur, h', _, _, hn, _⟩
    · cases h'; exact Nat.le_refl _
    · cases h'; exact hn
  have hlo : ∀ ad, A1 = some ad → w.heap.size ≤ ad.block := by
    rintro ad rfl
    exact (ho.lt ad.block (by
      rcases ho.2 with ⟨h', _⟩ | ⟨g', cap', cur, h', _⟩
      · cases h'
      · cases h'; rfl)).1
  exact ⟨w1.heap.size, A1, c1, rfl, hb.size, hlo, ⟨Blk.new w1 _ _, (Reads.of_own ho).alloc (Nat.le_refl _) _, Nat.zero_le _, hcap, hn⟩, hb.alloc hb.size _⟩
theorem rnone_made (w : World) (g : Nat) (a b d : Value) (h : Blk w g 105 #[a, b, d, .bool true]) :
    Calls Try.prog 89 #[.pointer (some ⟨g, 0, none⟩)] w fun e w' => e = .returned (.bool false) ∧ w = w' := by
  have hc : w.cell? ⟨g, 3, none⟩ = some (.bool true) := h.cell 3
  clear h
  go_enter Try.func89, Try.ntmps89
  go_wp2
  go_ret
  exact ⟨rfl, rfl⟩
theorem number_any (w : World) (g : Nat) (A : Option Addr) (n c : Nat) (bs : List UInt8) (p f a k e : Nat) (h : RdP w g A n c bs p f) (hg : getS (bs.drop p) = (a, k, e)) (hk : k ≤ n - p) :
    Calls Try.prog 93 #[.pointer (some ⟨g, 0, none⟩)] w fun E w' => E = .returned (.tuple #[.int .u64 (a : Int), .int .i64 ((p + k : Nat) : Int), .int .i64 (e : Int)]) ∧ ∃ m, w' = w.drewN m := by
  have c0 : w.cell? ⟨g, 0, none⟩ = some (.slice A n c) := h.blk.cell 0
  have c1 : w.cell? ⟨g, 1, none⟩ = some (.int .i64 (p : Int)) := h.blk.cell 1
  have hle := h.le
  have hcap := h.cap
  have hsm := h.small
  obtain ⟨⟨iE, zE, eE1, eE2, eE3, eE4, eE5, eE6⟩, _⟩ := elem_u8
  have hsl := fun W => run_cut eE1 eE2 eE4 A c (k := p) (n := n) hle W
  have hr := h.rd.cut hle hcap
  rw [Nat.mul_one, ← List.map_drop] at hr
  obtain ⟨A', hA'⟩ : ∃ A', (if c = p then A else A.map (·.add p)) = A' := ⟨_, rfl⟩
  simp only [Nat.mul_one, hA'] at hsl
  rw [hA'] at hr
  have hG : ∀ m, Hid (Calls Try.prog 96 #[.slice A' (n - p) (c - p)] (w.drewN m) fun E w' => E = .returned (.tuple #[.int .u64 (a : Int), .int .i64 (k : Int), .int .i64 (e : Int)]) ∧ w.drewN m = w') := fun m => hide (get_r _ (hr.drewN m) hg)
  have hs : IntKind.i64.wrap ((p : Int) + (k : Int)) = ((p + k : Nat) : Int) := by rw [IntWalk.i64_in _ (by omega)]; omega
  have hp0 : (0 : Int) ≤ (p : Int) := by omega
  have hpn : (p : Int) ≤ (n : Int) := by omega
  have hnc : (n : Int) ≤ (c : Int) := by omega
  obtain ⟨q, hq⟩ : ∃ q, p + k = q := ⟨_, rfl⟩
  rw [hq] at hs ⊢
  clear h hr hg hA' eE1 eE2 eE3 eE4 eE5 eE6 hq hk
  go_enter Try.func93, Try.ntmps93
  go_wp2
  go_quiet ((go_at_call 96; exact quiet_left (unhide (hG _))))
  go_wp2
  go_quiet (fail)
  go_wp2
  go_ret3
  exact ⟨rfl, _, World.drewN_drewN _ _ _⟩
/-- The reader behind a call: what it holds by then, and that nothing else has turned. -/
def After (w : World) (g : Nat) (A : Option Addr) (n c : Nat) (bs : List UInt8) (p f : Nat) (w' : World) : Prop := RdP w' g A n c bs p f ∧ Chg w w' (fun i => i = g)
theorem num_yes (w : World) (g : Nat) (A : Option Addr) (n c : Nat) (bs : List UInt8) (p f a k : Nat) (h : RdP w g A n c bs p f) (hg : getS (bs.drop p) = (a, k, 0)) (hk : k ≤ n - p) :
    Calls Try.prog 91 #[.pointer (some ⟨g, 0, none⟩)] w fun E w' => E = .returned (.tuple #[.int .u64 (a : Int), .int .i64 0]) ∧ After w g A n c bs (p + k) f w' := by
  have hN := hide (number_any w g A n c bs p f a k 0 h hg hk)
  have hle := h.le
  obtain ⟨q, hq⟩ : ∃ q, p + k = q := ⟨_, rfl⟩
  rw [hq] at hN ⊢
  have hqn : q ≤ n := by omega
  have HH := hide h
  clear h hg hq hk
  go_enter Try.func91, Try.ntmps91
  go_wp2_with (go_at_call 93
               refine (unhide hN).mono ?_
               rintro E w1 ⟨rfl, m, hm⟩
               have h1 : RdP w1 g A n c bs p f := hm ▸ (unhide HH).drewN m
               have k1 : w1.cell? ⟨g, 1, none⟩ = some (.int .i64 (p : Int)) := h1.blk.cell 1
               have f1 : w1.frozen? ⟨g, 1, none⟩ = false := h1.blk.frozen 1
               have HC := hide (hm ▸ chg_drewN w m (fun i => i = g) : Chg w w1 (fun i => i = g))
               have H1 := hide h1
               clear h1 hm)
  go_ret2
  exact ⟨rfl, (unhide H1).at_ q hqn, (unhide HC).set_ ⟨g, 1, none⟩ _ (fun _ => rfl)⟩
theorem num_no (w : World) (g : Nat) (A : Option Addr) (n c : Nat) (bs : List UInt8) (p f e : Nat) (h : RdP w g A n c bs p f) (hg : getS (bs.drop p) = (0, 0, e)) (he : e ≠ 0) :
    Calls Try.prog 91 #[.pointer (some ⟨g, 0, none⟩)] w fun E w' => E = .returned (.tuple #[.int .u64 0, .int .i64 (e : Int)]) ∧ After w g A n c bs p f w' := by
  have hN := hide (number_any w g A n c bs p f 0 0 e h hg (by omega))
  have heb : ((e : Int) == 0) = false := by simp; omega
  have HH := hide h
  clear h hg
  go_enter Try.func91, Try.ntmps91
  go_wp2_with (go_at_call 93
               refine (unhide hN).mono ?_
               rintro E w1 ⟨rfl, m, hm⟩
               have H1 : Hid (RdP w1 g A n c bs p f) := hm ▸ (unhide HH).drewN m
               have HC := hide (hm ▸ chg_drewN w m (fun i => i = g) : Chg w w1 (fun i => i = g))
               clear hm)
  go_ret2
  exact ⟨rfl, unhide H1, unhide HC⟩
theorem get_fit (bs : List UInt8) (p : Nat) (a k e : Nat) (h : getS (bs.drop p) = (a, k, e)) : (e = 0 ∧ k ≤ bs.length - p ∧ a < U64) ∨ (e ≠ 0 ∧ a = 0 ∧ k = 0) := by
  by_cases he : e = 0
  · subst he
    have := get_back h
    rw [List.length_drop] at this
    exact .inl ⟨rfl, this.1, this.2.2⟩
  · have := get_err h he
    exact .inr ⟨he, this.1, this.2.1⟩
theorem numS_fault {bs : List UInt8} {p f : Nat} (h : f ≠ 0) : numS bs p f = (0, p, f) := by unfold numS; rw [if_pos h]
theorem numS_no {bs : List UInt8} {p e a k : Nat} (h : getS (bs.drop p) = (a, k, e)) (he : e ≠ 0) : numS bs p 0 = (0, p, e) := by unfold numS; rw [if_neg (by simp), h, if_pos he]
theorem numS_yes {bs : List UInt8} {p a k : Nat} (h : getS (bs.drop p) = (a, k, 0)) : numS bs p 0 = (a, p + k, 0) := by unfold numS; rw [if_neg (by simp), h]; rfl
theorem readU_any (w : World) (g : Nat) (A : Option Addr) (n c : Nat) (bs : List UInt8) (p f : Nat) (h : RdP w g A n c bs p f) :
    Calls Try.prog 90 #[.pointer (some ⟨g, 0, none⟩), .func (.func 91) #[.pointer (some ⟨g, 0, none⟩)] #[]] w fun E w' => E = .returned (.int .u64 ((numS bs p f).1 : Int)) ∧ After w g A n c bs (numS bs p f).2.1 (numS bs p f).2.2 w' := by
  have hlen := h.len
  have c2 : w.cell? ⟨g, 2, none⟩ = some (.int .i64 (f : Int)) := h.blk.cell 2
  have hM := hide (rnone_made w g _ _ _ h.blk)
  by_cases hf : f = 0
  · subst hf
    obtain ⟨r, hr⟩ : ∃ r, getS (bs.drop p) = r := ⟨_, rfl⟩
    obtain ⟨a, k, e⟩ := r
    rcases get_fit bs p a k e hr with ⟨rfl, hk, _⟩ | ⟨he, rfl, rfl⟩
    · rw [numS_yes hr]
      have hN := hide (num_yes w g A n c bs p 0 a k h hr (by omega))
      have HH := hide h
      clear h hr
      go_enter Try.func90, Try.ntmps90
      go_wp2_with (first
        | (go_at_call 89; refine (unhide hM).mono ?_; rintro e w1 ⟨rfl, rfl⟩)
        | (go_at_call 91; refine (unhide hN).mono ?_; rintro e w1 ⟨rfl, ha⟩))
      go_ret
      exact ⟨rfl, ha⟩
    · rw [numS_no hr he]
      have hN := hide (num_no w g A n c bs p 0 e h hr he)
      have heb : ((e : Int) != 0) = true := by simp; omega
      clear h hr
      go_enter Try.func90, Try.ntmps90
      go_wp2_with (first
        | (go_at_call 89; refine (unhide hM).mono ?_; rintro e w1 ⟨rfl, rfl⟩)
        | (go_at_call 91; refine (unhide hN).mono ?_; rintro e w1 ⟨rfl, ha⟩
           have HA := hide ha
           have k2 : w1.cell? ⟨g, 2, none⟩ = some (.int .i64 ((0 : Nat) : Int)) := ha.1.blk.cell 2
           have f2 : w1.frozen? ⟨g, 2, none⟩ = false := ha.1.blk.frozen 2
           clear ha))
      go_ret
      exact ⟨rfl, (unhide HA).1.fault e, (unhide HA).2.set_ ⟨g, 2, none⟩ _ (fun _ => rfl)⟩
  · rw [numS_fault hf]
    have hfb : ((f : Int) != 0) = true := by simp; omega
    have HH := hide h
    clear h hf
    go_enter Try.func90, Try.ntmps90
    go_wp2_with (go_at_call 89; refine (unhide hM).mono ?_; rintro e w1 ⟨rfl, rfl⟩)
    go_ret
    exact ⟨rfl, unhide HH, Chg.refl _ _⟩
theorem num_made (w : World) (g : Nat) (A : Option Addr) (n c : Nat) (bs : List UInt8) (p f : Nat) (h : RdP w g A n c bs p f) :
    Calls Try.prog 80 #[.pointer (some ⟨g, 0, none⟩)] w fun E w' => E = .returned (.int .u64 ((numS bs p f).1 : Int)) ∧ After w g A n c bs (numS bs p f).2.1 (numS bs p f).2.2 w' := by
  have hR := hide (readU_any w g A n c bs p f h)
  obtain ⟨r, hr⟩ : ∃ r, numS bs p f = r := ⟨_, rfl⟩
  rw [hr] at hR ⊢
  obtain ⟨x, y, z⟩ := r
  clear h hr
  go_enter Try.func80, Try.ntmps80
  go_wp2_with (go_at_call 90; refine (unhide hR).mono ?_; rintro e w1 ⟨rfl, ha⟩)
  go_ret
  exact ⟨rfl, ha⟩
theorem numS_lt (bs : List UInt8) (p f : Nat) : (numS bs p f).1 < U64 := by
  obtain ⟨r, hr⟩ : ∃ r, getS (bs.drop p) = r := ⟨_, rfl⟩
  obtain ⟨a, k, e⟩ := r
  have h0 : (0 : Nat) < U64 := by decide
  unfold numS
  rw [hr]
  rcases get_fit bs p a k e hr with ⟨rfl, _, ha⟩ | ⟨he, rfl, rfl⟩
  · split
    · exact h0
    · simpa using ha
  · split
    · exact h0
    · first
        | exact h0
        | (rw [if_pos he]; exact h0)
theorem left_made (w : World) (g : Nat) (A : Option Addr) (n c : Nat) (bs : List UInt8) (p f : Nat) (h : RdP w g A n c bs p f) :
    Calls Try.prog 78 #[.pointer (some ⟨g, 0, none⟩)] w fun E w' => E = .returned (.int .i64 ((n - p : Nat) : Int)) ∧ ∃ q, w' = w.drewN q := by
  have c0 : w.cell? ⟨g, 0, none⟩ = some (.slice A n c) := h.blk.cell 0
  have c1 : w.cell? ⟨g, 1, none⟩ = some (.int .i64 (p : Int)) := h.blk.cell 1
  have hM := hide (rnone_made w g _ _ _ h.blk)
  have hle := h.le
  have hsm := h.small
  obtain ⟨L, hL⟩ : ∃ L, n - p = L := ⟨_, rfl⟩
  have hs : IntKind.i64.wrap ((n : Int) - (p : Int)) = (L : Int) := by rw [IntWalk.i64_in _ (by omega)]; omega
  rw [hL]
  clear h
  go_enter Try.func78, Try.ntmps78
  go_wp2_with (go_at_call 89; refine (unhide hM).mono ?_; rintro e w1 ⟨rfl, rfl⟩)
  go_quiet (fail)
  go_wp2
  go_ret
  exact ⟨rfl, _, rfl⟩
theorem err_made (w : World) (g : Nat) (A : Option Addr) (n c : Nat) (bs : List UInt8) (p f : Nat) (h : RdP w g A n c bs p f) :
    Calls Try.prog 81 #[.pointer (some ⟨g, 0, none⟩)] w fun E w' => E = .returned (.int .i64 (f : Int)) ∧ w = w' := by
  have c1 : w.cell? ⟨g, 2, none⟩ = some (.int .i64 (f : Int)) := h.blk.cell 2
  have hM := hide (rnone_made w g _ _ _ h.blk)
  clear h
  go_enter Try.func81, Try.ntmps81
  go_wp2_with (go_at_call 89; refine (unhide hM).mono ?_; rintro e w1 ⟨rfl, rfl⟩)
  go_ret
  exact ⟨rfl, rfl⟩
end Go.Proofs.Yteambdbcjcfdeaa
