/-
  The reader of leb: Raw, Text, At, Left, Err, End; of a zero one and of none; the walks over the Go text. Condition: the reader's bytes stay below 2^47.
-/
import Derived.Test.YtbofjboebkfjgaaLebRd
namespace Go.Proofs.Ytbofjboebkfjgaa
open Go.RowKit

theorem raw1_any (w : World) (g gk gr : Nat) (A : Option Addr) (n c : Nat) (bs : List UInt8) (p : Nat) (k : Int) (h : RdP w g A n c bs p 0) (hk : w.cell? ⟨gk, 0, none⟩ = some (.int .i64 k)) (h2 : k ≤ 9223372036854775807) (hr : w.cell? ⟨gr, 0, none⟩ = some (.pointer (some ⟨g, 0, none⟩))) :
    Calls Try.prog 52 #[.pointer (some ⟨gk, 0, none⟩), .pointer (some ⟨gr, 0, none⟩)] w (RawOut w g A n c bs (rawS bs k p 0).2.1 0 (rawS bs k p 0).1 (rawS bs k p 0).2.2) := by
  have hlen := h.len
  by_cases hneg : k < 0
  · rw [rawS_neg hneg]
    exact raw1_neg w g gk gr A n c bs p 0 k h hk hneg
  · obtain ⟨m, rfl⟩ := Int.eq_ofNat_of_zero_le (by omega : 0 ≤ k)
    have hle := h.le
    by_cases hno : bs.length - p < m
    · rw [rawS_no hno]
      exact raw1_no w g gk gr A n c bs p 0 m h hk (by omega) hr (by rw [← hlen]; exact hno)
    · rw [rawS_yes hno]
      exact raw1_yes w g gk gr A n c bs p 0 m h hk hr (by omega)
theorem rawS_err {bs : List UInt8} {k : Int} {p : Nat} (h : (rawS bs k p 0).2.2 ≠ 0) : (rawS bs k p 0).1 = [] ∧ (rawS bs k p 0).2.1 = p := by
  revert h
  unfold rawS
  split
  · simp
  · split
    · simp
    · split
      · simp
      · simp

theorem readB_any (w : World) (g gk gr : Nat) (A : Option Addr) (n c : Nat) (bs : List UInt8) (p f : Nat) (k : Int) (h : RdP w g A n c bs p f) (hk : w.cell? ⟨gk, 0, none⟩ = some (.int .i64 k)) (h2 : k ≤ 9223372036854775807) (hr : w.cell? ⟨gr, 0, none⟩ = some (.pointer (some ⟨g, 0, none⟩))) :
    Calls Try.prog 51 #[.pointer (some ⟨g, 0, none⟩), .func (.func 52) #[] #[.pointer (some ⟨gk, 0, none⟩), .pointer (some ⟨gr, 0, none⟩)]] w fun E w' =>
      ∃ v, E = .returned v ∧ w'.ownsRow w.heap.size 5 1 v (rawS bs k p f).1.length ((rawS bs k p f).1.map bv) ∧ After w g A n c bs (rawS bs k p f).2.1 (rawS bs k p f).2.2 w' := by
  have c2 : w.cell? ⟨g, 2, none⟩ = some (.int .i64 (f : Int)) := h.blk.cell 2
  have hM := hide (rnone_made w g _ _ _ h.blk)
  by_cases hf : f = 0
  · subst hf
    have hN := hide (raw1_any w g gk gr A n c bs p k h hk h2 hr)
    have hE := fun h => rawS_err (bs := bs) (k := k) (p := p) h
    obtain ⟨o, ho⟩ : ∃ o, rawS bs k p 0 = o := ⟨_, rfl⟩
    obtain ⟨out, q, e⟩ := o
    rw [ho] at hN hE ⊢
    simp only at hN hE ⊢
    by_cases he : e = 0
    · subst he
      clear h ho hE
      go_enter Try.func51, Try.ntmps51
      go_wp2_with (first
        | (go_at_call 54; refine (unhide hM).mono ?_; rintro e w1 ⟨rfl, rfl⟩)
        | (go_at_call 52; refine (unhide hN).mono ?_; rintro e w1 ⟨v1, rfl, hr1, ha⟩))
      go_ret
      exact ⟨_, rfl, hr1, ha⟩
    · obtain ⟨rfl, rfl⟩ := hE he
      have heb : ((e : Int) != 0) = true := by simp; omega
      clear h ho hE
      go_enter Try.func51, Try.ntmps51
      go_wp2_with (first
        | (go_at_call 54; refine (unhide hM).mono ?_; rintro e w1 ⟨rfl, rfl⟩)
        | (go_at_call 52; refine (unhide hN).mono ?_; rintro e w1 ⟨v1, rfl, hr1, ha⟩
           have HA := hide ha
           have k2 : w1.cell? ⟨g, 2, none⟩ = some (.int .i64 ((0 : Nat) : Int)) := ha.1.blk.cell 2
           have f2 : w1.frozen? ⟨g, 2, none⟩ = false := ha.1.blk.frozen 2
           clear ha))
      go_ret
      exact ⟨_, rfl, World.ownsRow_nil _ _ _ _, (unhide HA).1.fault e, (unhide HA).2.set_ ⟨g, 2, none⟩ _ (fun _ => rfl)⟩
  · rw [rawS_fault hf]
    have hfb : ((f : Int) != 0) = true := by simp; omega
    have HH := hide h
    clear h hf
    go_enter Try.func51, Try.ntmps51
    go_wp2_with (go_at_call 54; refine (unhide hM).mono ?_; rintro e w1 ⟨rfl, rfl⟩)
    go_ret
    exact ⟨_, rfl, World.ownsRow_nil _ _ _ _, unhide HH, Chg.refl _ _⟩
theorem raw_made (w : World) (g : Nat) (A : Option Addr) (n c : Nat) (bs : List UInt8) (p f : Nat) (k : Int) (h : RdP w g A n c bs p f) (h2 : k ≤ 9223372036854775807) :
    Calls Try.prog 34 #[.pointer (some ⟨g, 0, none⟩), .int .i64 k] w fun E w' =>
      ∃ v, E = .returned v ∧ w'.ownsRow w.heap.size 5 1 v (rawS bs k p f).1.length ((rawS bs k p f).1.map bv) ∧ After w g A n c bs (rawS bs k p f).2.1 (rawS bs k p f).2.2 w' := by
  have hb : Below w.heap.size w ((w.alloc (.cells #[.pointer (some ⟨g, 0, none⟩)] 53)).alloc (.cells #[.int .i64 k] 3)) := ((Below.refl _ _).alloc (Nat.le_refl _) _).alloc (by simp) _
  have h' := h.chg (Chg.of_below hb (fun _ => False)) (fun _ _ h => h)
  have k1 : ((w.alloc (.cells #[.pointer (some ⟨g, 0, none⟩)] 53)).alloc (.cells #[.int .i64 k] 3)).cell? ⟨w.heap.size, 0, none⟩ = some (.pointer (some ⟨g, 0, none⟩)) := ((Blk.new w 53 #[.pointer (some ⟨g, 0, none⟩)]).alloc _).cell 0
  have k2 : ((w.alloc (.cells #[.pointer (some ⟨g, 0, none⟩)] 53)).alloc (.cells #[.int .i64 k] 3)).cell? ⟨w.heap.size + 1, 0, none⟩ = some (.int .i64 k) := by
    have := (Blk.new (w.alloc (.cells #[.pointer (some ⟨g, 0, none⟩)] 53)) 3 #[.int .i64 k]).cell 0
    rwa [World.size_alloc] at this
  have hR := hide (readB_any _ g (w.heap.size + 1) w.heap.size A n c bs p f k h' k2 h2 k1)
  have HB := hide hb
  clear h h' k1 k2 hb
  go_enter Try.func34, Try.ntmps34
  go_wp2_with (go_at_call 51; refine (unhide hR).mono ?_; rintro e w1 ⟨v, rfl, ho, ha⟩)
  go_ret
  exact ⟨_, rfl, ho.base (by simp; omega), ha.1, (Chg.of_below (unhide HB) (fun i => i = g)).trans ha.2 (fun _ _ h => h)⟩

theorem textS_fault {bs : List UInt8} {k : Int} {p f : Nat} (h : f ≠ 0) : textS bs k p f = ([], p, f) := by unfold textS; rw [if_pos h]
theorem textS_neg {bs : List UInt8} {k : Int} {p : Nat} (h : k < 0) : textS bs k p 0 = ([], p, 2) := by unfold textS; rw [if_neg (by simp), if_pos h]
theorem textS_no {bs : List UInt8} {m p a j e : Nat} (h : getS (bs.drop p) = (a, j, e)) (he : e ≠ 0) : textS bs (m : Int) p 0 = ([], p, e) := by unfold textS; rw [if_neg (by simp), if_neg (by omega), h, if_pos he]
theorem textS_long {bs : List UInt8} {m p a j : Nat} (h : getS (bs.drop p) = (a, j, 0)) (hm : m < a) : textS bs (m : Int) p 0 = ([], p, 3) := by unfold textS; rw [if_neg (by simp), if_neg (by omega), h, if_neg (by simp), if_pos (by simpa using hm)]
theorem textS_short {bs : List UInt8} {m p a j : Nat} (h : getS (bs.drop p) = (a, j, 0)) (hm : ¬ m < a) (hs : bs.length - (p + j) < a) : textS bs (m : Int) p 0 = ([], p, 10) := by unfold textS; rw [if_neg (by simp), if_neg (by omega), h, if_neg (by simp), if_neg (by simpa using hm), if_pos hs]
theorem textS_yes {bs : List UInt8} {m p a j : Nat} (h : getS (bs.drop p) = (a, j, 0)) (hm : ¬ m < a) (hs : ¬ bs.length - (p + j) < a) : textS bs (m : Int) p 0 = ((bs.drop (p + j)).take a, p + j + a, 0) := by unfold textS; rw [if_neg (by simp), if_neg (by omega), h, if_neg (by simp), if_neg (by simpa using hm), if_neg hs]
theorem textS_err {bs : List UInt8} {k : Int} {p : Nat} (h : (textS bs k p 0).2.2 ≠ 0) : (textS bs k p 0).1 = [] ∧ (textS bs k p 0).2.1 = p := by
  revert h
  unfold textS
  split
  · simp
  · split
    · simp
    · split
      · simp
      · split
        · simp
        · split <;> simp

/-- What the closure of Text hands back. -/
def TextOut (w : World) (g : Nat) (A : Option Addr) (n c : Nat) (bs : List UInt8) (p f : Nat) (out : List UInt8) (e : Nat) (E : Ending) (w' : World) : Prop :=
  E = .returned (.tuple #[.string ⟨out.toArray⟩, .int .i64 (e : Int)]) ∧ After w g A n c bs p f w'
theorem text1_any (w : World) (g gk gr : Nat) (A : Option Addr) (n c : Nat) (bs : List UInt8) (p : Nat) (k : Int) (h : RdP w g A n c bs p 0) (hk : w.cell? ⟨gk, 0, none⟩ = some (.int .i64 k)) (h2 : k ≤ 9223372036854775807) (hr : w.cell? ⟨gr, 0, none⟩ = some (.pointer (some ⟨g, 0, none⟩))) :
    Calls Try.prog 63 #[.pointer (some ⟨gk, 0, none⟩), .pointer (some ⟨gr, 0, none⟩)] w (TextOut w g A n c bs (textS bs k p 0).2.1 0 (textS bs k p 0).1 (textS bs k p 0).2.2) := by
  have hlen := h.len
  by_cases hneg : k < 0
  · rw [textS_neg hneg]
    have HH := hide h
    clear h
    go_enter Try.func63, Try.ntmps63
    go_wp2
    go_ret2
    exact ⟨rfl, unhide HH, Chg.refl _ _⟩
  · obtain ⟨m, rfl⟩ := Int.eq_ofNat_of_zero_le (by omega : 0 ≤ k)
    obtain ⟨r, hg⟩ : ∃ r, getS (bs.drop p) = r := ⟨_, rfl⟩
    obtain ⟨a, j, e⟩ := r
    have hle := h.le
    have hm0 : (0 : Int) ≤ (m : Int) := by omega
    rcases get_fit bs p a j e hg with ⟨rfl, hj, ha⟩ | ⟨he, rfl, rfl⟩
    · have hN := hide (number_any w g A n c bs p 0 a j 0 h hg (by omega))
      have HH := hide h
      by_cases hm : m < a
      · rw [textS_long hg hm]
        have hd : (m : Int) < (a : Int) := by omega
        clear h hg
        go_enter Try.func63, Try.ntmps63
        go_wp2_with (go_at_call 64
                     refine (unhide hN).mono ?_
                     rintro E w1 ⟨rfl, q, hq⟩
                     have hk1 : w1.cell? ⟨gk, 0, none⟩ = some (.int .i64 (m : Int)) := hq ▸ hk
                     have HX := Lib.hid hq
                     clear hq)
        go_ret2
        rw [HX.out]
        exact ⟨rfl, (unhide HH).drewN _, chg_drewN _ _ _⟩
      · have hd : ¬ (m : Int) < (a : Int) := by omega
        by_cases hs : bs.length - (p + j) < a
        · rw [textS_short hg hm hs]
          have hT : ∀ q, Hid (Calls Try.prog 53 #[.pointer (some ⟨g, 0, none⟩), .int .i64 ((p + j : Nat) : Int), .int .u64 (a : Int)] (w.drewN q) fun E w' => E = .returned (.tuple #[.slice none 0 0, .int .i64 10]) ∧ w.drewN q = w') := fun q => hide (take_no _ g A n c bs p 0 (p + j) a (h.drewN q) (by omega) (by omega))
          obtain ⟨L, hL⟩ : ∃ L, p + j = L := ⟨_, rfl⟩
          simp only [hL] at hT hN
          have hst := fun w => run_string_of (P := Try.prog) (w := w) (B := 0) (A := none) (n := 0) (bs := []) Reads.none_ 0 22 9 5 Try.underlying22 Try.underlying5 Try.underlying9
          clear h hg
          go_enter Try.func63, Try.ntmps63
          go_wp2_with (first
            | (go_at_call 64
               refine (unhide hN).mono ?_
               rintro E w1 ⟨rfl, q, hq⟩
               have hk1 : w1.cell? ⟨gk, 0, none⟩ = some (.int .i64 (m : Int)) := hq ▸ hk
               have hr1 : w1.cell? ⟨gr, 0, none⟩ = some (.pointer (some ⟨g, 0, none⟩)) := hq ▸ hr
               have hT1 := hT q
               rw [← hq] at hT1
               have HX := Lib.hid hq
               clear hq)
            | (go_at_call 53; refine (unhide hT1).mono ?_; rintro E w2 ⟨rfl, rfl⟩))
          go_ret2
          rw [HX.out]
          exact ⟨rfl, (unhide HH).drewN _, chg_drewN _ _ _⟩
        · rw [textS_yes hg hm hs]
          have hT : ∀ q, Hid (Calls Try.prog 53 #[.pointer (some ⟨g, 0, none⟩), .int .i64 ((p + j : Nat) : Int), .int .u64 (a : Int)] (w.drewN q) fun E w' => ∃ A' c', E = .returned (.tuple #[.slice A' a c', .int .i64 0]) ∧ After (w.drewN q) g A n c bs (p + j + a) 0 w' ∧ Reads w' g 1 A' a (((bs.drop (p + j)).take a).map bv)) := fun q => hide (take_yes _ g A n c bs p 0 (p + j) a (h.drewN q) (by omega))
          obtain ⟨L, hL⟩ : ∃ L, p + j = L := ⟨_, rfl⟩
          simp only [hL] at hT hN ⊢
          obtain ⟨out, hout⟩ : ∃ o, (bs.drop L).take a = o := ⟨_, rfl⟩
          simp only [hout] at hT ⊢
          clear h hg hout
          go_enter Try.func63, Try.ntmps63
          go_wp2_with (first
            | (go_at_call 64
               refine (unhide hN).mono ?_
               rintro E w1 ⟨rfl, q, hq⟩
               have hk1 : w1.cell? ⟨gk, 0, none⟩ = some (.int .i64 (m : Int)) := hq ▸ hk
               have hr1 : w1.cell? ⟨gr, 0, none⟩ = some (.pointer (some ⟨g, 0, none⟩)) := hq ▸ hr
               have hT1 := hT q
               rw [← hq] at hT1
               have HX := Lib.hid hq
               clear hq)
            | (go_at_call 53
               refine (unhide hT1).mono ?_
               rintro E w2 ⟨A2, c2, rfl, ha2, hr2⟩
               have hst := run_string_of (P := Try.prog) hr2 c2 22 9 5 Try.underlying22 Try.underlying5 Try.underlying9
               have HA := hide ha2
               clear ha2 hr2))
          go_ret2
          exact ⟨rfl, (unhide HA).1, (by rw [HX.out]; exact chg_drewN _ _ _ : Chg w w1 (fun i => i = g)).trans (unhide HA).2 (fun _ _ h => h)⟩
    · rw [textS_no hg he]
      have hN := hide (number_any w g A n c bs p 0 0 0 e h hg (by omega))
      have heb : ((e : Int) != 0) = true := by simp; omega
      have HH := hide h
      clear h hg
      go_enter Try.func63, Try.ntmps63
      go_wp2_with (go_at_call 64; refine (unhide hN).mono ?_; rintro E w1 ⟨rfl, q, hq⟩; have HX := Lib.hid hq; clear hq)
      go_ret2
      rw [HX.out]
      exact ⟨rfl, (unhide HH).drewN _, chg_drewN _ _ _⟩

theorem readS_any (w : World) (g gk gr : Nat) (A : Option Addr) (n c : Nat) (bs : List UInt8) (p f : Nat) (k : Int) (h : RdP w g A n c bs p f) (hk : w.cell? ⟨gk, 0, none⟩ = some (.int .i64 k)) (h2 : k ≤ 9223372036854775807) (hr : w.cell? ⟨gr, 0, none⟩ = some (.pointer (some ⟨g, 0, none⟩))) :
    Calls Try.prog 62 #[.pointer (some ⟨g, 0, none⟩), .func (.func 63) #[] #[.pointer (some ⟨gk, 0, none⟩), .pointer (some ⟨gr, 0, none⟩)]] w fun E w' =>
      E = .returned (.string ⟨(textS bs k p f).1.toArray⟩) ∧ After w g A n c bs (textS bs k p f).2.1 (textS bs k p f).2.2 w' := by
  have c2 : w.cell? ⟨g, 2, none⟩ = some (.int .i64 (f : Int)) := h.blk.cell 2
  have hM := hide (rnone_made w g _ _ _ h.blk)
  by_cases hf : f = 0
  · subst hf
    have hN := hide (text1_any w g gk gr A n c bs p k h hk h2 hr)
    have hE := fun h => textS_err (bs := bs) (k := k) (p := p) h
    obtain ⟨o, ho⟩ : ∃ o, textS bs k p 0 = o := ⟨_, rfl⟩
    obtain ⟨out, q, e⟩ := o
    rw [ho] at hN hE ⊢
    simp only at hN hE ⊢
    by_cases he : e = 0
    · subst he
      clear h ho hE
      go_enter Try.func62, Try.ntmps62
      go_wp2_with (first
        | (go_at_call 54; refine (unhide hM).mono ?_; rintro e w1 ⟨rfl, rfl⟩)
        | (go_at_call 63; refine (unhide hN).mono ?_; rintro e w1 ⟨rfl, ha⟩))
      go_ret
      exact ⟨rfl, ha⟩
    · obtain ⟨rfl, rfl⟩ := hE he
      have heb : ((e : Int) != 0) = true := by simp; omega
      clear h ho hE
      go_enter Try.func62, Try.ntmps62
      go_wp2_with (first
        | (go_at_call 54; refine (unhide hM).mono ?_; rintro e w1 ⟨rfl, rfl⟩)
        | (go_at_call 63; refine (unhide hN).mono ?_; rintro e w1 ⟨rfl, ha⟩
           have HA := hide ha
           have k2 : w1.cell? ⟨g, 2, none⟩ = some (.int .i64 ((0 : Nat) : Int)) := ha.1.blk.cell 2
           have f2 : w1.frozen? ⟨g, 2, none⟩ = false := ha.1.blk.frozen 2
           clear ha))
      go_ret
      exact ⟨rfl, (unhide HA).1.fault e, (unhide HA).2.set_ ⟨g, 2, none⟩ _ (fun _ => rfl)⟩
  · rw [textS_fault hf]
    have hfb : ((f : Int) != 0) = true := by simp; omega
    have HH := hide h
    clear h hf
    go_enter Try.func62, Try.ntmps62
    go_wp2_with (go_at_call 54; refine (unhide hM).mono ?_; rintro e w1 ⟨rfl, rfl⟩)
    go_ret
    exact ⟨rfl, unhide HH, Chg.refl _ _⟩
theorem text_made (w : World) (g : Nat) (A : Option Addr) (n c : Nat) (bs : List UInt8) (p f : Nat) (k : Int) (h : RdP w g A n c bs p f) (h2 : k ≤ 9223372036854775807) :
    Calls Try.prog 39 #[.pointer (some ⟨g, 0, none⟩), .int .i64 k] w fun E w' =>
      E = .returned (.string ⟨(textS bs k p f).1.toArray⟩) ∧ After w g A n c bs (textS bs k p f).2.1 (textS bs k p f).2.2 w' := by
  have hb : Below w.heap.size w ((w.alloc (.cells #[.pointer (some ⟨g, 0, none⟩)] 53)).alloc (.cells #[.int .i64 k] 3)) := ((Below.refl _ _).alloc (Nat.le_refl _) _).alloc (by simp) _
  have h' := h.chg (Chg.of_below hb (fun _ => False)) (fun _ _ h => h)
  have k1 : ((w.alloc (.cells #[.pointer (some ⟨g, 0, none⟩)] 53)).alloc (.cells #[.int .i64 k] 3)).cell? ⟨w.heap.size, 0, none⟩ = some (.pointer (some ⟨g, 0, none⟩)) := ((Blk.new w 53 #[.pointer (some ⟨g, 0, none⟩)]).alloc _).cell 0
  have k2 : ((w.alloc (.cells #[.pointer (some ⟨g, 0, none⟩)] 53)).alloc (.cells #[.int .i64 k] 3)).cell? ⟨w.heap.size + 1, 0, none⟩ = some (.int .i64 k) := by
    have := (Blk.new (w.alloc (.cells #[.pointer (some ⟨g, 0, none⟩)] 53)) 3 #[.int .i64 k]).cell 0
    rwa [World.size_alloc] at this
  have hR := hide (readS_any _ g (w.heap.size + 1) w.heap.size A n c bs p f k h' k2 h2 k1)
  have HB := hide hb
  clear h h' k1 k2 hb
  obtain ⟨o, ho⟩ : ∃ o, textS bs k p f = o := ⟨_, rfl⟩
  rw [ho] at hR ⊢
  obtain ⟨o1, o2, o3⟩ := o
  clear ho
  go_enter Try.func39, Try.ntmps39
  go_wp2_with (go_at_call 62; refine (unhide hR).mono ?_; rintro e w1 ⟨rfl, ha⟩)
  go_ret
  exact ⟨rfl, ha.1, (Chg.of_below (unhide HB) (fun i => i = g)).trans ha.2 (fun _ _ h => h)⟩

theorem at_made (w : World) (g : Nat) (A : Option Addr) (n c : Nat) (bs : List UInt8) (p f : Nat) (h : RdP w g A n c bs p f) :
    Calls Try.prog 41 #[.pointer (some ⟨g, 0, none⟩)] w fun E w' => E = .returned (.int .i64 (p : Int)) ∧ w = w' := by
  have c1 : w.cell? ⟨g, 1, none⟩ = some (.int .i64 (p : Int)) := h.blk.cell 1
  have hM := hide (rnone_made w g _ _ _ h.blk)
  clear h
  go_enter Try.func41, Try.ntmps41
  go_wp2_with (go_at_call 54; refine (unhide hM).mono ?_; rintro e w1 ⟨rfl, rfl⟩)
  go_ret
  exact ⟨rfl, rfl⟩
theorem left_made (w : World) (g : Nat) (A : Option Addr) (n c : Nat) (bs : List UInt8) (p f : Nat) (h : RdP w g A n c bs p f) :
    Calls Try.prog 35 #[.pointer (some ⟨g, 0, none⟩)] w fun E w' => E = .returned (.int .i64 ((n - p : Nat) : Int)) ∧ ∃ q, w' = w.drewN q := by
  have c0 : w.cell? ⟨g, 0, none⟩ = some (.slice A n c) := h.blk.cell 0
  have c1 : w.cell? ⟨g, 1, none⟩ = some (.int .i64 (p : Int)) := h.blk.cell 1
  have hM := hide (rnone_made w g _ _ _ h.blk)
  have hle := h.le
  have hsm := h.small
  obtain ⟨L, hL⟩ : ∃ L, n - p = L := ⟨_, rfl⟩
  have hs : IntKind.i64.wrap ((n : Int) - (p : Int)) = (L : Int) := by rw [IntWalk.i64_in _ (by omega)]; omega
  rw [hL]
  clear h
  go_enter Try.func35, Try.ntmps35
  go_wp2_with (go_at_call 54; refine (unhide hM).mono ?_; rintro e w1 ⟨rfl, rfl⟩)
  go_quiet (fail)
  go_wp2
  go_ret
  exact ⟨rfl, _, rfl⟩
theorem err_made (w : World) (g : Nat) (A : Option Addr) (n c : Nat) (bs : List UInt8) (p f : Nat) (h : RdP w g A n c bs p f) :
    Calls Try.prog 36 #[.pointer (some ⟨g, 0, none⟩)] w fun E w' => E = .returned (.int .i64 (f : Int)) ∧ w = w' := by
  have c1 : w.cell? ⟨g, 2, none⟩ = some (.int .i64 (f : Int)) := h.blk.cell 2
  have hM := hide (rnone_made w g _ _ _ h.blk)
  clear h
  go_enter Try.func36, Try.ntmps36
  go_wp2_with (go_at_call 54; refine (unhide hM).mono ?_; rintro e w1 ⟨rfl, rfl⟩)
  go_ret
  exact ⟨rfl, rfl⟩
def endS (n p f : Nat) : Nat := if f ≠ 0 then f else if p < n then 10 else 0
theorem end_made (w : World) (g : Nat) (A : Option Addr) (n c : Nat) (bs : List UInt8) (p f : Nat) (h : RdP w g A n c bs p f) :
    Calls Try.prog 42 #[.pointer (some ⟨g, 0, none⟩)] w fun E w' => E = .returned (.int .i64 (endS n p f : Nat)) ∧ ∃ q, w' = w.drewN q := by
  have hE := hide (err_made w g A n c bs p f h)
  have hL := hide (left_made w g A n c bs p f h)
  have hle := h.le
  clear h
  by_cases hf : f = 0
  · subst hf
    by_cases hp : p < n
    · have e : endS n p 0 = 10 := by unfold endS; rw [if_neg (by simp), if_pos hp]
      rw [e]
      obtain ⟨L, hl⟩ : ∃ L, n - p = L := ⟨_, rfl⟩
      rw [hl] at hL
      have hz : ((L : Int) == 0) = false := by simp; omega
      go_enter Try.func42, Try.ntmps42
      go_wp2_with (first
        | (go_at_call 36; refine (unhide hE).mono ?_; rintro e w1 ⟨rfl, rfl⟩)
        | (go_at_call 35; refine (unhide hL).mono ?_; rintro e w1 ⟨rfl, q, rfl⟩))
      go_ret
      exact ⟨rfl, _, rfl⟩
    · have e : endS n p 0 = 0 := by unfold endS; rw [if_neg (by simp), if_neg hp]
      rw [e]
      rw [show n - p = 0 by omega] at hL
      go_enter Try.func42, Try.ntmps42
      go_wp2_with (first
        | (go_at_call 36; refine (unhide hE).mono ?_; rintro e w1 ⟨rfl, rfl⟩)
        | (go_at_call 35; refine (unhide hL).mono ?_; rintro e w1 ⟨rfl, q, rfl⟩))
      go_ret
      exact ⟨rfl, _, rfl⟩
  · have e : endS n p f = f := by unfold endS; rw [if_pos hf]
    rw [e]
    have hfb : ((f : Int) != 0) = true := by simp; omega
    go_enter Try.func42, Try.ntmps42
    go_wp2_with (go_at_call 36; refine (unhide hE).mono ?_; rintro e w1 ⟨rfl, rfl⟩)
    go_ret
    exact ⟨rfl, 0, rfl⟩
end Go.Proofs.Ytbofjboebkfjgaa
