/-
  One call of both readers: they answer the same; the walk over the Go text. Condition: the reader's bytes stay below 2^47.
-/
import Derived.Test.YtbofjboebkfjgaaLebRdRef2
import Derived.Test.YtbofjboebkfjgaaLebRd3
import Derived.Test.YtbofjboebkfjgaaLebLent
namespace Go.Proofs.Ytbofjboebkfjgaa
open Go.RowKit

/-- 'turned' over a row of the call's own, nil let in. -/
theorem turned_own (base : Nat) (v : Value) (n : Nat) (bs : List UInt8) (w : World) (ho : w.ownsRow base 5 1 v n (bs.map bv)) (hn : n ≤ 140737488355328) :
    Calls Try.prog 15 #[v] w fun e w' => e = .returned (.tuple #[]) ∧ w'.ownsRow base 5 1 v n ((bs.map t91).map bv) ∧ w.grownBy w' v.ownBlock := by
  have hl : bs.length = n := by have := ho.1; simpa using this
  rcases Nat.eq_zero_or_pos n with h0 | h0
  · subst h0
    obtain ⟨A, c, rfl⟩ := ho.shape
    have hb : bs = [] := List.eq_nil_of_length_eq_zero hl
    subst hb
    refine (turned_nil A c w).mono ?_
    rintro e w' ⟨rfl, rfl⟩
    exact ⟨rfl, ho, World.grownBy.refl _ _⟩
  · obtain ⟨g, cap, rfl, hg, _⟩ := ho.form h0
    refine (turned_any base g n n cap bs [] w hl (by simpa using ho) hn).mono ?_
    rintro e w' ⟨rfl, ho', hg'⟩
    exact ⟨rfl, by simpa using ho', hg'⟩

theorem quiet_more {P : Program} {f : FuncId} {args : Array Value} {w : World} {n : Nat} {v : Value}
    (h : Calls P f args (w.drewN n) fun e w' => e = .returned v ∧ ∃ q, w' = (w.drewN n).drewN q) : Calls P f args (w.drewN n) fun e w'' => e = .returned v ∧ ∃ m, w'' = w.drewN m :=
  h.mono fun _ _ ⟨he, q, hq⟩ => ⟨he, n + q, by rw [hq, World.drewN_drewN]⟩
/-- Both readers, alike. -/
structure Both (w : World) (B g h : Nat) (A : Option Addr) (c : Nat) (A2 : Option Addr) (c2 n : Nat) (bs : List UInt8) (p f : Nat) : Prop where
  P : RdP w g A n c bs p f
  R : RdR w B h A2 n c2 bs p f
  lo : B ≤ g
  gh : g < h
section
variable {w w' : World} {B g h : Nat} {A : Option Addr} {c : Nat} {A2 : Option Addr} {c2 n : Nat} {bs : List UInt8} {p f p' f' : Nat}
theorem Both.afterP (b : Both w B g h A c A2 c2 n bs p f) (a : After w g A n c bs p' f' w') : RdR w' B h A2 n c2 bs p f :=
  b.R.chg a.2 (fun i hi e => by have := b.lo; omega) (fun e => by have := b.gh; omega)
theorem Both.afterR (hP : RdP w g A n c bs p' f') (lo : B ≤ g) (gh : g < h) (a : AfterR w B h A2 n c2 bs p' f' w') : Both w' B g h A c A2 c2 n bs p' f' :=
  ⟨hP.chg a.2 (fun i hi e => by omega), a.1, lo, gh⟩
theorem Both.drewN (b : Both w B g h A c A2 c2 n bs p f) (k : Nat) : Both (w.drewN k) B g h A c A2 c2 n bs p f := ⟨b.P.drewN k, b.R.drewN k, b.lo, b.gh⟩
theorem Both.below (b : Both w B g h A c A2 c2 n bs p f) (hb : Below w.heap.size w w') : Both w' B g h A c A2 c2 n bs p f :=
  ⟨b.P.chg (Chg.of_below hb (fun _ => False)) (fun _ _ h => h), b.R.chg (Chg.of_below hb (fun _ => False)) (fun _ _ h => h) (fun h => h), b.lo, b.gh⟩
end
def Done (w : World) (B g h : Nat) (A : Option Addr) (c : Nat) (A2 : Option Addr) (c2 n : Nat) (bs : List UInt8) (E : Ending) (w' : World) : Prop :=
  E = .returned (.bool true) ∧ (∃ p f, Both w' B g h A c A2 c2 n bs p f) ∧ Chg w w' (fun i => i = g ∨ i = h)

set_option maxHeartbeats 1000000 in
theorem reads_num (w : World) (B g h : Nat) (A : Option Addr) (c : Nat) (A2 : Option Addr) (c2 n : Nat) (bs : List UInt8) (p f : Nat) (b : Both w B g h A c A2 c2 n bs p f) (o1 o2 o3 o4 : Value) :
    Calls Try.prog 37 #[.pointer (some ⟨g, 0, none⟩), .pointer (some ⟨h, 0, none⟩), .agg #[.int .i64 1, o1, o2, o3, o4]] w (Done w B g h A c A2 c2 n bs) := by
  have hb : Below w.heap.size w (w.alloc (.cells #[.int .i64 1, o1, o2, o3, o4] 45)) := (Below.refl _ _).alloc (Nat.le_refl _) _
  have b0 := b.below hb
  have hN := hide (num_made _ g A n c bs p f b0.P)
  have hR := fun w' (a : After (w.alloc (.cells #[.int .i64 1, o1, o2, o3, o4] 45)) g A n c bs (numS bs p f).2.1 (numS bs p f).2.2 w') => hide (rnum_any w' B h A2 n c2 bs p f (b0.afterP a))
  have HB := hide hb
  have lo := b.lo
  have gh := b.gh
  clear b b0 hb
  obtain ⟨r, hr⟩ : ∃ r, numS bs p f = r := ⟨_, rfl⟩
  rw [hr] at hN
  simp only [hr] at hR
  obtain ⟨x, y, z⟩ := r
  simp only at hN hR
  clear hr
  go_enter Try.func37, Try.ntmps37
  go_wp2_with (first
    | (go_at_call 38; refine (unhide hN).mono ?_; rintro e w1 ⟨rfl, ha⟩
       have hR1 := hR w1 ha
       have HA := hide ha
       clear ha)
    | (go_at_call 55; refine (unhide hR1).mono ?_; rintro e w2 ⟨rfl, ha2⟩))
  go_ret
  exact ⟨rfl, ⟨_, _, Both.afterR (unhide HA).1 lo gh ha2⟩, ((Chg.of_below (unhide HB) (fun i => i = g ∨ i = h)).trans (unhide HA).2 (fun _ _ e => .inl e)).trans ha2.2 (fun _ _ e => .inr e)⟩
set_option maxHeartbeats 1000000 in
theorem reads_int (w : World) (B g h : Nat) (A : Option Addr) (c : Nat) (A2 : Option Addr) (c2 n : Nat) (bs : List UInt8) (p f : Nat) (b : Both w B g h A c A2 c2 n bs p f) (o1 o2 o3 o4 : Value) :
    Calls Try.prog 37 #[.pointer (some ⟨g, 0, none⟩), .pointer (some ⟨h, 0, none⟩), .agg #[.int .i64 2, o1, o2, o3, o4]] w (Done w B g h A c A2 c2 n bs) := by
  have hb : Below w.heap.size w (w.alloc (.cells #[.int .i64 2, o1, o2, o3, o4] 45)) := (Below.refl _ _).alloc (Nat.le_refl _) _
  have b0 := b.below hb
  have hN := hide (int_made _ g A n c bs p f b0.P)
  have hR := fun w' (a : After (w.alloc (.cells #[.int .i64 2, o1, o2, o3, o4] 45)) g A n c bs (numS bs p f).2.1 (numS bs p f).2.2 w') => hide (rint_any w' B h A2 n c2 bs p f (b0.afterP a))
  have HB := hide hb
  have lo := b.lo
  have gh := b.gh
  clear b b0 hb
  obtain ⟨r, hr⟩ : ∃ r, numS bs p f = r := ⟨_, rfl⟩
  rw [hr] at hN
  simp only [hr] at hR
  obtain ⟨x, y, z⟩ := r
  simp only at hN hR
  clear hr
  go_enter Try.func37, Try.ntmps37
  go_wp2_with (first
    | (go_at_call 40; refine (unhide hN).mono ?_; rintro e w1 ⟨rfl, ha⟩
       have hR1 := hR w1 ha
       have HA := hide ha
       clear ha)
    | (go_at_call 56; refine (unhide hR1).mono ?_; rintro e w2 ⟨rfl, ha2⟩))
  go_ret
  exact ⟨rfl, ⟨_, _, Both.afterR (unhide HA).1 lo gh ha2⟩, ((Chg.of_below (unhide HB) (fun i => i = g ∨ i = h)).trans (unhide HA).2 (fun _ _ e => .inl e)).trans ha2.2 (fun _ _ e => .inr e)⟩

set_option maxHeartbeats 1000000 in
theorem reads_raw (w : World) (B g h : Nat) (A : Option Addr) (c : Nat) (A2 : Option Addr) (c2 n : Nat) (bs : List UInt8) (p f : Nat) (b : Both w B g h A c A2 c2 n bs p f) (o1 o2 : Value) (k : Int) (o4 : Value) (h2 : k ≤ 9223372036854775807) :
    Calls Try.prog 37 #[.pointer (some ⟨g, 0, none⟩), .pointer (some ⟨h, 0, none⟩), .agg #[.int .i64 3, o1, o2, .int .i64 k, o4]] w (Done w B g h A c A2 c2 n bs) := by
  have hb : Below w.heap.size w (w.alloc (.cells #[.int .i64 3, o1, o2, .int .i64 k, o4] 45)) := (Below.refl _ _).alloc (Nat.le_refl _) _
  have b0 := b.below hb
  have hN := hide (raw_made _ g A n c bs p f k b0.P h2)
  have hR := fun w' (a : After (w.alloc (.cells #[.int .i64 3, o1, o2, .int .i64 k, o4] 45)) g A n c bs (rawS bs k p f).2.1 (rawS bs k p f).2.2 w') => hide (rraw_any w' B h A2 n c2 bs p f k (b0.afterP a) h2)
  have hk0 := Blk.new w 45 #[.int .i64 3, o1, o2, .int .i64 k, o4]
  have HB := hide hb
  have lo := b.lo
  have gh := b.gh
  have hgl := b.P.blk.lt
  have hhl := b.R.blk.lt
  have hsm := b.P.small
  have hlen := b.P.len
  have hol : (rawS bs k p f).1.length ≤ n := by
    rw [← hlen]
    unfold rawS
    split
    · simp
    · split
      · simp
      · split
        · simp
        · simp only [List.length_take, List.length_drop]; omega
  clear b b0 hb
  obtain ⟨r, hr⟩ : ∃ r, rawS bs k p f = r := ⟨_, rfl⟩
  rw [hr] at hN hol
  simp only [hr] at hR
  obtain ⟨x, y, z⟩ := r
  simp only at hN hR hol
  have HK0 := hide hk0
  clear hr hk0 hlen
  go_enter Try.func37, Try.ntmps37
  go_wp2_with (first
    | (go_at_call 34; refine (unhide hN).mono ?_; rintro e w1 ⟨v1, rfl, ho1, ha⟩
       have hR1 := hR w1 ha
       have hk1 := ha.2.blk (unhide HK0) (by omega)
       have hc3 : w1.cell? ⟨w.heap.size, 3, none⟩ = some (.int .i64 k) := hk1.cell 3
       have HK1 := hide hk1
       have HA := hide ha
       have HO1 := hide ho1
       obtain ⟨A1, k1, rfl⟩ := ho1.shape
       clear ha hk1 ho1)
    | (go_at_call 57; refine (unhide hR1).mono ?_; rintro e w2 ⟨v2, rfl, ho2, ha2⟩
       have hz1 := (unhide HA).2.size
       simp only [World.size_alloc] at hz1
       have ho1' := ha2.2.own (unhide HO1) (fun i hi e => by have := ((unhide HO1).lt i hi).1; simp only [World.size_alloc] at this; omega)
       obtain ⟨A3, k3, rfl⟩ := ho2.shape
       have hS := hide (same_any A1 A3 x.length k1 x.length k3 x x w2 w2.heap.size (Reads.of_own ho1') (Reads.of_own ho2))
       rw [show (x == x) = true by simp] at hS
       have hT := hide (turned_own _ _ x.length x w2 ho1' (by omega))
       have HA2 := hide ha2
       have hlt1 := ho1'.lt
       clear ha2 ho1' ho2 hR1)
    | (go_at_call 18; refine (unhide hS).mono ?_; rintro e w3 ⟨rfl, rfl⟩)
    | (go_at_call 15; refine (unhide hT).mono ?_; rintro e w3 ⟨rfl, _, hg3⟩))
  go_ret
  have hc : Chg w2 w3 (fun i => Value.ownBlock (.slice A1 x.length k1) = some i) := Chg.of_grown hg3
  have hfar : ∀ i, i ≤ w.heap.size → ¬ (Value.ownBlock (.slice A1 x.length k1) = some i) := fun i hi e => by
    have := (hlt1 i e).1
    simp only [World.size_alloc] at this
    omega
  have b2 := Both.afterR (unhide HA).1 lo gh (unhide HA2)
  refine ⟨rfl, ⟨_, _, ⟨b2.P.chg hc (fun i hi => hfar i (by omega)), b2.R.chg hc (fun i hi => hfar i (by omega)) (hfar _ (by omega)), lo, gh⟩⟩, ?_⟩
  exact (((Chg.of_below (unhide HB) (fun i => i = g ∨ i = h)).trans (unhide HA).2 (fun _ _ e => .inl e)).trans (unhide HA2).2 (fun _ _ e => .inr e)).trans hc (fun i hi e => absurd e (hfar i (by omega)))

set_option maxHeartbeats 1000000 in
theorem reads_text (w : World) (B g h : Nat) (A : Option Addr) (c : Nat) (A2 : Option Addr) (c2 n : Nat) (bs : List UInt8) (p f : Nat) (b : Both w B g h A c A2 c2 n bs p f) (o1 o2 : Value) (k : Int) (o4 : Value) (h2 : k ≤ 9223372036854775807) :
    Calls Try.prog 37 #[.pointer (some ⟨g, 0, none⟩), .pointer (some ⟨h, 0, none⟩), .agg #[.int .i64 4, o1, o2, .int .i64 k, o4]] w (Done w B g h A c A2 c2 n bs) := by
  have hb : Below w.heap.size w (w.alloc (.cells #[.int .i64 4, o1, o2, .int .i64 k, o4] 45)) := (Below.refl _ _).alloc (Nat.le_refl _) _
  have b0 := (b.below hb).drewN 1
  have hN := hide (text_made (w.alloc (.cells #[.int .i64 4, o1, o2, .int .i64 k, o4] 45)).drew g A n c bs p f k b0.P h2)
  have hR := fun w' (a : After (w.alloc (.cells #[.int .i64 4, o1, o2, .int .i64 k, o4] 45)).drew g A n c bs (textS bs k p f).2.1 (textS bs k p f).2.2 w') => hide (rtext_any w' B h A2 n c2 bs p f k (b0.afterP a) h2)
  have hk0 := Blk.new w 45 #[.int .i64 4, o1, o2, .int .i64 k, o4]
  have hc0 : (w.alloc (.cells #[.int .i64 4, o1, o2, .int .i64 k, o4] 45)).cell? ⟨w.heap.size, 3, none⟩ = some (.int .i64 k) := hk0.cell 3
  have HB := hide (below_drewN hb 1)
  have lo := b.lo
  have gh := b.gh
  have hgl := b.P.blk.lt
  have hhl := b.R.blk.lt
  clear b b0 hb
  obtain ⟨r, hr⟩ : ∃ r, textS bs k p f = r := ⟨_, rfl⟩
  rw [hr] at hN
  simp only [hr] at hR
  obtain ⟨x, y, z⟩ := r
  simp only at hN hR
  have HK0 := hide hk0
  clear hr hk0
  go_enter Try.func37, Try.ntmps37
  go_wp2
  go_region_held3 (fun w' => w'.cell? ⟨w.heap.size, 3, none⟩ = some (.int .i64 k)) (first | go_keep | exact d1 | exact d2) ((first
    | (go_at_call 39; refine (unhide hN).mono ?_; rintro e w1 ⟨rfl, ha⟩
       have hR1 := hR w1 ha
       have hk1 := ha.2.blk ((unhide HK0).drewN 1) (by omega)
       have d1 : w1.cell? ⟨w.heap.size, 3, none⟩ = some (.int .i64 k) := hk1.cell 3
       have HK1 := hide hk1
       have HA := hide ha
       clear ha hk1)
    | (go_at_call 58; refine (unhide hR1).mono ?_; rintro e w2 ⟨rfl, ha2⟩
       have hk2 := ha2.2.blk (unhide HK1) (by omega)
       have d2 : w2.cell? ⟨w.heap.size, 3, none⟩ = some (.int .i64 k) := hk2.cell 3
       have HA2 := hide ha2
       clear ha2 hk2 hR1)))
  go_wp2
  go_ret
  exact ⟨by simp, ⟨_, _, Both.afterR (unhide HA).1 lo gh (unhide HA2)⟩, ((Chg.of_below (unhide HB) (fun i => i = g ∨ i = h)).trans (unhide HA).2 (fun _ _ e => .inl e)).trans (unhide HA2).2 (fun _ _ e => .inr e)⟩

set_option maxRecDepth 100000 in
set_option maxHeartbeats 1000000 in
theorem reads_tell (w : World) (B g h : Nat) (A : Option Addr) (c : Nat) (A2 : Option Addr) (c2 n : Nat) (bs : List UInt8) (p f : Nat) (b : Both w B g h A c A2 c2 n bs p f) (kd : Int) (o1 o2 o3 o4 : Value) (h1 : kd ≠ 1) (h2 : kd ≠ 2) (h3 : kd ≠ 3) (h4 : kd ≠ 4) :
    Calls Try.prog 37 #[.pointer (some ⟨g, 0, none⟩), .pointer (some ⟨h, 0, none⟩), .agg #[.int .i64 kd, o1, o2, o3, o4]] w (Done w B g h A c A2 c2 n bs) := by
  have hb : Below w.heap.size w (w.alloc (.cells #[.int .i64 kd, o1, o2, o3, o4] 45)) := (Below.refl _ _).alloc (Nat.le_refl _) _
  have b0 := b.below hb
  have e1 : (kd == 1) = false := by simpa using h1
  have e2 : (kd == 2) = false := by simpa using h2
  have e3 : (kd == 3) = false := by simpa using h3
  have e4 : (kd == 4) = false := by simpa using h4
  have q1 := fun q => hide (at_made _ g A n c bs p f ((b0.drewN q).P))
  have q2 := fun q => hide (left_made _ g A n c bs p f ((b0.drewN q).P))
  have q3 := fun q => hide (err_made _ g A n c bs p f ((b0.drewN q).P))
  have q4 := fun q => hide (end_made _ g A n c bs p f ((b0.drewN q).P))
  have q5 := fun q => hide (rend_any _ B h A2 n c2 bs p f ((b0.drewN q).R))
  have c0 : (w.alloc (.cells #[.int .i64 kd, o1, o2, o3, o4] 45)).cell? ⟨h, 0, none⟩ = some (.slice A2 n c2) := b0.R.blk.cell 0
  have c1 : (w.alloc (.cells #[.int .i64 kd, o1, o2, o3, o4] 45)).cell? ⟨h, 1, none⟩ = some (.int .i64 (p : Int)) := b0.R.blk.cell 1
  have c2' : (w.alloc (.cells #[.int .i64 kd, o1, o2, o3, o4] 45)).cell? ⟨h, 2, none⟩ = some (.int .i64 (f : Int)) := b0.R.blk.cell 2
  have hle := b.P.le
  have hsm := b.P.small
  obtain ⟨L, hL⟩ : ∃ L, n - p = L := ⟨_, rfl⟩
  have hs : IntKind.i64.wrap ((n : Int) - (p : Int)) = (L : Int) := by rw [IntWalk.i64_in _ (by omega)]; omega
  rw [hL] at q2
  obtain ⟨ee, hee⟩ : ∃ e, endS n p f = e := ⟨_, rfl⟩
  simp only [hee] at q4 q5
  have HB0 := hide b0
  have HB := hide hb
  clear b b0 hb hL hee h1 h2 h3 h4
  go_enter Try.func37, Try.ntmps37
  go_wp2
  go_quiet ((first
    | (go_at_call 41; exact quiet_left (unhide (q1 _)))
    | (go_at_call 35; exact quiet_more (unhide (q2 _)))
    | (go_at_call 36; exact quiet_left (unhide (q3 _)))
    | (go_at_call 42; exact quiet_more (unhide (q4 _)))
    | (go_at_call 59; exact quiet_more (unhide (q5 _)))))
  go_wp2
  go_ret
  exact ⟨by first | rfl | simp, ⟨_, _, (unhide HB0).drewN _⟩, (Chg.of_below (unhide HB) (fun i => i = g ∨ i = h)).drewN _⟩

theorem reads_any (w : World) (B g h : Nat) (A : Option Addr) (c : Nat) (A2 : Option Addr) (c2 n : Nat) (bs : List UInt8) (p f : Nat) (b : Both w B g h A c A2 c2 n bs p f) (kd : Int) (o1 o2 : Value) (k : Int) (o4 : Value) (h2 : k ≤ 9223372036854775807) :
    Calls Try.prog 37 #[.pointer (some ⟨g, 0, none⟩), .pointer (some ⟨h, 0, none⟩), .agg #[.int .i64 kd, o1, o2, .int .i64 k, o4]] w (Done w B g h A c A2 c2 n bs) := by
  by_cases h1 : kd = 1
  · subst h1; exact reads_num w B g h A c A2 c2 n bs p f b o1 o2 _ o4
  · by_cases h2' : kd = 2
    · subst h2'; exact reads_int w B g h A c A2 c2 n bs p f b o1 o2 _ o4
    · by_cases h3 : kd = 3
      · subst h3; exact reads_raw w B g h A c A2 c2 n bs p f b o1 o2 k o4 h2
      · by_cases h4 : kd = 4
        · subst h4; exact reads_text w B g h A c A2 c2 n bs p f b o1 o2 k o4 h2
        · exact reads_tell w B g h A c A2 c2 n bs p f b kd o1 o2 _ o4 h1 h2' h3 h4
end Go.Proofs.Ytbofjboebkfjgaa
