/-
  CheckKnown's region with two calls of Parts, whole, in the whole machine. The conditions stand in each theorem.
-/
import Derived.Test.YtoipkpndfgcmcaaRows
import Derived.Deep.RegionHeld3
import Derived.Lib.SlBytesConst
import Derived.Great.BuildSlice
import Derived.KernelRfl
import Derived.Test.YtoipkpndfgcmcaaCheckKnownM00
import Derived.Test.YtoipkpndfgcmcaaCheckKnownM05
import Derived.Test.YtoipkpndfgcmcaaCheckKnownM06
import Derived.Test.YtoipkpndfgcmcaaCheckKnownM07

/-
  CheckStreams: every script of two streams in turns, and of a nil one: the law's walk. Condition: none beyond the form's own reach.
-/
namespace Go.Proofs.Ytoipkpndfgcmcaa
open Go.RowKit


theorem tells_any (g h s : Nat) (l : Int) (w : World) (hg : Blk w g 72 #[.int .u32 (s : Int), .int .i64 l]) (hh : Blk w h 74 #[.int .u32 (s : Int), .int .i64 l]) :
    Calls Try.prog 15 #[.pointer (some ⟨g, 0, none⟩), .pointer (some ⟨h, 0, none⟩)] w fun e w' => e = .returned (.bool true) ∧ w = w' := by
  have a := hide (stSum_any g s l w hg)
  have b := hide (stLen_any g s l w hg)
  have c := hide (rsSum_any h s l w hh)
  have d := hide (rsLen_any h s l w hh)
  clear hg hh
  go_enter Try.func15, Try.ntmps15
  go_wp2_with (first
    | (go_at_call 39; refine (unhide a).mono ?_; rintro e w1 ⟨rfl, rfl⟩)
    | (go_at_call 40; refine (unhide b).mono ?_; rintro e w1 ⟨rfl, rfl⟩)
    | (go_at_call 42; refine (unhide c).mono ?_; rintro e w1 ⟨rfl, rfl⟩)
    | (go_at_call 43; refine (unhide d).mono ?_; rintro e w1 ⟨rfl, rfl⟩))
  go_ret
  exact ⟨rfl, rfl⟩
theorem tells_nil (w : World) :
    Calls Try.prog 15 #[.pointer none, .pointer none] w fun e w' => e = .returned (.bool true) ∧ w = w' := by
  go_enter Try.func15, Try.ntmps15
  go_wp2_with (first
    | (go_at_call 39; refine (stSum_nil w).mono ?_; rintro e w1 ⟨rfl, rfl⟩)
    | (go_at_call 40; refine (stLen_nil w).mono ?_; rintro e w1 ⟨rfl, rfl⟩)
    | (go_at_call 42; refine (rsSum_nil w).mono ?_; rintro e w1 ⟨rfl, rfl⟩)
    | (go_at_call 43; refine (rsLen_nil w).mono ?_; rintro e w1 ⟨rfl, rfl⟩))
  go_ret
  exact ⟨rfl, rfl⟩
theorem num_any (x : Int) (w : World) : Calls Try.prog 19 #[.int .i64 x] w fun e w' => e = .returned (.int .i64 x) ∧ w = w' := by
  go_enter Try.func19, Try.ntmps19
  go_wp2
  go_ret
  exact ⟨rfl, rfl⟩

/-- One step of a script, as it lies in memory. -/
structure OpAt (w : World) (b off : Nat) (who : Int) (tell : Bool) (A : Option Addr) (n c : Nat) (bs : List UInt8) : Prop where
  who : w.cell? ⟨b, off, none⟩ = some (.int .i64 who)
  tell : w.cell? ⟨b, off + 1, none⟩ = some (.bool tell)
  data : w.cell? ⟨b, off + 2, none⟩ = some (.slice A n c)
  lt : b < w.heap.size
  reads : Reads w w.heap.size 1 A n (bs.map bv)
  small : n ≤ 140737488351232

def ptrOf (s0 s1 : Nat) : Nat → Value
  | 0 => .pointer (some ⟨s0, 0, none⟩)
  | 1 => .pointer (some ⟨s1, 0, none⟩)
  | _ + 2 => .pointer none
def codeOf : Nat → Int
  | 0 => 0
  | 1 => 0
  | _ + 2 => 1
def stepS (S : Nat → Nat) (j : Nat) (bs : List UInt8) : Nat → Nat := fun i => if i = j then upd (S i) bs else S i
def stepL (L : Nat → Int) (j : Nat) (n : Nat) : Nat → Int := fun i => if i = j then wrap64 (L i + n) else L i
/-- Two streams and their list. -/
structure SS (w : World) (s0 s1 p : Nat) (S : Nat → Nat) (L : Nat → Int) : Prop where
  b0 : Blk w s0 72 #[.int .u32 (S 0 : Int), .int .i64 (L 0)]
  b1 : Blk w s1 72 #[.int .u32 (S 1 : Int), .int .i64 (L 1)]
  bp : Blk w p 23 #[.pointer (some ⟨s0, 0, none⟩), .pointer (some ⟨s1, 0, none⟩), .pointer none]
  lt0 : S 0 < U32
  lt1 : S 1 < U32
  ne : s0 ≠ s1
  nep0 : s0 ≠ p
  nep1 : s1 ≠ p
theorem SS.chg {w w' : World} {s0 s1 p : Nat} {S : Nat → Nat} {L : Nat → Int} {T : Nat → Prop} (h : SS w s0 s1 p S L) (c : Chg w w' T) (h0 : ¬ T s0) (h1 : ¬ T s1) (hp : ¬ T p) : SS w' s0 s1 p S L :=
  ⟨c.blk h.b0 h0, c.blk h.b1 h1, c.blk h.bp hp, h.lt0, h.lt1, h.ne, h.nep0, h.nep1⟩
theorem SS.bel {w w' : World} {s0 s1 p : Nat} {S : Nat → Nat} {L : Nat → Int} (h : SS w s0 s1 p S L) (c : Below w.heap.size w w') : SS w' s0 s1 p S L :=
  h.chg (Chg.of_below c (fun _ => False)) id id id
theorem stWrite_j {w : World} {s0 s1 p : Nat} {S : Nat → Nat} {L : Nat → Int} (j : Nat) (hs : SS w s0 s1 p S L) (bs : List UInt8) (A : Option Addr) (n c B : Nat) (hr : Reads w B 1 A n (bs.map bv)) (hn : n ≤ 140737488355328) (hB : B ≤ w.heap.size) :
    Calls Try.prog 18 #[ptrOf s0 s1 j, .slice A n c] w fun e w' => e = .returned (.int .i64 (codeOf j)) ∧ SS w' s0 s1 p (stepS S j bs) (stepL L j n) ∧ Chg w w' (fun i => i = s0 ∨ i = s1) := by
  match j with
  | 0 =>
    refine (stWrite_any s0 (S 0) (L 0) bs A n c B w hs.lt0 hs.b0 hr hn hB).mono fun e w' h => ⟨h.1, ⟨?_, ?_, ?_, ?_, ?_, hs.ne, hs.nep0, hs.nep1⟩, h.2.2.more fun i hi => .inl hi⟩
    · exact h.2.1
    · exact h.2.2.blk hs.b1 (fun e => hs.ne e.symm)
    · exact h.2.2.blk hs.bp (fun e => hs.nep0 e.symm)
    · exact upd_lt hs.lt0 bs
    · exact hs.lt1
  | 1 =>
    refine (stWrite_any s1 (S 1) (L 1) bs A n c B w hs.lt1 hs.b1 hr hn hB).mono fun e w' h => ⟨h.1, ⟨?_, ?_, ?_, ?_, ?_, hs.ne, hs.nep0, hs.nep1⟩, h.2.2.more fun i hi => .inr hi⟩
    · exact h.2.2.blk hs.b0 (fun e => hs.ne e)
    · exact h.2.1
    · exact h.2.2.blk hs.bp (fun e => hs.nep1 e.symm)
    · exact hs.lt0
    · exact upd_lt hs.lt1 bs
  | _ + 2 =>
    refine (stWrite_nil A n c w).mono fun e w' h => ⟨h.1, ?_, ?_⟩
    · rw [← h.2]; exact ⟨hs.b0, hs.b1, hs.bp, hs.lt0, hs.lt1, hs.ne, hs.nep0, hs.nep1⟩
    · rw [← h.2]; exact Chg.refl _ _
theorem SS.at_ {w : World} {s0 s1 p : Nat} {S : Nat → Nat} {L : Nat → Int} (hs : SS w s0 s1 p S L) {j : Nat} (hj : j ≤ 2) : w.cell? ⟨p, j, none⟩ = some (ptrOf s0 s1 j) := by
  rw [hs.bp.cell]
  match j, hj with
  | 0, _ => rfl
  | 1, _ => rfl
  | 2, _ => rfl
/-- Two streams and their list. -/
structure RR (w : World) (s0 s1 p : Nat) (S : Nat → Nat) (L : Nat → Int) : Prop where
  b0 : Blk w s0 74 #[.int .u32 (S 0 : Int), .int .i64 (L 0)]
  b1 : Blk w s1 74 #[.int .u32 (S 1 : Int), .int .i64 (L 1)]
  bp : Blk w p 26 #[.pointer (some ⟨s0, 0, none⟩), .pointer (some ⟨s1, 0, none⟩), .pointer none]
  lt0 : S 0 < U32
  lt1 : S 1 < U32
  ne : s0 ≠ s1
  nep0 : s0 ≠ p
  nep1 : s1 ≠ p
theorem RR.chg {w w' : World} {s0 s1 p : Nat} {S : Nat → Nat} {L : Nat → Int} {T : Nat → Prop} (h : RR w s0 s1 p S L) (c : Chg w w' T) (h0 : ¬ T s0) (h1 : ¬ T s1) (hp : ¬ T p) : RR w' s0 s1 p S L :=
  ⟨c.blk h.b0 h0, c.blk h.b1 h1, c.blk h.bp hp, h.lt0, h.lt1, h.ne, h.nep0, h.nep1⟩
theorem RR.bel {w w' : World} {s0 s1 p : Nat} {S : Nat → Nat} {L : Nat → Int} (h : RR w s0 s1 p S L) (c : Below w.heap.size w w') : RR w' s0 s1 p S L :=
  h.chg (Chg.of_below c (fun _ => False)) id id id
theorem rsWrite_j {w : World} {s0 s1 p : Nat} {S : Nat → Nat} {L : Nat → Int} (j : Nat) (hs : RR w s0 s1 p S L) (bs : List UInt8) (A : Option Addr) (n c B : Nat) (hr : Reads w B 1 A n (bs.map bv)) (hn : n ≤ 140737488355328) (hB : B ≤ w.heap.size) :
    Calls Try.prog 17 #[ptrOf s0 s1 j, .slice A n c] w fun e w' => e = .returned (.int .i64 (codeOf j)) ∧ RR w' s0 s1 p (stepS S j bs) (stepL L j n) ∧ Chg w w' (fun i => i = s0 ∨ i = s1) := by
  match j with
  | 0 =>
    refine (rsWrite_any s0 (S 0) (L 0) bs A n c B w hs.lt0 hs.b0 hr hn hB).mono fun e w' h => ⟨h.1, ⟨?_, ?_, ?_, ?_, ?_, hs.ne, hs.nep0, hs.nep1⟩, h.2.2.more fun i hi => .inl hi⟩
    · exact h.2.1
    · exact h.2.2.blk hs.b1 (fun e => hs.ne e.symm)
    · exact h.2.2.blk hs.bp (fun e => hs.nep0 e.symm)
    · exact upd_lt hs.lt0 bs
    · exact hs.lt1
  | 1 =>
    refine (rsWrite_any s1 (S 1) (L 1) bs A n c B w hs.lt1 hs.b1 hr hn hB).mono fun e w' h => ⟨h.1, ⟨?_, ?_, ?_, ?_, ?_, hs.ne, hs.nep0, hs.nep1⟩, h.2.2.more fun i hi => .inr hi⟩
    · exact h.2.2.blk hs.b0 (fun e => hs.ne e)
    · exact h.2.1
    · exact h.2.2.blk hs.bp (fun e => hs.nep1 e.symm)
    · exact hs.lt0
    · exact upd_lt hs.lt1 bs
  | _ + 2 =>
    refine (rsWrite_nil A n c w).mono fun e w' h => ⟨h.1, ?_, ?_⟩
    · rw [← h.2]; exact ⟨hs.b0, hs.b1, hs.bp, hs.lt0, hs.lt1, hs.ne, hs.nep0, hs.nep1⟩
    · rw [← h.2]; exact Chg.refl _ _
theorem RR.at_ {w : World} {s0 s1 p : Nat} {S : Nat → Nat} {L : Nat → Int} (hs : RR w s0 s1 p S L) {j : Nat} (hj : j ≤ 2) : w.cell? ⟨p, j, none⟩ = some (ptrOf s0 s1 j) := by
  rw [hs.bp.cell]
  match j, hj with
  | 0, _ => rfl
  | 1, _ => rfl
  | 2, _ => rfl

theorem tells_j {w : World} {s0 s1 p r0 r1 q : Nat} {S : Nat → Nat} {L : Nat → Int} (j : Nat) (hs : SS w s0 s1 p S L) (hr : RR w r0 r1 q S L) :
    Calls Try.prog 15 #[ptrOf s0 s1 j, ptrOf r0 r1 j] w fun e w' => e = .returned (.bool true) ∧ w = w' := by
  match j with
  | 0 => exact tells_any _ _ _ _ _ hs.b0 hr.b0
  | 1 => exact tells_any _ _ _ _ _ hs.b1 hr.b1
  | _ + 2 => exact tells_nil _
theorem two_start (w : World) : ∃ w0, w0 = (((((w.alloc (.cells #[.int .u32 0, .int .i64 0] 72)).alloc (.cells #[.int .u32 0, .int .i64 0] 72)).alloc
      (.cells #[.pointer (some ⟨w.heap.size, 0, none⟩), .pointer (some ⟨w.heap.size + 1, 0, none⟩), .pointer none] 23)).alloc (.cells #[.int .u32 0, .int .i64 0] 74)).alloc (.cells #[.int .u32 0, .int .i64 0] 74)).alloc
      (.cells #[.pointer (some ⟨w.heap.size + 1 + 1 + 1, 0, none⟩), .pointer (some ⟨w.heap.size + 1 + 1 + 1 + 1, 0, none⟩), .pointer none] 26) ∧
    SS w0 w.heap.size (w.heap.size + 1) (w.heap.size + 1 + 1) (fun _ => 0) (fun _ => 0) ∧ RR w0 (w.heap.size + 1 + 1 + 1) (w.heap.size + 1 + 1 + 1 + 1) (w.heap.size + 1 + 1 + 1 + 1 + 1) (fun _ => 0) (fun _ => 0) ∧ Below w.heap.size w w0 := by
  have nb : ∀ (w : World) (g : Nat) (hg : w.heap.size = g) (t : TypeId) (cs : Array Value), Blk (w.alloc (.cells cs t)) g t cs := fun w g hg t cs => by subst hg; exact Blk.new w t cs
  refine ⟨_, rfl, ⟨?_, ?_, ?_, by decide, by decide, by omega, by omega, by omega⟩, ⟨?_, ?_, ?_, by decide, by decide, by omega, by omega, by omega⟩, ?_⟩
  · exact (((((nb _ _ rfl _ _).alloc _).alloc _).alloc _).alloc _).alloc _
  · exact ((((nb _ _ (by simp) _ _).alloc _).alloc _).alloc _).alloc _
  · exact (((nb _ _ (by simp) _ _).alloc _).alloc _).alloc _
  · exact ((nb _ _ (by simp) _ _).alloc _).alloc _
  · exact (nb _ _ (by simp) _ _).alloc _
  · exact nb _ _ (by simp) _ _
  · exact ((((((Below.refl _ _).alloc (Nat.le_refl _) _).alloc (by simp) _).alloc (by simp; omega) _).alloc (by simp; omega) _).alloc (by simp; omega) _).alloc (by simp; omega) _

set_option maxRecDepth 100000 in
set_option maxHeartbeats 2000000 in
theorem checkStreams_walk (A : Option Addr) (n c : Nat) (w : World) (hn : n ≤ 140737488351232)
    (hs : ∀ k, k < n → ∃ b off who tell A' n' c' bs, A = some ⟨b, off, none⟩ ∧ OpAt w b (off + k * 3) who tell A' n' c' bs) :
    Calls Try.prog 3 #[.slice A n c] w fun e w' => e = .returned (.bool true) ∧ Below w.heap.size w w' := by
  have HS := hide hs
  clear hs
  go_enter Try.func3, Try.ntmps3
  go_wp2_with (first
    | (go_at_call 13; refine (new_any _).mono ?_; rintro e w1 ⟨rfl, rfl⟩)
    | (go_at_call 14; refine (refNew_any _).mono ?_; rintro e w1 ⟨rfl, rfl⟩))
  obtain ⟨w0, hw0, h2, h3, hb0⟩ := two_start w
  rw [← hw0]
  have m1 : w.heap.size ≤ w.heap.size + 1 := by omega
  have m2 : w.heap.size ≤ w.heap.size + 1 + 1 + 1 := by omega
  have m3 : w.heap.size ≤ w.heap.size + 1 + 1 + 1 + 1 := by omega
  generalize w.heap.size + 1 + 1 + 1 + 1 + 1 = q0 at h2 h3 ⊢
  generalize w.heap.size + 1 + 1 + 1 + 1 = r1 at h2 h3 m3 ⊢
  generalize w.heap.size + 1 + 1 + 1 = r0 at h2 h3 m2 ⊢
  generalize w.heap.size + 1 + 1 = p0 at h2 h3 ⊢
  generalize w.heap.size + 1 = s1 at h2 h3 m1 ⊢
  have HB0 := hide hb0
  clear hw0 hb0
  go_loopg [5] n (fun g i wr => ∃ (k : Nat) (S : Nat → Nat) (L : Nat → Int), k + g = n ∧ i = .int .i64 (k : Int) ∧ SS wr w.heap.size s1 p0 S L ∧ RR wr r0 r1 q0 S L ∧ Below w.heap.size w wr)
  case atStart => exact ⟨0, _, _, by omega, rfl, h2, h3, unhide HB0⟩
  case round =>
    obtain ⟨k, S, L, hk, rfl, ht, hu, hb⟩ := hrel
    clear h2 h3 HB0
    by_cases hlt : k < n
    · obtain ⟨g, rfl⟩ : ∃ g, gk = g + 1 := ⟨gk - 1, by omega⟩
      obtain ⟨b, off, who, tell, A1, n1, c1, bs, rfl, ho⟩ := (unhide HS) k hlt
      have o1 : wr.cell? ⟨b, off + k * 3, none⟩ = some (.int .i64 who) := (hb.cell (p := ⟨b, off + k * 3, none⟩) ho.lt).trans ho.who
      have o2 : wr.cell? ⟨b, off + k * 3 + 1, none⟩ = some (.bool tell) := (hb.cell (p := ⟨b, off + k * 3 + 1, none⟩) ho.lt).trans ho.tell
      have o3 : wr.cell? ⟨b, off + k * 3 + 2, none⟩ = some (.slice A1 n1 c1) := (hb.cell (p := ⟨b, off + k * 3 + 2, none⟩) ho.lt).trans ho.data
      have hz := hb.size
      have HO := hide ho
      clear ho
      by_cases hw : 0 ≤ who ∧ who ≤ 2
      · obtain ⟨j, rfl⟩ := Int.eq_ofNat_of_zero_le hw.1
        have hj : j ≤ 2 := by omega
        have hj0 : ¬ ((j : Int) < 0) := by omega
        have hj1 : (j : Int) ≤ 2 := by omega
        obtain ⟨sp, hsp⟩ : ∃ sp, ptrOf w.heap.size s1 j = sp := ⟨_, rfl⟩
        obtain ⟨rp, hrp⟩ : ∃ rp, ptrOf r0 r1 j = rp := ⟨_, rfl⟩
        have P1 := fun W (h : SS W w.heap.size s1 p0 S L) => hide (hsp ▸ h.at_ hj)
        have Q1 := fun W (h : RR W r0 r1 q0 S L) => hide (hrp ▸ h.at_ hj)
        cases tell with
        | true =>
          have hT : ∀ o nq, Hid (Calls Try.prog 15 #[sp, rp] ((wr.alloc o).drewN nq) fun e w' => e = .returned (.bool true) ∧ (wr.alloc o).drewN nq = w') := fun o nq => by
            rw [← hsp, ← hrp]
            exact hide (tells_j (w := (wr.alloc o).drewN nq) j (ht.bel (below_drewN ((Below.refl _ _).alloc (Nat.le_refl _) o) nq)) (hu.bel (below_drewN ((Below.refl _ _).alloc (Nat.le_refl _) o) nq)))
          have hp : ∀ o, (wr.alloc o).cell? ⟨p0, j, none⟩ = some sp := fun o => unhide (P1 _ (ht.bel ((Below.refl _ _).alloc (Nat.le_refl _) o)))
          have hq : ∀ o, (wr.alloc o).cell? ⟨q0, j, none⟩ = some rp := fun o => unhide (Q1 _ (hu.bel ((Below.refl _ _).alloc (Nat.le_refl _) o)))
          have HT := hide ht
          have HU := hide hu
          have HB := hide hb
          clear ht hu hb P1 Q1 hsp hrp HS
          go_wp2
          go_quiet ((go_at_call 15; exact quiet_left (unhide (hT _ _))))
          go_wp2
          go_roundg g
          case rel => exact ⟨k + 1, S, L, by omega, by go_num, (unhide HT).bel (below_drewN ((Below.refl _ _).alloc (Nat.le_refl _) _) _), (unhide HU).bel (below_drewN ((Below.refl _ _).alloc (Nat.le_refl _) _) _), below_drewN ((unhide HB).alloc hz _) _⟩
          case measure => omega
        | false =>
          have hnext : SS wr w.heap.size s1 p0 S L ∧ RR wr r0 r1 q0 S L ∧ Below w.heap.size w wr := ⟨ht, hu, hb⟩
          have HN := hide hnext
          have P2 := hide P1
          have Q2 := hide Q1
          have HSP := Lib.hid hsp
          have HRP := Lib.hid hrp
          clear ht hu hb hnext P1 Q1 hsp hrp
          go_wp2_with fail
          obtain ⟨W, hW⟩ : ∃ W, W = wr.alloc (.cells #[.int .i64 (j : Int), .bool false, .slice A1 n1 c1] 31) := ⟨_, rfl⟩
          rw [← hW]
          have hbx : Blk W wr.heap.size 31 #[.int .i64 (j : Int), .bool false, .slice A1 n1 c1] := by rw [hW]; exact Blk.new _ _ _
          have hWb : Below wr.heap.size wr W := by rw [hW]; exact (Below.refl _ _).alloc (Nat.le_refl _) _
          have hWz : W.heap.size = wr.heap.size + 1 := by rw [hW]; simp
          have hRW : Reads W W.heap.size 1 A1 n1 (bs.map bv) := (((unhide HO).reads.below (unhide HN).2.2).more hz).below hWb |>.more hWb.size
          have hsm := (unhide HO).small
          clear hW o1 o2 o3
          refine (lent_any A1 n1 c1 bs W hRW hsm).mono ?_
          rintro e w1 ⟨g2, cap2, rfl, hcap, hg2, hown, hb1⟩
          -- what stands behind lent
          have hS1 := ((unhide HN).1.bel hWb).bel hb1
          have hR1 := ((unhide HN).2.1.bel hWb).bel hb1
          have hx1 := hbx.below hb1 hbx.lt
          have hz1 := hb1.size
          have hRd1 := (hRW.below hb1).more hb1.size
          have q1 := unhide (unhide Q2 w1 hR1)
          have b0 : w1.cell? ⟨wr.heap.size, 0, none⟩ = some (.int .i64 (j : Int)) := hx1.cell 0
          have b2 : w1.cell? ⟨wr.heap.size, 2, none⟩ = some (.slice A1 n1 c1) := hx1.cell 2
          have hWr := hide (rsWrite_j (w := w1.drew) j (hR1.bel (Below.refl _ _).drew) bs A1 n1 c1 w1.heap.size hRd1.drew (by omega) (Nat.le_refl _))
          rw [HRP.out] at hWr
          have K1 : Hid (SS w1 w.heap.size s1 p0 S L ∧ RR w1 r0 r1 q0 S L ∧ Blk w1 wr.heap.size 31 #[.int .i64 (j : Int), .bool false, .slice A1 n1 c1] ∧ Reads w1 w1.heap.size 1 A1 n1 (bs.map bv) ∧ Below wr.heap.size wr w1 ∧
            w1.ownsRow W.heap.size 5 1 (.slice (some ⟨g2, 0, none⟩) (n1 + 5 : Nat) cap2) (n1 + 5) ((bs ++ mk 5).map bv)) := ⟨hS1, hR1, hx1, hRd1, hWb.trans (hb1.mono hWb.size), hown⟩
          clear hS1 hR1 hx1 hRd1 hown hb1 hRW hWb hbx
          have hj2 : (0 : Int) ≤ (j : Int) := by omega
          have hj3 : (j : Int) < 3 := by omega
          go_wp2_with fail
          go_region_held3 (fun w' => w'.cell? ⟨q0, j, none⟩ = some rp ∧ w'.cell? ⟨wr.heap.size, 0, none⟩ = some (.int .i64 (j : Int)) ∧ w'.cell? ⟨wr.heap.size, 2, none⟩ = some (.slice A1 n1 c1)) (first | go_keep) ((first
            | (go_at_call 17
               refine (unhide hWr).mono ?_
               rintro e w2 ⟨rfl, hR2, hc2⟩
               have hr0 := (unhide HN).2.1.b0.lt
               have hr1 := (unhide HN).2.1.b1.lt
               have hx2 : Blk w2 wr.heap.size 31 #[.int .i64 (j : Int), .bool false, .slice A1 n1 c1] := hc2.blk (w := w1.drew) K1.out.2.2.1.drew (by omega)
               have d0 : w2.cell? ⟨wr.heap.size, 0, none⟩ = some (.int .i64 (j : Int)) := hx2.cell 0
               have d2 : w2.cell? ⟨wr.heap.size, 2, none⟩ = some (.slice A1 n1 c1) := hx2.cell 2
               have dq : w2.cell? ⟨q0, j, none⟩ = some rp := by rw [← HRP.out]; exact hR2.at_ hj
               have hs1 := K1.out.1
               have hrr := K1.out.2.1
               have hS2 : SS w2 w.heap.size s1 p0 S L := (hs1.bel (Below.refl _ _).drew).chg hc2 (by
                   rintro (e | e)
                   · exact hs1.b0.ne_ hrr.b0 (by decide) e
                   · exact hs1.b0.ne_ hrr.b1 (by decide) e) (by
                   rintro (e | e)
                   · exact hs1.b1.ne_ hrr.b0 (by decide) e
                   · exact hs1.b1.ne_ hrr.b1 (by decide) e) (by
                   rintro (e | e)
                   · exact hs1.bp.ne_ hrr.b0 (by decide) e
                   · exact hs1.bp.ne_ hrr.b1 (by decide) e)
               have dp : w2.cell? ⟨p0, j, none⟩ = some sp := by rw [← HSP.out]; exact hS2.at_ hj
               have hown2 : w2.ownsRow W.heap.size 5 1 (.slice (some ⟨g2, 0, none⟩) (n1 + 5 : Nat) cap2) (n1 + 5) ((bs ++ mk 5).map bv) := hc2.own (w := w1.drew) K1.out.2.2.2.2.2.drew (by
                   intro i hi e
                   cases hi
                   have e' : g2 = r0 ∨ g2 = r1 := e
                   omega)
               have hlen : bs.length = n1 := by have := (unhide HO).reads.1; simpa using this
               have hWs := hide (stWrite_j j hS2 bs (some ⟨g2, 0, none⟩) n1 cap2 w2.heap.size ((Reads.of_own hown2).front hlen) (by omega) (Nat.le_refl _))
               rw [HSP.out] at hWs
               have K2 : Hid (SS w2 w.heap.size s1 p0 S L ∧ RR w2 r0 r1 q0 (stepS S j bs) (stepL L j n1) ∧ Blk w2 wr.heap.size 31 #[.int .i64 (j : Int), .bool false, .slice A1 n1 c1] ∧
                   w2.ownsRow W.heap.size 5 1 (.slice (some ⟨g2, 0, none⟩) (n1 + 5 : Nat) cap2) (n1 + 5) ((bs ++ mk 5).map bv) ∧ Below w.heap.size w w2 ∧ wr.heap.size + 1 ≤ w2.heap.size) :=
                 ⟨hS2, hR2, hx2, hown2, ((unhide HN).2.2.trans (K1.out.2.2.2.2.1.mono hz)).drew.trans (hc2.below (B := w.heap.size) (w := w1.drew) (Nat.le_trans hz K1.out.2.2.2.2.1.size) (by intro i hi e; omega)), by have := hx2.lt; omega⟩
               clear hc2 hR2 hx2 hs1 hrr hS2 hown2 hlen)))
          go_wp2_with fail
          refine (unhide hWs).mono ?_
          rintro e w3 ⟨rfl, hS3, hc3⟩
          have hs2 := K2.out.1
          have hr2 := K2.out.2.1
          have hlen : bs.length = n1 := by have := (unhide HO).reads.1; simpa using this
          have hR3 : RR w3 r0 r1 q0 (stepS S j bs) (stepL L j n1) := hr2.chg hc3 (by
                   rintro (e | e)
                   · exact hr2.b0.ne_ hs2.b0 (by decide) e
                   · exact hr2.b0.ne_ hs2.b1 (by decide) e) (by
                   rintro (e | e)
                   · exact hr2.b1.ne_ hs2.b0 (by decide) e
                   · exact hr2.b1.ne_ hs2.b1 (by decide) e) (by
                   rintro (e | e)
                   · exact hr2.bp.ne_ hs2.b0 (by decide) e
                   · exact hr2.bp.ne_ hs2.b1 (by decide) e)
          have hss0 := (unhide HN).1.b0.lt
          have hss1 := (unhide HN).1.b1.lt
          have hss2 := (unhide HN).1.bp.lt
          have hss3 := (unhide HN).2.1.b0.lt
          have hss4 := (unhide HN).2.1.b1.lt
          have hss5 := (unhide HN).2.1.bp.lt
          have hx3 : Blk w3 wr.heap.size 31 #[.int .i64 (j : Int), .bool false, .slice A1 n1 c1] := hc3.blk K2.out.2.2.1 (by omega)
          have hown3 : w3.ownsRow W.heap.size 5 1 (.slice (some ⟨g2, 0, none⟩) (n1 + 5 : Nat) cap2) (n1 + 5) ((bs ++ mk 5).map bv) := hc3.own K2.out.2.2.2.1 (by
                   intro i hi e
                   cases hi
                   have e' : g2 = w.heap.size ∨ g2 = s1 := e
                   omega)
          have hb3 : Below w.heap.size w w3 := K2.out.2.2.2.2.1.trans (hc3.below (B := w.heap.size) K2.out.2.2.2.2.1.size (by intro i hi e; omega))
          have c2 : w3.cell? ⟨wr.heap.size, 2, none⟩ = some (.slice A1 n1 c1) := hx3.cell 2
          have hK := hide (kept_any A1 g2 n1 cap2 n1 c1 w3.heap.size bs bs w3 hlen hcap (Reads.of_own hown3) (((unhide HO).reads.below hb3).more hb3.size) (by omega) (Nat.le_refl _))
          rw [show (bs == bs) = true by simp] at hK
          have hz3 : wr.heap.size + 1 ≤ w3.heap.size := Nat.le_trans K2.out.2.2.2.2.2 hc3.size
          have K3 : Hid (SS w3 w.heap.size s1 p0 (stepS S j bs) (stepL L j n1) ∧ RR w3 r0 r1 q0 (stepS S j bs) (stepL L j n1) ∧ w3.ownsRow W.heap.size 5 1 (.slice (some ⟨g2, 0, none⟩) (n1 + 5 : Nat) cap2) (n1 + 5) ((bs ++ mk 5).map bv) ∧ Below w.heap.size w w3) := ⟨hS3, hR3, hown3, hb3⟩
          clear hS3 hR3 hown3 hb3 hx3 hs2 hr2 hc3 K2 K1 hWr hWs HN P2 Q2
          go_wp2_with (first
            | (go_at_call 19; refine (num_any _ _).mono ?_; rintro e w4 ⟨rfl, rfl⟩)
            | (go_at_call 20; refine (unhide hK).mono ?_; rintro e w4 ⟨rfl, hb4⟩))
          have K4 : Hid (SS w4 w.heap.size s1 p0 (stepS S j bs) (stepL L j n1) ∧ RR w4 r0 r1 q0 (stepS S j bs) (stepL L j n1) ∧ Below w.heap.size w w4) := ⟨K3.out.1.bel hb4, K3.out.2.1.bel hb4, K3.out.2.2.2.trans (hb4.mono K3.out.2.2.2.size)⟩
          have hown4 : w4.ownsRow W.heap.size 5 1 (.slice (some ⟨g2, 0, none⟩) (n1 + 5 : Nat) cap2) (n1 + 5) ((bs ++ mk 5).map bv) := (Chg.of_below hb4 (fun _ => False)).own K3.out.2.2.1 (fun _ _ h => h)
          have hlb : (bs ++ mk 5).length = n1 + 5 := by simp [hlen, mk_len]
          clear K3 hb4 hK HS HO
          obtain ⟨wo, rfl⟩ : ∃ wo : World, wo = wr := ⟨_, rfl⟩
          go_loopg [10] n1 (fun q i wx => ∃ (m : Nat) (zs : List UInt8), m + q = n1 ∧ i = .int .i64 (m : Int) ∧ zs.length = n1 + 5 ∧ wx.ownsRow W.heap.size 5 1 (.slice (some ⟨g2, 0, none⟩) (n1 + 5 : Nat) cap2) (n1 + 5) (zs.map bv) ∧ w4.grownBy wx (some g2))
          case atStart => exact ⟨0, bs ++ mk 5, by omega, rfl, hlb, hown4, World.grownBy.refl _ _⟩
          case round =>
            obtain ⟨m, zs, hm, rfl, hzl, hoz, hgz⟩ := hrel
            clear hown4 hlb
            by_cases hmn : m < n1
            · obtain ⟨q, rfl⟩ : ∃ q, gk = q + 1 := ⟨gk - 1, by omega⟩
              obtain ⟨d, hd⟩ : ∃ d, zs[m]? = some d := ⟨_, List.getElem?_eq_getElem (by omega)⟩
              have hcz : wr.cell? ⟨g2, m, none⟩ = some (.int .u8 (d.toNat : Int)) := by rw [hoz.cellAt m (by omega), List.getElem?_map, hd]; rfl
              have hfz : wr.frozen? ⟨g2, m, none⟩ = false := hoz.frozenAt m
              have HZ := hide (hoz.stored m (.int .u8 (((d.toNat : Int) + 1) % 256)))
              have HX : Hid ((zs.map bv).set m (.int .u8 (((d.toNat : Int) + 1) % 256)) = (zs.set m (UInt8.ofNat ((d.toNat + 1) % 256))).map bv) := by
                show _ = _
                rw [show ((d.toNat : Int) + 1) % 256 = (((d.toNat + 1) % 256 : Nat) : Int) by omega, bv_nat _ (by omega), ← List.map_set]
              have HG := hide hgz
              clear hoz hgz hd
              go_wp2
              go_roundg q
              case rel => exact ⟨m + 1, zs.set m (UInt8.ofNat ((d.toNat + 1) % 256)), by omega, by go_num, by simpa using hzl, by rw [← HX.out]; exact (unhide HZ).1, grownBy_trans (unhide HG) (unhide HZ).2 (.inl rfl)⟩
              case measure => omega
            · have HG := hide hgz
              clear hoz hgz
              go_wp2
              go_roundg g
              case rel =>
                have hg := Chg.of_grown (unhide HG)
                have a1 := K4.out.1.b0.lt
                have hgw : w.heap.size ≤ g2 := by omega
                refine ⟨k + 1, stepS S j bs, stepL L j n1, by omega, by go_num, K4.out.1.chg hg ?_ ?_ ?_, K4.out.2.1.chg hg ?_ ?_ ?_, K4.out.2.2.grown (unhide HG) K4.out.2.2.size (fun _ hi => by cases hi; exact hgw)⟩
                all_goals (intro e; injection e with e; omega)
              case measure => omega
      · have HT := hide ht
        have HU := hide hu
        have HB := hide hb
        clear ht hu hb HS
        have hw' : who < 0 ∨ 2 < who := by omega
        clear hw
        rcases hw' with hw | hw
        all_goals
          go_wp2
          go_roundg g
          case rel => exact ⟨k + 1, S, L, by omega, by go_num, (unhide HT).bel ((Below.refl _ _).alloc (Nat.le_refl _) _), (unhide HU).bel ((Below.refl _ _).alloc (Nat.le_refl _) _), (unhide HB).alloc hz _⟩
          case measure => omega
    · have p_ : ∀ j, j ≤ 2 → wr.cell? ⟨p0, j, none⟩ = some (ptrOf w.heap.size s1 j) := fun j hj => ht.at_ hj
      have q_ : ∀ j, j ≤ 2 → wr.cell? ⟨q0, j, none⟩ = some (ptrOf r0 r1 j) := fun j hj => hu.at_ hj
      have e0 : wr.cell? ⟨p0, 0, none⟩ = some (.pointer (some ⟨w.heap.size, 0, none⟩)) := p_ 0 (by omega)
      have e1 : wr.cell? ⟨p0, 1, none⟩ = some (.pointer (some ⟨s1, 0, none⟩)) := p_ 1 (by omega)
      have e2 : wr.cell? ⟨p0, 2, none⟩ = some (.pointer none) := p_ 2 (by omega)
      have f0 : wr.cell? ⟨q0, 0, none⟩ = some (.pointer (some ⟨r0, 0, none⟩)) := q_ 0 (by omega)
      have f1 : wr.cell? ⟨q0, 1, none⟩ = some (.pointer (some ⟨r1, 0, none⟩)) := q_ 1 (by omega)
      have f2 : wr.cell? ⟨q0, 2, none⟩ = some (.pointer none) := q_ 2 (by omega)
      have T0 := fun m => hide (tells_any _ _ _ _ _ (ht.b0.drewN m) (hu.b0.drewN m))
      have T1 := fun m => hide (tells_any _ _ _ _ _ (ht.b1.drewN m) (hu.b1.drewN m))
      have HB := hide hb
      clear p_ q_ ht hu hb HS
      go_wp2
      go_quiet ((first
        | (go_at_call 15; with_reducible exact quiet_left (unhide (T0 _)))
        | (go_at_call 15; with_reducible exact quiet_left (unhide (T1 _)))
        | (go_at_call 15; with_reducible exact quiet_add_left (unhide (T0 _)))
        | (go_at_call 15; with_reducible exact quiet_add_left (unhide (T1 _)))
        | (go_at_call 15; with_reducible exact quiet_left (tells_nil _))
        | (go_at_call 15; with_reducible exact quiet_add_left (tells_nil _))))
      go_wp2
      go_ret
      exact ⟨rfl, below_drewN (unhide HB) _⟩
end Go.Proofs.Ytoipkpndfgcmcaa

/-
  CheckSums: Sum, Update, Join, Seal and Whole of whatever is handed in are the document's: the law's walk. Condition: fewer than 2^47 bytes.
-/
namespace Go.Proofs.Ytoipkpndfgcmcaa
open Go.RowKit

theorem own_capA {w : World} {B n c N : Nat} {A : Option Addr} {e : TypeId} {xs : List Value} (h : w.ownsRow B e 1 (.slice A n c) N xs) : n ≤ c := by
  rcases h.2 with ⟨h', _⟩ | ⟨g', cap', cur, h', _, _, hn, _⟩
  · cases h'
    exact Nat.le_refl _
  · cases h'
    exact hn

theorem whole_sealed (bs : List UInt8) : whole (sealed bs) = true := by
  have h : (sealed bs).length = bs.length + 4 := by simp [sealed, le4_len]
  rw [whole_long h]
  simp [sealed]

theorem joins (a b : Nat) (k : Int) (ha : a < U32) (hb : b < U32) (_h1 : -9223372036854775808 ≤ k) (h2 : k ≤ 9223372036854775807) :
    ∃ J F : Int, (∀ w, Calls Try.prog 33 #[.int .u32 (a : Int), .int .u32 (b : Int), .int .i64 k] w fun e w' => e = .returned (.tuple #[.int .u32 J, .int .i64 F]) ∧ Below w.heap.size w w')
      ∧ (∀ w, Calls Try.prog 32 #[.int .u32 (a : Int), .int .u32 (b : Int), .int .i64 k] w fun e w' => e = .returned (.tuple #[.int .u32 J, .int .i64 F]) ∧ Below w.heap.size w w') := by
  by_cases hk : k < 0
  · exact ⟨0, 2, fun w => (join_neg a b k w hk).mono (by rintro e w' ⟨rfl, rfl⟩; exact ⟨rfl, Below.refl _ _⟩), fun w => (refJoin_neg a b k w hk).mono (by rintro e w' ⟨rfl, rfl⟩; exact ⟨rfl, Below.refl _ _⟩)⟩
  · obtain ⟨m, rfl⟩ := Int.eq_ofNat_of_zero_le (by omega : 0 ≤ k)
    exact ⟨_, _, fun w => join_any a b m w ha hb (by omega), fun w => refJoin_any a b m w ha hb (by omega)⟩

set_option maxRecDepth 100000 in
set_option maxHeartbeats 1600000 in
theorem checkSums_walk (A : Option Addr) (n c : Nat) (bs : List UInt8) (a : Nat) (k : Int) (w : World) (hr : Reads w w.heap.size 1 A n (bs.map bv)) (hn : n ≤ 140737488351232) (hnc : n ≤ c) (ha : a < U32) (h1 : -9223372036854775808 ≤ k) (h2 : k ≤ 9223372036854775807) :
    Calls Try.prog 5 #[.slice A n c, .int .u32 (a : Int), .int .i64 k] w fun e w' => e = .returned (.bool true) ∧ Below w.heap.size w w' := by
  have hlen : bs.length = n := by have := hr.1; simpa using this
  have hL := hide (lent_any A n c bs w hr hn)
  obtain ⟨J, F, hj, hj'⟩ := joins a (upd 0 bs) k ha (upd_lt (by decide) _) h1 h2
  have HJ := fun w => hide (hj w)
  have HJ' := fun w => hide (hj' w)
  clear hj hj' h1 h2
  have HNum := fun x w => hide (num_any x w)
  have HR := hide hr
  clear hr
  go_enter Try.func5, Try.ntmps5
  go_wp2_with (go_at_call 16; refine (unhide hL).mono ?_; rintro e w1 ⟨g, cap, rfl, hcap, hg, hown, hb1⟩)
  obtain ⟨z, hz⟩ : ∃ z, upd 0 bs = z := ⟨_, rfl⟩
  obtain ⟨y, hy⟩ : ∃ y, upd a bs = y := ⟨_, rfl⟩
  obtain ⟨wb, hwb⟩ : ∃ b, whole bs = b := ⟨_, rfl⟩
  obtain ⟨sl, hsl⟩ : ∃ b, sealed bs = b := ⟨_, rfl⟩
  have hsll : sl.length = n + 4 := by rw [← hsl, ← hlen]; simp [sealed, le4_len]
  have hws : whole sl = true := by rw [← hsl]; exact whole_sealed bs
  have r1 := (unhide HR).below hb1
  have r2 := Reads.of_own hown
  have s1 := hb1.size
  have hgl : g < w1.heap.size := by
    obtain ⟨ad, e, hb, _⟩ := r2.2 (by omega)
    injection e with e
    subst e
    exact hb
  have hin : ∀ w', Below w1.heap.size w1 w' → Reads w' w1.heap.size 1 (some ⟨g, 0, none⟩) (n + 5) ((bs ++ mk 5).map bv) := fun w' h => r2.below h
  have hbb : ∀ w', Below w1.heap.size w1 w' → Reads w' w.heap.size 1 A n (bs.map bv) := fun w' h => r1.below (h.mono s1)
  have cSum : ∀ w', Below w1.heap.size w1 w' → Hid (Calls Try.prog 24 #[.slice (some ⟨g, 0, none⟩) n cap] w' fun e w2 => e = .returned (.int .u32 (z : Int)) ∧ Below w1.heap.size w1 w2) := fun w' h => hide <| by
    rw [← hz]; exact (sum_any bs _ n cap w1.heap.size w' ((hin w' h).front hlen) (by omega) h.size).mono fun e w2 ⟨he, hb⟩ => ⟨he, h.trans (hb.mono h.size)⟩
  have cUpd : ∀ w', Below w1.heap.size w1 w' → Hid (Calls Try.prog 26 #[.int .u32 (a : Int), .slice (some ⟨g, 0, none⟩) n cap] w' fun e w2 => e = .returned (.int .u32 (y : Int)) ∧ Below w1.heap.size w1 w2) := fun w' h => hide <| by
    rw [← hy]; exact (update_any a bs _ n cap w1.heap.size w' ha ((hin w' h).front hlen) (by omega) h.size).mono fun e w2 ⟨he, hb⟩ => ⟨he, h.trans (hb.mono h.size)⟩
  have cWh : ∀ w', Below w1.heap.size w1 w' → Hid (Calls Try.prog 28 #[.slice (some ⟨g, 0, none⟩) n cap] w' fun e w2 => e = .returned (.bool wb) ∧ Below w1.heap.size w1 w2) := fun w' h => hide <| by
    rw [← hwb]; exact (whole_any _ n cap w1.heap.size bs w' ((hin w' h).front hlen) (by omega) h.size (by omega)).mono fun e w2 ⟨he, hb⟩ => ⟨he, h.trans (hb.mono h.size)⟩
  have cSeal : ∀ w', Below w1.heap.size w1 w' → Hid (Calls Try.prog 30 #[.slice (some ⟨g, 0, none⟩) n cap] w' fun e w2 => ∃ v, e = .returned v ∧ w2.ownsRow w'.heap.size 5 1 v (n + 4) (sl.map bv) ∧ Below w1.heap.size w1 w2 ∧ Below w'.heap.size w' w2) := fun w' h => hide <| by
    rw [← hsl]; exact (seal_any _ n cap w1.heap.size bs w' ((hin w' h).front hlen) (by omega) h.size).mono fun e w2 ⟨v, he, ho, hb⟩ => ⟨v, he, ho, h.trans (hb.mono h.size), hb⟩
  have rSum : ∀ w', Below w1.heap.size w1 w' → Hid (Calls Try.prog 25 #[.slice A n c] w' fun e w2 => e = .returned (.int .u32 (z : Int)) ∧ w' = w2) := fun w' h => hide <| by
    rw [← hz]; exact refSum_any bs _ n c w.heap.size w' (hbb w' h) (by omega)
  have rUpd : ∀ w', Below w1.heap.size w1 w' → Hid (Calls Try.prog 27 #[.int .u32 (a : Int), .slice A n c] w' fun e w2 => e = .returned (.int .u32 (y : Int)) ∧ w' = w2) := fun w' h => hide <| by
    rw [← hy]; exact refUpdate_any a bs _ n c w.heap.size w' ha (hbb w' h) (by omega)
  have rWh : ∀ w', Below w1.heap.size w1 w' → Hid (Calls Try.prog 29 #[.slice A n c] w' fun e w2 => e = .returned (.bool wb) ∧ Below w1.heap.size w1 w2) := fun w' h => hide <| by
    rw [← hwb]; exact (refWhole_any _ n c w.heap.size bs w' (hbb w' h) (by omega) (Nat.le_trans s1 h.size) hnc).mono fun e w2 ⟨he, hb⟩ => ⟨he, h.trans (hb.mono h.size)⟩
  have rSeal : ∀ w', Below w1.heap.size w1 w' → Hid (Calls Try.prog 31 #[.slice A n c] w' fun e w2 => ∃ v, e = .returned v ∧ w2.ownsRow w'.heap.size 5 1 v (n + 4) (sl.map bv) ∧ Below w1.heap.size w1 w2 ∧ Below w'.heap.size w' w2) := fun w' h => hide <| by
    rw [← hsl]; exact (refSeal_any _ n c w.heap.size bs w' (hbb w' h) (by omega) (Nat.le_trans s1 h.size)).mono fun e w2 ⟨v, he, ho, hb⟩ => ⟨v, he, ho, h.trans (hb.mono h.size), hb⟩
  have cKept : ∀ w', Below w1.heap.size w1 w' → Hid (Calls Try.prog 20 #[.slice (some ⟨g, 0, none⟩) n cap, .slice A n c] w' fun e w2 => e = .returned (.bool true) ∧ Below w1.heap.size w1 w2) := fun w' h => hide <| by
    refine (kept_any A g n cap n c w1.heap.size bs bs w' hlen hcap (hin w' h) ((hbb w' h).more s1) (by omega) h.size).mono fun e w2 ⟨he, hb⟩ => ⟨?_, h.trans (hb.mono h.size)⟩
    rw [he]; simp
  have HB0 : Hid (Below w1.heap.size w1 w1) := hide (Below.refl _ _)
  have Hb1 := hide hb1
  rw [hz] at HJ HJ'
  clear r1 r2 hown hb1 hin hbb hsl hz hy hwb hL HR
  go_wp2_with (go_at_call 24; refine (unhide (cSum _ (unhide HB0))).mono ?_; rintro e w2 ⟨rfl, hb2⟩)
  have HB2 := hide hb2
  clear hb2
  go_wp2_with (go_at_call 25; refine (unhide (rSum _ (unhide HB2))).mono ?_; rintro e w3 ⟨rfl, rfl⟩)
  go_wp2_with (go_at_call 26; refine (unhide (cUpd _ (unhide HB2))).mono ?_; rintro e w3 ⟨rfl, hb3⟩)
  have HB3 := hide hb3
  clear hb3
  go_wp2_with (go_at_call 27; refine (unhide (rUpd _ (unhide HB3))).mono ?_; rintro e w4 ⟨rfl, rfl⟩)
  go_wp2_with (go_at_call 28; refine (unhide (cWh _ (unhide HB3))).mono ?_; rintro e w4 ⟨rfl, hb4⟩)
  have HB4 := hide hb4
  clear hb4
  have hbne : (wb != wb) = false := by simp
  go_wp2_with (go_at_call 29; refine (unhide (rWh _ (unhide HB4))).mono ?_; rintro e w5 ⟨rfl, hb5⟩)
  have HB5 := hide hb5
  clear hb5
  go_wp2_with (go_at_call 30; refine (unhide (cSeal _ (unhide HB5))).mono ?_; rintro e w6 ⟨v6, rfl, ho6, hb6, hc6⟩)
  obtain ⟨A6, c6, rfl⟩ := ho6.shape
  have HB6 := hide hb6
  have HO6 := hide ho6
  clear ho6 hb6 hc6
  go_wp2_with (go_at_call 31; refine (unhide (rSeal _ (unhide HB6))).mono ?_; rintro e w7 ⟨v7, rfl, ho7, hb7, hc7⟩)
  obtain ⟨A7, c7, rfl⟩ := ho7.shape
  have q6 := (Reads.of_own (unhide HO6)).below hc7
  have q7 := Reads.of_own ho7
  have hnc6 : n + 4 ≤ c6 := own_capA (unhide HO6)
  have cSame := hide (same_any A6 A7 (n + 4 : Nat) c6 (n + 4 : Nat) c7 sl sl w7 w7.heap.size (q6.more hc7.size) q7 (by omega) (Nat.le_refl _))
  have cW6 := fun w' (h : Below w7.heap.size w7 w') => hide (whole_any A6 (n + 4 : Nat) c6 w6.heap.size sl w' (q6.below (h.mono hc7.size)) (by omega) (Nat.le_trans hc7.size h.size) hnc6)
  rw [show (sl == sl) = true by simp] at cSame
  rw [hws] at cW6
  have HB7 := hide hb7
  clear ho7 hb7 hc7 q6 q7 HO6
  go_wp2_with (go_at_call 23; refine (unhide (cSame)).mono ?_; rintro e w8 ⟨rfl, hb8⟩)
  have HC8 := hide hb8
  have HB8 := hide ((unhide HB7).trans (hb8.mono (unhide HB7).size))
  clear hb8
  go_wp2_with (go_at_call 28; refine (unhide (cW6 _ (unhide HC8))).mono ?_; rintro e w9 ⟨rfl, hb9⟩)
  have HB9 := hide ((unhide HB8).trans (hb9.mono (unhide HB8).size))
  clear hb9
  go_wp2_with (go_at_call 20; refine (unhide (cKept _ (unhide HB9))).mono ?_; rintro e w10 ⟨rfl, hb10⟩)
  have HB10 := hide hb10
  clear hb10
  go_wp2_with (go_at_call 25; refine (unhide (rSum _ (unhide HB10))).mono ?_; rintro e w11 ⟨rfl, rfl⟩)
  go_wp2_with (go_at_call 32; refine (unhide (HJ' _)).mono ?_; rintro e w11 ⟨rfl, hb11⟩)
  have HB11 := hide ((unhide HB10).trans (hb11.mono (unhide HB10).size))
  clear hb11
  go_wp2_with (go_at_call 24; refine (unhide (cSum _ (unhide HB11))).mono ?_; rintro e w12 ⟨rfl, hb12⟩)
  have HB12 := hide hb12
  clear hb12
  go_wp2_with (go_at_call 33; refine (unhide (HJ _)).mono ?_; rintro e w13 ⟨rfl, hb13⟩)
  have HB13 := hide ((unhide HB12).trans (hb13.mono (unhide HB12).size))
  clear hb13
  go_wp2_with (go_at_call 19; refine (unhide (HNum _ _)).mono ?_; rintro e w14 ⟨rfl, rfl⟩)
  go_ret
  exact ⟨rfl, (unhide Hb1).trans ((unhide HB13).mono s1)⟩
end Go.Proofs.Ytoipkpndfgcmcaa

/-
  awake of law 02: the chapter's examples; its walk. Condition: none.
-/
namespace Go.Proofs.Ytoipkpndfgcmcaa
open Go.RowKit

def nineB : List UInt8 := [49, 50, 51, 52, 53, 54, 55, 56, 57]
theorem add0 (b o j : Nat) : (⟨b, o, none⟩ : Addr).add j = ⟨b, o + j, none⟩ := by unfold Addr.add; split <;> simp_all
theorem reads_mark (w : World) (e : TypeId) (cs : Array Value) (fr : Nat × Nat) (n : Nat) (hn : cs.size = n) (xs : List Value) (hx : cs.toList = xs) : Reads (w.alloc (.cells cs e fr)) (w.heap.size + 1) 1 (some ⟨w.heap.size, 0, none⟩) n xs := by
  subst hn hx
  refine ⟨by simp, fun _ => ⟨_, rfl, by simp, fun j u hu => ?_⟩⟩
  have : (⟨w.heap.size, 0, none⟩ : Addr).add j = ⟨w.heap.size, j, none⟩ := by rw [add0, Nat.zero_add]
  rw [this, World.cell?_alloc_mark]
  simpa using hu
set_option maxRecDepth 100000 in
set_option maxHeartbeats 800000 in
theorem nine_any (w : World) : Calls Try.prog 41 #[] w fun e w' => e = .returned (.slice (some ⟨w.heap.size, 0, none⟩) 9 9) ∧ Reads w' (w.heap.size + 1) 1 (some ⟨w.heap.size, 0, none⟩) 9 (nineB.map bv) ∧ Below w.heap.size w w' ∧ w.heap.size + 1 ≤ w'.heap.size := by
  have hc := fun C => Lib.run_convert_bytes_const (P := Try.prog) w 29 5 C 9 9 Try.underlying29 Try.underlying5
  go_enter Try.func41, Try.ntmps41
  go_wp2
  go_ret
  exact ⟨rfl, reads_mark w _ _ _ 9 rfl _ rfl, (Below.refl _ _).alloc (Nat.le_refl _) _, by simp⟩

theorem Reads.after {w : World} {B n k : Nat} {b o : Nat} {xs : List UInt8} (h : Reads w B 1 (some ⟨b, o, none⟩) (k + n) (xs.map bv)) : Reads w B 1 (some ⟨b, o + k, none⟩) n ((xs.drop k).map bv) := by
  refine ⟨by have := h.1; simp at this ⊢; omega, fun hn => ?_⟩
  obtain ⟨ad, e, hb, hc⟩ := h.2 (by omega)
  injection e with e
  subst e
  refine ⟨_, rfl, hb, fun j u hu => ?_⟩
  rw [List.map_drop, List.getElem?_drop] at hu
  have := hc _ _ hu
  rw [add0] at this ⊢
  rw [Nat.add_assoc]
  exact this

theorem nine_join : jn (upd 0 (nineB.take 4)) (upd 0 (nineB.drop 4)) 5 = 3421780262 := by decide +kernel
theorem nine_sum : upd 0 nineB = 3421780262 := by decide +kernel
theorem zero_sum : upd 0 [0] = 3523407757 := by decide +kernel

set_option maxRecDepth 100000 in
set_option maxHeartbeats 800000 in
theorem awake_any (w : World) : Calls Try.prog 34 #[] w fun e w' => e = .returned (.bool true) ∧ Below w.heap.size w w' := by
  have hN := fun w => hide (nine_any w)
  have hNum := fun x w => hide (num_any x w)
  obtain ⟨s1, hs1⟩ : ∃ s, upd 0 (nineB.take 4) = s := ⟨_, rfl⟩
  obtain ⟨s2, hs2⟩ : ∃ s, upd 0 (nineB.drop 4) = s := ⟨_, rfl⟩
  have hl1 : s1 < U32 := hs1 ▸ upd_lt (by decide) _
  have hl2 : s2 < U32 := hs2 ▸ upd_lt (by decide) _
  have hj := nine_join
  rw [hs1, hs2] at hj
  have HJ := Lib.hid hj
  have HS1 := Lib.hid hs1
  have HS2 := Lib.hid hs2
  clear hj hs1 hs2
  go_enter Try.func34, Try.ntmps34
  go_wp2_with (go_at_call 41; refine (unhide (hN _)).mono ?_; rintro e w1 ⟨rfl, hr1, hb1, hz1⟩)
  have HS := hide (sum_any (nineB.take 4) (some ⟨w.heap.size, 0, none⟩) 4 9 (w.heap.size + 1) w1 (hr1.upto_ (by omega)) (by omega) hz1)
  have HB1 := hide hb1
  rw [HS1.out] at HS
  clear hr1 hb1
  go_wp2_with (go_at_call 24; refine (unhide HS).mono ?_; rintro e w2 ⟨rfl, hb2⟩)
  have HB2 := hide ((unhide HB1).trans (hb2.mono (unhide HB1).size))
  clear hb2 HS
  go_wp2_with (go_at_call 41; refine (unhide (hN _)).mono ?_; rintro e w3 ⟨rfl, hr3, hb3, hz3⟩)
  have HS := hide (sum_any (nineB.drop 4) (some ⟨w2.heap.size, 0 + 4, none⟩) 5 5 (w2.heap.size + 1) w3 (hr3.after (k := 4) (n := 5)) (by omega) hz3)
  have HB3 := hide ((unhide HB2).trans (hb3.mono (unhide HB2).size))
  rw [HS2.out] at HS
  clear hr3 hb3
  go_wp2_with (go_at_call 24; refine (unhide HS).mono ?_; rintro e w4 ⟨rfl, hb4⟩)
  have HB4 := hide ((unhide HB3).trans (hb4.mono (unhide HB3).size))
  clear hb4 HS
  have HJN := hide (join_any s1 s2 5 w4 hl1 hl2 (by omega))
  rw [HJ.out] at HJN
  go_wp2_with (go_at_call 33; refine (unhide HJN).mono ?_; rintro e w5 ⟨rfl, hb5⟩)
  have HB5 := hide ((unhide HB4).trans (hb5.mono (unhide HB4).size))
  clear hb5 HJN
  go_wp2_with (go_at_call 41; refine (unhide (hN _)).mono ?_; rintro e w6 ⟨rfl, hr6, hb6, hz6⟩)
  have HS := hide (sum_any nineB (some ⟨w5.heap.size, 0, none⟩) 9 9 (w5.heap.size + 1) w6 hr6 (by omega) hz6)
  have HB6 := hide ((unhide HB5).trans (hb6.mono (unhide HB5).size))
  rw [nine_sum] at HS
  clear hr6 hb6
  go_wp2_with (go_at_call 24; refine (unhide HS).mono ?_; rintro e w7 ⟨rfl, hb7⟩)
  have HB7 := hide ((unhide HB6).trans (hb7.mono (unhide HB6).size))
  clear hb7 HS
  go_wp2_with fail
  have hlit := reads_lit w7 _ rfl 5 #[.int .u8 0] 1 rfl ([0].map bv) rfl
  have HS := hide (sum_any [0] (some ⟨w7.heap.size, 0, none⟩) 1 1 (w7.heap.size + 1) _ hlit (by omega) (by simp))
  have HB8 := hide ((unhide HB7).alloc (unhide HB7).size (.cells #[.int .u8 0] 5))
  rw [zero_sum] at HS
  clear hlit
  go_wp2_with (go_at_call 24; refine (unhide HS).mono ?_; rintro e w9 ⟨rfl, hb9⟩)
  have HB9 := hide ((unhide HB8).trans (hb9.mono (unhide HB8).size))
  clear hb9 HS
  go_wp2_with (go_at_call 19; refine (unhide (hNum _ _)).mono ?_; rintro e w10 ⟨rfl, rfl⟩)
  go_wp2_with (go_at_call 41; refine (unhide (hN _)).mono ?_; rintro e w11 ⟨rfl, hr11, hb11, hz11⟩)
  have HS := hide (seal_any (some ⟨w9.heap.size, 0, none⟩) 9 9 (w9.heap.size + 1) nineB w11 hr11 (by omega) hz11)
  have HB11 := hide ((unhide HB9).trans (hb11.mono (unhide HB9).size))
  clear hr11 hb11
  go_wp2_with (go_at_call 30; refine (unhide HS).mono ?_; rintro e w12 ⟨v12, rfl, ho12, hb12⟩)
  obtain ⟨A12, c12, rfl⟩ := ho12.shape
  have HB12 := hide ((unhide HB11).trans (hb12.mono (unhide HB11).size))
  have HW := hide (whole_any A12 13 c12 w12.heap.size (sealed nineB) w12 (Reads.of_own ho12) (by omega) (Nat.le_refl _) (own_capA ho12))
  rw [whole_sealed] at HW
  clear ho12 hb12 HS
  go_wp2_with (go_at_call 28; refine (unhide HW).mono ?_; rintro e w13 ⟨rfl, hb13⟩)
  have HB13 := hide ((unhide HB12).trans (hb13.mono (unhide HB12).size))
  clear hb13
  go_ret
  exact ⟨rfl, unhide HB13⟩
end Go.Proofs.Ytoipkpndfgcmcaa

/-
  The check sum as plain mathematics: single steps, their inverse, what a turned byte turns, four bytes at a place. No program in sight.
-/
namespace Go.Proofs.Ytoipkpndfgcmcaa
open Go.RowKit

/-- n steps. -/
def sn : Nat → Nat → Nat
  | 0, a => a
  | n + 1, a => sn n (stp a)
theorem sn_add (m n a : Nat) : sn (m + n) a = sn m (sn n a) := by
  induction n generalizing a with
  | zero => rfl
  | succ n ih => exact ih (stp a)
theorem sn_xor (n a b : Nat) : sn n (a ^^^ b) = sn n a ^^^ sn n b := by
  induction n generalizing a b with
  | zero => rfl
  | succ n ih => rw [sn, stp_xor, ih]; rfl
theorem sn_zero (n : Nat) : sn n 0 = 0 := by
  induction n with
  | zero => rfl
  | succ n ih => rw [sn, stp_zero, ih]
theorem sn_lt {a : Nat} (h : a < U32) (n : Nat) : sn n a < U32 := by
  induction n generalizing a with
  | zero => exact h
  | succ n ih => exact ih (stp_lt h)
theorem stp8_sn (a : Nat) : stp8 a = sn 8 a := rfl
theorem sn_pow (k q : Nat) : sn k (2 ^ k * q) = q := by
  induction k generalizing q with
  | zero => simp [sn]
  | succ k ih => rw [sn, Nat.pow_succ, Nat.mul_comm (2 ^ k) 2, Nat.mul_assoc, stp_even, ih]

/-- The number of which a step makes r. -/
def bk (r : Nat) : Nat := if r / 2147483648 = 1 then 2 * (r ^^^ POLY) + 1 else 2 * r
theorem xor_cancel (a b : Nat) : (a ^^^ b) ^^^ b = a := by rw [Nat.xor_assoc, Nat.xor_self, Nat.xor_zero]
theorem top_xor {a b : Nat} (ha : a < U32) (hb : b < U32) : (a ^^^ b) / 2147483648 = (a / 2147483648 + b / 2147483648) % 2 := by
  have h := Nat.xor_div_two_pow (a := a) (b := b) (n := 31)
  rw [show (2147483648 : Nat) = 2 ^ 31 from rfl, h]
  unfold U32 at *
  have h1 : a / 2 ^ 31 = 0 ∨ a / 2 ^ 31 = 1 := by omega
  have h2 : b / 2 ^ 31 = 0 ∨ b / 2 ^ 31 = 1 := by omega
  rcases h1 with h1 | h1 <;> rcases h2 with h2 | h2 <;> rw [h1, h2] <;> decide
theorem stp_bk {r : Nat} (_h : r < U32) : stp (bk r) = r := by
  unfold bk
  split
  · unfold stp
    rw [show (2 * (r ^^^ POLY) + 1) / 2 = r ^^^ POLY by omega, if_pos (by omega), xor_cancel]
  · exact stp_even r
theorem bk_stp {r : Nat} (h : r < U32) : bk (stp r) = r := by
  have h2 : r / 2 < U32 := by unfold U32 at *; omega
  unfold stp
  rcases Nat.mod_two_eq_zero_or_one r with hm | hm
  · rw [if_neg (by omega), Nat.xor_zero]
    unfold bk
    rw [if_neg (by unfold U32 at h; omega)]
    omega
  · rw [if_pos hm]
    unfold bk
    rw [top_xor h2 (by decide), if_pos (by unfold U32 at h; rw [show r / 2 / 2147483648 = 0 by omega]; decide), xor_cancel]
    omega
theorem bk_lt {r : Nat} (h : r < U32) : bk r < U32 := by
  unfold bk
  split
  · rename_i ht
    have := top_xor h (b := POLY) (by decide)
    rw [ht, show POLY / 2147483648 = 1 by decide] at this
    unfold U32
    omega
  · unfold U32 at *
    omega
/-- n steps back. -/
def bn : Nat → Nat → Nat
  | 0, a => a
  | n + 1, a => bn n (bk a)
theorem bn_lt {a : Nat} (h : a < U32) (n : Nat) : bn n a < U32 := by
  induction n generalizing a with
  | zero => exact h
  | succ n ih => exact ih (bk_lt h)
theorem sn_succ' (n a : Nat) : sn (n + 1) a = stp (sn n a) := by rw [Nat.add_comm, sn_add]; rfl
theorem sn_bn {r : Nat} (h : r < U32) (n : Nat) : sn n (bn n r) = r := by
  induction n generalizing r with
  | zero => rfl
  | succ n ih => rw [sn_succ', bn, ih (bk_lt h), stp_bk h]
theorem bn_sn {r : Nat} (h : r < U32) (n : Nat) : bn n (sn n r) = r := by
  induction n generalizing r with
  | zero => rfl
  | succ n ih =>
    have : sn (n + 1) r = stp (sn n r) := sn_succ' n r
    rw [this, bn, bk_stp (sn_lt h n), ih h]
theorem sn_inj {a b n : Nat} (ha : a < U32) (hb : b < U32) (h : sn n a = sn n b) : a = b := by rw [← bn_sn ha n, h, bn_sn hb n]
theorem sn_ne {a n : Nat} (ha : a < U32) : sn n a = 0 ↔ a = 0 :=
  ⟨fun h => sn_inj ha (by decide) (h.trans (sn_zero n).symm), fun h => h ▸ sn_zero n⟩
theorem bn_add (m n a : Nat) : bn (m + n) a = bn m (bn n a) := by
  induction n generalizing a with
  | zero => rfl
  | succ n ih => exact ih (bk a)

theorem crc_add (r d : Nat) (bs : List UInt8) : crc (r ^^^ d) bs = crc r bs ^^^ sn (8 * bs.length) d := by
  induction bs generalizing r d with
  | nil => simp [crc, sn]
  | cons c bs ih =>
    have e : tk (r ^^^ d) c = tk r c ^^^ stp8 d := by
      unfold tk
      rw [← stp8_xor]
      congr 1
      rw [Nat.xor_assoc, Nat.xor_comm d, ← Nat.xor_assoc]
    show crc (tk (r ^^^ d) c) bs = crc (tk r c) bs ^^^ _
    rw [e, ih, stp8_sn, ← sn_add, List.length_cons, Nat.mul_succ]
theorem crc_append (r : Nat) (xs bs : List UInt8) : crc r (xs ++ bs) = crc (crc r xs) bs := List.foldl_append
theorem crc_cons (r : Nat) (c : UInt8) (bs : List UInt8) : crc r (c :: bs) = crc (tk r c) bs := rfl

/-- What a turned byte turns. -/
theorem crc_turn (r : Nat) (bs : List UInt8) (j : Nat) (hj : j < bs.length) (v : UInt8) : crc r (bs.set j (bs[j] ^^^ v)) = crc r bs ^^^ sn (8 * (bs.length - j)) v.toNat := by
  induction bs generalizing r j with
  | nil => simp at hj
  | cons c bs ih =>
    cases j with
    | zero =>
      simp only [List.set_cons_zero, List.getElem_cons_zero]
      rw [crc_cons, crc_cons]
      have e : tk r (c ^^^ v) = tk r c ^^^ stp8 v.toNat := by
        unfold tk
        rw [← stp8_xor, UInt8.toNat_xor, Nat.xor_assoc]
      rw [e, crc_add, stp8_sn, ← sn_add, List.length_cons, Nat.sub_zero, Nat.mul_succ]
    | succ j =>
      simp only [List.set_cons_succ, List.getElem_cons_succ]
      rw [crc_cons, crc_cons, ih _ j (by simpa using hj), List.length_cons, Nat.add_sub_add_right]

/-- Four bytes into a register. -/
theorem ofNat_byte (n : Nat) : (UInt8.ofNat (n % 256)).toNat = n % 256 := by rw [UInt8.toNat_ofNat']; omega
theorem byte_split (x : Nat) : x % 256 ^^^ 256 * (x / 256) = x := by
  apply Nat.eq_of_testBit_eq
  intro i
  rw [Nat.testBit_xor, show (256 : Nat) * (x / 256) = 2 ^ 8 * (x / 256) by rfl, Nat.testBit_two_pow_mul, show x % 256 = x % 2 ^ 8 from rfl, Nat.testBit_mod_two_pow, show x / 256 = x / 2 ^ 8 from rfl, Nat.testBit_div_two_pow]
  by_cases hi : i < 8
  · simp [hi, show ¬ 8 ≤ i by omega]
  · simp [hi]
    rw [show i - 8 + 8 = i by omega, show decide (8 ≤ i) = true by simp; omega]
    simp
theorem tk_low (r q : Nat) : tk r (UInt8.ofNat (q % 256)) ^^^ q / 256 = sn 8 (r ^^^ q) := by
  unfold tk
  rw [ofNat_byte, stp8_sn]
  conv => rhs; rw [← byte_split q]
  rw [← Nat.xor_assoc, sn_xor 8 (r ^^^ q % 256), show (256 : Nat) = 2 ^ 8 from rfl, sn_pow]
theorem feed4 (r q : Nat) (hq : q < U32) : crc r (le4 q) = sn 32 (r ^^^ q) := by
  have e : ∀ s p, tk s (UInt8.ofNat (p % 256)) = sn 8 (s ^^^ p) ^^^ p / 256 := fun s p => by rw [← tk_low s p, xor_cancel]
  unfold le4
  rw [crc_cons, crc_cons, crc_cons, crc_cons, e r q, e _ (q / 256), show q / 65536 = q / 256 / 256 by omega, e _ (q / 256 / 256), show q / 16777216 = q / 256 / 256 / 256 by omega, e _ (q / 256 / 256 / 256)]
  rw [xor_cancel, xor_cancel, xor_cancel, show q / 256 / 256 / 256 / 256 = 0 by unfold U32 at hq; omega, Nat.xor_zero, ← sn_add, ← sn_add, ← sn_add]
  rfl

/-- Sealed is what has the one sum. -/
theorem le4_inj {a b : Nat} (ha : a < U32) (hb : b < U32) (h : le4 a = le4 b) : a = b := by
  have := congrArg (fun l => crc 0 l) h
  simp only [feed4 0 _ ha, feed4 0 _ hb, Nat.zero_xor] at this
  exact sn_inj ha hb this
def num4 (a b c d : UInt8) : Nat := a.toNat + 256 * b.toNat + 65536 * c.toNat + 16777216 * d.toNat
theorem num4_lt (a b c d : UInt8) : num4 a b c d < U32 := by
  have := a.toNat_lt; have := b.toNat_lt; have := c.toNat_lt; have := d.toNat_lt
  unfold num4 U32
  omega
theorem le4_num4 (a b c d : UInt8) : le4 (num4 a b c d) = [a, b, c, d] := by
  have h1 := a.toNat_lt; have h2 := b.toNat_lt; have h3 := c.toNat_lt; have h4 := d.toNat_lt
  have e : ∀ (x : UInt8) (n : Nat), n = x.toNat → UInt8.ofNat n = x := fun x n h => by subst h; simp
  unfold le4 num4
  rw [e a _ (by omega), e b _ (by omega), e c _ (by omega), e d _ (by omega)]
theorem four_le4 {l : List UInt8} (h : l.length = 4) : ∃ q, q < U32 ∧ l = le4 q := by
  match l, h with
  | [a, b, c, d], _ => exact ⟨num4 a b c d, num4_lt a b c d, (le4_num4 a b c d).symm⟩
theorem whole_sum (bs : List UInt8) : whole bs = (decide (4 ≤ bs.length) && (upd 0 bs == 558161692)) := by
  by_cases h4 : 4 ≤ bs.length
  · obtain ⟨m, hm⟩ : ∃ m, bs.length = m + 4 := ⟨bs.length - 4, by omega⟩
    rw [whole_long hm, show decide (4 ≤ bs.length) = true by simpa using h4, Bool.true_and]
    obtain ⟨q, hq, he⟩ := four_le4 (l := bs.drop m) (by rw [List.length_drop]; omega)
    have hx : upd 0 bs = sn 32 (crc ONES (bs.take m) ^^^ q) ^^^ ONES := by
      conv => lhs; rw [← List.take_append_drop m bs, he]
      unfold upd
      rw [Nat.zero_xor, crc_append, feed4 _ _ hq]
    have hc := crc_lt ones_lt (bs.take m)
    rw [he, hx, Bool.eq_iff_iff, beq_iff_eq, beq_iff_eq]
    have hu : upd 0 (bs.take m) = crc ONES (bs.take m) ^^^ ONES := by unfold upd; rw [Nat.zero_xor]
    rw [hu]
    clear hx hu he
    obtain ⟨X, hX⟩ : ∃ X, crc ONES (bs.take m) = X := ⟨_, rfl⟩
    rw [hX] at hc ⊢
    have hk : (558161692 : Nat) = sn 32 ONES ^^^ ONES := by decide +kernel
    constructor
    · intro h
      have := le4_inj hq (xor_lt hc ones_lt) h
      rw [this, ← Nat.xor_assoc, Nat.xor_self, Nat.zero_xor, hk]
    · intro h
      rw [hk] at h
      have h := congrArg (· ^^^ ONES) h
      simp only [xor_cancel] at h
      have h := sn_inj (xor_lt hc hq) ones_lt h
      rw [← h, ← Nat.xor_assoc, Nat.xor_self, Nat.zero_xor]
  · rw [whole_short (by omega), show decide (4 ≤ bs.length) = false by simpa using h4]
    rfl
end Go.Proofs.Ytoipkpndfgcmcaa

/-
  Bits turned within 32 of one another: what they turn of the sum. Plain mathematics, no program in sight.
-/
namespace Go.Proofs.Ytoipkpndfgcmcaa
open Go.RowKit

/-- The bytes after k rounds. -/
def tl (bs : List UInt8) (p m : Nat) : Nat → List UInt8
  | 0 => bs
  | k + 1 => if (m / 2 ^ k) % 2 = 1 ∧ (p + k) / 8 < bs.length then (tl bs p m k).set ((p + k) / 8) ((tl bs p m k).getD ((p + k) / 8) 0 ^^^ UInt8.ofNat (2 ^ ((p + k) % 8))) else tl bs p m k
theorem tl_len (bs : List UInt8) (p m k : Nat) : (tl bs p m k).length = bs.length := by
  induction k with
  | zero => rfl
  | succ k ih => unfold tl; split <;> simp [ih]
/-- The mask's bits that meet one of the text's. -/
def met (L p m k : Nat) : Nat := m % 2 ^ (min k (8 * L - p))
theorem tl_crc (r : Nat) (bs : List UInt8) (p m k : Nat) (hp : p ≤ 8 * bs.length) : crc r (tl bs p m k) = crc r bs ^^^ sn (8 * bs.length - p) (met bs.length p m k) := by
  induction k with
  | zero => simp [tl, met, Nat.mod_one, sn_zero]
  | succ k ih =>
    unfold tl
    by_cases hin : (p + k) / 8 < bs.length
    · have hm : met bs.length p m (k + 1) = met bs.length p m k ^^^ (if (m / 2 ^ k) % 2 = 1 then 2 ^ k else 0) := by
        unfold met
        rw [Nat.min_eq_left (by omega), Nat.min_eq_left (by omega), bit_split]
      rw [hm, sn_xor, ← Nat.xor_assoc, ← ih]
      by_cases hb : (m / 2 ^ k) % 2 = 1
      · rw [if_pos ⟨hb, hin⟩, if_pos hb]
        have hj : (p + k) / 8 < (tl bs p m k).length := by rw [tl_len]; exact hin
        have hg : (tl bs p m k).getD ((p + k) / 8) 0 = (tl bs p m k)[(p + k) / 8] := by simp [List.getD, hj]
        rw [hg, crc_turn r _ _ hj, tl_len]
        congr 1
        have h1 : 2 ^ ((p + k) % 8) < 256 := Nat.lt_of_lt_of_le (Nat.pow_lt_pow_right (a := 2) (by omega) (Nat.mod_lt _ (by omega : 0 < 8))) (by decide)
        rw [UInt8.toNat_ofNat', Nat.mod_eq_of_lt h1]
        have e1 : ∀ a b : Nat, b ≤ a → sn a (2 ^ b) = sn (a - b) 1 := fun a b h => by
          have : a = (a - b) + b := by omega
          rw [this, sn_add, Nat.add_sub_cancel]
          have := sn_pow b 1
          rw [Nat.mul_one] at this
          rw [this]
        rw [e1 _ _ (by omega), e1 _ _ (by omega)]
        congr 1
        omega
      · rw [if_neg (fun h => hb h.1), if_neg hb, sn_zero, Nat.xor_zero]
    · rw [if_neg (fun h => hin h.2), ih]
      unfold met
      rw [Nat.min_eq_right (by omega), Nat.min_eq_right (by omega)]
theorem met_succ_in (L p m k : Nat) (h : (p + k) / 8 < L) : decide (met L p m (k + 1) ≠ 0) = (decide (met L p m k ≠ 0) || decide ((m / 2 ^ k) % 2 = 1)) := by
  unfold met
  rw [Nat.min_eq_left (by omega), Nat.min_eq_left (by omega), Nat.mod_pow_succ, Bool.eq_iff_iff]
  have := Nat.two_pow_pos k
  simp only [Bool.or_eq_true, decide_eq_true_eq]
  rcases Nat.mod_two_eq_zero_or_one (m / 2 ^ k) with h | h <;> rw [h]
  · simp
  · simp
theorem met_succ_out (L p m k : Nat) (h : ¬ (p + k) / 8 < L) : met L p m (k + 1) = met L p m k := by
  unfold met
  rw [Nat.min_eq_right (by omega), Nat.min_eq_right (by omega)]
theorem met_lt (L p m k : Nat) (h : m < U32) : met L p m k < U32 := Nat.lt_of_le_of_lt (Nat.mod_le _ _) h

/-- What the bits turn of the sum. -/
theorem upd_turned (bs : List UInt8) (p m : Nat) (hp : p ≤ 8 * bs.length) : upd 0 (tl bs p m 32) = upd 0 bs ^^^ sn (8 * bs.length - p) (met bs.length p m 32) := by
  unfold upd
  rw [tl_crc _ _ _ _ _ hp, Nat.xor_assoc, Nat.xor_assoc, Nat.xor_comm ONES]
theorem xor_turned (bs : List UInt8) (p m : Nat) (hp : p ≤ 8 * bs.length) : upd 0 bs ^^^ upd 0 (tl bs p m 32) = sn (8 * bs.length - p) (met bs.length p m 32) := by
  rw [upd_turned _ _ _ hp, ← Nat.xor_assoc, Nat.xor_self, Nat.zero_xor]
theorem whole_turned (bs : List UInt8) (p m : Nat) (hm : m < U32) (hp : p ≤ 8 * (sealed bs).length) : whole (tl (sealed bs) p m 32) = !decide (met (sealed bs).length p m 32 ≠ 0) := by
  have h := whole_sealed bs
  rw [whole_sum] at h
  have hl : decide (4 ≤ (sealed bs).length) = true := by simp [sealed, le4_len]
  rw [hl, Bool.true_and, beq_iff_eq] at h
  rw [whole_sum, tl_len, hl, Bool.true_and, upd_turned _ _ _ hp, h]
  have hz := sn_ne (n := 8 * (sealed bs).length - p) (met_lt (sealed bs).length p m 32 hm)
  by_cases h0 : met (sealed bs).length p m 32 = 0
  · rw [h0, sn_zero]
    rfl
  · have h1 : sn (8 * (sealed bs).length - p) (met (sealed bs).length p m 32) ≠ 0 := fun e => h0 (hz.1 e)
    have : decide (met (sealed bs).length p m 32 ≠ 0) = true := by simpa using h0
    rw [this]
    simp only [Bool.not_true, beq_eq_false_iff_ne]
    intro e
    apply h1
    have := congrArg (558161692 ^^^ ·) e
    simpa [← Nat.xor_assoc] using this
end Go.Proofs.Ytoipkpndfgcmcaa

/-
  place, turned: the walks. Condition: fewer than 2^47 bytes.
-/
namespace Go.Proofs.Ytoipkpndfgcmcaa
open Go.RowKit

def hits (L p m k : Nat) : Bool := decide (met L p m k ≠ 0)
/-- A number from 0 to n. -/
def plc (k : Int) (n : Nat) : Nat := (if k.tmod ((n : Int) + 1) < 0 then k.tmod ((n : Int) + 1) + n + 1 else k.tmod ((n : Int) + 1)).toNat
theorem tmod_bd (k : Int) (n : Nat) : -((n : Int) + 1) < k.tmod ((n : Int) + 1) ∧ k.tmod ((n : Int) + 1) < (n : Int) + 1 := by
  have h1 := Int.tmod_lt_of_pos k (b := (n : Int) + 1) (by omega)
  have h2 := Int.lt_tmod_of_pos k (b := (n : Int) + 1) (by omega)
  exact ⟨h2, h1⟩
theorem plc_le (k : Int) (n : Nat) : plc k n ≤ n := by
  have := tmod_bd k n
  unfold plc
  split <;> omega
theorem place_any (k : Int) (n : Nat) (w : World) (_h1 : -9223372036854775808 ≤ k) (_h2 : k ≤ 9223372036854775807) (hn : n ≤ 4611686018427387904) :
    Calls Try.prog 36 #[.int .i64 k, .int .i64 (n : Int)] w fun e w' => e = .returned (.int .i64 (plc k n : Nat)) ∧ w = w' := by
  have hb := tmod_bd k n
  have hp : plc k n = (if k.tmod ((n : Int) + 1) < 0 then k.tmod ((n : Int) + 1) + n + 1 else k.tmod ((n : Int) + 1)).toNat := rfl
  obtain ⟨m, hm⟩ : ∃ m, k.tmod ((n : Int) + 1) = m := ⟨_, rfl⟩
  rw [hm] at hb hp
  have hw : IntKind.i64.wrap ((n : Int) + 1) = (n : Int) + 1 := IntWalk.i64_in _ (by omega)
  have hw2 : IntKind.i64.wrap m = m := IntWalk.i64_in _ (by omega)
  have hz : ((n : Int) + 1 == 0) = false := by simp; omega
  have hz' : ¬ ((n : Int) + 1 = 0) := by omega
  by_cases hneg : m < 0
  · have hp' : ((plc k n : Nat) : Int) = m + n + 1 := by rw [hp, if_pos hneg]; omega
    rw [hp']
    have hw3 : IntKind.i64.wrap (m + (n : Int)) = m + (n : Int) := IntWalk.i64_in _ (by omega)
    have hw4 : IntKind.i64.wrap (m + (n : Int) + 1) = m + (n : Int) + 1 := IntWalk.i64_in _ (by omega)
    clear hp hp'
    go_enter Try.func36, Try.ntmps36
    go_wp2
    go_ret
    exact ⟨rfl, rfl⟩
  · have hp' : ((plc k n : Nat) : Int) = m := by rw [hp, if_neg hneg]; omega
    rw [hp']
    clear hp hp'
    go_enter Try.func36, Try.ntmps36
    go_wp2
    go_ret
    exact ⟨rfl, rfl⟩

theorem turn_val (d : UInt8) (I : Nat) (hI : I < 8) : bits BinOp.xor IntKind.u8 (d.toNat : Int) (2 ^ I % 256) = ((d ^^^ UInt8.ofNat (2 ^ I)).toNat : Int) := by
  have h1 : 2 ^ I < 256 := Nat.lt_of_lt_of_le (Nat.pow_lt_pow_right (a := 2) (by omega) hI) (by decide)
  have h2 : ((2 : Int) ^ I) % 256 = ((2 ^ I : Nat) : Int) := by
    rw [show ((2 : Int) ^ I) = ((2 ^ I : Nat) : Int) by simp]
    generalize 2 ^ I = X at h1 ⊢
    omega
  rw [h2, u8_xor_nat _ _ d.toNat_lt h1, UInt8.toNat_xor, UInt8.toNat_ofNat', Nat.mod_eq_of_lt h1]

set_option maxRecDepth 100000 in
set_option maxHeartbeats 800000 in
theorem turned_any (A : Option Addr) (n c B p m : Nat) (bs : List UInt8) (w : World) (hr : Reads w B 1 A n (bs.map bv)) (hn : n ≤ 140737488355328) (_hB : B ≤ w.heap.size) (hp : p ≤ 8 * n) (_hm : m < U32) :
    Calls Try.prog 35 #[.slice A n c, .int .i64 (p : Int), .int .u32 (m : Int)] w fun e w' => ∃ v, e = .returned (.tuple #[v, .bool (hits n p m 32)]) ∧ w'.ownsRow w.heap.size 5 1 v n ((tl bs p m 32).map bv) ∧ Below w.heap.size w w' := by
  have hlen : bs.length = n := by have := hr.1; simpa using this
  have HC : Hid (0 + n ≤ maxLen ∧ (0 + n) * 1 ≤ 140737488355328) := cap1 (by omega)
  go_enter Try.func35, Try.ntmps35
  go_wp2_with (first | (at_builtin; refine wpList_app _ rfl (.tmp 12) (.tmp 13) 29 rfl elem_u8 w.heap.size (.slice none 0 0) 0 [] rfl (World.ownsRow_nil _ _ _ _) B A n c _ rfl hr (bv_one _) HC.out (Nat.le_refl _) ?_; intro v1 w1 hown1 hg1 hat1))
  have HB : Hid (Below w.heap.size w w1) := grownBy_below hg1 (Nat.le_refl _) (by simp [Value.ownBlock])
  clear hg1 hat1 hr
  rw [Nat.zero_add, List.nil_append] at hown1
  obtain ⟨A1, c1, rfl⟩ := hown1.shape
  go_loopg [9, 10] 32 (fun q y t wr => ∃ k : Nat, k + q = 32 ∧ t = .int .i64 (k : Int) ∧ y = .bool (hits n p m k) ∧ wr.ownsRow w.heap.size 5 1 (.slice A1 n c1) n ((tl bs p m k).map bv) ∧ Below w.heap.size w wr)
  case atStart => exact ⟨0, rfl, rfl, by simp [hits, met, Nat.mod_one], hown1, HB.out⟩
  case round =>
    obtain ⟨k, hk, rfl, rfl, ho, hb⟩ := hrel
    clear hown1 HB HC
    by_cases hlt : k < 32
    · obtain ⟨q, rfl⟩ : ∃ q, gk = q + 1 := ⟨gk - 1, by omega⟩
      obtain ⟨N, hN⟩ : ∃ N, p + k = N := ⟨_, rfl⟩
      have hsum : IntKind.i64.wrap ((p : Int) + (k : Int)) = (N : Int) := by rw [IntWalk.i64_in _ (by omega)]; omega
      by_cases hbit : (m / 2 ^ k) % 2 = 1
      · have ht : (((m : Int) / 2 ^ k).tmod 2 == 1) = true := by
          rw [tmod_bit, hbit]
          rfl
        by_cases hin : N / 8 < n
        · obtain ⟨J, hJ⟩ : ∃ J, N / 8 = J := ⟨_, rfl⟩
          obtain ⟨I, hI⟩ : ∃ I, N % 8 = I := ⟨_, rfl⟩
          have hI8 : I < 8 := by omega
          rw [hJ] at hin
          have hq : (N : Int).tdiv 8 = (J : Int) := by rw [Int.tdiv_eq_ediv_of_nonneg (by omega)]; omega
          have hm8 : (N : Int).tmod 8 = (I : Int) := by rw [Int.tmod_eq_emod_of_nonneg (by omega)]; omega
          have hTl := tl_len bs p m k
          obtain ⟨zs, hzs⟩ : ∃ zs, tl bs p m k = zs := ⟨_, rfl⟩
          rw [hzs] at ho hTl
          obtain ⟨g, cap, hv, hgw, _⟩ := ho.form (by omega)
          injection hv with e1 e2 e3
          subst e1 e3
          obtain ⟨d, hd⟩ : ∃ d, zs[J]? = some d := ⟨_, List.getElem?_eq_getElem (by omega)⟩
          have hcz : wr.cell? ⟨g, J, none⟩ = some (.int .u8 (d.toNat : Int)) := by rw [ho.cellAt J (by omega), List.getElem?_map, hd]; rfl
          have hfz : wr.frozen? ⟨g, J, none⟩ = false := ho.frozenAt J
          have hJ0 : (0 : Int) ≤ (J : Int) := by omega
          have hJ1 : (J : Int) < (n : Int) := by omega
          have HX := hide (turn_val d I hI8)
          have hT1 : tl bs p m (k + 1) = zs.set J (d ^^^ UInt8.ofNat (2 ^ I)) := by
            unfold tl
            rw [if_pos ⟨hbit, by rw [hN, hJ, hlen]; exact hin⟩, hzs, hN, hJ, hI]
            simp [List.getD, hd]
          have hM1 : hits n p m (k + 1) = true := by
            rw [hits, met_succ_in n p m k (by rw [hN, hJ]; exact hin), hbit]
            simp
          have HZ := hide (ho.stored J (.int .u8 (bits BinOp.xor IntKind.u8 (d.toNat : Int) (2 ^ I % 256))))
          have HT := Lib.hid hT1
          have HM := Lib.hid hM1
          have HB := hide (hb.setCell (p := ⟨g, J, none⟩) hgw (.int .u8 (bits BinOp.xor IntKind.u8 (d.toNat : Int) (2 ^ I % 256))))
          clear ho hb hzs hT1 hM1 hd hTl
          go_wp2
          go_roundg q
          case rel => exact ⟨k + 1, by omega, by go_num, by rw [HM.out], by rw [HT.out, List.map_set, bv, ← (unhide HX)]; exact (unhide HZ).1, unhide HB⟩
          case measure => omega
        · have hq : (N : Int).tdiv 8 = ((N / 8 : Nat) : Int) := by rw [Int.tdiv_eq_ediv_of_nonneg (by omega)]; omega
          obtain ⟨J, hJ⟩ : ∃ J, N / 8 = J := ⟨_, rfl⟩
          rw [hJ] at hq
          have hJn : ¬ ((J : Int) < (n : Int)) := by omega
          have hM1 : hits n p m (k + 1) = hits n p m k := by rw [hits, hits, met_succ_out n p m k (by rw [hN]; exact hin)]
          have hT1 : tl bs p m (k + 1) = tl bs p m k := by
            rw [tl, if_neg (fun h => hin (by rw [← hN, ← hlen]; exact h.2))]
          rw [← hM1]
          rw [← hT1] at ho
          have HO := hide ho
          have HB := hide hb
          clear ho hb hM1 hT1
          go_wp2
          go_roundg q
          case rel => exact ⟨k + 1, by omega, by go_num, rfl, unhide HO, unhide HB⟩
          case measure => omega
      · have h0 : m / 2 ^ k % 2 = 0 := by omega
        have ht : (((m : Int) / 2 ^ k).tmod 2 == 1) = false := by
          rw [tmod_bit, h0]
          rfl
        have hT1 : tl bs p m (k + 1) = tl bs p m k := by
          rw [tl, if_neg (fun h => hbit h.1)]
        have hM1 : hits n p m (k + 1) = hits n p m k := by
          by_cases hin : (p + k) / 8 < n
          · rw [hits, met_succ_in n p m k hin, h0]
            simp [hits]
          · rw [hits, met_succ_out n p m k hin]; rfl
        rw [← hM1]
        rw [← hT1] at ho
        have HO := hide ho
        have HB := hide hb
        clear ho hb hM1 hT1
        go_wp2
        go_roundg q
        case rel => exact ⟨k + 1, by omega, by go_num, rfl, unhide HO, unhide HB⟩
        case measure => omega
    · obtain rfl : k = 32 := by omega
      have HO := hide ho
      have HB := hide hb
      clear ho hb
      go_wp2
      go_ret2
      exact ⟨_, rfl, unhide HO, unhide HB⟩
end Go.Proofs.Ytoipkpndfgcmcaa

/-
  The beginning of CheckKnown, walked alone: the examples of Sum, Update, Join. The conditions stand in each theorem.
-/
namespace Go.Proofs.Ytoipkpndfgcmcaa.Crew
open Go Go.RowKit
set_option linter.unusedVariables false
set_option linter.unusedSimpArgs false
/-- What the law knows behind its beginning. -/
structure KnT (T : Array Value) : Prop where
  sz : T.size = 158
  t1 : T[1]? = some (.int .u32 14)
  t2 : T[2]? = some (.int .i64 0)
  t4 : T[4]? = some (.int .i64 2)
  t65 : T[65]? = some undef
def KnFin (w : World) (a' : Act) (w' : World) : Prop := a'.defers = [] ∧ KnT a'.tmps ∧ Below w.heap.size w w'
theorem jn14 : jn 7 9 0 = 14 := by decide
theorem upd_none (s : Nat) : upd s [] = s := by unfold upd; simp [crc, Nat.xor_assoc]
set_option maxRecDepth 100000 in
set_option maxHeartbeats 4000000 in
theorem kn_front (w : World) :
    (front 4 (bodyOf Try.f12)).wp Try.prog (fun e a' w' => e = .normal ∧ KnFin w a' w') { tmps := Array.replicate 158 undef, defers := [] } w := by
  have HA := fun w => hide (awake_any w)
  have HN := fun w => hide (nine_any w)
  have HB0 := hide (Below.refl w.heap.size w)
  have cS : ∀ w', Below w.heap.size w w' → Hid (Calls Try.prog 24 #[.slice none 0 0] w' fun e w2 => e = .returned (.int .u32 0) ∧ Below w.heap.size w w2) := fun w' h => hide <|
    (sum_any [] none 0 0 0 w' Reads.none_ (by omega) (by omega)).mono fun e w2 ⟨he, hb⟩ => ⟨by rw [he]; rfl, h.trans (hb.mono h.size)⟩
  have cU : ∀ w', Below w.heap.size w w' → Hid (Calls Try.prog 26 #[.int .u32 3421780262, .slice none 0 0] w' fun e w2 => e = .returned (.int .u32 3421780262) ∧ Below w.heap.size w w2) := fun w' h => hide <|
    (update_any 3421780262 [] none 0 0 0 w' (by decide) Reads.none_ (by omega) (by omega)).mono fun e w2 ⟨he, hb⟩ => ⟨by rw [he, upd_none]; rfl, h.trans (hb.mono h.size)⟩
  have cU2 : ∀ w', Below w.heap.size w w' → ∀ g, Reads w' (g + 1) 1 (some ⟨g, 0, none⟩) 9 (nineB.map bv) → g + 1 ≤ w'.heap.size → Hid (Calls Try.prog 26 #[.int .u32 0, .slice (some ⟨g, 0, none⟩) 9 9] w' fun e w2 => e = .returned (.int .u32 3421780262) ∧ Below w.heap.size w w2) := fun w' h g hr hg => hide <|
    (update_any 0 nineB (some ⟨g, 0, none⟩) 9 9 (g + 1) w' (by decide) hr (by omega) hg).mono fun e w2 ⟨he, hb⟩ => ⟨by rw [he, nine_sum]; rfl, h.trans (hb.mono h.size)⟩
  have cJ : ∀ w', Below w.heap.size w w' → Hid (Calls Try.prog 33 #[.int .u32 7, .int .u32 9, .int .i64 0] w' fun e w2 => e = .returned (.tuple #[.int .u32 14, .int .i64 0]) ∧ Below w.heap.size w w2) := fun w' h => hide <|
    (join_any 7 9 0 w' (by decide) (by decide) (by omega)).mono fun e w2 ⟨he, hb⟩ => ⟨by rw [he, jn14]; rfl, h.trans (hb.mono h.size)⟩
  have cJ2 : ∀ w', Hid (Calls Try.prog 33 #[.int .u32 7, .int .u32 9, .int .i64 (-1)] w' fun e w2 => e = .returned (.tuple #[.int .u32 0, .int .i64 2]) ∧ w' = w2) := fun w' => hide (join_neg 7 9 (-1) w' (by omega))
  simp only [front, bodyOf, Try.f12, Option.getD_some, Array.replicate_succ, Array.replicate_zero, List.push_toArray, List.append_toArray, List.nil_append, List.cons_append]
  go_wp2_with (go_at_call 34; refine (unhide (HA _)).mono ?_; rintro e w1 ⟨rfl, hb1⟩)
  have HB1 := hide ((unhide HB0).trans (hb1.mono (unhide HB0).size))
  clear hb1
  go_wp2_with (go_at_call 24; (with_reducible refine (unhide (cS _ (unhide HB1))).mono ?_); rintro e w2 ⟨rfl, hb2⟩)
  have HB2 := hide hb2
  clear hb2
  go_wp2_with (go_at_call 26; (with_reducible refine (unhide (cU _ (unhide HB2))).mono ?_); rintro e w3 ⟨rfl, hb3⟩)
  have HB3 := hide hb3
  clear hb3
  go_wp2_with (go_at_call 41; (with_reducible refine (unhide (HN _)).mono ?_); rintro e w4 ⟨rfl, hr4, hb4, hz4⟩)
  have HB4 := hide ((unhide HB3).trans (hb4.mono (unhide HB3).size))
  have HU := cU2 w4 (unhide HB4) _ hr4 hz4
  clear hr4 hb4 hz4
  go_wp2_with (go_at_call 26; (with_reducible refine (unhide HU).mono ?_); rintro e w5 ⟨rfl, hb5⟩)
  have HB5 := hide hb5
  clear hb5
  go_wp2_with (go_at_call 33; (with_reducible refine (unhide (cJ _ (unhide HB5))).mono ?_); rintro e w6 ⟨rfl, hb6⟩)
  have HB6 := hide hb6
  clear hb6
  go_wp2_with (go_at_call 33; (with_reducible refine (unhide (cJ2 _)).mono ?_); rintro e w7 ⟨rfl, rfl⟩)
  exact ⟨rfl, ⟨rfl, rfl, rfl, rfl, rfl⟩, unhide HB6⟩
end Go.Proofs.Ytoipkpndfgcmcaa.Crew

/-
  CheckKnown's region with two calls of Parts, operation by operation. The conditions stand in each theorem. (Printed by wip/kngen.py.)
-/
namespace Go.Proofs.Ytoipkpndfgcmcaa.Crew
open Go Go.Conc Go.ConcN Go.RowKit Go.Conc.Lib Go.ConcR.Gen Go.ConcN.Gen Go.Proofs.Ytoipkpndfgcmcaa.Veils
set_option linter.unusedVariables false
set_option linter.unusedSectionVars false
def O5of (c : Code) : Array Oper := opsOf (seqHead (seqHead (seqTails 4 c)))
def C5of (c : Code) : Code := seqTail (seqHead (seqTails 4 c))
def R5of (c : Code) : Code := seqTails 5 c
/-- What each operation comes to. -/
def kval (g1 g2 g3 : Nat) : Nat → Value
  | 0 => .int .u32 14
  | 1 => .bool false
  | 2 => .bool false
  | 3 => .int .i64 0
  | 4 => .int .i64 0
  | 5 => .bool false
  | 6 => .bool false
  | 7 => .bool false
  | 8 => .int .i64 2
  | 9 => .int .i64 2
  | 10 => .bool false
  | 11 => .bool false
  | 12 => .bool false
  | 13 => .slice (some ⟨g1, 0, none⟩) 2 2
  | 14 => .slice (some ⟨g1, 0, none⟩) 2 2
  | 15 => .slice (some ⟨g2, 0, none⟩) 7 7
  | 16 => .slice (some ⟨g2, 0, none⟩) 7 7
  | 17 => .slice (some ⟨g3, 0, none⟩) 3 3
  | 18 => .int .u32 3421780262
  | 19 => .bool false
  | 20 => .bool false
  | 21 => .bool false
  | 22 => .int .u32 0
  | 23 => .bool false
  | 24 => .bool false
  | _ => .nilFunc
/-- The mark of bytes that a conversion leaves. -/
def markAt (w : World) (b : Nat) : World := match w.shape? b with
  | some (_, n) => w.freeze ⟨b, n, none⟩ 1
  | none => w
theorem markAt_other (w : World) (b i : Nat) (h : i ≠ b) : (markAt w b).heap[i]? = w.heap[i]? := by
  unfold markAt
  split
  · rw [freeze_at]
    have : ¬ ((1 : Nat) ≠ 0 ∧ b = i) := fun x => h x.2.symm
    simp only [this, if_false]
    cases w.heap[i]? <;> rfl
  · rfl
theorem markAt_rest (w : World) (b : Nat) : (markAt w b).heap.size = w.heap.size ∧ (markAt w b).tape = w.tape ∧ (markAt w b).os = w.os ∧ (markAt w b).output = w.output := by
  unfold markAt
  split
  · obtain ⟨h1, h2, h3, h4, h5⟩ := freeze_rest w ⟨b, _, none⟩ 1
    exact ⟨h1, h2, h4, h5⟩
  · exact ⟨rfl, rfl, rfl, rfl⟩
theorem markAt_cell (w : World) (b : Nat) (p : Addr) : (markAt w b).cell? p = w.cell? p := by
  unfold markAt
  split
  · unfold World.cell?
    rw [freeze_at]
    cases hb : w.heap[p.block]? with
    | none => rfl
    | some o =>
      simp only [Option.map_some]
      by_cases hc : (1 : Nat) ≠ 0 ∧ b = p.block
      · simp only [if_pos hc]
        cases o <;> rfl
      · simp only [if_neg hc]
  · rfl
theorem run_mark (a : Addr) (n c : Nat) (w : World) : (Go.convert 29 29 (.slice (some a) n c)).run Try.prog w = .ok (.slice (some a) n c) (markAt w a.block) := by
  unfold Go.convert
  rw [Sem.run_bind, run_underlying Try.underlying29]
  simp only [Result.andThen_ok]
  rw [Sem.run_bind, run_underlying Try.underlying29]
  simp only [Result.andThen_ok]
  rw [Sem.run_bind, run_underlying Try.underlying5]
  simp only [Result.andThen_ok, beq_self_eq_true]
  unfold Go.markStringish markAt
  cases hs : w.shape? a.block with
  | none => simp [Go.shape, Sem.run_bind, Sem.run, hs]
  | some p => simp [Go.shape, Go.freeze, Sem.run_bind, Sem.run, hs]
theorem events_mark (a : Addr) (n c : Nat) (w : World) : (Go.convert 29 29 (.slice (some a) n c)).events Try.prog w #[] = #[] := by
  unfold Go.convert
  rw [Sem.events_bind, run_underlying Try.underlying29]
  simp only [Result.evThen]
  rw [Sem.events_bind, run_underlying Try.underlying29]
  simp only [Result.evThen]
  rw [Sem.events_bind, run_underlying Try.underlying5]
  simp only [Result.evThen, beq_self_eq_true]
  unfold Go.markStringish
  have hr : ∀ b, (Go.shape b).run Try.prog w = .ok (w.shape? b) w := fun _ => rfl
  have hf : ∀ x n, (Go.freeze x n).run Try.prog w = .ok () (w.freeze x n) := fun _ _ => rfl
  cases hs : w.shape? a.block with
  | none => simp [hr, hs, Result.evThen]
  | some p => simp [hr, hf, hs, Result.evThen]
/-- A row just made. -/
structure RowAt (W : World) (X : Nat → Prop) (w : World) (g : Nat) (xs : List Value) : Prop where
  lt : g < w.heap.size
  ge : W.heap.size ≤ g
  out : ¬ X g
  cells : ∀ j u, xs[j]? = some u → w.cell? ⟨g, j, none⟩ = some u
def r1 : List Value := [.int .u8 49, .int .u8 50]
def r2 : List Value := [.int .u8 51, .int .u8 52, .int .u8 53, .int .u8 54, .int .u8 55, .int .u8 56, .int .u8 57]
def r3 (g1 g2 : Nat) : List Value := [.slice (some ⟨g1, 0, none⟩) 2 2, .slice none 0 0, .slice (some ⟨g2, 0, none⟩) 7 7]
/-- The state between two operations. -/
structure KPh (W : World) (X : Nat → Prop) (m : Nat) (T : Array Value) (w : World) (g1 g2 g3 : Nat) : Prop where
  kn : KnT T
  done : ∀ j, j < m → j < 25 → T[38 + j]? = some (kval g1 g2 g3 j)
  b1 : 13 < m → RowAt W X w g1 r1
  b2 : 15 < m → RowAt W X w g2 r2
  b3 : 17 < m → RowAt W X w g3 (r3 g1 g2)
  wn : Wn W X w
section
variable {W w w' : World} {X X' : Nat → Prop} {T : Array Value} {k : List Item} {g1 g2 g3 m : Nat}
theorem RowAt.go {g : Nat} {xs : List Value} (h : RowAt W X w g xs) (hb : Below w.heap.size w w') (hX : ¬ X' g) : RowAt W X' w' g xs :=
  ⟨Nat.lt_of_lt_of_le h.lt hb.size, h.ge, hX, fun j u hu => (hb.cell (p := ⟨g, j, none⟩) h.lt).trans (h.cells j u hu)⟩
theorem RowAt.mark {g b : Nat} {xs : List Value} (h : RowAt W X w g xs) : RowAt W X (markAt w b) g xs :=
  ⟨by rw [(markAt_rest w b).1]; exact h.lt, h.ge, h.out, fun j u hu => (markAt_cell w b _).trans (h.cells j u hu)⟩
theorem RowAt.new (hW : Wn W X w) (t : TypeId) (cs : Array Value) : RowAt W X (w.alloc (.cells cs t)) w.heap.size cs.toList := by
  have hk : Blk (w.alloc (.cells cs t)) w.heap.size t cs := Blk.new _ _ _
  exact ⟨by simp, hW.below.size, fun hx => by have := (hW.at_ _ hx).2; omega, fun j u hu => by rw [hk.cell j]; simpa using hu⟩
theorem KnT.put (h : KnT T) {d : Nat} (hd : 37 < d) (hd2 : d < 65) (v : Value) : KnT (T.setIfInBounds d v) := by
  obtain ⟨h1, h2, h3, h4, h5⟩ := h
  refine ⟨by simpa using h1, ?_, ?_, ?_, ?_⟩ <;> (rw [Array.getElem?_setIfInBounds_ne (by omega)]; assumption)
theorem KPh.put (h : KPh W X m T w g1 g2 g3) (hm : m < 25) (h13 : m ≠ 13) (h15 : m ≠ 15) (h17 : m ≠ 17) {v : Value} (hv : v = kval g1 g2 g3 m) (hb : Below w.heap.size w w') : KPh W X (m + 1) (T.setIfInBounds (38 + m) v) w' g1 g2 g3 := by
  refine ⟨h.kn.put (by omega) (by omega) v, fun j hj hj25 => ?_, fun hl => (h.b1 (by omega)).go hb (h.b1 (by omega)).out, fun hl => (h.b2 (by omega)).go hb (h.b2 (by omega)).out, fun hl => (h.b3 (by omega)).go hb (h.b3 (by omega)).out, h.wn.go hb⟩
  by_cases e : j = m
  · subst e
    have := h.kn.sz
    rw [Array.getElem?_setIfInBounds_self_of_lt (by omega), hv]
  · rw [Array.getElem?_setIfInBounds_ne (by omega)]
    exact h.done j (by omega) hj25
theorem KPh.at (h : KPh W X m T w g1 g2 g3) (d : Nat) : KPh W X m T (w.at d) g1 g2 g3 :=
  ⟨h.kn, h.done, fun hl => let r := h.b1 hl; ⟨r.lt, r.ge, r.out, r.cells⟩, fun hl => let r := h.b2 hl; ⟨r.lt, r.ge, r.out, r.cells⟩, fun hl => let r := h.b3 hl; ⟨r.lt, r.ge, r.out, r.cells⟩, h.wn.at d⟩
/-- Behind m operations. -/
def KNx (W : World) (X : Nat → Prop) (k : List Item) (m : Nat) (l : List Nat) (g : Goroutine) (w : World) : Prop := ∃ T g1 g2 g3, g = InR 12 (O5of (bodyOf Try.f12)) k T l [] ∧ KPh W X m T w g1 g2 g3
theorem num_free {x : Value} (k : Nat) (hk : k < (#[x] : Array Value).size) : slotK 19 k = 0 := by
  have : slotFree 19 = true := rfl
  simp only [slotFree, Bool.and_eq_true, bne_iff_ne, ne_eq] at this
  simp [slotK, this]
theorem elem_sls : ElemOf Try.prog 62 29 1 24 := .mk' (.slice none 0 0) Try.underlying62 (by kernel_rfl) rfl (by omega)
theorem KPh.make13 (h : KPh W X 13 T w g1 g2 g3) : KPh W X 14 (T.setIfInBounds 51 (.slice (some ⟨w.heap.size, 0, none⟩) 2 2)) (w.alloc (.cells #[.int .u8 49, .int .u8 50] 5)) w.heap.size g2 g3 := by
  have hb : Below w.heap.size w (w.alloc (.cells #[.int .u8 49, .int .u8 50] 5)) := (Below.refl _ _).alloc (Nat.le_refl _) _
  refine ⟨h.kn.put (by omega) (by omega) _, fun j hj hj25 => ?_, fun _ => RowAt.new h.wn _ _, fun hl => absurd hl (by omega), fun hl => absurd hl (by omega), h.wn.go hb⟩
  by_cases e : j = 13
  · subst e
    have := h.kn.sz
    rw [Array.getElem?_setIfInBounds_self_of_lt (by omega)]
    rfl
  · rw [Array.getElem?_setIfInBounds_ne (by omega), h.done j (by omega) hj25]
    have : j = 0 ∨ j = 1 ∨ j = 2 ∨ j = 3 ∨ j = 4 ∨ j = 5 ∨ j = 6 ∨ j = 7 ∨ j = 8 ∨ j = 9 ∨ j = 10 ∨ j = 11 ∨ j = 12 := by omega
    rcases this with rfl | rfl | rfl | rfl | rfl | rfl | rfl | rfl | rfl | rfl | rfl | rfl | rfl <;> rfl
theorem KPh.make15 (h : KPh W X 15 T w g1 g2 g3) : KPh W X 16 (T.setIfInBounds 53 (.slice (some ⟨w.heap.size, 0, none⟩) 7 7)) (w.alloc (.cells #[.int .u8 51, .int .u8 52, .int .u8 53, .int .u8 54, .int .u8 55, .int .u8 56, .int .u8 57] 5)) g1 w.heap.size g3 := by
  have hb : Below w.heap.size w (w.alloc (.cells #[.int .u8 51, .int .u8 52, .int .u8 53, .int .u8 54, .int .u8 55, .int .u8 56, .int .u8 57] 5)) := (Below.refl _ _).alloc (Nat.le_refl _) _
  refine ⟨h.kn.put (by omega) (by omega) _, fun j hj hj25 => ?_, fun hl => (h.b1 (by omega)).go hb (h.b1 (by omega)).out, fun _ => RowAt.new h.wn _ _, fun hl => absurd hl (by omega), h.wn.go hb⟩
  by_cases e : j = 15
  · subst e
    have := h.kn.sz
    rw [Array.getElem?_setIfInBounds_self_of_lt (by omega)]
    rfl
  · rw [Array.getElem?_setIfInBounds_ne (by omega), h.done j (by omega) hj25]
    have : j = 0 ∨ j = 1 ∨ j = 2 ∨ j = 3 ∨ j = 4 ∨ j = 5 ∨ j = 6 ∨ j = 7 ∨ j = 8 ∨ j = 9 ∨ j = 10 ∨ j = 11 ∨ j = 12 ∨ j = 13 ∨ j = 14 := by omega
    rcases this with rfl | rfl | rfl | rfl | rfl | rfl | rfl | rfl | rfl | rfl | rfl | rfl | rfl | rfl | rfl <;> rfl
theorem KPh.make17 (h : KPh W X 17 T w g1 g2 g3) : KPh W X 18 (T.setIfInBounds 55 (.slice (some ⟨w.heap.size, 0, none⟩) 3 3)) (w.alloc (.cells (r3 g1 g2).toArray 29)) g1 g2 w.heap.size := by
  have hb : Below w.heap.size w (w.alloc (.cells (r3 g1 g2).toArray 29)) := (Below.refl _ _).alloc (Nat.le_refl _) _
  refine ⟨h.kn.put (by omega) (by omega) _, fun j hj hj25 => ?_, fun hl => (h.b1 (by omega)).go hb (h.b1 (by omega)).out, fun hl => (h.b2 (by omega)).go hb (h.b2 (by omega)).out, fun _ => RowAt.new h.wn _ _, h.wn.go hb⟩
  by_cases e : j = 17
  · subst e
    have := h.kn.sz
    rw [Array.getElem?_setIfInBounds_self_of_lt (by omega)]
    rfl
  · rw [Array.getElem?_setIfInBounds_ne (by omega), h.done j (by omega) hj25]
    have : j = 0 ∨ j = 1 ∨ j = 2 ∨ j = 3 ∨ j = 4 ∨ j = 5 ∨ j = 6 ∨ j = 7 ∨ j = 8 ∨ j = 9 ∨ j = 10 ∨ j = 11 ∨ j = 12 ∨ j = 13 ∨ j = 14 ∨ j = 15 ∨ j = 16 := by omega
    rcases this with rfl | rfl | rfl | rfl | rfl | rfl | rfl | rfl | rfl | rfl | rfl | rfl | rfl | rfl | rfl | rfl | rfl <;> rfl
theorem KPh.mark14 (h : KPh W X 14 T w g1 g2 g3) : KPh W X 15 (T.setIfInBounds 52 (kval g1 g2 g3 14)) (markAt w g1) g1 g2 g3 := by
  have hr := h.b1 (by omega)
  obtain ⟨q1, q2, q3, q4⟩ := markAt_rest w g1
  refine ⟨h.kn.put (by omega) (by omega) _, fun j hj hj25 => ?_, fun hl => (h.b1 (by omega)).mark, fun hl => (h.b2 (by omega)).mark, fun hl => absurd hl (by omega), ⟨⟨q3.trans h.wn.below.os, q2.trans h.wn.below.tape, q4.trans h.wn.below.output, by rw [q1]; exact h.wn.below.size, fun i hi => ?_⟩, h.wn.rows.keep fun b hx => markAt_other w _ b fun e => hr.out (e ▸ hx), fun r hx => by rw [q1]; exact h.wn.at_ r hx⟩⟩
  · by_cases e : j = 14
    · subst e
      have := h.kn.sz
      rw [Array.getElem?_setIfInBounds_self_of_lt (by omega)]
    · rw [Array.getElem?_setIfInBounds_ne (by omega)]
      exact h.done j (by omega) hj25
  · rw [markAt_other w _ i (by have := hr.ge; omega)]
    exact h.wn.below.block i hi
theorem KPh.mark16 (h : KPh W X 16 T w g1 g2 g3) : KPh W X 17 (T.setIfInBounds 54 (kval g1 g2 g3 16)) (markAt w g2) g1 g2 g3 := by
  have hr := h.b2 (by omega)
  obtain ⟨q1, q2, q3, q4⟩ := markAt_rest w g2
  refine ⟨h.kn.put (by omega) (by omega) _, fun j hj hj25 => ?_, fun hl => (h.b1 (by omega)).mark, fun hl => (h.b2 (by omega)).mark, fun hl => absurd hl (by omega), ⟨⟨q3.trans h.wn.below.os, q2.trans h.wn.below.tape, q4.trans h.wn.below.output, by rw [q1]; exact h.wn.below.size, fun i hi => ?_⟩, h.wn.rows.keep fun b hx => markAt_other w _ b fun e => hr.out (e ▸ hx), fun r hx => by rw [q1]; exact h.wn.at_ r hx⟩⟩
  · by_cases e : j = 16
    · subst e
      have := h.kn.sz
      rw [Array.getElem?_setIfInBounds_self_of_lt (by omega)]
    · rw [Array.getElem?_setIfInBounds_ne (by omega)]
      exact h.done j (by omega) hj25
  · rw [markAt_other w _ i (by have := hr.ge; omega)]
    exact h.wn.below.block i hi
theorem o5_0 : ∃ o, (O5of (bodyOf Try.f12))[0]? = some o ∧ o.op = .move (.tmp 1) ∧ o.dst = some 38 ∧ o.guard = none ∧ opCalm Try.prog calmF D0 o = true := ⟨_, rfl, rfl, rfl, rfl, by kernel_rfl⟩
theorem o5_1 : ∃ o, (O5of (bodyOf Try.f12))[1]? = some o ∧ o.op = .binOp .neq 40 (.tmp 38) (.const (.int .u32 14)) 40 ∧ o.dst = some 39 ∧ o.guard = none ∧ opCalm Try.prog calmF D0 o = true := ⟨_, rfl, rfl, rfl, rfl, by kernel_rfl⟩
theorem o5_2 : ∃ o, (O5of (bodyOf Try.f12))[2]? = some o ∧ o.op = .move (.tmp 39) ∧ o.dst = some 40 ∧ o.guard = none ∧ opCalm Try.prog calmF D0 o = true := ⟨_, rfl, rfl, rfl, rfl, by kernel_rfl⟩
theorem o5_3 : ∃ o, (O5of (bodyOf Try.f12))[3]? = some o ∧ o.op = .move (.tmp 2) ∧ o.dst = some 41 ∧ o.guard = some (2, false) ∧ opCalm Try.prog calmF D0 o = true := ⟨_, rfl, rfl, rfl, rfl, by kernel_rfl⟩
theorem o5_4 : ∃ o, (O5of (bodyOf Try.f12))[4]? = some o ∧ o.op = .call { callee := .value (.func 19), args := #[.tmp 41], argTypes := #[35] } ∧ o.dst = some 42 ∧ o.guard = some (2, false) ∧ opCalm Try.prog calmF D0 o = true := ⟨_, rfl, rfl, rfl, rfl, by kernel_rfl⟩
theorem o5_5 : ∃ o, (O5of (bodyOf Try.f12))[5]? = some o ∧ o.op = .binOp .neq 3 (.tmp 42) (.const (.int .i64 0)) 3 ∧ o.dst = some 43 ∧ o.guard = some (2, false) ∧ opCalm Try.prog calmF D0 o = true := ⟨_, rfl, rfl, rfl, rfl, by kernel_rfl⟩
theorem o5_6 : ∃ o, (O5of (bodyOf Try.f12))[6]? = some o ∧ o.op = .pick (.tmp 40) (.const (.bool true)) (.tmp 43) ∧ o.dst = some 44 ∧ o.guard = none ∧ opCalm Try.prog calmF D0 o = true := ⟨_, rfl, rfl, rfl, rfl, by kernel_rfl⟩
theorem o5_7 : ∃ o, (O5of (bodyOf Try.f12))[7]? = some o ∧ o.op = .move (.tmp 44) ∧ o.dst = some 45 ∧ o.guard = none ∧ opCalm Try.prog calmF D0 o = true := ⟨_, rfl, rfl, rfl, rfl, by kernel_rfl⟩
theorem o5_8 : ∃ o, (O5of (bodyOf Try.f12))[8]? = some o ∧ o.op = .move (.tmp 4) ∧ o.dst = some 46 ∧ o.guard = some (7, false) ∧ opCalm Try.prog calmF D0 o = true := ⟨_, rfl, rfl, rfl, rfl, by kernel_rfl⟩
theorem o5_9 : ∃ o, (O5of (bodyOf Try.f12))[9]? = some o ∧ o.op = .call { callee := .value (.func 19), args := #[.tmp 46], argTypes := #[35] } ∧ o.dst = some 47 ∧ o.guard = some (7, false) ∧ opCalm Try.prog calmF D0 o = true := ⟨_, rfl, rfl, rfl, rfl, by kernel_rfl⟩
theorem o5_10 : ∃ o, (O5of (bodyOf Try.f12))[10]? = some o ∧ o.op = .binOp .neq 3 (.tmp 47) (.const (.int .i64 2)) 3 ∧ o.dst = some 48 ∧ o.guard = some (7, false) ∧ opCalm Try.prog calmF D0 o = true := ⟨_, rfl, rfl, rfl, rfl, by kernel_rfl⟩
theorem o5_11 : ∃ o, (O5of (bodyOf Try.f12))[11]? = some o ∧ o.op = .pick (.tmp 45) (.const (.bool true)) (.tmp 48) ∧ o.dst = some 49 ∧ o.guard = none ∧ opCalm Try.prog calmF D0 o = true := ⟨_, rfl, rfl, rfl, rfl, by kernel_rfl⟩
theorem o5_12 : ∃ o, (O5of (bodyOf Try.f12))[12]? = some o ∧ o.op = .move (.tmp 49) ∧ o.dst = some 50 ∧ o.guard = none ∧ opCalm Try.prog calmF D0 o = true := ⟨_, rfl, rfl, rfl, rfl, by kernel_rfl⟩
theorem o5_13 : ∃ o, (O5of (bodyOf Try.f12))[13]? = some o ∧ o.op = .buildSlice 29 2 #[(0, .const (.int .u8 49)), (1, .const (.int .u8 50))] ∧ o.dst = some 51 ∧ o.guard = some (12, false) ∧ opCalm Try.prog calmF D0 o = true := ⟨_, rfl, rfl, rfl, rfl, by kernel_rfl⟩
theorem o5_14 : ∃ o, (O5of (bodyOf Try.f12))[14]? = some o ∧ o.op = .convert 29 29 (.tmp 51) ∧ o.dst = some 52 ∧ o.guard = some (12, false) ∧ True := ⟨_, rfl, rfl, rfl, rfl, trivial⟩
theorem o5_15 : ∃ o, (O5of (bodyOf Try.f12))[15]? = some o ∧ o.op = .buildSlice 29 7 #[(0, .const (.int .u8 51)), (1, .const (.int .u8 52)), (2, .const (.int .u8 53)), (3, .const (.int .u8 54)), (4, .const (.int .u8 55)), (5, .const (.int .u8 56)), (6, .const (.int .u8 57))] ∧ o.dst = some 53 ∧ o.guard = some (12, false) ∧ opCalm Try.prog calmF D0 o = true := ⟨_, rfl, rfl, rfl, rfl, by kernel_rfl⟩
theorem o5_16 : ∃ o, (O5of (bodyOf Try.f12))[16]? = some o ∧ o.op = .convert 29 29 (.tmp 53) ∧ o.dst = some 54 ∧ o.guard = some (12, false) ∧ True := ⟨_, rfl, rfl, rfl, rfl, trivial⟩
theorem o5_17 : ∃ o, (O5of (bodyOf Try.f12))[17]? = some o ∧ o.op = .buildSlice 62 3 #[(0, .tmp 52), (1, .const (.slice none 0 0)), (2, .tmp 54)] ∧ o.dst = some 55 ∧ o.guard = some (12, false) ∧ opCalm Try.prog calmF D0 o = true := ⟨_, rfl, rfl, rfl, rfl, by kernel_rfl⟩
theorem o5_18 : ∃ o, (O5of (bodyOf Try.f12))[18]? = some o ∧ o.op = .call { callee := .value (.func 38), args := #[.tmp 55], argTypes := #[62] } ∧ o.dst = some 56 ∧ o.guard = some (12, false) ∧ True := ⟨_, rfl, rfl, rfl, rfl, trivial⟩
theorem o5_19 : ∃ o, (O5of (bodyOf Try.f12))[19]? = some o ∧ o.op = .binOp .neq 40 (.tmp 56) (.const (.int .u32 3421780262)) 40 ∧ o.dst = some 57 ∧ o.guard = some (12, false) ∧ opCalm Try.prog calmF D0 o = true := ⟨_, rfl, rfl, rfl, rfl, by kernel_rfl⟩
theorem o5_20 : ∃ o, (O5of (bodyOf Try.f12))[20]? = some o ∧ o.op = .pick (.tmp 50) (.const (.bool true)) (.tmp 57) ∧ o.dst = some 58 ∧ o.guard = none ∧ opCalm Try.prog calmF D0 o = true := ⟨_, rfl, rfl, rfl, rfl, by kernel_rfl⟩
theorem o5_21 : ∃ o, (O5of (bodyOf Try.f12))[21]? = some o ∧ o.op = .move (.tmp 58) ∧ o.dst = some 59 ∧ o.guard = none ∧ opCalm Try.prog calmF D0 o = true := ⟨_, rfl, rfl, rfl, rfl, by kernel_rfl⟩
theorem o5_22 : ∃ o, (O5of (bodyOf Try.f12))[22]? = some o ∧ o.op = .call { callee := .value (.func 38), args := #[.const (.slice none 0 0)], argTypes := #[62] } ∧ o.dst = some 60 ∧ o.guard = some (21, false) ∧ True := ⟨_, rfl, rfl, rfl, rfl, trivial⟩
theorem o5_23 : ∃ o, (O5of (bodyOf Try.f12))[23]? = some o ∧ o.op = .binOp .neq 40 (.tmp 60) (.const (.int .u32 0)) 40 ∧ o.dst = some 61 ∧ o.guard = some (21, false) ∧ opCalm Try.prog calmF D0 o = true := ⟨_, rfl, rfl, rfl, rfl, by kernel_rfl⟩
theorem o5_24 : ∃ o, (O5of (bodyOf Try.f12))[24]? = some o ∧ o.op = .pick (.tmp 59) (.const (.bool true)) (.tmp 61) ∧ o.dst = some 62 ∧ o.guard = none ∧ opCalm Try.prog calmF D0 o = true := ⟨_, rfl, rfl, rfl, rfl, by kernel_rfl⟩
theorem k5_0 (h : KPh W X 0 T w g1 g2 g3) : Runs Try.prog (DF X) (KNx W X k 1 [1, 2, 3, 4, 5, 6, 7, 8, 9, 10, 11, 12, 13, 14, 15, 16, 17, 18, 19, 20, 21, 22, 23, 24]) (InR 12 (O5of (bodyOf Try.f12)) k T [0, 1, 2, 3, 4, 5, 6, 7, 8, 9, 10, 11, 12, 13, 14, 15, 16, 17, 18, 19, 20, 21, 22, 23, 24] []) w := by
  obtain ⟨o, ho, hop, hd, hg, hc⟩ := o5_0
  refine hand_pure ho (wanted_none hg) hc h.wn.rows (p_move hop h.kn.t1) ?_
  rw [hd]
  exact .stop fun d => ⟨_, g1, g2, g3, rfl, (h.put (by omega) (by omega) (by omega) (by omega) rfl (Below.refl _ _)).at d⟩
theorem k5_1 (h : KPh W X 1 T w g1 g2 g3) : Runs Try.prog (DF X) (KNx W X k 2 [2, 3, 4, 5, 6, 7, 8, 9, 10, 11, 12, 13, 14, 15, 16, 17, 18, 19, 20, 21, 22, 23, 24]) (InR 12 (O5of (bodyOf Try.f12)) k T [1, 2, 3, 4, 5, 6, 7, 8, 9, 10, 11, 12, 13, 14, 15, 16, 17, 18, 19, 20, 21, 22, 23, 24] []) w := by
  obtain ⟨o, ho, hop, hd, hg, hc⟩ := o5_1
  have e0 : T[38]? = some (.int .u32 14) := h.done 0 (by omega) (by omega)
  refine hand_pure ho (wanted_none hg) hc h.wn.rows (p_neqc (z := false) hop e0 (by decide)) ?_
  rw [hd]
  exact .stop fun d => ⟨_, g1, g2, g3, rfl, (h.put (by omega) (by omega) (by omega) (by omega) rfl (Below.refl _ _)).at d⟩
theorem k5_2 (h : KPh W X 2 T w g1 g2 g3) : Runs Try.prog (DF X) (KNx W X k 3 [3, 4, 5, 6, 7, 8, 9, 10, 11, 12, 13, 14, 15, 16, 17, 18, 19, 20, 21, 22, 23, 24]) (InR 12 (O5of (bodyOf Try.f12)) k T [2, 3, 4, 5, 6, 7, 8, 9, 10, 11, 12, 13, 14, 15, 16, 17, 18, 19, 20, 21, 22, 23, 24] []) w := by
  obtain ⟨o, ho, hop, hd, hg, hc⟩ := o5_2
  have e1 : T[39]? = some (.bool false) := h.done 1 (by omega) (by omega)
  refine hand_pure ho (wanted_none hg) hc h.wn.rows (p_move hop e1) ?_
  rw [hd]
  exact .stop fun d => ⟨_, g1, g2, g3, rfl, (h.put (by omega) (by omega) (by omega) (by omega) rfl (Below.refl _ _)).at d⟩
theorem k5_3 (h : KPh W X 3 T w g1 g2 g3) : Runs Try.prog (DF X) (KNx W X k 4 [4, 5, 6, 7, 8, 9, 10, 11, 12, 13, 14, 15, 16, 17, 18, 19, 20, 21, 22, 23, 24]) (InR 12 (O5of (bodyOf Try.f12)) k T [3, 4, 5, 6, 7, 8, 9, 10, 11, 12, 13, 14, 15, 16, 17, 18, 19, 20, 21, 22, 23, 24] []) w := by
  obtain ⟨o, ho, hop, hd, hg, hc⟩ := o5_3
  have e2 : T[40]? = some (.bool false) := h.done 2 (by omega) (by omega)
  obtain ⟨og, hog, _, hogd, _⟩ := o5_2
  refine hand_pure ho (wanted_guard hg hog hogd e2) hc h.wn.rows (p_move hop h.kn.t2) ?_
  rw [hd]
  exact .stop fun d => ⟨_, g1, g2, g3, rfl, (h.put (by omega) (by omega) (by omega) (by omega) rfl (Below.refl _ _)).at d⟩
theorem k5_4 (h : KPh W X 4 T w g1 g2 g3) : Runs Try.prog (DF X) (KNx W X k 5 [5, 6, 7, 8, 9, 10, 11, 12, 13, 14, 15, 16, 17, 18, 19, 20, 21, 22, 23, 24]) (InR 12 (O5of (bodyOf Try.f12)) k T [4, 5, 6, 7, 8, 9, 10, 11, 12, 13, 14, 15, 16, 17, 18, 19, 20, 21, 22, 23, 24] []) w := by
  obtain ⟨o, ho, hop, hd, hg, hc⟩ := o5_4
  have e2 : T[40]? = some (.bool false) := h.done 2 (by omega) (by omega)
  have e3 : T[41]? = some (.int .i64 0) := h.done 3 (by omega) (by omega)
  obtain ⟨og, hog, _, hogd, _⟩ := o5_2
  refine hand_call (Q := fun x v' => x = .int .i64 0 ∧ ∃ tp, Below w.heap.size { veilW X w with tape := tp, drawn := 0 } v') ho (wanted_guard hg hog hogd e2) hop (by rfl) Try.func19 (by rfl) (by rfl) rfl (vs := #[.int .i64 0]) (by simp [ev_tmp e3]) (fun k hk => num_free k hk) h.wn.rows (fun tp => (num_any _ _).mono fun e v' ⟨h1, h2⟩ => ⟨_, h1, rfl, tp, h2 ▸ Below.refl _ _⟩) (fun x v' w' hQ ha => ?_)
  obtain ⟨rfl, tp, hb⟩ := hQ
  rw [hd]
  exact .stop fun d => ⟨_, g1, g2, g3, rfl, (h.put (by omega) (by omega) (by omega) (by omega) rfl (ha.below hb)).at d⟩
theorem k5_5 (h : KPh W X 5 T w g1 g2 g3) : Runs Try.prog (DF X) (KNx W X k 6 [6, 7, 8, 9, 10, 11, 12, 13, 14, 15, 16, 17, 18, 19, 20, 21, 22, 23, 24]) (InR 12 (O5of (bodyOf Try.f12)) k T [5, 6, 7, 8, 9, 10, 11, 12, 13, 14, 15, 16, 17, 18, 19, 20, 21, 22, 23, 24] []) w := by
  obtain ⟨o, ho, hop, hd, hg, hc⟩ := o5_5
  have e2 : T[40]? = some (.bool false) := h.done 2 (by omega) (by omega)
  have e4 : T[42]? = some (.int .i64 0) := h.done 4 (by omega) (by omega)
  obtain ⟨og, hog, _, hogd, _⟩ := o5_2
  refine hand_pure ho (wanted_guard hg hog hogd e2) hc h.wn.rows (p_neqc (z := false) hop e4 (by decide)) ?_
  rw [hd]
  exact .stop fun d => ⟨_, g1, g2, g3, rfl, (h.put (by omega) (by omega) (by omega) (by omega) rfl (Below.refl _ _)).at d⟩
theorem k5_6 (h : KPh W X 6 T w g1 g2 g3) : Runs Try.prog (DF X) (KNx W X k 7 [7, 8, 9, 10, 11, 12, 13, 14, 15, 16, 17, 18, 19, 20, 21, 22, 23, 24]) (InR 12 (O5of (bodyOf Try.f12)) k T [6, 7, 8, 9, 10, 11, 12, 13, 14, 15, 16, 17, 18, 19, 20, 21, 22, 23, 24] []) w := by
  obtain ⟨o, ho, hop, hd, hg, hc⟩ := o5_6
  have e2 : T[40]? = some (.bool false) := h.done 2 (by omega) (by omega)
  have e5 : T[43]? = some (.bool false) := h.done 5 (by omega) (by omega)
  refine hand_pure ho (wanted_none hg) hc h.wn.rows (p_pick_or hop e2 e5) ?_
  rw [hd]
  exact .stop fun d => ⟨_, g1, g2, g3, rfl, (h.put (by omega) (by omega) (by omega) (by omega) rfl (Below.refl _ _)).at d⟩
theorem k5_7 (h : KPh W X 7 T w g1 g2 g3) : Runs Try.prog (DF X) (KNx W X k 8 [8, 9, 10, 11, 12, 13, 14, 15, 16, 17, 18, 19, 20, 21, 22, 23, 24]) (InR 12 (O5of (bodyOf Try.f12)) k T [7, 8, 9, 10, 11, 12, 13, 14, 15, 16, 17, 18, 19, 20, 21, 22, 23, 24] []) w := by
  obtain ⟨o, ho, hop, hd, hg, hc⟩ := o5_7
  have e6 : T[44]? = some (.bool false) := h.done 6 (by omega) (by omega)
  refine hand_pure ho (wanted_none hg) hc h.wn.rows (p_move hop e6) ?_
  rw [hd]
  exact .stop fun d => ⟨_, g1, g2, g3, rfl, (h.put (by omega) (by omega) (by omega) (by omega) rfl (Below.refl _ _)).at d⟩
theorem k5_8 (h : KPh W X 8 T w g1 g2 g3) : Runs Try.prog (DF X) (KNx W X k 9 [9, 10, 11, 12, 13, 14, 15, 16, 17, 18, 19, 20, 21, 22, 23, 24]) (InR 12 (O5of (bodyOf Try.f12)) k T [8, 9, 10, 11, 12, 13, 14, 15, 16, 17, 18, 19, 20, 21, 22, 23, 24] []) w := by
  obtain ⟨o, ho, hop, hd, hg, hc⟩ := o5_8
  have e7 : T[45]? = some (.bool false) := h.done 7 (by omega) (by omega)
  obtain ⟨og, hog, _, hogd, _⟩ := o5_7
  refine hand_pure ho (wanted_guard hg hog hogd e7) hc h.wn.rows (p_move hop h.kn.t4) ?_
  rw [hd]
  exact .stop fun d => ⟨_, g1, g2, g3, rfl, (h.put (by omega) (by omega) (by omega) (by omega) rfl (Below.refl _ _)).at d⟩
theorem k5_9 (h : KPh W X 9 T w g1 g2 g3) : Runs Try.prog (DF X) (KNx W X k 10 [10, 11, 12, 13, 14, 15, 16, 17, 18, 19, 20, 21, 22, 23, 24]) (InR 12 (O5of (bodyOf Try.f12)) k T [9, 10, 11, 12, 13, 14, 15, 16, 17, 18, 19, 20, 21, 22, 23, 24] []) w := by
  obtain ⟨o, ho, hop, hd, hg, hc⟩ := o5_9
  have e7 : T[45]? = some (.bool false) := h.done 7 (by omega) (by omega)
  have e8 : T[46]? = some (.int .i64 2) := h.done 8 (by omega) (by omega)
  obtain ⟨og, hog, _, hogd, _⟩ := o5_7
  refine hand_call (Q := fun x v' => x = .int .i64 2 ∧ ∃ tp, Below w.heap.size { veilW X w with tape := tp, drawn := 0 } v') ho (wanted_guard hg hog hogd e7) hop (by rfl) Try.func19 (by rfl) (by rfl) rfl (vs := #[.int .i64 2]) (by simp [ev_tmp e8]) (fun k hk => num_free k hk) h.wn.rows (fun tp => (num_any _ _).mono fun e v' ⟨h1, h2⟩ => ⟨_, h1, rfl, tp, h2 ▸ Below.refl _ _⟩) (fun x v' w' hQ ha => ?_)
  obtain ⟨rfl, tp, hb⟩ := hQ
  rw [hd]
  exact .stop fun d => ⟨_, g1, g2, g3, rfl, (h.put (by omega) (by omega) (by omega) (by omega) rfl (ha.below hb)).at d⟩
theorem k5_10 (h : KPh W X 10 T w g1 g2 g3) : Runs Try.prog (DF X) (KNx W X k 11 [11, 12, 13, 14, 15, 16, 17, 18, 19, 20, 21, 22, 23, 24]) (InR 12 (O5of (bodyOf Try.f12)) k T [10, 11, 12, 13, 14, 15, 16, 17, 18, 19, 20, 21, 22, 23, 24] []) w := by
  obtain ⟨o, ho, hop, hd, hg, hc⟩ := o5_10
  have e7 : T[45]? = some (.bool false) := h.done 7 (by omega) (by omega)
  have e9 : T[47]? = some (.int .i64 2) := h.done 9 (by omega) (by omega)
  obtain ⟨og, hog, _, hogd, _⟩ := o5_7
  refine hand_pure ho (wanted_guard hg hog hogd e7) hc h.wn.rows (p_neqc (z := false) hop e9 (by decide)) ?_
  rw [hd]
  exact .stop fun d => ⟨_, g1, g2, g3, rfl, (h.put (by omega) (by omega) (by omega) (by omega) rfl (Below.refl _ _)).at d⟩
theorem k5_11 (h : KPh W X 11 T w g1 g2 g3) : Runs Try.prog (DF X) (KNx W X k 12 [12, 13, 14, 15, 16, 17, 18, 19, 20, 21, 22, 23, 24]) (InR 12 (O5of (bodyOf Try.f12)) k T [11, 12, 13, 14, 15, 16, 17, 18, 19, 20, 21, 22, 23, 24] []) w := by
  obtain ⟨o, ho, hop, hd, hg, hc⟩ := o5_11
  have e7 : T[45]? = some (.bool false) := h.done 7 (by omega) (by omega)
  have e10 : T[48]? = some (.bool false) := h.done 10 (by omega) (by omega)
  refine hand_pure ho (wanted_none hg) hc h.wn.rows (p_pick_or hop e7 e10) ?_
  rw [hd]
  exact .stop fun d => ⟨_, g1, g2, g3, rfl, (h.put (by omega) (by omega) (by omega) (by omega) rfl (Below.refl _ _)).at d⟩
theorem k5_12 (h : KPh W X 12 T w g1 g2 g3) : Runs Try.prog (DF X) (KNx W X k 13 [13, 14, 15, 16, 17, 18, 19, 20, 21, 22, 23, 24]) (InR 12 (O5of (bodyOf Try.f12)) k T [12, 13, 14, 15, 16, 17, 18, 19, 20, 21, 22, 23, 24] []) w := by
  obtain ⟨o, ho, hop, hd, hg, hc⟩ := o5_12
  have e11 : T[49]? = some (.bool false) := h.done 11 (by omega) (by omega)
  refine hand_pure ho (wanted_none hg) hc h.wn.rows (p_move hop e11) ?_
  rw [hd]
  exact .stop fun d => ⟨_, g1, g2, g3, rfl, (h.put (by omega) (by omega) (by omega) (by omega) rfl (Below.refl _ _)).at d⟩
theorem k5_13 (h : KPh W X 13 T w g1 g2 g3) : Runs Try.prog (DF X) (KNx W X k 14 [14, 15, 16, 17, 18, 19, 20, 21, 22, 23, 24]) (InR 12 (O5of (bodyOf Try.f12)) k T [13, 14, 15, 16, 17, 18, 19, 20, 21, 22, 23, 24] []) w := by
  obtain ⟨o, ho, hop, hd, hg, hc⟩ := o5_13
  have e12 : T[50]? = some (.bool false) := h.done 12 (by omega) (by omega)
  obtain ⟨og, hog, _, hogd, _⟩ := o5_12
  have hr : ∀ w : World, (execOp (⟨T, []⟩ : Act).eval o).run Try.prog w = .ok (.value (.slice (some ⟨w.heap.size, 0, none⟩) 2 2)) (w.alloc (.cells #[.int .u8 49, .int .u8 50] 5)) := fun w => by
    obtain ⟨i, z, q1, q2, q3, q4, q5, q6⟩ := (elem_u8).ex
    unfold execOp
    simp only [hop]
    show (Instr.buildSlice _ _ _ >>= fun v => (Pure.pure (Next.value v) : Sem Next)).run _ _ = _
    rw [Sem.run_bind, run_buildSlice w 29 5 2 _ #[.int .u8 49, .int .u8 50] i z q1 q2 q3 (by rw [q4]; omega) (by rw [q4]; omega) ?_]
    · rfl
    · rw [q4]
      have hl : ((#[(0, .const (.int .u8 49)), (1, .const (.int .u8 50))] : Array (Nat × Operand)).map fun (i, x) => (i, (⟨T, []⟩ : Act).eval x)).toList = (([.int .u8 49, .int .u8 50] : List Value).zipIdx 0).map fun x => (x.2, x.1) := by
        simp [Act.eval, List.zipIdx]
      rw [hl]
      exact Great.fill_flat _ _ (fun v hv => by
        simp only [List.mem_cons, List.not_mem_nil, or_false] at hv
        rcases hv with rfl | rfl <;> rfl) (by simp)
  refine hand_calm ho (wanted_guard hg hog hogd e12) hc h.wn.rows hr fun d => ?_
  rw [hd]
  exact .stop fun d' => ⟨_, _, g2, g3, rfl, (KPh.make13 (h.at d)).at d'⟩
theorem k5_14 (h : KPh W X 14 T w g1 g2 g3) : Runs Try.prog (DF X) (KNx W X k 15 [15, 16, 17, 18, 19, 20, 21, 22, 23, 24]) (InR 12 (O5of (bodyOf Try.f12)) k T [14, 15, 16, 17, 18, 19, 20, 21, 22, 23, 24] []) w := by
  obtain ⟨o, ho, hop, hd, hg, hc⟩ := o5_14
  have e12 : T[50]? = some (.bool false) := h.done 12 (by omega) (by omega)
  have e13 : T[51]? = some (.slice (some ⟨g1, 0, none⟩) 2 2) := h.done 13 (by omega) (by omega)
  obtain ⟨og, hog, _, hogd, _⟩ := o5_12
  have hr : ∀ w : World, (execOp (⟨T, []⟩ : Act).eval o).run Try.prog w = .ok (.value (.slice (some ⟨g1, 0, none⟩) 2 2)) (markAt w g1) := fun w => by
    unfold execOp
    simp only [hop, ev_tmp e13]
    show (Go.convert _ _ _ >>= fun v => (Pure.pure (Next.value v) : Sem Next)).run _ _ = _
    rw [Sem.run_bind, run_mark]
    rfl
  have he : ∀ w : World, (execOp (⟨T, []⟩ : Act).eval o).events Try.prog w #[] = #[] := fun w => by
    unfold execOp
    simp only [hop, ev_tmp e13]
    show (Go.convert _ _ _ >>= fun v => (Pure.pure (Next.value v) : Sem Next)).events _ _ _ = _
    rw [Sem.events_bind, run_mark, events_mark]
    rfl
  refine hand_make ho (wanted_guard hg hog hogd e12) hr he (fun w => by rw [(markAt_rest w _).1]; exact Nat.le_refl _) fun d => ?_
  rw [hd]
  exact .stop fun d' => ⟨_, g1, g2, g3, rfl, (KPh.mark14 (h.at d)).at d'⟩
theorem k5_15 (h : KPh W X 15 T w g1 g2 g3) : Runs Try.prog (DF X) (KNx W X k 16 [16, 17, 18, 19, 20, 21, 22, 23, 24]) (InR 12 (O5of (bodyOf Try.f12)) k T [15, 16, 17, 18, 19, 20, 21, 22, 23, 24] []) w := by
  obtain ⟨o, ho, hop, hd, hg, hc⟩ := o5_15
  have e12 : T[50]? = some (.bool false) := h.done 12 (by omega) (by omega)
  obtain ⟨og, hog, _, hogd, _⟩ := o5_12
  have hr : ∀ w : World, (execOp (⟨T, []⟩ : Act).eval o).run Try.prog w = .ok (.value (.slice (some ⟨w.heap.size, 0, none⟩) 7 7)) (w.alloc (.cells #[.int .u8 51, .int .u8 52, .int .u8 53, .int .u8 54, .int .u8 55, .int .u8 56, .int .u8 57] 5)) := fun w => by
    obtain ⟨i, z, q1, q2, q3, q4, q5, q6⟩ := (elem_u8).ex
    unfold execOp
    simp only [hop]
    show (Instr.buildSlice _ _ _ >>= fun v => (Pure.pure (Next.value v) : Sem Next)).run _ _ = _
    rw [Sem.run_bind, run_buildSlice w 29 5 7 _ #[.int .u8 51, .int .u8 52, .int .u8 53, .int .u8 54, .int .u8 55, .int .u8 56, .int .u8 57] i z q1 q2 q3 (by rw [q4]; omega) (by rw [q4]; omega) ?_]
    · rfl
    · rw [q4]
      have hl : ((#[(0, .const (.int .u8 51)), (1, .const (.int .u8 52)), (2, .const (.int .u8 53)), (3, .const (.int .u8 54)), (4, .const (.int .u8 55)), (5, .const (.int .u8 56)), (6, .const (.int .u8 57))] : Array (Nat × Operand)).map fun (i, x) => (i, (⟨T, []⟩ : Act).eval x)).toList = (([.int .u8 51, .int .u8 52, .int .u8 53, .int .u8 54, .int .u8 55, .int .u8 56, .int .u8 57] : List Value).zipIdx 0).map fun x => (x.2, x.1) := by
        simp [Act.eval, List.zipIdx]
      rw [hl]
      exact Great.fill_flat _ _ (fun v hv => by
        simp only [List.mem_cons, List.not_mem_nil, or_false] at hv
        rcases hv with rfl | rfl | rfl | rfl | rfl | rfl | rfl <;> rfl) (by simp)
  refine hand_calm ho (wanted_guard hg hog hogd e12) hc h.wn.rows hr fun d => ?_
  rw [hd]
  exact .stop fun d' => ⟨_, g1, _, g3, rfl, (KPh.make15 (h.at d)).at d'⟩
theorem k5_16 (h : KPh W X 16 T w g1 g2 g3) : Runs Try.prog (DF X) (KNx W X k 17 [17, 18, 19, 20, 21, 22, 23, 24]) (InR 12 (O5of (bodyOf Try.f12)) k T [16, 17, 18, 19, 20, 21, 22, 23, 24] []) w := by
  obtain ⟨o, ho, hop, hd, hg, hc⟩ := o5_16
  have e12 : T[50]? = some (.bool false) := h.done 12 (by omega) (by omega)
  have e15 : T[53]? = some (.slice (some ⟨g2, 0, none⟩) 7 7) := h.done 15 (by omega) (by omega)
  obtain ⟨og, hog, _, hogd, _⟩ := o5_12
  have hr : ∀ w : World, (execOp (⟨T, []⟩ : Act).eval o).run Try.prog w = .ok (.value (.slice (some ⟨g2, 0, none⟩) 7 7)) (markAt w g2) := fun w => by
    unfold execOp
    simp only [hop, ev_tmp e15]
    show (Go.convert _ _ _ >>= fun v => (Pure.pure (Next.value v) : Sem Next)).run _ _ = _
    rw [Sem.run_bind, run_mark]
    rfl
  have he : ∀ w : World, (execOp (⟨T, []⟩ : Act).eval o).events Try.prog w #[] = #[] := fun w => by
    unfold execOp
    simp only [hop, ev_tmp e15]
    show (Go.convert _ _ _ >>= fun v => (Pure.pure (Next.value v) : Sem Next)).events _ _ _ = _
    rw [Sem.events_bind, run_mark, events_mark]
    rfl
  refine hand_make ho (wanted_guard hg hog hogd e12) hr he (fun w => by rw [(markAt_rest w _).1]; exact Nat.le_refl _) fun d => ?_
  rw [hd]
  exact .stop fun d' => ⟨_, g1, g2, g3, rfl, (KPh.mark16 (h.at d)).at d'⟩
theorem k5_17 (h : KPh W X 17 T w g1 g2 g3) : Runs Try.prog (DF X) (KNx W X k 18 [18, 19, 20, 21, 22, 23, 24]) (InR 12 (O5of (bodyOf Try.f12)) k T [17, 18, 19, 20, 21, 22, 23, 24] []) w := by
  obtain ⟨o, ho, hop, hd, hg, hc⟩ := o5_17
  have e12 : T[50]? = some (.bool false) := h.done 12 (by omega) (by omega)
  have e14 : T[52]? = some (.slice (some ⟨g1, 0, none⟩) 2 2) := h.done 14 (by omega) (by omega)
  have e16 : T[54]? = some (.slice (some ⟨g2, 0, none⟩) 7 7) := h.done 16 (by omega) (by omega)
  obtain ⟨og, hog, _, hogd, _⟩ := o5_12
  have hr : ∀ w : World, (execOp (⟨T, []⟩ : Act).eval o).run Try.prog w = .ok (.value (.slice (some ⟨w.heap.size, 0, none⟩) 3 3)) (w.alloc (.cells (r3 g1 g2).toArray 29)) := fun w => by
    obtain ⟨i, z, q1, q2, q3, q4, q5, q6⟩ := (elem_sls).ex
    unfold execOp
    simp only [hop]
    show (Instr.buildSlice _ _ _ >>= fun v => (Pure.pure (Next.value v) : Sem Next)).run _ _ = _
    rw [Sem.run_bind, run_buildSlice w 62 29 3 _ (r3 g1 g2).toArray i z q1 q2 q3 (by rw [q4]; omega) (by rw [q4]; omega) ?_]
    · rfl
    · rw [q4]
      have hl : ((#[(0, Operand.tmp 52), (1, .const (.slice none 0 0)), (2, Operand.tmp 54)] : Array (Nat × Operand)).map fun (i, x) => (i, (⟨T, []⟩ : Act).eval x)).toList = ((r3 g1 g2).zipIdx 0).map fun x => (x.2, x.1) := by
        simp [ev_tmp e14, ev_tmp e16, r3, List.zipIdx]
        rfl
      rw [hl]
      exact Great.fill_flat _ _ (fun v hv => by
        simp only [r3, List.mem_cons, List.not_mem_nil, or_false] at hv
        rcases hv with rfl | rfl | rfl <;> rfl) (by simp [r3])
  refine hand_calm ho (wanted_guard hg hog hogd e12) hc h.wn.rows hr fun d => ?_
  rw [hd]
  exact .stop fun d' => ⟨_, g1, g2, _, rfl, (KPh.make17 (h.at d)).at d'⟩
theorem k5_19 (h : KPh W X 19 T w g1 g2 g3) : Runs Try.prog (DF X) (KNx W X k 20 [20, 21, 22, 23, 24]) (InR 12 (O5of (bodyOf Try.f12)) k T [19, 20, 21, 22, 23, 24] []) w := by
  obtain ⟨o, ho, hop, hd, hg, hc⟩ := o5_19
  have e12 : T[50]? = some (.bool false) := h.done 12 (by omega) (by omega)
  have e18 : T[56]? = some (.int .u32 3421780262) := h.done 18 (by omega) (by omega)
  obtain ⟨og, hog, _, hogd, _⟩ := o5_12
  refine hand_pure ho (wanted_guard hg hog hogd e12) hc h.wn.rows (p_neqc (z := false) hop e18 (by decide)) ?_
  rw [hd]
  exact .stop fun d => ⟨_, g1, g2, g3, rfl, (h.put (by omega) (by omega) (by omega) (by omega) rfl (Below.refl _ _)).at d⟩
theorem k5_20 (h : KPh W X 20 T w g1 g2 g3) : Runs Try.prog (DF X) (KNx W X k 21 [21, 22, 23, 24]) (InR 12 (O5of (bodyOf Try.f12)) k T [20, 21, 22, 23, 24] []) w := by
  obtain ⟨o, ho, hop, hd, hg, hc⟩ := o5_20
  have e12 : T[50]? = some (.bool false) := h.done 12 (by omega) (by omega)
  have e19 : T[57]? = some (.bool false) := h.done 19 (by omega) (by omega)
  refine hand_pure ho (wanted_none hg) hc h.wn.rows (p_pick_or hop e12 e19) ?_
  rw [hd]
  exact .stop fun d => ⟨_, g1, g2, g3, rfl, (h.put (by omega) (by omega) (by omega) (by omega) rfl (Below.refl _ _)).at d⟩
theorem k5_21 (h : KPh W X 21 T w g1 g2 g3) : Runs Try.prog (DF X) (KNx W X k 22 [22, 23, 24]) (InR 12 (O5of (bodyOf Try.f12)) k T [21, 22, 23, 24] []) w := by
  obtain ⟨o, ho, hop, hd, hg, hc⟩ := o5_21
  have e20 : T[58]? = some (.bool false) := h.done 20 (by omega) (by omega)
  refine hand_pure ho (wanted_none hg) hc h.wn.rows (p_move hop e20) ?_
  rw [hd]
  exact .stop fun d => ⟨_, g1, g2, g3, rfl, (h.put (by omega) (by omega) (by omega) (by omega) rfl (Below.refl _ _)).at d⟩
theorem k5_23 (h : KPh W X 23 T w g1 g2 g3) : Runs Try.prog (DF X) (KNx W X k 24 [24]) (InR 12 (O5of (bodyOf Try.f12)) k T [23, 24] []) w := by
  obtain ⟨o, ho, hop, hd, hg, hc⟩ := o5_23
  have e21 : T[59]? = some (.bool false) := h.done 21 (by omega) (by omega)
  have e22 : T[60]? = some (.int .u32 0) := h.done 22 (by omega) (by omega)
  obtain ⟨og, hog, _, hogd, _⟩ := o5_21
  refine hand_pure ho (wanted_guard hg hog hogd e21) hc h.wn.rows (p_neqc (z := false) hop e22 (by decide)) ?_
  rw [hd]
  exact .stop fun d => ⟨_, g1, g2, g3, rfl, (h.put (by omega) (by omega) (by omega) (by omega) rfl (Below.refl _ _)).at d⟩
theorem k5_24 (h : KPh W X 24 T w g1 g2 g3) : Runs Try.prog (DF X) (KNx W X k 25 []) (InR 12 (O5of (bodyOf Try.f12)) k T [24] []) w := by
  obtain ⟨o, ho, hop, hd, hg, hc⟩ := o5_24
  have e21 : T[59]? = some (.bool false) := h.done 21 (by omega) (by omega)
  have e23 : T[61]? = some (.bool false) := h.done 23 (by omega) (by omega)
  refine hand_pure ho (wanted_none hg) hc h.wn.rows (p_pick_or hop e21 e23) ?_
  rw [hd]
  exact .stop fun d => ⟨_, g1, g2, g3, rfl, (h.put (by omega) (by omega) (by omega) (by omega) rfl (Below.refl _ _)).at d⟩
end
end Go.Proofs.Ytoipkpndfgcmcaa.Crew

namespace Go.Proofs.Ytoipkpndfgcmcaa.Crew
open Go Go.Conc Go.ConcN Go.RowKit Go.Conc.Lib Go.ConcR.Gen Go.ConcN.Gen Go.Proofs.Ytoipkpndfgcmcaa.Veils
set_option linter.unusedVariables false
set_option linter.unusedSectionVars false
def psK : List (List UInt8) := [[49, 50], [], [51, 52, 53, 54, 55, 56, 57]]
def slK (g1 g2 : Nat) : Nat → Option Addr × Nat
  | 0 => (some ⟨g1, 0, none⟩, 2)
  | 1 => (none, 0)
  | _ => (some ⟨g2, 0, none⟩, 7)
theorem psK_sum : sumP psK = 3421780262 := by decide +kernel
section
variable {q g1 g2 g3 mm : Nat} {W W1 w2 : World} {X : Nat → Prop} {T : Array Value} {l l' : List Nat} {k : List Item} {m : Machine} {t : Trace}
/-- The state between two operations, in the machine. -/
def AtK (W : World) (k : List Item) (mm : Nat) (l : List Nat) (m : Machine) (t : Trace) : Prop := ∃ X Jm, Mach Try.prog X Jm (KNx W X k mm l) m t
theorem KPh.parts (h : KPh W X mm T W1 g1 g2 g3) (hm : mm < 25) (h13 : mm ≠ 13) (h15 : mm ≠ 15) (h17 : mm ≠ 17) {v : Value} (hv : v = kval g1 g2 g3 mm) (hb : Below W1.heap.size W1 w2) (hR : Veils.Rows (fun r => X r ∨ r = W1.heap.size + 2) w2) : KPh W (fun r => X r ∨ r = W1.heap.size + 2) (mm + 1) (T.setIfInBounds (38 + mm) v) w2 g1 g2 g3 := by
  have hsz := h.wn.below.size
  have go : ∀ {g : Nat} {xs : List Value}, RowAt W X W1 g xs → RowAt W (fun r => X r ∨ r = W1.heap.size + 2) w2 g xs := fun hr => hr.go hb fun hx => hx.elim hr.out fun e => by have := hr.lt; omega
  refine ⟨h.kn.put (by omega) (by omega) v, fun j hj hj25 => ?_, fun hl => go (h.b1 (by omega)), fun hl => go (h.b2 (by omega)), fun hl => go (h.b3 (by omega)), ⟨h.wn.below.trans (hb.mono hsz), hR, fun r hx => ?_⟩⟩
  · by_cases e : j = mm
    · subst e
      have := h.kn.sz
      rw [Array.getElem?_setIfInBounds_self_of_lt (by omega), hv]
    · rw [Array.getElem?_setIfInBounds_ne (by omega)]
      exact h.done j (by omega) hj25
  · rcases hx with hx | hx
    · have := h.wn.at_ r hx
      exact ⟨this.1, Nat.lt_of_lt_of_le this.2 hb.size⟩
    · subst hx
      obtain ⟨cc, ee, h5, _⟩ := hR _ (.inr rfl)
      exact ⟨by omega, (Array.getElem?_eq_some_iff.1 h5).1⟩
theorem k5_18 (hq : TakeQ 140737488355328 q) (h : AtK W k 18 [18, 19, 20, 21, 22, 23, 24] m t) : Leads Try.prog m t (AtK W k 19 [19, 20, 21, 22, 23, 24]) := by
  obtain ⟨X, Jm, hM⟩ := h
  obtain ⟨g0, W1, ⟨T, g1, g2, g3, rfl, hP⟩, hM⟩ := hM.pin
  obtain ⟨o, ho, hop, hd, hg, _⟩ := o5_18
  have e12 : T[50]? = some (.bool false) := hP.done 12 (by decide) (by decide)
  have e17 : T[55]? = some (.slice (some ⟨g3, 0, none⟩) 3 3) := hP.done 17 (by decide) (by decide)
  obtain ⟨og, hog, _, hogd, _⟩ := o5_12
  have b1 := hP.b1 (by decide)
  have b2 := hP.b2 (by decide)
  have b3 := hP.b3 (by decide)
  have ha : Args W1 W1.heap.size X (some ⟨g3, 0, none⟩) 3 psK (slK g1 g2) := by
    refine ⟨rfl, fun _ => ⟨g3, 0, rfl, b3.lt, b3.out, fun j hj => ?_⟩, fun j hj hp => ?_⟩
    · match j, hj with
      | 0, _ => exact b3.cells 0 _ rfl
      | 1, _ => exact b3.cells 1 _ rfl
      | 2, _ => exact b3.cells 2 _ rfl
    · match j, hj, hp with
      | 0, _, _ => exact ⟨g1, 0, rfl, b1.lt, b1.out, fun k u hu => by rw [Nat.zero_add]; exact b1.cells k u hu⟩
      | 1, _, hp => exact absurd hp (by decide)
      | 2, _, _ => exact ⟨g2, 0, rfl, b2.lt, b2.out, fun k u hu => by rw [Nat.zero_add]; exact b2.cells k u hu⟩
  have hB : ∀ j, j < 3 → (psK.getD j []).length ≤ 140737488355328 := fun j hj => by
    match j, hj with
    | 0, _ => decide
    | 1, _ => decide
    | 2, _ => decide
  refine (hand_parts ho (wanted_guard hg hog hogd e12) hop (ev_tmp e17) hq (fun r hx => (hP.wn.at_ r hx).2) hP.wn.rows ha hB (Nat.le_refl _) (by omega) hM).mono fun m2 t2 h2 => ⟨_, _, h2.mono fun gg w2 ⟨q1, q2, q3⟩ => ⟨putT T o.dst (.int .u32 (sumP psK : Nat)), g1, g2, g3, q1, ?_⟩⟩
  rw [hd]
  exact hP.parts (by decide) (by decide) (by decide) (by decide) (by rw [psK_sum]; rfl) q2 q3
theorem k5_22 (hq : TakeQ 140737488355328 q) (h : AtK W k 22 [22, 23, 24] m t) : Leads Try.prog m t (AtK W k 23 [23, 24]) := by
  obtain ⟨X, Jm, hM⟩ := h
  obtain ⟨g0, W1, ⟨T, g1, g2, g3, rfl, hP⟩, hM⟩ := hM.pin
  obtain ⟨o, ho, hop, hd, hg, _⟩ := o5_22
  have e21 : T[59]? = some (.bool false) := hP.done 21 (by decide) (by decide)
  obtain ⟨og, hog, _, hogd, _⟩ := o5_21
  have ha : Args W1 W1.heap.size X none 0 [] (fun _ => (none, 0)) := ⟨rfl, fun h => absurd h (by omega), fun j hj => absurd hj (by omega)⟩
  refine (hand_parts ho (wanted_guard hg hog hogd e21) hop (a0 := none) (n := 0) (cap := 0) rfl hq (fun r hx => (hP.wn.at_ r hx).2) hP.wn.rows ha (fun j hj => absurd hj (by omega)) (Nat.le_refl _) (by omega) hM).mono fun m2 t2 h2 => ⟨_, _, h2.mono fun gg w2 ⟨q1, q2, q3⟩ => ⟨putT T o.dst (.int .u32 (sumP [] : Nat)), g1, g2, g3, q1, ?_⟩⟩
  rw [hd]
  exact hP.parts (by decide) (by decide) (by decide) (by decide) rfl q2 q3
theorem kn_one (hk : ∀ (X : Nat → Prop) (T : Array Value) (w : World) (g1 g2 g3 : Nat), KPh W X mm T w g1 g2 g3 → Runs Try.prog (DF X) (KNx W X k (mm + 1) l') (InR 12 (O5of (bodyOf Try.f12)) k T l []) w) (m : Machine) (t : Trace) (h : AtK W k mm l m t) : Leads Try.prog m t (AtK W k (mm + 1) l') := by
  obtain ⟨X, Jm, hM⟩ := h
  exact (hM.runs fun a w ⟨T, g1, g2, g3, e, hP⟩ => by rw [e]; exact hk X T w g1 g2 g3 hP).mono fun m' t' h' => ⟨X, Jm, h'⟩
theorem kn_chain (hq : TakeQ 140737488355328 q) (h : AtK W k 0 [0, 1, 2, 3, 4, 5, 6, 7, 8, 9, 10, 11, 12, 13, 14, 15, 16, 17, 18, 19, 20, 21, 22, 23, 24] m t) : Leads Try.prog m t (AtK W k 25 []) := by
  refine (kn_one (fun X T w g1 g2 g3 hP => k5_0 hP) m t h).bind fun m t h => ?_
  refine (kn_one (fun X T w g1 g2 g3 hP => k5_1 hP) m t h).bind fun m t h => ?_
  refine (kn_one (fun X T w g1 g2 g3 hP => k5_2 hP) m t h).bind fun m t h => ?_
  refine (kn_one (fun X T w g1 g2 g3 hP => k5_3 hP) m t h).bind fun m t h => ?_
  refine (kn_one (fun X T w g1 g2 g3 hP => k5_4 hP) m t h).bind fun m t h => ?_
  refine (kn_one (fun X T w g1 g2 g3 hP => k5_5 hP) m t h).bind fun m t h => ?_
  refine (kn_one (fun X T w g1 g2 g3 hP => k5_6 hP) m t h).bind fun m t h => ?_
  refine (kn_one (fun X T w g1 g2 g3 hP => k5_7 hP) m t h).bind fun m t h => ?_
  refine (kn_one (fun X T w g1 g2 g3 hP => k5_8 hP) m t h).bind fun m t h => ?_
  refine (kn_one (fun X T w g1 g2 g3 hP => k5_9 hP) m t h).bind fun m t h => ?_
  refine (kn_one (fun X T w g1 g2 g3 hP => k5_10 hP) m t h).bind fun m t h => ?_
  refine (kn_one (fun X T w g1 g2 g3 hP => k5_11 hP) m t h).bind fun m t h => ?_
  refine (kn_one (fun X T w g1 g2 g3 hP => k5_12 hP) m t h).bind fun m t h => ?_
  refine (kn_one (fun X T w g1 g2 g3 hP => k5_13 hP) m t h).bind fun m t h => ?_
  refine (kn_one (fun X T w g1 g2 g3 hP => k5_14 hP) m t h).bind fun m t h => ?_
  refine (kn_one (fun X T w g1 g2 g3 hP => k5_15 hP) m t h).bind fun m t h => ?_
  refine (kn_one (fun X T w g1 g2 g3 hP => k5_16 hP) m t h).bind fun m t h => ?_
  refine (kn_one (fun X T w g1 g2 g3 hP => k5_17 hP) m t h).bind fun m t h => ?_
  refine (k5_18 hq h).bind fun m t h => ?_
  refine (kn_one (fun X T w g1 g2 g3 hP => k5_19 hP) m t h).bind fun m t h => ?_
  refine (kn_one (fun X T w g1 g2 g3 hP => k5_20 hP) m t h).bind fun m t h => ?_
  refine (kn_one (fun X T w g1 g2 g3 hP => k5_21 hP) m t h).bind fun m t h => ?_
  refine (k5_22 hq h).bind fun m t h => ?_
  refine (kn_one (fun X T w g1 g2 g3 hP => k5_23 hP) m t h).bind fun m t h => ?_
  exact kn_one (fun X T w g1 g2 g3 hP => k5_24 hP) m t h
end
end Go.Proofs.Ytoipkpndfgcmcaa.Crew
