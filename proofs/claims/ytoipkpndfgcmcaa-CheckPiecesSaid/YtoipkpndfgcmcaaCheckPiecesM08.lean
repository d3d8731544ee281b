/-
  CheckPieces' region of a drawn order, operation by operation: whatever the order. The conditions stand in each theorem. (Printed by wip/pcgen.py.)
-/
import Derived.Test.YtoipkpndfgcmcaaRows
import Derived.Deep.RegionHeld3
import Derived.Lib.SlBytesConst
import Derived.Great.BuildSlice
import Derived.Test.YtoipkpndfgcmcaaCheckPiecesM00
import Derived.Test.YtoipkpndfgcmcaaCheckPiecesM05
import Derived.Test.YtoipkpndfgcmcaaCheckPiecesM06
import Derived.Test.YtoipkpndfgcmcaaCheckPiecesM07

/-
  CheckStreams: every script of two streams in turns, and of a nil one: the law's walk. Condition: none beyond the form's own reach.
-/
namespace Go.Proofs.Ytoipkpndfgcmcaa
open Go.RowKit


theorem tells_any (g h s : Nat) (l : Int) (w : World) (hg : Blk w g 72 #[.int .u32 (s : Int), .int .i64 l]) (hh : Blk w h 74 #[.int .u32 (s : Int), .int .i64 l]) :
    Calls Try.prog 15 #[.pointer (some ⟨g, 0, none⟩), .pointer (some ⟨h, 0, none⟩)] w fun e w' => e = .returned (.bool true) ∧ w = w' := by
  have a := hide (stSum_any g s l w hg)
  have b := hide (stLen_any g s l w hg)
  have c := hide (rsSum_any h s l w hh)
  have d := hide (rsLen_any h s l w hh)
  clear hg hh
  go_enter Try.func15, Try.ntmps15
  go_wp2_with (first
    | (go_at_call 39; refine (unhide a).mono ?_; rintro e w1 ⟨rfl, rfl⟩)
    | (go_at_call 40; refine (unhide b).mono ?_; rintro e w1 ⟨rfl, rfl⟩)
    | (go_at_call 42; refine (unhide c).mono ?_; rintro e w1 ⟨rfl, rfl⟩)
    | (go_at_call 43; refine (unhide d).mono ?_; rintro e w1 ⟨rfl, rfl⟩))
  go_ret
  exact ⟨rfl, rfl⟩
theorem tells_nil (w : World) :
    Calls Try.prog 15 #[.pointer none, .pointer none] w fun e w' => e = .returned (.bool true) ∧ w = w' := by
  go_enter Try.func15, Try.ntmps15
  go_wp2_with (first
    | (go_at_call 39; refine (stSum_nil w).mono ?_; rintro e w1 ⟨rfl, rfl⟩)
    | (go_at_call 40; refine (stLen_nil w).mono ?_; rintro e w1 ⟨rfl, rfl⟩)
    | (go_at_call 42; refine (rsSum_nil w).mono ?_; rintro e w1 ⟨rfl, rfl⟩)
    | (go_at_call 43; refine (rsLen_nil w).mono ?_; rintro e w1 ⟨rfl, rfl⟩))
  go_ret
  exact ⟨rfl, rfl⟩
theorem num_any (x : Int) (w : World) : Calls Try.prog 19 #[.int .i64 x] w fun e w' => e = .returned (.int .i64 x) ∧ w = w' := by
  go_enter Try.func19, Try.ntmps19
  go_wp2
  go_ret
  exact ⟨rfl, rfl⟩

/-- One step of a script, as it lies in memory. -/
structure OpAt (w : World) (b off : Nat) (who : Int) (tell : Bool) (A : Option Addr) (n c : Nat) (bs : List UInt8) : Prop where
  who : w.cell? ⟨b, off, none⟩ = some (.int .i64 who)
  tell : w.cell? ⟨b, off + 1, none⟩ = some (.bool tell)
  data : w.cell? ⟨b, off + 2, none⟩ = some (.slice A n c)
  lt : b < w.heap.size
  reads : Reads w w.heap.size 1 A n (bs.map bv)
  small : n ≤ 140737488351232

def ptrOf (s0 s1 : Nat) : Nat → Value
  | 0 => .pointer (some ⟨s0, 0, none⟩)
  | 1 => .pointer (some ⟨s1, 0, none⟩)
  | _ + 2 => .pointer none
def codeOf : Nat → Int
  | 0 => 0
  | 1 => 0
  | _ + 2 => 1
def stepS (S : Nat → Nat) (j : Nat) (bs : List UInt8) : Nat → Nat := fun i => if i = j then upd (S i) bs else S i
def stepL (L : Nat → Int) (j : Nat) (n : Nat) : Nat → Int := fun i => if i = j then wrap64 (L i + n) else L i
/-- Two streams and their list. -/
structure SS (w : World) (s0 s1 p : Nat) (S : Nat → Nat) (L : Nat → Int) : Prop where
  b0 : Blk w s0 72 #[.int .u32 (S 0 : Int), .int .i64 (L 0)]
  b1 : Blk w s1 72 #[.int .u32 (S 1 : Int), .int .i64 (L 1)]
  bp : Blk w p 23 #[.pointer (some ⟨s0, 0, none⟩), .pointer (some ⟨s1, 0, none⟩), .pointer none]
  lt0 : S 0 < U32
  lt1 : S 1 < U32
  ne : s0 ≠ s1
  nep0 : s0 ≠ p
  nep1 : s1 ≠ p
theorem SS.chg {w w' : World} {s0 s1 p : Nat} {S : Nat → Nat} {L : Nat → Int} {T : Nat → Prop} (h : SS w s0 s1 p S L) (c : Chg w w' T) (h0 : ¬ T s0) (h1 : ¬ T s1) (hp : ¬ T p) : SS w' s0 s1 p S L :=
  ⟨c.blk h.b0 h0, c.blk h.b1 h1, c.blk h.bp hp, h.lt0, h.lt1, h.ne, h.nep0, h.nep1⟩
theorem SS.bel {w w' : World} {s0 s1 p : Nat} {S : Nat → Nat} {L : Nat → Int} (h : SS w s0 s1 p S L) (c : Below w.heap.size w w') : SS w' s0 s1 p S L :=
  h.chg (Chg.of_below c (fun _ => False)) id id id
theorem stWrite_j {w : World} {s0 s1 p : Nat} {S : Nat → Nat} {L : Nat → Int} (j : Nat) (hs : SS w s0 s1 p S L) (bs : List UInt8) (A : Option Addr) (n c B : Nat) (hr : Reads w B 1 A n (bs.map bv)) (hn : n ≤ 140737488355328) (hB : B ≤ w.heap.size) :
    Calls Try.prog 18 #[ptrOf s0 s1 j, .slice A n c] w fun e w' => e = .returned (.int .i64 (codeOf j)) ∧ SS w' s0 s1 p (stepS S j bs) (stepL L j n) ∧ Chg w w' (fun i => i = s0 ∨ i = s1) := by
  match j with
  | 0 =>
    refine (stWrite_any s0 (S 0) (L 0) bs A n c B w hs.lt0 hs.b0 hr hn hB).mono fun e w' h => ⟨h.1, ⟨?_, ?_, ?_, ?_, ?_, hs.ne, hs.nep0, hs.nep1⟩, h.2.2.more fun i hi => .inl hi⟩
    · exact h.2.1
    · exact h.2.2.blk hs.b1 (fun e => hs.ne e.symm)
    · exact h.2.2.blk hs.bp (fun e => hs.nep0 e.symm)
    · exact upd_lt hs.lt0 bs
    · exact hs.lt1
  | 1 =>
    refine (stWrite_any s1 (S 1) (L 1) bs A n c B w hs.lt1 hs.b1 hr hn hB).mono fun e w' h => ⟨h.1, ⟨?_, ?_, ?_, ?_, ?_, hs.ne, hs.nep0, hs.nep1⟩, h.2.2.more fun i hi => .inr hi⟩
    · exact h.2.2.blk hs.b0 (fun e => hs.ne e)
    · exact h.2.1
    · exact h.2.2.blk hs.bp (fun e => hs.nep1 e.symm)
    · exact hs.lt0
    · exact upd_lt hs.lt1 bs
  | _ + 2 =>
    refine (stWrite_nil A n c w).mono fun e w' h => ⟨h.1, ?_, ?_⟩
    · rw [← h.2]; exact ⟨hs.b0, hs.b1, hs.bp, hs.lt0, hs.lt1, hs.ne, hs.nep0, hs.nep1⟩
    · rw [← h.2]; exact Chg.refl _ _
theorem SS.at_ {w : World} {s0 s1 p : Nat} {S : Nat → Nat} {L : Nat → Int} (hs : SS w s0 s1 p S L) {j : Nat} (hj : j ≤ 2) : w.cell? ⟨p, j, none⟩ = some (ptrOf s0 s1 j) := by
  rw [hs.bp.cell]
  match j, hj with
  | 0, _ => rfl
  | 1, _ => rfl
  | 2, _ => rfl
/-- Two streams and their list. -/
structure RR (w : World) (s0 s1 p : Nat) (S : Nat → Nat) (L : Nat → Int) : Prop where
  b0 : Blk w s0 74 #[.int .u32 (S 0 : Int), .int .i64 (L 0)]
  b1 : Blk w s1 74 #[.int .u32 (S 1 : Int), .int .i64 (L 1)]
  bp : Blk w p 26 #[.pointer (some ⟨s0, 0, none⟩), .pointer (some ⟨s1, 0, none⟩), .pointer none]
  lt0 : S 0 < U32
  lt1 : S 1 < U32
  ne : s0 ≠ s1
  nep0 : s0 ≠ p
  nep1 : s1 ≠ p
theorem RR.chg {w w' : World} {s0 s1 p : Nat} {S : Nat → Nat} {L : Nat → Int} {T : Nat → Prop} (h : RR w s0 s1 p S L) (c : Chg w w' T) (h0 : ¬ T s0) (h1 : ¬ T s1) (hp : ¬ T p) : RR w' s0 s1 p S L :=
  ⟨c.blk h.b0 h0, c.blk h.b1 h1, c.blk h.bp hp, h.lt0, h.lt1, h.ne, h.nep0, h.nep1⟩
theorem RR.bel {w w' : World} {s0 s1 p : Nat} {S : Nat → Nat} {L : Nat → Int} (h : RR w s0 s1 p S L) (c : Below w.heap.size w w') : RR w' s0 s1 p S L :=
  h.chg (Chg.of_below c (fun _ => False)) id id id
theorem rsWrite_j {w : World} {s0 s1 p : Nat} {S : Nat → Nat} {L : Nat → Int} (j : Nat) (hs : RR w s0 s1 p S L) (bs : List UInt8) (A : Option Addr) (n c B : Nat) (hr : Reads w B 1 A n (bs.map bv)) (hn : n ≤ 140737488355328) (hB : B ≤ w.heap.size) :
    Calls Try.prog 17 #[ptrOf s0 s1 j, .slice A n c] w fun e w' => e = .returned (.int .i64 (codeOf j)) ∧ RR w' s0 s1 p (stepS S j bs) (stepL L j n) ∧ Chg w w' (fun i => i = s0 ∨ i = s1) := by
  match j with
  | 0 =>
    refine (rsWrite_any s0 (S 0) (L 0) bs A n c B w hs.lt0 hs.b0 hr hn hB).mono fun e w' h => ⟨h.1, ⟨?_, ?_, ?_, ?_, ?_, hs.ne, hs.nep0, hs.nep1⟩, h.2.2.more fun i hi => .inl hi⟩
    · exact h.2.1
    · exact h.2.2.blk hs.b1 (fun e => hs.ne e.symm)
    · exact h.2.2.blk hs.bp (fun e => hs.nep0 e.symm)
    · exact upd_lt hs.lt0 bs
    · exact hs.lt1
  | 1 =>
    refine (rsWrite_any s1 (S 1) (L 1) bs A n c B w hs.lt1 hs.b1 hr hn hB).mono fun e w' h => ⟨h.1, ⟨?_, ?_, ?_, ?_, ?_, hs.ne, hs.nep0, hs.nep1⟩, h.2.2.more fun i hi => .inr hi⟩
    · exact h.2.2.blk hs.b0 (fun e => hs.ne e)
    · exact h.2.1
    · exact h.2.2.blk hs.bp (fun e => hs.nep1 e.symm)
    · exact hs.lt0
    · exact upd_lt hs.lt1 bs
  | _ + 2 =>
    refine (rsWrite_nil A n c w).mono fun e w' h => ⟨h.1, ?_, ?_⟩
    · rw [← h.2]; exact ⟨hs.b0, hs.b1, hs.bp, hs.lt0, hs.lt1, hs.ne, hs.nep0, hs.nep1⟩
    · rw [← h.2]; exact Chg.refl _ _
theorem RR.at_ {w : World} {s0 s1 p : Nat} {S : Nat → Nat} {L : Nat → Int} (hs : RR w s0 s1 p S L) {j : Nat} (hj : j ≤ 2) : w.cell? ⟨p, j, none⟩ = some (ptrOf s0 s1 j) := by
  rw [hs.bp.cell]
  match j, hj with
  | 0, _ => rfl
  | 1, _ => rfl
  | 2, _ => rfl

theorem tells_j {w : World} {s0 s1 p r0 r1 q : Nat} {S : Nat → Nat} {L : Nat → Int} (j : Nat) (hs : SS w s0 s1 p S L) (hr : RR w r0 r1 q S L) :
    Calls Try.prog 15 #[ptrOf s0 s1 j, ptrOf r0 r1 j] w fun e w' => e = .returned (.bool true) ∧ w = w' := by
  match j with
  | 0 => exact tells_any _ _ _ _ _ hs.b0 hr.b0
  | 1 => exact tells_any _ _ _ _ _ hs.b1 hr.b1
  | _ + 2 => exact tells_nil _
theorem two_start (w : World) : ∃ w0, w0 = (((((w.alloc (.cells #[.int .u32 0, .int .i64 0] 72)).alloc (.cells #[.int .u32 0, .int .i64 0] 72)).alloc
      (.cells #[.pointer (some ⟨w.heap.size, 0, none⟩), .pointer (some ⟨w.heap.size + 1, 0, none⟩), .pointer none] 23)).alloc (.cells #[.int .u32 0, .int .i64 0] 74)).alloc (.cells #[.int .u32 0, .int .i64 0] 74)).alloc
      (.cells #[.pointer (some ⟨w.heap.size + 1 + 1 + 1, 0, none⟩), .pointer (some ⟨w.heap.size + 1 + 1 + 1 + 1, 0, none⟩), .pointer none] 26) ∧
    SS w0 w.heap.size (w.heap.size + 1) (w.heap.size + 1 + 1) (fun _ => 0) (fun _ => 0) ∧ RR w0 (w.heap.size + 1 + 1 + 1) (w.heap.size + 1 + 1 + 1 + 1) (w.heap.size + 1 + 1 + 1 + 1 + 1) (fun _ => 0) (fun _ => 0) ∧ Below w.heap.size w w0 := by
  have nb : ∀ (w : World) (g : Nat) (hg : w.heap.size = g) (t : TypeId) (cs : Array Value), Blk (w.alloc (.cells cs t)) g t cs := fun w g hg t cs => by subst hg; exact Blk.new w t cs
  refine ⟨_, rfl, ⟨?_, ?_, ?_, by decide, by decide, by omega, by omega, by omega⟩, ⟨?_, ?_, ?_, by decide, by decide, by omega, by omega, by omega⟩, ?_⟩
  · exact (((((nb _ _ rfl _ _).alloc _).alloc _).alloc _).alloc _).alloc _
  · exact ((((nb _ _ (by simp) _ _).alloc _).alloc _).alloc _).alloc _
  · exact (((nb _ _ (by simp) _ _).alloc _).alloc _).alloc _
  · exact ((nb _ _ (by simp) _ _).alloc _).alloc _
  · exact (nb _ _ (by simp) _ _).alloc _
  · exact nb _ _ (by simp) _ _
  · exact ((((((Below.refl _ _).alloc (Nat.le_refl _) _).alloc (by simp) _).alloc (by simp; omega) _).alloc (by simp; omega) _).alloc (by simp; omega) _).alloc (by simp; omega) _

set_option maxRecDepth 100000 in
set_option maxHeartbeats 2000000 in
theorem checkStreams_walk (A : Option Addr) (n c : Nat) (w : World) (hn : n ≤ 140737488351232)
    (hs : ∀ k, k < n → ∃ b off who tell A' n' c' bs, A = some ⟨b, off, none⟩ ∧ OpAt w b (off + k * 3) who tell A' n' c' bs) :
    Calls Try.prog 3 #[.slice A n c] w fun e w' => e = .returned (.bool true) ∧ Below w.heap.size w w' := by
  have HS := hide hs
  clear hs
  go_enter Try.func3, Try.ntmps3
  go_wp2_with (first
    | (go_at_call 13; refine (new_any _).mono ?_; rintro e w1 ⟨rfl, rfl⟩)
    | (go_at_call 14; refine (refNew_any _).mono ?_; rintro e w1 ⟨rfl, rfl⟩))
  obtain ⟨w0, hw0, h2, h3, hb0⟩ := two_start w
  rw [← hw0]
  have m1 : w.heap.size ≤ w.heap.size + 1 := by omega
  have m2 : w.heap.size ≤ w.heap.size + 1 + 1 + 1 := by omega
  have m3 : w.heap.size ≤ w.heap.size + 1 + 1 + 1 + 1 := by omega
  generalize w.heap.size + 1 + 1 + 1 + 1 + 1 = q0 at h2 h3 ⊢
  generalize w.heap.size + 1 + 1 + 1 + 1 = r1 at h2 h3 m3 ⊢
  generalize w.heap.size + 1 + 1 + 1 = r0 at h2 h3 m2 ⊢
  generalize w.heap.size + 1 + 1 = p0 at h2 h3 ⊢
  generalize w.heap.size + 1 = s1 at h2 h3 m1 ⊢
  have HB0 := hide hb0
  clear hw0 hb0
  go_loopg [5] n (fun g i wr => ∃ (k : Nat) (S : Nat → Nat) (L : Nat → Int), k + g = n ∧ i = .int .i64 (k : Int) ∧ SS wr w.heap.size s1 p0 S L ∧ RR wr r0 r1 q0 S L ∧ Below w.heap.size w wr)
  case atStart => exact ⟨0, _, _, by omega, rfl, h2, h3, unhide HB0⟩
  case round =>
    obtain ⟨k, S, L, hk, rfl, ht, hu, hb⟩ := hrel
    clear h2 h3 HB0
    by_cases hlt : k < n
    · obtain ⟨g, rfl⟩ : ∃ g, gk = g + 1 := ⟨gk - 1, by omega⟩
      obtain ⟨b, off, who, tell, A1, n1, c1, bs, rfl, ho⟩ := (unhide HS) k hlt
      have o1 : wr.cell? ⟨b, off + k * 3, none⟩ = some (.int .i64 who) := (hb.cell (p := ⟨b, off + k * 3, none⟩) ho.lt).trans ho.who
      have o2 : wr.cell? ⟨b, off + k * 3 + 1, none⟩ = some (.bool tell) := (hb.cell (p := ⟨b, off + k * 3 + 1, none⟩) ho.lt).trans ho.tell
      have o3 : wr.cell? ⟨b, off + k * 3 + 2, none⟩ = some (.slice A1 n1 c1) := (hb.cell (p := ⟨b, off + k * 3 + 2, none⟩) ho.lt).trans ho.data
      have hz := hb.size
      have HO := hide ho
      clear ho
      by_cases hw : 0 ≤ who ∧ who ≤ 2
      · obtain ⟨j, rfl⟩ := Int.eq_ofNat_of_zero_le hw.1
        have hj : j ≤ 2 := by omega
        have hj0 : ¬ ((j : Int) < 0) := by omega
        have hj1 : (j : Int) ≤ 2 := by omega
        obtain ⟨sp, hsp⟩ : ∃ sp, ptrOf w.heap.size s1 j = sp := ⟨_, rfl⟩
        obtain ⟨rp, hrp⟩ : ∃ rp, ptrOf r0 r1 j = rp := ⟨_, rfl⟩
        have P1 := fun W (h : SS W w.heap.size s1 p0 S L) => hide (hsp ▸ h.at_ hj)
        have Q1 := fun W (h : RR W r0 r1 q0 S L) => hide (hrp ▸ h.at_ hj)
        cases tell with
        | true =>
          have hT : ∀ o nq, Hid (Calls Try.prog 15 #[sp, rp] ((wr.alloc o).drewN nq) fun e w' => e = .returned (.bool true) ∧ (wr.alloc o).drewN nq = w') := fun o nq => by
            rw [← hsp, ← hrp]
            exact hide (tells_j (w := (wr.alloc o).drewN nq) j (ht.bel (below_drewN ((Below.refl _ _).alloc (Nat.le_refl _) o) nq)) (hu.bel (below_drewN ((Below.refl _ _).alloc (Nat.le_refl _) o) nq)))
          have hp : ∀ o, (wr.alloc o).cell? ⟨p0, j, none⟩ = some sp := fun o => unhide (P1 _ (ht.bel ((Below.refl _ _).alloc (Nat.le_refl _) o)))
          have hq : ∀ o, (wr.alloc o).cell? ⟨q0, j, none⟩ = some rp := fun o => unhide (Q1 _ (hu.bel ((Below.refl _ _).alloc (Nat.le_refl _) o)))
          have HT := hide ht
          have HU := hide hu
          have HB := hide hb
          clear ht hu hb P1 Q1 hsp hrp HS
          go_wp2
          go_quiet ((go_at_call 15; exact quiet_left (unhide (hT _ _))))
          go_wp2
          go_roundg g
          case rel => exact ⟨k + 1, S, L, by omega, by go_num, (unhide HT).bel (below_drewN ((Below.refl _ _).alloc (Nat.le_refl _) _) _), (unhide HU).bel (below_drewN ((Below.refl _ _).alloc (Nat.le_refl _) _) _), below_drewN ((unhide HB).alloc hz _) _⟩
          case measure => omega
        | false =>
          have hnext : SS wr w.heap.size s1 p0 S L ∧ RR wr r0 r1 q0 S L ∧ Below w.heap.size w wr := ⟨ht, hu, hb⟩
          have HN := hide hnext
          have P2 := hide P1
          have Q2 := hide Q1
          have HSP := Lib.hid hsp
          have HRP := Lib.hid hrp
          clear ht hu hb hnext P1 Q1 hsp hrp
          go_wp2_with fail
          obtain ⟨W, hW⟩ : ∃ W, W = wr.alloc (.cells #[.int .i64 (j : Int), .bool false, .slice A1 n1 c1] 31) := ⟨_, rfl⟩
          rw [← hW]
          have hbx : Blk W wr.heap.size 31 #[.int .i64 (j : Int), .bool false, .slice A1 n1 c1] := by rw [hW]; exact Blk.new _ _ _
          have hWb : Below wr.heap.size wr W := by rw [hW]; exact (Below.refl _ _).alloc (Nat.le_refl _) _
          have hWz : W.heap.size = wr.heap.size + 1 := by rw [hW]; simp
          have hRW : Reads W W.heap.size 1 A1 n1 (bs.map bv) := (((unhide HO).reads.below (unhide HN).2.2).more hz).below hWb |>.more hWb.size
          have hsm := (unhide HO).small
          clear hW o1 o2 o3
          refine (lent_any A1 n1 c1 bs W hRW hsm).mono ?_
          rintro e w1 ⟨g2, cap2, rfl, hcap, hg2, hown, hb1⟩
          -- what stands behind lent
          have hS1 := ((unhide HN).1.bel hWb).bel hb1
          have hR1 := ((unhide HN).2.1.bel hWb).bel hb1
          have hx1 := hbx.below hb1 hbx.lt
          have hz1 := hb1.size
          have hRd1 := (hRW.below hb1).more hb1.size
          have q1 := unhide (unhide Q2 w1 hR1)
          have b0 : w1.cell? ⟨wr.heap.size, 0, none⟩ = some (.int .i64 (j : Int)) := hx1.cell 0
          have b2 : w1.cell? ⟨wr.heap.size, 2, none⟩ = some (.slice A1 n1 c1) := hx1.cell 2
          have hWr := hide (rsWrite_j (w := w1.drew) j (hR1.bel (Below.refl _ _).drew) bs A1 n1 c1 w1.heap.size hRd1.drew (by omega) (Nat.le_refl _))
          rw [HRP.out] at hWr
          have K1 : Hid (SS w1 w.heap.size s1 p0 S L ∧ RR w1 r0 r1 q0 S L ∧ Blk w1 wr.heap.size 31 #[.int .i64 (j : Int), .bool false, .slice A1 n1 c1] ∧ Reads w1 w1.heap.size 1 A1 n1 (bs.map bv) ∧ Below wr.heap.size wr w1 ∧
            w1.ownsRow W.heap.size 5 1 (.slice (some ⟨g2, 0, none⟩) (n1 + 5 : Nat) cap2) (n1 + 5) ((bs ++ mk 5).map bv)) := ⟨hS1, hR1, hx1, hRd1, hWb.trans (hb1.mono hWb.size), hown⟩
          clear hS1 hR1 hx1 hRd1 hown hb1 hRW hWb hbx
          have hj2 : (0 : Int) ≤ (j : Int) := by omega
          have hj3 : (j : Int) < 3 := by omega
          go_wp2_with fail
          go_region_held3 (fun w' => w'.cell? ⟨q0, j, none⟩ = some rp ∧ w'.cell? ⟨wr.heap.size, 0, none⟩ = some (.int .i64 (j : Int)) ∧ w'.cell? ⟨wr.heap.size, 2, none⟩ = some (.slice A1 n1 c1)) (first | go_keep) ((first
            | (go_at_call 17
               refine (unhide hWr).mono ?_
               rintro e w2 ⟨rfl, hR2, hc2⟩
               have hr0 := (unhide HN).2.1.b0.lt
               have hr1 := (unhide HN).2.1.b1.lt
               have hx2 : Blk w2 wr.heap.size 31 #[.int .i64 (j : Int), .bool false, .slice A1 n1 c1] := hc2.blk (w := w1.drew) K1.out.2.2.1.drew (by omega)
               have d0 : w2.cell? ⟨wr.heap.size, 0, none⟩ = some (.int .i64 (j : Int)) := hx2.cell 0
               have d2 : w2.cell? ⟨wr.heap.size, 2, none⟩ = some (.slice A1 n1 c1) := hx2.cell 2
               have dq : w2.cell? ⟨q0, j, none⟩ = some rp := by rw [← HRP.out]; exact hR2.at_ hj
               have hs1 := K1.out.1
               have hrr := K1.out.2.1
               have hS2 : SS w2 w.heap.size s1 p0 S L := (hs1.bel (Below.refl _ _).drew).chg hc2 (by
                   rintro (e | e)
                   · exact hs1.b0.ne_ hrr.b0 (by decide) e
                   · exact hs1.b0.ne_ hrr.b1 (by decide) e) (by
                   rintro (e | e)
                   · exact hs1.b1.ne_ hrr.b0 (by decide) e
                   · exact hs1.b1.ne_ hrr.b1 (by decide) e) (by
                   rintro (e | e)
                   · exact hs1.bp.ne_ hrr.b0 (by decide) e
                   · exact hs1.bp.ne_ hrr.b1 (by decide) e)
               have dp : w2.cell? ⟨p0, j, none⟩ = some sp := by rw [← HSP.out]; exact hS2.at_ hj
               have hown2 : w2.ownsRow W.heap.size 5 1 (.slice (some ⟨g2, 0, none⟩) (n1 + 5 : Nat) cap2) (n1 + 5) ((bs ++ mk 5).map bv) := hc2.own (w := w1.drew) K1.out.2.2.2.2.2.drew (by
                   intro i hi e
                   cases hi
                   have e' : g2 = r0 ∨ g2 = r1 := e
                   omega)
               have hlen : bs.length = n1 := by have := (unhide HO).reads.1; simpa using this
               have hWs := hide (stWrite_j j hS2 bs (some ⟨g2, 0, none⟩) n1 cap2 w2.heap.size ((Reads.of_own hown2).front hlen) (by omega) (Nat.le_refl _))
               rw [HSP.out] at hWs
               have K2 : Hid (SS w2 w.heap.size s1 p0 S L ∧ RR w2 r0 r1 q0 (stepS S j bs) (stepL L j n1) ∧ Blk w2 wr.heap.size 31 #[.int .i64 (j : Int), .bool false, .slice A1 n1 c1] ∧
                   w2.ownsRow W.heap.size 5 1 (.slice (some ⟨g2, 0, none⟩) (n1 + 5 : Nat) cap2) (n1 + 5) ((bs ++ mk 5).map bv) ∧ Below w.heap.size w w2 ∧ wr.heap.size + 1 ≤ w2.heap.size) :=
                 ⟨hS2, hR2, hx2, hown2, ((unhide HN).2.2.trans (K1.out.2.2.2.2.1.mono hz)).drew.trans (hc2.below (B := w.heap.size) (w := w1.drew) (Nat.le_trans hz K1.out.2.2.2.2.1.size) (by intro i hi e; omega)), by have := hx2.lt; omega⟩
               clear hc2 hR2 hx2 hs1 hrr hS2 hown2 hlen)))
          go_wp2_with fail
          refine (unhide hWs).mono ?_
          rintro e w3 ⟨rfl, hS3, hc3⟩
          have hs2 := K2.out.1
          have hr2 := K2.out.2.1
          have hlen : bs.length = n1 := by have := (unhide HO).reads.1; simpa using this
          have hR3 : RR w3 r0 r1 q0 (stepS S j bs) (stepL L j n1) := hr2.chg hc3 (by
                   rintro (e | e)
                   · exact hr2.b0.ne_ hs2.b0 (by decide) e
                   · exact hr2.b0.ne_ hs2.b1 (by decide) e) (by
                   rintro (e | e)
                   · exact hr2.b1.ne_ hs2.b0 (by decide) e
                   · exact hr2.b1.ne_ hs2.b1 (by decide) e) (by
                   rintro (e | e)
                   · exact hr2.bp.ne_ hs2.b0 (by decide) e
                   · exact hr2.bp.ne_ hs2.b1 (by decide) e)
          have hss0 := (unhide HN).1.b0.lt
          have hss1 := (unhide HN).1.b1.lt
          have hss2 := (unhide HN).1.bp.lt
          have hss3 := (unhide HN).2.1.b0.lt
          have hss4 := (unhide HN).2.1.b1.lt
          have hss5 := (unhide HN).2.1.bp.lt
          have hx3 : Blk w3 wr.heap.size 31 #[.int .i64 (j : Int), .bool false, .slice A1 n1 c1] := hc3.blk K2.out.2.2.1 (by omega)
          have hown3 : w3.ownsRow W.heap.size 5 1 (.slice (some ⟨g2, 0, none⟩) (n1 + 5 : Nat) cap2) (n1 + 5) ((bs ++ mk 5).map bv) := hc3.own K2.out.2.2.2.1 (by
                   intro i hi e
                   cases hi
                   have e' : g2 = w.heap.size ∨ g2 = s1 := e
                   omega)
          have hb3 : Below w.heap.size w w3 := K2.out.2.2.2.2.1.trans (hc3.below (B := w.heap.size) K2.out.2.2.2.2.1.size (by intro i hi e; omega))
          have c2 : w3.cell? ⟨wr.heap.size, 2, none⟩ = some (.slice A1 n1 c1) := hx3.cell 2
          have hK := hide (kept_any A1 g2 n1 cap2 n1 c1 w3.heap.size bs bs w3 hlen hcap (Reads.of_own hown3) (((unhide HO).reads.below hb3).more hb3.size) (by omega) (Nat.le_refl _))
          rw [show (bs == bs) = true by simp] at hK
          have hz3 : wr.heap.size + 1 ≤ w3.heap.size := Nat.le_trans K2.out.2.2.2.2.2 hc3.size
          have K3 : Hid (SS w3 w.heap.size s1 p0 (stepS S j bs) (stepL L j n1) ∧ RR w3 r0 r1 q0 (stepS S j bs) (stepL L j n1) ∧ w3.ownsRow W.heap.size 5 1 (.slice (some ⟨g2, 0, none⟩) (n1 + 5 : Nat) cap2) (n1 + 5) ((bs ++ mk 5).map bv) ∧ Below w.heap.size w w3) := ⟨hS3, hR3, hown3, hb3⟩
          clear hS3 hR3 hown3 hb3 hx3 hs2 hr2 hc3 K2 K1 hWr hWs HN P2 Q2
          go_wp2_with (first
            | (go_at_call 19; refine (num_any _ _).mono ?_; rintro e w4 ⟨rfl, rfl⟩)
            | (go_at_call 20; refine (unhide hK).mono ?_; rintro e w4 ⟨rfl, hb4⟩))
          have K4 : Hid (SS w4 w.heap.size s1 p0 (stepS S j bs) (stepL L j n1) ∧ RR w4 r0 r1 q0 (stepS S j bs) (stepL L j n1) ∧ Below w.heap.size w w4) := ⟨K3.out.1.bel hb4, K3.out.2.1.bel hb4, K3.out.2.2.2.trans (hb4.mono K3.out.2.2.2.size)⟩
          have hown4 : w4.ownsRow W.heap.size 5 1 (.slice (some ⟨g2, 0, none⟩) (n1 + 5 : Nat) cap2) (n1 + 5) ((bs ++ mk 5).map bv) := (Chg.of_below hb4 (fun _ => False)).own K3.out.2.2.1 (fun _ _ h => h)
          have hlb : (bs ++ mk 5).length = n1 + 5 := by simp [hlen, mk_len]
          clear K3 hb4 hK HS HO
          obtain ⟨wo, rfl⟩ : ∃ wo : World, wo = wr := ⟨_, rfl⟩
          go_loopg [10] n1 (fun q i wx => ∃ (m : Nat) (zs : List UInt8), m + q = n1 ∧ i = .int .i64 (m : Int) ∧ zs.length = n1 + 5 ∧ wx.ownsRow W.heap.size 5 1 (.slice (some ⟨g2, 0, none⟩) (n1 + 5 : Nat) cap2) (n1 + 5) (zs.map bv) ∧ w4.grownBy wx (some g2))
          case atStart => exact ⟨0, bs ++ mk 5, by omega, rfl, hlb, hown4, World.grownBy.refl _ _⟩
          case round =>
            obtain ⟨m, zs, hm, rfl, hzl, hoz, hgz⟩ := hrel
            clear hown4 hlb
            by_cases hmn : m < n1
            · obtain ⟨q, rfl⟩ : ∃ q, gk = q + 1 := ⟨gk - 1, by omega⟩
              obtain ⟨d, hd⟩ : ∃ d, zs[m]? = some d := ⟨_, List.getElem?_eq_getElem (by omega)⟩
              have hcz : wr.cell? ⟨g2, m, none⟩ = some (.int .u8 (d.toNat : Int)) := by rw [hoz.cellAt m (by omega), List.getElem?_map, hd]; rfl
              have hfz : wr.frozen? ⟨g2, m, none⟩ = false := hoz.frozenAt m
              have HZ := hide (hoz.stored m (.int .u8 (((d.toNat : Int) + 1) % 256)))
              have HX : Hid ((zs.map bv).set m (.int .u8 (((d.toNat : Int) + 1) % 256)) = (zs.set m (UInt8.ofNat ((d.toNat + 1) % 256))).map bv) := by
                show _ = _
                rw [show ((d.toNat : Int) + 1) % 256 = (((d.toNat + 1) % 256 : Nat) : Int) by omega, bv_nat _ (by omega), ← List.map_set]
              have HG := hide hgz
              clear hoz hgz hd
              go_wp2
              go_roundg q
              case rel => exact ⟨m + 1, zs.set m (UInt8.ofNat ((d.toNat + 1) % 256)), by omega, by go_num, by simpa using hzl, by rw [← HX.out]; exact (unhide HZ).1, grownBy_trans (unhide HG) (unhide HZ).2 (.inl rfl)⟩
              case measure => omega
            · have HG := hide hgz
              clear hoz hgz
              go_wp2
              go_roundg g
              case rel =>
                have hg := Chg.of_grown (unhide HG)
                have a1 := K4.out.1.b0.lt
                have hgw : w.heap.size ≤ g2 := by omega
                refine ⟨k + 1, stepS S j bs, stepL L j n1, by omega, by go_num, K4.out.1.chg hg ?_ ?_ ?_, K4.out.2.1.chg hg ?_ ?_ ?_, K4.out.2.2.grown (unhide HG) K4.out.2.2.size (fun _ hi => by cases hi; exact hgw)⟩
                all_goals (intro e; injection e with e; omega)
              case measure => omega
      · have HT := hide ht
        have HU := hide hu
        have HB := hide hb
        clear ht hu hb HS
        have hw' : who < 0 ∨ 2 < who := by omega
        clear hw
        rcases hw' with hw | hw
        all_goals
          go_wp2
          go_roundg g
          case rel => exact ⟨k + 1, S, L, by omega, by go_num, (unhide HT).bel ((Below.refl _ _).alloc (Nat.le_refl _) _), (unhide HU).bel ((Below.refl _ _).alloc (Nat.le_refl _) _), (unhide HB).alloc hz _⟩
          case measure => omega
    · have p_ : ∀ j, j ≤ 2 → wr.cell? ⟨p0, j, none⟩ = some (ptrOf w.heap.size s1 j) := fun j hj => ht.at_ hj
      have q_ : ∀ j, j ≤ 2 → wr.cell? ⟨q0, j, none⟩ = some (ptrOf r0 r1 j) := fun j hj => hu.at_ hj
      have e0 : wr.cell? ⟨p0, 0, none⟩ = some (.pointer (some ⟨w.heap.size, 0, none⟩)) := p_ 0 (by omega)
      have e1 : wr.cell? ⟨p0, 1, none⟩ = some (.pointer (some ⟨s1, 0, none⟩)) := p_ 1 (by omega)
      have e2 : wr.cell? ⟨p0, 2, none⟩ = some (.pointer none) := p_ 2 (by omega)
      have f0 : wr.cell? ⟨q0, 0, none⟩ = some (.pointer (some ⟨r0, 0, none⟩)) := q_ 0 (by omega)
      have f1 : wr.cell? ⟨q0, 1, none⟩ = some (.pointer (some ⟨r1, 0, none⟩)) := q_ 1 (by omega)
      have f2 : wr.cell? ⟨q0, 2, none⟩ = some (.pointer none) := q_ 2 (by omega)
      have T0 := fun m => hide (tells_any _ _ _ _ _ (ht.b0.drewN m) (hu.b0.drewN m))
      have T1 := fun m => hide (tells_any _ _ _ _ _ (ht.b1.drewN m) (hu.b1.drewN m))
      have HB := hide hb
      clear p_ q_ ht hu hb HS
      go_wp2
      go_quiet ((first
        | (go_at_call 15; with_reducible exact quiet_left (unhide (T0 _)))
        | (go_at_call 15; with_reducible exact quiet_left (unhide (T1 _)))
        | (go_at_call 15; with_reducible exact quiet_add_left (unhide (T0 _)))
        | (go_at_call 15; with_reducible exact quiet_add_left (unhide (T1 _)))
        | (go_at_call 15; with_reducible exact quiet_left (tells_nil _))
        | (go_at_call 15; with_reducible exact quiet_add_left (tells_nil _))))
      go_wp2
      go_ret
      exact ⟨rfl, below_drewN (unhide HB) _⟩
end Go.Proofs.Ytoipkpndfgcmcaa

/-
  CheckSums: Sum, Update, Join, Seal and Whole of whatever is handed in are the document's: the law's walk. Condition: fewer than 2^47 bytes.
-/
namespace Go.Proofs.Ytoipkpndfgcmcaa
open Go.RowKit

theorem own_capA {w : World} {B n c N : Nat} {A : Option Addr} {e : TypeId} {xs : List Value} (h : w.ownsRow B e 1 (.slice A n c) N xs) : n ≤ c := by
  rcases h.2 with ⟨h', _⟩ | ⟨g', cap', cur, h', _, _, hn, _⟩
  · cases h'
    exact Nat.le_refl _
  · cases h'
    exact hn

theorem whole_sealed (bs : List UInt8) : whole (sealed bs) = true := by
  have h : (sealed bs).length = bs.length + 4 := by simp [sealed, le4_len]
  rw [whole_long h]
  simp [sealed]

theorem joins (a b : Nat) (k : Int) (ha : a < U32) (hb : b < U32) (_h1 : -9223372036854775808 ≤ k) (h2 : k ≤ 9223372036854775807) :
    ∃ J F : Int, (∀ w, Calls Try.prog 33 #[.int .u32 (a : Int), .int .u32 (b : Int), .int .i64 k] w fun e w' => e = .returned (.tuple #[.int .u32 J, .int .i64 F]) ∧ Below w.heap.size w w')
      ∧ (∀ w, Calls Try.prog 32 #[.int .u32 (a : Int), .int .u32 (b : Int), .int .i64 k] w fun e w' => e = .returned (.tuple #[.int .u32 J, .int .i64 F]) ∧ Below w.heap.size w w') := by
  by_cases hk : k < 0
  · exact ⟨0, 2, fun w => (join_neg a b k w hk).mono (by rintro e w' ⟨rfl, rfl⟩; exact ⟨rfl, Below.refl _ _⟩), fun w => (refJoin_neg a b k w hk).mono (by rintro e w' ⟨rfl, rfl⟩; exact ⟨rfl, Below.refl _ _⟩)⟩
  · obtain ⟨m, rfl⟩ := Int.eq_ofNat_of_zero_le (by omega : 0 ≤ k)
    exact ⟨_, _, fun w => join_any a b m w ha hb (by omega), fun w => refJoin_any a b m w ha hb (by omega)⟩

set_option maxRecDepth 100000 in
set_option maxHeartbeats 1600000 in
theorem checkSums_walk (A : Option Addr) (n c : Nat) (bs : List UInt8) (a : Nat) (k : Int) (w : World) (hr : Reads w w.heap.size 1 A n (bs.map bv)) (hn : n ≤ 140737488351232) (hnc : n ≤ c) (ha : a < U32) (h1 : -9223372036854775808 ≤ k) (h2 : k ≤ 9223372036854775807) :
    Calls Try.prog 5 #[.slice A n c, .int .u32 (a : Int), .int .i64 k] w fun e w' => e = .returned (.bool true) ∧ Below w.heap.size w w' := by
  have hlen : bs.length = n := by have := hr.1; simpa using this
  have hL := hide (lent_any A n c bs w hr hn)
  obtain ⟨J, F, hj, hj'⟩ := joins a (upd 0 bs) k ha (upd_lt (by decide) _) h1 h2
  have HJ := fun w => hide (hj w)
  have HJ' := fun w => hide (hj' w)
  clear hj hj' h1 h2
  have HNum := fun x w => hide (num_any x w)
  have HR := hide hr
  clear hr
  go_enter Try.func5, Try.ntmps5
  go_wp2_with (go_at_call 16; refine (unhide hL).mono ?_; rintro e w1 ⟨g, cap, rfl, hcap, hg, hown, hb1⟩)
  obtain ⟨z, hz⟩ : ∃ z, upd 0 bs = z := ⟨_, rfl⟩
  obtain ⟨y, hy⟩ : ∃ y, upd a bs = y := ⟨_, rfl⟩
  obtain ⟨wb, hwb⟩ : ∃ b, whole bs = b := ⟨_, rfl⟩
  obtain ⟨sl, hsl⟩ : ∃ b, sealed bs = b := ⟨_, rfl⟩
  have hsll : sl.length = n + 4 := by rw [← hsl, ← hlen]; simp [sealed, le4_len]
  have hws : whole sl = true := by rw [← hsl]; exact whole_sealed bs
  have r1 := (unhide HR).below hb1
  have r2 := Reads.of_own hown
  have s1 := hb1.size
  have hgl : g < w1.heap.size := by
    obtain ⟨ad, e, hb, _⟩ := r2.2 (by omega)
    injection e with e
    subst e
    exact hb
  have hin : ∀ w', Below w1.heap.size w1 w' → Reads w' w1.heap.size 1 (some ⟨g, 0, none⟩) (n + 5) ((bs ++ mk 5).map bv) := fun w' h => r2.below h
  have hbb : ∀ w', Below w1.heap.size w1 w' → Reads w' w.heap.size 1 A n (bs.map bv) := fun w' h => r1.below (h.mono s1)
  have cSum : ∀ w', Below w1.heap.size w1 w' → Hid (Calls Try.prog 24 #[.slice (some ⟨g, 0, none⟩) n cap] w' fun e w2 => e = .returned (.int .u32 (z : Int)) ∧ Below w1.heap.size w1 w2) := fun w' h => hide <| by
    rw [← hz]; exact (sum_any bs _ n cap w1.heap.size w' ((hin w' h).front hlen) (by omega) h.size).mono fun e w2 ⟨he, hb⟩ => ⟨he, h.trans (hb.mono h.size)⟩
  have cUpd : ∀ w', Below w1.heap.size w1 w' → Hid (Calls Try.prog 26 #[.int .u32 (a : Int), .slice (some ⟨g, 0, none⟩) n cap] w' fun e w2 => e = .returned (.int .u32 (y : Int)) ∧ Below w1.heap.size w1 w2) := fun w' h => hide <| by
    rw [← hy]; exact (update_any a bs _ n cap w1.heap.size w' ha ((hin w' h).front hlen) (by omega) h.size).mono fun e w2 ⟨he, hb⟩ => ⟨he, h.trans (hb.mono h.size)⟩
  have cWh : ∀ w', Below w1.heap.size w1 w' → Hid (Calls Try.prog 28 #[.slice (some ⟨g, 0, none⟩) n cap] w' fun e w2 => e = .returned (.bool wb) ∧ Below w1.heap.size w1 w2) := fun w' h => hide <| by
    rw [← hwb]; exact (whole_any _ n cap w1.heap.size bs w' ((hin w' h).front hlen) (by omega) h.size (by omega)).mono fun e w2 ⟨he, hb⟩ => ⟨he, h.trans (hb.mono h.size)⟩
  have cSeal : ∀ w', Below w1.heap.size w1 w' → Hid (Calls Try.prog 30 #[.slice (some ⟨g, 0, none⟩) n cap] w' fun e w2 => ∃ v, e = .returned v ∧ w2.ownsRow w'.heap.size 5 1 v (n + 4) (sl.map bv) ∧ Below w1.heap.size w1 w2 ∧ Below w'.heap.size w' w2) := fun w' h => hide <| by
    rw [← hsl]; exact (seal_any _ n cap w1.heap.size bs w' ((hin w' h).front hlen) (by omega) h.size).mono fun e w2 ⟨v, he, ho, hb⟩ => ⟨v, he, ho, h.trans (hb.mono h.size), hb⟩
  have rSum : ∀ w', Below w1.heap.size w1 w' → Hid (Calls Try.prog 25 #[.slice A n c] w' fun e w2 => e = .returned (.int .u32 (z : Int)) ∧ w' = w2) := fun w' h => hide <| by
    rw [← hz]; exact refSum_any bs _ n c w.heap.size w' (hbb w' h) (by omega)
  have rUpd : ∀ w', Below w1.heap.size w1 w' → Hid (Calls Try.prog 27 #[.int .u32 (a : Int), .slice A n c] w' fun e w2 => e = .returned (.int .u32 (y : Int)) ∧ w' = w2) := fun w' h => hide <| by
    rw [← hy]; exact refUpdate_any a bs _ n c w.heap.size w' ha (hbb w' h) (by omega)
  have rWh : ∀ w', Below w1.heap.size w1 w' → Hid (Calls Try.prog 29 #[.slice A n c] w' fun e w2 => e = .returned (.bool wb) ∧ Below w1.heap.size w1 w2) := fun w' h => hide <| by
    rw [← hwb]; exact (refWhole_any _ n c w.heap.size bs w' (hbb w' h) (by omega) (Nat.le_trans s1 h.size) hnc).mono fun e w2 ⟨he, hb⟩ => ⟨he, h.trans (hb.mono h.size)⟩
  have rSeal : ∀ w', Below w1.heap.size w1 w' → Hid (Calls Try.prog 31 #[.slice A n c] w' fun e w2 => ∃ v, e = .returned v ∧ w2.ownsRow w'.heap.size 5 1 v (n + 4) (sl.map bv) ∧ Below w1.heap.size w1 w2 ∧ Below w'.heap.size w' w2) := fun w' h => hide <| by
    rw [← hsl]; exact (refSeal_any _ n c w.heap.size bs w' (hbb w' h) (by omega) (Nat.le_trans s1 h.size)).mono fun e w2 ⟨v, he, ho, hb⟩ => ⟨v, he, ho, h.trans (hb.mono h.size), hb⟩
  have cKept : ∀ w', Below w1.heap.size w1 w' → Hid (Calls Try.prog 20 #[.slice (some ⟨g, 0, none⟩) n cap, .slice A n c] w' fun e w2 => e = .returned (.bool true) ∧ Below w1.heap.size w1 w2) := fun w' h => hide <| by
    refine (kept_any A g n cap n c w1.heap.size bs bs w' hlen hcap (hin w' h) ((hbb w' h).more s1) (by omega) h.size).mono fun e w2 ⟨he, hb⟩ => ⟨?_, h.trans (hb.mono h.size)⟩
    rw [he]; simp
  have HB0 : Hid (Below w1.heap.size w1 w1) := hide (Below.refl _ _)
  have Hb1 := hide hb1
  rw [hz] at HJ HJ'
  clear r1 r2 hown hb1 hin hbb hsl hz hy hwb hL HR
  go_wp2_with (go_at_call 24; refine (unhide (cSum _ (unhide HB0))).mono ?_; rintro e w2 ⟨rfl, hb2⟩)
  have HB2 := hide hb2
  clear hb2
  go_wp2_with (go_at_call 25; refine (unhide (rSum _ (unhide HB2))).mono ?_; rintro e w3 ⟨rfl, rfl⟩)
  go_wp2_with (go_at_call 26; refine (unhide (cUpd _ (unhide HB2))).mono ?_; rintro e w3 ⟨rfl, hb3⟩)
  have HB3 := hide hb3
  clear hb3
  go_wp2_with (go_at_call 27; refine (unhide (rUpd _ (unhide HB3))).mono ?_; rintro e w4 ⟨rfl, rfl⟩)
  go_wp2_with (go_at_call 28; refine (unhide (cWh _ (unhide HB3))).mono ?_; rintro e w4 ⟨rfl, hb4⟩)
  have HB4 := hide hb4
  clear hb4
  have hbne : (wb != wb) = false := by simp
  go_wp2_with (go_at_call 29; refine (unhide (rWh _ (unhide HB4))).mono ?_; rintro e w5 ⟨rfl, hb5⟩)
  have HB5 := hide hb5
  clear hb5
  go_wp2_with (go_at_call 30; refine (unhide (cSeal _ (unhide HB5))).mono ?_; rintro e w6 ⟨v6, rfl, ho6, hb6, hc6⟩)
  obtain ⟨A6, c6, rfl⟩ := ho6.shape
  have HB6 := hide hb6
  have HO6 := hide ho6
  clear ho6 hb6 hc6
  go_wp2_with (go_at_call 31; refine (unhide (rSeal _ (unhide HB6))).mono ?_; rintro e w7 ⟨v7, rfl, ho7, hb7, hc7⟩)
  obtain ⟨A7, c7, rfl⟩ := ho7.shape
  have q6 := (Reads.of_own (unhide HO6)).below hc7
  have q7 := Reads.of_own ho7
  have hnc6 : n + 4 ≤ c6 := own_capA (unhide HO6)
  have cSame := hide (same_any A6 A7 (n + 4 : Nat) c6 (n + 4 : Nat) c7 sl sl w7 w7.heap.size (q6.more hc7.size) q7 (by omega) (Nat.le_refl _))
  have cW6 := fun w' (h : Below w7.heap.size w7 w') => hide (whole_any A6 (n + 4 : Nat) c6 w6.heap.size sl w' (q6.below (h.mono hc7.size)) (by omega) (Nat.le_trans hc7.size h.size) hnc6)
  rw [show (sl == sl) = true by simp] at cSame
  rw [hws] at cW6
  have HB7 := hide hb7
  clear ho7 hb7 hc7 q6 q7 HO6
  go_wp2_with (go_at_call 23; refine (unhide (cSame)).mono ?_; rintro e w8 ⟨rfl, hb8⟩)
  have HC8 := hide hb8
  have HB8 := hide ((unhide HB7).trans (hb8.mono (unhide HB7).size))
  clear hb8
  go_wp2_with (go_at_call 28; refine (unhide (cW6 _ (unhide HC8))).mono ?_; rintro e w9 ⟨rfl, hb9⟩)
  have HB9 := hide ((unhide HB8).trans (hb9.mono (unhide HB8).size))
  clear hb9
  go_wp2_with (go_at_call 20; refine (unhide (cKept _ (unhide HB9))).mono ?_; rintro e w10 ⟨rfl, hb10⟩)
  have HB10 := hide hb10
  clear hb10
  go_wp2_with (go_at_call 25; refine (unhide (rSum _ (unhide HB10))).mono ?_; rintro e w11 ⟨rfl, rfl⟩)
  go_wp2_with (go_at_call 32; refine (unhide (HJ' _)).mono ?_; rintro e w11 ⟨rfl, hb11⟩)
  have HB11 := hide ((unhide HB10).trans (hb11.mono (unhide HB10).size))
  clear hb11
  go_wp2_with (go_at_call 24; refine (unhide (cSum _ (unhide HB11))).mono ?_; rintro e w12 ⟨rfl, hb12⟩)
  have HB12 := hide hb12
  clear hb12
  go_wp2_with (go_at_call 33; refine (unhide (HJ _)).mono ?_; rintro e w13 ⟨rfl, hb13⟩)
  have HB13 := hide ((unhide HB12).trans (hb13.mono (unhide HB12).size))
  clear hb13
  go_wp2_with (go_at_call 19; refine (unhide (HNum _ _)).mono ?_; rintro e w14 ⟨rfl, rfl⟩)
  go_ret
  exact ⟨rfl, (unhide Hb1).trans ((unhide HB13).mono s1)⟩
end Go.Proofs.Ytoipkpndfgcmcaa

/-
  Bits turned within 32 of one another: what they turn of the sum. Plain mathematics, no program in sight.
-/
namespace Go.Proofs.Ytoipkpndfgcmcaa
open Go.RowKit

/-- The bytes after k rounds. -/
def tl (bs : List UInt8) (p m : Nat) : Nat → List UInt8
  | 0 => bs
  | k + 1 => if (m / 2 ^ k) % 2 = 1 ∧ (p + k) / 8 < bs.length then (tl bs p m k).set ((p + k) / 8) ((tl bs p m k).getD ((p + k) / 8) 0 ^^^ UInt8.ofNat (2 ^ ((p + k) % 8))) else tl bs p m k
theorem tl_len (bs : List UInt8) (p m k : Nat) : (tl bs p m k).length = bs.length := by
  induction k with
  | zero => rfl
  | succ k ih => unfold tl; split <;> simp [ih]
/-- The mask's bits that meet one of the text's. -/
def met (L p m k : Nat) : Nat := m % 2 ^ (min k (8 * L - p))
theorem tl_crc (r : Nat) (bs : List UInt8) (p m k : Nat) (hp : p ≤ 8 * bs.length) : crc r (tl bs p m k) = crc r bs ^^^ sn (8 * bs.length - p) (met bs.length p m k) := by
  induction k with
  | zero => simp [tl, met, Nat.mod_one, sn_zero]
  | succ k ih =>
    unfold tl
    by_cases hin : (p + k) / 8 < bs.length
    · have hm : met bs.length p m (k + 1) = met bs.length p m k ^^^ (if (m / 2 ^ k) % 2 = 1 then 2 ^ k else 0) := by
        unfold met
        rw [Nat.min_eq_left (by omega), Nat.min_eq_left (by omega), bit_split]
      rw [hm, sn_xor, ← Nat.xor_assoc, ← ih]
      by_cases hb : (m / 2 ^ k) % 2 = 1
      · rw [if_pos ⟨hb, hin⟩, if_pos hb]
        have hj : (p + k) / 8 < (tl bs p m k).length := by rw [tl_len]; exact hin
        have hg : (tl bs p m k).getD ((p + k) / 8) 0 = (tl bs p m k)[(p + k) / 8] := by simp [List.getD, hj]
        rw [hg, crc_turn r _ _ hj, tl_len]
        congr 1
        have h1 : 2 ^ ((p + k) % 8) < 256 := Nat.lt_of_lt_of_le (Nat.pow_lt_pow_right (a := 2) (by omega) (Nat.mod_lt _ (by omega : 0 < 8))) (by decide)
        rw [UInt8.toNat_ofNat', Nat.mod_eq_of_lt h1]
        have e1 : ∀ a b : Nat, b ≤ a → sn a (2 ^ b) = sn (a - b) 1 := fun a b h => by
          have : a = (a - b) + b := by omega
          rw [this, sn_add, Nat.add_sub_cancel]
          have := sn_pow b 1
          rw [Nat.mul_one] at this
          rw [this]
        rw [e1 _ _ (by omega), e1 _ _ (by omega)]
        congr 1
        omega
      · rw [if_neg (fun h => hb h.1), if_neg hb, sn_zero, Nat.xor_zero]
    · rw [if_neg (fun h => hin h.2), ih]
      unfold met
      rw [Nat.min_eq_right (by omega), Nat.min_eq_right (by omega)]
theorem met_succ_in (L p m k : Nat) (h : (p + k) / 8 < L) : decide (met L p m (k + 1) ≠ 0) = (decide (met L p m k ≠ 0) || decide ((m / 2 ^ k) % 2 = 1)) := by
  unfold met
  rw [Nat.min_eq_left (by omega), Nat.min_eq_left (by omega), Nat.mod_pow_succ, Bool.eq_iff_iff]
  have := Nat.two_pow_pos k
  simp only [Bool.or_eq_true, decide_eq_true_eq]
  rcases Nat.mod_two_eq_zero_or_one (m / 2 ^ k) with h | h <;> rw [h]
  · simp
  · simp
theorem met_succ_out (L p m k : Nat) (h : ¬ (p + k) / 8 < L) : met L p m (k + 1) = met L p m k := by
  unfold met
  rw [Nat.min_eq_right (by omega), Nat.min_eq_right (by omega)]
theorem met_lt (L p m k : Nat) (h : m < U32) : met L p m k < U32 := Nat.lt_of_le_of_lt (Nat.mod_le _ _) h

/-- What the bits turn of the sum. -/
theorem upd_turned (bs : List UInt8) (p m : Nat) (hp : p ≤ 8 * bs.length) : upd 0 (tl bs p m 32) = upd 0 bs ^^^ sn (8 * bs.length - p) (met bs.length p m 32) := by
  unfold upd
  rw [tl_crc _ _ _ _ _ hp, Nat.xor_assoc, Nat.xor_assoc, Nat.xor_comm ONES]
theorem xor_turned (bs : List UInt8) (p m : Nat) (hp : p ≤ 8 * bs.length) : upd 0 bs ^^^ upd 0 (tl bs p m 32) = sn (8 * bs.length - p) (met bs.length p m 32) := by
  rw [upd_turned _ _ _ hp, ← Nat.xor_assoc, Nat.xor_self, Nat.zero_xor]
theorem whole_turned (bs : List UInt8) (p m : Nat) (hm : m < U32) (hp : p ≤ 8 * (sealed bs).length) : whole (tl (sealed bs) p m 32) = !decide (met (sealed bs).length p m 32 ≠ 0) := by
  have h := whole_sealed bs
  rw [whole_sum] at h
  have hl : decide (4 ≤ (sealed bs).length) = true := by simp [sealed, le4_len]
  rw [hl, Bool.true_and, beq_iff_eq] at h
  rw [whole_sum, tl_len, hl, Bool.true_and, upd_turned _ _ _ hp, h]
  have hz := sn_ne (n := 8 * (sealed bs).length - p) (met_lt (sealed bs).length p m 32 hm)
  by_cases h0 : met (sealed bs).length p m 32 = 0
  · rw [h0, sn_zero]
    rfl
  · have h1 : sn (8 * (sealed bs).length - p) (met (sealed bs).length p m 32) ≠ 0 := fun e => h0 (hz.1 e)
    have : decide (met (sealed bs).length p m 32 ≠ 0) = true := by simpa using h0
    rw [this]
    simp only [Bool.not_true, beq_eq_false_iff_ne]
    intro e
    apply h1
    have := congrArg (558161692 ^^^ ·) e
    simpa [← Nat.xor_assoc] using this
end Go.Proofs.Ytoipkpndfgcmcaa

/-
  place, turned: the walks. Condition: fewer than 2^47 bytes.
-/
namespace Go.Proofs.Ytoipkpndfgcmcaa
open Go.RowKit

def hits (L p m k : Nat) : Bool := decide (met L p m k ≠ 0)
/-- A number from 0 to n. -/
def plc (k : Int) (n : Nat) : Nat := (if k.tmod ((n : Int) + 1) < 0 then k.tmod ((n : Int) + 1) + n + 1 else k.tmod ((n : Int) + 1)).toNat
theorem tmod_bd (k : Int) (n : Nat) : -((n : Int) + 1) < k.tmod ((n : Int) + 1) ∧ k.tmod ((n : Int) + 1) < (n : Int) + 1 := by
  have h1 := Int.tmod_lt_of_pos k (b := (n : Int) + 1) (by omega)
  have h2 := Int.lt_tmod_of_pos k (b := (n : Int) + 1) (by omega)
  exact ⟨h2, h1⟩
theorem plc_le (k : Int) (n : Nat) : plc k n ≤ n := by
  have := tmod_bd k n
  unfold plc
  split <;> omega
theorem place_any (k : Int) (n : Nat) (w : World) (_h1 : -9223372036854775808 ≤ k) (_h2 : k ≤ 9223372036854775807) (hn : n ≤ 4611686018427387904) :
    Calls Try.prog 36 #[.int .i64 k, .int .i64 (n : Int)] w fun e w' => e = .returned (.int .i64 (plc k n : Nat)) ∧ w = w' := by
  have hb := tmod_bd k n
  have hp : plc k n = (if k.tmod ((n : Int) + 1) < 0 then k.tmod ((n : Int) + 1) + n + 1 else k.tmod ((n : Int) + 1)).toNat := rfl
  obtain ⟨m, hm⟩ : ∃ m, k.tmod ((n : Int) + 1) = m := ⟨_, rfl⟩
  rw [hm] at hb hp
  have hw : IntKind.i64.wrap ((n : Int) + 1) = (n : Int) + 1 := IntWalk.i64_in _ (by omega)
  have hw2 : IntKind.i64.wrap m = m := IntWalk.i64_in _ (by omega)
  have hz : ((n : Int) + 1 == 0) = false := by simp; omega
  have hz' : ¬ ((n : Int) + 1 = 0) := by omega
  by_cases hneg : m < 0
  · have hp' : ((plc k n : Nat) : Int) = m + n + 1 := by rw [hp, if_pos hneg]; omega
    rw [hp']
    have hw3 : IntKind.i64.wrap (m + (n : Int)) = m + (n : Int) := IntWalk.i64_in _ (by omega)
    have hw4 : IntKind.i64.wrap (m + (n : Int) + 1) = m + (n : Int) + 1 := IntWalk.i64_in _ (by omega)
    clear hp hp'
    go_enter Try.func36, Try.ntmps36
    go_wp2
    go_ret
    exact ⟨rfl, rfl⟩
  · have hp' : ((plc k n : Nat) : Int) = m := by rw [hp, if_neg hneg]; omega
    rw [hp']
    clear hp hp'
    go_enter Try.func36, Try.ntmps36
    go_wp2
    go_ret
    exact ⟨rfl, rfl⟩

theorem turn_val (d : UInt8) (I : Nat) (hI : I < 8) : bits BinOp.xor IntKind.u8 (d.toNat : Int) (2 ^ I % 256) = ((d ^^^ UInt8.ofNat (2 ^ I)).toNat : Int) := by
  have h1 : 2 ^ I < 256 := Nat.lt_of_lt_of_le (Nat.pow_lt_pow_right (a := 2) (by omega) hI) (by decide)
  have h2 : ((2 : Int) ^ I) % 256 = ((2 ^ I : Nat) : Int) := by
    rw [show ((2 : Int) ^ I) = ((2 ^ I : Nat) : Int) by simp]
    generalize 2 ^ I = X at h1 ⊢
    omega
  rw [h2, u8_xor_nat _ _ d.toNat_lt h1, UInt8.toNat_xor, UInt8.toNat_ofNat', Nat.mod_eq_of_lt h1]

set_option maxRecDepth 100000 in
set_option maxHeartbeats 800000 in
theorem turned_any (A : Option Addr) (n c B p m : Nat) (bs : List UInt8) (w : World) (hr : Reads w B 1 A n (bs.map bv)) (hn : n ≤ 140737488355328) (_hB : B ≤ w.heap.size) (hp : p ≤ 8 * n) (_hm : m < U32) :
    Calls Try.prog 35 #[.slice A n c, .int .i64 (p : Int), .int .u32 (m : Int)] w fun e w' => ∃ v, e = .returned (.tuple #[v, .bool (hits n p m 32)]) ∧ w'.ownsRow w.heap.size 5 1 v n ((tl bs p m 32).map bv) ∧ Below w.heap.size w w' := by
  have hlen : bs.length = n := by have := hr.1; simpa using this
  have HC : Hid (0 + n ≤ maxLen ∧ (0 + n) * 1 ≤ 140737488355328) := cap1 (by omega)
  go_enter Try.func35, Try.ntmps35
  go_wp2_with (first | (at_builtin; refine wpList_app _ rfl (.tmp 12) (.tmp 13) 29 rfl elem_u8 w.heap.size (.slice none 0 0) 0 [] rfl (World.ownsRow_nil _ _ _ _) B A n c _ rfl hr (bv_one _) HC.out (Nat.le_refl _) ?_; intro v1 w1 hown1 hg1 hat1))
  have HB : Hid (Below w.heap.size w w1) := grownBy_below hg1 (Nat.le_refl _) (by simp [Value.ownBlock])
  clear hg1 hat1 hr
  rw [Nat.zero_add, List.nil_append] at hown1
  obtain ⟨A1, c1, rfl⟩ := hown1.shape
  go_loopg [9, 10] 32 (fun q y t wr => ∃ k : Nat, k + q = 32 ∧ t = .int .i64 (k : Int) ∧ y = .bool (hits n p m k) ∧ wr.ownsRow w.heap.size 5 1 (.slice A1 n c1) n ((tl bs p m k).map bv) ∧ Below w.heap.size w wr)
  case atStart => exact ⟨0, rfl, rfl, by simp [hits, met, Nat.mod_one], hown1, HB.out⟩
  case round =>
    obtain ⟨k, hk, rfl, rfl, ho, hb⟩ := hrel
    clear hown1 HB HC
    by_cases hlt : k < 32
    · obtain ⟨q, rfl⟩ : ∃ q, gk = q + 1 := ⟨gk - 1, by omega⟩
      obtain ⟨N, hN⟩ : ∃ N, p + k = N := ⟨_, rfl⟩
      have hsum : IntKind.i64.wrap ((p : Int) + (k : Int)) = (N : Int) := by rw [IntWalk.i64_in _ (by omega)]; omega
      by_cases hbit : (m / 2 ^ k) % 2 = 1
      · have ht : (((m : Int) / 2 ^ k).tmod 2 == 1) = true := by
          rw [tmod_bit, hbit]
          rfl
        by_cases hin : N / 8 < n
        · obtain ⟨J, hJ⟩ : ∃ J, N / 8 = J := ⟨_, rfl⟩
          obtain ⟨I, hI⟩ : ∃ I, N % 8 = I := ⟨_, rfl⟩
          have hI8 : I < 8 := by omega
          rw [hJ] at hin
          have hq : (N : Int).tdiv 8 = (J : Int) := by rw [Int.tdiv_eq_ediv_of_nonneg (by omega)]; omega
          have hm8 : (N : Int).tmod 8 = (I : Int) := by rw [Int.tmod_eq_emod_of_nonneg (by omega)]; omega
          have hTl := tl_len bs p m k
          obtain ⟨zs, hzs⟩ : ∃ zs, tl bs p m k = zs := ⟨_, rfl⟩
          rw [hzs] at ho hTl
          obtain ⟨g, cap, hv, hgw, _⟩ := ho.form (by omega)
          injection hv with e1 e2 e3
          subst e1 e3
          obtain ⟨d, hd⟩ : ∃ d, zs[J]? = some d := ⟨_, List.getElem?_eq_getElem (by omega)⟩
          have hcz : wr.cell? ⟨g, J, none⟩ = some (.int .u8 (d.toNat : Int)) := by rw [ho.cellAt J (by omega), List.getElem?_map, hd]; rfl
          have hfz : wr.frozen? ⟨g, J, none⟩ = false := ho.frozenAt J
          have hJ0 : (0 : Int) ≤ (J : Int) := by omega
          have hJ1 : (J : Int) < (n : Int) := by omega
          have HX := hide (turn_val d I hI8)
          have hT1 : tl bs p m (k + 1) = zs.set J (d ^^^ UInt8.ofNat (2 ^ I)) := by
            unfold tl
            rw [if_pos ⟨hbit, by rw [hN, hJ, hlen]; exact hin⟩, hzs, hN, hJ, hI]
            simp [List.getD, hd]
          have hM1 : hits n p m (k + 1) = true := by
            rw [hits, met_succ_in n p m k (by rw [hN, hJ]; exact hin), hbit]
            simp
          have HZ := hide (ho.stored J (.int .u8 (bits BinOp.xor IntKind.u8 (d.toNat : Int) (2 ^ I % 256))))
          have HT := Lib.hid hT1
          have HM := Lib.hid hM1
          have HB := hide (hb.setCell (p := ⟨g, J, none⟩) hgw (.int .u8 (bits BinOp.xor IntKind.u8 (d.toNat : Int) (2 ^ I % 256))))
          clear ho hb hzs hT1 hM1 hd hTl
          go_wp2
          go_roundg q
          case rel => exact ⟨k + 1, by omega, by go_num, by rw [HM.out], by rw [HT.out, List.map_set, bv, ← (unhide HX)]; exact (unhide HZ).1, unhide HB⟩
          case measure => omega
        · have hq : (N : Int).tdiv 8 = ((N / 8 : Nat) : Int) := by rw [Int.tdiv_eq_ediv_of_nonneg (by omega)]; omega
          obtain ⟨J, hJ⟩ : ∃ J, N / 8 = J := ⟨_, rfl⟩
          rw [hJ] at hq
          have hJn : ¬ ((J : Int) < (n : Int)) := by omega
          have hM1 : hits n p m (k + 1) = hits n p m k := by rw [hits, hits, met_succ_out n p m k (by rw [hN]; exact hin)]
          have hT1 : tl bs p m (k + 1) = tl bs p m k := by
            rw [tl, if_neg (fun h => hin (by rw [← hN, ← hlen]; exact h.2))]
          rw [← hM1]
          rw [← hT1] at ho
          have HO := hide ho
          have HB := hide hb
          clear ho hb hM1 hT1
          go_wp2
          go_roundg q
          case rel => exact ⟨k + 1, by omega, by go_num, rfl, unhide HO, unhide HB⟩
          case measure => omega
      · have h0 : m / 2 ^ k % 2 = 0 := by omega
        have ht : (((m : Int) / 2 ^ k).tmod 2 == 1) = false := by
          rw [tmod_bit, h0]
          rfl
        have hT1 : tl bs p m (k + 1) = tl bs p m k := by
          rw [tl, if_neg (fun h => hbit h.1)]
        have hM1 : hits n p m (k + 1) = hits n p m k := by
          by_cases hin : (p + k) / 8 < n
          · rw [hits, met_succ_in n p m k hin, h0]
            simp [hits]
          · rw [hits, met_succ_out n p m k hin]; rfl
        rw [← hM1]
        rw [← hT1] at ho
        have HO := hide ho
        have HB := hide hb
        clear ho hb hM1 hT1
        go_wp2
        go_roundg q
        case rel => exact ⟨k + 1, by omega, by go_num, rfl, unhide HO, unhide HB⟩
        case measure => omega
    · obtain rfl : k = 32 := by omega
      have HO := hide ho
      have HB := hide hb
      clear ho hb
      go_wp2
      go_ret2
      exact ⟨_, rfl, unhide HO, unhide HB⟩
end Go.Proofs.Ytoipkpndfgcmcaa

/-
  awake of law 02: the chapter's examples; its walk. Condition: none.
-/
namespace Go.Proofs.Ytoipkpndfgcmcaa
open Go.RowKit

def nineB : List UInt8 := [49, 50, 51, 52, 53, 54, 55, 56, 57]
theorem add0 (b o j : Nat) : (⟨b, o, none⟩ : Addr).add j = ⟨b, o + j, none⟩ := by unfold Addr.add; split <;> simp_all
theorem reads_mark (w : World) (e : TypeId) (cs : Array Value) (fr : Nat × Nat) (n : Nat) (hn : cs.size = n) (xs : List Value) (hx : cs.toList = xs) : Reads (w.alloc (.cells cs e fr)) (w.heap.size + 1) 1 (some ⟨w.heap.size, 0, none⟩) n xs := by
  subst hn hx
  refine ⟨by simp, fun _ => ⟨_, rfl, by simp, fun j u hu => ?_⟩⟩
  have : (⟨w.heap.size, 0, none⟩ : Addr).add j = ⟨w.heap.size, j, none⟩ := by rw [add0, Nat.zero_add]
  rw [this, World.cell?_alloc_mark]
  simpa using hu
set_option maxRecDepth 100000 in
set_option maxHeartbeats 800000 in
theorem nine_any (w : World) : Calls Try.prog 41 #[] w fun e w' => e = .returned (.slice (some ⟨w.heap.size, 0, none⟩) 9 9) ∧ Reads w' (w.heap.size + 1) 1 (some ⟨w.heap.size, 0, none⟩) 9 (nineB.map bv) ∧ Below w.heap.size w w' ∧ w.heap.size + 1 ≤ w'.heap.size := by
  have hc := fun C => Lib.run_convert_bytes_const (P := Try.prog) w 29 5 C 9 9 Try.underlying29 Try.underlying5
  go_enter Try.func41, Try.ntmps41
  go_wp2
  go_ret
  exact ⟨rfl, reads_mark w _ _ _ 9 rfl _ rfl, (Below.refl _ _).alloc (Nat.le_refl _) _, by simp⟩

theorem Reads.after {w : World} {B n k : Nat} {b o : Nat} {xs : List UInt8} (h : Reads w B 1 (some ⟨b, o, none⟩) (k + n) (xs.map bv)) : Reads w B 1 (some ⟨b, o + k, none⟩) n ((xs.drop k).map bv) := by
  refine ⟨by have := h.1; simp at this ⊢; omega, fun hn => ?_⟩
  obtain ⟨ad, e, hb, hc⟩ := h.2 (by omega)
  injection e with e
  subst e
  refine ⟨_, rfl, hb, fun j u hu => ?_⟩
  rw [List.map_drop, List.getElem?_drop] at hu
  have := hc _ _ hu
  rw [add0] at this ⊢
  rw [Nat.add_assoc]
  exact this

theorem nine_join : jn (upd 0 (nineB.take 4)) (upd 0 (nineB.drop 4)) 5 = 3421780262 := by decide +kernel
theorem nine_sum : upd 0 nineB = 3421780262 := by decide +kernel
theorem zero_sum : upd 0 [0] = 3523407757 := by decide +kernel

set_option maxRecDepth 100000 in
set_option maxHeartbeats 800000 in
theorem awake_any (w : World) : Calls Try.prog 34 #[] w fun e w' => e = .returned (.bool true) ∧ Below w.heap.size w w' := by
  have hN := fun w => hide (nine_any w)
  have hNum := fun x w => hide (num_any x w)
  obtain ⟨s1, hs1⟩ : ∃ s, upd 0 (nineB.take 4) = s := ⟨_, rfl⟩
  obtain ⟨s2, hs2⟩ : ∃ s, upd 0 (nineB.drop 4) = s := ⟨_, rfl⟩
  have hl1 : s1 < U32 := hs1 ▸ upd_lt (by decide) _
  have hl2 : s2 < U32 := hs2 ▸ upd_lt (by decide) _
  have hj := nine_join
  rw [hs1, hs2] at hj
  have HJ := Lib.hid hj
  have HS1 := Lib.hid hs1
  have HS2 := Lib.hid hs2
  clear hj hs1 hs2
  go_enter Try.func34, Try.ntmps34
  go_wp2_with (go_at_call 41; refine (unhide (hN _)).mono ?_; rintro e w1 ⟨rfl, hr1, hb1, hz1⟩)
  have HS := hide (sum_any (nineB.take 4) (some ⟨w.heap.size, 0, none⟩) 4 9 (w.heap.size + 1) w1 (hr1.upto_ (by omega)) (by omega) hz1)
  have HB1 := hide hb1
  rw [HS1.out] at HS
  clear hr1 hb1
  go_wp2_with (go_at_call 24; refine (unhide HS).mono ?_; rintro e w2 ⟨rfl, hb2⟩)
  have HB2 := hide ((unhide HB1).trans (hb2.mono (unhide HB1).size))
  clear hb2 HS
  go_wp2_with (go_at_call 41; refine (unhide (hN _)).mono ?_; rintro e w3 ⟨rfl, hr3, hb3, hz3⟩)
  have HS := hide (sum_any (nineB.drop 4) (some ⟨w2.heap.size, 0 + 4, none⟩) 5 5 (w2.heap.size + 1) w3 (hr3.after (k := 4) (n := 5)) (by omega) hz3)
  have HB3 := hide ((unhide HB2).trans (hb3.mono (unhide HB2).size))
  rw [HS2.out] at HS
  clear hr3 hb3
  go_wp2_with (go_at_call 24; refine (unhide HS).mono ?_; rintro e w4 ⟨rfl, hb4⟩)
  have HB4 := hide ((unhide HB3).trans (hb4.mono (unhide HB3).size))
  clear hb4 HS
  have HJN := hide (join_any s1 s2 5 w4 hl1 hl2 (by omega))
  rw [HJ.out] at HJN
  go_wp2_with (go_at_call 33; refine (unhide HJN).mono ?_; rintro e w5 ⟨rfl, hb5⟩)
  have HB5 := hide ((unhide HB4).trans (hb5.mono (unhide HB4).size))
  clear hb5 HJN
  go_wp2_with (go_at_call 41; refine (unhide (hN _)).mono ?_; rintro e w6 ⟨rfl, hr6, hb6, hz6⟩)
  have HS := hide (sum_any nineB (some ⟨w5.heap.size, 0, none⟩) 9 9 (w5.heap.size + 1) w6 hr6 (by omega) hz6)
  have HB6 := hide ((unhide HB5).trans (hb6.mono (unhide HB5).size))
  rw [nine_sum] at HS
  clear hr6 hb6
  go_wp2_with (go_at_call 24; refine (unhide HS).mono ?_; rintro e w7 ⟨rfl, hb7⟩)
  have HB7 := hide ((unhide HB6).trans (hb7.mono (unhide HB6).size))
  clear hb7 HS
  go_wp2_with fail
  have hlit := reads_lit w7 _ rfl 5 #[.int .u8 0] 1 rfl ([0].map bv) rfl
  have HS := hide (sum_any [0] (some ⟨w7.heap.size, 0, none⟩) 1 1 (w7.heap.size + 1) _ hlit (by omega) (by simp))
  have HB8 := hide ((unhide HB7).alloc (unhide HB7).size (.cells #[.int .u8 0] 5))
  rw [zero_sum] at HS
  clear hlit
  go_wp2_with (go_at_call 24; refine (unhide HS).mono ?_; rintro e w9 ⟨rfl, hb9⟩)
  have HB9 := hide ((unhide HB8).trans (hb9.mono (unhide HB8).size))
  clear hb9 HS
  go_wp2_with (go_at_call 19; refine (unhide (hNum _ _)).mono ?_; rintro e w10 ⟨rfl, rfl⟩)
  go_wp2_with (go_at_call 41; refine (unhide (hN _)).mono ?_; rintro e w11 ⟨rfl, hr11, hb11, hz11⟩)
  have HS := hide (seal_any (some ⟨w9.heap.size, 0, none⟩) 9 9 (w9.heap.size + 1) nineB w11 hr11 (by omega) hz11)
  have HB11 := hide ((unhide HB9).trans (hb11.mono (unhide HB9).size))
  clear hr11 hb11
  go_wp2_with (go_at_call 30; refine (unhide HS).mono ?_; rintro e w12 ⟨v12, rfl, ho12, hb12⟩)
  obtain ⟨A12, c12, rfl⟩ := ho12.shape
  have HB12 := hide ((unhide HB11).trans (hb12.mono (unhide HB11).size))
  have HW := hide (whole_any A12 13 c12 w12.heap.size (sealed nineB) w12 (Reads.of_own ho12) (by omega) (Nat.le_refl _) (own_capA ho12))
  rw [whole_sealed] at HW
  clear ho12 hb12 HS
  go_wp2_with (go_at_call 28; refine (unhide HW).mono ?_; rintro e w13 ⟨rfl, hb13⟩)
  have HB13 := hide ((unhide HB12).trans (hb13.mono (unhide HB12).size))
  clear hb13
  go_ret
  exact ⟨rfl, unhide HB13⟩
end Go.Proofs.Ytoipkpndfgcmcaa

/-
  The beginning of CheckPieces, walked alone: the places, the pieces' sums, their joins. The conditions stand in each theorem.
-/
namespace Go.Proofs.Ytoipkpndfgcmcaa.Crew
open Go Go.RowKit
set_option linter.unusedVariables false
set_option linter.unusedSimpArgs false
theorem upd_app (s : Nat) (xs ys : List UInt8) : upd (upd s xs) ys = upd s (xs ++ ys) := by
  unfold upd
  rw [Nat.xor_assoc, Nat.xor_self, Nat.xor_zero]
  unfold crc
  rw [List.foldl_append]
theorem upd_nil0 : upd 0 [] = 0 := by decide
theorem Reads.mid_ {w : World} {B n c l m : Nat} {A : Option Addr} {xs : List UInt8} (h : Reads w B 1 A n (xs.map bv)) (hc : n ≤ c) (hl : l + m ≤ n) : Reads w B 1 (if c = l then A else A.map (·.add (l * 1))) m (((xs.drop l).take m).map bv) := by
  have h1 := Go.Proofs.Ytoipkpndfgcmcaa.Reads.cut h (k := l) (cap := c) (by omega) hc
  rw [Nat.mul_one, ← List.map_drop] at h1
  rw [Nat.mul_one]
  exact Go.Proofs.Ytoipkpndfgcmcaa.Reads.cutTo h1 (by omega)
/-- The bytes handed in, cut in three: where each begins, its length and room. -/
structure Cut (A : Option Addr) (n c p J : Nat) (A2 A3 : Option Addr) : Prop where
  pJ : p ≤ J
  Jn : J ≤ n
  nc : n ≤ c
  a2 : A2 = if c = p then A else A.map (·.add (p * 1))
  a3 : A3 = if c = J then A else A.map (·.add (J * 1))
def b1 (bs : List UInt8) (p J : Nat) : List UInt8 := bs.take p
def b2 (bs : List UInt8) (p J : Nat) : List UInt8 := (bs.drop p).take (J - p)
def b3 (bs : List UInt8) (p J : Nat) : List UInt8 := bs.drop J
section
variable {A A2 A3 : Option Addr} {n c p J B : Nat} {bs : List UInt8} {w : World}
theorem Cut.r1 (h : Cut A n c p J A2 A3) (hr : Reads w B 1 A n (bs.map bv)) : Reads w B 1 A p ((b1 bs p J).map bv) := Go.Proofs.Ytoipkpndfgcmcaa.Reads.cutTo hr (Nat.le_trans h.pJ h.Jn)
theorem Cut.r2 (h : Cut A n c p J A2 A3) (hr : Reads w B 1 A n (bs.map bv)) : Reads w B 1 A2 (J - p) ((b2 bs p J).map bv) := by
  rw [h.a2]
  exact Reads.mid_ hr h.nc (by have := h.pJ; have := h.Jn; omega)
theorem Cut.r3 (h : Cut A n c p J A2 A3) (hr : Reads w B 1 A n (bs.map bv)) : Reads w B 1 A3 (n - J) ((b3 bs p J).map bv) := by
  have hc := Go.Proofs.Ytoipkpndfgcmcaa.Reads.cut hr (k := J) (cap := c) h.Jn h.nc
  rw [h.a3]
  rw [Nat.mul_one, ← List.map_drop] at hc
  rw [Nat.mul_one]
  exact hc
theorem b2_len (h : Cut A n c p J A2 A3) (hl : bs.length = n) : (b2 bs p J).length = J - p := by
  have := h.Jn
  simp [b2]
  omega
theorem b3_len (hl : bs.length = n) : (b3 bs p J).length = n - J := by simp [b3, hl]
theorem b23 (h : Cut A n c p J A2 A3) : b2 bs p J ++ b3 bs p J = bs.drop p := by
  have := h.pJ
  have e : b3 bs p J = (bs.drop p).drop (J - p) := by
    unfold b3
    rw [List.drop_drop]
    congr 1
    omega
  rw [e]
  exact List.take_append_drop _ _
theorem b123 (h : Cut A n c p J A2 A3) : b1 bs p J ++ (b2 bs p J ++ b3 bs p J) = bs := by
  rw [b23 h]
  exact List.take_append_drop _ _
theorem join_xy (h : Cut A n c p J A2 A3) (hl : bs.length = n) (s : Nat) : jn s (upd 0 (b2 bs p J)) (J - p) = upd s (b2 bs p J) := by
  have := jn_upd s (b2 bs p J)
  rw [b2_len h hl] at this
  exact this
theorem join_one (h : Cut A n c p J A2 A3) (hl : bs.length = n) : jn (upd (upd 0 (b1 bs p J)) (b2 bs p J)) (upd 0 (b3 bs p J)) (n - J) = upd 0 bs := by
  have := jn_upd (upd (upd 0 (b1 bs p J)) (b2 bs p J)) (b3 bs p J)
  rw [b3_len hl] at this
  rw [this, upd_app, upd_app, b123 h]
theorem join_yz (h : Cut A n c p J A2 A3) (hl : bs.length = n) : jn (upd 0 (b2 bs p J)) (upd 0 (b3 bs p J)) (n - J) = upd 0 (bs.drop p) := by
  have := jn_upd (upd 0 (b2 bs p J)) (b3 bs p J)
  rw [b3_len hl] at this
  rw [this, upd_app, b23 h]
theorem join_two (h : Cut A n c p J A2 A3) (hl : bs.length = n) : jn (upd 0 (b1 bs p J)) (upd 0 (bs.drop p)) (n - p) = upd 0 bs := by
  have := jn_upd (upd 0 (b1 bs p J)) (bs.drop p)
  rw [List.length_drop, hl] at this
  rw [this, upd_app]
  unfold b1
  rw [List.take_append_drop]
theorem join_still (s : Nat) : jn s 0 0 = s := by
  have := jn_upd s []
  rw [upd_nil0] at this
  have e : upd s [] = s := by
    unfold upd
    simp [crc, Nat.xor_assoc]
  rw [e] at this
  exact this
end
/-- What the law knows behind its beginning. -/
structure PcT (T : Array Value) (A : Option Addr) (n c p J x0 : Nat) (bs : List UInt8) : Prop where
  sz : T.size = 208
  t0 : T[0]? = some (.slice A n c)
  t1 : T[1]? = some (.int .i64 p)
  t2 : T[2]? = some (.int .i64 J)
  t3 : T[3]? = some (.int .u32 x0)
  t9 : T[9]? = some (.int .u32 (upd 0 (b1 bs p J) : Nat))
  t12 : T[12]? = some (.int .u32 (upd 0 bs : Nat))
def PcFin (w : World) (A : Option Addr) (n c p J x0 : Nat) (bs : List UInt8) (a' : Act) (w' : World) : Prop := a'.defers = [] ∧ PcT a'.tmps A n c p J x0 bs ∧ Below w.heap.size w w'
set_option maxRecDepth 100000 in
set_option maxHeartbeats 4000000 in
theorem pc_front (w : World) (A A2 A3 : Option Addr) (n c p J x0 : Nat) (i0 j0 : Int) (bs : List UInt8) (hr : Reads w w.heap.size 1 A n (bs.map bv)) (hn : n ≤ 140737488355328) (hC : Cut A n c p J A2 A3) (hp : plc i0 n = p) (hJ : p + plc j0 (n - p) = J) (hx : x0 < U32)
    (h1 : -9223372036854775808 ≤ i0) (h2 : i0 ≤ 9223372036854775807) (h3 : -9223372036854775808 ≤ j0) (h4 : j0 ≤ 9223372036854775807) :
    (front 14 (bodyOf Try.f10)).wp Try.prog (fun e a' w' => e = .normal ∧ PcFin w A n c p J x0 bs a' w') { tmps := #[.slice A n c, .int .i64 i0, .int .i64 j0, .int .u32 x0] ++ Array.replicate 204 undef, defers := [] } w := by
  have hlen : bs.length = n := by have := hr.1; simpa using this
  have hpJ := hC.pJ
  have hJn := hC.Jn
  have hnc := hC.nc
  obtain ⟨q, hq⟩ : ∃ q, plc j0 (n - p) = q := ⟨_, rfl⟩
  obtain ⟨L, hL⟩ : ∃ L, n - p = L := ⟨_, rfl⟩
  obtain ⟨R, hR⟩ : ∃ R, n - J = R := ⟨_, rfl⟩
  have hqJ : p + q = J := by omega
  have e1 : IntKind.i64.wrap ((n : Int) - (p : Int)) = (L : Int) := by rw [IntWalk.i64_in _ (by omega)]; omega
  have e2 : IntKind.i64.wrap ((p : Int) + (q : Int)) = (J : Int) := by rw [IntWalk.i64_in _ (by omega)]; omega
  have e3 : IntKind.i64.wrap ((J : Int) - (p : Int)) = (q : Int) := by rw [IntWalk.i64_in _ (by omega)]; omega
  have e4 : IntKind.i64.wrap ((n : Int) - (J : Int)) = (R : Int) := by rw [IntWalk.i64_in _ (by omega)]; omega
  have k1 : J - p = q := by omega
  obtain ⟨c2, hc2⟩ : ∃ k, c - p = k := ⟨_, rfl⟩
  obtain ⟨c3, hc3⟩ : ∃ k, c - J = k := ⟨_, rfl⟩
  obtain ⟨sx, hsx⟩ : ∃ s, upd 0 (b1 bs p J) = s := ⟨_, rfl⟩
  obtain ⟨sy, hsy⟩ : ∃ s, upd 0 (b2 bs p J) = s := ⟨_, rfl⟩
  obtain ⟨sz, hsz⟩ : ∃ s, upd 0 (b3 bs p J) = s := ⟨_, rfl⟩
  obtain ⟨al, hal⟩ : ∃ s, upd 0 bs = s := ⟨_, rfl⟩
  obtain ⟨xy, hxy⟩ : ∃ s, jn sx sy q = s := ⟨_, rfl⟩
  obtain ⟨yz, hyz⟩ : ∃ s, jn sy sz R = s := ⟨_, rfl⟩
  have lx : sx < U32 := hsx ▸ upd_lt (by decide) _
  have ly : sy < U32 := hsy ▸ upd_lt (by decide) _
  have lz : sz < U32 := hsz ▸ upd_lt (by decide) _
  have lxy : xy < U32 := hxy ▸ jn_lt lx ly _
  have lyz : yz < U32 := hyz ▸ jn_lt ly lz _
  have j1 : jn xy sz R = al := by
    have := join_one hC hlen
    rw [← join_xy hC hlen, k1, hR, hsx, hsy, hsz, hal, hxy] at this
    exact this
  have j2 : jn sx yz L = al := by
    have h := join_two hC hlen
    rw [← join_yz hC hlen, hR, hsx, hsy, hsz, hal, hyz, hL] at h
    exact h
  have HA := fun w => hide (awake_any w)
  have HNum := fun x w => hide (num_any x w)
  have HP1 : ∀ w, Hid (Calls Try.prog 36 #[.int .i64 i0, .int .i64 (n : Int)] w fun e w' => e = .returned (.int .i64 (p : Int)) ∧ w = w') := fun w => hide <| by
    rw [← hp]; exact place_any i0 n w h1 h2 (by omega)
  have HP2 : ∀ w, Hid (Calls Try.prog 36 #[.int .i64 j0, .int .i64 (L : Int)] w fun e w' => e = .returned (.int .i64 (q : Int)) ∧ w = w') := fun w => hide <| by
    rw [← hq, hL]; exact place_any j0 L w h3 h4 (by omega)
  have eE : ElemOf Try.prog 29 5 1 1 := elem_u8
  have sl2 : ∀ W, (Instr.slice 29 (.slice A n c) (some (.int .i64 (p : Int))) (some (.int .i64 (J : Int))) none).run Try.prog W = .ok (.slice A2 q c2) W := fun W => by
    obtain ⟨i, z, g1, g2, g3, g4, g5, g6⟩ := eE.ex
    rw [run_mid g1 g2 g4 A (n := n) c (l := p) (h := J) (by omega) (by omega) W, ← hC.a2, k1, hc2]
  have sl3 : ∀ W, (Instr.slice 29 (.slice A n c) (some (.int .i64 (J : Int))) none none).run Try.prog W = .ok (.slice A3 R c3) W := fun W => by
    obtain ⟨i, z, g1, g2, g3, g4, g5, g6⟩ := eE.ex
    rw [run_cut g1 g2 g4 A c (k := J) (n := n) (by omega) W, ← hC.a3, hR, hc3]
  have cS1 : ∀ w', Below w.heap.size w w' → Hid (Calls Try.prog 24 #[.slice A p c] w' fun e w2 => e = .returned (.int .u32 (sx : Int)) ∧ Below w.heap.size w w2) := fun w' h => hide <| by
    rw [← hsx]; exact (sum_any _ A p c w.heap.size w' (hC.r1 (hr.below h)) (by omega) h.size).mono fun e w2 ⟨he, hb⟩ => ⟨he, h.trans (hb.mono h.size)⟩
  have cS2 : ∀ w', Below w.heap.size w w' → Hid (Calls Try.prog 24 #[.slice A2 q c2] w' fun e w2 => e = .returned (.int .u32 (sy : Int)) ∧ Below w.heap.size w w2) := fun w' h => hide <| by
    rw [← hsy, ← k1]; exact (sum_any _ A2 (J - p) c2 w.heap.size w' (hC.r2 (hr.below h)) (by omega) h.size).mono fun e w2 ⟨he, hb⟩ => ⟨he, h.trans (hb.mono h.size)⟩
  have cS3 : ∀ w', Below w.heap.size w w' → Hid (Calls Try.prog 24 #[.slice A3 R c3] w' fun e w2 => e = .returned (.int .u32 (sz : Int)) ∧ Below w.heap.size w w2) := fun w' h => hide <| by
    rw [← hsz, ← hR]; exact (sum_any _ A3 (n - J) c3 w.heap.size w' (hC.r3 (hr.below h)) (by omega) h.size).mono fun e w2 ⟨he, hb⟩ => ⟨he, h.trans (hb.mono h.size)⟩
  have cS4 : ∀ w', Below w.heap.size w w' → Hid (Calls Try.prog 24 #[.slice A n c] w' fun e w2 => e = .returned (.int .u32 (al : Int)) ∧ Below w.heap.size w w2) := fun w' h => hide <| by
    rw [← hal]; exact (sum_any _ A n c w.heap.size w' (hr.below h) (by omega) h.size).mono fun e w2 ⟨he, hb⟩ => ⟨he, h.trans (hb.mono h.size)⟩
  have cJ : ∀ (a b m r : Nat), jn a b m = r → a < U32 → b < U32 → m ≤ 140737488355328 → ∀ w', Below w.heap.size w w' → Calls Try.prog 33 #[.int .u32 (a : Int), .int .u32 (b : Int), .int .i64 (m : Int)] w' fun e w2 => e = .returned (.tuple #[.int .u32 (r : Int), .int .i64 0]) ∧ Below w.heap.size w w2 := fun a b m r he ha hb hm w' h => by
    rw [← he]; exact (join_any a b m w' ha hb (by omega)).mono fun e w2 ⟨he, hb⟩ => ⟨he, h.trans (hb.mono h.size)⟩
  have cJ1 := fun w' h => hide (cJ sx sy q xy hxy lx ly (by omega) w' h)
  have cJ2 := fun w' h => hide (cJ xy sz R al j1 lxy lz (by omega) w' h)
  have cJ3 := fun w' h => hide (cJ sy sz R yz hyz ly lz (by omega) w' h)
  have cJ4 := fun w' h => hide (cJ sx yz L al j2 lx lyz (by omega) w' h)
  have cJ5 : ∀ w', Below w.heap.size w w' → Hid (Calls Try.prog 33 #[.int .u32 (x0 : Int), .int .u32 0, .int .i64 0] w' fun e w2 => e = .returned (.tuple #[.int .u32 (x0 : Int), .int .i64 0]) ∧ Below w.heap.size w w2) := fun w' h => hide (cJ x0 0 0 x0 (join_still x0) hx (by decide) (by omega) w' h)
  have hne1 : ((al : Int) != (al : Int)) = false := by simp
  have hne2 : ((x0 : Int) != (x0 : Int)) = false := by simp
  have HB0 := hide (Below.refl w.heap.size w)
  have hpc : p ≤ c := by omega
  clear cJ hsy hsz hxy hyz lx ly lz lxy lyz j1 j2 hr h1 h2 h3 h4 hp hJ hq hC eE hqJ hpJ hJn hnc hL hR k1 hc2 hc3 hlen
  simp only [front, bodyOf, Try.f10, Option.getD_some, Array.replicate_succ, Array.replicate_zero, List.push_toArray, List.append_toArray, List.nil_append, List.cons_append]
  go_wp2_with (go_at_call 34; refine (unhide (HA _)).mono ?_; rintro e w1 ⟨rfl, hb1⟩)
  have HB1 := hide ((unhide HB0).trans (hb1.mono (unhide HB0).size))
  clear hb1
  go_wp2_with (go_at_call 36; (with_reducible refine (unhide (HP1 _)).mono ?_); rintro e w2 ⟨rfl, rfl⟩)
  go_wp2_with (go_at_call 36; (with_reducible refine (unhide (HP2 _)).mono ?_); rintro e w2 ⟨rfl, rfl⟩)
  go_wp2_with (go_at_call 24; (with_reducible refine (unhide (cS1 _ (unhide HB1))).mono ?_); rintro e w2 ⟨rfl, hb2⟩)
  have HB2 := hide hb2
  clear hb2
  go_wp2_with (go_at_call 24; (with_reducible refine (unhide (cS2 _ (unhide HB2))).mono ?_); rintro e w3 ⟨rfl, hb3⟩)
  have HB3 := hide hb3
  clear hb3
  go_wp2_with (go_at_call 24; (with_reducible refine (unhide (cS3 _ (unhide HB3))).mono ?_); rintro e w4 ⟨rfl, hb4⟩)
  have HB4 := hide hb4
  clear hb4
  go_wp2_with (go_at_call 24; (with_reducible refine (unhide (cS4 _ (unhide HB4))).mono ?_); rintro e w5 ⟨rfl, hb5⟩)
  have HB5 := hide hb5
  clear hb5
  go_wp2_with (go_at_call 33; (with_reducible refine (unhide (cJ1 _ (unhide HB5))).mono ?_); rintro e w6 ⟨rfl, hb6⟩)
  have HB6 := hide hb6
  clear hb6
  go_wp2_with (go_at_call 33; (with_reducible refine (unhide (cJ2 _ (unhide HB6))).mono ?_); rintro e w7 ⟨rfl, hb7⟩)
  have HB7 := hide hb7
  clear hb7
  go_wp2_with (go_at_call 33; (with_reducible refine (unhide (cJ3 _ (unhide HB7))).mono ?_); rintro e w8 ⟨rfl, hb8⟩)
  have HB8 := hide hb8
  clear hb8
  go_wp2_with (go_at_call 33; (with_reducible refine (unhide (cJ4 _ (unhide HB8))).mono ?_); rintro e w9 ⟨rfl, hb9⟩)
  have HB9 := hide hb9
  clear hb9
  go_wp2_with (go_at_call 33; (with_reducible refine (unhide (cJ5 _ (unhide HB9))).mono ?_); rintro e w10 ⟨rfl, hb10⟩)
  have HB10 := hide hb10
  clear hb10
  go_wp2_with (go_at_call 19; (with_reducible refine (unhide (HNum _ _)).mono ?_); rintro e w11 ⟨rfl, rfl⟩)
  go_wp2_with (go_at_call 19; (with_reducible refine (unhide (HNum _ _)).mono ?_); rintro e w11 ⟨rfl, rfl⟩)
  go_wp2_with (go_at_call 19; (with_reducible refine (unhide (HNum _ _)).mono ?_); rintro e w11 ⟨rfl, rfl⟩)
  go_wp2_with (go_at_call 19; (with_reducible refine (unhide (HNum _ _)).mono ?_); rintro e w11 ⟨rfl, rfl⟩)
  go_wp2_with (go_at_call 19; (with_reducible refine (unhide (HNum _ _)).mono ?_); rintro e w11 ⟨rfl, rfl⟩)
  exact ⟨rfl, ⟨rfl, rfl, rfl, rfl, rfl, by rw [hsx]; rfl, by rw [hal]; rfl⟩, unhide HB10⟩
end Go.Proofs.Ytoipkpndfgcmcaa.Crew

namespace Go.Proofs.Ytoipkpndfgcmcaa.Crew
open Go Go.Conc Go.ConcN Go.RowKit Go.Conc.Lib Go.ConcR.Gen Go.ConcN.Gen Go.Proofs.Ytoipkpndfgcmcaa.Veils
set_option linter.unusedVariables false
set_option linter.unusedSectionVars false
def O16of (c : Code) : Array Oper := opsOf (seqHead (seqHead (seqTails 14 c)))
def C16of (c : Code) : Code := seqTail (seqHead (seqTails 14 c))
def R16of (c : Code) : Code := seqTails 15 c
/-- What each operation comes to. -/
def val16 (A A2 A3 : Option Addr) (n c p J x0 : Nat) (bs : List UInt8) : Nat → Value
  | 0 => .int .u32 (upd 0 (b1 bs p J) : Nat)
  | 1 => .slice A n c
  | 2 => .int .i64 (p : Nat)
  | 3 => .int .i64 (J : Nat)
  | 4 => .slice A2 (J - p : Nat) (c - p)
  | 5 => .int .u32 (upd (upd 0 (b1 bs p J)) (b2 bs p J) : Nat)
  | 6 => .slice A n c
  | 7 => .int .i64 (J : Nat)
  | 8 => .slice A3 (n - J : Nat) (c - J)
  | 9 => .int .u32 (upd 0 bs : Nat)
  | 10 => .int .u32 (upd 0 bs : Nat)
  | 11 => .bool false
  | 12 => .bool false
  | 13 => .int .u32 (x0 : Nat)
  | 14 => .slice A n c
  | 15 => .int .i64 (p : Nat)
  | 16 => .slice A p c
  | 17 => .int .u32 (upd x0 (b1 bs p J) : Nat)
  | 18 => .slice A n c
  | 19 => .int .i64 (p : Nat)
  | 20 => .slice A2 (n - p : Nat) (c - p)
  | 21 => .int .u32 (upd x0 bs : Nat)
  | 22 => .int .u32 (x0 : Nat)
  | 23 => .slice A n c
  | 24 => .int .u32 (upd x0 bs : Nat)
  | 25 => .bool false
  | 26 => .bool false
  | 27 => .bool false
  | 28 => .slice A n c
  | 29 => .int .i64 (p : Nat)
  | 30 => .slice A p c
  | 31 => .slice A n c
  | 32 => .int .i64 (p : Nat)
  | 33 => .int .i64 (J : Nat)
  | 34 => .slice A2 (J - p : Nat) (c - p)
  | 35 => .slice A n c
  | 36 => .int .i64 (J : Nat)
  | 37 => .slice A3 (n - J : Nat) (c - J)
  | 38 => .nilFunc
  | 39 => .int .u32 (upd 0 bs : Nat)
  | 40 => .int .u32 (upd 0 bs : Nat)
  | 41 => .bool false
  | 42 => .bool false
  | _ => .nilFunc
/-- The row of three pieces. -/
structure Made (A A2 A3 : Option Addr) (n c p J : Nat) (W : World) (X : Nat → Prop) (w : World) (g : Nat) : Prop where
  lt : g < w.heap.size
  ge : W.heap.size ≤ g
  out : ¬ X g
  c0 : w.cell? ⟨g, 0, none⟩ = some (.slice A p c)
  c1 : w.cell? ⟨g, 1, none⟩ = some (.slice A2 (J - p : Nat) (c - p))
  c2 : w.cell? ⟨g, 2, none⟩ = some (.slice A3 (n - J : Nat) (c - J))
/-- The state between two operations. -/
structure Ph (A A2 A3 : Option Addr) (n c p J x0 : Nat) (bs : List UInt8) (W : World) (X : Nat → Prop) (ls : Array Bool) (T : Array Value) (w : World) : Prop where
  pc : PcT T A n c p J x0 bs
  done : ∀ j, j < 43 → j ≠ 38 → ls.getD j false = true → T[135 + j]? = some (val16 A A2 A3 n c p J x0 bs j)
  made : ls.getD 38 false = true → ∃ g, T[173]? = some (.slice (some ⟨g, 0, none⟩) 3 3) ∧ Made A A2 A3 n c p J W X w g
  wn : Wn W X w
section
variable {A A2 A3 : Option Addr} {n c p J x0 : Nat} {bs : List UInt8} {W w w' : World} {X : Nat → Prop} {ls : Array Bool} {T : Array Value} {l : List Nat} {k : List Item}
theorem PcT.put (h : PcT T A n c p J x0 bs) {d : Nat} (hd : 134 < d) (v : Value) : PcT (T.setIfInBounds d v) A n c p J x0 bs := by
  obtain ⟨h1, h2, h3, h4, h5, h6, h7⟩ := h
  refine ⟨by simpa using h1, ?_, ?_, ?_, ?_, ?_, ?_⟩ <;> (rw [Array.getElem?_setIfInBounds_ne (by omega)]; assumption)
theorem getD_on {i j : Nat} (h : (ls.setIfInBounds i true).getD j false = true) : j = i ∨ ls.getD j false = true := by
  by_cases e : j = i
  · exact .inl e
  · right
    rw [Array.getD_eq_getD_getElem?, Array.getElem?_setIfInBounds_ne (by omega), ← Array.getD_eq_getD_getElem?] at h
    exact h
theorem Made.go {g : Nat} (h : Made A A2 A3 n c p J W X w g) (hb : Below w.heap.size w w') {X' : Nat → Prop} (hX : ¬ X' g) : Made A A2 A3 n c p J W X' w' g :=
  ⟨Nat.lt_of_lt_of_le h.lt hb.size, h.ge, hX, (hb.cell (p := ⟨g, 0, none⟩) h.lt).trans h.c0, (hb.cell (p := ⟨g, 1, none⟩) h.lt).trans h.c1, (hb.cell (p := ⟨g, 2, none⟩) h.lt).trans h.c2⟩
/-- An operation is done; the world has grown. -/
theorem Ph.put (h : Ph A A2 A3 n c p J x0 bs W X ls T w) {i : Nat} (hi : i < 43) (h38 : i ≠ 38) {v : Value} (hv : v = val16 A A2 A3 n c p J x0 bs i) (hb : Below w.heap.size w w') : Ph A A2 A3 n c p J x0 bs W X (ls.setIfInBounds i true) (T.setIfInBounds (135 + i) v) w' := by
  refine ⟨h.pc.put (by omega) v, fun j hj hj8 hl => ?_, fun hl => ?_, h.wn.go hb⟩
  · by_cases e : j = i
    · subst e
      have := h.pc.sz
      rw [Array.getElem?_setIfInBounds_self_of_lt (by omega), hv]
    · rw [Array.getElem?_setIfInBounds_ne (by omega)]
      exact h.done j hj hj8 ((getD_on hl).resolve_left e)
  · obtain ⟨g, e1, e2⟩ := h.made ((getD_on hl).resolve_left (by omega))
    exact ⟨g, by rw [Array.getElem?_setIfInBounds_ne (by omega)]; exact e1, e2.go hb e2.out⟩
theorem Ph.at (h : Ph A A2 A3 n c p J x0 bs W X ls T w) (d : Nat) : Ph A A2 A3 n c p J x0 bs W X ls T (w.at d) :=
  ⟨h.pc, h.done, fun hl => let ⟨g, e1, e2⟩ := h.made hl; ⟨g, e1, e2.lt, e2.ge, e2.out, e2.c0, e2.c1, e2.c2⟩, h.wn.at d⟩
/-- Behind an operation. -/
def Nx (A A2 A3 : Option Addr) (n c p J x0 : Nat) (bs : List UInt8) (W : World) (X : Nat → Prop) (ls : Array Bool) (ops : Array Oper) (k : List Item) (l : List Nat) (g : Goroutine) (w : World) : Prop := ∃ T, g = InR 10 ops k T l [] ∧ Ph A A2 A3 n c p J x0 bs W X ls T w

/-! the cuts -/
theorem cut_head (hC : Cut A n c p J A2 A3) (w : World) : (Instr.slice 29 (.slice A n c) none (some (.int .i64 (p : Nat))) none).run Try.prog w = .ok (.slice A p c) w := by
  obtain ⟨i, z, g1, g2, g3, g4, g5, g6⟩ := (elem_u8).ex
  have := hC.pJ
  have := hC.Jn
  have := hC.nc
  have he : Try.prog.elem 29 = 5 := by simp [Program.elem, g1]
  rw [run_slice_h w 29 A n c (by rw [he]; exact g1) .i64 p (by omega) (by omega), he]
  simp [sizeOf, typeInfo, g2, Result.andThen, sliced]
  cases A <;> simp [Addr.add]
theorem cut_mid (hC : Cut A n c p J A2 A3) (w : World) : (Instr.slice 29 (.slice A n c) (some (.int .i64 (p : Nat))) (some (.int .i64 (J : Nat))) none).run Try.prog w = .ok (.slice A2 (J - p : Nat) (c - p)) w := by
  obtain ⟨i, z, g1, g2, g3, g4, g5, g6⟩ := (elem_u8).ex
  have := hC.pJ
  have := hC.Jn
  have := hC.nc
  rw [run_mid g1 g2 g4 A (n := n) c (l := p) (h := J) (by omega) (by omega) w, ← hC.a2]
theorem cut_end (hC : Cut A n c p J A2 A3) (w : World) : (Instr.slice 29 (.slice A n c) (some (.int .i64 (J : Nat))) none none).run Try.prog w = .ok (.slice A3 (n - J : Nat) (c - J)) w := by
  obtain ⟨i, z, g1, g2, g3, g4, g5, g6⟩ := (elem_u8).ex
  have := hC.Jn
  rw [run_cut g1 g2 g4 A c (k := J) (n := n) (by omega) w, ← hC.a3]
theorem cut_tail (hC : Cut A n c p J A2 A3) (w : World) : (Instr.slice 29 (.slice A n c) (some (.int .i64 (p : Nat))) none none).run Try.prog w = .ok (.slice A2 (n - p : Nat) (c - p)) w := by
  obtain ⟨i, z, g1, g2, g3, g4, g5, g6⟩ := (elem_u8).ex
  have := hC.pJ
  have := hC.Jn
  rw [run_cut g1 g2 g4 A c (k := p) (n := n) (by omega) w, ← hC.a2]
theorem Cut.r23 {B : Nat} {v : World} (h : Cut A n c p J A2 A3) (hr : Reads v B 1 A n (bs.map bv)) : Reads v B 1 A2 (n - p) ((bs.drop p).map bv) := by
  have hc := Go.Proofs.Ytoipkpndfgcmcaa.Reads.cut hr (k := p) (cap := c) (Nat.le_trans h.pJ h.Jn) h.nc
  rw [h.a2]
  rw [Nat.mul_one, ← List.map_drop] at hc
  rw [Nat.mul_one]
  exact hc
theorem up_free {x y : Value} (k : Nat) (hk : k < (#[x, y] : Array Value).size) : slotK 26 k = 0 := by
  have : slotFree 26 = true := rfl
  simp only [slotFree, Bool.and_eq_true, bne_iff_ne, ne_eq] at this
  simp [slotK, this]
theorem o16_0 : ∃ o, (O16of (bodyOf Try.f10))[0]? = some o ∧ o.op = .move (.tmp 9) ∧ o.dst = some 135 ∧ o.guard = none ∧ True ∧ opCalm Try.prog calmF D0 o = true := ⟨_, rfl, rfl, rfl, rfl, trivial, by kernel_rfl⟩
theorem o16_1 : ∃ o, (O16of (bodyOf Try.f10))[1]? = some o ∧ o.op = .move (.tmp 0) ∧ o.dst = some 136 ∧ o.guard = none ∧ True ∧ opCalm Try.prog calmF D0 o = true := ⟨_, rfl, rfl, rfl, rfl, trivial, by kernel_rfl⟩
theorem o16_2 : ∃ o, (O16of (bodyOf Try.f10))[2]? = some o ∧ o.op = .move (.tmp 1) ∧ o.dst = some 137 ∧ o.guard = none ∧ True ∧ opCalm Try.prog calmF D0 o = true := ⟨_, rfl, rfl, rfl, rfl, trivial, by kernel_rfl⟩
theorem o16_3 : ∃ o, (O16of (bodyOf Try.f10))[3]? = some o ∧ o.op = .move (.tmp 2) ∧ o.dst = some 138 ∧ o.guard = none ∧ True ∧ opCalm Try.prog calmF D0 o = true := ⟨_, rfl, rfl, rfl, rfl, trivial, by kernel_rfl⟩
theorem o16_4 : ∃ o, (O16of (bodyOf Try.f10))[4]? = some o ∧ o.op = .slice 29 (.tmp 136) ((some 137).map Operand.tmp) ((some 138).map Operand.tmp) none ∧ o.dst = some 139 ∧ o.guard = none ∧ (∀ d ∈ [1, 2, 3], d ∈ depsOf o) ∧ opCalm Try.prog calmF D0 o = true := ⟨_, rfl, rfl, rfl, rfl, by decide, by kernel_rfl⟩
theorem o16_5 : ∃ o, (O16of (bodyOf Try.f10))[5]? = some o ∧ o.op = .call { callee := .value (.func 26), args := #[.tmp 135, .tmp 139], argTypes := #[40, 29] } ∧ o.dst = some 140 ∧ o.guard = none ∧ (∀ d ∈ [0, 4], d ∈ depsOf o) ∧ opCalm Try.prog calmF D0 o = true := ⟨_, rfl, rfl, rfl, rfl, by decide, by kernel_rfl⟩
theorem o16_6 : ∃ o, (O16of (bodyOf Try.f10))[6]? = some o ∧ o.op = .move (.tmp 0) ∧ o.dst = some 141 ∧ o.guard = none ∧ True ∧ opCalm Try.prog calmF D0 o = true := ⟨_, rfl, rfl, rfl, rfl, trivial, by kernel_rfl⟩
theorem o16_7 : ∃ o, (O16of (bodyOf Try.f10))[7]? = some o ∧ o.op = .move (.tmp 2) ∧ o.dst = some 142 ∧ o.guard = none ∧ True ∧ opCalm Try.prog calmF D0 o = true := ⟨_, rfl, rfl, rfl, rfl, trivial, by kernel_rfl⟩
theorem o16_8 : ∃ o, (O16of (bodyOf Try.f10))[8]? = some o ∧ o.op = .slice 29 (.tmp 141) ((some 142).map Operand.tmp) ((none : Option Nat).map Operand.tmp) none ∧ o.dst = some 143 ∧ o.guard = none ∧ (∀ d ∈ [6, 7], d ∈ depsOf o) ∧ opCalm Try.prog calmF D0 o = true := ⟨_, rfl, rfl, rfl, rfl, by decide, by kernel_rfl⟩
theorem o16_9 : ∃ o, (O16of (bodyOf Try.f10))[9]? = some o ∧ o.op = .call { callee := .value (.func 26), args := #[.tmp 140, .tmp 143], argTypes := #[40, 29] } ∧ o.dst = some 144 ∧ o.guard = none ∧ (∀ d ∈ [5, 8], d ∈ depsOf o) ∧ opCalm Try.prog calmF D0 o = true := ⟨_, rfl, rfl, rfl, rfl, by decide, by kernel_rfl⟩
theorem o16_10 : ∃ o, (O16of (bodyOf Try.f10))[10]? = some o ∧ o.op = .move (.tmp 12) ∧ o.dst = some 145 ∧ o.guard = none ∧ True ∧ opCalm Try.prog calmF D0 o = true := ⟨_, rfl, rfl, rfl, rfl, trivial, by kernel_rfl⟩
theorem o16_11 : ∃ o, (O16of (bodyOf Try.f10))[11]? = some o ∧ o.op = .binOp .neq 40 (.tmp 144) (.tmp 145) 40 ∧ o.dst = some 146 ∧ o.guard = none ∧ (∀ d ∈ [9, 10], d ∈ depsOf o) ∧ opCalm Try.prog calmF D0 o = true := ⟨_, rfl, rfl, rfl, rfl, by decide, by kernel_rfl⟩
theorem o16_12 : ∃ o, (O16of (bodyOf Try.f10))[12]? = some o ∧ o.op = .move (.tmp 146) ∧ o.dst = some 147 ∧ o.guard = none ∧ (∀ d ∈ [11], d ∈ depsOf o) ∧ opCalm Try.prog calmF D0 o = true := ⟨_, rfl, rfl, rfl, rfl, by decide, by kernel_rfl⟩
theorem o16_13 : ∃ o, (O16of (bodyOf Try.f10))[13]? = some o ∧ o.op = .move (.tmp 3) ∧ o.dst = some 148 ∧ o.guard = some (12, false) ∧ (∀ d ∈ [12], d ∈ depsOf o) ∧ opCalm Try.prog calmF D0 o = true := ⟨_, rfl, rfl, rfl, rfl, by decide, by kernel_rfl⟩
theorem o16_14 : ∃ o, (O16of (bodyOf Try.f10))[14]? = some o ∧ o.op = .move (.tmp 0) ∧ o.dst = some 149 ∧ o.guard = some (12, false) ∧ (∀ d ∈ [12], d ∈ depsOf o) ∧ opCalm Try.prog calmF D0 o = true := ⟨_, rfl, rfl, rfl, rfl, by decide, by kernel_rfl⟩
theorem o16_15 : ∃ o, (O16of (bodyOf Try.f10))[15]? = some o ∧ o.op = .move (.tmp 1) ∧ o.dst = some 150 ∧ o.guard = some (12, false) ∧ (∀ d ∈ [12], d ∈ depsOf o) ∧ opCalm Try.prog calmF D0 o = true := ⟨_, rfl, rfl, rfl, rfl, by decide, by kernel_rfl⟩
theorem o16_16 : ∃ o, (O16of (bodyOf Try.f10))[16]? = some o ∧ o.op = .slice 29 (.tmp 149) ((none : Option Nat).map Operand.tmp) ((some 150).map Operand.tmp) none ∧ o.dst = some 151 ∧ o.guard = some (12, false) ∧ (∀ d ∈ [14, 15, 12], d ∈ depsOf o) ∧ opCalm Try.prog calmF D0 o = true := ⟨_, rfl, rfl, rfl, rfl, by decide, by kernel_rfl⟩
theorem o16_17 : ∃ o, (O16of (bodyOf Try.f10))[17]? = some o ∧ o.op = .call { callee := .value (.func 26), args := #[.tmp 148, .tmp 151], argTypes := #[40, 29] } ∧ o.dst = some 152 ∧ o.guard = some (12, false) ∧ (∀ d ∈ [13, 16, 12], d ∈ depsOf o) ∧ opCalm Try.prog calmF D0 o = true := ⟨_, rfl, rfl, rfl, rfl, by decide, by kernel_rfl⟩
theorem o16_18 : ∃ o, (O16of (bodyOf Try.f10))[18]? = some o ∧ o.op = .move (.tmp 0) ∧ o.dst = some 153 ∧ o.guard = some (12, false) ∧ (∀ d ∈ [12], d ∈ depsOf o) ∧ opCalm Try.prog calmF D0 o = true := ⟨_, rfl, rfl, rfl, rfl, by decide, by kernel_rfl⟩
theorem o16_19 : ∃ o, (O16of (bodyOf Try.f10))[19]? = some o ∧ o.op = .move (.tmp 1) ∧ o.dst = some 154 ∧ o.guard = some (12, false) ∧ (∀ d ∈ [12], d ∈ depsOf o) ∧ opCalm Try.prog calmF D0 o = true := ⟨_, rfl, rfl, rfl, rfl, by decide, by kernel_rfl⟩
theorem o16_20 : ∃ o, (O16of (bodyOf Try.f10))[20]? = some o ∧ o.op = .slice 29 (.tmp 153) ((some 154).map Operand.tmp) ((none : Option Nat).map Operand.tmp) none ∧ o.dst = some 155 ∧ o.guard = some (12, false) ∧ (∀ d ∈ [18, 19, 12], d ∈ depsOf o) ∧ opCalm Try.prog calmF D0 o = true := ⟨_, rfl, rfl, rfl, rfl, by decide, by kernel_rfl⟩
theorem o16_21 : ∃ o, (O16of (bodyOf Try.f10))[21]? = some o ∧ o.op = .call { callee := .value (.func 26), args := #[.tmp 152, .tmp 155], argTypes := #[40, 29] } ∧ o.dst = some 156 ∧ o.guard = some (12, false) ∧ (∀ d ∈ [17, 20, 12], d ∈ depsOf o) ∧ opCalm Try.prog calmF D0 o = true := ⟨_, rfl, rfl, rfl, rfl, by decide, by kernel_rfl⟩
theorem o16_22 : ∃ o, (O16of (bodyOf Try.f10))[22]? = some o ∧ o.op = .move (.tmp 3) ∧ o.dst = some 157 ∧ o.guard = some (12, false) ∧ (∀ d ∈ [12], d ∈ depsOf o) ∧ opCalm Try.prog calmF D0 o = true := ⟨_, rfl, rfl, rfl, rfl, by decide, by kernel_rfl⟩
theorem o16_23 : ∃ o, (O16of (bodyOf Try.f10))[23]? = some o ∧ o.op = .move (.tmp 0) ∧ o.dst = some 158 ∧ o.guard = some (12, false) ∧ (∀ d ∈ [12], d ∈ depsOf o) ∧ opCalm Try.prog calmF D0 o = true := ⟨_, rfl, rfl, rfl, rfl, by decide, by kernel_rfl⟩
theorem o16_24 : ∃ o, (O16of (bodyOf Try.f10))[24]? = some o ∧ o.op = .call { callee := .value (.func 26), args := #[.tmp 157, .tmp 158], argTypes := #[40, 29] } ∧ o.dst = some 159 ∧ o.guard = some (12, false) ∧ (∀ d ∈ [22, 23, 12], d ∈ depsOf o) ∧ opCalm Try.prog calmF D0 o = true := ⟨_, rfl, rfl, rfl, rfl, by decide, by kernel_rfl⟩
theorem o16_25 : ∃ o, (O16of (bodyOf Try.f10))[25]? = some o ∧ o.op = .binOp .neq 40 (.tmp 156) (.tmp 159) 40 ∧ o.dst = some 160 ∧ o.guard = some (12, false) ∧ (∀ d ∈ [21, 24, 12], d ∈ depsOf o) ∧ opCalm Try.prog calmF D0 o = true := ⟨_, rfl, rfl, rfl, rfl, by decide, by kernel_rfl⟩
theorem o16_26 : ∃ o, (O16of (bodyOf Try.f10))[26]? = some o ∧ o.op = .pick (.tmp 147) (.const (.bool true)) (.tmp 160) ∧ o.dst = some 161 ∧ o.guard = none ∧ (∀ d ∈ [12, 25], d ∈ depsOf o) ∧ opCalm Try.prog calmF D0 o = true := ⟨_, rfl, rfl, rfl, rfl, by decide, by kernel_rfl⟩
theorem o16_27 : ∃ o, (O16of (bodyOf Try.f10))[27]? = some o ∧ o.op = .move (.tmp 161) ∧ o.dst = some 162 ∧ o.guard = none ∧ (∀ d ∈ [26], d ∈ depsOf o) ∧ opCalm Try.prog calmF D0 o = true := ⟨_, rfl, rfl, rfl, rfl, by decide, by kernel_rfl⟩
theorem o16_28 : ∃ o, (O16of (bodyOf Try.f10))[28]? = some o ∧ o.op = .move (.tmp 0) ∧ o.dst = some 163 ∧ o.guard = some (27, false) ∧ (∀ d ∈ [27], d ∈ depsOf o) ∧ opCalm Try.prog calmF D0 o = true := ⟨_, rfl, rfl, rfl, rfl, by decide, by kernel_rfl⟩
theorem o16_29 : ∃ o, (O16of (bodyOf Try.f10))[29]? = some o ∧ o.op = .move (.tmp 1) ∧ o.dst = some 164 ∧ o.guard = some (27, false) ∧ (∀ d ∈ [27], d ∈ depsOf o) ∧ opCalm Try.prog calmF D0 o = true := ⟨_, rfl, rfl, rfl, rfl, by decide, by kernel_rfl⟩
theorem o16_30 : ∃ o, (O16of (bodyOf Try.f10))[30]? = some o ∧ o.op = .slice 29 (.tmp 163) ((none : Option Nat).map Operand.tmp) ((some 164).map Operand.tmp) none ∧ o.dst = some 165 ∧ o.guard = some (27, false) ∧ (∀ d ∈ [28, 29, 27], d ∈ depsOf o) ∧ opCalm Try.prog calmF D0 o = true := ⟨_, rfl, rfl, rfl, rfl, by decide, by kernel_rfl⟩
theorem o16_31 : ∃ o, (O16of (bodyOf Try.f10))[31]? = some o ∧ o.op = .move (.tmp 0) ∧ o.dst = some 166 ∧ o.guard = some (27, false) ∧ (∀ d ∈ [27], d ∈ depsOf o) ∧ opCalm Try.prog calmF D0 o = true := ⟨_, rfl, rfl, rfl, rfl, by decide, by kernel_rfl⟩
theorem o16_32 : ∃ o, (O16of (bodyOf Try.f10))[32]? = some o ∧ o.op = .move (.tmp 1) ∧ o.dst = some 167 ∧ o.guard = some (27, false) ∧ (∀ d ∈ [27], d ∈ depsOf o) ∧ opCalm Try.prog calmF D0 o = true := ⟨_, rfl, rfl, rfl, rfl, by decide, by kernel_rfl⟩
theorem o16_33 : ∃ o, (O16of (bodyOf Try.f10))[33]? = some o ∧ o.op = .move (.tmp 2) ∧ o.dst = some 168 ∧ o.guard = some (27, false) ∧ (∀ d ∈ [27], d ∈ depsOf o) ∧ opCalm Try.prog calmF D0 o = true := ⟨_, rfl, rfl, rfl, rfl, by decide, by kernel_rfl⟩
theorem o16_34 : ∃ o, (O16of (bodyOf Try.f10))[34]? = some o ∧ o.op = .slice 29 (.tmp 166) ((some 167).map Operand.tmp) ((some 168).map Operand.tmp) none ∧ o.dst = some 169 ∧ o.guard = some (27, false) ∧ (∀ d ∈ [31, 32, 33, 27], d ∈ depsOf o) ∧ opCalm Try.prog calmF D0 o = true := ⟨_, rfl, rfl, rfl, rfl, by decide, by kernel_rfl⟩
theorem o16_35 : ∃ o, (O16of (bodyOf Try.f10))[35]? = some o ∧ o.op = .move (.tmp 0) ∧ o.dst = some 170 ∧ o.guard = some (27, false) ∧ (∀ d ∈ [27], d ∈ depsOf o) ∧ opCalm Try.prog calmF D0 o = true := ⟨_, rfl, rfl, rfl, rfl, by decide, by kernel_rfl⟩
theorem o16_36 : ∃ o, (O16of (bodyOf Try.f10))[36]? = some o ∧ o.op = .move (.tmp 2) ∧ o.dst = some 171 ∧ o.guard = some (27, false) ∧ (∀ d ∈ [27], d ∈ depsOf o) ∧ opCalm Try.prog calmF D0 o = true := ⟨_, rfl, rfl, rfl, rfl, by decide, by kernel_rfl⟩
theorem o16_37 : ∃ o, (O16of (bodyOf Try.f10))[37]? = some o ∧ o.op = .slice 29 (.tmp 170) ((some 171).map Operand.tmp) ((none : Option Nat).map Operand.tmp) none ∧ o.dst = some 172 ∧ o.guard = some (27, false) ∧ (∀ d ∈ [35, 36, 27], d ∈ depsOf o) ∧ opCalm Try.prog calmF D0 o = true := ⟨_, rfl, rfl, rfl, rfl, by decide, by kernel_rfl⟩
theorem o16_38 : ∃ o, (O16of (bodyOf Try.f10))[38]? = some o ∧ o.op = .buildSlice 62 3 #[(0, .tmp 165), (1, .tmp 169), (2, .tmp 172)] ∧ o.dst = some 173 ∧ o.guard = some (27, false) ∧ (∀ d ∈ [30, 34, 37, 27], d ∈ depsOf o) ∧ opCalm Try.prog calmF D0 o = true := ⟨_, rfl, rfl, rfl, rfl, by decide, by kernel_rfl⟩
theorem o16_39 : ∃ o, (O16of (bodyOf Try.f10))[39]? = some o ∧ o.op = .call { callee := .value (.func 38), args := #[.tmp 173], argTypes := #[62] } ∧ o.dst = some 174 ∧ o.guard = some (27, false) ∧ (∀ d ∈ [38, 27], d ∈ depsOf o) ∧ True := ⟨_, rfl, rfl, rfl, rfl, by decide, trivial⟩
theorem o16_40 : ∃ o, (O16of (bodyOf Try.f10))[40]? = some o ∧ o.op = .move (.tmp 12) ∧ o.dst = some 175 ∧ o.guard = some (27, false) ∧ (∀ d ∈ [27], d ∈ depsOf o) ∧ opCalm Try.prog calmF D0 o = true := ⟨_, rfl, rfl, rfl, rfl, by decide, by kernel_rfl⟩
theorem o16_41 : ∃ o, (O16of (bodyOf Try.f10))[41]? = some o ∧ o.op = .binOp .neq 40 (.tmp 174) (.tmp 175) 40 ∧ o.dst = some 176 ∧ o.guard = some (27, false) ∧ (∀ d ∈ [39, 40, 27], d ∈ depsOf o) ∧ opCalm Try.prog calmF D0 o = true := ⟨_, rfl, rfl, rfl, rfl, by decide, by kernel_rfl⟩
theorem o16_42 : ∃ o, (O16of (bodyOf Try.f10))[42]? = some o ∧ o.op = .pick (.tmp 162) (.const (.bool true)) (.tmp 176) ∧ o.dst = some 177 ∧ o.guard = none ∧ (∀ d ∈ [27, 41], d ∈ depsOf o) ∧ opCalm Try.prog calmF D0 o = true := ⟨_, rfl, rfl, rfl, rfl, by decide, by kernel_rfl⟩
theorem s16_0 (hr : Reads W W.heap.size 1 A n (bs.map bv)) (hn : n ≤ 140737488355328) (hC : Cut A n c p J A2 A3) (hx : x0 < U32) (h : Ph A A2 A3 n c p J x0 bs W X ls T w) (haf : ∀ o, (O16of (bodyOf Try.f10))[0]? = some o → ∀ e ∈ o.after, Region.binds .any e = true → ls.getD e.on false = true) :
    Runs Try.prog (DF X) (Nx A A2 A3 n c p J x0 bs W X (ls.setIfInBounds 0 true) (O16of (bodyOf Try.f10)) k l) (InR 10 (O16of (bodyOf Try.f10)) k T (0 :: l) []) w := by
  obtain ⟨o, ho, hop, hd, hg, hdep, hc⟩ := o16_0
  refine hand_pure ho (wanted_none hg) hc h.wn.rows (p_move hop h.pc.t9) ?_
  rw [hd]
  exact .stop fun d => ⟨_, rfl, (h.put (by decide) (by decide) rfl (Below.refl _ _)).at d⟩
theorem s16_1 (hr : Reads W W.heap.size 1 A n (bs.map bv)) (hn : n ≤ 140737488355328) (hC : Cut A n c p J A2 A3) (hx : x0 < U32) (h : Ph A A2 A3 n c p J x0 bs W X ls T w) (haf : ∀ o, (O16of (bodyOf Try.f10))[1]? = some o → ∀ e ∈ o.after, Region.binds .any e = true → ls.getD e.on false = true) :
    Runs Try.prog (DF X) (Nx A A2 A3 n c p J x0 bs W X (ls.setIfInBounds 1 true) (O16of (bodyOf Try.f10)) k l) (InR 10 (O16of (bodyOf Try.f10)) k T (1 :: l) []) w := by
  obtain ⟨o, ho, hop, hd, hg, hdep, hc⟩ := o16_1
  refine hand_pure ho (wanted_none hg) hc h.wn.rows (p_move hop h.pc.t0) ?_
  rw [hd]
  exact .stop fun d => ⟨_, rfl, (h.put (by decide) (by decide) rfl (Below.refl _ _)).at d⟩
theorem s16_2 (hr : Reads W W.heap.size 1 A n (bs.map bv)) (hn : n ≤ 140737488355328) (hC : Cut A n c p J A2 A3) (hx : x0 < U32) (h : Ph A A2 A3 n c p J x0 bs W X ls T w) (haf : ∀ o, (O16of (bodyOf Try.f10))[2]? = some o → ∀ e ∈ o.after, Region.binds .any e = true → ls.getD e.on false = true) :
    Runs Try.prog (DF X) (Nx A A2 A3 n c p J x0 bs W X (ls.setIfInBounds 2 true) (O16of (bodyOf Try.f10)) k l) (InR 10 (O16of (bodyOf Try.f10)) k T (2 :: l) []) w := by
  obtain ⟨o, ho, hop, hd, hg, hdep, hc⟩ := o16_2
  refine hand_pure ho (wanted_none hg) hc h.wn.rows (p_move hop h.pc.t1) ?_
  rw [hd]
  exact .stop fun d => ⟨_, rfl, (h.put (by decide) (by decide) rfl (Below.refl _ _)).at d⟩
theorem s16_3 (hr : Reads W W.heap.size 1 A n (bs.map bv)) (hn : n ≤ 140737488355328) (hC : Cut A n c p J A2 A3) (hx : x0 < U32) (h : Ph A A2 A3 n c p J x0 bs W X ls T w) (haf : ∀ o, (O16of (bodyOf Try.f10))[3]? = some o → ∀ e ∈ o.after, Region.binds .any e = true → ls.getD e.on false = true) :
    Runs Try.prog (DF X) (Nx A A2 A3 n c p J x0 bs W X (ls.setIfInBounds 3 true) (O16of (bodyOf Try.f10)) k l) (InR 10 (O16of (bodyOf Try.f10)) k T (3 :: l) []) w := by
  obtain ⟨o, ho, hop, hd, hg, hdep, hc⟩ := o16_3
  refine hand_pure ho (wanted_none hg) hc h.wn.rows (p_move hop h.pc.t2) ?_
  rw [hd]
  exact .stop fun d => ⟨_, rfl, (h.put (by decide) (by decide) rfl (Below.refl _ _)).at d⟩
theorem s16_4 (hr : Reads W W.heap.size 1 A n (bs.map bv)) (hn : n ≤ 140737488355328) (hC : Cut A n c p J A2 A3) (hx : x0 < U32) (h : Ph A A2 A3 n c p J x0 bs W X ls T w) (haf : ∀ o, (O16of (bodyOf Try.f10))[4]? = some o → ∀ e ∈ o.after, Region.binds .any e = true → ls.getD e.on false = true) :
    Runs Try.prog (DF X) (Nx A A2 A3 n c p J x0 bs W X (ls.setIfInBounds 4 true) (O16of (bodyOf Try.f10)) k l) (InR 10 (O16of (bodyOf Try.f10)) k T (4 :: l) []) w := by
  obtain ⟨o, ho, hop, hd, hg, hdep, hc⟩ := o16_4
  have e1 : T[136]? = some (.slice A n c) := h.done 1 (by decide) (by decide) (deps_done (haf o ho) (hdep 1 (by decide)))
  have e2 : T[137]? = some (.int .i64 (p : Nat)) := h.done 2 (by decide) (by decide) (deps_done (haf o ho) (hdep 2 (by decide)))
  have e3 : T[138]? = some (.int .i64 (J : Nat)) := h.done 3 (by decide) (by decide) (deps_done (haf o ho) (hdep 3 (by decide)))
  refine hand_pure ho (wanted_none hg) hc h.wn.rows (p_slice hop e1 (congrArg some (ev_tmp e2)) (congrArg some (ev_tmp e3)) (cut_mid hC)) ?_
  rw [hd]
  exact .stop fun d => ⟨_, rfl, (h.put (by decide) (by decide) rfl (Below.refl _ _)).at d⟩
theorem s16_5 (hr : Reads W W.heap.size 1 A n (bs.map bv)) (hn : n ≤ 140737488355328) (hC : Cut A n c p J A2 A3) (hx : x0 < U32) (h : Ph A A2 A3 n c p J x0 bs W X ls T w) (haf : ∀ o, (O16of (bodyOf Try.f10))[5]? = some o → ∀ e ∈ o.after, Region.binds .any e = true → ls.getD e.on false = true) :
    Runs Try.prog (DF X) (Nx A A2 A3 n c p J x0 bs W X (ls.setIfInBounds 5 true) (O16of (bodyOf Try.f10)) k l) (InR 10 (O16of (bodyOf Try.f10)) k T (5 :: l) []) w := by
  obtain ⟨o, ho, hop, hd, hg, hdep, hc⟩ := o16_5
  have e0 : T[135]? = some (.int .u32 (upd 0 (b1 bs p J) : Nat)) := h.done 0 (by decide) (by decide) (deps_done (haf o ho) (hdep 0 (by decide)))
  have e4 : T[139]? = some (.slice A2 (J - p : Nat) (c - p)) := h.done 4 (by decide) (by decide) (deps_done (haf o ho) (hdep 4 (by decide)))
  have hle : (J - p) ≤ 140737488355328 := by have := hC.pJ; have := hC.Jn; omega
  have heq : upd (upd 0 (b1 bs p J)) (b2 bs p J) = upd (upd 0 (b1 bs p J)) (b2 bs p J) := rfl
  refine hand_call (Q := fun x v' => x = .int .u32 (upd (upd 0 (b1 bs p J)) (b2 bs p J) : Nat) ∧ ∃ tp, Below w.heap.size { veilW X w with tape := tp, drawn := 0 } v') ho (wanted_none hg) hop (by rfl) Try.func26 (by rfl) (by rfl) rfl (vs := #[.int .u32 (upd 0 (b1 bs p J) : Nat), .slice A2 (J - p : Nat) (c - p)]) (by simp [ev_tmp e0, ev_tmp e4]) (fun k hk => up_free k hk) h.wn.rows (fun tp => ?_) (fun x v' w' hQ ha => ?_)
  · have hv := hC.r2 (reads_veil (t := tp) (d := 0) (hr.below h.wn.below) fun r hx => (h.wn.at_ r hx).1)
    have hs : ({ veilW X w with tape := tp, drawn := 0 } : World).heap.size = w.heap.size := veil_size X w
    have := update_any (upd 0 (b1 bs p J)) _ A2 (J - p) (c - p) W.heap.size { veilW X w with tape := tp, drawn := 0 } (upd_lt (by decide) _) hv hle (by rw [hs]; exact h.wn.below.size)
    rw [hs] at this
    exact this.mono fun e v' ⟨h1, h2⟩ => ⟨_, h1, rfl, tp, h2⟩
  · obtain ⟨rfl, tp, hb⟩ := hQ
    rw [hd]
    exact .stop fun d => ⟨_, rfl, (h.put (by decide) (by decide) (by rw [heq]; rfl) (ha.below hb)).at d⟩
theorem s16_6 (hr : Reads W W.heap.size 1 A n (bs.map bv)) (hn : n ≤ 140737488355328) (hC : Cut A n c p J A2 A3) (hx : x0 < U32) (h : Ph A A2 A3 n c p J x0 bs W X ls T w) (haf : ∀ o, (O16of (bodyOf Try.f10))[6]? = some o → ∀ e ∈ o.after, Region.binds .any e = true → ls.getD e.on false = true) :
    Runs Try.prog (DF X) (Nx A A2 A3 n c p J x0 bs W X (ls.setIfInBounds 6 true) (O16of (bodyOf Try.f10)) k l) (InR 10 (O16of (bodyOf Try.f10)) k T (6 :: l) []) w := by
  obtain ⟨o, ho, hop, hd, hg, hdep, hc⟩ := o16_6
  refine hand_pure ho (wanted_none hg) hc h.wn.rows (p_move hop h.pc.t0) ?_
  rw [hd]
  exact .stop fun d => ⟨_, rfl, (h.put (by decide) (by decide) rfl (Below.refl _ _)).at d⟩
theorem s16_7 (hr : Reads W W.heap.size 1 A n (bs.map bv)) (hn : n ≤ 140737488355328) (hC : Cut A n c p J A2 A3) (hx : x0 < U32) (h : Ph A A2 A3 n c p J x0 bs W X ls T w) (haf : ∀ o, (O16of (bodyOf Try.f10))[7]? = some o → ∀ e ∈ o.after, Region.binds .any e = true → ls.getD e.on false = true) :
    Runs Try.prog (DF X) (Nx A A2 A3 n c p J x0 bs W X (ls.setIfInBounds 7 true) (O16of (bodyOf Try.f10)) k l) (InR 10 (O16of (bodyOf Try.f10)) k T (7 :: l) []) w := by
  obtain ⟨o, ho, hop, hd, hg, hdep, hc⟩ := o16_7
  refine hand_pure ho (wanted_none hg) hc h.wn.rows (p_move hop h.pc.t2) ?_
  rw [hd]
  exact .stop fun d => ⟨_, rfl, (h.put (by decide) (by decide) rfl (Below.refl _ _)).at d⟩
theorem s16_8 (hr : Reads W W.heap.size 1 A n (bs.map bv)) (hn : n ≤ 140737488355328) (hC : Cut A n c p J A2 A3) (hx : x0 < U32) (h : Ph A A2 A3 n c p J x0 bs W X ls T w) (haf : ∀ o, (O16of (bodyOf Try.f10))[8]? = some o → ∀ e ∈ o.after, Region.binds .any e = true → ls.getD e.on false = true) :
    Runs Try.prog (DF X) (Nx A A2 A3 n c p J x0 bs W X (ls.setIfInBounds 8 true) (O16of (bodyOf Try.f10)) k l) (InR 10 (O16of (bodyOf Try.f10)) k T (8 :: l) []) w := by
  obtain ⟨o, ho, hop, hd, hg, hdep, hc⟩ := o16_8
  have e6 : T[141]? = some (.slice A n c) := h.done 6 (by decide) (by decide) (deps_done (haf o ho) (hdep 6 (by decide)))
  have e7 : T[142]? = some (.int .i64 (J : Nat)) := h.done 7 (by decide) (by decide) (deps_done (haf o ho) (hdep 7 (by decide)))
  refine hand_pure ho (wanted_none hg) hc h.wn.rows (p_slice hop e6 (congrArg some (ev_tmp e7)) rfl (cut_end hC)) ?_
  rw [hd]
  exact .stop fun d => ⟨_, rfl, (h.put (by decide) (by decide) rfl (Below.refl _ _)).at d⟩
theorem s16_9 (hr : Reads W W.heap.size 1 A n (bs.map bv)) (hn : n ≤ 140737488355328) (hC : Cut A n c p J A2 A3) (hx : x0 < U32) (h : Ph A A2 A3 n c p J x0 bs W X ls T w) (haf : ∀ o, (O16of (bodyOf Try.f10))[9]? = some o → ∀ e ∈ o.after, Region.binds .any e = true → ls.getD e.on false = true) :
    Runs Try.prog (DF X) (Nx A A2 A3 n c p J x0 bs W X (ls.setIfInBounds 9 true) (O16of (bodyOf Try.f10)) k l) (InR 10 (O16of (bodyOf Try.f10)) k T (9 :: l) []) w := by
  obtain ⟨o, ho, hop, hd, hg, hdep, hc⟩ := o16_9
  have e5 : T[140]? = some (.int .u32 (upd (upd 0 (b1 bs p J)) (b2 bs p J) : Nat)) := h.done 5 (by decide) (by decide) (deps_done (haf o ho) (hdep 5 (by decide)))
  have e8 : T[143]? = some (.slice A3 (n - J : Nat) (c - J)) := h.done 8 (by decide) (by decide) (deps_done (haf o ho) (hdep 8 (by decide)))
  have hle : (n - J) ≤ 140737488355328 := by have := hC.pJ; have := hC.Jn; omega
  have heq : upd (upd (upd 0 (b1 bs p J)) (b2 bs p J)) (b3 bs p J) = upd 0 bs := (by rw [upd_app, upd_app, b123 hC])
  refine hand_call (Q := fun x v' => x = .int .u32 (upd (upd (upd 0 (b1 bs p J)) (b2 bs p J)) (b3 bs p J) : Nat) ∧ ∃ tp, Below w.heap.size { veilW X w with tape := tp, drawn := 0 } v') ho (wanted_none hg) hop (by rfl) Try.func26 (by rfl) (by rfl) rfl (vs := #[.int .u32 (upd (upd 0 (b1 bs p J)) (b2 bs p J) : Nat), .slice A3 (n - J : Nat) (c - J)]) (by simp [ev_tmp e5, ev_tmp e8]) (fun k hk => up_free k hk) h.wn.rows (fun tp => ?_) (fun x v' w' hQ ha => ?_)
  · have hv := hC.r3 (reads_veil (t := tp) (d := 0) (hr.below h.wn.below) fun r hx => (h.wn.at_ r hx).1)
    have hs : ({ veilW X w with tape := tp, drawn := 0 } : World).heap.size = w.heap.size := veil_size X w
    have := update_any (upd (upd 0 (b1 bs p J)) (b2 bs p J)) _ A3 (n - J) (c - J) W.heap.size { veilW X w with tape := tp, drawn := 0 } (upd_lt (upd_lt (by decide) _) _) hv hle (by rw [hs]; exact h.wn.below.size)
    rw [hs] at this
    exact this.mono fun e v' ⟨h1, h2⟩ => ⟨_, h1, rfl, tp, h2⟩
  · obtain ⟨rfl, tp, hb⟩ := hQ
    rw [hd]
    exact .stop fun d => ⟨_, rfl, (h.put (by decide) (by decide) (by rw [heq]; rfl) (ha.below hb)).at d⟩
theorem s16_10 (hr : Reads W W.heap.size 1 A n (bs.map bv)) (hn : n ≤ 140737488355328) (hC : Cut A n c p J A2 A3) (hx : x0 < U32) (h : Ph A A2 A3 n c p J x0 bs W X ls T w) (haf : ∀ o, (O16of (bodyOf Try.f10))[10]? = some o → ∀ e ∈ o.after, Region.binds .any e = true → ls.getD e.on false = true) :
    Runs Try.prog (DF X) (Nx A A2 A3 n c p J x0 bs W X (ls.setIfInBounds 10 true) (O16of (bodyOf Try.f10)) k l) (InR 10 (O16of (bodyOf Try.f10)) k T (10 :: l) []) w := by
  obtain ⟨o, ho, hop, hd, hg, hdep, hc⟩ := o16_10
  refine hand_pure ho (wanted_none hg) hc h.wn.rows (p_move hop h.pc.t12) ?_
  rw [hd]
  exact .stop fun d => ⟨_, rfl, (h.put (by decide) (by decide) rfl (Below.refl _ _)).at d⟩
theorem s16_11 (hr : Reads W W.heap.size 1 A n (bs.map bv)) (hn : n ≤ 140737488355328) (hC : Cut A n c p J A2 A3) (hx : x0 < U32) (h : Ph A A2 A3 n c p J x0 bs W X ls T w) (haf : ∀ o, (O16of (bodyOf Try.f10))[11]? = some o → ∀ e ∈ o.after, Region.binds .any e = true → ls.getD e.on false = true) :
    Runs Try.prog (DF X) (Nx A A2 A3 n c p J x0 bs W X (ls.setIfInBounds 11 true) (O16of (bodyOf Try.f10)) k l) (InR 10 (O16of (bodyOf Try.f10)) k T (11 :: l) []) w := by
  obtain ⟨o, ho, hop, hd, hg, hdep, hc⟩ := o16_11
  have e9 : T[144]? = some (.int .u32 (upd 0 bs : Nat)) := h.done 9 (by decide) (by decide) (deps_done (haf o ho) (hdep 9 (by decide)))
  have e10 : T[145]? = some (.int .u32 (upd 0 bs : Nat)) := h.done 10 (by decide) (by decide) (deps_done (haf o ho) (hdep 10 (by decide)))
  refine hand_pure ho (wanted_none hg) hc h.wn.rows (p_neq (z := false) hop e9 e10 (by simp)) ?_
  rw [hd]
  exact .stop fun d => ⟨_, rfl, (h.put (by decide) (by decide) rfl (Below.refl _ _)).at d⟩
theorem s16_12 (hr : Reads W W.heap.size 1 A n (bs.map bv)) (hn : n ≤ 140737488355328) (hC : Cut A n c p J A2 A3) (hx : x0 < U32) (h : Ph A A2 A3 n c p J x0 bs W X ls T w) (haf : ∀ o, (O16of (bodyOf Try.f10))[12]? = some o → ∀ e ∈ o.after, Region.binds .any e = true → ls.getD e.on false = true) :
    Runs Try.prog (DF X) (Nx A A2 A3 n c p J x0 bs W X (ls.setIfInBounds 12 true) (O16of (bodyOf Try.f10)) k l) (InR 10 (O16of (bodyOf Try.f10)) k T (12 :: l) []) w := by
  obtain ⟨o, ho, hop, hd, hg, hdep, hc⟩ := o16_12
  have e11 : T[146]? = some (.bool false) := h.done 11 (by decide) (by decide) (deps_done (haf o ho) (hdep 11 (by decide)))
  refine hand_pure ho (wanted_none hg) hc h.wn.rows (p_move hop e11) ?_
  rw [hd]
  exact .stop fun d => ⟨_, rfl, (h.put (by decide) (by decide) rfl (Below.refl _ _)).at d⟩
theorem s16_13 (hr : Reads W W.heap.size 1 A n (bs.map bv)) (hn : n ≤ 140737488355328) (hC : Cut A n c p J A2 A3) (hx : x0 < U32) (h : Ph A A2 A3 n c p J x0 bs W X ls T w) (haf : ∀ o, (O16of (bodyOf Try.f10))[13]? = some o → ∀ e ∈ o.after, Region.binds .any e = true → ls.getD e.on false = true) :
    Runs Try.prog (DF X) (Nx A A2 A3 n c p J x0 bs W X (ls.setIfInBounds 13 true) (O16of (bodyOf Try.f10)) k l) (InR 10 (O16of (bodyOf Try.f10)) k T (13 :: l) []) w := by
  obtain ⟨o, ho, hop, hd, hg, hdep, hc⟩ := o16_13
  have e12 : T[147]? = some (.bool false) := h.done 12 (by decide) (by decide) (deps_done (haf o ho) (hdep 12 (by decide)))
  obtain ⟨og, hog, _, hogd, _⟩ := o16_12
  refine hand_pure ho (wanted_guard hg hog hogd e12) hc h.wn.rows (p_move hop h.pc.t3) ?_
  rw [hd]
  exact .stop fun d => ⟨_, rfl, (h.put (by decide) (by decide) rfl (Below.refl _ _)).at d⟩
theorem s16_14 (hr : Reads W W.heap.size 1 A n (bs.map bv)) (hn : n ≤ 140737488355328) (hC : Cut A n c p J A2 A3) (hx : x0 < U32) (h : Ph A A2 A3 n c p J x0 bs W X ls T w) (haf : ∀ o, (O16of (bodyOf Try.f10))[14]? = some o → ∀ e ∈ o.after, Region.binds .any e = true → ls.getD e.on false = true) :
    Runs Try.prog (DF X) (Nx A A2 A3 n c p J x0 bs W X (ls.setIfInBounds 14 true) (O16of (bodyOf Try.f10)) k l) (InR 10 (O16of (bodyOf Try.f10)) k T (14 :: l) []) w := by
  obtain ⟨o, ho, hop, hd, hg, hdep, hc⟩ := o16_14
  have e12 : T[147]? = some (.bool false) := h.done 12 (by decide) (by decide) (deps_done (haf o ho) (hdep 12 (by decide)))
  obtain ⟨og, hog, _, hogd, _⟩ := o16_12
  refine hand_pure ho (wanted_guard hg hog hogd e12) hc h.wn.rows (p_move hop h.pc.t0) ?_
  rw [hd]
  exact .stop fun d => ⟨_, rfl, (h.put (by decide) (by decide) rfl (Below.refl _ _)).at d⟩
theorem s16_15 (hr : Reads W W.heap.size 1 A n (bs.map bv)) (hn : n ≤ 140737488355328) (hC : Cut A n c p J A2 A3) (hx : x0 < U32) (h : Ph A A2 A3 n c p J x0 bs W X ls T w) (haf : ∀ o, (O16of (bodyOf Try.f10))[15]? = some o → ∀ e ∈ o.after, Region.binds .any e = true → ls.getD e.on false = true) :
    Runs Try.prog (DF X) (Nx A A2 A3 n c p J x0 bs W X (ls.setIfInBounds 15 true) (O16of (bodyOf Try.f10)) k l) (InR 10 (O16of (bodyOf Try.f10)) k T (15 :: l) []) w := by
  obtain ⟨o, ho, hop, hd, hg, hdep, hc⟩ := o16_15
  have e12 : T[147]? = some (.bool false) := h.done 12 (by decide) (by decide) (deps_done (haf o ho) (hdep 12 (by decide)))
  obtain ⟨og, hog, _, hogd, _⟩ := o16_12
  refine hand_pure ho (wanted_guard hg hog hogd e12) hc h.wn.rows (p_move hop h.pc.t1) ?_
  rw [hd]
  exact .stop fun d => ⟨_, rfl, (h.put (by decide) (by decide) rfl (Below.refl _ _)).at d⟩
theorem s16_16 (hr : Reads W W.heap.size 1 A n (bs.map bv)) (hn : n ≤ 140737488355328) (hC : Cut A n c p J A2 A3) (hx : x0 < U32) (h : Ph A A2 A3 n c p J x0 bs W X ls T w) (haf : ∀ o, (O16of (bodyOf Try.f10))[16]? = some o → ∀ e ∈ o.after, Region.binds .any e = true → ls.getD e.on false = true) :
    Runs Try.prog (DF X) (Nx A A2 A3 n c p J x0 bs W X (ls.setIfInBounds 16 true) (O16of (bodyOf Try.f10)) k l) (InR 10 (O16of (bodyOf Try.f10)) k T (16 :: l) []) w := by
  obtain ⟨o, ho, hop, hd, hg, hdep, hc⟩ := o16_16
  have e12 : T[147]? = some (.bool false) := h.done 12 (by decide) (by decide) (deps_done (haf o ho) (hdep 12 (by decide)))
  have e14 : T[149]? = some (.slice A n c) := h.done 14 (by decide) (by decide) (deps_done (haf o ho) (hdep 14 (by decide)))
  have e15 : T[150]? = some (.int .i64 (p : Nat)) := h.done 15 (by decide) (by decide) (deps_done (haf o ho) (hdep 15 (by decide)))
  obtain ⟨og, hog, _, hogd, _⟩ := o16_12
  refine hand_pure ho (wanted_guard hg hog hogd e12) hc h.wn.rows (p_slice hop e14 rfl (congrArg some (ev_tmp e15)) (cut_head hC)) ?_
  rw [hd]
  exact .stop fun d => ⟨_, rfl, (h.put (by decide) (by decide) rfl (Below.refl _ _)).at d⟩
theorem s16_17 (hr : Reads W W.heap.size 1 A n (bs.map bv)) (hn : n ≤ 140737488355328) (hC : Cut A n c p J A2 A3) (hx : x0 < U32) (h : Ph A A2 A3 n c p J x0 bs W X ls T w) (haf : ∀ o, (O16of (bodyOf Try.f10))[17]? = some o → ∀ e ∈ o.after, Region.binds .any e = true → ls.getD e.on false = true) :
    Runs Try.prog (DF X) (Nx A A2 A3 n c p J x0 bs W X (ls.setIfInBounds 17 true) (O16of (bodyOf Try.f10)) k l) (InR 10 (O16of (bodyOf Try.f10)) k T (17 :: l) []) w := by
  obtain ⟨o, ho, hop, hd, hg, hdep, hc⟩ := o16_17
  have e12 : T[147]? = some (.bool false) := h.done 12 (by decide) (by decide) (deps_done (haf o ho) (hdep 12 (by decide)))
  have e13 : T[148]? = some (.int .u32 (x0 : Nat)) := h.done 13 (by decide) (by decide) (deps_done (haf o ho) (hdep 13 (by decide)))
  have e16 : T[151]? = some (.slice A p c) := h.done 16 (by decide) (by decide) (deps_done (haf o ho) (hdep 16 (by decide)))
  obtain ⟨og, hog, _, hogd, _⟩ := o16_12
  have hle : p ≤ 140737488355328 := by have := hC.pJ; have := hC.Jn; omega
  have heq : upd x0 (b1 bs p J) = upd x0 (b1 bs p J) := rfl
  refine hand_call (Q := fun x v' => x = .int .u32 (upd x0 (b1 bs p J) : Nat) ∧ ∃ tp, Below w.heap.size { veilW X w with tape := tp, drawn := 0 } v') ho (wanted_guard hg hog hogd e12) hop (by rfl) Try.func26 (by rfl) (by rfl) rfl (vs := #[.int .u32 (x0 : Nat), .slice A p c]) (by simp [ev_tmp e13, ev_tmp e16]) (fun k hk => up_free k hk) h.wn.rows (fun tp => ?_) (fun x v' w' hQ ha => ?_)
  · have hv := hC.r1 (reads_veil (t := tp) (d := 0) (hr.below h.wn.below) fun r hx => (h.wn.at_ r hx).1)
    have hs : ({ veilW X w with tape := tp, drawn := 0 } : World).heap.size = w.heap.size := veil_size X w
    have := update_any x0 _ A p c W.heap.size { veilW X w with tape := tp, drawn := 0 } hx hv hle (by rw [hs]; exact h.wn.below.size)
    rw [hs] at this
    exact this.mono fun e v' ⟨h1, h2⟩ => ⟨_, h1, rfl, tp, h2⟩
  · obtain ⟨rfl, tp, hb⟩ := hQ
    rw [hd]
    exact .stop fun d => ⟨_, rfl, (h.put (by decide) (by decide) (by rw [heq]; rfl) (ha.below hb)).at d⟩
theorem s16_18 (hr : Reads W W.heap.size 1 A n (bs.map bv)) (hn : n ≤ 140737488355328) (hC : Cut A n c p J A2 A3) (hx : x0 < U32) (h : Ph A A2 A3 n c p J x0 bs W X ls T w) (haf : ∀ o, (O16of (bodyOf Try.f10))[18]? = some o → ∀ e ∈ o.after, Region.binds .any e = true → ls.getD e.on false = true) :
    Runs Try.prog (DF X) (Nx A A2 A3 n c p J x0 bs W X (ls.setIfInBounds 18 true) (O16of (bodyOf Try.f10)) k l) (InR 10 (O16of (bodyOf Try.f10)) k T (18 :: l) []) w := by
  obtain ⟨o, ho, hop, hd, hg, hdep, hc⟩ := o16_18
  have e12 : T[147]? = some (.bool false) := h.done 12 (by decide) (by decide) (deps_done (haf o ho) (hdep 12 (by decide)))
  obtain ⟨og, hog, _, hogd, _⟩ := o16_12
  refine hand_pure ho (wanted_guard hg hog hogd e12) hc h.wn.rows (p_move hop h.pc.t0) ?_
  rw [hd]
  exact .stop fun d => ⟨_, rfl, (h.put (by decide) (by decide) rfl (Below.refl _ _)).at d⟩
theorem s16_19 (hr : Reads W W.heap.size 1 A n (bs.map bv)) (hn : n ≤ 140737488355328) (hC : Cut A n c p J A2 A3) (hx : x0 < U32) (h : Ph A A2 A3 n c p J x0 bs W X ls T w) (haf : ∀ o, (O16of (bodyOf Try.f10))[19]? = some o → ∀ e ∈ o.after, Region.binds .any e = true → ls.getD e.on false = true) :
    Runs Try.prog (DF X) (Nx A A2 A3 n c p J x0 bs W X (ls.setIfInBounds 19 true) (O16of (bodyOf Try.f10)) k l) (InR 10 (O16of (bodyOf Try.f10)) k T (19 :: l) []) w := by
  obtain ⟨o, ho, hop, hd, hg, hdep, hc⟩ := o16_19
  have e12 : T[147]? = some (.bool false) := h.done 12 (by decide) (by decide) (deps_done (haf o ho) (hdep 12 (by decide)))
  obtain ⟨og, hog, _, hogd, _⟩ := o16_12
  refine hand_pure ho (wanted_guard hg hog hogd e12) hc h.wn.rows (p_move hop h.pc.t1) ?_
  rw [hd]
  exact .stop fun d => ⟨_, rfl, (h.put (by decide) (by decide) rfl (Below.refl _ _)).at d⟩
theorem s16_20 (hr : Reads W W.heap.size 1 A n (bs.map bv)) (hn : n ≤ 140737488355328) (hC : Cut A n c p J A2 A3) (hx : x0 < U32) (h : Ph A A2 A3 n c p J x0 bs W X ls T w) (haf : ∀ o, (O16of (bodyOf Try.f10))[20]? = some o → ∀ e ∈ o.after, Region.binds .any e = true → ls.getD e.on false = true) :
    Runs Try.prog (DF X) (Nx A A2 A3 n c p J x0 bs W X (ls.setIfInBounds 20 true) (O16of (bodyOf Try.f10)) k l) (InR 10 (O16of (bodyOf Try.f10)) k T (20 :: l) []) w := by
  obtain ⟨o, ho, hop, hd, hg, hdep, hc⟩ := o16_20
  have e12 : T[147]? = some (.bool false) := h.done 12 (by decide) (by decide) (deps_done (haf o ho) (hdep 12 (by decide)))
  have e18 : T[153]? = some (.slice A n c) := h.done 18 (by decide) (by decide) (deps_done (haf o ho) (hdep 18 (by decide)))
  have e19 : T[154]? = some (.int .i64 (p : Nat)) := h.done 19 (by decide) (by decide) (deps_done (haf o ho) (hdep 19 (by decide)))
  obtain ⟨og, hog, _, hogd, _⟩ := o16_12
  refine hand_pure ho (wanted_guard hg hog hogd e12) hc h.wn.rows (p_slice hop e18 (congrArg some (ev_tmp e19)) rfl (cut_tail hC)) ?_
  rw [hd]
  exact .stop fun d => ⟨_, rfl, (h.put (by decide) (by decide) rfl (Below.refl _ _)).at d⟩
theorem s16_21 (hr : Reads W W.heap.size 1 A n (bs.map bv)) (hn : n ≤ 140737488355328) (hC : Cut A n c p J A2 A3) (hx : x0 < U32) (h : Ph A A2 A3 n c p J x0 bs W X ls T w) (haf : ∀ o, (O16of (bodyOf Try.f10))[21]? = some o → ∀ e ∈ o.after, Region.binds .any e = true → ls.getD e.on false = true) :
    Runs Try.prog (DF X) (Nx A A2 A3 n c p J x0 bs W X (ls.setIfInBounds 21 true) (O16of (bodyOf Try.f10)) k l) (InR 10 (O16of (bodyOf Try.f10)) k T (21 :: l) []) w := by
  obtain ⟨o, ho, hop, hd, hg, hdep, hc⟩ := o16_21
  have e12 : T[147]? = some (.bool false) := h.done 12 (by decide) (by decide) (deps_done (haf o ho) (hdep 12 (by decide)))
  have e17 : T[152]? = some (.int .u32 (upd x0 (b1 bs p J) : Nat)) := h.done 17 (by decide) (by decide) (deps_done (haf o ho) (hdep 17 (by decide)))
  have e20 : T[155]? = some (.slice A2 (n - p : Nat) (c - p)) := h.done 20 (by decide) (by decide) (deps_done (haf o ho) (hdep 20 (by decide)))
  obtain ⟨og, hog, _, hogd, _⟩ := o16_12
  have hle : (n - p) ≤ 140737488355328 := by have := hC.pJ; have := hC.Jn; omega
  have heq : upd (upd x0 (b1 bs p J)) (bs.drop p) = upd x0 bs := (by rw [upd_app]; unfold b1; rw [List.take_append_drop])
  refine hand_call (Q := fun x v' => x = .int .u32 (upd (upd x0 (b1 bs p J)) (bs.drop p) : Nat) ∧ ∃ tp, Below w.heap.size { veilW X w with tape := tp, drawn := 0 } v') ho (wanted_guard hg hog hogd e12) hop (by rfl) Try.func26 (by rfl) (by rfl) rfl (vs := #[.int .u32 (upd x0 (b1 bs p J) : Nat), .slice A2 (n - p : Nat) (c - p)]) (by simp [ev_tmp e17, ev_tmp e20]) (fun k hk => up_free k hk) h.wn.rows (fun tp => ?_) (fun x v' w' hQ ha => ?_)
  · have hv := hC.r23 (reads_veil (t := tp) (d := 0) (hr.below h.wn.below) fun r hx => (h.wn.at_ r hx).1)
    have hs : ({ veilW X w with tape := tp, drawn := 0 } : World).heap.size = w.heap.size := veil_size X w
    have := update_any (upd x0 (b1 bs p J)) _ A2 (n - p) (c - p) W.heap.size { veilW X w with tape := tp, drawn := 0 } (upd_lt hx _) hv hle (by rw [hs]; exact h.wn.below.size)
    rw [hs] at this
    exact this.mono fun e v' ⟨h1, h2⟩ => ⟨_, h1, rfl, tp, h2⟩
  · obtain ⟨rfl, tp, hb⟩ := hQ
    rw [hd]
    exact .stop fun d => ⟨_, rfl, (h.put (by decide) (by decide) (by rw [heq]; rfl) (ha.below hb)).at d⟩
theorem s16_22 (hr : Reads W W.heap.size 1 A n (bs.map bv)) (hn : n ≤ 140737488355328) (hC : Cut A n c p J A2 A3) (hx : x0 < U32) (h : Ph A A2 A3 n c p J x0 bs W X ls T w) (haf : ∀ o, (O16of (bodyOf Try.f10))[22]? = some o → ∀ e ∈ o.after, Region.binds .any e = true → ls.getD e.on false = true) :
    Runs Try.prog (DF X) (Nx A A2 A3 n c p J x0 bs W X (ls.setIfInBounds 22 true) (O16of (bodyOf Try.f10)) k l) (InR 10 (O16of (bodyOf Try.f10)) k T (22 :: l) []) w := by
  obtain ⟨o, ho, hop, hd, hg, hdep, hc⟩ := o16_22
  have e12 : T[147]? = some (.bool false) := h.done 12 (by decide) (by decide) (deps_done (haf o ho) (hdep 12 (by decide)))
  obtain ⟨og, hog, _, hogd, _⟩ := o16_12
  refine hand_pure ho (wanted_guard hg hog hogd e12) hc h.wn.rows (p_move hop h.pc.t3) ?_
  rw [hd]
  exact .stop fun d => ⟨_, rfl, (h.put (by decide) (by decide) rfl (Below.refl _ _)).at d⟩
theorem s16_23 (hr : Reads W W.heap.size 1 A n (bs.map bv)) (hn : n ≤ 140737488355328) (hC : Cut A n c p J A2 A3) (hx : x0 < U32) (h : Ph A A2 A3 n c p J x0 bs W X ls T w) (haf : ∀ o, (O16of (bodyOf Try.f10))[23]? = some o → ∀ e ∈ o.after, Region.binds .any e = true → ls.getD e.on false = true) :
    Runs Try.prog (DF X) (Nx A A2 A3 n c p J x0 bs W X (ls.setIfInBounds 23 true) (O16of (bodyOf Try.f10)) k l) (InR 10 (O16of (bodyOf Try.f10)) k T (23 :: l) []) w := by
  obtain ⟨o, ho, hop, hd, hg, hdep, hc⟩ := o16_23
  have e12 : T[147]? = some (.bool false) := h.done 12 (by decide) (by decide) (deps_done (haf o ho) (hdep 12 (by decide)))
  obtain ⟨og, hog, _, hogd, _⟩ := o16_12
  refine hand_pure ho (wanted_guard hg hog hogd e12) hc h.wn.rows (p_move hop h.pc.t0) ?_
  rw [hd]
  exact .stop fun d => ⟨_, rfl, (h.put (by decide) (by decide) rfl (Below.refl _ _)).at d⟩
theorem s16_24 (hr : Reads W W.heap.size 1 A n (bs.map bv)) (hn : n ≤ 140737488355328) (hC : Cut A n c p J A2 A3) (hx : x0 < U32) (h : Ph A A2 A3 n c p J x0 bs W X ls T w) (haf : ∀ o, (O16of (bodyOf Try.f10))[24]? = some o → ∀ e ∈ o.after, Region.binds .any e = true → ls.getD e.on false = true) :
    Runs Try.prog (DF X) (Nx A A2 A3 n c p J x0 bs W X (ls.setIfInBounds 24 true) (O16of (bodyOf Try.f10)) k l) (InR 10 (O16of (bodyOf Try.f10)) k T (24 :: l) []) w := by
  obtain ⟨o, ho, hop, hd, hg, hdep, hc⟩ := o16_24
  have e12 : T[147]? = some (.bool false) := h.done 12 (by decide) (by decide) (deps_done (haf o ho) (hdep 12 (by decide)))
  have e22 : T[157]? = some (.int .u32 (x0 : Nat)) := h.done 22 (by decide) (by decide) (deps_done (haf o ho) (hdep 22 (by decide)))
  have e23 : T[158]? = some (.slice A n c) := h.done 23 (by decide) (by decide) (deps_done (haf o ho) (hdep 23 (by decide)))
  obtain ⟨og, hog, _, hogd, _⟩ := o16_12
  have hle : n ≤ 140737488355328 := by have := hC.pJ; have := hC.Jn; omega
  have heq : upd x0 bs = upd x0 bs := rfl
  refine hand_call (Q := fun x v' => x = .int .u32 (upd x0 bs : Nat) ∧ ∃ tp, Below w.heap.size { veilW X w with tape := tp, drawn := 0 } v') ho (wanted_guard hg hog hogd e12) hop (by rfl) Try.func26 (by rfl) (by rfl) rfl (vs := #[.int .u32 (x0 : Nat), .slice A n c]) (by simp [ev_tmp e22, ev_tmp e23]) (fun k hk => up_free k hk) h.wn.rows (fun tp => ?_) (fun x v' w' hQ ha => ?_)
  · have hv := id (reads_veil (t := tp) (d := 0) (hr.below h.wn.below) fun r hx => (h.wn.at_ r hx).1)
    have hs : ({ veilW X w with tape := tp, drawn := 0 } : World).heap.size = w.heap.size := veil_size X w
    have := update_any x0 _ A n c W.heap.size { veilW X w with tape := tp, drawn := 0 } hx hv hle (by rw [hs]; exact h.wn.below.size)
    rw [hs] at this
    exact this.mono fun e v' ⟨h1, h2⟩ => ⟨_, h1, rfl, tp, h2⟩
  · obtain ⟨rfl, tp, hb⟩ := hQ
    rw [hd]
    exact .stop fun d => ⟨_, rfl, (h.put (by decide) (by decide) (by rw [heq]; rfl) (ha.below hb)).at d⟩
theorem s16_25 (hr : Reads W W.heap.size 1 A n (bs.map bv)) (hn : n ≤ 140737488355328) (hC : Cut A n c p J A2 A3) (hx : x0 < U32) (h : Ph A A2 A3 n c p J x0 bs W X ls T w) (haf : ∀ o, (O16of (bodyOf Try.f10))[25]? = some o → ∀ e ∈ o.after, Region.binds .any e = true → ls.getD e.on false = true) :
    Runs Try.prog (DF X) (Nx A A2 A3 n c p J x0 bs W X (ls.setIfInBounds 25 true) (O16of (bodyOf Try.f10)) k l) (InR 10 (O16of (bodyOf Try.f10)) k T (25 :: l) []) w := by
  obtain ⟨o, ho, hop, hd, hg, hdep, hc⟩ := o16_25
  have e12 : T[147]? = some (.bool false) := h.done 12 (by decide) (by decide) (deps_done (haf o ho) (hdep 12 (by decide)))
  have e21 : T[156]? = some (.int .u32 (upd x0 bs : Nat)) := h.done 21 (by decide) (by decide) (deps_done (haf o ho) (hdep 21 (by decide)))
  have e24 : T[159]? = some (.int .u32 (upd x0 bs : Nat)) := h.done 24 (by decide) (by decide) (deps_done (haf o ho) (hdep 24 (by decide)))
  obtain ⟨og, hog, _, hogd, _⟩ := o16_12
  refine hand_pure ho (wanted_guard hg hog hogd e12) hc h.wn.rows (p_neq (z := false) hop e21 e24 (by simp)) ?_
  rw [hd]
  exact .stop fun d => ⟨_, rfl, (h.put (by decide) (by decide) rfl (Below.refl _ _)).at d⟩
theorem s16_26 (hr : Reads W W.heap.size 1 A n (bs.map bv)) (hn : n ≤ 140737488355328) (hC : Cut A n c p J A2 A3) (hx : x0 < U32) (h : Ph A A2 A3 n c p J x0 bs W X ls T w) (haf : ∀ o, (O16of (bodyOf Try.f10))[26]? = some o → ∀ e ∈ o.after, Region.binds .any e = true → ls.getD e.on false = true) :
    Runs Try.prog (DF X) (Nx A A2 A3 n c p J x0 bs W X (ls.setIfInBounds 26 true) (O16of (bodyOf Try.f10)) k l) (InR 10 (O16of (bodyOf Try.f10)) k T (26 :: l) []) w := by
  obtain ⟨o, ho, hop, hd, hg, hdep, hc⟩ := o16_26
  have e12 : T[147]? = some (.bool false) := h.done 12 (by decide) (by decide) (deps_done (haf o ho) (hdep 12 (by decide)))
  have e25 : T[160]? = some (.bool false) := h.done 25 (by decide) (by decide) (deps_done (haf o ho) (hdep 25 (by decide)))
  refine hand_pure ho (wanted_none hg) hc h.wn.rows (p_pick_or hop e12 e25) ?_
  rw [hd]
  exact .stop fun d => ⟨_, rfl, (h.put (by decide) (by decide) rfl (Below.refl _ _)).at d⟩
theorem s16_27 (hr : Reads W W.heap.size 1 A n (bs.map bv)) (hn : n ≤ 140737488355328) (hC : Cut A n c p J A2 A3) (hx : x0 < U32) (h : Ph A A2 A3 n c p J x0 bs W X ls T w) (haf : ∀ o, (O16of (bodyOf Try.f10))[27]? = some o → ∀ e ∈ o.after, Region.binds .any e = true → ls.getD e.on false = true) :
    Runs Try.prog (DF X) (Nx A A2 A3 n c p J x0 bs W X (ls.setIfInBounds 27 true) (O16of (bodyOf Try.f10)) k l) (InR 10 (O16of (bodyOf Try.f10)) k T (27 :: l) []) w := by
  obtain ⟨o, ho, hop, hd, hg, hdep, hc⟩ := o16_27
  have e26 : T[161]? = some (.bool false) := h.done 26 (by decide) (by decide) (deps_done (haf o ho) (hdep 26 (by decide)))
  refine hand_pure ho (wanted_none hg) hc h.wn.rows (p_move hop e26) ?_
  rw [hd]
  exact .stop fun d => ⟨_, rfl, (h.put (by decide) (by decide) rfl (Below.refl _ _)).at d⟩
theorem s16_28 (hr : Reads W W.heap.size 1 A n (bs.map bv)) (hn : n ≤ 140737488355328) (hC : Cut A n c p J A2 A3) (hx : x0 < U32) (h : Ph A A2 A3 n c p J x0 bs W X ls T w) (haf : ∀ o, (O16of (bodyOf Try.f10))[28]? = some o → ∀ e ∈ o.after, Region.binds .any e = true → ls.getD e.on false = true) :
    Runs Try.prog (DF X) (Nx A A2 A3 n c p J x0 bs W X (ls.setIfInBounds 28 true) (O16of (bodyOf Try.f10)) k l) (InR 10 (O16of (bodyOf Try.f10)) k T (28 :: l) []) w := by
  obtain ⟨o, ho, hop, hd, hg, hdep, hc⟩ := o16_28
  have e27 : T[162]? = some (.bool false) := h.done 27 (by decide) (by decide) (deps_done (haf o ho) (hdep 27 (by decide)))
  obtain ⟨og, hog, _, hogd, _⟩ := o16_27
  refine hand_pure ho (wanted_guard hg hog hogd e27) hc h.wn.rows (p_move hop h.pc.t0) ?_
  rw [hd]
  exact .stop fun d => ⟨_, rfl, (h.put (by decide) (by decide) rfl (Below.refl _ _)).at d⟩
theorem s16_29 (hr : Reads W W.heap.size 1 A n (bs.map bv)) (hn : n ≤ 140737488355328) (hC : Cut A n c p J A2 A3) (hx : x0 < U32) (h : Ph A A2 A3 n c p J x0 bs W X ls T w) (haf : ∀ o, (O16of (bodyOf Try.f10))[29]? = some o → ∀ e ∈ o.after, Region.binds .any e = true → ls.getD e.on false = true) :
    Runs Try.prog (DF X) (Nx A A2 A3 n c p J x0 bs W X (ls.setIfInBounds 29 true) (O16of (bodyOf Try.f10)) k l) (InR 10 (O16of (bodyOf Try.f10)) k T (29 :: l) []) w := by
  obtain ⟨o, ho, hop, hd, hg, hdep, hc⟩ := o16_29
  have e27 : T[162]? = some (.bool false) := h.done 27 (by decide) (by decide) (deps_done (haf o ho) (hdep 27 (by decide)))
  obtain ⟨og, hog, _, hogd, _⟩ := o16_27
  refine hand_pure ho (wanted_guard hg hog hogd e27) hc h.wn.rows (p_move hop h.pc.t1) ?_
  rw [hd]
  exact .stop fun d => ⟨_, rfl, (h.put (by decide) (by decide) rfl (Below.refl _ _)).at d⟩
theorem s16_30 (hr : Reads W W.heap.size 1 A n (bs.map bv)) (hn : n ≤ 140737488355328) (hC : Cut A n c p J A2 A3) (hx : x0 < U32) (h : Ph A A2 A3 n c p J x0 bs W X ls T w) (haf : ∀ o, (O16of (bodyOf Try.f10))[30]? = some o → ∀ e ∈ o.after, Region.binds .any e = true → ls.getD e.on false = true) :
    Runs Try.prog (DF X) (Nx A A2 A3 n c p J x0 bs W X (ls.setIfInBounds 30 true) (O16of (bodyOf Try.f10)) k l) (InR 10 (O16of (bodyOf Try.f10)) k T (30 :: l) []) w := by
  obtain ⟨o, ho, hop, hd, hg, hdep, hc⟩ := o16_30
  have e27 : T[162]? = some (.bool false) := h.done 27 (by decide) (by decide) (deps_done (haf o ho) (hdep 27 (by decide)))
  have e28 : T[163]? = some (.slice A n c) := h.done 28 (by decide) (by decide) (deps_done (haf o ho) (hdep 28 (by decide)))
  have e29 : T[164]? = some (.int .i64 (p : Nat)) := h.done 29 (by decide) (by decide) (deps_done (haf o ho) (hdep 29 (by decide)))
  obtain ⟨og, hog, _, hogd, _⟩ := o16_27
  refine hand_pure ho (wanted_guard hg hog hogd e27) hc h.wn.rows (p_slice hop e28 rfl (congrArg some (ev_tmp e29)) (cut_head hC)) ?_
  rw [hd]
  exact .stop fun d => ⟨_, rfl, (h.put (by decide) (by decide) rfl (Below.refl _ _)).at d⟩
theorem s16_31 (hr : Reads W W.heap.size 1 A n (bs.map bv)) (hn : n ≤ 140737488355328) (hC : Cut A n c p J A2 A3) (hx : x0 < U32) (h : Ph A A2 A3 n c p J x0 bs W X ls T w) (haf : ∀ o, (O16of (bodyOf Try.f10))[31]? = some o → ∀ e ∈ o.after, Region.binds .any e = true → ls.getD e.on false = true) :
    Runs Try.prog (DF X) (Nx A A2 A3 n c p J x0 bs W X (ls.setIfInBounds 31 true) (O16of (bodyOf Try.f10)) k l) (InR 10 (O16of (bodyOf Try.f10)) k T (31 :: l) []) w := by
  obtain ⟨o, ho, hop, hd, hg, hdep, hc⟩ := o16_31
  have e27 : T[162]? = some (.bool false) := h.done 27 (by decide) (by decide) (deps_done (haf o ho) (hdep 27 (by decide)))
  obtain ⟨og, hog, _, hogd, _⟩ := o16_27
  refine hand_pure ho (wanted_guard hg hog hogd e27) hc h.wn.rows (p_move hop h.pc.t0) ?_
  rw [hd]
  exact .stop fun d => ⟨_, rfl, (h.put (by decide) (by decide) rfl (Below.refl _ _)).at d⟩
theorem s16_32 (hr : Reads W W.heap.size 1 A n (bs.map bv)) (hn : n ≤ 140737488355328) (hC : Cut A n c p J A2 A3) (hx : x0 < U32) (h : Ph A A2 A3 n c p J x0 bs W X ls T w) (haf : ∀ o, (O16of (bodyOf Try.f10))[32]? = some o → ∀ e ∈ o.after, Region.binds .any e = true → ls.getD e.on false = true) :
    Runs Try.prog (DF X) (Nx A A2 A3 n c p J x0 bs W X (ls.setIfInBounds 32 true) (O16of (bodyOf Try.f10)) k l) (InR 10 (O16of (bodyOf Try.f10)) k T (32 :: l) []) w := by
  obtain ⟨o, ho, hop, hd, hg, hdep, hc⟩ := o16_32
  have e27 : T[162]? = some (.bool false) := h.done 27 (by decide) (by decide) (deps_done (haf o ho) (hdep 27 (by decide)))
  obtain ⟨og, hog, _, hogd, _⟩ := o16_27
  refine hand_pure ho (wanted_guard hg hog hogd e27) hc h.wn.rows (p_move hop h.pc.t1) ?_
  rw [hd]
  exact .stop fun d => ⟨_, rfl, (h.put (by decide) (by decide) rfl (Below.refl _ _)).at d⟩
theorem s16_33 (hr : Reads W W.heap.size 1 A n (bs.map bv)) (hn : n ≤ 140737488355328) (hC : Cut A n c p J A2 A3) (hx : x0 < U32) (h : Ph A A2 A3 n c p J x0 bs W X ls T w) (haf : ∀ o, (O16of (bodyOf Try.f10))[33]? = some o → ∀ e ∈ o.after, Region.binds .any e = true → ls.getD e.on false = true) :
    Runs Try.prog (DF X) (Nx A A2 A3 n c p J x0 bs W X (ls.setIfInBounds 33 true) (O16of (bodyOf Try.f10)) k l) (InR 10 (O16of (bodyOf Try.f10)) k T (33 :: l) []) w := by
  obtain ⟨o, ho, hop, hd, hg, hdep, hc⟩ := o16_33
  have e27 : T[162]? = some (.bool false) := h.done 27 (by decide) (by decide) (deps_done (haf o ho) (hdep 27 (by decide)))
  obtain ⟨og, hog, _, hogd, _⟩ := o16_27
  refine hand_pure ho (wanted_guard hg hog hogd e27) hc h.wn.rows (p_move hop h.pc.t2) ?_
  rw [hd]
  exact .stop fun d => ⟨_, rfl, (h.put (by decide) (by decide) rfl (Below.refl _ _)).at d⟩
theorem s16_34 (hr : Reads W W.heap.size 1 A n (bs.map bv)) (hn : n ≤ 140737488355328) (hC : Cut A n c p J A2 A3) (hx : x0 < U32) (h : Ph A A2 A3 n c p J x0 bs W X ls T w) (haf : ∀ o, (O16of (bodyOf Try.f10))[34]? = some o → ∀ e ∈ o.after, Region.binds .any e = true → ls.getD e.on false = true) :
    Runs Try.prog (DF X) (Nx A A2 A3 n c p J x0 bs W X (ls.setIfInBounds 34 true) (O16of (bodyOf Try.f10)) k l) (InR 10 (O16of (bodyOf Try.f10)) k T (34 :: l) []) w := by
  obtain ⟨o, ho, hop, hd, hg, hdep, hc⟩ := o16_34
  have e27 : T[162]? = some (.bool false) := h.done 27 (by decide) (by decide) (deps_done (haf o ho) (hdep 27 (by decide)))
  have e31 : T[166]? = some (.slice A n c) := h.done 31 (by decide) (by decide) (deps_done (haf o ho) (hdep 31 (by decide)))
  have e32 : T[167]? = some (.int .i64 (p : Nat)) := h.done 32 (by decide) (by decide) (deps_done (haf o ho) (hdep 32 (by decide)))
  have e33 : T[168]? = some (.int .i64 (J : Nat)) := h.done 33 (by decide) (by decide) (deps_done (haf o ho) (hdep 33 (by decide)))
  obtain ⟨og, hog, _, hogd, _⟩ := o16_27
  refine hand_pure ho (wanted_guard hg hog hogd e27) hc h.wn.rows (p_slice hop e31 (congrArg some (ev_tmp e32)) (congrArg some (ev_tmp e33)) (cut_mid hC)) ?_
  rw [hd]
  exact .stop fun d => ⟨_, rfl, (h.put (by decide) (by decide) rfl (Below.refl _ _)).at d⟩
theorem s16_35 (hr : Reads W W.heap.size 1 A n (bs.map bv)) (hn : n ≤ 140737488355328) (hC : Cut A n c p J A2 A3) (hx : x0 < U32) (h : Ph A A2 A3 n c p J x0 bs W X ls T w) (haf : ∀ o, (O16of (bodyOf Try.f10))[35]? = some o → ∀ e ∈ o.after, Region.binds .any e = true → ls.getD e.on false = true) :
    Runs Try.prog (DF X) (Nx A A2 A3 n c p J x0 bs W X (ls.setIfInBounds 35 true) (O16of (bodyOf Try.f10)) k l) (InR 10 (O16of (bodyOf Try.f10)) k T (35 :: l) []) w := by
  obtain ⟨o, ho, hop, hd, hg, hdep, hc⟩ := o16_35
  have e27 : T[162]? = some (.bool false) := h.done 27 (by decide) (by decide) (deps_done (haf o ho) (hdep 27 (by decide)))
  obtain ⟨og, hog, _, hogd, _⟩ := o16_27
  refine hand_pure ho (wanted_guard hg hog hogd e27) hc h.wn.rows (p_move hop h.pc.t0) ?_
  rw [hd]
  exact .stop fun d => ⟨_, rfl, (h.put (by decide) (by decide) rfl (Below.refl _ _)).at d⟩
theorem s16_36 (hr : Reads W W.heap.size 1 A n (bs.map bv)) (hn : n ≤ 140737488355328) (hC : Cut A n c p J A2 A3) (hx : x0 < U32) (h : Ph A A2 A3 n c p J x0 bs W X ls T w) (haf : ∀ o, (O16of (bodyOf Try.f10))[36]? = some o → ∀ e ∈ o.after, Region.binds .any e = true → ls.getD e.on false = true) :
    Runs Try.prog (DF X) (Nx A A2 A3 n c p J x0 bs W X (ls.setIfInBounds 36 true) (O16of (bodyOf Try.f10)) k l) (InR 10 (O16of (bodyOf Try.f10)) k T (36 :: l) []) w := by
  obtain ⟨o, ho, hop, hd, hg, hdep, hc⟩ := o16_36
  have e27 : T[162]? = some (.bool false) := h.done 27 (by decide) (by decide) (deps_done (haf o ho) (hdep 27 (by decide)))
  obtain ⟨og, hog, _, hogd, _⟩ := o16_27
  refine hand_pure ho (wanted_guard hg hog hogd e27) hc h.wn.rows (p_move hop h.pc.t2) ?_
  rw [hd]
  exact .stop fun d => ⟨_, rfl, (h.put (by decide) (by decide) rfl (Below.refl _ _)).at d⟩
theorem s16_37 (hr : Reads W W.heap.size 1 A n (bs.map bv)) (hn : n ≤ 140737488355328) (hC : Cut A n c p J A2 A3) (hx : x0 < U32) (h : Ph A A2 A3 n c p J x0 bs W X ls T w) (haf : ∀ o, (O16of (bodyOf Try.f10))[37]? = some o → ∀ e ∈ o.after, Region.binds .any e = true → ls.getD e.on false = true) :
    Runs Try.prog (DF X) (Nx A A2 A3 n c p J x0 bs W X (ls.setIfInBounds 37 true) (O16of (bodyOf Try.f10)) k l) (InR 10 (O16of (bodyOf Try.f10)) k T (37 :: l) []) w := by
  obtain ⟨o, ho, hop, hd, hg, hdep, hc⟩ := o16_37
  have e27 : T[162]? = some (.bool false) := h.done 27 (by decide) (by decide) (deps_done (haf o ho) (hdep 27 (by decide)))
  have e35 : T[170]? = some (.slice A n c) := h.done 35 (by decide) (by decide) (deps_done (haf o ho) (hdep 35 (by decide)))
  have e36 : T[171]? = some (.int .i64 (J : Nat)) := h.done 36 (by decide) (by decide) (deps_done (haf o ho) (hdep 36 (by decide)))
  obtain ⟨og, hog, _, hogd, _⟩ := o16_27
  refine hand_pure ho (wanted_guard hg hog hogd e27) hc h.wn.rows (p_slice hop e35 (congrArg some (ev_tmp e36)) rfl (cut_end hC)) ?_
  rw [hd]
  exact .stop fun d => ⟨_, rfl, (h.put (by decide) (by decide) rfl (Below.refl _ _)).at d⟩
theorem s16_40 (hr : Reads W W.heap.size 1 A n (bs.map bv)) (hn : n ≤ 140737488355328) (hC : Cut A n c p J A2 A3) (hx : x0 < U32) (h : Ph A A2 A3 n c p J x0 bs W X ls T w) (haf : ∀ o, (O16of (bodyOf Try.f10))[40]? = some o → ∀ e ∈ o.after, Region.binds .any e = true → ls.getD e.on false = true) :
    Runs Try.prog (DF X) (Nx A A2 A3 n c p J x0 bs W X (ls.setIfInBounds 40 true) (O16of (bodyOf Try.f10)) k l) (InR 10 (O16of (bodyOf Try.f10)) k T (40 :: l) []) w := by
  obtain ⟨o, ho, hop, hd, hg, hdep, hc⟩ := o16_40
  have e27 : T[162]? = some (.bool false) := h.done 27 (by decide) (by decide) (deps_done (haf o ho) (hdep 27 (by decide)))
  obtain ⟨og, hog, _, hogd, _⟩ := o16_27
  refine hand_pure ho (wanted_guard hg hog hogd e27) hc h.wn.rows (p_move hop h.pc.t12) ?_
  rw [hd]
  exact .stop fun d => ⟨_, rfl, (h.put (by decide) (by decide) rfl (Below.refl _ _)).at d⟩
theorem s16_41 (hr : Reads W W.heap.size 1 A n (bs.map bv)) (hn : n ≤ 140737488355328) (hC : Cut A n c p J A2 A3) (hx : x0 < U32) (h : Ph A A2 A3 n c p J x0 bs W X ls T w) (haf : ∀ o, (O16of (bodyOf Try.f10))[41]? = some o → ∀ e ∈ o.after, Region.binds .any e = true → ls.getD e.on false = true) :
    Runs Try.prog (DF X) (Nx A A2 A3 n c p J x0 bs W X (ls.setIfInBounds 41 true) (O16of (bodyOf Try.f10)) k l) (InR 10 (O16of (bodyOf Try.f10)) k T (41 :: l) []) w := by
  obtain ⟨o, ho, hop, hd, hg, hdep, hc⟩ := o16_41
  have e27 : T[162]? = some (.bool false) := h.done 27 (by decide) (by decide) (deps_done (haf o ho) (hdep 27 (by decide)))
  have e39 : T[174]? = some (.int .u32 (upd 0 bs : Nat)) := h.done 39 (by decide) (by decide) (deps_done (haf o ho) (hdep 39 (by decide)))
  have e40 : T[175]? = some (.int .u32 (upd 0 bs : Nat)) := h.done 40 (by decide) (by decide) (deps_done (haf o ho) (hdep 40 (by decide)))
  obtain ⟨og, hog, _, hogd, _⟩ := o16_27
  refine hand_pure ho (wanted_guard hg hog hogd e27) hc h.wn.rows (p_neq (z := false) hop e39 e40 (by simp)) ?_
  rw [hd]
  exact .stop fun d => ⟨_, rfl, (h.put (by decide) (by decide) rfl (Below.refl _ _)).at d⟩
theorem s16_42 (hr : Reads W W.heap.size 1 A n (bs.map bv)) (hn : n ≤ 140737488355328) (hC : Cut A n c p J A2 A3) (hx : x0 < U32) (h : Ph A A2 A3 n c p J x0 bs W X ls T w) (haf : ∀ o, (O16of (bodyOf Try.f10))[42]? = some o → ∀ e ∈ o.after, Region.binds .any e = true → ls.getD e.on false = true) :
    Runs Try.prog (DF X) (Nx A A2 A3 n c p J x0 bs W X (ls.setIfInBounds 42 true) (O16of (bodyOf Try.f10)) k l) (InR 10 (O16of (bodyOf Try.f10)) k T (42 :: l) []) w := by
  obtain ⟨o, ho, hop, hd, hg, hdep, hc⟩ := o16_42
  have e27 : T[162]? = some (.bool false) := h.done 27 (by decide) (by decide) (deps_done (haf o ho) (hdep 27 (by decide)))
  have e41 : T[176]? = some (.bool false) := h.done 41 (by decide) (by decide) (deps_done (haf o ho) (hdep 41 (by decide)))
  refine hand_pure ho (wanted_none hg) hc h.wn.rows (p_pick_or hop e27 e41) ?_
  rw [hd]
  exact .stop fun d => ⟨_, rfl, (h.put (by decide) (by decide) rfl (Below.refl _ _)).at d⟩
end
end Go.Proofs.Ytoipkpndfgcmcaa.Crew
