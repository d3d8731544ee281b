/-
  CheckStreams: every script of two streams in turns, and of a nil one: the law's walk. Condition: none beyond the form's own reach.
-/
import Derived.Test.YtoipkpndfgcmcaaRows
import Derived.Test.YtoipkpndfgcmcaaWords
import Derived.Test.YtoipkpndfgcmcaaCrcMath
import Derived.Test.YtoipkpndfgcmcaaCrcStream
import Derived.Test.YtoipkpndfgcmcaaCrcLent
import Derived.Deep.RegionHeld3
import Derived.Test.YtoipkpndfgcmcaaQuiet
namespace Go.Proofs.Ytoipkpndfgcmcaa
open Go.RowKit


theorem tells_any (g h s : Nat) (l : Int) (w : World) (hg : Blk w g 72 #[.int .u32 (s : Int), .int .i64 l]) (hh : Blk w h 74 #[.int .u32 (s : Int), .int .i64 l]) :
    Calls Try.prog 15 #[.pointer (some ⟨g, 0, none⟩), .pointer (some ⟨h, 0, none⟩)] w fun e w' => e = .returned (.bool true) ∧ w = w' := by
  have a := hide (stSum_any g s l w hg)
  have b := hide (stLen_any g s l w hg)
  have c := hide (rsSum_any h s l w hh)
  have d := hide (rsLen_any h s l w hh)
  clear hg hh
  go_enter Try.func15, Try.ntmps15
  go_wp2_with (first
    | (go_at_call 39; refine (unhide a).mono ?_; rintro e w1 ⟨rfl, rfl⟩)
    | (go_at_call 40; refine (unhide b).mono ?_; rintro e w1 ⟨rfl, rfl⟩)
    | (go_at_call 42; refine (unhide c).mono ?_; rintro e w1 ⟨rfl, rfl⟩)
    | (go_at_call 43; refine (unhide d).mono ?_; rintro e w1 ⟨rfl, rfl⟩))
  go_ret
  exact ⟨rfl, rfl⟩
theorem tells_nil (w : World) :
    Calls Try.prog 15 #[.pointer none, .pointer none] w fun e w' => e = .returned (.bool true) ∧ w = w' := by
  go_enter Try.func15, Try.ntmps15
  go_wp2_with (first
    | (go_at_call 39; refine (stSum_nil w).mono ?_; rintro e w1 ⟨rfl, rfl⟩)
    | (go_at_call 40; refine (stLen_nil w).mono ?_; rintro e w1 ⟨rfl, rfl⟩)
    | (go_at_call 42; refine (rsSum_nil w).mono ?_; rintro e w1 ⟨rfl, rfl⟩)
    | (go_at_call 43; refine (rsLen_nil w).mono ?_; rintro e w1 ⟨rfl, rfl⟩))
  go_ret
  exact ⟨rfl, rfl⟩
theorem num_any (x : Int) (w : World) : Calls Try.prog 19 #[.int .i64 x] w fun e w' => e = .returned (.int .i64 x) ∧ w = w' := by
  go_enter Try.func19, Try.ntmps19
  go_wp2
  go_ret
  exact ⟨rfl, rfl⟩

/-- One step of a script, as it lies in memory. -/
structure OpAt (w : World) (b off : Nat) (who : Int) (tell : Bool) (A : Option Addr) (n c : Nat) (bs : List UInt8) : Prop where
  who : w.cell? ⟨b, off, none⟩ = some (.int .i64 who)
  tell : w.cell? ⟨b, off + 1, none⟩ = some (.bool tell)
  data : w.cell? ⟨b, off + 2, none⟩ = some (.slice A n c)
  lt : b < w.heap.size
  reads : Reads w w.heap.size 1 A n (bs.map bv)
  small : n ≤ 140737488351232

def ptrOf (s0 s1 : Nat) : Nat → Value
  | 0 => .pointer (some ⟨s0, 0, none⟩)
  | 1 => .pointer (some ⟨s1, 0, none⟩)
  | _ + 2 => .pointer none
def codeOf : Nat → Int
  | 0 => 0
  | 1 => 0
  | _ + 2 => 1
def stepS (S : Nat → Nat) (j : Nat) (bs : List UInt8) : Nat → Nat := fun i => if i = j then upd (S i) bs else S i
def stepL (L : Nat → Int) (j : Nat) (n : Nat) : Nat → Int := fun i => if i = j then wrap64 (L i + n) else L i
/-- Two streams and their list. -/
structure SS (w : World) (s0 s1 p : Nat) (S : Nat → Nat) (L : Nat → Int) : Prop where
  b0 : Blk w s0 72 #[.int .u32 (S 0 : Int), .int .i64 (L 0)]
  b1 : Blk w s1 72 #[.int .u32 (S 1 : Int), .int .i64 (L 1)]
  bp : Blk w p 23 #[.pointer (some ⟨s0, 0, none⟩), .pointer (some ⟨s1, 0, none⟩), .pointer none]
  lt0 : S 0 < U32
  lt1 : S 1 < U32
  ne : s0 ≠ s1
  nep0 : s0 ≠ p
  nep1 : s1 ≠ p
theorem SS.chg {w w' : World} {s0 s1 p : Nat} {S : Nat → Nat} {L : Nat → Int} {T : Nat → Prop} (h : SS w s0 s1 p S L) (c : Chg w w' T) (h0 : ¬ T s0) (h1 : ¬ T s1) (hp : ¬ T p) : SS w' s0 s1 p S L :=
  ⟨c.blk h.b0 h0, c.blk h.b1 h1, c.blk h.bp hp, h.lt0, h.lt1, h.ne, h.nep0, h.nep1⟩
theorem SS.bel {w w' : World} {s0 s1 p : Nat} {S : Nat → Nat} {L : Nat → Int} (h : SS w s0 s1 p S L) (c : Below w.heap.size w w') : SS w' s0 s1 p S L :=
  h.chg (Chg.of_below c (fun _ => False)) id id id
theorem stWrite_j {w : World} {s0 s1 p : Nat} {S : Nat → Nat} {L : Nat → Int} (j : Nat) (hs : SS w s0 s1 p S L) (bs : List UInt8) (A : Option Addr) (n c B : Nat) (hr : Reads w B 1 A n (bs.map bv)) (hn : n ≤ 140737488355328) (hB : B ≤ w.heap.size) :
    Calls Try.prog 18 #[ptrOf s0 s1 j, .slice A n c] w fun e w' => e = .returned (.int .i64 (codeOf j)) ∧ SS w' s0 s1 p (stepS S j bs) (stepL L j n) ∧ Chg w w' (fun i => i = s0 ∨ i = s1) := by
  match j with
  | 0 =>
    refine (stWrite_any s0 (S 0) (L 0) bs A n c B w hs.lt0 hs.b0 hr hn hB).mono fun e w' h => ⟨h.1, ⟨?_, ?_, ?_, ?_, ?_, hs.ne, hs.nep0, hs.nep1⟩, h.2.2.more fun i hi => .inl hi⟩
    · exact h.2.1
    · exact h.2.2.blk hs.b1 (fun e => hs.ne e.symm)
    · exact h.2.2.blk hs.bp (fun e => hs.nep0 e.symm)
    · exact upd_lt hs.lt0 bs
    · exact hs.lt1
  | 1 =>
    refine (stWrite_any s1 (S 1) (L 1) bs A n c B w hs.lt1 hs.b1 hr hn hB).mono fun e w' h => ⟨h.1, ⟨?_, ?_, ?_, ?_, ?_, hs.ne, hs.nep0, hs.nep1⟩, h.2.2.more fun i hi => .inr hi⟩
    · exact h.2.2.blk hs.b0 (fun e => hs.ne e)
    · exact h.2.1
    · exact h.2.2.blk hs.bp (fun e => hs.nep1 e.symm)
    · exact hs.lt0
    · exact upd_lt hs.lt1 bs
  | _ + 2 =>
    refine (stWrite_nil A n c w).mono fun e w' h => ⟨h.1, ?_, ?_⟩
    · rw [← h.2]; exact ⟨hs.b0, hs.b1, hs.bp, hs.lt0, hs.lt1, hs.ne, hs.nep0, hs.nep1⟩
    · rw [← h.2]; exact Chg.refl _ _
theorem SS.at_ {w : World} {s0 s1 p : Nat} {S : Nat → Nat} {L : Nat → Int} (hs : SS w s0 s1 p S L) {j : Nat} (hj : j ≤ 2) : w.cell? ⟨p, j, none⟩ = some (ptrOf s0 s1 j) := by
  rw [hs.bp.cell]
  match j, hj with
  | 0, _ => rfl
  | 1, _ => rfl
  | 2, _ => rfl
/-- Two streams and their list. -/
structure RR (w : World) (s0 s1 p : Nat) (S : Nat → Nat) (L : Nat → Int) : Prop where
  b0 : Blk w s0 74 #[.int .u32 (S 0 : Int), .int .i64 (L 0)]
  b1 : Blk w s1 74 #[.int .u32 (S 1 : Int), .int .i64 (L 1)]
  bp : Blk w p 26 #[.pointer (some ⟨s0, 0, none⟩), .pointer (some ⟨s1, 0, none⟩), .pointer none]
  lt0 : S 0 < U32
  lt1 : S 1 < U32
  ne : s0 ≠ s1
  nep0 : s0 ≠ p
  nep1 : s1 ≠ p
theorem RR.chg {w w' : World} {s0 s1 p : Nat} {S : Nat → Nat} {L : Nat → Int} {T : Nat → Prop} (h : RR w s0 s1 p S L) (c : Chg w w' T) (h0 : ¬ T s0) (h1 : ¬ T s1) (hp : ¬ T p) : RR w' s0 s1 p S L :=
  ⟨c.blk h.b0 h0, c.blk h.b1 h1, c.blk h.bp hp, h.lt0, h.lt1, h.ne, h.nep0, h.nep1⟩
theorem RR.bel {w w' : World} {s0 s1 p : Nat} {S : Nat → Nat} {L : Nat → Int} (h : RR w s0 s1 p S L) (c : Below w.heap.size w w') : RR w' s0 s1 p S L :=
  h.chg (Chg.of_below c (fun _ => False)) id id id
theorem rsWrite_j {w : World} {s0 s1 p : Nat} {S : Nat → Nat} {L : Nat → Int} (j : Nat) (hs : RR w s0 s1 p S L) (bs : List UInt8) (A : Option Addr) (n c B : Nat) (hr : Reads w B 1 A n (bs.map bv)) (hn : n ≤ 140737488355328) (hB : B ≤ w.heap.size) :
    Calls Try.prog 17 #[ptrOf s0 s1 j, .slice A n c] w fun e w' => e = .returned (.int .i64 (codeOf j)) ∧ RR w' s0 s1 p (stepS S j bs) (stepL L j n) ∧ Chg w w' (fun i => i = s0 ∨ i = s1) := by
  match j with
  | 0 =>
    refine (rsWrite_any s0 (S 0) (L 0) bs A n c B w hs.lt0 hs.b0 hr hn hB).mono fun e w' h => ⟨h.1, ⟨?_, ?_, ?_, ?_, ?_, hs.ne, hs.nep0, hs.nep1⟩, h.2.2.more fun i hi => .inl hi⟩
    · exact h.2.1
    · exact h.2.2.blk hs.b1 (fun e => hs.ne e.symm)
    · exact h.2.2.blk hs.bp (fun e => hs.nep0 e.symm)
    · exact upd_lt hs.lt0 bs
    · exact hs.lt1
  | 1 =>
    refine (rsWrite_any s1 (S 1) (L 1) bs A n c B w hs.lt1 hs.b1 hr hn hB).mono fun e w' h => ⟨h.1, ⟨?_, ?_, ?_, ?_, ?_, hs.ne, hs.nep0, hs.nep1⟩, h.2.2.more fun i hi => .inr hi⟩
    · exact h.2.2.blk hs.b0 (fun e => hs.ne e)
    · exact h.2.1
    · exact h.2.2.blk hs.bp (fun e => hs.nep1 e.symm)
    · exact hs.lt0
    · exact upd_lt hs.lt1 bs
  | _ + 2 =>
    refine (rsWrite_nil A n c w).mono fun e w' h => ⟨h.1, ?_, ?_⟩
    · rw [← h.2]; exact ⟨hs.b0, hs.b1, hs.bp, hs.lt0, hs.lt1, hs.ne, hs.nep0, hs.nep1⟩
    · rw [← h.2]; exact Chg.refl _ _
theorem RR.at_ {w : World} {s0 s1 p : Nat} {S : Nat → Nat} {L : Nat → Int} (hs : RR w s0 s1 p S L) {j : Nat} (hj : j ≤ 2) : w.cell? ⟨p, j, none⟩ = some (ptrOf s0 s1 j) := by
  rw [hs.bp.cell]
  match j, hj with
  | 0, _ => rfl
  | 1, _ => rfl
  | 2, _ => rfl

theorem tells_j {w : World} {s0 s1 p r0 r1 q : Nat} {S : Nat → Nat} {L : Nat → Int} (j : Nat) (hs : SS w s0 s1 p S L) (hr : RR w r0 r1 q S L) :
    Calls Try.prog 15 #[ptrOf s0 s1 j, ptrOf r0 r1 j] w fun e w' => e = .returned (.bool true) ∧ w = w' := by
  match j with
  | 0 => exact tells_any _ _ _ _ _ hs.b0 hr.b0
  | 1 => exact tells_any _ _ _ _ _ hs.b1 hr.b1
  | _ + 2 => exact tells_nil _
theorem two_start (w : World) : ∃ w0, w0 = (((((w.alloc (.cells #[.int .u32 0, .int .i64 0] 72)).alloc (.cells #[.int .u32 0, .int .i64 0] 72)).alloc
      (.cells #[.pointer (some ⟨w.heap.size, 0, none⟩), .pointer (some ⟨w.heap.size + 1, 0, none⟩), .pointer none] 23)).alloc (.cells #[.int .u32 0, .int .i64 0] 74)).alloc (.cells #[.int .u32 0, .int .i64 0] 74)).alloc
      (.cells #[.pointer (some ⟨w.heap.size + 1 + 1 + 1, 0, none⟩), .pointer (some ⟨w.heap.size + 1 + 1 + 1 + 1, 0, none⟩), .pointer none] 26) ∧
    SS w0 w.heap.size (w.heap.size + 1) (w.heap.size + 1 + 1) (fun _ => 0) (fun _ => 0) ∧ RR w0 (w.heap.size + 1 + 1 + 1) (w.heap.size + 1 + 1 + 1 + 1) (w.heap.size + 1 + 1 + 1 + 1 + 1) (fun _ => 0) (fun _ => 0) ∧ Below w.heap.size w w0 := by
  have nb : ∀ (w : World) (g : Nat) (hg : w.heap.size = g) (t : TypeId) (cs : Array Value), Blk (w.alloc (.cells cs t)) g t cs := fun w g hg t cs => by subst hg; exact Blk.new w t cs
  refine ⟨_, rfl, ⟨?_, ?_, ?_, by decide, by decide, by omega, by omega, by omega⟩, ⟨?_, ?_, ?_, by decide, by decide, by omega, by omega, by omega⟩, ?_⟩
  · exact (((((nb _ _ rfl _ _).alloc _).alloc _).alloc _).alloc _).alloc _
  · exact ((((nb _ _ (by simp) _ _).alloc _).alloc _).alloc _).alloc _
  · exact (((nb _ _ (by simp) _ _).alloc _).alloc _).alloc _
  · exact ((nb _ _ (by simp) _ _).alloc _).alloc _
  · exact (nb _ _ (by simp) _ _).alloc _
  · exact nb _ _ (by simp) _ _
  · exact ((((((Below.refl _ _).alloc (Nat.le_refl _) _).alloc (by simp) _).alloc (by simp; omega) _).alloc (by simp; omega) _).alloc (by simp; omega) _).alloc (by simp; omega) _

set_option maxRecDepth 100000 in
set_option maxHeartbeats 2000000 in
theorem checkStreams_walk (A : Option Addr) (n c : Nat) (w : World) (hn : n ≤ 140737488351232)
    (hs : ∀ k, k < n → ∃ b off who tell A' n' c' bs, A = some ⟨b, off, none⟩ ∧ OpAt w b (off + k * 3) who tell A' n' c' bs) :
    Calls Try.prog 3 #[.slice A n c] w fun e w' => e = .returned (.bool true) ∧ Below w.heap.size w w' := by
  have HS := hide hs
  clear hs
  go_enter Try.func3, Try.ntmps3
  go_wp2_with (first
    | (go_at_call 13; refine (new_any _).mono ?_; rintro e w1 ⟨rfl, rfl⟩)
    | (go_at_call 14; refine (refNew_any _).mono ?_; rintro e w1 ⟨rfl, rfl⟩))
  obtain ⟨w0, hw0, h2, h3, hb0⟩ := two_start w
  rw [← hw0]
  have m1 : w.heap.size ≤ w.heap.size + 1 := by omega
  have m2 : w.heap.size ≤ w.heap.size + 1 + 1 + 1 := by omega
  have m3 : w.heap.size ≤ w.heap.size + 1 + 1 + 1 + 1 := by omega
  generalize w.heap.size + 1 + 1 + 1 + 1 + 1 = q0 at h2 h3 ⊢
  generalize w.heap.size + 1 + 1 + 1 + 1 = r1 at h2 h3 m3 ⊢
  generalize w.heap.size + 1 + 1 + 1 = r0 at h2 h3 m2 ⊢
  generalize w.heap.size + 1 + 1 = p0 at h2 h3 ⊢
  generalize w.heap.size + 1 = s1 at h2 h3 m1 ⊢
  have HB0 := hide hb0
  clear hw0 hb0
  go_loopg [5] n (fun g i wr => ∃ (k : Nat) (S : Nat → Nat) (L : Nat → Int), k + g = n ∧ i = .int .i64 (k : Int) ∧ SS wr w.heap.size s1 p0 S L ∧ RR wr r0 r1 q0 S L ∧ Below w.heap.size w wr)
  case atStart => exact ⟨0, _, _, by omega, rfl, h2, h3, unhide HB0⟩
  case round =>
    obtain ⟨k, S, L, hk, rfl, ht, hu, hb⟩ := hrel
    clear h2 h3 HB0
    by_cases hlt : k < n
    · obtain ⟨g, rfl⟩ : ∃ g, gk = g + 1 := ⟨gk - 1, by omega⟩
      obtain ⟨b, off, who, tell, A1, n1, c1, bs, rfl, ho⟩ := (unhide HS) k hlt
      have o1 : wr.cell? ⟨b, off + k * 3, none⟩ = some (.int .i64 who) := (hb.cell (p := ⟨b, off + k * 3, none⟩) ho.lt).trans ho.who
      have o2 : wr.cell? ⟨b, off + k * 3 + 1, none⟩ = some (.bool tell) := (hb.cell (p := ⟨b, off + k * 3 + 1, none⟩) ho.lt).trans ho.tell
      have o3 : wr.cell? ⟨b, off + k * 3 + 2, none⟩ = some (.slice A1 n1 c1) := (hb.cell (p := ⟨b, off + k * 3 + 2, none⟩) ho.lt).trans ho.data
      have hz := hb.size
      have HO := hide ho
      clear ho
      by_cases hw : 0 ≤ who ∧ who ≤ 2
      · obtain ⟨j, rfl⟩ := Int.eq_ofNat_of_zero_le hw.1
        have hj : j ≤ 2 := by omega
        have hj0 : ¬ ((j : Int) < 0) := by omega
        have hj1 : (j : Int) ≤ 2 := by omega
        obtain ⟨sp, hsp⟩ : ∃ sp, ptrOf w.heap.size s1 j = sp := ⟨_, rfl⟩
        obtain ⟨rp, hrp⟩ : ∃ rp, ptrOf r0 r1 j = rp := ⟨_, rfl⟩
        have P1 := fun W (h : SS W w.heap.size s1 p0 S L) => hide (hsp ▸ h.at_ hj)
        have Q1 := fun W (h : RR W r0 r1 q0 S L) => hide (hrp ▸ h.at_ hj)
        cases tell with
        | true =>
          have hT : ∀ o nq, Hid (Calls Try.prog 15 #[sp, rp] ((wr.alloc o).drewN nq) fun e w' => e = .returned (.bool true) ∧ (wr.alloc o).drewN nq = w') := fun o nq => by
            rw [← hsp, ← hrp]
            exact hide (tells_j (w := (wr.alloc o).drewN nq) j (ht.bel (below_drewN ((Below.refl _ _).alloc (Nat.le_refl _) o) nq)) (hu.bel (below_drewN ((Below.refl _ _).alloc (Nat.le_refl _) o) nq)))
          have hp : ∀ o, (wr.alloc o).cell? ⟨p0, j, none⟩ = some sp := fun o => unhide (P1 _ (ht.bel ((Below.refl _ _).alloc (Nat.le_refl _) o)))
          have hq : ∀ o, (wr.alloc o).cell? ⟨q0, j, none⟩ = some rp := fun o => unhide (Q1 _ (hu.bel ((Below.refl _ _).alloc (Nat.le_refl _) o)))
          have HT := hide ht
          have HU := hide hu
          have HB := hide hb
          clear ht hu hb P1 Q1 hsp hrp HS
          go_wp2
          go_quiet ((go_at_call 15; exact quiet_left (unhide (hT _ _))))
          go_wp2
          go_roundg g
          case rel => exact ⟨k + 1, S, L, by omega, by go_num, (unhide HT).bel (below_drewN ((Below.refl _ _).alloc (Nat.le_refl _) _) _), (unhide HU).bel (below_drewN ((Below.refl _ _).alloc (Nat.le_refl _) _) _), below_drewN ((unhide HB).alloc hz _) _⟩
          case measure => omega
        | false =>
          have hnext : SS wr w.heap.size s1 p0 S L ∧ RR wr r0 r1 q0 S L ∧ Below w.heap.size w wr := ⟨ht, hu, hb⟩
          have HN := hide hnext
          have P2 := hide P1
          have Q2 := hide Q1
          have HSP := Lib.hid hsp
          have HRP := Lib.hid hrp
          clear ht hu hb hnext P1 Q1 hsp hrp
          go_wp2_with fail
          obtain ⟨W, hW⟩ : ∃ W, W = wr.alloc (.cells #[.int .i64 (j : Int), .bool false, .slice A1 n1 c1] 31) := ⟨_, rfl⟩
          rw [← hW]
          have hbx : Blk W wr.heap.size 31 #[.int .i64 (j : Int), .bool false, .slice A1 n1 c1] := by rw [hW]; exact Blk.new _ _ _
          have hWb : Below wr.heap.size wr W := by rw [hW]; exact (Below.refl _ _).alloc (Nat.le_refl _) _
          have hWz : W.heap.size = wr.heap.size + 1 := by rw [hW]; simp
          have hRW : Reads W W.heap.size 1 A1 n1 (bs.map bv) := (((unhide HO).reads.below (unhide HN).2.2).more hz).below hWb |>.more hWb.size
          have hsm := (unhide HO).small
          clear hW o1 o2 o3
          refine (lent_any A1 n1 c1 bs W hRW hsm).mono ?_
          rintro e w1 ⟨g2, cap2, rfl, hcap, hg2, hown, hb1⟩
          -- what stands behind lent
          have hS1 := ((unhide HN).1.bel hWb).bel hb1
          have hR1 := ((unhide HN).2.1.bel hWb).bel hb1
          have hx1 := hbx.below hb1 hbx.lt
          have hz1 := hb1.size
          have hRd1 := (hRW.below hb1).more hb1.size
          have q1 := unhide (unhide Q2 w1 hR1)
          have b0 : w1.cell? ⟨wr.heap.size, 0, none⟩ = some (.int .i64 (j : Int)) := hx1.cell 0
          have b2 : w1.cell? ⟨wr.heap.size, 2, none⟩ = some (.slice A1 n1 c1) := hx1.cell 2
          have hWr := hide (rsWrite_j (w := w1.drew) j (hR1.bel (Below.refl _ _).drew) bs A1 n1 c1 w1.heap.size hRd1.drew (by omega) (Nat.le_refl _))
          rw [HRP.out] at hWr
          have K1 : Hid (SS w1 w.heap.size s1 p0 S L ∧ RR w1 r0 r1 q0 S L ∧ Blk w1 wr.heap.size 31 #[.int .i64 (j : Int), .bool false, .slice A1 n1 c1] ∧ Reads w1 w1.heap.size 1 A1 n1 (bs.map bv) ∧ Below wr.heap.size wr w1 ∧
            w1.ownsRow W.heap.size 5 1 (.slice (some ⟨g2, 0, none⟩) (n1 + 5 : Nat) cap2) (n1 + 5) ((bs ++ mk 5).map bv)) := ⟨hS1, hR1, hx1, hRd1, hWb.trans (hb1.mono hWb.size), hown⟩
          clear hS1 hR1 hx1 hRd1 hown hb1 hRW hWb hbx
          have hj2 : (0 : Int) ≤ (j : Int) := by omega
          have hj3 : (j : Int) < 3 := by omega
          go_wp2_with fail
          go_region_held3 (fun w' => w'.cell? ⟨q0, j, none⟩ = some rp ∧ w'.cell? ⟨wr.heap.size, 0, none⟩ = some (.int .i64 (j : Int)) ∧ w'.cell? ⟨wr.heap.size, 2, none⟩ = some (.slice A1 n1 c1)) (first | go_keep) ((first
            | (go_at_call 17
               refine (unhide hWr).mono ?_
               rintro e w2 ⟨rfl, hR2, hc2⟩
               have hr0 := (unhide HN).2.1.b0.lt
               have hr1 := (unhide HN).2.1.b1.lt
               have hx2 : Blk w2 wr.heap.size 31 #[.int .i64 (j : Int), .bool false, .slice A1 n1 c1] := hc2.blk (w := w1.drew) K1.out.2.2.1.drew (by omega)
               have d0 : w2.cell? ⟨wr.heap.size, 0, none⟩ = some (.int .i64 (j : Int)) := hx2.cell 0
               have d2 : w2.cell? ⟨wr.heap.size, 2, none⟩ = some (.slice A1 n1 c1) := hx2.cell 2
               have dq : w2.cell? ⟨q0, j, none⟩ = some rp := by rw [← HRP.out]; exact hR2.at_ hj
               have hs1 := K1.out.1
               have hrr := K1.out.2.1
               have hS2 : SS w2 w.heap.size s1 p0 S L := (hs1.bel (Below.refl _ _).drew).chg hc2 (by
                   rintro (e | e)
                   · exact hs1.b0.ne_ hrr.b0 (by decide) e
                   · exact hs1.b0.ne_ hrr.b1 (by decide) e) (by
                   rintro (e | e)
                   · exact hs1.b1.ne_ hrr.b0 (by decide) e
                   · exact hs1.b1.ne_ hrr.b1 (by decide) e) (by
                   rintro (e | e)
                   · exact hs1.bp.ne_ hrr.b0 (by decide) e
                   · exact hs1.bp.ne_ hrr.b1 (by decide) e)
               have dp : w2.cell? ⟨p0, j, none⟩ = some sp := by rw [← HSP.out]; exact hS2.at_ hj
               have hown2 : w2.ownsRow W.heap.size 5 1 (.slice (some ⟨g2, 0, none⟩) (n1 + 5 : Nat) cap2) (n1 + 5) ((bs ++ mk 5).map bv) := hc2.own (w := w1.drew) K1.out.2.2.2.2.2.drew (by
                   intro i hi e
                   cases hi
                   have e' : g2 = r0 ∨ g2 = r1 := e
                   omega)
               have hlen : bs.length = n1 := by have := (unhide HO).reads.1; simpa using this
               have hWs := hide (stWrite_j j hS2 bs (some ⟨g2, 0, none⟩) n1 cap2 w2.heap.size ((Reads.of_own hown2).front hlen) (by omega) (Nat.le_refl _))
               rw [HSP.out] at hWs
               have K2 : Hid (SS w2 w.heap.size s1 p0 S L ∧ RR w2 r0 r1 q0 (stepS S j bs) (stepL L j n1) ∧ Blk w2 wr.heap.size 31 #[.int .i64 (j : Int), .bool false, .slice A1 n1 c1] ∧
                   w2.ownsRow W.heap.size 5 1 (.slice (some ⟨g2, 0, none⟩) (n1 + 5 : Nat) cap2) (n1 + 5) ((bs ++ mk 5).map bv) ∧ Below w.heap.size w w2 ∧ wr.heap.size + 1 ≤ w2.heap.size) :=
                 ⟨hS2, hR2, hx2, hown2, ((unhide HN).2.2.trans (K1.out.2.2.2.2.1.mono hz)).drew.trans (hc2.below (B := w.heap.size) (w := w1.drew) (Nat.le_trans hz K1.out.2.2.2.2.1.size) (by intro i hi e; omega)), by have := hx2.lt; omega⟩
               clear hc2 hR2 hx2 hs1 hrr hS2 hown2 hlen)))
          go_wp2_with fail
          refine (unhide hWs).mono ?_
          rintro e w3 ⟨rfl, hS3, hc3⟩
          have hs2 := K2.out.1
          have hr2 := K2.out.2.1
          have hlen : bs.length = n1 := by have := (unhide HO).reads.1; simpa using this
          have hR3 : RR w3 r0 r1 q0 (stepS S j bs) (stepL L j n1) := hr2.chg hc3 (by
                   rintro (e | e)
                   · exact hr2.b0.ne_ hs2.b0 (by decide) e
                   · exact hr2.b0.ne_ hs2.b1 (by decide) e) (by
                   rintro (e | e)
                   · exact hr2.b1.ne_ hs2.b0 (by decide) e
                   · exact hr2.b1.ne_ hs2.b1 (by decide) e) (by
                   rintro (e | e)
                   · exact hr2.bp.ne_ hs2.b0 (by decide) e
                   · exact hr2.bp.ne_ hs2.b1 (by decide) e)
          have hss0 := (unhide HN).1.b0.lt
          have hss1 := (unhide HN).1.b1.lt
          have hss2 := (unhide HN).1.bp.lt
          have hss3 := (unhide HN).2.1.b0.lt
          have hss4 := (unhide HN).2.1.b1.lt
          have hss5 := (unhide HN).2.1.bp.lt
          have hx3 : Blk w3 wr.heap.size 31 #[.int .i64 (j : Int), .bool false, .slice A1 n1 c1] := hc3.blk K2.out.2.2.1 (by omega)
          have hown3 : w3.ownsRow W.heap.size 5 1 (.slice (some ⟨g2, 0, none⟩) (n1 + 5 : Nat) cap2) (n1 + 5) ((bs ++ mk 5).map bv) := hc3.own K2.out.2.2.2.1 (by
                   intro i hi e
                   cases hi
                   have e' : g2 = w.heap.size ∨ g2 = s1 := e
                   omega)
          have hb3 : Below w.heap.size w w3 := K2.out.2.2.2.2.1.trans (hc3.below (B := w.heap.size) K2.out.2.2.2.2.1.size (by intro i hi e; omega))
          have c2 : w3.cell? ⟨wr.heap.size, 2, none⟩ = some (.slice A1 n1 c1) := hx3.cell 2
          have hK := hide (kept_any A1 g2 n1 cap2 n1 c1 w3.heap.size bs bs w3 hlen hcap (Reads.of_own hown3) (((unhide HO).reads.below hb3).more hb3.size) (by omega) (Nat.le_refl _))
          rw [show (bs == bs) = true by simp] at hK
          have hz3 : wr.heap.size + 1 ≤ w3.heap.size := Nat.le_trans K2.out.2.2.2.2.2 hc3.size
          have K3 : Hid (SS w3 w.heap.size s1 p0 (stepS S j bs) (stepL L j n1) ∧ RR w3 r0 r1 q0 (stepS S j bs) (stepL L j n1) ∧ w3.ownsRow W.heap.size 5 1 (.slice (some ⟨g2, 0, none⟩) (n1 + 5 : Nat) cap2) (n1 + 5) ((bs ++ mk 5).map bv) ∧ Below w.heap.size w w3) := ⟨hS3, hR3, hown3, hb3⟩
          clear hS3 hR3 hown3 hb3 hx3 hs2 hr2 hc3 K2 K1 hWr hWs HN P2 Q2
          go_wp2_with (first
            | (go_at_call 19; refine (num_any _ _).mono ?_; rintro e w4 ⟨rfl, rfl⟩)
            | (go_at_call 20; refine (unhide hK).mono ?_; rintro e w4 ⟨rfl, hb4⟩))
          have K4 : Hid (SS w4 w.heap.size s1 p0 (stepS S j bs) (stepL L j n1) ∧ RR w4 r0 r1 q0 (stepS S j bs) (stepL L j n1) ∧ Below w.heap.size w w4) := ⟨K3.out.1.bel hb4, K3.out.2.1.bel hb4, K3.out.2.2.2.trans (hb4.mono K3.out.2.2.2.size)⟩
          have hown4 : w4.ownsRow W.heap.size 5 1 (.slice (some ⟨g2, 0, none⟩) (n1 + 5 : Nat) cap2) (n1 + 5) ((bs ++ mk 5).map bv) := (Chg.of_below hb4 (fun _ => False)).own K3.out.2.2.1 (fun _ _ h => h)
          have hlb : (bs ++ mk 5).length = n1 + 5 := by simp [hlen, mk_len]
          clear K3 hb4 hK HS HO
          obtain ⟨wo, rfl⟩ : ∃ wo : World, wo = wr := ⟨_, rfl⟩
          go_loopg [10] n1 (fun q i wx => ∃ (m : Nat) (zs : List UInt8), m + q = n1 ∧ i = .int .i64 (m : Int) ∧ zs.length = n1 + 5 ∧ wx.ownsRow W.heap.size 5 1 (.slice (some ⟨g2, 0, none⟩) (n1 + 5 : Nat) cap2) (n1 + 5) (zs.map bv) ∧ w4.grownBy wx (some g2))
          case atStart => exact ⟨0, bs ++ mk 5, by omega, rfl, hlb, hown4, World.grownBy.refl _ _⟩
          case round =>
            obtain ⟨m, zs, hm, rfl, hzl, hoz, hgz⟩ := hrel
            clear hown4 hlb
            by_cases hmn : m < n1
            · obtain ⟨q, rfl⟩ : ∃ q, gk = q + 1 := ⟨gk - 1, by omega⟩
              obtain ⟨d, hd⟩ : ∃ d, zs[m]? = some d := ⟨_, List.getElem?_eq_getElem (by omega)⟩
              have hcz : wr.cell? ⟨g2, m, none⟩ = some (.int .u8 (d.toNat : Int)) := by rw [hoz.cellAt m (by omega), List.getElem?_map, hd]; rfl
              have hfz : wr.frozen? ⟨g2, m, none⟩ = false := hoz.frozenAt m
              have HZ := hide (hoz.stored m (.int .u8 (((d.toNat : Int) + 1) % 256)))
              have HX : Hid ((zs.map bv).set m (.int .u8 (((d.toNat : Int) + 1) % 256)) = (zs.set m (UInt8.ofNat ((d.toNat + 1) % 256))).map bv) := by
                show _ = _
                rw [show ((d.toNat : Int) + 1) % 256 = (((d.toNat + 1) % 256 : Nat) : Int) by omega, bv_nat _ (by omega), ← List.map_set]
              have HG := hide hgz
              clear hoz hgz hd
              go_wp2
              go_roundg q
              case rel => exact ⟨m + 1, zs.set m (UInt8.ofNat ((d.toNat + 1) % 256)), by omega, by go_num, by simpa using hzl, by rw [← HX.out]; exact (unhide HZ).1, grownBy_trans (unhide HG) (unhide HZ).2 (.inl rfl)⟩
              case measure => omega
            · have HG := hide hgz
              clear hoz hgz
              go_wp2
              go_roundg g
              case rel =>
                have hg := Chg.of_grown (unhide HG)
                have a1 := K4.out.1.b0.lt
                have hgw : w.heap.size ≤ g2 := by omega
                refine ⟨k + 1, stepS S j bs, stepL L j n1, by omega, by go_num, K4.out.1.chg hg ?_ ?_ ?_, K4.out.2.1.chg hg ?_ ?_ ?_, K4.out.2.2.grown (unhide HG) K4.out.2.2.size (fun _ hi => by cases hi; exact hgw)⟩
                all_goals (intro e; injection e with e; omega)
              case measure => omega
      · have HT := hide ht
        have HU := hide hu
        have HB := hide hb
        clear ht hu hb HS
        have hw' : who < 0 ∨ 2 < who := by omega
        clear hw
        rcases hw' with hw | hw
        all_goals
          go_wp2
          go_roundg g
          case rel => exact ⟨k + 1, S, L, by omega, by go_num, (unhide HT).bel ((Below.refl _ _).alloc (Nat.le_refl _) _), (unhide HU).bel ((Below.refl _ _).alloc (Nat.le_refl _) _), (unhide HB).alloc hz _⟩
          case measure => omega
    · have p_ : ∀ j, j ≤ 2 → wr.cell? ⟨p0, j, none⟩ = some (ptrOf w.heap.size s1 j) := fun j hj => ht.at_ hj
      have q_ : ∀ j, j ≤ 2 → wr.cell? ⟨q0, j, none⟩ = some (ptrOf r0 r1 j) := fun j hj => hu.at_ hj
      have e0 : wr.cell? ⟨p0, 0, none⟩ = some (.pointer (some ⟨w.heap.size, 0, none⟩)) := p_ 0 (by omega)
      have e1 : wr.cell? ⟨p0, 1, none⟩ = some (.pointer (some ⟨s1, 0, none⟩)) := p_ 1 (by omega)
      have e2 : wr.cell? ⟨p0, 2, none⟩ = some (.pointer none) := p_ 2 (by omega)
      have f0 : wr.cell? ⟨q0, 0, none⟩ = some (.pointer (some ⟨r0, 0, none⟩)) := q_ 0 (by omega)
      have f1 : wr.cell? ⟨q0, 1, none⟩ = some (.pointer (some ⟨r1, 0, none⟩)) := q_ 1 (by omega)
      have f2 : wr.cell? ⟨q0, 2, none⟩ = some (.pointer none) := q_ 2 (by omega)
      have T0 := fun m => hide (tells_any _ _ _ _ _ (ht.b0.drewN m) (hu.b0.drewN m))
      have T1 := fun m => hide (tells_any _ _ _ _ _ (ht.b1.drewN m) (hu.b1.drewN m))
      have HB := hide hb
      clear p_ q_ ht hu hb HS
      go_wp2
      go_quiet ((first
        | (go_at_call 15; with_reducible exact quiet_left (unhide (T0 _)))
        | (go_at_call 15; with_reducible exact quiet_left (unhide (T1 _)))
        | (go_at_call 15; with_reducible exact quiet_add_left (unhide (T0 _)))
        | (go_at_call 15; with_reducible exact quiet_add_left (unhide (T1 _)))
        | (go_at_call 15; with_reducible exact quiet_left (tells_nil _))
        | (go_at_call 15; with_reducible exact quiet_add_left (tells_nil _))))
      go_wp2
      go_ret
      exact ⟨rfl, below_drewN (unhide HB) _⟩
end Go.Proofs.Ytoipkpndfgcmcaa
