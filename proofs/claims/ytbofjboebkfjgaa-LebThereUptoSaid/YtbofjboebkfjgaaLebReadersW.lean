/-
  LebReaders: every read of any bytes, of two readers in turns, and of none: the walk over the Go text of the statement. Condition: fewer than 2^47 bytes.
-/
import Derived.Test.YtbofjboebkfjgaaLebReads
namespace Go.Proofs.Ytbofjboebkfjgaa
open Go.RowKit

/-- One step of a script, as it lies in memory. -/
structure OpAt (w : World) (b off : Nat) (kd wh : Int) (N : Nat) (K : Int) (A : Option Addr) (n c : Nat) (bs : List UInt8) : Prop where
  f0 : w.cell? ⟨b, off, none⟩ = some (.int .i64 kd)
  f1 : w.cell? ⟨b, off + 1, none⟩ = some (.int .i64 wh)
  f2 : w.cell? ⟨b, off + 2, none⟩ = some (.int .u64 (N : Int))
  f3 : w.cell? ⟨b, off + 3, none⟩ = some (.int .i64 K)
  f4 : w.cell? ⟨b, off + 4, none⟩ = some (.slice A n c)
  lt : b < w.heap.size
  reads : Reads w w.heap.size 1 A n (bs.map bv)
  small : n ≤ 140737488351232
  nlt : N < U64
  k1 : -9223372036854775808 ≤ K
  k2 : K ≤ 9223372036854775807
  w1 : -9223372036854775808 ≤ wh
  w2 : wh ≤ 9223372036854775807

/-- Where the two pairs of readers and the zero one lie. -/
structure Lay (B gr hm gs hk z L : Nat) (A2 : Option Addr) : Prop where
  a : B ≤ gr
  b : gr < L
  c : L ≤ gs
  d : gs < hm
  e : hm < hk
  f : hk < z
  lo : ∀ ad, A2 = some ad → L ≤ ad.block
/-- Two pairs of readers, each pair alike, and a zero one. -/
structure RS (w0 W : World) (B gr hm gs hk z : Nat) (A1 : Option Addr) (c1 : Nat) (Ab : Option Addr) (cb n : Nat) (bs : List UInt8) (A2 : Option Addr) (c2 : Nat) (Ac : Option Addr) (cc m : Nat) (cs : List UInt8) : Prop where
  r : ∃ p f, Both W B gr hm A1 c1 Ab cb n bs p f
  s : ∃ p f, Both W B gs hk A2 c2 Ac cc m cs p f
  z : Blk W z 62 #[.slice none 0 0, .int .i64 0, .int .i64 0, .bool false]
  bel : Below w0.heap.size w0 W
section
variable {w0 W W' : World} {B gr hm gs hk z L : Nat} {A1 : Option Addr} {c1 : Nat} {Ab : Option Addr} {cb n : Nat} {bs : List UInt8} {A2 : Option Addr} {c2 : Nat} {Ac : Option Addr} {cc m : Nat} {cs : List UInt8}
theorem RS.below (h : RS w0 W B gr hm gs hk z A1 c1 Ab cb n bs A2 c2 Ac cc m cs) (hb : Below W.heap.size W W') : RS w0 W' B gr hm gs hk z A1 c1 Ab cb n bs A2 c2 Ac cc m cs := by
  obtain ⟨⟨p, f, hr⟩, ⟨p', f', hs⟩, hz, hw⟩ := h
  exact ⟨⟨p, f, hr.below hb⟩, ⟨p', f', hs.below hb⟩, hz.below hb hz.lt, hw.trans (hb.mono hw.size)⟩
theorem RS.drewN (h : RS w0 W B gr hm gs hk z A1 c1 Ab cb n bs A2 c2 Ac cc m cs) (k : Nat) : RS w0 (W.drewN k) B gr hm gs hk z A1 c1 Ab cb n bs A2 c2 Ac cc m cs :=
  h.below (below_drewN (Below.refl _ _) k)
theorem RS.first (h : RS w0 W B gr hm gs hk z A1 c1 Ab cb n bs A2 c2 Ac cc m cs) (l : Lay B gr hm gs hk z L A2) (hB : B = w0.heap.size) {E : Ending} (d : Done W B gr hm A1 c1 Ab cb n bs E W') : RS w0 W' B gr hm gs hk z A1 c1 Ab cb n bs A2 c2 Ac cc m cs := by
  obtain ⟨la, lb, lc, ld, le, lf, lo⟩ := l
  obtain ⟨_, ⟨p', f', hs⟩, hz, hw⟩ := h
  obtain ⟨_, hr, hc⟩ := d
  refine ⟨hr, ⟨p', f', ⟨hs.P.chg2 (L := L) hc lo (fun i h1 h2 e => by omega) (fun e => by omega), hs.R.chg hc (fun i hi e => by omega) (fun e => by omega), hs.lo, hs.gh⟩⟩, hc.blk hz (fun e => by omega), hw.trans (hc.below hw.size (fun i hi e => by omega))⟩
theorem RS.second (h : RS w0 W B gr hm gs hk z A1 c1 Ab cb n bs A2 c2 Ac cc m cs) (l : Lay B gr hm gs hk z L A2) (hB : B = w0.heap.size) {E : Ending} (d : Done W B gs hk A2 c2 Ac cc m cs E W') : RS w0 W' B gr hm gs hk z A1 c1 Ab cb n bs A2 c2 Ac cc m cs := by
  obtain ⟨la, lb, lc, ld, le, lf, lo⟩ := l
  obtain ⟨⟨p', f', hr⟩, _, hz, hw⟩ := h
  obtain ⟨_, hs, hc⟩ := d
  refine ⟨⟨p', f', ⟨hr.P.chg hc (fun i h1 e => by omega), hr.R.chg hc (fun i hi e => by omega) (fun e => by omega), hr.lo, hr.gh⟩⟩, hs, hc.blk hz (fun e => by omega), hw.trans (hc.below hw.size (fun i hi e => by omega))⟩
end

theorem rs_first {w0 W : World} {B gr hm gs hk z L : Nat} {A1 : Option Addr} {c1 : Nat} {Ab : Option Addr} {cb n : Nat} {bs : List UInt8} {A2 : Option Addr} {c2 : Nat} {Ac : Option Addr} {cc m : Nat} {cs : List UInt8}
    (h : RS w0 W B gr hm gs hk z A1 c1 Ab cb n bs A2 c2 Ac cc m cs) (l : Lay B gr hm gs hk z L A2) (hB : B = w0.heap.size) (kd : Int) (o1 o2 : Value) (k : Int) (o4 : Value) (h2 : k ≤ 9223372036854775807) :
    Calls Try.prog 37 #[.pointer (some ⟨gr, 0, none⟩), .pointer (some ⟨hm, 0, none⟩), .agg #[.int .i64 kd, o1, o2, .int .i64 k, o4]] W fun e w' => e = .returned (.bool true) ∧ RS w0 w' B gr hm gs hk z A1 c1 Ab cb n bs A2 c2 Ac cc m cs ∧ Chg W w' (fun i => i = gr ∨ i = hm) := by
  obtain ⟨p, f, hb⟩ := h.r
  exact (reads_any W B gr hm A1 c1 Ab cb n bs p f hb kd o1 o2 k o4 h2).mono fun E w' d => ⟨d.1, h.first l hB d, d.2.2⟩
theorem rs_second {w0 W : World} {B gr hm gs hk z L : Nat} {A1 : Option Addr} {c1 : Nat} {Ab : Option Addr} {cb n : Nat} {bs : List UInt8} {A2 : Option Addr} {c2 : Nat} {Ac : Option Addr} {cc m : Nat} {cs : List UInt8}
    (h : RS w0 W B gr hm gs hk z A1 c1 Ab cb n bs A2 c2 Ac cc m cs) (l : Lay B gr hm gs hk z L A2) (hB : B = w0.heap.size) (kd : Int) (o1 o2 : Value) (k : Int) (o4 : Value) (h2 : k ≤ 9223372036854775807) :
    Calls Try.prog 37 #[.pointer (some ⟨gs, 0, none⟩), .pointer (some ⟨hk, 0, none⟩), .agg #[.int .i64 kd, o1, o2, .int .i64 k, o4]] W fun e w' => e = .returned (.bool true) ∧ RS w0 w' B gr hm gs hk z A1 c1 Ab cb n bs A2 c2 Ac cc m cs ∧ Chg W w' (fun i => i = gs ∨ i = hk) := by
  obtain ⟨p, f, hb⟩ := h.s
  exact (reads_any W B gs hk A2 c2 Ac cc m cs p f hb kd o1 o2 k o4 h2).mono fun E w' d => ⟨d.1, h.second l hB d, d.2.2⟩

set_option maxRecDepth 100000 in
set_option maxHeartbeats 2000000 in
theorem lebReaders_walk (Ab : Option Addr) (n cb : Nat) (bs : List UInt8) (Ac : Option Addr) (m cc : Nat) (cs : List UInt8) (Ao : Option Addr) (no co : Nat) (w : World)
    (hrb : Reads w w.heap.size 1 Ab n (bs.map bv)) (hn : n ≤ 140737488351232) (hnc : n ≤ cb) (hrc : Reads w w.heap.size 1 Ac m (cs.map bv)) (hm : m ≤ 140737488351232) (hmc : m ≤ cc)
    (hno : no ≤ 140737488351232) (hop : ∀ k, k < no → ∃ b off kd wh N K A' n' c' bs', Ao = some ⟨b, off, none⟩ ∧ OpAt w b (off + k * 5) kd wh N K A' n' c' bs') :
    Calls Try.prog 9 #[.slice Ab n cb, .slice Ac m cc, .slice Ao no co] w fun e w' => e = .returned (.bool true) ∧ Below w.heap.size w w' := by
  have hlb : bs.length = n := by have := hrb.1; simpa using this
  have hlc : cs.length = m := by have := hrc.1; simpa using this
  have HL1 := hide (lent_any Ab n cb bs w hrb hn)
  have HRB := hide hrb
  have HRC := hide hrc
  have HOP := hide hop
  clear hrb hrc hop
  go_enter Try.func9, Try.ntmps9
  go_wp2_with fail
  refine (unhide HL1).mono ?_
  rintro e w1 ⟨g1, cap1, rfl, hcap1, hg1, ho1, hb1⟩
  have HL2 := hide (lent_any Ac m cc cs w1 (((unhide HRC).below hb1).more hb1.size) hm)
  have hgl1 := (ho1.lt g1 rfl).2
  have hz1 := hb1.size
  have HO1 := hide ho1
  have HB1 := hide hb1
  clear ho1 hb1 HL1
  go_wp2_with fail
  refine (unhide HL2).mono ?_
  rintro e w2 ⟨g2, cap2, rfl, hcap2, hg2, ho2, hb2⟩
  have HO1' := hide ((Chg.of_below hb2 (fun _ => False)).own (unhide HO1) (fun _ _ h => h))
  have HB2 := hide ((unhide HB1).trans (hb2.mono (unhide HB1).size))
  have hgl2 := (ho2.lt g2 rfl).2
  have hz2 := hb2.size
  have HO2 := hide ho2
  have hN1 := hide (newReader_any (some ⟨g1, 0, none⟩) n cap1 w2.heap.size bs w2 ((Reads.of_own (unhide HO1')).front hlb) (by omega))
  clear ho2 hb2 HO1 HL2
  go_wp2_with fail
  refine (unhide hN1).mono ?_
  rintro e w3 ⟨gr, A1, c1, rfl, hgr, hlo1, hr3, hb3⟩
  have HR3 := hide hr3
  have HB3 := hide ((unhide HB2).trans (hb3.mono (unhide HB2).size))
  have HO13 := hide ((Chg.of_below hb3 (fun _ => False)).own (unhide HO1') (fun _ _ h => h))
  have HO23 := hide ((Chg.of_below hb3 (fun _ => False)).own (unhide HO2) (fun _ _ h => h))
  have hN2 := hide (newReader_any (some ⟨g2, 0, none⟩) m cap2 w3.heap.size cs w3 ((Reads.of_own (unhide HO23)).front hlc) (by omega))
  have hz3 := hb3.size
  have hgrl := hr3.blk.lt
  clear hr3 hb3 HO1' HO2 hN1
  go_wp2_with fail
  refine (unhide hN2).mono ?_
  rintro e w4 ⟨gs, A2, c2, rfl, hgs, hlo2, hs4, hb4⟩
  have HS4 := hide hs4
  have HR4 := hide ((unhide HR3).chg (Chg.of_below hb4 (fun _ => False)) (fun _ _ h => h))
  have HB4 := hide ((unhide HB3).trans (hb4.mono (unhide HB3).size))
  have HO14 := hide ((Chg.of_below hb4 (fun _ => False)).own (unhide HO13) (fun _ _ h => h))
  have HO24 := hide ((Chg.of_below hb4 (fun _ => False)).own (unhide HO23) (fun _ _ h => h))
  have hcm1 := own_capm (unhide HO14)
  have hcm2 := own_capm (unhide HO24)
  have hz4 := hb4.size
  have hgsl := hs4.blk.lt
  have hK1 := hide (kept_any Ab g1 n cap1 n cb w4.heap.size bs bs w4 hlb hcap1 (Reads.of_own (unhide HO14)) (((unhide HRB).below (unhide HB4)).more (unhide HB4).size) hcm1)
  have hK2 := hide (kept_any Ac g2 m cap2 m cc w4.heap.size cs cs w4 hlc hcap2 (Reads.of_own (unhide HO24)) (((unhide HRC).below (unhide HB4)).more (unhide HB4).size) hcm2)
  rw [show (bs == bs) = true by simp] at hK1
  rw [show (cs == cs) = true by simp] at hK2
  have hT1 := hide (turned_any w.heap.size g1 n (n + 20) cap1 bs (mk 20) w4 hlb (unhide HO14) (by omega))
  clear hs4 hb4 HR3 HO13 HO23 hN2 HB1 HB2 HB3 hcm1 hcm2
  go_wp2_with fail
  refine (unhide hK1).mono ?_
  rintro e w5 ⟨rfl, rfl⟩
  go_wp2_with fail
  refine (unhide hK2).mono ?_
  rintro e w5 ⟨rfl, rfl⟩
  go_wp2_with fail
  refine (unhide hT1).mono ?_
  rintro e w5 ⟨rfl, _, hg5⟩
  have hc5 : Chg w4 w5 (fun i => i = g1) := (Chg.of_grown hg5).more (fun i e => by cases e; rfl)
  have ho25 := hc5.own (unhide HO24) (fun i hi e => by
    obtain rfl : g2 = i := by simpa [Value.ownBlock] using hi
    omega)
  have hT2 := hide (turned_any w1.heap.size g2 m (m + 20) cap2 cs (mk 20) w5 hlc ho25 (by omega))
  have HC5 := hide hc5
  clear hg5 hc5 ho25 hK1 hK2 hT1
  go_wp2_with fail
  refine (unhide hT2).mono ?_
  rintro e w6 ⟨rfl, _, hg6⟩
  have hc6 : Chg w4 w6 (fun i => i = g1 ∨ i = g2) := ((unhide HC5).more (fun i e => .inl e)).trans (Chg.of_grown hg6) (fun i _ e => by cases e; exact .inr rfl)
  have HC6 := hide hc6
  clear hg6 hc6 hT2 HC5
  go_wp2
  have hz6 := (unhide HC6).size
  obtain ⟨hm', hhm⟩ : ∃ k, w6.heap.size = k := ⟨_, rfl⟩
  obtain ⟨hk', hhk⟩ : ∃ k, hm' + 1 = k := ⟨_, rfl⟩
  obtain ⟨z, hz⟩ : ∃ k, hk' + 1 = k := ⟨_, rfl⟩
  have hsz : ∀ o : Obj, (w6.alloc o).heap.size = hk' := fun o => by rw [World.size_alloc]; omega
  have hsz2 : ∀ o o' : Obj, ((w6.alloc o).alloc o').heap.size = z := fun o o' => by rw [World.size_alloc, hsz]; omega
  have hlay : Lay w.heap.size gr hm' gs hk' z w3.heap.size A2 := ⟨by omega, hgrl, hgs, by omega, by omega, by omega, hlo2⟩
  obtain ⟨W7, hW7⟩ : ∃ W, ((w6.alloc (.cells #[.slice Ab n cb, .int .i64 0, .int .i64 0] 60)).alloc (.cells #[.slice Ac m cc, .int .i64 0, .int .i64 0] 60)).alloc (.cells #[.slice none 0 0, .int .i64 0, .int .i64 0, .bool false] 62) = W := ⟨_, rfl⟩
  have hb67 : Below w6.heap.size w6 W7 := by rw [← hW7]; exact (((Below.refl _ _).alloc (Nat.le_refl _) _).alloc (by simp) _).alloc (by simp; omega) _
  have hbw6 : Below w.heap.size w w6 := (unhide HB4).trans ((unhide HC6).below (unhide HB4).size (fun i hi e => by omega))
  have hRS : RS w W7 w.heap.size gr hm' gs hk' z A1 c1 Ab cb n bs A2 c2 Ac cc m cs := by
    have hc7 : Chg w4 W7 (fun i => i = g1 ∨ i = g2) := (unhide HC6).bel hb67
    have hbw : Below w.heap.size w W7 := hbw6.trans (hb67.mono hbw6.size)
    refine ⟨⟨0, 0, ⟨(unhide HR4).chg2 (L := w2.heap.size) hc7 hlo1 (fun i h1 h2 e => by omega) (fun e => by omega), ⟨?_, (unhide HRB).below hbw, by omega, Nat.zero_le _, hnc, by omega⟩, by omega, by omega⟩⟩,
      ⟨0, 0, ⟨(unhide HS4).chg2 (L := w3.heap.size) hc7 hlo2 (fun i h1 h2 e => by omega) (fun e => by omega), ⟨?_, (unhide HRC).below hbw, by omega, Nat.zero_le _, hmc, by omega⟩, by omega, by omega⟩⟩, ?_, hbw⟩
    · rw [← hW7, ← hhm]; exact ((Blk.new w6 _ _).alloc _).alloc _
    · rw [← hW7]
      have := (Blk.new (w6.alloc (.cells #[.slice Ab n cb, .int .i64 0, .int .i64 0] 60)) 60 #[.slice Ac m cc, .int .i64 0, .int .i64 0]).alloc (.cells #[.slice none 0 0, .int .i64 0, .int .i64 0, .bool false] 62)
      rw [hsz] at this
      exact this
    · rw [← hW7]
      have := Blk.new ((w6.alloc (.cells #[.slice Ab n cb, .int .i64 0, .int .i64 0] 60)).alloc (.cells #[.slice Ac m cc, .int .i64 0, .int .i64 0] 60)) 62 #[.slice none 0 0, .int .i64 0, .int .i64 0, .bool false]
      rw [hsz2] at this
      exact this
  rw [hW7]
  simp only [hhm, hhk, hz]
  have HRS := hide hRS
  have HLay := hide hlay
  clear hRS hlay hb67 hbw6 hW7 HC6 HB4 HR4 HS4 HO14 HO24 hsz hsz2 hhm hhk hz hlo1 hlo2
  go_loopg [15] no (fun q t W => ∃ k : Nat, k + q = no ∧ t = .int .i64 (k : Int) ∧ RS w W w.heap.size gr hm' gs hk' z A1 c1 Ab cb n bs A2 c2 Ac cc m cs)
  case atStart => exact ⟨0, by omega, rfl, unhide HRS⟩
  case round =>
    obtain ⟨k, hk, rfl, hS⟩ := hrel
    clear HRS
    by_cases hlt : k < no
    · obtain ⟨q, rfl⟩ : ∃ q, gk = q + 1 := ⟨gk - 1, by omega⟩
      obtain ⟨b, off, kd, wh, N, K, A', n', c', bs', rfl, hO⟩ := unhide HOP k hlt
      have hbel := hS.bel
      obtain ⟨J, hJ⟩ : ∃ J, off + k * 5 = J := ⟨_, rfl⟩
      rw [hJ] at hO
      have q0 : wr.cell? ⟨b, J, none⟩ = some (.int .i64 kd) := (hbel.cell (p := ⟨b, J, none⟩) hO.lt).trans hO.f0
      have q1 : wr.cell? ⟨b, J + 1, none⟩ = some (.int .i64 wh) := (hbel.cell (p := ⟨b, J + 1, none⟩) hO.lt).trans hO.f1
      have q2 : wr.cell? ⟨b, J + 2, none⟩ = some (.int .u64 (N : Int)) := (hbel.cell (p := ⟨b, J + 2, none⟩) hO.lt).trans hO.f2
      have q3 : wr.cell? ⟨b, J + 3, none⟩ = some (.int .i64 K) := (hbel.cell (p := ⟨b, J + 3, none⟩) hO.lt).trans hO.f3
      have q4 : wr.cell? ⟨b, J + 4, none⟩ = some (.slice A' n' c') := (hbel.cell (p := ⟨b, J + 4, none⟩) hO.lt).trans hO.f4
      have hk0 : (0 : Int) ≤ (k : Int) := by omega
      have hk1 : (k : Int) < (no : Int) := by omega
      have HS := hide hS
      have hK1 := hO.k1
      have hK2 := hO.k2
      have hW1 := hO.w1
      have hW2 := hO.w2
      clear hS hbel hO
      have hS0 : RS w (wr.alloc (.cells #[.int .i64 kd, .int .i64 wh, .int .u64 (N : Int), .int .i64 K, .slice A' n' c'] 45)) w.heap.size gr hm' gs hk' z A1 c1 Ab cb n bs A2 c2 Ac cc m cs := (unhide HS).below ((Below.refl _ _).alloc (Nat.le_refl _) _)
      have hX0 := Blk.new wr 45 #[.int .i64 kd, .int .i64 wh, .int .u64 (N : Int), .int .i64 K, .slice A' n' c']
      have hgz : gr < wr.heap.size ∧ hm' < wr.heap.size ∧ gs < wr.heap.size ∧ hk' < wr.heap.size ∧ z < wr.heap.size := by
        obtain ⟨⟨_, _, x1⟩, ⟨_, _, x2⟩, x3, _⟩ := unhide HS
        exact ⟨x1.P.blk.lt, x1.R.blk.lt, x2.P.blk.lt, x2.R.blk.lt, x3.lt⟩
      have hA := hide (rs_first hS0 (unhide HLay) rfl kd (.int .i64 wh) (.int .u64 (N : Int)) K (.slice A' n' c') hK2)
      have hA' := hide (rs_second hS0 (unhide HLay) rfl kd (.int .i64 wh) (.int .u64 (N : Int)) K (.slice A' n' c') hK2)
      have hT := fun W (h : RS w W w.heap.size gr hm' gs hk' z A1 c1 Ab cb n bs A2 c2 Ac cc m cs) => hide (rs_first h (unhide HLay) rfl 5 (.int .i64 0) (.int .u64 0) 0 (.slice none 0 0) (by omega))
      have hT' := fun W (h : RS w W w.heap.size gr hm' gs hk' z A1 c1 Ab cb n bs A2 c2 Ac cc m cs) => hide (rs_second h (unhide HLay) rfl 5 (.int .i64 0) (.int .u64 0) 0 (.slice none 0 0) (by omega))
      have HX0 := hide hX0
      have HGZ := hide hgz
      clear hS0 hX0 hgz
      by_cases hpar : wh.tmod 2 = 0
      rotate_left
      focus
        have hpb : (wh.tmod 2 == 0) = false := by simpa using hpar
        clear hpar
        go_wp2_with fail
        refine (unhide hA').mono ?_
        rintro e w1 ⟨rfl, hS1, hc1⟩
        have hX1 := hide (hc1.blk (unhide HX0) (fun e => by have := unhide HGZ; omega))
        have hT1 := hT' w1 hS1
        clear hc1 hS1 hA hA'
        go_wp2_with fail
        refine (unhide hT1).mono ?_
        rintro e w2 ⟨rfl, hS2, hc2⟩
        have hX2 := hc2.blk (unhide hX1) (fun e => by have := unhide HGZ; omega)
        clear hc2 hX1 hT1
      rotate_left
      focus
        have hpb : (wh.tmod 2 == 0) = true := by simpa using hpar
        clear hpar
        go_wp2_with fail
        refine (unhide hA).mono ?_
        rintro e w1 ⟨rfl, hS1, hc1⟩
        have hX1 := hide (hc1.blk (unhide HX0) (fun e => by have := unhide HGZ; omega))
        have hT1 := hT w1 hS1
        clear hc1 hS1 hA hA'
        go_wp2_with fail
        refine (unhide hT1).mono ?_
        rintro e w2 ⟨rfl, hS2, hc2⟩
        have hX2 := hc2.blk (unhide hX1) (fun e => by have := unhide HGZ; omega)
        clear hc2 hX1 hT1
      all_goals
        have hx3 : w2.cell? ⟨wr.heap.size, 3, none⟩ = some (.int .i64 K) := hX2.cell 3
        have hxf := (unhide HGZ).2.2.2.2
        have HS2 := hide hS2
        have HX2 := hide hX2
        clear hS2 hX2 HX0 HS q0 q1 q2 q3 q4
        have hN1 := fun w => hide (num_no_ (.pointer none) w (NoR.nil w))
        have hN2 := fun w => hide (text_no (.pointer none) K w (NoR.nil w))
        have hN3 := fun w => hide (raw_no (.pointer none) K w (NoR.nil w))
        have hgl := (unhide HX2).lt
        go_wp2
        go_region_held3 (fun w' => w'.cell? ⟨wr.heap.size, 3, none⟩ = some (.int .i64 K)) (first | go_keep | exact d3 | exact d4) ((first
          | (go_at_call 38; refine (unhide (hN1 _)).mono ?_; rintro e w3 ⟨rfl, rfl⟩)
          | (go_at_call 39; refine (unhide (hN2 _)).mono ?_; rintro e w3 ⟨rfl, hb3⟩
             have d3 : w3.cell? ⟨wr.heap.size, 3, none⟩ = some (.int .i64 K) := (hb3.cell (p := ⟨wr.heap.size, 3, none⟩) hgl).trans hx3
             have hgl3 : wr.heap.size < w3.heap.size := Nat.lt_of_lt_of_le hgl hb3.size
             have HB3 := hide hb3
             clear hb3)
          | (go_at_call 34; refine (unhide (hN3 _)).mono ?_; rintro e w4 ⟨rfl, hb4⟩
             have d4 : w4.cell? ⟨wr.heap.size, 3, none⟩ = some (.int .i64 K) := (hb4.cell (p := ⟨wr.heap.size, 3, none⟩) hgl3).trans d3
             have hgl4 : wr.heap.size < w4.heap.size := Nat.lt_of_lt_of_le hgl3 hb4.size
             have HB4 := hide hb4
             clear hb4)))
        have hS4 := (((unhide HS2).drewN 1).below (unhide HB3)).below (unhide HB4)
        have hz1 := hide (num_no_ (.pointer (some ⟨z, 0, none⟩)) w4 (.inr ⟨z, rfl, hS4.z⟩))
        have hz2 := hide (text_no (.pointer (some ⟨z, 0, none⟩)) K w4 (.inr ⟨z, rfl, hS4.z⟩))
        have HS4 := hide hS4
        clear hS4 HB3 HB4 HS2 HX2 hx3 hN1 hN2 hN3
        go_wp2_with (first
          | (go_at_call 38; refine (unhide hz1).mono ?_; rintro e w5 ⟨rfl, rfl⟩)
          | (go_at_call 39; refine (unhide hz2).mono ?_; rintro e w5 ⟨rfl, hb5⟩
             have d5 : w5.cell? ⟨wr.heap.size, 3, none⟩ = some (.int .i64 K) := (hb5.cell (p := ⟨wr.heap.size, 3, none⟩) hgl4).trans d4
             have hS5 := (unhide HS4).below hb5
             have hz3 := hide (raw_no (.pointer (some ⟨z, 0, none⟩)) K w5 (.inr ⟨z, rfl, hS5.z⟩))
             have HS5 := hide hS5
             clear hb5 hS5)
          | (go_at_call 34; refine (unhide hz3).mono ?_; rintro e w6 ⟨rfl, hb6⟩
             have hS6 := (unhide HS5).below hb6
             have hz4 := hide (int_no (.pointer (some ⟨z, 0, none⟩)) w6 (.inr ⟨z, rfl, hS6.z⟩))
             have HS6 := hide hS6
             clear hb6 hS6)
          | (go_at_call 40; refine (unhide hz4).mono ?_; rintro e w7 ⟨rfl, rfl⟩))
        go_roundg q
        case rel => exact ⟨k + 1, by omega, by go_num, unhide HS6⟩
        case measure => omega
    · have hS5 := hS
      have hT := hide (rs_first hS (unhide HLay) rfl 5 (.int .i64 0) (.int .u64 0) 0 (.slice none 0 0) (by omega))
      have hT' := fun W (h : RS w W w.heap.size gr hm' gs hk' z A1 c1 Ab cb n bs A2 c2 Ac cc m cs) => hide (rs_second h (unhide HLay) rfl 5 (.int .i64 0) (.int .u64 0) 0 (.slice none 0 0) (by omega))
      clear hS hS5
      go_wp2_with fail
      refine (unhide hT).mono ?_
      rintro e w1 ⟨rfl, hS1, _⟩
      have hT1 := hT' w1 hS1
      clear hS1 hT
      go_wp2_with fail
      refine (unhide hT1).mono ?_
      rintro e w2 ⟨rfl, hS2, _⟩
      have n1 := hide (int_no (.pointer none) w2 (NoR.nil _))
      have n2 := hide (at_no (.pointer none) w2 (NoR.nil _))
      have n3 := hide (left_no (.pointer none) w2 (NoR.nil _))
      have n4 := hide (err_no (.pointer none) w2 (NoR.nil _))
      have n5 := hide (end_no (.pointer none) w2 (NoR.nil _))
      have hz : NoR (.pointer (some ⟨z, 0, none⟩)) w2 := .inr ⟨z, rfl, hS2.z⟩
      have z2 := hide (at_no _ w2 hz)
      have z3 := hide (left_no _ w2 hz)
      have z4 := hide (err_no _ w2 hz)
      have z5 := hide (end_no _ w2 hz)
      have HB2 := hide hS2.bel
      clear hS2 hz hT1 hT'
      go_wp2_with (first
        | (go_at_call 40; (with_reducible refine (unhide n1).mono ?_); rintro e w7 ⟨rfl, rfl⟩)
        | (go_at_call 41; (with_reducible refine (unhide n2).mono ?_); rintro e w7 ⟨rfl, rfl⟩)
        | (go_at_call 41; (with_reducible refine (unhide z2).mono ?_); rintro e w7 ⟨rfl, rfl⟩)
        | (go_at_call 35; (with_reducible refine (unhide n3).mono ?_); rintro e w7 ⟨rfl, rfl⟩)
        | (go_at_call 35; (with_reducible refine (unhide z3).mono ?_); rintro e w7 ⟨rfl, rfl⟩)
        | (go_at_call 36; (with_reducible refine (unhide n4).mono ?_); rintro e w7 ⟨rfl, rfl⟩)
        | (go_at_call 36; (with_reducible refine (unhide z4).mono ?_); rintro e w7 ⟨rfl, rfl⟩)
        | (go_at_call 42; (with_reducible refine (unhide n5).mono ?_); rintro e w7 ⟨rfl, rfl⟩)
        | (go_at_call 42; (with_reducible refine (unhide z5).mono ?_); rintro e w7 ⟨rfl, rfl⟩))
      go_ret
      exact ⟨rfl, unhide HB2⟩
end Go.Proofs.Ytbofjboebkfjgaa
