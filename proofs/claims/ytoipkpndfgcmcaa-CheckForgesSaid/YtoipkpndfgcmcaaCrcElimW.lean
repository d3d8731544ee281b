/-
  The document's Forge: the walk. Condition: fewer than 2^47 bytes.
-/
import Derived.RegionTactic
import Derived.ChangeAlike
import Derived.Deep.RegionHeld3
import Derived.Deep.CutRange
import Derived.Deep.CutBlock
import Derived.Deep.DeepCutAuto
import Derived.Test.YtoipkpndfgcmcaaCrcElim
import Derived.Test.YtoipkpndfgcmcaaCheckForgedW
namespace Go.Proofs.Ytoipkpndfgcmcaa
open Go.RowKit

def putAt (z : Nat → Nat) (i v : Nat) : Nat → Nat := fun j => if j = i then v else z j
theorem row32_put (z : Nat → Nat) (i v : Nat) : (row32 z).setIfInBounds i (.int .u32 (v : Int)) = row32 (putAt z i v) := by
  apply Array.ext_getElem?
  intro j
  rw [Array.getElem?_setIfInBounds]
  have h1 := row32_size z
  have h2 := row32_size (putAt z i v)
  by_cases hj : j < 32
  · by_cases he : i = j
    · subst he
      rw [if_pos rfl, if_pos (by omega), row32_at hj]
      simp [putAt]
    · have : ¬ j = i := by omega
      rw [if_neg he, row32_at hj, row32_at hj]
      simp [putAt, this]
  · by_cases he : i = j
    · subst he
      rw [if_pos rfl, if_neg (by omega), Array.getElem?_eq_none (by omega)]
    · rw [if_neg he, Array.getElem?_eq_none (by omega), Array.getElem?_eq_none (by omega)]
/-- What the document's Forge has in memory: the bytes, the columns, what they are made of. -/
structure EM (w wr : World) (g n c gc gm : Nat) (T : List UInt8) (z m : Nat → Nat) : Prop where
  own : wr.ownsRow w.heap.size 5 1 (.slice (some ⟨g, 0, none⟩) n c) n (T.map bv)
  col : Blk wr gc 75 (row32 z)
  made : Blk wr gm 75 (row32 m)
  bel : Below w.heap.size w wr
  lo : w.heap.size ≤ g
  gc_ : g < gc
  gm_ : gc < gm
section
variable {w wr : World} {g n c gc gm : Nat} {T : List UInt8} {z m : Nat → Nat}
theorem EM.chg (h : EM w wr g n c gc gm T z m) {w' : World} {S : Nat → Prop} (hc : Chg wr w' S) (hg : ¬ S g) (h1 : ¬ S gc) (h2 : ¬ S gm) (hS : ∀ i, i < w.heap.size → ¬ S i) : EM w w' g n c gc gm T z m :=
  ⟨hc.own h.own (fun i hi => by
      obtain rfl : g = i := by simpa [Value.ownBlock] using hi
      exact hg), hc.blk h.col h1, hc.blk h.made h2, h.bel.trans (hc.below h.bel.size hS), h.lo, h.gc_, h.gm_⟩
theorem EM.drewN (h : EM w wr g n c gc gm T z m) (k : Nat) : EM w (wr.drewN k) g n c gc gm T z m := ⟨h.own, h.col.drewN k, h.made.drewN k, below_drewN h.bel k, h.lo, h.gc_, h.gm_⟩
theorem EM.tset (h : EM w wr g n c gc gm T z m) (J : Nat) (v : UInt8) : EM w (wr.setCell ⟨g, J, none⟩ (bv v)) g n c gc gm (T.set J v) z m :=
  ⟨by rw [List.map_set]; exact (h.own.stored J (bv v)).1, h.col.far (p := ⟨g, J, none⟩) (fun e => by have := h.gc_; simp at e; omega) _, h.made.far (p := ⟨g, J, none⟩) (fun e => by have := h.gc_; have := h.gm_; simp at e; omega) _,
    h.bel.setCell (p := ⟨g, J, none⟩) h.lo _, h.lo, h.gc_, h.gm_⟩
theorem EM.cset (h : EM w wr g n c gc gm T z m) (i v : Nat) : EM w (wr.setCell ⟨gc, i, none⟩ (.int .u32 (v : Int))) g n c gc gm T (putAt z i v) m :=
  ⟨(Chg.of_set wr ⟨gc, i, none⟩ _).own h.own (fun k hk e => by
      obtain rfl : g = k := by simpa [Value.ownBlock] using hk
      have := h.gc_
      simp at e
      omega),
    row32_put z i v ▸ h.col.set_ i _, h.made.far (p := ⟨gc, i, none⟩) (fun e => by have := h.gm_; simp at e; omega) _, h.bel.setCell (p := ⟨gc, i, none⟩) (by have := h.lo; have := h.gc_; simp; omega) _, h.lo, h.gc_, h.gm_⟩
theorem EM.mset (h : EM w wr g n c gc gm T z m) (i v : Nat) : EM w (wr.setCell ⟨gm, i, none⟩ (.int .u32 (v : Int))) g n c gc gm T z (putAt m i v) :=
  ⟨(Chg.of_set wr ⟨gm, i, none⟩ _).own h.own (fun k hk e => by
      obtain rfl : g = k := by simpa [Value.ownBlock] using hk
      have := h.gc_
      have := h.gm_
      simp at e
      omega),
    h.col.far (p := ⟨gm, i, none⟩) (fun e => by have := h.gm_; simp at e; omega) _, row32_put m i v ▸ h.made.set_ i _, h.bel.setCell (p := ⟨gm, i, none⟩) (by have := h.lo; have := h.gc_; have := h.gm_; simp; omega) _, h.lo, h.gc_, h.gm_⟩
theorem EM.tcell (h : EM w wr g n c gc gm T z m) {J : Nat} (hJ : J < T.length) : ∃ d, wr.cell? ⟨g, J, none⟩ = some (bv d) ∧ wr.frozen? ⟨g, J, none⟩ = false := by
  have hl : T.length = n := by have := h.own.1; simpa using this
  refine ⟨T[J], ?_, h.own.frozenAt J⟩
  rw [h.own.cellAt J (by omega), List.getElem?_map, List.getElem?_eq_getElem hJ]
  rfl
theorem EM.ccell (h : EM w wr g n c gc gm T z m) {i : Nat} (hi : i < 32) : wr.cell? ⟨gc, i, none⟩ = some (.int .u32 (z i : Nat)) ∧ wr.frozen? ⟨gc, i, none⟩ = false := ⟨by rw [h.col.cell, row32_at hi], h.col.frozen i⟩
theorem EM.mcell (h : EM w wr g n c gc gm T z m) {i : Nat} (hi : i < 32) : wr.cell? ⟨gm, i, none⟩ = some (.int .u32 (m i : Nat)) ∧ wr.frozen? ⟨gm, i, none⟩ = false := ⟨by rw [h.made.cell, row32_at hi], h.made.frozen i⟩
theorem EM.congr (h : EM w wr g n c gc gm T z m) {T' : List UInt8} {z' m' : Nat → Nat} (hT : T = T') (hz : row32 z = row32 z') (hm : row32 m = row32 m') : EM w wr g n c gc gm T' z' m' := by
  subst hT
  exact ⟨h.own, hz ▸ h.col, hm ▸ h.made, h.bel, h.lo, h.gc_, h.gm_⟩
end
theorem row32_congr {z z' : Nat → Nat} (h : ∀ i, i < 32 → z i = z' i) : row32 z = row32 z' := congrArg List.toArray (List.map_congr_left fun i hi => by rw [h i (List.mem_range.1 hi)])
theorem put_upto {z : Nat → Nat} {k v : Nat} (hv : v = z k) : putAt (upto z k) k v = upto z (k + 1) := by
  funext i
  unfold putAt upto
  by_cases hi : i = k
  · subst hi; simp [hv]
  · have : i < k + 1 ↔ i < k := by omega
    simp only [hi, this, if_false]

theorem swp_put (z : Nat → Nat) (k P : Nat) : putAt (putAt z k (z P)) P (z k) = swp z k P := by
  funext i
  unfold putAt swp
  by_cases h1 : i = P <;> by_cases h2 : i = k
  · rw [if_pos h1, if_pos h2, ← h1, ← h2]
  · rw [if_pos h1, if_neg h2, if_pos h1]
  · rw [if_neg h1, if_pos h2, if_pos h2]
  · rw [if_neg h1, if_neg h2, if_neg h2, if_neg h1]
theorem at4_over {bs : List UInt8} {p q r : Nat} (h : p + 4 ≤ bs.length) : fill4 (at4 bs p q) p (le4 r) 4 = at4 bs p r := by
  have h1 : (bs.take p).length = p := by simp; omega
  unfold fill4 at4
  rw [List.take_append_of_le_length (by omega), List.take_take, Nat.min_self, List.take_of_length_le (l := le4 r) (by rw [le4_len]; omega)]
  rw [List.drop_append, h1, List.drop_eq_nil_of_le (by omega), List.nil_append, List.drop_append, List.drop_eq_nil_of_le (by rw [le4_len]; omega), le4_len, show p + 4 - p - 4 = 0 by omega]
  rfl
theorem pow_bv : ∀ I, I < 8 → Value.int .u8 ((2 : Int) ^ I % 256) = bv (UInt8.ofNat (2 ^ I))
  | 0, _ => rfl
  | 1, _ => rfl
  | 2, _ => rfl
  | 3, _ => rfl
  | 4, _ => rfl
  | 5, _ => rfl
  | 6, _ => rfl
  | 7, _ => rfl
  | _ + 8, h => absurd h (by omega)
set_option maxRecDepth 100000 in
set_option maxHeartbeats 2000000 in
theorem refForge_any (A : Option Addr) (n c B p x : Nat) (bs : List UInt8) (w : World) (hr : Reads w B 1 A n (bs.map bv)) (hn : n ≤ 140737488355328) (hx : x < U32) (hp : p + 4 ≤ n) :
    Calls Try.prog 21 #[.slice A n c, .int .i64 (p : Int), .int .u32 (x : Int)] w fun e w' => ∃ v, e = .returned (.tuple #[v, .int .i64 0]) ∧ w'.ownsRow w.heap.size 5 1 v n ((forged bs p x).map bv) ∧ Below w.heap.size w w' := by
  have hlen : bs.length = n := by have := hr.1; simpa using this
  have hd1 : decide ((p : Int) < 0) = false := by simp
  have hd2 : decide ((n : Int) - 4 < (p : Int)) = false := by simp; omega
  have HC : Hid (0 + n ≤ maxLen ∧ (0 + n) * 1 ≤ 140737488355328) := cap1 (by omega)
  have HR := hide hr
  have HX := hide hx
  clear hr
  go_enter Try.func21, Try.ntmps21
  go_wp2_with (first | (at_builtin; refine wpList_app _ rfl (.tmp 32) (.tmp 33) 29 rfl elem_u8 w.heap.size (.slice none 0 0) 0 [] rfl (World.ownsRow_nil _ _ _ _) B A n c _ rfl (unhide HR) (bv_one _) HC.out (Nat.le_refl _) ?_; intro v1 w1 hown1 hg1 hat1))
  have HB1 := hide (grownBy_below hg1 (Nat.le_refl _) (by simp [Value.ownBlock]))
  clear hg1 hat1 HR
  rw [Nat.zero_add, List.nil_append, ← fill4_zero bs p [0, 0, 0, 0]] at hown1
  obtain ⟨A1, c1, rfl⟩ := hown1.shape
  obtain ⟨g, cap, hv, hgw, hgl⟩ := hown1.form (by omega)
  injection hv with e1 e2 e3
  subst e1 e3
  go_loopg [9] 4 (fun q t wr => ∃ k : Nat, k + q = 4 ∧ t = .int .i64 (k : Int) ∧ wr.ownsRow w.heap.size 5 1 (.slice (some ⟨g, 0, none⟩) n c1) n ((fill4 bs p [0, 0, 0, 0] k).map bv) ∧ Below w.heap.size w wr)
  case atStart => exact ⟨0, rfl, rfl, hown1, unhide HB1⟩
  case round =>
    obtain ⟨k, hk, rfl, ho, hb⟩ := hrel
    clear hown1 HB1 HC
    by_cases hlt : k < 4
    · obtain ⟨q, rfl⟩ : ∃ q, gk = q + 1 := ⟨gk - 1, by omega⟩
      obtain ⟨J, hJ⟩ : ∃ N, p + k = N := ⟨_, rfl⟩
      have hsum : IntKind.i64.wrap ((p : Int) + (k : Int)) = (J : Int) := by rw [IntWalk.i64_in _ (by omega)]; omega
      have hTl : (fill4 bs p [0, 0, 0, 0] k).length = n := by rw [← hlen]; exact fill4_len (by omega) (by simp; omega)
      have hf : ([0, 0, 0, 0] : List UInt8)[k]? = some 0 := by
        match k, hlt with
        | 0, _ => rfl
        | 1, _ => rfl
        | 2, _ => rfl
        | 3, _ => rfl
      have hnx := fill4_next (bs := bs) (p := p) (k := k) (by omega) hf
      rw [hJ] at hnx
      obtain ⟨d, hd⟩ : ∃ d, (fill4 bs p [0, 0, 0, 0] k)[J]? = some d := ⟨_, List.getElem?_eq_getElem (by omega)⟩
      have hcz : wr.cell? ⟨g, J, none⟩ = some (.int .u8 (d.toNat : Int)) := by rw [ho.cellAt J (by omega), List.getElem?_map, hd]; rfl
      have hfz : wr.frozen? ⟨g, J, none⟩ = false := ho.frozenAt J
      have hJ0 : (0 : Int) ≤ (J : Int) := by omega
      have hJ1 : (J : Int) < (n : Int) := by omega
      have HZ := hide (ho.stored J (bv 0))
      have HN := Lib.hid hnx
      have HB := hide (hb.setCell (p := ⟨g, J, none⟩) hgw (bv 0))
      clear ho hb hnx hf hd hTl
      go_wp2
      go_roundg q
      case rel => exact ⟨k + 1, by omega, by go_num, by rw [← HN.out, List.map_set]; exact (unhide HZ).1, unhide HB⟩
      case measure => omega
    · obtain rfl : k = 4 := by omega
      have e4 : fill4 bs p [0, 0, 0, 0] 4 = at4 bs p 0 := by unfold fill4 at4; rw [le4_zero]; rfl
      rw [e4] at ho
      have hTl : (at4 bs p 0).length = n := by rw [← hlen]; exact at4_len _ (by omega)
      obtain ⟨T, hT⟩ : ∃ T, at4 bs p 0 = T := ⟨_, rfl⟩
      rw [hT] at ho hTl
      obtain ⟨N0, hN0⟩ : ∃ N, upd 0 T = N := ⟨_, rfl⟩
      have hN0l : N0 < U32 := hN0 ▸ upd_lt (by decide) _
      have hS := hide (refSum_any T (some ⟨g, 0, none⟩) n c1 wr.heap.size wr (Reads.of_own ho) (by omega))
      rw [hN0] at hS
      have hxor := xor_u32 x N0 hx hN0l
      obtain ⟨R, hR⟩ : ∃ R, x ^^^ N0 = R := ⟨_, rfl⟩
      rw [hR] at hxor
      have hRl : R < U32 := hR ▸ xor_lt hx hN0l
      have hglr : g < wr.heap.size := by
        obtain ⟨g', cap', hv', _, hl'⟩ := ho.form (by omega)
        injection hv' with a1 a2 a3
        injection a1 with a1
        injection a1 with a1
        rw [a1]; exact hl'
      have HO := hide ho
      have HB := hide hb
      clear ho hb e4
      go_wp2_with (go_at_call 25; refine (unhide hS).mono ?_; rintro e w2 ⟨rfl, rfl⟩)
      rw [← row32_zero]
      obtain ⟨gc, hgc⟩ : ∃ k, wr.heap.size = k := ⟨_, rfl⟩
      obtain ⟨gm, hgm⟩ : ∃ k, gc + 1 = k := ⟨_, rfl⟩
      obtain ⟨W2, hW2⟩ : ∃ W2, (wr.alloc (.cells (row32 fun _ => 0) 75)).alloc (.cells (row32 fun _ => 0) 75) = W2 := ⟨_, rfl⟩
      rw [hW2, hgc, hgm]
      obtain ⟨K, hK⟩ : ∃ K, lng bs p = K := ⟨_, rfl⟩
      have hE : EM w W2 g n c1 gc gm T (upto (fun i => sn K (2 ^ i)) 0) (upto (fun i => 2 ^ i) 0) := by
        have e0 : ∀ z, row32 (upto z 0) = row32 (fun _ => 0) := fun z => rfl
        refine ⟨?_, ?_, ?_, ?_, hgw, by omega, by omega⟩
        · rw [← hW2]; exact ((unhide HO).alloc _).alloc _
        · rw [e0, ← hW2, ← hgc]; exact (Blk.new wr _ _).alloc _
        · rw [e0, ← hW2, ← hgm, ← hgc]
          have := Blk.new (wr.alloc (.cells (row32 fun _ => 0) 75)) 75 (row32 fun _ => 0)
          rwa [World.size_alloc] at this
        · rw [← hW2]
          exact ((unhide HB).alloc (unhide HB).size _).alloc (by have := (unhide HB).size; simp; omega) _
      clear HO HB hW2
      have HT := Lib.hid hT
      have HN0 := Lib.hid hN0
      have HK := Lib.hid hK
      have HRR := Lib.hid hR
      clear hT hN0 hK hR hgc hgm hglr hgl hS
      go_loopg [14] 32 (fun q t wr => ∃ k : Nat, k + q = 32 ∧ t = .int .i64 (k : Int) ∧ EM w wr g n c1 gc gm T (upto (fun i => sn K (2 ^ i)) k) (upto (fun i => 2 ^ i) k))
      case atStart => exact ⟨0, rfl, rfl, hE⟩
      case round =>
        obtain ⟨k, hk, rfl, hE2⟩ := hrel
        clear hE
        by_cases hlt : k < 32
        · obtain ⟨q, rfl⟩ : ∃ q, gk = q + 1 := ⟨gk - 1, by omega⟩
          obtain ⟨J, hJ⟩ : ∃ J, k / 8 = J := ⟨_, rfl⟩
          obtain ⟨I, hI⟩ : ∃ I, k % 8 = I := ⟨_, rfl⟩
          obtain ⟨M, hM⟩ : ∃ M, p + J = M := ⟨_, rfl⟩
          have hI8 : I < 8 := by omega
          have hq : (k : Int) / 8 = (J : Int) := by omega
          have hm8 : (k : Int) % 8 = (I : Int) := by omega
          have hsum : IntKind.i64.wrap ((p : Int) + (J : Int)) = (M : Int) := by rw [IntWalk.i64_in _ (by omega)]; omega
          have hM0 : (0 : Int) ≤ (M : Int) := by omega
          have hM1 : (M : Int) < (n : Int) := by omega
          obtain ⟨d, hcz, hfz⟩ := hE2.tcell (J := M) (by omega)
          have HE2 := hide hE2
          clear hE2
          go_wp2_with fail
          rw [pow_bv I hI8]
          obtain ⟨W3, hW3⟩ : ∃ W, wr.setCell ⟨g, M, none⟩ (bv (UInt8.ofNat (2 ^ I))) = W := ⟨_, rfl⟩
          have hE3 : EM w W3 g n c1 gc gm (at4 bs p (2 ^ k)) (upto (fun i => sn K (2 ^ i)) k) (upto (fun i => 2 ^ i) k) := by
            rw [← hW3]
            refine ((unhide HE2).tset M (UInt8.ofNat (2 ^ I))).congr ?_ rfl rfl
            rw [← HT.out, ← hM, ← hJ, ← hI]
            exact at4_bit (by omega) hlt
          rw [hW3]
          obtain ⟨T2, hT2⟩ : ∃ T2, at4 bs p (2 ^ k) = T2 := ⟨_, rfl⟩
          rw [hT2] at hE3
          obtain ⟨u, hu⟩ : ∃ u, upd 0 T2 = u := ⟨_, rfl⟩
          have hul : u < U32 := hu ▸ upd_lt (by decide) _
          have hS := hide (refSum_any T2 (some ⟨g, 0, none⟩) n c1 W3.heap.size W3 (Reads.of_own hE3.own) (by omega))
          rw [hu] at hS
          have hv := xor_u32 u N0 hul hN0l
          obtain ⟨y, hy⟩ : ∃ y, u ^^^ N0 = y := ⟨_, rfl⟩
          rw [hy] at hv
          have hyv : y = sn K (2 ^ k) := by rw [← hy, ← hu, ← hT2, ← HN0.out, ← HT.out, ← HK.out]; exact at4_lin bs p _ (pow_lt32 hlt)
          obtain ⟨z, hz⟩ : ∃ z, 2 ^ k = z := ⟨_, rfl⟩
          have e2 : (2 : Int) ^ k % 4294967296 = (z : Int) := by
            have := pow_lt32 hlt
            unfold U32 at this
            rw [show (2 : Int) ^ k = ((2 ^ k : Nat) : Int) by simp, hz]
            omega
          have hTl2 : T2.length = n := by rw [← hT2, ← hlen]; exact at4_len _ (by omega)
          have hE4 := hE3.cset k y
          have hE5 := hE4.mset k z
          have hE6 := hE5.tset M 0
          obtain ⟨k1, k2⟩ := hE3.ccell hlt
          obtain ⟨k3, k4⟩ := hE4.mcell hlt
          obtain ⟨d5, k5, k6⟩ := hE5.tcell (J := M) (by omega)
          have HE7 := hide (hE6.congr (T' := T) (z' := upto (fun i => sn K (2 ^ i)) (k + 1)) (m' := upto (fun i => 2 ^ i) (k + 1)) (by
            rw [← hT2, ← HT.out, ← hM, ← hJ]
            exact at4_unbit (by omega) hlt) (congrArg row32 (put_upto (z := fun i => sn K (2 ^ i)) hyv)) (congrArg row32 (put_upto (z := fun i => 2 ^ i) hz.symm)))
          have hk0 : (0 : Int) ≤ (k : Int) := by omega
          have hk32 : (k : Int) < 32 := by omega
          clear hE3 hE4 hE5 hE6 hyv hz hy hu hT2 hW3 HE2 hcz hfz hTl2
          refine (unhide hS).mono ?_
          rintro e w4 ⟨rfl, rfl⟩
          go_wp2
          go_roundg q
          case rel => exact ⟨k + 1, by omega, by go_num, unhide HE7⟩
          case measure => omega
        · obtain rfl : k = 32 := by omega
          rw [show ((32 : Nat) : Int) = 32 from rfl]
          have hE3 := hE2.congr (z' := fun i => sn K (2 ^ i)) (m' := fun i => 2 ^ i) rfl (row32_all _) (row32_all _)
          clear hE2
          have hEl := elim_start K
          go_wp2
          go_loopg [15] 32 (fun q t wr => ∃ k : Nat, k + q = 32 ∧ t = .int .i64 (k : Int) ∧ ∃ z m, EM w wr g n c1 gc gm T z m ∧ Elim K k z m)
          case atStart => exact ⟨0, rfl, rfl, _, _, hE3, hEl⟩
          case round =>
            obtain ⟨k, hk, rfl, z, m, hE, hL⟩ := hrel
            clear hE3 hEl
            by_cases hlt : k < 32
            · obtain ⟨q, rfl⟩ : ∃ q, gk = q + 1 := ⟨gk - 1, by omega⟩
              have HE := hide hE
              have HL := hide hL
              clear hE hL
              obtain ⟨wo, rfl⟩ : ∃ wo : World, wo = wr := ⟨_, rfl⟩
              have hkd : decide ((k : Int) < 32) = true := by simp; omega
              go_upto_block 6 with fail
              go_cut [16, 17] (fun tp _ wi => wo = wi ∧ ∃ P : Nat, tp = .int .i64 (P : Int) ∧ k ≤ P ∧ P < 32 ∧ Hid ((z P).testBit k = true))
              case first =>
                go_wp2_with fail
                go_loopg [16, 17] (32 - k) (fun q tp ti wi => wo = wi ∧ ∃ i : Nat, k ≤ i ∧ i + q = 32 ∧ ti = .int .i64 (i : Int) ∧
                  ((tp = .int .i64 (-1) ∧ Hid (∀ j, k ≤ j → j < i → (z j).testBit k = false)) ∨ ∃ P : Nat, tp = .int .i64 (P : Int) ∧ k ≤ P ∧ P < i ∧ Hid ((z P).testBit k = true)))
                case atStart => exact ⟨rfl, k, Nat.le_refl _, by omega, rfl, .inl ⟨rfl, fun j h1 h2 => absurd h1 (by omega)⟩⟩
                case round =>
                  obtain ⟨rfl, i, hki, hiq, rfl, ⟨rfl, HN⟩ | ⟨P, rfl, hkP, hPi, HP⟩⟩ := hrel
                  · by_cases hi : i < 32
                    · obtain ⟨q2, hq2⟩ : ∃ q2, gk = q2 + 1 := ⟨gk - 1, by omega⟩
                      subst hq2
                      have hc := ((unhide HE).ccell hi).1
                      obtain ⟨zi, hzi⟩ : ∃ y, z i = y := ⟨_, rfl⟩
                      rw [hzi] at hc
                      have hi0 : (0 : Int) ≤ (i : Int) := by omega
                      have hi1 : (i : Int) < 32 := by omega
                      by_cases hbit : (zi / 2 ^ k) % 2 = 1
                      · have ht : (((zi : Int) / 2 ^ k).tmod 2 == 1) = true := by rw [tmod_bit, hbit]; rfl
                        have HP : Hid ((z i).testBit k = true) := (by rw [hzi]; exact (odd_bit _ _).1 hbit)
                        clear hbit hzi HN
                        go_wp2
                        go_roundg q2
                        case rel => exact ⟨rfl, i + 1, by omega, by omega, by go_num, .inr ⟨i, rfl, hki, by omega, HP⟩⟩
                        case measure => omega
                      · have ht : (((zi : Int) / 2 ^ k).tmod 2 == 1) = false := by
                          rw [tmod_bit, show zi / 2 ^ k % 2 = 0 by omega]
                          rfl
                        have HN' : Hid (∀ j, k ≤ j → j < i + 1 → (z j).testBit k = false) := fun j h1 h2 => by
                          by_cases hji : j = i
                          · subst hji
                            have := mt (odd_bit (z j) k).2 (by rw [hzi]; exact hbit)
                            simpa using this
                          · exact HN.out j h1 (by omega)
                        clear hbit hzi HN
                        go_wp2
                        go_roundg q2
                        case rel => exact ⟨rfl, i + 1, by omega, by omega, by go_num, .inl ⟨rfl, HN'⟩⟩
                        case measure => omega
                    · exact ((unhide HL).pivot hlt (fun j h1 h2 => HN.out j h1 (by omega))).elim
                  · have hP32 : P < 32 := by omega
                    by_cases hi : i < 32
                    all_goals
                      go_wp2
                      go_meet
                      exact ⟨rfl, P, rfl, hkP, hP32, HP⟩
              case rest =>
                obtain ⟨rfl, P, rfl, hkP, hP32, HP⟩ := hcut
                have hk0 : (0 : Int) ≤ (k : Int) := by omega
                have hk1 : (k : Int) < 32 := by omega
                have hP0 : (0 : Int) ≤ (P : Int) := by omega
                have hP1 : (P : Int) < 32 := by omega
                obtain ⟨a1, a2⟩ := (unhide HE).ccell hlt
                obtain ⟨a3, a4⟩ := (unhide HE).ccell hP32
                obtain ⟨a5, a6⟩ := ((unhide HE).cset k (z P)).ccell hP32
                have HE5 := hide ((((unhide HE).cset k (z P)).cset P (z k)).drewN 1)
                go_wp2
                go_region
                obtain ⟨W5, hW5⟩ : ∃ W5, ((wo.setCell ⟨gc, k, none⟩ (.int .u32 (z P : Nat))).setCell ⟨gc, P, none⟩ (.int .u32 (z k : Nat))).drew = W5 := ⟨_, rfl⟩
                rw [hW5]
                have HE5 : Hid (EM w W5 g n c1 gc gm T (swp z k P) m) := by
                  rw [← hW5]
                  exact ((((unhide HE).cset k (z P)).cset P (z k)).drewN 1).congr rfl (congrArg row32 (swp_put z k P)) rfl
                obtain ⟨b1, b2⟩ := (unhide HE5).mcell hlt
                obtain ⟨b3, b4⟩ := (unhide HE5).mcell hP32
                obtain ⟨b5, b6⟩ := ((unhide HE5).mset k (m P)).mcell hP32
                clear a1 a2 a3 a4 a5 a6 hW5 HE
                go_wp2
                go_region
                obtain ⟨W6, hW6⟩ : ∃ W6, ((W5.setCell ⟨gm, k, none⟩ (.int .u32 (m P : Nat))).setCell ⟨gm, P, none⟩ (.int .u32 (m k : Nat))).drew = W6 := ⟨_, rfl⟩
                rw [hW6]
                have HE6 : Hid (EM w W6 g n c1 gc gm T (swp z k P) (swp m k P)) := by
                  rw [← hW6]
                  exact ((((unhide HE5).mset k (m P)).mset P (m k)).drewN 1).congr rfl rfl (congrArg row32 (swp_put m k P))
                have HL6 := hide ((unhide HL).swap hlt hkP hP32)
                have HPb : Hid ((swp z k P k).testBit k = true) := by show _ = _; rw [swp, if_pos rfl]; exact HP.out
                clear b1 b2 b3 b4 b5 b6 hW6 HE5 HL HP
                generalize swp z k P = z6 at HE6 HL6 HPb
                generalize swp m k P = m6 at HE6 HL6
                go_wp2
                go_loopg [18] 32 (fun q t wi => ∃ i : Nat, i + q = 32 ∧ t = .int .i64 (i : Int) ∧ EM w wi g n c1 gc gm T (red z6 z6 k i) (red z6 m6 k i))
                case atStart => exact ⟨0, rfl, rfl, by rw [red_zero, red_zero]; exact unhide HE6⟩
                case round =>
                  obtain ⟨i, hiq, rfl, hE⟩ := hrel
                  clear HE6
                  by_cases hi : i < 32
                  · obtain ⟨q2, hq2⟩ : ∃ q2, gk = q2 + 1 := ⟨gk - 1, by omega⟩
                    subst hq2
                    have hi0 : (0 : Int) ≤ (i : Int) := by omega
                    have hi1 : (i : Int) < 32 := by omega
                    by_cases hik : i = k
                    · subst hik
                      rw [← red_skip (c := z6) (a := z6) (k := i) (n := i) (fun h => h.1 rfl), ← red_skip (c := z6) (a := m6) (k := i) (n := i) (fun h => h.1 rfl)] at hE
                      have HE := hide hE
                      clear hE
                      go_wp2
                      go_roundg q2
                      case rel => exact ⟨i + 1, by omega, by go_num, unhide HE⟩
                      case measure => omega
                    · have hne : ((i : Int) != (k : Int)) = true := by simp; omega
                      obtain ⟨a1, a2⟩ := hE.ccell hi
                      obtain ⟨a3, a4⟩ := hE.ccell hlt
                      rw [red_at] at a1
                      rw [red_self] at a3
                      by_cases hbit : (z6 i / 2 ^ k) % 2 = 1
                      · have ht : (((z6 i : Nat) : Int) / 2 ^ k).tmod 2 = 1 := by rw [tmod_bit, hbit]; rfl
                        have hcond : i ≠ k ∧ (z6 i).testBit k = true := ⟨hik, (odd_bit _ _).1 hbit⟩
                        have ec := red_take (c := z6) (a := z6) hcond
                        have em := red_take (c := z6) (a := m6) hcond
                        rw [red_at, red_self] at ec em
                        have x1 := xor_u32 (z6 i) (z6 k) ((unhide HL6).low hi) ((unhide HL6).low hlt)
                        have x2 := xor_u32 (m6 i) (m6 k) ((unhide HL6).small i hi) ((unhide HL6).small k hlt)
                        have HEC := Lib.hid ec
                        have HEM := Lib.hid em
                        have HE1 := hide ((hE.cset i (z6 i ^^^ z6 k)).congr (z' := red z6 z6 k (i + 1)) rfl (by rw [HEC.out]; rfl) rfl)
                        obtain ⟨zi, hzi⟩ : ∃ y, z6 i = y := ⟨_, rfl⟩
                        obtain ⟨zk, hzk⟩ : ∃ y, z6 k = y := ⟨_, rfl⟩
                        obtain ⟨mi, hmi⟩ : ∃ y, m6 i = y := ⟨_, rfl⟩
                        obtain ⟨mk, hmk⟩ : ∃ y, m6 k = y := ⟨_, rfl⟩
                        rw [hzi] at a1 ht x1 HE1
                        rw [hzk] at a3 x1 HE1
                        rw [hmi] at x2
                        rw [hmk] at x2
                        obtain ⟨yc, hyc⟩ : ∃ y, zi ^^^ zk = y := ⟨_, rfl⟩
                        obtain ⟨ym, hym⟩ : ∃ y, mi ^^^ mk = y := ⟨_, rfl⟩
                        rw [hyc] at x1 HE1
                        rw [hym] at x2
                        have HMi := Lib.hid hmi
                        have HMk := Lib.hid hmk
                        have HYm := Lib.hid hym
                        clear hE HEC ec em hcond hbit hzi hzk hmi hmk hyc hym hik
                        go_wp2
                        go_region
                        obtain ⟨W7, hW7⟩ : ∃ W7, (wr.setCell ⟨gc, i, none⟩ (.int .u32 (yc : Nat))).drew = W7 := ⟨_, rfl⟩
                        rw [hW7]
                        have HE7 : Hid (EM w W7 g n c1 gc gm T (red z6 z6 k (i + 1)) (red z6 m6 k i)) := by
                          rw [← hW7]
                          exact (unhide HE1).drewN 1
                        obtain ⟨b1, b2⟩ := (unhide HE7).mcell hi
                        obtain ⟨b3, b4⟩ := (unhide HE7).mcell hlt
                        rw [red_at, HMi.out] at b1
                        rw [red_self, HMk.out] at b3
                        clear hW7 HE1 a1 a2 a3 a4 x1
                        go_wp2
                        go_region
                        obtain ⟨W8, hW8⟩ : ∃ W8, (W7.setCell ⟨gm, i, none⟩ (.int .u32 (ym : Nat))).drew = W8 := ⟨_, rfl⟩
                        rw [hW8]
                        have HE8 : Hid (EM w W8 g n c1 gc gm T (red z6 z6 k (i + 1)) (red z6 m6 k (i + 1))) := by
                          rw [← hW8]
                          refine (((unhide HE7).mset i ym).drewN 1).congr rfl rfl ?_
                          rw [HEM.out, ← HYm.out, ← HMi.out, ← HMk.out]
                          rfl
                        clear hW8 HE7 HEM HYm HMi HMk b1 b2 b3 b4 x2
                        go_wp2
                        go_roundg q2
                        case rel => exact ⟨i + 1, by omega, by go_num, unhide HE8⟩
                        case measure => omega
                      · have ht : (((z6 i : Nat) : Int) / 2 ^ k).tmod 2 = 0 := by rw [tmod_bit, show z6 i / 2 ^ k % 2 = 0 by omega]; rfl
                        have hno : ¬ (i ≠ k ∧ (z6 i).testBit k = true) := fun h => hbit ((odd_bit _ _).2 h.2)
                        rw [← red_skip (c := z6) (a := z6) hno, ← red_skip (c := z6) (a := m6) hno] at hE
                        have HE := hide hE
                        obtain ⟨zi, hzi⟩ : ∃ y, z6 i = y := ⟨_, rfl⟩
                        rw [hzi] at a1 ht
                        clear hE hno hbit hzi hik a3 a4
                        go_wp2
                        go_roundg q2
                        case rel => exact ⟨i + 1, by omega, by go_num, unhide HE⟩
                        case measure => omega
                  · obtain rfl : i = 32 := by omega
                    have HL9 := hide ((unhide HL6).reduce hlt HPb.out)
                    have HE9 := hide hE
                    clear hE HL6
                    go_wp2
                    go_roundg q
                    case rel => exact ⟨k + 1, by omega, by go_num, _, _, unhide HE9, unhide HL9⟩
                    case measure => omega
            · obtain rfl : k = 32 := by omega
              rw [show ((32 : Nat) : Int) = 32 from rfl]
              have HE := hide hE
              have hfin := elim_forged bs p hx (by rw [HK.out]; exact hL)
              rw [HT.out, HN0.out, HRR.out] at hfin
              have hsm := hL.small
              clear hE hL
              go_wp2
              obtain ⟨wo, rfl⟩ : ∃ wo : World, wo = wr := ⟨_, rfl⟩
              go_loopg [19, 20] 32 (fun q t i wi => ∃ k o : Nat, k + q = 32 ∧ i = .int .i64 (k : Int) ∧ t = .int .u32 (o : Int) ∧ Hid (o < U32 ∧ o = thr m R k) ∧ wo = wi)
              case atStart => exact ⟨0, 0, rfl, rfl, rfl, ⟨by decide, rfl⟩, rfl⟩
              case round =>
                obtain ⟨k, o, hkq, rfl, rfl, HO, rfl⟩ := hrel
                by_cases hlt : k < 32
                · obtain ⟨q2, hq2⟩ : ∃ q2, gk = q2 + 1 := ⟨gk - 1, by omega⟩
                  subst hq2
                  obtain ⟨a1, a2⟩ := (unhide HE).mcell hlt
                  have hzk := hsm k hlt
                  have hN : thr m R (k + 1) < U32 := thr_lt hsm R (k + 1) (by omega)
                  have hT : thr m R (k + 1) = thr m R k ^^^ (if (R / 2 ^ k) % 2 = 1 then m k else 0) := rfl
                  obtain ⟨y, hy⟩ : ∃ y, m k = y := ⟨_, rfl⟩
                  rw [hy] at a1 hzk hT
                  have hk0 : (0 : Int) ≤ (k : Int) := by omega
                  have hk1 : (k : Int) < 32 := by omega
                  by_cases hbit : (R / 2 ^ k) % 2 = 1
                  · rw [if_pos hbit, ← HO.out.2] at hT
                    have hv := xor_u32 o y HO.out.1 hzk
                    rw [← hT] at hv
                    obtain ⟨v, hv'⟩ : ∃ v, thr m R (k + 1) = v := ⟨_, rfl⟩
                    rw [hv'] at hv hN
                    have HN : Hid (v < U32 ∧ v = thr m R (k + 1)) := ⟨hN, hv'.symm⟩
                    have ht : (((R : Int) / 2 ^ k).tmod 2 == 1) = true := by rw [tmod_bit, hbit]; rfl
                    clear hy hT hN hbit hv'
                    go_wp2
                    go_roundg q2
                    case rel => exact ⟨k + 1, v, by omega, by go_num, rfl, HN, rfl⟩
                    case measure => omega
                  · rw [if_neg hbit, Nat.xor_zero, ← HO.out.2] at hT
                    have HN : Hid (o < U32 ∧ o = thr m R (k + 1)) := ⟨HO.out.1, hT.symm⟩
                    have ht : (((R : Int) / 2 ^ k).tmod 2 == 1) = false := by
                      rw [tmod_bit, show R / 2 ^ k % 2 = 0 by omega]
                      rfl
                    clear hy hT hN hbit
                    go_wp2
                    go_roundg q2
                    case rel => exact ⟨k + 1, o, by omega, by go_num, rfl, HN, rfl⟩
                    case measure => omega
                · obtain rfl : k = 32 := by omega
                  rw [← HO.out.2] at hfin
                  have hQl := hfin.1
                  have HF := Lib.hid hfin.2
                  clear hfin hsm HO
                  have h4 := hide (four_any o wo)
                  go_wp2_with (go_at_call 44; refine (unhide h4).mono ?_; rintro e w9 ⟨v9, rfl, ho9, hb9⟩)
                  have hown := (Chg.of_below hb9 (fun _ => False)).own (unhide HE).own (fun _ _ h => h)
                  obtain ⟨g9, c9, hv9, hgw9, _⟩ := ho9.form (by omega)
                  have hcs : ∀ j u, ((le4 o).map bv)[j]? = some u → w9.cell? ⟨g9, j, none⟩ = some u := by
                    have := ho9.cells (g := g9) (by rw [hv9]; rfl)
                    intro j u hu
                    have h := this j u hu
                    rwa [add0, Nat.zero_add] at h
                  subst hv9
                  have hgn : g9 ≠ g := by
                    have := (unhide HE).gc_
                    have := (unhide HE).col.lt
                    omega
                  have hb9' := (unhide HE).bel.trans (hb9.mono (unhide HE).bel.size)
                  rw [← fill4_zero T p (le4 o)] at hown
                  have hl4 : (le4 o).length = 4 := le4_len o
                  obtain ⟨fs, hfs⟩ : ∃ fs, le4 o = fs := ⟨_, rfl⟩
                  rw [hfs] at hown hcs hl4
                  have hTf : fill4 T p fs 4 = forged bs p x := by
                    have hTT := HT.out
                    rw [← HF.out, ← hfs, ← hTT]
                    exact at4_over (by omega)
                  have HTF := Lib.hid hTf
                  have hcs' := hide hcs
                  clear ho9 hb9 HE hcs hTf hfs HF
                  go_loopg [22] 4 (fun q t wi => ∃ k : Nat, k + q = 4 ∧ t = .int .i64 (k : Int) ∧ wi.ownsRow w.heap.size 5 1 (.slice (some ⟨g, 0, none⟩) n c1) n ((fill4 T p fs k).map bv) ∧ Below w.heap.size w wi ∧ Hid (∀ j u, (fs.map bv)[j]? = some u → wi.cell? ⟨g9, j, none⟩ = some u))
                  case atStart => exact ⟨0, rfl, rfl, hown, hb9', hcs'⟩
                  case round =>
                    obtain ⟨k, hk, rfl, ho, hb, hcs⟩ := hrel
                    clear hown hb9' hcs'
                    by_cases hlt : k < 4
                    · obtain ⟨q2, hq2⟩ : ∃ q2, gk = q2 + 1 := ⟨gk - 1, by omega⟩
                      subst hq2
                      obtain ⟨J, hJ⟩ : ∃ N, p + k = N := ⟨_, rfl⟩
                      have hsum : IntKind.i64.wrap ((p : Int) + (k : Int)) = (J : Int) := by rw [IntWalk.i64_in _ (by omega)]; omega
                      have hTl2 : (fill4 T p fs k).length = n := by rw [← hTl]; exact fill4_len (by omega) (by omega)
                      obtain ⟨f, hf⟩ : ∃ f, fs[k]? = some f := ⟨_, List.getElem?_eq_getElem (by omega)⟩
                      have hnx := fill4_next (bs := T) (p := p) (k := k) (by omega) hf
                      rw [hJ] at hnx
                      have hcf : wr.cell? ⟨g9, k, none⟩ = some (.int .u8 (f.toNat : Int)) := unhide hcs k _ (by rw [List.getElem?_map, hf]; rfl)
                      obtain ⟨d, hd⟩ : ∃ d, (fill4 T p fs k)[J]? = some d := ⟨_, List.getElem?_eq_getElem (by omega)⟩
                      have hcz : wr.cell? ⟨g, J, none⟩ = some (.int .u8 (d.toNat : Int)) := by rw [ho.cellAt J (by omega), List.getElem?_map, hd]; rfl
                      have hfz : wr.frozen? ⟨g, J, none⟩ = false := ho.frozenAt J
                      have hJ0 : (0 : Int) ≤ (J : Int) := by omega
                      have hJ1 : (J : Int) < (n : Int) := by omega
                      have hk0 : (0 : Int) ≤ (k : Int) := by omega
                      have hk1 : (k : Int) < 4 := by omega
                      have HZ := hide (ho.stored J (bv f))
                      have HN := Lib.hid hnx
                      have HB := hide (hb.setCell (p := ⟨g, J, none⟩) hgw (bv f))
                      have HC : Hid (∀ j u, (fs.map bv)[j]? = some u → (wr.setCell ⟨g, J, none⟩ (bv f)).cell? ⟨g9, j, none⟩ = some u) := fun j u hu => cell_far (unhide hcs j u hu) hgn _
                      clear ho hb hnx hf hd hTl2 hcs
                      go_wp2
                      go_roundg q2
                      case rel => exact ⟨k + 1, by omega, by go_num, by rw [← HN.out, List.map_set]; exact (unhide HZ).1, unhide HB, HC⟩
                      case measure => omega
                    · obtain rfl : k = 4 := by omega
                      have HO := hide ho
                      have HB := hide hb
                      clear ho hb hcs
                      go_wp2
                      go_ret2
                      exact ⟨_, rfl, by rw [← HTF.out]; exact unhide HO, unhide HB⟩
end Go.Proofs.Ytoipkpndfgcmcaa
