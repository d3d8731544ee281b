/-
  Reading a column of the packed way: the walk over the Go text. Condition: fewer than 2^47 bytes, at most 65536 rows.
-/
import Derived.Test.YteambdbcjcfdeaaColRead3
namespace Go.Proofs.Yteambdbcjcfdeaa
open Go.RowKit

theorem lt_bitLen : ∀ (f x : Nat), x ≤ f → x < 2 ^ 64 → x < 2 ^ Lib.bitLen x
  | 0, x, h, _ => by obtain rfl : x = 0 := by omega
                     exact Nat.two_pow_pos _
  | f + 1, x, h, h2 => by
    by_cases h0 : x = 0
    · subst h0; exact Nat.two_pow_pos _
    · have ih := lt_bitLen f (x / 2) (by omega) (by omega)
      rw [Lib.bitLen_half x h0 h2, Nat.add_comm, Nat.pow_succ]
      omega
def rdBit (bs : List UInt8) (t : Nat) : Bool := (bs.getD (1 + t / 8) 0).toNat.testBit (t % 8)
/-- The row once i numbers, and k bits of the next one, are read. -/
def rowTo (bs : List UInt8) (n i k L : Nat) : List UInt32 := (List.range L).map fun j => UInt32.ofNat (if j < i then bsum (fun b => rdBit bs (j * n + b)) n else if j = i then bsum (fun b => rdBit bs (j * n + b)) k else 0)
theorem rowTo_len (bs : List UInt8) (n i k L : Nat) : (rowTo bs n i k L).length = L := by simp [rowTo]
theorem rowTo_at (bs : List UInt8) (n i k : Nat) {L j : Nat} (h : j < L) : (rowTo bs n i k L)[j]? = some (UInt32.ofNat (if j < i then bsum (fun b => rdBit bs (j * n + b)) n else if j = i then bsum (fun b => rdBit bs (j * n + b)) k else 0)) := by
  rw [rowTo, List.getElem?_map, List.getElem?_range h]; rfl
theorem rowTo_zero (bs : List UInt8) (n L : Nat) : rowTo bs n 0 0 L = List.replicate L 0 := by
  apply List.ext_getElem?
  intro j
  by_cases hj : j < L
  · rw [rowTo_at bs n 0 0 hj, List.getElem?_replicate, if_pos hj]
    simp [bsum]
  · rw [List.getElem?_eq_none (by rw [rowTo_len]; omega), List.getElem?_eq_none (by simpa using Nat.le_of_not_lt hj)]
theorem rowTo_next (bs : List UInt8) (n i k L : Nat) : (rowTo bs n i k L).set i (UInt32.ofNat (bsum (fun b => rdBit bs (i * n + b)) k + (if rdBit bs (i * n + k) then 2 ^ k else 0))) = rowTo bs n i (k + 1) L := by
  apply List.ext_getElem?
  intro j
  by_cases hj : j < L
  · rw [rowTo_at bs n i (k + 1) hj]
    by_cases e : i = j
    · subst e
      rw [List.getElem?_set_self (by rw [rowTo_len]; exact hj)]
      simp [bsum]
    · rw [List.getElem?_set_ne e, rowTo_at bs n i k hj]
      have e2 : ¬ j = i := fun h => e h.symm
      simp only [e2, if_false]
  · rw [List.getElem?_eq_none (by rw [List.length_set, rowTo_len]; omega), List.getElem?_eq_none (by rw [rowTo_len]; omega)]
theorem rowTo_row (bs : List UInt8) (n i L : Nat) : rowTo bs n i n L = rowTo bs n (i + 1) 0 L := by
  apply List.ext_getElem?
  intro j
  by_cases hj : j < L
  · rw [rowTo_at bs n i n hj, rowTo_at bs n (i + 1) 0 hj]
    congr 2
    by_cases h1 : j < i
    · rw [if_pos h1, if_pos (by omega)]
    · by_cases h2 : j = i
      · subst h2; rw [if_neg h1, if_pos rfl, if_pos (by omega)]
      · rw [if_neg h1, if_neg h2, if_neg (by omega)]
        by_cases h3 : j = i + 1
        · rw [if_pos h3]; rfl
        · rw [if_neg h3]
  · rw [List.getElem?_eq_none (by rw [rowTo_len]; omega), List.getElem?_eq_none (by rw [rowTo_len]; omega)]
theorem pack_bit {c : List UInt32} {t : Nat} (h : t < c.length * wideS c) : rdBit (packS c) t = bitAt c (wideS c) t := by
  have hj : t / 8 < (c.length * wideS c + 7) / 8 := by omega
  have e : (packS c).getD (1 + t / 8) 0 = UInt8.ofNat (byteTo c (wideS c) (c.length * wideS c) (t / 8)) := by
    rw [packS, List.getD_eq_getElem?_getD, show 1 + t / 8 = t / 8 + 1 by omega, List.getElem?_cons_succ, packTo_at c (wideS c) (c.length * wideS c) hj]; rfl
  have hb : ∀ (f : Nat → Bool) (k b : Nat), b < k → (bsum f k).testBit b = f b := by
    intro f k
    induction k with
    | zero => intro b hb; omega
    | succ k ih =>
      intro b hb
      rw [bsum]
      have hlt := bsum_lt f k
      have hor : bsum f k + (if f k then 2 ^ k else 0) = (if f k then 2 ^ k else 0) ||| bsum f k := by
        split
        · have := Nat.two_pow_add_eq_or_of_lt hlt 1
          rw [Nat.mul_one] at this
          rw [← this, Nat.add_comm]
        · simp
      rw [hor, Nat.testBit_or]
      by_cases e : b = k
      · subst e
        rw [Nat.testBit_lt_two_pow hlt]
        cases f b <;> simp
      · rw [ih b (by omega)]
        have : (if f k then 2 ^ k else 0).testBit b = false := by
          split
          · rw [Nat.testBit_two_pow_of_ne (fun h => e h.symm)]
          · simp
        rw [this, Bool.false_or]
  rw [rdBit, e, UInt8.toNat_ofNat', Nat.mod_eq_of_lt (byteTo_lt _ _ _ _), byteTo, hb _ 8 (t % 8) (Nat.mod_lt _ (by omega)), Nat.div_add_mod]
  simp [h]
theorem row_all {c : List UInt32} : rowTo (packS c) (wideS c) c.length 0 c.length = c := by
  apply List.ext_getElem?
  intro j
  by_cases hj : j < c.length
  · rw [rowTo_at _ _ _ _ hj, if_pos hj, List.getElem?_eq_getElem hj]
    congr 1
    have hm : c[j].toNat ≤ mx c := mx_mem (List.getElem_mem hj)
    have hlt : c[j].toNat < 2 ^ wideS c := Nat.lt_of_le_of_lt hm (lt_bitLen _ (mx c) (Nat.le_refl _) (by have := mx_lt c; omega))
    have e : bsum (fun b => rdBit (packS c) (j * wideS c + b)) (wideS c) = c[j].toNat := by
      rw [← bsum_bits c[j].toNat (wideS c) hlt]
      refine bsum_congr (fun b hb => ?_)
      have h1 : j * wideS c + b < c.length * wideS c := by
        have := Nat.mul_le_mul_right (wideS c) (show j + 1 ≤ c.length by omega)
        rw [Nat.succ_mul] at this
        omega
      have h0 : 0 < wideS c := by omega
      rw [pack_bit h1, bitAt, Nat.mul_comm, Nat.mul_add_div h0, Nat.div_eq_of_lt hb, Nat.add_zero, Nat.mul_add_mod, Nat.mod_eq_of_lt hb, List.getD_eq_getElem?_getD, List.getElem?_eq_getElem hj]
      rfl
    rw [e, UInt32.ofNat_toNat]
  · rw [List.getElem?_eq_none (by rw [rowTo_len]; omega), List.getElem?_eq_none (by omega)]
theorem unpack_val {v r Y k : Nat} (hv : v < 2 ^ k) (hk : k < 32) (hY : Y < 256) :
    Value.int IntKind.u32 (bits BinOp.or IntKind.u32 (v : Int) (bits BinOp.and IntKind.u8 ((Y : Int) / 2 ^ r) 1 % 4294967296 * 2 ^ k % 4294967296)) = uw (UInt32.ofNat (v + (if Y.testBit r then 2 ^ k else 0))) := by
  have h2 : 2 ^ k ≤ 2 ^ 31 := Nat.pow_le_pow_right (by omega) (by omega)
  have hd : Y / 2 ^ r ≤ Y := Nat.div_le_self _ _
  have e1 : ((Y : Int) / 2 ^ r) = ((Y / 2 ^ r : Nat) : Int) := by rw [Int.natCast_ediv, Int.natCast_pow]; rfl
  have e2 : bits BinOp.and IntKind.u8 ((Y / 2 ^ r : Nat) : Int) 1 = ((Y / 2 ^ r % 2 : Nat) : Int) := by
    rw [show (1 : Int) = ((1 : Nat) : Int) from rfl, u8_and_nat _ 1 (by omega) (by omega), Nat.and_one_is_mod]
  rw [e1, e2, Nat.testBit_eq_decide_div_mod_eq]
  obtain ⟨b, hb⟩ : ∃ b, Y / 2 ^ r % 2 = b := ⟨_, rfl⟩
  rw [hb]
  obtain ⟨z, hz⟩ : ∃ z, 2 ^ k = z := ⟨_, rfl⟩
  have e3 : (2 : Int) ^ k = (z : Int) := by rw [← hz, Int.natCast_pow]; rfl
  have hnat : ∀ n : Nat, n < 4294967296 → Value.int IntKind.u32 (n : Int) = uw (UInt32.ofNat n) := fun n hn => by
    rw [uw, UInt32.toNat_ofNat', Nat.mod_eq_of_lt hn]
  rw [e3]
  rcases (show b = 0 ∨ b = 1 by omega) with h | h
  · subst h
    have e0 : ((0 : Nat) : Int) % 4294967296 * (z : Int) % 4294967296 = ((0 : Nat) : Int) := by simp
    have e6 : (if decide ((0 : Nat) = 1) = true then 2 ^ k else 0) = 0 := by simp
    rw [e0, u32_or_nat v 0 (by omega) (by omega), Nat.or_zero, e6, Nat.add_zero]
    exact hnat v (by omega)
  · subst h
    have e4 : ((1 : Nat) : Int) % 4294967296 * (z : Int) % 4294967296 = (z : Int) := by omega
    have e5 : v ||| z = v + z := by
      rw [Nat.or_comm, ← hz]
      have := Nat.two_pow_add_eq_or_of_lt hv 1
      rw [Nat.mul_one] at this
      rw [← this, Nat.add_comm]
    have e6 : (if decide ((1 : Nat) = 1) = true then 2 ^ k else 0) = z := by simp [hz]
    rw [e4, u32_or_nat v z (by omega) (by omega), e5, e6]
    exact hnat _ (by omega)

theorem out_nil (w : World) (lay : List UInt32 → List UInt8) (bs : List UInt8) (rows : Nat) (h : ∀ c2, lay c2 = bs → c2.length = rows → False) : RdOut w lay bs rows (.returned (.slice none 0 0)) w :=
  ⟨_, [], rfl, World.ownsRow_nil _ _ _ _, Nat.zero_le _, Below.refl _ _, fun c2 h1 h2 => (h c2 h1 h2).elim⟩
theorem pack_form {c : List UInt32} {bs : List UInt8} {rows : Nat} (h1 : packS c = bs) (h2 : c.length = rows) : ∃ d rest, bs = UInt8.ofNat d :: rest ∧ d ≤ 32 ∧ d = wideS c ∧ bs.length = 1 + (rows * d + 7) / 8 :=
  ⟨wideS c, _, by rw [← h1, packS], wide_le c, rfl, by rw [← h1, packS_len, h2]⟩

set_option maxRecDepth 100000 in
set_option maxHeartbeats 2000000 in
theorem readPacked_any (A : Option Addr) (N cap B rows : Nat) (bs : List UInt8) (w : World) (hr : Reads w B 1 A N (bs.map bv)) (hN : N ≤ 140737488355328) (hrows : rows ≤ 65536) :
    Calls Try.prog 68 #[.slice A N cap, .int .i64 (rows : Int)] w (RdOut w packS bs rows) := by
  have hlen : bs.length = N := by have := hr.1; simpa using this
  by_cases h0 : N = 0
  · subst h0
    obtain rfl : bs = [] := List.eq_nil_of_length_eq_zero hlen
    have HOUT := hide (out_nil w packS [] rows (fun c2 h1 h2 => by obtain ⟨d, rest, e, _⟩ := pack_form h1 h2; cases e))
    clear hr
    go_enter Try.func68, Try.ntmps68
    go_wp2_with fail
    go_ret
    exact unhide HOUT
  obtain ⟨b, off, u, rfl, _, hu, hc0, hcs⟩ := hr.at0 (k := 0) (by omega)
  rw [List.getElem?_map] at hu
  obtain ⟨y0, hy0, rfl⟩ := Option.map_eq_some_iff.1 hu
  rw [Nat.add_zero] at hc0
  obtain ⟨d, hd⟩ : ∃ d, y0.toNat = d := ⟨_, rfl⟩
  have hd256 := y0.toNat_lt
  have hc0' : w.cell? ⟨b, off, none⟩ = some (.int .u8 (d : Int)) := by rw [hc0, bv, hd]
  rw [hd] at hd256
  have hN0 : ((N : Int) == 0) = false := by simpa using h0
  have hN1 : (0 : Int) < (N : Int) := by omega
  obtain ⟨p, hp⟩ : ∃ p, rows * d = p := ⟨_, rfl⟩
  have hpm : p ≤ 65536 * 256 := by rw [← hp]; exact Nat.mul_le_mul hrows (by omega)
  have hs1 : IntKind.i64.wrap ((rows : Int) * (d : Int)) = (p : Int) := by rw [← Int.natCast_mul, hp, IntWalk.i64_in _ (by omega)]
  obtain ⟨L, hL⟩ : ∃ L, (p + 7) / 8 = L := ⟨_, rfl⟩
  have hs2 : ((p : Int) + 7) / 8 = (L : Int) := by omega
  have hhead : ∀ c2, packS c2 = bs → c2.length = rows → d = wideS c2 ∧ N = 1 + L := fun c2 h1 h2 => by
    obtain ⟨d', rest, e, hd', e2, e3⟩ := pack_form h1 h2
    rw [e] at hy0
    simp only [List.getElem?_cons_zero, Option.some.injEq] at hy0
    rw [← hy0, UInt8.toNat_ofNat', Nat.mod_eq_of_lt (by omega)] at hd
    subst hd
    exact ⟨e2, by rw [← hlen, e3, hp, hL]⟩
  by_cases hb32 : d ≤ 32
  · by_cases hNL : N = 1 + L
    · have hdI : ¬ (32 : Int) < (d : Int) := by omega
      have hne : ((N : Int) != 1 + (L : Int)) = false := by simp; omega
      have HNL := Lib.hid hNL
      clear hNL
      have hmk := fun w => make_u32 w rows hrows
      obtain ⟨Z, hZ⟩ : ∃ Z : Array Value, (List.replicate rows (Value.int .u32 0)).toArray = Z := ⟨_, rfl⟩
      simp only [hZ] at hmk
      have HZ : Hid (((rowTo bs d 0 0 rows).map uw).toArray = Z) := by show _ = _; rw [rowTo_zero, ← hZ, List.map_replicate]; rfl
      have HCS := hide hcs
      have HHEAD := hide hhead
      have HP := Lib.hid hp
      have HL := Lib.hid hL
      have hr0 : (0 : Int) ≤ (rows : Int) := by omega
      have hbw : b < w.heap.size := World.block_lt_of_cell? w _ hc0'
      clear hr hcs hc0 hhead hp hL hy0 hd hZ
      go_enter Try.func68, Try.ntmps68
      go_wp2_with fail
      obtain ⟨rb, hrb⟩ : ∃ rb, w.heap.size = rb := ⟨_, rfl⟩
      obtain ⟨W1, hW1⟩ : ∃ W1, w.alloc (.cells Z 40) = W1 := ⟨_, rfl⟩
      have hbk1 : Blk W1 rb 40 ((rowTo bs d 0 0 rows).map uw).toArray := by rw [← hW1, ← hrb, HZ.out]; exact Blk.new _ _ _
      have hb1 : Below w.heap.size w W1 := by rw [← hW1]; exact (Below.refl _ _).alloc (Nat.le_refl _) _
      have HBK1 := hide hbk1
      have HB1 := hide hb1
      rw [hW1, hrb]
      clear hW1 hbk1 hb1 hmk
      go_loopg [41] rows (fun q t W => ∃ i : Nat, i + q = rows ∧ t = .int .i64 (i : Int) ∧ Blk W rb 40 ((rowTo bs d i 0 rows).map uw).toArray ∧ Chg W1 W (fun k => k = rb))
      case atStart => exact ⟨0, by omega, rfl, unhide HBK1, Chg.refl _ _⟩
      case round =>
        obtain ⟨i, hiq, rfl, hbk, hch⟩ := hrel
        by_cases hi : i < rows
        · obtain ⟨q, rfl⟩ : ∃ q, gk = q + 1 := ⟨gk - 1, by omega⟩
          have hi0 : (0 : Int) ≤ (i : Int) := by omega
          have hin : (i : Int) < (rows : Int) := by omega
          have HBK := hide hbk
          have HCH := hide hch
          clear hbk hch
          go_wp2_with fail
          obtain ⟨wo, rfl⟩ : ∃ wo : World, wo = wr := ⟨_, rfl⟩
          go_loopg [45] d (fun q t W => ∃ k : Nat, k + q = d ∧ t = .int .i64 (k : Int) ∧ Blk W rb 40 ((rowTo bs d i k rows).map uw).toArray ∧ Chg W1 W (fun k => k = rb))
          case atStart => exact ⟨0, by omega, rfl, unhide HBK, unhide HCH⟩
          case round =>
            obtain ⟨k, hkq, rfl, hbk, hch⟩ := hrel
            clear HBK HCH
            by_cases hk : k < d
            · obtain ⟨q2, rfl⟩ : ∃ q, gk = q + 1 := ⟨gk - 1, by omega⟩
              obtain ⟨m, hm⟩ : ∃ m, i * d = m := ⟨_, rfl⟩
              have hmn : m + d ≤ p := by
                rw [← hm, ← HP.out]
                have := Nat.mul_le_mul_right d (show i + 1 ≤ rows by omega)
                rw [Nat.succ_mul] at this
                exact this
              obtain ⟨t, ht⟩ : ∃ t, m + k = t := ⟨_, rfl⟩
              have hs3 : IntKind.i64.wrap ((i : Int) * (d : Int)) = (m : Int) := by rw [← Int.natCast_mul, hm, IntWalk.i64_in _ (by omega)]
              have hs4 : IntKind.i64.wrap ((m : Int) + (k : Int)) = (t : Int) := by rw [IntWalk.i64_in _ (by omega)]; omega
              obtain ⟨j, hj⟩ : ∃ j, t / 8 = j := ⟨_, rfl⟩
              obtain ⟨r, hr8⟩ : ∃ r, t % 8 = r := ⟨_, rfl⟩
              obtain ⟨J, hJ⟩ : ∃ J, 1 + j = J := ⟨_, rfl⟩
              have hs5 : (t : Int) / 8 = (j : Int) := by omega
              have hs6 : (t : Int) % 8 = (r : Int) := by omega
              have hs7 : IntKind.i64.wrap (1 + (j : Int)) = (J : Int) := by rw [IntWalk.i64_in _ (by omega)]; omega
              have hJN : J < N := by have h1 := HL.out; have h2 := HNL.out; omega
              have hs8 : IntKind.i64.wrap (j : Int) = (j : Int) := IntWalk.i64_in _ (by omega)
              have hr7 : r ≤ 7 := by omega
              obtain ⟨yb, hyb⟩ : ∃ y, bs[J]? = some y := ⟨_, List.getElem?_eq_getElem (by omega)⟩
              have hcy := unhide HCS J (bv yb) (by rw [List.getElem?_map, hyb]; rfl)
              obtain ⟨Y, hY⟩ : ∃ Y, yb.toNat = Y := ⟨_, rfl⟩
              have hYl := yb.toNat_lt
              rw [bv, hY] at hcy
              rw [hY] at hYl
              have hcy2 : wr.cell? ⟨b, off + J, none⟩ = some (.int .u8 (Y : Int)) := by
                have h1 := ((unhide HB1).cell (p := ⟨b, off + J, none⟩) hbw).trans hcy
                have hbz : b < W1.heap.size := Nat.lt_of_lt_of_le hbw (unhide HB1).size
                exact (World.cell?_of_block (hch.block b hbz (by omega))).trans h1
              obtain ⟨v, hv⟩ : ∃ v, bsum (fun b => rdBit bs (i * d + b)) k = v := ⟨_, rfl⟩
              have hvl : v < 2 ^ k := by rw [← hv]; exact bsum_lt _ _
              have hk32 : k < 32 := by omega
              have hv32 : v < 4294967296 := Nat.lt_of_lt_of_le hvl (Nat.le_trans (Nat.pow_le_pow_right (by omega) (show k ≤ 32 by omega)) (by decide))
              have hcell : wr.cell? ⟨rb, i, none⟩ = some (.int .u32 (v : Int)) := by
                rw [hbk.cell, List.getElem?_toArray, List.getElem?_map, rowTo_at bs d i k hi, if_neg (by omega), if_pos rfl, hv]
                show some (uw (UInt32.ofNat v)) = _
                rw [uw, UInt32.toNat_ofNat', Nat.mod_eq_of_lt hv32]
              have hf : wr.frozen? ⟨rb, i, none⟩ = false := hbk.frozen i
              have hbit : rdBit bs (i * d + k) = Y.testBit r := by
                rw [rdBit, hm, ht, hj, hr8, hJ, List.getD_eq_getElem?_getD, hyb]
                show yb.toNat.testBit r = _
                rw [hY]
              have hnext := rowTo_next bs d i k rows
              rw [hv, hbit] at hnext
              have HNX := Lib.hid hnext
              have hk0 : (0 : Int) ≤ (k : Int) := by omega
              have hk1 : (k : Int) < (d : Int) := by omega
              have hk31 : (k : Int) < 32 := by omega
              have hJ0 : (0 : Int) ≤ (J : Int) := by omega
              have hJI : (J : Int) < (N : Int) := by omega
              have hrr0 : (0 : Int) ≤ (r : Int) := by omega
              have hrr1 : (r : Int) ≤ 7 := by omega
              have hHb := hide hbk
              have HCH := hide hch
              clear hbk hch hnext hbit hv hyb hY hm ht hj hr8 hJ hcy
              go_wp2_with fail
              go_region
              all_goals
                have hset : Blk (wr.setCell ⟨rb, i, none⟩ (Value.int IntKind.u32 (bits BinOp.or IntKind.u32 (v : Int) (bits BinOp.and IntKind.u8 ((Y : Int) / 2 ^ r) 1 % 4294967296 * 2 ^ k % 4294967296)))).drew rb 40 ((rowTo bs d i (k + 1) rows).map uw).toArray := by
                  rw [unpack_val hvl hk32 hYl]
                  have h2 := (unhide hHb).set_ i (uw (UInt32.ofNat (v + (if Y.testBit r then 2 ^ k else 0))))
                  rw [← HNX.out, List.map_set, ← List.setIfInBounds_toArray]
                  exact h2
                have HS := hide hset
                have HCH2 := hide (((unhide HCH).set_ ⟨rb, i, none⟩ (Value.int IntKind.u32 (bits BinOp.or IntKind.u32 (v : Int) (bits BinOp.and IntKind.u8 ((Y : Int) / 2 ^ r) 1 % 4294967296 * 2 ^ k % 4294967296))) (fun _ => rfl)).drew)
                clear hset hHb HCH hcell hf hcy2
                go_wp2_with fail
                go_roundg q2
                case rel => exact ⟨k + 1, by omega, by go_num, unhide HS, unhide HCH2⟩
                case measure => omega
            · obtain rfl : d = k := by omega
              rw [rowTo_row] at hbk
              have HBK := hide hbk
              have HCH := hide hch
              clear hbk hch
              go_wp2_with fail
              go_roundg q
              case rel => exact ⟨i + 1, by omega, by go_num, unhide HBK, unhide HCH⟩
              case measure => omega
        · obtain rfl : rows = i := by omega
          have ho : wr.ownsRow rb 40 1 (.slice (some ⟨rb, 0, none⟩) rows rows) rows ((rowTo bs d rows 0 rows).map uw) :=
            ⟨by simp [rowTo_len], .inr ⟨rb, rows, _, rfl, Nat.le_refl _, hbk, Nat.le_refl _, by simp only [maxLen]; omega, by simp [rowTo_len], by rw [Nat.mul_one, List.toList_toArray, List.take_of_length_le (by simp [rowTo_len])]⟩⟩
          have HO := hide ho
          have HB := hide ((unhide HB1).trans (hch.below (unhide HB1).size (fun i hi e => by omega)))
          have HFIN : Hid (∀ c2, packS c2 = bs → c2.length = rows → rowTo bs d rows 0 rows = c2) := fun c2 h1 h2 => by
            have h3 := (unhide HHEAD c2 h1 h2).1
            rw [← h1, h3, ← h2]
            exact row_all
          clear ho hbk hch
          go_wp2_with fail
          go_ret
          refine ⟨_, rowTo bs d rows 0 rows, rfl, ?_, by rw [rowTo_len]; exact Nat.le_refl _, unhide HB, unhide HFIN⟩
          rw [rowTo_len]
          exact (unhide HO).base (by omega)
    · have HOUT := hide (out_nil w packS bs rows (fun c2 h1 h2 => hNL (hhead c2 h1 h2).2))
      have hdI : ¬ (32 : Int) < (d : Int) := by omega
      have hne : ((N : Int) != 1 + (L : Int)) = true := by simp; omega
      clear hr hcs hc0 hhead hp hL hy0 hd
      go_enter Try.func68, Try.ntmps68
      go_wp2_with fail
      go_ret
      exact unhide HOUT
  · have HOUT := hide (out_nil w packS bs rows (fun c2 h1 h2 => by have h3 := (hhead c2 h1 h2).1; have := wide_le c2; omega))
    have hdI : (32 : Int) < (d : Int) := by omega
    clear hr hcs hc0 hhead hp hL hy0 hd
    go_enter Try.func68, Try.ntmps68
    go_wp2_with fail
    go_ret
    exact unhide HOUT
end Go.Proofs.Yteambdbcjcfdeaa
