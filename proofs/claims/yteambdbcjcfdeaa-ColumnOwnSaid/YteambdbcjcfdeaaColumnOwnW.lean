/-
  ColumnOwn: the walk over the law's text. Condition: fewer than 2^45 numbers.
-/
import Derived.Test.YteambdbcjcfdeaaColOwnM
import Derived.Test.YteambdbcjcfdeaaColAwake
namespace Go.Proofs.Yteambdbcjcfdeaa
open Go.RowKit

def U32 : Nat := 4294967296
theorem Ob.dec {W : World} {A : Option Addr} {n B : Nat} {xs : List Value} (h : Row W 40 (.slice A n n) n xs) (hl : ∀ ad, A = some ad → B ≤ ad.block) : Ob W 40 B W.heap.size (.slice A n n) n xs :=
  ⟨h, fun b hb => ⟨by cases A with
    | none => cases hb
    | some ad => cases hb; exact hl ad rfl, h.lt hb⟩⟩
theorem neq_four (a b c d : Nat) (w : World) : (binOp .neq 30 (.agg #[.int .i64 (a : Int), .int .i64 (b : Int), .int .i64 (c : Int), .int .i64 (d : Int)]) (.agg #[.int .i64 (a : Int), .int .i64 (b : Int), .int .i64 (c : Int), .int .i64 (d : Int)])).run Try.prog w = .ok (.bool false) w := by
  have h := eq_four a b c d w
  rw [run_eql_struct] at h
  rw [run_neq_struct]
  cases hr : (Op.equalIn 10000 30 (.agg #[.int .i64 (a : Int), .int .i64 (b : Int), .int .i64 (c : Int), .int .i64 (d : Int)]) (.agg #[.int .i64 (a : Int), .int .i64 (b : Int), .int .i64 (c : Int), .int .i64 (d : Int)])).run Try.prog w with
  | ok b w' => rw [hr] at h; simp [Result.andThen] at h ⊢; obtain ⟨rfl, rfl⟩ := h; exact ⟨rfl, rfl⟩
  | _ => rw [hr] at h; simp [Result.andThen] at h
theorem dec_one {bs : List UInt8} {rows : Int} {c c' : List UInt32} {e e' : Nat} (h : Dec bs rows c e) (h' : Dec bs rows c' e') : c = c' ∧ e = e' := by
  rcases h with ⟨rfl, rfl, h1⟩ | ⟨h1, h2, ⟨rfl, rfl, h3⟩ | ⟨rfl, h3, h4, h5⟩⟩
  · rcases h' with ⟨rfl, rfl, _⟩ | ⟨h1', h2', _⟩
    · exact ⟨rfl, rfl⟩
    · omega
  · rcases h' with ⟨rfl, rfl, _⟩ | ⟨_, _, ⟨rfl, rfl, _⟩ | ⟨rfl, h3', h4', _⟩⟩
    · omega
    · exact ⟨rfl, rfl⟩
    · exact absurd h4' (h3 _ h3')
  · rcases h' with ⟨rfl, rfl, _⟩ | ⟨_, _, ⟨rfl, rfl, h3'⟩ | ⟨rfl, h3', h4', _⟩⟩
    · omega
    · exact absurd h4 (h3' _ h3)
    · exact ⟨h5 _ h3' h4', rfl⟩
theorem bv_nat2 (X : Nat) (hX : X < 256) : bv (UInt8.ofNat X) = .int .u8 (X : Int) := (bv_nat X hX).symm
theorem cut_in {w : World} {B g gc n : Nat} {cs : List UInt32} {m1 m2 : UInt32} (ho : w.ownsRow B 40 1 (.slice (some ⟨g, 0, none⟩) (n + 2) gc) (n + 2) ((cs ++ [m1, m2]).map uw)) (hl : cs.length = n) : Row w 40 (.slice (some ⟨g, 0, none⟩) n gc) n (cs.map uw) := by
  have h := own_cut ho (k := n) (by omega)
  rw [← List.map_take, List.take_append_of_le_length (by omega), List.take_of_length_le (by omega)] at h
  exact Row.of_own h
theorem cut_inb {w : World} {B g gc n : Nat} {cs : List UInt8} {m1 m2 : UInt8} (ho : w.ownsRow B 5 1 (.slice (some ⟨g, 0, none⟩) (n + 2) gc) (n + 2) ((cs ++ [m1, m2]).map bv)) (hl : cs.length = n) : Row w 5 (.slice (some ⟨g, 0, none⟩) n gc) n (cs.map bv) := by
  have h := own_cut ho (k := n) (by omega)
  rw [← List.map_take, List.take_append_of_le_length (by omega), List.take_of_length_le (by omega)] at h
  exact Row.of_own h

set_option maxRecDepth 100000 in
set_option maxHeartbeats 8000000 in
theorem colOwnA (A : Option Addr) (n cap T : Nat) (cs : List UInt32) (w : World) (hr : Reads w w.heap.size 1 A n (cs.map uw)) (hT : T < 4294967296) (hn : n ≤ 1000) :
    Calls Try.prog 9 #[.slice A n cap, .int .u32 (T : Int)] w fun e w' => e = .returned (.bool true) ∧ Below w.heap.size w w' := by
  have hlen : cs.length = n := by have := hr.1; simpa using this
  have HLEN := Lib.hid hlen
  have HA := hide (awake5_any w)
  have HNum := fun x w => hide (num5_any x w)
  have HR := hide hr
  obtain ⟨g0, hg0⟩ : ∃ g, w.heap.size = g := ⟨_, rfl⟩
  clear hr hlen
  go_enter Try.func9, Try.ntmps9
  go_wp2_with fail
  refine (unhide HA).mono ?_
  rintro e w1 ⟨rfl, hb1⟩
  clear HA
  have HB := hide hb1
  clear hb1
  obtain ⟨s1, hs1⟩ : ∃ s, w1.heap.size = s := ⟨_, rfl⟩
  have HS1 := Lib.hid hs1
  have t1 : g0 ≤ s1 := by rw [← hs1, ← hg0]; exact (unhide HB).size
  have hL := hide (lent_any A n cap cs w1 (((unhide HR).below (unhide HB)).more (unhide HB).size) (by omega))
  clear hs1
  go_wp2_with fail
  refine (unhide hL).mono ?_
  rintro e w2 ⟨g, gc, rfl, hgc, _, hg, ho2, hb2⟩
  obtain ⟨s2, hs2⟩ : ∃ s, w2.heap.size = s := ⟨_, rfl⟩
  have t2 : s1 ≤ s2 := by rw [← hs2, ← HS1.out]; exact hb2.size
  have HS2 := Lib.hid hs2
  replace HB := hide ((unhide HB).trans (hb2.mono (unhide HB).size))
  have HIN := hide (cut_in ho2 HLEN.out)
  have HINF := hide (Reads.of_own ho2)
  rw [HS1.out] at hg
  have hgs : g < s2 := by rw [← hs2]; exact (unhide HIN).lt rfl
  have hE := hide (encode_any cs (some ⟨g, 0, none⟩) n gc w2.heap.size w2 (unhide HIN).reads (Nat.le_refl _) (by omega))
  clear hL ho2 hb2 hs2
  go_wp2_with fail
  refine (unhide hE).mono ?_
  rintro e w3 ⟨va, rfl, ho3, hb3⟩
  obtain ⟨Aa, ca, rfl⟩ := ho3.shape
  obtain ⟨pg, hpg⟩ : ∃ p, pageS cs = p := ⟨_, rfl⟩
  obtain ⟨L, hL⟩ : ∃ L, pg.length = L := ⟨_, rfl⟩
  have hL5 : L ≤ 5 * n + 1 := by rw [← hL, ← hpg, ← HLEN.out]; exact page_len cs
  have HPG := Lib.hid hpg
  have HLP := Lib.hid hL
  rw [hpg, hL] at ho3 ⊢
  obtain ⟨s3, hs3⟩ : ∃ s, w3.heap.size = s := ⟨_, rfl⟩
  have t3 : s2 ≤ s3 := by rw [← hs3, ← HS2.out]; exact hb3.size
  have HS3 := Lib.hid hs3
  replace HIN := hide ((unhide HIN).below hb3)
  replace HINF := hide (((unhide HINF).below hb3).more hb3.size)
  replace HB := hide ((unhide HB).trans (hb3.mono (unhide HB).size))
  have Ha := hide (Ob.made ho3)
  rw [HS2.out, hs3] at Ha
  have hE := hide (encode_any cs (some ⟨g, 0, none⟩) n gc w3.heap.size w3 (unhide HIN).reads (Nat.le_refl _) (by omega))
  clear ho3 hb3 hs3 hpg hL
  go_wp2_with fail
  refine (unhide hE).mono ?_
  rintro e w4 ⟨vb, rfl, ho4, hb4⟩
  obtain ⟨Ab, cb, rfl⟩ := ho4.shape
  rw [HPG.out, HLP.out] at ho4 ⊢
  obtain ⟨s4, hs4⟩ : ∃ s, w4.heap.size = s := ⟨_, rfl⟩
  have t4 : s3 ≤ s4 := by rw [← hs4, ← HS3.out]; exact hb4.size
  have HS4 := Lib.hid hs4
  replace Ha := hide ((unhide Ha).bel hb4)
  replace HIN := hide ((unhide HIN).below hb4)
  replace HINF := hide (((unhide HINF).below hb4).more hb4.size)
  replace HB := hide ((unhide HB).trans (hb4.mono (unhide HB).size))
  have Hb := hide (Ob.made ho4)
  rw [HS3.out, hs4] at Hb
  have hLb := hide (lentBytes_any Aa L ca pg w4 (unhide Ha).row.reads (by omega))
  clear ho4 hb4 hs4 hE
  go_wp2_with fail
  refine (unhide hLb).mono ?_
  rintro e w5 ⟨gp, gpc, rfl, hgpc, _, hgp, ho5, hb5⟩
  obtain ⟨s5, hs5⟩ : ∃ s, w5.heap.size = s := ⟨_, rfl⟩
  have t5 : s4 ≤ s5 := by rw [← hs5, ← HS4.out]; exact hb5.size
  have HS5 := Lib.hid hs5
  replace Ha := hide ((unhide Ha).bel hb5)
  replace Hb := hide ((unhide Hb).bel hb5)
  replace HIN := hide ((unhide HIN).below hb5)
  replace HINF := hide (((unhide HINF).below hb5).more hb5.size)
  replace HB := hide ((unhide HB).trans (hb5.mono (unhide HB).size))
  have HPIN := hide (cut_inb ho5 HLP.out)
  rw [HS4.out] at hgp
  have hgps : gp < s5 := by rw [← hs5]; exact (unhide HPIN).lt rfl
  have hD := hide (decode_any (some ⟨gp, 0, none⟩) L gpc w5.heap.size (n : Int) pg w5 (unhide HPIN).reads (Nat.le_refl _) (by omega) (by omega))
  clear ho5 hb5 hs5 hLb
  go_wp2_with fail
  refine (unhide hD).mono ?_
  rintro e w6 ⟨Ad, cd, kd, rfl, _, ⟨hrw, hlo⟩, hb6, hdec⟩
  obtain ⟨rfl, hdc⟩ : kd = 0 ∧ cd = cs := by
    rcases hdec with ⟨_, _, h⟩ | ⟨_, _, ⟨_, _, h⟩ | ⟨h0, _, _, h⟩⟩
    · omega
    · exact absurd HPG.out (h cs (by rw [HLEN.out, Int.toNat_natCast]))
    · exact ⟨h0, h cs (by rw [HLEN.out, Int.toNat_natCast]) HPG.out⟩
  rw [hdc, HLEN.out] at hrw
  rw [hdc, HLEN.out]
  obtain ⟨s6, hs6⟩ : ∃ s, w6.heap.size = s := ⟨_, rfl⟩
  have t6 : s5 ≤ s6 := by rw [← hs6, ← HS5.out]; exact hb6.size
  have HS6 := Lib.hid hs6
  replace Ha := hide ((unhide Ha).bel hb6)
  replace Hb := hide ((unhide Hb).bel hb6)
  replace HIN := hide ((unhide HIN).below hb6)
  replace HPIN := hide ((unhide HPIN).below hb6)
  replace HINF := hide (((unhide HINF).below hb6).more hb6.size)
  replace HB := hide ((unhide HB).trans (hb6.mono (unhide HB).size))
  have Hd := hide (Ob.dec hrw hlo)
  rw [HS5.out, hs6] at Hd
  have hD := hide (decode_any (some ⟨gp, 0, none⟩) L gpc w6.heap.size (n : Int) pg w6 (unhide HPIN).reads (Nat.le_refl _) (by omega) (by omega))
  clear hrw hlo hdec hdc hb6 hs6
  go_wp2_with fail
  refine (unhide hD).mono ?_
  rintro e w7 ⟨Af, cd, kd, rfl, _, ⟨hrw, hlo⟩, hb7, hdec⟩
  obtain ⟨rfl, hdc⟩ : kd = 0 ∧ cd = cs := by
    rcases hdec with ⟨_, _, h⟩ | ⟨_, _, ⟨_, _, h⟩ | ⟨h0, _, _, h⟩⟩
    · omega
    · exact absurd HPG.out (h cs (by rw [HLEN.out, Int.toNat_natCast]))
    · exact ⟨h0, h cs (by rw [HLEN.out, Int.toNat_natCast]) HPG.out⟩
  rw [hdc, HLEN.out] at hrw
  rw [hdc, HLEN.out]
  obtain ⟨s7, hs7⟩ : ∃ s, w7.heap.size = s := ⟨_, rfl⟩
  have t7 : s6 ≤ s7 := by rw [← hs7, ← HS6.out]; exact hb7.size
  have HS7 := Lib.hid hs7
  replace Ha := hide ((unhide Ha).bel hb7)
  replace Hb := hide ((unhide Hb).bel hb7)
  replace Hd := hide ((unhide Hd).bel hb7)
  replace HIN := hide ((unhide HIN).below hb7)
  replace HPIN := hide ((unhide HPIN).below hb7)
  replace HINF := hide (((unhide HINF).below hb7).more hb7.size)
  replace HB := hide ((unhide HB).trans (hb7.mono (unhide HB).size))
  have Hf := hide (Ob.dec hrw hlo)
  rw [HS6.out, hs7] at Hf
  clear hrw hlo hdec hdc hb7 hs7 hD
  have hA1 := alike_any Ad A n n n cap cs cs w7 w7.heap.size (unhide Hd).row.reads (((unhide HR).below (unhide HB)).more (unhide HB).size) (by omega) (Nat.le_refl _)
  rw [beq_self_eq_true] at hA1
  have HA1 := hide hA1
  clear hA1
  go_wp2_with (first
    | (go_at_call 17; refine (unhide (HNum _ _)).mono ?_; rintro e w7' ⟨rfl, rfl⟩)
    | (go_at_call 25; refine (unhide HA1).mono ?_
       rintro e w8 ⟨rfl, hb8⟩
       obtain ⟨s8, hs8⟩ : ∃ s, w8.heap.size = s := ⟨_, rfl⟩
       have t8 : s7 ≤ s8 := by rw [← hs8, ← HS7.out]; exact hb8.size
       have HS8 := Lib.hid hs8
       replace Ha := hide ((unhide Ha).bel hb8)
       replace Hb := hide ((unhide Hb).bel hb8)
       replace Hd := hide ((unhide Hd).bel hb8)
       replace Hf := hide ((unhide Hf).bel hb8)
       replace HIN := hide ((unhide HIN).below hb8)
       replace HPIN := hide ((unhide HPIN).below hb8)
       replace HINF := hide (((unhide HINF).below hb8).more hb8.size)
       replace HB := hide ((unhide HB).trans (hb8.mono (unhide HB).size))
       have hA2 := alike_any Af A n n n cap cs cs w8 w8.heap.size (unhide Hf).row.reads (((unhide HR).below (unhide HB)).more (unhide HB).size) (by omega) (Nat.le_refl _)
       rw [beq_self_eq_true] at hA2
       have HA2 := hide hA2
       clear hA2 hb8 hs8 HA1)
    | (go_at_call 25; refine (unhide HA2).mono ?_
       rintro e w9 ⟨rfl, hb9⟩
       obtain ⟨s9, hs9⟩ : ∃ s, w9.heap.size = s := ⟨_, rfl⟩
       have t9 : s8 ≤ s9 := by rw [← hs9, ← HS8.out]; exact hb9.size
       have HS9 := Lib.hid hs9
       replace Ha := hide ((unhide Ha).bel hb9)
       replace Hb := hide ((unhide Hb).bel hb9)
       replace Hd := hide ((unhide Hd).bel hb9)
       replace Hf := hide ((unhide Hf).bel hb9)
       replace HIN := hide ((unhide HIN).below hb9)
       replace HPIN := hide ((unhide HPIN).below hb9)
       replace HINF := hide (((unhide HINF).below hb9).more hb9.size)
       replace HB := hide ((unhide HB).trans (hb9.mono (unhide HB).size))
       have hK := kept5_any A g n gc n cap w9.heap.size cs cs w9 HLEN.out hgc (unhide HINF) (((unhide HR).below (unhide HB)).more (unhide HB).size) (by omega) (Nat.le_refl _)
       rw [beq_self_eq_true] at hK
       have HK := hide hK
       clear hK hb9 hs9 HA2)
    | (go_at_call 19; refine (unhide HK).mono ?_
       rintro e w10 ⟨rfl, hb10⟩
       obtain ⟨s10, hs10⟩ : ∃ s, w10.heap.size = s := ⟨_, rfl⟩
       have t10 : s9 ≤ s10 := by rw [← hs10, ← HS9.out]; exact hb10.size
       have HS10 := Lib.hid hs10
       replace Ha := hide ((unhide Ha).bel hb10)
       replace Hb := hide ((unhide Hb).bel hb10)
       replace Hd := hide ((unhide Hd).bel hb10)
       replace Hf := hide ((unhide Hf).bel hb10)
       replace HIN := hide ((unhide HIN).below hb10)
       replace HPIN := hide ((unhide HPIN).below hb10)
       replace HINF := hide (((unhide HINF).below hb10).more hb10.size)
       replace HB := hide ((unhide HB).trans (hb10.mono (unhide HB).size))
       clear hb10 hs10 HK HINF))
  obtain ⟨cs2, hcs2⟩ : ∃ c, cs = c := ⟨_, rfl⟩
  have HLEN2 : Hid (cs2.length = n) := by show _ = _; rw [← hcs2]; exact HLEN.out
  have hin := unhide HIN
  rw [hcs2] at hin
  replace HIN := hide hin
  clear hin hcs2
  have HCHL : Hid (Chg w10 w10 (fun b => b = g)) := Chg.refl _ _
  go_loopg [15] n (fun q t W => ∃ (i : Nat) (xs : List UInt32), i + q = n ∧ t = .int .i64 (i : Int) ∧ xs.length = n ∧ Row W 40 (.slice (some ⟨g, 0, none⟩) n gc) n (xs.map uw) ∧ Chg w10 W (fun b => b = g))
  case atStart => exact ⟨0, cs2, by omega, rfl, HLEN2.out, unhide HIN, unhide HCHL⟩
  case round =>
    obtain ⟨i, xs, hi, rfl, hxl, hrow, hch⟩ := hrel
    clear HIN HCHL HLEN2
    by_cases hlt : i < n
    · obtain ⟨q, rfl⟩ : ∃ q, gk = q + 1 := ⟨gk - 1, by omega⟩
      have hiI : (i : Int) < (n : Int) := by omega
      have hi0 : (0 : Int) ≤ (i : Int) := by omega
      obtain ⟨x, hx⟩ : ∃ x, xs[i]? = some x := ⟨_, List.getElem?_eq_getElem (by omega)⟩
      obtain ⟨X, hX⟩ : ∃ X, x.toNat = X := ⟨_, rfl⟩
      have hx4 : X < 4294967296 := by rw [← hX]; exact u32_lt x
      have hcell : wr.cell? ⟨g, i, none⟩ = some (.int .u32 (X : Int)) := by rw [hrow.cellAt hlt, List.getElem?_map, hx, ← hX]; rfl
      have hf : wr.frozen? ⟨g, i, none⟩ = false := hrow.frozenAt i
      obtain ⟨P, hP⟩ : ∃ P, i % 2 = P := ⟨_, rfl⟩
      have a1 : (i : Int) % 2 = (P : Int) := by omega
      have a2 : IntKind.u32.wrap (P : Int) = (P : Int) := by rw [IntWalk.u32_in _ (by omega)]
      obtain ⟨Y, hY⟩ : ∃ Y, (X + T) % 4294967296 = Y := ⟨_, rfl⟩
      have a4 : IntKind.u32.wrap ((X : Int) + (T : Int)) = (Y : Int) := by rw [IntKind.wrap_u32]; omega
      obtain ⟨Z, hZ⟩ : ∃ Z, (Y + P) % 4294967296 = Z := ⟨_, rfl⟩
      have a5 : IntKind.u32.wrap ((Y : Int) + (P : Int)) = (Z : Int) := by rw [IntKind.wrap_u32]; omega
      have hZ4 : Z < 4294967296 := by omega
      clear hP hY hZ
      have hst := hrow.store i (.int .u32 (Z : Int))
      rw [← uw_nat2 Z hZ4, ← List.map_set, uw_nat2 Z hZ4] at hst
      have HST := hide hst
      have HCH2 := hide (hch.set_ ⟨g, i, none⟩ (.int .u32 (Z : Int)) (fun _ => rfl))
      have HXL := Lib.hid hxl
      clear hrow hch hst hx hX hxl hZ4
      go_wp2_with fail
      go_roundg q
      case rel => exact ⟨i + 1, xs.set i (UInt32.ofNat Z), by omega, by go_num, by rw [List.length_set]; exact HXL.out, unhide HST, unhide HCH2⟩
      case measure => omega
    · obtain rfl : n = i := by omega
      obtain ⟨cs2, hcs⟩ : ∃ c, xs = c := ⟨_, rfl⟩
      rw [hcs] at hxl hrow
      clear hcs
      have HLEN2 := Lib.hid hxl
      have HIN := hide hrow
      obtain ⟨w11, hw11⟩ : ∃ w, wr = w := ⟨_, rfl⟩
      rw [hw11] at hch HIN ⊢
      clear hw11
      obtain ⟨s11, hs11⟩ : ∃ s, w11.heap.size = s := ⟨_, rfl⟩
      have t11 : s10 ≤ s11 := by rw [← hs11, ← HS10.out]; exact hch.size
      have HS11 := Lib.hid hs11
      replace Ha := hide ((unhide Ha).chg hch (fun b h1 h2 e => by omega))
      replace Hb := hide ((unhide Hb).chg hch (fun b h1 h2 e => by omega))
      replace Hd := hide ((unhide Hd).chg hch (fun b h1 h2 e => by omega))
      replace Hf := hide ((unhide Hf).chg hch (fun b h1 h2 e => by omega))
      replace HPIN := hide ((unhide HPIN).chg hch (fun b hb e => by cases hb; have e2 : gp = g := e; omega))
      replace HB := hide ((unhide HB).trans (hch.below (unhide HB).size (fun i hi e => by omega)))
      clear hrow hch hxl hs11
      have hE := hide (encode_any cs2 (some ⟨g, 0, none⟩) n gc w11.heap.size w11 (unhide HIN).reads (Nat.le_refl _) (by omega))
      go_wp2_with fail
      refine (unhide hE).mono ?_
      rintro e w12 ⟨vx, rfl, ho12, hb12⟩
      obtain ⟨Ax, cx, rfl⟩ := ho12.shape
      obtain ⟨pg2, hpg2⟩ : ∃ p, pageS cs2 = p := ⟨_, rfl⟩
      obtain ⟨L2, hL2⟩ : ∃ L, pg2.length = L := ⟨_, rfl⟩
      have hL25 : L2 ≤ 5 * n + 1 := by rw [← hL2, ← hpg2, ← HLEN2.out]; exact page_len cs2
      have HPG2 := Lib.hid hpg2
      have HLP2 := Lib.hid hL2
      rw [hpg2, hL2] at ho12 ⊢
      obtain ⟨s12, hs12⟩ : ∃ s, w12.heap.size = s := ⟨_, rfl⟩
      have t12 : s11 ≤ s12 := by rw [← hs12, ← HS11.out]; exact hb12.size
      have HS12 := Lib.hid hs12
      replace Ha := hide ((unhide Ha).bel hb12)
      replace Hb := hide ((unhide Hb).bel hb12)
      replace Hd := hide ((unhide Hd).bel hb12)
      replace Hf := hide ((unhide Hf).bel hb12)
      replace HIN := hide ((unhide HIN).below hb12)
      replace HPIN := hide ((unhide HPIN).below hb12)
      replace HB := hide ((unhide HB).trans (hb12.mono (unhide HB).size))
      have Hx := hide (Ob.made ho12)
      rw [HS11.out, hs12] at Hx
      have hL := hide (lent_any (some ⟨g, 0, none⟩) n gc cs2 w12 (unhide HIN).reads (by omega))
      clear ho12 hb12 hs12 hpg2 hL2 hE
      go_wp2_with fail
      refine (unhide hL).mono ?_
      rintro e w13 ⟨g13, gc13, rfl, _, _, _, ho13, hb13⟩
      have hr13 := (cut_in ho13 HLEN2.out).reads
      obtain ⟨s13, hs13⟩ : ∃ s, w13.heap.size = s := ⟨_, rfl⟩
      have t13 : s12 ≤ s13 := by rw [← hs13, ← HS12.out]; exact hb13.size
      have HS13 := Lib.hid hs13
      replace Ha := hide ((unhide Ha).bel hb13)
      replace Hb := hide ((unhide Hb).bel hb13)
      replace Hd := hide ((unhide Hd).bel hb13)
      replace Hf := hide ((unhide Hf).bel hb13)
      replace Hx := hide ((unhide Hx).bel hb13)
      replace HIN := hide ((unhide HIN).below hb13)
      replace HPIN := hide ((unhide HPIN).below hb13)
      replace HB := hide ((unhide HB).trans (hb13.mono (unhide HB).size))
      have hE := hide (encode_any cs2 (some ⟨g13, 0, none⟩) n gc13 w13.heap.size w13 hr13 (Nat.le_refl _) (by omega))
      clear ho13 hb13 hs13 hr13 hL
      go_wp2_with fail
      refine (unhide hE).mono ?_
      rintro e w14 ⟨vy, rfl, ho14, hb14⟩
      obtain ⟨Ay, cy, rfl⟩ := ho14.shape
      rw [HPG2.out, HLP2.out] at ho14 ⊢
      obtain ⟨s14, hs14⟩ : ∃ s, w14.heap.size = s := ⟨_, rfl⟩
      have t14 : s13 ≤ s14 := by rw [← hs14, ← HS13.out]; exact hb14.size
      have HS14 := Lib.hid hs14
      replace Ha := hide ((unhide Ha).bel hb14)
      replace Hb := hide ((unhide Hb).bel hb14)
      replace Hd := hide ((unhide Hd).bel hb14)
      replace Hf := hide ((unhide Hf).bel hb14)
      replace Hx := hide ((unhide Hx).bel hb14)
      replace HIN := hide ((unhide HIN).below hb14)
      replace HPIN := hide ((unhide HPIN).below hb14)
      replace HB := hide ((unhide HB).trans (hb14.mono (unhide HB).size))
      have Hy := hide (Ob.made ho14)
      rw [HS13.out, hs14] at Hy
      clear ho14 hb14 hs14 hE
      obtain ⟨q0, hq0⟩ : ∃ s, (plainS cs2).length = s := ⟨_, rfl⟩
      obtain ⟨q1, hq1⟩ : ∃ s, (deltaS cs2).length = s := ⟨_, rfl⟩
      obtain ⟨q2, hq2⟩ : ∃ s, (runS cs2).length = s := ⟨_, rfl⟩
      obtain ⟨q3, hq3⟩ : ∃ s, (packS cs2).length = s := ⟨_, rfl⟩
      obtain ⟨qw, hqw⟩ : ∃ s, wayS cs2 = s := ⟨_, rfl⟩
      have HEQ := hide (And.intro hq0 (And.intro hq1 (And.intro hq2 (And.intro hq3 hqw))))
      clear hq0 hq1 hq2 hq3 hqw
      have hneq := neq_four q0 q1 q2 q3
      have hSm := same5_any Ax Ay L2 cx L2 cy pg2 pg2 w14 w14.heap.size (unhide Hx).row.reads (unhide Hy).row.reads (by omega) (Nat.le_refl _)
      rw [beq_self_eq_true] at hSm
      have HSm := hide hSm
      clear hSm
      go_wp2_with (first
        | (go_at_call 18; refine (unhide HSm).mono ?_
           rintro e w15 ⟨rfl, hb15⟩
           obtain ⟨s15, hs15⟩ : ∃ s, w15.heap.size = s := ⟨_, rfl⟩
           have t15 : s14 ≤ s15 := by rw [← hs15, ← HS14.out]; exact hb15.size
           have HS15 := Lib.hid hs15
           replace Ha := hide ((unhide Ha).bel hb15)
           replace Hb := hide ((unhide Hb).bel hb15)
           replace Hd := hide ((unhide Hd).bel hb15)
           replace Hf := hide ((unhide Hf).bel hb15)
           replace Hx := hide ((unhide Hx).bel hb15)
           replace Hy := hide ((unhide Hy).bel hb15)
           replace HIN := hide ((unhide HIN).below hb15)
           replace HPIN := hide ((unhide HPIN).below hb15)
           replace HB := hide ((unhide HB).trans (hb15.mono (unhide HB).size))
           have hC := sizes_any cs2 (some ⟨g, 0, none⟩) n gc w15.heap.size w15 (unhide HIN).reads (Nat.le_refl _) (by omega)
           rw [(unhide HEQ).1, (unhide HEQ).2.1, (unhide HEQ).2.2.1, (unhide HEQ).2.2.2.1] at hC
           have HC15 := hide hC
           clear hC hb15 hs15 HSm)
        | (go_at_call 13; refine (unhide HC15).mono ?_
           rintro e w16 ⟨rfl, hb16⟩
           obtain ⟨s16, hs16⟩ : ∃ s, w16.heap.size = s := ⟨_, rfl⟩
           have t16 : s15 ≤ s16 := by rw [← hs16, ← HS15.out]; exact hb16.size
           have HS16 := Lib.hid hs16
           replace Ha := hide ((unhide Ha).bel hb16)
           replace Hb := hide ((unhide Hb).bel hb16)
           replace Hd := hide ((unhide Hd).bel hb16)
           replace Hf := hide ((unhide Hf).bel hb16)
           replace Hx := hide ((unhide Hx).bel hb16)
           replace Hy := hide ((unhide Hy).bel hb16)
           replace HIN := hide ((unhide HIN).below hb16)
           replace HPIN := hide ((unhide HPIN).below hb16)
           replace HB := hide ((unhide HB).trans (hb16.mono (unhide HB).size))
           have HL16 := hide (lent_any (some ⟨g, 0, none⟩) n gc cs2 w16 (unhide HIN).reads (by omega))
           clear hb16 hs16 HC15)
        | (go_at_call 10; refine (unhide HL16).mono ?_
           rintro e w17 ⟨gl17, gcl17, rfl, _, _, _, hol17, hb17⟩
           have hrl17 := (cut_in hol17 HLEN2.out).reads
           obtain ⟨s17, hs17⟩ : ∃ s, w17.heap.size = s := ⟨_, rfl⟩
           have t17 : s16 ≤ s17 := by rw [← hs17, ← HS16.out]; exact hb17.size
           have HS17 := Lib.hid hs17
           replace Ha := hide ((unhide Ha).bel hb17)
           replace Hb := hide ((unhide Hb).bel hb17)
           replace Hd := hide ((unhide Hd).bel hb17)
           replace Hf := hide ((unhide Hf).bel hb17)
           replace Hx := hide ((unhide Hx).bel hb17)
           replace Hy := hide ((unhide Hy).bel hb17)
           replace HIN := hide ((unhide HIN).below hb17)
           replace HPIN := hide ((unhide HPIN).below hb17)
           replace HB := hide ((unhide HB).trans (hb17.mono (unhide HB).size))
           have hC := sizes_any cs2 (some ⟨gl17, 0, none⟩) n gcl17 w17.heap.size w17 hrl17 (Nat.le_refl _) (by omega)
           rw [(unhide HEQ).1, (unhide HEQ).2.1, (unhide HEQ).2.2.1, (unhide HEQ).2.2.2.1] at hC
           have HC17 := hide hC
           clear hC
           clear hb17 hs17 hol17 hrl17 HL16)
        | (go_at_call 13; refine (unhide HC17).mono ?_
           rintro e w18 ⟨rfl, hb18⟩
           obtain ⟨s18, hs18⟩ : ∃ s, w18.heap.size = s := ⟨_, rfl⟩
           have t18 : s17 ≤ s18 := by rw [← hs18, ← HS17.out]; exact hb18.size
           have HS18 := Lib.hid hs18
           replace Ha := hide ((unhide Ha).bel hb18)
           replace Hb := hide ((unhide Hb).bel hb18)
           replace Hd := hide ((unhide Hd).bel hb18)
           replace Hf := hide ((unhide Hf).bel hb18)
           replace Hx := hide ((unhide Hx).bel hb18)
           replace Hy := hide ((unhide Hy).bel hb18)
           replace HIN := hide ((unhide HIN).below hb18)
           replace HPIN := hide ((unhide HPIN).below hb18)
           replace HB := hide ((unhide HB).trans (hb18.mono (unhide HB).size))
           have hC := way_any cs2 (some ⟨g, 0, none⟩) n gc w18.heap.size w18 (unhide HIN).reads (Nat.le_refl _) (by omega)
           rw [(unhide HEQ).2.2.2.2] at hC
           have HC18 := hide hC
           clear hC
           clear hb18 hs18 HC17)
        | (go_at_call 15; refine (unhide HC18).mono ?_
           rintro e w19 ⟨rfl, hb19⟩
           obtain ⟨s19, hs19⟩ : ∃ s, w19.heap.size = s := ⟨_, rfl⟩
           have t19 : s18 ≤ s19 := by rw [← hs19, ← HS18.out]; exact hb19.size
           have HS19 := Lib.hid hs19
           replace Ha := hide ((unhide Ha).bel hb19)
           replace Hb := hide ((unhide Hb).bel hb19)
           replace Hd := hide ((unhide Hd).bel hb19)
           replace Hf := hide ((unhide Hf).bel hb19)
           replace Hx := hide ((unhide Hx).bel hb19)
           replace Hy := hide ((unhide Hy).bel hb19)
           replace HIN := hide ((unhide HIN).below hb19)
           replace HPIN := hide ((unhide HPIN).below hb19)
           replace HB := hide ((unhide HB).trans (hb19.mono (unhide HB).size))
           have HL19 := hide (lent_any (some ⟨g, 0, none⟩) n gc cs2 w19 (unhide HIN).reads (by omega))
           clear hb19 hs19 HC18)
        | (go_at_call 10; refine (unhide HL19).mono ?_
           rintro e w20 ⟨gl20, gcl20, rfl, _, _, _, hol20, hb20⟩
           have hrl20 := (cut_in hol20 HLEN2.out).reads
           obtain ⟨s20, hs20⟩ : ∃ s, w20.heap.size = s := ⟨_, rfl⟩
           have t20 : s19 ≤ s20 := by rw [← hs20, ← HS19.out]; exact hb20.size
           have HS20 := Lib.hid hs20
           replace Ha := hide ((unhide Ha).bel hb20)
           replace Hb := hide ((unhide Hb).bel hb20)
           replace Hd := hide ((unhide Hd).bel hb20)
           replace Hf := hide ((unhide Hf).bel hb20)
           replace Hx := hide ((unhide Hx).bel hb20)
           replace Hy := hide ((unhide Hy).bel hb20)
           replace HIN := hide ((unhide HIN).below hb20)
           replace HPIN := hide ((unhide HPIN).below hb20)
           replace HB := hide ((unhide HB).trans (hb20.mono (unhide HB).size))
           have hC := way_any cs2 (some ⟨gl20, 0, none⟩) n gcl20 w20.heap.size w20 hrl20 (Nat.le_refl _) (by omega)
           rw [(unhide HEQ).2.2.2.2] at hC
           have HC20 := hide hC
           clear hC
           clear hb20 hs20 hol20 hrl20 HL19)
        | (go_at_call 15; refine (unhide HC20).mono ?_
           rintro e w21 ⟨rfl, hb21⟩
           obtain ⟨s21, hs21⟩ : ∃ s, w21.heap.size = s := ⟨_, rfl⟩
           have t21 : s20 ≤ s21 := by rw [← hs21, ← HS20.out]; exact hb21.size
           have HS21 := Lib.hid hs21
           replace Ha := hide ((unhide Ha).bel hb21)
           replace Hb := hide ((unhide Hb).bel hb21)
           replace Hd := hide ((unhide Hd).bel hb21)
           replace Hf := hide ((unhide Hf).bel hb21)
           replace Hx := hide ((unhide Hx).bel hb21)
           replace Hy := hide ((unhide Hy).bel hb21)
           replace HIN := hide ((unhide HIN).below hb21)
           replace HPIN := hide ((unhide HPIN).below hb21)
           replace HB := hide ((unhide HB).trans (hb21.mono (unhide HB).size))
           have hC := alike_any Ad A n n n cap cs cs w21 w21.heap.size (unhide Hd).row.reads (((unhide HR).below (unhide HB)).more (unhide HB).size) (by omega) (Nat.le_refl _)
           rw [beq_self_eq_true] at hC
           have HC21 := hide hC
           clear hC
           clear hb21 hs21 HC20)
        | (go_at_call 25; refine (unhide HC21).mono ?_
           rintro e w22 ⟨rfl, hb22⟩
           obtain ⟨s22, hs22⟩ : ∃ s, w22.heap.size = s := ⟨_, rfl⟩
           have t22 : s21 ≤ s22 := by rw [← hs22, ← HS21.out]; exact hb22.size
           have HS22 := Lib.hid hs22
           replace Ha := hide ((unhide Ha).bel hb22)
           replace Hb := hide ((unhide Hb).bel hb22)
           replace Hd := hide ((unhide Hd).bel hb22)
           replace Hf := hide ((unhide Hf).bel hb22)
           replace Hx := hide ((unhide Hx).bel hb22)
           replace Hy := hide ((unhide Hy).bel hb22)
           replace HIN := hide ((unhide HIN).below hb22)
           replace HPIN := hide ((unhide HPIN).below hb22)
           replace HB := hide ((unhide HB).trans (hb22.mono (unhide HB).size))
           clear hb22 hs22 HC21))
      have HCHL : Hid (Chg w22 w22 (fun b => b = gp)) := Chg.refl _ _
      obtain ⟨pgx, hpgx⟩ : ∃ c, pg = c := ⟨_, rfl⟩
      have HLPX : Hid (pgx.length = L) := by show _ = _; rw [← hpgx]; exact HLP.out
      have hpin := unhide HPIN
      rw [hpgx] at hpin
      replace HPIN := hide hpin
      clear hpin hpgx
      go_loopg [20] L (fun q t W => ∃ (i : Nat) (xs : List UInt8), i + q = L ∧ t = .int .i64 (i : Int) ∧ xs.length = L ∧ Row W 5 (.slice (some ⟨gp, 0, none⟩) L gpc) L (xs.map bv) ∧ Chg w22 W (fun b => b = gp))
      case atStart => exact ⟨0, pgx, by omega, rfl, HLPX.out, unhide HPIN, unhide HCHL⟩
      case round =>
        obtain ⟨i, xs, hi, rfl, hxl, hrow, hch⟩ := hrel
        clear HPIN HCHL HLPX
        by_cases hlt : i < L
        · obtain ⟨q, rfl⟩ : ∃ q, gk = q + 1 := ⟨gk - 1, by omega⟩
          have hiI : (i : Int) < (L : Int) := by omega
          have hi0 : (0 : Int) ≤ (i : Int) := by omega
          obtain ⟨x, hx⟩ : ∃ x, xs[i]? = some x := ⟨_, List.getElem?_eq_getElem (by omega)⟩
          obtain ⟨X, hX⟩ : ∃ X, x.toNat = X := ⟨_, rfl⟩
          have hx4 : X < 256 := by rw [← hX]; exact x.toNat_lt
          have hcell : wr.cell? ⟨gp, i, none⟩ = some (.int .u8 (X : Int)) := by rw [hrow.cellAt hlt, List.getElem?_map, hx, ← hX]; rfl
          have hf : wr.frozen? ⟨gp, i, none⟩ = false := hrow.frozenAt i
          obtain ⟨P, hP⟩ : ∃ P, i % 256 = P := ⟨_, rfl⟩
          have a1 : IntKind.u8.wrap (i : Int) = (P : Int) := by rw [IntKind.wrap_u8]; omega
          have a1' : (i : Int) % 256 = (P : Int) := by omega
          obtain ⟨Z, hZ⟩ : ∃ Z, (X + P) % 256 = Z := ⟨_, rfl⟩
          have a5 : IntKind.u8.wrap ((X : Int) + (P : Int)) = (Z : Int) := by rw [IntKind.wrap_u8]; omega
          have hZ4 : Z < 256 := by omega
          clear hP hZ
          have hst := hrow.store i (.int .u8 (Z : Int))
          rw [← bv_nat2 Z hZ4, ← List.map_set, bv_nat2 Z hZ4] at hst
          have HST := hide hst
          have HCH2 := hide (hch.set_ ⟨gp, i, none⟩ (.int .u8 (Z : Int)) (fun _ => rfl))
          have HXL := Lib.hid hxl
          clear hrow hch hst hx hX hxl hZ4
          go_wp2_with fail
          go_roundg q
          case rel => exact ⟨i + 1, xs.set i (UInt8.ofNat Z), by omega, by go_num, by rw [List.length_set]; exact HXL.out, unhide HST, unhide HCH2⟩
          case measure => omega
        · obtain rfl : L = i := by omega
          obtain ⟨pz, hcs⟩ : ∃ c, xs = c := ⟨_, rfl⟩
          rw [hcs] at hxl hrow
          clear hcs
          have HLPZ := Lib.hid hxl
          have HPIN := hide hrow
          obtain ⟨w23, hw23⟩ : ∃ w, wr = w := ⟨_, rfl⟩
          rw [hw23] at hch HPIN ⊢
          clear hw23
          obtain ⟨s23, hs23⟩ : ∃ s, w23.heap.size = s := ⟨_, rfl⟩
          have t23 : s22 ≤ s23 := by rw [← hs23, ← HS22.out]; exact hch.size
          have HS23 := Lib.hid hs23
          replace Ha := hide ((unhide Ha).chg hch (fun b h1 h2 e => by omega))
          replace Hb := hide ((unhide Hb).chg hch (fun b h1 h2 e => by omega))
          replace Hd := hide ((unhide Hd).chg hch (fun b h1 h2 e => by omega))
          replace Hf := hide ((unhide Hf).chg hch (fun b h1 h2 e => by omega))
          replace Hx := hide ((unhide Hx).chg hch (fun b h1 h2 e => by omega))
          replace Hy := hide ((unhide Hy).chg hch (fun b h1 h2 e => by omega))
          replace HB := hide ((unhide HB).trans (hch.below (unhide HB).size (fun i hi e => by omega)))
          clear hrow hch hxl hs23 HIN
          have hD := hide (decode_any (some ⟨gp, 0, none⟩) L gpc w23.heap.size (n : Int) pz w23 (unhide HPIN).reads (Nat.le_refl _) (by omega) (by omega))
          go_wp2_with fail
          refine (unhide hD).mono ?_
          rintro e w24 ⟨Al, cl, kl, rfl, _, ⟨hrw, hlo⟩, hb24, hdecl⟩
          obtain ⟨s24, hs24⟩ : ∃ s, w24.heap.size = s := ⟨_, rfl⟩
          have t24 : s23 ≤ s24 := by rw [← hs24, ← HS23.out]; exact hb24.size
          have HS24 := Lib.hid hs24
          replace Ha := hide ((unhide Ha).bel hb24)
          replace Hb := hide ((unhide Hb).bel hb24)
          replace Hd := hide ((unhide Hd).bel hb24)
          replace Hf := hide ((unhide Hf).bel hb24)
          replace Hx := hide ((unhide Hx).bel hb24)
          replace Hy := hide ((unhide Hy).bel hb24)
          replace HPIN := hide ((unhide HPIN).below hb24)
          replace HB := hide ((unhide HB).trans (hb24.mono (unhide HB).size))
          obtain ⟨nl, hnl⟩ : ∃ k, cl.length = k := ⟨_, rfl⟩
          have hnl5 : nl ≤ 65536 := by
            rw [← hnl]
            rcases hdecl with ⟨_, h, _⟩ | ⟨h1, h2, ⟨_, h, _⟩ | ⟨_, h, _⟩⟩
            · simp [h]
            · simp [h]
            · omega
          have HNL := Lib.hid hnl
          rw [hnl] at hrw ⊢
          have Hl := hide (Ob.dec hrw hlo)
          rw [HS23.out, hs24] at Hl
          have HDECL := hide hdecl
          have hLb := hide (lentBytes_any (some ⟨gp, 0, none⟩) L gpc pz w24 (unhide HPIN).reads (by omega))
          clear hrw hlo hdecl hnl hb24 hs24 hD
          go_wp2_with fail
          refine (unhide hLb).mono ?_
          rintro e w25 ⟨g25, gc25, rfl, hgc25, _, _, ho25, hb25⟩
          have hr25 := (cut_inb ho25 HLPZ.out).reads
          obtain ⟨s25, hs25⟩ : ∃ s, w25.heap.size = s := ⟨_, rfl⟩
          have t25 : s24 ≤ s25 := by rw [← hs25, ← HS24.out]; exact hb25.size
          have HS25 := Lib.hid hs25
          replace Ha := hide ((unhide Ha).bel hb25)
          replace Hb := hide ((unhide Hb).bel hb25)
          replace Hd := hide ((unhide Hd).bel hb25)
          replace Hf := hide ((unhide Hf).bel hb25)
          replace Hx := hide ((unhide Hx).bel hb25)
          replace Hy := hide ((unhide Hy).bel hb25)
          replace Hl := hide ((unhide Hl).bel hb25)
          replace HB := hide ((unhide HB).trans (hb25.mono (unhide HB).size))
          have hD := hide (decode_any (some ⟨g25, 0, none⟩) L gc25 w25.heap.size (n : Int) pz w25 hr25 (Nat.le_refl _) (by omega) (by omega))
          clear ho25 hb25 hs25 hr25 hLb HPIN
          go_wp2_with fail
          refine (unhide hD).mono ?_
          rintro e w26 ⟨Am, cm, km, rfl, _, ⟨hrw, hlo⟩, hb26, hdecm⟩
          obtain ⟨rfl, rfl⟩ := dec_one (unhide HDECL) hdecm
          rw [HNL.out] at hrw ⊢
          obtain ⟨s26, hs26⟩ : ∃ s, w26.heap.size = s := ⟨_, rfl⟩
          have t26 : s25 ≤ s26 := by rw [← hs26, ← HS25.out]; exact hb26.size
          have HS26 := Lib.hid hs26
          replace Ha := hide ((unhide Ha).bel hb26)
          replace Hb := hide ((unhide Hb).bel hb26)
          replace Hd := hide ((unhide Hd).bel hb26)
          replace Hf := hide ((unhide Hf).bel hb26)
          replace Hx := hide ((unhide Hx).bel hb26)
          replace Hy := hide ((unhide Hy).bel hb26)
          replace Hl := hide ((unhide Hl).bel hb26)
          replace HB := hide ((unhide HB).trans (hb26.mono (unhide HB).size))
          have Hm := hide (Ob.dec hrw hlo)
          rw [HS25.out, hs26] at Hm
          have hA1 := alike_any Al Am nl nl nl nl cl cl w26 w26.heap.size (unhide Hl).row.reads (unhide Hm).row.reads (by omega) (Nat.le_refl _)
          rw [beq_self_eq_true] at hA1
          have HA1 := hide hA1
          clear hA1 hrw hlo hdecm hb26 hs26 hD HDECL
          go_wp2_with (first
            | (go_at_call 25; refine (unhide HA1).mono ?_
               rintro e w27 ⟨rfl, hb27⟩
               obtain ⟨s27, hs27⟩ : ∃ s, w27.heap.size = s := ⟨_, rfl⟩
               have t27 : s26 ≤ s27 := by rw [← hs27, ← HS26.out]; exact hb27.size
               have HS27 := Lib.hid hs27
               replace Ha := hide ((unhide Ha).bel hb27)
               replace Hb := hide ((unhide Hb).bel hb27)
               replace Hd := hide ((unhide Hd).bel hb27)
               replace Hf := hide ((unhide Hf).bel hb27)
               replace Hx := hide ((unhide Hx).bel hb27)
               replace Hy := hide ((unhide Hy).bel hb27)
               replace Hl := hide ((unhide Hl).bel hb27)
               replace Hm := hide ((unhide Hm).bel hb27)
               replace HB := hide ((unhide HB).trans (hb27.mono (unhide HB).size))
               have hA2 := alike_any Af A n n n cap cs cs w27 w27.heap.size (unhide Hf).row.reads (((unhide HR).below (unhide HB)).more (unhide HB).size) (by omega) (Nat.le_refl _)
               rw [beq_self_eq_true] at hA2
               have HA2 := hide hA2
               clear hA2 hb27 hs27 HA1)
            | (go_at_call 25; refine (unhide HA2).mono ?_
               rintro e w28 ⟨rfl, hb28⟩
               obtain ⟨s28, hs28⟩ : ∃ s, w28.heap.size = s := ⟨_, rfl⟩
               have t28 : s27 ≤ s28 := by rw [← hs28, ← HS27.out]; exact hb28.size
               have HS28 := Lib.hid hs28
               replace Ha := hide ((unhide Ha).bel hb28)
               replace Hb := hide ((unhide Hb).bel hb28)
               replace Hd := hide ((unhide Hd).bel hb28)
               replace Hf := hide ((unhide Hf).bel hb28)
               replace Hx := hide ((unhide Hx).bel hb28)
               replace Hy := hide ((unhide Hy).bel hb28)
               replace Hl := hide ((unhide Hl).bel hb28)
               replace Hm := hide ((unhide Hm).bel hb28)
               replace HB := hide ((unhide HB).trans (hb28.mono (unhide HB).size))
               clear hb28 hs28 HA2))
          obtain ⟨W29, hW29⟩ : ∃ W, w28.alloc (.cells #[.slice Aa L ca, .slice Ab L cb, .slice Ax L2 cx, .slice Ay L2 cy] 24) = W := ⟨_, rfl⟩
          have hb29 : Below w28.heap.size w28 W29 := by rw [← hW29]; exact (Below.refl _ _).alloc (Nat.le_refl _) _
          have hx29 : Blk W29 w28.heap.size 24 #[.slice Aa L ca, .slice Ab L cb, .slice Ax L2 cx, .slice Ay L2 cy] := by rw [← hW29]; exact Blk.new _ _ _
          replace Ha := hide ((unhide Ha).bel hb29)
          replace Hb := hide ((unhide Hb).bel hb29)
          replace Hd := hide ((unhide Hd).bel hb29)
          replace Hf := hide ((unhide Hf).bel hb29)
          replace Hx := hide ((unhide Hx).bel hb29)
          replace Hy := hide ((unhide Hy).bel hb29)
          replace Hl := hide ((unhide Hl).bel hb29)
          replace Hm := hide ((unhide Hm).bel hb29)
          replace HB := hide ((unhide HB).trans (hb29.mono (unhide HB).size))
          have hAp := apart_any w28.heap.size (q4 (.slice Aa L ca) (.slice Ab L cb) (.slice Ax L2 cx) (.slice Ay L2 cy)) _ (q4 L L L2 L2) (q4 (pg.map bv) (pg.map bv) (pg2.map bv) (pg2.map bv)) W29 (rws4 (unhide Ha) (unhide Hb) (unhide Hx) (unhide Hy) (by omega) (by omega) (by omega) (by omega) (by omega))
            (q4_len (unhide Ha).row.1 (unhide Hb).row.1 (unhide Hx).row.1 (unhide Hy).row.1) (q4_le (by omega) (by omega) (by omega) (by omega)) (q4_at _ _ _ _) hx29
          have HAp := hide hAp
          clear hAp hx29 hb29
          go_wp2_with (first
            | (go_at_call 28; rw [hW29]; refine (unhide HAp).mono ?_
               rintro e w30 ⟨rfl, hc30⟩
               have hft := ft_lo (unhide Ha) (unhide Hb) (unhide Hx) (unhide Hy) (B := w.heap.size) (by omega) (by omega) (by omega) (by omega)
               have Hd3 := hide ((unhide Hd).ft (by decide) (unhide Ha) (unhide Hb) (unhide Hx) (unhide Hy) hc30)
               have Hf3 := hide ((unhide Hf).ft (by decide) (unhide Ha) (unhide Hb) (unhide Hx) (unhide Hy) hc30)
               have Hl3 := hide ((unhide Hl).ft (by decide) (unhide Ha) (unhide Hb) (unhide Hx) (unhide Hy) hc30)
               have Hm3 := hide ((unhide Hm).ft (by decide) (unhide Ha) (unhide Hb) (unhide Hx) (unhide Hy) hc30)
               have HB3 := hide ((unhide HB).trans (hc30.below (unhide HB).size hft))
               obtain ⟨W31, hW31⟩ : ∃ W, w30.alloc (.cells #[.slice Ad n n, .slice Af n n, .slice Al nl nl, .slice Am nl nl] 22) = W := ⟨_, rfl⟩
               have hb31 : Below w30.heap.size w30 W31 := by rw [← hW31]; exact (Below.refl _ _).alloc (Nat.le_refl _) _
               have hx31 : Blk W31 w30.heap.size 22 #[.slice Ad n n, .slice Af n n, .slice Al nl nl, .slice Am nl nl] := by rw [← hW31]; exact Blk.new _ _ _
               replace Hd3 := hide ((unhide Hd3).bel hb31)
               replace Hf3 := hide ((unhide Hf3).bel hb31)
               replace Hl3 := hide ((unhide Hl3).bel hb31)
               replace Hm3 := hide ((unhide Hm3).bel hb31)
               replace HB3 := hide ((unhide HB3).trans (hb31.mono (unhide HB3).size))
               have hNp := numbersApart_any w30.heap.size (q4 (.slice Ad n n) (.slice Af n n) (.slice Al nl nl) (.slice Am nl nl)) _ (q4 n n nl nl) (q4 (cs.map uw) (cs.map uw) (cl.map uw) (cl.map uw)) W31 (rws4 (unhide Hd3) (unhide Hf3) (unhide Hl3) (unhide Hm3) (by omega) (by omega) (by omega) (by omega) (by omega))
                 (q4_len (unhide Hd3).row.1 (unhide Hf3).row.1 (unhide Hl3).row.1 (unhide Hm3).row.1) (q4_le (by omega) (by omega) (by omega) (by omega)) (q4_at _ _ _ _) hx31
               have HNp := hide hNp
               clear hNp hx31 hb31 hc30 hft HAp)
            | (go_at_call 29; (try rw [hW31]); refine (unhide HNp).mono ?_
               rintro e w32 ⟨rfl, hc32⟩
               have hft := ft_lo (unhide Hd3) (unhide Hf3) (unhide Hl3) (unhide Hm3) (B := w.heap.size) (by omega) (by omega) (by omega) (by omega)
               have HB4 := hide ((unhide HB3).trans (hc32.below (unhide HB3).size hft))
               have hL := hide (lent_any A n cap cs w32 (((unhide HR).below (unhide HB4)).more (unhide HB4).size) (by omega))
               clear hc32 hft HNp)
            | (go_at_call 10; refine (unhide hL).mono ?_
               rintro e w33 ⟨g33, gc33, rfl, hgc33, _, hg33, ho33, hb33⟩
               have HB5 := hide ((unhide HB4).trans (hb33.mono (unhide HB4).size))
               have hAg := hide (again_any cs g33 n gc33 T w33 (cut_in ho33 HLEN.out) (by omega) (by omega) (by omega))
               have hg33' : w.heap.size ≤ g33 := by have := (unhide HB4).size; omega
               clear ho33 hb33)
            | (go_at_call 30; refine (unhide hAg).mono ?_
               rintro e w34 ⟨rfl, hc34⟩
               have HB6 := hide ((unhide HB5).trans (hc34.below (unhide HB5).size (fun i hi e => by omega)))
               clear hc34))
          go_ret
          exact ⟨rfl, unhide HB6⟩

set_option maxRecDepth 100000 in
set_option maxHeartbeats 8000000 in
theorem colOwnB (A : Option Addr) (N cap T : Nat) (cs0 : List UInt32) (w : World) (hr : Reads w w.heap.size 1 A N (cs0.map uw)) (hcap : N ≤ cap) (hT : T < 4294967296) (hN : 1000 < N) :
    Calls Try.prog 9 #[.slice A N cap, .int .u32 (T : Int)] w fun e w' => e = .returned (.bool true) ∧ Below w.heap.size w w' := by
  have hr2 := words_cut hr (k := 1000) (by omega)
  obtain ⟨cs, hcs⟩ : ∃ cs, cs0.take 1000 = cs := ⟨_, rfl⟩
  rw [hcs] at hr2
  clear hcs
  obtain ⟨n, hn0⟩ : ∃ n : Nat, 1000 = n := ⟨_, rfl⟩
  rw [hn0] at hr2
  have hsl0 := fun W => run_head elem_u32 (A := A) (n := n) (N := N) (cap := cap) (by omega) W
  rw [show ((n : Nat) : Int) = 1000 by omega] at hsl0
  have hN0 : (1000 : Int) < (N : Int) := by omega
  have hn : n ≤ 1000 := by omega
  have hlen : cs.length = n := by have := hr2.1; simpa using this
  have HLEN := Lib.hid hlen
  have HA := hide (awake5_any w)
  have HNum := fun x w => hide (num5_any x w)
  have HR := hide hr2
  obtain ⟨g0, hg0⟩ : ∃ g, w.heap.size = g := ⟨_, rfl⟩
  clear hr hr2 hlen hn0 hN hcap
  go_enter Try.func9, Try.ntmps9
  go_wp2_with fail
  refine (unhide HA).mono ?_
  rintro e w1 ⟨rfl, hb1⟩
  clear HA
  have HB := hide hb1
  clear hb1
  obtain ⟨s1, hs1⟩ : ∃ s, w1.heap.size = s := ⟨_, rfl⟩
  have HS1 := Lib.hid hs1
  have t1 : g0 ≤ s1 := by rw [← hs1, ← hg0]; exact (unhide HB).size
  have hL := hide (lent_any A n cap cs w1 (((unhide HR).below (unhide HB)).more (unhide HB).size) (by omega))
  clear hs1
  go_wp2_with fail
  refine (unhide hL).mono ?_
  rintro e w2 ⟨g, gc, rfl, hgc, _, hg, ho2, hb2⟩
  obtain ⟨s2, hs2⟩ : ∃ s, w2.heap.size = s := ⟨_, rfl⟩
  have t2 : s1 ≤ s2 := by rw [← hs2, ← HS1.out]; exact hb2.size
  have HS2 := Lib.hid hs2
  replace HB := hide ((unhide HB).trans (hb2.mono (unhide HB).size))
  have HIN := hide (cut_in ho2 HLEN.out)
  have HINF := hide (Reads.of_own ho2)
  rw [HS1.out] at hg
  have hgs : g < s2 := by rw [← hs2]; exact (unhide HIN).lt rfl
  have hE := hide (encode_any cs (some ⟨g, 0, none⟩) n gc w2.heap.size w2 (unhide HIN).reads (Nat.le_refl _) (by omega))
  clear hL ho2 hb2 hs2
  go_wp2_with fail
  refine (unhide hE).mono ?_
  rintro e w3 ⟨va, rfl, ho3, hb3⟩
  obtain ⟨Aa, ca, rfl⟩ := ho3.shape
  obtain ⟨pg, hpg⟩ : ∃ p, pageS cs = p := ⟨_, rfl⟩
  obtain ⟨L, hL⟩ : ∃ L, pg.length = L := ⟨_, rfl⟩
  have hL5 : L ≤ 5 * n + 1 := by rw [← hL, ← hpg, ← HLEN.out]; exact page_len cs
  have HPG := Lib.hid hpg
  have HLP := Lib.hid hL
  rw [hpg, hL] at ho3 ⊢
  obtain ⟨s3, hs3⟩ : ∃ s, w3.heap.size = s := ⟨_, rfl⟩
  have t3 : s2 ≤ s3 := by rw [← hs3, ← HS2.out]; exact hb3.size
  have HS3 := Lib.hid hs3
  replace HIN := hide ((unhide HIN).below hb3)
  replace HINF := hide (((unhide HINF).below hb3).more hb3.size)
  replace HB := hide ((unhide HB).trans (hb3.mono (unhide HB).size))
  have Ha := hide (Ob.made ho3)
  rw [HS2.out, hs3] at Ha
  have hE := hide (encode_any cs (some ⟨g, 0, none⟩) n gc w3.heap.size w3 (unhide HIN).reads (Nat.le_refl _) (by omega))
  clear ho3 hb3 hs3 hpg hL
  go_wp2_with fail
  refine (unhide hE).mono ?_
  rintro e w4 ⟨vb, rfl, ho4, hb4⟩
  obtain ⟨Ab, cb, rfl⟩ := ho4.shape
  rw [HPG.out, HLP.out] at ho4 ⊢
  obtain ⟨s4, hs4⟩ : ∃ s, w4.heap.size = s := ⟨_, rfl⟩
  have t4 : s3 ≤ s4 := by rw [← hs4, ← HS3.out]; exact hb4.size
  have HS4 := Lib.hid hs4
  replace Ha := hide ((unhide Ha).bel hb4)
  replace HIN := hide ((unhide HIN).below hb4)
  replace HINF := hide (((unhide HINF).below hb4).more hb4.size)
  replace HB := hide ((unhide HB).trans (hb4.mono (unhide HB).size))
  have Hb := hide (Ob.made ho4)
  rw [HS3.out, hs4] at Hb
  have hLb := hide (lentBytes_any Aa L ca pg w4 (unhide Ha).row.reads (by omega))
  clear ho4 hb4 hs4 hE
  go_wp2_with fail
  refine (unhide hLb).mono ?_
  rintro e w5 ⟨gp, gpc, rfl, hgpc, _, hgp, ho5, hb5⟩
  obtain ⟨s5, hs5⟩ : ∃ s, w5.heap.size = s := ⟨_, rfl⟩
  have t5 : s4 ≤ s5 := by rw [← hs5, ← HS4.out]; exact hb5.size
  have HS5 := Lib.hid hs5
  replace Ha := hide ((unhide Ha).bel hb5)
  replace Hb := hide ((unhide Hb).bel hb5)
  replace HIN := hide ((unhide HIN).below hb5)
  replace HINF := hide (((unhide HINF).below hb5).more hb5.size)
  replace HB := hide ((unhide HB).trans (hb5.mono (unhide HB).size))
  have HPIN := hide (cut_inb ho5 HLP.out)
  rw [HS4.out] at hgp
  have hgps : gp < s5 := by rw [← hs5]; exact (unhide HPIN).lt rfl
  have hD := hide (decode_any (some ⟨gp, 0, none⟩) L gpc w5.heap.size (n : Int) pg w5 (unhide HPIN).reads (Nat.le_refl _) (by omega) (by omega))
  clear ho5 hb5 hs5 hLb
  go_wp2_with fail
  refine (unhide hD).mono ?_
  rintro e w6 ⟨Ad, cd, kd, rfl, _, ⟨hrw, hlo⟩, hb6, hdec⟩
  obtain ⟨rfl, hdc⟩ : kd = 0 ∧ cd = cs := by
    rcases hdec with ⟨_, _, h⟩ | ⟨_, _, ⟨_, _, h⟩ | ⟨h0, _, _, h⟩⟩
    · omega
    · exact absurd HPG.out (h cs (by rw [HLEN.out, Int.toNat_natCast]))
    · exact ⟨h0, h cs (by rw [HLEN.out, Int.toNat_natCast]) HPG.out⟩
  rw [hdc, HLEN.out] at hrw
  rw [hdc, HLEN.out]
  obtain ⟨s6, hs6⟩ : ∃ s, w6.heap.size = s := ⟨_, rfl⟩
  have t6 : s5 ≤ s6 := by rw [← hs6, ← HS5.out]; exact hb6.size
  have HS6 := Lib.hid hs6
  replace Ha := hide ((unhide Ha).bel hb6)
  replace Hb := hide ((unhide Hb).bel hb6)
  replace HIN := hide ((unhide HIN).below hb6)
  replace HPIN := hide ((unhide HPIN).below hb6)
  replace HINF := hide (((unhide HINF).below hb6).more hb6.size)
  replace HB := hide ((unhide HB).trans (hb6.mono (unhide HB).size))
  have Hd := hide (Ob.dec hrw hlo)
  rw [HS5.out, hs6] at Hd
  have hD := hide (decode_any (some ⟨gp, 0, none⟩) L gpc w6.heap.size (n : Int) pg w6 (unhide HPIN).reads (Nat.le_refl _) (by omega) (by omega))
  clear hrw hlo hdec hdc hb6 hs6
  go_wp2_with fail
  refine (unhide hD).mono ?_
  rintro e w7 ⟨Af, cd, kd, rfl, _, ⟨hrw, hlo⟩, hb7, hdec⟩
  obtain ⟨rfl, hdc⟩ : kd = 0 ∧ cd = cs := by
    rcases hdec with ⟨_, _, h⟩ | ⟨_, _, ⟨_, _, h⟩ | ⟨h0, _, _, h⟩⟩
    · omega
    · exact absurd HPG.out (h cs (by rw [HLEN.out, Int.toNat_natCast]))
    · exact ⟨h0, h cs (by rw [HLEN.out, Int.toNat_natCast]) HPG.out⟩
  rw [hdc, HLEN.out] at hrw
  rw [hdc, HLEN.out]
  obtain ⟨s7, hs7⟩ : ∃ s, w7.heap.size = s := ⟨_, rfl⟩
  have t7 : s6 ≤ s7 := by rw [← hs7, ← HS6.out]; exact hb7.size
  have HS7 := Lib.hid hs7
  replace Ha := hide ((unhide Ha).bel hb7)
  replace Hb := hide ((unhide Hb).bel hb7)
  replace Hd := hide ((unhide Hd).bel hb7)
  replace HIN := hide ((unhide HIN).below hb7)
  replace HPIN := hide ((unhide HPIN).below hb7)
  replace HINF := hide (((unhide HINF).below hb7).more hb7.size)
  replace HB := hide ((unhide HB).trans (hb7.mono (unhide HB).size))
  have Hf := hide (Ob.dec hrw hlo)
  rw [HS6.out, hs7] at Hf
  clear hrw hlo hdec hdc hb7 hs7 hD
  have hA1 := alike_any Ad A n n n cap cs cs w7 w7.heap.size (unhide Hd).row.reads (((unhide HR).below (unhide HB)).more (unhide HB).size) (by omega) (Nat.le_refl _)
  rw [beq_self_eq_true] at hA1
  have HA1 := hide hA1
  clear hA1
  go_wp2_with (first
    | (go_at_call 17; refine (unhide (HNum _ _)).mono ?_; rintro e w7' ⟨rfl, rfl⟩)
    | (go_at_call 25; refine (unhide HA1).mono ?_
       rintro e w8 ⟨rfl, hb8⟩
       obtain ⟨s8, hs8⟩ : ∃ s, w8.heap.size = s := ⟨_, rfl⟩
       have t8 : s7 ≤ s8 := by rw [← hs8, ← HS7.out]; exact hb8.size
       have HS8 := Lib.hid hs8
       replace Ha := hide ((unhide Ha).bel hb8)
       replace Hb := hide ((unhide Hb).bel hb8)
       replace Hd := hide ((unhide Hd).bel hb8)
       replace Hf := hide ((unhide Hf).bel hb8)
       replace HIN := hide ((unhide HIN).below hb8)
       replace HPIN := hide ((unhide HPIN).below hb8)
       replace HINF := hide (((unhide HINF).below hb8).more hb8.size)
       replace HB := hide ((unhide HB).trans (hb8.mono (unhide HB).size))
       have hA2 := alike_any Af A n n n cap cs cs w8 w8.heap.size (unhide Hf).row.reads (((unhide HR).below (unhide HB)).more (unhide HB).size) (by omega) (Nat.le_refl _)
       rw [beq_self_eq_true] at hA2
       have HA2 := hide hA2
       clear hA2 hb8 hs8 HA1)
    | (go_at_call 25; refine (unhide HA2).mono ?_
       rintro e w9 ⟨rfl, hb9⟩
       obtain ⟨s9, hs9⟩ : ∃ s, w9.heap.size = s := ⟨_, rfl⟩
       have t9 : s8 ≤ s9 := by rw [← hs9, ← HS8.out]; exact hb9.size
       have HS9 := Lib.hid hs9
       replace Ha := hide ((unhide Ha).bel hb9)
       replace Hb := hide ((unhide Hb).bel hb9)
       replace Hd := hide ((unhide Hd).bel hb9)
       replace Hf := hide ((unhide Hf).bel hb9)
       replace HIN := hide ((unhide HIN).below hb9)
       replace HPIN := hide ((unhide HPIN).below hb9)
       replace HINF := hide (((unhide HINF).below hb9).more hb9.size)
       replace HB := hide ((unhide HB).trans (hb9.mono (unhide HB).size))
       have hK := kept5_any A g n gc n cap w9.heap.size cs cs w9 HLEN.out hgc (unhide HINF) (((unhide HR).below (unhide HB)).more (unhide HB).size) (by omega) (Nat.le_refl _)
       rw [beq_self_eq_true] at hK
       have HK := hide hK
       clear hK hb9 hs9 HA2)
    | (go_at_call 19; refine (unhide HK).mono ?_
       rintro e w10 ⟨rfl, hb10⟩
       obtain ⟨s10, hs10⟩ : ∃ s, w10.heap.size = s := ⟨_, rfl⟩
       have t10 : s9 ≤ s10 := by rw [← hs10, ← HS9.out]; exact hb10.size
       have HS10 := Lib.hid hs10
       replace Ha := hide ((unhide Ha).bel hb10)
       replace Hb := hide ((unhide Hb).bel hb10)
       replace Hd := hide ((unhide Hd).bel hb10)
       replace Hf := hide ((unhide Hf).bel hb10)
       replace HIN := hide ((unhide HIN).below hb10)
       replace HPIN := hide ((unhide HPIN).below hb10)
       replace HINF := hide (((unhide HINF).below hb10).more hb10.size)
       replace HB := hide ((unhide HB).trans (hb10.mono (unhide HB).size))
       clear hb10 hs10 HK HINF))
  obtain ⟨cs2, hcs2⟩ : ∃ c, cs = c := ⟨_, rfl⟩
  have HLEN2 : Hid (cs2.length = n) := by show _ = _; rw [← hcs2]; exact HLEN.out
  have hin := unhide HIN
  rw [hcs2] at hin
  replace HIN := hide hin
  clear hin hcs2
  have HCHL : Hid (Chg w10 w10 (fun b => b = g)) := Chg.refl _ _
  go_loopg [15] n (fun q t W => ∃ (i : Nat) (xs : List UInt32), i + q = n ∧ t = .int .i64 (i : Int) ∧ xs.length = n ∧ Row W 40 (.slice (some ⟨g, 0, none⟩) n gc) n (xs.map uw) ∧ Chg w10 W (fun b => b = g))
  case atStart => exact ⟨0, cs2, by omega, rfl, HLEN2.out, unhide HIN, unhide HCHL⟩
  case round =>
    obtain ⟨i, xs, hi, rfl, hxl, hrow, hch⟩ := hrel
    clear HIN HCHL HLEN2
    by_cases hlt : i < n
    · obtain ⟨q, rfl⟩ : ∃ q, gk = q + 1 := ⟨gk - 1, by omega⟩
      have hiI : (i : Int) < (n : Int) := by omega
      have hi0 : (0 : Int) ≤ (i : Int) := by omega
      obtain ⟨x, hx⟩ : ∃ x, xs[i]? = some x := ⟨_, List.getElem?_eq_getElem (by omega)⟩
      obtain ⟨X, hX⟩ : ∃ X, x.toNat = X := ⟨_, rfl⟩
      have hx4 : X < 4294967296 := by rw [← hX]; exact u32_lt x
      have hcell : wr.cell? ⟨g, i, none⟩ = some (.int .u32 (X : Int)) := by rw [hrow.cellAt hlt, List.getElem?_map, hx, ← hX]; rfl
      have hf : wr.frozen? ⟨g, i, none⟩ = false := hrow.frozenAt i
      obtain ⟨P, hP⟩ : ∃ P, i % 2 = P := ⟨_, rfl⟩
      have a1 : (i : Int) % 2 = (P : Int) := by omega
      have a2 : IntKind.u32.wrap (P : Int) = (P : Int) := by rw [IntWalk.u32_in _ (by omega)]
      obtain ⟨Y, hY⟩ : ∃ Y, (X + T) % 4294967296 = Y := ⟨_, rfl⟩
      have a4 : IntKind.u32.wrap ((X : Int) + (T : Int)) = (Y : Int) := by rw [IntKind.wrap_u32]; omega
      obtain ⟨Z, hZ⟩ : ∃ Z, (Y + P) % 4294967296 = Z := ⟨_, rfl⟩
      have a5 : IntKind.u32.wrap ((Y : Int) + (P : Int)) = (Z : Int) := by rw [IntKind.wrap_u32]; omega
      have hZ4 : Z < 4294967296 := by omega
      clear hP hY hZ
      have hst := hrow.store i (.int .u32 (Z : Int))
      rw [← uw_nat2 Z hZ4, ← List.map_set, uw_nat2 Z hZ4] at hst
      have HST := hide hst
      have HCH2 := hide (hch.set_ ⟨g, i, none⟩ (.int .u32 (Z : Int)) (fun _ => rfl))
      have HXL := Lib.hid hxl
      clear hrow hch hst hx hX hxl hZ4
      go_wp2_with fail
      go_roundg q
      case rel => exact ⟨i + 1, xs.set i (UInt32.ofNat Z), by omega, by go_num, by rw [List.length_set]; exact HXL.out, unhide HST, unhide HCH2⟩
      case measure => omega
    · obtain rfl : n = i := by omega
      obtain ⟨cs2, hcs⟩ : ∃ c, xs = c := ⟨_, rfl⟩
      rw [hcs] at hxl hrow
      clear hcs
      have HLEN2 := Lib.hid hxl
      have HIN := hide hrow
      obtain ⟨w11, hw11⟩ : ∃ w, wr = w := ⟨_, rfl⟩
      rw [hw11] at hch HIN ⊢
      clear hw11
      obtain ⟨s11, hs11⟩ : ∃ s, w11.heap.size = s := ⟨_, rfl⟩
      have t11 : s10 ≤ s11 := by rw [← hs11, ← HS10.out]; exact hch.size
      have HS11 := Lib.hid hs11
      replace Ha := hide ((unhide Ha).chg hch (fun b h1 h2 e => by omega))
      replace Hb := hide ((unhide Hb).chg hch (fun b h1 h2 e => by omega))
      replace Hd := hide ((unhide Hd).chg hch (fun b h1 h2 e => by omega))
      replace Hf := hide ((unhide Hf).chg hch (fun b h1 h2 e => by omega))
      replace HPIN := hide ((unhide HPIN).chg hch (fun b hb e => by cases hb; have e2 : gp = g := e; omega))
      replace HB := hide ((unhide HB).trans (hch.below (unhide HB).size (fun i hi e => by omega)))
      clear hrow hch hxl hs11
      have hE := hide (encode_any cs2 (some ⟨g, 0, none⟩) n gc w11.heap.size w11 (unhide HIN).reads (Nat.le_refl _) (by omega))
      go_wp2_with fail
      refine (unhide hE).mono ?_
      rintro e w12 ⟨vx, rfl, ho12, hb12⟩
      obtain ⟨Ax, cx, rfl⟩ := ho12.shape
      obtain ⟨pg2, hpg2⟩ : ∃ p, pageS cs2 = p := ⟨_, rfl⟩
      obtain ⟨L2, hL2⟩ : ∃ L, pg2.length = L := ⟨_, rfl⟩
      have hL25 : L2 ≤ 5 * n + 1 := by rw [← hL2, ← hpg2, ← HLEN2.out]; exact page_len cs2
      have HPG2 := Lib.hid hpg2
      have HLP2 := Lib.hid hL2
      rw [hpg2, hL2] at ho12 ⊢
      obtain ⟨s12, hs12⟩ : ∃ s, w12.heap.size = s := ⟨_, rfl⟩
      have t12 : s11 ≤ s12 := by rw [← hs12, ← HS11.out]; exact hb12.size
      have HS12 := Lib.hid hs12
      replace Ha := hide ((unhide Ha).bel hb12)
      replace Hb := hide ((unhide Hb).bel hb12)
      replace Hd := hide ((unhide Hd).bel hb12)
      replace Hf := hide ((unhide Hf).bel hb12)
      replace HIN := hide ((unhide HIN).below hb12)
      replace HPIN := hide ((unhide HPIN).below hb12)
      replace HB := hide ((unhide HB).trans (hb12.mono (unhide HB).size))
      have Hx := hide (Ob.made ho12)
      rw [HS11.out, hs12] at Hx
      have hL := hide (lent_any (some ⟨g, 0, none⟩) n gc cs2 w12 (unhide HIN).reads (by omega))
      clear ho12 hb12 hs12 hpg2 hL2 hE
      go_wp2_with fail
      refine (unhide hL).mono ?_
      rintro e w13 ⟨g13, gc13, rfl, _, _, _, ho13, hb13⟩
      have hr13 := (cut_in ho13 HLEN2.out).reads
      obtain ⟨s13, hs13⟩ : ∃ s, w13.heap.size = s := ⟨_, rfl⟩
      have t13 : s12 ≤ s13 := by rw [← hs13, ← HS12.out]; exact hb13.size
      have HS13 := Lib.hid hs13
      replace Ha := hide ((unhide Ha).bel hb13)
      replace Hb := hide ((unhide Hb).bel hb13)
      replace Hd := hide ((unhide Hd).bel hb13)
      replace Hf := hide ((unhide Hf).bel hb13)
      replace Hx := hide ((unhide Hx).bel hb13)
      replace HIN := hide ((unhide HIN).below hb13)
      replace HPIN := hide ((unhide HPIN).below hb13)
      replace HB := hide ((unhide HB).trans (hb13.mono (unhide HB).size))
      have hE := hide (encode_any cs2 (some ⟨g13, 0, none⟩) n gc13 w13.heap.size w13 hr13 (Nat.le_refl _) (by omega))
      clear ho13 hb13 hs13 hr13 hL
      go_wp2_with fail
      refine (unhide hE).mono ?_
      rintro e w14 ⟨vy, rfl, ho14, hb14⟩
      obtain ⟨Ay, cy, rfl⟩ := ho14.shape
      rw [HPG2.out, HLP2.out] at ho14 ⊢
      obtain ⟨s14, hs14⟩ : ∃ s, w14.heap.size = s := ⟨_, rfl⟩
      have t14 : s13 ≤ s14 := by rw [← hs14, ← HS13.out]; exact hb14.size
      have HS14 := Lib.hid hs14
      replace Ha := hide ((unhide Ha).bel hb14)
      replace Hb := hide ((unhide Hb).bel hb14)
      replace Hd := hide ((unhide Hd).bel hb14)
      replace Hf := hide ((unhide Hf).bel hb14)
      replace Hx := hide ((unhide Hx).bel hb14)
      replace HIN := hide ((unhide HIN).below hb14)
      replace HPIN := hide ((unhide HPIN).below hb14)
      replace HB := hide ((unhide HB).trans (hb14.mono (unhide HB).size))
      have Hy := hide (Ob.made ho14)
      rw [HS13.out, hs14] at Hy
      clear ho14 hb14 hs14 hE
      obtain ⟨q0, hq0⟩ : ∃ s, (plainS cs2).length = s := ⟨_, rfl⟩
      obtain ⟨q1, hq1⟩ : ∃ s, (deltaS cs2).length = s := ⟨_, rfl⟩
      obtain ⟨q2, hq2⟩ : ∃ s, (runS cs2).length = s := ⟨_, rfl⟩
      obtain ⟨q3, hq3⟩ : ∃ s, (packS cs2).length = s := ⟨_, rfl⟩
      obtain ⟨qw, hqw⟩ : ∃ s, wayS cs2 = s := ⟨_, rfl⟩
      have HEQ := hide (And.intro hq0 (And.intro hq1 (And.intro hq2 (And.intro hq3 hqw))))
      clear hq0 hq1 hq2 hq3 hqw
      have hneq := neq_four q0 q1 q2 q3
      have hSm := same5_any Ax Ay L2 cx L2 cy pg2 pg2 w14 w14.heap.size (unhide Hx).row.reads (unhide Hy).row.reads (by omega) (Nat.le_refl _)
      rw [beq_self_eq_true] at hSm
      have HSm := hide hSm
      clear hSm
      go_wp2_with (first
        | (go_at_call 18; refine (unhide HSm).mono ?_
           rintro e w15 ⟨rfl, hb15⟩
           obtain ⟨s15, hs15⟩ : ∃ s, w15.heap.size = s := ⟨_, rfl⟩
           have t15 : s14 ≤ s15 := by rw [← hs15, ← HS14.out]; exact hb15.size
           have HS15 := Lib.hid hs15
           replace Ha := hide ((unhide Ha).bel hb15)
           replace Hb := hide ((unhide Hb).bel hb15)
           replace Hd := hide ((unhide Hd).bel hb15)
           replace Hf := hide ((unhide Hf).bel hb15)
           replace Hx := hide ((unhide Hx).bel hb15)
           replace Hy := hide ((unhide Hy).bel hb15)
           replace HIN := hide ((unhide HIN).below hb15)
           replace HPIN := hide ((unhide HPIN).below hb15)
           replace HB := hide ((unhide HB).trans (hb15.mono (unhide HB).size))
           have hC := sizes_any cs2 (some ⟨g, 0, none⟩) n gc w15.heap.size w15 (unhide HIN).reads (Nat.le_refl _) (by omega)
           rw [(unhide HEQ).1, (unhide HEQ).2.1, (unhide HEQ).2.2.1, (unhide HEQ).2.2.2.1] at hC
           have HC15 := hide hC
           clear hC hb15 hs15 HSm)
        | (go_at_call 13; refine (unhide HC15).mono ?_
           rintro e w16 ⟨rfl, hb16⟩
           obtain ⟨s16, hs16⟩ : ∃ s, w16.heap.size = s := ⟨_, rfl⟩
           have t16 : s15 ≤ s16 := by rw [← hs16, ← HS15.out]; exact hb16.size
           have HS16 := Lib.hid hs16
           replace Ha := hide ((unhide Ha).bel hb16)
           replace Hb := hide ((unhide Hb).bel hb16)
           replace Hd := hide ((unhide Hd).bel hb16)
           replace Hf := hide ((unhide Hf).bel hb16)
           replace Hx := hide ((unhide Hx).bel hb16)
           replace Hy := hide ((unhide Hy).bel hb16)
           replace HIN := hide ((unhide HIN).below hb16)
           replace HPIN := hide ((unhide HPIN).below hb16)
           replace HB := hide ((unhide HB).trans (hb16.mono (unhide HB).size))
           have HL16 := hide (lent_any (some ⟨g, 0, none⟩) n gc cs2 w16 (unhide HIN).reads (by omega))
           clear hb16 hs16 HC15)
        | (go_at_call 10; refine (unhide HL16).mono ?_
           rintro e w17 ⟨gl17, gcl17, rfl, _, _, _, hol17, hb17⟩
           have hrl17 := (cut_in hol17 HLEN2.out).reads
           obtain ⟨s17, hs17⟩ : ∃ s, w17.heap.size = s := ⟨_, rfl⟩
           have t17 : s16 ≤ s17 := by rw [← hs17, ← HS16.out]; exact hb17.size
           have HS17 := Lib.hid hs17
           replace Ha := hide ((unhide Ha).bel hb17)
           replace Hb := hide ((unhide Hb).bel hb17)
           replace Hd := hide ((unhide Hd).bel hb17)
           replace Hf := hide ((unhide Hf).bel hb17)
           replace Hx := hide ((unhide Hx).bel hb17)
           replace Hy := hide ((unhide Hy).bel hb17)
           replace HIN := hide ((unhide HIN).below hb17)
           replace HPIN := hide ((unhide HPIN).below hb17)
           replace HB := hide ((unhide HB).trans (hb17.mono (unhide HB).size))
           have hC := sizes_any cs2 (some ⟨gl17, 0, none⟩) n gcl17 w17.heap.size w17 hrl17 (Nat.le_refl _) (by omega)
           rw [(unhide HEQ).1, (unhide HEQ).2.1, (unhide HEQ).2.2.1, (unhide HEQ).2.2.2.1] at hC
           have HC17 := hide hC
           clear hC
           clear hb17 hs17 hol17 hrl17 HL16)
        | (go_at_call 13; refine (unhide HC17).mono ?_
           rintro e w18 ⟨rfl, hb18⟩
           obtain ⟨s18, hs18⟩ : ∃ s, w18.heap.size = s := ⟨_, rfl⟩
           have t18 : s17 ≤ s18 := by rw [← hs18, ← HS17.out]; exact hb18.size
           have HS18 := Lib.hid hs18
           replace Ha := hide ((unhide Ha).bel hb18)
           replace Hb := hide ((unhide Hb).bel hb18)
           replace Hd := hide ((unhide Hd).bel hb18)
           replace Hf := hide ((unhide Hf).bel hb18)
           replace Hx := hide ((unhide Hx).bel hb18)
           replace Hy := hide ((unhide Hy).bel hb18)
           replace HIN := hide ((unhide HIN).below hb18)
           replace HPIN := hide ((unhide HPIN).below hb18)
           replace HB := hide ((unhide HB).trans (hb18.mono (unhide HB).size))
           have hC := way_any cs2 (some ⟨g, 0, none⟩) n gc w18.heap.size w18 (unhide HIN).reads (Nat.le_refl _) (by omega)
           rw [(unhide HEQ).2.2.2.2] at hC
           have HC18 := hide hC
           clear hC
           clear hb18 hs18 HC17)
        | (go_at_call 15; refine (unhide HC18).mono ?_
           rintro e w19 ⟨rfl, hb19⟩
           obtain ⟨s19, hs19⟩ : ∃ s, w19.heap.size = s := ⟨_, rfl⟩
           have t19 : s18 ≤ s19 := by rw [← hs19, ← HS18.out]; exact hb19.size
           have HS19 := Lib.hid hs19
           replace Ha := hide ((unhide Ha).bel hb19)
           replace Hb := hide ((unhide Hb).bel hb19)
           replace Hd := hide ((unhide Hd).bel hb19)
           replace Hf := hide ((unhide Hf).bel hb19)
           replace Hx := hide ((unhide Hx).bel hb19)
           replace Hy := hide ((unhide Hy).bel hb19)
           replace HIN := hide ((unhide HIN).below hb19)
           replace HPIN := hide ((unhide HPIN).below hb19)
           replace HB := hide ((unhide HB).trans (hb19.mono (unhide HB).size))
           have HL19 := hide (lent_any (some ⟨g, 0, none⟩) n gc cs2 w19 (unhide HIN).reads (by omega))
           clear hb19 hs19 HC18)
        | (go_at_call 10; refine (unhide HL19).mono ?_
           rintro e w20 ⟨gl20, gcl20, rfl, _, _, _, hol20, hb20⟩
           have hrl20 := (cut_in hol20 HLEN2.out).reads
           obtain ⟨s20, hs20⟩ : ∃ s, w20.heap.size = s := ⟨_, rfl⟩
           have t20 : s19 ≤ s20 := by rw [← hs20, ← HS19.out]; exact hb20.size
           have HS20 := Lib.hid hs20
           replace Ha := hide ((unhide Ha).bel hb20)
           replace Hb := hide ((unhide Hb).bel hb20)
           replace Hd := hide ((unhide Hd).bel hb20)
           replace Hf := hide ((unhide Hf).bel hb20)
           replace Hx := hide ((unhide Hx).bel hb20)
           replace Hy := hide ((unhide Hy).bel hb20)
           replace HIN := hide ((unhide HIN).below hb20)
           replace HPIN := hide ((unhide HPIN).below hb20)
           replace HB := hide ((unhide HB).trans (hb20.mono (unhide HB).size))
           have hC := way_any cs2 (some ⟨gl20, 0, none⟩) n gcl20 w20.heap.size w20 hrl20 (Nat.le_refl _) (by omega)
           rw [(unhide HEQ).2.2.2.2] at hC
           have HC20 := hide hC
           clear hC
           clear hb20 hs20 hol20 hrl20 HL19)
        | (go_at_call 15; refine (unhide HC20).mono ?_
           rintro e w21 ⟨rfl, hb21⟩
           obtain ⟨s21, hs21⟩ : ∃ s, w21.heap.size = s := ⟨_, rfl⟩
           have t21 : s20 ≤ s21 := by rw [← hs21, ← HS20.out]; exact hb21.size
           have HS21 := Lib.hid hs21
           replace Ha := hide ((unhide Ha).bel hb21)
           replace Hb := hide ((unhide Hb).bel hb21)
           replace Hd := hide ((unhide Hd).bel hb21)
           replace Hf := hide ((unhide Hf).bel hb21)
           replace Hx := hide ((unhide Hx).bel hb21)
           replace Hy := hide ((unhide Hy).bel hb21)
           replace HIN := hide ((unhide HIN).below hb21)
           replace HPIN := hide ((unhide HPIN).below hb21)
           replace HB := hide ((unhide HB).trans (hb21.mono (unhide HB).size))
           have hC := alike_any Ad A n n n cap cs cs w21 w21.heap.size (unhide Hd).row.reads (((unhide HR).below (unhide HB)).more (unhide HB).size) (by omega) (Nat.le_refl _)
           rw [beq_self_eq_true] at hC
           have HC21 := hide hC
           clear hC
           clear hb21 hs21 HC20)
        | (go_at_call 25; refine (unhide HC21).mono ?_
           rintro e w22 ⟨rfl, hb22⟩
           obtain ⟨s22, hs22⟩ : ∃ s, w22.heap.size = s := ⟨_, rfl⟩
           have t22 : s21 ≤ s22 := by rw [← hs22, ← HS21.out]; exact hb22.size
           have HS22 := Lib.hid hs22
           replace Ha := hide ((unhide Ha).bel hb22)
           replace Hb := hide ((unhide Hb).bel hb22)
           replace Hd := hide ((unhide Hd).bel hb22)
           replace Hf := hide ((unhide Hf).bel hb22)
           replace Hx := hide ((unhide Hx).bel hb22)
           replace Hy := hide ((unhide Hy).bel hb22)
           replace HIN := hide ((unhide HIN).below hb22)
           replace HPIN := hide ((unhide HPIN).below hb22)
           replace HB := hide ((unhide HB).trans (hb22.mono (unhide HB).size))
           clear hb22 hs22 HC21))
      have HCHL : Hid (Chg w22 w22 (fun b => b = gp)) := Chg.refl _ _
      obtain ⟨pgx, hpgx⟩ : ∃ c, pg = c := ⟨_, rfl⟩
      have HLPX : Hid (pgx.length = L) := by show _ = _; rw [← hpgx]; exact HLP.out
      have hpin := unhide HPIN
      rw [hpgx] at hpin
      replace HPIN := hide hpin
      clear hpin hpgx
      go_loopg [20] L (fun q t W => ∃ (i : Nat) (xs : List UInt8), i + q = L ∧ t = .int .i64 (i : Int) ∧ xs.length = L ∧ Row W 5 (.slice (some ⟨gp, 0, none⟩) L gpc) L (xs.map bv) ∧ Chg w22 W (fun b => b = gp))
      case atStart => exact ⟨0, pgx, by omega, rfl, HLPX.out, unhide HPIN, unhide HCHL⟩
      case round =>
        obtain ⟨i, xs, hi, rfl, hxl, hrow, hch⟩ := hrel
        clear HPIN HCHL HLPX
        by_cases hlt : i < L
        · obtain ⟨q, rfl⟩ : ∃ q, gk = q + 1 := ⟨gk - 1, by omega⟩
          have hiI : (i : Int) < (L : Int) := by omega
          have hi0 : (0 : Int) ≤ (i : Int) := by omega
          obtain ⟨x, hx⟩ : ∃ x, xs[i]? = some x := ⟨_, List.getElem?_eq_getElem (by omega)⟩
          obtain ⟨X, hX⟩ : ∃ X, x.toNat = X := ⟨_, rfl⟩
          have hx4 : X < 256 := by rw [← hX]; exact x.toNat_lt
          have hcell : wr.cell? ⟨gp, i, none⟩ = some (.int .u8 (X : Int)) := by rw [hrow.cellAt hlt, List.getElem?_map, hx, ← hX]; rfl
          have hf : wr.frozen? ⟨gp, i, none⟩ = false := hrow.frozenAt i
          obtain ⟨P, hP⟩ : ∃ P, i % 256 = P := ⟨_, rfl⟩
          have a1 : IntKind.u8.wrap (i : Int) = (P : Int) := by rw [IntKind.wrap_u8]; omega
          have a1' : (i : Int) % 256 = (P : Int) := by omega
          obtain ⟨Z, hZ⟩ : ∃ Z, (X + P) % 256 = Z := ⟨_, rfl⟩
          have a5 : IntKind.u8.wrap ((X : Int) + (P : Int)) = (Z : Int) := by rw [IntKind.wrap_u8]; omega
          have hZ4 : Z < 256 := by omega
          clear hP hZ
          have hst := hrow.store i (.int .u8 (Z : Int))
          rw [← bv_nat2 Z hZ4, ← List.map_set, bv_nat2 Z hZ4] at hst
          have HST := hide hst
          have HCH2 := hide (hch.set_ ⟨gp, i, none⟩ (.int .u8 (Z : Int)) (fun _ => rfl))
          have HXL := Lib.hid hxl
          clear hrow hch hst hx hX hxl hZ4
          go_wp2_with fail
          go_roundg q
          case rel => exact ⟨i + 1, xs.set i (UInt8.ofNat Z), by omega, by go_num, by rw [List.length_set]; exact HXL.out, unhide HST, unhide HCH2⟩
          case measure => omega
        · obtain rfl : L = i := by omega
          obtain ⟨pz, hcs⟩ : ∃ c, xs = c := ⟨_, rfl⟩
          rw [hcs] at hxl hrow
          clear hcs
          have HLPZ := Lib.hid hxl
          have HPIN := hide hrow
          obtain ⟨w23, hw23⟩ : ∃ w, wr = w := ⟨_, rfl⟩
          rw [hw23] at hch HPIN ⊢
          clear hw23
          obtain ⟨s23, hs23⟩ : ∃ s, w23.heap.size = s := ⟨_, rfl⟩
          have t23 : s22 ≤ s23 := by rw [← hs23, ← HS22.out]; exact hch.size
          have HS23 := Lib.hid hs23
          replace Ha := hide ((unhide Ha).chg hch (fun b h1 h2 e => by omega))
          replace Hb := hide ((unhide Hb).chg hch (fun b h1 h2 e => by omega))
          replace Hd := hide ((unhide Hd).chg hch (fun b h1 h2 e => by omega))
          replace Hf := hide ((unhide Hf).chg hch (fun b h1 h2 e => by omega))
          replace Hx := hide ((unhide Hx).chg hch (fun b h1 h2 e => by omega))
          replace Hy := hide ((unhide Hy).chg hch (fun b h1 h2 e => by omega))
          replace HB := hide ((unhide HB).trans (hch.below (unhide HB).size (fun i hi e => by omega)))
          clear hrow hch hxl hs23 HIN
          have hD := hide (decode_any (some ⟨gp, 0, none⟩) L gpc w23.heap.size (n : Int) pz w23 (unhide HPIN).reads (Nat.le_refl _) (by omega) (by omega))
          go_wp2_with fail
          refine (unhide hD).mono ?_
          rintro e w24 ⟨Al, cl, kl, rfl, _, ⟨hrw, hlo⟩, hb24, hdecl⟩
          obtain ⟨s24, hs24⟩ : ∃ s, w24.heap.size = s := ⟨_, rfl⟩
          have t24 : s23 ≤ s24 := by rw [← hs24, ← HS23.out]; exact hb24.size
          have HS24 := Lib.hid hs24
          replace Ha := hide ((unhide Ha).bel hb24)
          replace Hb := hide ((unhide Hb).bel hb24)
          replace Hd := hide ((unhide Hd).bel hb24)
          replace Hf := hide ((unhide Hf).bel hb24)
          replace Hx := hide ((unhide Hx).bel hb24)
          replace Hy := hide ((unhide Hy).bel hb24)
          replace HPIN := hide ((unhide HPIN).below hb24)
          replace HB := hide ((unhide HB).trans (hb24.mono (unhide HB).size))
          obtain ⟨nl, hnl⟩ : ∃ k, cl.length = k := ⟨_, rfl⟩
          have hnl5 : nl ≤ 65536 := by
            rw [← hnl]
            rcases hdecl with ⟨_, h, _⟩ | ⟨h1, h2, ⟨_, h, _⟩ | ⟨_, h, _⟩⟩
            · simp [h]
            · simp [h]
            · omega
          have HNL := Lib.hid hnl
          rw [hnl] at hrw ⊢
          have Hl := hide (Ob.dec hrw hlo)
          rw [HS23.out, hs24] at Hl
          have HDECL := hide hdecl
          have hLb := hide (lentBytes_any (some ⟨gp, 0, none⟩) L gpc pz w24 (unhide HPIN).reads (by omega))
          clear hrw hlo hdecl hnl hb24 hs24 hD
          go_wp2_with fail
          refine (unhide hLb).mono ?_
          rintro e w25 ⟨g25, gc25, rfl, hgc25, _, _, ho25, hb25⟩
          have hr25 := (cut_inb ho25 HLPZ.out).reads
          obtain ⟨s25, hs25⟩ : ∃ s, w25.heap.size = s := ⟨_, rfl⟩
          have t25 : s24 ≤ s25 := by rw [← hs25, ← HS24.out]; exact hb25.size
          have HS25 := Lib.hid hs25
          replace Ha := hide ((unhide Ha).bel hb25)
          replace Hb := hide ((unhide Hb).bel hb25)
          replace Hd := hide ((unhide Hd).bel hb25)
          replace Hf := hide ((unhide Hf).bel hb25)
          replace Hx := hide ((unhide Hx).bel hb25)
          replace Hy := hide ((unhide Hy).bel hb25)
          replace Hl := hide ((unhide Hl).bel hb25)
          replace HB := hide ((unhide HB).trans (hb25.mono (unhide HB).size))
          have hD := hide (decode_any (some ⟨g25, 0, none⟩) L gc25 w25.heap.size (n : Int) pz w25 hr25 (Nat.le_refl _) (by omega) (by omega))
          clear ho25 hb25 hs25 hr25 hLb HPIN
          go_wp2_with fail
          refine (unhide hD).mono ?_
          rintro e w26 ⟨Am, cm, km, rfl, _, ⟨hrw, hlo⟩, hb26, hdecm⟩
          obtain ⟨rfl, rfl⟩ := dec_one (unhide HDECL) hdecm
          rw [HNL.out] at hrw ⊢
          obtain ⟨s26, hs26⟩ : ∃ s, w26.heap.size = s := ⟨_, rfl⟩
          have t26 : s25 ≤ s26 := by rw [← hs26, ← HS25.out]; exact hb26.size
          have HS26 := Lib.hid hs26
          replace Ha := hide ((unhide Ha).bel hb26)
          replace Hb := hide ((unhide Hb).bel hb26)
          replace Hd := hide ((unhide Hd).bel hb26)
          replace Hf := hide ((unhide Hf).bel hb26)
          replace Hx := hide ((unhide Hx).bel hb26)
          replace Hy := hide ((unhide Hy).bel hb26)
          replace Hl := hide ((unhide Hl).bel hb26)
          replace HB := hide ((unhide HB).trans (hb26.mono (unhide HB).size))
          have Hm := hide (Ob.dec hrw hlo)
          rw [HS25.out, hs26] at Hm
          have hA1 := alike_any Al Am nl nl nl nl cl cl w26 w26.heap.size (unhide Hl).row.reads (unhide Hm).row.reads (by omega) (Nat.le_refl _)
          rw [beq_self_eq_true] at hA1
          have HA1 := hide hA1
          clear hA1 hrw hlo hdecm hb26 hs26 hD HDECL
          go_wp2_with (first
            | (go_at_call 25; refine (unhide HA1).mono ?_
               rintro e w27 ⟨rfl, hb27⟩
               obtain ⟨s27, hs27⟩ : ∃ s, w27.heap.size = s := ⟨_, rfl⟩
               have t27 : s26 ≤ s27 := by rw [← hs27, ← HS26.out]; exact hb27.size
               have HS27 := Lib.hid hs27
               replace Ha := hide ((unhide Ha).bel hb27)
               replace Hb := hide ((unhide Hb).bel hb27)
               replace Hd := hide ((unhide Hd).bel hb27)
               replace Hf := hide ((unhide Hf).bel hb27)
               replace Hx := hide ((unhide Hx).bel hb27)
               replace Hy := hide ((unhide Hy).bel hb27)
               replace Hl := hide ((unhide Hl).bel hb27)
               replace Hm := hide ((unhide Hm).bel hb27)
               replace HB := hide ((unhide HB).trans (hb27.mono (unhide HB).size))
               have hA2 := alike_any Af A n n n cap cs cs w27 w27.heap.size (unhide Hf).row.reads (((unhide HR).below (unhide HB)).more (unhide HB).size) (by omega) (Nat.le_refl _)
               rw [beq_self_eq_true] at hA2
               have HA2 := hide hA2
               clear hA2 hb27 hs27 HA1)
            | (go_at_call 25; refine (unhide HA2).mono ?_
               rintro e w28 ⟨rfl, hb28⟩
               obtain ⟨s28, hs28⟩ : ∃ s, w28.heap.size = s := ⟨_, rfl⟩
               have t28 : s27 ≤ s28 := by rw [← hs28, ← HS27.out]; exact hb28.size
               have HS28 := Lib.hid hs28
               replace Ha := hide ((unhide Ha).bel hb28)
               replace Hb := hide ((unhide Hb).bel hb28)
               replace Hd := hide ((unhide Hd).bel hb28)
               replace Hf := hide ((unhide Hf).bel hb28)
               replace Hx := hide ((unhide Hx).bel hb28)
               replace Hy := hide ((unhide Hy).bel hb28)
               replace Hl := hide ((unhide Hl).bel hb28)
               replace Hm := hide ((unhide Hm).bel hb28)
               replace HB := hide ((unhide HB).trans (hb28.mono (unhide HB).size))
               clear hb28 hs28 HA2))
          obtain ⟨W29, hW29⟩ : ∃ W, w28.alloc (.cells #[.slice Aa L ca, .slice Ab L cb, .slice Ax L2 cx, .slice Ay L2 cy] 24) = W := ⟨_, rfl⟩
          have hb29 : Below w28.heap.size w28 W29 := by rw [← hW29]; exact (Below.refl _ _).alloc (Nat.le_refl _) _
          have hx29 : Blk W29 w28.heap.size 24 #[.slice Aa L ca, .slice Ab L cb, .slice Ax L2 cx, .slice Ay L2 cy] := by rw [← hW29]; exact Blk.new _ _ _
          replace Ha := hide ((unhide Ha).bel hb29)
          replace Hb := hide ((unhide Hb).bel hb29)
          replace Hd := hide ((unhide Hd).bel hb29)
          replace Hf := hide ((unhide Hf).bel hb29)
          replace Hx := hide ((unhide Hx).bel hb29)
          replace Hy := hide ((unhide Hy).bel hb29)
          replace Hl := hide ((unhide Hl).bel hb29)
          replace Hm := hide ((unhide Hm).bel hb29)
          replace HB := hide ((unhide HB).trans (hb29.mono (unhide HB).size))
          have hAp := apart_any w28.heap.size (q4 (.slice Aa L ca) (.slice Ab L cb) (.slice Ax L2 cx) (.slice Ay L2 cy)) _ (q4 L L L2 L2) (q4 (pg.map bv) (pg.map bv) (pg2.map bv) (pg2.map bv)) W29 (rws4 (unhide Ha) (unhide Hb) (unhide Hx) (unhide Hy) (by omega) (by omega) (by omega) (by omega) (by omega))
            (q4_len (unhide Ha).row.1 (unhide Hb).row.1 (unhide Hx).row.1 (unhide Hy).row.1) (q4_le (by omega) (by omega) (by omega) (by omega)) (q4_at _ _ _ _) hx29
          have HAp := hide hAp
          clear hAp hx29 hb29
          go_wp2_with (first
            | (go_at_call 28; rw [hW29]; refine (unhide HAp).mono ?_
               rintro e w30 ⟨rfl, hc30⟩
               have hft := ft_lo (unhide Ha) (unhide Hb) (unhide Hx) (unhide Hy) (B := w.heap.size) (by omega) (by omega) (by omega) (by omega)
               have Hd3 := hide ((unhide Hd).ft (by decide) (unhide Ha) (unhide Hb) (unhide Hx) (unhide Hy) hc30)
               have Hf3 := hide ((unhide Hf).ft (by decide) (unhide Ha) (unhide Hb) (unhide Hx) (unhide Hy) hc30)
               have Hl3 := hide ((unhide Hl).ft (by decide) (unhide Ha) (unhide Hb) (unhide Hx) (unhide Hy) hc30)
               have Hm3 := hide ((unhide Hm).ft (by decide) (unhide Ha) (unhide Hb) (unhide Hx) (unhide Hy) hc30)
               have HB3 := hide ((unhide HB).trans (hc30.below (unhide HB).size hft))
               obtain ⟨W31, hW31⟩ : ∃ W, w30.alloc (.cells #[.slice Ad n n, .slice Af n n, .slice Al nl nl, .slice Am nl nl] 22) = W := ⟨_, rfl⟩
               have hb31 : Below w30.heap.size w30 W31 := by rw [← hW31]; exact (Below.refl _ _).alloc (Nat.le_refl _) _
               have hx31 : Blk W31 w30.heap.size 22 #[.slice Ad n n, .slice Af n n, .slice Al nl nl, .slice Am nl nl] := by rw [← hW31]; exact Blk.new _ _ _
               replace Hd3 := hide ((unhide Hd3).bel hb31)
               replace Hf3 := hide ((unhide Hf3).bel hb31)
               replace Hl3 := hide ((unhide Hl3).bel hb31)
               replace Hm3 := hide ((unhide Hm3).bel hb31)
               replace HB3 := hide ((unhide HB3).trans (hb31.mono (unhide HB3).size))
               have hNp := numbersApart_any w30.heap.size (q4 (.slice Ad n n) (.slice Af n n) (.slice Al nl nl) (.slice Am nl nl)) _ (q4 n n nl nl) (q4 (cs.map uw) (cs.map uw) (cl.map uw) (cl.map uw)) W31 (rws4 (unhide Hd3) (unhide Hf3) (unhide Hl3) (unhide Hm3) (by omega) (by omega) (by omega) (by omega) (by omega))
                 (q4_len (unhide Hd3).row.1 (unhide Hf3).row.1 (unhide Hl3).row.1 (unhide Hm3).row.1) (q4_le (by omega) (by omega) (by omega) (by omega)) (q4_at _ _ _ _) hx31
               have HNp := hide hNp
               clear hNp hx31 hb31 hc30 hft HAp)
            | (go_at_call 29; (try rw [hW31]); refine (unhide HNp).mono ?_
               rintro e w32 ⟨rfl, hc32⟩
               have hft := ft_lo (unhide Hd3) (unhide Hf3) (unhide Hl3) (unhide Hm3) (B := w.heap.size) (by omega) (by omega) (by omega) (by omega)
               have HB4 := hide ((unhide HB3).trans (hc32.below (unhide HB3).size hft))
               have hL := hide (lent_any A n cap cs w32 (((unhide HR).below (unhide HB4)).more (unhide HB4).size) (by omega))
               clear hc32 hft HNp)
            | (go_at_call 10; refine (unhide hL).mono ?_
               rintro e w33 ⟨g33, gc33, rfl, hgc33, _, hg33, ho33, hb33⟩
               have HB5 := hide ((unhide HB4).trans (hb33.mono (unhide HB4).size))
               have hAg := hide (again_any cs g33 n gc33 T w33 (cut_in ho33 HLEN.out) (by omega) (by omega) (by omega))
               have hg33' : w.heap.size ≤ g33 := by have := (unhide HB4).size; omega
               clear ho33 hb33)
            | (go_at_call 30; refine (unhide hAg).mono ?_
               rintro e w34 ⟨rfl, hc34⟩
               have HB6 := hide ((unhide HB5).trans (hc34.below (unhide HB5).size (fun i hi e => by omega)))
               clear hc34))
          go_ret
          exact ⟨rfl, unhide HB6⟩
theorem columnOwn_walk (A : Option Addr) (n cap : Nat) (cs : List UInt32) (T : Nat) (w : World) (hr : Reads w w.heap.size 1 A n (cs.map uw)) (_hn : n ≤ 35184372087808) (hcap : n ≤ cap) (hT : T < U32) :
    Calls Try.prog 9 #[.slice A n cap, .int .u32 (T : Int)] w fun e w' => e = .returned (.bool true) ∧ Below w.heap.size w w' := by
  have hT' : T < 4294967296 := hT
  by_cases h : n ≤ 1000
  · exact colOwnA A n cap T cs w hr hT' h
  · exact colOwnB A n cap T cs w hr hcap hT' (by omega)
end Go.Proofs.Yteambdbcjcfdeaa
