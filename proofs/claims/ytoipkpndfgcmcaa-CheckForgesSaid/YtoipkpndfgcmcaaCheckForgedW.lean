/-
  CheckForged: the walk over the Go text of the statement. Conditions: fewer than 2^47 bytes; the place and the sum are what their types hold.
-/
import Derived.Test.YtoipkpndfgcmcaaCheckTellsW
import Derived.Test.YtoipkpndfgcmcaaCrcForgeW
namespace Go.Proofs.Ytoipkpndfgcmcaa
open Go.RowKit

/-- The bytes with k of the four at the place. -/
def fill4 (bs : List UInt8) (p : Nat) (fs : List UInt8) (k : Nat) : List UInt8 := bs.take p ++ (fs.take k ++ bs.drop (p + k))
theorem fill4_zero (bs : List UInt8) (p : Nat) (fs : List UInt8) : fill4 bs p fs 0 = bs := by simp [fill4]
theorem fill4_next {bs fs : List UInt8} {p k : Nat} {f : UInt8} (hp : p + k < bs.length) (hf : fs[k]? = some f) : (fill4 bs p fs k).set (p + k) f = fill4 bs p fs (k + 1) := by
  obtain ⟨hl, rfl⟩ := List.getElem?_eq_some_iff.1 hf
  unfold fill4
  have h1 : (bs.take p).length = p := by simp; omega
  have h2 : (fs.take k).length = k := by simp; omega
  rw [List.set_append_right _ _ (by omega), h1, List.set_append_right _ _ (by omega), h2]
  rw [show p + k - p - k = 0 by omega, List.drop_eq_getElem_cons hp, List.set_cons_zero, List.take_succ_eq_append_getElem hl, List.append_assoc]
  rfl
theorem fill4_len {bs fs : List UInt8} {p k : Nat} (hp : p + k ≤ bs.length) (hf : k ≤ fs.length) : (fill4 bs p fs k).length = bs.length := by
  simp [fill4]; omega

set_option maxRecDepth 100000 in
set_option maxHeartbeats 1600000 in
theorem checkForged_short (A : Option Addr) (n c : Nat) (bs : List UInt8) (at_ : Int) (x : Nat) (f0 f1 f2 f3 : UInt8) (w : World) (hr : Reads w w.heap.size 1 A n (bs.map bv)) (hn : n ≤ 140737488351232) (hnc : n ≤ c) (hs : n < 4) :
    Calls Try.prog 8 #[.slice A n c, .int .i64 at_, .int .u32 (x : Int), .agg #[bv f0, bv f1, bv f2, bv f3]] w fun e w' => e = .returned (.bool true) ∧ Below w.heap.size w w' := by
  have hlen : bs.length = n := by have := hr.1; simpa using this
  obtain ⟨W0, hW0⟩ : ∃ W, w.alloc (.cells #[bv f0, bv f1, bv f2, bv f3] 60) = W := ⟨_, rfl⟩
  have hb0 : Below w.heap.size w W0 := hW0 ▸ (Below.refl _ w).alloc (Nat.le_refl _) _
  have HA := fun w => hide (awake_any w)
  obtain ⟨sl, hsl⟩ : ∃ b, sealed bs = b := ⟨_, rfl⟩
  have hsll : sl.length = n + 4 := by rw [← hsl, ← hlen]; simp [sealed, le4_len]
  have hss : upd 0 sl = 558161692 := by rw [← hsl]; exact sealed_sum bs
  have hws : whole bs = false := whole_short (by omega)
  have rB : ∀ w', Below w.heap.size w w' → Reads w' w.heap.size 1 A n (bs.map bv) := fun w' h => hr.below h
  have cWh : ∀ w', Below w.heap.size w w' → Hid (Calls Try.prog 28 #[.slice A n c] w' fun e w2 => e = .returned (.bool false) ∧ Below w.heap.size w w2) := fun w' h => hide <| by
    rw [← hws]; exact (whole_any _ n c w.heap.size bs w' (rB w' h) (by omega) h.size hnc).mono fun e w2 ⟨he, hb⟩ => ⟨he, h.trans (hb.mono h.size)⟩
  have cSeal : ∀ w', Below w.heap.size w w' → Hid (Calls Try.prog 30 #[.slice A n c] w' fun e w2 => ∃ v, e = .returned v ∧ w2.ownsRow w'.heap.size 5 1 v (n + 4) (sl.map bv) ∧ Below w.heap.size w w2 ∧ Below w'.heap.size w' w2) := fun w' h => hide <| by
    rw [← hsl]; exact (seal_any _ n c w.heap.size bs w' (rB w' h) (by omega) h.size).mono fun e w2 ⟨v, he, ho, hb⟩ => ⟨v, he, ho, h.trans (hb.mono h.size), hb⟩
  have HB0 := hide hb0
  have hn4 : (n : Int) < 4 := by omega
  clear hb0 hr rB hsl hws
  go_enter Try.func8, Try.ntmps8
  go_wp2_with fail
  go_wp2_with (go_at_call 34; refine (unhide (HA _)).mono ?_; rintro e w1 ⟨rfl, hb1⟩)
  have HB1 := hide ((unhide HB0).trans (hb1.mono (unhide HB0).size))
  clear hb1
  go_wp2_with (go_at_call 28; refine (unhide (cWh _ (unhide HB1))).mono ?_; rintro e w2 ⟨rfl, hb2⟩)
  have HB2 := hide hb2
  clear hb2
  go_wp2_with (go_at_call 30; refine (unhide (cSeal _ (unhide HB2))).mono ?_; rintro e w3 ⟨v3, rfl, ho3, hb3, hc3⟩)
  obtain ⟨A3, c3, rfl⟩ := ho3.shape
  have cS := hide (sum_any sl A3 (n + 4 : Nat) c3 w3.heap.size w3 (Reads.of_own ho3) (by omega) (Nat.le_refl _))
  rw [hss] at cS
  have HB3 := hide hb3
  clear ho3 hb3 hc3
  go_wp2_with (go_at_call 24; refine (unhide cS).mono ?_; rintro e w4 ⟨rfl, hb4⟩)
  have HB4 := hide ((unhide HB3).trans (hb4.mono (unhide HB3).size))
  clear hb4
  go_ret
  exact ⟨rfl, unhide HB4⟩

theorem at4_fill (bs : List UInt8) (p : Nat) (f0 f1 f2 f3 : UInt8) : fill4 bs p [f0, f1, f2, f3] 4 = at4 bs p (num4 f0 f1 f2 f3) := by
  unfold fill4 at4
  rw [le4_num4]
  rfl
theorem forged_take {bs : List UInt8} {p x : Nat} (h : p + 4 ≤ bs.length) : (forged bs p x).take p = bs.take p := by
  unfold forged at4
  rw [List.take_append_of_le_length (by simp; omega), List.take_take, Nat.min_self]
theorem forged_drop {bs : List UInt8} {p x : Nat} (h : p + 4 ≤ bs.length) : (forged bs p x).drop (p + 4) = bs.drop (p + 4) := by
  unfold forged at4
  have h1 : (bs.take p).length = p := by simp; omega
  rw [List.drop_append, h1, List.drop_eq_nil_of_le (by omega), List.nil_append, List.drop_append, List.drop_eq_nil_of_le (by rw [le4_len]; omega), le4_len, show p + 4 - p - 4 = 0 by omega]
  rfl

set_option maxRecDepth 100000 in
set_option maxHeartbeats 1600000 in
theorem checkForged_long (A : Option Addr) (n c : Nat) (bs : List UInt8) (at_ : Int) (x : Nat) (f0 f1 f2 f3 : UInt8) (w : World) (hr : Reads w w.heap.size 1 A n (bs.map bv)) (hn : n ≤ 140737488351232) (hnc : n ≤ c) (h1 : -9223372036854775808 ≤ at_) (h2 : at_ ≤ 9223372036854775807) (hx : x < U32) (hs : 4 ≤ n) :
    Calls Try.prog 8 #[.slice A n c, .int .i64 at_, .int .u32 (x : Int), .agg #[bv f0, bv f1, bv f2, bv f3]] w fun e w' => e = .returned (.bool true) ∧ Below w.heap.size w w' := by
  have hlen : bs.length = n := by have := hr.1; simpa using this
  obtain ⟨W0, hW0⟩ : ∃ W, w.alloc (.cells #[bv f0, bv f1, bv f2, bv f3] 60) = W := ⟨_, rfl⟩
  have hb0 : Below w.heap.size w W0 := hW0 ▸ (Below.refl _ w).alloc (Nat.le_refl _) _
  have hk0 : Blk W0 w.heap.size 60 #[bv f0, bv f1, bv f2, bv f3] := hW0 ▸ Blk.new w _ _
  obtain ⟨L, hL⟩ : ∃ k, n - 4 = k := ⟨_, rfl⟩
  have hsub : (n : Int) - 4 = (L : Int) := by omega
  obtain ⟨p, hp⟩ : ∃ k, plc at_ L = k := ⟨_, rfl⟩
  have hpl : p ≤ L := hp ▸ plc_le _ _
  obtain ⟨P4, hP4⟩ : ∃ k, p + 4 = k := ⟨_, rfl⟩
  obtain ⟨F, hF⟩ : ∃ l, forged bs p x = l := ⟨_, rfl⟩
  have hFl : F.length = n := by rw [← hF, ← hlen]; exact at4_len _ (by omega)
  have hFs : upd 0 F = x := by rw [← hF]; exact forged_sum bs p hx
  have hFt : F.take p = bs.take p := by rw [← hF]; exact forged_take (by omega)
  have hFd : F.drop P4 = bs.drop P4 := by rw [← hF, ← hP4]; exact forged_drop (by omega)
  have HA := fun w => hide (awake_any w)
  have HNum := fun x w => hide (num_any x w)
  have HPl : ∀ w, Hid (Calls Try.prog 36 #[.int .i64 at_, .int .i64 (L : Int)] w fun e w' => e = .returned (.int .i64 (p : Int)) ∧ w = w') := fun w => hide <| by
    rw [← hp]; exact place_any at_ _ w h1 h2 (by omega)
  obtain ⟨sl, hsl⟩ : ∃ b, sealed bs = b := ⟨_, rfl⟩
  have hsll : sl.length = n + 4 := by rw [← hsl, ← hlen]; simp [sealed, le4_len]
  have hss : upd 0 sl = 558161692 := by rw [← hsl]; exact sealed_sum bs
  obtain ⟨z, hz⟩ : ∃ z, upd 0 bs = z := ⟨_, rfl⟩
  have hws : ((z : Int) == 558161692) = whole bs := by
    rw [whole_sum, hz, hlen, decide_eq_true hs, Bool.true_and, Bool.eq_iff_iff]
    simp only [beq_iff_eq]
    omega
  obtain ⟨wb, hwb⟩ : ∃ b, whole bs = b := ⟨_, rfl⟩
  rw [hwb] at hws
  have hne : (wb != wb) = false := by simp
  have hz0 : w.heap.size ≤ W0.heap.size := hb0.size
  have rB : ∀ w', Below W0.heap.size W0 w' → Reads w' W0.heap.size 1 A n (bs.map bv) := fun w' h => ((hr.below hb0).more hz0).below h
  have cWh : ∀ w', Below W0.heap.size W0 w' → Hid (Calls Try.prog 28 #[.slice A n c] w' fun e w2 => e = .returned (.bool wb) ∧ Below W0.heap.size W0 w2) := fun w' h => hide <| by
    rw [← hwb]; exact (whole_any _ n c W0.heap.size bs w' (rB w' h) (by omega) h.size hnc).mono fun e w2 ⟨he, hb⟩ => ⟨he, h.trans (hb.mono h.size)⟩
  have cSum : ∀ w', Below W0.heap.size W0 w' → Hid (Calls Try.prog 24 #[.slice A n c] w' fun e w2 => e = .returned (.int .u32 (z : Int)) ∧ Below W0.heap.size W0 w2) := fun w' h => hide <| by
    rw [← hz]; exact (sum_any bs _ n c W0.heap.size w' (rB w' h) (by omega) h.size).mono fun e w2 ⟨he, hb⟩ => ⟨he, h.trans (hb.mono h.size)⟩
  have cSeal : ∀ w', Below W0.heap.size W0 w' → Hid (Calls Try.prog 30 #[.slice A n c] w' fun e w2 => ∃ v, e = .returned v ∧ w2.ownsRow w'.heap.size 5 1 v (n + 4) (sl.map bv) ∧ Below W0.heap.size W0 w2 ∧ Below w'.heap.size w' w2) := fun w' h => hide <| by
    rw [← hsl]; exact (seal_any _ n c W0.heap.size bs w' (rB w' h) (by omega) h.size).mono fun e w2 ⟨v, he, ho, hb⟩ => ⟨v, he, ho, h.trans (hb.mono h.size), hb⟩
  have cForge : ∀ w' y, y < U32 → Below W0.heap.size W0 w' → Hid (Calls Try.prog 22 #[.slice A n c, .int .i64 (p : Int), .int .u32 (y : Int)] w' fun e w2 => ∃ v, e = .returned (.tuple #[v, .int .i64 0]) ∧ w2.ownsRow w'.heap.size 5 1 v n ((forged bs p y).map bv) ∧ Below W0.heap.size W0 w2 ∧ Below w'.heap.size w' w2) := fun w' y hy h => hide <|
    (forge_any A n c W0.heap.size p y bs w' (rB w' h) (by omega) h.size hy hnc (by omega)).mono fun e w2 ⟨v, he, ho, hb⟩ => ⟨v, he, ho, h.trans (hb.mono h.size), hb⟩
  have HB0 := hide (Below.refl W0.heap.size W0)
  have hKc : ∀ w' k, Below W0.heap.size W0 w' → w'.cell? ⟨w.heap.size, k, none⟩ = (#[bv f0, bv f1, bv f2, bv f3] : Array Value)[k]? := fun w' k h => (hk0.below h hk0.lt).cell k
  have HKc := fun w' k h => hide (hKc w' k h)
  have HBw := hide hb0
  have hn4 : 4 ≤ (n : Int) := by omega
  have HR := hide rB
  have HHp := hide hp
  clear hb0 hk0 hKc hr rB hsl h1 h2 hp hs
  go_enter Try.func8, Try.ntmps8
  go_wp2_with (go_at_call 34; refine (unhide (HA _)).mono ?_; rintro e w1 ⟨rfl, hb1⟩)
  have HB1 := hide ((unhide HB0).trans (hb1.mono (unhide HB0).size))
  clear hb1
  go_wp2_with (go_at_call 28; refine (unhide (cWh _ (unhide HB1))).mono ?_; rintro e w2 ⟨rfl, hb2⟩)
  have HB2 := hide hb2
  clear hb2
  go_wp2_with (go_at_call 24; refine (unhide (cSum _ (unhide HB2))).mono ?_; rintro e w3 ⟨rfl, hb3⟩)
  have HB3 := hide hb3
  clear hb3
  go_wp2_with (go_at_call 30; refine (unhide (cSeal _ (unhide HB3))).mono ?_; rintro e w4 ⟨v4, rfl, ho4, hb4, hc4⟩)
  obtain ⟨A4, c4, rfl⟩ := ho4.shape
  have cS := hide (sum_any sl A4 (n + 4 : Nat) c4 w4.heap.size w4 (Reads.of_own ho4) (by omega) (Nat.le_refl _))
  rw [hss] at cS
  have HB4 := hide hb4
  clear ho4 hb4 hc4
  go_wp2_with (go_at_call 24; refine (unhide cS).mono ?_; rintro e w5 ⟨rfl, hb5⟩)
  have HB5 := hide ((unhide HB4).trans (hb5.mono (unhide HB4).size))
  clear hb5 cS
  go_wp2_with (go_at_call 36; refine (unhide (HPl _)).mono ?_; rintro e w6 ⟨rfl, rfl⟩)
  go_wp2_with (go_at_call 22; refine (unhide (cForge _ x hx (unhide HB5))).mono ?_; rintro e w6 ⟨v6, rfl, ho6, hb6, hc6⟩)
  obtain ⟨A6, c6, rfl⟩ := ho6.shape
  rw [hF] at ho6
  have hnc6 : n ≤ c6 := own_capA ho6
  have r6 := Reads.of_own ho6
  have rb6 : Reads w6 w6.heap.size 1 A n (bs.map bv) := ((unhide HR) w6 hb6).more hb6.size
  have HO6 := hide ho6
  have HB6 := hide hb6
  have hSF : ∀ w', Below w6.heap.size w6 w' → Hid (Calls Try.prog 24 #[.slice A6 n c6] w' fun e w2 => e = .returned (.int .u32 (x : Int)) ∧ Below w6.heap.size w6 w2) := fun w' h => hide <| by
    rw [← hFs]; exact (sum_any F A6 n c6 w6.heap.size w' (r6.below h) (by omega) h.size).mono fun e w2 ⟨he, hb⟩ => ⟨he, h.trans (hb.mono h.size)⟩
  have hS1 : ∀ w', Below w6.heap.size w6 w' → Hid (Calls Try.prog 23 #[.slice A6 p c6, .slice A p c] w' fun e w2 => e = .returned (.bool true) ∧ Below w6.heap.size w6 w2) := fun w' h => hide <| by
    refine (same_any A6 A p c6 p c (F.take p) (bs.take p) w' w6.heap.size ((r6.upto_ (by omega)).below h) ((rb6.upto_ (by omega)).below h) (by omega) h.size).mono fun e w2 ⟨he, hb⟩ => ⟨?_, h.trans (hb.mono h.size)⟩
    rw [he, hFt]; simp
  have k6 := r6.cut (k := P4) (cap := c6) (by omega) hnc6
  have kb6 := rb6.cut (k := P4) (cap := c) (by omega) hnc
  obtain ⟨⟨iE, zE, eE1, eE2, eE3, eE4, eE5, eE6⟩, _⟩ := elem_u8
  have hsl6 := fun W => run_cut eE1 eE2 eE4 A6 c6 (k := P4) (n := n) (by omega) W
  have hslb := fun W => run_cut eE1 eE2 eE4 A c (k := P4) (n := n) (by omega) W
  obtain ⟨A6', hA6'⟩ : ∃ A', (if c6 = P4 then A6 else A6.map (·.add (P4 * 1))) = A' := ⟨_, rfl⟩
  obtain ⟨Ab', hAb'⟩ : ∃ A', (if c = P4 then A else A.map (·.add (P4 * 1))) = A' := ⟨_, rfl⟩
  obtain ⟨N', hN'⟩ : ∃ k, n - P4 = k := ⟨_, rfl⟩
  obtain ⟨C6', hC6'⟩ : ∃ k, c6 - P4 = k := ⟨_, rfl⟩
  obtain ⟨Cb', hCb'⟩ : ∃ k, c - P4 = k := ⟨_, rfl⟩
  rw [hA6', hN', Nat.mul_one, ← List.map_drop] at k6
  rw [hAb', hN', Nat.mul_one, ← List.map_drop] at kb6
  simp only [hA6', hN', hC6'] at hsl6
  simp only [hAb', hN', hCb'] at hslb
  have hS2 : ∀ w', Below w6.heap.size w6 w' → Hid (Calls Try.prog 23 #[.slice A6' N' C6', .slice Ab' N' Cb'] w' fun e w2 => e = .returned (.bool true) ∧ Below w6.heap.size w6 w2) := fun w' h => hide <| by
    refine (same_any A6' Ab' N' C6' N' Cb' (F.drop P4) (bs.drop P4) w' w6.heap.size (k6.below h) (kb6.below h) (by omega) h.size).mono fun e w2 ⟨he, hb⟩ => ⟨?_, h.trans (hb.mono h.size)⟩
    rw [he, hFd]; simp
  have hs4 : IntKind.i64.wrap ((p : Int) + 4) = (P4 : Int) := by rw [IntWalk.i64_in _ (by omega)]; omega
  have hb1 : (P4 : Int) ≤ (n : Int) := by omega
  have hb0 : (0 : Int) ≤ (P4 : Int) := by omega
  have hp0 : (0 : Int) ≤ (p : Int) := by omega
  have hp1 : (p : Int) ≤ (c : Int) := by omega
  have hp6 : (p : Int) ≤ (c6 : Int) := by omega
  clear k6 kb6 r6 rb6 hA6' hAb' hN' hC6' hCb' eE1 eE2 eE3 eE4 eE5 eE6 ho6 hb6 hc6
  have HL : Below w6.heap.size w6 w6 := Below.refl _ _
  go_region_held3 (fun w' => True) (trivial) ((first
    | (go_at_call 19; refine (unhide (HNum _ _)).mono ?_; rintro e w7 ⟨rfl, rfl⟩)
    | (go_at_call 24; refine (unhide (hSF _ ?_)).mono ?_; (first | assumption | exact HL.drew); rintro e w7 ⟨rfl, hb7⟩)
    | (go_at_call 23; (with_reducible refine (unhide (hS1 _ ?_)).mono ?_); (first | assumption | exact HL.drew); rintro e w8 ⟨rfl, hb8⟩)
    | (go_at_call 23; (with_reducible refine (unhide (hS2 _ ?_)).mono ?_); (first | assumption | exact HL.drew); rintro e w9 ⟨rfl, hb9⟩)))
  have HB9 := hide hb9
  clear hb9 hb8 hb7 HL hS1 hS2 hsl6 hslb hSF cWh cSum cSeal
  have r9 := ((unhide HR) w6 (unhide HB6)).below (((unhide HB9).mono (unhide HB6).size))
  have HR9 := hide (r9.more (Nat.le_trans (unhide HB6).size (unhide HB9).size))
  have HC : Hid (0 + n ≤ maxLen ∧ (0 + n) * 1 ≤ 140737488355328) := cap1 (by omega)
  clear r9
  go_wp2_with (first | (at_builtin; refine wpList_app _ rfl (.tmp 90) (.tmp 91) 29 rfl elem_u8 w9.heap.size (.slice none 0 0) 0 [] rfl (World.ownsRow_nil _ _ _ _) w9.heap.size A n c _ rfl (unhide HR9) (bv_one _) HC.out (Nat.le_refl _) ?_; intro v10 w10 hown10 hg10 hat10))
  have HB10 := hide (grownBy_below hg10 (Nat.le_refl _) (by simp [Value.ownBlock]))
  clear hg10 hat10
  rw [Nat.zero_add, List.nil_append, ← fill4_zero bs p [f0, f1, f2, f3]] at hown10
  obtain ⟨A10, c10, rfl⟩ := hown10.shape
  have hs40 : p + 4 ≤ n := by omega
  go_loopg [12] 4 (fun q t wr => ∃ k : Nat, k + q = 4 ∧ t = .int .i64 (k : Int) ∧ wr.ownsRow w9.heap.size 5 1 (.slice A10 n c10) n ((fill4 bs p [f0, f1, f2, f3] k).map bv) ∧ Below w9.heap.size w9 wr)
  case atStart => exact ⟨0, rfl, rfl, hown10, unhide HB10⟩
  case round =>
    obtain ⟨k, hk, rfl, ho, hb⟩ := hrel
    clear hown10 HB10 HC
    by_cases hlt : k < 4
    · obtain ⟨q, rfl⟩ : ∃ q, gk = q + 1 := ⟨gk - 1, by omega⟩
      obtain ⟨J, hJ⟩ : ∃ N, p + k = N := ⟨_, rfl⟩
      have hsum : IntKind.i64.wrap ((p : Int) + (k : Int)) = (J : Int) := by rw [IntWalk.i64_in _ (by omega)]; omega
      have hTl : (fill4 bs p [f0, f1, f2, f3] k).length = n := by rw [← hlen]; exact fill4_len (by omega) (by simp; omega)
      obtain ⟨f, hf⟩ : ∃ f, [f0, f1, f2, f3][k]? = some f := ⟨_, List.getElem?_eq_getElem (by simp; omega)⟩
      have hnx := fill4_next (bs := bs) (p := p) (k := k) (by omega) hf
      rw [hJ] at hnx
      have hcf : wr.cell? ⟨w.heap.size, k, none⟩ = some (.int .u8 (f.toNat : Int)) := by
        have h9 : Below W0.heap.size W0 wr := (unhide HB6).trans (((unhide HB9).mono (unhide HB6).size).trans (hb.mono (Nat.le_trans (unhide HB6).size (unhide HB9).size)))
        rw [unhide (HKc wr k h9)]
        have : ([bv f0, bv f1, bv f2, bv f3] : List Value)[k]? = ([f0, f1, f2, f3].map bv)[k]? := rfl
        simp only [List.getElem?_toArray]
        rw [this, List.getElem?_map, hf]
        rfl
      obtain ⟨g, cap, hv, hgw, _⟩ := ho.form (by omega)
      injection hv with e1 e2 e3
      subst e1 e3
      obtain ⟨d, hd⟩ : ∃ d, (fill4 bs p [f0, f1, f2, f3] k)[J]? = some d := ⟨_, List.getElem?_eq_getElem (by omega)⟩
      have hcz : wr.cell? ⟨g, J, none⟩ = some (.int .u8 (d.toNat : Int)) := by rw [ho.cellAt J (by omega), List.getElem?_map, hd]; rfl
      have hfz : wr.frozen? ⟨g, J, none⟩ = false := ho.frozenAt J
      have hJ0 : (0 : Int) ≤ (J : Int) := by omega
      have hJ1 : (J : Int) < (n : Int) := by omega
      have HZ := hide (ho.stored J (bv f))
      have HN := Lib.hid hnx
      have HB := hide (hb.setCell (p := ⟨g, J, none⟩) hgw (bv f))
      clear ho hb hnx hf hd hTl
      go_wp2
      go_roundg q
      case rel => exact ⟨k + 1, by omega, by go_num, by rw [← HN.out, List.map_set]; exact (unhide HZ).1, unhide HB⟩
      case measure => omega
    · obtain rfl : k = 4 := by omega
      rw [at4_fill] at ho
      have hq4 := num4_lt f0 f1 f2 f3
      obtain ⟨q4, hq⟩ : ∃ q, num4 f0 f1 f2 f3 = q := ⟨_, rfl⟩
      rw [hq] at ho hq4
      have hiff := forged_iff bs p q4 hq4 hx
      have honly := forged_only bs p q4 hq4
      rw [hF] at hiff
      have hTl : (at4 bs p q4).length = n := by rw [← hlen]; exact at4_len _ (by omega)
      obtain ⟨T, hT⟩ : ∃ T, at4 bs p q4 = T := ⟨_, rfl⟩
      rw [hT] at ho hiff honly hTl
      obtain ⟨y, hy⟩ : ∃ y, upd 0 T = y := ⟨_, rfl⟩
      have hyl : y < U32 := hy ▸ upd_lt (by decide) _
      rw [hy] at hiff honly
      have hcap := own_capA ho
      have hfin : (((y : Int) == (x : Int)) == (T == F)) = true := by
        rw [beq_iff_eq, Bool.eq_iff_iff]
        simp only [beq_iff_eq]
        rw [← hiff]
        omega
      have h69 : Below w6.heap.size w6 wr := (unhide HB9).trans (hb.mono (unhide HB9).size)
      have rT := Reads.of_own ho
      have rF := ((Reads.of_own (unhide HO6)).below h69).more h69.size
      have hb0r : Below W0.heap.size W0 wr := (unhide HB6).trans (h69.mono (unhide HB6).size)
      have hST := hide (sum_any T A10 n c10 wr.heap.size wr rT (by omega) (Nat.le_refl _))
      rw [hy] at hST
      have HBr := hide hb0r
      have hTF : ∀ w', Below wr.heap.size wr w' → Hid (Calls Try.prog 23 #[.slice A10 n c10, .slice A6 n c6] w' fun e w2 => e = .returned (.bool (T == F)) ∧ Below wr.heap.size wr w2) := fun w' h => hide <| by
        exact (same_any A10 A6 n c10 n c6 T F w' wr.heap.size (rT.below h) (rF.below h) (by omega) h.size).mono fun e w2 ⟨he, hb⟩ => ⟨he, h.trans (hb.mono h.size)⟩
      have hgT : ∀ w' A11 c11, Below wr.heap.size wr w' → Reads w' w'.heap.size 1 A11 n (T.map bv) → Hid (Calls Try.prog 23 #[.slice A11 n c11, .slice A10 n c10] w' fun e w2 => e = .returned (.bool true) ∧ Below wr.heap.size wr w2) := fun w' A11 c11 h h' => hide <| by
        refine (same_any A11 A10 n c11 n c10 T T w' w'.heap.size h' ((rT.below h).more h.size) (by omega) (Nat.le_refl _)).mono fun e w2 ⟨he, hb⟩ => ⟨?_, h.trans (hb.mono h.size)⟩
        rw [he]; simp
      obtain ⟨tf, htf⟩ : ∃ t, (T == F) = t := ⟨_, rfl⟩
      rw [htf] at hfin
      simp only [htf] at hTF
      clear ho hb h69 rT rF hb0r hiff hy hT HR9 HO6
      go_wp2_with (go_at_call 24; refine (unhide hST).mono ?_; rintro e w11 ⟨rfl, hb11⟩)
      have HC11 := hide hb11
      have HB11 := hide ((unhide HBr).trans (hb11.mono (unhide HBr).size))
      clear hb11 hST
      go_wp2_with (go_at_call 22; refine (unhide (cForge _ y hyl (unhide HB11))).mono ?_; rintro e w12 ⟨v12, rfl, ho12, hb12, hc12⟩)
      obtain ⟨A12, c12, rfl⟩ := ho12.shape
      rw [honly] at ho12
      have HC12 := hide ((unhide HC11).trans (hc12.mono (unhide HC11).size))
      have hS12 := hgT w12 A12 c12 (unhide HC12) (Reads.of_own ho12)
      clear hb12 hc12 ho12 honly hgT cForge
      go_wp2_with (go_at_call 19; refine (unhide (HNum _ _)).mono ?_; rintro e w13 ⟨rfl, rfl⟩)
      go_wp2_with (go_at_call 23; (with_reducible refine (unhide hS12).mono ?_); rintro e w13 ⟨rfl, hb13⟩)
      have HC13 := hide hb13
      clear hb13 hS12
      go_wp2_with (go_at_call 23; (with_reducible refine (unhide (hTF _ (unhide HC13))).mono ?_); rintro e w14 ⟨rfl, hb14⟩)
      go_ret
      exact ⟨rfl, (unhide HBw).trans ((((unhide HBr).trans (hb14.mono (unhide HBr).size))).mono (unhide HBw).size)⟩

theorem checkForged_walk (A : Option Addr) (n c : Nat) (bs : List UInt8) (at_ : Int) (x : Nat) (f0 f1 f2 f3 : UInt8) (w : World) (hr : Reads w w.heap.size 1 A n (bs.map bv)) (hn : n ≤ 140737488351232) (hnc : n ≤ c) (h1 : -9223372036854775808 ≤ at_) (h2 : at_ ≤ 9223372036854775807) (hx : x < U32) :
    Calls Try.prog 8 #[.slice A n c, .int .i64 at_, .int .u32 (x : Int), .agg #[bv f0, bv f1, bv f2, bv f3]] w fun e w' => e = .returned (.bool true) ∧ Below w.heap.size w w' := by
  by_cases hs : n < 4
  · exact checkForged_short A n c bs at_ x f0 f1 f2 f3 w hr hn hnc hs
  · exact checkForged_long A n c bs at_ x f0 f1 f2 f3 w hr hn hnc h1 h2 hx (by omega)
end Go.Proofs.Ytoipkpndfgcmcaa
