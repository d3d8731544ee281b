/-
  Reading a column of the plain way: the walk over the Go text. Condition: fewer than 2^47 bytes, at most 65536 rows.
-/
import Derived.Test.YteambdbcjcfdeaaColEnc2
import Derived.Test.YteambdbcjcfdeaaColRd
namespace Go.Proofs.Yteambdbcjcfdeaa
open Go.RowKit

theorem elem_u32 : ElemOf Try.prog 22 40 1 4 := .mk' (.int .u32 0) Try.underlying22 (by kernel_rfl) rfl (by omega)
theorem cap4 {n : Nat} (h : n ≤ 35184372088832) : n ≤ maxLen ∧ n * 4 ≤ 140737488355328 := by
  simp only [maxLen]
  omega
theorem taken_yes (x : Nat) (w : World) (h : x < 4294967296) : Calls Try.prog 79 #[.int .u64 (x : Int)] w fun e w' => e = .returned (.tuple #[.int .u32 (x : Int), .bool true]) ∧ w = w' := by
  have h1 : (x : Int) ≤ 4294967295 := by omega
  go_enter Try.func79, Try.ntmps79
  go_wp2_with fail
  go_ret2
  exact ⟨rfl, rfl⟩
theorem taken_no (x : Nat) (w : World) (h : ¬ x < 4294967296) : Calls Try.prog 79 #[.int .u64 (x : Int)] w fun e w' => e = .returned (.tuple #[.int .u32 ((x : Int) % 4294967296), .bool false]) ∧ w = w' := by
  have h1 : ¬ (x : Int) ≤ 4294967295 := by omega
  have h2 : IntKind.u32.wrap (x : Int) = (x : Int) % 4294967296 := by simp [IntKind.wrap, IntKind.signed, IntKind.bits]
  go_enter Try.func79, Try.ntmps79
  go_wp2_with fail
  go_ret2
  exact ⟨by first | rfl | rw [h2], rfl⟩
theorem numS_at {bs : List UInt8} {p N : Nat} {rest : List UInt8} (h : bs.drop p = form N ++ rest) (hN : N < U64) : numS bs p 0 = (N, p + (form N).length, 0) := by
  have := get_form N hN rest
  rw [← h] at this
  exact numS_yes this
/-- What is read of a plain column at the place of its k-th number. -/
theorem plain_read {c : List UInt32} {k : Nat} {x : UInt32} (h : c[k]? = some x) :
    numS (plainS c) (plainS (c.take k)).length 0 = (x.toNat, (plainS (c.take (k + 1))).length, 0) ∧ (plainS (c.take k)).length < (plainS c).length := by
  have hs : plainS c = plainS (c.take k) ++ (form x.toNat ++ plainS (c.drop (k + 1))) := by
    have h1 : c = c.take (k + 1) ++ c.drop (k + 1) := (List.take_append_drop _ _).symm
    calc plainS c = plainS (c.take (k + 1) ++ c.drop (k + 1)) := by rw [← h1]
      _ = plainS (c.take (k + 1)) ++ plainS (c.drop (k + 1)) := by unfold plainS; rw [List.flatMap_append]
      _ = _ := by rw [plainS_take c h, List.append_assoc]
  have hd : (plainS c).drop (plainS (c.take k)).length = form x.toNat ++ plainS (c.drop (k + 1)) := by rw [hs, List.drop_left]
  have hx := u32_lt x
  refine ⟨?_, ?_⟩
  · rw [numS_at hd (by unfold U64; omega), plainS_take c h, List.length_append]
  · rw [hs, List.length_append, List.length_append]
    have := (form_len x.toNat).1
    omega
/-- Where a reader stands in a column's page. -/
def FitP (bs : List UInt8) (rows : Nat) (acc : List UInt32) (p : Nat) : Prop := ∀ c, plainS c = bs → c.length = rows → acc = c.take acc.length ∧ p = (plainS (c.take acc.length)).length
theorem fitP_next {bs : List UInt8} {rows : Nat} {acc : List UInt32} {p a p2 f : Nat} (h : FitP bs rows acc p) (hl : acc.length < rows) (hn : numS bs p 0 = (a, p2, f)) :
    (∀ c, plainS c = bs → c.length = rows → f = 0 ∧ a < 4294967296) ∧ (∀ x : UInt32, x.toNat = a → FitP bs rows (acc ++ [x]) p2) := by
  have key : ∀ c, plainS c = bs → c.length = rows → ∃ y, c[acc.length]? = some y ∧ a = y.toNat ∧ p2 = (plainS (c.take (acc.length + 1))).length ∧ f = 0 := fun c h1 h2 => by
    obtain ⟨_, e2⟩ := h c h1 h2
    have hy : c[acc.length]? = some c[acc.length] := List.getElem?_eq_getElem (by omega)
    have hr := (plain_read hy).1
    rw [h1, ← e2, hn] at hr
    simp only [Prod.mk.injEq] at hr
    exact ⟨_, hy, hr.1, hr.2.1, hr.2.2⟩
  refine ⟨fun c h1 h2 => ?_, fun x hx c h1 h2 => ?_⟩
  · obtain ⟨y, _, e, _, e3⟩ := key c h1 h2
    exact ⟨e3, by rw [e]; exact u32_lt y⟩
  · obtain ⟨y, hy, e, e2, _⟩ := key c h1 h2
    obtain ⟨e4, _⟩ := h c h1 h2
    have hxy : x = y := UInt32.toNat_inj.1 (by omega)
    subst hxy
    refine ⟨?_, by rw [List.length_append]; exact e2⟩
    rw [List.length_append, List.length_singleton, List.take_succ_eq_append_getElem (by omega), ← e4]
    congr 2
    have := List.getElem?_eq_some_iff.1 hy
    exact this.2.symm
theorem fitP_done {bs : List UInt8} {rows : Nat} {acc : List UInt32} {p : Nat} (h : FitP bs rows acc p) (hl : acc.length ≤ rows) (he : ¬ acc.length < rows ∨ ¬ p < bs.length) : ∀ c, plainS c = bs → c.length = rows → acc = c := fun c h1 h2 => by
  obtain ⟨e1, e2⟩ := h c h1 h2
  by_cases hk : acc.length < rows
  · have := (plain_read (c := c) (k := acc.length) (x := c[acc.length]) (List.getElem?_eq_getElem (by omega))).2
    rw [h1, ← e2] at this
    rcases he with he | he
    · exact absurd hk he
    · exact absurd this he
  · rw [e1, List.take_of_length_le (by omega)]

/-- What a reading of a column answers. -/
def RdOut (w : World) (lay : List UInt32 → List UInt8) (bs : List UInt8) (rows : Nat) (e : Ending) (w' : World) : Prop :=
  ∃ v c, e = .returned v ∧ w'.ownsRow w.heap.size 40 1 v c.length (c.map uw) ∧ c.length ≤ rows ∧ Below w.heap.size w w' ∧ ∀ c2, lay c2 = bs → c2.length = rows → c = c2

set_option maxRecDepth 100000 in
set_option maxHeartbeats 2000000 in
theorem readPlain_any (A : Option Addr) (N cap B rows : Nat) (bs : List UInt8) (w : World) (hr : Reads w B 1 A N (bs.map bv)) (hN : N ≤ 140737488355328) (hrows : rows ≤ 65536) :
    Calls Try.prog 55 #[.slice A N cap, .int .i64 (rows : Int)] w (RdOut w plainS bs rows) := by
  have hlen : bs.length = N := by have := hr.1; simpa using this
  have hNR := hide (newReader_any A N cap B bs w hr hN)
  clear hr
  go_enter Try.func55, Try.ntmps55
  go_wp2_with fail
  refine (unhide hNR).mono ?_
  rintro e W1 ⟨r, A1, c1, rfl, hrl, _, hrd, hb1⟩
  have hrlt := hrd.blk.lt
  have HRD := hide hrd
  have HB1 := hide hb1
  have hz1 := hb1.size
  have HF : Hid (FitP bs rows [] 0) := fun c _ _ => ⟨rfl, rfl⟩
  clear hrd hb1 hNR
  go_wp2_with fail
  go_loopg [5] rows (fun q t W => ∃ (acc : List UInt32) (p : Nat), acc.length + q = rows ∧ W.ownsRow W1.heap.size 40 1 t acc.length (acc.map uw) ∧ RdP W r A1 N c1 bs p 0 ∧ Below w.heap.size w W ∧ W1.heap.size ≤ W.heap.size ∧ FitP bs rows acc p)
  case atStart => exact ⟨[], 0, by simp, World.ownsRow_nil _ _ _ _, unhide HRD, unhide HB1, Nat.le_refl _, unhide HF⟩
  case round =>
    obtain ⟨acc, p, hq, ho, hrd, hb, hz, hfit⟩ := hrel
    clear HRD HB1 HF
    obtain ⟨At, ct, rfl⟩ := ho.shape
    obtain ⟨k, hk⟩ : ∃ k, acc.length = k := ⟨_, rfl⟩
    rw [hk] at hq ho
    rw [hk]
    have hL := hide (left_made wr r A1 N c1 bs p 0 hrd)
    have hple := hrd.le
    have HO := hide ho
    have HRD := hide hrd
    have HB := hide hb
    have HFIT := hide hfit
    have HK := Lib.hid hk
    clear ho hrd hb hfit hk
    by_cases hgo : p < N ∧ k < rows
    · obtain ⟨hg1, hg2⟩ := hgo
      obtain ⟨q, rfl⟩ : ∃ q, gk = q + 1 := ⟨gk - 1, by omega⟩
      have hd1 : (0 : Int) < ((N - p : Nat) : Int) := by omega
      have hd2 : (k : Int) < (rows : Int) := by omega
      go_wp2_with fail
      refine (unhide hL).mono ?_
      rintro e w2 ⟨rfl, m2, rfl⟩
      have hNm := num_made (wr.drewN m2) r A1 N c1 bs p 0 ((unhide HRD).drewN m2)
      obtain ⟨⟨a, p2, f⟩, hnS⟩ : ∃ t, numS bs p 0 = t := ⟨_, rfl⟩
      obtain ⟨hfn1, hfn2⟩ := fitP_next (unhide HFIT) (by rw [HK.out]; exact hg2) hnS
      rw [hnS] at hNm
      have HNM := hide hNm
      have HF1 := hide hfn1
      have HF2 := hide hfn2
      clear hNm hnS hfn1 hfn2 hL
      go_wp2_with fail
      refine (unhide HNM).mono ?_
      rintro e w3 ⟨rfl, ha3⟩
      have HA3 := hide ha3
      have hE := hide (err_made w3 r A1 N c1 bs p2 f ha3.1)
      clear ha3 HNM
      have ho3 := (unhide HA3).2.own ((unhide HO)) (fun i h1 h2 => by have := ((unhide HO).lt i h1).1; omega)
      have hb3 := (below_drewN (unhide HB) m2).trans ((unhide HA3).2.below (below_drewN (unhide HB) m2).size (fun i h1 h2 => by omega))
      have hz3 := (unhide HA3).2.size
      have HO3 := hide ho3
      have HB3 := hide hb3
      clear ho3 hb3 HO HB HRD
      by_cases hx : a < 4294967296
      · go_wp2_with fail
        refine (taken_yes a w3 hx).mono ?_
        rintro e w4 ⟨rfl, rfl⟩
        go_wp2_with fail
        refine (unhide hE).mono ?_
        rintro e w5 ⟨rfl, rfl⟩
        by_cases hf : f = 0
        · subst hf
          have HC : Hid (k + 1 ≤ maxLen ∧ (k + 1) * 4 ≤ 140737488355328) := cap4 (by omega)
          have hzw : W1.heap.size ≤ w3.heap.size := Nat.le_trans hz hz3
          have hRA := (unhide HA3).1
          have HRA := hide hRA
          clear hRA HA3 hE
          go_wp2_with (first
            | (at_builtin
               refine wpList_app1 w3 rfl (.tmp 33) (.tmp 35) 22 rfl elem_u32 W1.heap.size (.slice At k ct) k (acc.map uw) rfl (unhide HO3) (.int .u32 (a : Int)) w3.heap.size rfl rfl rfl HC.out hzw ?_
               intro v5 w5 ho5 hg5 hr5
               obtain ⟨A5, c5, rfl⟩ := ho5.shape
               have HO5 := hide ho5
               have HR5 := hide ((unhide HRA).chg (Chg.of_grown hg5) (fun i h1 h2 => by have := ((unhide HO3).lt i h2).1; omega))
               have HB5 := hide ((unhide HB3).grown hg5 (by have := (unhide HB3).size; omega) (fun i e => by have := ((unhide HO3).lt i e).1; omega))
               have hz5 := hg5.size
               clear ho5 hg5 hr5))
          have hxa : (UInt32.ofNat a).toNat = a := by rw [UInt32.toNat_ofNat']; omega
          go_roundg q
          case rel =>
            refine ⟨acc ++ [UInt32.ofNat a], p2, by rw [List.length_append, HK.out]; simp; omega, ?_, unhide HR5, unhide HB5, by omega, unhide HF2 _ hxa⟩
            have h := unhide HO5
            rw [List.length_append, HK.out, List.map_append, List.map_cons, List.map_nil, uw, hxa]
            exact h
          case measure => omega
        · have hfb : ((f : Int) != 0) = true := by simp; omega
          go_wp2_with fail
          go_ret
          exact ⟨_, acc, rfl, HK.out ▸ ((unhide HO3).base (by omega) : w3.ownsRow w.heap.size _ _ _ _ _), by rw [HK.out]; omega, unhide HB3, fun c2 h1 h2 => absurd (unhide HF1 c2 h1 h2) (by omega)⟩
      · go_wp2_with fail
        refine (taken_no a w3 hx).mono ?_
        rintro e w4 ⟨rfl, rfl⟩
        go_wp2_with fail
        refine (unhide hE).mono ?_
        rintro e w5 ⟨rfl, rfl⟩
        by_cases hf : f = 0
        · subst hf
          go_wp2_with fail
          go_ret
          exact ⟨_, acc, rfl, HK.out ▸ ((unhide HO3).base (by omega) : w3.ownsRow w.heap.size _ _ _ _ _), by rw [HK.out]; omega, unhide HB3, fun c2 h1 h2 => absurd (unhide HF1 c2 h1 h2) (by omega)⟩
        · have hfb : ((f : Int) != 0) = true := by simp; omega
          go_wp2_with fail
          go_ret
          exact ⟨_, acc, rfl, HK.out ▸ ((unhide HO3).base (by omega) : w3.ownsRow w.heap.size _ _ _ _ _), by rw [HK.out]; omega, unhide HB3, fun c2 h1 h2 => absurd (unhide HF1 c2 h1 h2) (by omega)⟩
    · have hfin := fitP_done (unhide HFIT) (by rw [HK.out]; omega) (by rw [HK.out, hlen]; omega)
      have HFIN := hide hfin
      clear hfin
      by_cases hp : p < N
      · have hd1 : (0 : Int) < ((N - p : Nat) : Int) := by omega
        have hd2 : ¬ (k : Int) < (rows : Int) := by omega
        go_wp2_with fail
        refine (unhide hL).mono ?_
        rintro e w2 ⟨rfl, m2, rfl⟩
        go_wp2_with fail
        go_ret
        exact ⟨_, acc, rfl, HK.out ▸ ((unhide HO).base (by omega) : wr.ownsRow w.heap.size _ _ _ _ _), by rw [HK.out]; omega, below_drewN (unhide HB) _, unhide HFIN⟩
      · have hd1 : ¬ (0 : Int) < ((N - p : Nat) : Int) := by omega
        go_wp2_with fail
        refine (unhide hL).mono ?_
        rintro e w2 ⟨rfl, m2, rfl⟩
        go_wp2_with fail
        go_ret
        exact ⟨_, acc, rfl, HK.out ▸ ((unhide HO).base (by omega) : wr.ownsRow w.heap.size _ _ _ _ _), by rw [HK.out]; omega, below_drewN (unhide HB) _, unhide HFIN⟩
end Go.Proofs.Yteambdbcjcfdeaa
