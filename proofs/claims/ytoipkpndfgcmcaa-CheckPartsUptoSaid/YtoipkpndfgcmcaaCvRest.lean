/-
  What is left of Parts behind Wait: the sums joined; the maths of joined sums. The conditions stand in each theorem.
-/
import Derived.Test.YtoipkpndfgcmcaaCvStart
import Derived.Test.YtoipkpndfgcmcaaCrcJoinW
namespace Go.Proofs.Ytoipkpndfgcmcaa.Crew
open Go Go.RowKit
set_option linter.unusedVariables false
set_option linter.unusedSectionVars false
set_option linter.unusedSimpArgs false
theorem crc_lin (x y : Nat) (bs : List UInt8) : crc (x ^^^ y) bs = zer bs.length x ^^^ crc y bs := by
  induction bs generalizing x y with
  | nil => rfl
  | cons c bs ih =>
    have h1 : crc (x ^^^ y) (c :: bs) = crc (tk (x ^^^ y) c) bs := rfl
    have h2 : crc y (c :: bs) = crc (tk y c) bs := rfl
    have h3 : tk (x ^^^ y) c = stp8 x ^^^ tk y c := by unfold tk; rw [Nat.xor_assoc, stp8_xor]
    rw [h1, h2, h3, ih, List.length_cons, zer_add, zer_one]
/-- A part's sum joined. -/
theorem jn_upd (s : Nat) (bs : List UInt8) : jn s (upd 0 bs) bs.length = upd s bs := by
  unfold jn upd
  rw [Nat.zero_xor, crc_lin s ONES bs, Nat.xor_assoc]
/-- The sum of the parts. -/
def sumP (ps : List (List UInt8)) : Nat := ps.foldl upd 0
theorem sumP_succ {ps : List (List UInt8)} {k : Nat} (h : k < ps.length) : sumP (ps.take (k + 1)) = upd (sumP (ps.take k)) (ps.getD k []) := by
  unfold sumP
  rw [List.take_add_one, List.foldl_append]
  simp [List.getElem?_eq_getElem h]
theorem sumP_lt (ps : List (List UInt8)) : sumP ps < U32 := by
  unfold sumP
  have : ∀ s, s < U32 → ps.foldl upd s < U32 := by
    induction ps with
    | nil => exact fun s h => h
    | cons b ps ih => exact fun s h => ih _ (upd_lt h b)
  exact this 0 (by decide)
/-- What Parts finds behind Wait. -/
structure RestW (v : World) (N n : Nat) (a0 : Option Addr) (ps : List (List UInt8)) (sl : Nat → Option Addr × Nat) : Prop where
  len : ps.length = n
  lt : N + 1 < v.heap.size
  pay : ∀ k, k < n → v.cell? ⟨N, k, none⟩ = some (.int .u32 (upd 0 (ps.getD k []) : Nat))
  sums : v.cell? ⟨N + 1, 0, none⟩ = some (.slice (some ⟨N, 0, none⟩) n n)
  parts : 0 < n → ∃ g off, a0 = some ⟨g, off, none⟩ ∧ g < N ∧ ∀ j, j < n → v.cell? ⟨g, off + j, none⟩ = some (.slice (sl j).1 (ps.getD j []).length (sl j).2)
set_option maxRecDepth 100000 in
set_option maxHeartbeats 4000000 in
theorem rest_any {v : World} {N n cap : Nat} {a0 : Option Addr} {ps : List (List UInt8)} {sl : Nat → Option Addr × Nat} (h : RestW v N n a0 ps sl) (hn : n < 2147483648) (hB : ∀ j, j < n → (ps.getD j []).length ≤ 140737488355328) (T : Array Value) (hT : T.size = 44) (t0 : T[0]? = some (.slice a0 n cap)) (t3 : T[3]? = some (.pointer (some ⟨N + 1, 0, none⟩))) :
    (seqTail (R38of (bodyOf Try.f38))).wp Try.prog (bodyPost Try.prog Try.f38 fun e w' => e = .returned (.int .u32 (sumP ps : Nat)) ∧ Below v.heap.size v w') { tmps := T, defers := [] } v := by
  obtain ⟨v0, v1, v2, v3, v4, v5, v6, v7, v8, v9, v10, v11, v12, v13, v14, v15, v16, v17, v18, v19, v20, v21, v22, v23, v24, v25, v26, v27, v28, v29, v30, v31, v32, v33, v34, v35, v36, v37, v38, v39, v40, v41, v42, v43, rfl⟩ := array44 T hT
  simp only [List.getElem?_toArray, List.getElem?_cons_succ, List.getElem?_cons_zero, Option.some.injEq] at t0 t3
  subst t0 t3
  have HR := hide h
  clear h
  simp only [R38of, seqTails, seqTail, bodyOf, Try.f38, Option.getD_some]
  go_wp2
  go_loopg [7, 26] n (fun q t i wr => ∃ k s : Nat, k + q = n ∧ i = .int .i64 (k : Int) ∧ t = .int .u32 (s : Int) ∧ Hid (s = sumP (ps.take k)) ∧ Below v.heap.size v wr)
  case atStart => exact ⟨0, 0, by omega, rfl, rfl, rfl, Below.refl _ _⟩
  case round =>
    obtain ⟨k, s, hk, rfl, rfl, hs, hb⟩ := hrel
    by_cases hlt : k < n
    · obtain ⟨q, rfl⟩ : ∃ q, gk = q + 1 := ⟨gk - 1, by omega⟩
      have h0 := unhide HR
      obtain ⟨g, off, rfl, hg, hcell⟩ := h0.parts (by omega)
      obtain ⟨bs, hbs⟩ : ∃ bs, ps.getD k [] = bs := ⟨_, rfl⟩
      have hlen := hB k hlt
      have hcp := hcell k hlt
      have hpy := h0.pay k hlt
      rw [hbs] at hlen hcp hpy
      obtain ⟨u, hu⟩ : ∃ u, upd 0 bs = u := ⟨_, rfl⟩
      have hul : u < U32 := by rw [← hu]; exact upd_lt (by decide) bs
      have hsl : s < U32 := by rw [unhide hs]; exact sumP_lt _
      obtain ⟨m, hm⟩ : ∃ m, bs.length = m := ⟨_, rfl⟩
      rw [hm] at hlen hcp
      rw [hu] at hpy
      have HJ := hide (join_any s u m wr hsl hul (by omega))
      have HN := hide (show jn s u m = sumP (ps.take (k + 1)) by
        rw [sumP_succ (by rw [h0.len]; exact hlt), ← unhide hs, hbs, ← hu, ← hm]
        exact jn_upd s bs)
      obtain ⟨A, hA⟩ : ∃ A, (sl k).1 = A := ⟨_, rfl⟩
      obtain ⟨c, hc⟩ : ∃ c, (sl k).2 = c := ⟨_, rfl⟩
      rw [hA, hc] at hcp
      have hlo := h0.lt
      have c1 : wr.cell? ⟨g, off + k, none⟩ = some (.slice A m c) := (hb.cell (p := ⟨g, off + k, none⟩) (by show g < _; omega)).trans hcp
      have c2 : wr.cell? ⟨N + 1, 0, none⟩ = some (.slice (some ⟨N, 0, none⟩) n n) := (hb.cell (p := ⟨N + 1, 0, none⟩) (by show N + 1 < _; omega)).trans h0.sums
      have c3 : wr.cell? ⟨N, k, none⟩ = some (.int .u32 (u : Int)) := (hb.cell (p := ⟨N, k, none⟩) (by show N < _; omega)).trans hpy
      have HB := hide hb
      clear h0 hcell hcp hpy hs hb hbs hu hul hsl hm hA hc hlo
      go_wp2_with (go_at_call 33; refine (unhide HJ).mono ?_; rintro e w1 ⟨rfl, hb1⟩)
      go_roundg q
      case rel => exact ⟨k + 1, jn s u m, by omega, by go_num, rfl, unhide HN, (unhide HB).trans (hb1.mono (unhide HB).size)⟩
      case measure => omega
    · obtain rfl : k = n := by omega
      have hx : s = sumP ps := by rw [unhide hs, List.take_of_length_le (by rw [(unhide HR).len]; exact Nat.le_refl _)]
      have HB := hide hb
      clear hs hb
      go_wp2
      go_ret
      exact ⟨by rw [hx]; rfl, unhide HB⟩
end Go.Proofs.Ytoipkpndfgcmcaa.Crew
