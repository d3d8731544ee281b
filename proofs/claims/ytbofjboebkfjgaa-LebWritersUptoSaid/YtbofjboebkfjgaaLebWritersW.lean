/-
  LebWriters: every call of several writers, in turns, and of none: the walk over the Go text of the statement. Condition: a script of at most 2^20 steps, each with at most 2^20 bytes.
-/
import Derived.Test.YtbofjboebkfjgaaLebRound
import Derived.Test.YtbofjboebkfjgaaLebReadersW
import Derived.Laws.MakeOwn
import Derived.Deep.CutRange
import Derived.Deep.CutBlock
import Derived.Deep.DeepCutAuto
namespace Go.Proofs.Ytbofjboebkfjgaa
open Go.RowKit

def pv (g : Nat) : Value := .pointer (some ⟨g, 0, none⟩)

/-- k writers made, their pointers in a row of the call's own. -/
structure MkSt (w W : World) (n M k : Nat) (t : Value) (G : Nat → Nat) : Prop where
  own : W.ownsRow (M + 1) 40 1 t k ((List.range k).map fun j => pv (G j))
  blk : ∀ j, j < k → Blk W (G j) 43 #[.slice none 0 0, .bool true]
  ne : ∀ i j, i < j → j < k → G i ≠ G j
  mrow : Blk W M 22 (Array.ofFn (n := n) fun _ => Value.slice none 0 0)
  bel : Below w.heap.size w W
  lo : ∀ j, j < k → w.heap.size ≤ G j
theorem MkSt.step {w W W2 : World} {n M k : Nat} {t t2 : Value} {G : Nat → Nat} (h : MkSt w W n M k t G) (hM : w.heap.size ≤ M)
    (ho : W2.ownsRow (M + 1) 40 1 t2 (k + 1) (((List.range k).map fun j => pv (G j)) ++ [pv W.heap.size])) (hg : (W.alloc (.cells #[.slice none 0 0, .bool true] 43)).grownBy W2 t.ownBlock) :
    MkSt w W2 n M (k + 1) t2 (upd G k W.heap.size) := by
  have hb : Below W.heap.size W (W.alloc (.cells #[.slice none 0 0, .bool true] 43)) := (Below.refl _ _).alloc (Nat.le_refl _) _
  have hnew := Blk.new W 43 #[.slice none 0 0, .bool true]
  have htb : ∀ i, t.ownBlock = some i → i < W.heap.size := fun i e => (h.own.lt i e).2
  have hold : ∀ j, j < k → t.ownBlock ≠ some (G j) := fun j hj => own_blk_ne h.own (h.blk j hj) (by decide)
  refine ⟨?_, fun j hj => ?_, fun i j hij hj => ?_, ?_, ?_, fun j hj => ?_⟩
  · rw [List.range_succ, List.map_append, List.map_cons, List.map_nil, upd_same]
    rw [show ((List.range k).map fun j => pv (upd G k W.heap.size j)) = (List.range k).map fun j => pv (G j) from List.map_congr_left (fun j hj => by rw [upd_ne _ _ (by have := List.mem_range.1 hj; omega)])]
    exact ho
  · by_cases e : j = k
    · subst e
      rw [upd_same]
      exact hnew.grown hg (fun e => by have := htb _ e.symm; omega)
    · rw [upd_ne _ _ e]
      exact ((h.blk j (by omega)).below hb (h.blk j (by omega)).lt).grown hg (fun e' => hold j (by omega) e'.symm)
  · rw [upd_ne _ _ (by omega : i ≠ k)]
    by_cases e : j = k
    · subst e
      rw [upd_same]
      have := (h.blk i hij).lt
      omega
    · rw [upd_ne _ _ e]
      exact h.ne i j hij (by omega)
  · exact (h.mrow.below hb h.mrow.lt).grown hg (fun e => by have := (h.own.lt _ e.symm).1; omega)
  · exact (h.bel.trans (hb.mono h.bel.size)).grown hg (by simp; have := h.bel.size; omega) (fun i e => by have := (h.own.lt _ e).1; omega)
  · by_cases e : j = k
    · subst e
      rw [upd_same]
      exact h.bel.size
    · rw [upd_ne _ _ e]
      exact h.lo j (by omega)
/-- All made, and a zero one. -/
theorem MkSt.many {w W : World} {n M : Nat} {t : Value} {G : Nat → Nat} (h : MkSt w W n M n t G) (hM : w.heap.size ≤ M) (hn : 1 ≤ n) :
    ∃ X c, t = .slice (some ⟨X, 0, none⟩) n c ∧ Many w (W.alloc (.cells #[.slice none 0 0, .bool false] 43)) n M X W.heap.size G (fun _ => .slice none 0 0) (fun _ => .slice none 0 0) (fun _ => []) := by
  have hb : Below W.heap.size W (W.alloc (.cells #[.slice none 0 0, .bool false] 43)) := (Below.refl _ _).alloc (Nat.le_refl _) _
  have ho := h.own
  obtain ⟨A, c, rfl⟩ := ho.shape
  have hr := Reads.of_own ho
  obtain ⟨ad, rfl, _, hcell⟩ := hr.2 (by omega)
  have hX : ∃ X, ad = ⟨X, 0, none⟩ := by
    rcases ho.2 with ⟨e, _⟩ | ⟨g, cap, cur, e, _⟩
    · cases e
    · injection e with e
      injection e with e
      exact ⟨g, e⟩
  obtain ⟨X, rfl⟩ := hX
  obtain ⟨hX1, hX2⟩ := ho.lt X rfl
  have hfoot : ∀ g i, Foot g (.slice none 0 0) (.slice none 0 0) i → i = g := fun g i e => by
    rcases e with e | e | e
    · exact e
    · cases e
    · cases e
  refine ⟨X, c, rfl, ⟨fun k hk => ⟨⟨(h.blk k hk).below hb (h.blk k hk).lt, World.ownsRow_nil _ _ _ _⟩, World.ownsRow_nil _ _ _ _, fun e => (by cases e), fun _ e => (by cases e)⟩, fun j k hj hk hjk i hi hi2 => ?_, fun k hk i hi => ?_, h.mrow.below hb h.mrow.lt, fun k hk => ?_, ?_, Blk.new _ _ _, ⟨hM, by omega, h.bel.size, by omega, by have := h.mrow.lt; omega⟩, h.bel.trans (hb.mono h.bel.size)⟩⟩
  · have e1 := hfoot _ _ hi
    have e2 := hfoot _ _ hi2
    rcases Nat.lt_or_gt_of_ne hjk with hl | hl
    · exact h.ne j k hl hk (e1.symm.trans e2)
    · exact h.ne k j hl hj (e2.symm.trans e1)
  · obtain rfl := hfoot _ _ hi
    refine ⟨Blk.ne_ (h.blk k hk) h.mrow (by decide), fun e => ?_, ?_, h.lo k hk⟩
    · exact own_blk_ne ho (h.blk k hk) (by decide) (by rw [e]; rfl)
    · have := (h.blk k hk).lt; omega
  · have h1 := hcell k (pv (G k)) (by rw [List.getElem?_map, List.getElem?_range hk]; rfl)
    rw [show ((⟨X, 0, none⟩ : Addr).add k) = ⟨X, k, none⟩ by unfold Addr.add; split <;> simp_all] at h1
    exact (hb.cell (p := ⟨X, k, none⟩) hX2).trans h1
  · exact Nat.lt_of_lt_of_le hX2 hb.size
theorem elem_pw : ElemOf Try.prog 38 40 1 8 := .mk' (.pointer none) Try.underlying38 (by kernel_rfl) rfl (by omega)

set_option maxRecDepth 100000 in
set_option maxHeartbeats 2000000 in
theorem lebWriters_walk (x : Int) (Ao : Option Addr) (no co : Nat) (w : World) (_x1 : -9223372036854775808 ≤ x) (_x2 : x ≤ 9223372036854775807)
    (hno : no ≤ 1048576) (hop : ∀ k, k < no → ∃ b off kd wh N K A' n' c' bs', Ao = some ⟨b, off, none⟩ ∧ OpAt w b (off + k * 5) kd wh N K A' n' c' bs' ∧ n' ≤ 1048576) :
    Calls Try.prog 6 #[.int .i64 x, .slice Ao no co] w fun e w' => e = .returned (.bool true) ∧ Below w.heap.size w w' := by
  have hR := hide (round_any x 4 w (by omega) (by omega))
  obtain ⟨n, hn, hn1, hn2⟩ : ∃ n : Nat, (1 + x % 4 = (n : Int)) ∧ 1 ≤ n ∧ n ≤ 4 := ⟨(1 + x % 4).toNat, by omega, by omega, by omega⟩
  have HOP := hide hop
  have hmk : ∀ w : World, (Instr.makeSlice 39 (.int .i64 (n : Int)) (.int .i64 (n : Int))).run Try.prog w = .ok (.slice (some ⟨w.heap.size, 0, none⟩) n n) (w.alloc (.cells (Array.ofFn (n := n) fun _ => Value.slice none 0 0) 22)) := fun w => by
    obtain ⟨i, hi, hz, hs, hb⟩ := info_parts (P := Try.prog) (e := 22) (z := .slice none 0 0) (size := 1) (bytes := 24) (by kernel_rfl)
    rw [run_make (P := Try.prog) w 39 22 i (.slice none 0 0) Try.underlying39 hi hz .i64 .i64 (n : Int) (n : Int) (by omega) (by omega) (by rw [hb]; omega) (by omega)]
    rw [hs]
    simp only [Int.toNat_natCast, Nat.mul_one]
    have hc : (Value.slice none 0 0).cells = #[Value.slice none 0 0] := rfl
    rw [hc]
    congr 3
    apply Array.ext
    · simp [size_madeCells]
    · intro i h1 h2
      simp [madeCells, Nat.mod_one]
  clear hop
  go_enter Try.func6, Try.ntmps6
  go_wp2_with fail
  refine (unhide hR).mono ?_
  rintro e w1 ⟨rfl, rfl⟩
  go_wp2_with fail
  go_loopg [5, 7] n (fun q t i W => ∃ (k : Nat) (G : Nat → Nat), k + q = n ∧ i = .int .i64 (k : Int) ∧ MkSt w W n w.heap.size k t G)
  case atStart =>
    refine ⟨0, fun _ => 0, by omega, rfl, ⟨World.ownsRow_nil _ _ _ _, fun j hj => by omega, fun i j _ hj => by omega, Blk.new _ _ _, (Below.refl _ _).alloc (Nat.le_refl _) _, fun j hj => by omega⟩⟩
  case round =>
    obtain ⟨k, G, hk, rfl, hS⟩ := hrel
    by_cases hlt : k < n
    · obtain ⟨q, rfl⟩ : ∃ q, gk = q + 1 := ⟨gk - 1, by omega⟩
      have hk0 : (k : Int) < (n : Int) := by omega
      have hN := hide (newWriter_any wr)
      obtain ⟨A, c, rfl⟩ := hS.own.shape
      have hown := hS.own.alloc (.cells #[.slice none 0 0, .bool true] 43)
      have hz := hS.bel.size
      have hzl := hS.mrow.lt
      have HS := hide hS
      have hsz : (wr.alloc (.cells #[.slice none 0 0, .bool true] 43)).heap.size = wr.heap.size + 1 := by simp
      have HC : Hid (k + 1 ≤ maxLen ∧ (k + 1) * 8 ≤ 140737488355328) := cap8 (by omega)
      clear hS
      go_wp2_with (first
        | (go_at_call 26; refine (unhide hN).mono ?_; rintro e w1 ⟨rfl, rfl⟩)
        | (at_builtin; refine wpList_app1 _ rfl (.tmp 30) (.tmp 32) 38 rfl elem_pw (w.heap.size + 1) _ _ _ rfl hown _ _ (by simp) rfl rfl HC.out (by omega) ?_; intro v2 w2 ho2 hg2 hr2))
      go_roundg q
      case rel => exact ⟨k + 1, _, by omega, by go_num, (unhide HS).step (Nat.le_refl _) ho2 hg2⟩
      case measure => omega
    · obtain rfl : n = k := by omega
      obtain ⟨X, c, rfl, hMy⟩ := hS.many (Nat.le_refl _) hn1
      obtain ⟨z, hz⟩ : ∃ z, wr.heap.size = z := ⟨_, rfl⟩
      rw [hz] at hMy
      have HM := hide hMy
      clear hS hMy hmk hR
      go_wp2_with fail
      go_loopg [11] no (fun q t W => ∃ (k : Nat) (V Ms : Nat → Value) (Y : Nat → List UInt8), k + q = no ∧ t = .int .i64 (k : Int) ∧ Many w W n w.heap.size X z G V Ms Y ∧ ∀ j, j < n → (Y j).length ≤ k * 1048600)
      case atStart => exact ⟨0, _, _, _, by omega, rfl, unhide HM, fun j hj => by simp⟩
      case round =>
        obtain ⟨k, V, Ms, Y, hk, rfl, hS, hY⟩ := hrel
        clear HM
        by_cases hlt : k < no
        · obtain ⟨q, rfl⟩ : ∃ q, gk = q + 1 := ⟨gk - 1, by omega⟩
          obtain ⟨b, off, kd, wh, N, K, A', n', c', bs', rfl, hO, hn'⟩ := unhide HOP k hlt
          have hbel := hS.bel
          obtain ⟨J, hJ⟩ : ∃ J, off + k * 5 = J := ⟨_, rfl⟩
          rw [hJ] at hO
          have q0 : wr.cell? ⟨b, J, none⟩ = some (.int .i64 kd) := (hbel.cell (p := ⟨b, J, none⟩) hO.lt).trans hO.f0
          have q1 : wr.cell? ⟨b, J + 1, none⟩ = some (.int .i64 wh) := (hbel.cell (p := ⟨b, J + 1, none⟩) hO.lt).trans hO.f1
          have q2 : wr.cell? ⟨b, J + 2, none⟩ = some (.int .u64 (N : Int)) := (hbel.cell (p := ⟨b, J + 2, none⟩) hO.lt).trans hO.f2
          have q3 : wr.cell? ⟨b, J + 3, none⟩ = some (.int .i64 K) := (hbel.cell (p := ⟨b, J + 3, none⟩) hO.lt).trans hO.f3
          have q4 : wr.cell? ⟨b, J + 4, none⟩ = some (.slice A' n' c') := (hbel.cell (p := ⟨b, J + 4, none⟩) hO.lt).trans hO.f4
          have hk0 : (0 : Int) ≤ (k : Int) := by omega
          have hk1 : (k : Int) < (no : Int) := by omega
          have hR := hide (round_any wh (n : Int) wr (by omega) (by omega))
          obtain ⟨j, hj, hjn⟩ : ∃ j : Nat, wh % (n : Int) = (j : Int) ∧ j < n := by
            have h1 := Int.emod_lt_of_pos wh (show (0 : Int) < (n : Int) by omega)
            have h2 := Int.emod_nonneg wh (show (n : Int) ≠ 0 by omega)
            exact ⟨(wh % (n : Int)).toNat, by omega, by omega⟩
          rw [hj] at hR
          clear hj
          have x0 : wr.cell? ⟨X, j, none⟩ = some (.pointer (some ⟨G j, 0, none⟩)) := hS.xrow j hjn
          have m0 : wr.cell? ⟨w.heap.size, j, none⟩ = some (Ms j) := hS.cell hjn
          have mf : wr.frozen? ⟨w.heap.size, j, none⟩ = false := hS.mrow.frozen j
          have hj0 : (0 : Int) ≤ (j : Int) := by omega
          have hj1 : (j : Int) < (n : Int) := by omega
          have HS := hide hS
          have HO := hide hO
          clear hS hbel hO
          go_wp2_with (go_at_call 25; refine (unhide hR).mono ?_; rintro e w1 ⟨rfl, rfl⟩)
          have hlo := (unhide HS).lo
          have hyj := hY j hjn
          have hb0 : Below w.heap.size w wr := (unhide HS).bel
          have hgj : w.heap.size ≤ G j := ((unhide HS).far j hjn (G j) (.inl rfl)).2.2.2
          have hxr : Reads wr w.heap.size 1 A' n' (bs'.map bv) := (unhide HO).reads.below hb0
          have hxl : bs'.length = n' := by have := hxr.1; simpa using this
          have hP := hide (puts_any wr.drew (G j) w.heap.size (V j) (Ms j) (Y j) (Y j) (((unhide HS).wm j hjn).below (below_drewN (Below.refl _ _) 1)) hb0.size kd (.int .i64 wh) N (unhide HO).nlt K (unhide HO).k1 (unhide HO).k2 A' n' c' bs' w.heap.size hxr hgj (Nat.le_refl _) (by omega) (by omega) (by omega))
          obtain ⟨Aj, cj, hMj⟩ := ((unhide HS).wm j hjn).own.shape
          have hMl := (unhide HS).mrow.lt
          have hpc := Lib.hid hMj
          obtain ⟨Lj, hLj⟩ : ∃ L, (Y j).length = L := ⟨_, rfl⟩
          rw [hLj] at hMj
          rw [hMj] at m0 hP
          have hnf := (unhide HS).far j hjn
          rw [hMj] at hnf
          have HNF := hide hnf
          have hol := (unhide HO).lt
          have hxlt := (unhide HS).xlt
          have hbs := hb0.size
          have HMR := hide (unhide HS).mrow
          have hol2 : (outS kd N K n' bs').length ≤ 1048600 := Nat.le_trans (outS_len kd N K n' bs' hxl) (by omega)
          clear hxr hb0 hMj hnf
          go_wp2
          go_cut [12] from 47 to 62 (fun t12 wx => t12 = .int .i64 (j : Int) ∧ ∃ (V Ms : Nat → Value) (Y : Nat → List UInt8), Many w wx n w.heap.size X z G V Ms Y ∧ ∀ j, j < n → (Y j).length ≤ (k + 1) * 1048600)
          case first =>
            go_region_with
              ((first
                | (go_at_call 27; (with_reducible refine (unhide hP).mono ?_); rintro e w2 ⟨v2, m2, rfl, hw2, hc2, hv2, hm2⟩
                   obtain ⟨A2, c2, rfl⟩ := hw2.own.shape
                   have hbl : ∀ i, i < wr.heap.size → (i = X ∨ i = w.heap.size ∨ i < w.heap.size) → w2.heap[i]? = wr.heap[i]? := fun i hi hh => hc2.block i hi (fun e => by have := unhide HNF i e; omega)
                   have s2 : w2.cell? ⟨X, j, none⟩ = some (.pointer (some ⟨G j, 0, none⟩)) := (World.cell?_of_block (hbl X hxlt (.inl rfl))).trans x0
                   have m2 := (World.cell?_of_block (hbl _ hMl (.inr (.inl rfl)))).trans m0
                   have mf2 : w2.frozen? ⟨w.heap.size, j, none⟩ = false := (World.frozen?_of_block (hbl _ hMl (.inr (.inl rfl)))).trans mf
                   have H2 := hide hw2
                   have HC2 := hide hc2
                   have HX2 := hide (((unhide HS).below (below_drewN (Below.refl _ _) 1)).put2 (W := wr.drew) hjn hw2 (by rw [hpc.out, hLj]; exact hc2) hv2 (by rw [hpc.out, hLj]; exact hm2) hY hol2)
                   rw [List.length_append, hLj] at HX2
                   clear hw2 hc2 hbl H2 HC2)))
            all_goals
              go_wp2_with fail
              go_meet
              case rel => exact ⟨rfl, unhide HX2⟩
          case rest =>
            obtain ⟨rfl, V', Ms', Y', hS2, hY2⟩ := hcut
            have hbel := hS2.bel
            have q0 : wc.cell? ⟨b, J, none⟩ = some (.int .i64 kd) := (hbel.cell (p := ⟨b, J, none⟩) hol).trans (unhide HO).f0
            have q2 : wc.cell? ⟨b, J + 2, none⟩ = some (.int .u64 (N : Int)) := (hbel.cell (p := ⟨b, J + 2, none⟩) hol).trans (unhide HO).f2
            have q1 : wc.cell? ⟨b, J + 1, none⟩ = some (.int .i64 wh) := (hbel.cell (p := ⟨b, J + 1, none⟩) hol).trans (unhide HO).f1
            have q3 : wc.cell? ⟨b, J + 3, none⟩ = some (.int .i64 K) := (hbel.cell (p := ⟨b, J + 3, none⟩) hol).trans (unhide HO).f3
            have q4 : wc.cell? ⟨b, J + 4, none⟩ = some (.slice A' n' c') := (hbel.cell (p := ⟨b, J + 4, none⟩) hol).trans (unhide HO).f4
            have hP1 := hide (putn_any wc (.pointer none) (NoW.nil _) kd (.int .i64 wh) N (unhide HO).nlt K (unhide HO).k1 (unhide HO).k2 A' n' c' bs' w.heap.size ((unhide HO).reads.below hbel) hbel.size (by omega))
            have HS2 := hide hS2
            have hzl := hbel.size
            clear hS2 hbel HS hP x0 m0 mf HMR HNF hpc
            go_wp2_with fail
            refine (unhide hP1).mono ?_
            rintro e w2 ⟨⟨u1, rfl⟩, hb2⟩
            have hS3 := (unhide HS2).below hb2
            have hbel := hS3.bel
            have r0 : w2.cell? ⟨b, J, none⟩ = some (.int .i64 kd) := (hbel.cell (p := ⟨b, J, none⟩) hol).trans (unhide HO).f0
            have r2 : w2.cell? ⟨b, J + 2, none⟩ = some (.int .u64 (N : Int)) := (hbel.cell (p := ⟨b, J + 2, none⟩) hol).trans (unhide HO).f2
            have r1 : w2.cell? ⟨b, J + 1, none⟩ = some (.int .i64 wh) := (hbel.cell (p := ⟨b, J + 1, none⟩) hol).trans (unhide HO).f1
            have r3 : w2.cell? ⟨b, J + 3, none⟩ = some (.int .i64 K) := (hbel.cell (p := ⟨b, J + 3, none⟩) hol).trans (unhide HO).f3
            have r4 : w2.cell? ⟨b, J + 4, none⟩ = some (.slice A' n' c') := (hbel.cell (p := ⟨b, J + 4, none⟩) hol).trans (unhide HO).f4
            have hP2 := hide (putn_any w2 (.pointer (some ⟨z, 0, none⟩)) (.inr ⟨z, rfl, hS3.zero⟩) kd (.int .i64 wh) N (unhide HO).nlt K (unhide HO).k1 (unhide HO).k2 A' n' c' bs' w.heap.size ((unhide HO).reads.below hbel) hbel.size (by omega))
            have HS3 := hide hS3
            clear hS3 hbel HS2 hb2 q0 q1 q2 q3 q4 hP1
            go_wp2_with fail
            refine (unhide hP2).mono ?_
            rintro e w3 ⟨⟨u2, rfl⟩, hb3⟩
            have hS4 := (unhide HS3).below hb3
            have x4 : w3.cell? ⟨X, j, none⟩ = some (.pointer (some ⟨G j, 0, none⟩)) := hS4.xrow j hjn
            have m4 : w3.cell? ⟨w.heap.size, j, none⟩ = some (Ms' j) := hS4.cell hjn
            have hwm := hS4.wm j hjn
            obtain ⟨Av, cv, hVj⟩ := hwm.wr.own.shape
            obtain ⟨Am, cm, hMj'⟩ := hwm.own.shape
            obtain ⟨L, hL⟩ : ∃ L, (Y' j).length = L := ⟨_, rfl⟩
            have hLb := hY2 j hjn
            rw [hL] at hVj hMj' hLb
            have how := hwm.wr.own
            have hom := hwm.own
            have hbk := hwm.wr.blk
            rw [hL, hVj] at how
            rw [hL, hMj'] at hom
            rw [hVj] at hbk
            have hrv := Reads.of_own how
            have hrm := Reads.of_own hom
            have hB1 := hide (bytes_made w3 (G j) Av L cv w3.heap.size (Y' j) hbk hrv (by omega))
            have HBK := hide hbk
            rw [hMj'] at m4
            have HRM := hide hrm
            have HS4 := hide hS4
            clear hS4 hwm hVj how hom hbk hrv hrm HS3 hb3 r0 r1 r2 r3 r4 hP2
            go_wp2_with fail
            refine (unhide hB1).mono ?_
            rintro e w4 ⟨v4, rfl, ho4, hb4⟩
            obtain ⟨A4, c4, rfl⟩ := ho4.shape
            have hS5 := (unhide HS4).below hb4
            have x5 : w4.cell? ⟨X, j, none⟩ = some (.pointer (some ⟨G j, 0, none⟩)) := hS5.xrow j hjn
            have m5 : w4.cell? ⟨w.heap.size, j, none⟩ = some (.slice Am L cm) := (hb4.cell (p := ⟨w.heap.size, j, none⟩) (unhide HS4).mrow.lt).trans m4
            have hrm5 := ((unhide HRM).below hb4).more hb4.size
            have hra5 := Reads.of_own ho4
            have hSm := fun q => hide (same_any A4 Am L c4 L cm (Y' j) (Y' j) (w4.drewN q) w4.heap.size hra5 hrm5)
            rw [show (Y' j == Y' j) = true by simp] at hSm
            have hLn := fun q => hide (len_made (w4.drewN q) (G j) Av L cv (((unhide HBK).below hb4 (unhide HBK).lt).drewN q))
            have hTu := fun q => hide (turned_own w3.heap.size (.slice A4 L c4) L (Y' j) (w4.drewN q) ho4 (by omega))
            have HB4 := hide hb4
            have HO4 := hide ho4.lt
            clear hS5 hrm5 hra5 hb4 ho4 HRM HBK x4 m4 hB1
            go_wp2_with fail
            go_quiet ((first
              | (go_at_call 18; with_reducible exact quiet_left (unhide (hSm _)))
              | (go_at_call 29; with_reducible exact quiet_left (unhide (hLn _)))))
            go_wp2_with fail
            refine (unhide (hTu _)).mono ?_
            rintro e w5 ⟨rfl, _, hg5⟩
            have hS6 := (unhide HS4).below (((unhide HB4).trans (below_drewN (Below.refl _ _) _)).grown hg5 (by exact (unhide HB4).size) (fun i e => ((unhide HO4) i e).1))
            have HS6 := hide hS6
            clear hS6 hg5 HB4 HS4 hSm hLn hTu
            go_wp2_with fail
            go_roundg q
            case rel => exact ⟨k + 1, _, _, _, by omega, by go_num, unhide HS6, hY2⟩
            case measure => omega
        · have HS := hide hS
          clear hS
          go_wp2_with fail
          go_loopg [14] n (fun q t W => ∃ k : Nat, k + q = n ∧ t = .int .i64 (k : Int) ∧ Many w W n w.heap.size X z G V Ms Y)
          case atStart => exact ⟨0, by omega, rfl, unhide HS⟩
          case round =>
            obtain ⟨j, hj, rfl, hS4⟩ := hrel
            clear HS
            by_cases hjn : j < n
            · obtain ⟨q, rfl⟩ : ∃ q, gk = q + 1 := ⟨gk - 1, by omega⟩
              have hj0 : (0 : Int) ≤ (j : Int) := by omega
              have hj1 : (j : Int) < (n : Int) := by omega
              obtain ⟨w3, rfl⟩ : ∃ w3, w3 = wr := ⟨_, rfl⟩
              have x4 : w3.cell? ⟨X, j, none⟩ = some (.pointer (some ⟨G j, 0, none⟩)) := hS4.xrow j hjn
              have m4 : w3.cell? ⟨w.heap.size, j, none⟩ = some (Ms j) := hS4.cell hjn
              have hwm := hS4.wm j hjn
              obtain ⟨Av, cv, hVj⟩ := hwm.wr.own.shape
              obtain ⟨Am, cm, hMj'⟩ := hwm.own.shape
              obtain ⟨L, hL⟩ : ∃ L, (Y j).length = L := ⟨_, rfl⟩
              have hLb := hY j hjn
              rw [hL] at hVj hMj' hLb
              have how := hwm.wr.own
              have hom := hwm.own
              have hbk := hwm.wr.blk
              rw [hL, hVj] at how
              rw [hL, hMj'] at hom
              rw [hVj] at hbk
              have hrv := Reads.of_own how
              have hrm := Reads.of_own hom
              have hB1 := hide (bytes_made w3 (G j) Av L cv w3.heap.size (Y j) hbk hrv (by omega))
              have HBK := hide hbk
              rw [hMj'] at m4
              have HRM := hide hrm
              have HRV := hide hrv
              have HS4 := hide hS4
              clear hS4 hwm hVj how hom hbk hrv hrm
              go_wp2_with fail
              refine (unhide hB1).mono ?_
              rintro e w4 ⟨v4, rfl, ho4, hb4⟩
              obtain ⟨A4, c4, rfl⟩ := ho4.shape
              have x5 : w4.cell? ⟨X, j, none⟩ = some (.pointer (some ⟨G j, 0, none⟩)) := ((unhide HS4).below hb4).xrow j hjn
              have hB2 := hide (bytes_made w4 (G j) Av L cv w4.heap.size (Y j) ((unhide HBK).below hb4 (unhide HBK).lt) (((unhide HRV).below hb4).more hb4.size) (by omega))
              have HB4 := hide hb4
              have HO4 := hide ho4
              clear hb4 ho4 hB1 HRV
              go_wp2_with fail
              refine (unhide hB2).mono ?_
              rintro e w5 ⟨v5, rfl, ho5, hb5⟩
              obtain ⟨A5, c5, rfl⟩ := ho5.shape
              have ho45 := (Chg.of_below hb5 (fun _ => False)).own (unhide HO4) (fun _ _ e => e)
              have hTu := hide (turned_own w3.heap.size (.slice A4 L c4) L (Y j) w5 ho45 (by omega))
              have hOL := (unhide HO4).lt
              have hb35 := (unhide HB4).trans (hb5.mono (unhide HB4).size)
              have HB35 := hide hb35
              have HO5 := hide ho5
              have hz5 := hb5.size
              clear hb5 ho5 ho45 hB2 HO4 hb35
              go_wp2_with fail
              refine (unhide hTu).mono ?_
              rintro e w6 ⟨rfl, _, hg6⟩
              have hb6 := (unhide HB35).grown hg6 (unhide HB35).size (fun i e => (hOL i e).1)
              have ho6 := (Chg.of_grown hg6).own (unhide HO5) (fun i hi e => by
                have h1 := ((unhide HO5).lt i hi).1
                have h2 := (hOL i e).2
                omega)
              have hS6 := (unhide HS4).below hb6
              have x6 : w6.cell? ⟨X, j, none⟩ = some (.pointer (some ⟨G j, 0, none⟩)) := hS6.xrow j hjn
              have m6 : w6.cell? ⟨w.heap.size, j, none⟩ = some (.slice Am L cm) := (hb6.cell (p := ⟨w.heap.size, j, none⟩) (unhide HS4).mrow.lt).trans m4
              have hrm6 := ((unhide HRM).below hb6).more hb6.size
              have hra6 := Reads.of_own ho6
              have hSm := fun q => hide (same_any A5 Am L c5 L cm (Y j) (Y j) (w6.drewN q) w6.heap.size hra6 hrm6)
              rw [show (Y j == Y j) = true by simp] at hSm
              have hLn := fun q => hide (len_made (w6.drewN q) (G j) Av L cv (((unhide HBK).below hb6 (unhide HBK).lt).drewN q))
              have HS6 := hide hS6
              clear hS6 hrm6 hra6 ho6 hb6 hg6 HRM HBK x4 m4 x5 HS4 HB35 HO5 HB4 hTu
              go_wp2_with fail
              go_quiet ((first
                | (go_at_call 18; with_reducible exact quiet_left (unhide (hSm _)))
                | (go_at_call 29; with_reducible exact quiet_left (unhide (hLn _)))))
              go_wp2_with fail
              go_roundg q
              case rel => exact ⟨j + 1, by omega, by go_num, (unhide HS6).below (below_drewN (Below.refl _ _) _)⟩
              case measure => omega
            · have n1 := hide (wnum_no (.pointer none) (.slice none 0 0) wr (NoW.nil _))
              have n2 := hide (len_no (.pointer none) wr (NoW.nil _))
              have n3 := hide (bytes_no (.pointer none) wr (NoW.nil _))
              have hz : NoW (.pointer (some ⟨z, 0, none⟩)) wr := .inr ⟨z, rfl, hS4.zero⟩
              have n4 := hide (len_no _ wr hz)
              have n5 := hide (bytes_no _ wr hz)
              have HB := hide hS4.bel
              clear hz hS4
              go_wp2_with (first
                | (go_at_call 30; (with_reducible refine (unhide n1).mono ?_); rintro e w7 ⟨rfl, rfl⟩)
                | (go_at_call 29; (with_reducible refine (unhide n2).mono ?_); rintro e w7 ⟨rfl, rfl⟩)
                | (go_at_call 29; (with_reducible refine (unhide n4).mono ?_); rintro e w7 ⟨rfl, rfl⟩)
                | (go_at_call 28; (with_reducible refine (unhide n3).mono ?_); rintro e w7 ⟨rfl, rfl⟩)
                | (go_at_call 28; (with_reducible refine (unhide n5).mono ?_); rintro e w7 ⟨rfl, rfl⟩))
              go_ret
              exact ⟨rfl, unhide HB⟩
end Go.Proofs.Ytbofjboebkfjgaa
