/-
  What is reached in a graph: Reach: the walk over the Go text.
-/
import Derived.Test.YtmcpbmadjpjckaaGrWays
import Derived.Test.YtmcpbmadjpjckaaGrMid
namespace Go.Proofs.Ytmcpbmadjpjckaa
open Go.RowKit

/-- Is a node none of n? -/
def outB (n i : Int) : Bool := decide (i < 0 ∨ n ≤ i)
theorem outB_t {n i : Int} (h : i < 0 ∨ n ≤ i) : outB n i = true := decide_eq_true h
theorem outB_f {n i : Int} (h : ¬ (i < 0 ∨ n ≤ i)) : outB n i = false := decide_eq_false h
open Classical in
/-- Is a node reached from one of these? -/
noncomputable def rchB (adj : Nat → List Nat) (S : List Nat) (u : Nat) : Bool := decide (∃ s ∈ S, Rs adj s u)
noncomputable def rchL (N : Nat) (adj : Nat → List Nat) (S : List Nat) : List Nat := (List.range N).filter (rchB adj S)
/-- What Reach answers. -/
def ReachOut (W : World) (n : Int) (fr : List Int) (E : List (Int × Int × Int)) (e : Ending) (W' : World) : Prop :=
  Below W.heap.size W W' ∧ ((chkS n E ≠ 0 ∧ e = .returned (.tuple #[.slice none 0 0, .int .i64 (chkS n E)])) ∨
    (chkS n E = 0 ∧ fr.any (outB n) = true ∧ e = .returned (.tuple #[.slice none 0 0, .int .i64 2])) ∨
    (chkS n E = 0 ∧ fr.any (outB n) = false ∧ ∃ (N : Nat) (v : Value), n = (N : Int) ∧ e = .returned (.tuple #[v, .int .i64 0]) ∧
      W'.ownsRow W.heap.size 3 1 v (rchL N (adjOf E false) (fr.map Int.toNat)).length ((rchL N (adjOf E false) (fr.map Int.toNat)).map iv)))

theorem out_any (w : World) (c : Nat) (n i : Int) (hc : w.cell? ⟨c, 0, none⟩ = some (.int .i64 n)) :
    Calls Try.prog 30 #[.int .i64 i, .pointer (some ⟨c, 0, none⟩)] w fun e w' => e = .returned (.bool (outB n i)) ∧ w = w' := by
  by_cases h0 : i < 0
  · go_enter Try.func30, Try.ntmps30
    go_wp2
    go_ret
    exact ⟨by rw [outB_t (.inl h0)]; rfl, rfl⟩
  · by_cases h1 : n ≤ i
    · go_enter Try.func30, Try.ntmps30
      go_wp2
      go_ret
      exact ⟨by rw [outB_t (.inr h1)]; rfl, rfl⟩
    · go_enter Try.func30, Try.ntmps30
      go_wp2
      go_ret
      exact ⟨by rw [outB_f (by omega)]; rfl, rfl⟩
/-- What a search by a test answers: a number not below 0 just if one passes. -/
def IdxOut (n : Int) (fr : List Int) (w : World) (e : Ending) (w' : World) : Prop := ∃ r : Int, e = .returned (.int .i64 r) ∧ (decide (0 ≤ r) = fr.any (outB n)) ∧ w = w'
set_option maxHeartbeats 1000000 in
theorem idx_any (w : World) (c : Nat) (n : Int) (Af : Option Addr) (nf capf B0 : Nat) (fr : List Int) (hc : w.cell? ⟨c, 0, none⟩ = some (.int .i64 n)) (hf : Reads w B0 1 Af nf (fr.map (.int .i64))) (hnf : nf ≤ 140737488355328) :
    Calls Try.prog 42 #[.slice Af nf capf, .func (.func 30) #[] #[.pointer (some ⟨c, 0, none⟩)]] w (IdxOut n fr w) := by
  have hl : fr.length = nf := by have := hf.1; simpa using this
  have HL := Lib.hid hl
  have HF := hide hf
  have hO := fun i => hide (out_any w c n i hc)
  have HO := hide hO
  clear hf hl hO hc
  go_enter Try.func42, Try.ntmps42
  go_wp2
  go_loopg [8] nf (fun q t W' => ∃ k : Nat, t = .int .i64 (k : Int) ∧ k + q = nf ∧ w = W' ∧ (fr.take k).any (outB n) = false)
  case atStart => exact ⟨0, rfl, by omega, rfl, by simp⟩
  case round =>
    obtain ⟨k, rfl, hkq, rfl, hno⟩ := hrel
    have HNO := Lib.hid hno
    clear hno
    have hk0 : (0 : Int) ≤ (k : Int) := by omega
    by_cases hk : k < nf
    · have hkI : (k : Int) < (nf : Int) := by omega
      obtain ⟨gq, rfl⟩ : ∃ q, gk = q + 1 := ⟨gk - 1, by omega⟩
      obtain ⟨b, off, u, rfl, hb, hu, hcu, _⟩ := (unhide HF).at0 hk
      rw [List.getElem?_map] at hu
      obtain ⟨i, hi, rfl⟩ := Option.map_eq_some_iff.1 hu
      have hsn : fr.take (k + 1) = fr.take k ++ [i] := by rw [List.take_add_one, hi, Option.toList_some]
      have hmem : i ∈ fr := List.mem_of_getElem? hi
      have hci := unhide HO i
      have HSN := Lib.hid hsn
      have HM := hide hmem
      clear hu hi hsn hmem
      obtain ⟨ob, hob⟩ : ∃ b, outB n i = b := ⟨_, rfl⟩
      rw [hob] at hci
      have HOB := Lib.hid hob
      clear hob
      cases ob with
      | true =>
        go_wp2_with fail
        refine (unhide hci).mono ?_
        rintro e w' ⟨rfl, rfl⟩
        go_wp2_with fail
        go_ret
        refine ⟨k, rfl, ?_, rfl⟩
        rw [decide_eq_true hk0]
        exact (List.any_eq_true.2 ⟨i, unhide HM, HOB.out⟩).symm
      | false =>
        go_wp2_with fail
        refine (unhide hci).mono ?_
        rintro e w' ⟨rfl, rfl⟩
        go_wp2_with fail
        go_roundg gq
        case rel => exact ⟨k + 1, by go_num, by omega, rfl, by rw [HSN.out, List.any_append, HNO.out]; simp [HOB.out]⟩
        case measure => omega
    · obtain rfl : k = nf := by omega
      go_wp2
      go_ret
      refine ⟨-1, rfl, ?_, rfl⟩
      have := HNO.out
      rw [List.take_of_length_le (by have := HL.out; omega)] at this
      rw [this]
      rfl
theorem contains_any (w : World) (c : Nat) (n : Int) (Af : Option Addr) (nf capf B0 : Nat) (fr : List Int) (hc : w.cell? ⟨c, 0, none⟩ = some (.int .i64 n)) (hf : Reads w B0 1 Af nf (fr.map (.int .i64))) (hnf : nf ≤ 140737488355328) :
    Calls Try.prog 29 #[.slice Af nf capf, .func (.func 30) #[] #[.pointer (some ⟨c, 0, none⟩)]] w fun e w' => e = .returned (.bool (fr.any (outB n))) ∧ w = w' := by
  have hI := hide (idx_any w c n Af nf capf B0 fr hc hf hnf)
  clear hc hf
  go_enter Try.func29, Try.ntmps29
  go_wp2_with fail
  refine (unhide hI).mono ?_
  rintro e w' ⟨r, rfl, hr, rfl⟩
  have HR := Lib.hid hr
  clear hr hI
  go_wp2
  go_ret
  exact ⟨by rw [← HR.out]; rfl, rfl⟩

/-- The memory of the search for what is reached. -/
structure Rch (W : World) (cT cR gT N B : Nat) (th : Nat → Nat) (rv : Value) (row : List Nat) : Prop where
  bT : Blk W cT 47 #[.slice (some ⟨gT, 0, none⟩) N N]
  bR : Blk W cR 25 #[rv]
  bt : Blk W gT 4 (tab N (tb th))
  mid : Mid W B 3 rv row.length (row.map iv)
  ne : cT ≠ gT ∧ cR ≠ gT ∧ cT ≠ cR ∧ cT < B ∧ cR < B ∧ gT < B
def Rt (cR gT B : Nat) (b : Nat) : Prop := b = gT ∨ b = cR ∨ B ≤ b
section
variable {W : World} {cT cR gT N B : Nat} {th : Nat → Nat} {rv : Value} {row : List Nat}
theorem add_old (h : Rch W cT cR gT N B th rv row) {u : Nat} (hu : u < N) (ht : th u ≠ 0) :
    Calls Try.prog 32 #[.int .i64 (u : Int), .pointer (some ⟨cT, 0, none⟩), .pointer (some ⟨cR, 0, none⟩)] W fun e W' => e = .returned (.tuple #[]) ∧ W = W' := by
  have c1 : W.cell? ⟨cT, 0, none⟩ = some (.slice (some ⟨gT, 0, none⟩) N N) := h.bT.cell 0
  have c2 : W.cell? ⟨gT, u, none⟩ = some (.bool true) := by rw [h.bt.cell u, tab_at _ hu, tb, decide_eq_true ht]
  have hu0 : (0 : Int) ≤ (u : Int) := by omega
  have huI : (u : Int) < (N : Int) := by omega
  clear h
  go_enter Try.func32, Try.ntmps32
  go_wp2
  refine bodyPost_end (results_none rfl _ _ _) rfl ?_
  exact ⟨rfl, rfl⟩
set_option maxRecDepth 100000 in
set_option maxHeartbeats 1000000 in
theorem add_new (h : Rch W cT cR gT N B th rv row) {u : Nat} (hu : u < N) (ht : th u = 0) (hl : row.length ≤ 1000000) (hB : B ≤ W.heap.size) :
    Calls Try.prog 32 #[.int .i64 (u : Int), .pointer (some ⟨cT, 0, none⟩), .pointer (some ⟨cR, 0, none⟩)] W fun e W' => e = .returned (.tuple #[]) ∧ ∃ rv', Rch W' cT cR gT N B (upf th u 1) rv' (row ++ [u]) ∧ Chg W W' (Rt cR gT B) := by
  obtain ⟨Ao, co, rfl⟩ := h.mid.shape
  obtain ⟨e1, e2, e3, e4, e5, e6⟩ := h.ne
  have c1 : W.cell? ⟨cT, 0, none⟩ = some (.slice (some ⟨gT, 0, none⟩) N N) := h.bT.cell 0
  have c2 : W.cell? ⟨gT, u, none⟩ = some (.bool false) := by rw [h.bt.cell u, tab_at _ hu, tb, decide_eq_false (by omega)]
  have c2f : W.frozen? ⟨gT, u, none⟩ = false := h.bt.frozen u
  obtain ⟨W1, hW1⟩ : ∃ W1, W.setCell ⟨gT, u, none⟩ (.bool true) = W1 := ⟨_, rfl⟩
  have hch1 : Chg W W1 (Rt cR gT B) := by rw [← hW1]; exact (Chg.refl W _).set_ _ _ (fun _ => .inl rfl)
  have hT1 : Blk W1 cT 47 #[.slice (some ⟨gT, 0, none⟩) N N] := by rw [← hW1]; exact h.bT.far (p := ⟨gT, u, none⟩) e1 _
  have hR1 : Blk W1 cR 25 #[.slice Ao row.length co] := by rw [← hW1]; exact h.bR.far (p := ⟨gT, u, none⟩) e2 _
  have ht1 : Blk W1 gT 4 (tab N (tb (upf th u 1))) := by
    rw [← hW1]
    have := h.bt.set_ u (.bool true)
    rw [tab_set] at this
    rw [tab_congr (g := upf (tb th) u (.bool true)) fun v => by unfold tb upf; split <;> simp]
    exact this
  have hM1 : Mid W1 B 3 (.slice Ao row.length co) row.length (row.map iv) := h.mid.chg (S := fun i => i = gT) (by rw [← hW1]; exact Chg.of_set W ⟨gT, u, none⟩ _) (fun b hb e => by have := (h.mid.lt hb).1; omega)
  obtain ⟨L, hL⟩ : ∃ L, row.length = L := ⟨_, rfl⟩
  rw [hL] at hR1 hM1 hl
  have c3 : W1.cell? ⟨cR, 0, none⟩ = some (.slice Ao L co) := hR1.cell 0
  have hz1 : B ≤ W1.heap.size := Nat.le_trans hB hch1.size
  have HT1 := hide hT1
  have HR1 := hide hR1
  have Ht1 := hide ht1
  have HM1 := hide hM1
  have HC1 := hide hch1
  have HL := Lib.hid hL
  have HC : Hid (L + 1 ≤ maxLen ∧ (L + 1) * 8 ≤ 140737488355328) := cap8 (by omega)
  have hu0 : (0 : Int) ≤ (u : Int) := by omega
  have huI : (u : Int) < (N : Int) := by omega
  clear h hT1 hR1 ht1 hM1 hch1 hL hB
  go_enter Try.func32, Try.ntmps32
  go_wp2_with (first
    | (at_builtin
       refine wpList_mid1 W1 rfl (.tmp 12) (.tmp 14) 25 rfl elem_int B (.slice Ao L co) L (row.map iv) rfl (unhide HM1) (.int .i64 (u : Int)) W1.heap.size rfl rfl rfl HC.out hz1 ?_
       intro v5 w5 hm5 hg5 hr5
       obtain ⟨A5, c5, rfl⟩ := hm5.shape
       have hno : ∀ b, b < B → some b ≠ Value.ownBlock (.slice Ao L co) := fun b hb e => by have := ((unhide HM1).lt e.symm).1; omega
       have HT5 := hide ((unhide HT1).grown hg5 (hno cT e4))
       have hR5 := (unhide HR1).grown hg5 (hno cR e5)
       have Ht5 := hide ((unhide Ht1).grown hg5 (hno gT e6))
       have HC5 := hide ((unhide HC1).grown hg5 (fun i e _ => .inr (.inr ((unhide HM1).lt e).1)))
       have c4 : w5.cell? ⟨cR, 0, none⟩ = some (.slice Ao L co) := hR5.cell 0
       have f4 : w5.frozen? ⟨cR, 0, none⟩ = false := hR5.frozen 0
       have HR5 := hide hR5
       have HM5 := hide hm5
       clear hR5 hm5 hg5 hr5 hno))
  go_end0
  refine ⟨rfl, .slice A5 (L + 1) c5, ⟨?_, ?_, ?_, ?_, e1, e2, e3, e4, e5, e6⟩, (unhide HC5).set_ ⟨cR, 0, none⟩ _ (fun _ => .inr (.inl rfl))⟩
  · exact (unhide HT5).far (p := ⟨cR, 0, none⟩) e3 _
  · exact (unhide HR5).set_ 0 (.slice A5 (L + 1) c5)
  · exact (unhide Ht5).far (p := ⟨cR, 0, none⟩) (fun e => e2 e.symm) _
  · rw [List.length_append, HL.out, List.map_append]
    exact (unhide HM5).chg (S := fun i => i = cR) (Chg.of_set w5 ⟨cR, 0, none⟩ _) (fun b hb e => by have := ((unhide HM5).lt hb).1; omega)
end

/-- What stands while what is reached grows. -/
structure BI (N : Nat) (adj : Nat → List Nat) (S : List Nat) (th : Nat → Nat) (row : List Nat) : Prop where
  sound : ∀ u, th u ≠ 0 → ∃ s ∈ S, Rs adj s u
  mem : ∀ u ∈ row, th u ≠ 0 ∧ u < N
  clo : ∀ u, th u ≠ 0 → u ∈ row ∨ ∀ t ∈ adj u, th t ≠ 0
section
variable {N : Nat} {adj : Nat → List Nat} {S : List Nat} {th : Nat → Nat} {row : List Nat}
theorem upf_mono {th : Nat → Nat} {u v : Nat} (h : th v ≠ 0) : upf th u 1 v ≠ 0 := by
  unfold upf
  split
  · omega
  · exact h
theorem BI.add (h : BI N adj S th row) {u : Nat} (hu : u < N) (hs : ∃ s ∈ S, Rs adj s u) : BI N adj S (upf th u 1) (row ++ [u]) := by
  refine ⟨fun v hv => ?_, fun v hv => ?_, fun v hv => ?_⟩
  · by_cases e : v = u
    · subst e; exact hs
    · rw [upf_ne _ _ e] at hv; exact h.sound v hv
  · rw [List.mem_append, List.mem_singleton] at hv
    rcases hv with hv | rfl
    · exact ⟨upf_mono (h.mem v hv).1, (h.mem v hv).2⟩
    · exact ⟨by rw [upf_same]; omega, hu⟩
  · by_cases e : v = u
    · subst e; exact .inl (by simp)
    · rw [upf_ne _ _ e] at hv
      rcases h.clo v hv with h2 | h2
      · exact .inl (by simp [h2])
      · exact .inr fun t ht => upf_mono (h2 t ht)
theorem BI.pop {x : Nat} (h : BI N adj S th (x :: row)) (hx : ∀ t ∈ adj x, th t ≠ 0) : BI N adj S th row :=
  ⟨h.sound, fun u hu => h.mem u (by simp [hu]), fun u hu => by
    rcases h.clo u hu with h2 | h2
    · rw [List.mem_cons] at h2
      rcases h2 with rfl | h2
      · exact .inr hx
      · exact .inl h2
    · exact .inr h2⟩
theorem closed_rs {adj : Nat → List Nat} {th : Nat → Nat} (h : ∀ v, th v ≠ 0 → ∀ t ∈ adj v, th t ≠ 0) {s u : Nat} (hr : Rs adj s u) : th s ≠ 0 → th u ≠ 0 := by
  induction hr with
  | refl => exact id
  | step h3 _ ih => exact fun h0 => ih (h _ h0 _ h3)
theorem BI.all (h : BI N adj S th []) (hs : ∀ s ∈ S, th s ≠ 0) {u : Nat} : th u ≠ 0 ↔ ∃ s ∈ S, Rs adj s u := by
  refine ⟨h.sound u, fun ⟨s, h1, h2⟩ => closed_rs (fun v hv => ?_) h2 (hs s h1)⟩
  rcases h.clo v hv with h4 | h4
  · simp at h4
  · exact h4
open Classical in
theorem BI.tab_ (h : BI N adj S th []) (hs : ∀ s ∈ S, th s ≠ 0) : tab N (tb th) = tab N fun u => .bool (rchB adj S u) := tab_congr fun u => by
  unfold tb rchB
  congr 1
  by_cases e : th u ≠ 0
  · rw [decide_eq_true e, decide_eq_true ((h.all hs).1 e)]
  · rw [decide_eq_false e, decide_eq_false (fun k => e ((h.all hs).2 k))]
end
theorem rch_succ (k : Nat) (adj : Nat → List Nat) (S : List Nat) : rchL (k + 1) adj S = rchL k adj S ++ (if rchB adj S k = true then [k] else []) := by
  rw [rchL, List.range_succ, List.filter_append]
  congr 1
  cases h : rchB adj S k <;> simp [h]
theorem rch_len (k : Nat) (adj : Nat → List Nat) (S : List Nat) : (rchL k adj S).length ≤ k := Nat.le_trans (List.length_filter_le _ _) (by simp)
end Go.Proofs.Ytmcpbmadjpjckaa
