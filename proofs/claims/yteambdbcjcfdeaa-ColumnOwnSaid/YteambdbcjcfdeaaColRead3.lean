/-
  Reading a column of the run way: the walk over the Go text. Condition: fewer than 2^47 bytes, at most 65536 rows.
-/
import Derived.Test.YteambdbcjcfdeaaColRepeat
namespace Go.Proofs.Yteambdbcjcfdeaa
open Go.RowKit

def expand (xs : List (UInt32 × Nat)) : List UInt32 := xs.flatMap fun p => List.replicate p.2 p.1
def runBs (xs : List (UInt32 × Nat)) : List UInt8 := xs.flatMap fun p => form p.1.toNat ++ form p.2
theorem tw_rep (r : List UInt32) (x : UInt32) : r.takeWhile (· == x) = List.replicate (r.takeWhile (· == x)).length x := by
  induction r with
  | nil => rfl
  | cons y r ih =>
    rw [List.takeWhile_cons]
    split
    · rename_i h
      have e : y = x := by simpa using h
      rw [List.length_cons, List.replicate_succ, ← ih, e]
    · rfl
theorem expand_runs (c : List UInt32) : expand (runs c) = c := by
  have h : ∀ (f : Nat) (l : List UInt32), l.length ≤ f → expand (runs l) = l := by
    intro f
    induction f with
    | zero => intro l hl; obtain rfl : l = [] := List.eq_nil_of_length_eq_zero (by omega); rfl
    | succ f ih =>
      intro l hl
      cases l with
      | nil => rfl
      | cons x r =>
        have h1 := dropW_len r x
        simp only [List.length_cons] at hl
        have h2 := ih (r.dropWhile (· == x)) (by omega)
        rw [runs_cons, expand, List.flatMap_cons]
        show List.replicate _ x ++ expand (runs (r.dropWhile (· == x))) = _
        rw [h2, List.replicate_succ, ← tw_rep, List.cons_append, List.takeWhile_append_dropWhile]
  exact h _ _ (Nat.le_refl _)
theorem runBs_runs (c : List UInt32) : runBs (runs c) = runS c := rfl
theorem numS_more {bs : List UInt8} {p a p2 : Nat} (h : numS bs p 0 = (a, p2, 0)) : p < p2 ∧ p2 ≤ max p bs.length := by
  obtain ⟨⟨x, k, e⟩, hg⟩ : ∃ r, getS (bs.drop p) = r := ⟨_, rfl⟩
  by_cases he : e = 0
  · subst he
    rw [numS_yes hg] at h
    simp only [Prod.mk.injEq] at h
    have hb := get_back hg
    have hf := (form_len x).1
    rw [hb.2.1, List.length_take, List.length_drop] at hf
    have h2 := hb.1
    rw [List.length_drop] at h2
    omega
  · rw [numS_no hg he] at h
    simp only [Prod.mk.injEq] at h
    omega
def FitR (bs : List UInt8) (rows : Nat) (acc : List UInt32) (p : Nat) : Prop := ∀ c, runS c = bs → c.length = rows → ∃ pre post, runs c = pre ++ post ∧ p = (runBs pre).length ∧ acc = expand pre
theorem expand_len (xs : List (UInt32 × Nat)) (ys : List (UInt32 × Nat)) : (expand (xs ++ ys)).length = (expand xs).length + (expand ys).length := by simp [expand]
theorem fitR_next {bs : List UInt8} {rows : Nat} {acc : List UInt32} {p a p1 f1 l p2 f2 : Nat} (h : FitR bs rows acc p) (hp : p < bs.length) (hrows : rows ≤ 65536) (hn : numS bs p 0 = (a, p1, f1)) (hm : numS bs p1 f1 = (l, p2, f2)) :
    (∀ c, runS c = bs → c.length = rows → f2 = 0 ∧ a < 4294967296 ∧ l ≤ rows - acc.length) ∧ (∀ x : UInt32, x.toNat = a → FitR bs rows (acc ++ List.replicate l x) p2) := by
  have key : ∀ c, runS c = bs → c.length = rows → ∃ pre post y, runs c = pre ++ (y, l) :: post ∧ acc = expand pre ∧ a = y.toNat ∧ p2 = (runBs (pre ++ [(y, l)])).length ∧ f2 = 0 ∧ l ≤ rows - acc.length := fun c h1 h2 => by
    obtain ⟨pre, post, e1, e2, e3⟩ := h c h1 h2
    have hex := expand_runs c
    rw [e1] at hex
    have hbs : bs = runBs pre ++ runBs post := by rw [← h1, ← runBs_runs, e1]; simp [runBs]
    cases post with
    | nil =>
      rw [hbs] at hp
      simp [runBs] at hp
      simp [runBs] at e2
      omega
    | cons q post =>
      obtain ⟨y, m⟩ := q
      have hlen := congrArg List.length hex
      rw [expand_len] at hlen
      have hq : (expand ((y, m) :: post)).length = m + (expand post).length := by simp [expand]
      have hal : acc.length = (expand pre).length := by rw [e3]
      have hd : bs.drop p = form y.toNat ++ (form m ++ runBs post) := by
        rw [hbs, e2, List.drop_left]
        simp [runBs]
      have hy := u32_lt y
      rw [numS_at hd (by unfold U64; omega)] at hn
      simp only [Prod.mk.injEq] at hn
      obtain ⟨rfl, rfl, rfl⟩ := hn
      have hd2 : bs.drop (p + (form y.toNat).length) = form m ++ runBs post := by rw [← List.drop_drop, hd, List.drop_left]
      rw [numS_at hd2 (by unfold U64; omega)] at hm
      simp only [Prod.mk.injEq] at hm
      obtain ⟨rfl, rfl, rfl⟩ := hm
      refine ⟨pre, post, y, e1, e3, rfl, ?_, rfl, by omega⟩
      rw [e2]
      simp [runBs]
      omega
  refine ⟨fun c h1 h2 => ?_, fun x hx c h1 h2 => ?_⟩
  · obtain ⟨_, _, y, _, _, e, _, e2, e3⟩ := key c h1 h2
    exact ⟨e2, by rw [e]; exact u32_lt y, e3⟩
  · obtain ⟨pre, post, y, e1, e2, e3, e4, _, _⟩ := key c h1 h2
    have hxy : x = y := UInt32.toNat_inj.1 (by omega)
    subst hxy
    exact ⟨pre ++ [(x, l)], post, by rw [e1, List.append_assoc]; rfl, e4, by rw [e2]; simp [expand]⟩
theorem fitR_done {bs : List UInt8} {rows : Nat} {acc : List UInt32} {p : Nat} (h : FitR bs rows acc p) (he : ¬ p < bs.length) : ∀ c, runS c = bs → c.length = rows → acc = c := fun c h1 h2 => by
  obtain ⟨pre, post, e1, e2, e3⟩ := h c h1 h2
  have hbs : bs = runBs pre ++ runBs post := by rw [← h1, ← runBs_runs, e1]; simp [runBs]
  cases post with
  | nil =>
    rw [e3, ← expand_runs c, e1, List.append_nil]
  | cons q post =>
    have hf := (form_len q.1.toNat).1
    rw [hbs, List.length_append, ← e2] at he
    have : (runBs (q :: post)).length = (form q.1.toNat ++ form q.2).length + (runBs post).length := by simp [runBs]; omega
    rw [List.length_append] at this
    omega

set_option maxRecDepth 100000 in
set_option maxHeartbeats 2000000 in
theorem readRuns_any (A : Option Addr) (N cap B rows : Nat) (bs : List UInt8) (w : World) (hr : Reads w B 1 A N (bs.map bv)) (hN : N ≤ 140737488355328) (hrows : rows ≤ 65536) :
    Calls Try.prog 64 #[.slice A N cap, .int .i64 (rows : Int)] w (RdOut w runS bs rows) := by
  have hlen : bs.length = N := by have := hr.1; simpa using this
  have hNR := hide (newReader_any A N cap B bs w hr hN)
  clear hr
  go_enter Try.func64, Try.ntmps64
  go_wp2_with fail
  refine (unhide hNR).mono ?_
  rintro e W1 ⟨r, A1, c1, rfl, hrl, _, hrd, hb1⟩
  have hrlt := hrd.blk.lt
  have HRD := hide hrd
  have HB1 := hide hb1
  have hz1 := hb1.size
  have HF : Hid (FitR bs rows [] 0) := fun c _ _ => ⟨[], runs c, rfl, rfl, rfl⟩
  clear hrd hb1 hNR
  go_wp2_with fail
  go_loopg [5] N (fun q t W => ∃ (acc : List UInt32) (p : Nat), p + q = N ∧ acc.length ≤ rows ∧ W.ownsRow W1.heap.size 40 1 t acc.length (acc.map uw) ∧ RdP W r A1 N c1 bs p 0 ∧ Below w.heap.size w W ∧ W1.heap.size ≤ W.heap.size ∧ FitR bs rows acc p)
  case atStart => exact ⟨[], 0, by omega, by simp, World.ownsRow_nil _ _ _ _, unhide HRD, unhide HB1, Nat.le_refl _, unhide HF⟩
  case round =>
    obtain ⟨acc, p, hq, hal, ho, hrd, hb, hz, hfit⟩ := hrel
    clear HRD HB1 HF
    obtain ⟨At, ct, rfl⟩ := ho.shape
    obtain ⟨k, hk⟩ : ∃ k, acc.length = k := ⟨_, rfl⟩
    rw [hk] at hal ho
    rw [hk]
    have hL := hide (left_made wr r A1 N c1 bs p 0 hrd)
    have HO := hide ho
    have HRD := hide hrd
    have HB := hide hb
    have HFIT := hide hfit
    have HK := Lib.hid hk
    clear ho hrd hb hfit hk
    by_cases hgo : p < N
    · have hd1 : (0 : Int) < ((N - p : Nat) : Int) := by omega
      have hd2 : (k : Int) ≤ (rows : Int) := by omega
      have hk0I : (0 : Int) ≤ (k : Int) := by omega
      go_wp2_with fail
      refine (unhide hL).mono ?_
      rintro e w2 ⟨rfl, m2, rfl⟩
      have hNm := num_made (wr.drewN m2) r A1 N c1 bs p 0 ((unhide HRD).drewN m2)
      have ha64 := numS_lt bs p 0
      obtain ⟨⟨a, p1, f1⟩, hnS⟩ : ∃ t, numS bs p 0 = t := ⟨_, rfl⟩
      have hl64 := numS_lt bs p1 f1
      obtain ⟨⟨l, p2, f2⟩, hnS2⟩ : ∃ t, numS bs p1 f1 = t := ⟨_, rfl⟩
      have hf12 : f2 = 0 → p < p2 ∧ p2 ≤ N := fun e => by
        subst e
        by_cases h1 : f1 = 0
        · subst h1
          have h2 := numS_more hnS
          have h3 := numS_more hnS2
          omega
        · rw [numS_fault h1] at hnS2
          simp only [Prod.mk.injEq] at hnS2
          omega
      obtain ⟨hfn1, hfn2⟩ := fitR_next (unhide HFIT) (by rw [hlen]; exact hgo) hrows hnS hnS2
      rw [hnS] at hNm ha64
      rw [hnS2] at hl64
      rw [HK.out] at hfn1
      have HNM := hide hNm
      have HF1 := hide hfn1
      have HF2 := hide hfn2
      have HNS2 := Lib.hid hnS2
      have HF12 := hide hf12
      clear hNm hnS hnS2 hfn1 hfn2 hL hf12
      go_wp2_with fail
      refine (unhide HNM).mono ?_
      rintro e w3 ⟨rfl, ha3⟩
      have ho3 := ha3.2.own ((unhide HO)) (fun i h1 h2 => by have := ((unhide HO).lt i h1).1; omega)
      have hb3 := (below_drewN (unhide HB) m2).trans (ha3.2.below (below_drewN (unhide HB) m2).size (fun i h1 h2 => by omega))
      have hz3 := ha3.2.size
      have hN2 := num_made w3 r A1 N c1 bs p1 f1 ha3.1
      rw [HNS2.out] at hN2
      have HN2 := hide hN2
      have HO3 := hide ho3
      have HB3 := hide hb3
      clear ha3 ho3 hb3 HO HB HRD HNM hN2
      by_cases hx : a < 4294967296
      · go_wp2_with fail
        refine (taken_yes a w3 hx).mono ?_
        rintro e w4 ⟨rfl, rfl⟩
        go_wp2_with fail
        refine (unhide HN2).mono ?_
        rintro e w5 ⟨rfl, ha5⟩
        have ho5 := ha5.2.own ((unhide HO3)) (fun i h1 h2 => by have := ((unhide HO3).lt i h1).1; omega)
        have hb5 := (unhide HB3).trans (ha5.2.below (unhide HB3).size (fun i h1 h2 => by omega))
        have hz5 := ha5.2.size
        have HO5 := hide ho5
        have HB5 := hide hb5
        have HA5 := hide ha5.1
        have hE := hide (err_made w5 r A1 N c1 bs p2 f2 ha5.1)
        clear ha5 ho5 hb5 HO3 HB3 HN2
        go_wp2_with fail
        refine (unhide hE).mono ?_
        rintro e w6 ⟨rfl, rfl⟩
        by_cases hf : f2 = 0
        · subst hf
          have hpp := unhide HF12 rfl
          clear HF12
          by_cases hl : l ≤ rows - k
          · have hl1 : (l : Int) ≤ (rows : Int) - (k : Int) := by omega
            have hsb : IntKind.i64.wrap ((rows : Int) - (k : Int)) = ((rows - k : Nat) : Int) := by rw [IntWalk.i64_in _ (by omega)]; omega
            have hu : IntKind.u64.wrap ((rows - k : Nat) : Int) = ((rows - k : Nat) : Int) := wrapu_nat _ (by omega)
            go_wp2_with fail
            have hxa : (UInt32.ofNat a).toNat = a := by rw [UInt32.toNat_ofNat']; omega
            have hua : uw (UInt32.ofNat a) = .int .u32 (a : Int) := by rw [uw, hxa]
            have hba : Below w5.heap.size w5 (w5.alloc (.cells #[.int .u32 (a : Int)] 40)) := (Below.refl _ _).alloc (Nat.le_refl _) _
            have hRp := hide (repeat_any (UInt32.ofNat a) l w5.heap.size (w5.alloc (.cells #[.int .u32 (a : Int)] 40)) (by omega) (by rw [hua]; exact (Blk.new w5 _ _).cell 0))
            have HBA := hide hba
            have HXA := Lib.hid hxa
            clear hxa hua hba hE
            refine (unhide hRp).mono ?_
            rintro e w7 ⟨v7, rfl, ho7, hb7⟩
            obtain ⟨A7, c7, rfl⟩ := ho7.shape
            have hb57 := (unhide HBA).trans (hb7.mono (unhide HBA).size)
            have ho57 := (Chg.of_below hb57 (fun _ => False)).own (unhide HO5) (fun _ _ h => h)
            have hzw : W1.heap.size ≤ w7.heap.size := by
              have h1 : (wr.drewN m2).heap.size = wr.heap.size := rfl
              have h2 := hb57.size
              omega
            have HC : Hid (k + l ≤ maxLen ∧ (k + l) * 4 ≤ 140737488355328) := cap4 (by omega)
            have HR7 := hide (Reads.of_own ho7)
            have HO57 := hide ho57
            have HB57 := hide hb57
            clear ho7 hb7 hb57 ho57 hRp HBA
            go_wp2_with (first
              | (at_builtin
                 refine wpList_app w7 rfl (.tmp 39) (.tmp 44) 22 rfl elem_u32 W1.heap.size (.slice At k ct) k (acc.map uw) rfl (unhide HO57) w7.heap.size A7 l c7 ((List.replicate l (UInt32.ofNat a)).map uw) rfl (unhide HR7) (uw_one _) HC.out hzw ?_
                 intro v8 w8 ho8 hg8 hr8
                 obtain ⟨A8, c8, rfl⟩ := ho8.shape
                 have HO8 := hide ho8
                 have HR8 := hide (((unhide HA5).chg (Chg.of_below (unhide HB57) (fun _ => False)) (fun _ _ h => h)).chg (Chg.of_grown hg8) (fun i h1 h2 => by have := ((unhide HO57).lt i h2).1; omega))
                 have HB8 := hide (((unhide HB5).trans ((unhide HB57).mono (unhide HB5).size)).grown hg8 (by have h1 := (unhide HB5).size; have h2 := (unhide HB57).size; omega) (fun i e => by have := ((unhide HO57).lt i e).1; omega))
                 have hz8 := hg8.size
                 clear ho8 hg8 hr8))
            go_roundg (N - p2)
            case rel =>
              refine ⟨acc ++ List.replicate l (UInt32.ofNat a), p2, by omega, by rw [List.length_append, HK.out]; simp; omega, ?_, unhide HR8, unhide HB8, by omega, unhide HF2 _ HXA.out⟩
              have h := unhide HO8
              rw [List.length_append, HK.out, List.length_replicate, List.map_append]
              exact h
            case measure => omega
          · have hl1 : (rows : Int) - (k : Int) < (l : Int) := by omega
            have hsb : IntKind.i64.wrap ((rows : Int) - (k : Int)) = ((rows - k : Nat) : Int) := by rw [IntWalk.i64_in _ (by omega)]; omega
            have hu : IntKind.u64.wrap ((rows - k : Nat) : Int) = ((rows - k : Nat) : Int) := wrapu_nat _ (by omega)
            go_wp2_with fail
            go_ret
            exact ⟨_, acc, rfl, HK.out ▸ ((unhide HO5).base (by omega) : w5.ownsRow w.heap.size _ _ _ _ _), by rw [HK.out]; omega, unhide HB5, fun c2 h1 h2 => absurd (unhide HF1 c2 h1 h2) (by omega)⟩
        · have hfb : ((f2 : Int) != 0) = true := by simp; omega
          go_wp2_with fail
          go_ret
          exact ⟨_, acc, rfl, HK.out ▸ ((unhide HO5).base (by omega) : w5.ownsRow w.heap.size _ _ _ _ _), by rw [HK.out]; omega, unhide HB5, fun c2 h1 h2 => absurd (unhide HF1 c2 h1 h2) (by omega)⟩
      · go_wp2_with fail
        refine (taken_no a w3 hx).mono ?_
        rintro e w4 ⟨rfl, rfl⟩
        go_wp2_with fail
        refine (unhide HN2).mono ?_
        rintro e w5 ⟨rfl, ha5⟩
        have ho5 := ha5.2.own ((unhide HO3)) (fun i h1 h2 => by have := ((unhide HO3).lt i h1).1; omega)
        have hb5 := (unhide HB3).trans (ha5.2.below (unhide HB3).size (fun i h1 h2 => by omega))
        have hz5 := ha5.2.size
        have HO5 := hide ho5
        have HB5 := hide hb5
        have HA5 := hide ha5.1
        have hE := hide (err_made w5 r A1 N c1 bs p2 f2 ha5.1)
        clear ha5 ho5 hb5 HO3 HB3 HN2
        go_wp2_with fail
        refine (unhide hE).mono ?_
        rintro e w6 ⟨rfl, rfl⟩
        by_cases hf : f2 = 0
        · subst hf
          go_wp2_with fail
          go_ret
          exact ⟨_, acc, rfl, HK.out ▸ ((unhide HO5).base (by omega) : w5.ownsRow w.heap.size _ _ _ _ _), by rw [HK.out]; omega, unhide HB5, fun c2 h1 h2 => absurd (unhide HF1 c2 h1 h2) (by omega)⟩
        · have hfb : ((f2 : Int) != 0) = true := by simp; omega
          go_wp2_with fail
          go_ret
          exact ⟨_, acc, rfl, HK.out ▸ ((unhide HO5).base (by omega) : w5.ownsRow w.heap.size _ _ _ _ _), by rw [HK.out]; omega, unhide HB5, fun c2 h1 h2 => absurd (unhide HF1 c2 h1 h2) (by omega)⟩
    · have hfin := fitR_done (unhide HFIT) (by rw [hlen]; exact hgo)
      have HFIN := hide hfin
      clear hfin
      have hd1 : ¬ (0 : Int) < ((N - p : Nat) : Int) := by omega
      go_wp2_with fail
      refine (unhide hL).mono ?_
      rintro e w2 ⟨rfl, m2, rfl⟩
      go_wp2_with fail
      go_ret
      exact ⟨_, acc, rfl, HK.out ▸ ((unhide HO).base (by omega) : wr.ownsRow w.heap.size _ _ _ _ _), by rw [HK.out]; omega, below_drewN (unhide HB) _, unhide HFIN⟩
end Go.Proofs.Yteambdbcjcfdeaa
