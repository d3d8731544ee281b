/-
  The writer of leb, over the Go text, as far as columns call it: NewWriter, Num, Raw, Bytes. Condition: what a writer holds stays below 2^46 bytes.
-/
import Derived.Test.YteambdbcjcfdeaaRows
import Derived.Test.YteambdbcjcfdeaaWords
import Derived.Test.YteambdbcjcfdeaaLebMath
import Derived.Test.YteambdbcjcfdeaaLebAdd
import Derived.Test.YteambdbcjcfdeaaLebTurn
import Derived.Test.YteambdbcjcfdeaaLebTurnM
import Derived.Test.YteambdbcjcfdeaaLebSize
import Derived.Test.YteambdbcjcfdeaaQuiet
import Derived.Test.YteambdbcjcfdeaaAppTwo
import Derived.Deep.RegionHeld3
import Derived.Deep.RegionWith
import Derived.Deep.DrawnRows
namespace Go.Proofs.Yteambdbcjcfdeaa
open Go.RowKit

theorem none_made (w : World) (g : Nat) (v : Value) (h : Blk w g 77 #[v, .bool true]) :
    Calls Try.prog 49 #[.pointer (some ⟨g, 0, none⟩)] w fun e w' => e = .returned (.bool false) ∧ w = w' := by
  have hc : w.cell? ⟨g, 1, none⟩ = some (.bool true) := h.cell 1
  clear h
  go_enter Try.func49, Try.ntmps49
  go_wp2
  go_ret
  exact ⟨rfl, rfl⟩
theorem newWriter_any (w : World) :
    Calls Try.prog 32 #[] w fun e w' => e = .returned (.pointer (some ⟨w.heap.size, 0, none⟩)) ∧ w' = w.alloc (.cells #[.slice none 0 0, .bool true] 77) := by
  go_enter Try.func32, Try.ntmps32
  go_wp2
  go_ret
  exact ⟨rfl, rfl⟩
theorem bytes_made (w : World) (g : Nat) (A : Option Addr) (n c B : Nat) (bs : List UInt8) (h : Blk w g 77 #[.slice A n c, .bool true]) (hr : Reads w B 1 A n (bs.map bv)) (hn : n ≤ 140737488355328) :
    Calls Try.prog 35 #[.pointer (some ⟨g, 0, none⟩)] w fun e w' => ∃ v', e = .returned v' ∧ w'.ownsRow w.heap.size 5 1 v' n (bs.map bv) ∧ Below w.heap.size w w' := by
  have hc : w.cell? ⟨g, 0, none⟩ = some (.slice A n c) := h.cell 0
  have hN := hide (none_made w g _ h)
  have hC := hide (clone_any A n c bs w B hr hn)
  clear h
  go_enter Try.func35, Try.ntmps35
  go_wp2_with (first
    | (go_at_call 49; refine (unhide hN).mono ?_; rintro e w1 ⟨rfl, rfl⟩)
    | (go_at_call 69; refine (unhide hC).mono ?_; rintro e w1 ⟨v1, rfl, ho, hb⟩))
  go_ret
  exact ⟨_, rfl, ho, hb⟩
/-- A writer that was made: its struct lies in block g, its bytes in a row of its own behind it. -/
structure WrP (w : World) (g : Nat) (v : Value) (bs : List UInt8) : Prop where
  blk : Blk w g 77 #[v, .bool true]
  own : w.ownsRow (g + 1) 5 1 v bs.length (bs.map bv)
def uv (n : Nat) : Value := .int .u64 (n : Int)
def iv (k : Int) : Value := .int .i64 k
def forms (ns : List Nat) : List UInt8 := ns.flatMap form
theorem forms_snoc (ns : List Nat) (n : Nat) : forms (ns ++ [n]) = forms ns ++ form n := by simp [forms]
/-- What a call of a writer has turned: its struct, its row, nothing else that was there. -/
structure Turns (w : World) (g : Nat) (v : Value) (w' : World) (v' : Value) : Prop where
  chg : Chg w w' (fun i => i = g ∨ v.ownBlock = some i)
  row : v'.ownBlock = v.ownBlock ∨ ∃ i, v'.ownBlock = some i ∧ w.heap.size ≤ i
section
variable {w w1 w2 : World} {g : Nat} {v v1 v2 : Value} {bs : List UInt8}
theorem Turns.refl (w : World) (g : Nat) (v : Value) : Turns w g v w v := ⟨Chg.refl _ _, .inl rfl⟩
theorem Turns.trans (h : Turns w g v w1 v1) (k : Turns w1 g v1 w2 v2) : Turns w g v w2 v2 := by
  refine ⟨h.chg.trans k.chg (fun i hi e => ?_), ?_⟩
  · rcases e with e | e
    · exact .inl e
    · rcases h.row with hr | ⟨j, hj, hl⟩
      · exact .inr (by rw [← hr]; exact e)
      · rw [hj] at e
        cases e
        omega
  · rcases k.row with kr | ⟨j, hj, hl⟩
    · rw [kr]; exact h.row
    · exact .inr ⟨j, hj, Nat.le_trans h.chg.size hl⟩
theorem Turns.drewN (h : Turns w g v w1 v1) (k : Nat) : Turns w g v (w1.drewN k) v1 := ⟨⟨h.chg.os, h.chg.tape, h.chg.output, h.chg.size, h.chg.block⟩, h.row⟩
theorem WrP.ne (h : WrP w g v bs) : v.ownBlock ≠ some g := fun e => by have := (h.own.lt g e).1; omega
theorem WrP.chg (h : WrP w g v bs) {S : Nat → Prop} (hc : Chg w w1 S) (hg : ¬ S g) (hr : ∀ i, v.ownBlock = some i → ¬ S i) : WrP w1 g v bs := ⟨hc.blk h.blk hg, hc.own h.own hr⟩
end
theorem WrP.next {w w4 : World} {g : Nat} {v v2 : Value} {bs f : List UInt8} (h : WrP w g v bs) (ho : w4.ownsRow (g + 1) 5 1 v2 (bs.length + f.length) (bs.map bv ++ f.map bv)) (hg : w.grownBy w4 v.ownBlock) (hr : v2.ownBlock = v.ownBlock ∨ ∃ i, v2.ownBlock = some i ∧ w.heap.size ≤ i) :
    WrP (w4.setCell ⟨g, 0, none⟩ v2) g v2 (bs ++ f) ∧ Turns w g v (w4.setCell ⟨g, 0, none⟩ v2) v2 := by
  have hb4 : Blk w4 g 77 #[v, .bool true] := h.blk.grown hg (fun e => h.ne e.symm)
  refine ⟨⟨hb4.set_ 0 v2, ?_⟩, ⟨((Chg.refl w (fun i => i = g ∨ v.ownBlock = some i)).grown hg (fun i e _ => .inr e)).set_ ⟨g, 0, none⟩ v2 (fun _ => .inl rfl), hr⟩⟩
  rw [List.length_append, List.map_append]
  exact (Chg.of_set w4 ⟨g, 0, none⟩ v2).own ho (fun i hi e => by
    have := (ho.lt i hi).1
    simp only at e
    omega)
theorem id_any (x : Nat) (w : World) : Calls Try.prog 76 #[.int .u64 (x : Int)] w fun e w' => e = .returned (.int .u64 (x : Int)) ∧ w = w' := by
  go_enter Try.func76, Try.ntmps76
  go_wp2
  go_ret
  exact ⟨rfl, rfl⟩
theorem forms_len (ns : List Nat) : (forms ns).length ≤ 10 * ns.length := by
  induction ns with
  | nil => simp [forms]
  | cons n ns ih =>
    have := (form_len n).2
    simp only [forms, List.flatMap_cons, List.length_append, List.length_cons] at ih ⊢
    omega
attribute [local go_sem ↓] Go.wp_at_zero Go.wp_at_succ in
set_option maxHeartbeats 1000000 in
theorem eachU_any (w : World) (g a : Nat) (v : Value) (bs : List UInt8) (ns : List Nat) (h : WrP w g v bs) (ha : Blk w a 71 (ns.map uv).toArray) (hag : a ≠ g) (hav : v.ownBlock ≠ some a) (hn : ∀ n ∈ ns, n < U64) (hl : ns.length ≤ 1000) (hb : bs.length + 10 * ns.length ≤ 140737488350000) :
    Calls Try.prog 75 #[.pointer (some ⟨g, 0, none⟩), .slice (some ⟨a, 0, none⟩) ns.length ns.length, .func (.func 76) #[] #[]] w fun e w' =>
      e = .returned (.tuple #[]) ∧ ∃ v', WrP w' g v' (bs ++ forms ns) ∧ Turns w g v w' v' := by
  have hN := hide (none_made w g v h.blk)
  have HH := hide h
  have HA := hide ha
  have HN := hide hn
  obtain ⟨N, hNl⟩ : ∃ N, ns.length = N := ⟨_, rfl⟩
  rw [hNl] at hl hb ⊢
  clear h ha hn
  go_enter Try.func75, Try.ntmps75
  go_wp2_with (go_at_call 49; refine (unhide hN).mono ?_; rintro e w1 ⟨rfl, rfl⟩)
  go_loopg [12] N (fun q t W => ∃ (k : Nat) (v' : Value), k + q = N ∧ t = .int .i64 (k : Int) ∧ WrP W g v' (bs ++ forms (ns.take k)) ∧ Turns w g v W v' ∧ Blk W a 71 (ns.map uv).toArray)
  case atStart => exact ⟨0, v, by omega, rfl, by simpa [forms] using unhide HH, Turns.refl _ _ _, unhide HA⟩
  case round =>
    obtain ⟨k, v', hk, rfl, hW, hT, hA⟩ := hrel
    by_cases hlt : k < N
    · obtain ⟨q, rfl⟩ : ∃ q, gk = q + 1 := ⟨gk - 1, by omega⟩
      obtain ⟨x, hx⟩ : ∃ x, ns[k]? = some x := ⟨_, List.getElem?_eq_getElem (by omega)⟩
      have hxl := unhide HN x (List.mem_of_getElem? hx)
      have q0 : wr.cell? ⟨a, k, none⟩ = some (.int .u64 (x : Int)) := by
        rw [hA.cell, List.getElem?_toArray, List.getElem?_map, hx]
        rfl
      have c0 : wr.cell? ⟨g, 0, none⟩ = some v' := hW.blk.cell 0
      have f0 : wr.frozen? ⟨g, 0, none⟩ = false := hW.blk.frozen 0
      have hk0 : (0 : Int) ≤ (k : Int) := by omega
      have hk1 : (k : Int) < (N : Int) := by omega
      have hW' : WrP wr.drew g v' (bs ++ forms (ns.take k)) := ⟨hW.blk, hW.own⟩
      obtain ⟨xs, hxs⟩ : ∃ xs, bs ++ forms (ns.take k) = xs := ⟨_, rfl⟩
      have hxl2 : xs.length ≤ 140737488350000 := by
        have := forms_len (ns.take k)
        rw [List.length_take] at this
        rw [← hxs, List.length_append]
        omega
      rw [hxs] at hW hW'
      have hI := hide (id_any x wr.drew)
      have hgs := hW.blk.lt
      have hAd := hide (add_any v' xs.length (xs.map bv) x wr.drew hxl (g + 1) hW'.own (by show g + 1 ≤ wr.heap.size; omega) (by omega))
      have hne : ∀ i, v'.ownBlock = some i → i ≠ a := fun i hi e => by
        subst e
        rcases hT.row with hr | ⟨j, hj, hlj⟩
        · exact hav (by rw [← hr]; exact hi)
        · rw [hj] at hi
          cases hi
          have := (unhide HA).lt
          omega
      have hnx : xs ++ form x = bs ++ forms (ns.take (k + 1)) := by
        rw [List.take_add_one, hx, Option.toList_some, forms_snoc, ← List.append_assoc, hxs]
      have HW := hide hW'
      have HT := hide hT
      have HA2 := hide hA
      have HNE := hide hne
      have HX := Lib.hid hnx
      have hgne := hW.ne
      clear hW hW' hT hA hne hnx hxs hx hav
      go_wp2
      go_region_with (first
        | (go_at_call 76; (with_reducible refine (unhide hI).mono ?_); rintro e w3 ⟨rfl, rfl⟩)
        | (go_at_call 88; (with_reducible refine (unhide hAd).mono ?_); rintro e w4 ⟨v4, rfl, ho4, hg4, hr4⟩; obtain ⟨A4, c4, rfl⟩ := ho4.shape
           have d0 : w4.cell? ⟨g, 0, none⟩ = some v' := hg4.cell c0 (by exact fun e => hgne e.symm)
           have e0 : w4.frozen? ⟨g, 0, none⟩ = false := (World.frozen?_of_block (hg4.block g hgs (fun e => hgne e.symm))).trans f0
           have HO4 := hide ho4
           have HG4 := hide hg4
           have HR4 := hide hr4
           clear ho4 hg4 hr4))
      all_goals
        obtain ⟨hw5, ht5⟩ := (unhide HW).next (f := form x) (unhide HO4) (unhide HG4) (unhide HR4)
        have ht6 := ((unhide HT).drewN 1).trans ht5
        have ha5 : Blk (w4.setCell ⟨g, 0, none⟩ (.slice A4 (xs.length + (form x).length) c4)) a 71 (ns.map uv).toArray :=
          ht5.chg.blk ((unhide HA2).drewN 1) (fun e => by
            rcases e with e | e
            · exact hag e
            · exact unhide HNE a e rfl)
        rw [HX.out] at hw5
        have H5 := hide (And.intro hw5 (And.intro ht6 ha5))
        clear hw5 ht5 ht6 ha5 HW HT HO4 HG4 HR4 HA2 HNE HX c0 f0 d0 e0 q0
        go_wp2
        go_roundg q
        case rel => exact ⟨k + 1, _, by omega, by go_num, (unhide H5).1, (unhide H5).2.1, (unhide H5).2.2⟩
        case measure => omega
    · obtain rfl : k = N := by omega
      rw [List.take_of_length_le (by omega)] at hW
      have HW := hide hW
      have HT := hide hT
      clear hW hT hA
      go_wp2
      go_end0
      exact ⟨rfl, _, unhide HW, unhide HT⟩
/-- The number of a turned one. -/
def tn (k : Int) : Nat := (turnS k).toNat
theorem tn_val {k : Int} : turnS k = ((tn k : Nat) : Int) := by
  unfold tn turnS
  split <;> omega
theorem tn_lt {k : Int} (h1 : -9223372036854775808 ≤ k) (h2 : k ≤ 9223372036854775807) : tn k < U64 := by
  unfold tn turnS U64
  split <;> omega
theorem turn_tn (k : Int) (w : World) (h1 : -9223372036854775808 ≤ k) (h2 : k ≤ 9223372036854775807) :
    Calls Try.prog 40 #[.int .i64 k] w fun e w' => e = .returned (.int .u64 ((tn k : Nat) : Int)) ∧ w = w' := by
  rw [← tn_val]
  exact turn_any k w h1 h2
theorem wnum_any (w : World) (g a : Nat) (v : Value) (bs : List UInt8) (ns : List Nat) (h : WrP w g v bs) (ha : Blk w a 71 (ns.map uv).toArray) (hag : a ≠ g) (hav : v.ownBlock ≠ some a) (hn : ∀ n ∈ ns, n < U64) (hl : ns.length ≤ 1000) (hb : bs.length + 10 * ns.length ≤ 140737488350000) :
    Calls Try.prog 54 #[.pointer (some ⟨g, 0, none⟩), .slice (some ⟨a, 0, none⟩) ns.length ns.length] w fun e w' => e = .returned (.tuple #[]) ∧ ∃ v', WrP w' g v' (bs ++ forms ns) ∧ Turns w g v w' v' := by
  have hE := hide (eachU_any w g a v bs ns h ha hag hav hn hl hb)
  clear h ha
  go_enter Try.func54, Try.ntmps54
  go_wp2_with (go_at_call 75; refine (unhide hE).mono ?_; rintro e w1 ⟨rfl, hp⟩)
  go_end0
  exact ⟨rfl, hp⟩
theorem wraw_any (w : World) (g : Nat) (v : Value) (bs : List UInt8) (A : Option Addr) (n c B : Nat) (xs : List UInt8) (h : WrP w g v bs) (hr : Reads w B 1 A n (xs.map bv)) (hb : bs.length + n ≤ 140737488355328) :
    Calls Try.prog 33 #[.pointer (some ⟨g, 0, none⟩), .slice A n c] w fun e w' => e = .returned (.tuple #[]) ∧ ∃ v', WrP w' g v' (bs ++ xs) ∧ Turns w g v w' v' := by
  have hxl : xs.length = n := by have := hr.1; simpa using this
  have hN := hide (none_made w g v h.blk)
  obtain ⟨A1, c1, rfl⟩ := h.own.shape
  have c0 : w.cell? ⟨g, 0, none⟩ = some (.slice A1 bs.length c1) := h.blk.cell 0
  have f0 : w.frozen? ⟨g, 0, none⟩ = false := h.blk.frozen 0
  have hgl := h.blk.lt
  have hgne := h.ne
  have HC : Hid (bs.length + n ≤ maxLen ∧ (bs.length + n) * 1 ≤ 140737488355328) := cap1 hb
  have HH := hide h
  have HR := hide hr
  obtain ⟨N, hN'⟩ : ∃ N, bs.length = N := ⟨_, rfl⟩
  rw [hN'] at c0 HC hgne HH
  clear h hr
  go_enter Try.func33, Try.ntmps33
  go_wp2_with (first
    | (go_at_call 49; refine (unhide hN).mono ?_; rintro e w1 ⟨rfl, rfl⟩)
    | (at_builtin
       refine wpList_app _ rfl (.tmp 11) (.tmp 12) 24 rfl elem_u8 (g + 1) (.slice A1 N c1) N (bs.map bv) rfl (hN' ▸ (unhide HH).own) B A n c _ rfl (unhide HR) (bv_one _) HC.out (by omega) ?_
       intro v4 w4 ho4 hg4 hr4
       obtain ⟨A4, c4, rfl⟩ := ho4.shape
       have d0 : w4.cell? ⟨g, 0, none⟩ = some (.slice A1 N c1) := hg4.cell c0 (fun e => hgne e.symm)
       have e0 : w4.frozen? ⟨g, 0, none⟩ = false := (World.frozen?_of_block (hg4.block g hgl (fun e => hgne e.symm))).trans f0
       have HO4 := hide ho4
       have HG4 := hide hg4
       have HR4 := hide hr4
       clear ho4 hg4 hr4))
  go_end0
  have hn := (unhide HH).next (f := xs) (v2 := .slice A4 (N + n) c4) (w4 := w4) (by rw [hN', hxl]; exact unhide HO4) (unhide HG4) (by
    rcases unhide HR4 with h | h
    · exact .inl h
    · exact .inr ⟨_, h, Nat.le_refl _⟩)
  exact ⟨rfl, _, hn.1, by rw [hN']; exact hn.2⟩
end Go.Proofs.Yteambdbcjcfdeaa
