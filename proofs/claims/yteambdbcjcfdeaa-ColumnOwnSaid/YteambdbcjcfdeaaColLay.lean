/-
  What the plain, the delta and the run way lay into a writer: the walks over the Go text. Condition: what the writer holds stays below 2^47 bytes.
-/
import Derived.Test.YteambdbcjcfdeaaColRuns2
import Derived.Test.YteambdbcjcfdeaaColRd
namespace Go.Proofs.Yteambdbcjcfdeaa
open Go.RowKit Go.Shelf

theorem num_step (w : World) (g : Nat) (v : Value) (bs : List UInt8) (ns : List Nat) (h : WrP w g v bs) (hn : ∀ n ∈ ns, n < U64) (hl : ns.length ≤ 1000) (hb : bs.length + 10 * ns.length ≤ 140737488350000) :
    Calls Try.prog 54 #[.pointer (some ⟨g, 0, none⟩), .slice (some ⟨w.heap.size, 0, none⟩) ns.length ns.length] (w.alloc (.cells (ns.map uv).toArray 71)) fun e w' =>
      e = .returned (.tuple #[]) ∧ ∃ v', WrP w' g v' (bs ++ forms ns) ∧ Turns w g v w' v' := by
  have hb1 : Below w.heap.size w (w.alloc (.cells (ns.map uv).toArray 71)) := (Below.refl _ _).alloc (Nat.le_refl _) _
  have hgl := h.blk.lt
  have h1 : WrP (w.alloc (.cells (ns.map uv).toArray 71)) g v bs := h.chg (Chg.of_below hb1 (fun _ => False)) (fun h => h) (fun _ _ h => h)
  refine (wnum_any _ g w.heap.size v bs ns h1 (Blk.new w _ _) (by omega) (fun e => by have := (h.own.lt _ e).2; omega) hn hl hb).mono ?_
  rintro e w' ⟨rfl, v', hw, ht⟩
  exact ⟨rfl, v', hw, Turns.trans ⟨Chg.of_below hb1 _, .inl rfl⟩ ht⟩
theorem forms_one (n : Nat) : forms [n] = form n := by simp [forms]
theorem forms_two (n m : Nat) : forms [n, m] = form n ++ form m := by simp [forms]
theorem Turns.reads {w w' : World} {g : Nat} {v v' : Value} {B n : Nat} {A : Option Addr} {xs bs : List UInt8} {ys : List Value} (h : Turns w g v w' v') (hw : WrP w g v bs) (hB : B ≤ g) (hr : Reads w B 1 A n ys) (_ : xs = xs) : Reads w' B 1 A n ys :=
  h.chg.reads hr (by have := hw.blk.lt; omega) (fun i hi e => by
    rcases e with e | e
    · omega
    · have := (hw.own.lt i e).1; omega)

set_option maxRecDepth 100000 in
theorem lay2_any (c : List UInt32) (A : Option Addr) (n cap B : Nat) (w : World) (g : Nat) (v : Value) (bs : List UInt8) (h : WrP w g v bs) (hr : Reads w B 1 A n (c.map uw)) (hB : B ≤ g) (hb : bs.length + 20 * n ≤ 140737488340000) :
    Calls Try.prog 53 #[.pointer (some ⟨g, 0, none⟩), .slice A n cap] w fun e w' => e = .returned (.tuple #[]) ∧ ∃ v', WrP w' g v' (bs ++ plainS c) ∧ Turns w g v w' v' := by
  have hlen : c.length = n := by have := hr.1; simpa using this
  have HH := hide h
  have HR := hide hr
  clear h hr
  go_enter Try.func53, Try.ntmps53
  go_wp2_with fail
  go_loopg [8] n (fun q t W => ∃ (k : Nat) (v' : Value), k + q = n ∧ t = .int .i64 (k : Int) ∧ WrP W g v' (bs ++ plainS (c.take k)) ∧ Turns w g v W v')
  case atStart => exact ⟨0, v, by omega, rfl, by simpa [plainS] using unhide HH, Turns.refl _ _ _⟩
  case round =>
    obtain ⟨k, v', hk, rfl, hW, hT⟩ := hrel
    by_cases hlt : k < n
    · obtain ⟨q, rfl⟩ : ∃ q, gk = q + 1 := ⟨gk - 1, by omega⟩
      obtain ⟨b, off, x, rfl, _, hx, hc⟩ := (hT.reads (xs := []) (unhide HH) hB (unhide HR) rfl).num hlt
      have hx4 := u32_lt x
      have hle := plain_le c k
      have hN := num_step wr g v' (bs ++ plainS (c.take k)) [x.toNat] hW (fun n hn => by rw [List.mem_singleton.1 hn]; unfold U64; omega) (by simp) (by rw [List.length_append]; simp; omega)
      rw [forms_one, List.append_assoc, ← plainS_take c hx] at hN
      obtain ⟨X, hX⟩ : ∃ X, x.toNat = X := ⟨_, rfl⟩
      rw [hX] at hc hN hx4
      have HN := hide hN
      have HT := hide hT
      have hkn : (k : Int) < (n : Int) := by omega
      have hk0 : (0 : Int) ≤ (k : Int) := by omega
      have hw1 : IntKind.u64.wrap (X : Int) = (X : Int) := wrapu_nat X (by omega)
      clear hW hT hN hx hX
      go_wp2_with fail
      refine (unhide HN).mono ?_
      rintro e w2 ⟨rfl, v2, hw2, ht2⟩
      have HW2 := hide hw2
      have HT2 := hide ((unhide HT).trans ht2)
      clear hw2 ht2 HT HN
      go_wp2_with fail
      go_roundg q
      case rel => exact ⟨k + 1, v2, by omega, by go_num, unhide HW2, unhide HT2⟩
      case measure => omega
    · obtain rfl : n = k := by omega
      rw [List.take_of_length_le (by omega)] at hW
      have HW := hide hW
      have HT := hide hT
      clear hW hT
      go_wp2_with fail
      go_end0
      exact ⟨rfl, _, unhide HW, unhide HT⟩
set_option maxRecDepth 100000 in
theorem lay4_any (c : List UInt32) (A : Option Addr) (n cap B : Nat) (w : World) (g : Nat) (v : Value) (bs : List UInt8) (h : WrP w g v bs) (hr : Reads w B 1 A n (c.map uw)) (hB : B ≤ g) (hb : bs.length + 20 * n ≤ 140737488340000) :
    Calls Try.prog 59 #[.pointer (some ⟨g, 0, none⟩), .slice A n cap] w fun e w' => e = .returned (.tuple #[]) ∧ ∃ v', WrP w' g v' (bs ++ deltaS c) ∧ Turns w g v w' v' := by
  have hlen : c.length = n := by have := hr.1; simpa using this
  have HH := hide h
  have HR := hide hr
  clear h hr
  go_enter Try.func59, Try.ntmps59
  go_wp2_with fail
  go_loopg [7] n (fun q t W => ∃ (k : Nat) (v' : Value), k + q = n ∧ t = .int .i64 (k : Int) ∧ WrP W g v' (bs ++ deltaTo c k) ∧ Turns w g v W v')
  case atStart => exact ⟨0, v, by omega, rfl, by simpa [deltaTo] using unhide HH, Turns.refl _ _ _⟩
  case round =>
    obtain ⟨k, v', hk, rfl, hW, hT⟩ := hrel
    by_cases hlt : k < n
    · obtain ⟨q, rfl⟩ : ∃ q, gk = q + 1 := ⟨gk - 1, by omega⟩
      have hS := hide (step_any c A n cap B k wr (hT.reads (xs := []) (unhide HH) hB (unhide HR) rfl) hlt (by omega))
      have hle := deltaTo_len c k
      have hsl := stepAt_lt c k
      have hN := fun q => num_step (wr.drewN q) g v' (bs ++ deltaTo c k) [stepAt c k] (hW.chg (chg_drewN wr q (fun _ => False)) (fun h => h) (fun _ _ h => h)) (fun n hn => by rw [List.mem_singleton.1 hn]; exact hsl) (by simp) (by rw [List.length_append]; simp; omega)
      simp only [forms_one, List.append_assoc] at hN
      have hd : deltaTo c k ++ form (stepAt c k) = deltaTo c (k + 1) := rfl
      simp only [hd] at hN
      obtain ⟨X, hX⟩ : ∃ X, stepAt c k = X := ⟨_, rfl⟩
      simp only [hX] at hN
      rw [hX] at hS
      have HN := fun q => hide (hN q)
      have HT := hide hT
      have hkn : (k : Int) < (n : Int) := by omega
      have hk0 : (0 : Int) ≤ (k : Int) := by omega
      clear hW hT hN hX hd hsl
      go_wp2_with fail
      refine (unhide hS).mono ?_
      rintro e w1 ⟨rfl, m1, rfl⟩
      go_wp2_with fail
      refine (unhide (HN _)).mono ?_
      rintro e w2 ⟨rfl, v2, hw2, ht2⟩
      have HW2 := hide hw2
      have HT2 := hide (((unhide HT).drewN m1).trans ht2)
      clear hw2 ht2 HT HN hS
      go_wp2_with fail
      go_roundg q
      case rel => exact ⟨k + 1, v2, by omega, by go_num, unhide HW2, unhide HT2⟩
      case measure => omega
    · obtain rfl : n = k := by omega
      have HW : Hid (WrP wr g v' (bs ++ deltaS c)) := by show WrP _ _ _ _; rw [deltaS, hlen]; exact hW
      have HT := hide hT
      clear hW hT
      go_wp2_with fail
      go_end0
      exact ⟨rfl, _, unhide HW, unhide HT⟩
end Go.Proofs.Yteambdbcjcfdeaa
