/-
  CheckForges: the walk over the Go text of the statement. Conditions: fewer than 2^47 bytes; the place and the sum are what their types hold.
-/
import Derived.Test.YtoipkpndfgcmcaaCrcElimW
namespace Go.Proofs.Ytoipkpndfgcmcaa
open Go.RowKit

set_option maxRecDepth 100000 in
theorem forge_err (A : Option Addr) (n c x : Nat) (k : Int) (w : World) (hn : n ≤ 140737488355328) (h2 : k ≤ 9223372036854775807) (hk : k < 0 ∨ (n : Int) - 4 < k) :
    Calls Try.prog 22 #[.slice A n c, .int .i64 k, .int .u32 (x : Int)] w fun e w' => e = .returned (.tuple #[.slice none 0 0, .int .i64 2]) ∧ w = w' := by
  by_cases h : k < 0
  · go_enter Try.func22, Try.ntmps22
    go_wp2
    go_ret2
    exact ⟨rfl, rfl⟩
  · have h' : (n : Int) - 4 < k := by omega
    have h0 : 0 ≤ k := by omega
    go_enter Try.func22, Try.ntmps22
    go_wp2
    go_ret2
    exact ⟨rfl, rfl⟩
set_option maxRecDepth 100000 in
theorem refForge_err (A : Option Addr) (n c x : Nat) (k : Int) (w : World) (hn : n ≤ 140737488355328) (h2 : k ≤ 9223372036854775807) (hk : k < 0 ∨ (n : Int) - 4 < k) :
    Calls Try.prog 21 #[.slice A n c, .int .i64 k, .int .u32 (x : Int)] w fun e w' => e = .returned (.tuple #[.slice none 0 0, .int .i64 2]) ∧ w = w' := by
  by_cases h : k < 0
  · go_enter Try.func21, Try.ntmps21
    go_wp2
    go_ret2
    exact ⟨rfl, rfl⟩
  · have h' : (n : Int) - 4 < k := by omega
    have h0 : 0 ≤ k := by omega
    go_enter Try.func21, Try.ntmps21
    go_wp2
    go_ret2
    exact ⟨rfl, rfl⟩

/-- Both forge the same, or refuse. -/
theorem forges (n : Nat) (bs : List UInt8) (k : Int) (x : Nat) (hlen : bs.length = n) (hn : n ≤ 140737488355328) (h2 : k ≤ 9223372036854775807) (hx : x < U32) :
    ∃ (F : List UInt8) (N : Nat) (E : Int), F.length = N ∧ N ≤ n ∧
      (∀ A c B w, Reads w B 1 A n (bs.map bv) → B ≤ w.heap.size → n ≤ c → Calls Try.prog 22 #[.slice A n c, .int .i64 k, .int .u32 (x : Int)] w fun e w' => ∃ v, e = .returned (.tuple #[v, .int .i64 E]) ∧ w'.ownsRow w.heap.size 5 1 v N (F.map bv) ∧ Below w.heap.size w w') ∧
      (∀ A c B w, Reads w B 1 A n (bs.map bv) → Calls Try.prog 21 #[.slice A n c, .int .i64 k, .int .u32 (x : Int)] w fun e w' => ∃ v, e = .returned (.tuple #[v, .int .i64 E]) ∧ w'.ownsRow w.heap.size 5 1 v N (F.map bv) ∧ Below w.heap.size w w') := by
  by_cases hk : k < 0 ∨ (n : Int) - 4 < k
  · refine ⟨[], 0, 2, rfl, by omega, fun A c B w _ _ _ => (forge_err A n c x k w hn h2 hk).mono ?_, fun A c B w _ => (refForge_err A n c x k w hn h2 hk).mono ?_⟩
    · rintro e w' ⟨rfl, rfl⟩
      exact ⟨_, rfl, World.ownsRow_nil _ _ _ _, Below.refl _ _⟩
    · rintro e w' ⟨rfl, rfl⟩
      exact ⟨_, rfl, World.ownsRow_nil _ _ _ _, Below.refl _ _⟩
  · obtain ⟨p, rfl⟩ := Int.eq_ofNat_of_zero_le (by omega : 0 ≤ k)
    exact ⟨forged bs p x, n, 0, by rw [← hlen]; exact at4_len _ (by omega), Nat.le_refl _, fun A c B w hr hB hc => forge_any A n c B p x bs w hr hn hB hx hc (by omega), fun A c B w hr => refForge_any A n c B p x bs w hr hn hx (by omega)⟩

set_option maxRecDepth 100000 in
set_option maxHeartbeats 1600000 in
theorem checkForges_walk (A : Option Addr) (n c : Nat) (bs : List UInt8) (k : Int) (x : Nat) (w : World) (hr : Reads w w.heap.size 1 A n (bs.map bv)) (hn : n ≤ 140737488351232) (_h1 : -9223372036854775808 ≤ k) (h2 : k ≤ 9223372036854775807) (hx : x < U32) :
    Calls Try.prog 4 #[.slice A n c, .int .i64 k, .int .u32 (x : Int)] w fun e w' => e = .returned (.bool true) ∧ Below w.heap.size w w' := by
  have hlen : bs.length = n := by have := hr.1; simpa using this
  have hL := hide (lent_any A n c bs w hr hn)
  obtain ⟨F, N, E, hFN, hNn, cF, rF⟩ := forges n bs k x hlen (by omega) h2 hx
  have HNum := fun x w => hide (num_any x w)
  have HR := hide hr
  clear hr
  go_enter Try.func4, Try.ntmps4
  go_wp2_with (go_at_call 16; refine (unhide hL).mono ?_; rintro e w1 ⟨g, cap, rfl, hcap, hg, hown, hb1⟩)
  have r1 := (unhide HR).below hb1
  have r2 := Reads.of_own hown
  have s1 := hb1.size
  have hrF := hide (rF A c w.heap.size w1 (r1.more (Nat.le_refl _)))
  have HB1 := hide hb1
  have HR1 := hide r1
  have HR2 := hide r2
  clear hb1 r1 r2 hown hL HR
  go_wp2_with (go_at_call 21; refine (unhide hrF).mono ?_; rintro e w2 ⟨v2, rfl, ho2, hb2⟩)
  obtain ⟨A2, c2, rfl⟩ := ho2.shape
  have hcF := hide (cF (some ⟨g, 0, none⟩) cap w1.heap.size w2 (((unhide HR2).below hb2).front hlen) hb2.size (by omega))
  have HO2 := hide ho2
  have HB2 := hide hb2
  clear ho2 hb2 hrF
  go_wp2_with (go_at_call 22; refine (unhide hcF).mono ?_; rintro e w3 ⟨v3, rfl, ho3, hb3⟩)
  obtain ⟨A3, c3, rfl⟩ := ho3.shape
  have h13 : Below w1.heap.size w1 w3 := (unhide HB2).trans (hb3.mono (unhide HB2).size)
  have hS := hide (same_any A3 A2 N c3 N c2 F F w3 w3.heap.size (Reads.of_own ho3) (((Reads.of_own (unhide HO2)).below hb3).more hb3.size) (by omega) (Nat.le_refl _))
  rw [show (F == F) = true by simp] at hS
  have hK : ∀ w', Below w1.heap.size w1 w' → Hid (Calls Try.prog 20 #[.slice (some ⟨g, 0, none⟩) n cap, .slice A n c] w' fun e w2 => e = .returned (.bool true) ∧ Below w1.heap.size w1 w2) := fun w' h => hide <| by
    refine (kept_any A g n cap n c w1.heap.size bs bs w' hlen hcap ((unhide HR2).below h) (((unhide HR1).below (h.mono s1)).more s1) (by omega) h.size).mono fun e w2 ⟨he, hb⟩ => ⟨?_, h.trans (hb.mono h.size)⟩
    rw [he]; simp
  have H13 := hide h13
  clear ho3 hb3 h13 HO2 HB2 hcF
  go_wp2_with (go_at_call 19; refine (unhide (HNum _ _)).mono ?_; rintro e w4 ⟨rfl, rfl⟩)
  go_wp2_with (go_at_call 23; refine (unhide hS).mono ?_; rintro e w4 ⟨rfl, hb4⟩)
  have H14 := hide ((unhide H13).trans (hb4.mono (unhide H13).size))
  clear hb4 hS
  go_wp2_with (go_at_call 20; refine (unhide (hK _ (unhide H14))).mono ?_; rintro e w5 ⟨rfl, hb5⟩)
  go_ret
  exact ⟨rfl, (unhide HB1).trans (hb5.mono s1)⟩
end Go.Proofs.Ytoipkpndfgcmcaa
