/-
  The law's own helper refused: the walk over the Go text. Condition: fewer than 2^47 bytes.
-/
import Derived.Test.YteambdbcjcfdeaaColPrefix
import Derived.Test.YteambdbcjcfdeaaColOut
namespace Go.Proofs.Yteambdbcjcfdeaa
open Go.RowKit

/-- What 'refused' answers. -/
def RefOut (bs : List UInt8) (rows : Int) (k : Int) : Prop := ∃ c e, Dec bs rows c e ∧ k = if c.length = 0 then ((e : Nat) : Int) else -1
theorem refused_any (A : Option Addr) (N cap B : Nat) (rows : Int) (bs : List UInt8) (w : World) (hr : Reads w B 1 A N (bs.map bv)) (hB : B ≤ w.heap.size) (hN : N ≤ 140737488355328) (hcap : N ≤ cap) :
    Calls Try.prog 27 #[.slice A N cap, .int .i64 rows] w fun e w' => ∃ k, e = .returned (.int .i64 k) ∧ RefOut bs rows k ∧ Below w.heap.size w w' := by
  have hD := hide (decode_any A N cap B rows bs w hr hB hN hcap)
  have HNum := fun x w => hide (num5_any x w)
  clear hr hB hN hcap
  go_enter Try.func27, Try.ntmps27
  go_wp2_with fail
  refine (unhide hD).mono ?_
  rintro e w2 ⟨A2, c, k, rfl, hr2, _, hb2, hdec⟩
  obtain ⟨m, hm⟩ : ∃ m, c.length = m := ⟨_, rfl⟩
  have HB := hide hb2
  have HDE := hide hdec
  have HM := Lib.hid hm
  rw [hm]
  clear hr2 hb2 hdec hm hD
  by_cases h0 : m = 0
  · subst h0
    go_wp2_with (go_at_call 17; refine (unhide (HNum _ _)).mono ?_; rintro e w4 ⟨rfl, rfl⟩)
    go_ret
    exact ⟨(k : Int), rfl, ⟨c, k, unhide HDE, by rw [HM.out, if_pos rfl]⟩, unhide HB⟩
  · have h1 : ((m : Int) != 0) = true := by simp; omega
    go_wp2_with fail
    go_ret
    exact ⟨-1, rfl, ⟨c, k, unhide HDE, by rw [HM.out, if_neg h0]⟩, unhide HB⟩
/-- No column of so many rows has this page. -/
theorem ref_none {bs : List UInt8} {n : Nat} {k : Int} (h : RefOut bs (n : Int) k) (hn : n ≤ 65536) (hp : ∀ c2 : List UInt32, c2.length = n → pageS c2 ≠ bs) : k = 50 := by
  obtain ⟨c, e, hd, hk⟩ := h
  rcases hd with ⟨_, _, h1⟩ | ⟨_, _, ⟨rfl, rfl, _⟩ | ⟨_, hl, hpg, _⟩⟩
  · omega
  · simpa using hk
  · rw [Int.toNat_natCast] at hl
    exact absurd hpg (hp c hl)
theorem ref_other {c : List UInt32} {rows k : Int} (h : RefOut (pageS c) rows k) (hr : rows ≠ (c.length : Int)) : k ≠ 0 := by
  obtain ⟨c2, e, hd, hk⟩ := h
  rintro rfl
  rcases hd with ⟨rfl, rfl, h1⟩ | ⟨h0, h1, ⟨rfl, rfl, _⟩ | ⟨rfl, hl, hpg, _⟩⟩
  · simp at hk
  · simp at hk
  · by_cases hz : c2.length = 0
    · obtain rfl := List.length_eq_zero_iff.1 hz
      have hp0 : pageS ([] : List UInt32) = [1] := by decide +kernel
      have h2 := page_nil_only (hpg.symm.trans hp0)
      subst h2
      simp at hl hr
      omega
    · rw [if_neg hz] at hk
      omega
end Go.Proofs.Yteambdbcjcfdeaa
