/-
  ColumnReads: the walk over the law's text. Condition: at most 2^20 bytes, spare places counted.
-/
import Derived.Test.YteambdbcjcfdeaaColRefDec
import Derived.Test.YteambdbcjcfdeaaColLent2
namespace Go.Proofs.Yteambdbcjcfdeaa
open Go.RowKit

set_option maxRecDepth 100000 in
theorem columnReads_walk (A : Option Addr) (n cap : Nat) (bs : List UInt8) (x : Int) (w : World) (hr : Reads w w.heap.size 1 A n (bs.map bv)) (hn : n ≤ 1048576) (hcap : n ≤ cap) (hcm : cap ≤ 1048576)
    (_x1 : -9223372036854775808 ≤ x) (_x2 : x ≤ 9223372036854775807) :
    Calls Try.prog 5 #[.slice A n cap, .int .i64 x] w fun e w' => e = .returned (.bool true) ∧ Below w.heap.size w w' := by
  have hlen : bs.length = n := by have := hr.1; simpa using this
  have hL := hide (lentBytes_any A n cap bs w hr (by omega))
  have HNum := fun x w => hide (num5_any x w)
  have HLEN := Lib.hid hlen
  have HR := hide hr
  clear hr hlen
  go_enter Try.func5, Try.ntmps5
  go_wp2_with fail
  refine (unhide hL).mono ?_
  rintro e w1 ⟨g, gc, rfl, hgc, hgm, hg, ho1, hb1⟩
  have hin := Reads.of_own ho1
  have hin1 := Reads.cutTo hin (k := n) (by omega)
  rw [List.take_append_of_le_length (by rw [HLEN.out]; exact Nat.le_refl _), List.take_of_length_le (by rw [HLEN.out]; exact Nat.le_refl _)] at hin1
  have HIN := hide hin
  have HIN1 := hide hin1
  have HB1 := hide hb1
  have hD1 := hide (rdecode_any A n cap w.heap.size x bs w1 ((unhide HR).below hb1) hb1.size hn hcap (by omega))
  clear ho1 hb1 hin hin1 hL
  go_wp2_with fail
  refine (unhide hD1).mono ?_
  rintro e w2 ⟨v2, c, k, rfl, ho2, hb2, hdec⟩
  obtain ⟨A2, c2, rfl⟩ := ho2.shape
  have HB2 := hide ((unhide HB1).trans (hb2.mono (unhide HB1).size))
  have HIN2 := hide (((unhide HIN1).below hb2).more hb2.size)
  have HINF := hide (((unhide HIN).below hb2).more hb2.size)
  have HO2 := hide ho2
  have HDEC := hide hdec
  have hD2 := hide (decode_any (some ⟨g, 0, none⟩) n gc w2.heap.size x bs w2 (unhide HIN2) (Nat.le_refl _) (by omega) (by omega))
  clear ho2 hb2 hdec hD1
  go_wp2_with fail
  refine (unhide hD2).mono ?_
  rintro e w3 ⟨A3, d, m, rfl, hr3, _, hb3, hdec3⟩
  obtain ⟨rfl, rfl⟩ := dec_same (unhide HDEC) hdec3
  have HB3 := hide ((unhide HB2).trans (hb3.mono (unhide HB2).size))
  have hp2 := ((Reads.of_own (unhide HO2)).below hb3).more hb3.size
  have hcl : c.length ≤ 65536 := by
    rcases hdec3 with ⟨_, h, _⟩ | ⟨h1, h2, ⟨_, h, _⟩ | ⟨_, h, _⟩⟩
    · simp [h]
    · simp [h]
    · omega
  have hA := alike_any A3 A2 c.length c.length c.length c2 c c w3 w3.heap.size hr3 hp2 (by omega) (Nat.le_refl _)
  rw [beq_self_eq_true] at hA
  have hAl := hide hA
  have HINF := hide (((unhide HINF).below hb3).more hb3.size)
  clear hb3 hp2 hA hr3 hdec3 hD2 HIN2 HO2 HDEC HIN HIN1 HB1 hcl
  go_wp2_with (first
    | (go_at_call 17; refine (unhide (HNum _ _)).mono ?_; rintro e w4 ⟨rfl, rfl⟩)
    | (go_at_call 25; refine (unhide hAl).mono ?_; rintro e w4 ⟨rfl, hb4⟩
       have HB4 := hide ((unhide HB3).trans (hb4.mono (unhide HB3).size))
       have hK := keptBytes5_any A g n gc n cap w3.heap.size bs bs w4 HLEN.out hgc ((unhide HINF).below hb4) (((unhide HR).below (unhide HB4)).more (unhide HB3).size) (by omega) hb4.size
       rw [beq_self_eq_true] at hK
       have HK := hide hK
       clear hb4 hK hAl)
    | (go_at_call 26; refine (unhide HK).mono ?_; rintro e w5 ⟨rfl, hb5⟩
       have HB5 := hide ((unhide HB4).trans (hb5.mono (unhide HB4).size))
       clear hb5 HK))
  go_ret
  exact ⟨rfl, unhide HB5⟩
end Go.Proofs.Yteambdbcjcfdeaa
