/-
  GraphMost: the walk over the law's text. A closed statement.
-/
import Derived.Test.YtmcpbmadjpjckaaGrMost
namespace Go.Proofs.Ytmcpbmadjpjckaa
open Go.RowKit

/-- A cell that is there. -/
structure Cel (W : World) (g k : Nat) (v : Value) : Prop where
  lt : g < W.heap.size
  cell : W.cell? ⟨g, k, none⟩ = some v
theorem Cel.below {W W' : World} {g k : Nat} {v : Value} (h : Cel W g k v) (hb : Below W.heap.size W W') : Cel W' g k v :=
  ⟨Nat.lt_of_lt_of_le h.lt hb.size, by rw [hb.cell (show (⟨g, k, none⟩ : Addr).block < _ from h.lt)]; exact h.cell⟩
theorem build_e2 (a b : Int) (W : World) : (Instr.build 41 #[(0, .int .i64 a), (1, .int .i64 b)]).run Try.prog W = .ok (.agg #[.int .i64 a, .int .i64 b, .int .i64 0]) W :=
  run_build W _ _ _ (by kernel_rfl)
theorem edge1 (W : World) (a b c : Int) : Reads (W.alloc (.cells (ecells [(a, b, c)]).toArray 41)) (W.alloc (.cells (ecells [(a, b, c)]).toArray 41)).heap.size 3 (some ⟨W.heap.size, 0, none⟩) 1 (ecells [(a, b, c)]) := by
  have hx : Blk (W.alloc (.cells (ecells [(a, b, c)]).toArray 41)) W.heap.size 41 (ecells [(a, b, c)]).toArray := Blk.new _ _ _
  refine ⟨rfl, fun _ => ⟨_, rfl, hx.lt, fun j u hu => ?_⟩⟩
  have hadd : (⟨W.heap.size, 0, none⟩ : Addr).add j = ⟨W.heap.size, j, none⟩ := by unfold Addr.add; split <;> simp_all
  rw [hadd, hx.cell j, ← hu, List.getElem?_toArray]
set_option maxRecDepth 100000 in
set_option maxHeartbeats 8000000 in
theorem graphMost_walk (W : World) : Calls Try.prog 6 #[] W fun e W' => e = .returned (.bool true) ∧ Below W.heap.size W W' := by
  have hA := hide (awake_any W)
  have hq1 := build_e2 0 65535
  have hq2 := build_edge 65535 0 1048576
  have hq3 := build_e2 65535 7
  go_enter Try.func6, Try.ntmps6
  go_wp2_with fail
  refine (unhide hA).mono ?_
  rintro e w0 ⟨rfl, hb0⟩
  have HB0 := hide hb0
  have hP := hide (most_parts w0 65536 65535 rfl (by omega))
  clear hb0 hA
  go_wp2_with fail
  refine (unhide hP).mono ?_
  rintro e w1 ⟨gp, cv, Ap, cp, rfl, hpc, hpl, hpr, hb1⟩
  have HP := hide (Cel.mk hpl hpc)
  have HPR := hide hpr
  have HB1 := hide ((unhide HB0).trans (hb1.mono (unhide HB0).size))
  obtain ⟨w2, hw2⟩ : ∃ w, w1.alloc (.cells #[.int .i64 0, .int .i64 65535, .int .i64 0] 41) = w := ⟨_, rfl⟩
  have hb2 : Below w1.heap.size w1 w2 := by rw [← hw2]; exact (Below.refl _ _).alloc (Nat.le_refl _) _
  have hr2 : Reads w2 w2.heap.size 3 (some ⟨w1.heap.size, 0, none⟩) 1 (ecells [(0, 65535, 0)]) := by rw [← hw2]; exact edge1 w1 0 65535 0
  have HB2 := hide hb2
  have hO := hide (most_order w2 65536 65535 rfl (by omega) (by omega) _ 1 _ hr2 (Nat.le_refl _))
  clear hpc hpl hpr hb1 hP HB0 hb2 hr2
  go_wp2_with fail
  try rw [hw2]
  refine (unhide hO).mono ?_
  rintro e w3 ⟨go, co, rfl, o1, o2, ol, hb3⟩
  have hb13 := (unhide HB2).trans (hb3.mono (unhide HB2).size)
  have HO1 := hide (Cel.mk ol o1)
  have HO2 := hide (Cel.mk ol o2)
  have HP3 := hide ((unhide HP).below hb13)
  have HPR3 := hide ((unhide HPR).below hb13)
  have HB3 := hide ((unhide HB1).trans (hb13.mono (unhide HB1).size))
  have hL := hide (most_long w3 65537 (by omega))
  clear o1 o2 ol hb3 hb13 hO hw2 HB1 HB2 HP HPR
  go_wp2_with fail
  refine (unhide hL).mono ?_
  rintro e w4 ⟨rfl, hb4⟩
  have HO14 := hide ((unhide HO1).below hb4)
  have HO24 := hide ((unhide HO2).below hb4)
  have HP4 := hide ((unhide HP3).below hb4)
  have HPR4 := hide ((unhide HPR3).below hb4)
  have HB4 := hide ((unhide HB3).trans (hb4.mono (unhide HB3).size))
  obtain ⟨w5, hw5⟩ : ∃ w, w4.alloc (.cells #[.int .i64 65535, .int .i64 0, .int .i64 1048576] 41) = w := ⟨_, rfl⟩
  have hb5 : Below w4.heap.size w4 w5 := by rw [← hw5]; exact (Below.refl _ _).alloc (Nat.le_refl _) _
  have hr5 : Reads w5 w5.heap.size 3 (some ⟨w4.heap.size, 0, none⟩) 1 (ecells [(65535, 0, 1048576)]) := by rw [← hw5]; exact edge1 w4 65535 0 1048576
  have HB5 := hide hb5
  have hD := hide (most_depths w5 65536 65535 1048576 rfl (by omega) (by omega) (by omega) _ 1 _ hr5 (Nat.le_refl _))
  clear hb4 hL HO1 HO2 HP3 HPR3 HB3 hb5 hr5
  go_wp2_with fail
  try rw [hw5]
  refine (unhide hD).mono ?_
  rintro e w6 ⟨gd, rfl, d1, d2, dl, hb6⟩
  have hb46 := (unhide HB5).trans (hb6.mono (unhide HB5).size)
  have HD1 := hide (Cel.mk dl d1)
  have HD2 := hide (Cel.mk dl d2)
  have HO16 := hide ((unhide HO14).below hb46)
  have HO26 := hide ((unhide HO24).below hb46)
  have HP6 := hide ((unhide HP4).below hb46)
  have HPR6 := hide ((unhide HPR4).below hb46)
  have HB6 := hide ((unhide HB4).trans (hb46.mono (unhide HB4).size))
  obtain ⟨w7, hw7⟩ : ∃ w, w6.alloc (.cells #[.int .i64 65535] 3) = w := ⟨_, rfl⟩
  obtain ⟨w8, hw8⟩ : ∃ w, w7.alloc (.cells #[.int .i64 65535, .int .i64 7, .int .i64 0] 41) = w := ⟨_, rfl⟩
  have hb7 : Below w6.heap.size w6 w7 := by rw [← hw7]; exact (Below.refl _ _).alloc (Nat.le_refl _) _
  have hb8 : Below w7.heap.size w7 w8 := by rw [← hw8]; exact (Below.refl _ _).alloc (Nat.le_refl _) _
  have hx7 : Blk w7 w6.heap.size 3 (([65535] : List Int).map iz).toArray := by rw [← hw7]; exact Blk.new _ _ _
  have hr8 : Reads w8 w8.heap.size 3 (some ⟨w7.heap.size, 0, none⟩) 1 (ecells [(65535, 7, 0)]) := by rw [← hw8]; exact edge1 w7 65535 7 0
  have hrf : Reads w8 w8.heap.size 1 (some ⟨w6.heap.size, 0, none⟩) 1 (([((65535 : Nat) : Int)] : List Int).map iz) := Reads.arr (hx7.below hb8 hx7.lt) (Nat.lt_of_lt_of_le hx7.lt hb8.size) rfl
  have HB8 := hide (hb7.trans (hb8.mono hb7.size))
  have hz7 : w7.heap.size = w6.heap.size + 1 := by rw [← hw7]; simp
  have hR := hide (most_reach w8 65536 65535 7 rfl (by omega) (by omega) _ _ 1 1 _ hr8 hrf (Nat.le_refl _))
  rw [hz7, ← hw8, ← hw7] at hR
  rw [← hw8, ← hw7] at HB8
  clear d1 d2 dl hb6 hb46 hD hw5 HB4 HB5 HO14 HO24 HP4 HPR4 hb7 hb8 hx7 hr8 hrf hz7 hw7 hw8 w7 w8
  go_wp2_with fail
  refine (unhide hR).mono ?_
  rintro e w9 ⟨A9, c9, rfl, hr9, hb9⟩
  have hb69 := (unhide HB8).trans (hb9.mono (unhide HB8).size)
  have HD19 := hide ((unhide HD1).below hb69)
  have HD29 := hide ((unhide HD2).below hb69)
  have HO19 := hide ((unhide HO16).below hb69)
  have HO29 := hide ((unhide HO26).below hb69)
  have HP9 := hide ((unhide HP6).below hb69)
  have HPR9 := hide ((unhide HPR6).below hb69)
  have HB9 := hide ((unhide HB6).trans (hb69.mono (unhide HB6).size))
  have hI := hide (awk_ints w9 A9 2 c9 [7, 65535] hr9 rfl)
  clear hr9 hb9 hb69 hR HB6 HB8 HD1 HD2 HO16 HO26 HP6 HPR6
  go_wp2_with fail
  refine (unhide hI).mono ?_
  rintro e w10 ⟨rfl, hb10⟩
  have HD110 := hide ((unhide HD19).below hb10)
  have HD210 := hide ((unhide HD29).below hb10)
  have HO110 := hide ((unhide HO19).below hb10)
  have HO210 := hide ((unhide HO29).below hb10)
  have HP10 := hide ((unhide HP9).below hb10)
  have HPR10 := hide ((unhide HPR9).below hb10)
  have HB10 := hide ((unhide HB9).trans (hb10.mono (unhide HB9).size))
  obtain ⟨Z, E1, hE1, hE2, hmk, hZ⟩ := many_zero 1048577 (by omega)
  have hmk' : ∀ w : World, (Instr.makeSlice 27 (.int .i64 1048577) (.int .i64 1048577)).run Try.prog w = .ok (.slice (some ⟨w.heap.size, 0, none⟩) 1048577 1048577) (w.alloc (.cells Z 41)) := hmk
  obtain ⟨w11, hw11⟩ : ∃ w, w10.alloc (.cells Z 41) = w := ⟨_, rfl⟩
  have hb11 : Below w10.heap.size w10 w11 := by rw [← hw11]; exact (Below.refl _ _).alloc (Nat.le_refl _) _
  have hx11 : Blk w11 w10.heap.size 41 Z := by rw [← hw11]; exact Blk.new _ _ _
  have hr11 := hZ w11 _ hx11
  have hsl := fun W => run_first elem_edge (g := w10.heap.size) (n := 1048576) (N := 1048577) (cap := 1048577) (by omega) W
  have hr12 : Reads w11 w11.heap.size 3 (some ⟨w10.heap.size, 0, none⟩) 1048576 (ecells (E1.take 1048576)) := by
    have h := hr11
    rw [← List.take_append_drop 1048576 E1, ecells_app] at h
    exact h.front3 (n := 1048576) (k := 1) (by rw [ecells_len, List.length_take, hE1]; omega)
  have hF := hide (most_flat w11 _ 1048576 1048577 _ _ hr12 (Nat.le_refl _) (fun e he => hE2 e (List.mem_of_mem_take he)) (by omega))
  have HB11 := hide hb11
  have HX11 := hide hr11
  have HE2 := hide hE2
  clear hb10 hI HB9 HD19 HD29 HO19 HO29 HP9 HPR9 hmk hZ hb11 hx11 hr11 hr12 hE1 hE2
  go_wp2_with fail
  refine (unhide hF).mono ?_
  rintro e w12 ⟨gf, rfl, hrf, hb12⟩
  have hb1012 := (unhide HB11).trans (hb12.mono (unhide HB11).size)
  have HD112 := hide ((unhide HD110).below hb1012)
  have HD212 := hide ((unhide HD210).below hb1012)
  have HO112 := hide ((unhide HO110).below hb1012)
  have HO212 := hide ((unhide HO210).below hb1012)
  have HP12 := hide ((unhide HP10).below hb1012)
  have HPR12 := hide ((unhide HPR10).below hb1012)
  have HB12 := hide ((unhide HB10).trans (hb1012.mono (unhide HB10).size))
  have HRF12 := hide hrf
  have hV := hide (most_over w12 (some ⟨w10.heap.size, 0, none⟩) 1048577 1048577 w12.heap.size E1 (((unhide HX11).below hb12).more hb12.size) (Nat.le_refl _) (unhide HE2) (by omega) (by omega))
  clear hrf hb12 hb1012 hF HB10 HB11 HD110 HD210 HO110 HO210 HP10 HPR10 hsl hw11 hmk' HX11 HE2
  go_wp2_with fail
  refine (unhide hV).mono ?_
  rintro e w13 ⟨rfl, hb13⟩
  have HD113 := hide ((unhide HD112).below hb13)
  have HD213 := hide ((unhide HD212).below hb13)
  have HO113 := hide ((unhide HO112).below hb13)
  have HO213 := hide ((unhide HO212).below hb13)
  have HP13 := hide ((unhide HP12).below hb13)
  have HPR13 := hide ((unhide HPR12).below hb13)
  have HB13 := hide ((unhide HB12).trans (hb13.mono (unhide HB12).size))
  have hI := hide (awk_ints w13 _ 2 2 [0, 0] ((unhide HRF12).below hb13) rfl)
  clear hb13 hV HB12 HD112 HD212 HO112 HO212 HP12 HPR12 HRF12
  go_wp2_with fail
  refine (unhide hI).mono ?_
  rintro e w14 ⟨rfl, hb14⟩
  have k1 := ((unhide HO113).below hb14).cell
  have k2 := ((unhide HO213).below hb14).cell
  have k3 := ((unhide HD113).below hb14).cell
  have k4 := ((unhide HD213).below hb14).cell
  have k5 := ((unhide HP13).below hb14).cell
  have HB14 := hide ((unhide HB13).trans (hb14.mono (unhide HB13).size))
  have hI2 := hide (awk_ints w14 Ap 1 cp [65535] ((unhide HPR13).below hb14) rfl)
  clear hb14 hI HB13 HD113 HD213 HO113 HO213 HP13 HPR13
  go_wp2_with fail
  refine (unhide hI2).mono ?_
  rintro e w15 ⟨rfl, hb15⟩
  have HB15 := hide ((unhide HB14).trans (hb15.mono (unhide HB14).size))
  clear hb15 hI2 HB14
  go_wp2_with fail
  go_ret
  exact ⟨rfl, unhide HB15⟩
end Go.Proofs.Ytmcpbmadjpjckaa
