/-
  What is left of CheckParts behind its three calls, walked alone: each lent part is as it was. The conditions stand in each theorem.
-/
import Derived.Test.YtoipkpndfgcmcaaCpLoop
namespace Go.Proofs.Ytoipkpndfgcmcaa.Crew
open Go Go.RowKit
set_option linter.unusedVariables false
set_option linter.unusedSimpArgs false
set_option maxRecDepth 100000 in
set_option maxHeartbeats 4000000 in
theorem cp_rest {v : World} {B n cap h c : Nat} {a0 : Option Addr} {ps : List (List UInt8)} {sl : Nat → Option Addr × Nat} {G : Nat → Nat × Nat} (hp : PartsIn v B a0 n ps sl) (hBv : B ≤ v.heap.size) (hh : HeldC v (ps ++ [seven]) (n + 1) h G) (hn : n ≤ 1048576) (hB : ∀ j, j < n → (ps.getD j []).length ≤ 1048576) (hc : n + 1 ≤ c) (T : Array Value) (hT : CpT T a0 n cap h c ps) :
    (R9of (bodyOf Try.f9)).wp Try.prog (bodyPost Try.prog Try.f9 fun e w' => e = .returned (.bool true) ∧ Below v.heap.size v w') { tmps := T, defers := [] } v := by
  obtain ⟨sz, t0, t3, t5, t6⟩ := hT
  obtain ⟨v0, v1, v2, v3, v4, v5, v6, v7, v8, v9, v10, v11, v12, v13, v14, v15, v16, v17, v18, v19, v20, v21, v22, v23, v24, v25, v26, v27, v28, v29, v30, v31, v32, v33, v34, v35, v36, v37, v38, v39, v40, v41, v42, v43, v44, v45, v46, v47, v48, v49, v50, v51, v52, v53, v54, v55, v56, v57, v58, v59, v60, v61, v62, v63, v64, v65, rfl⟩ := array66 T sz
  simp only [List.getElem?_toArray, List.getElem?_cons_succ, List.getElem?_cons_zero, Option.some.injEq] at t0 t3 t5 t6
  subst t0 t3 t5 t6
  have hlen := hp.len
  have HP := hide hp
  have HH := hide hh
  have HBD := hide hB
  clear hp hh hB
  simp only [R9of, seqTails, seqTail, bodyOf, Try.f9, Option.getD_some]
  go_wp2
  go_loopg [8] n (fun q i wr => ∃ k : Nat, k + q = n ∧ i = .int .i64 (k : Int) ∧ Below v.heap.size v wr)
  case atStart => exact ⟨0, by omega, rfl, Below.refl _ _⟩
  case round =>
    obtain ⟨k, hk, rfl, hb⟩ := hrel
    have hb2 := (unhide HH).below hb (Nat.le_refl _)
    have hsz := hb.size
    by_cases hlt : k < n
    · obtain ⟨q, rfl⟩ : ∃ q, gk = q + 1 := ⟨gk - 1, by omega⟩
      have h0 := (unhide HP).below (hb.mono hBv)
      obtain ⟨g0, off, rfl, hg0, hcell⟩ := h0.cells (by omega)
      have c2 := hcell k hlt
      have hLk := unhide HBD k hlt
      have c1 := hb2.row k (by omega)
      have hl1 := hb2.each k (by omega)
      rw [qs_at (by omega)] at c1 hl1
      unfold slv at c1
      have HK : Hid (∀ W, Below wr.heap.size wr W → Calls Try.prog 20 #[.slice (some ⟨(G k).1, 0, none⟩) (ps.getD k []).length (G k).2, .slice (sl k).1 (ps.getD k []).length (sl k).2] W fun e w' => e = .returned (.bool true) ∧ Below v.heap.size v w' ∧ w'.cell? ⟨h, k, none⟩ = some (.slice (some ⟨(G k).1, 0, none⟩) (ps.getD k []).length (G k).2) ∧ w'.cell? ⟨g0, off + k, none⟩ = some (.slice (sl k).1 (ps.getD k []).length (sl k).2)) := hide fun W hW =>
        (kept_any (sl k).1 (G k).1 _ (G k).2 _ (sl k).2 wr.heap.size (ps.getD k []) (ps.getD k []) W rfl hl1.cap (hl1.reads.below hW) (((h0.bytes k hlt).more (Nat.le_trans hBv hsz)).below hW) (Nat.le_trans hLk (by omega)) hW.size).mono fun e w' ⟨h1, h2⟩ => by
          have h3 := hW.trans (h2.mono hW.size)
          refine ⟨by rw [h1]; simp, hb.trans (h3.mono hsz), ?_, ?_⟩
          · exact (h3.cell (p := ⟨h, k, none⟩) hb2.lt).trans c1
          · exact (h3.cell (p := ⟨g0, off + k, none⟩) (by show g0 < _; omega)).trans c2
      obtain ⟨A, hA⟩ : ∃ A, (sl k).1 = A := ⟨_, rfl⟩
      obtain ⟨cA, hcA⟩ : ∃ c, (sl k).2 = c := ⟨_, rfl⟩
      obtain ⟨m, hm⟩ : ∃ m, (ps.getD k []).length = m := ⟨_, rfl⟩
      obtain ⟨gk', hgk⟩ : ∃ g, (G k).1 = g := ⟨_, rfl⟩
      obtain ⟨cG, hcG⟩ : ∃ g, (G k).2 = g := ⟨_, rfl⟩
      rw [hA, hcA, hm] at c2
      rw [hm, hgk, hcG] at c1
      rw [hA, hcA, hm, hgk, hcG] at HK
      have HL := Below.refl wr.heap.size wr
      have HBB := hide hb
      clear h0 hcell hLk hl1 hA hcA hm hgk hcG hb2 hb
      go_wp2_with fail
      go_region_held3 (fun w' => w'.cell? ⟨h, k, none⟩ = some (.slice (some ⟨gk', 0, none⟩) m cG) ∧ w'.cell? ⟨g0, off + k, none⟩ = some (.slice A m cA)) (first | go_keep | exact ⟨d1, d2⟩) ((first
        | (go_at_call 20
           refine (unhide HK _ ?_).mono ?_
           first | assumption | exact HL.drew | exact HL.drewN _
           rintro e w1 ⟨rfl, hb1, d1, d2⟩)))
      have HB1 := hide hb1
      clear hb1 d1 d2 HL
      go_wp2_with fail
      go_roundg q
      case rel => exact ⟨k + 1, by omega, by go_num, unhide HB1⟩
      case measure => omega
    · obtain rfl : k = n := by omega
      have c1 := hb2.row k (by omega)
      have hl1 := hb2.each k (by omega)
      have hq7 : (ps ++ [seven]).getD k [] = seven := by rw [← hlen]; exact qs_last ps
      rw [hq7] at c1 hl1
      obtain ⟨gk', hgk⟩ : ∃ g, (G k).1 = g := ⟨_, rfl⟩
      obtain ⟨cG, hcG⟩ : ∃ g, (G k).2 = g := ⟨_, rfl⟩
      have hl2 := hl1.reads
      have hcap := hl1.cap
      rw [hgk] at hl2
      rw [hcG] at hcap
      have c3 : wr.cell? ⟨h, k, none⟩ = some (.slice (some ⟨gk', 0, none⟩) (1 : Nat) cG) := by rw [c1]; unfold slv; rw [hgk, hcG]; rfl
      obtain ⟨Z, hZ⟩ : ∃ Z, wr.alloc (.cells #[.int .u8 7] 5) = Z := ⟨_, rfl⟩
      have hZb : Below wr.heap.size wr Z := by rw [← hZ]; exact (Below.refl _ _).alloc (Nat.le_refl _) _
      have hZs : Z.heap.size = wr.heap.size + 1 := by rw [← hZ]; simp
      have hZc : Z.cell? ⟨wr.heap.size, 0, none⟩ = some (.int .u8 7) := by rw [← hZ]; simp [World.cell?_alloc_at]
      have hZ1 : Reads Z Z.heap.size 1 (some ⟨wr.heap.size, 0, none⟩) 1 (seven.map bv) := ⟨rfl, fun _ => ⟨_, rfl, by show wr.heap.size < _; omega, fun j u hu => by
        match j, hu with
        | 0, hu =>
          cases hu
          exact hZc⟩⟩
      have HK : Hid (Calls Try.prog 20 #[.slice (some ⟨gk', 0, none⟩) (1 : Nat) cG, .slice (some ⟨wr.heap.size, 0, none⟩) 1 1] Z fun e w' => e = .returned (.bool true) ∧ Below v.heap.size v w') := hide <|
        (kept_any (some ⟨wr.heap.size, 0, none⟩) gk' 1 cG 1 1 Z.heap.size seven seven Z rfl hcap ((hl2.below hZb).more hZb.size) hZ1 (by omega) (Nat.le_refl _)).mono fun e w' ⟨h1, h2⟩ => ⟨by rw [h1]; simp, hb.trans ((hZb.trans (h2.mono hZb.size)).mono hsz)⟩
      clear c1 hl1 hl2 hcap hgk hcG hZb hZs hZc hZ1 hb2 hq7
      subst hZ
      go_wp2_with (first
        | (go_at_call 20
           refine (unhide HK).mono ?_
           rintro e w1 ⟨rfl, hb1⟩))
      go_ret
      exact ⟨rfl, hb1⟩
end Go.Proofs.Ytoipkpndfgcmcaa.Crew
