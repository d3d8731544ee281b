/-
  A worker's own work in company: the check sum of its bytes, behind the making of its own array. The conditions stand in each theorem.
-/
import Derived.Test.YtoipkpndfgcmcaaCvAdd
import Derived.Test.YtoipkpndfgcmcaaCrcTake
import Derived.Conc.CompanyMem
import Derived.Conc.CompanyCalls
import Derived.Conc.EventLaws2
namespace Go.Proofs.Ytoipkpndfgcmcaa.Crew
open Go Go.Conc Go.ConcN Go.RowKit Go.Conc.Lib Go.ConcR.Gen Go.Proofs.Ytoipkpndfgcmcaa.Veils
open Go.ConcR (KK wgBlock WgAt stA smA rd wr mk Payload DC0)
set_option linter.unusedVariables false
set_option linter.unusedSectionVars false
set_option linter.unusedSimpArgs false
section
variable {L : Lay} {Low i : Nat} {b : Option Nat} {Rd : Nat → Prop}
theorem dx_read {w : World} {es : Array Event} (h : ∀ e ∈ es, EvX L Rd b i w e) : DX L Rd b i w w es := ⟨rfl, rfl, rfl, rfl, fun _ _ _ => rfl, fun _ h => h, fun _ h => h, id, fun _ _ => rfl, h⟩
theorem dx_none {w : World} {es : Array Event} (h : ∀ e ∈ es, False) : DX L Rd b i w w es := dx_read fun e he => (h e he).elim
theorem termsX : Terms (RX L Low b i) (DX L Rd b i) := ⟨fun _ _ _ h k => h.trans k, fun _ => dx_none (by simp)⟩
theorem dx_draw (w : World) : DX L Rd b i w { w with drawn := w.drawn + 1 } #[] := ⟨rfl, rfl, rfl, rfl, fun _ _ _ => rfl, fun _ h => h, fun _ h => h, id, fun _ _ => rfl, by simp⟩
theorem half_setCell {w : World} {g : Nat} {T : Array Value} (h : Blk w g L.eH T) (k : Nat) (u : Value) (r : Nat) : Half L (w.setCell ⟨g, k, none⟩ u) r ↔ Half L w r := by
  by_cases e : r = g
  · subst e
    exact ⟨fun x => ⟨x.1, _, h⟩, fun x => ⟨x.1, _, h.set_ k u⟩⟩
  · constructor
    · rintro ⟨h1, cs, h2⟩
      exact ⟨h1, cs, by rw [← Below.heap_setCell w ⟨g, k, none⟩ u r e]; exact h2⟩
    · rintro ⟨h1, cs, h2⟩
      exact ⟨h1, cs, by rw [Below.heap_setCell w ⟨g, k, none⟩ u r e]; exact h2⟩
theorem dx_own {w : World} {g : Nat} {T : Array Value} (hb : b = some g) (hg : g ≠ L.C) (h : Blk w g L.eH T) (k : Nat) (u : Value) {es : Array Event} (hes : ∀ e ∈ es, EvX L Rd b i (w.setCell ⟨g, k, none⟩ u) e) : DX L Rd b i w (w.setCell ⟨g, k, none⟩ u) es := by
  have ha := aside_setCell w ⟨g, k, none⟩ u
  refine ⟨ha.tape, ha.os, ha.output, ha.size, fun r _ hr => ha.block r fun e => hr (by rw [hb, e]), fun r => (half_setCell h k u r).2, fun r => (half_setCell h k u r).1, fun ⟨cs, h1, h2⟩ => ⟨cs, (ha.block L.C (Ne.symm hg)).trans h1, h2⟩, fun i' _ => cell_of_block (ha.block L.C (Ne.symm hg)) i', hes⟩
/-- A slice that reads as these cells whatever the others do. -/
structure Bys (L : Lay) (Low : Nat) (Rd : Nat → Prop) (A : Option Addr) (n : Nat) (xs : List Value) (w : World) : Prop where
  len : xs.length = n
  cells : 0 < n → ∃ g off, A = some ⟨g, off, none⟩ ∧ Rd g ∧ g < Low ∧ g < w.heap.size ∧ g ≠ L.C ∧ g ≠ L.Wg ∧ ¬ Half L w g ∧ ∀ j u, xs[j]? = some u → w.cell? ⟨g, off + j, none⟩ = some u
theorem Bys.rely {A : Option Addr} {n : Nat} {xs : List Value} {w w₁ : World} (h : Bys L Low Rd A n xs w) (r : RX L Low b i w w₁) : Bys L Low Rd A n xs w₁ :=
  ⟨h.len, fun hn => let ⟨g, off, h1, h2, h3, h4, h5, h6, h7, h8⟩ := h.cells hn
    ⟨g, off, h1, h2, h3, Nat.lt_of_lt_of_le h4 r.size, h5, h6, r.nohalf h3 h4 h5 h6 h7, fun j u hu => (cell_of_block (r.block g h3 h4 h5 h6 h7) _).trans (h8 j u hu)⟩⟩
theorem Bys.set_ {A : Option Addr} {n : Nat} {xs : List Value} {w : World} {g : Nat} {T : Array Value} (h : Bys L Low Rd A n xs w) (hh : Half L w g) (hb : Blk w g L.eH T) (k : Nat) (u : Value) : Bys L Low Rd A n xs (w.setCell ⟨g, k, none⟩ u) :=
  have ha := aside_setCell w ⟨g, k, none⟩ u
  ⟨h.len, fun hn => let ⟨g', off, h1, h2, h3, h4, h5, h6, h7, h8⟩ := h.cells hn
    ⟨g', off, h1, h2, h3, by rw [ha.size]; exact h4, h5, h6, fun x => h7 ((half_setCell hb k u g').1 x), fun j v hv => (cell_of_block (ha.block g' fun e => h7 (by rw [e]; exact hh)) _).trans (h8 j v hv)⟩⟩
/-- What the others, and one's own writes into one's own array, do not unseat. -/
structure FX (L : Lay) (Low i g : Nat) (F : World → Prop) : Prop where
  rely : ∀ w w', F w → RX L Low (some g) i w w' → F w'
  set_ : ∀ w k u T, F w → L.N0 ≤ g → Blk w g L.eH T → F (w.setCell ⟨g, k, none⟩ u)
/-- What is held of the world: the bytes, and one's own array. -/
structure TH (L : Lay) (Low : Nat) (Rd : Nat → Prop) (F : World → Prop) (g : Nat) (T : Array Value) (A : Option Addr) (n : Nat) (xs : List Value) (w : World) : Prop where
  f : F w
  bys : Bys L Low Rd A n xs w
  tb : Blk w g L.eH T
  n0 : L.N0 ≤ g
variable {F : World → Prop} {g n : Nat} {T : Array Value} {A : Option Addr} {xs : List Value} {w w₁ : World}
theorem TH.half (h : TH L Low Rd F g T A n xs w) : Half L w g := ⟨h.n0, _, h.tb⟩
theorem TH.rely (hX : FX L Low i g F) (h : TH L Low Rd F g T A n xs w) (r : RX L Low (some g) i w w₁) : TH L Low Rd F g T A n xs w₁ := ⟨hX.rely _ _ h.f r, h.bys.rely r, (r.own g rfl).trans h.tb, h.n0⟩
theorem TH.byte {gb off k : Nat} {c0 : UInt8} {bs : List UInt8} (h : TH L Low Rd F g T (some ⟨gb, off, none⟩) n (bs.map bv) w) (hk : bs[k]? = some c0) : w.cell? ⟨gb, off + k, none⟩ = some (.int .u8 (c0.toNat : Int)) ∧ Rd gb ∧ gb < w.heap.size := by
  have hl : bs.length = n := by have := h.bys.len; simpa using this
  have hkn := (List.getElem?_eq_some_iff.1 hk).1
  obtain ⟨g', off', h1, h2, h3, h4, h5, h6, h7, h8⟩ := h.bys.cells (by omega)
  cases h1
  exact ⟨h8 k _ (by rw [List.getElem?_map, hk]; rfl), h2, h4⟩
theorem TH.set_ (hX : FX L Low i g F) (h : TH L Low Rd F g T A n xs w) (k : Nat) (u : Value) : TH L Low Rd F g (T.setIfInBounds k u) A n xs (w.setCell ⟨g, k, none⟩ u) := ⟨hX.set_ _ k u _ h.f h.n0 h.tb, h.bys.set_ h.half h.tb k u, h.tb.set_ k u, h.n0⟩
end
section
set_option maxRecDepth 100000 in
/-- One step of the sum, in company. -/
theorem step_co : ∃ q, ∀ (L : Lay) (Low i : Nat) (b : Option Nat) (Rd : Nat → Prop) (F : World → Prop) (hF2 : ∀ w w', F w → RX L Low b i w w' → F w') (r : Nat) (w : World), r < U32 → F w → CallsC Try.prog false (RX L Low b i) (DX L Rd b i) 57 #[.int .u32 (r : Int)] q w fun v w' => v = .int .u32 (stp r : Nat) ∧ F w' := by
  co_apply Exists.intro
  intro L Low i b Rd F hF2 r w hr hF
  have hq := step_val r hr
  have T := termsX (L := L) (Low := Low) (i := i) (b := b) (Rd := Rd)
  co_apply callsC_of_wpC Try.func57 (by rfl) rfl
  simp only [Try.ntmps57, List.size_toArray, List.length_cons, List.length_nil, Nat.reduceAdd, Nat.reduceSub, Array.replicate_succ, Array.replicate_zero, List.push_toArray, List.append_toArray, List.nil_append, List.cons_append]
  co_go T (hF2 _ _) hF (co_quiet T)
  exact ⟨rfl, _, resultsC_tmp (by rfl) _, by simp [hq], hF⟩
theorem opsC_call1 {P : Program} {main : Bool} {R : World → World → Prop} {D : World → World → Array Event → Prop} (T : Terms R D) {fn : FuncId} {Q : Exit → Act → World → Prop} {a : Act} {w : World} {ops : Array Oper} {i : Nat} {rest : List Nat} {o : Oper} {f : FuncId} {x : Operand} {ats : Array TypeId} {nf n : Nat} {Post : Value → World → Prop}
    (ho : ops[i]? = some o) (hw : Region.wanted o (yielded ops a.tmps) = true) (hop : o.op = .call { callee := .value (.func f), args := #[x], argTypes := ats })
    (hcall : CallsC P main R D f #[a.eval x] nf w Post) (hnext : ∀ v w', Post v w' → OpsC P main R D fn ops rest n Q (a.put o.dst v) w') : OpsC P main R D fn ops (i :: rest) (n + nf + 3) Q a w :=
  opsC_call T ho hw hop (by simpa using hcall) hnext
/-- What is left of a piece of code behind its first part. -/
def seqTail : Code → Code
  | .seq _ r => r
  | c => c
def bodyOf (f : Func) : Code := f.body.getD .skip
def Mu9 (a : Act) (_ : World) : Nat := match a.tmps.getD 9 undef with | .int _ j => (16 - j).toNat | _ => 0
def Mu23 (N : Nat) (a : Act) (_ : World) : Nat := match a.tmps.getD 23 undef with | .int _ j => (N - j).toNat | _ => 0
def I1 (L : Lay) (Low : Nat) (Rd : Nat → Prop) (F : World → Prop) (g s n c : Nat) (A : Option Addr) (xs : List Value) (a : Act) (w : World) : Prop :=
  ∃ (k : Nat) (v2 v3 v6 v7 v8 v10 v11 v12 v13 v14 v15 v16 v17 v18 v19 v20 v21 v22 v23 v24 v25 v26 v27 v28 v29 v30 v31 v32 v33 v34 v35 v36 v37 v38 v39 v40 v41 v42 v43 v44 v45 v46 : Value), k ≤ 16 ∧ TH L Low Rd F g (tabl k) A n xs w ∧ a = { tmps := #[.int .u32 (s : Int), .slice A n c, v2, v3, .int .u32 0, .pointer (some ⟨g, 0, none⟩), v6, v7, v8, .int .i64 (k : Int), v10, v11, v12, v13, v14, v15, v16, v17, v18, v19, v20, v21, v22, v23, v24, v25, v26, v27, v28, v29, v30, v31, v32, v33, v34, v35, v36, v37, v38, v39, v40, v41, v42, v43, v44, v45, v46], defers := [] }
def I2 (L : Lay) (Low : Nat) (Rd : Nat → Prop) (F : World → Prop) (g s n c : Nat) (A : Option Addr) (bs : List UInt8) (a : Act) (w : World) : Prop :=
  ∃ (k r : Nat) (v2 v3 v4 v6 v7 v8 v9 v10 v11 v12 v13 v14 v15 v16 v17 v18 v19 v20 v24 v25 v26 v27 v28 v29 v30 v31 v32 v33 v34 v35 v36 v37 v38 v39 v40 v41 v42 v43 v44 v45 v46 : Value), k ≤ n ∧ r < U32 ∧ crc r (bs.drop k) = crc s bs ∧ TH L Low Rd F g (tabl 16) A n (bs.map bv) w ∧ a = { tmps := #[.int .u32 (r : Int), .slice A n c, v2, v3, v4, .pointer (some ⟨g, 0, none⟩), v6, v7, v8, v9, v10, v11, v12, v13, v14, v15, v16, v17, v18, v19, v20, .slice A n c, .int .i64 (n : Int), .int .i64 (k : Int), v24, v25, v26, v27, v28, v29, v30, v31, v32, v33, v34, v35, v36, v37, v38, v39, v40, v41, v42, v43, v44, v45, v46], defers := [] }
/-- Take's rest, within q steps, for whatever worker. -/
def TakeQ (N q : Nat) : Prop := ∀ (L : Lay) (Low i : Nat) (Rd : Nat → Prop) (F : World → Prop) (g s n c : Nat) (A : Option Addr) (bs : List UInt8) (w : World), FX L Low i g F → L.Ok → g ≠ L.C → s < U32 → n ≤ N → TH L Low Rd F g (tabl 0) A n (bs.map bv) w →
    (seqTail (seqTail (bodyOf Try.f48))).wpC Try.prog false (RX L Low (some g) i) (DX L Rd (some g) i) 48 q
      (fun e a w' => e = .ret ∧ a.defers = [] ∧ a.tmps.getD 4 undef = .int .u32 (crc s bs : Nat) ∧ TH L Low Rd F g (tabl 16) A n (bs.map bv) w') { tmps := #[.int .u32 (s : Int), .slice A n c, undef, undef, .int .u32 0, .pointer (some ⟨g, 0, none⟩), undef, undef, undef, undef, undef, undef, undef, undef, undef, undef, undef, undef, undef, undef, undef, undef, undef, undef, undef, undef, undef, undef, undef, undef, undef, undef, undef, undef, undef, undef, undef, undef, undef, undef, undef, undef, undef, undef, undef, undef, undef], defers := [] } w
set_option maxRecDepth 100000 in
set_option maxHeartbeats 4000000 in
theorem take_co (N : Nat) (hN : N ≤ 140737488355328) : ∃ q, TakeQ N q := by
  obtain ⟨q1, hstep0⟩ := step_co
  unfold TakeQ
  co_apply Exists.intro
  intro L Low i Rd F g s n c A bs w hX hL hg hs hn hF
  have hstep := hstep0 L Low i (some g) Rd
  have T := termsX (L := L) (Low := Low) (i := i) (b := some g) (Rd := Rd)
  have hlen : bs.length = n := by have := hF.bys.len; simpa using this
  co_ctl T
  co_stmt T (TH.rely hX) hF (co_quiet T)
  co_ctl T
  co_apply wpC_loop T (I1 L Low Rd F g s n c A (bs.map bv)) Mu9 _ 16
  · exact ⟨0, _, _, _, _, _, _, _, _, _, _, _, _, _, _, _, _, _, _, _, _, _, _, _, _, _, _, _, _, _, _, _, _, _, _, _, _, _, _, _, _, _, _, by omega, hF, rfl⟩
  · simp [Mu9]
  · rintro a w' ⟨k, v2, v3, v6, v7, v8, v10, v11, v12, v13, v14, v15, v16, v17, v18, v19, v20, v21, v22, v23, v24, v25, v26, v27, v28, v29, v30, v31, v32, v33, v34, v35, v36, v37, v38, v39, v40, v41, v42, v43, v44, v45, v46, hk, hF, rfl⟩
    co_go T (TH.rely hX) hF (co_quiet T)
    co_split T (decide ((k : Int) < 16))
    · intro hlt
      replace hlt : k < 16 := by have := of_decide_eq_true hlt; omega
      have e : IntKind.u32.wrap (k : Int) = (k : Int) := by rw [IntKind.wrap_u32]; omega
      have e1 : IntKind.i64.wrap ((k : Int) + 1) = ((k + 1 : Nat) : Int) := by rw [IntKind.wrap_i64]; omega
      have hst : ∀ r w, r < U32 → TH L Low Rd F g (tabl k) A n (bs.map bv) w → _ := hstep (TH L Low Rd F g (tabl k) A n (bs.map bv)) (fun _ _ h r => TH.rely hX h r)
      have u0 : k < U32 := by unfold U32; omega
      have hki : (k : Int) < 16 := by omega
      co_go T (TH.rely hX) hF (co_quiet T)
      try simp only [e]
      co_apply opsC_call1 T rfl (by rfl) rfl (hst k _ u0 hF)
      rintro _ wa ⟨rfl, hF⟩
      walk_nrm
      co_apply opsC_call1 T rfl (by rfl) rfl (hst (stp k) _ (stp_lt u0) hF)
      rintro _ wb ⟨rfl, hF⟩
      walk_nrm
      co_apply opsC_call1 T rfl (by rfl) rfl (hst (stp (stp k)) _ (stp_lt (stp_lt u0)) hF)
      rintro _ wc ⟨rfl, hF⟩
      walk_nrm
      co_apply opsC_call1 T rfl (by rfl) rfl (hst (stp (stp (stp k))) _ (stp_lt (stp_lt (stp_lt u0))) hF)
      rintro _ wd ⟨rfl, hF⟩
      walk_nrm
      have hev := fun w es => events_indexAt_array (P := Try.prog) (w := w) (es := es) 99 40 16 ⟨g, 0, none⟩ .i64 (k : Int) Try.underlying99 (by omega)
      co_opw (TH.rely hX) hF (skip) (co_still T)
      clear hev
      have hs0 : Half L _ g := hF.half
      co_opw (TH.rely hX) hF (have hc : World.cell? _ ⟨g, k, none⟩ = some (Value.int .u32 0) := (by rw [hF.tb.cell, tabl_at hlt]; simp [tcell]); have hz := hF.tb.frozen k) (refine dx_own rfl hg hF.tb k _ ?_; co_evs (exact .inl ⟨_, true, rfl, (by rw [(aside_setCell _ _ _).size]; exact hF.tb.lt), .inr (.inr rfl)⟩))
      replace hF := hF.set_ hX k (.int .u32 (stp (stp (stp (stp k))) : Nat))
      rw [show (tabl k).setIfInBounds k (.int .u32 (stp (stp (stp (stp k))) : Nat)) = tabl (k + 1) from tabl_next hlt] at hF
      clear hs0 hc hz hst
      co_go T (TH.rely hX) hF (co_quiet T)
      try simp only [e1]
      refine ⟨⟨k + 1, _, _, _, _, _, _, _, _, _, _, _, _, _, _, _, _, _, _, _, _, _, _, _, _, _, _, _, _, _, _, _, _, _, _, _, _, _, _, _, _, _, _, by omega, hF, rfl⟩, ?_⟩
      simp only [Mu9]
      simp
      omega
    · intro hlt
      obtain rfl : k = 16 := by have := of_decide_eq_false hlt; omega
      co_go T (TH.rely hX) hF (co_quiet T)
      co_apply wpC_loop T (I2 L Low Rd F g s n c A bs) (Mu23 N) _ N
      · exact ⟨0, s, _, _, _, _, _, _, _, _, _, _, _, _, _, _, _, _, _, _, _, _, _, _, _, _, _, _, _, _, _, _, _, _, _, _, _, _, _, _, _, _, _, by omega, hs, rfl, hF, rfl⟩
      · simp [Mu23]
      · rintro a w' ⟨k, r, v2, v3, v4, v6, v7, v8, v9, v10, v11, v12, v13, v14, v15, v16, v17, v18, v19, v20, v24, v25, v26, v27, v28, v29, v30, v31, v32, v33, v34, v35, v36, v37, v38, v39, v40, v41, v42, v43, v44, v45, v46, hk, hr, hcrc, hF, rfl⟩
        co_go T (TH.rely hX) hF (co_quiet T)
        co_split T (decide ((k : Int) < (n : Int)))
        · intro hlt
          replace hlt : k < n := by have := of_decide_eq_true hlt; omega
          obtain ⟨gb, off, rfl, _⟩ := hF.bys.cells (by omega)
          obtain ⟨c0, hx0⟩ : ∃ c0, bs[k]? = some c0 := ⟨bs[k]'(by omega), List.getElem?_eq_getElem (by omega)⟩
          have hki : (k : Int) < (n : Int) := by omega
          have hd : crc (tk r c0) (bs.drop (k + 1)) = crc s bs := by
            rw [← hcrc]
            obtain ⟨hl, rfl⟩ := List.getElem?_eq_some_iff.1 hx0
            rw [List.drop_eq_getElem_cons hl]
            rfl
          have hl2 := tk_lt hr c0
          obtain ⟨x1, y1, z1, x2, y2, z2, x3, e1, e2, l1, e3, e4, e5, l2, e6, e7, e8, l3, l4⟩ := byte_steps r c0 hr
          rw [← e8] at hd hl2
          have h8 := c0.toNat_lt
          have eb : IntKind.u32.wrap (c0.toNat : Int) = (c0.toNat : Int) := by rw [IntKind.wrap_u32]; omega
          have ek : IntKind.i64.wrap ((k : Int) + 1) = ((k + 1 : Nat) : Int) := by rw [IntKind.wrap_i64]; omega
          have hy1 : (y1 : Int) < 16 := by omega
          have hy2 : (y2 : Int) < 16 := by omega
          have hsu : Try.prog.underlying 29 = some (.slice (Try.prog.elem 29)) := by kernel_rfl
          have hev := fun w es => events_indexAt_slice (P := Try.prog) (w := w) (es := es) 29 ⟨gb, off, none⟩ n c .i64 (k : Int) hsu (by omega)
          have hev1 := fun w es => events_indexAt_array (P := Try.prog) (w := w) (es := es) 99 40 16 ⟨g, 0, none⟩ .u32 (y1 : Int) Try.underlying99 (by omega)
          have hev2 := fun w es => events_indexAt_array (P := Try.prog) (w := w) (es := es) 99 40 16 ⟨g, 0, none⟩ .u32 (y2 : Int) Try.underlying99 (by omega)
          have HX := hide hx0
          have H3 := hide e3
          have H6 := hide e6
          have HD := hide hd
          have HL := hide hl2
          clear hcrc hx0 e3 e6 e8 hd hl2 hsu
          co_go T (TH.rely hX) hF (co_still T)
          co_opw (TH.rely hX) hF (have hc := (hF.byte (unhide HX)).1) (refine dx_read ?_; co_evs (exact .inl ⟨_, false, rfl, (hF.byte (unhide HX)).2.2, .inl ⟨(hF.byte (unhide HX)).2.1, rfl⟩⟩))
          clear hc
          co_go T (TH.rely hX) hF (co_still T)
          co_opw (TH.rely hX) hF (have hc : World.cell? _ ⟨g, y1, none⟩ = some (Value.int .u32 (z1 : Int)) := (by rw [hF.tb.cell, tabl_at l1, tcell, if_pos l1, unhide H3])) (refine dx_read ?_; co_evs (exact .inl ⟨_, false, rfl, hF.tb.lt, .inr (.inr rfl)⟩))
          clear hc
          co_go T (TH.rely hX) hF (co_still T)
          co_opw (TH.rely hX) hF (have hc : World.cell? _ ⟨g, y2, none⟩ = some (Value.int .u32 (z2 : Int)) := (by rw [hF.tb.cell, tabl_at l2, tcell, if_pos l2, unhide H6])) (refine dx_read ?_; co_evs (exact .inl ⟨_, false, rfl, hF.tb.lt, .inr (.inr rfl)⟩))
          clear hc
          co_go T (TH.rely hX) hF (co_still T)
          refine ⟨⟨k + 1, x3, _, _, _, _, _, _, _, _, _, _, _, _, _, _, _, _, _, _, _, _, _, _, _, _, _, _, _, _, _, _, _, _, _, _, _, _, _, _, _, _, _, by omega, unhide HL, unhide HD, hF, rfl⟩, ?_⟩
          simp only [Mu23]
          simp
          omega
        · intro hlt
          obtain rfl : k = n := by have := of_decide_eq_false hlt; omega
          have hx : r = crc s bs := by rw [List.drop_of_length_le (by omega)] at hcrc; exact hcrc
          co_go T (TH.rely hX) hF (co_quiet T)
          exact ⟨trivial, trivial, by simp [hx], hF⟩
end
end Go.Proofs.Ytoipkpndfgcmcaa.Crew
