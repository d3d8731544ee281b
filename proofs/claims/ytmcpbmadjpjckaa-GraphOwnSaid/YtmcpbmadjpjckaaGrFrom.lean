/-
  The search for the parts of a graph from one node: the walk over the Go text. Condition: at most 65536 nodes. (IN WORK)
-/
import Derived.Test.YtmcpbmadjpjckaaGrFr
import Derived.WalkMore
import Derived.Deep.LoopGhost
namespace Go.Proofs.Ytmcpbmadjpjckaa
open Go.RowKit

/-- What stands at the head of the search's loop. -/
structure FrS (W0 W : World) (X gM gL gP B n : Nat) (gv : Value) (adj : Nat → List Nat) (start : Nat) (met00 : Nat → Nat) (wv : Value) (s : TS) : Prop where
  wk : ∃ ov, Wk W X gM gL gP B n gv ov s.met s.low s.part s.opn s.met0 s.all
  way : W.ownsRow B 92 2 wv s.way.length (fcells s.way)
  inv : TInv n adj s
  cnt : s.met0 + wh n s.met = n
  all_ : s.all + s.opn.length ≤ s.met0
  chg : Chg W0 W (Tn X gM gL gP B)
  old : ∀ u, met00 u ≠ 0 → s.met u ≠ 0
  first : s.met start ≠ 0
  wl : s.way.length ≤ s.met0
theorem tv_tn {X gM gL gP B : Nat} {W : World} {ov : Value} {k : Nat} {xs : List Value} (ho : W.ownsRow B 3 1 ov k xs) : ∀ b, Tv X gM gL gP ov b → Tn X gM gL gP B b := fun b h => by
  rcases h with e | e | e | e | e
  · exact .inl e
  · exact .inr (.inl e)
  · exact .inr (.inr (.inl e))
  · exact .inr (.inr (.inr (.inl e)))
  · exact .inr (.inr (.inr (.inr (ho.lt b e).1)))
theorem own_blk_ne2 {W : World} {b1 b2 n1 n2 s1 s2 : Nat} {e1 e2 : TypeId} {v1 v2 : Value} {x1 x2 : List Value} (h1 : W.ownsRow b1 e1 s1 v1 n1 x1) (h2 : W.ownsRow b2 e2 s2 v2 n2 x2) (hne : e1 ≠ e2) {b : Nat} (e : v1.ownBlock = some b) : v2.ownBlock ≠ some b := fun e' => by
  rcases h2.2 with ⟨rfl, _⟩ | ⟨g, cap, cur, rfl, _, hg, _⟩
  · cases e'
  · cases e'
    exact own_blk_ne h1 (show Blk W g e2 cur from hg) hne e
theorem upf_id {α : Type} (f : Nat → α) (k : Nat) : upf f k (f k) = f := funext fun v => by
  by_cases e : v = k
  · rw [e, upf_same]
  · rw [upf_ne _ _ e]
theorem reads_lit2 (w : World) (e : TypeId) (a b : Value) : Reads (w.alloc (.cells #[a, b] e)) (w.heap.size + 1) 2 (some ⟨w.heap.size, 0, none⟩) 1 [a, b] := by
  refine ⟨by simp, fun _ => ⟨_, rfl, by simp, fun j u hu => ?_⟩⟩
  have hadd : (⟨w.heap.size, 0, none⟩ : Addr).add j = ⟨w.heap.size, j, none⟩ := by unfold Addr.add; split <;> simp_all
  rw [hadd, cell_of_row _ w.heap.size j #[a, b] e (0, 0) (heap_alloc_new w _), ← hu]
  simp
theorem cap16 {n : Nat} (h : n ≤ 1000002) : n ≤ maxLen ∧ n * 16 ≤ 140737488355328 := by
  simp only [maxLen]
  omega
theorem way_lit {W : World} {B x k : Nat} (hB : B ≤ W.heap.size) : (W.alloc (.cells #[iv x, iv k] 92)).ownsRow B 92 2 (.slice (some ⟨W.heap.size, 0, none⟩) 1 1) 1 (fcells [(x, k)]) :=
  ⟨rfl, .inr ⟨W.heap.size, 1, _, rfl, hB, heap_alloc_new W _, Nat.le_refl _, by unfold maxLen; omega, rfl, rfl⟩⟩

theorem build_fr (x y : Int) (W : World) : (Instr.build 92 #[(0, .int .i64 x), (1, .int .i64 y)]).run Try.prog W = .ok (.agg #[.int .i64 x, .int .i64 y]) W :=
  run_build W _ _ _ (by kernel_rfl)
set_option maxRecDepth 100000 in
set_option maxHeartbeats 4000000 in
theorem from_any (W : World) (X gM gL gP B n gG : Nat) (adj : Nat → List Nat) (ov : Value) (met low : Nat → Nat) (part : Nat → Option Nat) (m0 al start : Nat) (p : Pl X gM gL gP B) (hnet : NetM W (Nt X gM gL gP B) gG n adj)
    (hwk : Wk W X gM gL gP B n (.slice (some ⟨gG, 0, none⟩) n n) ov met low part [] m0 al) (hinv : TInv n adj ⟨met, low, part, [], [], m0, al⟩) (hBW : B ≤ W.heap.size) (hst : start < n) (hms : met start = 0) (hcnt : m0 + wh n met = n) (hall : al ≤ m0) (hn : n ≤ 65536)
    (hadj : ∀ u, u < n → (adj u).length ≤ 1048576) :
    Calls Try.prog 41 #[.pointer (some ⟨X, 0, none⟩), .int .i64 (start : Int)] W fun e W' => e = .returned (.tuple #[]) ∧ ∃ s wv, FrS W W' X gM gL gP B n (.slice (some ⟨gG, 0, none⟩) n n) adj start met wv s ∧ s.way = [] := by
  have HP := hide p
  have HNET := hide hnet
  have HADJ := hide hadj
  have HBW := Lib.hid hBW
  have hb1 : Below W.heap.size W (W.alloc (.cells #[iv start, iv 0] 92)) := (Below.refl _ _).alloc (Nat.le_refl _) _
  obtain ⟨W1, hW1⟩ : ∃ W1, W.alloc (.cells #[iv start, iv 0] 92) = W1 := ⟨_, rfl⟩
  obtain ⟨g1, hg1⟩ : ∃ g, W.heap.size = g := ⟨_, rfl⟩
  have hway1 : W1.ownsRow B 92 2 (.slice (some ⟨g1, 0, none⟩) 1 1) 1 (fcells [(start, 0)]) := by rw [← hW1, ← hg1]; exact way_lit hBW
  rw [hW1] at hb1
  have hwk1 := hwk.bel hb1
  have hM := meet_any hwk1 p (Nat.le_trans hBW hb1.size) hst (by omega) (by simp)
  have HM := hide hM
  have HB1 := hide hb1
  have HWAY1 := hide hway1
  have HINV := hide (hinv.first rfl hst hms)
  have HCNT := Lib.hid hcnt
  have HALL := Lib.hid hall
  have HMS := Lib.hid hms
  have HWK1 := hide hwk1
  have hW1 : W.alloc (.cells #[.int .i64 (start : Int), .int .i64 0] 92) = W1 := hW1
  clear hwk hwk1 hb1 hM hway1 hinv hcnt hall hms p hnet hadj hBW
  have hbuild := build_fr
  have uF := Try.underlying92
  go_enter Try.func41, Try.ntmps41
  go_step3
  go_wp2_with fail
  refine (unhide HM).mono ?_
  rintro e w2 ⟨rfl, ov2, hwk2, hch2⟩
  have hz12 : W.heap.size ≤ w2.heap.size := Nat.le_trans (unhide HB1).size hch2.size
  have hfr : FrS W w2 X gM gL gP B n (.slice (some ⟨gG, 0, none⟩) n n) adj start met (.slice (some ⟨g1, 0, none⟩) 1 1) { (TS.meet ⟨met, low, part, [], [], m0, al⟩ start) with way := [(start, 0)] } := by
    refine ⟨⟨ov2, hwk2⟩, ?_, unhide HINV, ?_, ?_, ?_, ?_, ?_, ?_⟩
    · refine hch2.own (unhide HWAY1) (fun i hi e => ?_)
      cases hi
      have hg1B : B ≤ g1 := ((unhide HWAY1).lt g1 rfl).1
      have q := unhide HP
      rcases e with e | e | e | e | e
      · have := q.xB; have e2 : g1 = X := e; omega
      · have := q.mB; have e2 : g1 = gM := e; omega
      · have := q.lB; have e2 : g1 = gL := e; omega
      · have := q.pB; have e2 : g1 = gP := e; omega
      · exact own_blk_ne2 (unhide HWK1).own (unhide HWAY1) (by decide) e rfl
    · show m0 + 1 + wh n (upf met start (m0 + 1)) = n
      have := wh_meet hst HMS.out (show m0 + 1 ≠ 0 by omega)
      have := HCNT.out
      omega
    · show al + ([] ++ [start]).length ≤ m0 + 1
      have := HALL.out
      simp
      omega
    · exact ((Chg.of_below (unhide HB1) _).trans hch2 (fun i _ h => tv_tn (unhide HWK1).own i h))
    · intro u hu
      show upf met start (m0 + 1) u ≠ 0
      by_cases e : u = start
      · rw [e, upf_same]; omega
      · rw [upf_ne _ _ e]; exact hu
    · show upf met start (m0 + 1) start ≠ 0
      rw [upf_same]; omega
    · show 1 ≤ m0 + 1
      omega
  have HFR := hide hfr
  clear hwk2 hch2 hz12 hfr HM HB1 HWAY1 HINV HCNT HALL HMS HWK1 hW1
  go_wp2_with fail
  go_step3
  go_wp2_with fail
  obtain ⟨Q, hQ⟩ : ∃ Q, 2 * wh n (upf met start (m0 + 1)) + 1 = Q := ⟨_, rfl⟩
  have HQ := Lib.hid hQ
  clear hQ
  go_loopg [4] Q (fun q t W' => ∃ s : TS, FrS W W' X gM gL gP B n (.slice (some ⟨gG, 0, none⟩) n n) adj start met t s ∧ q = 2 * wh n s.met + s.way.length)
  case atStart => exact ⟨_, unhide HFR, HQ.out.symm⟩
  case round =>
    obtain ⟨s, hfr, hq⟩ := hrel
    clear HFR HQ
    rcases s.way.eq_nil_or_concat with hw | ⟨ws, ⟨x, k⟩, hw⟩
    · have hway := hfr.way
      rw [hw] at hway
      obtain ⟨Aw, cw, rfl⟩ := hway.shape
      have HF := hide hfr
      have HW := Lib.hid hw
      clear hfr hway hw hq
      go_wp2_with fail
      rw [Exit.noGoto_normal]
      go_end0
      exact ⟨rfl, s, _, unhide HF, HW.out⟩
    · rw [List.concat_eq_append] at hw
      have hway := hfr.way
      rw [hw] at hway
      obtain ⟨l, hl⟩ : ∃ l, ws.length = l := ⟨_, rfl⟩
      have hm : (ws ++ [(x, k)]).length = l + 1 := by simp [hl]
      rw [hm] at hway
      obtain ⟨gw, cw, rfl, hgwB, hmc, hcm⟩ := own_form2 hway (by omega)
      have hl1 : l + 1 ≤ n := by
        have h1 := hfr.wl
        have h2 := hfr.cnt
        rw [hw] at h1
        simp [hl] at h1
        omega
      obtain ⟨M, hM⟩ : ∃ M, l + 1 = M := ⟨_, rfl⟩
      have hMI : (0 : Int) < (M : Int) := by omega
      have hw1 : IntKind.i64.wrap ((M : Int) - 1) = (l : Int) := by rw [IntWalk.i64_in _ (by omega)]; omega
      have hlM : (l : Int) < (M : Int) := by omega
      have hl0 : (0 : Int) ≤ (l : Int) := by omega
      rw [hM] at hway
      have HF := hide hfr
      have HW := Lib.hid hw
      have HL := Lib.hid hl
      have HM := Lib.hid hM
      have HWAY := hide hway
      have HQ := Lib.hid hq
      have HW0 := Lib.hid (show s.way.length = ws.length + 1 by rw [hw]; simp)
      clear hfr hway hw hl hm hM hq
      have ha : ∃ L, (adj x).length = L := ⟨_, rfl⟩
      obtain ⟨La, hLa⟩ := ha
      have hxo := ((unhide HF).inv.top HW.out).1
      have hxn := (unhide HF).inv.opn_lt x hxo
      have hLa2 := unhide HADJ x hxn
      have hkl : k ≤ La := by rw [← hLa]; exact (unhide HF).inv.waynext (x, k) (by rw [HW.out]; simp)
      rw [hLa] at hLa2
      have HLA := Lib.hid hLa
      clear hLa hxo
      go_wp2_with fail
      go_loopg [4, 6] (La - k) (fun r t4 _ W' => ∃ (s' : TS) (k' : Nat), t4 = .slice (some ⟨gw, 0, none⟩) (l + 1) cw ∧ FrS W W' X gM gL gP B n (.slice (some ⟨gG, 0, none⟩) n n) adj start met (.slice (some ⟨gw, 0, none⟩) (l + 1) cw) s' ∧ s'.way = ws ++ [(x, k')] ∧ k' + r = La ∧ wh n s'.met = wh n s.met)
      case atStart => exact ⟨s, k, rfl, unhide HF, HW.out, by omega, rfl⟩
      case round =>
        obtain ⟨s', k', rfl, hfr, hw', hk', hwh⟩ := hrel
        clear HF HW HWAY
        have hway := hfr.way
        rw [hw', show (ws ++ [(x, k')]).length = l + 1 by simp [HL.out]] at hway
        have cn : wr.cell? ⟨gw, l * 2, none⟩ = some (.int .i64 (x : Int)) := by rw [own_cell2 hway (by omega), ← HL.out, Nat.mul_comm]; exact fcells_node
        have cx : wr.cell? ⟨gw, l * 2 + 1, none⟩ = some (.int .i64 (k' : Int)) := by rw [own_cell2 hway (by omega), ← HL.out, Nat.mul_comm]; exact fcells_next
        have fx : wr.frozen? ⟨gw, l * 2 + 1, none⟩ = false := own_frozen2 hway _
        obtain ⟨ov', hwk⟩ := hfr.wk
        have hnet := (unhide HNET).tn HBW.out hfr.chg
        obtain ⟨Ax, cax, hrx, hcells⟩ := hnet.row x hxn
        rw [HLA.out] at hrx
        have c0 : wr.cell? ⟨X, 0, none⟩ = some (.slice (some ⟨gG, 0, none⟩) n n) := hwk.blk.cell 0
        have hxI : (x : Int) < (n : Int) := by omega
        have hxI0 : (0 : Int) ≤ (x : Int) := by omega
        have hkI0 : (0 : Int) ≤ (k' : Int) := by omega
        have HF := hide hfr
        have HW := Lib.hid hw'
        have HWK := hide hwk
        have HWH := Lib.hid hwh
        have HWAY := hide hway
        have HCE := hide hcells
        by_cases hlt : k' < La
        · obtain ⟨to, hto⟩ : ∃ t, (adj x)[k']? = some t := ⟨_, List.getElem?_eq_getElem (by rw [HLA.out]; exact hlt)⟩
          obtain ⟨bt, ot, rfl, hbt, hct⟩ := hcells k' to hto
          replace hct : wr.cell? ⟨bt, ot + k', none⟩ = some (.int .i64 (to : Int)) := hct
          have hton := hfr.inv.adjn x hxn to (List.mem_of_getElem? hto)
          have hkI : (k' : Int) < (La : Int) := by omega
          have HTO := Lib.hid hto
          clear hfr hw' hwk hwh hway hcells hnet hto hbt
          go_wp2_with fail
          go_quiet (fail)
          obtain ⟨n1, rfl⟩ : ∃ n1, n1 = nq := ⟨nq, rfl⟩
          go_wp2_with fail
          go_quiet (fail)
          obtain ⟨n2, rfl⟩ : ∃ n2, n2 = nq := ⟨nq, rfl⟩
          obtain ⟨W6, hW6⟩ : ∃ W6, (wr.drewN (n1 + n2)).setCell ⟨gw, l * 2 + 1, none⟩ (.int .i64 ((k' : Int) + 1)) = W6 := ⟨_, rfl⟩
          have hk1 : Value.int .i64 ((k' : Int) + 1) = iv (k' + 1) := by rw [iv]; congr 1
          have hgwX : gw ≠ X ∧ gw ≠ gM ∧ gw ≠ gL ∧ gw ≠ gP := by have q := unhide HP; have := q.xB; have := q.mB; have := q.lB; have := q.pB; omega
          have hov : ov'.ownBlock ≠ some gw := fun e => own_blk_ne2 (unhide HWK).own (unhide HWAY) (by decide) e rfl
          have hwk6 : Wk W6 X gM gL gP B n (.slice (some ⟨gG, 0, none⟩) n n) ov' s'.met s'.low s'.part s'.opn s'.met0 s'.all := by
            rw [← hW6]
            exact ((unhide HWK).drewN (n1 + n2)).chg (Chg.of_set _ ⟨gw, l * 2 + 1, none⟩ _) (fun e => hgwX.1 e.symm) (fun e => hgwX.2.1 e.symm) (fun e => hgwX.2.2.1 e.symm) (fun e => hgwX.2.2.2 e.symm) (fun b hb e => hov (by rw [hb]; exact congrArg some e))
          have hway6 : W6.ownsRow B 92 2 (.slice (some ⟨gw, 0, none⟩) (l + 1) cw) (l + 1) (fcells (ws ++ [(x, k' + 1)])) := by
            have e := fcells_set (ws := ws) (x := x) (k := k') (k' := k' + 1)
            rw [HL.out, show 2 * l + 1 = l * 2 + 1 by omega] at e
            rw [← hW6, hk1, ← e]
            exact own_store2 (show (wr.drewN (n1 + n2)).ownsRow B 92 2 _ _ _ from unhide HWAY) (l * 2 + 1) (iv (k' + 1))
          have hch6 : Chg W W6 (Tn X gM gL gP B) := by
            rw [← hW6]
            have h0 : Chg W (wr.drewN (n1 + n2)) (Tn X gM gL gP B) := ⟨(unhide HF).chg.os, (unhide HF).chg.tape, (unhide HF).chg.output, (unhide HF).chg.size, (unhide HF).chg.block⟩
            exact h0.set_ ⟨gw, l * 2 + 1, none⟩ _ (fun _ => .inr (.inr (.inr (.inr hgwB))))
          have d1 : W6.cell? ⟨X, 1, none⟩ = some (.slice (some ⟨gM, 0, none⟩) n n) := hwk6.blk.cell 1
          have d3 : W6.cell? ⟨X, 3, none⟩ = some (.slice (some ⟨gP, 0, none⟩) n n) := hwk6.blk.cell 3
          have dm : W6.cell? ⟨gM, to, none⟩ = some (.int .i64 (s'.met to : Int)) := (hwk6.bm.cell to).trans (tab_at _ hton)
          have htI : (to : Int) < (n : Int) := by omega
          have htI0 : (0 : Int) ≤ (to : Int) := by omega
          have HWK6 := hide hwk6
          have HWAY6 := hide hway6
          have HCH6 := hide hch6
          have HGW := hide hgwX
          clear hwk6 hway6 hch6 hk1 hgwX hov
          by_cases hm0 : s'.met to = 0
          · rw [hm0] at dm
            have dm0 : W6.cell? ⟨gM, to, none⟩ = some (.int .i64 0) := dm
            clear dm
            have hB6 : B ≤ W6.heap.size := Nat.le_trans HBW.out (unhide HCH6).size
            have hme := meet_any (unhide HWK6) (unhide HP) hB6 hton (by have := (unhide HF).cnt; omega) (by have := (unhide HF).cnt; have := (unhide HF).all_; omega)
            have HME := hide hme
            have HM0 := Lib.hid hm0
            clear hme hm0
            go_wp2_with fail
            refine (unhide HME).mono ?_
            rintro e w7 ⟨rfl, ov7, hwk7, hch7⟩
            have hway7 : w7.ownsRow B 92 2 (.slice (some ⟨gw, 0, none⟩) (l + 1) cw) (l + 1) (fcells (ws ++ [(x, k' + 1)])) := by
              refine hch7.own (unhide HWAY6) (fun i hi e => ?_)
              cases hi
              obtain ⟨q1, q2, q3, q4⟩ := unhide HGW
              rcases e with e | e | e | e | e
              · exact q1 e
              · exact q2 e
              · exact q3 e
              · exact q4 e
              · exact own_blk_ne2 (unhide HWK6).own (unhide HWAY6) (by decide) e rfl
            have hB7 : B ≤ w7.heap.size := Nat.le_trans hB6 hch7.size
            have hov7 : ov7.ownBlock ≠ some gw := fun e => own_blk_ne2 hwk7.own hway7 (by decide) e rfl
            have hch07 : Chg W w7 (Tn X gM gL gP B) := (unhide HCH6).trans hch7 (fun i _ h => tv_tn (unhide HWK6).own i h)
            have hwa := hway7.alloc (.cells #[.int .i64 (to : Int), .int .i64 0] 92)
            have hrl := reads_lit2 w7 92 (.int .i64 (to : Int)) (.int .i64 0)
            have hwka := hwk7.bel ((Below.refl w7.heap.size w7).alloc (Nat.le_refl _) (.cells #[.int .i64 (to : Int), .int .i64 0] 92))
            have hcha := hch07.bel ((Below.refl w7.heap.size w7).alloc (Nat.le_refl _) (.cells #[.int .i64 (to : Int), .int .i64 0] 92))
            have hza : B ≤ (w7.alloc (.cells #[.int .i64 (to : Int), .int .i64 0] 92)).heap.size := by rw [World.size_alloc]; omega
            have hl1n : l ≤ 1000000 := by omega
            have HCP : Hid (l + 1 + 1 ≤ maxLen ∧ (l + 1 + 1) * 16 ≤ 140737488355328) := cap16 (by omega)
            have HWA := hide hwa
            have HRL := hide hrl
            have HWKA := hide hwka
            have HCHA := hide hcha
            have HOV7 := hide hov7
            clear hwk7 hch7 hway7 hB7 hch07 hwa hrl hwka hcha hov7 hl1n
            go_wp2_with (first
              | (at_builtin
                 refine wpList_app _ rfl (.tmp 74) (.tmp 77) 93 rfl elem_fr B (.slice (some ⟨gw, 0, none⟩) (l + 1) cw) (l + 1) (fcells (ws ++ [(x, k' + 1)])) rfl (unhide HWA) (w7.heap.size + 1) (some ⟨w7.heap.size, 0, none⟩) 1 1 [.int .i64 (to : Int), .int .i64 0] rfl (unhide HRL) (by intro u hu; simp at hu; rcases hu with rfl | rfl <;> rfl) HCP.out hza ?_
                 intro v8 w8 ho8 hg8 _
                 have HO8 := hide ho8
                 have HG8 := hide hg8
                 clear ho8 hg8))
            go_roundg (2 * wh n (upf s'.met to (s'.met0 + 1)) + (ws.length + 2))
            case rel =>
              have hgo := (unhide HF).inv.go HW.out HTO.out HM0.out
              obtain ⟨q1, q2, q3, q4⟩ := unhide HGW
              have hcg := Chg.of_grown (unhide HG8)
              have hne : ∀ b, b ≠ gw → ¬ (Value.ownBlock (.slice (some ⟨gw, 0, none⟩) (l + 1) cw) = some b) := fun b hb e => hb (by injection e with e; exact e.symm)
              refine ⟨_, ⟨⟨ov7, (unhide HWKA).chg hcg (hne X (fun e => q1 e.symm)) (hne gM (fun e => q2 e.symm)) (hne gL (fun e => q3 e.symm)) (hne gP (fun e => q4 e.symm)) (fun b hb => hne b (fun e => unhide HOV7 (by rw [hb, e])))⟩, ?_, hgo, ?_, ?_, ?_, ?_, ?_, ?_⟩, ?_⟩
              · show w8.ownsRow B _ 2 v8 (ws ++ [(x, k' + 1), (to, 0)]).length (fcells (ws ++ [(x, k' + 1), (to, 0)]))
                rw [show ws ++ [(x, k' + 1), (to, 0)] = (ws ++ [(x, k' + 1)]) ++ [(to, 0)] by simp, fcells_app, List.length_append, List.length_append, HL.out]
                exact unhide HO8
              · show s'.met0 + 1 + wh n (upf s'.met to (s'.met0 + 1)) = n
                have := wh_meet hton HM0.out (show s'.met0 + 1 ≠ 0 by omega)
                have := (unhide HF).cnt
                omega
              · show s'.all + (s'.opn ++ [to]).length ≤ s'.met0 + 1
                have := (unhide HF).all_
                simp
                omega
              · exact (unhide HCHA).grown (unhide HG8) (fun i e _ => .inr (.inr (.inr (.inr (by injection e with e; have e2 : gw = i := e; omega)))))
              · intro u hu
                show upf s'.met to (s'.met0 + 1) u ≠ 0
                by_cases e : u = to
                · rw [e, upf_same]; omega
                · rw [upf_ne _ _ e]; exact (unhide HF).old u hu
              · show upf s'.met to (s'.met0 + 1) start ≠ 0
                by_cases e : start = to
                · rw [← e, upf_same]; omega
                · rw [upf_ne _ _ e]; exact (unhide HF).first
              · show (ws ++ [(x, k' + 1), (to, 0)]).length ≤ s'.met0 + 1
                have := (unhide HF).wl
                rw [HW.out] at this
                simp at this ⊢
                omega
              · show _ = 2 * wh n (upf s'.met to (s'.met0 + 1)) + (ws ++ [(x, k' + 1), (to, 0)]).length
                simp
            case measure =>
              have h1 := wh_meet hton HM0.out (show s'.met0 + 1 ≠ 0 by omega)
              have h2 := HQ.out
              have h3 := HWH.out
              have h4 := HW0.out
              omega
          · have hmt : s'.met to ≠ 0 := hm0
            obtain ⟨mt, hmte⟩ : ∃ m, s'.met to = m := ⟨_, rfl⟩
            rw [hmte] at dm hmt
            have hmb : ((mt : Int) == 0) = false := by simp; exact hmt
            have dp : W6.cell? ⟨gP, to, none⟩ = some (pv (s'.part to)) := ((unhide HWK6).bp.cell to).trans (tab_at _ hton)
            have HMT := Lib.hid hmte
            have HM0 := Lib.hid hm0
            cases hpt : s'.part to with
            | some pt =>
              rw [hpt] at dp
              replace dp : W6.cell? ⟨gP, to, none⟩ = some (.int .i64 (pt : Int)) := dp
              have hpI : ¬ (pt : Int) < 0 := by omega
              have hsee := (unhide HF).inv.see (l := s'.low x) HW.out HTO.out (Nat.le_refl _) (.inl rfl) (.inl (by rw [hpt]; simp))
              have HSEE := hide hsee
              clear hsee hpt hmte hm0
              go_wp2_with fail
              go_roundg (La - (k' + 1))
              case rel =>
                refine ⟨{ s' with low := upf s'.low x (s'.low x), way := ws ++ [(x, k' + 1)] }, k' + 1, rfl, ⟨⟨ov', ?_⟩, ?_, unhide HSEE, (unhide HF).cnt, (unhide HF).all_, unhide HCH6, (unhide HF).old, (unhide HF).first, ?_⟩, rfl, by omega, HWH.out⟩
                · show Wk W6 X gM gL gP B n _ ov' s'.met (upf s'.low x (s'.low x)) s'.part s'.opn s'.met0 s'.all
                  rw [upf_id]
                  exact unhide HWK6
                · show W6.ownsRow B _ 2 _ (ws ++ [(x, k' + 1)]).length _
                  rw [show (ws ++ [(x, k' + 1)]).length = l + 1 by simp [HL.out]]
                  exact unhide HWAY6
                · have := (unhide HF).wl
                  rw [HW.out] at this
                  simpa using this
              case measure => omega
            | none =>
              rw [hpt] at dp
              replace dp : W6.cell? ⟨gP, to, none⟩ = some (.int .i64 (-1)) := dp
              obtain ⟨lx, hlx⟩ : ∃ m, s'.low x = m := ⟨_, rfl⟩
              have HLX := Lib.hid hlx
              have hopn : to ∈ s'.opn := ((unhide HF).inv.opn_iff to hton).2 ⟨hm0, hpt⟩
              have d2 : W6.cell? ⟨X, 2, none⟩ = some (.slice (some ⟨gL, 0, none⟩) n n) := (unhide HWK6).blk.cell 2
              have dl : W6.cell? ⟨gL, x, none⟩ = some (.int .i64 (lx : Int)) := by rw [← hlx]; exact ((unhide HWK6).bl.cell x).trans (tab_at _ hxn)
              have fl6 : W6.frozen? ⟨gL, x, none⟩ = false := (unhide HWK6).bl.frozen x
              have dn : W6.cell? ⟨gw, l * 2, none⟩ = some (.int .i64 (x : Int)) := by rw [own_cell2 (unhide HWAY6) (by omega), ← HL.out, Nat.mul_comm]; exact fcells_node
              clear hlx
              by_cases hc : lx ≤ mt
              · have hcI : (lx : Int) ≤ (mt : Int) := by omega
                have hcm : min (lx : Int) (mt : Int) = (lx : Int) := by omega
                have hsee := (unhide HF).inv.see (l := lx) HW.out HTO.out (by rw [HLX.out]; omega) (by rw [HLX.out]; first | exact .inl rfl | exact .inr ⟨hopn, HMT.out.symm⟩) (.inr ⟨hopn, by rw [HMT.out]; omega⟩)
                have HSEE := hide hsee
                clear hsee hopn hpt hmte hm0
                go_wp2_with fail
                refine region_tail 27 (by kernel_rfl) (by kernel_rfl) fun V hV => ?_
                simp only [List.take_succ_cons, List.take_zero, List.drop_succ_cons, List.drop_zero]
                have hVk : ∀ p, V.cell? p = W6.cell? p := fun p => by rw [← hV]; rfl
                have hVf : ∀ p, V.frozen? p = W6.frozen? p := fun p => by rw [← hV]; rfl
                rw [← hVk] at d1 d2 dl dn dm
                rw [← hVf] at fl6
                have HV := Lib.hid hV
                clear hVk hVf hV dp d3
                repeat still_step
                refine wpStill_nil ?_
                obtain ⟨W7, hW7⟩ : ∃ W7, V.setCell ⟨gL, x, none⟩ (.int .i64 (lx : Int)) = W7 := ⟨_, rfl⟩
                have hwk7 : Wk W7 X gM gL gP B n (.slice (some ⟨gG, 0, none⟩) n n) ov' s'.met (upf s'.low x lx) s'.part s'.opn s'.met0 s'.all := by
                  rw [← hW7, ← HV.out]; exact ((unhide HWK6).drew).setLow (unhide HP) x lx
                have hway7 : W7.ownsRow B 92 2 (.slice (some ⟨gw, 0, none⟩) (l + 1) cw) (l + 1) (fcells (ws ++ [(x, k' + 1)])) := by
                  rw [← hW7, ← HV.out]
                  exact (Chg.of_set W6.drew ⟨gL, x, none⟩ (.int .i64 (lx : Int))).own (show W6.drew.ownsRow B 92 2 _ _ _ from unhide HWAY6) (fun i hi e => by cases hi; exact (unhide HGW).2.2.1 e)
                have hch7 : Chg W W7 (Tn X gM gL gP B) := by
                  rw [← hW7, ← HV.out]; exact ((unhide HCH6).drew).set_ ⟨gL, x, none⟩ _ (fun _ => .inr (.inr (.inl rfl)))
                have HWK7 := hide hwk7
                have HWAY7 := hide hway7
                have HCH7 := hide hch7
                clear hwk7 hway7 hch7
                go_wp2_with fail
                go_roundg (La - (k' + 1))
                case rel =>
                  refine ⟨{ s' with low := upf s'.low x lx, way := ws ++ [(x, k' + 1)] }, k' + 1, rfl, ⟨⟨ov', unhide HWK7⟩, ?_, unhide HSEE, (unhide HF).cnt, (unhide HF).all_, unhide HCH7, (unhide HF).old, (unhide HF).first, ?_⟩, rfl, by omega, HWH.out⟩
                  · show W7.ownsRow B _ 2 _ (ws ++ [(x, k' + 1)]).length _
                    rw [show (ws ++ [(x, k' + 1)]).length = l + 1 by simp [HL.out]]
                    exact unhide HWAY7
                  · have := (unhide HF).wl
                    rw [HW.out] at this
                    simpa using this
                case measure => omega
              · have hcI : ¬ (lx : Int) ≤ (mt : Int) := by omega
                have hcm : min (lx : Int) (mt : Int) = (mt : Int) := by omega
                have hsee := (unhide HF).inv.see (l := mt) HW.out HTO.out (by rw [HLX.out]; omega) (by rw [HLX.out]; first | exact .inl rfl | exact .inr ⟨hopn, HMT.out.symm⟩) (.inr ⟨hopn, by rw [HMT.out]; omega⟩)
                have HSEE := hide hsee
                clear hsee hopn hpt hmte hm0
                go_wp2_with fail
                refine region_tail 27 (by kernel_rfl) (by kernel_rfl) fun V hV => ?_
                simp only [List.take_succ_cons, List.take_zero, List.drop_succ_cons, List.drop_zero]
                have hVk : ∀ p, V.cell? p = W6.cell? p := fun p => by rw [← hV]; rfl
                have hVf : ∀ p, V.frozen? p = W6.frozen? p := fun p => by rw [← hV]; rfl
                rw [← hVk] at d1 d2 dl dn dm
                rw [← hVf] at fl6
                have HV := Lib.hid hV
                clear hVk hVf hV dp d3
                repeat still_step
                refine wpStill_nil ?_
                obtain ⟨W7, hW7⟩ : ∃ W7, V.setCell ⟨gL, x, none⟩ (.int .i64 (mt : Int)) = W7 := ⟨_, rfl⟩
                have hwk7 : Wk W7 X gM gL gP B n (.slice (some ⟨gG, 0, none⟩) n n) ov' s'.met (upf s'.low x mt) s'.part s'.opn s'.met0 s'.all := by
                  rw [← hW7, ← HV.out]; exact ((unhide HWK6).drew).setLow (unhide HP) x mt
                have hway7 : W7.ownsRow B 92 2 (.slice (some ⟨gw, 0, none⟩) (l + 1) cw) (l + 1) (fcells (ws ++ [(x, k' + 1)])) := by
                  rw [← hW7, ← HV.out]
                  exact (Chg.of_set W6.drew ⟨gL, x, none⟩ (.int .i64 (mt : Int))).own (show W6.drew.ownsRow B 92 2 _ _ _ from unhide HWAY6) (fun i hi e => by cases hi; exact (unhide HGW).2.2.1 e)
                have hch7 : Chg W W7 (Tn X gM gL gP B) := by
                  rw [← hW7, ← HV.out]; exact ((unhide HCH6).drew).set_ ⟨gL, x, none⟩ _ (fun _ => .inr (.inr (.inl rfl)))
                have HWK7 := hide hwk7
                have HWAY7 := hide hway7
                have HCH7 := hide hch7
                clear hwk7 hway7 hch7
                go_wp2_with fail
                go_roundg (La - (k' + 1))
                case rel =>
                  refine ⟨{ s' with low := upf s'.low x mt, way := ws ++ [(x, k' + 1)] }, k' + 1, rfl, ⟨⟨ov', unhide HWK7⟩, ?_, unhide HSEE, (unhide HF).cnt, (unhide HF).all_, unhide HCH7, (unhide HF).old, (unhide HF).first, ?_⟩, rfl, by omega, HWH.out⟩
                  · show W7.ownsRow B _ 2 _ (ws ++ [(x, k' + 1)]).length _
                    rw [show (ws ++ [(x, k' + 1)]).length = l + 1 by simp [HL.out]]
                    exact unhide HWAY7
                  · have := (unhide HF).wl
                    rw [HW.out] at this
                    simpa using this
                case measure => omega
        · obtain rfl : k' = La := by omega
          have hkI : ¬ (k' : Int) < (k' : Int) := by omega
          have hsl := fun W => run_first elem_fr (g := gw) (n := l) (N := l + 1) (cap := cw) (by omega) W
          have hxo := (hfr.inv.top hw').1
          obtain ⟨lx, hlx⟩ : ∃ m, s'.low x = m := ⟨_, rfl⟩
          obtain ⟨mx, hmx⟩ : ∃ m, s'.met x = m := ⟨_, rfl⟩
          have hle : lx ≤ mx := by rw [← hlx, ← hmx]; exact (hfr.inv.lows (x, k') (by rw [hw']; simp)).1
          have HLX := Lib.hid hlx
          have HMX := Lib.hid hmx
          have HXO := hide hxo
          have g1' : wr.cell? ⟨X, 1, none⟩ = some (.slice (some ⟨gM, 0, none⟩) n n) := hwk.blk.cell 1
          have g2' : wr.cell? ⟨X, 2, none⟩ = some (.slice (some ⟨gL, 0, none⟩) n n) := hwk.blk.cell 2
          have glx : wr.cell? ⟨gL, x, none⟩ = some (.int .i64 (lx : Int)) := by rw [← hlx]; exact (hwk.bl.cell x).trans (tab_at _ hxn)
          have gmx : wr.cell? ⟨gM, x, none⟩ = some (.int .i64 (mx : Int)) := by rw [← hmx]; exact (hwk.bm.cell x).trans (tab_at _ hxn)
          rcases ws.eq_nil_or_concat with hws | ⟨ws', ⟨y, my⟩, hws⟩
          · subst hws
            have hl00 : l = 0 := by rw [← HL.out]; rfl
            subst hl00
            have heq : lx = mx := by
              rcases Nat.lt_or_ge lx mx with hlt2 | hge
              · exfalso
                obtain ⟨_, z, hz, hz1, _⟩ := hfr.inv.lows (x, k') (by rw [hw']; simp)
                obtain ⟨f, hf, hf1, _⟩ := hfr.inv.back z hz
                rw [hw'] at hf
                simp at hf
                subst hf
                simp only at hz1 hf1
                omega
              · omega
            have HLEN : Hid (([] : List (Nat × Nat)).length = 0) := rfl
            have HGW0 : Hid (gw ≠ X ∧ gw ≠ gM ∧ gw ≠ gL ∧ gw ≠ gP) := by show _ ∧ _; have q := unhide HP; have := q.xB; have := q.mB; have := q.lB; have := q.pB; omega
            have hbI : ((lx : Int) == (mx : Int)) = true := by simp only [beq_iff_eq]; omega
            have HEQ := Lib.hid heq
            clear hfr hw' hwk hwh hway hcells hnet hlx hmx hxo hle heq hlt
            go_wp2_with fail
            go_quiet (fail)
            obtain ⟨n1, rfl⟩ : ∃ n1, n1 = nq := ⟨nq, rfl⟩
            go_wp2_with fail
            go_quiet (fail)
            obtain ⟨n2, rfl⟩ : ∃ n2, n2 = nq := ⟨nq, rfl⟩
            have heq := HEQ.out
            have HWK0 := hide ((unhide HWK).drewN (n1 + n2))
            have HWAY0 : Hid ((wr.drewN (n1 + n2)).ownsRow B 92 2 (.slice (some ⟨gw, 0, none⟩) 0 cw) 0 (fcells [])) := own_cut2 (show (wr.drewN (n1 + n2)).ownsRow B 92 2 _ _ _ from unhide HWAY) (k := 0) (by omega)
            have HCH0 : Hid (Chg W (wr.drewN (n1 + n2)) (Tn X gM gL gP B)) := ⟨(unhide HF).chg.os, (unhide HF).chg.tape, (unhide HF).chg.output, (unhide HF).chg.size, (unhide HF).chg.block⟩
            obtain ⟨o1, o2, hop⟩ := List.append_of_mem (unhide HXO)
            have hx2 : x ∉ o2 := fun h2 => by
              have h3 := (unhide HF).inv.sorted
              rw [hop, List.pairwise_append] at h3
              have := (List.pairwise_cons.1 h3.2.1).1 x h2
              omega
            have hshut := (unhide HF).inv.shut HW.out HLA.out.symm (by rw [HLX.out, HMX.out]; exact heq) hop
            have hwkc := unhide HWK0
            rw [hop] at hwkc
            have hcl := close_any (unhide HP) hwkc (fun u hu => (unhide HF).inv.opn_lt u (by rw [hop]; exact hu)) hx2 (by have := (unhide HF).cnt; have := (unhide HF).all_; omega) (by have := (unhide HF).cnt; have := (unhide HF).all_; rw [hop] at this; omega)
            have HCL := hide hcl
            have HSH := hide hshut
            have HOP := Lib.hid hop
            clear hop hx2 hshut hwkc hcl
            go_wp2_with fail
            refine (unhide HCL).mono ?_
            rintro e w9 ⟨rfl, ov9, hwk9, hch9⟩
            have hway9 : w9.ownsRow B 92 2 (.slice (some ⟨gw, 0, none⟩) 0 cw) 0 (fcells ([] : List (Nat × Nat))) := by
              refine hch9.own (unhide HWAY0) (fun i hi e => ?_)
              cases hi
              obtain ⟨q1, q2, q3, q4⟩ := HGW0.out
              rcases e with e | e | e | e | e
              · exact q1 e
              · exact q2 e
              · exact q3 e
              · exact q4 e
              · exact own_blk_ne2 (unhide HWK0).own (unhide HWAY0) (by decide) e rfl
            have hch09 : Chg W w9 (Tn X gM gL gP B) := (unhide HCH0).trans hch9 (fun i _ h => tv_tn (unhide HWK0).own i h)
            have HWK9 := hide hwk9
            have HWAY9 := hide hway9
            have HCH9 := hide hch09
            clear hwk9 hway9 hch09 hch9
            go_wp2_with fail
            go_roundg (2 * wh n s'.met + ([] : List (Nat × Nat)).length)
            case rel =>
              refine ⟨_, ⟨⟨ov9, unhide HWK9⟩, ?_, unhide HSH, (unhide HF).cnt, ?_, unhide HCH9, (unhide HF).old, (unhide HF).first, ?_⟩, rfl⟩
              · show w9.ownsRow B _ 2 _ ([] : List (Nat × Nat)).length (fcells ([] : List (Nat × Nat)))
                rw [HLEN.out]
                exact unhide HWAY9
              · show s'.all + 1 + o1.length ≤ s'.met0
                have := (unhide HF).all_
                rw [HOP.out] at this
                simp at this
                omega
              · show ([] : List (Nat × Nat)).length ≤ s'.met0
                have := (unhide HF).wl
                rw [HW.out, List.length_append] at this
                rw [show ([] : List (Nat × Nat)).length = 0 from HLEN.out]
                have h6 := HL.out
                simp at this h6
                omega
            case measure =>
              have h2 := HQ.out
              have h3 := HWH.out
              have h4 := HW0.out
              have h5 := HLEN.out
              try simp only [List.length_nil] at h4
              rw [show ([] : List (Nat × Nat)).length = 0 from HLEN.out]
              omega
          · rw [List.concat_eq_append] at hws
            subst hws
            obtain ⟨l', hl'⟩ : ∃ l', l = l' + 1 := ⟨ws'.length, by rw [← HL.out]; simp⟩
            have hwl : ws'.length = l' := by have := HL.out; simp at this; omega
            have htop := hfr.inv.top hw'
            have hyw : (y, my) ∈ s'.way := by rw [hw']; simp
            have hyo := hfr.inv.wayopn _ hyw
            have hyn : y < n := hfr.inv.opn_lt y hyo
            obtain ⟨ly, hly⟩ : ∃ m, s'.low y = m := ⟨_, rfl⟩
            obtain ⟨mety, hmety⟩ : ∃ m, s'.met y = m := ⟨_, rfl⟩
            have hlym : ly ≤ mety := by rw [← hly, ← hmety]; exact (hfr.inv.lows _ hyw).1
            have hmyx : mety < mx := by rw [← hmety, ← hmx]; exact htop.2.1 (y, my) (by simp)
            have hxy : x ≠ y := fun e => by rw [e, hmety] at hmx; omega
            have HLY := Lib.hid hly
            have gly : wr.cell? ⟨gL, y, none⟩ = some (.int .i64 (ly : Int)) := by rw [← hly]; exact (hwk.bl.cell y).trans (tab_at _ hyn)
            have fly : wr.frozen? ⟨gL, y, none⟩ = false := hwk.bl.frozen y
            have cy : wr.cell? ⟨gw, l' * 2, none⟩ = some (.int .i64 (y : Int)) := by
              rw [own_cell2 hway (by omega), fcells_app, List.getElem?_append_left (by rw [fcells_len]; simp; omega), ← hwl, Nat.mul_comm]
              exact fcells_node
            have HGW0 : Hid (gw ≠ X ∧ gw ≠ gM ∧ gw ≠ gL ∧ gw ≠ gP) := by show _ ∧ _; have q := unhide HP; have := q.xB; have := q.mB; have := q.lB; have := q.pB; omega
            have hw2 : IntKind.i64.wrap ((l : Int) - 1) = (l' : Int) := by rw [IntWalk.i64_in _ (by omega)]; omega
            have hl1 : (0 : Int) < (l : Int) := by omega
            have hl'0 : (0 : Int) ≤ (l' : Int) := by omega
            have hl'l : (l' : Int) < (l : Int) := by omega
            have hyI : (y : Int) < (n : Int) := by omega
            have hyI0 : (0 : Int) ≤ (y : Int) := by omega
            have HL' := Lib.hid hl'
            clear hfr hw' hwk hwh hway hcells hnet hlx hmx hxo hlt htop hyw hyo hly hmety hwl hl'
            go_wp2_with fail
            go_quiet (fail)
            obtain ⟨n1, rfl⟩ : ∃ n1, n1 = nq := ⟨nq, rfl⟩
            go_wp2_with fail
            by_cases hc : ly ≤ lx
            · have hcI : (ly : Int) ≤ (lx : Int) := by omega
              have hcm : min (ly : Int) (lx : Int) = (ly : Int) := by omega
              refine region_tail 21 (by kernel_rfl) (by kernel_rfl) fun V hV => ?_
              simp only [List.take_succ_cons, List.take_zero, List.drop_succ_cons, List.drop_zero]
              have hVk : ∀ p, V.cell? p = wr.cell? p := fun p => by rw [← hV]; rfl
              have hVf : ∀ p, V.frozen? p = wr.frozen? p := fun p => by rw [← hV]; rfl
              have b2 : V.cell? ⟨X, 2, none⟩ = some (.slice (some ⟨gL, 0, none⟩) n n) := (hVk _).trans g2'
              have b3 : V.cell? ⟨gL, x, none⟩ = some (.int .i64 (lx : Int)) := (hVk _).trans glx
              have b4 : V.cell? ⟨gL, y, none⟩ = some (.int .i64 (ly : Int)) := (hVk _).trans gly
              have b5 : V.frozen? ⟨gL, y, none⟩ = false := (hVf _).trans fly
              have hwkV : Wk V X gM gL gP B n (.slice (some ⟨gG, 0, none⟩) n n) ov' s'.met s'.low s'.part s'.opn s'.met0 s'.all := by rw [← hV]; exact ((unhide HWK).drewN n1).drew
              have hwayV : V.ownsRow B 92 2 (.slice (some ⟨gw, 0, none⟩) (l + 1) cw) (l + 1) (fcells ((ws' ++ [(y, my)]) ++ [(x, k')])) := by rw [← hV]; exact unhide HWAY
              have hchV : Chg W V (Tn X gM gL gP B) := by rw [← hV]; exact ⟨(unhide HF).chg.os, (unhide HF).chg.tape, (unhide HF).chg.output, (unhide HF).chg.size, (unhide HF).chg.block⟩
              repeat still_step
              refine wpStill_nil ?_
              obtain ⟨W7, hW7⟩ : ∃ W7, V.setCell ⟨gL, y, none⟩ (.int .i64 (ly : Int)) = W7 := ⟨_, rfl⟩
              have hwk7 : Wk W7 X gM gL gP B n (.slice (some ⟨gG, 0, none⟩) n n) ov' s'.met (upf s'.low y ly) s'.part s'.opn s'.met0 s'.all := by rw [← hW7]; exact hwkV.setLow (unhide HP) y ly
              have hway7 : W7.ownsRow B 92 2 (.slice (some ⟨gw, 0, none⟩) l cw) l (fcells (ws' ++ [(y, my)])) := by
                have h0 := own_cut2 hwayV (k := l) (by omega)
                rw [show l * 2 = (ws' ++ [(y, my)]).length * 2 by rw [HL.out], fcells_cut] at h0
                rw [← hW7]
                exact (Chg.of_set V ⟨gL, y, none⟩ (.int .i64 (ly : Int))).own h0 (fun i hi e => by cases hi; exact HGW0.out.2.2.1 e)
              have hch7 : Chg W W7 (Tn X gM gL gP B) := by rw [← hW7]; exact hchV.set_ ⟨gL, y, none⟩ _ (fun _ => .inr (.inr (.inl rfl)))
              have r1 : W7.cell? ⟨X, 1, none⟩ = some (.slice (some ⟨gM, 0, none⟩) n n) := hwk7.blk.cell 1
              have r2 : W7.cell? ⟨X, 2, none⟩ = some (.slice (some ⟨gL, 0, none⟩) n n) := hwk7.blk.cell 2
              have r3 : W7.cell? ⟨gL, x, none⟩ = some (.int .i64 (lx : Int)) := by rw [← HLX.out]; exact (hwk7.bl.cell x).trans ((tab_at _ hxn).trans (by rw [upf_ne _ _ hxy]; rfl))
              have r4 : W7.cell? ⟨gM, x, none⟩ = some (.int .i64 (mx : Int)) := by rw [← HMX.out]; exact (hwk7.bm.cell x).trans (tab_at _ hxn)
              have HWK7 := hide hwk7
              have HWAY7 := hide hway7
              have HCH7 := hide hch7
              have HXY := Lib.hid hxy
              clear hwkV hwayV hchV hwk7 hway7 hch7 hVk hVf hV b2 b3 g1' g2' glx gmx gly fly cn cx c0 hrx cy hxy
              by_cases heq : lx = mx
              · have hbI : ((lx : Int) == (mx : Int)) = true := by simp only [beq_iff_eq]; omega
                have HEQ := Lib.hid heq
                clear heq
                go_wp2_with fail
                go_quiet (fail)
                obtain ⟨n2, rfl⟩ : ∃ n2, n2 = nq := ⟨nq, rfl⟩
                have heq := HEQ.out
                have HWK0 : Hid (Wk (W7.drewN n2) X gM gL gP B n (.slice (some ⟨gG, 0, none⟩) n n) ov' s'.met s'.low s'.part s'.opn s'.met0 s'.all) := by
                  have h := (unhide HWK7).drewN n2
                  rw [← HLY.out, upf_id] at h
                  exact h
                have HWAY0 : Hid ((W7.drewN n2).ownsRow B 92 2 (.slice (some ⟨gw, 0, none⟩) l cw) l (fcells (ws' ++ [(y, my)]))) := unhide HWAY7
                have HCH0 : Hid (Chg W (W7.drewN n2) (Tn X gM gL gP B)) := ⟨(unhide HCH7).os, (unhide HCH7).tape, (unhide HCH7).output, (unhide HCH7).size, (unhide HCH7).block⟩
                have HLEN : Hid ((ws' ++ [(y, my)]).length = l) := HL.out
                obtain ⟨o1, o2, hop⟩ := List.append_of_mem (unhide HXO)
                have hx2 : x ∉ o2 := fun h2 => by
                  have h3 := (unhide HF).inv.sorted
                  rw [hop, List.pairwise_append] at h3
                  have := (List.pairwise_cons.1 h3.2.1).1 x h2
                  omega
                have hshut := (unhide HF).inv.shut HW.out HLA.out.symm (by rw [HLX.out, HMX.out]; exact heq) hop
                have hwkc := unhide HWK0
                rw [hop] at hwkc
                have hcl := close_any (unhide HP) hwkc (fun u hu => (unhide HF).inv.opn_lt u (by rw [hop]; exact hu)) hx2 (by have := (unhide HF).cnt; have := (unhide HF).all_; omega) (by have := (unhide HF).cnt; have := (unhide HF).all_; rw [hop] at this; omega)
                have HCL := hide hcl
                have HSH := hide hshut
                have HOP := Lib.hid hop
                clear hop hx2 hshut hwkc hcl
                go_wp2_with fail
                refine (unhide HCL).mono ?_
                rintro e w9 ⟨rfl, ov9, hwk9, hch9⟩
                have hway9 : w9.ownsRow B 92 2 (.slice (some ⟨gw, 0, none⟩) l cw) l (fcells (ws' ++ [(y, my)])) := by
                  refine hch9.own (unhide HWAY0) (fun i hi e => ?_)
                  cases hi
                  obtain ⟨q1, q2, q3, q4⟩ := HGW0.out
                  rcases e with e | e | e | e | e
                  · exact q1 e
                  · exact q2 e
                  · exact q3 e
                  · exact q4 e
                  · exact own_blk_ne2 (unhide HWK0).own (unhide HWAY0) (by decide) e rfl
                have hch09 : Chg W w9 (Tn X gM gL gP B) := (unhide HCH0).trans hch9 (fun i _ h => tv_tn (unhide HWK0).own i h)
                have HWK9 := hide hwk9
                have HWAY9 := hide hway9
                have HCH9 := hide hch09
                clear hwk9 hway9 hch09 hch9
                go_wp2_with fail
                go_roundg (2 * wh n s'.met + (ws' ++ [(y, my)]).length)
                case rel =>
                  refine ⟨_, ⟨⟨ov9, unhide HWK9⟩, ?_, unhide HSH, (unhide HF).cnt, ?_, unhide HCH9, (unhide HF).old, (unhide HF).first, ?_⟩, rfl⟩
                  · show w9.ownsRow B _ 2 _ (ws' ++ [(y, my)]).length (fcells (ws' ++ [(y, my)]))
                    rw [HLEN.out]
                    exact unhide HWAY9
                  · show s'.all + 1 + o1.length ≤ s'.met0
                    have := (unhide HF).all_
                    rw [HOP.out] at this
                    simp at this
                    omega
                  · show (ws' ++ [(y, my)]).length ≤ s'.met0
                    have := (unhide HF).wl
                    rw [HW.out, List.length_append] at this
                    rw [show (ws' ++ [(y, my)]).length = l from HLEN.out]
                    have h6 := HL.out
                    simp at this h6
                    omega
                case measure =>
                  have h2 := HQ.out
                  have h3 := HWH.out
                  have h4 := HW0.out
                  have h5 := HLEN.out
                  try simp only [List.length_nil] at h4
                  rw [show (ws' ++ [(y, my)]).length = l from HLEN.out]
                  omega
              · have hbI : ((lx : Int) == (mx : Int)) = false := by simp only [beq_eq_false_iff_ne, ne_eq]; omega
                go_wp2_with fail
                go_quiet (fail)
                obtain ⟨n2, rfl⟩ : ∃ n2, n2 = nq := ⟨nq, rfl⟩
                have hst := (unhide HF).inv.stay (ws := ws') (y := y) (m := my) (by rw [HW.out]; simp) HLA.out.symm (by rw [HLX.out, HMX.out]; omega)
                have HST := hide hst
                clear hst
                go_wp2_with fail
                go_roundg (2 * wh n s'.met + (ws' ++ [(y, my)]).length)
                case rel =>
                  refine ⟨_, ⟨⟨ov', ?_⟩, ?_, unhide HST, (unhide HF).cnt, (unhide HF).all_, ?_, (unhide HF).old, (unhide HF).first, ?_⟩, rfl⟩
                  · show Wk (W7.drewN n2) X gM gL gP B n _ ov' s'.met (upf s'.low y (min (s'.low y) (s'.low x))) s'.part s'.opn s'.met0 s'.all
                    rw [HLX.out, HLY.out, show min ly lx = ly by omega]
                    exact (unhide HWK7).drewN n2
                  · show (W7.drewN n2).ownsRow B _ 2 _ (ws' ++ [(y, my)]).length (fcells (ws' ++ [(y, my)]))
                    rw [show (ws' ++ [(y, my)]).length = l from HL.out]
                    exact unhide HWAY7
                  · exact ⟨(unhide HCH7).os, (unhide HCH7).tape, (unhide HCH7).output, (unhide HCH7).size, (unhide HCH7).block⟩
                  · show (ws' ++ [(y, my)]).length ≤ s'.met0
                    have := (unhide HF).wl
                    rw [HW.out, List.length_append] at this
                    omega
                case measure =>
                  have h2 := HQ.out
                  have h3 := HWH.out
                  have h4 := HW0.out
                  omega
            · have hcI : ¬ (ly : Int) ≤ (lx : Int) := by omega
              have hcm : min (ly : Int) (lx : Int) = (lx : Int) := by omega
              refine region_tail 21 (by kernel_rfl) (by kernel_rfl) fun V hV => ?_
              simp only [List.take_succ_cons, List.take_zero, List.drop_succ_cons, List.drop_zero]
              have hVk : ∀ p, V.cell? p = wr.cell? p := fun p => by rw [← hV]; rfl
              have hVf : ∀ p, V.frozen? p = wr.frozen? p := fun p => by rw [← hV]; rfl
              have b2 : V.cell? ⟨X, 2, none⟩ = some (.slice (some ⟨gL, 0, none⟩) n n) := (hVk _).trans g2'
              have b3 : V.cell? ⟨gL, x, none⟩ = some (.int .i64 (lx : Int)) := (hVk _).trans glx
              have b4 : V.cell? ⟨gL, y, none⟩ = some (.int .i64 (ly : Int)) := (hVk _).trans gly
              have b5 : V.frozen? ⟨gL, y, none⟩ = false := (hVf _).trans fly
              have hwkV : Wk V X gM gL gP B n (.slice (some ⟨gG, 0, none⟩) n n) ov' s'.met s'.low s'.part s'.opn s'.met0 s'.all := by rw [← hV]; exact ((unhide HWK).drewN n1).drew
              have hwayV : V.ownsRow B 92 2 (.slice (some ⟨gw, 0, none⟩) (l + 1) cw) (l + 1) (fcells ((ws' ++ [(y, my)]) ++ [(x, k')])) := by rw [← hV]; exact unhide HWAY
              have hchV : Chg W V (Tn X gM gL gP B) := by rw [← hV]; exact ⟨(unhide HF).chg.os, (unhide HF).chg.tape, (unhide HF).chg.output, (unhide HF).chg.size, (unhide HF).chg.block⟩
              repeat still_step
              refine wpStill_nil ?_
              obtain ⟨W7, hW7⟩ : ∃ W7, V.setCell ⟨gL, y, none⟩ (.int .i64 (lx : Int)) = W7 := ⟨_, rfl⟩
              have hwk7 : Wk W7 X gM gL gP B n (.slice (some ⟨gG, 0, none⟩) n n) ov' s'.met (upf s'.low y lx) s'.part s'.opn s'.met0 s'.all := by rw [← hW7]; exact hwkV.setLow (unhide HP) y lx
              have hway7 : W7.ownsRow B 92 2 (.slice (some ⟨gw, 0, none⟩) l cw) l (fcells (ws' ++ [(y, my)])) := by
                have h0 := own_cut2 hwayV (k := l) (by omega)
                rw [show l * 2 = (ws' ++ [(y, my)]).length * 2 by rw [HL.out], fcells_cut] at h0
                rw [← hW7]
                exact (Chg.of_set V ⟨gL, y, none⟩ (.int .i64 (lx : Int))).own h0 (fun i hi e => by cases hi; exact HGW0.out.2.2.1 e)
              have hch7 : Chg W W7 (Tn X gM gL gP B) := by rw [← hW7]; exact hchV.set_ ⟨gL, y, none⟩ _ (fun _ => .inr (.inr (.inl rfl)))
              have r1 : W7.cell? ⟨X, 1, none⟩ = some (.slice (some ⟨gM, 0, none⟩) n n) := hwk7.blk.cell 1
              have r2 : W7.cell? ⟨X, 2, none⟩ = some (.slice (some ⟨gL, 0, none⟩) n n) := hwk7.blk.cell 2
              have r3 : W7.cell? ⟨gL, x, none⟩ = some (.int .i64 (lx : Int)) := by rw [← HLX.out]; exact (hwk7.bl.cell x).trans ((tab_at _ hxn).trans (by rw [upf_ne _ _ hxy]; rfl))
              have r4 : W7.cell? ⟨gM, x, none⟩ = some (.int .i64 (mx : Int)) := by rw [← HMX.out]; exact (hwk7.bm.cell x).trans (tab_at _ hxn)
              have HWK7 := hide hwk7
              have HWAY7 := hide hway7
              have HCH7 := hide hch7
              have HXY := Lib.hid hxy
              clear hwkV hwayV hchV hwk7 hway7 hch7 hVk hVf hV b2 b3 g1' g2' glx gmx gly fly cn cx c0 hrx cy hxy
              have hbI : ((lx : Int) == (mx : Int)) = false := by simp only [beq_eq_false_iff_ne, ne_eq]; omega
              go_wp2_with fail
              go_quiet (fail)
              obtain ⟨n2, rfl⟩ : ∃ n2, n2 = nq := ⟨nq, rfl⟩
              have hst := (unhide HF).inv.stay (ws := ws') (y := y) (m := my) (by rw [HW.out]; simp) HLA.out.symm (by rw [HLX.out, HMX.out]; omega)
              have HST := hide hst
              clear hst
              go_wp2_with fail
              go_roundg (2 * wh n s'.met + (ws' ++ [(y, my)]).length)
              case rel =>
                refine ⟨_, ⟨⟨ov', ?_⟩, ?_, unhide HST, (unhide HF).cnt, (unhide HF).all_, ?_, (unhide HF).old, (unhide HF).first, ?_⟩, rfl⟩
                · show Wk (W7.drewN n2) X gM gL gP B n _ ov' s'.met (upf s'.low y (min (s'.low y) (s'.low x))) s'.part s'.opn s'.met0 s'.all
                  rw [HLX.out, HLY.out, show min ly lx = lx by omega]
                  exact (unhide HWK7).drewN n2
                · show (W7.drewN n2).ownsRow B _ 2 _ (ws' ++ [(y, my)]).length (fcells (ws' ++ [(y, my)]))
                  rw [show (ws' ++ [(y, my)]).length = l from HL.out]
                  exact unhide HWAY7
                · exact ⟨(unhide HCH7).os, (unhide HCH7).tape, (unhide HCH7).output, (unhide HCH7).size, (unhide HCH7).block⟩
                · show (ws' ++ [(y, my)]).length ≤ s'.met0
                  have := (unhide HF).wl
                  rw [HW.out, List.length_append] at this
                  omega
              case measure =>
                have h2 := HQ.out
                have h3 := HWH.out
                have h4 := HW0.out
                omega
end Go.Proofs.Ytmcpbmadjpjckaa
