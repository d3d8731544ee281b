/-
  The parts of a graph: found: the walk over the Go text. Conditions: at most 65536 nodes, at most 1048576 edges.
-/
import Derived.Test.YtmcpbmadjpjckaaGrNet
import Derived.Test.YtmcpbmadjpjckaaGrFrom
import Derived.Deep.RegionWith
import Derived.Deep.CutRange
import Derived.Deep.CutBlock
import Derived.Deep.DeepCutAuto
import Derived.BigQuiet
namespace Go.Proofs.Ytmcpbmadjpjckaa
open Go.RowKit

/-- What stands when the search's memory is made. -/
structure FSt (W wx : World) (X gM gL gP gG n : Nat) (V : Nat → Value) (adj : Nat → List Nat) : Prop where
  blk : Blk wx X 79 #[.slice (some ⟨gG, 0, none⟩) n n, .slice (some ⟨gM, 0, none⟩) n n, .slice (some ⟨gL, 0, none⟩) n n, .slice (some ⟨gP, 0, none⟩) n n, .slice none 0 0, .int .i64 0, .int .i64 0]
  bm : Blk wx gM 3 (tab n fun _ => .int .i64 0)
  bl : Blk wx gL 3 (tab n fun _ => .int .i64 0)
  bp : Blk wx gP 3 (tab n fun _ => .int .i64 0)
  net : NetS wx gG (gG + 1) n V adj
  ne : gM ≠ gL ∧ gM ≠ gP ∧ gM ≠ X ∧ gL ≠ gP ∧ gL ≠ X ∧ gP ≠ X ∧ gG ≠ X ∧ gG ≠ gM ∧ gG ≠ gL ∧ gG ≠ gP
  far : ∀ u, u < n → ∀ b, (V u).ownBlock = some b → b ≠ X ∧ b ≠ gM ∧ b ≠ gL ∧ b ≠ gP
  bel : Below W.heap.size W wx
  new : W.heap.size ≤ X ∧ W.heap.size ≤ gM ∧ W.heap.size ≤ gL ∧ W.heap.size ≤ gP
theorem Blk.bel {W W' : World} {g : Nat} {t : TypeId} {cs : Array Value} (h : Blk W g t cs) (hb : Below W.heap.size W W') : Blk W' g t cs := h.below hb h.lt
theorem RowsS.alloc {W : World} {gG B n s : Nat} {tE e : TypeId} {V : Nat → Value} {len : Nat → Nat} {xs : Nat → List Value} (h : RowsS W gG B n tE e s V len xs) (o : Obj) : RowsS (W.alloc o) gG B n tE e s V len xs := h.below ((Below.refl _ _).alloc (Nat.le_refl _) o)
theorem Below.allo {B : Nat} {a w : World} (h : Below B a w) (o : Obj) (hz : B ≤ w.heap.size) : Below B a (w.alloc o) := h.alloc hz o
theorem NetM.of_rows {W : World} {gG B n : Nat} {V : Nat → Value} {adj : Nat → List Nat} {Nb : Nat → Prop} (h : NetS W gG B n V adj) (hG : Nb gG) (hV : ∀ u, u < n → ∀ b, (V u).ownBlock = some b → Nb b) : NetM W Nb gG n adj := by
  refine ⟨fun u hu => ?_, hG⟩
  have ho := h.own u hu
  obtain ⟨A, c, hv⟩ := ho.shape
  rw [hv] at ho
  refine ⟨A, c, ((h.blk.cell u).trans (tab_at _ hu)).trans (by rw [hv]), fun j t hj => ?_⟩
  have hl : 0 < (adj u).length := by have := (List.getElem?_eq_some_iff.1 hj).1; omega
  obtain ⟨g, cap, hv2, _, _⟩ := ho.form hl
  have hA : A = some ⟨g, 0, none⟩ := by injection hv2
  subst hA
  refine ⟨g, 0, rfl, hV u hu g (by rw [hv]; rfl), ?_⟩
  have := ho.cells (g := g) rfl j (iv t) (by rw [List.getElem?_map, hj]; rfl)
  have hadd : (⟨g, 0, none⟩ : Addr).add j = ⟨g, 0 + j, none⟩ := by unfold Addr.add; split <;> simp_all
  rwa [hadd] at this

theorem Blk.at_ {w : World} {g : Nat} {t : TypeId} {cs : Array Value} (h : w.heap.size = g) : Blk (w.alloc (.cells cs t)) g t cs := h ▸ Blk.new w t cs
theorem Reads.alloc' {w : World} {B size n : Nat} {A : Option Addr} {xs : List Value} (h : Reads w B size A n xs) (hB : B ≤ w.heap.size) (o : Obj) : Reads (w.alloc o) B size A n xs := h.alloc hB o
theorem Below.over {B : Nat} {a w w2 : World} (h : Below B a w) (hb : Below w.heap.size w w2) (hz : B ≤ w.heap.size) : Below B a w2 := h.trans (hb.mono hz)
theorem size_drew (w : World) : w.drew.heap.size = w.heap.size := rfl
/-- What is found: the part of each node, each part behind those that it leads to. -/
structure FOut (W W' : World) (gP n : Nat) (adj : Nat → List Nat) (part : Nat → Nat) (al : Nat) : Prop where
  blk : Blk W' gP 3 (tab n fun u => iv (part u))
  new : W.heap.size ≤ gP
  bel : Below W.heap.size W W'
  lt : ∀ u, u < n → part u < al
  le : ∀ u, u < n → ∀ t ∈ adj u, t < n ∧ part t ≤ part u
  same : ∀ u v, u < n → v < n → part u = part v → Rs adj u v
  aln : al ≤ n
  surj : ∀ p, p < al → ∃ u, u < n ∧ part u = p

theorem wh_all (k : Nat) : wh k (fun _ => 0) = k := by
  induction k with
  | zero => rfl
  | succ k ih => rw [wh_succ, ih, if_pos rfl]
theorem upf_below {α : Type} (k : Nat) (a b : α) (v : Nat) : (if v < k + 1 then a else b) = upf (fun v => if v < k then a else b) k a v := by
  unfold upf
  by_cases ev : v = k
  · rw [if_pos (by omega), if_pos ev]
  · rw [if_neg ev]
    by_cases ev2 : v < k
    · rw [if_pos (by omega)]; exact (if_pos ev2).symm
    · rw [if_neg (by omega)]; exact (if_neg ev2).symm
set_option maxRecDepth 100000 in
set_option maxHeartbeats 16000000 in
theorem found_any (W : World) (A : Option Addr) (m cap n B0 : Nat) (E : List (Int × Int × Int)) (hr : Reads W B0 3 A m (ecells E)) (hB0 : B0 ≤ W.heap.size) (hn : n ≤ 65536) (hm : m ≤ 1048576)
    (hE : ∀ e ∈ E, 0 ≤ e.1 ∧ e.1 < (n : Int) ∧ 0 ≤ e.2.1 ∧ e.2.1 < (n : Int)) :
    Calls Try.prog 28 #[.int .i64 (n : Int), .slice A m cap] W fun e W' => ∃ gP part al, e = .returned (.tuple #[.slice (some ⟨gP, 0, none⟩) n n, iv al]) ∧ FOut W W' gP n (adjOf E false) part al := by
  have HR := hide hr
  have HE := hide hE
  have hmk := fun w => make_ints w n (by omega)
  have hN := fun (w : World) (h : Reads w B0 3 A m (ecells E)) (hB : B0 ≤ w.heap.size) => hide (netOf_any w A m cap n B0 E false h hB hn hm hE)
  have HN := hide hN
  clear hr hE hN
  go_enter Try.func28, Try.ntmps28
  go_wp2
  go_cut [6] from 9 to 19 (fun t6 wx => ∃ X gM gL gP gG V, t6 = .pointer (some ⟨X, 0, none⟩) ∧ FSt W wx X gM gL gP gG n V (adjOf E false))
  case first =>
    go_region_with ((first
      | (go_at_call 31; (with_reducible refine (unhide (unhide HN _ (by repeat (first | with_reducible exact unhide HR | (with_reducible refine Reads.alloc' ?_ ?_ _; rotate_left; ((try simp only [World.size_alloc]) <;> omega)) | with_reducible refine Reads.drew ?_)) (by ((try simp only [World.size_alloc, size_drew]) <;> omega)))).mono ?_); rintro e w2 ⟨V, rfl, hs2, hb2⟩
         have HS2 := hide hs2
         have HB2 := hide hb2
         clear hs2 hb2)))
    all_goals
      go_wp2_with fail
      go_meet
      case rel =>
        have hs := unhide HS2
        have hb := unhide HB2
        have hz := hb.size
        simp only [World.size_alloc, size_drew] at hs hz
        have hgl := hs.blk.lt
        refine ⟨_, _, _, _, _, V, rfl, Blk.at_ (by (try simp only [World.size_alloc])), ?_, ?_, ?_, ?_, ?_, ?_, ?_, ?_⟩
        · repeat (first | (with_reducible refine Blk.at_ ?_; first | with_reducible rfl | ((try simp only [World.size_alloc]) <;> omega)) | with_reducible refine Blk.alloc ?_ _ | with_reducible refine Blk.bel ?_ hb | with_reducible refine Blk.drew ?_)
        · repeat (first | (with_reducible refine Blk.at_ ?_; first | with_reducible rfl | ((try simp only [World.size_alloc]) <;> omega)) | with_reducible refine Blk.alloc ?_ _ | with_reducible refine Blk.bel ?_ hb | with_reducible refine Blk.drew ?_)
        · repeat (first | (with_reducible refine Blk.at_ ?_; first | with_reducible rfl | ((try simp only [World.size_alloc]) <;> omega)) | with_reducible refine Blk.alloc ?_ _ | with_reducible refine Blk.bel ?_ hb | with_reducible refine Blk.drew ?_)
        · repeat (first | with_reducible exact hs | with_reducible refine RowsS.alloc ?_ _)
        · refine ⟨?_, ?_, ?_, ?_, ?_, ?_, ?_, ?_, ?_, ?_⟩ <;> omega
        · intro u hu b e
          have := (hs.own u hu).lt b e
          refine ⟨?_, ?_, ?_, ?_⟩ <;> omega
        · repeat (first | with_reducible exact Below.refl _ _ | (with_reducible refine Below.allo ?_ _ ?_; rotate_left; ((try simp only [World.size_alloc]) <;> omega)) | (with_reducible refine Below.over ?_ hb ?_; rotate_left; ((try simp only [World.size_alloc, size_drew]) <;> omega)) | with_reducible refine Below.drew ?_)
        · refine ⟨?_, ?_, ?_, ?_⟩ <;> omega
  case rest =>
    obtain ⟨X, gM, gL, gP, gG, V, rfl, hf⟩ := hcut
    obtain ⟨e1, e2, e3, e4, e5, e6, e7, e8, e9, e10⟩ := hf.ne
    have c3 : wc.cell? ⟨X, 3, none⟩ = some (.slice (some ⟨gP, 0, none⟩) n n) := hf.blk.cell 3
    have HF := hide hf
    clear hf
    go_wp2_with fail
    go_loopg [25] n (fun q t W' => ∃ k : Nat, t = .int .i64 (k : Int) ∧ k + q = n ∧ Blk W' gP 3 (tab n fun u => if u < k then .int .i64 (-1) else .int .i64 0) ∧ Chg wc W' (fun i => i = gP))
    case atStart => exact ⟨0, rfl, by omega, by simpa using (unhide HF).bp, Chg.refl _ _⟩
    case round =>
      obtain ⟨k, rfl, hkq, hbk, hch⟩ := hrel
      have hk0 : (0 : Int) ≤ (k : Int) := by omega
      by_cases hk : k < n
      · have hkm : (k : Int) < (n : Int) := by omega
        obtain ⟨gq, rfl⟩ : ∃ q, gk = q + 1 := ⟨gk - 1, by omega⟩
        have hx := hch.blk (unhide HF).blk (fun e => e6 e.symm)
        have x3 : wr.cell? ⟨X, 3, none⟩ = some (.slice (some ⟨gP, 0, none⟩) n n) := hx.cell 3
        have p0 : wr.cell? ⟨gP, k, none⟩ = some (.int .i64 0) := by rw [hbk.cell k, tab_at _ hk, if_neg (by omega)]
        have pf : wr.frozen? ⟨gP, k, none⟩ = false := hbk.frozen k
        have HB := hide hbk
        have HC := hide hch
        clear hx hbk hch
        go_wp2_with fail
        go_roundg gq
        case rel =>
          refine ⟨k + 1, by go_num, by omega, ?_, (unhide HC).set_ ⟨gP, k, none⟩ _ (fun _ => rfl)⟩
          have h := (unhide HB).set_ k (.int .i64 (-1))
          rw [tab_set] at h
          rw [tab_congr (upf_below k _ _)]
          exact h
        case measure => omega
      · obtain rfl : k = n := by omega
        obtain ⟨wo, rfl⟩ : ∃ wo : World, wo = wr := ⟨_, rfl⟩
        obtain ⟨B, hB⟩ : ∃ B, wo.heap.size = B := ⟨_, rfl⟩
        obtain ⟨adj, hadj⟩ : ∃ adj, adjOf E false = adj := ⟨_, rfl⟩
        rw [hadj] at HF
        have hx := hch.blk (unhide HF).blk (fun e => e6 e.symm)
        have hm0 := hch.blk (unhide HF).bm (fun e => e2 e)
        have hl0 := hch.blk (unhide HF).bl (fun e => e4 e)
        have hnet : NetS wo gG (gG + 1) k V adj := by
          refine ⟨hch.blk (unhide HF).net.blk (fun e => e10 e), fun u hu => hch.own ((unhide HF).net.own u hu) (fun i hi => ((unhide HF).far u hu i hi).2.2.2), (unhide HF).net.apart⟩
        have hp : Pl X gM gL gP B := ⟨e1, e2, e3, e4, e5, e6, hB ▸ hm0.lt, hB ▸ hl0.lt, hB ▸ hbk.lt, hB ▸ hx.lt⟩
        have hnm : NetM wo (Nt X gM gL gP B) gG k adj := NetM.of_rows hnet ⟨hB ▸ hnet.blk.lt, e7, e8, e9, e10⟩ (fun u hu b e => by
          obtain ⟨f1, f2, f3, f4⟩ := (unhide HF).far u hu b e
          exact ⟨hB ▸ ((hnet.own u hu).lt b e).2, f1, f2, f3, f4⟩)
        have hwk : Wk wo X gM gL gP B k (.slice (some ⟨gG, 0, none⟩) k k) (.slice none 0 0) (fun _ => 0) (fun _ => 0) (fun _ => none) [] 0 0 := by
          refine ⟨hx, hm0, hl0, ?_, ⟨rfl, .inl ⟨rfl, rfl⟩⟩⟩
          have : (tab k fun u => if u < k then Value.int .i64 (-1) else .int .i64 0) = tab k fun _ => pv none := by
            unfold tab
            congr 1
            apply List.map_congr_left
            intro u hu
            rw [if_pos (List.mem_range.1 hu)]
            rfl
          rw [← this]
          exact hbk
        have hinv : TInv k adj ⟨fun _ => 0, fun _ => 0, fun _ => none, [], [], 0, 0⟩ := TInv.start (fun u hu t ht => by
          rw [← hadj] at ht
          obtain ⟨e, he, h⟩ := List.mem_filterMap.1 ht
          have hh := unhide HE e he
          simp only [Bool.false_eq_true, if_false] at h
          split at h
          · injection h with h; omega
          · cases h)
        have hal : ∀ u, u < k → (adj u).length ≤ 1048576 := fun u hu => by
          rw [← hadj]
          have h1 := adjOf_len E false u
          have h2 := (unhide HR).1
          rw [ecells_len] at h2
          omega
        have hB2 := hide (show Below W.heap.size W wo from (unhide HF).bel.trans (hch.below (unhide HF).bel.size (fun i hi e => by have := (unhide HF).new.2.2.2; omega)))
        have hwh : wh k (fun _ => 0) = k := wh_all k
        have HWH := Lib.hid hwh
        have HP := hide hp
        have HNM := hide hnm
        have HWK := hide hwk
        have HINV := hide hinv
        have HAL := hide hal
        have HBS := Lib.hid hB
        have HNEW := hide (unhide HF).new
        have HADJ := Lib.hid hadj
        clear hx hm0 hl0 hnet hp hnm hwk hinv hal hwh hB hadj hbk hch HF hmk HN c3
        go_wp2_with fail
        go_loopg [36] k (fun q t W' => ∃ (i : Nat) (met low : Nat → Nat) (part : Nat → Option Nat) (ov : Value) (m0 al : Nat), t = .int .i64 (i : Int) ∧ i + q = k ∧ Wk W' X gM gL gP B k (.slice (some ⟨gG, 0, none⟩) k k) ov met low part [] m0 al ∧ TInv k adj ⟨met, low, part, [], [], m0, al⟩ ∧ (∀ v, v < i → met v ≠ 0) ∧ m0 + wh k met = k ∧ al ≤ m0 ∧ Chg wo W' (Tn X gM gL gP B))
        case atStart => exact ⟨0, _, _, _, _, 0, 0, rfl, by omega, unhide HWK, unhide HINV, by simp, by rw [HWH.out]; omega, Nat.le_refl _, Chg.refl _ _⟩
        case round =>
          obtain ⟨i, met, low, part, ov, m0, al, rfl, hiq, hwk, hinv, hmet, hcnt, hall, hch⟩ := hrel
          clear HWK HINV
          have hi0 : (0 : Int) ≤ (i : Int) := by omega
          have x1 : wr.cell? ⟨X, 1, none⟩ = some (.slice (some ⟨gM, 0, none⟩) k k) := hwk.blk.cell 1
          by_cases hi : i < k
          · have him : (i : Int) < (k : Int) := by omega
            obtain ⟨gq, rfl⟩ : ∃ q, gk = q + 1 := ⟨gk - 1, by omega⟩
            have y1 : wr.cell? ⟨gM, i, none⟩ = some (.int .i64 (met i : Int)) := (hwk.bm.cell i).trans (tab_at _ hi)
            by_cases hmi : met i = 0
            · have hmI : (met i : Int) = 0 := by omega
              have hF := hide (from_any wr X gM gL gP B k gG adj ov met low part m0 al i (unhide HP) ((unhide HNM).tn (by rw [HBS.out]; omega) hch) hwk hinv (by have := hch.size; have := HBS.out; omega) hi hmi hcnt hall hn (unhide HAL))
              have HWK := hide hwk
              have HME := hide hmet
              have HCH := hide hch
              clear hwk hinv hmet hch hcnt hall
              rw [hmI] at y1
              go_wp2_with fail
              refine (unhide hF).mono ?_
              rintro e w2 ⟨rfl, s, wv, hfr, hway⟩
              obtain ⟨ov2, hwk2⟩ := hfr.wk
              have ho2 := hfr.inv.empty hway
              have hinv2 := hfr.inv
              obtain ⟨smet, slow, spart, sopn, sway, sm0, sal⟩ := s
              simp only at hway ho2
              subst hway
              subst ho2
              have H2 := hide (And.intro hwk2 hinv2)
              have HFR := hide hfr
              clear hwk2 hinv2 hfr hF
              go_wp2_with fail
              go_roundg gq
              case rel => exact ⟨i + 1, smet, slow, spart, ov2, sm0, sal, by go_num, by omega, (unhide H2).1, (unhide H2).2, fun v hv => by
                by_cases ev : v = i
                · subst ev; exact (unhide HFR).first
                · exact (unhide HFR).old v (unhide HME v (by omega)), (unhide HFR).cnt, by have := (unhide HFR).all_; simpa using this, (unhide HCH).trans (unhide HFR).chg (fun _ _ h => h)⟩
              case measure => omega
            · have hmI : ¬ (met i : Int) = 0 := by omega
              have HWK := hide hwk
              have HINV := hide hinv
              have HME := hide hmet
              have HCH := hide hch
              have HCN := hide (And.intro hcnt hall)
              clear hwk hinv hmet hch hcnt hall
              go_wp2_with fail
              go_roundg gq
              case rel => exact ⟨i + 1, met, low, part, ov, m0, al, by go_num, by omega, unhide HWK, unhide HINV, fun v hv => by
                by_cases ev : v = i
                · subst ev; exact hmi
                · exact unhide HME v (by omega), (unhide HCN).1, (unhide HCN).2, unhide HCH⟩
              case measure => omega
          · obtain rfl : i = k := by omega
            have x3 : wr.cell? ⟨X, 3, none⟩ = some (.slice (some ⟨gP, 0, none⟩) i i) := hwk.blk.cell 3
            have x6 : wr.cell? ⟨X, 6, none⟩ = some (.int .i64 (al : Int)) := hwk.blk.cell 6
            have hpart : ∀ u, u < i → ∃ p, part u = some p := fun u hu => by
              rcases hp : part u with _ | p
              · exact absurd ((hinv.opn_iff u hu).2 ⟨hmet u hu, hp⟩) (by simp)
              · exact ⟨p, rfl⟩
            have hout : FOut W wr gP i adj (fun u => (part u).getD 0) al := by
              refine ⟨?_, (unhide HNEW).2.2.2, (unhide hB2).trans (hch.below (unhide hB2).size (fun j hj e => by
                have q := unhide HNEW
                rcases e with e | e | e | e | e
                · omega
                · omega
                · omega
                · omega
                · have := HBS.out; have := (unhide hB2).size; omega)), fun u hu => ?_, fun u hu t ht => ?_, fun u v hu hv e => ?_, by omega, fun p hp => ?_⟩
              · have : (tab i fun u => iv ((part u).getD 0)) = tab i fun u => pv (part u) := by
                  unfold tab
                  congr 1
                  apply List.map_congr_left
                  intro u hu
                  obtain ⟨p, hp⟩ := hpart u (List.mem_range.1 hu)
                  rw [hp]
                  rfl
                rw [this]
                exact hwk.bp
              · obtain ⟨p, hp⟩ := hpart u hu
                show (part u).getD 0 < al
                rw [hp]
                exact (hinv.closed u hu p hp).1
              · obtain ⟨p, hp⟩ := hpart u hu
                obtain ⟨q, hq, hqp⟩ := (hinv.closed u hu p hp).2 t ht
                refine ⟨hinv.adjn u hu t ht, ?_⟩
                show (part t).getD 0 ≤ (part u).getD 0
                simp only at hq
                rw [hp, hq]
                exact hqp
              · obtain ⟨p, hp⟩ := hpart u hu
                obtain ⟨q, hq⟩ := hpart v hv
                have e : (part u).getD 0 = (part v).getD 0 := e
                rw [hp, hq] at e
                have e : p = q := e
                exact hinv.same u v p hu hv hp (e ▸ hq)
              · obtain ⟨u, hu, hpu⟩ := hinv.surj p hp
                have hpu : part u = some p := hpu
                exact ⟨u, hu, by show (part u).getD 0 = p; rw [hpu]; rfl⟩
            have HO := hide hout
            clear hout hwk hinv hmet hcnt hall hch hpart
            go_wp2_with fail
            go_quiet (fail)
            go_wp2_with fail
            go_ret2
            rw [HADJ.out]
            have ho := unhide HO
            exact ⟨gP, _, al, rfl, ho.blk, ho.new, ⟨ho.bel.os, ho.bel.tape, ho.bel.output, ho.bel.size, ho.bel.block⟩, ho.lt, ho.le, ho.same, ho.aln, ho.surj⟩
end Go.Proofs.Ytmcpbmadjpjckaa
