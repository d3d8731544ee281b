/-
  GraphFalls: the walk over the law's text. Condition: at most 5864062014634 edges.
-/
import Derived.Test.YtmcpbmadjpjckaaGrFalls
import Derived.BigRegion
namespace Go.Proofs.Ytmcpbmadjpjckaa
open Go.RowKit

/-- Has an edge of the first ones a fall that is its weight. -/
def jst (D : Nat → Nat) (l : List (Int × Int × Int)) (u : Nat) : Bool := l.any fun e => e.1 == (u : Int) && D e.1.toNat == D e.2.1.toNat + e.2.2.toNat
theorem jst_snoc (D : Nat → Nat) (l : List (Int × Int × Int)) (f t g : Nat) (u : Nat) : Value.bool (jst D (l ++ [((f : Int), (t : Int), (g : Int))]) u) = upf (fun u => Value.bool (jst D l u)) f (.bool (jst D l f || D f == D t + g)) u := by
  unfold upf jst
  rw [List.any_append]
  by_cases h : u = f
  · subst h
    simp
  · have h2 : ¬ (f : Int) = (u : Int) := by omega
    rw [if_neg h]
    simp [h2]
theorem jst_tight {N : Nat} {E : List (Int × Int × Int)} {D : Nat → Nat} (h : IsDepth N E D) (hE : ∀ e ∈ E, okE (N : Int) e = true) {u : Nat} (hu : u < N) (hp : 0 < D u) : jst D E u = true := by
  obtain ⟨e, he, h1, h2⟩ := h.tight hu hp
  obtain ⟨f, t, g, rfl, hf, ht, hg⟩ := okE_parts (hE e he)
  simp only [Int.toNat_natCast] at h1 h2
  unfold jst
  refine List.any_eq_true.2 ⟨_, he, ?_⟩
  simp [h1, ← h2]
set_option maxRecDepth 100000 in
set_option maxHeartbeats 8000000 in
theorem graphFalls_walk (W : World) (n : Int) (Ae : Option Addr) (m ce : Nat) (E : List (Int × Int × Int)) (hr : Reads W W.heap.size 3 Ae m (ecells E)) (hm : m ≤ 5864062014634) :
    Calls Try.prog 5 #[.agg #[.int .i64 n, .slice Ae m ce]] W fun e W' => e = .returned (.bool true) ∧ Below W.heap.size W W' := by
  obtain ⟨W1, hW1⟩ : ∃ W1, W.alloc (.cells #[.int .i64 n, .slice Ae m ce] 24) = W1 := ⟨_, rfl⟩
  obtain ⟨x, hx⟩ : ∃ x, W.heap.size = x := ⟨_, rfl⟩
  have hb1 : Below W.heap.size W W1 := by rw [← hW1]; exact (Below.refl _ _).alloc (Nat.le_refl _) _
  have hx1 : Blk W1 x 24 #[.int .i64 n, .slice Ae m ce] := by rw [← hW1, ← hx]; exact Blk.new _ _ _
  have hr1 := hr.below hb1
  have hlen : E.length = m := by have := hr.1; rw [ecells_len] at this; omega
  have HL := Lib.hid hlen
  have HR := hide hr1
  have HX := hide hx1
  have HB1 := hide hb1
  have HXX := Lib.hid hx
  have hA := hide (awake_any W1)
  clear hr hb1 hx1 hr1 hlen
  go_enter Try.func5, Try.ntmps5
  go_wp2_with fail
  refine (unhide hA).mono ?_
  rintro e w0 ⟨rfl, hb0⟩
  have HXa := hide ((unhide HX).below hb0 (unhide HX).lt)
  have HBa := hide ((unhide HB1).trans (hb0.mono (unhide HB1).size))
  have HRa := hide ((unhide HR).below (hb0.mono (unhide HB1).size))
  have xa0 : w0.cell? ⟨x, 0, none⟩ = some (.int .i64 n) := (unhide HXa).cell 0
  have xa1 : w0.cell? ⟨x, 1, none⟩ = some (.slice Ae m ce) := (unhide HXa).cell 1
  clear hb0 HX HB1 HR hA hW1 hx
  have hG := hide (great_any w0 n Ae m ce W.heap.size E (unhide HRa) (unhide HBa).size (by omega))
  go_wp2_with fail
  refine (unhide hG).mono ?_
  rintro e w1 ⟨bg, rfl, hb2⟩
  have HXb := hide ((unhide HXa).below hb2 (unhide HXa).lt)
  have HBb := hide ((unhide HBa).trans (hb2.mono (unhide HBa).size))
  have HRb := hide ((unhide HRa).below (hb2.mono (unhide HBa).size))
  have xb0 : w1.cell? ⟨x, 0, none⟩ = some (.int .i64 n) := (unhide HXb).cell 0
  have xb1 : w1.cell? ⟨x, 1, none⟩ = some (.slice Ae m ce) := (unhide HXb).cell 1
  clear hb2 HXa HBa HRa xa0 xa1 hG
  cases bg with
  | true =>
    go_wp2_with fail
    go_ret
    exact ⟨rfl, unhide HBb⟩
  | false =>
    have hD := hide (edges_any w1 n Ae m ce W.heap.size E (unhide HRb) (unhide HBb).size (by omega))
    go_wp2_with fail
    refine (unhide hD).mono ?_
    rintro e w2 ⟨gl, cl, rfl, hel, hb2⟩
    have HX2 := hide ((unhide HXb).below hb2 (unhide HXb).lt)
    have HB2 := hide ((unhide HBb).trans (hb2.mono (unhide HBb).size))
    have HR2 := hide ((unhide HRb).below (hb2.mono (unhide HBb).size))
    have hre : Reads w2 w2.heap.size 3 (some ⟨gl, 0, none⟩) m (ecells E) := by
      have h := Reads.of_own hel
      rw [ecells_app] at h
      exact h.front3 (by rw [ecells_len, HL.out])
    have HRE := hide hre
    have x20 : w2.cell? ⟨x, 0, none⟩ = some (.int .i64 n) := (unhide HX2).cell 0
    have x21 : w2.cell? ⟨x, 1, none⟩ = some (.slice Ae m ce) := (unhide HX2).cell 1
    have hF := hide (depths_falls w2 n _ m cl _ E hre (Nat.le_refl _) (by omega))
    clear hb2 hel hre HXb HBb HRb xb0 xb1 hD
    go_wp2_with fail
    refine (unhide hF).mono ?_
    rintro e w3 ⟨hb3, hout⟩
    have HX3 := hide ((unhide HX2).below hb3 (unhide HX2).lt)
    have HB3 := hide ((unhide HB2).trans (hb3.mono (unhide HB2).size))
    have HR3 := hide ((unhide HR2).below (hb3.mono (unhide HB2).size))
    have HRE3 := hide (((unhide HRE).below hb3).more hb3.size)
    have x30 : w3.cell? ⟨x, 0, none⟩ = some (.int .i64 n) := (unhide HX3).cell 0
    have x31 : w3.cell? ⟨x, 1, none⟩ = some (.slice Ae m ce) := (unhide HX3).cell 1
    have hz23 := hb3.size
    clear hb3 HX2 HB2 HR2 x20 x21 hF HRE
    rcases hout with ⟨h1, h100, rfl⟩ | ⟨h0, rfl, i0, e0, he0, hw0, hrs⟩ | ⟨h0, N, D, g, hN, hisd, hDb, rfl, hg, hblk⟩
    · obtain ⟨ck, hck⟩ : ∃ c, chkS n E = c := ⟨_, rfl⟩
      rw [hck] at h1 h100
      have hK := hide (refused_any w3 n Ae m ce W.heap.size E (unhide HR3) (unhide HB3).size hm ck hck h1)
      have hb100 : (ck == 100) = false := by simpa using h100
      have hb0 : (ck != 0) = true := by simpa using h1
      rw [hck]
      clear hck
      go_wp2_with fail
      refine (unhide hK).mono ?_
      rintro e w4 ⟨rfl, hb4⟩
      have HB4 := hide ((unhide HB3).trans (hb4.mono (unhide HB3).size))
      clear hb4
      go_wp2_with fail
      go_ret
      exact ⟨rfl, unhide HB4⟩
    · have hE := hide (chk_ok h0).2.2.2
      have HE0 := hide he0
      have HRS := hide hrs
      have HW0 := hide hw0
      have H0 := hide h0
      have hi0m : i0 < m := by
        have := (List.getElem?_eq_some_iff.1 he0).1
        have := HL.out
        omega
      clear he0 hrs hw0 h0
      go_wp2_with fail
      go_loopg [6, 7, 8] m (fun q ti t7 t8 W' => ∃ i : Nat, ti = .int .i64 (i : Int) ∧ i + q = m ∧ i ≤ i0 ∧ Below w3.heap.size w3 W')
      case atStart => exact ⟨0, rfl, by omega, by omega, Below.refl _ _⟩
      case round =>
        obtain ⟨i, rfl, hiq, hii, hb⟩ := hrel
        have hi0 : (0 : Int) ≤ (i : Int) := by omega
        have hiI : (i : Int) < (m : Int) := by omega
        obtain ⟨gq, rfl⟩ : ∃ q, gk = q + 1 := ⟨gk - 1, by omega⟩
        have hrer := (unhide HRE3).below hb
        obtain ⟨f, t, gw, he, c1, c2, c3⟩ := hrer.edge0 (k := i) (by omega)
        have hxr := (unhide HX3).below hb (unhide HX3).lt
        have xr0 : wr.cell? ⟨x, 0, none⟩ = some (.int .i64 n) := hxr.cell 0
        have xra : ∀ o, (wr.alloc o).cell? ⟨x, 0, none⟩ = some (.int .i64 n) := fun o => (hxr.alloc o).cell 0
        have hok := unhide hE _ (List.mem_of_getElem? he)
        have HOK := hide hok
        have HEI := hide he
        have HBR := hide hb
        have HXR := hide hxr
        have HRR := hide hrer
        have hRc := hide (fun (w : World) (gq : Nat) (h1 : Blk w gq 3 #[.int .i64 t]) (h2 : Below wr.heap.size wr w) => hide (reach_one wr w h2 n (some ⟨gl, 0, none⟩) m cl w3.heap.size gq E t h1 (hrer.below (h2.mono hb.size)) (Nat.le_trans hb.size h2.size) (by omega) (unhide H0) (by have := of_decide_eq_true hok; simp only at this; omega)))
        clear he hok hb hxr hrer HRE3
        go_wp2_with fail
        go_cut [7, 8] from 35 to 47 (fun t7 t8 wx => ∃ (A' : Option Addr) (k c : Nat), t7 = .slice A' k c ∧ t8 = .int .i64 0 ∧ RowI wx (.slice A' k c) ((rchL n.toNat (adjOf E false) [t.toNat]).map fun u : Nat => (u : Int)) ∧ Below wr.heap.size wr wx)
        case first =>
          (go_region_with ((first
            | (go_at_call 11; (with_reducible refine (unhide ((unhide hRc) _ _ (by repeat (first | (with_reducible refine Blk.at_ ?_; first | with_reducible rfl | ((try simp only [World.size_alloc, size_drew]) <;> omega)) | with_reducible refine Blk.drew ?_)) (by repeat (first | exact Below.refl _ _ | with_reducible refine Below.drew ?_ | (with_reducible refine Below.alloc ?_ ?_ _; rotate_left; ((try simp only [World.size_alloc, size_drew]) <;> omega)))))).mono ?_); rintro e w8 ⟨A8, k8, c8, rfl, hrow8, hb8⟩
               have HROW8 := hide hrow8
               have HB8 := hide hb8
               clear hrow8 hb8))))
          all_goals
            go_wp2_with fail
            go_meet
            case rel => exact ⟨A8, k8, c8, rfl, rfl, unhide HROW8, unhide HB8⟩
        case rest =>
          obtain ⟨A8, k8, c8, rfl, rfl, hrow8, hb8⟩ := hcut
          have HB8 := hide ((unhide HBR).trans (hb8.mono (unhide HBR).size))
          obtain ⟨f', t', gw', he', d1, d2, d3⟩ := ((unhide HRR).below (hb8.mono (unhide HBR).size)).edge0 (k := i) (by omega)
          have hee := he'.symm.trans (unhide HEI)
          injection hee with hee
          injection hee with e1 hee
          injection hee with e2 e3
          subst e1 e2 e3
          have hlast : i = i0 → 0 < gw' ∧ f' ∈ (rchL n.toNat (adjOf E false) [t'.toNat]).map (fun u : Nat => (u : Int)) := fun e => by
            subst e
            have h := (unhide HE0).symm.trans (unhide HEI)
            injection h with h
            have hw := unhide HW0
            have hrs := unhide HRS
            rw [h] at hw hrs
            have hok := of_decide_eq_true (unhide HOK)
            simp only at hok hw hrs
            refine ⟨hw, List.mem_map.2 ⟨f'.toNat, rch_in (by omega) ⟨_, List.mem_singleton.2 rfl, hrs⟩, by omega⟩⟩
          have HLAST := hide hlast
          have hwi := hide (within_one wc A8 k8 c8 _ f' hrow8)
          clear hRc c1 c2 c3 xra xr0 he' hlast hrow8 hb8 HRR HXR HOK d2
          by_cases hgw : 0 < gw'
          · have hgwI : decide ((0 : Int) < gw') = true := decide_eq_true hgw
            clear hgw
            go_wp2_with fail
            refine (unhide hwi).mono ?_
            rintro e w9 ⟨r, rfl, hr, hb9⟩
            have HB9 := hide ((unhide HB8).trans (hb9.mono (unhide HB8).size))
            cases r with
            | true =>
              clear hr hb9
              go_wp2_with fail
              go_ret
              exact ⟨rfl, (unhide HB3).trans ((unhide HB9).mono (unhide HB3).size)⟩
            | false =>
              have hne : i ≠ i0 := fun e => by
                have := hr ((unhide HLAST) e).2 (rch_pw _ _ _)
                cases this
              clear hr hb9
              go_wp2_with fail
              go_roundg gq
              case rel => exact ⟨i + 1, by go_num, by omega, by omega, unhide HB9⟩
              case measure => omega
          · have hne : i ≠ i0 := fun e => hgw ((unhide HLAST) e).1
            have hgwI : decide ((0 : Int) < gw') = false := decide_eq_false hgw
            clear hgw
            go_wp2_with fail
            go_roundg gq
            case rel => exact ⟨i + 1, by go_num, by omega, by omega, unhide HB8⟩
            case measure => omega
    · subst hN
      have hE := hide (chk_ok h0).2.2.2
      have hN6 : N ≤ 65536 := by have := (chk_ok h0).1; omega
      have HIS := hide hisd
      have HDB := hide hDb
      have HD := hide hblk
      have hgl := hblk.lt
      obtain ⟨gj, hgj⟩ : ∃ g, w3.heap.size = g := ⟨_, rfl⟩
      obtain ⟨w4, hw4⟩ : ∃ w, w3.alloc (.cells (tab N fun _ => .bool false) 4) = w := ⟨_, rfl⟩
      have hb4 : Below gj w3 w4 := by rw [← hw4, ← hgj]; exact (Below.refl _ _).alloc (Nat.le_refl _) _
      have hj4 : Blk w4 gj 4 (tab N fun _ => .bool false) := by rw [← hw4, ← hgj]; exact Blk.new _ _ _
      have HB4 := hide hb4
      have HJ4 := hide hj4
      have HGJ := Lib.hid hgj
      have hmk := fun w => make_bools w N (by omega)
      have hN0 : (0 : Int) ≤ (N : Int) := by omega
      clear h0 hisd hDb hblk hb4 hj4
      go_wp2_with fail
      clear hmk hw4 x30 x31
      go_loopg [10, 11, 12] m (fun q ti t11 t12 W' => ∃ i : Nat, ti = .int .i64 (i : Int) ∧ i + q = m ∧ Blk W' gj 4 (tab N fun u => .bool (jst D (E.take i) u)) ∧ Below gj w3 W')
      case atStart => exact ⟨0, rfl, by omega, unhide HJ4, unhide HB4⟩
      case round =>
        clear HB4 HJ4
        obtain ⟨i, rfl, hiq, hj, hb⟩ := hrel
        have hi0 : (0 : Int) ≤ (i : Int) := by omega
        have hb' : Below w3.heap.size w3 wr := HGJ.out ▸ hb
        have hxr := (unhide HX3).below hb' (unhide HX3).lt
        have xr0 : wr.cell? ⟨x, 0, none⟩ = some (.int .i64 (N : Int)) := hxr.cell 0
        have hdr := (unhide HD).below hb' hgl
        by_cases hi : i < m
        · have hiI : (i : Int) < (m : Int) := by omega
          obtain ⟨gq, rfl⟩ : ∃ q, gk = q + 1 := ⟨gk - 1, by omega⟩
          obtain ⟨f, t, gw, he, c1, c2, c3⟩ := ((unhide HRE3).below hb').edge0 hi
          obtain ⟨f, t, gw, hcs, hf, ht, hgw⟩ := okE_parts (unhide hE _ (List.mem_of_getElem? he))
          cases hcs
          have hfall := (unhide HIS).fall _ (List.mem_of_getElem? he)
          simp only [Int.toNat_natCast] at hfall
          have hsn := jst_snoc D (E.take i) f t gw
          have htk : E.take (i + 1) = E.take i ++ [((f : Int), (t : Int), (gw : Int))] := by rw [List.take_add_one, he]; rfl
          obtain ⟨df, hdf⟩ : ∃ d, D f = d := ⟨_, rfl⟩
          obtain ⟨dt, hdt⟩ : ∃ d, D t = d := ⟨_, rfl⟩
          obtain ⟨J, hJ⟩ : ∃ b, jst D (E.take i) f = b := ⟨_, rfl⟩
          have hbf := unhide HDB f hf
          have hbt := unhide HDB t ht
          rw [hdf, hdt] at hfall
          rw [hdf, hdt, hJ] at hsn
          rw [hdf] at hbf
          rw [hdt] at hbt
          have k1 : wr.cell? ⟨g, f, none⟩ = some (.int .i64 (df : Int)) := by rw [← hdf]; exact (hdr.cell f).trans (tab_at _ hf)
          have k2 : wr.cell? ⟨g, t, none⟩ = some (.int .i64 (dt : Int)) := by rw [← hdt]; exact (hdr.cell t).trans (tab_at _ ht)
          have k3 : wr.cell? ⟨gj, f, none⟩ = some (.bool J) := by rw [← hJ]; exact (hj.cell f).trans (tab_at _ hf)
          obtain ⟨sm, hsm⟩ : ∃ z, dt + gw = z := ⟨_, rfl⟩
          have hsw : IntKind.i64.wrap ((dt : Int) + (gw : Int)) = (sm : Int) := by rw [IntWalk.i64_in _ (by omega)]; omega
          rw [hsm] at hfall hsn
          have hnlt : ¬ (df : Int) < (sm : Int) := by omega
          have hf0 : (0 : Int) ≤ (f : Int) := by omega
          have ht0 : (0 : Int) ≤ (t : Int) := by omega
          have hfI : (f : Int) < (N : Int) := by omega
          have htI : (t : Int) < (N : Int) := by omega
          have HSN := hide hsn
          have HTK := Lib.hid htk
          have HBJ := hide hj
          have HBB := hide hb
          clear he hdf hdt hJ hsn htk hj hb hb' hxr hdr hsm hE HIS HDB HD
          go_wp2_with fail
          go_quiet (fail)
          rename_i nq
          go_wp2_with fail
          have q1 : (wr.drewN nq).cell? ⟨gl, i * 3, none⟩ = some (.int .i64 (f : Int)) := c1
          have q3 : (wr.drewN nq).cell? ⟨gj, f, none⟩ = some (.bool J) := k3
          have q4 : (wr.drewN nq).frozen? ⟨gj, f, none⟩ = false := ((unhide HBJ).drewN nq).frozen _
          have HBJ2 := hide ((unhide HBJ).drewN nq)
          have HBB2 := hide (below_drewN (unhide HBB) nq)
          obtain ⟨wd, hwd⟩ : ∃ w, wr.drewN nq = w := ⟨_, rfl⟩
          rw [hwd] at q1 q3 q4 HBJ2 HBB2 ⊢
          clear hwd c1 c2 c3 k1 k2 k3 xr0 HBJ HBB hsw hnlt
          have fin : ∀ (b : Bool) (w' : World), b = (J || df == sm) → w' = (wd.setCell ⟨gj, f, none⟩ (.bool b)).drew → Blk w' gj 4 (tab N fun u => .bool (jst D (E.take (i + 1)) u)) ∧ Below gj w3 w' := fun b w' hb hw => by
            subst hw hb
            rw [HTK.out]
            exact ⟨((unhide HBJ2).set_tab f _ (unhide HSN)).drew, ((unhide HBB2).setCell (Nat.le_refl _) _).drew⟩
          have FIN := hide fin
          clear fin HBJ2 HBB2 HTK HSN
          cases J with
          | true =>
            go_region
            all_goals
              go_wp2_with fail
              go_roundg gq
              case rel => exact ⟨i + 1, by go_num, by omega, (unhide FIN) true _ (by simp) rfl⟩
              case measure => omega
          | false =>
            by_cases hab : df = sm
            · subst hab
              go_region
              all_goals
                go_wp2_with fail
                go_roundg gq
                case rel => exact ⟨i + 1, by go_num, by omega, (unhide FIN) true _ (by simp) rfl⟩
                case measure => omega
            · have habI : ((df : Int) == (sm : Int)) = false := by simp; omega
              go_region
              all_goals
                go_wp2_with fail
                go_roundg gq
                case rel => exact ⟨i + 1, by go_num, by omega, (unhide FIN) false _ (by simpa using hab) rfl⟩
                case measure => omega
        · obtain rfl : i = m := by omega
          have htl : E.take i = E := List.take_of_length_le (by have := HL.out; omega)
          rw [htl] at hj
          have HJF := hide hj
          have HBF := hide hb'
          have HBG := hide hb
          have HDR := hide hdr
          have HXR := hide hxr
          clear hj hb hb' hdr hxr htl
          go_wp2_with fail
          go_loopg [13] N (fun q tu W' => ∃ u : Nat, tu = .int .i64 (u : Int) ∧ u + q = N ∧ wr = W')
          case atStart => exact ⟨0, rfl, by omega, rfl⟩
          case round =>
            obtain ⟨u, rfl, huq, rfl⟩ := hrel
            have hu0 : (0 : Int) ≤ (u : Int) := by omega
            by_cases hu : u < N
            · have huI : (u : Int) < (N : Int) := by omega
              obtain ⟨gq, rfl⟩ : ∃ q, gk = q + 1 := ⟨gk - 1, by omega⟩
              obtain ⟨du, hdu⟩ : ∃ d, D u = d := ⟨_, rfl⟩
              obtain ⟨J, hJ⟩ : ∃ b, jst D E u = b := ⟨_, rfl⟩
              have k1 : wr.cell? ⟨g, u, none⟩ = some (.int .i64 (du : Int)) := by rw [← hdu]; exact ((unhide HDR).cell u).trans (tab_at _ hu)
              have k3 : wr.cell? ⟨gj, u, none⟩ = some (.bool J) := by rw [← hJ]; exact ((unhide HJF).cell u).trans (tab_at _ hu)
              have hnn : ¬ (du : Int) < 0 := by omega
              by_cases hpos : 0 < du
              · obtain rfl : J = true := by rw [← hJ]; exact jst_tight (unhide HIS) (unhide hE) hu (by omega)
                have hposI : decide ((0 : Int) < (du : Int)) = true := decide_eq_true (by omega)
                clear hdu hJ
                go_wp2_with fail
                go_roundg gq
                case rel => exact ⟨u + 1, by go_num, by omega, rfl⟩
                case measure => omega
              · have hposI : decide ((0 : Int) < (du : Int)) = false := decide_eq_false (by omega)
                clear hdu hJ
                go_wp2_with fail
                go_roundg gq
                case rel => exact ⟨u + 1, by go_num, by omega, rfl⟩
                case measure => omega
            · obtain rfl : u = N := by omega
              go_wp2_with fail
              go_ret
              exact ⟨rfl, (unhide HB3).trans ((unhide HBF).mono (unhide HB3).size)⟩
end Go.Proofs.Ytmcpbmadjpjckaa
