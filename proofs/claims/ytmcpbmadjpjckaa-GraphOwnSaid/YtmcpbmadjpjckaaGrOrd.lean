/-
  The order of a graph: round, Order: the walks over the Go text.
-/
import Derived.Test.YtmcpbmadjpjckaaGrParW
namespace Go.Proofs.Ytmcpbmadjpjckaa
open Go.RowKit

/-- Does an edge lead from a node to itself? -/
def selfB (E : List (Int × Int × Int)) : Bool := E.any fun e => e.1 == e.2.1
/-- Is there a round? -/
def rdB (part : Nat → Nat) (N : Nat) (os : List Nat) (E : List (Int × Int × Int)) : Bool := (os.any fun p => decide (1 < (nds part N p).length)) || selfB E
theorem rnd1_any (w : World) (f t g : Int) : Calls Try.prog 46 #[.agg #[.int .i64 f, .int .i64 t, .int .i64 g]] w fun e w' => e = .returned (.bool (f == t)) ∧ Below w.heap.size w w' := by
  by_cases h : f = t
  · subst h
    go_enter Try.func46, Try.ntmps46
    go_wp2_with fail
    go_ret
    exact ⟨by simp, (Below.refl _ _).alloc (Nat.le_refl _) _⟩
  · have hb : (f == t) = false := by simpa using h
    go_enter Try.func46, Try.ntmps46
    go_wp2_with fail
    go_ret
    exact ⟨by rw [hb]; rfl, (Below.refl _ _).alloc (Nat.le_refl _) _⟩
def IdxE (E : List (Int × Int × Int)) (w : World) (e : Ending) (w' : World) : Prop := ∃ r : Int, e = .returned (.int .i64 r) ∧ decide (0 ≤ r) = selfB E ∧ Below w.heap.size w w'
set_option maxHeartbeats 1000000 in
theorem idxE_any (w : World) (A : Option Addr) (m cap B0 : Nat) (E : List (Int × Int × Int)) (hr : Reads w B0 3 A m (ecells E)) (hB0 : B0 ≤ w.heap.size) (hm : m ≤ 140737488355328) :
    Calls Try.prog 50 #[.slice A m cap, .func (.func 46) #[] #[]] w (IdxE E w) := by
  have hl : E.length = m := by have := hr.1; rw [ecells_len] at this; omega
  have HL := Lib.hid hl
  have HR := hide hr
  clear hr hl
  go_enter Try.func50, Try.ntmps50
  go_wp2_with fail
  go_loopg [8] m (fun q t W' => ∃ k : Nat, t = .int .i64 (k : Int) ∧ k + q = m ∧ Below w.heap.size w W' ∧ selfB (E.take k) = false)
  case atStart => exact ⟨0, rfl, by omega, Below.refl _ _, by simp [selfB]⟩
  case round =>
    obtain ⟨k, rfl, hkq, hb, hno⟩ := hrel
    have HNO := Lib.hid hno
    have hk0 : (0 : Int) ≤ (k : Int) := by omega
    by_cases hk : k < m
    · have hkI : (k : Int) < (m : Int) := by omega
      obtain ⟨gq, rfl⟩ : ∃ q, gk = q + 1 := ⟨gk - 1, by omega⟩
      obtain ⟨b, off, f, t, g, rfl, hbB, he, c1, c2, c3⟩ := ((unhide HR).below (hb.mono hB0)).edge hk
      have hsn : E.take (k + 1) = E.take k ++ [(f, t, g)] := by rw [List.take_add_one, he, Option.toList_some]
      have hci := hide (rnd1_any wr f t g)
      have HSN := Lib.hid hsn
      have HM := hide (List.mem_of_getElem? he)
      have HB := hide hb
      clear hb hno he hsn
      obtain ⟨ob, hob⟩ : ∃ b, (f == t) = b := ⟨_, rfl⟩
      rw [hob] at hci
      have HOB := Lib.hid hob
      clear hob
      cases ob with
      | true =>
        go_wp2_with fail
        refine (unhide hci).mono ?_
        rintro e w' ⟨rfl, hb'⟩
        have HB2 := hide ((unhide HB).trans (hb'.mono (unhide HB).size))
        clear hb' hci
        go_wp2_with fail
        go_ret
        refine ⟨k, rfl, ?_, unhide HB2⟩
        rw [decide_eq_true hk0]
        exact (List.any_eq_true.2 ⟨_, unhide HM, HOB.out⟩).symm
      | false =>
        go_wp2_with fail
        refine (unhide hci).mono ?_
        rintro e w' ⟨rfl, hb'⟩
        have HB2 := hide ((unhide HB).trans (hb'.mono (unhide HB).size))
        clear hb' hci
        go_wp2_with fail
        go_roundg gq
        case rel => exact ⟨k + 1, by go_num, by omega, unhide HB2, by
          have h := HNO.out
          unfold selfB at h ⊢
          rw [HSN.out, List.any_append, h]
          simp [HOB.out]⟩
        case measure => omega
    · obtain rfl : k = m := by omega
      have HB := hide hb
      clear hb hno
      go_wp2_with fail
      go_ret
      refine ⟨-1, rfl, ?_, unhide HB⟩
      have := HNO.out
      rw [List.take_of_length_le (by have := HL.out; omega)] at this
      rw [this]
      rfl
theorem containsE_any (w : World) (A : Option Addr) (m cap B0 : Nat) (E : List (Int × Int × Int)) (hr : Reads w B0 3 A m (ecells E)) (hB0 : B0 ≤ w.heap.size) (hm : m ≤ 140737488355328) :
    Calls Try.prog 45 #[.slice A m cap, .func (.func 46) #[] #[]] w fun e w' => e = .returned (.bool (selfB E)) ∧ Below w.heap.size w w' := by
  have hI := hide (idxE_any w A m cap B0 E hr hB0 hm)
  clear hr
  go_enter Try.func45, Try.ntmps45
  go_wp2_with fail
  refine (unhide hI).mono ?_
  rintro e w' ⟨r, rfl, hr, hb⟩
  have HR := Lib.hid hr
  have HB := hide hb
  clear hr hb hI
  go_wp2_with fail
  go_ret
  exact ⟨by rw [← HR.out]; rfl, unhide HB⟩
section
variable {W : World} {part : Nat → Nat} {N B1 : Nat} {os : List Nat} {v : Value} {V : Nat → Value}
set_option maxHeartbeats 1000000 in
theorem round_any (ho : W.ownsRow B1 25 1 v os.length (os.map V)) (hV : ∀ p ∈ os, ∃ A c, V p = .slice A (nds part N p).length c) (hol : os.length ≤ 65536) (A : Option Addr) (m cap B0 : Nat) (E : List (Int × Int × Int)) (hr : Reads W B0 3 A m (ecells E)) (hB0 : B0 ≤ W.heap.size) (hm : m ≤ 140737488355328) :
    Calls Try.prog 37 #[v, .slice A m cap] W fun e W' => e = .returned (.bool (rdB part N os E)) ∧ Below W.heap.size W W' := by
  obtain ⟨L, hL⟩ : ∃ L, os.length = L := ⟨_, rfl⟩
  rw [hL] at ho hol
  obtain ⟨Av, cv, rfl⟩ := ho.shape
  have hCE := hide (containsE_any W A m cap B0 E hr hB0 hm)
  have HO := hide ho
  have HV := hide hV
  have HL := Lib.hid hL
  clear ho hV hr hL
  go_enter Try.func37, Try.ntmps37
  go_wp2_with fail
  go_loopg [9] L (fun q t W' => ∃ k : Nat, t = .int .i64 (k : Int) ∧ k + q = L ∧ W = W' ∧ ∀ p ∈ os.take k, (nds part N p).length ≤ 1)
  case atStart => exact ⟨0, rfl, by omega, rfl, by simp⟩
  case round =>
    obtain ⟨k, rfl, hkq, rfl, hno⟩ := hrel
    have hk0 : (0 : Int) ≤ (k : Int) := by omega
    by_cases hk : k < L
    · have hkI : (k : Int) < (L : Int) := by omega
      obtain ⟨gq, rfl⟩ : ∃ q, gk = q + 1 := ⟨gk - 1, by omega⟩
      obtain ⟨g, cap', hv, _, _, _⟩ := own_form (unhide HO) (by omega)
      obtain ⟨rfl, rfl⟩ : Av = some ⟨g, 0, none⟩ ∧ cv = cap' := by cases hv; exact ⟨rfl, rfl⟩
      obtain ⟨p, hp⟩ : ∃ p, os[k]? = some p := ⟨_, List.getElem?_eq_getElem (by rw [HL.out]; exact hk)⟩
      obtain ⟨Ap, cp, hvp⟩ := unhide HV p (List.mem_of_getElem? hp)
      obtain ⟨lp, hlp⟩ : ∃ l, (nds part N p).length = l := ⟨_, rfl⟩
      rw [hlp] at hvp
      have c1 : W.cell? ⟨g, k, none⟩ = some (.slice Ap lp cp) := by rw [own_cell (unhide HO) hk, List.getElem?_map, hp, ← hvp]; rfl
      have hsn : os.take (k + 1) = os.take k ++ [p] := by rw [List.take_add_one, hp, Option.toList_some]
      have HSN := Lib.hid hsn
      have HLP := Lib.hid hlp
      have HMEM := hide (List.mem_of_getElem? hp)
      have HNO := hide hno
      clear hv hp hvp hlp hsn hno
      by_cases hgt : 1 < lp
      · have hgI : (1 : Int) < (lp : Int) := by omega
        go_wp2_with fail
        go_ret
        refine ⟨?_, Below.refl _ _⟩
        have : rdB part N os E = true := by
          unfold rdB
          rw [Bool.or_eq_true]
          exact .inl (List.any_eq_true.2 ⟨p, unhide HMEM, by rw [HLP.out]; exact decide_eq_true hgt⟩)
        rw [this]; rfl
      · have hgI : ¬ (1 : Int) < (lp : Int) := by omega
        go_wp2_with fail
        go_roundg gq
        case rel => exact ⟨k + 1, by go_num, by omega, rfl, fun q hq => by
          rw [HSN.out, List.mem_append, List.mem_singleton] at hq
          rcases hq with hq | rfl
          · exact unhide HNO q hq
          · rw [HLP.out]; omega⟩
        case measure => omega
    · obtain rfl : k = L := by omega
      rw [List.take_of_length_le (by have := HL.out; omega)] at hno
      have HNO := hide hno
      clear hno
      go_wp2_with fail
      refine (unhide hCE).mono ?_
      rintro e w' ⟨rfl, hb⟩
      have HB := hide hb
      clear hb hCE
      go_wp2_with fail
      go_ret
      refine ⟨?_, unhide HB⟩
      have : rdB part N os E = selfB E := by
        unfold rdB
        rw [show (os.any fun p => decide (1 < (nds part N p).length)) = false from List.any_eq_false.2 fun p hp => by have := unhide HNO p hp; simp; omega]
        simp
      rw [this]; rfl
end
theorem own_readsO {W : World} {base k c : Nat} {e : TypeId} {A : Option Addr} {xs : List Value} (h : W.ownsRow base e 1 (.slice A k c) k xs) : Reads W W.heap.size 1 A k xs := Reads.of_own h
/-- What Order answers. -/
def OrdOut (W : World) (n : Int) (E : List (Int × Int × Int)) (e : Ending) (W' : World) : Prop :=
  Below W.heap.size W W' ∧ ((chkS n E ≠ 0 ∧ e = .returned (.tuple #[.slice none 0 0, .int .i64 (chkS n E)])) ∨
   (chkS n E = 0 ∧ ∃ (N : Nat) (part : Nat → Nat) (al : Nat) (os : List Nat), n = (N : Int) ∧ Parts N (adjOf E false) part al ∧ (∀ p, p < al → ∃ u, u < N ∧ part u = p) ∧ PSpec part E al (fstN part N) os ∧ (∀ p, p < al → p ∈ os) ∧
    ((rdB part N os E = true ∧ e = .returned (.tuple #[.slice none 0 0, .int .i64 100])) ∨
     (rdB part N os E = false ∧ ∃ v, e = .returned (.tuple #[v, .int .i64 0]) ∧ W'.ownsRow W.heap.size 3 1 v (os.flatMap (nds part N)).length ((os.flatMap (nds part N)).map iv)))))
theorem flat_len {part : Nat → Nat} {N : Nat} : ∀ (l : List Nat), (∀ p ∈ l, (nds part N p).length ≤ 1) → (l.flatMap (nds part N)).length ≤ l.length
  | [], _ => Nat.le_refl _
  | p :: r, h => by
    rw [List.flatMap_cons, List.length_append, List.length_cons]
    have h1 := h p (by simp)
    have h2 := flat_len r (fun q hq => h q (by simp [hq]))
    omega
set_option maxRecDepth 100000 in
set_option maxHeartbeats 2000000 in
theorem order_any (W : World) (n : Int) (A : Option Addr) (m cap B0 : Nat) (E : List (Int × Int × Int)) (hr : Reads W B0 3 A m (ecells E)) (hB0 : B0 ≤ W.heap.size) (hm : m ≤ 140737488355328) :
    Calls Try.prog 22 #[.int .i64 n, .slice A m cap] W (OrdOut W n E) := by
  have hP := hide (parts_any W n A m cap B0 E hr hB0 hm)
  have HR := hide hr
  clear hr
  go_enter Try.func22, Try.ntmps22
  go_wp2_with fail
  refine (unhide hP).mono ?_
  rintro e w1 ⟨hb1, ⟨hc, rfl⟩ | ⟨hc, N, part, al, os, v, V, rfl, rfl, hout⟩⟩
  · have HB := hide hb1
    obtain ⟨c, hcc⟩ : ∃ c, chkS n E = c := ⟨_, rfl⟩
    rw [hcc] at hc ⊢
    have HC := Lib.hid hcc
    clear hb1 hP hcc
    go_wp2_with fail
    go_ret2
    exact ⟨unhide HB, .inl ⟨by rw [HC.out]; exact hc, by rw [HC.out]; rfl⟩⟩
  · obtain ⟨g1, g2, g3, hE⟩ := chk_ok hc
    have hN : N ≤ 65536 := by omega
    have hol : os.length ≤ 65536 := by have := hout.spec.len; have := hout.parts.aln; omega
    have hV : ∀ p ∈ os, ∃ A c, V p = .slice A (nds part N p).length c := fun p hp => (hout.rows p (hout.spec.lt p hp)).shape
    have hRd := hide (round_any (N := N) (part := part) hout.own hV hol A m cap B0 E ((unhide HR).below (hb1.mono hB0)) (Nat.le_trans hB0 hb1.size) hm)
    have HOUT := hide hout
    have HB := hide hb1
    have HC := Lib.hid hc
    have HV := hide hV
    obtain ⟨L, hL⟩ : ∃ L, os.length = L := ⟨_, rfl⟩
    have hown := hout.own
    rw [hL] at hown hol
    obtain ⟨Av, cv, rfl⟩ := hown.shape
    have HOW := hide hown
    have HL := Lib.hid hL
    clear hout hb1 hc hV hown hL hP g1 g2 g3 hE
    obtain ⟨rb, hrb⟩ : ∃ b, rdB part N os E = b := ⟨_, rfl⟩
    rw [hrb] at hRd
    have HRB := Lib.hid hrb
    clear hrb
    cases rb with
    | true =>
      go_wp2_with fail
      refine (unhide hRd).mono ?_
      rintro e w2 ⟨rfl, hb2⟩
      have HB2 := hide ((unhide HB).trans (hb2.mono (unhide HB).size))
      clear hb2 hRd
      go_wp2_with fail
      go_ret2
      exact ⟨unhide HB2, .inr ⟨HC.out, N, part, al, os, rfl, (unhide HOUT).parts, (unhide HOUT).surj, (unhide HOUT).spec, (unhide HOUT).all, .inl ⟨HRB.out, rfl⟩⟩⟩
    | false =>
      go_wp2_with fail
      refine (unhide hRd).mono ?_
      rintro e w2 ⟨rfl, hb2⟩
      have hsmall : ∀ p ∈ os, (nds part N p).length ≤ 1 := fun p hp => by
        have h := HRB.out
        unfold rdB at h
        rw [Bool.or_eq_false_iff] at h
        have := List.any_eq_false.1 h.1 p hp
        simp at this
        omega
      have HSM := hide hsmall
      have HB2 := hide hb2
      have hz2 := (unhide HB).size
      clear hb2 hRd hsmall
      obtain ⟨wo, hwo⟩ : ∃ w : World, w = w2 := ⟨_, rfl⟩
      subst hwo
      go_wp2_with fail
      go_loopg [8, 27] L (fun q t8 t W' => ∃ k : Nat, t = .int .i64 (k : Int) ∧ k + q = L ∧ W'.ownsRow wo.heap.size 3 1 t8 ((os.take k).flatMap (nds part N)).length (((os.take k).flatMap (nds part N)).map iv) ∧ Below wo.heap.size wo W')
      case atStart => exact ⟨0, rfl, by omega, ⟨rfl, .inl ⟨rfl, rfl⟩⟩, Below.refl _ _⟩
      case round =>
        obtain ⟨k, rfl, hkq, ho, hb⟩ := hrel
        have hk0 : (0 : Int) ≤ (k : Int) := by omega
        obtain ⟨N1, hN1⟩ : ∃ n, ((os.take k).flatMap (nds part N)).length = n := ⟨_, rfl⟩
        rw [hN1] at ho
        obtain ⟨Ao, co, rfl⟩ := ho.shape
        by_cases hk : k < L
        · have hkI : (k : Int) < (L : Int) := by omega
          obtain ⟨gq, rfl⟩ : ∃ q, gk = q + 1 := ⟨gk - 1, by omega⟩
          obtain ⟨g, cap', hv, _, _, _⟩ := own_form (unhide HOW) (by omega)
          obtain ⟨rfl, rfl⟩ : Av = some ⟨g, 0, none⟩ ∧ cv = cap' := by cases hv; exact ⟨rfl, rfl⟩
          obtain ⟨p, hp⟩ : ∃ p, os[k]? = some p := ⟨_, List.getElem?_eq_getElem (by rw [HL.out]; exact hk)⟩
          obtain ⟨Ap, cp, hvp⟩ := unhide HV p (List.mem_of_getElem? hp)
          have hrow := (unhide HOUT).rows p ((unhide HOUT).spec.lt p (List.mem_of_getElem? hp))
          have hl1 := unhide HSM p (List.mem_of_getElem? hp)
          obtain ⟨lp, hlp⟩ : ∃ l, (nds part N p).length = l := ⟨_, rfl⟩
          rw [hlp] at hvp hrow hl1
          rw [hvp] at hrow
          have hbw : Below w1.heap.size w1 wr := (unhide HB2).trans (hb.mono (unhide HB2).size)
          have hrd : Reads wr w1.heap.size 1 Ap lp ((nds part N p).map iv) := (own_readsO hrow).below hbw
          have c1 : wr.cell? ⟨g, k, none⟩ = some (.slice Ap lp cp) := by
            have h := (Chg.of_below hbw (fun _ => False)).own (unhide HOW) (fun _ _ h => h)
            rw [own_cell h hk, List.getElem?_map, hp, ← hvp]; rfl
          have hsn : os.take (k + 1) = os.take k ++ [p] := by rw [List.take_add_one, hp, Option.toList_some]
          have hfl : ((os.take k).flatMap (nds part N)).length ≤ k := Nat.le_trans (flat_len _ (fun q hq => unhide HSM q (List.mem_of_mem_take hq))) (by simp; omega)
          rw [hN1] at hfl
          have hc8 : N1 + lp ≤ maxLen ∧ (N1 + lp) * 8 ≤ 140737488355328 := cap8 (by omega)
          have HC8 := hide hc8
          have HSN := Lib.hid hsn
          have HN1 := Lib.hid hN1
          have HLP := Lib.hid hlp
          have HO := hide ho
          have HBB := hide hb
          have HRD := hide hrd
          have hzb := hb.size
          clear ho hb hv hp hvp hrow hlp hbw hrd hsn hfl hN1 hc8
          go_wp2_with (first
            | (at_builtin
               refine wpList_app wr rfl (.tmp 31) (.tmp 32) 25 rfl elem_int wo.heap.size (.slice Ao N1 co) N1 _ rfl (unhide HO) w1.heap.size Ap lp cp ((nds part N p).map iv) rfl (unhide HRD) (iv_one _) (unhide HC8) hzb ?_
               intro v5 w5 ho5 hg5 hr5
               obtain ⟨A5, c5, rfl⟩ := ho5.shape
               have HO5 := hide ho5
               have HB5 := hide ((unhide HBB).grown hg5 hzb (fun g e => ((unhide HO).lt g e).1))
               clear ho5 hg5 hr5))
          go_roundg gq
          case rel => exact ⟨k + 1, by go_num, by omega, by
            rw [HSN.out, List.flatMap_append, List.flatMap_singleton, List.length_append, HN1.out, HLP.out, List.map_append]
            exact unhide HO5, unhide HB5⟩
          case measure => omega
        · obtain rfl : k = L := by omega
          rw [List.take_of_length_le (by have := HL.out; omega)] at ho hN1
          have HO := hide (ho.base (base' := W.heap.size) (Nat.le_trans hz2 (unhide HB2).size))
          have HBF := hide ((unhide HB).trans (((unhide HB2).trans (hb.mono (unhide HB2).size)).mono hz2))
          have HN1 := Lib.hid hN1
          clear ho hb hN1
          go_wp2_with fail
          go_ret2
          exact ⟨unhide HBF, .inr ⟨HC.out, N, part, al, os, rfl, (unhide HOUT).parts, (unhide HOUT).surj, (unhide HOUT).spec, (unhide HOUT).all, .inr ⟨HRB.out, _, rfl, by rw [HN1.out]; exact unhide HO⟩⟩⟩
end Go.Proofs.Ytmcpbmadjpjckaa
