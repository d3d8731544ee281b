/-
  What GraphTells is told by Parts, Reach, Order, Round: contracts in the law's own words.
-/
import Derived.Test.YtmcpbmadjpjckaaGrTells2
namespace Go.Proofs.Ytmcpbmadjpjckaa
open Go.RowKit

/-- What Parts tells. -/
structure TP (W : World) (A : Option Addr) (N al : Nat) (part : Nat → Nat) (E : List (Int × Int × Int)) (os : List Nat) (V : Nat → Value) : Prop where
  parts : Parts N (adjOf E false) part al
  surj : ∀ p, p < al → ∃ u, u < N ∧ part u = p
  spec : PSpec part E al (fstN part N) os
  all : ∀ p, p < al → p ∈ os
  len : os.length = al
  rd : Reads W W.heap.size 1 A al (os.map V)
  row : ∀ p, p < al → ∃ Ap cp, V p = .slice Ap (nds part N p).length cp ∧ (nds part N p).length ≤ cp ∧ cp ≤ 9223372036854775807 ∧ Reads W W.heap.size 1 Ap (nds part N p).length ((nds part N p).map iv)
theorem TP.below {W W' : World} {A : Option Addr} {N al : Nat} {part : Nat → Nat} {E : List (Int × Int × Int)} {os : List Nat} {V : Nat → Value} (h : TP W A N al part E os V) (hb : Below W.heap.size W W') : TP W' A N al part E os V :=
  ⟨h.parts, h.surj, h.spec, h.all, h.len, (h.rd.below hb).more hb.size, fun p hp => by
    obtain ⟨Ap, cp, h1, h2, h3, h4⟩ := h.row p hp
    exact ⟨Ap, cp, h1, h2, h3, (h4.below hb).more hb.size⟩⟩
/-- The part of a place. -/
theorem TP.at_ {W : World} {A : Option Addr} {N al : Nat} {part : Nat → Nat} {E : List (Int × Int × Int)} {os : List Nat} {V : Nat → Value} (h : TP W A N al part E os V) {i : Nat} (hi : i < al) :
    ∃ g off p Ap lp cp, A = some ⟨g, off, none⟩ ∧ g < W.heap.size ∧ os[i]? = some p ∧ p < al ∧ (nds part N p).length = lp ∧ 0 < lp ∧ lp ≤ cp ∧ cp ≤ 9223372036854775807 ∧ W.cell? ⟨g, off + i, none⟩ = some (.slice Ap lp cp) ∧ Reads W W.heap.size 1 Ap lp ((nds part N p).map iv) := by
  obtain ⟨g, off, u, hA, hg, hu, hc, _⟩ := h.rd.at0 hi
  rw [List.getElem?_map, Option.map_eq_some_iff] at hu
  obtain ⟨p, hp, rfl⟩ := hu
  have hpa := h.spec.lt p (List.mem_of_getElem? hp)
  obtain ⟨Ap, cp, hv, h1, h2, h3⟩ := h.row p hpa
  exact ⟨g, off, p, Ap, _, cp, hA, hg, hp, hpa, rfl, nds_ne h.surj hpa, h1, h2, by rw [← hv]; exact hc, h3⟩
theorem Reads.nat_at {w : World} {B n k : Nat} {A : Option Addr} {xs : List Nat} (h : Reads w B 1 A n (xs.map iv)) (hk : k < n) : ∃ b off x, A = some ⟨b, off, none⟩ ∧ xs[k]? = some x ∧ w.cell? ⟨b, off + k, none⟩ = some (.int .i64 (x : Int)) := by
  obtain ⟨b, off, u, rfl, _, hu, hc, _⟩ := h.at0 hk
  rw [List.getElem?_map] at hu
  obtain ⟨i, hi, rfl⟩ := Option.map_eq_some_iff.1 hu
  exact ⟨b, off, i, rfl, hi, hc⟩
theorem tab_congr_lt {n : Nat} {f g : Nat → Value} (h : ∀ u, u < n → f u = g u) : tab n f = tab n g := by
  unfold tab
  congr 1
  exact List.map_congr_left fun u hu => h u (List.mem_range.1 hu)
section
variable (W : World) (n : Int) (A : Option Addr) (m cap B0 : Nat) (E : List (Int × Int × Int)) (hr : Reads W B0 3 A m (ecells E)) (hB0 : B0 ≤ W.heap.size) (hm : m ≤ 140737488355328)
include hr hB0 hm
theorem parts_tells : Calls Try.prog 19 #[.int .i64 n, .slice A m cap] W fun e W' => Below W.heap.size W W' ∧
    ((chkS n E ≠ 0 ∧ e = .returned (.tuple #[.slice none 0 0, .int .i64 (chkS n E)])) ∨
     (chkS n E = 0 ∧ ∃ (N al : Nat) (part : Nat → Nat) (os : List Nat) (V : Nat → Value) (Av : Option Addr) (cv : Nat), n = (N : Int) ∧ e = .returned (.tuple #[.slice Av al cv, .int .i64 0]) ∧ TP W' Av N al part E os V)) := by
  refine (parts_any W n A m cap B0 E hr hB0 hm).mono fun e W' h => ?_
  obtain ⟨hb, ⟨h1, h2⟩ | ⟨h0, N, part, al, os, v, V, hN, rfl, ho⟩⟩ := h
  · exact ⟨hb, .inl ⟨h1, h2⟩⟩
  · obtain ⟨Av, cv, rfl⟩ := ho.own.shape
    have hl := os_len ho.spec ho.all
    refine ⟨hb, .inr ⟨h0, N, al, part, os, V, Av, cv, hN, by rw [hl], ho.parts, ho.surj, ho.spec, ho.all, hl, ?_, fun p hp => ?_⟩⟩
    · have h := own_reads ho.own
      rw [hl] at h
      exact h
    · have h := ho.rows p hp
      obtain ⟨Ap, cp, hv⟩ := h.shape
      rw [hv] at h
      have hne := nds_ne (N := N) ho.surj hp
      obtain ⟨g, c2, hv2, _, h1, h2⟩ := own_form h hne
      cases hv2
      exact ⟨_, _, hv, h1, h2, own_reads h⟩
theorem order_tells {N al : Nat} {part : Nat → Nat} (hN : n = (N : Int)) (hP : Parts N (adjOf E false) part al) (hs : ∀ p, p < al → ∃ u, u < N ∧ part u = p) (h0 : chkS n E = 0) (b : Bool) (hb : sglB al N E = b) :
    Calls Try.prog 22 #[.int .i64 n, .slice A m cap] W fun e W' => Below W.heap.size W W' ∧ ∃ A' k c z, e = .returned (.tuple #[.slice A' k c, .int .i64 z]) ∧ (b = true → k = N ∧ z = 0) ∧ (b = false → k = 0 ∧ z = 100) := by
  refine (order_any W n A m cap B0 E hr hB0 hm).mono fun e W' h => ?_
  obtain ⟨hbl, ⟨h1, _⟩ | ⟨_, N', part', al', os', hN', hp', hs', hsp', ha', hres⟩⟩ := h
  · exact absurd h0 h1
  · obtain rfl : N = N' := by omega
    have hsr := sgl_rd hP hs hp' hs' ha'
    rw [hb] at hsr
    refine ⟨hbl, ?_⟩
    rcases hres with ⟨hf, rfl⟩ | ⟨hf, v, rfl, ho⟩
    · refine ⟨none, 0, 0, 100, rfl, fun h => ?_, fun _ => ⟨rfl, rfl⟩⟩
      rw [hsr.1 h] at hf
      cases hf
    · obtain ⟨Av, cv, rfl⟩ := ho.shape
      refine ⟨Av, _, cv, 0, rfl, fun _ => ⟨order_len hp' hs' hsp' ha' hf, rfl⟩, fun h => ?_⟩
      rw [hsr.2 hf] at h
      cases h
theorem round_tells {N al : Nat} {part : Nat → Nat} (hN : n = (N : Int)) (hP : Parts N (adjOf E false) part al) (hs : ∀ p, p < al → ∃ u, u < N ∧ part u = p) (h0 : chkS n E = 0) (b : Bool) (hb : sglB al N E = b) :
    Calls Try.prog 23 #[.int .i64 n, .slice A m cap] W fun e W' => Below W.heap.size W W' ∧ ∃ A' k c, e = .returned (.tuple #[.slice A' k c, .int .i64 0]) ∧ k ≤ 9223372036854775807 ∧ (b = true → k = 0) ∧
      (b = false → ∃ (f : Nat) (r : List Nat), k = r.length + 1 ∧ Rnd N (adjOf E false) f r ∧ Reads W' W'.heap.size 1 A' k (((f :: r).map fun u : Nat => (u : Int)).map iz)) := by
  have hE := (chk_ok h0).2.2.2
  rw [hN] at hE
  refine (round_all W n A m cap B0 E hr hB0 hm).mono fun e W' h => ?_
  obtain ⟨hbl, ⟨h1, _⟩ | ⟨_, N', part', al', hN', hp', hs', hres⟩⟩ := h
  · exact absurd h0 h1
  · obtain rfl : N = N' := by omega
    refine ⟨hbl, ?_⟩
    rcases hres with ⟨hno, rfl⟩ | ⟨v, f, r, rfl, hr', ho⟩
    · refine ⟨none, 0, 0, rfl, by omega, fun _ => rfl, fun h => ?_⟩
      have := sgl_noc hP hp' hE hno
      rw [hb, h] at this
      cases this
    · obtain ⟨Av, cv, rfl⟩ := ho.shape
      obtain ⟨g, c2, hv2, _, h1, h2⟩ := own_form ho (by omega)
      cases hv2
      refine ⟨_, _, _, rfl, by omega, fun h => ?_, fun _ => ⟨f, r, rfl, hr', ?_⟩⟩
      · have := sgl_rnd hP hs hE hr'
        rw [hb, h] at this
        cases this
      · have h := own_reads ho
        rw [map_iv_iz'] at h
        exact h
theorem reach_tells {N x : Nat} (hN : n = (N : Int)) (hx : x < N) (h0 : chkS n E = 0) (A1 : Option Addr) (c1 : Nat) (h1 : Reads W W.heap.size 1 A1 1 (([(x : Int)] : List Int).map iz)) :
    Calls Try.prog 11 #[.int .i64 n, .slice A1 1 c1, .slice A m cap] W fun e W' => ∃ A' k c, e = .returned (.tuple #[.slice A' k c, .int .i64 0]) ∧ RowI W' (.slice A' k c) ((rchL N (adjOf E false) [x]).map fun u : Nat => (u : Int)) ∧ Below W.heap.size W W' := by
  refine (reach_any W n A m cap W.heap.size E (hr.more hB0) (Nat.le_refl _) hm A1 1 c1 [(x : Int)] h1 (by omega)).mono fun e W' h => ?_
  obtain ⟨hb, ⟨h1, _⟩ | ⟨_, h1, _⟩ | ⟨_, _, N', v, hN', rfl, ho⟩⟩ := h
  · exact absurd h0 h1
  · rw [List.any_cons, List.any_nil, outB_f (by omega)] at h1
    cases h1
  · obtain rfl : N = N' := by omega
    have hN := (chk_ok h0).1
    have hl := rch_len N (adjOf E false) [x]
    rw [List.map_cons, List.map_nil, Int.toNat_natCast] at ho
    obtain ⟨A', c, rfl⟩ := ho.shape
    exact ⟨A', _, c, rfl, RowI.own ho (by omega), hb⟩
end
/-- A part's row stands within what its first node reaches. -/
theorem within_tells {N al lp p x : Nat} {part : Nat → Nat} {E : List (Int × Int × Int)} (W : World) (hP : Parts N (adjOf E false) part al) (hx : (nds part N p)[0]? = some x) (hl2 : lp ≤ 140737488355328) (Ap A' : Option Addr) (cp k c B : Nat) (h1 : Reads W B 1 Ap lp ((nds part N p).map iv)) (h2 : RowI W (.slice A' k c) ((rchL N (adjOf E false) [x]).map fun u : Nat => (u : Int))) :
    Calls Try.prog 21 #[.slice Ap lp cp, .slice A' k c] W fun e W' => e = .returned (.bool true) ∧ Below W.heap.size W W' := by
  obtain ⟨A2, m2, c2, B2, hv, r1, r2, r3⟩ := h2
  cases hv
  rw [map_iv_iz'] at h1
  exact (within_any W Ap A' lp k cp c B B2 _ _ h1 r1 hl2 r2).mono fun e W' ⟨r, he, hr, a, hw⟩ => ⟨by rw [he, hr (part_wthn hP hx)], by rw [hw]; exact below_drewN (Below.refl _ _) a⟩
/-- A told round is one. -/
theorem round_is {N f : Nat} {r : List Nat} {E : List (Int × Int × Int)} (W : World) (hE : ∀ e ∈ E, okE (N : Int) e = true) (h : Rnd N (adjOf E false) f r) (A1 A2 : Option Addr) (k m c1 c2 B1 B2 : Nat) (hk : k = r.length + 1) (hk2 : k ≤ 9223372036854775807) (h1 : Reads W B1 1 A1 k (((f :: r).map fun u : Nat => (u : Int)).map iz)) (h2 : Reads W B2 3 A2 m (ecells E)) (hm : m ≤ 140737488355328) :
    Calls Try.prog 24 #[.slice A1 k c1, .slice A2 m c2] W fun e W' => e = .returned (.bool true) ∧ Below W.heap.size W W' := by
  obtain ⟨t1, t2⟩ := rnd_told hE h
  subst hk
  exact (isRound_any W A1 A2 _ m c1 c2 B1 B2 _ E h1 h2 hk2 hm (by omega) t1 t2).mono fun e W' ⟨he, a, hw⟩ => ⟨he, by rw [hw]; exact below_drewN (Below.refl _ _) a⟩
end Go.Proofs.Ytmcpbmadjpjckaa
