/-
  The program's and the document's answers on depths and what is reached, brought to one form. No program in sight but for types.
-/
import Derived.Test.YtmcpbmadjpjckaaGrDep
import Derived.Test.YtmcpbmadjpjckaaGrRDep
import Derived.Test.YtmcpbmadjpjckaaGrReachW
import Derived.Test.YtmcpbmadjpjckaaGrRReach
import Derived.Test.YtmcpbmadjpjckaaGrLaw2
namespace Go.Proofs.Ytmcpbmadjpjckaa
open Go.RowKit

theorem own_reads {W : World} {base k c : Nat} {e : TypeId} {A : Option Addr} {xs : List Value} (h : W.ownsRow base e 1 (.slice A k c) k xs) : Reads W W.heap.size 1 A k xs := Reads.of_own h
theorem blk_reads {W : World} {g k : Nat} {e : TypeId} {f : Nat → Value} (h : Blk W g e (tab k f)) : Reads W W.heap.size 1 (some ⟨g, 0, none⟩) k ((List.range k).map f) := by
  refine ⟨by simp, fun _ => ⟨_, rfl, h.lt, fun j u hu => ?_⟩⟩
  have hadd : (⟨g, 0, none⟩ : Addr).add j = ⟨g, j, none⟩ := by unfold Addr.add; split <;> simp_all
  rw [hadd, h.cell j, ← hu, tab, List.getElem?_toArray]
theorem map_iv_iz (k : Nat) (D : Nat → Nat) : (List.range k).map (fun u => iv (D u)) = ((List.range k).map fun u => ((D u : Nat) : Int)).map iz := by
  rw [List.map_map]; rfl
theorem map_iv_iz' (l : List Nat) : l.map iv = (l.map fun u : Nat => (u : Int)).map iz := by
  rw [List.map_map]; rfl

/-- What Depths answers, the program's or the document's. -/
def DRes (W' : World) (n : Int) (E : List (Int × Int × Int)) (A : Option Addr) (k : Nat) (er : Int) : Prop :=
  (chkS n E ≠ 0 ∧ er = chkS n E ∧ k = 0) ∨ (chkS n E = 0 ∧ (∃ e ∈ E, OnRound E e) ∧ er = 100 ∧ k = 0) ∨
  (chkS n E = 0 ∧ (∀ e ∈ E, ¬ OnRound E e) ∧ er = 0 ∧ ∃ D, n = (k : Int) ∧ IsDepth k E D ∧ Reads W' W'.heap.size 1 A k (((List.range k).map fun u => ((D u : Nat) : Int)).map iz))
theorem ok_toNat {n : Nat} {E : List (Int × Int × Int)} (hE : ∀ e ∈ E, okE (n : Int) e = true) {e : Int × Int × Int} (he : e ∈ E) : 0 ≤ e.2.2 := by
  obtain ⟨f, t, g, rfl, _⟩ := okE_parts (hE e he)
  show (0 : Int) ≤ (g : Int)
  omega
theorem DepOut.res {W W' : World} {n : Int} {E : List (Int × Int × Int)} {e : Ending} (h : DepOut W n E e W') : ∃ A k c er, e = .returned (.tuple #[.slice A k c, .int .i64 er]) ∧ DRes W' n E A k er ∧ Below W.heap.size W W' ∧
    ∃ Fs : Nat → Nat, (∀ u, Fs u ≤ 1099511627776) ∧ (chkS n E = 0 → (∀ e ∈ E, ¬ OnRound E e) → Sol E Fs) := by
  obtain ⟨hb, h | ⟨h0, N, part, al, rfl, hP, h⟩⟩ := h
  · exact ⟨none, 0, 0, _, h.2, .inl ⟨h.1, rfl, rfl⟩, hb, fun _ => 0, fun _ => Nat.zero_le _, fun h1 => absurd h1 h.1⟩
  · obtain ⟨g1, g2, g3, hE⟩ := chk_ok h0
    have hbad : ∀ e ∈ E, OnRound E e ↔ (part e.1.toNat = part e.2.1.toNat ∧ 0 < e.2.2) := fun e he => by
      rw [bad_iff hP hE he]
      exact ⟨fun h => ⟨h.2, h.1⟩, fun h => ⟨h.2, h.1⟩⟩
    rcases h with ⟨⟨e1, he1, hp1, hp2⟩, rfl⟩ | ⟨hz, g, rfl, hg, hbk⟩
    · have hon : ∃ e ∈ E, OnRound E e := ⟨e1, he1, (hbad e1 he1).2 ⟨hp1, hp2⟩⟩
      exact ⟨none, 0, 0, 100, rfl, .inr (.inl ⟨h0, hon, rfl, rfl⟩), hb, fun _ => 0, fun _ => Nat.zero_le _, fun _ hno => by obtain ⟨e, he, h⟩ := hon; exact absurd h (hno e he)⟩
    · have hno : ∀ e ∈ E, ¬ OnRound E e := fun e he h => by
        obtain ⟨h1, h2⟩ := (hbad e he).1 h
        have := hz e he h1
        omega
      have hD := depth_is hP hE hz
      refine ⟨_, N, N, 0, rfl, .inr (.inr ⟨h0, hno, rfl, _, rfl, hD, ?_⟩), hb, fun u => if u < N then dps (downOf part E) al (part u) else 0, fun u => ?_, fun _ _ e he => ?_⟩
      · rw [← map_iv_iz]
        exact blk_reads hbk
      · show (if u < N then _ else 0) ≤ _
        split
        · rename_i hu
          have h1 := dps_bound _ (down_ok hP hE) al (part u)
          have h2 := hP.lt u hu
          have h3 := hP.aln
          have h4 : part u * 1048576 ≤ 65536 * 1048576 := Nat.mul_le_mul_right _ (by omega)
          omega
        · omega
      · obtain ⟨f, t, g, rfl, hf, ht, _⟩ := okE_parts (hE e he)
        have := hD.fall _ he
        simp only [Int.toNat_natCast] at this ⊢
        rw [if_pos hf, if_pos ht]
        exact this
theorem RDepOut.res {W W' : World} {n : Int} {E : List (Int × Int × Int)} {e : Ending} (h : RDepOut W n E e W') : ∃ A k c er, e = .returned (.tuple #[.slice A k c, .int .i64 er]) ∧ DRes W' n E A k er ∧ Below W.heap.size W W' := by
  obtain ⟨hb, h | ⟨h0, ⟨hon, rfl⟩ | ⟨hno, N, D, g, rfl, rfl, _, hbk, hD⟩⟩⟩ := h
  · exact ⟨none, 0, 0, _, h.2, .inl ⟨h.1, rfl, rfl⟩, hb⟩
  · exact ⟨none, 0, 0, 100, rfl, .inr (.inl ⟨h0, hon, rfl, rfl⟩), hb⟩
  · refine ⟨_, N, N, 0, rfl, .inr (.inr ⟨h0, hno, rfl, D, rfl, hD, ?_⟩), hb⟩
    rw [← map_iv_iz]
    exact blk_reads hbk
theorem DRes.same {W1 W2 : World} {n : Int} {E : List (Int × Int × Int)} {A1 A2 : Option Addr} {k1 k2 : Nat} {er1 er2 : Int} (h1 : DRes W1 n E A1 k1 er1) (h2 : DRes W2 n E A2 k2 er2) :
    k1 = k2 ∧ er1 = er2 ∧ k1 ≤ 65536 ∧ ∃ ds : List Int, (∀ W', Below W1.heap.size W1 W' → Reads W' W1.heap.size 1 A1 k1 (ds.map iz)) ∧ (∀ W', Below W2.heap.size W2 W' → Reads W' W2.heap.size 1 A2 k2 (ds.map iz)) := by
  rcases h1 with ⟨a1, a2, a3⟩ | ⟨a1, a2, a3, a4⟩ | ⟨a1, a2, a3, D, a4, a5, a6⟩
  · rcases h2 with ⟨b1, b2, b3⟩ | ⟨b1, b2, b3, b4⟩ | ⟨b1, b2, b3, D, b4, b5, b6⟩
    · subst a3 b3
      exact ⟨rfl, by rw [a2, b2], by omega, [], fun _ _ => Reads.none_, fun _ _ => Reads.none_⟩
    · exact absurd b1 a1
    · exact absurd b1 a1
  · rcases h2 with ⟨b1, b2, b3⟩ | ⟨b1, b2, b3, b4⟩ | ⟨b1, b2, b3, D, b4, b5, b6⟩
    · exact absurd a1 b1
    · subst a4 b4
      exact ⟨rfl, by rw [a3, b3], by omega, [], fun _ _ => Reads.none_, fun _ _ => Reads.none_⟩
    · obtain ⟨e, he, h⟩ := a2; exact absurd h (b2 e he)
  · rcases h2 with ⟨b1, b2, b3⟩ | ⟨b1, b2, b3, b4⟩ | ⟨b1, b2, b3, D', b4, b5, b6⟩
    · exact absurd a1 b1
    · obtain ⟨e, he, h⟩ := b2; exact absurd h (a2 e he)
    · have hk : k1 = k2 := by omega
      subst hk
      have g1 := (chk_ok a1).1
      refine ⟨rfl, by rw [a3, b3], by omega, _, fun W' hb => a6.below hb, fun W' hb => ?_⟩
      have : ((List.range k1).map fun u => ((D u : Nat) : Int)) = (List.range k1).map fun u => ((D' u : Nat) : Int) := List.map_congr_left fun u hu => by rw [a5.same b5 (List.mem_range.1 hu)]
      rw [this]
      exact b6.below hb

/-- What Reach answers, the program's or the document's. -/
def RRes (W' : World) (n : Int) (fr : List Int) (E : List (Int × Int × Int)) (A : Option Addr) (k : Nat) (er : Int) : Prop :=
  (chkS n E ≠ 0 ∧ er = chkS n E ∧ k = 0) ∨ (chkS n E = 0 ∧ fr.any (outB n) = true ∧ er = 2 ∧ k = 0) ∨
  (chkS n E = 0 ∧ fr.any (outB n) = false ∧ er = 0 ∧ ∃ N : Nat, n = (N : Int) ∧ k = (rchL N (adjOf E false) (fr.map Int.toNat)).length ∧ Reads W' W'.heap.size 1 A k ((rchL N (adjOf E false) (fr.map Int.toNat)).map iv))
theorem ReachOut.res {W W' : World} {n : Int} {fr : List Int} {E : List (Int × Int × Int)} {e : Ending} (h : ReachOut W n fr E e W') : ∃ A k c er, e = .returned (.tuple #[.slice A k c, .int .i64 er]) ∧ RRes W' n fr E A k er ∧ Below W.heap.size W W' := by
  obtain ⟨hb, h | ⟨h0, h1, rfl⟩ | ⟨h0, h1, N, v, rfl, rfl, ho⟩⟩ := h
  · exact ⟨none, 0, 0, _, h.2, .inl ⟨h.1, rfl, rfl⟩, hb⟩
  · exact ⟨none, 0, 0, 2, rfl, .inr (.inl ⟨h0, h1, rfl, rfl⟩), hb⟩
  · obtain ⟨A, c, rfl⟩ := ho.shape
    exact ⟨A, _, c, 0, rfl, .inr (.inr ⟨h0, h1, rfl, N, rfl, rfl, own_reads ho⟩), hb⟩
theorem RRes.same {W1 W2 : World} {n : Int} {fr : List Int} {E : List (Int × Int × Int)} {A1 A2 : Option Addr} {k1 k2 : Nat} {er1 er2 : Int} (h1 : RRes W1 n fr E A1 k1 er1) (h2 : RRes W2 n fr E A2 k2 er2) :
    k1 = k2 ∧ er1 = er2 ∧ k1 ≤ 65536 ∧ ∃ ds : List Int, (∀ W', Below W1.heap.size W1 W' → Reads W' W1.heap.size 1 A1 k1 (ds.map iz)) ∧ (∀ W', Below W2.heap.size W2 W' → Reads W' W2.heap.size 1 A2 k2 (ds.map iz)) := by
  rcases h1 with ⟨a1, a2, a3⟩ | ⟨a1, a2, a3, a4⟩ | ⟨a1, a2, a3, N, a4, a5, a6⟩
  · rcases h2 with ⟨b1, b2, b3⟩ | ⟨b1, b2, b3, b4⟩ | ⟨b1, b2, b3, D, b4, b5, b6⟩
    · subst a3 b3
      exact ⟨rfl, by rw [a2, b2], by omega, [], fun _ _ => Reads.none_, fun _ _ => Reads.none_⟩
    · exact absurd b1 a1
    · exact absurd b1 a1
  · rcases h2 with ⟨b1, b2, b3⟩ | ⟨b1, b2, b3, b4⟩ | ⟨b1, b2, b3, D, b4, b5, b6⟩
    · exact absurd a1 b1
    · subst a4 b4
      exact ⟨rfl, by rw [a3, b3], by omega, [], fun _ _ => Reads.none_, fun _ _ => Reads.none_⟩
    · rw [a2] at b2; cases b2
  · rcases h2 with ⟨b1, b2, b3⟩ | ⟨b1, b2, b3, b4⟩ | ⟨b1, b2, b3, N', b4, b5, b6⟩
    · exact absurd a1 b1
    · rw [a2] at b2; cases b2
    · obtain rfl : N = N' := by omega
      have g1 := (chk_ok a1).1
      have g2 := rch_len N (adjOf E false) (fr.map Int.toNat)
      rw [map_iv_iz'] at a6 b6
      exact ⟨by rw [a5, b5], by rw [a3, b3], by omega, _, fun W' hb => a6.below hb, fun W' hb => b6.below hb⟩
/-- A law's edges while they are turned. -/
theorem ecells_set {P Q : List (Int × Int × Int)} {f t g : Int} : ((ecells (P ++ (f, t, g) :: Q)).set (P.length * 3) (.int .i64 t)).set (P.length * 3 + 1) (.int .i64 f) = ecells (P ++ (t, f, g) :: Q) := by
  rw [ecells_app, ecells_app, List.set_append_right _ _ (by rw [ecells_len]; omega), List.set_append_right _ _ (by rw [ecells_len]; omega), ecells_len, show P.length * 3 - P.length * 3 = 0 by omega, show P.length * 3 + 1 - P.length * 3 = 1 by omega]
  rfl
end Go.Proofs.Ytmcpbmadjpjckaa
