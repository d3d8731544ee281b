/-
  'again' of a step of any kind; a script's steps as a function; what they put, one behind another.
-/
import Derived.Test.YtbofjboebkfjgaaLebAgain
import Derived.Test.YtbofjboebkfjgaaLebReadersW
namespace Go.Proofs.Ytbofjboebkfjgaa
open Go.RowKit

theorem again_any (w : World) (g : Nat) (A : Option Addr) (m c : Nat) (bs : List UInt8) (p f : Nat) (h : RdP w g A m c bs p f) (kd : Int) (o1 : Value) (N : Nat) (K : Int) (A' : Option Addr) (n c' : Nat) (xs : List UInt8) (B0 : Nat) (hx : Reads w B0 1 A' n (xs.map bv)) (hB0 : B0 ≤ g) (hn : n ≤ 35184372088832) :
    Calls Try.prog 43 #[.pointer (some ⟨g, 0, none⟩), .agg #[.int .i64 kd, o1, .int .u64 (N : Int), .int .i64 K, .slice A' n c']] w (AgOut w g A m c bs (ag kd n bs p f) (agB kd N K n xs bs p f)) := by
  by_cases h1 : kd = 1
  · subst h1; exact again_num w g A m c bs p f h o1 N K _ n xs
  by_cases h2 : kd = 2
  · subst h2; exact again_int w g A m c bs p f h o1 _ N K _ n xs
  by_cases h3 : kd = 3
  · subst h3; exact again_raw w g A m c bs p f h o1 _ _ N K A' n c' xs B0 hx hB0 hn
  by_cases h4 : kd = 4
  · subst h4; exact again_text w g A m c bs p f h o1 _ _ N K A' n c' xs B0 hx hB0 hn
  · exact again_tell w g A m c bs p f h kd o1 _ _ _ N K n xs h1 h2 h3 h4

/-- One step of a script. -/
structure Stp where
  kd : Int
  wh : Int
  N : Nat
  K : Int
  A : Option Addr
  n : Nat
  c : Nat
  bs : List UInt8
def Stp.out (s : Stp) : List UInt8 := outS s.kd s.N s.K s.n s.bs
/-- What the first k steps put. -/
def outs (S : Nat → Stp) : Nat → List UInt8
  | 0 => []
  | k + 1 => outs S k ++ (S k).out
/-- The script's steps lie in memory. -/
structure StepsAt (w : World) (no b off : Nat) (S : Nat → Stp) : Prop where
  at_ : ∀ k, k < no → OpAt w b (off + k * 5) (S k).kd (S k).wh (S k).N (S k).K (S k).A (S k).n (S k).c (S k).bs
  small : ∀ k, k < no → (S k).n ≤ 1048576
theorem steps_at {w : World} {no : Nat} {Ao : Option Addr} (hop : ∀ k, k < no → ∃ b off kd wh N K A' n' c' bs', Ao = some ⟨b, off, none⟩ ∧ OpAt w b (off + k * 5) kd wh N K A' n' c' bs' ∧ n' ≤ 1048576) :
    ∃ (b off : Nat) (S : Nat → Stp), (0 < no → Ao = some ⟨b, off, none⟩) ∧ StepsAt w no b off S := by
  rcases Nat.eq_zero_or_pos no with h0 | h0
  · subst h0
    exact ⟨0, 0, fun _ => ⟨0, 0, 0, 0, none, 0, 0, []⟩, fun h => by omega, ⟨fun k hk => by omega, fun k hk => by omega⟩⟩
  · obtain ⟨b, off, _, _, _, _, _, _, _, _, hA, _, _⟩ := hop 0 h0
    have h1 : ∀ k, ∃ s : Stp, k < no → (OpAt w b (off + k * 5) s.kd s.wh s.N s.K s.A s.n s.c s.bs ∧ s.n ≤ 1048576) := fun k => by
      by_cases hk : k < no
      · obtain ⟨b', off', kd, wh, N, K, A', n', c', bs', hA', hO, hn⟩ := hop k hk
        rw [hA] at hA'
        injection hA' with hA'
        injection hA' with e1 e2 _
        subst e1 e2
        exact ⟨⟨kd, wh, N, K, A', n', c', bs'⟩, fun _ => ⟨hO, hn⟩⟩
      · exact ⟨⟨0, 0, 0, 0, none, 0, 0, []⟩, fun h => absurd h hk⟩
    exact ⟨b, off, fun k => (h1 k).choose, fun _ => hA, ⟨fun k hk => ((h1 k).choose_spec hk).1, fun k hk => ((h1 k).choose_spec hk).2⟩⟩
section
variable {w : World} {no b off : Nat} {S : Nat → Stp}
theorem StepsAt.len (h : StepsAt w no b off S) {k : Nat} (hk : k < no) : (S k).bs.length = (S k).n := by have := (h.at_ k hk).reads.1; simpa using this
theorem StepsAt.outs_len (h : StepsAt w no b off S) : ∀ k, k ≤ no → (outs S k).length ≤ k * 1048600
  | 0, _ => by simp [outs]
  | k + 1, hk => by
    have ih := h.outs_len k (by omega)
    have h1 : (S k).out.length ≤ 1048600 := Nat.le_trans (outS_len (S k).kd (S k).N (S k).K (S k).n (S k).bs (h.len (by omega))) (by have := h.small k (by omega); omega)
    rw [outs, List.length_append, Nat.succ_mul]
    omega
theorem outs_pre (S : Nat → Stp) : ∀ m k, k ≤ m → ∃ r, outs S m = outs S k ++ r
  | 0, k, hk => by obtain rfl : k = 0 := by omega
                   exact ⟨[], rfl⟩
  | m + 1, k, hk => by
    by_cases e : k = m + 1
    · subst e; exact ⟨[], by simp⟩
    · obtain ⟨r, hr⟩ := outs_pre S m k (by omega)
      exact ⟨r ++ (S m).out, by rw [outs, hr, List.append_assoc]⟩
theorem outs_split (S : Nat → Stp) (no k : Nat) (hk : k < no) : ∃ r, (outs S no).drop (outs S k).length = (S k).out ++ r := by
  obtain ⟨r, hr⟩ := outs_pre S no (k + 1) (by omega)
  exact ⟨r, by rw [hr, outs, List.append_assoc, List.drop_left]⟩

/-- Where the reader of a beginning stands. -/
def Cut (S : Nat → Stp) (j k p f : Nat) : Prop := (f = 0 ∧ p = (outs S k).length ∧ (outs S k).length ≤ j) ∨ (f = 10 ∧ j < (outs S k).length)
theorem cut_step (h : StepsAt w no b off S) {j k p f : Nat} (hk : k < no) (hj : j ≤ (outs S no).length) (hc : Cut S j k p f) :
    Cut S j (k + 1) (ag (S k).kd (S k).n ((outs S no).take j) p f).1 (ag (S k).kd (S k).n ((outs S no).take j) p f).2 := by
  have hO := h.at_ k hk
  have hl := h.len hk
  have hs := h.small k hk
  have hlen : (outs S (k + 1)).length = (outs S k).length + (S k).out.length := by rw [outs, List.length_append]
  rcases hc with ⟨rfl, rfl, hle⟩ | ⟨rfl, hlt⟩
  · obtain ⟨r, hr⟩ := outs_split S no k hk
    have hd : ((outs S no).take j).drop (outs S k).length = ((S k).out ++ r).take (j - (outs S k).length) := by rw [List.drop_take, hr]
    have htl : ((outs S no).take j).length = j := by rw [List.length_take]; omega
    by_cases hf : (outs S (k + 1)).length ≤ j
    · rw [List.take_append, List.take_of_length_le (l := (S k).out) (i := j - (outs S k).length) (by omega)] at hd
      have := (ag_full hO.nlt hO.k1 hO.k2 hl (by unfold U64; omega) (by omega) hd).2
      rw [this]
      exact .inl ⟨rfl, by rw [hlen]; rfl, hf⟩
    · rw [List.take_append_of_le_length (by omega)] at hd
      have := ag_cut hO.nlt hO.k1 hO.k2 hl (by unfold U64; omega) (by omega) (show j - (outs S k).length < (outS (S k).kd (S k).N (S k).K (S k).n (S k).bs).length by
        have h1 : (S k).out.length = (outS (S k).kd (S k).N (S k).K (S k).n (S k).bs).length := rfl
        omega) hd
      exact .inr ⟨this, by omega⟩
  · rw [ag_fault (by decide)]
    exact .inr ⟨rfl, by omega⟩
theorem whole_step (h : StepsAt w no b off S) {k : Nat} (hk : k < no) :
    agB (S k).kd (S k).N (S k).K (S k).n (S k).bs (outs S no) (outs S k).length 0 = true ∧ ag (S k).kd (S k).n (outs S no) (outs S k).length 0 = ((outs S (k + 1)).length, 0) := by
  have hO := h.at_ k hk
  have hl := h.len hk
  have hs := h.small k hk
  obtain ⟨r, hr⟩ := outs_split S no k hk
  obtain ⟨r', hr'⟩ := outs_pre S no k (by omega)
  have h1 := ag_full hO.nlt hO.k1 hO.k2 hl (by unfold U64; omega) (by rw [hr', List.length_append]; omega) hr
  refine ⟨h1.1, h1.2.trans ?_⟩
  rw [outs, List.length_append]
  rfl
end
end Go.Proofs.Ytbofjboebkfjgaa
