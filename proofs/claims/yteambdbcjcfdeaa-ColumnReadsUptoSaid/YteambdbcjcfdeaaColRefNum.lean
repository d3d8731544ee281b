/-
  The document's list of numbers whose forms stand one behind the other: the walk over the Go text. Condition: at most 2^20 bytes.
-/
import Derived.Test.YteambdbcjcfdeaaColRefEnc
import Derived.Test.YteambdbcjcfdeaaLebRefGet
namespace Go.Proofs.Yteambdbcjcfdeaa
open Go.RowKit

def qv (n : Nat) : Value := .int .u64 (n : Int)
theorem qv_one (l : List Nat) : ∀ u ∈ l.map qv, u.oneCell' = true := by
  intro u hu
  obtain ⟨c, _, rfl⟩ := List.mem_map.1 hu
  rfl
theorem elem_u64 : ElemOf Try.prog 84 71 1 8 := .mk' (.int .u64 0) Try.underlying84 (by kernel_rfl) rfl (by omega)
theorem Reads.nums {w : World} {B n k : Nat} {A : Option Addr} {l : List Nat} (h : Reads w B 1 A n (l.map qv)) (hk : k < n) :
    ∃ b off x, A = some ⟨b, off, none⟩ ∧ b < B ∧ l[k]? = some x ∧ w.cell? ⟨b, off + k, none⟩ = some (.int .u64 (x : Int)) := by
  obtain ⟨b, off, u, e, hb, hx, hc, _⟩ := h.at0 hk
  rw [List.getElem?_map] at hx
  obtain ⟨x, hx2, rfl⟩ := Option.map_eq_some_iff.1 hx
  exact ⟨b, off, x, e, hb, hx2, hc⟩
theorem forms_app (l : List Nat) (x : Nat) : forms (l ++ [x]) = forms l ++ form x := by simp [forms]
theorem forms_inj {l1 l2 : List Nat} (h1 : ∀ x ∈ l1, x < U64) (h2 : ∀ x ∈ l2, x < U64) (h : forms l1 = forms l2) : l1 = l2 := by
  obtain ⟨l', rfl, ht⟩ := forms_prefix l2 l1 [] h1 h2 (by rw [h, List.append_nil])
  cases l' with
  | nil => simp
  | cons a r =>
    have h4 := congrArg List.length ht
    have h3 := (form_len a).1
    rw [show forms (a :: r) = form a ++ forms r by simp [forms], List.length_append, List.length_nil] at h4
    omega
/-- What numbers answers. -/
def NumOut (w : World) (bs : List UInt8) (E : Ending) (w' : World) : Prop :=
  ∃ v l ok, E = .returned (.tuple #[v, .bool ok]) ∧ w'.ownsRow w.heap.size 71 1 v l.length (l.map qv) ∧ Below w.heap.size w w' ∧
    ((ok = true ∧ (∀ x ∈ l, x < U64) ∧ l.length ≤ bs.length ∧ bs = forms l) ∨ (ok = false ∧ l = [] ∧ ∀ l2 : List Nat, (∀ x ∈ l2, x < U64) → bs ≠ forms l2))
theorem num_bad {bs : List UInt8} {l : List Nat} {p a k e : Nat} (hl : ∀ x ∈ l, x < U64) (hp : p < bs.length) (hb : bs = forms l ++ bs.drop p) (hg : getS (bs.drop p) = (a, k, e)) (he : e ≠ 0) : ∀ l2 : List Nat, (∀ x ∈ l2, x < U64) → bs ≠ forms l2 := by
  intro l2 h2 h
  rw [h] at hb
  obtain ⟨l', rfl, ht⟩ := forms_prefix l l2 _ h2 hl hb
  rw [← h] at ht
  cases l' with
  | nil =>
    have := congrArg List.length ht
    simp [forms] at this
    omega
  | cons x r =>
    have hx := h2 x (by simp)
    rw [← ht] at hg
    have h3 := get_form x hx (forms r)
    rw [show forms (x :: r) = form x ++ forms r by simp [forms], h3] at hg
    simp only [Prod.mk.injEq] at hg
    exact he hg.2.2.symm

set_option maxRecDepth 100000 in
set_option maxHeartbeats 1000000 in
theorem numbers_any (A : Option Addr) (N cap B : Nat) (bs : List UInt8) (w : World) (hr : Reads w B 1 A N (bs.map bv)) (hB : B ≤ w.heap.size) (hN : N ≤ 1048576) (hcap : N ≤ cap) (hcm : cap ≤ 9223372036854775807) :
    Calls Try.prog 71 #[.slice A N cap] w (NumOut w bs) := by
  have hlen : bs.length = N := by have := hr.1; simpa using this
  have HR := hide hr
  have HLEN := Lib.hid hlen
  obtain ⟨⟨iE, zE, eE1, eE2, eE3, eE4, eE5, eE6⟩, _⟩ := elem_u8
  clear hr hlen
  go_enter Try.func71, Try.ntmps71
  go_wp2_with fail
  go_loopg [0, 4] N (fun q t v W => ∃ (l : List Nat) (p : Nat) (A' : Option Addr) (c' : Nat), p + q = N ∧ t = .slice A' (N - p) c' ∧ N - p ≤ c' ∧ c' ≤ 9223372036854775807 ∧ Reads w B 1 A' (N - p) ((bs.drop p).map bv) ∧ W.ownsRow w.heap.size 71 1 v l.length (l.map qv) ∧ Below w.heap.size w W ∧ (∀ x ∈ l, x < U64) ∧ l.length ≤ p ∧ bs = forms l ++ bs.drop p)
  case atStart => exact ⟨[], 0, A, cap, by omega, rfl, hcap, hcm, unhide HR, World.ownsRow_nil _ _ _ _, Below.refl _ _, (by simp), Nat.zero_le _, rfl⟩
  case round =>
    obtain ⟨l, p, A', c', hq, rfl, hc1, hc2, hrd, ho, hb, hl, hlp, hbs⟩ := hrel
    obtain ⟨Av, cv, rfl⟩ := ho.shape
    obtain ⟨L, hL⟩ : ∃ L, l.length = L := ⟨_, rfl⟩
    rw [hL] at ho hlp ⊢
    have HO := hide ho
    have HB := hide hb
    have HL := hide hl
    have HBS := hide hbs
    have HLL := Lib.hid hL
    obtain ⟨m, hm⟩ : ∃ m, N - p = m := ⟨_, rfl⟩
    rw [hm] at hrd hc1 ⊢
    by_cases hgo : p < N
    · obtain ⟨⟨a, k, e⟩, hg⟩ : ∃ r, getS (bs.drop p) = r := ⟨_, rfl⟩
      have hrW := hrd.below (hb.mono hB)
      have hG := hide (refGet_r c' hrW hg)
      have hm0 : (0 : Int) < (m : Int) := by omega
      by_cases he : e = 0
      · subst he
        obtain ⟨hk, hfa, ha⟩ := get_back hg
        have hk1 := (form_len a).1
        rw [hfa, List.length_take] at hk1
        rw [List.length_drop, HLEN.out, hm] at hk
        have hkp : 0 < k := by omega
        have hsl := fun W => run_cut eE1 eE2 eE4 A' c' (k := k) (n := m) (by omega) W
        have hrt := hrd.cut (k := k) (cap := c') (by omega) hc1
        rw [Nat.mul_one, ← List.map_drop, List.drop_drop] at hrt
        obtain ⟨A2, hA2⟩ : ∃ A2, (if c' = k then A' else A'.map (·.add k)) = A2 := ⟨_, rfl⟩
        simp only [Nat.mul_one, hA2] at hsl
        rw [hA2] at hrt
        have hnew : bs = forms (l ++ [a]) ++ bs.drop (p + k) := by
          have h1 : bs.drop p = form a ++ bs.drop (p + k) := by rw [hfa, ← List.drop_drop, List.take_append_drop]
          rw [forms_app, List.append_assoc, ← h1]
          exact hbs
        have HRT := hide hrt
        have HNEW := hide hnew
        have HC : Hid (L + 1 ≤ maxLen ∧ (L + 1) * 8 ≤ 140737488355328) := cap8 (by omega)
        have hz := hb.size
        have hkI : (0 : Int) ≤ (k : Int) := by omega
        have hkm : (k : Int) ≤ (m : Int) := by omega
        clear hrd ho hb hl hbs hrW hfa hk1 hrt hnew hA2 hg hL
        go_wp2_with fail
        refine (unhide hG).mono ?_
        rintro e w2 ⟨rfl, rfl⟩
        go_wp2_with (first
          | (at_builtin
             refine wpList_app1 wr rfl (.tmp 19) (.tmp 21) 84 rfl elem_u64 w.heap.size (.slice Av L cv) L (l.map qv) rfl (unhide HO) (.int .u64 (a : Int)) wr.heap.size rfl rfl rfl HC.out hz ?_
             intro v5 w5 ho5 hg5 hr5
             have HO5 := hide ho5
             have HB5 := hide ((unhide HB).grown hg5 (unhide HB).size (fun i e => ((unhide HO).lt i e).1))
             clear ho5 hg5 hr5))
        go_roundg (N - (p + k))
        case rel =>
          refine ⟨l ++ [a], p + k, A2, c' - k, by omega, by rw [show N - (p + k) = m - k by omega], by omega, by omega, ?_, ?_, unhide HB5, ?_, ?_, unhide HNEW⟩
          · rw [show N - (p + k) = m - k by omega]; exact unhide HRT
          · rw [List.length_append, HLL.out, List.map_append]; exact unhide HO5
          · intro x hx
            rcases List.mem_append.1 hx with h | h
            · exact (unhide HL) x h
            · rw [List.mem_singleton] at h; rw [h]; exact ha
          · rw [List.length_append, HLL.out]; simp; omega
        case measure => omega
      · have hbad := num_bad hl (by rw [HLEN.out]; exact hgo) hbs hg he
        have HBAD := hide hbad
        have hei : ((e : Int) != 0) = true := by simp; omega
        clear hrd ho hb hl hbs hrW hbad hg hL
        go_wp2_with fail
        refine (unhide hG).mono ?_
        rintro e w2 ⟨rfl, rfl⟩
        go_wp2_with fail
        go_ret2
        exact ⟨_, [], false, rfl, World.ownsRow_nil _ _ _ _, unhide HB, .inr ⟨rfl, rfl, unhide HBAD⟩⟩
    · obtain rfl : p = N := by omega
      obtain rfl : m = 0 := by omega
      have hfin : bs = forms l := by
        rw [List.drop_of_length_le (by rw [HLEN.out]; exact Nat.le_refl _), List.append_nil] at hbs
        exact hbs
      have HFIN := hide hfin
      have hlp2 : L ≤ bs.length := by rw [HLEN.out]; exact hlp
      have HLP := hide hlp2
      clear hrd ho hb hl hbs hfin hL hlp2
      go_wp2_with fail
      go_ret2
      exact ⟨_, l, true, rfl, by rw [HLL.out]; exact unhide HO, unhide HB, .inl ⟨rfl, unhide HL, by rw [HLL.out]; exact unhide HLP, unhide HFIN⟩⟩
end Go.Proofs.Yteambdbcjcfdeaa
