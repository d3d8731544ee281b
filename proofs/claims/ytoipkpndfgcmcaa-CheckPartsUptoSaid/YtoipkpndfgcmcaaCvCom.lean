/-
  n workers at once and their starter beside older ones that only leave: what stands of the machine and of the trace whoever stands where, and how each kind of step keeps it. The conditions stand in each theorem. No program in sight.
-/
import Derived.Test.YtoipkpndfgcmcaaCvSit
namespace Go.Proofs.Ytoipkpndfgcmcaa.Crew
open Go Go.Conc Go.ConcN Go.RowKit Go.Proofs.Ytoipkpndfgcmcaa.Veils
open Go.ConcR (KK wgBlock WgAt stA smA rd wr mk Payload DC0 Bk g_of_ofEvents)
set_option linter.unusedVariables false
set_option linter.unusedSectionVars false
variable [Payload]

def OwnF (L : Lay) (J : Nat) (H : Nat → Option Nat) (k : Nat) (l : Loc) : Prop := ∃ i, k = J + 1 + i ∧ (l = .cell ⟨L.C, i, none⟩ ∨ ∃ a, l = .cell a ∧ H i = some a.block)
def RdF (J : Nat) (R : Nat → Nat → Prop) (k : Nat) (l : Loc) : Prop := ∃ i, k = J + 1 + i ∧ ∃ a, l = .cell a ∧ R i a.block
/-- Worker k has said its release-and-merge, heard; nothing of its own that counts, and no other release there, behind it. -/
def RelN (a : Addr) (t : Trace) (k r : Nat) : Prop := RelBy a t k r ∧ ∀ i, r < i → t.act? i ≠ some (.mark (.release a))
theorem RelN.app {a : Addr} {t u : Trace} {k r : Nat} (h : RelN a t k r) (hb : RelBy a (t ++ u) k r) (hu : ∀ op ∈ u, op.act ≠ .mark (.release a)) : RelN a (t ++ u) k r := by
  refine ⟨hb, fun i hi e => ?_⟩
  obtain ⟨op, ho, hoa⟩ := Option.map_eq_some_iff.1 e
  rcases getElem?_append_cases ho with ⟨_, ho'⟩ | ⟨_, hou⟩
  · exact h.2 i hi (by rw [act?_of ho', hoa])
  · exact hu op hou hoa
/-- The hidden blocks: the groups of phases past, and this one's. -/
structure XOk (L : Lay) (X : Nat → Prop) : Prop where
  lt : ∀ b, X b → b < L.N0
  wg : X L.Wg
  c : ¬ X L.C
section
variable (P : Program) (L : Lay) (X : Nat → Prop) (J M K : Nat) (val : Nat → Value)
structure Com2 (j : Nat) (gs : Array Goroutine) (w : World) (t : Trace) (D : Nat → WD) (H : Nat → Option Nat) (Lo : Nat → Nat) (R : Nat → Nat → Prop) (d0 Lw : Nat) (q : Nat → Nat) : Prop where
  size : gs.size = J + 1 + j
  old : ∀ i g, 0 < i → i ≤ J → gs[i]? = some g → QuitsD P (q i) (Deaf t i) g
  wk : ∀ i, i < j → ∃ g, gs[J + 1 + i]? = some g ∧ WS P L M K (Lo i) (R i) i (val i) (H i) (D i).stage (D i).fuel (D i).deaf g w
  ct : CT (ShX X) (OwnF L J H) (RdF J R) t (J + j)
  kn : ∀ i a, touchAt t i = some a → ¬ ShX X a.loc → Knows t 0 i ∨ ∃ g, t.g? i = some g ∧ J < g ∧ t.counts i
  over : ∀ i g, t.g? i = some g → g ≠ 0 → g ≤ J → t.counts i → ∃ r, t.g? r = some 0 ∧ HappensBefore t i r
  deaf0 : Deaf t 0 = d0
  deafW : ∀ i, i < j → Deaf t (J + 1 + i) = (D i).deaf
  rel : ∀ i, i < j → (D i).stage ≤ 6 → ∃ r, RelN (stA L.Wg) t (J + 1 + i) r
  has : ∀ i, i < j → (D i).stage ≤ 6 → Has L.C i (val i) w
  pay : PayAt L.C L.n w
  seen : ∀ op ∈ t, LowT w.heap.size op.act
  n0 : L.N0 ≤ w.heap.size
  lo : ∀ i, i < j → L.N0 ≤ Lo i ∧ Lo i ≤ Lw
  lw : L.N0 ≤ Lw ∧ Lw ≤ w.heap.size
  hf : ∀ i b, H i = some b → i < j ∧ Half L w b ∧ b < w.heap.size
  hinj : ∀ i i' b, H i = some b → H i' = some b → i = i'
  rd : ∀ i b, R i b → i < j ∧ b < Lo i ∧ b ≠ L.C ∧ b ≠ L.Wg ∧ ¬ X b ∧ ¬ Half L w b
end
section
variable {P : Program} {L : Lay} {X : Nat → Prop} {J M K : Nat} {val : Nat → Value} {j : Nat} {gs : Array Goroutine} {w w' : World} {t : Trace} {D : Nat → WD} {H : Nat → Option Nat} {Lo : Nat → Nat} {R : Nat → Nat → Prop} {d0 Lw : Nat} {q : Nat → Nat}
theorem fams_apart (hL : L.Ok) (hX : XOk L X) (hf : ∀ i b, H i = some b → Half L w b) (hinj : ∀ i i' b, H i = some b → H i' = some b → i = i') (hrd : ∀ i b, R i b → b ≠ L.C ∧ ¬ X b ∧ ¬ Half L w b) : Apart (ShX X) (OwnF L J H) (RdF J R) := by
  have hC : ∀ i b, H i = some b → b ≠ L.C := fun i b h e => hL.nC (w := w) (e ▸ hf i b h)
  refine ⟨fun k k' l h h' => ?_, fun k k' l h h' => ?_, fun k l h hs => ?_, fun k l h hs => ?_⟩
  · obtain ⟨i, rfl, h⟩ := h
    obtain ⟨i', rfl, h'⟩ := h'
    rcases h with rfl | ⟨a, rfl, h⟩ <;> rcases h' with e | ⟨a', e, h'⟩
    · cases e; rfl
    · cases e; exact absurd rfl (hC _ _ h')
    · cases e; exact absurd rfl (hC _ _ h)
    · cases e; rw [hinj i i' _ h h']
  · obtain ⟨i, rfl, h⟩ := h
    obtain ⟨i', rfl, a', rfl, h'⟩ := h'
    rcases h with e | ⟨a, e, h⟩
    · cases e; exact (hrd _ _ h').1 rfl
    · cases e; exact (hrd _ _ h').2.2 (hf _ _ h)
  · obtain ⟨a', rfl, hs⟩ := hs
    obtain ⟨i, rfl, h⟩ := h
    rcases h with e | ⟨a, e, h⟩
    · cases e; exact hX.c hs
    · cases e
      have := hX.lt _ hs
      have := (hf _ _ h).1
      omega
  · obtain ⟨a', rfl, hs⟩ := hs
    obtain ⟨i, rfl, a, e, h⟩ := h
    cases e
    exact (hrd _ _ h).2.1 hs
theorem Com2.apart (hL : L.Ok) (hX : XOk L X) (h : Com2 P L X J M K val j gs w t D H Lo R d0 Lw q) : Apart (ShX X) (OwnF L J H) (RdF J R) :=
  fams_apart hL hX (fun i b hb => (h.hf i b hb).2.1) h.hinj (fun i b hb => ⟨(h.rd i b hb).2.2.1, (h.rd i b hb).2.2.2.2.1, (h.rd i b hb).2.2.2.2.2⟩)
theorem Com2.at (h : Com2 P L X J M K val j gs w t D H Lo R d0 Lw q) (d : Nat) : Com2 P L X J M K val j gs (w.at d) t D H Lo R d0 Lw q :=
  ⟨h.size, h.old, fun i hi => let ⟨g, hg, hs⟩ := h.wk i hi; ⟨g, hg, hs.rely (RX.at w d) (h.lo i hi).1 h.n0⟩, h.ct, h.kn, h.over, h.deaf0, h.deafW, h.rel, h.has, h.pay, h.seen, h.n0, h.lo, h.lw, h.hf, h.hinj, h.rd⟩
theorem kn_app {u : Trace} (h : ∀ i a, touchAt t i = some a → ¬ ShX X a.loc → Knows t 0 i ∨ ∃ g, t.g? i = some g ∧ J < g ∧ t.counts i) (hu : ∀ op ∈ u, op.g = 0 ∨ (J < op.g ∧ ∀ x, op.act.touch? = some x → ¬ ShX X x.loc → x.loc.isMemory = true ∧ x.kind ≠ .atomic) ∨ op.act.touch? = none) : ∀ i a, touchAt (t ++ u) i = some a → ¬ ShX X a.loc → Knows (t ++ u) 0 i ∨ ∃ g, (t ++ u).g? i = some g ∧ J < g ∧ (t ++ u).counts i := by
  intro i a ha hs
  obtain ⟨x, hx, hxa⟩ := touch_of ha
  rcases getElem?_append_cases hx with ⟨hi, hx'⟩ | ⟨_, hxu⟩
  · rcases h i a (by rw [touchAt_of hx']; exact hxa) hs with h1 | ⟨g, h1, h2, h3⟩
    · exact .inl (h1.app u)
    · exact .inr ⟨g, by rw [g?_old hi]; exact h1, h2, (counts_old hi).2 h3⟩
  · rcases hu x hxu with h0 | ⟨h0, h1⟩ | h0
    · have := knows_own hx
      rw [h0] at this
      exact .inl this
    · exact .inr ⟨x.g, by simp [Trace.g?, hx], h0, a, ha, (h1 a hxa hs).1, .inl (h1 a hxa hs).2⟩
    · rw [h0] at hxa; cases hxa
theorem over_app {u : Trace} (h : ∀ i g, t.g? i = some g → g ≠ 0 → g ≤ J → t.counts i → ∃ r, t.g? r = some 0 ∧ HappensBefore t i r) (hu : ∀ op ∈ u, op.g = 0 ∨ J < op.g ∨ op.act.touch? = none) : ∀ i g, (t ++ u).g? i = some g → g ≠ 0 → g ≤ J → (t ++ u).counts i → ∃ r, (t ++ u).g? r = some 0 ∧ HappensBefore (t ++ u) i r := by
  intro i g hg hne hJ hc
  obtain ⟨x, hx, _⟩ := hc
  obtain ⟨op, hop, hox⟩ := touch_of hx
  rcases getElem?_append_cases hop with ⟨hi, hop'⟩ | ⟨_, hopu⟩
  · obtain ⟨r, hr, hb⟩ := h i g (by rw [← g?_old (u := u) hi]; exact hg) hne hJ ((counts_old hi).1 ⟨x, hx, ‹_›⟩)
    have hrl : r < t.size := by
      unfold Trace.g? at hr
      obtain ⟨z, hz, _⟩ := Option.map_eq_some_iff.1 hr
      exact lt_size_of_getElem? hz
    exact ⟨r, by rw [g?_old hrl]; exact hr, hb_app u hb⟩
  · have hgo : op.g = g := by simpa [Trace.g?, hop] using hg
    rcases hu op hopu with h0 | h0 | h0
    · omega
    · omega
    · rw [h0] at hox; cases hox
theorem touch_none_of {k : Nat} {fn : FuncId} {pos : String} {es : Array Event} (h : ∀ e ∈ es, e.mute = true) : ∀ op ∈ MemOp.ofEvents k fn pos es, op.act.touch? = none := fun op hop => by
  obtain ⟨e, he, rfl⟩ := Go.Conc.mem_ofEvents hop
  exact touch_mute (h e he)
theorem deaf_apart {g k : Nat} (h : g ≠ k) {fn : FuncId} {pos : String} {es : Array Event} : Deaf (t ++ MemOp.ofEvents k fn pos es) g = Deaf t g := Deaf_other t (g := g) (g' := k) (fun e => h e.symm) _ (fun op hop => by obtain ⟨e, _, rfl⟩ := Go.Conc.mem_ofEvents hop; rfl)
/-- A block that nobody has named yet may be given to a worker. -/
theorem ct_widen {Sh : Loc → Prop} {Own Own' Rd : Nat → Loc → Prop} {n B b : Nat} (h : CT Sh Own Rd t n) (hs : ∀ op ∈ t, LowT B op.act) (hb : B ≤ b) (h1 : ∀ k l, Own k l → Own' k l) (h2 : ∀ k l, Own' k l → Own k l ∨ ∃ a, l = .cell a ∧ a.block = b) : CT Sh Own' Rd t n := by
  have hno : ∀ i a, touchAt t i = some a → ∀ x, a.loc = .cell x → x.block ≠ b := fun i a ha x hx e => by
    obtain ⟨op, hop, hox⟩ := touch_of ha
    have hl : a.loc.low B := hs op (Array.mem_of_getElem? hop) a hox
    rw [hx] at hl
    have hl : x.block < B := hl
    omega
  refine ⟨h.quiet, fun k k1 kj l hl => ?_, h.rd, fun l hs hl => h.free l hs fun k k1 kj => ⟨fun x => (hl k k1 kj).1 (h1 k l x), (hl k k1 kj).2⟩, fun l hs hl => h.mine l hs fun k k1 kj x => hl k k1 kj (h1 k l x), h.nr, h.gs⟩
  rcases h2 k l hl with h3 | ⟨a, rfl, h3⟩
  · exact h.own k k1 kj l h3
  · exact fun i x ha he => absurd h3 (hno i x ha a he)
/-- What a step is in company: by whom, which accesses. -/
theorem over_of {u : Trace} (hu : ∀ op ∈ u, op.g = 0 ∨ (J < op.g ∧ ∀ x, op.act.touch? = some x → ¬ ShX X x.loc → x.loc.isMemory = true ∧ x.kind ≠ .atomic) ∨ op.act.touch? = none) : ∀ op ∈ u, op.g = 0 ∨ J < op.g ∨ op.act.touch? = none := fun op hop => (hu op hop).imp id (Or.imp And.left id)
theorem seen_app2 (h : ∀ op ∈ t, LowT w.heap.size op.act) (hs : w.heap.size ≤ w'.heap.size) {k : Nat} {fn : FuncId} {pos : String} {es : Array Event} (hu : ∀ e ∈ es, LowT w'.heap.size (MemAct.ofEvent e)) : ∀ op ∈ t ++ MemOp.ofEvents k fn pos es, LowT w'.heap.size op.act := fun op hop => by
  rcases Array.mem_append.1 hop with h1 | h1
  · exact (h op h1).mono hs
  · obtain ⟨e, he, rfl⟩ := Go.Conc.mem_ofEvents h1
    exact hu e he
/-- A STEP OF WORKER NUMBER i. -/
theorem Com2.stepW (hL : L.Ok) (hX : XOk L X) (h : Com2 P L X J M K val j gs w t D H Lo R d0 Lw q) {i : Nat} (hi : i < j) {g g' : Goroutine} {fn : FuncId} {pos : String} {es : Array Event} {s' m' dd' : Nat} {H' : Option Nat}
    (hH : H' = H i ∨ (H i = none ∧ H' = some w.heap.size ∧ Half L w' w.heap.size))
    (hsz : w.heap.size ≤ w'.heap.size) (hHsz : H' ≠ H i → w.heap.size < w'.heap.size)
    (hhalf : ∀ b, Half L w b → Half L w' b) (hback : ∀ b, b < w.heap.size → Half L w' b → Half L w b)
    (hrx : ∀ i', i' < j → i' ≠ i → RX L (Lo i') (H i') i' w w')
    (hs' : WS P L M K (Lo i) (R i) i (val i) H' s' m' dd' g' w')
    (hok : ∀ H2, H2 = upd H i H' → ∀ op ∈ MemOp.ofEvents (J + 1 + i) fn pos es, OkW (ShX X) (OwnF L J H2) (RdF J R) (J + 1 + i) op) (hlow : ∀ e ∈ es, LowT w'.heap.size (MemAct.ofEvent e)) (hnr : ∀ e ∈ es, e.loc ≠ .mark (.release (stA L.Wg)))
    (hpl : ∀ e ∈ es, ∀ x, (MemAct.ofEvent e).touch? = some x → ¬ ShX X x.loc → x.loc.isMemory = true ∧ x.kind ≠ .atomic)
    (hdeaf : deafBehind (D i).deaf es = dd')
    (hrel : s' ≤ 6 → ∃ r, RelN (stA L.Wg) (t ++ MemOp.ofEvents (J + 1 + i) fn pos es) (J + 1 + i) r)
    (hhas : s' ≤ 6 → Has L.C i (val i) w') (hpay : PayAt L.C L.n w') :
    Com2 P L X J M K val j ((gs.map (woken P g g' w')).setIfInBounds (J + 1 + i) g') w' (t ++ MemOp.ofEvents (J + 1 + i) fn pos es) (upd D i ⟨s', m', dd'⟩) (upd H i H') Lo R d0 Lw q := by
  have hne : ∀ i', i' ≠ i → J + 1 + i' ≠ J + 1 + i := fun i' h => by omega
  have hinj' : ∀ a b c, upd H i H' a = some c → upd H i H' b = some c → a = b := by
    intro a b c ha hb
    rcases hH with rfl | ⟨h0, rfl, _⟩
    · have e : upd H i (H i) = H := by
        funext x
        by_cases hx : x = i
        · rw [hx, upd_same]
        · rw [upd_ne H _ hx]
      rw [e] at ha hb
      exact h.hinj a b c ha hb
    · by_cases ea : a = i <;> by_cases eb : b = i
      · rw [ea, eb]
      · subst ea
        rw [upd_same] at ha
        rw [upd_ne H _ eb] at hb
        cases ha
        have := (h.hf b _ hb).2.2
        omega
      · subst eb
        rw [upd_same] at hb
        rw [upd_ne H _ ea] at ha
        cases hb
        have := (h.hf a _ ha).2.2
        omega
      · rw [upd_ne H _ ea] at ha
        rw [upd_ne H _ eb] at hb
        exact h.hinj a b c ha hb
  have hf' : ∀ a b, upd H i H' a = some b → a < j ∧ Half L w' b ∧ b < w'.heap.size := by
    intro a b ha
    by_cases ea : a = i
    · subst ea
      rw [upd_same] at ha
      rcases hH with rfl | ⟨h0, rfl, h1⟩
      · obtain ⟨x, y, z⟩ := h.hf a b ha
        exact ⟨x, hhalf b y, by omega⟩
      · cases ha
        exact ⟨hi, h1, hHsz (by rw [h0]; simp)⟩
    · rw [upd_ne H _ ea] at ha
      obtain ⟨x, y, z⟩ := h.hf a b ha
      exact ⟨x, hhalf b y, by omega⟩
  have hrd' : ∀ a b, R a b → a < j ∧ b < Lo a ∧ b ≠ L.C ∧ b ≠ L.Wg ∧ ¬ X b ∧ ¬ Half L w' b := by
    intro a b hab
    obtain ⟨x1, x2, x3, x4, x5, x6⟩ := h.rd a b hab
    have h1 := (h.lo a x1).2
    have h2 := h.lw.2
    exact ⟨x1, x2, x3, x4, x5, fun hh => x6 (hback b (by omega) hh)⟩
  have hct : CT (ShX X) (OwnF L J (upd H i H')) (RdF J R) t (J + j) := by
    rcases hH with rfl | ⟨h0, rfl, _⟩
    · have e : upd H i (H i) = H := by
        funext x
        by_cases hx : x = i
        · rw [hx, upd_same]
        · rw [upd_ne H _ hx]
      rw [e]
      exact h.ct
    · refine ct_widen (b := w.heap.size) h.ct h.seen (Nat.le_refl _) (fun k l hk => ?_) (fun k l hk => ?_)
      · obtain ⟨a, rfl, hk⟩ := hk
        refine ⟨a, rfl, hk.imp id fun ⟨x, e1, e2⟩ => ⟨x, e1, ?_⟩⟩
        by_cases ea : a = i
        · subst ea; rw [h0] at e2; cases e2
        · rw [upd_ne H _ ea]; exact e2
      · obtain ⟨a, rfl, hk⟩ := hk
        rcases hk with hk | ⟨x, e1, e2⟩
        · exact .inl ⟨a, rfl, .inl hk⟩
        · by_cases ea : a = i
          · subst ea
            rw [upd_same] at e2
            injection e2 with e2
            exact .inr ⟨x, e1, e2.symm⟩
          · rw [upd_ne H _ ea] at e2
            exact .inl ⟨a, rfl, .inr ⟨x, e1, e2⟩⟩
  have hA : Apart (ShX X) (OwnF L J (upd H i H')) (RdF J R) := fams_apart (w := w') hL hX (fun a b hb => (hf' a b hb).2.1) hinj' (fun a b hb => ⟨(hrd' a b hb).2.2.1, (hrd' a b hb).2.2.2.2.1, (hrd' a b hb).2.2.2.2.2⟩)
  have happ : ∀ op ∈ MemOp.ofEvents (J + 1 + i) fn pos es, op.g = 0 ∨ (J < op.g ∧ ∀ x, op.act.touch? = some x → ¬ ShX X x.loc → x.loc.isMemory = true ∧ x.kind ≠ .atomic) ∨ op.act.touch? = none := fun op hop => by
    obtain ⟨e, he, rfl⟩ := Go.Conc.mem_ofEvents hop
    exact .inr (.inl ⟨by simp only; omega, hpl e he⟩)
  refine ⟨by simp [h.size], fun a x ha hJ hx => ?_, fun a ha => ?_, hct.appW hA (by omega) (by omega) (hok _ rfl), kn_app h.kn happ, over_app h.over (over_of happ), by rw [deaf_apart (by omega), h.deaf0], fun a ha => ?_, fun a ha hst => ?_, fun a ha hst => ?_, hpay, seen_app2 h.seen hsz hlow, Nat.le_trans h.n0 hsz, h.lo, ⟨h.lw.1, Nat.le_trans h.lw.2 hsz⟩, hf', hinj', hrd'⟩
  · rw [get_map_set _ _ _ _ (by omega)] at hx
    obtain ⟨y, hy, rfl⟩ := Option.map_eq_some_iff.1 hx
    have hq := h.old a y ha hJ hy
    rw [woken_quitsD hq, deaf_apart (by omega)]
    exact hq
  · by_cases e : a = i
    · subst e
      exact ⟨g', get_map_set_same _ _ _ (by rw [h.size]; omega), by rw [upd_same, upd_same]; exact hs'⟩
    · obtain ⟨x, hx, hsx⟩ := h.wk a ha
      refine ⟨x, by rw [get_map_set _ _ _ _ (by omega), hx, Option.map_some, hsx.woken (h.lo a ha).1 h.n0], ?_⟩
      rw [upd_ne D _ e, upd_ne H _ e]
      exact hsx.rely (hrx a ha e) (h.lo a ha).1 h.n0
  · by_cases e : a = i
    · subst e; rw [Deaf_own, h.deafW a ha, upd_same]; exact hdeaf
    · rw [deaf_apart (hne a e), h.deafW a ha, upd_ne D _ e]
  · by_cases e : a = i
    · subst e; rw [upd_same] at hst; exact hrel hst
    · rw [upd_ne D _ e] at hst
      obtain ⟨r, hr⟩ := h.rel a ha hst
      exact ⟨r, hr.app (hr.1.appOther g_of_ofEvents (by omega)) (norel_of hnr)⟩
  · by_cases e : a = i
    · subst e; rw [upd_same] at hst; exact hhas hst
    · rw [upd_ne D _ e] at hst
      exact (hrx a ha e).cell.trans (h.has a ha hst)
/-- A STEP OF THE STARTER's. -/
theorem Com2.step0 (hL : L.Ok) (hX : XOk L X) (h : Com2 P L X J M K val j gs w t D H Lo R d0 Lw q) {a a' : Goroutine} {fn : FuncId} {pos : String} {es : Array Event}
    (hsz : w.heap.size ≤ w'.heap.size) (hhalf : ∀ b, Half L w b → Half L w' b) (hback : ∀ b, b < w.heap.size → Half L w' b → Half L w b)
    (hrx : ∀ i, i < j → RX L (Lo i) (H i) i w w')
    (hok : ∀ op ∈ MemOp.ofEvents 0 fn pos es, Ok0 (ShX X) (OwnF L J H) (RdF J R) (J + j) op) (hlow : ∀ e ∈ es, LowT w'.heap.size (MemAct.ofEvent e)) (hnr : ∀ e ∈ es, e.loc ≠ .mark (.release (stA L.Wg))) (hpay : PayAt L.C L.n w') :
    Com2 P L X J M K val j ((gs.map (woken P a a' w')).setIfInBounds 0 a') w' (t ++ MemOp.ofEvents 0 fn pos es) D H Lo R (deafBehind d0 es) Lw q := by
  have happ : ∀ op ∈ MemOp.ofEvents 0 fn pos es, op.g = 0 ∨ (J < op.g ∧ ∀ x, op.act.touch? = some x → ¬ ShX X x.loc → x.loc.isMemory = true ∧ x.kind ≠ .atomic) ∨ op.act.touch? = none := fun op hop => by
    obtain ⟨e, he, rfl⟩ := Go.Conc.mem_ofEvents hop
    exact .inl rfl
  refine ⟨by simp [h.size], fun i x hi hJ hx => ?_, fun i hi => ?_, h.ct.app0 (h.apart hL hX) hok, kn_app h.kn happ, over_app h.over (over_of happ), by rw [Deaf_own, h.deaf0], fun i hi => by rw [deaf_apart (by omega), h.deafW i hi], fun i hi hst => ?_, fun i hi hst => (hrx i hi).cell.trans (h.has i hi hst), hpay, seen_app2 h.seen hsz hlow, Nat.le_trans h.n0 hsz, h.lo, ⟨h.lw.1, Nat.le_trans h.lw.2 hsz⟩, fun i b hb => ?_, h.hinj, fun i b hb => ?_⟩
  · rw [get_map_set _ _ _ _ (by omega)] at hx
    obtain ⟨y, hy, rfl⟩ := Option.map_eq_some_iff.1 hx
    have hq := h.old i y hi hJ hy
    rw [woken_quitsD hq, deaf_apart (by omega)]
    exact hq
  · obtain ⟨x, hx, hsx⟩ := h.wk i hi
    exact ⟨x, by rw [get_map_set _ _ _ _ (by omega), hx, Option.map_some, hsx.woken (h.lo i hi).1 h.n0], hsx.rely (hrx i hi) (h.lo i hi).1 h.n0⟩
  · obtain ⟨r, hr⟩ := h.rel i hi hst
    exact ⟨r, hr.app (hr.1.appOther g_of_ofEvents (by omega)) (norel_of hnr)⟩
  · obtain ⟨x, y, z⟩ := h.hf i b hb
    exact ⟨x, hhalf b y, by omega⟩
  · obtain ⟨x1, x2, x3, x4, x5, x6⟩ := h.rd i b hb
    have h1 := (h.lo i x1).2
    have h2 := h.lw.2
    exact ⟨x1, x2, x3, x4, x5, fun hh => x6 (hback b (by omega) hh)⟩
theorem CT.other {Sh : Loc → Prop} {Own Rd Rd' : Nat → Loc → Prop} {n : Nat} (h : CT Sh Own Rd t n) (he : ∀ k, k ≤ n → ∀ l, Rd' k l ↔ Rd k l) : CT Sh Own Rd' t n :=
  ⟨h.quiet, h.own, fun k k1 kn l hl => h.rd k k1 kn l ((he k kn l).1 hl), fun l hs hl => h.free l hs fun k k1 kn => ⟨(hl k k1 kn).1, fun x => (hl k k1 kn).2 ((he k kn l).2 x)⟩, h.mine, h.nr, h.gs⟩
/-- THE go STATEMENT. -/
theorem Com2.spawn (hL : L.Ok) (hX : XOk L X) (h : Com2 P L X J M K val j gs w t D H Lo R 0 Lw q) {a' child : Goroutine} {x y : MemOp} {m : Nat} {Rd : Nat → Prop} (hx : x.g = 0 ∧ x.act = .go (J + 1 + j)) (hy : y.g = J + 1 + j ∧ y.act = .start)
    (hRd : ∀ b, Rd b → b < w.heap.size ∧ b ≠ L.C ∧ b ≠ L.Wg ∧ ¬ X b ∧ ¬ Half L w b)
    (hc : Goes P false (RX L w.heap.size none j) (DX L Rd none j) (AtMk P L M K w.heap.size Rd j (val j)) m child w) :
    Com2 P L X J M K val (j + 1) ((gs.setIfInBounds 0 a').push child) w (t ++ #[x, y]) (upd D j ⟨7, m + 1 + (M + 1 + K), 0⟩) H (upd Lo j w.heap.size) (upd R j Rd) 0 w.heap.size q := by
  have hm : ∀ op ∈ #[x, y], op = x ∨ op = y := by intro op hop; simpa using hop
  have hst : ∀ op ∈ #[x, y], op.act ≠ .mark .disable ∧ op.act ≠ .mark .enable := by
    intro op hop
    rcases hm op hop with rfl | rfl
    · rw [hx.2]; exact ⟨by simp, by simp⟩
    · rw [hy.2]; exact ⟨by simp, by simp⟩
  have happ : ∀ op ∈ #[x, y], op.g = 0 ∨ (J < op.g ∧ ∀ x, op.act.touch? = some x → ¬ ShX X x.loc → x.loc.isMemory = true ∧ x.kind ≠ .atomic) ∨ op.act.touch? = none := by
    intro op hop
    rcases hm op hop with rfl | rfl
    · rw [hx.2]; exact .inr (.inr rfl)
    · rw [hy.2]; exact .inr (.inr rfl)
  have hHj : H j = none := by
    cases e : H j with
    | none => rfl
    | some b => have := (h.hf j b e).1; omega
  have hrd' : ∀ i b, upd R j Rd i b → i < j + 1 ∧ b < upd Lo j w.heap.size i ∧ b ≠ L.C ∧ b ≠ L.Wg ∧ ¬ X b ∧ ¬ Half L w b := by
    intro i b hb
    by_cases e : i = j
    · subst e
      rw [upd_same] at hb ⊢
      obtain ⟨h1, h2⟩ := hRd b hb
      exact ⟨by omega, h1, h2⟩
    · rw [upd_ne R _ e] at hb
      rw [upd_ne Lo _ e]
      obtain ⟨h1, h2⟩ := h.rd i b hb
      exact ⟨by omega, h2⟩
  have hA : Apart (ShX X) (OwnF L J H) (RdF J (upd R j Rd)) := fams_apart (w := w) hL hX (fun a b hb => (h.hf a b hb).2.1) h.hinj (fun a b hb => ⟨(hrd' a b hb).2.2.1, (hrd' a b hb).2.2.2.2.1, (hrd' a b hb).2.2.2.2.2⟩)
  have hct0 : CT (ShX X) (OwnF L J H) (RdF J (upd R j Rd)) t (J + j) := CT.other h.ct fun k hk l => by
    constructor
    · rintro ⟨i, rfl, a, rfl, hb⟩
      rw [upd_ne R _ (by omega)] at hb
      exact ⟨i, rfl, a, rfl, hb⟩
    · rintro ⟨i, rfl, a, rfl, hb⟩
      exact ⟨i, rfl, a, rfl, by rw [upd_ne R _ (by omega)]; exact hb⟩
  have eJ : J + j + 1 = J + 1 + j := by omega
  have hct : CT (ShX X) (OwnF L J H) (RdF J (upd R j Rd)) (t ++ #[x, y]) (J + (j + 1)) := by
    have := hct0.fork hA (x := x) (y := y) ⟨hx.1, by rw [eJ]; exact hx.2⟩ ⟨by rw [eJ]; exact hy.1, hy.2⟩ h.deaf0
    exact this
  have hlo : ∀ i, i < j + 1 → L.N0 ≤ upd Lo j w.heap.size i ∧ upd Lo j w.heap.size i ≤ w.heap.size := fun i hi => by
    by_cases e : i = j
    · subst e; rw [upd_same]; exact ⟨h.n0, Nat.le_refl _⟩
    · rw [upd_ne Lo _ e]
      have h1 := h.lo i (by omega)
      exact ⟨h1.1, Nat.le_trans h1.2 h.lw.2⟩
  refine ⟨by simp [h.size]; omega, fun i g hi hJ hg => ?_, fun i hi => ?_, hct, kn_app h.kn happ, over_app h.over (over_of happ), by rw [Deaf_still t 0 _ hst, h.deaf0], fun i hi => ?_, fun i hi hs => ?_, fun i hi hs => ?_, h.pay, fun op hop => ?_, h.n0, hlo, ⟨h.n0, Nat.le_refl _⟩, fun i b hb => ?_, h.hinj, hrd'⟩
  · rw [Array.getElem?_push_lt (by simp [h.size]; omega), ← Array.getElem?_eq_getElem, Array.getElem?_setIfInBounds_ne (by omega)] at hg
    rw [Deaf_still t _ _ hst]
    exact h.old i g hi hJ hg
  · rcases Nat.lt_or_ge i j with hlt | hge
    · obtain ⟨g, hg, hsg⟩ := h.wk i hlt
      refine ⟨g, ?_, by rw [upd_ne D _ (by omega), upd_ne Lo _ (by omega), upd_ne R _ (by omega)]; exact hsg⟩
      rw [Array.getElem?_push_lt (by simp [h.size]; omega), ← Array.getElem?_eq_getElem, Array.getElem?_setIfInBounds_ne (by omega)]
      exact hg
    · obtain rfl : i = j := by omega
      refine ⟨child, ?_, by rw [upd_same, upd_same, upd_same, hHj]; exact .pre hc⟩
      rw [show J + 1 + i = (gs.setIfInBounds 0 a').size by simp [h.size], Array.getElem?_push_size]
  · rw [Deaf_still t _ _ hst]
    rcases Nat.lt_or_ge i j with hlt | hge
    · rw [h.deafW i hlt, upd_ne D _ (by omega)]
    · obtain rfl : i = j := by omega
      rw [upd_same]
      exact Deaf_absent fun a op ha e => by have := h.ct.gs a op ha; omega
  · rcases Nat.lt_or_ge i j with hlt | hge
    · rw [upd_ne D _ (by omega)] at hs
      obtain ⟨r, hr⟩ := h.rel i hlt hs
      refine ⟨r, hr.app (hr.1.appNot fun op hop => ?_) fun op hop => ?_⟩
      · rcases hm op hop with rfl | rfl
        · rw [hx.1]; omega
        · rw [hy.1]; omega
      · rcases hm op hop with rfl | rfl
        · rw [hx.2]; simp
        · rw [hy.2]; simp
    · obtain rfl : i = j := by omega
      rw [upd_same] at hs
      simp at hs
  · rcases Nat.lt_or_ge i j with hlt | hge
    · rw [upd_ne D _ (by omega)] at hs
      exact h.has i hlt hs
    · obtain rfl : i = j := by omega
      rw [upd_same] at hs
      simp at hs
  · rcases Array.mem_append.1 hop with h1 | h1
    · exact h.seen op h1
    · rcases hm op h1 with rfl | rfl
      · exact LowT.none (by rw [hx.2]; rfl)
      · exact LowT.none (by rw [hy.2]; rfl)
  · obtain ⟨h1, h2⟩ := h.hf i b hb
    exact ⟨by omega, h2⟩
/-- A STEP OF AN OLDER ONE that only leaves. -/
theorem Com2.stepOld (hL : L.Ok) (hX : XOk L X) (h : Com2 P L X J M K val j gs w t D H Lo R d0 Lw q) {k n : Nat} (h1 : 1 ≤ k) (hJ : k ≤ J) {g g' : Goroutine} {fn : FuncId} {pos : String} {es : Array Event} (hm : ∀ e ∈ es, e.mute = true) (hq : QuitsD P n (deafBehind (Deaf t k) es) g') :
    Com2 P L X J M K val j ((gs.map (woken P g g' w)).setIfInBounds k g') w (t ++ MemOp.ofEvents k fn pos es) D H Lo R d0 Lw (upd q k n) := by
  have happ : ∀ op ∈ MemOp.ofEvents k fn pos es, op.g = 0 ∨ (J < op.g ∧ ∀ x, op.act.touch? = some x → ¬ ShX X x.loc → x.loc.isMemory = true ∧ x.kind ≠ .atomic) ∨ op.act.touch? = none := fun op hop => by
    obtain ⟨e, he, rfl⟩ := Go.Conc.mem_ofEvents hop
    exact .inr (.inr (touch_mute (hm e he)))
  have hnr : ∀ e ∈ es, e.loc ≠ .mark (.release (stA L.Wg)) := fun e he hl => by
    have := hm e he
    unfold Event.mute at this
    obtain ⟨loc, wr, sy⟩ := e
    simp only at hl
    subst hl
    cases this
  refine ⟨by simp [h.size], fun i x hi hi2 hx => ?_, fun i hi => ?_, h.ct.appW (h.apart hL hX) h1 (by omega) (fun op hop => ?_), kn_app h.kn happ, over_app h.over (over_of happ), by rw [deaf_apart (by omega), h.deaf0], fun i hi => by rw [deaf_apart (by omega), h.deafW i hi], fun i hi hst => ?_, h.has, h.pay, seen_app2 h.seen (Nat.le_refl _) (fun e he => LowT.none (touch_mute (hm e he))), h.n0, h.lo, h.lw, h.hf, h.hinj, h.rd⟩
  · by_cases e : i = k
    · subst e
      rw [get_map_set_same _ _ _ (by rw [h.size]; omega)] at hx
      cases hx
      rw [upd_same, Deaf_own]
      exact hq
    · rw [get_map_set _ _ _ _ (fun e' => e e'.symm)] at hx
      obtain ⟨y, hy, rfl⟩ := Option.map_eq_some_iff.1 hx
      have hqi := h.old i y hi hi2 hy
      rw [woken_quitsD hqi, deaf_apart e, upd_ne q _ e]
      exact hqi
  · obtain ⟨x, hx, hsx⟩ := h.wk i hi
    exact ⟨x, by rw [get_map_set _ _ _ _ (by omega), hx, Option.map_some, hsx.woken (h.lo i hi).1 h.n0], hsx⟩
  · have := touch_none_of hm op hop
    obtain ⟨e, he, rfl⟩ := Go.Conc.mem_ofEvents hop
    exact ⟨rfl, fun x hx => by rw [this] at hx; cases hx⟩
  · obtain ⟨r, hr⟩ := h.rel i hi hst
    exact ⟨r, hr.app (hr.1.appOther g_of_ofEvents (by omega)) (norel_of hnr)⟩
end
end Go.Proofs.Ytoipkpndfgcmcaa.Crew
