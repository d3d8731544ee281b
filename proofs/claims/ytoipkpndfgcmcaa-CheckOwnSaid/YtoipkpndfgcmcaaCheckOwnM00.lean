/-
  Two worlds alike but for hidden blocks and the tape: what comes to a value in the one comes to the same in the other, touching no hidden block and saying no mark. The condition is each theorem's own. No program in sight.
-/
import Derived.WalkKit
import Derived.Below
import Derived.Deep.LoopGhost
import Derived.Outline
import Derived.WalkSpells
import Derived.WalkLawsBesides
import Derived.Lib.Hide
import Derived.Laws.OwnMore
import Derived.Deep.AppendLies
import Derived.Deep.Draws
import Derived.Laws.Rows
import Derived.Maps.AppendAt
import Derived.RegionTactic
import Derived.OwnWalk
import Derived.Deep.OwnRows
import Derived.ChangeSame
import Derived.Laws.Tables
import Derived.Laws.BitsAllLaws
import Derived.Laws.BitsLemmas
import Derived.Laws.IdiomStrings
import Derived.ProofKit
import Derived.OpenShut
import Derived.ShutString
import Derived.ChangeOld
import Derived.SizedLaws
import Derived.Test.YtoipkpndfgcmcaaRows
import GoSem.Machine.Frame
import Derived.Conc.Events
import Derived.Laws.Sem

/-
  Words for memory that all walks of this seat use: a slice that reads as a list of cells, a block that is known whole, an append onto a row of the call's own whatever the source. No program in sight.
-/
namespace Go.Proofs.Ytoipkpndfgcmcaa
open Go.RowKit

theorem hide {p : Prop} (h : p) : Hid p := h
theorem unhide {p : Prop} (h : Hid p) : p := h
def U64 : Nat := 18446744073709551616
theorem block_of_add (a : Addr) (n : Nat) : (a.add n).block = a.block := by unfold Addr.add; split <;> rfl
theorem add_of_add (a : Addr) (i j : Nat) : (a.add i).add j = a.add (i + j) := by
  unfold Addr.add
  by_cases hi : i = 0 <;> by_cases hj : j = 0 <;> simp [hi, hj, Nat.add_assoc]

def Reads (w : World) (B size : Nat) (A : Option Addr) (n : Nat) (xs : List Value) : Prop :=
  xs.length = n * size ∧ (0 < n → ∃ ad, A = some ad ∧ ad.block < B ∧ ∀ j u, xs[j]? = some u → w.cell? (ad.add j) = some u)

section
variable {w w' : World} {B B' size n : Nat} {A : Option Addr} {xs : List Value}
theorem Reads.none_ : Reads w B size A 0 [] := ⟨by simp, fun h => absurd h (by omega)⟩
theorem Reads.at_ {k : Nat} (h : Reads w B 1 A n xs) (hk : k < n) : ∃ ad u, A = some ad ∧ ad.block < B ∧ xs[k]? = some u ∧ w.cell? (ad.add k) = some u := by
  obtain ⟨ad, e, hb, hc⟩ := h.2 (by omega)
  have hl : k < xs.length := by have := h.1; omega
  exact ⟨ad, xs[k], e, hb, List.getElem?_eq_getElem hl, hc k _ (List.getElem?_eq_getElem hl)⟩
theorem Reads.keep (h : Reads w B size A n xs) (hk : ∀ p : Addr, p.block < B → w'.cell? p = w.cell? p) : Reads w' B size A n xs :=
  ⟨h.1, fun hn => by
    obtain ⟨ad, e, hb, hc⟩ := h.2 hn
    exact ⟨ad, e, hb, fun j u hu => (hk _ (by rw [block_of_add]; exact hb)).trans (hc j u hu)⟩⟩
theorem Reads.more (h : Reads w B size A n xs) (hB : B ≤ B') : Reads w B' size A n xs :=
  ⟨h.1, fun hn => by
    obtain ⟨ad, e, hb, hc⟩ := h.2 hn
    exact ⟨ad, e, by omega, hc⟩⟩
theorem Reads.below (h : Reads w B size A n xs) (hb : Below B w w') : Reads w' B size A n xs := h.keep fun _ hp => hb.cell hp
theorem Reads.drew (h : Reads w B size A n xs) : Reads w.drew B size A n xs := h
theorem Reads.drewN (h : Reads w B size A n xs) (k : Nat) : Reads (w.drewN k) B size A n xs := h
theorem Reads.alloc (h : Reads w B size A n xs) (hB : B ≤ w.heap.size) (o : Obj) : Reads (w.alloc o) B size A n xs := h.keep fun p hp => World.cell?_alloc_lt w o p (by omega)
theorem Reads.setCell (h : Reads w B size A n xs) {p : Addr} (hB : B ≤ p.block) (u : Value) : Reads (w.setCell p u) B size A n xs :=
  h.keep fun q hq => World.cell?_setCell_other w p q u (fun e => by subst e; omega)
theorem Reads.grown (h : Reads w B size A n xs) {row : Option Nat} (hg : w.grownBy w' row) (hB : B ≤ w.heap.size) (hr : ∀ g, row = some g → B ≤ g) : Reads w' B size A n xs :=
  h.keep fun p hp => World.cell?_of_block (hg.block p.block (by omega) (fun e => by have := hr _ e.symm; omega))
theorem Reads.cut (h : Reads w B size A n xs) {k cap : Nat} (hk : k ≤ n) (hc : n ≤ cap) :
    Reads w B size (if cap = k then A else A.map (·.add (k * size))) (n - k) (xs.drop (k * size)) := by
  refine ⟨by rw [List.length_drop, h.1, Nat.sub_mul], fun hn => ?_⟩
  obtain ⟨ad, rfl, hb, hcell⟩ := h.2 (by omega)
  rw [if_neg (by omega)]
  refine ⟨ad.add (k * size), rfl, by rw [block_of_add]; exact hb, fun j u hu => ?_⟩
  rw [add_of_add]
  exact hcell _ u (by rw [← hu, List.getElem?_drop])
theorem Reads.of_own {base : Nat} {e : TypeId} {c : Nat} (h : w.ownsRow base e size (.slice A n c) n xs) : Reads w w.heap.size size A n xs := by
  refine ⟨h.1, fun hn => ?_⟩
  obtain ⟨g, cap, hv, _, hlt⟩ := h.form hn
  have hA : A = some ⟨g, 0, none⟩ := by injection hv
  subst hA
  exact ⟨_, rfl, hlt, h.cells (g := g) rfl⟩
end

def Blk (w : World) (g : Nat) (t : TypeId) (cs : Array Value) : Prop := w.heap[g]? = some (.cells cs t (0, 0))

section
variable {w w' : World} {g : Nat} {t : TypeId} {cs : Array Value}
theorem Blk.lt (h : Blk w g t cs) : g < w.heap.size := by
  rcases Nat.lt_or_ge g w.heap.size with hlt | hge
  · exact hlt
  · unfold Blk at h; rw [Array.getElem?_eq_none hge] at h; cases h
theorem Blk.cell (h : Blk w g t cs) (i : Nat) : w.cell? ⟨g, i, none⟩ = cs[i]? := cell_of_row w g i cs t (0, 0) h
theorem Blk.frozen (h : Blk w g t cs) (i : Nat) : w.frozen? ⟨g, i, none⟩ = false := by
  unfold Blk at h
  simp [World.frozen?, h]
theorem Blk.new (w : World) (t : TypeId) (cs : Array Value) : Blk (w.alloc (.cells cs t)) w.heap.size t cs := heap_alloc_new w _
theorem Blk.drew (h : Blk w g t cs) : Blk w.drew g t cs := h
theorem Blk.drewN (h : Blk w g t cs) (n : Nat) : Blk (w.drewN n) g t cs := h
theorem Blk.alloc (h : Blk w g t cs) (o : Obj) : Blk (w.alloc o) g t cs := (Below.heap_alloc w o g h.lt).trans h
theorem Blk.set_ (h : Blk w g t cs) (i : Nat) (u : Value) : Blk (w.setCell ⟨g, i, none⟩ u) g t (cs.setIfInBounds i u) := by
  unfold Blk at h ⊢
  simp [World.setCell, Array.getElem?_modify, h]
theorem Blk.far (h : Blk w g t cs) {p : Addr} (hp : g ≠ p.block) (u : Value) : Blk (w.setCell p u) g t cs := (Below.heap_setCell w p u g hp).trans h
theorem Blk.below {B : Nat} (h : Blk w g t cs) (hb : Below B w w') (hg : g < B) : Blk w' g t cs := (hb.block g hg).trans h
theorem Blk.grown {row : Option Nat} (h : Blk w g t cs) (hb : w.grownBy w' row) (hg : some g ≠ row) : Blk w' g t cs := (hb.block g h.lt hg).trans h
theorem Blk.ne_ {g' : Nat} {t' : TypeId} {cs' : Array Value} (h : Blk w g t cs) (h' : Blk w g' t' cs') (hne : t ≠ t') : g ≠ g' := by
  rintro rfl
  unfold Blk at h h'
  rw [h] at h'
  injection h' with h'
  injection h' with _ ht
  exact hne ht
theorem own_blk_ne {base : Nat} {e : TypeId} {size n : Nat} {v : Value} {xs : List Value} (h : w.ownsRow base e size v n xs) (hg : Blk w g t cs) (hne : e ≠ t) : v.ownBlock ≠ some g := by
  rcases h.2 with ⟨rfl, _⟩ | ⟨g', cap, cur, rfl, _, hh, _⟩
  · simp [Value.ownBlock]
  · intro he
    have : g' = g := by simpa [Value.ownBlock] using he
    subst this
    exact Blk.ne_ (t := e) hh hg hne rfl
end

section
variable {P : Program} (w : World)

theorem run_append_of_nil (base : Nat) (t ty e : TypeId) (i : TypeInfo) (size : Nat) (ht : P.underlying t = some (.slice e)) (hi : P.info? e = some i)
    (v : Value) (n : Nat) (xs : List Value) (hown : w.ownsRow base e size v n xs) (c : Nat) : (Builtin.append_ #[t, t] ty #[v, .slice none 0 c]).run P w = .ok v w := by
  rcases hown.2 with ⟨rfl, rfl⟩ | ⟨g, cap, cur, rfl, _, _, hnc, _⟩
  · simp [Builtin.append_, run_underlying ht, sizeOf, typeInfo, hi, Builtin.lenOf, Builtin.firstCells]
  · simp [Builtin.append_, run_underlying ht, sizeOf, typeInfo, hi, Builtin.lenOf, Builtin.firstCells, hnc, storeCells]

theorem run_append_any (base : Nat) (t ty e : TypeId) (i : TypeInfo) (z : Value) (size bytes : Nat) (ht : P.underlying t = some (.slice e)) (hi : P.info? e = some i) (hz : i.zero = some z)
    (hsize : i.size = size) (hby : i.bytes = bytes) (hzs : z.cells.size = size) (hsz : 0 < size)
    (v : Value) (n : Nat) (xs : List Value) (hown : w.ownsRow base e size v n xs)
    (B : Nat) (A : Option Addr) (m c : Nat) (news : List Value) (hr : Reads w B size A m news) (h1 : ∀ u ∈ news, u.oneCell' = true)
    (h63 : n + m ≤ maxLen) (hbytes : (n + m) * bytes ≤ 140737488355328) (hbase : base ≤ w.heap.size) :
    ∃ v' w', (Builtin.append_ #[t, t] ty #[v, .slice A m c]).run P w = .ok v' w' ∧ w'.ownsRow base e size v' (n + m) (xs ++ news) ∧ w.grownBy w' v.ownBlock ∧
      (v'.ownBlock = v.ownBlock ∨ v'.ownBlock = some w.heap.size) := by
  rcases A with _ | ad
  · have hm : m = 0 := by
      rcases Nat.eq_zero_or_pos m with h0 | h0
      · exact h0
      · obtain ⟨ad, h, _⟩ := hr.2 h0
        cases h
    subst hm
    have hn : news = [] := List.eq_nil_of_length_eq_zero (by simpa using hr.1)
    subst hn
    exact ⟨v, w, run_append_of_nil w base t ty e i size ht hi v n xs hown c, by simpa using hown, World.grownBy.refl w _, .inl rfl⟩
  · have hcells : ∀ j u, news[j]? = some u → w.cell? (ad.add j) = some u := by
      intro j u hu
      rcases Nat.eq_zero_or_pos m with h0 | h0
      · subst h0
        have hn : news = [] := List.eq_nil_of_length_eq_zero (by simpa using hr.1)
        subst hn
        simp at hu
      · obtain ⟨ad', h, _, hc⟩ := hr.2 h0
        injection h with h
        subst h
        exact hc j u hu
    obtain ⟨v', w', hrun, h2, h3, _, h5⟩ := run_append_own_at (P := P) w base t ty e i z size bytes ht hi hz hsize hby hzs hsz v n xs hown ad m c news hr.1 hcells h1 h63 hbytes hbase
    exact ⟨v', w', hrun, h2, h3, h5⟩

theorem wp_append_any {o : Oper} {a : Act} {K : Act → World → Prop} {Q : Exit → Act → World → Prop} (s x : Operand) (t : TypeId)
    (ho : o.op = .call { callee := .builtin .append, args := #[s, x], argTypes := #[t, t] })
    (base : Nat) (e : TypeId) (i : TypeInfo) (z : Value) (size bytes : Nat) (ht : P.underlying t = some (.slice e)) (hi : P.info? e = some i) (hz : i.zero = some z)
    (hsize : i.size = size) (hby : i.bytes = bytes) (hzs : z.cells.size = size) (hsz : 0 < size)
    (v : Value) (n : Nat) (xs : List Value) (hs : a.eval s = v) (hown : w.ownsRow base e size v n xs)
    (B : Nat) (A : Option Addr) (m c : Nat) (news : List Value) (hx : a.eval x = .slice A m c) (hr : Reads w B size A m news) (h1 : ∀ u ∈ news, u.oneCell' = true)
    (h63 : n + m ≤ maxLen) (hbytes : (n + m) * bytes ≤ 140737488355328) (hbase : base ≤ w.heap.size)
    (h : ∀ v' w', w'.ownsRow base e size v' (n + m) (xs ++ news) → w.grownBy w' v.ownBlock → (v'.ownBlock = v.ownBlock ∨ v'.ownBlock = some w.heap.size) → K (a.put o.dst v') w') : o.wp P a w K Q := by
  obtain ⟨v', w', hrun, h2, h3, h4⟩ := run_append_any (P := P) w base t o.type e i z size bytes ht hi hz hsize hby hzs hsz v n xs hown B A m c news hr h1 h63 hbytes hbase
  unfold Oper.wp execOp
  simp only [ho, resolve, invoke, builtin, Sem.run_bind, Sem.run_pure, Result.andThen_ok, List.map_toArray, List.map_cons, List.map_nil, hs, hx, hrun]
  exact h v' w' h2 h3 h4

theorem wpList_append_any {ops : Array Oper} {rest : List Oper} {o : Oper} {a : Act} {Q : Exit → Act → World → Prop} (hgd : o.guard = none) (s x : Operand) (t : TypeId)
    (ho : o.op = .call { callee := .builtin .append, args := #[s, x], argTypes := #[t, t] })
    (base : Nat) (e : TypeId) (i : TypeInfo) (z : Value) (size bytes : Nat) (ht : P.underlying t = some (.slice e)) (hi : P.info? e = some i) (hz : i.zero = some z)
    (hsize : i.size = size) (hby : i.bytes = bytes) (hzs : z.cells.size = size) (hsz : 0 < size)
    (v : Value) (n : Nat) (xs : List Value) (hs : a.eval s = v) (hown : w.ownsRow base e size v n xs)
    (B : Nat) (A : Option Addr) (m c : Nat) (news : List Value) (hx : a.eval x = .slice A m c) (hr : Reads w B size A m news) (h1 : ∀ u ∈ news, u.oneCell' = true)
    (h63 : n + m ≤ maxLen) (hbytes : (n + m) * bytes ≤ 140737488355328) (hbase : base ≤ w.heap.size)
    (h : ∀ v' w', w'.ownsRow base e size v' (n + m) (xs ++ news) → w.grownBy w' v.ownBlock → (v'.ownBlock = v.ownBlock ∨ v'.ownBlock = some w.heap.size) → wpList P ops Q rest (a.put o.dst v') w') : wpList P ops Q (o :: rest) a w :=
  wpList_plain hgd fun _ hK => wp_append_any w s x t ho base e i z size bytes ht hi hz hsize hby hzs hsz v n xs hs hown B A m c news hx hr h1 h63 hbytes hbase fun v' w' h2 h3 h4 => hK _ _ (h v' w' h2 h3 h4)

theorem step_append_any {ops : Array Oper} {o : Oper} {a : Act} {K : Act → World → Prop} {Q : Exit → Act → World → Prop} {E : Prop} (hgd : o.guard = none) (s x : Operand) (t : TypeId)
    (ho : o.op = .call { callee := .builtin .append, args := #[s, x], argTypes := #[t, t] })
    (base : Nat) (e : TypeId) (i : TypeInfo) (z : Value) (size bytes : Nat) (ht : P.underlying t = some (.slice e)) (hi : P.info? e = some i) (hz : i.zero = some z)
    (hsize : i.size = size) (hby : i.bytes = bytes) (hzs : z.cells.size = size) (hsz : 0 < size)
    (v : Value) (n : Nat) (xs : List Value) (hs : a.eval s = v) (hown : w.ownsRow base e size v n xs)
    (B : Nat) (A : Option Addr) (m c : Nat) (news : List Value) (hx : a.eval x = .slice A m c) (hr : Reads w B size A m news) (h1 : ∀ u ∈ news, u.oneCell' = true)
    (h63 : n + m ≤ maxLen) (hbytes : (n + m) * bytes ≤ 140737488355328) (hbase : base ≤ w.heap.size)
    (h : ∀ v' w', w'.ownsRow base e size v' (n + m) (xs ++ news) → w.grownBy w' v.ownBlock → (v'.ownBlock = v.ownBlock ∨ v'.ownBlock = some w.heap.size) → K (a.put o.dst v') w') :
    if Region.wanted o (yielded ops a.tmps) = true then Oper.wp P o a w K Q else E := by
  have hw : Region.wanted o (yielded ops a.tmps) = true := by simp [Region.wanted, hgd]
  rw [if_pos hw]
  exact wp_append_any w s x t ho base e i z size bytes ht hi hz hsize hby hzs hsz v n xs hs hown B A m c news hx hr h1 h63 hbytes hbase h
end

theorem below_drewN {B : Nat} {a w : World} (h : Below B a w) (n : Nat) : Below B a (w.drewN n) := ⟨h.os, h.tape, h.output, h.size, h.block⟩
theorem rowIs_drewN {w : World} {b : Nat} {t : TypeId} {n : Nat} {f : Nat → Value} (h : w.rowIs b t n f) (k : Nat) : (w.drewN k).rowIs b t n f := h
theorem grown_trans {a b c : World} (h : Grown a b) (k : Grown b c) : Grown a c :=
  ⟨World.keptBut_trans h.1 k.1, fun x => (k.2.1 x).trans (h.2.1 x), Nat.le_trans h.2.2 k.2.2⟩

theorem only_drewN {a w : World} {row : Option Nat} (h : a.grownBy w row) (n : Nat) : a.grownBy (w.drewN n) row := ⟨h.os, h.tape, h.output, h.size, h.block⟩
theorem only_drew {a w : World} {row : Option Nat} (h : a.grownBy w row) : a.grownBy w.drew row := ⟨h.os, h.tape, h.output, h.size, h.block⟩
theorem only_alloc {a w : World} {row : Option Nat} (h : a.grownBy w row) (o : Obj) : a.grownBy (w.alloc o) row :=
  ⟨h.os, h.tape, h.output, Nat.le_trans h.size (by simp), fun i hi hne => (Below.heap_alloc w o i (Nat.lt_of_lt_of_le hi h.size)).trans (h.block i hi hne)⟩
theorem only_setCell {a w : World} {g : Nat} (h : a.grownBy w (some g)) {p : Addr} (hp : p.block = g ∨ a.heap.size ≤ p.block) (u : Value) : a.grownBy (w.setCell p u) (some g) :=
  ⟨h.os, h.tape, h.output, by simpa [World.setCell] using h.size, fun i hi hne => (Below.heap_setCell w p u i (by
    rintro rfl
    rcases hp with hp | hp
    · exact hne (by rw [hp])
    · omega)).trans (h.block i hi hne)⟩
theorem only_of_below {a w : World} (h : Below a.heap.size a w) (row : Option Nat) : a.grownBy w row := ⟨h.os, h.tape, h.output, h.size, fun i hi _ => h.block i hi⟩

/-- What the table of types says of a slice type's elements. -/
structure ElemOf (P : Program) (t e : TypeId) (size bytes : Nat) : Prop where
  ex : ∃ (i : TypeInfo) (z : Value), P.underlying t = some (.slice e) ∧ P.info? e = some i ∧ i.zero = some z ∧ i.size = size ∧ i.bytes = bytes ∧ z.cells.size = size
  pos : 0 < size

theorem ElemOf.mk' {P : Program} {t e : TypeId} {size bytes : Nat} (z : Value) (ht : P.underlying t = some (.slice e)) (hi : (P.info? e).map (fun i => (i.zero, i.size, i.bytes)) = some (some z, size, bytes)) (hz : z.cells.size = size) (hp : 0 < size) : ElemOf P t e size bytes := by
  obtain ⟨i, h1, h2, h3, h4⟩ := info_parts hi
  exact ⟨⟨i, z, ht, h1, h2, h3, h4, hz⟩, hp⟩

section
variable {P : Program} (w : World)
theorem wpList_app {ops : Array Oper} {rest : List Oper} {o : Oper} {a : Act} {Q : Exit → Act → World → Prop} (hgd : o.guard = none) (s x : Operand) (t : TypeId)
    (ho : o.op = .call { callee := .builtin .append, args := #[s, x], argTypes := #[t, t] })
    {e : TypeId} {size bytes : Nat} (E : ElemOf P t e size bytes) (base : Nat)
    (v : Value) (n : Nat) (xs : List Value) (hs : a.eval s = v) (hown : w.ownsRow base e size v n xs)
    (B : Nat) (A : Option Addr) (m c : Nat) (news : List Value) (hx : a.eval x = .slice A m c) (hr : Reads w B size A m news) (h1 : ∀ u ∈ news, u.oneCell' = true)
    (hbytes : n + m ≤ maxLen ∧ (n + m) * bytes ≤ 140737488355328) (hbase : base ≤ w.heap.size)
    (h : ∀ v' w', w'.ownsRow base e size v' (n + m) (xs ++ news) → w.grownBy w' v.ownBlock → (v'.ownBlock = v.ownBlock ∨ v'.ownBlock = some w.heap.size) → wpList P ops Q rest (a.put o.dst v') w') : wpList P ops Q (o :: rest) a w := by
  obtain ⟨⟨i, z, h2, h3, h4, h5, h6, h7⟩, hp⟩ := E
  exact wpList_append_any w hgd s x t ho base e i z size bytes h2 h3 h4 h5 h6 h7 hp v n xs hs hown B A m c news hx hr h1 hbytes.1 hbytes.2 hbase h

/-- One element of one cell, which the statement has just laid into a block of its own. -/
theorem wpList_app1 {ops : Array Oper} {rest : List Oper} {o : Oper} {a : Act} {Q : Exit → Act → World → Prop} (hgd : o.guard = none) (s x : Operand) (t : TypeId)
    (ho : o.op = .call { callee := .builtin .append, args := #[s, x], argTypes := #[t, t] })
    {e : TypeId} {bytes : Nat} (E : ElemOf P t e 1 bytes) (base : Nat)
    (v : Value) (n : Nat) (xs : List Value) (hs : a.eval s = v) (hown : w.ownsRow base e 1 v n xs)
    (u : Value) (gn : Nat) (hgn : w.heap.size = gn) (hx : a.eval x = .slice (some ⟨gn, 0, none⟩) 1 1) (h1 : u.oneCell' = true)
    (hbytes : n + 1 ≤ maxLen ∧ (n + 1) * bytes ≤ 140737488355328) (hbase : base ≤ w.heap.size)
    (h : ∀ v' w', w'.ownsRow base e 1 v' (n + 1) (xs ++ [u]) → w.grownBy w' v.ownBlock → (v'.ownBlock = v.ownBlock ∨ ∃ g, v'.ownBlock = some g ∧ w.heap.size ≤ g) → wpList P ops Q rest (a.put o.dst v') w') :
    wpList P ops Q (o :: rest) a (w.alloc (.cells #[u] e)) := by
  subst hgn
  refine wpList_app (w.alloc (.cells #[u] e)) hgd s x t ho E base v n xs hs (hown.alloc _) (w.heap.size + 1) (some ⟨w.heap.size, 0, none⟩) 1 1 [u] hx ?_ ?_ hbytes (by simp; omega) ?_
  · refine ⟨rfl, fun _ => ⟨_, rfl, by simp, fun j u' hu => ?_⟩⟩
    match j, hu with
    | 0, hu =>
      simp at hu
      subst hu
      simp [Addr.add, World.cell?_alloc_at]
  · intro u' hu
    simp at hu
    subst hu
    exact h1
  · intro v' w' h2 h3 h4
    refine h v' w' h2 ⟨h3.os, h3.tape, h3.output, Nat.le_trans (by simp) h3.size, fun k hk hne => (h3.block k (by simp; omega) hne).trans (Below.heap_alloc w _ k hk)⟩ ?_
    rcases h4 with h4 | h4
    · exact .inl h4
    · exact .inr ⟨_, h4, by simp⟩
end

theorem grownBy_trans {a b c : World} {row row' : Option Nat} (h : a.grownBy b row) (k : b.grownBy c row') (hr : row' = row ∨ ∃ g, row' = some g ∧ a.heap.size ≤ g) : a.grownBy c row :=
  ⟨k.os.trans h.os, k.tape.trans h.tape, k.output.trans h.output, Nat.le_trans h.size k.size, fun i hi hne => (k.block i (Nat.lt_of_lt_of_le hi h.size) (by
    rcases hr with rfl | ⟨g, rfl, hg⟩
    · exact hne
    · intro e
      injection e with e
      omega)).trans (h.block i hi hne)⟩
theorem grownBy_below {a b : World} {row : Option Nat} {B : Nat} (h : a.grownBy b row) (hB : B ≤ a.heap.size) (hr : ∀ g, row = some g → B ≤ g) : Below B a b := (Below.refl _ _).grown h hB hr

theorem own_next {w wr : World} {o0 o o' : Option Nat} (hs : w.heap.size ≤ wr.heap.size) (h : o = o0 ∨ ∃ g, o = some g ∧ w.heap.size ≤ g) (h' : o' = o ∨ ∃ g, o' = some g ∧ wr.heap.size ≤ g) : o' = o0 ∨ ∃ g, o' = some g ∧ w.heap.size ≤ g := by
  rcases h' with rfl | ⟨g, rfl, hg⟩
  · exact h
  · exact .inr ⟨g, rfl, by omega⟩
theorem Reads.at0 {w : World} {B n k : Nat} {A : Option Addr} {xs : List Value} (h : Reads w B 1 A n xs) (hk : k < n) :
    ∃ b off u, A = some ⟨b, off, none⟩ ∧ b < B ∧ xs[k]? = some u ∧ w.cell? ⟨b, off + k, none⟩ = some u ∧ ∀ j u, xs[j]? = some u → w.cell? ⟨b, off + j, none⟩ = some u := by
  obtain ⟨ad, u, rfl, hb, hx, hc⟩ := h.at_ hk
  obtain ⟨b, off, spot⟩ := ad
  have hs : spot = none := by
    obtain ⟨ad0, u0, e0, _, _, hc0⟩ := h.at_ (k := 0) (by omega)
    injection e0 with e0
    subst e0
    exact World.cell?_spot (a := ⟨b, off, spot⟩) hc0
  subst hs
  have hadd : ∀ j, (⟨b, off, none⟩ : Addr).add j = ⟨b, off + j, none⟩ := fun j => by unfold Addr.add; split <;> simp_all
  refine ⟨b, off, u, rfl, hb, hx, by rw [← hadd]; exact hc, fun j v hv => ?_⟩
  rw [← hadd]
  obtain ⟨ad', e, _, hc'⟩ := h.2 (by omega)
  injection e with e
  subst e
  exact hc' j v hv
theorem cap1 {n : Nat} (h : n ≤ 140737488355328) : n ≤ maxLen ∧ n * 1 ≤ 140737488355328 := by
  simp only [maxLen]
  omega
theorem cap8 {n : Nat} (h : n ≤ 17592186044416) : n ≤ maxLen ∧ n * 8 ≤ 140737488355328 := by
  simp only [maxLen]
  omega
theorem cap24 {n : Nat} (h : n ≤ 4398046511104) : n ≤ maxLen ∧ n * 24 ≤ 140737488355328 := by
  simp only [maxLen]
  omega

/-- A byte as a cell. -/
def bv (c : UInt8) : Value := .int .u8 (c.toNat : Int)
theorem bv_one (l : List UInt8) : ∀ u ∈ l.map bv, u.oneCell' = true := by
  intro u hu
  obtain ⟨c, _, rfl⟩ := List.mem_map.1 hu
  rfl
/-- 'string(b)' where b reads as the bytes bs, nil let in. -/
theorem run_string_of {P : Program} {w : World} {B n : Nat} {A : Option Addr} {bs : List UInt8} (h : Reads w B 1 A n (bs.map bv)) (c : Nat) (src dst e : TypeId) (hs : P.underlying src = some (.slice e)) (he : P.underlying e = some (.int .u8)) (hd : P.underlying dst = some .string) :
    (convert src dst (.slice A n c)).run P w = .ok (.string ⟨bs.toArray⟩) w := by
  have hlen : bs.length = n := by have := h.1; simpa using this
  rcases Nat.eq_zero_or_pos n with h0 | h0
  · have hb : bs = [] := List.eq_nil_of_length_eq_zero (by omega)
    subst hb
    subst h0
    cases A with
    | none =>
      rw [run_convert_bytes_string w src dst e none 0 c hs he hd]
      simp [Conv.bytesToString]
      rfl
    | some a => exact run_convert_bytes_back w src dst e a c [] hs he hd (fun j hj => absurd hj (by simp))
  · obtain ⟨ad, rfl, _, hc⟩ := h.2 h0
    subst hlen
    refine run_convert_bytes_back w src dst e ad c bs hs he hd (fun j hj => ?_)
    exact hc j (bv bs[j]) (by rw [List.getElem?_map, List.getElem?_eq_getElem hj]; rfl)

theorem _root_.Go.World.ownsRow.shape {w : World} {base : Nat} {e : TypeId} {size n : Nat} {v : Value} {xs : List Value} (h : w.ownsRow base e size v n xs) : ∃ A c, v = .slice A n c := by
  rcases h.2 with ⟨rfl, rfl⟩ | ⟨g, cap, _, rfl, _⟩
  · exact ⟨none, 0, rfl⟩
  · exact ⟨_, cap, rfl⟩

/-- The world w' is w but for new blocks and for what has become of the old blocks in S. -/
structure Chg (w w' : World) (S : Nat → Prop) : Prop where
  os : w'.os = w.os
  tape : w'.tape = w.tape
  output : w'.output = w.output
  size : w.heap.size ≤ w'.heap.size
  block : ∀ k, k < w.heap.size → ¬ S k → w'.heap[k]? = w.heap[k]?
section
variable {w w1 w2 : World} {S T : Nat → Prop}
theorem Chg.refl (w : World) (S : Nat → Prop) : Chg w w S := ⟨rfl, rfl, rfl, Nat.le_refl _, fun _ _ _ => rfl⟩
theorem Chg.trans (h : Chg w w1 S) (k : Chg w1 w2 T) (hT : ∀ i, i < w.heap.size → T i → S i) : Chg w w2 S :=
  ⟨k.os.trans h.os, k.tape.trans h.tape, k.output.trans h.output, Nat.le_trans h.size k.size, fun i hi hn => (k.block i (Nat.lt_of_lt_of_le hi h.size) (fun ht => hn (hT i hi ht))).trans (h.block i hi hn)⟩
theorem Chg.more (h : Chg w w1 S) (hT : ∀ i, S i → T i) : Chg w w1 T := ⟨h.os, h.tape, h.output, h.size, fun i hi hn => h.block i hi (fun hs => hn (hT i hs))⟩
theorem Chg.of_below (h : Below w.heap.size w w1) (S : Nat → Prop) : Chg w w1 S := ⟨h.os, h.tape, h.output, h.size, fun i hi _ => h.block i hi⟩
theorem Chg.of_grown {row : Option Nat} (h : w.grownBy w1 row) : Chg w w1 (fun i => row = some i) := ⟨h.os, h.tape, h.output, h.size, fun i hi hn => h.block i hi (fun e => hn e.symm)⟩
theorem Chg.of_set (w : World) (p : Addr) (u : Value) : Chg w (w.setCell p u) (fun i => i = p.block) := ⟨rfl, rfl, rfl, by simp [World.setCell], fun i _ hn => Below.heap_setCell w p u i hn⟩
theorem Chg.alloc (h : Chg w w1 S) (o : Obj) : Chg w (w1.alloc o) S := h.trans (Chg.of_below ((Below.refl _ _).alloc (Nat.le_refl _) o) (fun _ => False)) (fun _ _ hf => hf.elim)
theorem Chg.set_ (h : Chg w w1 S) (p : Addr) (u : Value) (hp : p.block < w.heap.size → S p.block) : Chg w (w1.setCell p u) S := h.trans (Chg.of_set _ p u) (fun i hi e => by subst e; exact hp hi)
theorem Chg.grown {row : Option Nat} (h : Chg w w1 S) (g : w1.grownBy w2 row) (hr : ∀ i, row = some i → i < w.heap.size → S i) : Chg w w2 S := h.trans (Chg.of_grown g) (fun i hi e => hr i e hi)
theorem Chg.bel (h : Chg w w1 S) (b : Below w1.heap.size w1 w2) : Chg w w2 S := h.trans (Chg.of_below b (fun _ => False)) (fun _ _ hf => hf.elim)
theorem Chg.drew (h : Chg w w1 S) : Chg w w1.drew S := ⟨h.os, h.tape, h.output, h.size, h.block⟩
theorem Chg.below (h : Chg w w1 S) {B : Nat} (hB : B ≤ w.heap.size) (hS : ∀ i, i < B → ¬ S i) : Below B w w1 := ⟨h.os, h.tape, h.output, h.size, fun i hi => h.block i (Nat.lt_of_lt_of_le hi hB) (hS i hi)⟩
theorem Chg.own {base n size : Nat} {e : TypeId} {v : Value} {xs : List Value} (h : Chg w w1 S) (ho : w.ownsRow base e size v n xs) (hn : ∀ i, v.ownBlock = some i → ¬ S i) : w1.ownsRow base e size v n xs := by
  refine ⟨ho.1, ?_⟩
  rcases ho.2 with h0 | ⟨g, cap, cur, rfl, hb, hg, r⟩
  · exact .inl h0
  · refine .inr ⟨g, cap, cur, rfl, hb, ?_, r⟩
    rw [h.block g (Array.getElem?_eq_some_iff.1 hg).1 (hn g rfl)]
    exact hg
theorem Chg.blk {g : Nat} {t : TypeId} {cs : Array Value} (h : Chg w w1 S) (hb : Blk w g t cs) (hn : ¬ S g) : Blk w1 g t cs := (h.block g hb.lt hn).trans hb
theorem Chg.reads {B size n : Nat} {A : Option Addr} {xs : List Value} (h : Chg w w1 S) (hr : Reads w B size A n xs) (hB : B ≤ w.heap.size) (hS : ∀ i, i < B → ¬ S i) : Reads w1 B size A n xs := hr.below (h.below hB hS)
end

theorem reads_lit (w : World) (g : Nat) (hg : w.heap.size = g) (e : TypeId) (cs : Array Value) (n : Nat) (hn : cs.size = n) (xs : List Value) (hx : cs.toList = xs) : Reads (w.alloc (.cells cs e)) (g + 1) 1 (some ⟨g, 0, none⟩) n xs := by
  subst hg hn hx
  refine ⟨by simp, fun _ => ⟨_, rfl, by simp, fun j u hu => ?_⟩⟩
  have hadd : (⟨w.heap.size, 0, none⟩ : Addr).add j = ⟨w.heap.size, j, none⟩ := by unfold Addr.add; split <;> simp_all
  rw [hadd, cell_of_row _ w.heap.size j cs e (0, 0) (heap_alloc_new w _), ← hu]
  simp

theorem ofInt_i64 (a : Nat) (ha : a < 9223372036854775808) : (BitVec.ofInt 64 (a : Int)).toNat = a := by
  rw [BitVec.ofInt_natCast, BitVec.toNat_ofNat]; exact Nat.mod_eq_of_lt (by omega)
theorem i64_and_one (a : Nat) (h : a ≤ 9223372036854775807) : bits BinOp.and IntKind.i64 (a : Int) 1 = ((a % 2 : Nat) : Int) := by
  have hx : a &&& 1 < 2 ^ 63 := Nat.and_lt_two_pow _ (by omega)
  show IntKind.i64.wrap ((BitVec.ofInt 64 (a : Int) &&& BitVec.ofInt 64 ((1 : Nat) : Int)).toNat : Int) = _
  rw [BitVec.toNat_and, ofInt_i64 a (by omega), ofInt_i64 1 (by omega), IntKind.wrap_i64, ← Nat.and_one_is_mod]
  omega

theorem Blk.setRow_ {w : World} {g : Nat} {t : TypeId} {cs : Array Value} (h : Blk w g t cs) (cs' : Array Value) : Blk (w.setRow g cs') g t cs' := setRow_heap w g cs cs' t (0, 0) h
theorem Chg.of_setRow (w : World) (g : Nat) (cs : Array Value) : Chg w (w.setRow g cs) (fun i => i = g) := ⟨rfl, rfl, rfl, by simp, fun i _ hn => setRow_other w g i cs hn⟩

theorem _root_.Go.World.ownsRow.base {w : World} {base base' : Nat} {e : TypeId} {size n : Nat} {v : Value} {xs : List Value} (h : w.ownsRow base e size v n xs) (hb : base' ≤ base) : w.ownsRow base' e size v n xs := by
  refine ⟨h.1, ?_⟩
  rcases h.2 with h0 | ⟨g, cap, cur, hv, hg, r⟩
  · exact .inl h0
  · exact .inr ⟨g, cap, cur, hv, Nat.le_trans hb hg, r⟩

/-- 's[k:]': at k = cap the address stays (no way of its own in the walk). -/
theorem run_cut {P : Program} {t e : TypeId} {i : TypeInfo} (ht : P.underlying t = some (.slice e)) (hi : P.info? e = some i) {size : Nat} (hs : i.size = size) (A : Option Addr) {n k : Nat} (c : Nat) (hk : k ≤ n) (w : World) :
    (Instr.slice t (.slice A n c) (some (.int .i64 (k : Int))) none none).run P w = .ok (.slice (if c = k then A else A.map (·.add (k * size))) (n - k) (c - k)) w := by
  have he : P.elem t = e := by simp [Program.elem, ht]
  rw [run_slice_l w t A n c (by rw [he]; exact ht) .i64 k (by omega) (by omega), he]
  simp [sizeOf, typeInfo, hi, hs, Result.andThen, sliced]

/-- 's[l:h]'. -/
theorem run_mid {P : Program} {t e : TypeId} {i : TypeInfo} (ht : P.underlying t = some (.slice e)) (hi : P.info? e = some i) {size : Nat} (hs : i.size = size) (A : Option Addr) {n l h : Nat} (c : Nat) (hl : l ≤ h) (hh : h ≤ c) (w : World) :
    (Instr.slice t (.slice A n c) (some (.int .i64 (l : Int))) (some (.int .i64 (h : Int))) none).run P w = .ok (.slice (if c = l then A else A.map (·.add (l * size))) (h - l) (c - l)) w := by
  have he : P.elem t = e := by simp [Program.elem, ht]
  rw [run_slice_lh w t A n c (by rw [he]; exact ht) .i64 .i64 l h (by omega) (by omega) (by omega), he]
  simp [sizeOf, typeInfo, hi, hs, Result.andThen, sliced]

theorem Reads.cutTo {w : World} {B n k : Nat} {A : Option Addr} {xs : List UInt8} (h : Reads w B 1 A n (xs.map bv)) (hk : k ≤ n) : Reads w B 1 A k ((xs.take k).map bv) := by
  have hl : xs.length = n := by have := h.1; simpa using this
  refine ⟨by simp; omega, fun hn => ?_⟩
  obtain ⟨ad, e, hb, hc⟩ := h.2 (by omega)
  refine ⟨ad, e, hb, fun j u hu => hc j u ?_⟩
  rw [List.map_take, List.getElem?_take] at hu
  split at hu
  · exact hu
  · cases hu
end Go.Proofs.Ytoipkpndfgcmcaa

/-
  What an argument of the laws reads as, opened for the walks: a slice of bytes, an int, a uint64; how large a slice may be by the form's own reach. No program in sight.
-/
namespace Go.Proofs.Ytoipkpndfgcmcaa
open Go.RowKit Go.ChangeShapes Go.WideShapes Go.ChangeAt

section
variable {H : Type} {enc : TypeId × Value → H} {P : Program} {w : World} {held : Bool}
theorem bv_wf {z : Int} (h : (Lit.int .u8 z).wf = true) : bv (UInt8.ofNat z.toNat) = .int .u8 z := by
  have hb : 0 ≤ z ∧ z ≤ 255 := bounds_u8 h
  have : (UInt8.ofNat z.toNat).toNat = z.toNat := by rw [UInt8.toNat_ofNat']; omega
  rw [bv, this]
  congr 1
  omega
theorem open_bytes {t e : TypeId} (ht : P.underlying t = some (.slice e)) (he : P.underlying e = some (.int .u8)) (hc : P.cellsOf e = 1) {a : Option Addr} {len cap : Nat} {d : DataW H} {p : List MemPlace}
    (h : DataW.Trod enc P w 0 (fun _ => true) held t (.slice a len cap) d p) :
    (∃ bs : List UInt8, Reads w w.heap.size 1 a len (bs.map bv)) ∧ ((a = none ∧ len = 0 ∧ cap = 0) ∨ (len ≤ cap ∧ ∃ el sp, d = .slice el sp ∧ el.length + sp.length = cap)) := by
  obtain ⟨fuel, hf⟩ := h
  rcases open_ints ht he hc hf with ⟨hcs, hx⟩ | ⟨x, l, c, zs, hcs, _, hl, hm, hz, hx, hcell, hwz⟩
  · simp [Value.cells] at hcs
    obtain ⟨rfl, rfl, rfl⟩ := hcs
    exact ⟨⟨[], Reads.none_⟩, .inl ⟨rfl, rfl, rfl⟩⟩
  · simp [Value.cells] at hcs
    obtain ⟨rfl, rfl, rfl⟩ := hcs
    simp only [Prod.mk.injEq] at hx
    simp only [if_true] at hz
    refine ⟨⟨(zs.take len).map fun z => UInt8.ofNat z.toNat, ?_⟩, .inr ⟨hl, _, _, hx.1, ?_⟩⟩
    · refine ⟨by simp; omega, fun hn => ⟨x, rfl, ?_, fun j u hu => ?_⟩⟩
      · have := World.block_lt_of_cell? w _ (hcell 0 (by omega))
        rwa [block_of_add] at this
      · rw [List.getElem?_map, List.getElem?_map] at hu
        obtain ⟨y, hy, rfl⟩ := Option.map_eq_some_iff.1 hu
        obtain ⟨z, hz1, rfl⟩ := Option.map_eq_some_iff.1 hy
        rw [List.getElem?_take] at hz1
        split at hz1
        · obtain ⟨hlt, rfl⟩ := List.getElem?_eq_some_iff.1 hz1
          rw [hcell j hlt, bv_wf (hwz _ (List.getElem_mem hlt)), List.getD_eq_getElem?_getD, List.getElem?_eq_getElem hlt]
          rfl
        · cases hz1
    · simp [lits]
      omega
theorem reach_bytes {ts : List TypeId} {ds : List (DataW H)} (h : (DataW.weightsEach P ts ds).all (· ≤ reachBytes) = true) {t e : TypeId} (j : Nat) (ht : ts[j]? = some t) (hu : P.underlying t = some (.slice e)) (hby : P.bytesOf e = 1)
    {a : Option Addr} {len cap : Nat} {d : DataW H} (hd : ds[j]? = some d) (ho : (a = none ∧ len = 0 ∧ cap = 0) ∨ (len ≤ cap ∧ ∃ el sp, d = .slice el sp ∧ el.length + sp.length = cap)) : len ≤ 140737488351232 := by
  rcases ho with ⟨_, h0, _⟩ | ⟨hl, el, sp, rfl, hs⟩
  · omega
  · have := sized_slice h ht hd hu
    rw [hby, hs] at this
    simp only [reachBytes] at this
    omega
theorem weightsAll_mem {e : TypeId} {n : Nat} : ∀ {l : List (DataW H)} {d : DataW H}, d ∈ l → n ∈ d.weights P e → n ∈ DataW.weightsAll P e l
  | [], _, h, _ => by cases h
  | d0 :: r, d, h, hn => by
    simp only [DataW.weightsAll, List.mem_append]
    rcases List.mem_cons.1 h with rfl | h
    · exact .inl hn
    · exact .inr (weightsAll_mem h hn)
/-- The reach of a slice that is a field of an element of a slice. -/
theorem reach_inner {ts : List TypeId} {ds : List (DataW H)} (h : (DataW.weightsEach P ts ds).all (· ≤ reachBytes) = true) {t e t2 e2 : TypeId} {fs : Array Field} (j : Nat) (ht : ts[j]? = some t) {el sp : List (DataW H)} (hd : ds[j]? = some (.slice el sp))
    (hu : P.underlying t = some (.slice e)) (he : P.underlying e = some (.struct fs)) {parts : List (DataW H)} (hp : DataW.agg parts ∈ el) (k : Nat) (hk : (fs.toList.map (·.type))[k]? = some t2) {el2 sp2 : List (DataW H)} (hk2 : parts[k]? = some (.slice el2 sp2)) (hu2 : P.underlying t2 = some (.slice e2)) :
    (el2.length + sp2.length) * P.bytesOf e2 ≤ reachBytes := by
  have hin : (el2.length + sp2.length) * P.bytesOf e2 ∈ (DataW.slice el sp).weights P t := by
    simp only [DataW.weights, hu, List.mem_cons, List.mem_append]
    refine .inr (.inl (weightsAll_mem hp ?_))
    simp only [DataW.weights, he]
    exact DataW.weights_mem_each hk hk2 _ (by simp [DataW.weights, hu2])
  have := List.all_eq_true.1 h _ (DataW.weights_mem_each ht hd _ hin)
  simpa using this
theorem cap_bytes {a : Option Addr} {len cap : Nat} {d : DataW H} (ho : (a = none ∧ len = 0 ∧ cap = 0) ∨ (len ≤ cap ∧ ∃ el sp, d = .slice el sp ∧ el.length + sp.length = cap)) : len ≤ cap := by
  rcases ho with ⟨_, h, _⟩ | ⟨h, _⟩ <;> omega
theorem array4 {cs : Array Value} (h : cs.size = 4) : ∃ a b c d, cs = #[a, b, c, d] := by
  match cs, h with
  | ⟨[a, b, c, d]⟩, _ => exact ⟨a, b, c, d, rfl⟩
/-- An array of four bytes, by value. -/
theorem open_four {r : Reach} {b0 : Nat} {t e : TypeId} {v : Value} {d : DataW H} {p : List MemPlace} (ht : P.underlying t = some (.array 4 e)) (he : P.underlying e = some (.int .u8)) (hc : P.cellsOf e = 1) (hC : P.cellsOf t = 4)
    (hv : Value.okWide P w r b0 t v) (h : DataW.Trod enc P w 0 (fun _ => true) held t v d p) : ∃ f0 f1 f2 f3 : UInt8, v = .agg #[bv f0, bv f1, bv f2, bv f3] := by
  have hv' : ∃ cs, v = .agg cs ∧ cs.size = P.cellsOf t ∧ Row.okWide P w r b0 t cs := by
    unfold Value.okWide at hv
    rw [ht] at hv
    exact hv
  obtain ⟨cs, rfl, hsz, _⟩ := hv'
  obtain ⟨a, b, c, d', rfl⟩ := array4 (hsz.trans hC)
  obtain ⟨fuel, hf⟩ := h
  obtain ⟨xs, m, _, _, hl, hx, hi⟩ := DataW.trod_array ht hf
  have one : ∀ (i : Nat) (u : Value), i < 4 → ((Value.cells (.agg #[a, b, c, d'])).toList.drop i).take 1 = [u] → ∃ f : UInt8, u = bv f := by
    intro i u hi4 hu
    have h1 := hi i hi4
    rw [hc, Nat.mul_one, hu, List.getElem?_eq_getElem (by omega)] at h1
    obtain ⟨z, hz, _, hw⟩ := DataW.trod_int he h1
    simp only [List.cons.injEq, and_true] at hz
    exact ⟨UInt8.ofNat z.toNat, by rw [bv_wf hw, hz]⟩
  obtain ⟨f0, rfl⟩ := one 0 a (by omega) rfl
  obtain ⟨f1, rfl⟩ := one 1 b (by omega) rfl
  obtain ⟨f2, rfl⟩ := one 2 c (by omega) rfl
  obtain ⟨f3, rfl⟩ := one 3 d' (by omega) rfl
  exact ⟨f0, f1, f2, f3, rfl⟩
end
end Go.Proofs.Ytoipkpndfgcmcaa

/-
  The text of calm code: which operations may stand in it; which of its slots hold a function (1), a loop's yield (2), a row just made (3). No assumption.
-/
namespace Go.Proofs.Ytoipkpndfgcmcaa.Veils
open Go
set_option linter.unusedVariables false
def isEq : BinOp → Bool
  | .eql | .neq => true
  | _ => false
/-- A type of whole numbers, or of truths; an array of such. -/
def flat1 (P : Program) (t : TypeId) : Bool := match P.underlying t with | some (.int _) | some .bool => true | _ => false
def flatT (P : Program) (t : TypeId) : Bool := flat1 P t || (match P.underlying t with | some (.array _ e) => flat1 P e | _ => false)
def intT (P : Program) (t : TypeId) : Bool := match P.underlying t with | some (.int _) => true | _ => false
def ptrT (P : Program) (t : TypeId) : Bool := match P.underlying t with | some (.pointer _) => true | _ => false
def bytesT (P : Program) (t : TypeId) : Bool := match P.underlying t with | some (.slice e) => (match P.underlying e with | some (.int .u8) => true | _ => false) | _ => false
def nilO : Operand → Bool
  | .const (.pointer none) => true
  | _ => false
/-- A function with a body, whose first n slots are free. -/
def fnOk (P : Program) (f : FuncId) : Bool := match P.funcs[f]? with | some fn => fn.body.isSome && !(fn.name == "runtime.NumGoroutine") | none => false
def back1 : Nat := 56
def back0 : Nat := 45
/-- What a slot holds. -/
def slotK (f t : Nat) : Nat :=
  if f == 22 && t == 27 then 1
  else if f == back0 && (t == 2 || t == 3) then 1
  else if f == back1 && (t == 0 || t == 11) then 2
  else if f == 41 && t == 1 then 3
  else if f == 12 && t == 65 then 3
  else 0
def dstCalm (D : Nat → Nat) (o : Oper) : Bool :=
  match o.dst with
  | none => true
  | some d => match D d with
    | 0 => true
    | 1 => match o.op with
      | .makeFunc (.func f) a c => f == back1 && a.size == 0 && c.size == 1
      | .assign (.tmp s) | .move (.tmp s) => D s == 1
      | .assign (.const .nilFunc) => true
      | .call { callee := .value (.func f), .. } => f == back0
      | _ => false
    | 2 => match o.op with
      | .move (.tmp s) => D s == 2
      | _ => false
    | _ => match o.op with
      | .buildSlice _ _ _ => true
      | _ => false
def opCalm (P : Program) (F : FuncId → Bool) (D : Nat → Nat) (o : Oper) : Bool :=
  match o.op with
  | .move _ | .assign _ | .pick _ _ _ | .alloc _ | .box _ _ | .build _ _ | .buildSlice _ _ _ | .load _ _ | .store _ _ _ | .nilCheck _ | .unOp _ _ _ | .sliceToArrayPointer _ _ | .makeInterface _ _ | .makeFunc _ _ _ | .slice _ _ _ _ _ | .fieldAddr _ _ _ | .indexAddr _ _ _ | .extract _ _ | .makeSlice _ _ _ | .panic _ => true
  | .binOp op t x y _ => !isEq op || flatT P t || (ptrT P t && nilO y)
  | .convert s d x => (intT P s && intT P d) || (s == d && bytesT P s && (match x with | .tmp k => D k == 3 | _ => false))
  | .call { callee := .builtin .len, .. } | .call { callee := .builtin .cap, .. } | .call { callee := .builtin .append, .. } | .call { callee := .builtin .copy, .. } => true
  | .call { callee := .value (.func f), args := a, .. } => F f && fnOk P f && (List.range a.size).all (fun k => slotK f k == 0)
  | .call { callee := .value (.tmp k), .. } => D k == 2
  | _ => false
def calm (P : Program) (F : FuncId → Bool) (D : Nat → Nat) (o : Oper) : Bool := dstCalm D o && opCalm P F D o
def D0 : Nat → Nat := fun _ => 0
def codeCalm (P : Program) (F : FuncId → Bool) : (Nat → Nat) → Code → Bool
  | _, .skip | _, .ret | _, .exit _ | _, .label _ => true
  | D, .seq a b => codeCalm P F D a && codeCalm P F D b
  | D, .cond _ a b => codeCalm P F D a && codeCalm P F D b
  | D, .block _ c | D, .loop c | D, .scope c => codeCalm P F D c
  | D, .region _ ops _ => ops.all (calm P F D)
  | D, .rangeFunc (.tmp k) _ a b => D k == 1 && F back1 && fnOk P back1 && codeCalm P F D0 a && codeCalm P F D0 b
  | _, _ => false
def PendOk (c : Option Code) : Prop := c = none ∨ c = some .ret ∨ ∃ id, c = some (.exit id)
/-- A loop over a function whose text is calm. -/
structure LoopCalm (P : Program) (F : FuncId → Bool) (r : Loop) : Prop where
  fn : ∃ fd, P.funcs[r.fn]? = some fd
  assign : codeCalm P F D0 r.assign = true
  body : codeCalm P F D0 r.body = true
  pend : PendOk r.pending
def calmL : List Nat := [16, 20, 23, 37, 27, 50, 59, 33, 48, 57, 52,
  34, 41, 24, 26, 19, 30, 28, 47, 49, 58, 36,
  13, 18, 39, 40, 22, 46, 45, 56]
def calmF (f : FuncId) : Bool := calmL.contains f
/-- A loop of this program, calm. -/
def LoopOk (r : Loop) : Prop := LoopCalm Try.prog calmF r
end Go.Proofs.Ytoipkpndfgcmcaa.Veils

namespace Go.Proofs.Ytoipkpndfgcmcaa.Veils
open Go
set_option linter.unusedVariables false

/-- An object that the walk may meet: no memory seen as another type (but where nothing can be seen), no variable that waits. -/
def Obj.plain : Obj → Prop
  | .view a _ => a.spot.isSome = true
  | .pending _ _ => False
  | .loop r => LoopOk r
  | .deferred (some ds) => ds = []
  | _ => True
/-- What stands in the place of an object that is not plain. -/
def dimO : Obj → Obj
  | .view _ _ => .view ⟨0, 0, some 0⟩ 0
  | _ => .stringIter .empty 0
theorem dim_plain (o : Obj) : Obj.plain (dimO o) := by cases o <;> first | trivial | rfl
def NoView (w : World) : Prop := ∀ (b : Nat) (o : Obj), w.heap[b]? = some o → Obj.plain o
def OkHalt : Halt → Prop
  | .stuck _ | .panic _ => True
  | .unsupported u => ∀ g, u ≠ .initOrder g
  | _ => False
/-- The blocks of the true world that are no plain object. -/
def Vw (w : World) (b : Nat) : Prop := ∃ o, w.heap[b]? = some o ∧ ¬ Obj.plain o
/-- v: the world with the hidden blocks X, and those that are no plain object, emptied; w: the true one. Either there is no block of the second kind, or the two ask the same tape at the same place. -/
structure Veil (X : Nat → Prop) (v w : World) : Prop where
  size : v.heap.size = w.heap.size
  same : ∀ b, ¬ X b → ¬ Vw w b → v.heap[b]? = w.heap[b]?
  dark : ∀ b, X b → v.heap[b]? = some (.stringIter .empty 0) ∧ ∃ c e, w.heap[b]? = some (.cells c e) ∧ 0 < c.size
  dim : ∀ (b : Nat) (o : Obj), w.heap[b]? = some o → ¬ Obj.plain o → v.heap[b]? = some (dimO o)
  os : v.os = w.os
  out : v.output = w.output
  real : NoView w ∨ (v.drawn = w.drawn ∧ v.tape = w.tape)
theorem Veil.novv {X : Nat → Prop} {v w : World} (h : Veil X v w) : NoView v := fun b o e => by
  by_cases hX : X b
  · obtain ⟨he, _⟩ := h.dark _ hX
    rw [he] at e
    cases e
    trivial
  · by_cases hV : Vw w b
    · obtain ⟨o', h1, h2⟩ := hV
      rw [h.dim _ _ h1 h2] at e
      injection e with e
      rw [← e]
      exact dim_plain o'
    · rw [h.same _ hX hV] at e
      exact Classical.byContradiction fun hn => hV ⟨o, e, hn⟩
/-- The hidden blocks, and those that are no plain object, stand; no other becomes such. -/
structure Keep (X : Nat → Prop) (w w' : World) : Prop where
  same : ∀ b, X b ∨ Vw w b → w'.heap[b]? = w.heap[b]?
  back : ∀ b, Vw w' b → Vw w b
theorem Keep.refl (X : Nat → Prop) (w : World) : Keep X w w := ⟨fun _ _ => rfl, fun _ h => h⟩
theorem Keep.vw {X : Nat → Prop} {w w' : World} (h : Keep X w w') {b : Nat} (hb : Vw w b) : Vw w' b := let ⟨o, h1, h2⟩ := hb; ⟨o, (h.same b (.inr ⟨o, h1, h2⟩)).trans h1, h2⟩
theorem Keep.trans {X : Nat → Prop} {w w1 w2 : World} (h : Keep X w w1) (k : Keep X w1 w2) : Keep X w w2 := ⟨fun b hb => (k.same b (hb.imp (fun x => x) fun x => h.vw x)).trans (h.same b hb), fun b hb => h.back b (k.back b hb)⟩
def FineE (X : Nat → Prop) (n : Nat) (e : Event) : Prop :=
  (∃ a, e.loc = .cell a ∧ ¬ X a.block ∧ a.block < n ∧ e.sync = false) ∨ (∃ r, e.loc = .obj r ∧ ¬ X r ∧ r < n ∧ (e.write = false ∨ e.sync = false)) ∨ e.loc = .mark .noRoom
theorem FineE.mono {X : Nat → Prop} {n m : Nat} {e : Event} (h : FineE X n e) (hn : n ≤ m) : FineE X m e := by
  rcases h with ⟨a, h1, h2, h3, h4⟩ | ⟨r, h1, h2, h3, h4⟩ | h
  · exact .inl ⟨a, h1, h2, by omega, h4⟩
  · exact .inr (.inl ⟨r, h1, h2, by omega, h4⟩)
  · exact .inr (.inr h)
def aft {α : Type} : Result α → Nat
  | .ok _ w => w.drawn
  | .halt _ w => w.drawn
def Mono1 {α : Type} (w : World) : Result α → Prop
  | .ok _ w' => w.drawn ≤ w'.drawn ∧ NoView w' ∧ w.heap.size ≤ w'.heap.size
  | .halt _ w' => w.drawn ≤ w'.drawn ∧ NoView w'
theorem Mono1.aft {α : Type} {w : World} {r : Result α} (h : Mono1 w r) : w.drawn ≤ aft r := by
  cases r with
  | ok a w' => exact h.1
  | halt x w' => exact h.1
/-- What follows a result. -/
structure Out (P : Program) (X : Nat → Prop) {α : Type} (s : Sem α) (v w : World) (a : α) (v' : World) : Prop where
  get : ∃ w', s.run P w = .ok a w' ∧ Veil X v' w' ∧ Keep X w w' ∧ w'.drawn + v.drawn = v'.drawn + w.drawn ∧ v'.tape = v.tape ∧ w'.tape = w.tape ∧ ∀ es, ∃ evs, s.events P w es = es ++ evs ∧ ∀ e ∈ evs, FineE X w'.heap.size e
structure Kin (P : Program) (X : Nat → Prop) {α : Type} (s : Sem α) : Prop where
  hal : ∀ w, NoView w → ∀ x w', s.run P w = .halt x w' → OkHalt x
  mono : ∀ w, NoView w → Mono1 w (s.run P w)
  sim : ∀ (v w : World) (a : α) (v' : World), Veil X v w → (∀ j q, w.drawn + j < aft (s.run P w) → v.tape (v.drawn + j) q = w.tape (w.drawn + j) q) → s.run P v = .ok a v' → Out P X s v w a v'
section
variable {P : Program} {X : Nat → Prop} {α β : Type}
theorem Kin.pure (a : α) : Kin P X (Pure.pure a : Sem α) :=
  ⟨fun w _ x w' h => (by cases h), fun w h => ⟨Nat.le_refl _, h, Nat.le_refl _⟩, fun v w a' v' hv _ h => by
    cases h
    exact ⟨w, rfl, hv, Keep.refl _ _, by omega, rfl, rfl, fun es => ⟨#[], by simp, fun e he => by simp at he⟩⟩⟩
theorem Kin.halt (x : Halt) (hx : OkHalt x) : Kin P X (Sem.halt x : Sem α) :=
  ⟨fun w _ y w' h => (by cases h; exact hx), fun w hw => ⟨Nat.le_refl _, hw⟩, fun v w a' v' _ _ h => by cases h⟩
/-- What follows a first part: the first part is looked at where the second comes to a value alone. -/
theorem Kin.bind' {s : Sem α} {f : α → Sem β} (hal : ∀ w, NoView w → ∀ x w', s.run P w = .halt x w' → OkHalt x) (mono : ∀ w, NoView w → Mono1 w (s.run P w))
    (sim : ∀ (v w : World) (a : α) (v' : World), Veil X v w → (∀ j q, w.drawn + j < aft (s.run P w) → v.tape (v.drawn + j) q = w.tape (w.drawn + j) q) → s.run P v = .ok a v' → (∃ b v2, (f a).run P v' = .ok b v2) → Out P X s v w a v')
    (hf : ∀ a, Kin P X (f a)) : Kin P X (s >>= f) := by
  refine ⟨fun w hw x w' h => ?_, fun w hw => ?_, fun v w b v' hv ht h => ?_⟩
  · rw [Sem.run_bind] at h
    have h1 := mono w hw
    cases hr : s.run P w with
    | halt y w1 => rw [hr] at h; cases h; exact hal w hw _ _ hr
    | ok a w1 =>
      rw [hr] at h h1
      exact (hf a).hal w1 h1.2.1 _ _ h
  · rw [Sem.run_bind]
    have h1 := mono w hw
    cases hr : s.run P w with
    | halt x w' => rw [hr] at h1; exact h1
    | ok a w1 =>
      rw [hr] at h1
      have h2 := (hf a).mono w1 h1.2.1
      simp only [Result.andThen_ok]
      cases hr2 : (f a).run P w1 with
      | halt x w' => rw [hr2] at h2; exact ⟨Nat.le_trans h1.1 h2.1, h2.2⟩
      | ok b w' => rw [hr2] at h2; exact ⟨Nat.le_trans h1.1 h2.1, h2.2.1, Nat.le_trans h1.2.2 h2.2.2⟩
  · rw [Sem.run_bind] at h
    cases hr : s.run P v with
    | halt x w' => rw [hr] at h; cases h
    | ok a v1 =>
      rw [hr] at h
      simp only [Result.andThen_ok] at h
      have hle : NoView w → aft (s.run P w) ≤ aft ((s >>= f).run P w) := fun hnw => by
        have hm := mono w hnw
        rw [Sem.run_bind]
        cases hq : s.run P w with
        | halt x w' => exact Nat.le_refl _
        | ok a1 w1 =>
          rw [hq] at hm
          exact ((hf a1).mono w1 hm.2.1).aft
      obtain ⟨w1, e1, v1w, k1, d1, t1, t2, g1⟩ := sim v w a v1 hv (fun j q hj => by
        rcases hv.real with hnw | ⟨hd, htp⟩
        · exact ht j q (by have := hle hnw; omega)
        · rw [hd, htp]) hr ⟨b, v', h⟩
      have hbw : (s >>= f).run P w = (f a).run P w1 := by rw [Sem.run_bind, e1]; rfl
      rw [hbw] at ht
      have hmv := mono v hv.novv
      rw [hr] at hmv
      have hd1 : w.drawn ≤ w1.drawn := by have := hmv.1; omega
      obtain ⟨k, hk⟩ : ∃ k, w1.drawn = w.drawn + k := ⟨w1.drawn - w.drawn, by omega⟩
      obtain ⟨w', e2, v2w, k2, d2, t3, t4, g2⟩ := (hf a).sim v1 w1 b v' v1w (fun j q hj => by
        have := ht (k + j) q (by omega)
        rw [t1, t2, hk, show v1.drawn + j = v.drawn + (k + j) by omega, this, show w.drawn + k + j = w.drawn + (k + j) by omega]) h
      refine ⟨w', hbw.trans e2, v2w, k1.trans k2, by omega, t3.trans t1, t4.trans t2, fun es => ?_⟩
      obtain ⟨ev1, h1, f1⟩ := g1 es
      obtain ⟨ev2, h2, f2⟩ := g2 (es ++ ev1)
      have hsz : w1.heap.size ≤ w'.heap.size := by
        have := (hf a).mono v1 v1w.novv
        rw [h] at this
        have h5 := this.2.2
        rw [v1w.size, v2w.size] at h5
        exact h5
      refine ⟨ev1 ++ ev2, ?_, fun e he => ?_⟩
      · have hb := Sem.runT_bind' P s f w es
        have hs1 : s.runT P w es = (.ok a w1, es ++ ev1) := by rw [Sem.runT_eq, e1, h1]
        have hs2 : (f a).runT P w1 (es ++ ev1) = (.ok b w', es ++ ev1 ++ ev2) := by rw [Sem.runT_eq, e2, h2]
        unfold Sem.events
        show ((s.bind f).runT P w es).2 = _
        rw [hb, hs1]
        dsimp only
        rw [hs2, Array.append_assoc]
      · rcases Array.mem_append.1 he with h | h
        · exact (f1 e h).mono hsz
        · exact f2 e h
theorem Kin.bind {s : Sem α} {f : α → Sem β} (hs : Kin P X s) (hf : ∀ a, Kin P X (f a)) : Kin P X (s >>= f) := Kin.bind' hs.hal hs.mono (fun v w a v' hv ht h _ => hs.sim v w a v' hv ht h) hf
theorem Veil.cell {v w : World} (h : Veil X v w) {a : Addr} {x : Value} (hx : v.cell? a = some x) : ¬ X a.block ∧ a.block < v.heap.size ∧ v.heap[a.block]? = w.heap[a.block]? ∧ ¬ Vw w a.block := by
  have hn : ¬ X a.block := fun hX => by
    obtain ⟨he, _⟩ := h.dark _ hX
    unfold World.cell? at hx
    rw [he] at hx
    cases hx
  have hn2 : ¬ Vw w a.block := fun hV => by
    obtain ⟨o', h1, h2⟩ := hV
    have he := h.dim _ _ h1 h2
    unfold World.cell? at hx
    rw [he] at hx
    cases o' <;> cases hx
  refine ⟨hn, ?_, h.same _ hn hn2, hn2⟩
  unfold World.cell? at hx
  rcases Nat.lt_or_ge a.block v.heap.size with hl | hl
  · exact hl
  · rw [Array.getElem?_eq_none hl] at hx
    cases hx
theorem noCell_ok {w : World} (h : NoView w) (a : Addr) (s : String) : OkHalt (w.noCell a s) := by
  unfold World.noCell
  split
  · rename_i e
    exact (h _ _ e).elim
  · exact fun g hg => by cases hg
  · trivial
theorem seen_no (w : World) {at_ : Addr} (u : TypeId) (k : Addr) (m : Bool) (h : at_.spot.isSome = true) : ∃ y, w.seen P at_ u k m = .error y := by
  unfold World.seen
  rw [h, Bool.or_true]
  exact ⟨_, rfl⟩
theorem farLoad_no {w : World} (h : NoView w) (a : Addr) (m : Bool) : ∃ x, w.farLoad P a m = .error x ∧ OkHalt x := by
  unfold World.farLoad
  split
  · rename_i at_ u e
    have hs : at_.spot.isSome = true := h _ _ e
    obtain ⟨y, hy⟩ := seen_no (P := P) w u a m hs
    have : w.viewLoad P at_ u a m = .error y := by unfold World.viewLoad; rw [hy]; rfl
    rw [this]
    exact ⟨_, rfl, fun g hg => by cases hg⟩
  · exact ⟨_, rfl, noCell_ok h _ _⟩
theorem farStore_no {w : World} (h : NoView w) (a : Addr) (u : Value) (m : Bool) : ∃ x, w.farStore P a u m = .error x ∧ OkHalt x := by
  unfold World.farStore
  split
  · rename_i at_ t e
    have hs : at_.spot.isSome = true := h _ _ e
    obtain ⟨y, hy⟩ := seen_no (P := P) w t a m hs
    have : ∃ z, w.viewStore P at_ t a u m = .error z := by
      unfold World.viewStore
      rw [hy]
      by_cases ht : (!tight P P.depth t) = true
      · simp only [ht, if_true]
        exact ⟨_, rfl⟩
      · simp only [ht]
        exact ⟨_, rfl⟩
    obtain ⟨z, hz⟩ := this
    rw [hz]
    exact ⟨_, rfl, fun g hg => by cases hg⟩
  · exact ⟨_, rfl, noCell_ok h _ _⟩
theorem Kin.load (a : Addr) : Kin P X (Go.load a) := by
  refine ⟨fun w hw x w' h => ?_, fun w hw => ?_, fun v w x v' hv _ h => ?_⟩
  · simp only [Go.load, Sem.run] at h
    cases hc : w.cell? a with
    | some y => rw [hc] at h; cases h
    | none =>
      obtain ⟨y, hy, hk⟩ := farLoad_no (P := P) hw a false
      rw [hc] at h
      simp only [show (Mode.plain == Mode.atomic) = false from rfl, hy] at h
      cases h
      exact hk
  · simp only [Go.load, Sem.run]
    cases hc : w.cell? a with
    | some x => exact ⟨Nat.le_refl _, hw, Nat.le_refl _⟩
    | none =>
      obtain ⟨x, hx, _⟩ := farLoad_no (P := P) hw a false
      simp only [show (Mode.plain == Mode.atomic) = false from rfl, hx]
      exact ⟨Nat.le_refl _, hw⟩
  · simp only [Go.load, Sem.run] at h
    cases hc : v.cell? a with
    | none =>
      obtain ⟨y, hy, _⟩ := farLoad_no (P := P) hv.novv a false
      rw [hc] at h
      simp only [show (Mode.plain == Mode.atomic) = false from rfl, hy] at h
      cases h
    | some y =>
      rw [hc] at h
      cases h
      obtain ⟨hX, hl, he, hV⟩ := hv.cell hc
      have hw : w.cell? a = some x := by rw [← hc]; unfold World.cell?; rw [he]
      refine ⟨w, by simp only [Go.load, Sem.run, hw], hv, Keep.refl _ _, by omega, rfl, rfl, fun es => ⟨#[⟨.cell a, false, false⟩], ?_, fun e h1 => ?_⟩⟩
      · simp only [Sem.events, Go.load, Sem.runT, hw]
        rfl
      · simp only [List.mem_toArray, List.mem_cons, List.not_mem_nil, or_false] at h1
        subst h1
        exact .inl ⟨a, rfl, hX, by rw [← hv.size]; exact hl, rfl⟩
theorem setCell_at (w : World) (a : Addr) (u : Value) (b : Nat) : (w.setCell a u).heap[b]? = if b = a.block then (w.heap[b]?).map fun
      | .cells c elem frozen => .cells (if a.spot.isSome then c else c.setIfInBounds a.off u) elem frozen
      | o => o else w.heap[b]? := by
  unfold World.setCell
  dsimp only
  rw [Array.getElem?_modify]
  by_cases h : a.block = b
  · rw [if_pos h, if_pos h.symm]
    congr 1
  · rw [if_neg h, if_neg (fun e => h e.symm)]
theorem NoView.set_ {w : World} (h : NoView w) (a : Addr) (u : Value) : NoView (w.setCell a u) := fun b x e => by
  rw [setCell_at] at e
  split at e
  · cases hb : w.heap[b]? with
    | none => rw [hb] at e; cases e
    | some o =>
      rw [hb] at e
      simp only [Option.map_some, Option.some.injEq] at e
      have := h b o hb
      subst e
      cases o <;> first | exact this | trivial
  · exact h b x e
theorem vw_set (w : World) (a : Addr) (u : Value) (b : Nat) : Vw (w.setCell a u) b ↔ Vw w b := by
  unfold Vw
  rw [setCell_at]
  split
  · cases hb : w.heap[b]? with
    | none => simp
    | some o =>
      cases o <;> simp [Obj.plain]
  · exact Iff.rfl
theorem Kin.store (a : Addr) (u : Value) : Kin P X (Go.store a u) := by
  have hbad : ∀ w : World, (∀ x, u ≠ .agg x) → (∀ x, u ≠ .tuple x) → (Go.store a u).run P w = match w.cell? a with
      | some _ => if w.frozen? a then .halt (.unsupported (.unsafePointer "a write to bytes that a string shares")) w else .ok () (w.setCell a u)
      | none => match w.farStore P a u false with
        | .ok (w, _) => .ok () w
        | .error h => .halt h w := by
    intro w h1 h2
    cases u <;> first | rfl | exact absurd rfl (h1 _) | exact absurd rfl (h2 _)
  have hne : (∃ x, u = .agg x) ∨ (∃ x, u = .tuple x) ∨ ((∀ x, u ≠ .agg x) ∧ ∀ x, u ≠ .tuple x) := by
    cases u <;> simp
  rcases hne with ⟨x, rfl⟩ | ⟨x, rfl⟩ | ⟨h1, h2⟩
  · exact ⟨fun w _ x w' h => (by cases h; trivial), fun w hw => ⟨Nat.le_refl _, hw⟩, fun v w x v' _ _ h => by cases h⟩
  · exact ⟨fun w _ x w' h => (by cases h; trivial), fun w hw => ⟨Nat.le_refl _, hw⟩, fun v w x v' _ _ h => by cases h⟩
  · refine ⟨fun w hw x w' h => ?_, fun w hw => ?_, fun v w x v' hv _ h => ?_⟩
    · rw [hbad w h1 h2] at h
      cases hc : w.cell? a with
      | some y =>
        rw [hc] at h
        dsimp only at h
        split at h
        · cases h
          exact fun g hg => by cases hg
        · cases h
      | none =>
        obtain ⟨y, hy, hk⟩ := farStore_no (P := P) hw a u false
        rw [hc] at h
        simp only [hy] at h
        cases h
        exact hk
    · rw [hbad w h1 h2]
      cases hc : w.cell? a with
      | some x =>
        dsimp only
        split
        · exact ⟨Nat.le_refl _, hw⟩
        · exact ⟨Nat.le_refl _, hw.set_ a u, by simp [World.setCell]⟩
      | none =>
        obtain ⟨x, hx, _⟩ := farStore_no (P := P) hw a u false
        simp only [hx]
        exact ⟨Nat.le_refl _, hw⟩
    · rw [hbad v h1 h2] at h
      cases hc : v.cell? a with
      | none =>
        obtain ⟨y, hy, _⟩ := farStore_no (P := P) hv.novv a u false
        rw [hc] at h
        simp only [hy] at h
        cases h
      | some y =>
        rw [hc] at h
        dsimp only at h
        split at h
        · cases h
        · rename_i hfz
          cases h
          obtain ⟨hX, hl, he, hV⟩ := hv.cell hc
          have hw : w.cell? a = some y := by rw [← hc]; unfold World.cell?; rw [he]
          have hf : w.frozen? a = false := by
            have : w.frozen? a = v.frozen? a := by unfold World.frozen?; rw [he]
            rw [this]
            exact Bool.not_eq_true _ ▸ hfz
          have hr : (Go.store a u).run P w = .ok () (w.setCell a u) := by
            rw [hbad w h1 h2, hw]
            simp [hf]
          refine ⟨w.setCell a u, hr, ⟨by simp [World.setCell, hv.size], fun b hb hbv => ?_, fun b hb => ?_, fun b o hbo hbn => ?_, hv.os, hv.out, hv.real.imp (fun h => h.set_ a u) id⟩, ⟨fun b hb => by rw [setCell_at, if_neg (fun e : b = a.block => hb.elim (fun hb => hX (e ▸ hb)) (fun hb => hV (e ▸ hb)))], fun b hb => (vw_set w a u b).1 hb⟩, by show w.drawn + v.drawn = v.drawn + w.drawn; omega, rfl, rfl, fun es => ⟨#[⟨.cell a, true, false⟩], ?_, fun e h3 => ?_⟩⟩
          · rw [setCell_at, setCell_at]
            split
            · rename_i e
              subst e
              rw [he]
            · exact hv.same b hb (fun x => hbv ((vw_set w a u b).2 x))
          · have hne : b ≠ a.block := fun e => hX (e ▸ hb)
            rw [setCell_at, setCell_at, if_neg hne, if_neg hne]
            exact hv.dark b hb
          · have hb := (vw_set w a u b).1 ⟨o, hbo, hbn⟩
            have hne : b ≠ a.block := fun e => hV (e ▸ hb)
            rw [setCell_at, if_neg hne] at hbo ⊢
            exact hv.dim b o hbo hbn
          · unfold Sem.events Go.store
            cases u <;> first | exact absurd rfl (h1 _) | exact absurd rfl (h2 _) | (simp only [Sem.runT, hw, hf]; rfl)
          · simp only [List.mem_toArray, List.mem_cons, List.not_mem_nil, or_false] at h3
            subst h3
            exact .inl ⟨a, rfl, hX, by simp only [World.setCell, Array.size_modify]; rw [← hv.size]; exact hl, rfl⟩
theorem Kin.newObj (o : Obj) (ho : Obj.plain o) : Kin P X (Go.newObj o) := by
  have hnv : ∀ w : World, NoView w → NoView { w with heap := w.heap.push o } := fun w hw b a h => by
    have h : (w.heap.push o)[b]? = some a := h
    rw [Array.getElem?_push] at h
    split at h
    · injection h with h
      exact h ▸ ho
    · exact hw b a h
  refine ⟨fun w _ x w' h => (by cases h), fun w hw => ⟨Nat.le_refl _, hnv w hw, by show w.heap.size ≤ (w.heap.push _).size; simp⟩, fun v w x v' hv _ h => ?_⟩
  have h : Result.ok v.heap.size { v with heap := v.heap.push o } = Result.ok x v' := h
  injection h with h1 h2
  subst h1 h2
  refine ⟨{ w with heap := w.heap.push o }, by rw [hv.size]; rfl, ⟨by simp [hv.size], fun b hb hbv => ?_, fun b hb => ?_, fun b o' h1 h2 => ?_, hv.os, hv.out, hv.real.imp (hnv w) id⟩, ⟨fun b hb => ?_, fun b ⟨o', h1, h2⟩ => ?_⟩, by show w.drawn + v.drawn = v.drawn + w.drawn; omega, rfl, rfl, fun es => ⟨#[], by simp [Sem.events, Go.newObj, Sem.runT], fun e he => by simp at he⟩⟩
  · show (v.heap.push _)[b]? = (w.heap.push _)[b]?
    by_cases hl : b = w.heap.size
    · rw [Array.getElem?_push, Array.getElem?_push, hv.size, if_pos hl, if_pos hl]
    · have hbv : ¬ Vw w b := fun ⟨o', h1, h2⟩ => hbv ⟨o', by
        show (w.heap.push _)[b]? = _
        rw [Array.getElem?_push, if_neg hl]
        exact h1, h2⟩
      rw [Array.getElem?_push, Array.getElem?_push, hv.size, hv.same b hb hbv]
  · obtain ⟨he1, c2, e2, he2, hc2⟩ := hv.dark b hb
    refine ⟨?_, c2, e2, ?_, hc2⟩
    · show (v.heap.push _)[b]? = _
      have := (Array.getElem?_eq_some_iff.1 he1).1
      rw [Array.getElem?_push, if_neg (by omega)]
      exact he1
    · show (w.heap.push _)[b]? = _
      have := (Array.getElem?_eq_some_iff.1 he2).1
      rw [Array.getElem?_push, if_neg (by omega)]
      exact he2
  · have h1 : (w.heap.push o)[b]? = some o' := h1
    rw [Array.getElem?_push] at h1
    split at h1
    · injection h1 with h1
      exact absurd ho (h1 ▸ h2)
    · have hd := hv.dim b o' h1 h2
      show (v.heap.push _)[b]? = _
      have := (Array.getElem?_eq_some_iff.1 hd).1
      rw [Array.getElem?_push, if_neg (by omega)]
      exact hd
  · have hlt : b < w.heap.size := by
      rcases hb with hb | ⟨o', h1, _⟩
      · obtain ⟨_, c2, e2, he2, _⟩ := hv.dark b hb
        exact (Array.getElem?_eq_some_iff.1 he2).1
      · exact (Array.getElem?_eq_some_iff.1 h1).1
    show (w.heap.push _)[b]? = _
    rw [Array.getElem?_push, if_neg (by omega)]
  · have h1 : (w.heap.push o)[b]? = some o' := h1
    rw [Array.getElem?_push] at h1
    split at h1
    · injection h1 with h1
      exact absurd ho (h1 ▸ h2)
    · exact ⟨o', h1, h2⟩
theorem Kin.choose (q : Question) : Kin P X (Go.choose q) := by
  refine ⟨fun w hw x w' h => ?_, fun w hw => ?_, fun v w x v' hv ht h => ?_⟩
  · simp only [Go.choose, Sem.run] at h
    split at h <;> cases h
  · simp only [Go.choose, Sem.run]
    split
    · exact ⟨Nat.le_refl _, hw, Nat.le_refl _⟩
    · exact ⟨Nat.le_succ _, hw, Nat.le_refl _⟩
  · simp only [Go.choose, Sem.run] at h ht
    split at h
    · rename_i hq
      cases h
      exact ⟨w, by simp only [Go.choose, Sem.run, hq, if_true], hv, Keep.refl _ _, by omega, rfl, rfl, fun es => ⟨#[], by simp [Sem.events, Go.choose, Sem.runT, hq], fun e he => by simp at he⟩⟩
    · rename_i hq
      rw [if_neg hq] at ht
      have h0 := ht 0 q (by simp [aft])
      cases h
      rw [Nat.add_zero, Nat.add_zero] at h0
      refine ⟨{ w with drawn := w.drawn + 1 }, by simp only [Go.choose, Sem.run]; rw [if_neg hq, h0], ⟨hv.size, hv.same, hv.dark, hv.dim, hv.os, hv.out, hv.real.imp id fun x => ⟨by show v.drawn + 1 = w.drawn + 1; rw [x.1], x.2⟩⟩, ⟨fun _ _ => rfl, fun _ h => h⟩, by show w.drawn + 1 + v.drawn = v.drawn + 1 + w.drawn; omega, rfl, rfl, fun es => ⟨#[], by simp [Sem.events, Go.choose, Sem.runT, hq], fun e he => by simp at he⟩⟩
theorem Kin.program : Kin P X Go.program :=
  ⟨fun w _ x w' h => (by cases h), fun w hw => ⟨Nat.le_refl _, hw, Nat.le_refl _⟩, fun v w x v' hv _ h => by
    cases h
    exact ⟨w, rfl, hv, Keep.refl _ _, by omega, rfl, rfl, fun es => ⟨#[], by simp [Sem.events, Go.program, Sem.runT], fun e he => by simp at he⟩⟩⟩
theorem Kin.noRoom : Kin P X (Go.mark .noRoom) :=
  ⟨fun w _ x w' h => (by cases h), fun w hw => ⟨Nat.le_refl _, hw, Nat.le_refl _⟩, fun v w x v' hv _ h => by
    cases h
    exact ⟨w, rfl, hv, Keep.refl _ _, by omega, rfl, rfl, fun es => ⟨#[⟨.mark .noRoom, false, true⟩], by simp [Sem.events, Go.mark, Sem.runT], fun e he => by
      simp only [List.mem_toArray, List.mem_cons, List.not_mem_nil, or_false] at he
      subst he
      exact .inr (.inr rfl)⟩⟩⟩
theorem Kin.frozen (a : Addr) : Kin P X (Go.frozen a) := by
  refine ⟨fun w _ x w' h => (by cases h), fun w hw => ⟨Nat.le_refl _, hw, Nat.le_refl _⟩, fun v w x v' hv _ h => ?_⟩
  cases h
  have hf : w.frozen? a = v.frozen? a := by
    unfold World.frozen?
    by_cases hX : X a.block
    · obtain ⟨he1, c2, e2, he2, _⟩ := hv.dark _ hX
      rw [he1, he2]
      simp
    · by_cases hV : Vw w a.block
      · obtain ⟨o, h1, h2⟩ := hV
        rw [hv.dim _ _ h1 h2, h1]
        cases o <;> first | rfl | exact absurd trivial h2
      · rw [hv.same _ hX hV]
  exact ⟨w, by simp only [Go.frozen, Sem.run, hf], hv, Keep.refl _ _, by omega, rfl, rfl, fun es => ⟨#[], by simp [Sem.events, Go.frozen, Sem.runT], fun e he => by simp at he⟩⟩
theorem getObj_hal (r : Nat) (w : World) (hw : NoView w) (x : Halt) (w' : World) (h : (Go.getObj r).run P w = .halt x w') : OkHalt x := by
  simp only [Go.getObj, Sem.run] at h
  split at h
  · cases h; trivial
  · cases h
  · cases h; trivial
/-- A block that lies open. -/
theorem getObj_sim {r : Nat} {v w : World} (hv : Veil X v w) (hX : ¬ X r) (hV : ¬ Vw w r) {x : Obj} {v' : World} (h : (Go.getObj r).run P v = .ok x v') : Out P X (Go.getObj r) v w x v' := by
  have he := hv.same r hX hV
  cases hr : v.heap[r]? with
  | none => simp only [Go.getObj, Sem.run, hr] at h; cases h
  | some o =>
    have hrw : w.heap[r]? = some o := by rw [← he, hr]
    cases o
    case cells => simp only [Go.getObj, Sem.run, hr] at h; cases h
    all_goals
      (simp only [Go.getObj, Sem.run, hr] at h
       cases h
       refine ⟨w, by simp only [Go.getObj, Sem.run, hrw], hv, Keep.refl _ _, by omega, rfl, rfl, fun es => ⟨#[⟨.obj r, false, Obj.isChan _⟩], by simp only [Sem.events, Go.getObj, Sem.runT, hrw]; rfl, fun e h1 => ?_⟩⟩
       simp only [List.mem_toArray, List.mem_cons, List.not_mem_nil, or_false] at h1
       subst h1
       exact .inr (.inl ⟨r, rfl, hX, (Array.getElem?_eq_some_iff.1 hrw).1, .inl rfl⟩))
theorem shape_sim {r : Nat} {v w : World} (hv : Veil X v w) (hX : ¬ X r) (hV : ¬ Vw w r) {x : Option (TypeId × Nat)} {v' : World} (h : (Go.shape r).run P v = .ok x v') : Out P X (Go.shape r) v w x v' := by
  cases h
  have hs : w.shape? r = v.shape? r := by unfold World.shape?; rw [hv.same r hX hV]
  exact ⟨w, by simp only [Go.shape, Sem.run, hs], hv, Keep.refl _ _, by omega, rfl, rfl, fun es => ⟨#[], by simp [Sem.events, Go.shape, Sem.runT], fun e he => by simp at he⟩⟩
theorem shape_mono (r : Nat) (w : World) (hw : NoView w) : Mono1 w ((Go.shape r).run P w) := ⟨Nat.le_refl _, hw, Nat.le_refl _⟩
theorem getObj_mono (r : Nat) (w : World) (hw : NoView w) : Mono1 w ((Go.getObj r).run P w) := by
  simp only [Go.getObj, Sem.run]
  split
  · exact ⟨Nat.le_refl _, hw⟩
  · exact ⟨Nat.le_refl _, hw, Nat.le_refl _⟩
  · exact ⟨Nat.le_refl _, hw⟩
theorem pure_mono (a : α) (w : World) (hw : NoView w) : Mono1 w ((Pure.pure a : Sem α).run P w) := ⟨Nat.le_refl _, hw, Nat.le_refl _⟩
theorem bind_mono {s : Sem α} {f : α → Sem β} (hs : ∀ w, NoView w → Mono1 w (s.run P w)) (hf : ∀ a w, NoView w → Mono1 w ((f a).run P w)) (w : World) (hw : NoView w) : Mono1 w ((s >>= f).run P w) := by
  rw [Sem.run_bind]
  have h1 := hs w hw
  cases hr : s.run P w with
  | halt x w' => rw [hr] at h1; exact h1
  | ok a w1 =>
    rw [hr] at h1
    have h2 := hf a w1 h1.2.1
    simp only [Result.andThen_ok]
    cases hr2 : (f a).run P w1 with
    | halt x w' => rw [hr2] at h2; exact ⟨Nat.le_trans h1.1 h2.1, h2.2⟩
    | ok b w' => rw [hr2] at h2; exact ⟨Nat.le_trans h1.1 h2.1, h2.2.1, Nat.le_trans h1.2.2 h2.2.2⟩
theorem bind_hal {s : Sem α} {f : α → Sem β} (hm : ∀ w, NoView w → Mono1 w (s.run P w)) (hs : ∀ w, NoView w → ∀ x w', s.run P w = .halt x w' → OkHalt x) (hf : ∀ a w, NoView w → ∀ x w', (f a).run P w = .halt x w' → OkHalt x) (w : World) (hw : NoView w) (x : Halt) (w' : World) (h : (s >>= f).run P w = .halt x w') : OkHalt x := by
  rw [Sem.run_bind] at h
  have h1 := hm w hw
  cases hr : s.run P w with
  | halt y w1 => rw [hr] at h; cases h; exact hs w hw _ _ hr
  | ok a w1 =>
    rw [hr] at h h1
    exact hf a w1 h1.2.1 _ _ h
/-- A block's shape is asked, and without one nothing comes to a value. -/
theorem Kin.shapeB (r : Nat) {f : Option (TypeId × Nat) → Sem β} (hf : ∀ s, Kin P X (f s)) (hn : ∀ v a v', (f none).run P v ≠ .ok a v') : Kin P X (Go.shape r >>= f) := by
  refine Kin.bind' (fun w _ x w' h => by cases h) (shape_mono r) (fun v w a v' hv _ h hb => ?_) hf
  have hd : v.shape? r = none → False := fun this => by
    simp only [Go.shape, Sem.run, this] at h
    cases h
    obtain ⟨b, v2, hb⟩ := hb
    exact hn _ _ _ hb
  refine shape_sim hv (fun hX => hd ?_) (fun ⟨o, h1, h2⟩ => hd ?_) h
  · unfold World.shape?
    rw [(hv.dark r hX).1]
  · unfold World.shape?
    rw [hv.dim r o h1 h2]
    cases o <;> rfl
theorem Kin.getObjB (r : Nat) {f : Obj → Sem β} (hf : ∀ s, Kin P X (f s)) (hn : ∀ v a v', (f (.stringIter .empty 0)).run P v ≠ .ok a v') (hn2 : ∀ v a v', (f (.view ⟨0, 0, some 0⟩ 0)).run P v ≠ .ok a v') : Kin P X (Go.getObj r >>= f) := by
  refine Kin.bind' (getObj_hal r) (getObj_mono r) (fun v w a v' hv _ h hb => ?_) hf
  have hd : v.heap[r]? = some (.stringIter .empty 0) → False := fun hd => by
    simp only [Go.getObj, Sem.run, hd] at h
    cases h
    obtain ⟨b, v2, hb⟩ := hb
    exact hn _ _ _ hb
  have hd2 : v.heap[r]? = some (.view ⟨0, 0, some 0⟩ 0) → False := fun hd => by
    simp only [Go.getObj, Sem.run, hd] at h
    cases h
    obtain ⟨b, v2, hb⟩ := hb
    exact hn2 _ _ _ hb
  refine getObj_sim hv (fun hX => hd (hv.dark r hX).1) (fun ⟨o, h1, h2⟩ => ?_) h
  have := hv.dim r o h1 h2
  cases o with
  | view _ _ => exact hd2 this
  | _ => exact hd this
/-- What comes to one and the same in every world that hides the block. -/
theorem Kin.const {s : Sem α} (a : α) (hh : ∀ w, NoView w → ∀ x w', s.run P w = .halt x w' → OkHalt x) (hm : ∀ w, NoView w → Mono1 w (s.run P w)) (h : ∀ v w : World, Veil X v w → s.run P v = .ok a v ∧ s.run P w = .ok a w ∧ ∀ es, s.events P w es = es) : Kin P X s :=
  ⟨hh, hm, fun v w x v' hv _ hr => by
    obtain ⟨h1, h2, h3⟩ := h v w hv
    rw [h1] at hr
    cases hr
    exact ⟨w, h2, hv, Keep.refl _ _, by omega, rfl, rfl, fun es => ⟨#[], by rw [h3]; simp, fun e he => by simp at he⟩⟩⟩
theorem Kin.bindP {f : Program → Sem β} (hf : Kin P X (f P)) : Kin P X (Go.program >>= f) := by
  have e : ∀ w, (Go.program >>= f).run P w = (f P).run P w := fun w => by rw [Sem.run_bind]; rfl
  refine ⟨fun w hw x w' h => by rw [e] at h; exact hf.hal w hw x w' h, fun w hw => by rw [e]; exact hf.mono w hw, fun v w a v' hv ht h => ?_⟩
  rw [e] at h ht
  obtain ⟨w', h1, h2, hk, h3, h4, h5, h6⟩ := hf.sim v w a v' hv ht h
  exact ⟨w', (e w).trans h1, h2, hk, h3, h4, h5, fun es => by
    obtain ⟨evs, h7, h8⟩ := h6 es
    exact ⟨evs, h7, h8⟩⟩
/-- What never comes to a value. -/
theorem Kin.dead {s : Sem α} (hh : ∀ w, NoView w → ∀ x w', s.run P w = .halt x w' → OkHalt x) (hm : ∀ w, NoView w → Mono1 w (s.run P w)) (h : ∀ v a v', s.run P v ≠ .ok a v') : Kin P X s := ⟨hh, hm, fun v _ a v' _ _ e => absurd e (h v a v')⟩
theorem Kin.map (f : α → β) {s : Sem α} (h : Kin P X s) : Kin P X (f <$> s) := Kin.bind h fun a => Kin.pure (f a)
theorem Kin.ite (c : Prop) [Decidable c] {x y : Sem α} (hx : Kin P X x) (hy : Kin P X y) : Kin P X (if c then x else y) := by split <;> assumption
end
end Go.Proofs.Ytoipkpndfgcmcaa.Veils
