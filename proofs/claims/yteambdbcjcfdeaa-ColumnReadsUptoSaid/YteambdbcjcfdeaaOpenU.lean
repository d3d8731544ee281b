/-
  What the bound on the bulk of arguments says of the length of a list.
-/
import Derived.Test.YteambdbcjcfdeaaRows
import Derived.Test.YteambdbcjcfdeaaOpen
namespace Go.Proofs.Yteambdbcjcfdeaa
open Go.RowKit Go.ChangeShapes Go.WideShapes Go.ChangeAt Go.Deep

theorem bulk_pos {H : Type} (d : DataW H) : 1 ≤ Rows.uptoBulk d := by
  cases d with
  | lit l => cases l <;> simp [Rows.uptoBulk]
  | nil => simp [Rows.uptoBulk]
  | ptr d => simp [Rows.uptoBulk]
  | slice elems spare => simp [Rows.uptoBulk]
  | agg parts => simp [Rows.uptoBulk]
  | iface t d => simp [Rows.uptoBulk]
  | map entries => simp [Rows.uptoBulk]
  | held h => simp [Rows.uptoBulk]
theorem bulk_mem {H : Type} {d : DataW H} {l : List (DataW H)} (h : d ∈ l) : Rows.uptoBulk d ≤ Rows.uptoBulkAll l := by
  induction l with
  | nil => cases h
  | cons x r ih =>
    rw [Rows.uptoBulkAll]
    rcases List.mem_cons.1 h with rfl | h
    · omega
    · have := ih h; omega
theorem bulk_len {H : Type} (l : List (DataW H)) : l.length ≤ Rows.uptoBulkAll l := by
  induction l with
  | nil => simp [Rows.uptoBulkAll]
  | cons x r ih =>
    rw [Rows.uptoBulkAll, List.length_cons]
    have := bulk_pos x
    omega
theorem small_all {H : Type} {ds : List (DataW H)} (h : Rows.uptoSmall H ds = true) : ∀ d ∈ ds, Rows.uptoBulk d ≤ 1048576 := fun d hd => by
  have h1 : Rows.uptoBulkAll ds ≤ 1048576 := of_decide_eq_true h
  have := bulk_mem hd
  omega
theorem small_len {H : Type} {a : Option Addr} {len cap : Nat} {d : DataW H} (hb : Rows.uptoBulk d ≤ 1048576) (ho : (a = none ∧ len = 0 ∧ cap = 0) ∨ (len ≤ cap ∧ ∃ el sp, d = .slice el sp ∧ el.length + sp.length = cap)) : len ≤ 1048576 := by
  rcases ho with ⟨_, h0, _⟩ | ⟨hl, el, sp, rfl, hs⟩
  · omega
  · have h6 : Rows.uptoBulk (DataW.slice el sp) = Rows.uptoBulkAll el + Rows.uptoBulkAll sp + 1 := by simp [Rows.uptoBulk]
    have h5 := bulk_len el
    have h4 := bulk_len sp
    omega
theorem small_cap {H : Type} {a : Option Addr} {len cap : Nat} {d : DataW H} (hb : Rows.uptoBulk d ≤ 1048576) (ho : (a = none ∧ len = 0 ∧ cap = 0) ∨ (len ≤ cap ∧ ∃ el sp, d = .slice el sp ∧ el.length + sp.length = cap)) : cap ≤ 1048576 := by
  rcases ho with ⟨_, _, h0⟩ | ⟨hl, el, sp, rfl, hs⟩
  · omega
  · have h6 : Rows.uptoBulk (DataW.slice el sp) = Rows.uptoBulkAll el + Rows.uptoBulkAll sp + 1 := by simp [Rows.uptoBulk]
    have h5 := bulk_len el
    have h4 := bulk_len sp
    omega
end Go.Proofs.Yteambdbcjcfdeaa
