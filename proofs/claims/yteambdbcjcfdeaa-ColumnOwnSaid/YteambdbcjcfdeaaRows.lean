/-
  No cell of these rows narrows 'for every input' (looked for: loops, veiled, ifaces, maps, wideKeys, modest, calm, conditions, laid).
  DERIVED. THE GIVEN ROWS OF THIS SEAT. 7 by the template 'for every input the law returns true; each argument reads behind the call as it read before'; 0 by the template 'total and deterministic' (their statements: YteambdbcjcfdeaaTotals.lean).
  GIVEN WITH THE SEED: the statements are not yours to turn. If you find one false, say at which input.
  Laid BY PROGRAM, IN A SANDBOX (cutbox-rows.mjs): the forced cells as the released guide's own fill.sh prints them over the translation 8beac909bd711620… (all of the seat's roots in one cut). By AI agents, Wed Nov 11 2026. No macro, syntax, notation, axiom, sorry.
-/
import Derived.Test.YteambdbcjcfdeaaChecked
import GoSem.Claim
import GoSem.ClaimJoined
import GoSem.ClaimMapViews
import Derived.JoinedTies
import Derived.KernelRfl
namespace Go.Proofs.Yteambdbcjcfdeaa
/- THE CELL 'sum', in the pinned program and in every row, IS THE sha256 OF THE DUMP (.gsa) THAT YteambdbcjcfdeaaProg.lean LOADS. Nothing in Lean hashes anything: it is a label: what it is worth is what the hold of that sum in a sandbox is worth. -/
noncomputable def Try.pinned : Pinned := { name := "yteambdbcjcfdeaa", sum := "8beac909bd711620af5a4085da2431d73cab0bf33319e1a2784fd588a42eb3b7", checked := Try.checked }
namespace Rows
def none {H : Type} : Left H := { results := [], args := [] }

/-- 'sibyllaw05.ColumnPages': WHATEVER THE INPUT: true; the input reads as it did. -/
def columnPagesSpec : ChangeSpec := { name := "columnPages", fn := fun _ => fun
  | [d] => { results := [.lit (.bool true)], args := [d] }
  | _ => none }
def columnPagesRow : OpenClaim := { program := "yteambdbcjcfdeaa", sum := "8beac909bd711620af5a4085da2431d73cab0bf33319e1a2784fd588a42eb3b7", func := "sibyl/sibyllaw05.ColumnPages", spec := "columnPages", unfollowed := true, recurses := true, apart := false }
def ColumnPagesSaid : Prop := columnPagesRow.holds Try.pinned (OpenSpec.ofChange columnPagesSpec)

/-- ITS FALSE NEIGHBOUR: 'it returns false'. Refute it at one input. -/
def columnPagesWrong : ChangeSpec := { name := "columnPages", fn := fun _ => fun
  | [d] => { results := [.lit (.bool false)], args := [d] }
  | _ => none }
def ColumnPagesWrongFalsely : Prop := columnPagesRow.holds Try.pinned (OpenSpec.ofChange columnPagesWrong)

/-- 'sibyllaw05.ColumnShort': WHATEVER THE INPUT: true; the input reads as it did. -/
def columnShortSpec : ChangeSpec := { name := "columnShort", fn := fun _ => fun
  | [d] => { results := [.lit (.bool true)], args := [d] }
  | _ => none }
def columnShortRow : OpenClaim := { program := "yteambdbcjcfdeaa", sum := "8beac909bd711620af5a4085da2431d73cab0bf33319e1a2784fd588a42eb3b7", func := "sibyl/sibyllaw05.ColumnShort", spec := "columnShort", unfollowed := true, recurses := true, apart := false }
def ColumnShortSaid : Prop := columnShortRow.holds Try.pinned (OpenSpec.ofChange columnShortSpec)

/-- ITS FALSE NEIGHBOUR: 'it returns false'. Refute it at one input. -/
def columnShortWrong : ChangeSpec := { name := "columnShort", fn := fun _ => fun
  | [d] => { results := [.lit (.bool false)], args := [d] }
  | _ => none }
def ColumnShortWrongFalsely : Prop := columnShortRow.holds Try.pinned (OpenSpec.ofChange columnShortWrong)

/-- 'sibyllaw05.ColumnReads': WHATEVER THE INPUT: true; the input reads as it did. -/
def columnReadsSpec : ChangeSpec := { name := "columnReads", fn := fun _ => fun
  | [d1, d2] => { results := [.lit (.bool true)], args := [d1, d2] }
  | _ => none }
def columnReadsRow : OpenClaim := { program := "yteambdbcjcfdeaa", sum := "8beac909bd711620af5a4085da2431d73cab0bf33319e1a2784fd588a42eb3b7", func := "sibyl/sibyllaw05.ColumnReads", spec := "columnReads", unfollowed := true, recurses := true, apart := false }
def ColumnReadsSaid : Prop := columnReadsRow.holds Try.pinned (OpenSpec.ofChange columnReadsSpec)

/-- ITS FALSE NEIGHBOUR: 'it returns false'. Refute it at one input. -/
def columnReadsWrong : ChangeSpec := { name := "columnReads", fn := fun _ => fun
  | [d1, d2] => { results := [.lit (.bool false)], args := [d1, d2] }
  | _ => none }
def ColumnReadsWrongFalsely : Prop := columnReadsRow.holds Try.pinned (OpenSpec.ofChange columnReadsWrong)

/-- 'sibyllaw05.ColumnKnown': WHATEVER THE INPUT: true; the input reads as it did. -/
def columnKnownSpec : ChangeSpec := { name := "columnKnown", fn := fun _ => fun
  | [] => { results := [.lit (.bool true)], args := [] }
  | _ => none }
def columnKnownRow : OpenClaim := { program := "yteambdbcjcfdeaa", sum := "8beac909bd711620af5a4085da2431d73cab0bf33319e1a2784fd588a42eb3b7", func := "sibyl/sibyllaw05.ColumnKnown", spec := "columnKnown", unfollowed := true, recurses := true, apart := false }
def ColumnKnownSaid : Prop := columnKnownRow.holds Try.pinned (OpenSpec.ofChange columnKnownSpec)

/-- ITS FALSE NEIGHBOUR: 'it returns false'. Refute it at one input. -/
def columnKnownWrong : ChangeSpec := { name := "columnKnown", fn := fun _ => fun
  | [] => { results := [.lit (.bool false)], args := [] }
  | _ => none }
def ColumnKnownWrongFalsely : Prop := columnKnownRow.holds Try.pinned (OpenSpec.ofChange columnKnownWrong)

/-- 'sibyllaw05.ColumnBack': WHATEVER THE INPUT: true; the input reads as it did. -/
def columnBackSpec : ChangeSpec := { name := "columnBack", fn := fun _ => fun
  | [d1, d2, d3, d4] => { results := [.lit (.bool true)], args := [d1, d2, d3, d4] }
  | _ => none }
def columnBackRow : OpenClaim := { program := "yteambdbcjcfdeaa", sum := "8beac909bd711620af5a4085da2431d73cab0bf33319e1a2784fd588a42eb3b7", func := "sibyl/sibyllaw05.ColumnBack", spec := "columnBack", unfollowed := true, recurses := true, apart := false }
def ColumnBackSaid : Prop := columnBackRow.holds Try.pinned (OpenSpec.ofChange columnBackSpec)

/-- ITS FALSE NEIGHBOUR: 'it returns false'. Refute it at one input. -/
def columnBackWrong : ChangeSpec := { name := "columnBack", fn := fun _ => fun
  | [d1, d2, d3, d4] => { results := [.lit (.bool false)], args := [d1, d2, d3, d4] }
  | _ => none }
def ColumnBackWrongFalsely : Prop := columnBackRow.holds Try.pinned (OpenSpec.ofChange columnBackWrong)

/-- 'sibyllaw05.ColumnOne': WHATEVER THE INPUT: true; the input reads as it did. -/
def columnOneSpec : ChangeSpec := { name := "columnOne", fn := fun _ => fun
  | [d1, d2] => { results := [.lit (.bool true)], args := [d1, d2] }
  | _ => none }
def columnOneRow : OpenClaim := { program := "yteambdbcjcfdeaa", sum := "8beac909bd711620af5a4085da2431d73cab0bf33319e1a2784fd588a42eb3b7", func := "sibyl/sibyllaw05.ColumnOne", spec := "columnOne", unfollowed := true, recurses := true, apart := false }
def ColumnOneSaid : Prop := columnOneRow.holds Try.pinned (OpenSpec.ofChange columnOneSpec)

/-- ITS FALSE NEIGHBOUR: 'it returns false'. Refute it at one input. -/
def columnOneWrong : ChangeSpec := { name := "columnOne", fn := fun _ => fun
  | [d1, d2] => { results := [.lit (.bool false)], args := [d1, d2] }
  | _ => none }
def ColumnOneWrongFalsely : Prop := columnOneRow.holds Try.pinned (OpenSpec.ofChange columnOneWrong)

/-- 'sibyllaw05.ColumnOwn': WHATEVER THE INPUT: true; the input reads as it did. -/
def columnOwnSpec : ChangeSpec := { name := "columnOwn", fn := fun _ => fun
  | [d1, d2] => { results := [.lit (.bool true)], args := [d1, d2] }
  | _ => none }
def columnOwnRow : OpenClaim := { program := "yteambdbcjcfdeaa", sum := "8beac909bd711620af5a4085da2431d73cab0bf33319e1a2784fd588a42eb3b7", func := "sibyl/sibyllaw05.ColumnOwn", spec := "columnOwn", unfollowed := true, recurses := true, apart := false }
def ColumnOwnSaid : Prop := columnOwnRow.holds Try.pinned (OpenSpec.ofChange columnOwnSpec)

/-- ITS FALSE NEIGHBOUR: 'it returns false'. Refute it at one input. -/
def columnOwnWrong : ChangeSpec := { name := "columnOwn", fn := fun _ => fun
  | [d1, d2] => { results := [.lit (.bool false)], args := [d1, d2] }
  | _ => none }
def ColumnOwnWrongFalsely : Prop := columnOwnRow.holds Try.pinned (OpenSpec.ofChange columnOwnWrong)

/- THE SECOND FORM. 'bulk': how many values and letters a reading holds, each counted each time it is reached (what is shared counts as often as it is met; a slice's spare places count too). A statement '..UptoSaid' is the law's where the arguments, and the package variables that the reading takes, are together of bulk at most 1048576: NARROWER than '..Said'. Prove '..Said' where nothing that the law and all that it calls make is longer than what came in: it says more and counts as full. Else prove '..UptoSaid'. A law counts once. -/
mutual
def uptoBulk {H : Type} : DataW H → Nat
  | .lit (.string bytes) => bytes.length + 1
  | .lit _ => 1
  | .nil => 1
  | .ptr d => uptoBulk d + 1
  | .slice elems spare => uptoBulkAll elems + uptoBulkAll spare + 1
  | .agg parts => uptoBulkAll parts + 1
  | .iface _ d => uptoBulk d + 1
  | .map entries => uptoBulkEntries entries + 1
  | .held _ => 1
def uptoBulkAll {H : Type} : List (DataW H) → Nat
  | [] => 0
  | d :: r => uptoBulk d + uptoBulkAll r
def uptoBulkEntries {H : Type} : List (Lit × DataW H) → Nat
  | [] => 0
  | x :: r => uptoBulkEntry x + uptoBulkEntries r
def uptoBulkEntry {H : Type} : Lit × DataW H → Nat
  | (.string bytes, d) => bytes.length + uptoBulk d + 1
  | (_, d) => uptoBulk d + 1
 end
def uptoSmall : (H : Type) → List (DataW H) → Bool := fun _ ds => decide (uptoBulkAll ds ≤ 1048576)
def OpenSpec.upto (s : _root_.Go.ChangeSpec) : _root_.Go.OpenSpec := { _root_.Go.OpenSpec.ofChange s with cond := some uptoSmall }

/-- 'sibyllaw05.ColumnPages', WHERE WHAT IT READS IS OF BULK AT MOST 1048576: true; the input reads as it did. -/
def columnPagesUptoRow : OpenClaim := { program := "yteambdbcjcfdeaa", sum := "8beac909bd711620af5a4085da2431d73cab0bf33319e1a2784fd588a42eb3b7", func := "sibyl/sibyllaw05.ColumnPages", spec := "columnPages", unfollowed := true, recurses := true, apart := false, narrowed := true }
def ColumnPagesUptoSaid : Prop := columnPagesUptoRow.holds Try.pinned (OpenSpec.upto columnPagesSpec)

/-- 'sibyllaw05.ColumnShort', WHERE WHAT IT READS IS OF BULK AT MOST 1048576: true; the input reads as it did. -/
def columnShortUptoRow : OpenClaim := { program := "yteambdbcjcfdeaa", sum := "8beac909bd711620af5a4085da2431d73cab0bf33319e1a2784fd588a42eb3b7", func := "sibyl/sibyllaw05.ColumnShort", spec := "columnShort", unfollowed := true, recurses := true, apart := false, narrowed := true }
def ColumnShortUptoSaid : Prop := columnShortUptoRow.holds Try.pinned (OpenSpec.upto columnShortSpec)

/-- 'sibyllaw05.ColumnReads', WHERE WHAT IT READS IS OF BULK AT MOST 1048576: true; the input reads as it did. -/
def columnReadsUptoRow : OpenClaim := { program := "yteambdbcjcfdeaa", sum := "8beac909bd711620af5a4085da2431d73cab0bf33319e1a2784fd588a42eb3b7", func := "sibyl/sibyllaw05.ColumnReads", spec := "columnReads", unfollowed := true, recurses := true, apart := false, narrowed := true }
def ColumnReadsUptoSaid : Prop := columnReadsUptoRow.holds Try.pinned (OpenSpec.upto columnReadsSpec)

/-- 'sibyllaw05.ColumnKnown', WHERE WHAT IT READS IS OF BULK AT MOST 1048576: true; the input reads as it did. -/
def columnKnownUptoRow : OpenClaim := { program := "yteambdbcjcfdeaa", sum := "8beac909bd711620af5a4085da2431d73cab0bf33319e1a2784fd588a42eb3b7", func := "sibyl/sibyllaw05.ColumnKnown", spec := "columnKnown", unfollowed := true, recurses := true, apart := false, narrowed := true }
def ColumnKnownUptoSaid : Prop := columnKnownUptoRow.holds Try.pinned (OpenSpec.upto columnKnownSpec)

/-- 'sibyllaw05.ColumnBack', WHERE WHAT IT READS IS OF BULK AT MOST 1048576: true; the input reads as it did. -/
def columnBackUptoRow : OpenClaim := { program := "yteambdbcjcfdeaa", sum := "8beac909bd711620af5a4085da2431d73cab0bf33319e1a2784fd588a42eb3b7", func := "sibyl/sibyllaw05.ColumnBack", spec := "columnBack", unfollowed := true, recurses := true, apart := false, narrowed := true }
def ColumnBackUptoSaid : Prop := columnBackUptoRow.holds Try.pinned (OpenSpec.upto columnBackSpec)

/-- 'sibyllaw05.ColumnOne', WHERE WHAT IT READS IS OF BULK AT MOST 1048576: true; the input reads as it did. -/
def columnOneUptoRow : OpenClaim := { program := "yteambdbcjcfdeaa", sum := "8beac909bd711620af5a4085da2431d73cab0bf33319e1a2784fd588a42eb3b7", func := "sibyl/sibyllaw05.ColumnOne", spec := "columnOne", unfollowed := true, recurses := true, apart := false, narrowed := true }
def ColumnOneUptoSaid : Prop := columnOneUptoRow.holds Try.pinned (OpenSpec.upto columnOneSpec)

/-- 'sibyllaw05.ColumnOwn', WHERE WHAT IT READS IS OF BULK AT MOST 1048576: true; the input reads as it did. -/
def columnOwnUptoRow : OpenClaim := { program := "yteambdbcjcfdeaa", sum := "8beac909bd711620af5a4085da2431d73cab0bf33319e1a2784fd588a42eb3b7", func := "sibyl/sibyllaw05.ColumnOwn", spec := "columnOwn", unfollowed := true, recurses := true, apart := false, narrowed := true }
def ColumnOwnUptoSaid : Prop := columnOwnUptoRow.holds Try.pinned (OpenSpec.upto columnOwnSpec)

end Rows
end Go.Proofs.Yteambdbcjcfdeaa
