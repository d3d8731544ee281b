/-
  No cell of these rows narrows 'for every input' (looked for: loops, veiled, ifaces, maps, wideKeys, modest, calm, conditions, laid).
  DERIVED. THE GIVEN ROWS OF THIS SEAT. 8 by the template 'for every input the law returns true; each argument reads behind the call as it read before'; 0 by the template 'total and deterministic' (their statements: YtbofjboebkfjgaaTotals.lean).
  GIVEN WITH THE SEED: the statements are not yours to turn. If you find one false, say at which input.
  Laid BY PROGRAM, IN A SANDBOX (cutbox-rows.mjs): the forced cells as the released guide's own fill.sh prints them over the translation 909141aff8a3af75… (all of the seat's roots in one cut). By AI agents, Wed Nov 11 2026. No macro, syntax, notation, axiom, sorry.
-/
import Derived.Test.YtbofjboebkfjgaaChecked
import GoSem.Claim
import GoSem.ClaimJoined
import GoSem.ClaimMapViews
import Derived.JoinedTies
import Derived.KernelRfl
namespace Go.Proofs.Ytbofjboebkfjgaa
/- THE CELL 'sum', in the pinned program and in every row, IS THE sha256 OF THE DUMP (.gsa) THAT YtbofjboebkfjgaaProg.lean LOADS. Nothing in Lean hashes anything: it is a label: what it is worth is what the hold of that sum in a sandbox is worth. -/
noncomputable def Try.pinned : Pinned := { name := "ytbofjboebkfjgaa", sum := "909141aff8a3af751a2808e02ad7ba1ec36c7bbfcd3a510596aa37e9479694df", checked := Try.checked }
namespace Rows
def none {H : Type} : Left H := { results := [], args := [] }

/-- 'sibyllaw01.LebGets': WHATEVER THE INPUT: true; the input reads as it did. -/
def lebGetsSpec : ChangeSpec := { name := "lebGets", fn := fun _ => fun
  | [d] => { results := [.lit (.bool true)], args := [d] }
  | _ => none }
def lebGetsRow : OpenClaim := { program := "ytbofjboebkfjgaa", sum := "909141aff8a3af751a2808e02ad7ba1ec36c7bbfcd3a510596aa37e9479694df", func := "sibyl/sibyllaw01.LebGets", spec := "lebGets", apart := false }
def LebGetsSaid : Prop := lebGetsRow.holds Try.pinned (OpenSpec.ofChange lebGetsSpec)

/-- ITS FALSE NEIGHBOUR: 'it returns false'. Refute it at one input. -/
def lebGetsWrong : ChangeSpec := { name := "lebGets", fn := fun _ => fun
  | [d] => { results := [.lit (.bool false)], args := [d] }
  | _ => none }
def LebGetsWrongFalsely : Prop := lebGetsRow.holds Try.pinned (OpenSpec.ofChange lebGetsWrong)

/-- 'sibyllaw01.LebNumbers': WHATEVER THE INPUT: true; the input reads as it did. -/
def lebNumbersSpec : ChangeSpec := { name := "lebNumbers", fn := fun _ => fun
  | [d1, d2] => { results := [.lit (.bool true)], args := [d1, d2] }
  | _ => none }
def lebNumbersRow : OpenClaim := { program := "ytbofjboebkfjgaa", sum := "909141aff8a3af751a2808e02ad7ba1ec36c7bbfcd3a510596aa37e9479694df", func := "sibyl/sibyllaw01.LebNumbers", spec := "lebNumbers", apart := false }
def LebNumbersSaid : Prop := lebNumbersRow.holds Try.pinned (OpenSpec.ofChange lebNumbersSpec)

/-- ITS FALSE NEIGHBOUR: 'it returns false'. Refute it at one input. -/
def lebNumbersWrong : ChangeSpec := { name := "lebNumbers", fn := fun _ => fun
  | [d1, d2] => { results := [.lit (.bool false)], args := [d1, d2] }
  | _ => none }
def LebNumbersWrongFalsely : Prop := lebNumbersRow.holds Try.pinned (OpenSpec.ofChange lebNumbersWrong)

/-- 'sibyllaw01.LebTurns': WHATEVER THE INPUT: true; the input reads as it did. -/
def lebTurnsSpec : ChangeSpec := { name := "lebTurns", fn := fun _ => fun
  | [d1, d2] => { results := [.lit (.bool true)], args := [d1, d2] }
  | _ => none }
def lebTurnsRow : OpenClaim := { program := "ytbofjboebkfjgaa", sum := "909141aff8a3af751a2808e02ad7ba1ec36c7bbfcd3a510596aa37e9479694df", func := "sibyl/sibyllaw01.LebTurns", spec := "lebTurns", apart := false }
def LebTurnsSaid : Prop := lebTurnsRow.holds Try.pinned (OpenSpec.ofChange lebTurnsSpec)

/-- ITS FALSE NEIGHBOUR: 'it returns false'. Refute it at one input. -/
def lebTurnsWrong : ChangeSpec := { name := "lebTurns", fn := fun _ => fun
  | [d1, d2] => { results := [.lit (.bool false)], args := [d1, d2] }
  | _ => none }
def LebTurnsWrongFalsely : Prop := lebTurnsRow.holds Try.pinned (OpenSpec.ofChange lebTurnsWrong)

/-- 'sibyllaw01.LebWriters': WHATEVER THE INPUT: true; the input reads as it did. -/
def lebWritersSpec : ChangeSpec := { name := "lebWriters", fn := fun _ => fun
  | [d1, d2] => { results := [.lit (.bool true)], args := [d1, d2] }
  | _ => none }
def lebWritersRow : OpenClaim := { program := "ytbofjboebkfjgaa", sum := "909141aff8a3af751a2808e02ad7ba1ec36c7bbfcd3a510596aa37e9479694df", func := "sibyl/sibyllaw01.LebWriters", spec := "lebWriters", unfollowed := true, recurses := true, apart := false }
def LebWritersSaid : Prop := lebWritersRow.holds Try.pinned (OpenSpec.ofChange lebWritersSpec)

/-- ITS FALSE NEIGHBOUR: 'it returns false'. Refute it at one input. -/
def lebWritersWrong : ChangeSpec := { name := "lebWriters", fn := fun _ => fun
  | [d1, d2] => { results := [.lit (.bool false)], args := [d1, d2] }
  | _ => none }
def LebWritersWrongFalsely : Prop := lebWritersRow.holds Try.pinned (OpenSpec.ofChange lebWritersWrong)

/-- 'sibyllaw01.LebOneForm': WHATEVER THE INPUT: true; the input reads as it did. -/
def lebOneFormSpec : ChangeSpec := { name := "lebOneForm", fn := fun _ => fun
  | [d1, d2] => { results := [.lit (.bool true)], args := [d1, d2] }
  | _ => none }
def lebOneFormRow : OpenClaim := { program := "ytbofjboebkfjgaa", sum := "909141aff8a3af751a2808e02ad7ba1ec36c7bbfcd3a510596aa37e9479694df", func := "sibyl/sibyllaw01.LebOneForm", spec := "lebOneForm", apart := false }
def LebOneFormSaid : Prop := lebOneFormRow.holds Try.pinned (OpenSpec.ofChange lebOneFormSpec)

/-- ITS FALSE NEIGHBOUR: 'it returns false'. Refute it at one input. -/
def lebOneFormWrong : ChangeSpec := { name := "lebOneForm", fn := fun _ => fun
  | [d1, d2] => { results := [.lit (.bool false)], args := [d1, d2] }
  | _ => none }
def LebOneFormWrongFalsely : Prop := lebOneFormRow.holds Try.pinned (OpenSpec.ofChange lebOneFormWrong)

/-- 'sibyllaw01.LebOwn': WHATEVER THE INPUT: true; the input reads as it did. -/
def lebOwnSpec : ChangeSpec := { name := "lebOwn", fn := fun _ => fun
  | [d1, d2, d3] => { results := [.lit (.bool true)], args := [d1, d2, d3] }
  | _ => none }
def lebOwnRow : OpenClaim := { program := "ytbofjboebkfjgaa", sum := "909141aff8a3af751a2808e02ad7ba1ec36c7bbfcd3a510596aa37e9479694df", func := "sibyl/sibyllaw01.LebOwn", spec := "lebOwn", unfollowed := true, recurses := true, apart := false }
def LebOwnSaid : Prop := lebOwnRow.holds Try.pinned (OpenSpec.ofChange lebOwnSpec)

/-- ITS FALSE NEIGHBOUR: 'it returns false'. Refute it at one input. -/
def lebOwnWrong : ChangeSpec := { name := "lebOwn", fn := fun _ => fun
  | [d1, d2, d3] => { results := [.lit (.bool false)], args := [d1, d2, d3] }
  | _ => none }
def LebOwnWrongFalsely : Prop := lebOwnRow.holds Try.pinned (OpenSpec.ofChange lebOwnWrong)

/-- 'sibyllaw01.LebReaders': WHATEVER THE INPUT: true; the input reads as it did. -/
def lebReadersSpec : ChangeSpec := { name := "lebReaders", fn := fun _ => fun
  | [d1, d2, d3] => { results := [.lit (.bool true)], args := [d1, d2, d3] }
  | _ => none }
def lebReadersRow : OpenClaim := { program := "ytbofjboebkfjgaa", sum := "909141aff8a3af751a2808e02ad7ba1ec36c7bbfcd3a510596aa37e9479694df", func := "sibyl/sibyllaw01.LebReaders", spec := "lebReaders", unfollowed := true, recurses := true, apart := false }
def LebReadersSaid : Prop := lebReadersRow.holds Try.pinned (OpenSpec.ofChange lebReadersSpec)

/-- ITS FALSE NEIGHBOUR: 'it returns false'. Refute it at one input. -/
def lebReadersWrong : ChangeSpec := { name := "lebReaders", fn := fun _ => fun
  | [d1, d2, d3] => { results := [.lit (.bool false)], args := [d1, d2, d3] }
  | _ => none }
def LebReadersWrongFalsely : Prop := lebReadersRow.holds Try.pinned (OpenSpec.ofChange lebReadersWrong)

/-- 'sibyllaw01.LebThere': WHATEVER THE INPUT: true; the input reads as it did. -/
def lebThereSpec : ChangeSpec := { name := "lebThere", fn := fun _ => fun
  | [d1, d2] => { results := [.lit (.bool true)], args := [d1, d2] }
  | _ => none }
def lebThereRow : OpenClaim := { program := "ytbofjboebkfjgaa", sum := "909141aff8a3af751a2808e02ad7ba1ec36c7bbfcd3a510596aa37e9479694df", func := "sibyl/sibyllaw01.LebThere", spec := "lebThere", unfollowed := true, recurses := true, apart := false }
def LebThereSaid : Prop := lebThereRow.holds Try.pinned (OpenSpec.ofChange lebThereSpec)

/-- ITS FALSE NEIGHBOUR: 'it returns false'. Refute it at one input. -/
def lebThereWrong : ChangeSpec := { name := "lebThere", fn := fun _ => fun
  | [d1, d2] => { results := [.lit (.bool false)], args := [d1, d2] }
  | _ => none }
def LebThereWrongFalsely : Prop := lebThereRow.holds Try.pinned (OpenSpec.ofChange lebThereWrong)

/- THE SECOND FORM. 'bulk': how many values and letters a reading holds, each counted each time it is reached (what is shared counts as often as it is met; a slice's spare places count too). A statement '..UptoSaid' is the law's where the arguments, and the package variables that the reading takes, are together of bulk at most 1048576: NARROWER than '..Said'. Prove '..Said' where nothing that the law and all that it calls make is longer than what came in: it says more and counts as full. Else prove '..UptoSaid'. A law counts once. -/
mutual
def uptoBulk {H : Type} : DataW H → Nat
  | .lit (.string bytes) => bytes.length + 1
  | .lit _ => 1
  | .nil => 1
  | .ptr d => uptoBulk d + 1
  | .slice elems spare => uptoBulkAll elems + uptoBulkAll spare + 1
  | .agg parts => uptoBulkAll parts + 1
  | .iface _ d => uptoBulk d + 1
  | .map entries => uptoBulkEntries entries + 1
  | .held _ => 1
def uptoBulkAll {H : Type} : List (DataW H) → Nat
  | [] => 0
  | d :: r => uptoBulk d + uptoBulkAll r
def uptoBulkEntries {H : Type} : List (Lit × DataW H) → Nat
  | [] => 0
  | x :: r => uptoBulkEntry x + uptoBulkEntries r
def uptoBulkEntry {H : Type} : Lit × DataW H → Nat
  | (.string bytes, d) => bytes.length + uptoBulk d + 1
  | (_, d) => uptoBulk d + 1
 end
def uptoSmall : (H : Type) → List (DataW H) → Bool := fun _ ds => decide (uptoBulkAll ds ≤ 1048576)
def OpenSpec.upto (s : _root_.Go.ChangeSpec) : _root_.Go.OpenSpec := { _root_.Go.OpenSpec.ofChange s with cond := some uptoSmall }

/-- 'sibyllaw01.LebGets', WHERE WHAT IT READS IS OF BULK AT MOST 1048576: true; the input reads as it did. -/
def lebGetsUptoRow : OpenClaim := { program := "ytbofjboebkfjgaa", sum := "909141aff8a3af751a2808e02ad7ba1ec36c7bbfcd3a510596aa37e9479694df", func := "sibyl/sibyllaw01.LebGets", spec := "lebGets", apart := false, narrowed := true }
def LebGetsUptoSaid : Prop := lebGetsUptoRow.holds Try.pinned (OpenSpec.upto lebGetsSpec)

/-- 'sibyllaw01.LebNumbers', WHERE WHAT IT READS IS OF BULK AT MOST 1048576: true; the input reads as it did. -/
def lebNumbersUptoRow : OpenClaim := { program := "ytbofjboebkfjgaa", sum := "909141aff8a3af751a2808e02ad7ba1ec36c7bbfcd3a510596aa37e9479694df", func := "sibyl/sibyllaw01.LebNumbers", spec := "lebNumbers", apart := false, narrowed := true }
def LebNumbersUptoSaid : Prop := lebNumbersUptoRow.holds Try.pinned (OpenSpec.upto lebNumbersSpec)

/-- 'sibyllaw01.LebTurns', WHERE WHAT IT READS IS OF BULK AT MOST 1048576: true; the input reads as it did. -/
def lebTurnsUptoRow : OpenClaim := { program := "ytbofjboebkfjgaa", sum := "909141aff8a3af751a2808e02ad7ba1ec36c7bbfcd3a510596aa37e9479694df", func := "sibyl/sibyllaw01.LebTurns", spec := "lebTurns", apart := false, narrowed := true }
def LebTurnsUptoSaid : Prop := lebTurnsUptoRow.holds Try.pinned (OpenSpec.upto lebTurnsSpec)

/-- 'sibyllaw01.LebWriters', WHERE WHAT IT READS IS OF BULK AT MOST 1048576: true; the input reads as it did. -/
def lebWritersUptoRow : OpenClaim := { program := "ytbofjboebkfjgaa", sum := "909141aff8a3af751a2808e02ad7ba1ec36c7bbfcd3a510596aa37e9479694df", func := "sibyl/sibyllaw01.LebWriters", spec := "lebWriters", unfollowed := true, recurses := true, apart := false, narrowed := true }
def LebWritersUptoSaid : Prop := lebWritersUptoRow.holds Try.pinned (OpenSpec.upto lebWritersSpec)

/-- 'sibyllaw01.LebOneForm', WHERE WHAT IT READS IS OF BULK AT MOST 1048576: true; the input reads as it did. -/
def lebOneFormUptoRow : OpenClaim := { program := "ytbofjboebkfjgaa", sum := "909141aff8a3af751a2808e02ad7ba1ec36c7bbfcd3a510596aa37e9479694df", func := "sibyl/sibyllaw01.LebOneForm", spec := "lebOneForm", apart := false, narrowed := true }
def LebOneFormUptoSaid : Prop := lebOneFormUptoRow.holds Try.pinned (OpenSpec.upto lebOneFormSpec)

/-- 'sibyllaw01.LebOwn', WHERE WHAT IT READS IS OF BULK AT MOST 1048576: true; the input reads as it did. -/
def lebOwnUptoRow : OpenClaim := { program := "ytbofjboebkfjgaa", sum := "909141aff8a3af751a2808e02ad7ba1ec36c7bbfcd3a510596aa37e9479694df", func := "sibyl/sibyllaw01.LebOwn", spec := "lebOwn", unfollowed := true, recurses := true, apart := false, narrowed := true }
def LebOwnUptoSaid : Prop := lebOwnUptoRow.holds Try.pinned (OpenSpec.upto lebOwnSpec)

/-- 'sibyllaw01.LebReaders', WHERE WHAT IT READS IS OF BULK AT MOST 1048576: true; the input reads as it did. -/
def lebReadersUptoRow : OpenClaim := { program := "ytbofjboebkfjgaa", sum := "909141aff8a3af751a2808e02ad7ba1ec36c7bbfcd3a510596aa37e9479694df", func := "sibyl/sibyllaw01.LebReaders", spec := "lebReaders", unfollowed := true, recurses := true, apart := false, narrowed := true }
def LebReadersUptoSaid : Prop := lebReadersUptoRow.holds Try.pinned (OpenSpec.upto lebReadersSpec)

/-- 'sibyllaw01.LebThere', WHERE WHAT IT READS IS OF BULK AT MOST 1048576: true; the input reads as it did. -/
def lebThereUptoRow : OpenClaim := { program := "ytbofjboebkfjgaa", sum := "909141aff8a3af751a2808e02ad7ba1ec36c7bbfcd3a510596aa37e9479694df", func := "sibyl/sibyllaw01.LebThere", spec := "lebThere", unfollowed := true, recurses := true, apart := false, narrowed := true }
def LebThereUptoSaid : Prop := lebThereUptoRow.holds Try.pinned (OpenSpec.upto lebThereSpec)

end Rows
end Go.Proofs.Ytbofjboebkfjgaa
