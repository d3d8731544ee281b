/-
  No cell of these rows narrows 'for every input' (looked for: loops, veiled, ifaces, maps, wideKeys, modest, calm, conditions, laid).
  DERIVED. THE GIVEN ROWS OF THIS SEAT. 5 by the template 'for every input the law returns true; each argument reads behind the call as it read before'; 0 by the template 'total and deterministic' (their statements: YtmcpbmadjpjckaaTotals.lean).
  GIVEN WITH THE SEED: the statements are not yours to turn. If you find one false, say at which input.
  Laid BY PROGRAM, IN A SANDBOX (cutbox-rows.mjs): the forced cells as the released guide's own fill.sh prints them over the translation 3d03e6570d24e26f… (all of the seat's roots in one cut). By AI agents, Wed Nov 11 2026. No macro, syntax, notation, axiom, sorry.
-/
import Derived.Test.YtmcpbmadjpjckaaChecked
import GoSem.Claim
import GoSem.ClaimJoined
import GoSem.ClaimMapViews
import Derived.JoinedTies
import Derived.KernelRfl
namespace Go.Proofs.Ytmcpbmadjpjckaa
/- THE CELL 'sum', in the pinned program and in every row, IS THE sha256 OF THE DUMP (.gsa) THAT YtmcpbmadjpjckaaProg.lean LOADS. Nothing in Lean hashes anything: it is a label: what it is worth is what the hold of that sum in a sandbox is worth. -/
noncomputable def Try.pinned : Pinned := { name := "ytmcpbmadjpjckaa", sum := "3d03e6570d24e26ffdb52a40e3a569bbf7786f87573ac585083eb69b2f0107e5", checked := Try.checked }
namespace Rows
def none {H : Type} : Left H := { results := [], args := [] }

/-- 'sibyllaw10.GraphDepths': WHATEVER THE INPUT: true; the input reads as it did. -/
def graphDepthsSpec : ChangeSpec := { name := "graphDepths", fn := fun _ => fun
  | [d1, d2] => { results := [.lit (.bool true)], args := [d1, d2] }
  | _ => none }
def graphDepthsRow : OpenClaim := { program := "ytmcpbmadjpjckaa", sum := "3d03e6570d24e26ffdb52a40e3a569bbf7786f87573ac585083eb69b2f0107e5", func := "sibyl/sibyllaw10.GraphDepths", spec := "graphDepths", unfollowed := true, recurses := true, apart := false }
def GraphDepthsSaid : Prop := graphDepthsRow.holds Try.pinned (OpenSpec.ofChange graphDepthsSpec)

/-- ITS FALSE NEIGHBOUR: 'it returns false'. Refute it at one input. -/
def graphDepthsWrong : ChangeSpec := { name := "graphDepths", fn := fun _ => fun
  | [d1, d2] => { results := [.lit (.bool false)], args := [d1, d2] }
  | _ => none }
def GraphDepthsWrongFalsely : Prop := graphDepthsRow.holds Try.pinned (OpenSpec.ofChange graphDepthsWrong)

/-- 'sibyllaw10.GraphTells': WHATEVER THE INPUT: true; the input reads as it did. -/
def graphTellsSpec : ChangeSpec := { name := "graphTells", fn := fun _ => fun
  | [d] => { results := [.lit (.bool true)], args := [d] }
  | _ => none }
def graphTellsRow : OpenClaim := { program := "ytmcpbmadjpjckaa", sum := "3d03e6570d24e26ffdb52a40e3a569bbf7786f87573ac585083eb69b2f0107e5", func := "sibyl/sibyllaw10.GraphTells", spec := "graphTells", unfollowed := true, recurses := true, apart := false }
def GraphTellsSaid : Prop := graphTellsRow.holds Try.pinned (OpenSpec.ofChange graphTellsSpec)

/-- ITS FALSE NEIGHBOUR: 'it returns false'. Refute it at one input. -/
def graphTellsWrong : ChangeSpec := { name := "graphTells", fn := fun _ => fun
  | [d] => { results := [.lit (.bool false)], args := [d] }
  | _ => none }
def GraphTellsWrongFalsely : Prop := graphTellsRow.holds Try.pinned (OpenSpec.ofChange graphTellsWrong)

/-- 'sibyllaw10.GraphFalls': WHATEVER THE INPUT: true; the input reads as it did. -/
def graphFallsSpec : ChangeSpec := { name := "graphFalls", fn := fun _ => fun
  | [d] => { results := [.lit (.bool true)], args := [d] }
  | _ => none }
def graphFallsRow : OpenClaim := { program := "ytmcpbmadjpjckaa", sum := "3d03e6570d24e26ffdb52a40e3a569bbf7786f87573ac585083eb69b2f0107e5", func := "sibyl/sibyllaw10.GraphFalls", spec := "graphFalls", unfollowed := true, recurses := true, apart := false }
def GraphFallsSaid : Prop := graphFallsRow.holds Try.pinned (OpenSpec.ofChange graphFallsSpec)

/-- ITS FALSE NEIGHBOUR: 'it returns false'. Refute it at one input. -/
def graphFallsWrong : ChangeSpec := { name := "graphFalls", fn := fun _ => fun
  | [d] => { results := [.lit (.bool false)], args := [d] }
  | _ => none }
def GraphFallsWrongFalsely : Prop := graphFallsRow.holds Try.pinned (OpenSpec.ofChange graphFallsWrong)

/-- 'sibyllaw10.GraphMost': WHATEVER THE INPUT: true; the input reads as it did. -/
def graphMostSpec : ChangeSpec := { name := "graphMost", fn := fun _ => fun
  | [] => { results := [.lit (.bool true)], args := [] }
  | _ => none }
def graphMostRow : OpenClaim := { program := "ytmcpbmadjpjckaa", sum := "3d03e6570d24e26ffdb52a40e3a569bbf7786f87573ac585083eb69b2f0107e5", func := "sibyl/sibyllaw10.GraphMost", spec := "graphMost", unfollowed := true, recurses := true, apart := false }
def GraphMostSaid : Prop := graphMostRow.holds Try.pinned (OpenSpec.ofChange graphMostSpec)

/-- ITS FALSE NEIGHBOUR: 'it returns false'. Refute it at one input. -/
def graphMostWrong : ChangeSpec := { name := "graphMost", fn := fun _ => fun
  | [] => { results := [.lit (.bool false)], args := [] }
  | _ => none }
def GraphMostWrongFalsely : Prop := graphMostRow.holds Try.pinned (OpenSpec.ofChange graphMostWrong)

/-- 'sibyllaw10.GraphOwn': WHATEVER THE INPUT: true; the input reads as it did. -/
def graphOwnSpec : ChangeSpec := { name := "graphOwn", fn := fun _ => fun
  | [d1, d2] => { results := [.lit (.bool true)], args := [d1, d2] }
  | _ => none }
def graphOwnRow : OpenClaim := { program := "ytmcpbmadjpjckaa", sum := "3d03e6570d24e26ffdb52a40e3a569bbf7786f87573ac585083eb69b2f0107e5", func := "sibyl/sibyllaw10.GraphOwn", spec := "graphOwn", unfollowed := true, recurses := true, apart := false }
def GraphOwnSaid : Prop := graphOwnRow.holds Try.pinned (OpenSpec.ofChange graphOwnSpec)

/-- ITS FALSE NEIGHBOUR: 'it returns false'. Refute it at one input. -/
def graphOwnWrong : ChangeSpec := { name := "graphOwn", fn := fun _ => fun
  | [d1, d2] => { results := [.lit (.bool false)], args := [d1, d2] }
  | _ => none }
def GraphOwnWrongFalsely : Prop := graphOwnRow.holds Try.pinned (OpenSpec.ofChange graphOwnWrong)

/- THE SECOND FORM. 'bulk': how many values and letters a reading holds, each counted each time it is reached (what is shared counts as often as it is met; a slice's spare places count too). A statement '..UptoSaid' is the law's where the arguments, and the package variables that the reading takes, are together of bulk at most 1048576: NARROWER than '..Said'. Prove '..Said' where nothing that the law and all that it calls make is longer than what came in: it says more and counts as full. Else prove '..UptoSaid'. A law counts once. -/
mutual
def uptoBulk {H : Type} : DataW H → Nat
  | .lit (.string bytes) => bytes.length + 1
  | .lit _ => 1
  | .nil => 1
  | .ptr d => uptoBulk d + 1
  | .slice elems spare => uptoBulkAll elems + uptoBulkAll spare + 1
  | .agg parts => uptoBulkAll parts + 1
  | .iface _ d => uptoBulk d + 1
  | .map entries => uptoBulkEntries entries + 1
  | .held _ => 1
def uptoBulkAll {H : Type} : List (DataW H) → Nat
  | [] => 0
  | d :: r => uptoBulk d + uptoBulkAll r
def uptoBulkEntries {H : Type} : List (Lit × DataW H) → Nat
  | [] => 0
  | x :: r => uptoBulkEntry x + uptoBulkEntries r
def uptoBulkEntry {H : Type} : Lit × DataW H → Nat
  | (.string bytes, d) => bytes.length + uptoBulk d + 1
  | (_, d) => uptoBulk d + 1
 end
def uptoSmall : (H : Type) → List (DataW H) → Bool := fun _ ds => decide (uptoBulkAll ds ≤ 1048576)
def OpenSpec.upto (s : _root_.Go.ChangeSpec) : _root_.Go.OpenSpec := { _root_.Go.OpenSpec.ofChange s with cond := some uptoSmall }

/-- 'sibyllaw10.GraphDepths', WHERE WHAT IT READS IS OF BULK AT MOST 1048576: true; the input reads as it did. -/
def graphDepthsUptoRow : OpenClaim := { program := "ytmcpbmadjpjckaa", sum := "3d03e6570d24e26ffdb52a40e3a569bbf7786f87573ac585083eb69b2f0107e5", func := "sibyl/sibyllaw10.GraphDepths", spec := "graphDepths", unfollowed := true, recurses := true, apart := false, narrowed := true }
def GraphDepthsUptoSaid : Prop := graphDepthsUptoRow.holds Try.pinned (OpenSpec.upto graphDepthsSpec)

/-- 'sibyllaw10.GraphTells', WHERE WHAT IT READS IS OF BULK AT MOST 1048576: true; the input reads as it did. -/
def graphTellsUptoRow : OpenClaim := { program := "ytmcpbmadjpjckaa", sum := "3d03e6570d24e26ffdb52a40e3a569bbf7786f87573ac585083eb69b2f0107e5", func := "sibyl/sibyllaw10.GraphTells", spec := "graphTells", unfollowed := true, recurses := true, apart := false, narrowed := true }
def GraphTellsUptoSaid : Prop := graphTellsUptoRow.holds Try.pinned (OpenSpec.upto graphTellsSpec)

/-- 'sibyllaw10.GraphFalls', WHERE WHAT IT READS IS OF BULK AT MOST 1048576: true; the input reads as it did. -/
def graphFallsUptoRow : OpenClaim := { program := "ytmcpbmadjpjckaa", sum := "3d03e6570d24e26ffdb52a40e3a569bbf7786f87573ac585083eb69b2f0107e5", func := "sibyl/sibyllaw10.GraphFalls", spec := "graphFalls", unfollowed := true, recurses := true, apart := false, narrowed := true }
def GraphFallsUptoSaid : Prop := graphFallsUptoRow.holds Try.pinned (OpenSpec.upto graphFallsSpec)

/-- 'sibyllaw10.GraphMost', WHERE WHAT IT READS IS OF BULK AT MOST 1048576: true; the input reads as it did. -/
def graphMostUptoRow : OpenClaim := { program := "ytmcpbmadjpjckaa", sum := "3d03e6570d24e26ffdb52a40e3a569bbf7786f87573ac585083eb69b2f0107e5", func := "sibyl/sibyllaw10.GraphMost", spec := "graphMost", unfollowed := true, recurses := true, apart := false, narrowed := true }
def GraphMostUptoSaid : Prop := graphMostUptoRow.holds Try.pinned (OpenSpec.upto graphMostSpec)

/-- 'sibyllaw10.GraphOwn', WHERE WHAT IT READS IS OF BULK AT MOST 1048576: true; the input reads as it did. -/
def graphOwnUptoRow : OpenClaim := { program := "ytmcpbmadjpjckaa", sum := "3d03e6570d24e26ffdb52a40e3a569bbf7786f87573ac585083eb69b2f0107e5", func := "sibyl/sibyllaw10.GraphOwn", spec := "graphOwn", unfollowed := true, recurses := true, apart := false, narrowed := true }
def GraphOwnUptoSaid : Prop := graphOwnUptoRow.holds Try.pinned (OpenSpec.upto graphOwnSpec)

end Rows
end Go.Proofs.Ytmcpbmadjpjckaa
