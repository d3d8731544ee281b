/-
  No cell of these rows narrows 'for every input' (looked for: loops, veiled, ifaces, maps, wideKeys, modest, calm, conditions, laid).
  DERIVED. THE GIVEN ROWS OF THIS SEAT. 10 by the template 'for every input the law returns true; each argument reads behind the call as it read before'; 0 by the template 'total and deterministic' (their statements: YtoipkpndfgcmcaaTotals.lean).
  GIVEN WITH THE SEED: the statements are not yours to turn. If you find one false, say at which input.
  Laid BY PROGRAM, IN A SANDBOX (cutbox-rows.mjs): the forced cells as the released guide's own fill.sh prints them over the translation ae4124ec7d125145… (all of the seat's roots in one cut). By AI agents, Wed Nov 11 2026. No macro, syntax, notation, axiom, sorry.
-/
import Derived.Test.YtoipkpndfgcmcaaChecked
import GoSem.Claim
import GoSem.ClaimJoined
import GoSem.ClaimMapViews
import Derived.JoinedTies
import Derived.KernelRfl
namespace Go.Proofs.Ytoipkpndfgcmcaa
/- THE CELL 'sum', in the pinned program and in every row, IS THE sha256 OF THE DUMP (.gsa) THAT YtoipkpndfgcmcaaProg.lean LOADS. Nothing in Lean hashes anything: it is a label: what it is worth is what the hold of that sum in a sandbox is worth. -/
noncomputable def Try.pinned : Pinned := { name := "ytoipkpndfgcmcaa", sum := "ae4124ec7d12514573c142ef032bce8d25a6338954f37230d9e7bb07f2441cf6", checked := Try.checked }
namespace Rows
def none {H : Type} : Left H := { results := [], args := [] }

/-- 'sibyllaw02.CheckStreams': WHATEVER THE INPUT: true; the input reads as it did. -/
def checkStreamsSpec : ChangeSpec := { name := "checkStreams", fn := fun _ => fun
  | [d] => { results := [.lit (.bool true)], args := [d] }
  | _ => none }
def checkStreamsRow : OpenClaim := { program := "ytoipkpndfgcmcaa", sum := "ae4124ec7d12514573c142ef032bce8d25a6338954f37230d9e7bb07f2441cf6", func := "sibyl/sibyllaw02.CheckStreams", spec := "checkStreams", apart := false }
def CheckStreamsSaid : Prop := checkStreamsRow.holds Try.pinned (OpenSpec.ofChange checkStreamsSpec)

/-- ITS FALSE NEIGHBOUR: 'it returns false'. Refute it at one input. -/
def checkStreamsWrong : ChangeSpec := { name := "checkStreams", fn := fun _ => fun
  | [d] => { results := [.lit (.bool false)], args := [d] }
  | _ => none }
def CheckStreamsWrongFalsely : Prop := checkStreamsRow.holds Try.pinned (OpenSpec.ofChange checkStreamsWrong)

/-- 'sibyllaw02.CheckForges': WHATEVER THE INPUT: true; the input reads as it did. -/
def checkForgesSpec : ChangeSpec := { name := "checkForges", fn := fun _ => fun
  | [d1, d2, d3] => { results := [.lit (.bool true)], args := [d1, d2, d3] }
  | _ => none }
def checkForgesRow : OpenClaim := { program := "ytoipkpndfgcmcaa", sum := "ae4124ec7d12514573c142ef032bce8d25a6338954f37230d9e7bb07f2441cf6", func := "sibyl/sibyllaw02.CheckForges", spec := "checkForges", unfollowed := true, recurses := true, leaving := true, apart := false }
def CheckForgesSaid : Prop := checkForgesRow.holds Try.pinned (OpenSpec.ofChange checkForgesSpec)

/-- ITS FALSE NEIGHBOUR: 'it returns false'. Refute it at one input. -/
def checkForgesWrong : ChangeSpec := { name := "checkForges", fn := fun _ => fun
  | [d1, d2, d3] => { results := [.lit (.bool false)], args := [d1, d2, d3] }
  | _ => none }
def CheckForgesWrongFalsely : Prop := checkForgesRow.holds Try.pinned (OpenSpec.ofChange checkForgesWrong)

/-- 'sibyllaw02.CheckSums': WHATEVER THE INPUT: true; the input reads as it did. -/
def checkSumsSpec : ChangeSpec := { name := "checkSums", fn := fun _ => fun
  | [d1, d2, d3] => { results := [.lit (.bool true)], args := [d1, d2, d3] }
  | _ => none }
def checkSumsRow : OpenClaim := { program := "ytoipkpndfgcmcaa", sum := "ae4124ec7d12514573c142ef032bce8d25a6338954f37230d9e7bb07f2441cf6", func := "sibyl/sibyllaw02.CheckSums", spec := "checkSums", apart := false }
def CheckSumsSaid : Prop := checkSumsRow.holds Try.pinned (OpenSpec.ofChange checkSumsSpec)

/-- ITS FALSE NEIGHBOUR: 'it returns false'. Refute it at one input. -/
def checkSumsWrong : ChangeSpec := { name := "checkSums", fn := fun _ => fun
  | [d1, d2, d3] => { results := [.lit (.bool false)], args := [d1, d2, d3] }
  | _ => none }
def CheckSumsWrongFalsely : Prop := checkSumsRow.holds Try.pinned (OpenSpec.ofChange checkSumsWrong)

/-- 'sibyllaw02.CheckLong': WHATEVER THE INPUT: true; the input reads as it did. -/
def checkLongSpec : ChangeSpec := { name := "checkLong", fn := fun _ => fun
  | [d1, d2, d3] => { results := [.lit (.bool true)], args := [d1, d2, d3] }
  | _ => none }
def checkLongRow : OpenClaim := { program := "ytoipkpndfgcmcaa", sum := "ae4124ec7d12514573c142ef032bce8d25a6338954f37230d9e7bb07f2441cf6", func := "sibyl/sibyllaw02.CheckLong", spec := "checkLong", apart := false }
def CheckLongSaid : Prop := checkLongRow.holds Try.pinned (OpenSpec.ofChange checkLongSpec)

/-- ITS FALSE NEIGHBOUR: 'it returns false'. Refute it at one input. -/
def checkLongWrong : ChangeSpec := { name := "checkLong", fn := fun _ => fun
  | [d1, d2, d3] => { results := [.lit (.bool false)], args := [d1, d2, d3] }
  | _ => none }
def CheckLongWrongFalsely : Prop := checkLongRow.holds Try.pinned (OpenSpec.ofChange checkLongWrong)

/-- 'sibyllaw02.CheckTells': WHATEVER THE INPUT: true; the input reads as it did. -/
def checkTellsSpec : ChangeSpec := { name := "checkTells", fn := fun _ => fun
  | [d1, d2, d3, d4] => { results := [.lit (.bool true)], args := [d1, d2, d3, d4] }
  | _ => none }
def checkTellsRow : OpenClaim := { program := "ytoipkpndfgcmcaa", sum := "ae4124ec7d12514573c142ef032bce8d25a6338954f37230d9e7bb07f2441cf6", func := "sibyl/sibyllaw02.CheckTells", spec := "checkTells", apart := false }
def CheckTellsSaid : Prop := checkTellsRow.holds Try.pinned (OpenSpec.ofChange checkTellsSpec)

/-- ITS FALSE NEIGHBOUR: 'it returns false'. Refute it at one input. -/
def checkTellsWrong : ChangeSpec := { name := "checkTells", fn := fun _ => fun
  | [d1, d2, d3, d4] => { results := [.lit (.bool false)], args := [d1, d2, d3, d4] }
  | _ => none }
def CheckTellsWrongFalsely : Prop := checkTellsRow.holds Try.pinned (OpenSpec.ofChange checkTellsWrong)

/-- 'sibyllaw02.CheckForged': WHATEVER THE INPUT: true; the input reads as it did. -/
def checkForgedSpec : ChangeSpec := { name := "checkForged", fn := fun _ => fun
  | [d1, d2, d3, d4] => { results := [.lit (.bool true)], args := [d1, d2, d3, d4] }
  | _ => none }
def checkForgedRow : OpenClaim := { program := "ytoipkpndfgcmcaa", sum := "ae4124ec7d12514573c142ef032bce8d25a6338954f37230d9e7bb07f2441cf6", func := "sibyl/sibyllaw02.CheckForged", spec := "checkForged", unfollowed := true, recurses := true, leaving := true, apart := false }
def CheckForgedSaid : Prop := checkForgedRow.holds Try.pinned (OpenSpec.ofChange checkForgedSpec)

/-- ITS FALSE NEIGHBOUR: 'it returns false'. Refute it at one input. -/
def checkForgedWrong : ChangeSpec := { name := "checkForged", fn := fun _ => fun
  | [d1, d2, d3, d4] => { results := [.lit (.bool false)], args := [d1, d2, d3, d4] }
  | _ => none }
def CheckForgedWrongFalsely : Prop := checkForgedRow.holds Try.pinned (OpenSpec.ofChange checkForgedWrong)

/-- 'sibyllaw02.CheckParts': WHATEVER THE INPUT: true; the input reads as it did. -/
def checkPartsSpec : ChangeSpec := { name := "checkParts", fn := fun _ => fun
  | [d] => { results := [.lit (.bool true)], args := [d] }
  | _ => none }
def checkPartsRow : OpenClaim := { program := "ytoipkpndfgcmcaa", sum := "ae4124ec7d12514573c142ef032bce8d25a6338954f37230d9e7bb07f2441cf6", func := "sibyl/sibyllaw02.CheckParts", spec := "checkParts", inPlace := ["(*sync.WaitGroup).Go", "(*sync.WaitGroup).Add", "internal/race.ReleaseMerge", "internal/race.Disable", "internal/race.Enable", "internal/synctest.IsInBubble", "internal/synctest.Associate[sync.WaitGroup]", "sync.fatal", "sync/atomic.OrUint64", "sync/atomic.AddUint64", "internal/race.Read", "sync/atomic.LoadUint64", "sync/atomic.StoreUint64", "internal/synctest.Disassociate[sync.WaitGroup]", "sync.runtime_Semrelease", "(*sync.WaitGroup).Go$1", "(*sync.WaitGroup).Go$1$1", "(*sync.WaitGroup).Done", "(*sync.WaitGroup).Wait", "internal/race.Acquire", "internal/synctest.IsAssociated[sync.WaitGroup]", "sync/atomic.CompareAndSwapUint64", "internal/race.Write", "sync.runtime_SemacquireWaitGroup"], unfollowed := true, recurses := true, leaving := true, apart := false }
def CheckPartsSaid : Prop := checkPartsRow.holds Try.pinned (OpenSpec.ofChange checkPartsSpec)

/-- ITS FALSE NEIGHBOUR: 'it returns false'. Refute it at one input. -/
def checkPartsWrong : ChangeSpec := { name := "checkParts", fn := fun _ => fun
  | [d] => { results := [.lit (.bool false)], args := [d] }
  | _ => none }
def CheckPartsWrongFalsely : Prop := checkPartsRow.holds Try.pinned (OpenSpec.ofChange checkPartsWrong)

/-- 'sibyllaw02.CheckPieces': WHATEVER THE INPUT: true; the input reads as it did. -/
def checkPiecesSpec : ChangeSpec := { name := "checkPieces", fn := fun _ => fun
  | [d1, d2, d3, d4] => { results := [.lit (.bool true)], args := [d1, d2, d3, d4] }
  | _ => none }
def checkPiecesRow : OpenClaim := { program := "ytoipkpndfgcmcaa", sum := "ae4124ec7d12514573c142ef032bce8d25a6338954f37230d9e7bb07f2441cf6", func := "sibyl/sibyllaw02.CheckPieces", spec := "checkPieces", inPlace := ["(*sync.WaitGroup).Go", "(*sync.WaitGroup).Add", "internal/race.ReleaseMerge", "internal/race.Disable", "internal/race.Enable", "internal/synctest.IsInBubble", "internal/synctest.Associate[sync.WaitGroup]", "sync.fatal", "sync/atomic.OrUint64", "sync/atomic.AddUint64", "internal/race.Read", "sync/atomic.LoadUint64", "sync/atomic.StoreUint64", "internal/synctest.Disassociate[sync.WaitGroup]", "sync.runtime_Semrelease", "(*sync.WaitGroup).Go$1", "(*sync.WaitGroup).Go$1$1", "(*sync.WaitGroup).Done", "(*sync.WaitGroup).Wait", "internal/race.Acquire", "internal/synctest.IsAssociated[sync.WaitGroup]", "sync/atomic.CompareAndSwapUint64", "internal/race.Write", "sync.runtime_SemacquireWaitGroup"], unfollowed := true, recurses := true, leaving := true, apart := false }
def CheckPiecesSaid : Prop := checkPiecesRow.holds Try.pinned (OpenSpec.ofChange checkPiecesSpec)

/-- ITS FALSE NEIGHBOUR: 'it returns false'. Refute it at one input. -/
def checkPiecesWrong : ChangeSpec := { name := "checkPieces", fn := fun _ => fun
  | [d1, d2, d3, d4] => { results := [.lit (.bool false)], args := [d1, d2, d3, d4] }
  | _ => none }
def CheckPiecesWrongFalsely : Prop := checkPiecesRow.holds Try.pinned (OpenSpec.ofChange checkPiecesWrong)

/-- 'sibyllaw02.CheckOwn': WHATEVER THE INPUT: true; the input reads as it did. -/
def checkOwnSpec : ChangeSpec := { name := "checkOwn", fn := fun _ => fun
  | [d1, d2, d3, d4] => { results := [.lit (.bool true)], args := [d1, d2, d3, d4] }
  | _ => none }
def checkOwnRow : OpenClaim := { program := "ytoipkpndfgcmcaa", sum := "ae4124ec7d12514573c142ef032bce8d25a6338954f37230d9e7bb07f2441cf6", func := "sibyl/sibyllaw02.CheckOwn", spec := "checkOwn", inPlace := ["(*sync.WaitGroup).Go", "(*sync.WaitGroup).Add", "internal/race.ReleaseMerge", "internal/race.Disable", "internal/race.Enable", "internal/synctest.IsInBubble", "internal/synctest.Associate[sync.WaitGroup]", "sync.fatal", "sync/atomic.OrUint64", "sync/atomic.AddUint64", "internal/race.Read", "sync/atomic.LoadUint64", "sync/atomic.StoreUint64", "internal/synctest.Disassociate[sync.WaitGroup]", "sync.runtime_Semrelease", "(*sync.WaitGroup).Go$1", "(*sync.WaitGroup).Go$1$1", "(*sync.WaitGroup).Done", "(*sync.WaitGroup).Wait", "internal/race.Acquire", "internal/synctest.IsAssociated[sync.WaitGroup]", "sync/atomic.CompareAndSwapUint64", "internal/race.Write", "sync.runtime_SemacquireWaitGroup"], unfollowed := true, recurses := true, leaving := true, apart := false }
def CheckOwnSaid : Prop := checkOwnRow.holds Try.pinned (OpenSpec.ofChange checkOwnSpec)

/-- ITS FALSE NEIGHBOUR: 'it returns false'. Refute it at one input. -/
def checkOwnWrong : ChangeSpec := { name := "checkOwn", fn := fun _ => fun
  | [d1, d2, d3, d4] => { results := [.lit (.bool false)], args := [d1, d2, d3, d4] }
  | _ => none }
def CheckOwnWrongFalsely : Prop := checkOwnRow.holds Try.pinned (OpenSpec.ofChange checkOwnWrong)

/-- 'sibyllaw02.CheckKnown': WHATEVER THE INPUT: true; the input reads as it did. -/
def checkKnownSpec : ChangeSpec := { name := "checkKnown", fn := fun _ => fun
  | [] => { results := [.lit (.bool true)], args := [] }
  | _ => none }
def checkKnownRow : OpenClaim := { program := "ytoipkpndfgcmcaa", sum := "ae4124ec7d12514573c142ef032bce8d25a6338954f37230d9e7bb07f2441cf6", func := "sibyl/sibyllaw02.CheckKnown", spec := "checkKnown", inPlace := ["(*sync.WaitGroup).Go", "(*sync.WaitGroup).Add", "internal/race.ReleaseMerge", "internal/race.Disable", "internal/race.Enable", "internal/synctest.IsInBubble", "internal/synctest.Associate[sync.WaitGroup]", "sync.fatal", "sync/atomic.OrUint64", "sync/atomic.AddUint64", "internal/race.Read", "sync/atomic.LoadUint64", "sync/atomic.StoreUint64", "internal/synctest.Disassociate[sync.WaitGroup]", "sync.runtime_Semrelease", "(*sync.WaitGroup).Go$1", "(*sync.WaitGroup).Go$1$1", "(*sync.WaitGroup).Done", "(*sync.WaitGroup).Wait", "internal/race.Acquire", "internal/synctest.IsAssociated[sync.WaitGroup]", "sync/atomic.CompareAndSwapUint64", "internal/race.Write", "sync.runtime_SemacquireWaitGroup"], unfollowed := true, recurses := true, leaving := true, apart := false }
def CheckKnownSaid : Prop := checkKnownRow.holds Try.pinned (OpenSpec.ofChange checkKnownSpec)

/-- ITS FALSE NEIGHBOUR: 'it returns false'. Refute it at one input. -/
def checkKnownWrong : ChangeSpec := { name := "checkKnown", fn := fun _ => fun
  | [] => { results := [.lit (.bool false)], args := [] }
  | _ => none }
def CheckKnownWrongFalsely : Prop := checkKnownRow.holds Try.pinned (OpenSpec.ofChange checkKnownWrong)

/- THE SECOND FORM. 'bulk': how many values and letters a reading holds, each counted each time it is reached (what is shared counts as often as it is met; a slice's spare places count too). A statement '..UptoSaid' is the law's where the arguments, and the package variables that the reading takes, are together of bulk at most 1048576: NARROWER than '..Said'. Prove '..Said' where nothing that the law and all that it calls make is longer than what came in: it says more and counts as full. Else prove '..UptoSaid'. A law counts once. -/
mutual
def uptoBulk {H : Type} : DataW H → Nat
  | .lit (.string bytes) => bytes.length + 1
  | .lit _ => 1
  | .nil => 1
  | .ptr d => uptoBulk d + 1
  | .slice elems spare => uptoBulkAll elems + uptoBulkAll spare + 1
  | .agg parts => uptoBulkAll parts + 1
  | .iface _ d => uptoBulk d + 1
  | .map entries => uptoBulkEntries entries + 1
  | .held _ => 1
def uptoBulkAll {H : Type} : List (DataW H) → Nat
  | [] => 0
  | d :: r => uptoBulk d + uptoBulkAll r
def uptoBulkEntries {H : Type} : List (Lit × DataW H) → Nat
  | [] => 0
  | x :: r => uptoBulkEntry x + uptoBulkEntries r
def uptoBulkEntry {H : Type} : Lit × DataW H → Nat
  | (.string bytes, d) => bytes.length + uptoBulk d + 1
  | (_, d) => uptoBulk d + 1
 end
def uptoSmall : (H : Type) → List (DataW H) → Bool := fun _ ds => decide (uptoBulkAll ds ≤ 1048576)
def OpenSpec.upto (s : _root_.Go.ChangeSpec) : _root_.Go.OpenSpec := { _root_.Go.OpenSpec.ofChange s with cond := some uptoSmall }

/-- 'sibyllaw02.CheckStreams', WHERE WHAT IT READS IS OF BULK AT MOST 1048576: true; the input reads as it did. -/
def checkStreamsUptoRow : OpenClaim := { program := "ytoipkpndfgcmcaa", sum := "ae4124ec7d12514573c142ef032bce8d25a6338954f37230d9e7bb07f2441cf6", func := "sibyl/sibyllaw02.CheckStreams", spec := "checkStreams", apart := false, narrowed := true }
def CheckStreamsUptoSaid : Prop := checkStreamsUptoRow.holds Try.pinned (OpenSpec.upto checkStreamsSpec)

/-- 'sibyllaw02.CheckForges', WHERE WHAT IT READS IS OF BULK AT MOST 1048576: true; the input reads as it did. -/
def checkForgesUptoRow : OpenClaim := { program := "ytoipkpndfgcmcaa", sum := "ae4124ec7d12514573c142ef032bce8d25a6338954f37230d9e7bb07f2441cf6", func := "sibyl/sibyllaw02.CheckForges", spec := "checkForges", unfollowed := true, recurses := true, leaving := true, apart := false, narrowed := true }
def CheckForgesUptoSaid : Prop := checkForgesUptoRow.holds Try.pinned (OpenSpec.upto checkForgesSpec)

/-- 'sibyllaw02.CheckSums', WHERE WHAT IT READS IS OF BULK AT MOST 1048576: true; the input reads as it did. -/
def checkSumsUptoRow : OpenClaim := { program := "ytoipkpndfgcmcaa", sum := "ae4124ec7d12514573c142ef032bce8d25a6338954f37230d9e7bb07f2441cf6", func := "sibyl/sibyllaw02.CheckSums", spec := "checkSums", apart := false, narrowed := true }
def CheckSumsUptoSaid : Prop := checkSumsUptoRow.holds Try.pinned (OpenSpec.upto checkSumsSpec)

/-- 'sibyllaw02.CheckLong', WHERE WHAT IT READS IS OF BULK AT MOST 1048576: true; the input reads as it did. -/
def checkLongUptoRow : OpenClaim := { program := "ytoipkpndfgcmcaa", sum := "ae4124ec7d12514573c142ef032bce8d25a6338954f37230d9e7bb07f2441cf6", func := "sibyl/sibyllaw02.CheckLong", spec := "checkLong", apart := false, narrowed := true }
def CheckLongUptoSaid : Prop := checkLongUptoRow.holds Try.pinned (OpenSpec.upto checkLongSpec)

/-- 'sibyllaw02.CheckTells', WHERE WHAT IT READS IS OF BULK AT MOST 1048576: true; the input reads as it did. -/
def checkTellsUptoRow : OpenClaim := { program := "ytoipkpndfgcmcaa", sum := "ae4124ec7d12514573c142ef032bce8d25a6338954f37230d9e7bb07f2441cf6", func := "sibyl/sibyllaw02.CheckTells", spec := "checkTells", apart := false, narrowed := true }
def CheckTellsUptoSaid : Prop := checkTellsUptoRow.holds Try.pinned (OpenSpec.upto checkTellsSpec)

/-- 'sibyllaw02.CheckForged', WHERE WHAT IT READS IS OF BULK AT MOST 1048576: true; the input reads as it did. -/
def checkForgedUptoRow : OpenClaim := { program := "ytoipkpndfgcmcaa", sum := "ae4124ec7d12514573c142ef032bce8d25a6338954f37230d9e7bb07f2441cf6", func := "sibyl/sibyllaw02.CheckForged", spec := "checkForged", unfollowed := true, recurses := true, leaving := true, apart := false, narrowed := true }
def CheckForgedUptoSaid : Prop := checkForgedUptoRow.holds Try.pinned (OpenSpec.upto checkForgedSpec)

/-- 'sibyllaw02.CheckParts', WHERE WHAT IT READS IS OF BULK AT MOST 1048576: true; the input reads as it did. -/
def checkPartsUptoRow : OpenClaim := { program := "ytoipkpndfgcmcaa", sum := "ae4124ec7d12514573c142ef032bce8d25a6338954f37230d9e7bb07f2441cf6", func := "sibyl/sibyllaw02.CheckParts", spec := "checkParts", inPlace := ["(*sync.WaitGroup).Go", "(*sync.WaitGroup).Add", "internal/race.ReleaseMerge", "internal/race.Disable", "internal/race.Enable", "internal/synctest.IsInBubble", "internal/synctest.Associate[sync.WaitGroup]", "sync.fatal", "sync/atomic.OrUint64", "sync/atomic.AddUint64", "internal/race.Read", "sync/atomic.LoadUint64", "sync/atomic.StoreUint64", "internal/synctest.Disassociate[sync.WaitGroup]", "sync.runtime_Semrelease", "(*sync.WaitGroup).Go$1", "(*sync.WaitGroup).Go$1$1", "(*sync.WaitGroup).Done", "(*sync.WaitGroup).Wait", "internal/race.Acquire", "internal/synctest.IsAssociated[sync.WaitGroup]", "sync/atomic.CompareAndSwapUint64", "internal/race.Write", "sync.runtime_SemacquireWaitGroup"], unfollowed := true, recurses := true, leaving := true, apart := false, narrowed := true }
def CheckPartsUptoSaid : Prop := checkPartsUptoRow.holds Try.pinned (OpenSpec.upto checkPartsSpec)

/-- 'sibyllaw02.CheckPieces', WHERE WHAT IT READS IS OF BULK AT MOST 1048576: true; the input reads as it did. -/
def checkPiecesUptoRow : OpenClaim := { program := "ytoipkpndfgcmcaa", sum := "ae4124ec7d12514573c142ef032bce8d25a6338954f37230d9e7bb07f2441cf6", func := "sibyl/sibyllaw02.CheckPieces", spec := "checkPieces", inPlace := ["(*sync.WaitGroup).Go", "(*sync.WaitGroup).Add", "internal/race.ReleaseMerge", "internal/race.Disable", "internal/race.Enable", "internal/synctest.IsInBubble", "internal/synctest.Associate[sync.WaitGroup]", "sync.fatal", "sync/atomic.OrUint64", "sync/atomic.AddUint64", "internal/race.Read", "sync/atomic.LoadUint64", "sync/atomic.StoreUint64", "internal/synctest.Disassociate[sync.WaitGroup]", "sync.runtime_Semrelease", "(*sync.WaitGroup).Go$1", "(*sync.WaitGroup).Go$1$1", "(*sync.WaitGroup).Done", "(*sync.WaitGroup).Wait", "internal/race.Acquire", "internal/synctest.IsAssociated[sync.WaitGroup]", "sync/atomic.CompareAndSwapUint64", "internal/race.Write", "sync.runtime_SemacquireWaitGroup"], unfollowed := true, recurses := true, leaving := true, apart := false, narrowed := true }
def CheckPiecesUptoSaid : Prop := checkPiecesUptoRow.holds Try.pinned (OpenSpec.upto checkPiecesSpec)

/-- 'sibyllaw02.CheckOwn', WHERE WHAT IT READS IS OF BULK AT MOST 1048576: true; the input reads as it did. -/
def checkOwnUptoRow : OpenClaim := { program := "ytoipkpndfgcmcaa", sum := "ae4124ec7d12514573c142ef032bce8d25a6338954f37230d9e7bb07f2441cf6", func := "sibyl/sibyllaw02.CheckOwn", spec := "checkOwn", inPlace := ["(*sync.WaitGroup).Go", "(*sync.WaitGroup).Add", "internal/race.ReleaseMerge", "internal/race.Disable", "internal/race.Enable", "internal/synctest.IsInBubble", "internal/synctest.Associate[sync.WaitGroup]", "sync.fatal", "sync/atomic.OrUint64", "sync/atomic.AddUint64", "internal/race.Read", "sync/atomic.LoadUint64", "sync/atomic.StoreUint64", "internal/synctest.Disassociate[sync.WaitGroup]", "sync.runtime_Semrelease", "(*sync.WaitGroup).Go$1", "(*sync.WaitGroup).Go$1$1", "(*sync.WaitGroup).Done", "(*sync.WaitGroup).Wait", "internal/race.Acquire", "internal/synctest.IsAssociated[sync.WaitGroup]", "sync/atomic.CompareAndSwapUint64", "internal/race.Write", "sync.runtime_SemacquireWaitGroup"], unfollowed := true, recurses := true, leaving := true, apart := false, narrowed := true }
def CheckOwnUptoSaid : Prop := checkOwnUptoRow.holds Try.pinned (OpenSpec.upto checkOwnSpec)

/-- 'sibyllaw02.CheckKnown', WHERE WHAT IT READS IS OF BULK AT MOST 1048576: true; the input reads as it did. -/
def checkKnownUptoRow : OpenClaim := { program := "ytoipkpndfgcmcaa", sum := "ae4124ec7d12514573c142ef032bce8d25a6338954f37230d9e7bb07f2441cf6", func := "sibyl/sibyllaw02.CheckKnown", spec := "checkKnown", inPlace := ["(*sync.WaitGroup).Go", "(*sync.WaitGroup).Add", "internal/race.ReleaseMerge", "internal/race.Disable", "internal/race.Enable", "internal/synctest.IsInBubble", "internal/synctest.Associate[sync.WaitGroup]", "sync.fatal", "sync/atomic.OrUint64", "sync/atomic.AddUint64", "internal/race.Read", "sync/atomic.LoadUint64", "sync/atomic.StoreUint64", "internal/synctest.Disassociate[sync.WaitGroup]", "sync.runtime_Semrelease", "(*sync.WaitGroup).Go$1", "(*sync.WaitGroup).Go$1$1", "(*sync.WaitGroup).Done", "(*sync.WaitGroup).Wait", "internal/race.Acquire", "internal/synctest.IsAssociated[sync.WaitGroup]", "sync/atomic.CompareAndSwapUint64", "internal/race.Write", "sync.runtime_SemacquireWaitGroup"], unfollowed := true, recurses := true, leaving := true, apart := false, narrowed := true }
def CheckKnownUptoSaid : Prop := checkKnownUptoRow.holds Try.pinned (OpenSpec.upto checkKnownSpec)

end Rows
end Go.Proofs.Ytoipkpndfgcmcaa
