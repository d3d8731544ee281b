/-
  The library's functions of the wait group under this program's numbers; the payload's cells are uint32s. No assumption.
-/
import Derived.Test.YtoipkpndfgcmcaaRows
import Derived.Test.YtoipkpndfgcmcaaCvGo
import Derived.Conc.WgGenN3
import Derived.KernelRfl
namespace Go.Proofs.Ytoipkpndfgcmcaa.Crew
open Go Go.Conc Go.ConcR Go.RowKit Go.Conc.Lib Go.ConcR.Gen

abbrev link : Go.Conc.Lib.WgLink := { add := 60, done := 63, wait := 55, relMerge := 74, disable := 64, enable := 66, inBubble := 72, associate := 75, fatal := 76, uOr := 77, uAdd := 78, raceRead := 79, uLoad := 65, uStore := 80, disassociate := 70, semrelease := 81, acquire := 67, isAssociated := 68, uCas := 69, raceWrite := 71, semacquire := 73, orU64 := 84, addU64 := 85, loadU64 := 82, storeU64 := 86, casU64 := 83, tWgP := 102, tUP := 106, tAssoc := 112, tWg := 96, tAU := 94, tU64 := 92, tUint := 76, tU32 := 40, tPU32 := 110, tPAU := 118, tPU64 := 120, tNoCopy := 89, tANoCopy := 90, tAlign64 := 91 }
theorem wgLib : Go.Conc.Lib.WgLib Try.prog link :=
  ⟨Try.func60, Try.func63, Try.func55, Try.func74, Try.func64, Try.func66, Try.func72, Try.func75, Try.func76, Try.func77, Try.func78, Try.func79, Try.func65, Try.func80, Try.func70, Try.func81, Try.func67, Try.func68, Try.func69, Try.func71, Try.func73, Try.func84, Try.func85, Try.func82, Try.func86, Try.func83, Try.underlying102, Try.runUnderlying102, Try.sizeOf102, Try.isAgg102, Try.zeroValue102, Try.underlying106, Try.runUnderlying106, Try.sizeOf106, Try.isAgg106, Try.zeroValue106, Try.underlying112, Try.runUnderlying112, Try.sizeOf112, Try.isAgg112, Try.zeroValue112, Try.underlying96, Try.runUnderlying96, Try.sizeOf96, Try.isAgg96, Try.zeroValue96, Try.underlying94, Try.runUnderlying94, Try.sizeOf94, Try.isAgg94, Try.zeroValue94, Try.underlying92, Try.runUnderlying92, Try.sizeOf92, Try.isAgg92, Try.zeroValue92, Try.underlying76, Try.runUnderlying76, Try.sizeOf76, Try.isAgg76, Try.zeroValue76, Try.underlying40, Try.runUnderlying40, Try.sizeOf40, Try.isAgg40, Try.zeroValue40, Try.underlying110, Try.runUnderlying110, Try.sizeOf110, Try.isAgg110, Try.zeroValue110, Try.underlying118, Try.runUnderlying118, Try.sizeOf118, Try.isAgg118, Try.zeroValue118, Try.underlying120, Try.runUnderlying120, Try.sizeOf120, Try.isAgg120, Try.zeroValue120, Try.underlying0, Try.runUnderlying0, Try.sizeOf0, Try.isAgg0, Try.zeroValue0, Try.underlying3, Try.runUnderlying3, Try.sizeOf3, Try.isAgg3, Try.zeroValue3, Try.underlying4, Try.runUnderlying4, Try.sizeOf4, Try.isAgg4, Try.zeroValue4, Try.underlying9, Try.runUnderlying9, Try.sizeOf9, Try.isAgg9, Try.zeroValue9, Try.underlying20, Try.runUnderlying20, Try.sizeOf20, Try.isAgg20, Try.zeroValue20, Try.underlying21, Try.runUnderlying21, Try.sizeOf21, Try.isAgg21, Try.zeroValue21, (by kernel_rfl), (by kernel_rfl)⟩
instance : Payload := ⟨40⟩
end Go.Proofs.Ytoipkpndfgcmcaa.Crew
