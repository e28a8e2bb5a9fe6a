/- The chapter's example; the laws of addr, run. -/
import Derived.Test.YtbhickepoifepaaDoorAddrT3
import Derived.KernelRfl
set_option maxRecDepth 100000
set_option linter.unusedSimpArgs false
set_option linter.unusedVariables false
namespace Go.Fw.Sy.Ad
theorem alive_run : (runFn K11 1000 fi7 [] noA 0).map (·.1) = some (.bool true) := by kernel_rfl
def spAlive : Sp
  | [] => some (.bool true, [])
  | _ => none
def K12 : CallK := addK K11 7 (pureK spAlive)
theorem names_run : (runFn K12 1000 fi6 [] noA 0).map (·.1) = some (.bool true) := by kernel_rfl
end Go.Fw.Sy.Ad
