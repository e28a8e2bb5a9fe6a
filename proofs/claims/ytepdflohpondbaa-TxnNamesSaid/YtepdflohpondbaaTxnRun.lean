/- The law TxnNames, run. -/
import Derived.Test.YtepdflohpondbaaTxnK
import Derived.KernelRfl
set_option maxRecDepth 100000
namespace Go.Fw.Sy.Tx
theorem names_run : (runFn (KT 12) 2000 fi3 [] noA 0).map (·.1) = some (.bool true) := by kernel_rfl
end Go.Fw.Sy.Tx
