/- The run of works, by the kernel. -/
import Derived.Test.YtgiebkbbnjnplaaGreatDoorAbSig
set_option maxRecDepth 1000000
namespace Go.Proofs
open Go.Ab Go

/-- works() is true, and it leaves the listed variables as they were. -/
theorem works_run : chkAll (evCall fnTab 100000 199 7 [] sig2) = true := by decide +kernel

end Go.Proofs
