/- The program draws all its orders. -/
import Derived.Test.YtipeanblfjimdaaDoorVcC
import Derived.Test.YtipeanblfjimdaaDoorChecked
namespace Go.Proofs.YtipeanblfjimdaaDoor
open Go
theorem mixed : Tryd.prog.follows .mixedOrders = true := by kernel_rfl
end Go.Proofs.YtipeanblfjimdaaDoor
