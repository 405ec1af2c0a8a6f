/- The program draws all its orders. -/
import Derived.Test.YtchmcjimnliodaaVcC
import Derived.Test.YtchmcjimnliodaaChecked
namespace Go.Proofs.Ytchmcjimnliodaa
open Go
theorem mixed : Try.prog.follows .mixedOrders = true := by kernel_rfl
end Go.Proofs.Ytchmcjimnliodaa
