/- WalKeeps, from the argument as it is read. -/
import Derived.Test.YtchmcjimnliodaaMW6
import Derived.Test.YtchmcjimnliodaaW10
import Derived.Test.YtchmcjimnliodaaOpenA
namespace Go.Proofs.Ytchmcjimnliodaa
open Go Go.RowKit
theorem walk_walKeeps {W : World} {a0 : Option Addr} {e0 c0 : Nat} (w0 : ∃ (a : Option Addr) (ys : List ActAt) (cap : Nat), Value.slice a0 e0 c0 = .slice a ys.length cap ∧ Acts W a ys ∧ ys.length ≤ cap ∧ cap ≤ maxLen) :
    Ret Try.prog 10 #[.slice a0 e0 c0] W fun v w' => v = .bool true ∧ Pure W w' := by
  obtain ⟨al, ys, cl, e, hl, h1, h2⟩ := w0
  rw [e]
  exact keeps_law rfl hl h1 h2
end Go.Proofs.Ytchmcjimnliodaa
