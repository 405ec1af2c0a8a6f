/- CommandReads, from the argument as it is read. -/
import Derived.Test.YtchmcjimnliodaaC18i
namespace Go.Proofs.Ytchmcjimnliodaa
open Go Go.RowKit
theorem walk_commandReads {W : World} {a0 : Option Addr} {e0 c0 : Nat} (w0 : ∃ (a : Option Addr) (d : List UInt8) (cap : Nat), Value.slice a0 e0 c0 = .slice a d.length cap ∧ Lies W a (ub d) ∧ d.length ≤ cap ∧ cap ≤ maxLen) :
    Ret Try.prog 5 #[.slice a0 e0 c0] W fun v w' => v = .bool true ∧ Pure W w' := by
  obtain ⟨a, d, cap, e, hl, _, _⟩ := w0
  rw [e]
  exact reads_ret hl
end Go.Proofs.Ytchmcjimnliodaa
