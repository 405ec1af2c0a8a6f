/- WalTurns, from the arguments as they are read. -/
import Derived.Test.YtchmcjimnliodaaMW6
import Derived.Test.YtchmcjimnliodaaW09
namespace Go.Proofs.Ytchmcjimnliodaa
open Go Go.RowKit
theorem walk_walTurns {W : World} {n1 : Int} {a0 : Option Addr} {e0 c0 : Nat} (w0 : ∃ (a : Option Addr) (xs : List RecAt) (cap : Nat), Value.slice a0 e0 c0 = .slice a xs.length cap ∧ Recs W a xs ∧ xs.length ≤ cap ∧ cap ≤ maxLen)
    (w1 : (Lit.int .u8 n1).wf = true) : Ret Try.prog 9 #[.slice a0 e0 c0, .int .u8 n1] W fun v w' => v = .bool true ∧ Pure W w' := by
  obtain ⟨al, xs, cl, e, hl, h1, h2⟩ := w0
  obtain ⟨y, rfl⟩ := u8_of w1
  rw [e]
  exact turns_ret rfl hl h1 h2 (by have := y.toNat_lt; omega)
end Go.Proofs.Ytchmcjimnliodaa
