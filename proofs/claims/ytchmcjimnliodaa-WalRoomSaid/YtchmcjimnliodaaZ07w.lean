/- WalRoom, from the arguments as they are read. -/
import Derived.Test.YtchmcjimnliodaaMW6
import Derived.Test.YtchmcjimnliodaaW07
namespace Go.Proofs.Ytchmcjimnliodaa
open Go Go.RowKit
theorem walk_walRoom {W : World} {n0 n1 : Int} (w0 : (Lit.int .u8 n0).wf = true) (w1 : (Lit.int .u8 n1).wf = true) : Ret Try.prog 7 #[.int .u8 n0, .int .u8 n1] W fun v w' => v = .bool true ∧ Pure W w' := by
  have h0 := bounds_u8 w0
  have h1 := bounds_u8 w1
  obtain ⟨m, rfl⟩ : ∃ m : Nat, n0 = (m : Int) := ⟨n0.toNat, by omega⟩
  obtain ⟨k, rfl⟩ : ∃ k : Nat, n1 = (k : Int) := ⟨n1.toNat, by omega⟩
  exact room_law (by omega) (by omega)
end Go.Proofs.Ytchmcjimnliodaa
