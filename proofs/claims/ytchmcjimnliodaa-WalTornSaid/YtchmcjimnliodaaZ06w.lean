/- WalTorn, from the arguments as they are read. -/
import Derived.Test.YtchmcjimnliodaaMW6
import Derived.Test.YtchmcjimnliodaaW06
namespace Go.Proofs.Ytchmcjimnliodaa
open Go Go.RowKit
theorem walk_walTorn {W : World} {n2 : Int} {a0 a1 : Option Addr} {e0 c0 e1 c1 : Nat} (w0 : ∃ (a : Option Addr) (xs : List RecAt) (cap : Nat), Value.slice a0 e0 c0 = .slice a xs.length cap ∧ Recs W a xs ∧ xs.length ≤ cap ∧ cap ≤ maxLen)
    (_ : ∃ (a : Option Addr) (xs : List RecAt) (cap : Nat), Value.slice a1 e1 c1 = .slice a xs.length cap ∧ Recs W a xs ∧ xs.length ≤ cap ∧ cap ≤ maxLen)
    (w2 : (Lit.int .u64 n2).wf = true) : Ret Try.prog 6 #[.slice a0 e0 c0, .slice a1 e1 c1, .int .u64 n2] W fun v w' => v = .bool true ∧ Pure W w' := by
  obtain ⟨al, xs, cl, e, hl, h1, h2⟩ := w0
  have hn := bounds_u64 w2
  obtain ⟨m, rfl⟩ : ∃ m : Nat, n2 = (m : Int) := ⟨n2.toNat, by omega⟩
  rw [e]
  exact torn_ret rfl hl h1 h2 (by omega)
end Go.Proofs.Ytchmcjimnliodaa
