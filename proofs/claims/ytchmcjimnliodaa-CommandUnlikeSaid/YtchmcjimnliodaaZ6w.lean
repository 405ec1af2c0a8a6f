/- CommandUnlike, from the arguments as they are read. -/
import Derived.Test.YtchmcjimnliodaaOpenQ
namespace Go.Proofs.Ytchmcjimnliodaa
open Go Go.RowKit
theorem walk_commandUnlike {W : World} {x y : Array Value} (hx : ∃ (q : Rq) (a : Option Addr) (cap : Nat), x.toList = q.cells a cap ∧ q.raw ∧ Lies W a (strs q.c.sp.deps)) (hy : ∃ (q : Rq) (a : Option Addr) (cap : Nat), y.toList = q.cells a cap ∧ q.raw ∧ Lies W a (strs q.c.sp.deps)) :
    Ret Try.prog 4 #[.agg x, .agg y] W fun v w' => v = .bool true ∧ Pure W w' := by
  obtain ⟨p, a, cap, e1, h1, l1⟩ := hx
  obtain ⟨q, b, cap', e2, h2, l2⟩ := hy
  obtain rfl : x = (p.cells a cap).toArray := by rw [← e1]
  obtain rfl : y = (q.cells b cap').toArray := by rw [← e2]
  exact unlike_ret h1 h2 l1 l2
end Go.Proofs.Ytchmcjimnliodaa
