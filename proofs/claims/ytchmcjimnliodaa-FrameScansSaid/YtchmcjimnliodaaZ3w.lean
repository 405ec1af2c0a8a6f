/- FrameScans, from the arguments as they are read. -/
import Derived.Test.YtchmcjimnliodaaL3f
import Derived.Test.YtchmcjimnliodaaOpenD
import Derived.Test.YtchmcjimnliodaaClose
namespace Go.Proofs.Ytchmcjimnliodaa
open Go Go.RowKit
theorem walk_frameScans {W : World} {n0 n3 n4 n5 : Int} {a1 a2 : Option Addr} {e1 e2 c1 c2 : Nat} (w0 : (Lit.int .u32 n0).wf = true) (w1 : ∃ (a : Option Addr) (xs : List RecAt) (cap : Nat), Value.slice a1 e1 c1 = .slice a xs.length cap ∧ Recs W a xs ∧ xs.length ≤ cap ∧ cap ≤ maxLen)
    (w2 : ∃ (a : Option Addr) (d : List UInt8) (cap : Nat), Value.slice a2 e2 c2 = .slice a d.length cap ∧ Lies W a (ub d) ∧ d.length ≤ cap ∧ cap ≤ maxLen) (w3 : (Lit.int .u16 n3).wf = true) (w4 : (Lit.int .u16 n4).wf = true) (w5 : (Lit.int .u8 n5).wf = true) :
    Ret Try.prog 3 #[.int .u32 n0, .slice a1 e1 c1, .slice a2 e2 c2, .int .u16 n3, .int .u16 n4, .int .u8 n5] W fun v w' => v = .bool true ∧ Pure W w' := by
  obtain ⟨seed, rfl⟩ := u32_of w0
  obtain ⟨al, xs, cl, e, hl, h1, h2⟩ := w1
  obtain ⟨ab, d, cb, e', hb, h3, h4⟩ := w2
  obtain ⟨cut, rfl, hc⟩ := u16_of w3
  obtain ⟨at_, rfl, ha⟩ := u16_of w4
  obtain ⟨y, rfl⟩ := u8_of w5
  rw [e, e']
  exact scans_ret (l := xs.map RecAt.r) (bh := d) ⟨hl, hb, rfl, rfl, rfl, h1, h2, h3, h4⟩ hc ha
end Go.Proofs.Ytchmcjimnliodaa
