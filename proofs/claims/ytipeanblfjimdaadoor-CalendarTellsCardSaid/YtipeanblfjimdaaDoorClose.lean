/- From a function's answer to the row's: nothing that was there has turned. -/
import Derived.Test.YtipeanblfjimdaaDoorVcL
import Derived.OpenShut
namespace Go.Proofs.YtipeanblfjimdaaDoor
open Go Go.RowKit
theorem close {P : Program} {f : FuncId} {args : Array Value} {w : World} (h : Ret P f args w fun v w' => v = .bool true ∧ Pure w w') :
    Calls P f args w fun e w' => e = .returned (.bool true) ∧ Below w.heap.size w w' :=
  h.calls.mono fun _ _ ⟨_, e, hv, hp⟩ => ⟨by rw [e, hv], hp.below (Nat.le_refl _) (fun _ _ => id)⟩
theorem u32_of {n : Int} (h : (Lit.int .u32 n).wf = true) : ∃ b : BitVec 32, n = (b.toNat : Int) := by
  have := bounds_u32 h
  exact ⟨BitVec.ofNat 32 n.toNat, by rw [BitVec.toNat_ofNat]; omega⟩
theorem u16_of {n : Int} (h : (Lit.int .u16 n).wf = true) : ∃ b : Nat, n = (b : Int) ∧ b < 65536 := by
  have := bounds_u16 h
  exact ⟨n.toNat, by omega, by omega⟩
theorem u8_of {n : Int} (h : (Lit.int .u8 n).wf = true) : ∃ b : UInt8, n = (b.toNat : Int) := by
  have := bounds_u8 h
  exact ⟨UInt8.ofNat n.toNat, by rw [UInt8.toNat_ofNat']; omega⟩
end Go.Proofs.YtipeanblfjimdaaDoor
