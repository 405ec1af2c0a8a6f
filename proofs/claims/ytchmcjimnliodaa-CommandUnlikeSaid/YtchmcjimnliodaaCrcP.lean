/- The sums of chapter 2 as plain Lean. No program in sight. -/
import Derived.KernelRfl
namespace Go.Proofs.Ytchmcjimnliodaa

/-- One bit more. -/
def cbit (s : BitVec 32) : BitVec 32 := if s.getLsbD 0 then (s >>> 1) ^^^ 3988292384#32 else s >>> 1
def cbits : Nat → BitVec 32 → BitVec 32
  | 0, s => s
  | k + 1, s => cbit (cbits k s)
/-- One byte more. -/
def cstep (s : BitVec 32) (b : UInt8) : BitVec 32 := cbits 8 (s ^^^ BitVec.ofNat 32 b.toNat)
/-- More bytes. -/
def more (s : BitVec 32) (l : List UInt8) : BitVec 32 := ~~~(l.foldl cstep (~~~s))
/-- A sum as bytes. -/
def four (s : BitVec 32) : List UInt8 := [UInt8.ofNat s.toNat, UInt8.ofNat (s.toNat / 256), UInt8.ofNat (s.toNat / 65536), UInt8.ofNat (s.toNat / 16777216)]
theorem four_length (s : BitVec 32) : (four s).length = 4 := rfl
end Go.Proofs.Ytchmcjimnliodaa
