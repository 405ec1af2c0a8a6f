/- Several texts in one: PWl, PWw, PWd, VcS, VcT, VcU, Plain, CrcP, FrameP, FrameQ, FrameT, FrameU, WalP, Bit, OctW. No conditions. -/
import Derived.Test.YtchmcjimnliodaaMW1
import Derived.Test.YtchmcjimnliodaaChecked
import Derived.Deep.AppendSrc
import Derived.Laws.Concat
import Derived.Laws.CopyRow
import Derived.Laws.IdiomCopy
import Derived.Laws.MakeOwn
import Derived.KernelRfl
import Derived.WalkKit
import Derived.Laws.Bits64b
import Derived.WalkSpells
import Derived.WalkLawsBesides
import Derived.Lib.Hide
import Derived.Outline
section
set_option linter.unusedSimpArgs false
set_option linter.unusedVariables false
/- Printed by wip/tools/gen.py: the conditions of functions. -/
namespace Go.Proofs.Ytchmcjimnliodaa
open Go
set_option maxRecDepth 100000
def c45 (x0 : Value) (w : World) (R : Value → World → Prop) : Prop :=
  val Try.prog (Instr.box 42 x0) w fun x1 w => 
  val Try.prog (Instr.makeFunc (.func 91) #[] #[x1]) w fun x3 w => 
  R x3 w
theorem v45 (x0 : Value) (w : World) (R : Value → World → Prop) : vc Try.prog true (Try.f45.body.getD .skip) (.seq .leaf (.seq .leaf .leaf)) { get := argEnv [x0], ds := [] } (retQ Try.prog Try.f45.results.toList R) w = c45 x0 w R := by kernel_rfl
theorem e45 {x0 : Value} {w : World} {R : Value → World → Prop} (h : c45 x0 w R) : Ret Try.prog 45 #[x0] w R :=
  ret_of_vc mixed Try.call45 Try.func45 rfl (by kernel_rfl) (by kernel_rfl) ((v45 x0 w R).mpr h)
def c91 (x0 x1 : Value) (w : World) (R : Value → World → Prop) : Prop :=
  val Try.prog (ld1 42 x1) w fun x4 w => 
  val Try.prog (bin .rem 3 true x0 (Value.int .i64 64)) w fun x6 w => 
  val Try.prog (bin .shr 42 false x4 x6) w fun x7 w => 
  val Try.prog (bin .and 42 true x7 (Value.int .u64 1)) w fun x8 w => 
  val Try.prog (bin .eql 42 true x8 (Value.int .u64 1)) w fun x9 w => 
  R x9 w
theorem v91 (x0 x1 : Value) (w : World) (R : Value → World → Prop) : vc Try.prog true (Try.f91.body.getD .skip) (.seq .leaf (.seq .leaf .leaf)) { get := argEnv [x0, x1], ds := [] } (retQ Try.prog Try.f91.results.toList R) w = c91 x0 x1 w R := by kernel_rfl
theorem e91 {x0 x1 : Value} {w : World} {R : Value → World → Prop} (h : c91 x0 x1 w R) : Ret Try.prog 91 #[x0, x1] w R :=
  ret_of_vc mixed Try.call91 Try.func91 rfl (by kernel_rfl) (by kernel_rfl) ((v91 x0 x1 w R).mpr h)
def c28 (w : World) (R : Value → World → Prop) : Prop :=
  Ret Try.prog 29 #[(Value.int .i64 16)] w fun x12 w => 
  val Try.prog (Instr.extract x12 0) w fun x13 w => 
  val Try.prog (Instr.extract x12 1) w fun _ w => 
  Ret Try.prog 30 #[x13] w fun x17 w => 
  val Try.prog (Instr.extract x17 0) w fun x18 w => 
  val Try.prog (Instr.extract x17 1) w fun x19 w => 
  val Try.prog (Instr.buildSlice 24 1 #[(0, (Value.int .u8 97))]) w fun x21 w => 
  val Try.prog (convert 24 24 x21) w fun x22 w => 
  val Try.prog (Instr.build 29 #[(0, (Value.int .u8 1)), (1, x22)]) w fun x23 w => 
  Ret Try.prog 31 #[x18, x23] w fun x24 w => 
  Ret Try.prog 32 #[x18] w fun x26 w => 
  val Try.prog (Instr.buildSlice 24 1 #[(0, (Value.int .u8 98))]) w fun x28 w => 
  val Try.prog (convert 24 24 x28) w fun x29 w => 
  val Try.prog (Instr.build 29 #[(0, (Value.int .u8 2)), (1, x29)]) w fun x30 w => 
  Ret Try.prog 31 #[x18, x30] w fun x31 w => 
  Ret Try.prog 44 #[x13, Value.nilFunc] w fun _ w => 
  Ret Try.prog 46 #[x13] w fun _ w => 
  Ret Try.prog 34 #[x13] w fun x38 w => 
  val Try.prog (Instr.extract x38 0) w fun _ w => 
  val Try.prog (Instr.extract x38 1) w fun x40 w => 
  val Try.prog (Instr.extract x38 2) w fun x41 w => 
  val Try.prog (bin .eql 36 true x19 (Value.int .i64 0)) w fun x43 w => 
  gd x43 true (
  val Try.prog (bin .eql 36 true x24 (Value.int .i64 0)) w fun x46 w => 
  gd x46 true (
  val Try.prog (bin .eql 36 true x26 (Value.int .i64 0)) w fun x50 w => 
  gd x50 true (
  val Try.prog (bin .eql 36 true x31 (Value.int .i64 0)) w fun x54 w => 
  gd x54 true (
  val Try.prog (bin .eql 36 true x41 (Value.int .i64 0)) w fun x58 w => 
  gd x58 true (
  val Try.prog (Builtin.len_ #[23] 3 #[x40]) w fun x62 w => 
  val Try.prog (bin .eql 3 true x62 (Value.int .i64 1)) w fun x63 w => 
  gd x63 true (
  val Try.prog (Instr.indexAt 23 x40 (Value.int .i64 0)) w fun x67 w => 
  val Try.prog (Instr.fieldAt 29 x67 1) w fun x68 w => 
  val Try.prog (ld1 24 x68) w fun x69 w => 
  val Try.prog (convert 24 9 x69) w fun x70 w => 
  val Try.prog (bin .eql 9 true x70 (Value.string (ByteArray.mk #[97]))) w fun x71 w => 
  R x71 w) (
  R (Value.bool false) w)) (
  R (Value.bool false) w)) (
  R (Value.bool false) w)) (
  R (Value.bool false) w)) (
  R (Value.bool false) w)) (
  R (Value.bool false) w)
theorem v28 (w : World) (R : Value → World → Prop) : vc Try.prog true (Try.f28.body.getD .skip) (.seq .leaf (.seq .leaf (.seq .leaf (.seq .leaf (.seq .leaf (.seq .leaf (.seq .leaf (.seq .leaf (.seq .leaf (.seq .leaf .leaf)))))))))) { get := argEnv [], ds := [] } (retQ Try.prog Try.f28.results.toList R) w = c28  w R := by kernel_rfl
theorem e28 {w : World} {R : Value → World → Prop} (h : c28  w R) : Ret Try.prog 28 #[] w R :=
  ret_of_vc mixed Try.call28 Try.func28 rfl (by kernel_rfl) (by kernel_rfl) ((v28  w R).mpr h)
def c39 (x0 x1 : Value) (w : World) (R : Value → World → Prop) : Prop :=
  val Try.prog (Builtin.len_ #[23] 3 #[x0]) w fun x6 w => 
  val Try.prog (Builtin.len_ #[23] 3 #[x1]) w fun x8 w => 
  val Try.prog (bin .eql 3 false x6 x8) w fun x9 w => 
  gd x9 true (
  Ret Try.prog 47 #[x0, x1, (Value.slice none 0 0)] w fun x13 w => 
  R x13 w) (
  R (Value.bool false) w)
theorem v39 (x0 x1 : Value) (w : World) (R : Value → World → Prop) : vc Try.prog true (Try.f39.body.getD .skip) (.seq .leaf (.seq .leaf .leaf)) { get := argEnv [x0, x1], ds := [] } (retQ Try.prog Try.f39.results.toList R) w = c39 x0 x1 w R := by kernel_rfl
theorem e39 {x0 x1 : Value} {w : World} {R : Value → World → Prop} (h : c39 x0 x1 w R) : Ret Try.prog 39 #[x0, x1] w R :=
  ret_of_vc mixed Try.call39 Try.func39 rfl (by kernel_rfl) (by kernel_rfl) ((v39 x0 x1 w R).mpr h)
def c47_1 (x26 x25 x0 x1 x2 : Value) (R : Value → World → Prop) (next : Car 1) (w : World) : Prop :=
  val Try.prog (bin .lss 3 false x26 x25) w fun x27 w => 
  gd x27 true (
  val Try.prog (Instr.indexAt 23 x0 x26) w fun x29 w => 
  val Try.prog (ldS 29 x29) w fun x30 w => 
  val Try.prog (Instr.alloc 29 true (.tuple #[])) w fun x8 w => 
  unt Try.prog (stS 29 x8 x30) w fun w => 
  drw w fun T w => 
  tk Try.prog T 0 (Builtin.len_ #[23] 3 #[x1]) fun x33 => 
  pu Try.prog (bin .lss 3 false x26 x33) fun x34 => 
  gd x34 true (
  tk Try.prog T 0 (ldS 29 x8) fun x36 => 
  pu Try.prog (Instr.indexAt 23 x1 x26) fun x39 => 
  tk Try.prog T 0 (ldS 29 x39) fun x40 => 
  Ret Try.prog 92 #[x36, x40] w fun x41 w => 
  ph T 1 w (pu Try.prog (Op.unary .not x41) fun x42 => 
  gd x42 false (
  tk Try.prog T 1 (Builtin.len_ #[23] 3 #[x1]) fun x47 => 
  pu Try.prog (bin .geq 3 false x26 x47) fun x48 => 
  gd x48 true (
  tk Try.prog T 1 (ldS 29 x8) fun x50 => 
  tk Try.prog T 1 (Builtin.len_ #[23] 3 #[x1]) fun x54 => 
  pu Try.prog (bin .sub 3 false x26 x54) fun x55 => 
  pu Try.prog (Instr.indexAt 23 x2 x55) fun x56 => 
  tk Try.prog T 1 (ldS 29 x56) fun x57 => 
  Ret Try.prog 92 #[x50, x57] w fun x58 w => 
  ph T 2 w (pu Try.prog (Op.unary .not x58) fun x59 => 
  gd x59 true (
  R (Value.bool false) w) (
  val Try.prog (bin .add 3 true x26 (Value.int .i64 1)) w fun x62 w => 
  next x62 w))) (
  ph T 2 w (val Try.prog (bin .add 3 true x26 (Value.int .i64 1)) w fun x62_1 w => 
  next x62_1 w))) (
  ph T 2 w (R (Value.bool false) w)))) (
  ph T 1 w (tk Try.prog T 1 (Builtin.len_ #[23] 3 #[x1]) fun x47_1 => 
  pu Try.prog (bin .geq 3 false x26 x47_1) fun x48_1 => 
  gd x48_1 true (
  tk Try.prog T 1 (ldS 29 x8) fun x50_1 => 
  tk Try.prog T 1 (Builtin.len_ #[23] 3 #[x1]) fun x54_1 => 
  pu Try.prog (bin .sub 3 false x26 x54_1) fun x55_1 => 
  pu Try.prog (Instr.indexAt 23 x2 x55_1) fun x56_1 => 
  tk Try.prog T 1 (ldS 29 x56_1) fun x57_1 => 
  Ret Try.prog 92 #[x50_1, x57_1] w fun x58_1 w => 
  ph T 2 w (pu Try.prog (Op.unary .not x58_1) fun x59_1 => 
  gd x59_1 true (
  R (Value.bool false) w) (
  val Try.prog (bin .add 3 true x26 (Value.int .i64 1)) w fun x62_2 w => 
  next x62_2 w))) (
  ph T 2 w (val Try.prog (bin .add 3 true x26 (Value.int .i64 1)) w fun x62_3 w => 
  next x62_3 w))))) (
  R (Value.bool true) w)
def c47 (x0 x1 x2 : Value) (w : World) (R : Value → World → Prop) : Prop :=
  val Try.prog (Builtin.len_ #[23] 3 #[x0]) w fun x10 w => 
  val Try.prog (Builtin.len_ #[23] 3 #[x1]) w fun x12 w => 
  val Try.prog (bin .lss 3 false x10 x12) w fun x13 w => 
  gd x13 false (
  val Try.prog (Builtin.len_ #[23] 3 #[x0]) w fun x16 w => 
  val Try.prog (Builtin.len_ #[23] 3 #[x1]) w fun x18 w => 
  val Try.prog (Builtin.len_ #[23] 3 #[x2]) w fun x20 w => 
  val Try.prog (bin .add 3 false x18 x20) w fun x21 w => 
  val Try.prog (bin .gtr 3 false x16 x21) w fun x22 w => 
  gd x22 true (
  R (Value.bool false) w) (
  val Try.prog (Builtin.len_ #[23] 3 #[x0]) w fun x25 w => 
  loopK 1 [(Value.int .i64 0)] w fun next => fun (x26 : Value) (w : World) => 
  c47_1 x26 x25 x0 x1 x2 R next w)) (
  R (Value.bool false) w)
theorem v47 (x0 x1 x2 : Value) (w : World) (R : Value → World → Prop) : vc Try.prog true (Try.f47.body.getD .skip) (.seq .leaf (.seq (.seq .leaf (.cond (.seq .leaf .leaf) .leaf)) (.seq (.seq .leaf (.one (.loop [26] (.seq .leaf (.seq (.cond .leaf .leaf) (.seq (.one (.seq .leaf (.seq (.draw (.tk 0 0 (.tk 1 0 (.tk 2 0 (.tk 3 0 (.tk 4 0 (.tk 5 0 (.tk 6 0 (.tk 7 0 (.tk 8 0 (.tk 9 0 (.one 10 (.tk 11 1 (.tk 12 1 (.tk 13 1 (.tk 14 1 (.tk 15 1 (.tk 16 1 (.tk 17 1 (.tk 18 1 (.tk 19 1 (.tk 20 1 (.tk 21 1 (.tk 22 1 (.tk 23 1 (.tk 24 1 (.tk 25 1 (.tk 26 1 (.one 27 (.tk 28 2 (.tk 29 2 (.tk 30 2 .nil)))))))))))))))))))))))))))))))) (.cond (.seq .leaf .leaf) .leaf)))) .leaf)))))) (.seq .leaf .leaf)))) { get := argEnv [x0, x1, x2], ds := [] } (retQ Try.prog Try.f47.results.toList R) w = c47 x0 x1 x2 w R := by kernel_rfl
theorem e47 {x0 x1 x2 : Value} {w : World} {R : Value → World → Prop} (h : c47 x0 x1 x2 w R) : Ret Try.prog 47 #[x0, x1, x2] w R :=
  ret_of_vc mixed Try.call47 Try.func47 rfl (by kernel_rfl) (by kernel_rfl) ((v47 x0 x1 x2 w R).mpr h)
def c92 (x0 x1 : Value) (w : World) (R : Value → World → Prop) : Prop :=
  val Try.prog (Instr.box 29 x0) w fun x2 w => 
  val Try.prog (Instr.box 29 x1) w fun x3 w => 
  val Try.prog (Instr.fieldAt 29 x2 0) w fun x5 w => 
  val Try.prog (ld1 5 x5) w fun x6 w => 
  val Try.prog (Instr.fieldAt 29 x3 0) w fun x7 w => 
  val Try.prog (ld1 5 x7) w fun x8 w => 
  val Try.prog (bin .eql 5 false x6 x8) w fun x9 w => 
  gd x9 true (
  val Try.prog (Instr.fieldAt 29 x2 1) w fun x11 w => 
  val Try.prog (ld1 24 x11) w fun x12 w => 
  val Try.prog (convert 24 9 x12) w fun x13 w => 
  val Try.prog (Instr.fieldAt 29 x3 1) w fun x14 w => 
  val Try.prog (ld1 24 x14) w fun x15 w => 
  val Try.prog (convert 24 9 x15) w fun x16 w => 
  val Try.prog (bin .eql 9 false x13 x16) w fun x17 w => 
  R x17 w) (
  R (Value.bool false) w)
theorem v92 (x0 x1 : Value) (w : World) (R : Value → World → Prop) : vc Try.prog true (Try.f92.body.getD .skip) (.seq .leaf (.seq .leaf .leaf)) { get := argEnv [x0, x1], ds := [] } (retQ Try.prog Try.f92.results.toList R) w = c92 x0 x1 w R := by kernel_rfl
theorem e92 {x0 x1 : Value} {w : World} {R : Value → World → Prop} (h : c92 x0 x1 w R) : Ret Try.prog 92 #[x0, x1] w R :=
  ret_of_vc mixed Try.call92 Try.func92 rfl (by kernel_rfl) (by kernel_rfl) ((v92 x0 x1 w R).mpr h)
def c6_1 (x85 x0 x79 x47 : Value) (R : Value → World → Prop) (w : World) : Prop :=
  Ret Try.prog 38 #[x85] w fun _ w => 
  Ret Try.prog 34 #[x85] w fun x133 w => 
  val Try.prog (Instr.extract x133 0) w fun _ w => 
  val Try.prog (Instr.extract x133 1) w fun x135 w => 
  val Try.prog (Instr.extract x133 2) w fun x136 w => 
  val Try.prog (bin .eql 36 true x136 (Value.int .i64 0)) w fun x138 w => 
  gd x138 true (
  Ret Try.prog 39 #[x135, x0] w fun x142 w => 
  gd x142 true (
  Ret Try.prog 40 #[x79] w fun x146 w => 
  Ret Try.prog 40 #[x47] w fun x148 w => 
  val Try.prog (bin .add 42 true x148 (Value.int .u64 1)) w fun x149 w => 
  val Try.prog (bin .eql 42 false x146 x149) w fun x150 w => 
  R x150 w) (
  R (Value.bool false) w)) (
  R (Value.bool false) w)
def c6_2 (x90 x88 x75 x42 x2 x85 x0 x79 x47 : Value) (next_1 : Car 1) (R : Value → World → Prop) (w : World) : Prop :=
  val Try.prog (bin .lss 3 false x90 x88) w fun x91 w => 
  gd x91 true (
  val Try.prog (bin .add 3 false x88 x90) w fun x97 w => 
  Ret Try.prog 36 #[x75, x97, (Value.int .i64 1)] w fun x98 w => 
  val Try.prog (Instr.extract x98 0) w fun x99 w => 
  val Try.prog (Instr.extract x98 1) w fun _ w => 
  val Try.prog (bin .add 3 false x88 x90) w fun x105 w => 
  Ret Try.prog 36 #[x42, x105, (Value.int .i64 1)] w fun x106 w => 
  val Try.prog (Instr.extract x106 0) w fun x107 w => 
  val Try.prog (Instr.extract x106 1) w fun _ w => 
  val Try.prog (convert 24 9 x99) w fun x110 w => 
  val Try.prog (convert 24 9 x107) w fun x112 w => 
  val Try.prog (bin .neq 9 false x110 x112) w fun x113 w => 
  gd x113 true (
  val Try.prog (bin .rem 3 true x90 (Value.int .i64 64)) w fun x117 w => 
  val Try.prog (bin .shr 42 false x2 x117) w fun x118 w => 
  val Try.prog (bin .and 42 true x118 (Value.int .u64 1)) w fun x119 w => 
  val Try.prog (bin .eql 42 true x119 (Value.int .u64 1)) w fun x120 w => 
  gd x120 true (
  val Try.prog (bin .add 3 false x88 x90) w fun x125 w => 
  Ret Try.prog 37 #[x85, x125, x99] w fun _ w => 
  val Try.prog (bin .add 3 true x90 (Value.int .i64 1)) w fun x128 w => 
  next_1 x128 w) (
  val Try.prog (bin .add 3 true x90 (Value.int .i64 1)) w fun x128_1 w => 
  next_1 x128_1 w)) (
  val Try.prog (bin .add 3 true x90 (Value.int .i64 1)) w fun x128_2 w => 
  next_1 x128_2 w)) (
  c6_1 x85 x0 x79 x47 R w)
def c6_3 (x47 x42 x2 x0 : Value) (R : Value → World → Prop) (w : World) : Prop :=
  Ret Try.prog 32 #[x47] w fun x72 w => 
  val Try.prog (bin .neq 36 true x72 (Value.int .i64 0)) w fun x73 w => 
  gd x73 true (
  R (Value.bool false) w) (
  Ret Try.prog 33 #[x42] w fun x75 w => 
  Ret Try.prog 34 #[x75] w fun x78 w => 
  val Try.prog (Instr.extract x78 0) w fun x79 w => 
  val Try.prog (Instr.extract x78 1) w fun _ w => 
  val Try.prog (Instr.extract x78 2) w fun x81 w => 
  val Try.prog (bin .neq 36 true x81 (Value.int .i64 0)) w fun x83 w => 
  gd x83 true (
  R (Value.bool false) w) (
  Ret Try.prog 33 #[x42] w fun x85 w => 
  Ret Try.prog 35 #[x42] w fun x87 w => 
  val Try.prog (bin .quo 3 true x87 (Value.int .i64 2)) w fun x88 w => 
  loopK 1 [(Value.int .i64 0)] w fun next_1 => fun (x90 : Value) (w : World) => 
  c6_2 x90 x88 x75 x42 x2 x85 x0 x79 x47 next_1 R w))
def c6_4 (x51 x50 x0 x47 x42 x2 : Value) (R : Value → World → Prop) (next : Car 1) (w : World) : Prop :=
  val Try.prog (bin .lss 3 false x51 x50) w fun x52 w => 
  gd x52 true (
  val Try.prog (Instr.indexAt 23 x0 x51) w fun x53 w => 
  val Try.prog (ldS 29 x53) w fun x54 w => 
  val Try.prog (Instr.alloc 29 true (.tuple #[])) w fun x12 w => 
  unt Try.prog (stS 29 x12 x54) w fun w => 
  val Try.prog (Instr.fieldAt 29 x12 1) w fun x55 w => 
  val Try.prog (ld1 24 x55) w fun x56 w => 
  val Try.prog (Builtin.len_ #[24] 3 #[x56]) w fun x57 w => 
  val Try.prog (bin .gtr 3 true x57 (Value.int .i64 60)) w fun x58 w => 
  gd x58 false (
  val Try.prog (Instr.fieldAt 29 x12 0) w fun x60 w => 
  val Try.prog (ld1 5 x60) w fun x61 w => 
  val Try.prog (bin .eql 5 true x61 (Value.int .u8 255)) w fun x62 w => 
  gd x62 false (
  val Try.prog (ldS 29 x12) w fun x66 w => 
  Ret Try.prog 31 #[x47, x66] w fun x67 w => 
  val Try.prog (bin .neq 36 true x67 (Value.int .i64 0)) w fun x68 w => 
  gd x68 true (
  R (Value.bool true) w) (
  val Try.prog (bin .add 3 true x51 (Value.int .i64 1)) w fun x70 w => 
  next x70 w)) (
  R (Value.bool true) w)) (
  R (Value.bool true) w)) (
  c6_3 x47 x42 x2 x0 R w)
def c6 (x0 x1 x2 : Value) (w : World) (R : Value → World → Prop) : Prop :=
  Ret Try.prog 28 #[] w fun x27 w => 
  val Try.prog (Op.unary .not x27) w fun x28 w => 
  gd x28 false (
  val Try.prog (Builtin.len_ #[23] 3 #[x0]) w fun x31 w => 
  val Try.prog (bin .gtr 3 true x31 (Value.int .i64 20)) w fun x32 w => 
  gd x32 false (
  val Try.prog (Builtin.len_ #[23] 3 #[x1]) w fun x36 w => 
  val Try.prog (bin .gtr 3 true x36 (Value.int .i64 20)) w fun x37 w => 
  gd x37 true (
  Ret Try.prog 28 #[] w fun x39 w => 
  R x39 w) (
  Ret Try.prog 29 #[(Value.int .i64 200)] w fun x41 w => 
  val Try.prog (Instr.extract x41 0) w fun x42 w => 
  val Try.prog (Instr.extract x41 1) w fun _ w => 
  Ret Try.prog 30 #[x42] w fun x46 w => 
  val Try.prog (Instr.extract x46 0) w fun x47 w => 
  val Try.prog (Instr.extract x46 1) w fun _ w => 
  val Try.prog (Builtin.len_ #[23] 3 #[x0]) w fun x50 w => 
  loopK 1 [(Value.int .i64 0)] w fun next => fun (x51 : Value) (w : World) => 
  c6_4 x51 x50 x0 x47 x42 x2 R next w)) (
  Ret Try.prog 28 #[] w fun x39_1 w => 
  R x39_1 w)) (
  Ret Try.prog 28 #[] w fun x39_2 w => 
  R x39_2 w)
theorem v6 (x0 x1 x2 : Value) (w : World) (R : Value → World → Prop) : vc Try.prog true (Try.f6.body.getD .skip) (.seq .leaf (.seq (.seq .leaf (.cond (.seq .leaf .leaf) .leaf)) (.seq .leaf (.seq .leaf (.seq (.seq .leaf (.one (.loop [51] (.seq .leaf (.seq (.cond .leaf .leaf) (.seq (.one (.seq .leaf (.seq .leaf (.cond (.seq .leaf .leaf) .leaf)))) .leaf)))))) (.seq (.seq .leaf (.cond (.seq .leaf .leaf) .leaf)) (.seq .leaf (.seq .leaf (.seq (.seq .leaf (.cond (.seq .leaf .leaf) .leaf)) (.seq .leaf (.seq .leaf (.seq (.seq .leaf (.one (.loop [90] (.seq .leaf (.seq (.cond .leaf .leaf) (.seq (.one (.seq .leaf (.seq .leaf (.seq .leaf (.seq .leaf (.cond .leaf .leaf)))))) .leaf)))))) (.seq .leaf (.seq .leaf (.seq .leaf .leaf))))))))))))))) { get := argEnv [x0, x1, x2], ds := [] } (retQ Try.prog Try.f6.results.toList R) w = c6 x0 x1 x2 w R := by kernel_rfl
theorem e6 {x0 x1 x2 : Value} {w : World} {R : Value → World → Prop} (h : c6 x0 x1 x2 w R) : Ret Try.prog 6 #[x0, x1, x2] w R :=
  ret_of_vc mixed Try.call6 Try.func6 rfl (by kernel_rfl) (by kernel_rfl) ((v6 x0 x1 x2 w R).mpr h)
def c7_1 (x11 x32 x27 x12 x37 : Value) (R : Value → World → Prop) (w : World) : Prop :=
  val Try.prog (ldS 29 x11) w fun x66 w => 
  Ret Try.prog 31 #[x32, x66] w fun x67 w => 
  val Try.prog (bin .neq 36 true x67 (Value.int .i64 6)) w fun x68 w => 
  gd x68 false (
  Ret Try.prog 32 #[x32] w fun x71 w => 
  val Try.prog (bin .neq 36 true x71 (Value.int .i64 0)) w fun x72 w => 
  gd x72 true (
  R (Value.bool false) w) (
  Ret Try.prog 33 #[x27] w fun x76 w => 
  Ret Try.prog 34 #[x76] w fun x77 w => 
  val Try.prog (Instr.extract x77 0) w fun _ w => 
  val Try.prog (Instr.extract x77 1) w fun x79 w => 
  val Try.prog (Instr.extract x77 2) w fun x80 w => 
  val Try.prog (bin .neq 36 true x80 (Value.int .i64 0)) w fun x82 w => 
  gd x82 false (
  val Try.prog (Builtin.len_ #[23] 3 #[x79]) w fun x85 w => 
  val Try.prog (bin .neq 3 false x85 x12) w fun x87 w => 
  gd x87 true (
  R (Value.bool false) w) (
  Ret Try.prog 43 #[x32, (Value.slice none 0 0)] w fun x90 w => 
  val Try.prog (bin .eql 36 true x90 (Value.int .i64 0)) w fun x92 w => 
  gd x92 true (
  Ret Try.prog 41 #[x32] w fun x95 w => 
  val Try.prog (bin .eql 3 false x95 x37) w fun x97 w => 
  gd x97 true (
  val Try.prog (Instr.makeSlice 24 (Value.int .i64 1025) (Value.int .i64 1025)) w fun x101 w => 
  val Try.prog (Instr.build 29 #[(0, (Value.int .u8 3)), (1, x101)]) w fun x102 w => 
  Ret Try.prog 31 #[x32, x102] w fun x103 w => 
  val Try.prog (bin .eql 36 true x103 (Value.int .i64 15)) w fun x104 w => 
  R x104 w) (
  R (Value.bool false) w)) (
  R (Value.bool false) w))) (
  R (Value.bool false) w))) (
  R (Value.bool false) w)
def c7_2 (x11 x32 x12 x27 x37 : Value) (R : Value → World → Prop) (next : Car 1) (w : World) : Prop :=
  drw w fun T w => 
  tk Try.prog T 1 (ldS 29 x11) fun x45 => 
  Ret Try.prog 41 #[x32] w fun x44 w => 
  ph T 1 w (Ret Try.prog 42 #[x45] w fun x46 w => 
  ph T 2 w (pu Try.prog (bin .geq 3 false x44 x46) fun x47 => 
  gd x47 true (
  Ret Try.prog 41 #[x32] w fun x49 w => 
  drw w fun T w => 
  tk Try.prog T 0 (ldS 29 x11) fun x51 => 
  Ret Try.prog 31 #[x32, x51] w fun x52 w => 
  ph T 1 w (pu Try.prog (bin .neq 36 true x52 (Value.int .i64 0)) fun x53 => 
  gd x53 false (
  tk Try.prog T 2 (ldS 29 x11) fun x58 => 
  Ret Try.prog 41 #[x32] w fun x56 w => 
  ph T 2 w (Ret Try.prog 42 #[x58] w fun x59 w => 
  ph T 3 w (pu Try.prog (bin .sub 3 false x49 x59) fun x60 => 
  pu Try.prog (bin .neq 3 false x56 x60) fun x61 => 
  gd x61 true (
  R (Value.bool false) w) (
  val Try.prog (bin .add 3 true x12 (Value.int .i64 1)) w fun x64 w => 
  next x64 w)))) (
  ph T 2 w (ph T 3 w (R (Value.bool false) w))))) (
  c7_1 x11 x32 x27 x12 x37 R w)))
def c7 (x0 x1 : Value) (w : World) (R : Value → World → Prop) : Prop :=
  Ret Try.prog 28 #[] w fun x18 w => 
  val Try.prog (Op.unary .not x18) w fun x19 w => 
  gd x19 true (
  R (Value.bool false) w) (
  val Try.prog (bin .rem 5 true x0 (Value.int .u8 61)) w fun x21 w => 
  val Try.prog (convert 5 3 x21) w fun x22 w => 
  val Try.prog (bin .add 3 true (Value.int .i64 4) x22) w fun x23 w => 
  Ret Try.prog 29 #[x23] w fun x26 w => 
  val Try.prog (Instr.extract x26 0) w fun x27 w => 
  val Try.prog (Instr.extract x26 1) w fun _ w => 
  Ret Try.prog 30 #[x27] w fun x31 w => 
  val Try.prog (Instr.extract x31 0) w fun x32 w => 
  val Try.prog (Instr.extract x31 1) w fun x33 w => 
  val Try.prog (bin .neq 36 true x33 (Value.int .i64 0)) w fun x35 w => 
  gd x35 true (
  R (Value.bool false) w) (
  Ret Try.prog 41 #[x32] w fun x37 w => 
  val Try.prog (convert 5 3 x1) w fun x39 w => 
  val Try.prog (bin .rem 3 true x39 (Value.int .i64 100)) w fun x40 w => 
  val Try.prog (Instr.makeSlice 24 x40 x40) w fun x41 w => 
  val Try.prog (Instr.build 29 #[(0, (Value.int .u8 3)), (1, x41)]) w fun x42 w => 
  val Try.prog (Instr.alloc 29 true (.tuple #[])) w fun x11 w => 
  unt Try.prog (stS 29 x11 x42) w fun w => 
  loopK 1 [(Value.int .i64 0)] w fun next => fun (x12 : Value) (w : World) => 
  c7_2 x11 x32 x12 x27 x37 R next w))
theorem v7 (x0 x1 : Value) (w : World) (R : Value → World → Prop) : vc Try.prog true (Try.f7.body.getD .skip) (.seq .leaf (.seq (.seq .leaf (.cond (.seq .leaf .leaf) .leaf)) (.seq .leaf (.seq .leaf (.seq .leaf (.seq (.seq .leaf (.cond (.seq .leaf .leaf) .leaf)) (.seq .leaf (.seq .leaf (.seq .leaf (.seq (.one (.loop [12] (.seq (.seq (.draw (.tk 0 0 (.tk 2 1 (.one 1 (.one 3 (.tk 4 2 .nil)))))) (.cond .leaf .leaf)) (.one (.seq .leaf (.seq (.seq (.draw (.tk 0 0 (.tk 1 0 (.one 2 (.tk 3 1 (.tk 4 1 (.tk 5 1 (.tk 7 3 (.tk 8 2 (.one 6 (.one 9 (.tk 10 3 (.tk 11 3 (.tk 12 3 .nil)))))))))))))) (.cond (.seq .leaf .leaf) .leaf)) .leaf)))))) (.seq (.seq .leaf (.cond (.seq .leaf .leaf) .leaf)) (.seq .leaf (.seq (.seq .leaf (.cond (.seq .leaf .leaf) .leaf)) (.seq .leaf (.seq .leaf .leaf))))))))))))))) { get := argEnv [x0, x1], ds := [] } (retQ Try.prog Try.f7.results.toList R) w = c7 x0 x1 w R := by kernel_rfl
theorem e7 {x0 x1 : Value} {w : World} {R : Value → World → Prop} (h : c7 x0 x1 w R) : Ret Try.prog 7 #[x0, x1] w R :=
  ret_of_vc mixed Try.call7 Try.func7 rfl (by kernel_rfl) (by kernel_rfl) ((v7 x0 x1 w R).mpr h)
def c8 (x0 : Value) (w : World) (R : Value → World → Prop) : Prop :=
  Ret Try.prog 28 #[] w fun x21 w => 
  val Try.prog (Op.unary .not x21) w fun x22 w => 
  gd x22 true (
  R (Value.bool false) w) (
  val Try.prog (convert 3 81 x0) w fun x24 w => 
  val Try.prog (bin .rem 81 true x24 (Value.int .u64 10)) w fun x25 w => 
  val Try.prog (convert 81 3 x25) w fun x26 w => 
  Ret Try.prog 29 #[x26] w fun x29 w => 
  val Try.prog (Instr.extract x29 0) w fun x30 w => 
  val Try.prog (Instr.extract x29 1) w fun _ w => 
  Ret Try.prog 30 #[x30] w fun x34 w => 
  val Try.prog (Instr.extract x34 0) w fun _ w => 
  val Try.prog (Instr.extract x34 1) w fun x36 w => 
  Ret Try.prog 34 #[x30] w fun x39 w => 
  val Try.prog (Instr.extract x39 0) w fun _ w => 
  val Try.prog (Instr.extract x39 1) w fun _ w => 
  val Try.prog (Instr.extract x39 2) w fun x42 w => 
  Ret Try.prog 30 #[(Value.pointer none)] w fun x44 w => 
  val Try.prog (Instr.extract x44 0) w fun _ w => 
  val Try.prog (Instr.extract x44 1) w fun x46 w => 
  val Try.prog (Instr.build 29 #[]) w fun x48 w => 
  Ret Try.prog 31 #[(Value.pointer none), x48] w fun x49 w => 
  val Try.prog (bin .neq 36 true x49 (Value.int .i64 1)) w fun x50 w => 
  gd x50 false (
  Ret Try.prog 32 #[(Value.pointer none)] w fun x53 w => 
  val Try.prog (bin .neq 36 true x53 (Value.int .i64 1)) w fun x54 w => 
  gd x54 false (
  Ret Try.prog 43 #[(Value.pointer none), (Value.slice none 0 0)] w fun x58 w => 
  val Try.prog (bin .neq 36 true x58 (Value.int .i64 1)) w fun x59 w => 
  gd x59 false (
  Ret Try.prog 41 #[(Value.pointer none)] w fun x63 w => 
  val Try.prog (bin .neq 3 true x63 (Value.int .i64 0)) w fun x64 w => 
  gd x64 false (
  Ret Try.prog 40 #[(Value.pointer none)] w fun x68 w => 
  val Try.prog (bin .neq 42 true x68 (Value.int .u64 0)) w fun x69 w => 
  gd x69 false (
  val Try.prog (bin .neq 36 true x46 (Value.int .i64 1)) w fun x73 w => 
  gd x73 true (
  R (Value.bool false) w) (
  val Try.prog (bin .lss 3 true x26 (Value.int .i64 4)) w fun x76 w => 
  gd x76 true (
  val Try.prog (bin .eql 36 true x36 (Value.int .i64 1)) w fun x78 w => 
  gd x78 true (
  val Try.prog (bin .eql 36 true x42 (Value.int .i64 1)) w fun x81 w => 
  R x81 w) (
  R (Value.bool false) w)) (
  Ret Try.prog 29 #[x26] w fun x85 w => 
  val Try.prog (Instr.extract x85 0) w fun x86 w => 
  val Try.prog (Instr.extract x85 1) w fun _ w => 
  Ret Try.prog 34 #[x86] w fun x90 w => 
  val Try.prog (Instr.extract x90 0) w fun _ w => 
  val Try.prog (Instr.extract x90 1) w fun _ w => 
  val Try.prog (Instr.extract x90 2) w fun x93 w => 
  Ret Try.prog 44 #[x86, Value.nilFunc] w fun _ w => 
  Ret Try.prog 30 #[x86] w fun x98 w => 
  val Try.prog (Instr.extract x98 0) w fun _ w => 
  val Try.prog (Instr.extract x98 1) w fun x100 w => 
  val Try.prog (bin .eql 36 true x36 (Value.int .i64 0)) w fun x102 w => 
  gd x102 true (
  val Try.prog (bin .eql 36 true x42 (Value.int .i64 0)) w fun x105 w => 
  gd x105 true (
  val Try.prog (bin .eql 36 true x93 (Value.int .i64 7)) w fun x109 w => 
  gd x109 true (
  val Try.prog (bin .eql 36 true x100 (Value.int .i64 19)) w fun x113 w => 
  R x113 w) (
  R (Value.bool false) w)) (
  R (Value.bool false) w)) (
  R (Value.bool false) w)))) (
  R (Value.bool false) w)) (
  R (Value.bool false) w)) (
  R (Value.bool false) w)) (
  R (Value.bool false) w)) (
  R (Value.bool false) w))
theorem v8 (x0 : Value) (w : World) (R : Value → World → Prop) : vc Try.prog true (Try.f8.body.getD .skip) (.seq .leaf (.seq (.seq .leaf (.cond (.seq .leaf .leaf) .leaf)) (.seq .leaf (.seq .leaf (.seq .leaf (.seq .leaf (.seq .leaf (.seq .leaf (.seq (.seq .leaf (.cond (.seq .leaf .leaf) .leaf)) (.seq (.seq .leaf (.cond (.seq .leaf .leaf) .leaf)) (.seq .leaf (.seq .leaf (.seq .leaf (.seq .leaf (.seq .leaf .leaf))))))))))))))) { get := argEnv [x0], ds := [] } (retQ Try.prog Try.f8.results.toList R) w = c8 x0 w R := by kernel_rfl
theorem e8 {x0 : Value} {w : World} {R : Value → World → Prop} (h : c8 x0 w R) : Ret Try.prog 8 #[x0] w R :=
  ret_of_vc mixed Try.call8 Try.func8 rfl (by kernel_rfl) (by kernel_rfl) ((v8 x0 w R).mpr h)
def c9_1 (x7 x0 : Value) (R : Value → World → Prop) (w : World) : Prop :=
  Ret Try.prog 40 #[x7] w fun x90 w => 
  Ret Try.prog 43 #[x7, x0] w fun x93 w => 
  val Try.prog (bin .eql 36 true x93 (Value.int .i64 0)) w fun x94 w => 
  gd x94 true (
  Ret Try.prog 40 #[x7] w fun x97 w => 
  val Try.prog (bin .add 42 true x90 (Value.int .u64 1)) w fun x99 w => 
  val Try.prog (bin .eql 42 false x97 x99) w fun x100 w => 
  R x100 w) (
  R (Value.bool false) w)
def c9_2 (x62 x61 x26 x0 x7 : Value) (R : Value → World → Prop) (next_1 : Car 2) (w : World) : Prop :=
  val Try.prog (bin .lss 3 false x62 x61) w fun x63 w => 
  gd x63 true (
  Ret Try.prog 34 #[x26] w fun x67 w => 
  val Try.prog (Instr.extract x67 0) w fun x68 w => 
  val Try.prog (Instr.extract x67 1) w fun x69 w => 
  val Try.prog (Instr.extract x67 2) w fun x70 w => 
  val Try.prog (bin .neq 36 true x70 (Value.int .i64 0)) w fun x72 w => 
  gd x72 false (
  Ret Try.prog 39 #[x69, x0] w fun x76 w => 
  val Try.prog (Op.unary .not x76) w fun x77 w => 
  gd x77 false (
  Ret Try.prog 40 #[x68] w fun x81 w => 
  val Try.prog (bin .add 3 true x62 (Value.int .i64 2)) w fun x83 w => 
  val Try.prog (convert 3 42 x83) w fun x84 w => 
  val Try.prog (bin .neq 42 false x81 x84) w fun x85 w => 
  gd x85 true (
  R (Value.bool false) w) (
  val Try.prog (bin .add 3 true x62 (Value.int .i64 1)) w fun x88 w => 
  next_1 x68 x88 w)) (
  R (Value.bool false) w)) (
  R (Value.bool false) w)) (
  c9_1 x7 x0 R w)
def c9_3 (x31 x1 x26 x0 : Value) (R : Value → World → Prop) (w : World) : Prop :=
  Ret Try.prog 32 #[x31] w fun x56 w => 
  val Try.prog (bin .neq 36 true x56 (Value.int .i64 0)) w fun x57 w => 
  gd x57 true (
  R (Value.bool false) w) (
  val Try.prog (bin .rem 5 true x1 (Value.int .u8 9)) w fun x59 w => 
  val Try.prog (convert 5 3 x59) w fun x60 w => 
  val Try.prog (bin .add 3 true (Value.int .i64 1) x60) w fun x61 w => 
  loopK 2 [x31, (Value.int .i64 0)] w fun next_1 => fun (x7 x62 : Value) (w : World) => 
  c9_2 x62 x61 x26 x0 x7 R next_1 w)
def c9_4 (x35 x34 x0 x31 x1 x26 : Value) (R : Value → World → Prop) (next : Car 1) (w : World) : Prop :=
  val Try.prog (bin .lss 3 false x35 x34) w fun x36 w => 
  gd x36 true (
  val Try.prog (Instr.indexAt 23 x0 x35) w fun x37 w => 
  val Try.prog (ldS 29 x37) w fun x38 w => 
  val Try.prog (Instr.alloc 29 true (.tuple #[])) w fun x10 w => 
  unt Try.prog (stS 29 x10 x38) w fun w => 
  val Try.prog (Instr.fieldAt 29 x10 1) w fun x39 w => 
  val Try.prog (ld1 24 x39) w fun x40 w => 
  val Try.prog (Builtin.len_ #[24] 3 #[x40]) w fun x41 w => 
  val Try.prog (bin .gtr 3 true x41 (Value.int .i64 60)) w fun x42 w => 
  gd x42 false (
  val Try.prog (Instr.fieldAt 29 x10 0) w fun x44 w => 
  val Try.prog (ld1 5 x44) w fun x45 w => 
  val Try.prog (bin .eql 5 true x45 (Value.int .u8 255)) w fun x46 w => 
  gd x46 false (
  val Try.prog (ldS 29 x10) w fun x50 w => 
  Ret Try.prog 31 #[x31, x50] w fun x51 w => 
  val Try.prog (bin .neq 36 true x51 (Value.int .i64 0)) w fun x52 w => 
  gd x52 true (
  R (Value.bool true) w) (
  val Try.prog (bin .add 3 true x35 (Value.int .i64 1)) w fun x54 w => 
  next x54 w)) (
  R (Value.bool true) w)) (
  R (Value.bool true) w)) (
  c9_3 x31 x1 x26 x0 R w)
def c9 (x0 x1 : Value) (w : World) (R : Value → World → Prop) : Prop :=
  Ret Try.prog 28 #[] w fun x16 w => 
  val Try.prog (Op.unary .not x16) w fun x17 w => 
  gd x17 false (
  val Try.prog (Builtin.len_ #[23] 3 #[x0]) w fun x20 w => 
  val Try.prog (bin .gtr 3 true x20 (Value.int .i64 20)) w fun x21 w => 
  gd x21 true (
  Ret Try.prog 28 #[] w fun x23 w => 
  R x23 w) (
  Ret Try.prog 29 #[(Value.int .i64 200)] w fun x25 w => 
  val Try.prog (Instr.extract x25 0) w fun x26 w => 
  val Try.prog (Instr.extract x25 1) w fun _ w => 
  Ret Try.prog 30 #[x26] w fun x30 w => 
  val Try.prog (Instr.extract x30 0) w fun x31 w => 
  val Try.prog (Instr.extract x30 1) w fun _ w => 
  val Try.prog (Builtin.len_ #[23] 3 #[x0]) w fun x34 w => 
  loopK 1 [(Value.int .i64 0)] w fun next => fun (x35 : Value) (w : World) => 
  c9_4 x35 x34 x0 x31 x1 x26 R next w)) (
  Ret Try.prog 28 #[] w fun x23_1 w => 
  R x23_1 w)
theorem v9 (x0 x1 : Value) (w : World) (R : Value → World → Prop) : vc Try.prog true (Try.f9.body.getD .skip) (.seq .leaf (.seq (.seq .leaf (.cond (.seq .leaf .leaf) .leaf)) (.seq .leaf (.seq .leaf (.seq (.seq .leaf (.one (.loop [35] (.seq .leaf (.seq (.cond .leaf .leaf) (.seq (.one (.seq .leaf (.seq .leaf (.cond (.seq .leaf .leaf) .leaf)))) .leaf)))))) (.seq (.seq .leaf (.cond (.seq .leaf .leaf) .leaf)) (.seq (.seq .leaf (.one (.loop [7, 62] (.seq .leaf (.seq (.cond .leaf .leaf) (.seq (.one (.seq .leaf (.seq .leaf (.seq (.seq .leaf (.cond (.seq .leaf .leaf) .leaf)) .leaf)))) .leaf)))))) (.seq .leaf (.seq .leaf .leaf))))))))) { get := argEnv [x0, x1], ds := [] } (retQ Try.prog Try.f9.results.toList R) w = c9 x0 x1 w R := by kernel_rfl
theorem e9 {x0 x1 : Value} {w : World} {R : Value → World → Prop} (h : c9 x0 x1 w R) : Ret Try.prog 9 #[x0, x1] w R :=
  ret_of_vc mixed Try.call9 Try.func9 rfl (by kernel_rfl) (by kernel_rfl) ((v9 x0 x1 w R).mpr h)
def c10_1 (x35 x7 x8 x46 : Value) (R : Value → World → Prop) (next : Car 4) (w : World) : Prop :=
  Ret Try.prog 34 #[x35] w fun x86 w => 
  val Try.prog (Instr.extract x86 0) w fun x87 w => 
  val Try.prog (Instr.extract x86 1) w fun x88 w => 
  val Try.prog (Instr.extract x86 2) w fun x89 w => 
  val Try.prog (bin .neq 36 true x89 (Value.int .i64 0)) w fun x91 w => 
  gd x91 false (
  Ret Try.prog 47 #[x88, x7, x8] w fun x96 w => 
  val Try.prog (Op.unary .not x96) w fun x97 w => 
  gd x97 true (
  R (Value.bool false) w) (
  Ret Try.prog 33 #[x35] w fun x101 w => 
  Ret Try.prog 34 #[x101] w fun x102 w => 
  val Try.prog (Instr.extract x102 0) w fun _ w => 
  val Try.prog (Instr.extract x102 1) w fun x104 w => 
  val Try.prog (Instr.extract x102 2) w fun x105 w => 
  val Try.prog (bin .neq 36 true x105 (Value.int .i64 0)) w fun x107 w => 
  gd x107 false (
  Ret Try.prog 39 #[x104, x88] w fun x111 w => 
  val Try.prog (Op.unary .not x111) w fun x112 w => 
  gd x112 true (
  R (Value.bool false) w) (
  val Try.prog (bin .add 3 true x46 (Value.int .i64 1)) w fun x195_6 w => 
  next x87 x88 (Value.slice none 0 0) x195_6 w)) (
  R (Value.bool false) w))) (
  R (Value.bool false) w)
def c10_2 (x116 x10 x5 x46 x7 x8 x56 x35 : Value) (R : Value → World → Prop) (next : Car 4) (w : World) : Prop :=
  gd x116 true (
  val Try.prog (Instr.fieldAt 87 x10 2) w fun x121 w => 
  val Try.prog (ldS 29 x121) w fun x122 w => 
  Ret Try.prog 31 #[x5, x122] w fun x123 w => 
  val Try.prog (Instr.fieldAt 87 x10 2) w fun x125 w => 
  val Try.prog (Instr.fieldAt 29 x125 0) w fun x126 w => 
  val Try.prog (ld1 5 x126) w fun x127 w => 
  val Try.prog (bin .eql 5 true x127 (Value.int .u8 255)) w fun x128 w => 
  gd x128 true (
  val Try.prog (bin .neq 36 true x123 (Value.int .i64 1)) w fun x130 w => 
  gd x130 true (
  R (Value.bool false) w) (
  val Try.prog (bin .add 3 true x46 (Value.int .i64 1)) w fun x195 w => 
  next x5 x7 x8 x195 w)) (
  val Try.prog (bin .eql 36 true x123 (Value.int .i64 0)) w fun x133 w => 
  gd x133 true (
  val Try.prog (Instr.fieldAt 87 x10 2) w fun x135 w => 
  val Try.prog (ldS 29 x135) w fun x136 w => 
  val Try.prog (Instr.buildSlice 23 1 #[(0, x136)]) w fun x137 w => 
  val Try.prog (Builtin.append_ #[23, 23] 23 #[x8, x137]) w fun x138 w => 
  val Try.prog (bin .add 3 true x46 (Value.int .i64 1)) w fun x195_1 w => 
  next x5 x7 x138 x195_1 w) (
  val Try.prog (bin .neq 36 true x123 (Value.int .i64 6)) w fun x141 w => 
  gd x141 true (
  R (Value.bool false) w) (
  val Try.prog (bin .add 3 true x46 (Value.int .i64 1)) w fun x195_2 w => 
  next x5 x7 x8 x195_2 w)))) (
  val Try.prog (bin .eql 3 true x56 (Value.int .i64 3)) w fun x143 w => 
  gd x143 true (
  Ret Try.prog 32 #[x5] w fun x145 w => 
  val Try.prog (bin .neq 36 true x145 (Value.int .i64 0)) w fun x146 w => 
  gd x146 true (
  R (Value.bool false) w) (
  val Try.prog (Builtin.len_ #[23] 3 #[x7]) w fun x149 w => 
  val Try.prog (Builtin.len_ #[23] 3 #[x7]) w fun x151 w => 
  val Try.prog (Instr.sliceAt 23 x7 none (some x149) (some x151)) w fun x152 w => 
  val Try.prog (Builtin.append_ #[23, 23] 23 #[x152, x8]) w fun x154 w => 
  val Try.prog (bin .add 3 true x46 (Value.int .i64 1)) w fun x195_3 w => 
  next x5 x154 (Value.slice none 0 0) x195_3 w)) (
  val Try.prog (bin .eql 3 true x56 (Value.int .i64 4)) w fun x156 w => 
  gd x156 true (
  val Try.prog (Builtin.len_ #[23] 3 #[x7]) w fun x159 w => 
  val Try.prog (Builtin.len_ #[23] 3 #[x7]) w fun x161 w => 
  val Try.prog (Instr.sliceAt 23 x7 none (some x159) (some x161)) w fun x162 w => 
  val Try.prog (Builtin.append_ #[23, 23] 23 #[x162, x8]) w fun x164 w => 
  val Try.prog (Builtin.len_ #[23] 3 #[x164]) w fun x167 w => 
  val Try.prog (Builtin.len_ #[23] 3 #[x164]) w fun x169 w => 
  val Try.prog (Instr.fieldAt 87 x10 1) w fun x170 w => 
  val Try.prog (ld1 3 x170) w fun x171 w => 
  val Try.prog (convert 3 81 x171) w fun x172 w => 
  val Try.prog (bin .rem 81 true x172 (Value.int .u64 8)) w fun x173 w => 
  val Try.prog (convert 81 3 x173) w fun x174 w => 
  val Try.prog (Builtin.min_ #[3, 3] 3 #[x169, x174]) w fun x175 w => 
  val Try.prog (bin .sub 3 false x167 x175) w fun x176 w => 
  val Try.prog (Instr.sliceAt 23 x164 (some x176) none none) w fun x177 w => 
  Ret Try.prog 40 #[x5] w fun x179 w => 
  Ret Try.prog 43 #[x5, x177] w fun x182 w => 
  val Try.prog (bin .eql 36 true x182 (Value.int .i64 0)) w fun x184 w => 
  gd x184 true (
  val Try.prog (Instr.buildSlice 23 0 #[]) w fun x185 w => 
  val Try.prog (Builtin.append_ #[23, 23] 23 #[x185, x177]) w fun x187 w => 
  Ret Try.prog 40 #[x5] w fun x189 w => 
  val Try.prog (bin .add 42 true x179 (Value.int .u64 1)) w fun x191 w => 
  val Try.prog (bin .neq 42 false x189 x191) w fun x192 w => 
  gd x192 true (
  R (Value.bool false) w) (
  val Try.prog (bin .add 3 true x46 (Value.int .i64 1)) w fun x195_4 w => 
  next x5 x187 (Value.slice none 0 0) x195_4 w)) (
  val Try.prog (bin .eql 36 true x182 (Value.int .i64 6)) w fun x194 w => 
  gd x194 true (
  val Try.prog (bin .add 3 true x46 (Value.int .i64 1)) w fun x195_5 w => 
  next x5 x7 x8 x195_5 w) (
  R (Value.bool false) w))) (
  val Try.prog (Instr.fieldAt 87 x10 3) w fun x58 w => 
  val Try.prog (ld1 42 x58) w fun x59 w => 
  Ret Try.prog 45 #[x59] w fun x60 w => 
  Ret Try.prog 44 #[x35, x60] w fun _ w => 
  Ret Try.prog 46 #[x35] w fun _ w => 
  joinK 0 (fun (w : World) => 
  c10_1 x35 x7 x8 x46 R next w)
  fun j_1 => val Try.prog (Instr.fieldAt 87 x10 0) w fun x64 w => 
  val Try.prog (ld1 3 x64) w fun x65 w => 
  val Try.prog (bin .neq 3 true x65 (Value.int .i64 5)) w fun x66 w => 
  gd x66 true (
  Ret Try.prog 33 #[x35] w fun x68 w => 
  Ret Try.prog 34 #[x68] w fun x71 w => 
  val Try.prog (Instr.extract x71 0) w fun _ w => 
  val Try.prog (Instr.extract x71 1) w fun x73 w => 
  val Try.prog (Instr.extract x71 2) w fun x74 w => 
  val Try.prog (bin .neq 36 true x74 (Value.int .i64 0)) w fun x76 w => 
  gd x76 false (
  Ret Try.prog 47 #[x73, x7, x8] w fun x81 w => 
  val Try.prog (Op.unary .not x81) w fun x82 w => 
  gd x82 true (
  R (Value.bool false) w) (
  j_1 w)) (
  R (Value.bool false) w)) (
  j_1 w))))
def c10_3 (x46 x45 x0 x5 x7 x8 x35 : Value) (R : Value → World → Prop) (next : Car 4) (w : World) : Prop :=
  val Try.prog (bin .lss 3 false x46 x45) w fun x47 w => 
  gd x47 true (
  val Try.prog (Instr.indexAt 85 x0 x46) w fun x48 w => 
  val Try.prog (ldS 87 x48) w fun x49 w => 
  val Try.prog (Instr.alloc 87 true (.tuple #[])) w fun x10 w => 
  unt Try.prog (stS 87 x10 x49) w fun w => 
  val Try.prog (Instr.fieldAt 87 x10 2) w fun x50 w => 
  val Try.prog (Instr.fieldAt 29 x50 1) w fun x51 w => 
  val Try.prog (ld1 24 x51) w fun x52 w => 
  val Try.prog (Builtin.len_ #[24] 3 #[x52]) w fun x53 w => 
  val Try.prog (bin .gtr 3 true x53 (Value.int .i64 60)) w fun x54 w => 
  gd x54 true (
  R (Value.bool true) w) (
  val Try.prog (Instr.fieldAt 87 x10 0) w fun x55 w => 
  val Try.prog (ld1 3 x55) w fun x56 w => 
  joinK 1 (fun (x116 : Value) (w : World) => 
  c10_2 x116 x10 x5 x46 x7 x8 x56 x35 R next w)
  fun j => val Try.prog (bin .eql 3 true x56 (Value.int .i64 0)) w fun x117 w => 
  gd x117 true (
  j (Value.bool true) w) (
  val Try.prog (bin .eql 3 true x56 (Value.int .i64 1)) w fun x118 w => 
  gd x118 true (
  j (Value.bool true) w) (
  val Try.prog (bin .eql 3 true x56 (Value.int .i64 2)) w fun x119 w => 
  j x119 w)))) (
  R (Value.bool true) w)
def c10 (x0 : Value) (w : World) (R : Value → World → Prop) : Prop :=
  Ret Try.prog 28 #[] w fun x25 w => 
  val Try.prog (Op.unary .not x25) w fun x26 w => 
  gd x26 false (
  val Try.prog (Builtin.len_ #[85] 3 #[x0]) w fun x29 w => 
  val Try.prog (bin .gtr 3 true x29 (Value.int .i64 50)) w fun x30 w => 
  gd x30 true (
  Ret Try.prog 28 #[] w fun x32 w => 
  R x32 w) (
  Ret Try.prog 29 #[(Value.int .i64 200)] w fun x34 w => 
  val Try.prog (Instr.extract x34 0) w fun x35 w => 
  val Try.prog (Instr.extract x34 1) w fun _ w => 
  Ret Try.prog 30 #[x35] w fun x39 w => 
  val Try.prog (Instr.extract x39 0) w fun x40 w => 
  val Try.prog (Instr.extract x39 1) w fun x41 w => 
  val Try.prog (bin .neq 36 true x41 (Value.int .i64 0)) w fun x43 w => 
  gd x43 true (
  R (Value.bool false) w) (
  val Try.prog (Builtin.len_ #[85] 3 #[x0]) w fun x45 w => 
  loopK 4 [x40, (Value.slice none 0 0), (Value.slice none 0 0), (Value.int .i64 0)] w fun next => fun (x5 x7 x8 x46 : Value) (w : World) => 
  c10_3 x46 x45 x0 x5 x7 x8 x35 R next w))) (
  Ret Try.prog 28 #[] w fun x32_1 w => 
  R x32_1 w)
theorem v10 (x0 : Value) (w : World) (R : Value → World → Prop) : vc Try.prog true (Try.f10.body.getD .skip) (.seq .leaf (.seq (.seq .leaf (.cond (.seq .leaf .leaf) .leaf)) (.seq .leaf (.seq .leaf (.seq (.seq .leaf (.cond (.seq .leaf .leaf) .leaf)) (.seq .leaf (.seq (.seq .leaf (.one (.loop [5, 7, 8, 46] (.seq .leaf (.seq (.cond .leaf .leaf) (.seq (.one (.seq .leaf (.seq (.seq .leaf (.cond (.seq .leaf .leaf) .leaf)) (.seq .leaf (.one (.join [116] (.seq .leaf (.cond .leaf (.seq .leaf (.cond .leaf .leaf)))) (.cond (.seq .leaf (.one (.seq .leaf (.cond (.seq .leaf (.cond (.seq .leaf .leaf) .leaf)) (.seq .leaf (.cond .leaf (.seq .leaf (.cond (.seq .leaf .leaf) .leaf)))))))) (.seq .leaf (.cond (.seq (.seq .leaf (.cond (.seq .leaf .leaf) .leaf)) .leaf) (.seq .leaf (.cond (.seq .leaf (.seq .leaf (.seq .leaf (.seq .leaf (.one (.seq .leaf (.cond (.seq .leaf (.seq .leaf (.cond (.seq .leaf .leaf) .leaf))) (.seq .leaf (.cond .leaf (.seq .leaf .leaf)))))))))) (.seq .leaf (.seq .leaf (.join [] (.seq .leaf (.cond (.seq .leaf (.seq .leaf (.seq .leaf (.cond (.seq .leaf .leaf) .leaf)))) .leaf)) (.seq .leaf (.seq (.seq .leaf (.cond (.seq .leaf .leaf) .leaf)) (.seq .leaf (.seq (.seq .leaf (.cond (.seq .leaf .leaf) .leaf)) .leaf)))))))))))))))))) .leaf)))))) (.seq .leaf .leaf)))))))) { get := argEnv [x0], ds := [] } (retQ Try.prog Try.f10.results.toList R) w = c10 x0 w R := by kernel_rfl
theorem e10 {x0 : Value} {w : World} {R : Value → World → Prop} (h : c10 x0 w R) : Ret Try.prog 10 #[x0] w R :=
  ret_of_vc mixed Try.call10 Try.func10 rfl (by kernel_rfl) (by kernel_rfl) ((v10 x0 w R).mpr h)
end Go.Proofs.Ytchmcjimnliodaa
end
section
set_option linter.unusedSimpArgs false
set_option linter.unusedVariables false
/- Printed by wip/tools/gen.py: the conditions of functions. -/
namespace Go.Proofs.Ytchmcjimnliodaa
open Go
set_option maxRecDepth 100000
def c80 (x0 : Value) (w : World) (R : Value → World → Prop) : Prop :=
  val Try.prog (Instr.box 29 x0) w fun x1 w => 
  val Try.prog (Instr.fieldAt 29 x1 0) w fun x4 w => 
  val Try.prog (ld1 5 x4) w fun x5 w => 
  val Try.prog (bin .eql 5 true x5 (Value.int .u8 255)) w fun x6 w => 
  gd x6 true (
  R (Value.int .i64 1) w) (
  val Try.prog (Instr.fieldAt 29 x1 1) w fun x8 w => 
  val Try.prog (ld1 24 x8) w fun x9 w => 
  val Try.prog (Builtin.len_ #[24] 3 #[x9]) w fun x10 w => 
  val Try.prog (bin .gtr 3 true x10 (Value.int .i64 1024)) w fun x11 w => 
  gd x11 true (
  R (Value.int .i64 15) w) (
  R (Value.int .i64 0) w))
theorem v80 (x0 : Value) (w : World) (R : Value → World → Prop) : vc Try.prog true (Try.f80.body.getD .skip) (.seq .leaf (.seq (.one (.seq .leaf (.cond (.seq .leaf .leaf) (.seq .leaf (.cond (.seq .leaf .leaf) .leaf))))) (.seq .leaf .leaf))) { get := argEnv [x0], ds := [] } (retQ Try.prog Try.f80.results.toList R) w = c80 x0 w R := by kernel_rfl
theorem e80 {x0 : Value} {w : World} {R : Value → World → Prop} (h : c80 x0 w R) : Ret Try.prog 80 #[x0] w R :=
  ret_of_vc mixed Try.call80 Try.func80 rfl (by kernel_rfl) (by kernel_rfl) ((v80 x0 w R).mpr h)
def c120_1 (x5 x0 x3 : Value) (next : Car 2) (R : Value → World → Prop) (w : World) : Prop :=
  val Try.prog (bin .lss 3 true x5 (Value.int .i64 8)) w fun x6 w => 
  gd x6 true (
  val Try.prog (Instr.indexAt 24 x0 x5) w fun x11 w => 
  val Try.prog (ld1 5 x11) w fun x12 w => 
  val Try.prog (convert 5 42 x12) w fun x13 w => 
  val Try.prog (bin .mul 3 true (Value.int .i64 8) x5) w fun x15 w => 
  val Try.prog (bin .shl 42 false x13 x15) w fun x16 w => 
  val Try.prog (bin .or 42 false x3 x16) w fun x17 w => 
  val Try.prog (bin .add 3 true x5 (Value.int .i64 1)) w fun x18 w => 
  next x17 x18 w) (
  R x3 w)
def c120 (x0 : Value) (w : World) (R : Value → World → Prop) : Prop :=
  loopK 2 [(Value.int .u64 0), (Value.int .i64 0)] w fun next => fun (x3 x5 : Value) (w : World) => 
  c120_1 x5 x0 x3 next R w
theorem v120 (x0 : Value) (w : World) (R : Value → World → Prop) : vc Try.prog true (Try.f120.body.getD .skip) (.seq .leaf (.seq .leaf (.seq (.seq .leaf (.one (.loop [3, 5] (.seq .leaf (.seq (.cond .leaf .leaf) (.seq (.one (.seq .leaf .leaf)) .leaf)))))) (.seq .leaf .leaf)))) { get := argEnv [x0], ds := [] } (retQ Try.prog Try.f120.results.toList R) w = c120 x0 w R := by kernel_rfl
theorem e120 {x0 : Value} {w : World} {R : Value → World → Prop} (h : c120 x0 w R) : Ret Try.prog 120 #[x0] w R :=
  ret_of_vc mixed Try.call120 Try.func120 rfl (by kernel_rfl) (by kernel_rfl) ((v120 x0 w R).mpr h)
def c121_1 (x7 x0 x5 x1 : Value) (next : Car 2) (R : Value → World → Prop) (w : World) : Prop :=
  val Try.prog (bin .lss 3 true x7 (Value.int .i64 8)) w fun x8 w => 
  gd x8 true (
  val Try.prog (bin .mul 3 true (Value.int .i64 8) x7) w fun x13 w => 
  val Try.prog (bin .shr 42 false x0 x13) w fun x14 w => 
  val Try.prog (convert 42 5 x14) w fun x15 w => 
  val Try.prog (Instr.buildSlice 24 1 #[(0, x15)]) w fun x16 w => 
  val Try.prog (Builtin.append_ #[24, 24] 24 #[x5, x16]) w fun x17 w => 
  val Try.prog (bin .add 3 true x7 (Value.int .i64 1)) w fun x18 w => 
  next x17 x18 w) (
  val Try.prog (Builtin.len_ #[24] 3 #[x1]) w fun x21 w => 
  val Try.prog (convert 3 5 x21) w fun x22 w => 
  val Try.prog (Instr.buildSlice 24 1 #[(0, x22)]) w fun x23 w => 
  val Try.prog (Builtin.append_ #[24, 24] 24 #[x5, x23]) w fun x24 w => 
  val Try.prog (Builtin.append_ #[24, 24] 24 #[x24, x1]) w fun x26 w => 
  R x26 w)
def c121 (x0 x1 : Value) (w : World) (R : Value → World → Prop) : Prop :=
  loopK 2 [(Value.slice none 0 0), (Value.int .i64 0)] w fun next => fun (x5 x7 : Value) (w : World) => 
  c121_1 x7 x0 x5 x1 next R w
theorem v121 (x0 x1 : Value) (w : World) (R : Value → World → Prop) : vc Try.prog true (Try.f121.body.getD .skip) (.seq .leaf (.seq .leaf (.seq (.seq .leaf (.one (.loop [5, 7] (.seq .leaf (.seq (.cond .leaf .leaf) (.seq (.one (.seq .leaf .leaf)) .leaf)))))) (.seq .leaf .leaf)))) { get := argEnv [x0, x1], ds := [] } (retQ Try.prog Try.f121.results.toList R) w = c121 x0 x1 w R := by kernel_rfl
theorem e121 {x0 x1 : Value} {w : World} {R : Value → World → Prop} (h : c121 x0 x1 w R) : Ret Try.prog 121 #[x0, x1] w R :=
  ret_of_vc mixed Try.call121 Try.func121 rfl (by kernel_rfl) (by kernel_rfl) ((v121 x0 x1 w R).mpr h)
def c122_1 (x8 x0_1 x5 : Value) (R : Value → World → Prop) (next : Car 2) (w : World) : Prop :=
  val Try.prog (bin .gtr 42 true x8 (Value.int .u64 0)) w fun x10 w => 
  gd x10 true (
  val Try.prog (Builtin.len_ #[24] 3 #[x0_1]) w fun x13 w => 
  val Try.prog (bin .gtr 3 true x13 (Value.int .i64 0)) w fun x14 w => 
  gd x14 true (
  Ret Try.prog 120 #[x0_1] w fun x18 w => 
  val Try.prog (bin .eql 42 false x18 x8) w fun x20 w => 
  gd x20 true (
  val Try.prog (Instr.indexAt 24 x0_1 (Value.int .i64 8)) w fun x25 w => 
  val Try.prog (ld1 5 x25) w fun x26 w => 
  val Try.prog (convert 5 3 x26) w fun x27 w => 
  val Try.prog (Builtin.min_ #[3, 3] 3 #[x27, (Value.int .i64 55)]) w fun x28 w => 
  val Try.prog (bin .add 3 true (Value.int .i64 9) x28) w fun x32 w => 
  val Try.prog (Instr.sliceAt 24 x0_1 (some (Value.int .i64 9)) (some x32) none) w fun x33 w => 
  val Try.prog (Builtin.append_ #[24, 24] 24 #[x5, x33]) w fun x34 w => 
  val Try.prog (bin .lss 3 true x28 (Value.int .i64 55)) w fun x36 w => 
  gd x36 true (
  R (.tuple #[x34, x8]) w) (
  val Try.prog (Instr.sliceAt 24 x0_1 (some (Value.int .i64 64)) none none) w fun x23 w => 
  next x23 x34 w)) (
  R (.tuple #[x5, x8]) w)) (
  R (.tuple #[x5, x8]) w)) (
  R (.tuple #[x5, x8]) w)
def c122 (x0 : Value) (w : World) (R : Value → World → Prop) : Prop :=
  Ret Try.prog 120 #[x0] w fun x8 w => 
  loopK 2 [x0, (Value.slice none 0 0)] w fun next => fun (x0_1 x5 : Value) (w : World) => 
  c122_1 x8 x0_1 x5 R next w
theorem v122 (x0 : Value) (w : World) (R : Value → World → Prop) : vc Try.prog true (Try.f122.body.getD .skip) (.seq .leaf (.seq .leaf (.seq .leaf (.seq (.one (.loop [0, 5] (.seq (.seq .leaf (.cond .leaf .leaf)) (.seq (.one (.seq .leaf (.seq .leaf (.seq .leaf (.cond .leaf .leaf))))) .leaf)))) (.seq .leaf .leaf))))) { get := argEnv [x0], ds := [] } (retQ Try.prog Try.f122.results.toList R) w = c122 x0 w R := by kernel_rfl
theorem e122 {x0 : Value} {w : World} {R : Value → World → Prop} (h : c122 x0 w R) : Ret Try.prog 122 #[x0] w R :=
  ret_of_vc mixed Try.call122 Try.func122 rfl (by kernel_rfl) (by kernel_rfl) ((v122 x0 w R).mpr h)
def c78_1 (x4 x6 : Value) (next : Car 2) (R : Value → World → Prop) (w : World) : Prop :=
  val Try.prog (Builtin.len_ #[24] 3 #[x4]) w fun x29 w => 
  val Try.prog (bin .gtr 3 true x29 (Value.int .i64 0)) w fun x30 w => 
  gd x30 true (
  Ret Try.prog 120 #[x4] w fun x35 w => 
  val Try.prog (Builtin.max_ #[42, 42] 42 #[x6, x35]) w fun x36 w => 
  val Try.prog (Instr.sliceAt 24 x4 (some (Value.int .i64 64)) none none) w fun x32 w => 
  next x32 x36 w) (
  val Try.prog (bin .geq 42 true x6 (Value.int .u64 9223372036854775808)) w fun x38 w => 
  gd x38 true (
  R (.tuple #[(Value.int .u64 0), (Value.int .i64 3)]) w) (
  R (.tuple #[x6, (Value.int .i64 0)]) w))
def c78 (x0 : Value) (w : World) (R : Value → World → Prop) : Prop :=
  val Try.prog (bin .eql 61 true x0 (Value.pointer none)) w fun x9 w => 
  gd x9 false (
  Ret Try.prog 35 #[x0] w fun x12 w => 
  val Try.prog (bin .lss 3 true x12 (Value.int .i64 4)) w fun x13 w => 
  gd x13 true (
  R (.tuple #[(Value.int .u64 0), (Value.int .i64 1)]) w) (
  Ret Try.prog 85 #[x0] w fun x17 w => 
  gd x17 true (
  R (.tuple #[(Value.int .u64 0), (Value.int .i64 19)]) w) (
  Ret Try.prog 35 #[x0] w fun x21 w => 
  Ret Try.prog 36 #[x0, (Value.int .i64 0), x21] w fun x22 w => 
  val Try.prog (Instr.extract x22 0) w fun x23 w => 
  val Try.prog (Instr.extract x22 1) w fun x24 w => 
  val Try.prog (bin .neq 36 true x24 (Value.int .i64 0)) w fun x26 w => 
  gd x26 true (
  R (.tuple #[(Value.int .u64 0), x24]) w) (
  loopK 2 [x23, (Value.int .u64 0)] w fun next => fun (x4 x6 : Value) (w : World) => 
  c78_1 x4 x6 next R w)))) (
  R (.tuple #[(Value.int .u64 0), (Value.int .i64 1)]) w)
theorem v78 (x0 : Value) (w : World) (R : Value → World → Prop) : vc Try.prog true (Try.f78.body.getD .skip) (.seq .leaf (.seq (.one (.seq .leaf (.cond (.seq .leaf .leaf) (.seq .leaf (.cond (.seq .leaf .leaf) .leaf))))) (.seq .leaf (.seq (.seq .leaf (.cond (.seq .leaf .leaf) .leaf)) (.seq .leaf (.seq (.one (.loop [4, 6] (.seq (.seq .leaf (.cond .leaf .leaf)) (.seq (.one .leaf) .leaf)))) (.seq (.seq .leaf (.cond (.seq .leaf .leaf) .leaf)) (.seq .leaf .leaf)))))))) { get := argEnv [x0], ds := [] } (retQ Try.prog Try.f78.results.toList R) w = c78 x0 w R := by kernel_rfl
theorem e78 {x0 : Value} {w : World} {R : Value → World → Prop} (h : c78 x0 w R) : Ret Try.prog 78 #[x0] w R :=
  ret_of_vc mixed Try.call78 Try.func78 rfl (by kernel_rfl) (by kernel_rfl) ((v78 x0 w R).mpr h)
def c88 (x0 : Value) (w : World) (R : Value → World → Prop) : Prop :=
  val Try.prog (nilc x0) w fun x4 w => 
  val Try.prog (Instr.fieldAt 147 x4 0) w fun x5 w => 
  val Try.prog (ld1 61 x5) w fun x6 w => 
  Ret Try.prog 35 #[x6] w fun x7 w => 
  val Try.prog (bin .quo 3 true x7 (Value.int .i64 2)) w fun x8 w => 
  R x8 w
theorem v88 (x0 : Value) (w : World) (R : Value → World → Prop) : vc Try.prog true (Try.f88.body.getD .skip) (.seq .leaf (.seq .leaf .leaf)) { get := argEnv [x0], ds := [] } (retQ Try.prog Try.f88.results.toList R) w = c88 x0 w R := by kernel_rfl
theorem e88 {x0 : Value} {w : World} {R : Value → World → Prop} (h : c88 x0 w R) : Ret Try.prog 88 #[x0] w R :=
  ret_of_vc mixed Try.call88 Try.func88 rfl (by kernel_rfl) (by kernel_rfl) ((v88 x0 w R).mpr h)
def c41 (x0 : Value) (w : World) (R : Value → World → Prop) : Prop :=
  val Try.prog (bin .eql 64 true x0 (Value.pointer none)) w fun x4 w => 
  gd x4 true (
  R (Value.int .i64 0) w) (
  drw w fun T w => 
  pu Try.prog (nilc x0) fun x9 => 
  pu Try.prog (Instr.fieldAt 147 x9 3) fun x10 => 
  tk Try.prog T 1 (ld1 3 x10) fun x11 => 
  Ret Try.prog 88 #[x0] w fun x6 w => 
  ph T 1 w (pu Try.prog (bin .mul 3 true x6 (Value.int .i64 55)) fun x7 => 
  pu Try.prog (bin .sub 3 false x7 x11) fun x12 => 
  R x12 w))
theorem v41 (x0 : Value) (w : World) (R : Value → World → Prop) : vc Try.prog true (Try.f41.body.getD .skip) (.seq .leaf (.seq (.seq .leaf (.cond (.seq .leaf .leaf) .leaf)) (.seq (.draw (.tk 0 0 (.tk 3 1 (.tk 4 1 (.tk 5 1 (.tk 6 1 (.one 1 (.tk 2 1 (.tk 7 1 (.tk 8 1 .nil)))))))))) .leaf))) { get := argEnv [x0], ds := [] } (retQ Try.prog Try.f41.results.toList R) w = c41 x0 w R := by kernel_rfl
theorem e41 {x0 : Value} {w : World} {R : Value → World → Prop} (h : c41 x0 w R) : Ret Try.prog 41 #[x0] w R :=
  ret_of_vc mixed Try.call41 Try.func41 rfl (by kernel_rfl) (by kernel_rfl) ((v41 x0 w R).mpr h)
def c40 (x0 : Value) (w : World) (R : Value → World → Prop) : Prop :=
  val Try.prog (bin .eql 64 true x0 (Value.pointer none)) w fun x4 w => 
  gd x4 true (
  R (Value.int .u64 0) w) (
  val Try.prog (nilc x0) w fun x6 w => 
  val Try.prog (Instr.fieldAt 147 x6 2) w fun x7 w => 
  val Try.prog (ld1 42 x7) w fun x8 w => 
  R x8 w)
theorem v40 (x0 : Value) (w : World) (R : Value → World → Prop) : vc Try.prog true (Try.f40.body.getD .skip) (.seq .leaf (.seq (.seq .leaf (.cond (.seq .leaf .leaf) .leaf)) (.seq .leaf .leaf))) { get := argEnv [x0], ds := [] } (retQ Try.prog Try.f40.results.toList R) w = c40 x0 w R := by kernel_rfl
theorem e40 {x0 : Value} {w : World} {R : Value → World → Prop} (h : c40 x0 w R) : Ret Try.prog 40 #[x0] w R :=
  ret_of_vc mixed Try.call40 Try.func40 rfl (by kernel_rfl) (by kernel_rfl) ((v40 x0 w R).mpr h)
def c42 (x0 : Value) (w : World) (R : Value → World → Prop) : Prop :=
  val Try.prog (Instr.box 29 x0) w fun x1 w => 
  val Try.prog (ldS 29 x1) w fun x3 w => 
  Ret Try.prog 89 #[x3] w fun x4 w => 
  val Try.prog (Builtin.len_ #[24] 3 #[x4]) w fun x5 w => 
  val Try.prog (bin .add 3 true x5 (Value.int .i64 4)) w fun x6 w => 
  R x6 w
theorem v42 (x0 : Value) (w : World) (R : Value → World → Prop) : vc Try.prog true (Try.f42.body.getD .skip) (.seq .leaf (.seq .leaf .leaf)) { get := argEnv [x0], ds := [] } (retQ Try.prog Try.f42.results.toList R) w = c42 x0 w R := by kernel_rfl
theorem e42 {x0 : Value} {w : World} {R : Value → World → Prop} (h : c42 x0 w R) : Ret Try.prog 42 #[x0] w R :=
  ret_of_vc mixed Try.call42 Try.func42 rfl (by kernel_rfl) (by kernel_rfl) ((v42 x0 w R).mpr h)
def c81_1 (x0 x20 x21 x62 : Value) (R : Value → World → Prop) (w : World) : Prop :=
  val Try.prog (nilc x0) w fun x100 w => 
  val Try.prog (Instr.fieldAt 147 x100 3) w fun x101 w => 
  val Try.prog (ld1 3 x101) w fun x102 w => 
  val Try.prog (Builtin.len_ #[24] 3 #[x20]) w fun x104 w => 
  val Try.prog (bin .add 3 false x102 x104) w fun x105 w => 
  val Try.prog (nilc x0) w fun x107 w => 
  val Try.prog (Instr.fieldAt 147 x107 3) w fun x108 w => 
  unt Try.prog (st1 3 x108 x105) w fun w => 
  val Try.prog (nilc x0) w fun x109 w => 
  val Try.prog (Instr.fieldAt 147 x109 4) w fun x110 w => 
  unt Try.prog (st1 22 x110 x21) w fun w => 
  val Try.prog (Instr.buildSlice 24 0 #[]) w fun x112 w => 
  val Try.prog (Builtin.len_ #[24] 3 #[x62]) w fun x115 w => 
  val Try.prog (bin .quo 3 true x115 (Value.int .i64 55)) w fun x116 w => 
  val Try.prog (bin .mul 3 true x116 (Value.int .i64 55)) w fun x117 w => 
  val Try.prog (Instr.sliceAt 24 x62 (some x117) none none) w fun x118 w => 
  val Try.prog (Builtin.append_ #[24, 24] 24 #[x112, x118]) w fun x119 w => 
  val Try.prog (nilc x0) w fun x120 w => 
  val Try.prog (Instr.fieldAt 147 x120 5) w fun x121 w => 
  unt Try.prog (st1 24 x121 x119) w fun w => 
  R (Value.int .i64 0) w
def c81_2 (x10 x62 x0 x45 x20 x21 : Value) (R : Value → World → Prop) (next : Car 1) (w : World) : Prop :=
  val Try.prog (bin .mul 3 true x10 (Value.int .i64 55)) w fun x64 w => 
  val Try.prog (Builtin.len_ #[24] 3 #[x62]) w fun x66 w => 
  val Try.prog (bin .lss 3 false x64 x66) w fun x67 w => 
  gd x67 true (
  val Try.prog (bin .mul 3 true x10 (Value.int .i64 55)) w fun x72 w => 
  val Try.prog (bin .add 3 true x10 (Value.int .i64 1)) w fun x74 w => 
  val Try.prog (bin .mul 3 true x74 (Value.int .i64 55)) w fun x75 w => 
  val Try.prog (Builtin.len_ #[24] 3 #[x62]) w fun x77 w => 
  val Try.prog (Builtin.min_ #[3, 3] 3 #[x75, x77]) w fun x78 w => 
  val Try.prog (Instr.sliceAt 24 x62 (some x72) (some x78) none) w fun x79 w => 
  drw w fun T w => 
  pu Try.prog (nilc x0) fun x81 => 
  pu Try.prog (Instr.fieldAt 147 x81 0) fun x82 => 
  tk Try.prog T 1 (ld1 61 x82) fun x83 => 
  pu Try.prog (bin .add 3 false x45 x10) fun x86 => 
  pu Try.prog (nilc x0) fun x88 => 
  pu Try.prog (Instr.fieldAt 147 x88 2) fun x89 => 
  tk Try.prog T 0 (ld1 42 x89) fun x90 => 
  Ret Try.prog 121 #[x90, x79] w fun x92 w => 
  ph T 1 w (Ret Try.prog 37 #[x83, x86, x92] w fun x93 w => 
  ph T 2 w (val Try.prog (bin .neq 36 true x93 (Value.int .i64 0)) w fun x95 w => 
  gd x95 true (
  R x93 w) (
  val Try.prog (bin .add 3 true x10 (Value.int .i64 1)) w fun x69 w => 
  next x69 w)))) (
  c81_1 x0 x20 x21 x62 R w)
def c81 (x0 x1 : Value) (w : World) (R : Value → World → Prop) : Prop :=
  val Try.prog (Instr.box 29 x1) w fun x3 w => 
  drw w fun T w => 
  pu Try.prog (nilc x0) fun x15 => 
  pu Try.prog (Instr.fieldAt 147 x15 4) fun x16 => 
  tk Try.prog T 0 (ld1 22 x16) fun x17 => 
  tk Try.prog T 0 (ldS 29 x3) fun x18 => 
  Ret Try.prog 58 #[x17, x18] w fun x19 w => 
  ph T 1 w (pu Try.prog (Instr.extract x19 0) fun x20 => 
  pu Try.prog (Instr.extract x19 1) fun x21 => 
  pu Try.prog (Instr.extract x19 2) fun x22 => 
  val Try.prog (bin .neq 36 true x22 (Value.int .i64 0)) w fun x25 w => 
  gd x25 true (
  R x22 w) (
  val Try.prog (Builtin.len_ #[24] 3 #[x20]) w fun x29 w => 
  Ret Try.prog 41 #[x0] w fun x31 w => 
  val Try.prog (bin .gtr 3 false x29 x31) w fun x32 w => 
  gd x32 true (
  R (Value.int .i64 6) w) (
  drw w fun T w => 
  pu Try.prog (nilc x0) fun x34 => 
  pu Try.prog (Instr.fieldAt 147 x34 1) fun x35 => 
  tk Try.prog T 1 (ld1 3 x35) fun x36 => 
  pu Try.prog (nilc x0) fun x41 => 
  pu Try.prog (Instr.fieldAt 147 x41 3) fun x42 => 
  tk Try.prog T 1 (ld1 3 x42) fun x43 => 
  pu Try.prog (bin .quo 3 true x43 (Value.int .i64 55)) fun x44 => 
  Ret Try.prog 88 #[x0] w fun x38 w => 
  ph T 1 w (pu Try.prog (bin .mul 3 false x36 x38) fun x39 => 
  pu Try.prog (bin .add 3 false x39 x44) fun x45 => 
  drw w fun T w => 
  pu Try.prog (nilc x0) fun x47 => 
  pu Try.prog (Instr.fieldAt 147 x47 5) fun x48 => 
  tk Try.prog T 0 (ld1 24 x48) fun x49 => 
  pu Try.prog (nilc x0) fun x51 => 
  pu Try.prog (Instr.fieldAt 147 x51 5) fun x52 => 
  tk Try.prog T 0 (ld1 24 x52) fun x53 => 
  tk Try.prog T 0 (Builtin.len_ #[24] 3 #[x53]) fun x54 => 
  pu Try.prog (nilc x0) fun x56 => 
  pu Try.prog (Instr.fieldAt 147 x56 5) fun x57 => 
  tk Try.prog T 0 (ld1 24 x57) fun x58 => 
  tk Try.prog T 0 (Builtin.len_ #[24] 3 #[x58]) fun x59 => 
  pu Try.prog (Instr.sliceAt 24 x49 none (some x54) (some x59)) fun x60 => 
  val Try.prog (Builtin.append_ #[24, 24] 24 #[x60, x20]) w fun x62 w => 
  ph T 1 w (loopK 1 [(Value.int .i64 0)] w fun next => fun (x10 : Value) (w : World) => 
  c81_2 x10 x62 x0 x45 x20 x21 R next w)))))
theorem v81 (x0 x1 : Value) (w : World) (R : Value → World → Prop) : vc Try.prog true (Try.f81.body.getD .skip) (.seq .leaf (.seq (.draw (.tk 0 0 (.tk 1 0 (.tk 2 0 (.tk 3 0 (.tk 4 0 (.one 5 (.tk 6 1 (.tk 7 1 (.tk 8 1 (.tk 9 1 (.tk 10 1 (.tk 11 1 (.tk 12 1 .nil)))))))))))))) (.seq (.one (.seq .leaf (.cond (.seq .leaf .leaf) (.seq .leaf (.cond (.seq .leaf .leaf) .leaf))))) (.seq (.draw (.tk 0 1 (.tk 1 1 (.tk 2 1 (.tk 3 1 (.tk 4 0 (.tk 7 1 (.tk 8 1 (.tk 9 1 (.tk 10 1 (.tk 11 1 (.one 5 (.tk 6 1 (.tk 12 1 (.tk 13 1 .nil))))))))))))))) (.seq (.draw (.tk 0 0 (.tk 1 0 (.tk 2 0 (.tk 3 0 (.tk 4 0 (.tk 5 0 (.tk 6 0 (.tk 7 0 (.tk 8 0 (.tk 9 0 (.tk 10 0 (.tk 11 0 (.tk 12 0 (.tk 13 0 (.tk 14 0 (.tk 15 0 (.one 16 (.tk 17 1 .nil))))))))))))))))))) (.seq (.seq .leaf (.one (.loop [10] (.seq (.seq .leaf (.cond .leaf .leaf)) (.seq (.one (.seq .leaf (.seq (.draw (.tk 0 1 (.tk 1 1 (.tk 2 1 (.tk 3 1 (.tk 4 1 (.tk 5 1 (.tk 6 1 (.tk 7 0 (.tk 8 0 (.tk 9 0 (.tk 10 0 (.tk 11 0 (.one 12 (.one 13 (.tk 14 2 .nil)))))))))))))))) (.seq .leaf (.cond (.seq .leaf .leaf) .leaf))))) .leaf))))) (.seq .leaf (.seq .leaf (.seq .leaf .leaf))))))))) { get := argEnv [x0, x1], ds := [] } (retQ Try.prog Try.f81.results.toList R) w = c81 x0 x1 w R := by kernel_rfl
theorem e81 {x0 x1 : Value} {w : World} {R : Value → World → Prop} (h : c81 x0 x1 w R) : Ret Try.prog 81 #[x0, x1] w R :=
  ret_of_vc mixed Try.call81 Try.func81 rfl (by kernel_rfl) (by kernel_rfl) ((v81 x0 x1 w R).mpr h)
def c79_1 (x50 x49 x32 x23 x0 : Value) (R : Value → World → Prop) (next_1 : Car 1) (w : World) : Prop :=
  val Try.prog (bin .lss 3 false x50 x49) w fun x51 w => 
  gd x51 true (
  val Try.prog (Instr.indexAt 23 x32 x50) w fun x52 w => 
  val Try.prog (ldS 29 x52) w fun x53 w => 
  val Try.prog (Instr.alloc 29 true (.tuple #[])) w fun x16 w => 
  unt Try.prog (stS 29 x16 x53) w fun w => 
  val Try.prog (ldS 29 x16) w fun x55 w => 
  Ret Try.prog 81 #[x23, x55] w fun x56 w => 
  val Try.prog (bin .neq 36 true x56 (Value.int .i64 0)) w fun x58 w => 
  gd x58 true (
  R (.tuple #[(Value.pointer none), x56]) w) (
  val Try.prog (bin .add 3 true x50 (Value.int .i64 1)) w fun x60 w => 
  next_1 x60 w)) (
  Ret Try.prog 38 #[x0] w fun x62 w => 
  val Try.prog (bin .neq 36 true x62 (Value.int .i64 0)) w fun x64 w => 
  gd x64 true (
  R (.tuple #[(Value.pointer none), x62]) w) (
  R (.tuple #[x23, (Value.int .i64 0)]) w))
def c79_2 (x23 x12 x32 x0 : Value) (R : Value → World → Prop) (w : World) : Prop :=
  Ret Try.prog 41 #[x23] w fun x46 w => 
  val Try.prog (bin .gtr 3 false x12 x46) w fun x47 w => 
  gd x47 true (
  R (.tuple #[(Value.pointer none), (Value.int .i64 6)]) w) (
  val Try.prog (Builtin.len_ #[23] 3 #[x32]) w fun x49 w => 
  loopK 1 [(Value.int .i64 0)] w fun next_1 => fun (x50 : Value) (w : World) => 
  c79_1 x50 x49 x32 x23 x0 R next_1 w)
def c79_3 (x35 x34 x32 x12 x23 x0 : Value) (next : Car 2) (R : Value → World → Prop) (w : World) : Prop :=
  val Try.prog (bin .lss 3 false x35 x34) w fun x36 w => 
  gd x36 true (
  val Try.prog (Instr.indexAt 23 x32 x35) w fun x37 w => 
  val Try.prog (ldS 29 x37) w fun x38 w => 
  val Try.prog (Instr.alloc 29 true (.tuple #[])) w fun x14 w => 
  unt Try.prog (stS 29 x14 x38) w fun w => 
  val Try.prog (ldS 29 x14) w fun x40 w => 
  Ret Try.prog 42 #[x40] w fun x41 w => 
  val Try.prog (bin .add 3 false x12 x41) w fun x42 w => 
  val Try.prog (bin .add 3 true x35 (Value.int .i64 1)) w fun x43 w => 
  next x42 x43 w) (
  c79_2 x23 x12 x32 x0 R w)
def c79 (x0 x1 x2 x3 : Value) (w : World) (R : Value → World → Prop) : Prop :=
  val Try.prog (Instr.build 147 #[(0, x0), (1, x1), (2, x2)]) w fun x22 w => 
  val Try.prog (Instr.box 147 x22) w fun x23 w => 
  val Try.prog (Builtin.len_ #[23] 3 #[x3]) w fun x26 w => 
  val Try.prog (Builtin.len_ #[23] 3 #[x3]) w fun x28 w => 
  val Try.prog (Instr.sliceAt 23 x3 none (some x26) (some x28)) w fun x29 w => 
  val Try.prog (Instr.build 29 #[(0, (Value.int .u8 255))]) w fun x30 w => 
  val Try.prog (Instr.buildSlice 23 1 #[(0, x30)]) w fun x31 w => 
  val Try.prog (Builtin.append_ #[23, 23] 23 #[x29, x31]) w fun x32 w => 
  val Try.prog (Builtin.len_ #[23] 3 #[x32]) w fun x34 w => 
  loopK 2 [(Value.int .i64 0), (Value.int .i64 0)] w fun next => fun (x12 x35 : Value) (w : World) => 
  c79_3 x35 x34 x32 x12 x23 x0 next R w
theorem v79 (x0 x1 x2 x3 : Value) (w : World) (R : Value → World → Prop) : vc Try.prog true (Try.f79.body.getD .skip) (.seq .leaf (.seq .leaf (.seq .leaf (.seq .leaf (.seq (.seq .leaf (.one (.loop [12, 35] (.seq .leaf (.seq (.cond .leaf .leaf) (.seq (.one (.seq .leaf .leaf)) .leaf)))))) (.seq (.seq .leaf (.cond (.seq .leaf .leaf) .leaf)) (.seq (.seq .leaf (.one (.loop [50] (.seq .leaf (.seq (.cond .leaf .leaf) (.seq (.one (.seq .leaf (.seq .leaf (.seq .leaf (.cond (.seq .leaf .leaf) .leaf))))) .leaf)))))) (.seq (.seq .leaf (.seq .leaf (.cond (.seq .leaf .leaf) .leaf))) (.seq .leaf .leaf))))))))) { get := argEnv [x0, x1, x2, x3], ds := [] } (retQ Try.prog Try.f79.results.toList R) w = c79 x0 x1 x2 x3 w R := by kernel_rfl
theorem e79 {x0 x1 x2 x3 : Value} {w : World} {R : Value → World → Prop} (h : c79 x0 x1 x2 x3 w R) : Ret Try.prog 79 #[x0, x1, x2, x3] w R :=
  ret_of_vc mixed Try.call79 Try.func79 rfl (by kernel_rfl) (by kernel_rfl) ((v79 x0 x1 x2 x3 w R).mpr h)
def c84_1 (x5 x7 : Value) (q : World → World → Exit → World → Prop) (w_1 : World) (w_3 : World) (w_2 : World) : Prop :=
  val Try.prog (Instr.fieldAt 155 x5 1) w_2 fun x28 w_2 => 
  val Try.prog (ld1 23 x28) w_2 fun x29 w_2 => 
  val Try.prog (ldS 29 x7) w_2 fun x30 w_2 => 
  val Try.prog (Instr.buildSlice 23 1 #[(0, x30)]) w_2 fun x31 w_2 => 
  val Try.prog (Builtin.append_ #[23, 23] 23 #[x29, x31]) w_2 fun x32 w_2 => 
  val Try.prog (Instr.fieldAt 155 x5 1) w_2 fun x33 w_2 => 
  unt Try.prog (st1 23 x33 x32) w_2 fun w_2 => 
  q w_1 w_3 .normal w_2
def c84_2 (x5 x7 : Value) (q : World → World → Exit → World → Prop) (w_1 : World) (w_3 : World) : Prop :=
  joinK 0 (fun (w_2 : World) => 
  c84_1 x5 x7 q w_1 w_3 w_2)
  fun j => val Try.prog (Instr.fieldAt 29 x7 0) w_3 fun x19 w_2 => 
  val Try.prog (ld1 5 x19) w_2 fun x20 w_2 => 
  val Try.prog (bin .eql 5 true x20 (Value.int .u8 255)) w_2 fun x21 w_2 => 
  gd x21 true (
  val Try.prog (Instr.fieldAt 155 x5 2) w_2 fun x23 w_2 => 
  val Try.prog (ld1 4 x23) w_2 fun x24 w_2 => 
  val Try.prog (Op.unary .not x24) w_2 fun x25 w_2 => 
  gd x25 true (
  val Try.prog (Instr.fieldAt 155 x5 2) w_2 fun x27 w_2 => 
  unt Try.prog (st1 4 x27 (Value.bool true)) w_2 fun w_2 => 
  q w_1 w_3 .normal w_2) (
  j w_2)) (
  j w_2)
def c84 (x0 : Value) (w : World) (R : Value → World → Prop) : Prop :=
  val Try.prog (Instr.alloc 155 true (.tuple #[])) w fun x2 w => 
  Ret Try.prog 122 #[x0] w fun x10 w => 
  val Try.prog (Instr.extract x10 0) w fun x11 w => 
  val Try.prog (Instr.extract x10 1) w fun x12 w => 
  val Try.prog (Instr.build 155 #[(0, x12)]) w fun x14 w => 
  val Try.prog (Instr.alloc 155 true (.tuple #[])) w fun x5 w => 
  unt Try.prog (stS 155 x5 x14) w fun w => 
  Ret Try.prog 16 #[(Value.int .u32 0), x11] w fun x16 w => 
  Rng Try.prog x16 2 w (fun q => fun (x17 x18 : Value) (w_1 : World) => 
  val Try.prog (Instr.alloc 29 true (.tuple #[])) w_1 fun x7 w_2 => 
  unt Try.prog (stS 29 x7 x18) w_2 fun w_2 => 
  asn w.heap.size w_1 w_2 fun w_3 => 
  c84_2 x5 x7 q w_1 w_3)
  (fun D w => val Try.prog (ldS 155 x5) w fun x34 w => 
  unt Try.prog (stS 155 x2 x34) w fun w => 
  fin (D :: []) w fun w => rd Try.prog (ldS 155 x2) w fun r => R r w)
  []
theorem v84 (x0 : Value) (w : World) (R : Value → World → Prop) : vc Try.prog true (Try.f84.body.getD .skip) (.seq .leaf (.seq .leaf (.seq .leaf (.seq (.seq .leaf (.one (.rng [] .leaf (.one (.join [] (.seq .leaf (.cond (.seq .leaf .leaf) .leaf)) .leaf))))) (.seq .leaf .leaf))))) { get := argEnv [x0], ds := [] } (retQ Try.prog Try.f84.results.toList R) w = c84 x0 w R := by kernel_rfl
theorem e84 {x0 : Value} {w : World} {R : Value → World → Prop} (h : c84 x0 w R) : Ret Try.prog 84 #[x0] w R :=
  ret_of_vc mixed Try.call84 Try.func84 rfl (by kernel_rfl) (by kernel_rfl) ((v84 x0 w R).mpr h)
def c34_1 (x60 x13 x8 x31 x9 : Value) (next : Car 2) (w : World) : Prop :=
  gd x60 true (
  val Try.prog (ldS 155 x13) w fun x61 w => 
  unt Try.prog (stS 155 x8 x61) w fun w => 
  val Try.prog (bin .add 3 true x31 (Value.int .i64 1)) w fun x63 w => 
  next x31 x63 w) (
  val Try.prog (bin .add 3 true x31 (Value.int .i64 1)) w fun x63_1 w => 
  next x9 x63_1 w)
def c34_2 (x9 x19 x18 x8 x0 : Value) (R : Value → World → Prop) (w : World) : Prop :=
  val Try.prog (bin .lss 3 true x9 (Value.int .i64 0)) w fun x66 w => 
  gd x66 true (
  R (.tuple #[(Value.pointer none), (Value.slice none 0 0), (Value.int .i64 7)]) w) (
  val Try.prog (bin .neq 36 true x19 (Value.int .i64 0)) w fun x69 w => 
  gd x69 true (
  R (.tuple #[(Value.pointer none), (Value.slice none 0 0), x19]) w) (
  val Try.prog (bin .sub 3 true (Value.int .i64 1) x9) w fun x74 w => 
  val Try.prog (bin .add 42 true x18 (Value.int .u64 1)) w fun x76 w => 
  val Try.prog (Instr.fieldAt 155 x8 1) w fun x77 w => 
  val Try.prog (ld1 23 x77) w fun x78 w => 
  Ret Try.prog 79 #[x0, x74, x76, x78] w fun x79 w => 
  val Try.prog (Instr.extract x79 0) w fun x80 w => 
  val Try.prog (Instr.extract x79 1) w fun x81 w => 
  val Try.prog (bin .neq 36 true x81 (Value.int .i64 0)) w fun x83 w => 
  gd x83 true (
  R (.tuple #[(Value.pointer none), (Value.slice none 0 0), x81]) w) (
  drw w fun T w => 
  pu Try.prog (Instr.fieldAt 155 x8 1) fun x86 => 
  tk Try.prog T 0 (ld1 23 x86) fun x87 => 
  R (.tuple #[x80, x87, (Value.int .i64 0)]) w)))
def c34_3 (x31 x29 x0 x8 x9 x19 x18 : Value) (R : Value → World → Prop) (next : Car 2) (w : World) : Prop :=
  val Try.prog (bin .lss 3 true x31 (Value.int .i64 2)) w fun x32 w => 
  gd x32 true (
  val Try.prog (bin .mul 3 false x31 x29) w fun x38 w => 
  Ret Try.prog 36 #[x0, x38, x29] w fun x40 w => 
  val Try.prog (Instr.extract x40 0) w fun x41 w => 
  val Try.prog (Instr.extract x40 1) w fun x42 w => 
  val Try.prog (bin .neq 36 true x42 (Value.int .i64 0)) w fun x44 w => 
  gd x44 true (
  R (.tuple #[(Value.pointer none), (Value.slice none 0 0), x42]) w) (
  Ret Try.prog 84 #[x41] w fun x47 w => 
  val Try.prog (Instr.alloc 155 true (.tuple #[])) w fun x13 w => 
  unt Try.prog (stS 155 x13 x47) w fun w => 
  joinK 1 (fun (x60 : Value) (w : World) => 
  c34_1 x60 x13 x8 x31 x9 next w)
  fun j => val Try.prog (Instr.fieldAt 155 x13 2) w fun x48 w => 
  val Try.prog (ld1 4 x48) w fun x49 w => 
  gd x49 true (
  val Try.prog (bin .lss 3 true x9 (Value.int .i64 0)) w fun x52 w => 
  gd x52 false (
  val Try.prog (Instr.fieldAt 155 x13 0) w fun x54 w => 
  val Try.prog (ld1 42 x54) w fun x55 w => 
  val Try.prog (Instr.fieldAt 155 x8 0) w fun x56 w => 
  val Try.prog (ld1 42 x56) w fun x57 w => 
  val Try.prog (bin .gtr 42 false x55 x57) w fun x58 w => 
  j x58 w) (
  j (Value.bool true) w)) (
  j (Value.bool false) w))) (
  c34_2 x9 x19 x18 x8 x0 R w)
def c34 (x0 : Value) (w : World) (R : Value → World → Prop) : Prop :=
  Ret Try.prog 78 #[x0] w fun x17 w => 
  val Try.prog (Instr.extract x17 0) w fun x18 w => 
  val Try.prog (Instr.extract x17 1) w fun x19 w => 
  val Try.prog (bin .eql 36 true x19 (Value.int .i64 1)) w fun x21 w => 
  gd x21 false (
  val Try.prog (bin .eql 36 true x19 (Value.int .i64 19)) w fun x24 w => 
  gd x24 true (
  R (.tuple #[(Value.pointer none), (Value.slice none 0 0), x19]) w) (
  Ret Try.prog 35 #[x0] w fun x28 w => 
  val Try.prog (bin .quo 3 true x28 (Value.int .i64 2)) w fun x29 w => 
  val Try.prog (Instr.build 155 #[]) w fun x30 w => 
  val Try.prog (Instr.alloc 155 true (.tuple #[])) w fun x8 w => 
  unt Try.prog (stS 155 x8 x30) w fun w => 
  loopK 2 [(Value.int .i64 (-1)), (Value.int .i64 0)] w fun next => fun (x9 x31 : Value) (w : World) => 
  c34_3 x31 x29 x0 x8 x9 x19 x18 R next w)) (
  R (.tuple #[(Value.pointer none), (Value.slice none 0 0), x19]) w)
theorem v34 (x0 : Value) (w : World) (R : Value → World → Prop) : vc Try.prog true (Try.f34.body.getD .skip) (.seq .leaf (.seq .leaf (.seq (.seq .leaf (.cond (.seq .leaf .leaf) .leaf)) (.seq .leaf (.seq .leaf (.seq (.seq .leaf (.one (.loop [9, 31] (.seq .leaf (.seq (.cond .leaf .leaf) (.seq (.one (.seq .leaf (.seq .leaf (.seq (.seq .leaf (.cond (.seq .leaf .leaf) .leaf)) (.seq .leaf (.join [60] .leaf (.cond .leaf .leaf))))))) .leaf)))))) (.seq (.one (.seq .leaf (.cond (.seq .leaf .leaf) (.seq .leaf (.cond (.seq .leaf .leaf) .leaf))))) (.seq .leaf (.seq (.seq .leaf (.cond (.seq .leaf .leaf) .leaf)) (.seq (.draw (.tk 0 0 (.tk 1 0 (.tk 2 0 (.tk 3 0 (.tk 4 0 (.tk 5 0 .nil))))))) .leaf)))))))))) { get := argEnv [x0], ds := [] } (retQ Try.prog Try.f34.results.toList R) w = c34 x0 w R := by kernel_rfl
theorem e34 {x0 : Value} {w : World} {R : Value → World → Prop} (h : c34 x0 w R) : Ret Try.prog 34 #[x0] w R :=
  ret_of_vc mixed Try.call34 Try.func34 rfl (by kernel_rfl) (by kernel_rfl) ((v34 x0 w R).mpr h)
def c30 (x0 : Value) (w : World) (R : Value → World → Prop) : Prop :=
  Ret Try.prog 78 #[x0] w fun x8 w => 
  val Try.prog (Instr.extract x8 0) w fun x9 w => 
  val Try.prog (Instr.extract x8 1) w fun x10 w => 
  val Try.prog (bin .neq 36 true x10 (Value.int .i64 0)) w fun x12 w => 
  gd x12 true (
  R (.tuple #[(Value.pointer none), x10]) w) (
  val Try.prog (bin .add 42 true x9 (Value.int .u64 1)) w fun x16 w => 
  Ret Try.prog 79 #[x0, (Value.int .i64 0), x16, (Value.slice none 0 0)] w fun x17 w => 
  val Try.prog (Instr.extract x17 0) w fun x18 w => 
  val Try.prog (Instr.extract x17 1) w fun x19 w => 
  R (.tuple #[x18, x19]) w)
theorem v30 (x0 : Value) (w : World) (R : Value → World → Prop) : vc Try.prog true (Try.f30.body.getD .skip) (.seq .leaf (.seq .leaf (.seq (.seq .leaf (.cond (.seq .leaf .leaf) .leaf)) (.seq .leaf .leaf)))) { get := argEnv [x0], ds := [] } (retQ Try.prog Try.f30.results.toList R) w = c30 x0 w R := by kernel_rfl
theorem e30 {x0 : Value} {w : World} {R : Value → World → Prop} (h : c30 x0 w R) : Ret Try.prog 30 #[x0] w R :=
  ret_of_vc mixed Try.call30 Try.func30 rfl (by kernel_rfl) (by kernel_rfl) ((v30 x0 w R).mpr h)
def c31 (x0 x1 : Value) (w : World) (R : Value → World → Prop) : Prop :=
  val Try.prog (Instr.box 29 x1) w fun x3 w => 
  val Try.prog (bin .eql 64 true x0 (Value.pointer none)) w fun x7 w => 
  gd x7 true (
  R (Value.int .i64 1) w) (
  val Try.prog (ldS 29 x3) w fun x8 w => 
  Ret Try.prog 80 #[x8] w fun x9 w => 
  val Try.prog (bin .neq 36 true x9 (Value.int .i64 0)) w fun x11 w => 
  gd x11 true (
  R x9 w) (
  val Try.prog (ldS 29 x3) w fun x13 w => 
  Ret Try.prog 42 #[x13] w fun x14 w => 
  Ret Try.prog 41 #[x0] w fun x16 w => 
  val Try.prog (bin .gtr 3 false x14 x16) w fun x17 w => 
  gd x17 true (
  R (Value.int .i64 6) w) (
  val Try.prog (ldS 29 x3) w fun x19 w => 
  Ret Try.prog 81 #[x0, x19] w fun x20 w => 
  R x20 w)))
theorem v31 (x0 x1 : Value) (w : World) (R : Value → World → Prop) : vc Try.prog true (Try.f31.body.getD .skip) (.seq .leaf (.seq (.seq .leaf (.cond (.seq .leaf .leaf) .leaf)) (.seq (.seq .leaf (.seq .leaf (.cond (.seq .leaf .leaf) .leaf))) (.seq (.seq .leaf (.cond (.seq .leaf .leaf) .leaf)) (.seq .leaf .leaf))))) { get := argEnv [x0, x1], ds := [] } (retQ Try.prog Try.f31.results.toList R) w = c31 x0 x1 w R := by kernel_rfl
theorem e31 {x0 x1 : Value} {w : World} {R : Value → World → Prop} (h : c31 x0 x1 w R) : Ret Try.prog 31 #[x0, x1] w R :=
  ret_of_vc mixed Try.call31 Try.func31 rfl (by kernel_rfl) (by kernel_rfl) ((v31 x0 x1 w R).mpr h)
def c32 (x0 : Value) (w : World) (R : Value → World → Prop) : Prop :=
  val Try.prog (bin .eql 64 true x0 (Value.pointer none)) w fun x4 w => 
  gd x4 true (
  R (Value.int .i64 1) w) (
  val Try.prog (nilc x0) w fun x6 w => 
  val Try.prog (Instr.fieldAt 147 x6 0) w fun x7 w => 
  val Try.prog (ld1 61 x7) w fun x8 w => 
  Ret Try.prog 38 #[x8] w fun x9 w => 
  R x9 w)
theorem v32 (x0 : Value) (w : World) (R : Value → World → Prop) : vc Try.prog true (Try.f32.body.getD .skip) (.seq .leaf (.seq (.seq .leaf (.cond (.seq .leaf .leaf) .leaf)) (.seq .leaf .leaf))) { get := argEnv [x0], ds := [] } (retQ Try.prog Try.f32.results.toList R) w = c32 x0 w R := by kernel_rfl
theorem e32 {x0 : Value} {w : World} {R : Value → World → Prop} (h : c32 x0 w R) : Ret Try.prog 32 #[x0] w R :=
  ret_of_vc mixed Try.call32 Try.func32 rfl (by kernel_rfl) (by kernel_rfl) ((v32 x0 w R).mpr h)
def c43_1 (x0 x1 : Value) (R : Value → World → Prop) (w : World) : Prop :=
  drw w fun T w => 
  pu Try.prog (nilc x0) fun x26 => 
  pu Try.prog (Instr.fieldAt 147 x26 0) fun x27 => 
  tk Try.prog T 0 (ld1 61 x27) fun x28 => 
  pu Try.prog (nilc x0) fun x30 => 
  pu Try.prog (Instr.fieldAt 147 x30 1) fun x31 => 
  tk Try.prog T 0 (ld1 3 x31) fun x32 => 
  pu Try.prog (bin .sub 3 true (Value.int .i64 1) x32) fun x33 => 
  pu Try.prog (nilc x0) fun x35 => 
  pu Try.prog (Instr.fieldAt 147 x35 2) fun x36 => 
  tk Try.prog T 0 (ld1 42 x36) fun x37 => 
  pu Try.prog (bin .add 42 true x37 (Value.int .u64 1)) fun x38 => 
  Ret Try.prog 79 #[x28, x33, x38, x1] w fun x40 w => 
  ph T 1 w (pu Try.prog (Instr.extract x40 0) fun x41 => 
  pu Try.prog (Instr.extract x40 1) fun x42 => 
  val Try.prog (bin .neq 36 true x42 (Value.int .i64 0)) w fun x44 w => 
  gd x44 true (
  R x42 w) (
  val Try.prog (nilc x41) w fun x48 w => 
  val Try.prog (ldS 147 x48) w fun x49 w => 
  val Try.prog (nilc x0) w fun x50 w => 
  unt Try.prog (stS 147 x50 x49) w fun w => 
  R (Value.int .i64 0) w))
def c43_2 (x14 x13 x1 x0 : Value) (R : Value → World → Prop) (next : Car 1) (w : World) : Prop :=
  val Try.prog (bin .lss 3 false x14 x13) w fun x15 w => 
  gd x15 true (
  val Try.prog (Instr.indexAt 23 x1 x14) w fun x16 w => 
  val Try.prog (ldS 29 x16) w fun x17 w => 
  val Try.prog (Instr.alloc 29 true (.tuple #[])) w fun x6 w => 
  unt Try.prog (stS 29 x6 x17) w fun w => 
  val Try.prog (ldS 29 x6) w fun x18 w => 
  Ret Try.prog 80 #[x18] w fun x19 w => 
  val Try.prog (bin .neq 36 true x19 (Value.int .i64 0)) w fun x21 w => 
  gd x21 true (
  R x19 w) (
  val Try.prog (bin .add 3 true x14 (Value.int .i64 1)) w fun x23 w => 
  next x23 w)) (
  c43_1 x0 x1 R w)
def c43 (x0 x1 : Value) (w : World) (R : Value → World → Prop) : Prop :=
  val Try.prog (bin .eql 64 true x0 (Value.pointer none)) w fun x11 w => 
  gd x11 true (
  R (Value.int .i64 1) w) (
  val Try.prog (Builtin.len_ #[23] 3 #[x1]) w fun x13 w => 
  loopK 1 [(Value.int .i64 0)] w fun next => fun (x14 : Value) (w : World) => 
  c43_2 x14 x13 x1 x0 R next w)
theorem v43 (x0 x1 : Value) (w : World) (R : Value → World → Prop) : vc Try.prog true (Try.f43.body.getD .skip) (.seq .leaf (.seq (.seq .leaf (.cond (.seq .leaf .leaf) .leaf)) (.seq (.seq .leaf (.one (.loop [14] (.seq .leaf (.seq (.cond .leaf .leaf) (.seq (.one (.seq .leaf (.seq .leaf (.seq .leaf (.cond (.seq .leaf .leaf) .leaf))))) .leaf)))))) (.seq (.draw (.tk 0 0 (.tk 1 0 (.tk 2 0 (.tk 3 0 (.tk 4 0 (.tk 5 0 (.tk 6 0 (.tk 7 0 (.tk 8 0 (.tk 9 0 (.tk 10 0 (.tk 11 0 (.tk 12 0 (.tk 13 0 (.tk 14 0 (.one 15 (.tk 16 1 (.tk 17 1 (.tk 18 1 (.tk 19 1 (.tk 20 1 .nil)))))))))))))))))))))) (.seq (.seq .leaf (.cond (.seq .leaf .leaf) .leaf)) (.seq .leaf (.seq .leaf .leaf))))))) { get := argEnv [x0, x1], ds := [] } (retQ Try.prog Try.f43.results.toList R) w = c43 x0 x1 w R := by kernel_rfl
theorem e43 {x0 x1 : Value} {w : World} {R : Value → World → Prop} (h : c43 x0 x1 w R) : Ret Try.prog 43 #[x0, x1] w R :=
  ret_of_vc mixed Try.call43 Try.func43 rfl (by kernel_rfl) (by kernel_rfl) ((v43 x0 x1 w R).mpr h)
end Go.Proofs.Ytchmcjimnliodaa
end
section
set_option linter.unusedSimpArgs false
set_option linter.unusedVariables false
/- Printed by wip/tools/gen.py: the conditions of functions. -/
namespace Go.Proofs.Ytchmcjimnliodaa
open Go
set_option maxRecDepth 100000
def c29 (x0 : Value) (w : World) (R : Value → World → Prop) : Prop :=
  val Try.prog (bin .lss 3 true x0 (Value.int .i64 1)) w fun x5 w => 
  gd x5 false (
  val Try.prog (bin .gtr 3 true x0 (Value.int .i64 4096)) w fun x8 w => 
  gd x8 true (
  R (.tuple #[(Value.pointer none), (Value.int .i64 1)]) w) (
  val Try.prog (Instr.makeSlice 139 x0 x0) w fun x11 w => 
  val Try.prog (Instr.build 142 #[(0, x11)]) w fun x12 w => 
  val Try.prog (Instr.box 142 x12) w fun x13 w => 
  R (.tuple #[x13, (Value.int .i64 0)]) w)) (
  R (.tuple #[(Value.pointer none), (Value.int .i64 1)]) w)
theorem v29 (x0 : Value) (w : World) (R : Value → World → Prop) : vc Try.prog true (Try.f29.body.getD .skip) (.seq .leaf (.seq (.seq .leaf (.cond (.seq .leaf .leaf) .leaf)) (.seq .leaf .leaf))) { get := argEnv [x0], ds := [] } (retQ Try.prog Try.f29.results.toList R) w = c29 x0 w R := by kernel_rfl
theorem e29 {x0 : Value} {w : World} {R : Value → World → Prop} (h : c29 x0 w R) : Ret Try.prog 29 #[x0] w R :=
  ret_of_vc mixed Try.call29 Try.func29 rfl (by kernel_rfl) (by kernel_rfl) ((v29 x0 w R).mpr h)
def c35 (x0 : Value) (w : World) (R : Value → World → Prop) : Prop :=
  val Try.prog (bin .eql 61 true x0 (Value.pointer none)) w fun x4 w => 
  gd x4 true (
  R (Value.int .i64 0) w) (
  val Try.prog (nilc x0) w fun x6 w => 
  val Try.prog (Instr.fieldAt 142 x6 0) w fun x7 w => 
  val Try.prog (ld1 139 x7) w fun x8 w => 
  val Try.prog (Builtin.len_ #[139] 3 #[x8]) w fun x9 w => 
  R x9 w)
theorem v35 (x0 : Value) (w : World) (R : Value → World → Prop) : vc Try.prog true (Try.f35.body.getD .skip) (.seq .leaf (.seq (.seq .leaf (.cond (.seq .leaf .leaf) .leaf)) (.seq .leaf .leaf))) { get := argEnv [x0], ds := [] } (retQ Try.prog Try.f35.results.toList R) w = c35 x0 w R := by kernel_rfl
theorem e35 {x0 : Value} {w : World} {R : Value → World → Prop} (h : c35 x0 w R) : Ret Try.prog 35 #[x0] w R :=
  ret_of_vc mixed Try.call35 Try.func35 rfl (by kernel_rfl) (by kernel_rfl) ((v35 x0 w R).mpr h)
def c85 (x0 : Value) (w : World) (R : Value → World → Prop) : Prop :=
  val Try.prog (bin .eql 61 true x0 (Value.pointer none)) w fun x4 w => 
  gd x4 false (
  val Try.prog (nilc x0) w fun x7 w => 
  val Try.prog (Instr.fieldAt 142 x7 2) w fun x8 w => 
  val Try.prog (ld1 4 x8) w fun x9 w => 
  R x9 w) (
  R (Value.bool true) w)
theorem v85 (x0 : Value) (w : World) (R : Value → World → Prop) : vc Try.prog true (Try.f85.body.getD .skip) (.seq .leaf (.seq .leaf .leaf)) { get := argEnv [x0], ds := [] } (retQ Try.prog Try.f85.results.toList R) w = c85 x0 w R := by kernel_rfl
theorem e85 {x0 : Value} {w : World} {R : Value → World → Prop} (h : c85 x0 w R) : Ret Try.prog 85 #[x0] w R :=
  ret_of_vc mixed Try.call85 Try.func85 rfl (by kernel_rfl) (by kernel_rfl) ((v85 x0 w R).mpr h)
def c36_1 (x73 x10 x1 x52 x58 : Value) (next : Car 1) (w : World) : Prop :=
  gd x73 true (
  val Try.prog (Instr.fieldAt 153 x10 0) w fun x75 w => 
  val Try.prog (ld1 3 x75) w fun x76 w => 
  val Try.prog (bin .sub 3 false x76 x1) w fun x78 w => 
  val Try.prog (Instr.fieldAt 153 x10 1) w fun x79 w => 
  val Try.prog (ldS 150 x79) w fun x80 w => 
  val Try.prog (Instr.indexAt 139 x52 x78) w fun x81 w => 
  unt Try.prog (stS 150 x81 x80) w fun w => 
  val Try.prog (bin .add 3 true x58 (Value.int .i64 1)) w fun x82 w => 
  next x82 w) (
  val Try.prog (bin .add 3 true x58 (Value.int .i64 1)) w fun x82_1 w => 
  next x82_1 w)
def c36_2 (x85 x84 x52 x11 : Value) (next_1 : Car 2) (R : Value → World → Prop) (w : World) : Prop :=
  val Try.prog (bin .lss 3 false x85 x84) w fun x86 w => 
  gd x86 true (
  val Try.prog (Instr.indexAt 139 x52 x85) w fun x91 w => 
  val Try.prog (Instr.sliceAt 150 x91 none none none) w fun x92 w => 
  val Try.prog (Builtin.append_ #[24, 24] 24 #[x11, x92]) w fun x93 w => 
  val Try.prog (bin .add 3 true x85 (Value.int .i64 1)) w fun x94 w => 
  next_1 x93 x94 w) (
  R (.tuple #[x11, (Value.int .i64 0)]) w)
def c36_3 (x58 x57 x56 x1 x52 x2 : Value) (next : Car 1) (R : Value → World → Prop) (w : World) : Prop :=
  val Try.prog (bin .lss 3 false x58 x57) w fun x59 w => 
  gd x59 true (
  val Try.prog (Instr.indexAt 140 x56 x58) w fun x60 w => 
  val Try.prog (ldS 153 x60) w fun x61 w => 
  val Try.prog (Instr.alloc 153 true (.tuple #[])) w fun x10 w => 
  unt Try.prog (stS 153 x10 x61) w fun w => 
  joinK 1 (fun (x73 : Value) (w : World) => 
  c36_1 x73 x10 x1 x52 x58 next w)
  fun j => val Try.prog (Instr.fieldAt 153 x10 0) w fun x62 w => 
  val Try.prog (ld1 3 x62) w fun x63 w => 
  val Try.prog (bin .geq 3 false x63 x1) w fun x65 w => 
  gd x65 true (
  val Try.prog (Instr.fieldAt 153 x10 0) w fun x67 w => 
  val Try.prog (ld1 3 x67) w fun x68 w => 
  val Try.prog (bin .add 3 false x1 x2) w fun x71 w => 
  val Try.prog (bin .lss 3 false x68 x71) w fun x72 w => 
  j x72 w) (
  j (Value.bool false) w)) (
  val Try.prog (Builtin.len_ #[139] 3 #[x52]) w fun x84 w => 
  loopK 2 [(Value.slice none 0 0), (Value.int .i64 0)] w fun next_1 => fun (x11 x85 : Value) (w : World) => 
  c36_2 x85 x84 x52 x11 next_1 R w)
def c36 (x0 x1 x2 : Value) (w : World) (R : Value → World → Prop) : Prop :=
  Ret Try.prog 85 #[x0] w fun x15 w => 
  gd x15 true (
  R (.tuple #[(Value.slice none 0 0), (Value.int .i64 19)]) w) (
  val Try.prog (bin .lss 3 true x1 (Value.int .i64 0)) w fun x18 w => 
  gd x18 false (
  val Try.prog (bin .lss 3 true x2 (Value.int .i64 0)) w fun x21 w => 
  gd x21 false (
  val Try.prog (nilc x0) w fun x26 w => 
  val Try.prog (Instr.fieldAt 142 x26 0) w fun x27 w => 
  val Try.prog (ld1 139 x27) w fun x28 w => 
  val Try.prog (Builtin.len_ #[139] 3 #[x28]) w fun x29 w => 
  val Try.prog (bin .gtr 3 false x1 x29) w fun x30 w => 
  gd x30 false (
  val Try.prog (nilc x0) w fun x35 w => 
  val Try.prog (Instr.fieldAt 142 x35 0) w fun x36 w => 
  val Try.prog (ld1 139 x36) w fun x37 w => 
  val Try.prog (Builtin.len_ #[139] 3 #[x37]) w fun x38 w => 
  val Try.prog (bin .sub 3 false x38 x1) w fun x40 w => 
  val Try.prog (bin .gtr 3 false x2 x40) w fun x41 w => 
  gd x41 true (
  R (.tuple #[(Value.slice none 0 0), (Value.int .i64 3)]) w) (
  val Try.prog (nilc x0) w fun x44 w => 
  val Try.prog (Instr.fieldAt 142 x44 0) w fun x45 w => 
  val Try.prog (ld1 139 x45) w fun x46 w => 
  val Try.prog (bin .add 3 false x1 x2) w fun x50 w => 
  val Try.prog (Instr.sliceAt 139 x46 (some x1) (some x50) none) w fun x51 w => 
  Ret Try.prog 82 #[x51] w fun x52 w => 
  val Try.prog (nilc x0) w fun x54 w => 
  val Try.prog (Instr.fieldAt 142 x54 1) w fun x55 w => 
  val Try.prog (ld1 140 x55) w fun x56 w => 
  val Try.prog (Builtin.len_ #[140] 3 #[x56]) w fun x57 w => 
  loopK 1 [(Value.int .i64 0)] w fun next => fun (x58 : Value) (w : World) => 
  c36_3 x58 x57 x56 x1 x52 x2 next R w)) (
  R (.tuple #[(Value.slice none 0 0), (Value.int .i64 3)]) w)) (
  R (.tuple #[(Value.slice none 0 0), (Value.int .i64 3)]) w)) (
  R (.tuple #[(Value.slice none 0 0), (Value.int .i64 3)]) w))
theorem v36 (x0 x1 x2 : Value) (w : World) (R : Value → World → Prop) : vc Try.prog true (Try.f36.body.getD .skip) (.seq .leaf (.seq (.one (.seq .leaf (.cond (.seq .leaf .leaf) (.seq .leaf (.cond (.seq .leaf .leaf) .leaf))))) (.seq .leaf (.seq (.seq .leaf (.one (.loop [58] (.seq .leaf (.seq (.cond .leaf .leaf) (.seq (.one (.seq .leaf (.join [73] .leaf (.cond .leaf .leaf)))) .leaf)))))) (.seq .leaf (.seq (.seq .leaf (.one (.loop [11, 85] (.seq .leaf (.seq (.cond .leaf .leaf) (.seq (.one (.seq .leaf .leaf)) .leaf)))))) (.seq .leaf .leaf))))))) { get := argEnv [x0, x1, x2], ds := [] } (retQ Try.prog Try.f36.results.toList R) w = c36 x0 x1 x2 w R := by kernel_rfl
theorem e36 {x0 x1 x2 : Value} {w : World} {R : Value → World → Prop} (h : c36 x0 x1 x2 w R) : Ret Try.prog 36 #[x0, x1, x2] w R :=
  ret_of_vc mixed Try.call36 Try.func36 rfl (by kernel_rfl) (by kernel_rfl) ((v36 x0 x1 x2 w R).mpr h)
def c37 (x0 x1 x2 : Value) (w : World) (R : Value → World → Prop) : Prop :=
  Ret Try.prog 85 #[x0] w fun x10 w => 
  gd x10 true (
  R (Value.int .i64 19) w) (
  val Try.prog (bin .lss 3 true x1 (Value.int .i64 0)) w fun x13 w => 
  gd x13 false (
  val Try.prog (nilc x0) w fun x17 w => 
  val Try.prog (Instr.fieldAt 142 x17 0) w fun x18 w => 
  val Try.prog (ld1 139 x18) w fun x19 w => 
  val Try.prog (Builtin.len_ #[139] 3 #[x19]) w fun x20 w => 
  val Try.prog (bin .geq 3 false x1 x20) w fun x21 w => 
  gd x21 true (
  R (Value.int .i64 3) w) (
  val Try.prog (Builtin.len_ #[24] 3 #[x2]) w fun x25 w => 
  val Try.prog (bin .gtr 3 true x25 (Value.int .i64 64)) w fun x26 w => 
  gd x26 true (
  R (Value.int .i64 15) w) (
  val Try.prog (Instr.build 153 #[(0, x1)]) w fun x28 w => 
  val Try.prog (Instr.alloc 153 true (.tuple #[])) w fun x7 w => 
  unt Try.prog (stS 153 x7 x28) w fun w => 
  val Try.prog (Instr.fieldAt 153 x7 1) w fun x29 w => 
  val Try.prog (Instr.sliceAt 150 x29 none none none) w fun x30 w => 
  val Try.prog (Builtin.copy_ #[24, 24] 3 #[x30, x2]) w fun _ w => 
  drw w fun T w => 
  pu Try.prog (nilc x0) fun x35 => 
  pu Try.prog (Instr.fieldAt 142 x35 1) fun x36 => 
  tk Try.prog T 1 (ld1 140 x36) fun x37 => 
  tk Try.prog T 0 (ldS 153 x7) fun x38 => 
  val Try.prog (Instr.buildSlice 140 1 #[(0, x38)]) w fun x39 w => 
  ph T 1 w (val Try.prog (Builtin.append_ #[140, 140] 140 #[x37, x39]) w fun x40 w => 
  ph T 2 w (pu Try.prog (nilc x0) fun x41 => 
  pu Try.prog (Instr.fieldAt 142 x41 1) fun x42 => 
  unt Try.prog (st1 140 x42 x40) w fun w => 
  ph T 3 w (R (Value.int .i64 0) w)))))) (
  R (Value.int .i64 3) w))
theorem v37 (x0 x1 x2 : Value) (w : World) (R : Value → World → Prop) : vc Try.prog true (Try.f37.body.getD .skip) (.seq .leaf (.seq (.one (.seq .leaf (.cond (.seq .leaf .leaf) (.seq .leaf (.cond (.seq .leaf .leaf) (.seq .leaf (.cond (.seq .leaf .leaf) .leaf))))))) (.seq .leaf (.seq .leaf (.seq (.draw (.tk 0 2 (.tk 1 1 (.tk 2 1 (.tk 3 1 (.tk 4 1 (.tk 5 0 (.one 6 (.one 7 (.tk 8 2 (.tk 9 2 (.one 10 .nil)))))))))))) (.seq .leaf .leaf)))))) { get := argEnv [x0, x1, x2], ds := [] } (retQ Try.prog Try.f37.results.toList R) w = c37 x0 x1 x2 w R := by kernel_rfl
theorem e37 {x0 x1 x2 : Value} {w : World} {R : Value → World → Prop} (h : c37 x0 x1 x2 w R) : Ret Try.prog 37 #[x0, x1, x2] w R :=
  ret_of_vc mixed Try.call37 Try.func37 rfl (by kernel_rfl) (by kernel_rfl) ((v37 x0 x1 x2 w R).mpr h)
def c38 (x0 : Value) (w : World) (R : Value → World → Prop) : Prop :=
  Ret Try.prog 85 #[x0] w fun x4 w => 
  gd x4 true (
  R (Value.int .i64 19) w) (
  Ret Try.prog 86 #[x0, (Value.func (.func 87) #[] #[])] w fun _ w => 
  R (Value.int .i64 0) w)
theorem v38 (x0 : Value) (w : World) (R : Value → World → Prop) : vc Try.prog true (Try.f38.body.getD .skip) (.seq .leaf (.seq (.seq .leaf (.cond (.seq .leaf .leaf) .leaf)) (.seq .leaf (.seq .leaf .leaf)))) { get := argEnv [x0], ds := [] } (retQ Try.prog Try.f38.results.toList R) w = c38 x0 w R := by kernel_rfl
theorem e38 {x0 : Value} {w : World} {R : Value → World → Prop} (h : c38 x0 w R) : Ret Try.prog 38 #[x0] w R :=
  ret_of_vc mixed Try.call38 Try.func38 rfl (by kernel_rfl) (by kernel_rfl) ((v38 x0 w R).mpr h)
def c86_1 (x11 x10 x9 x1 x0 : Value) (next : Car 1) (R : Value → World → Prop) (w : World) : Prop :=
  val Try.prog (bin .lss 3 false x11 x10) w fun x12 w => 
  gd x12 true (
  val Try.prog (Instr.indexAt 140 x9 x11) w fun x14 w => 
  val Try.prog (ldS 153 x14) w fun x15 w => 
  val Try.prog (Instr.alloc 153 true (.tuple #[])) w fun x5 w => 
  unt Try.prog (stS 153 x5 x15) w fun w => 
  dyn Try.prog x1 [x11] w fun x18 w => 
  gd x18 true (
  drw w fun T w => 
  pu Try.prog (nilc x0) fun x20 => 
  pu Try.prog (Instr.fieldAt 142 x20 0) fun x21 => 
  tk Try.prog T 0 (ld1 139 x21) fun x22 => 
  pu Try.prog (Instr.fieldAt 153 x5 0) fun x23 => 
  tk Try.prog T 0 (ld1 3 x23) fun x24 => 
  pu Try.prog (Instr.fieldAt 153 x5 1) fun x25 => 
  tk Try.prog T 0 (ldS 150 x25) fun x26 => 
  pu Try.prog (Instr.indexAt 139 x22 x24) fun x27 => 
  unt Try.prog (stS 150 x27 x26) w fun w => 
  ph T 1 w (val Try.prog (bin .add 3 true x11 (Value.int .i64 1)) w fun x28 w => 
  next x28 w)) (
  val Try.prog (bin .add 3 true x11 (Value.int .i64 1)) w fun x28_1 w => 
  next x28_1 w)) (
  val Try.prog (nilc x0) w fun x30 w => 
  val Try.prog (Instr.fieldAt 142 x30 1) w fun x31 w => 
  unt Try.prog (st1 140 x31 (Value.slice none 0 0)) w fun w => 
  R (.tuple #[]) w)
def c86 (x0 x1 : Value) (w : World) (R : Value → World → Prop) : Prop :=
  val Try.prog (nilc x0) w fun x7 w => 
  val Try.prog (Instr.fieldAt 142 x7 1) w fun x8 w => 
  val Try.prog (ld1 140 x8) w fun x9 w => 
  val Try.prog (Builtin.len_ #[140] 3 #[x9]) w fun x10 w => 
  loopK 1 [(Value.int .i64 0)] w fun next => fun (x11 : Value) (w : World) => 
  c86_1 x11 x10 x9 x1 x0 next R w
theorem v86 (x0 x1 : Value) (w : World) (R : Value → World → Prop) : vc Try.prog true (Try.f86.body.getD .skip) (.seq (.seq .leaf (.one (.loop [11] (.seq .leaf (.seq (.cond .leaf .leaf) (.seq (.one (.seq .leaf (.seq .leaf (.cond (.draw (.tk 0 0 (.tk 1 0 (.tk 2 0 (.tk 3 0 (.tk 4 0 (.tk 5 0 (.tk 6 0 (.tk 7 0 (.tk 8 0 (.one 9 .nil))))))))))) .leaf)))) .leaf)))))) .leaf) { get := argEnv [x0, x1], ds := [] } (retQ Try.prog Try.f86.results.toList R) w = c86 x0 x1 w R := by kernel_rfl
theorem e86 {x0 x1 : Value} {w : World} {R : Value → World → Prop} (h : c86 x0 x1 w R) : Ret Try.prog 86 #[x0, x1] w R :=
  ret_of_vc mixed Try.call86 Try.func86 rfl (by kernel_rfl) (by kernel_rfl) ((v86 x0 x1 w R).mpr h)
def c87 (x0 : Value) (w : World) (R : Value → World → Prop) : Prop :=
  R (Value.bool true) w
theorem v87 (x0 : Value) (w : World) (R : Value → World → Prop) : vc Try.prog true (Try.f87.body.getD .skip) (.seq .leaf (.seq .leaf .leaf)) { get := argEnv [x0], ds := [] } (retQ Try.prog Try.f87.results.toList R) w = c87 x0 w R := by kernel_rfl
theorem e87 {x0 : Value} {w : World} {R : Value → World → Prop} (h : c87 x0 w R) : Ret Try.prog 87 #[x0] w R :=
  ret_of_vc mixed Try.call87 Try.func87 rfl (by kernel_rfl) (by kernel_rfl) ((v87 x0 w R).mpr h)
def c44 (x0 x1 : Value) (w : World) (R : Value → World → Prop) : Prop :=
  val Try.prog (bin .eql 61 true x0 (Value.pointer none)) w fun x5 w => 
  gd x5 true (
  R (.tuple #[]) w) (
  val Try.prog (bin .eql 83 true x1 Value.nilFunc) w fun x7 w => 
  gd x7 true (
  Ret Try.prog 86 #[x0, (Value.func (.func 90) #[] #[])] w fun _ w => 
  val Try.prog (nilc x0) w fun x12 w => 
  val Try.prog (Instr.fieldAt 142 x12 2) w fun x13 w => 
  unt Try.prog (st1 4 x13 (Value.bool true)) w fun w => 
  R (.tuple #[]) w) (
  Ret Try.prog 86 #[x0, x1] w fun _ w => 
  val Try.prog (nilc x0) w fun x12_1 w => 
  val Try.prog (Instr.fieldAt 142 x12_1 2) w fun x13_1 w => 
  unt Try.prog (st1 4 x13_1 (Value.bool true)) w fun w => 
  R (.tuple #[]) w))
theorem v44 (x0 x1 : Value) (w : World) (R : Value → World → Prop) : vc Try.prog true (Try.f44.body.getD .skip) (.seq (.seq .leaf (.cond .leaf .leaf)) (.seq (.seq .leaf (.cond .leaf .leaf)) (.seq .leaf .leaf))) { get := argEnv [x0, x1], ds := [] } (retQ Try.prog Try.f44.results.toList R) w = c44 x0 x1 w R := by kernel_rfl
theorem e44 {x0 x1 : Value} {w : World} {R : Value → World → Prop} (h : c44 x0 x1 w R) : Ret Try.prog 44 #[x0, x1] w R :=
  ret_of_vc mixed Try.call44 Try.func44 rfl (by kernel_rfl) (by kernel_rfl) ((v44 x0 x1 w R).mpr h)
def c90 (x0 : Value) (w : World) (R : Value → World → Prop) : Prop :=
  R (Value.bool false) w
theorem v90 (x0 : Value) (w : World) (R : Value → World → Prop) : vc Try.prog true (Try.f90.body.getD .skip) (.seq .leaf (.seq .leaf .leaf)) { get := argEnv [x0], ds := [] } (retQ Try.prog Try.f90.results.toList R) w = c90 x0 w R := by kernel_rfl
theorem e90 {x0 : Value} {w : World} {R : Value → World → Prop} (h : c90 x0 w R) : Ret Try.prog 90 #[x0] w R :=
  ret_of_vc mixed Try.call90 Try.func90 rfl (by kernel_rfl) (by kernel_rfl) ((v90 x0 w R).mpr h)
def c46 (x0 : Value) (w : World) (R : Value → World → Prop) : Prop :=
  val Try.prog (bin .neq 61 true x0 (Value.pointer none)) w fun x3 w => 
  gd x3 true (
  val Try.prog (nilc x0) w fun x5 w => 
  val Try.prog (Instr.fieldAt 142 x5 2) w fun x6 w => 
  unt Try.prog (st1 4 x6 (Value.bool false)) w fun w => 
  R (.tuple #[]) w) (
  R (.tuple #[]) w)
theorem v46 (x0 : Value) (w : World) (R : Value → World → Prop) : vc Try.prog true (Try.f46.body.getD .skip) (.seq .leaf (.cond .leaf .leaf)) { get := argEnv [x0], ds := [] } (retQ Try.prog Try.f46.results.toList R) w = c46 x0 w R := by kernel_rfl
theorem e46 {x0 : Value} {w : World} {R : Value → World → Prop} (h : c46 x0 w R) : Ret Try.prog 46 #[x0] w R :=
  ret_of_vc mixed Try.call46 Try.func46 rfl (by kernel_rfl) (by kernel_rfl) ((v46 x0 w R).mpr h)
def c33 (x0 : Value) (w : World) (R : Value → World → Prop) : Prop :=
  val Try.prog (bin .eql 61 true x0 (Value.pointer none)) w fun x4 w => 
  gd x4 true (
  R (Value.pointer none) w) (
  drw w fun T w => 
  pu Try.prog (nilc x0) fun x6 => 
  pu Try.prog (Instr.fieldAt 142 x6 0) fun x7 => 
  tk Try.prog T 0 (ld1 139 x7) fun x8 => 
  pu Try.prog (nilc x0) fun x11 => 
  pu Try.prog (Instr.fieldAt 142 x11 1) fun x12 => 
  tk Try.prog T 1 (ld1 140 x12) fun x13 => 
  pu Try.prog (nilc x0) fun x16 => 
  pu Try.prog (Instr.fieldAt 142 x16 2) fun x17 => 
  tk Try.prog T 2 (ld1 4 x17) fun x18 => 
  Ret Try.prog 82 #[x8] w fun x9 w => 
  ph T 1 w (Ret Try.prog 83 #[x13] w fun x14 w => 
  ph T 2 w (pu Try.prog (Instr.build 142 #[(0, x9), (1, x14), (2, x18)]) fun x19 => 
  val Try.prog (Instr.box 142 x19) w fun x20 w => 
  ph T 3 w (R x20 w))))
theorem v33 (x0 : Value) (w : World) (R : Value → World → Prop) : vc Try.prog true (Try.f33.body.getD .skip) (.seq .leaf (.seq (.seq .leaf (.cond (.seq .leaf .leaf) .leaf)) (.seq (.draw (.tk 0 0 (.tk 1 0 (.tk 2 0 (.tk 3 0 (.tk 5 1 (.tk 6 1 (.tk 7 1 (.tk 8 1 (.tk 10 2 (.tk 11 2 (.tk 12 2 (.tk 13 2 (.one 4 (.one 9 (.tk 14 2 (.one 15 (.tk 16 3 .nil)))))))))))))))))) .leaf))) { get := argEnv [x0], ds := [] } (retQ Try.prog Try.f33.results.toList R) w = c33 x0 w R := by kernel_rfl
theorem e33 {x0 : Value} {w : World} {R : Value → World → Prop} (h : c33 x0 w R) : Ret Try.prog 33 #[x0] w R :=
  ret_of_vc mixed Try.call33 Try.func33 rfl (by kernel_rfl) (by kernel_rfl) ((v33 x0 w R).mpr h)
def c82 (x0 : Value) (w : World) (R : Value → World → Prop) : Prop :=
  val Try.prog (bin .eql 139 true x0 (Value.slice none 0 0)) w fun x4 w => 
  gd x4 true (
  R (Value.slice none 0 0) w) (
  val Try.prog (Instr.buildSlice 139 0 #[]) w fun x5 w => 
  val Try.prog (Builtin.append_ #[139, 139] 139 #[x5, x0]) w fun x7 w => 
  R x7 w)
theorem v82 (x0 : Value) (w : World) (R : Value → World → Prop) : vc Try.prog true (Try.f82.body.getD .skip) (.seq .leaf (.seq (.seq .leaf (.cond (.seq .leaf .leaf) .leaf)) (.seq .leaf .leaf))) { get := argEnv [x0], ds := [] } (retQ Try.prog Try.f82.results.toList R) w = c82 x0 w R := by kernel_rfl
theorem e82 {x0 : Value} {w : World} {R : Value → World → Prop} (h : c82 x0 w R) : Ret Try.prog 82 #[x0] w R :=
  ret_of_vc mixed Try.call82 Try.func82 rfl (by kernel_rfl) (by kernel_rfl) ((v82 x0 w R).mpr h)
def c83 (x0 : Value) (w : World) (R : Value → World → Prop) : Prop :=
  val Try.prog (bin .eql 140 true x0 (Value.slice none 0 0)) w fun x4 w => 
  gd x4 true (
  R (Value.slice none 0 0) w) (
  val Try.prog (Instr.buildSlice 140 0 #[]) w fun x5 w => 
  val Try.prog (Builtin.append_ #[140, 140] 140 #[x5, x0]) w fun x7 w => 
  R x7 w)
theorem v83 (x0 : Value) (w : World) (R : Value → World → Prop) : vc Try.prog true (Try.f83.body.getD .skip) (.seq .leaf (.seq (.seq .leaf (.cond (.seq .leaf .leaf) .leaf)) (.seq .leaf .leaf))) { get := argEnv [x0], ds := [] } (retQ Try.prog Try.f83.results.toList R) w = c83 x0 w R := by kernel_rfl
theorem e83 {x0 : Value} {w : World} {R : Value → World → Prop} (h : c83 x0 w R) : Ret Try.prog 83 #[x0] w R :=
  ret_of_vc mixed Try.call83 Try.func83 rfl (by kernel_rfl) (by kernel_rfl) ((v83 x0 w R).mpr h)
end Go.Proofs.Ytchmcjimnliodaa
end
section
set_option linter.unusedSimpArgs false
set_option linter.unusedVariables false
/- Strings in a walk with things in memory. No program in sight. -/
namespace Go.Proofs.Ytchmcjimnliodaa
open Go Go.RowKit

section
variable {P : Program} {S : Nat → Prop} {w0 w : World} {L : List It}
theorem run_append_str {t ts ty e : TypeId} (he : ElemT P t e 1 1) (hts : P.underlying ts = some .string) (W : World) (a : Option Addr) (n cap : Nat) (xs : List Value) (bs : List UInt8) (hrow : Row W e 1 a n cap xs) (hsz : n + bs.length ≤ 140737488355328) :
    ∃ a' cap' w', (Builtin.append_ #[t, ts] ty #[.slice a n cap, .string ⟨⟨bs⟩⟩]).run P W = .ok (.slice a' (n + bs.length) cap') w' ∧ Row w' e 1 a' (n + bs.length) cap' (xs ++ ub bs) ∧
      Only (fun k => ablk a = some k) W w' ∧ (ablk a' = ablk a ∨ ablk a' = some W.heap.size) := by
  obtain ⟨ht, h0, i, z, hi, hz, hsize, hby, hzs⟩ := he
  have hs := Src.ofString (P := P) W hts (⟨⟨bs⟩⟩ : ByteArray)
  have hb : byteCells (⟨⟨bs⟩⟩ : ByteArray) = ub bs := by simp [byteCells, ub]
  rw [hb, show (⟨⟨bs⟩⟩ : ByteArray).size = bs.length from rfl] at hs
  exact run_append_row (P := P) W t ts ty e i z 1 1 ht hi hz hsize hby hzs h0 a n cap xs hrow (.string ⟨⟨bs⟩⟩) bs.length (ub bs) hs (by simp only [maxLen]; omega) (by omega)
/-- append of a string onto a row. -/
theorem val_appS {K : Value → World → Prop} (h : Hp S w0 w L) {j : Nat} {t ts ty e : TypeId} (he : ElemT P t e 1 1) (hts : P.underlying ts = some .string) {a : Option Addr} {n cap : Nat} {xs : List Value} (hk' : At L j (.row e 1 a n cap xs)) {bs : List UInt8} (hsz : n + bs.length ≤ 140737488355328)
    (k : ∀ a' cap' w1, Only (fun k => ablk a = some k) w w1 → (ablk a' = ablk a ∨ ablk a' = some w.heap.size) → Hp S w0 w1 (L.set j (.row e 1 a' (n + bs.length) cap' (xs ++ ub bs))) → K (.slice a' (n + bs.length) cap') w1) :
    val P (Builtin.append_ #[t, ts] ty #[.slice a n cap, .string ⟨⟨bs⟩⟩]) w K := by
  have hk := hk'.get
  obtain ⟨a', cap', w1, hr, hrow, ho, hat⟩ := run_append_str (P := P) (ty := ty) he hts w a n cap xs bs (h.get hk) hsz
  exact val_ok hr (k a' cap' w1 ho hat (h.upd hk ho (i' := .row e 1 a' (n + bs.length) cap' (xs ++ ub bs)) hrow (fun q hq => by
    rcases hat with h2 | h2
    · exact .inl (show ablk a = some q from h2 ▸ hq)
    · right; have : some q = some w.heap.size := hq.symm.trans h2; injection this with this; omega)))
/-- 'string(b)'. -/
theorem val_conv {K : Value → World → Prop} {src dst e : TypeId} (hs : P.underlying src = some (.slice e)) (he : P.underlying e = some (.int .u8)) (hd : P.underlying dst = some .string) {a : Option Addr} {n cap : Nat} {bs : List UInt8} (hn : bs.length = n) (hl : Lies w a (ub bs))
    (k : K (.string ⟨⟨bs⟩⟩) w) : val P (convert src dst (.slice a n cap)) w K := val_ok (run_conv_string w src dst e hs he hd a n cap bs hn hl) k
theorem tk_pconv {K : Value → Prop} {hi : Nat} {src dst e : TypeId} (hs : P.underlying src = some (.slice e)) (he : P.underlying e = some (.int .u8)) (hd : P.underlying dst = some .string) {a : Option Addr} {n cap : Nat} {bs : List UInt8} (hn : bs.length = n) (hl : Lies w a (ub bs))
    (k : K (.string ⟨⟨bs⟩⟩)) : tk P (pT w) hi (convert src dst (.slice a n cap)) K := tk_iff.2 ⟨_, fun _ w' _ hT => run_conv_string w' src dst e hs he hd a n cap bs hn (hl.pure hT), k⟩
theorem rd_conv {K : Value → Prop} {src dst e : TypeId} (hs : P.underlying src = some (.slice e)) (he : P.underlying e = some (.int .u8)) (hd : P.underlying dst = some .string) {a : Option Addr} {n cap : Nat} {bs : List UInt8} (hn : bs.length = n) (hl : Lies w a (ub bs))
    (k : K (.string ⟨⟨bs⟩⟩)) : rd P (convert src dst (.slice a n cap)) w K := rd_iff.2 ⟨_, run_conv_string w src dst e hs he hd a n cap bs hn hl, k⟩
end
end Go.Proofs.Ytchmcjimnliodaa
end
section
set_option linter.unusedSimpArgs false
set_option linter.unusedVariables false
/- Structs in structs, and strings added, in a walk. No program in sight. -/
namespace Go.Proofs.Ytchmcjimnliodaa
open Go Go.RowKit

section
variable {P : Program} {S : Nat → Prop} {w0 w : World} {L : List It}
theorem Blk.part {w : World} {B : Nat} {cs : Array Value} {T : TypeId} (h : Blk w B cs T) {o n : Nat} {xs : Array Value} (hx : ((cs.toList.drop o).take n).toArray = xs) : Lies w (some ⟨B, o, none⟩) xs.toList := by
  have := ((Blk.lies h).dropAt o).take n
  rw [← hx]
  simpa using this
/-- A struct that is a part of a block is loaded. -/
theorem val_ldO {K : Value → World → Prop} (h : Hp S w0 w L) {ty : TypeId} {B o n : Nat} {cs xs : Array Value} {T : TypeId} {q : Nat} (hm : At L q (It.blk B cs T)) (hx : ((cs.toList.drop o).take n).toArray = xs) (ht : AggT P ty xs.size) (k : K (.agg xs) w) :
    val P (ldS ty (.pointer (some ⟨B, o, none⟩))) w K := val_ldl ht (by simp) ((h.blk hm).part hx) k
theorem rd_ldO {K : Value → Prop} (h : Hp S w0 w L) {ty : TypeId} {B o n : Nat} {cs xs : Array Value} {T : TypeId} {q : Nat} (hm : At L q (It.blk B cs T)) (hx : ((cs.toList.drop o).take n).toArray = xs) (ht : AggT P ty xs.size) (k : K (.agg xs)) :
    rd P (ldS ty (.pointer (some ⟨B, o, none⟩))) w K := rd_ldl ht (by simp) ((h.blk hm).part hx) k
theorem tk_pldO {K : Value → Prop} (h : Hp S w0 w L) {hi : Nat} {ty : TypeId} {B o n : Nat} {cs xs : Array Value} {T : TypeId} {q : Nat} (hm : At L q (It.blk B cs T)) (hx : ((cs.toList.drop o).take n).toArray = xs) (ht : AggT P ty xs.size) (k : K (.agg xs)) :
    tk P (pT w) hi (ldS ty (.pointer (some ⟨B, o, none⟩))) K := tk_pll ht (by simp) ((h.blk hm).part hx) k
/-- A struct is stored into a part of a block. -/
theorem unt_stO {K : World → Prop} (h : Hp S w0 w L) {j : Nat} {ty : TypeId} {B o : Nat} {cs xs ys : Array Value} {T : TypeId} (hk' : At L j (.blk B cs T)) (ht : AggT P ty xs.size) (hz : o + xs.size ≤ cs.size) (h1 : (xs.toList.all (·.oneCell')) = true) (hy : putAt cs o xs.toList = ys)
    (k : ∀ w1 : World, Only (fun x => x = B) w w1 → Hp S w0 w1 (L.set j (.blk B ys T)) → K w1) : unt P (stS ty (.pointer (some ⟨B, o, none⟩)) (.agg xs)) w K := by
  rw [stS_eq]
  have hk := hk'.get
  have hb : Blk w B cs T := h.get hk
  have hr := run_storeVar_agg (w := w) ht B o T cs hb xs.toList (by simp) (fun u hu => List.all_eq_true.1 h1 u hu) (by simpa using hz)
  rw [hy] at hr
  have ho : Only (fun x => x = B) w (w.setRow B ys) := Only.setRow (S := fun x => x = B) (Only.refl _ _) (fun _ => rfl) _
  refine unt_ok (w1 := w.setRow B ys) ?_ (k _ ho (h.upd hk ho (i' := .blk B ys T) hb.setRow (fun k hk => .inl hk)))
  simpa [Instr.storeAt, Instr.sureAddr] using hr
theorem run_adds {t : TypeId} {b : Bool} {x y : List UInt8} (h : x.length + y.length ≤ 9223372036854775807) (w : World) :
    (bin .add t b (.string ⟨⟨x⟩⟩) (.string ⟨⟨y⟩⟩)).run P w = .ok (.string ⟨⟨x ++ y⟩⟩) w := by
  have h1 := run_string_add_sum (P := P) (w := w) ⟨⟨x⟩⟩ ⟨⟨y⟩⟩ h
  have h2 : (⟨⟨x⟩⟩ ++ ⟨⟨y⟩⟩ : ByteArray) = ⟨⟨x ++ y⟩⟩ := by
    apply ByteArray.ext
    rw [ByteArray.data_append]
    simp
  rw [h2] at h1
  simp [bin, go_sem, h1]
theorem str_beq9 (x y : List UInt8) : ((⟨⟨x⟩⟩ : ByteArray) == ⟨⟨y⟩⟩) = (x == y) := by
  show ((⟨⟨x⟩⟩ : ByteArray).data == (⟨⟨y⟩⟩ : ByteArray).data) = (x == y)
  simp
theorem run_eqs {t : TypeId} {b : Bool} (x y : List UInt8) (w : World) :
    (bin .eql t b (.string ⟨⟨x⟩⟩) (.string ⟨⟨y⟩⟩)).run P w = .ok (.bool (x == y)) w := by
  have h2 : ((⟨⟨x⟩⟩ : ByteArray) == ⟨⟨y⟩⟩) = (x == y) := by
    show ((⟨⟨x⟩⟩ : ByteArray).data == (⟨⟨y⟩⟩ : ByteArray).data) = (x == y)
    simp
  simp [bin, go_sem, h2]
end
end Go.Proofs.Ytchmcjimnliodaa
end
section
set_option linter.unusedSimpArgs false
set_option linter.unusedVariables false
/- Rows of structs, copies, slices that are made, appends onto full slices: in a walk. No program in sight. -/
namespace Go.Proofs.Ytchmcjimnliodaa
open Go Go.RowKit

/-! ### Lists of parts of one length -/
section
variable {α β : Type} {f : α → List β} {n : Nat}
theorem flat_len (l : List α) (h : ∀ x ∈ l, (f x).length = n) : (l.flatMap f).length = l.length * n := by
  induction l with
  | nil => simp
  | cons x l ih => rw [List.flatMap_cons, List.length_append, h x (List.mem_cons_self ..), ih (fun y hy => h y (List.mem_cons_of_mem _ hy)), List.length_cons, Nat.add_mul]; omega
theorem flat_drop (l : List α) (h : ∀ x ∈ l, (f x).length = n) (i : Nat) : (l.flatMap f).drop (i * n) = (l.drop i).flatMap f := by
  induction l generalizing i with
  | nil => simp
  | cons x l ih =>
    cases i with
    | zero => simp
    | succ i =>
      rw [List.flatMap_cons, List.drop_succ_cons, ← ih (fun y hy => h y (List.mem_cons_of_mem _ hy)), Nat.add_mul, Nat.one_mul, Nat.add_comm, ← List.drop_drop, ← h x (List.mem_cons_self ..), List.drop_left]
theorem flat_take (l : List α) (h : ∀ x ∈ l, (f x).length = n) (i : Nat) : (l.flatMap f).take (i * n) = (l.take i).flatMap f := by
  induction l generalizing i with
  | nil => simp
  | cons x l ih =>
    cases i with
    | zero => simp
    | succ i =>
      have hx := h x (List.mem_cons_self ..)
      rw [List.flatMap_cons, List.take_succ_cons, List.flatMap_cons, ← ih (fun y hy => h y (List.mem_cons_of_mem _ hy)), Nat.add_mul, Nat.one_mul, Nat.add_comm, List.take_append, hx, List.take_of_length_le (by omega), Nat.add_sub_cancel_left]
theorem flat_part (l : List α) (h : ∀ x ∈ l, (f x).length = n) {i : Nat} (hi : i < l.length) : ((l.flatMap f).drop (i * n)).take n = f l[i] := by
  rw [flat_drop l h, List.drop_eq_getElem_cons hi, List.flatMap_cons]
  have := h l[i] (List.getElem_mem hi)
  rw [List.take_append_of_le_length (by omega), List.take_of_length_le (by omega)]
theorem flat_put (l : List α) (h : ∀ x ∈ l, (f x).length = n) {i : Nat} (hi : i < l.length) (y : α) : (l.set i y).flatMap f = (l.flatMap f).take (i * n) ++ f y ++ (l.flatMap f).drop ((i + 1) * n) := by
  rw [flat_take l h, flat_drop l h, List.set_eq_take_append_cons_drop, if_pos hi]
  simp
end
section
variable {P : Program} {S : Nat → Prop} {w0 w : World} {L : List It} {j : Nat}
/-- A struct out of a row. -/
theorem Hp.rowPart (h : Hp S w0 w L) {q : Nat} {e : TypeId} {size b n cap : Nat} {xs ys : List Value} (hm : At L q (.row e size (some ⟨b, 0, none⟩) n cap xs)) {o m : Nat} (hy : (xs.drop o).take m = ys) : Lies w (some ⟨b, o, none⟩) ys := by
  have hr : Row w e size (some ⟨b, 0, none⟩) n cap xs := h.ok _ hm.mem
  have := (hr.lies.dropAt o).take m
  rw [hy, Nat.zero_add] at this
  exact this
theorem val_ldrS {K : Value → World → Prop} (h : Hp S w0 w L) {q : Nat} {ty e : TypeId} {size b n cap : Nat} {xs ys : List Value} (hm : At L q (.row e size (some ⟨b, 0, none⟩) n cap xs)) {o m : Nat} (ht : AggT P ty m) (hy : (xs.drop o).take m = ys) (hl : ys.length = m) (k : K (.agg ys.toArray) w) :
    val P (ldS ty (.pointer (some ⟨b, o, none⟩))) w K := val_ldl ht hl (h.rowPart hm hy) k
/-- A struct into a row. -/
theorem unt_strS {K : World → Prop} (h : Hp S w0 w L) {q : Nat} {ty e : TypeId} {size b n cap i o : Nat} {xs ys zs : List Value} (hk' : At L q (.row e size (some ⟨b, 0, none⟩) n cap xs)) (ht : AggT P ty size) (hl : ys.length = size) (h1 : ∀ u ∈ ys, u.oneCell' = true) (hi : i < n) (ho : o = i * size)
    (hz : zs = xs.take (i * size) ++ ys ++ xs.drop ((i + 1) * size))
    (k : ∀ w1 : World, Only (fun x => x = b) w w1 → Hp S w0 w1 (L.set q (.row e size (some ⟨b, 0, none⟩) n cap zs)) → K w1) : unt P (stS ty (.pointer (some ⟨b, o, none⟩)) (.agg ys.toArray)) w K := by
  rw [stS_eq]
  subst ho
  subst hz
  have hr : Row w e size (some ⟨b, 0, none⟩) n cap xs := h.get hk'.get
  obtain ⟨cur, hb, hs, hput⟩ := hr.put
  have hle : (i + 1) * size ≤ cap * size := Nat.mul_le_mul_right _ (by have := hr.2.1; omega)
  rw [Nat.add_mul, Nat.one_mul] at hle
  have hst := run_storeVar_agg (P := P) (w := w) ht b (i * size) e cur hb ys hl h1 (by omega)
  have hon : Only (fun x => x = b) w (w.setRow b (putAt cur (i * size) ys)) := Only.setRow (S := fun x => x = b) (Only.refl _ _) (fun _ => rfl) _
  refine unt_ok (w1 := w.setRow b (putAt cur (i * size) ys)) ?_ (k _ hon (h.upd hk'.get (hon.mono fun x _ hx => show ablk (some ⟨b, 0, none⟩) = some x from congrArg some hx.symm) (i' := .row e size (some ⟨b, 0, none⟩) n cap (xs.take (i * size) ++ ys ++ xs.drop ((i + 1) * size))) (hput i ys hl hi) (fun k hk => .inl hk)))
  simpa [Instr.storeAt, Instr.sureAddr] using hst
/-! ### A slice of one struct -/
theorem fold_set (l : List Value) (off : Nat) : ∀ (k : Nat) (cs : Array Value), off + k + l.length ≤ cs.size →
    ((l.zipIdx k).foldl (fun cs p => cs.setIfInBounds (off + p.2) p.1) cs).toList = cs.toList.take (off + k) ++ l ++ cs.toList.drop (off + k + l.length) := by
  induction l with
  | nil => intro k cs h; simp
  | cons v l ih =>
    intro k cs h
    simp only [List.length_cons] at h
    rw [List.zipIdx_cons, List.foldl_cons, ih (k + 1) _ (by simp; omega)]
    simp only [Array.toList_setIfInBounds, List.length_cons]
    have hlt : off + k < cs.toList.length := by simp; omega
    rw [← Nat.add_assoc off k 1, List.take_set, List.drop_set, if_pos (by omega)]
    rw [List.take_succ_eq_append_getElem hlt, List.set_append_right _ _ (by simp; omega)]
    simp only [List.length_take, Nat.min_eq_left (Nat.le_of_lt hlt), Nat.sub_self, List.set_cons_zero, List.append_assoc, List.cons_append, List.nil_append]
    rw [show off + k + 1 + l.length = off + k + (l.length + 1) by omega]
theorem run_buildSlice1 {t e : TypeId} {size bytes : Nat} (he : ElemT P t e size bytes) {v : Value} (hv : v.cells.size = size) (hs : size ≤ 16777216) (w : World) :
    (Instr.buildSlice t 1 #[(0, v)]).run P w = .ok (.slice (some ⟨w.heap.size, 0, none⟩) 1 1) (w.alloc (.cells v.cells e)) := by
  obtain ⟨ht, h0, i, z, hi, hz, hsize, hby, hzs⟩ := he
  have hf : Instr.fill (fun i => some (i * size, size)) ((Array.range (1 * size)).map (z.cells[· % z.cells.size]!)) [(0, v)] = some v.cells := by
    simp only [Instr.fill]
    rw [if_neg (by simp [hv])]
    congr 1
    apply Array.ext'
    rw [← Array.foldl_toList, Array.toList_zipIdx]
    have := fold_set v.cells.toList (0 * size) 0 ((Array.range (1 * size)).map (z.cells[· % z.cells.size]!)) (by simp [hv])
    simp only [Nat.zero_mul, Nat.zero_add, Nat.add_zero] at this ⊢
    rw [this]
    simp [hv]
  have hne : ¬ (16777216 < size) := by omega
  have hz0 : size ≠ 0 := by omega
  simp only [Nat.one_mul] at hf
  simp [Instr.buildSlice, run_underlying ht, sizeOf, typeInfo, hi, hsize, hne, hz0, zeroValue, hz, hf, newRow]
theorem val_bs1 {K : Value → World → Prop} (h : Hp S w0 w L) {t e : TypeId} {size bytes : Nat} (he : ElemT P t e size bytes) {v : Value} (hv : v.cells.size = size) (hs : size ≤ 16777216)
    (k : ∀ (B : Nat) (w1 : World), w.heap.size = B → Pure w w1 → Hp S w0 w1 (.blk B v.cells e :: L) → K (.slice (some ⟨B, 0, none⟩) 1 1) w1) : val P (Instr.buildSlice t 1 #[(0, v)]) w K :=
  val_bs h (run_buildSlice1 he hv hs w) k
/-! ### Copies -/
theorem val_copyB {K : Value → World → Prop} (h : Hp S w0 w L) {q : Nat} {t ty e : TypeId} {bytes : Nat} (he : ElemT P t e 1 bytes) {B o dl dc : Nat} {cs : Array Value} {T : TypeId} (hk' : At L q (.blk B cs T)) {b : Option Addr} {m c : Nat} {ys : List Value} (hl : Lies w b ys) (hm : ys.length = m) (hd : m ≤ dl) (hfit : o + m ≤ cs.size) (h1 : ∀ u ∈ ys, u.oneCell' = true)
    (k : ∀ w1, Only (fun x => x = B) w w1 → Hp S w0 w1 (L.set q (.blk B (putAt cs o ys) T)) → K (.int .i64 m) w1) : val P (Builtin.copy_ #[t, t] ty #[.slice (some ⟨B, o, none⟩) dl dc, .slice b m c]) w K := by
  obtain ⟨ht, h0, i, z, hi, hz, hsize, hby, hzs⟩ := he
  have hs : (P.info? e).map (·.size) = some 1 := by rw [hi]; simp [hsize]
  have hb : Blk w B cs T := h.get hk'.get
  have hmin : Nat.min m dl = m := Nat.min_eq_left hd
  by_cases hy : ys = []
  · subst hy
    have hm0 : m = 0 := by simpa using hm.symm
    subst hm0
    have hr := run_copy_none (P := P) w t t ty e (some ⟨B, o, none⟩) b dl dc 0 c ht hs (Nat.zero_min _)
    have hp : putAt cs o [] = cs := by unfold putAt; simp
    refine val_ok hr ?_
    have h2 := h.upd hk'.get (Only.refl _ _) (i' := .blk B (putAt cs o []) T) (by rw [hp]; exact hb) (fun k hk => .inl hk)
    exact k w (Only.refl _ _) h2
  · obtain ⟨b', o', rfl, _, hc⟩ := hl.addr hy
    have hr := run_copy_row (P := P) w t t ty e B o dl dc ⟨b', o', none⟩ m c cs T ys ht hs hb (by rw [hmin]; exact hm) (fun j v hj => by
      rw [show (⟨b', o', none⟩ : Addr).add j = ⟨b', o' + j, none⟩ from by unfold Addr.add; split <;> simp_all]
      exact hc j v hj) (by omega) h1
    have hon : Only (fun x => x = B) w (w.setRow B (putAt cs o ys)) := Only.setRow (S := fun x => x = B) (Only.refl _ _) (fun _ => rfl) _
    rw [hm] at hr
    refine val_ok hr ?_
    exact k _ (by unfold putAt at hon; rw [hm] at hon; exact hon) (by
      have h2 := h.upd hk'.get hon (i' := .blk B (putAt cs o ys) T) hb.setRow (fun k hk => .inl hk)
      have e1 : (cs.toList.take o ++ ys ++ cs.toList.drop (o + m)).toArray = putAt cs o ys := by unfold putAt; rw [hm]
      rw [e1]
      exact h2)
/-! ### Slices that are made -/
theorem val_make {K : Value → World → Prop} (h : Hp S w0 w L) {t e : TypeId} {size bytes : Nat} (he : ElemT P t e size bytes) {n : Nat} (hb : n * bytes ≤ 281474976710656) (hn : n ≤ maxLen)
    (k : ∀ (B : Nat) (w1 : World), Pure w w1 → (∀ z, (P.info? e).bind (·.zero) = some z → Hp S w0 w1 (.row e size (some ⟨B, 0, none⟩) n n (List.replicate n z.cells.toList).flatten :: L)) → K (.slice (some ⟨B, 0, none⟩) n n) w1) : val P (Instr.makeSlice t (.int .i64 n) (.int .i64 n)) w K := by
  obtain ⟨ht, h0, i, z, hi, hz, hsize, hby, hzs⟩ := he
  have hb' : (i.bytes : Int) * (n : Int) ≤ 281474976710656 := by
    have hh : ((i.bytes * n : Nat) : Int) ≤ 281474976710656 := by rw [hby, Nat.mul_comm]; omega
    rwa [Int.natCast_mul] at hh
  have hr := run_make (P := P) w t e i z ht hi hz .i64 .i64 n n (by omega) (Int.le_refl _) hb' (by unfold maxLen at hn; omega)
  simp only [Int.toNat_natCast, hsize] at hr
  refine val_ok hr (k _ _ ((Only.refl _ _).alloc _) fun z' hz' => ?_)
  have : z' = z := by rw [hi] at hz'; simp [hz] at hz'; exact hz'.symm
  subst this
  have e1 : (madeCells z'.cells (n * size)).toList = (List.replicate n z'.cells.toList).flatten := by
    unfold madeCells
    apply List.ext_getElem?
    intro j
    by_cases hj : j < n * size
    · have hjs : j % size < size := Nat.mod_lt _ h0
      have hq : j / size < n := Nat.div_lt_of_lt_mul (by rw [Nat.mul_comm]; exact hj)
      have h2 := flat_part (f := id) (n := size) (List.replicate n z'.cells.toList) (fun x hx => by rw [(List.mem_replicate.1 hx).2]; simpa using hzs) (i := j / size) (by simpa using hq)
      have h3 : ((List.replicate n z'.cells.toList).flatten)[j]? = z'.cells.toList[j % size]? := by
        have h4 := congrArg (fun l => l[j % size]?) h2
        simp only [List.getElem?_take, if_pos hjs, List.getElem?_drop] at h4
        rw [show j / size * size + j % size = j by rw [Nat.mul_comm]; exact Nat.div_add_mod j size] at h4
        simpa [List.flatMap_id] using h4
      rw [h3]
      simp [hj, hzs, hjs]
    · rw [List.getElem?_eq_none (by simp; omega), List.getElem?_eq_none]
      have h2 := flat_len (f := id) (n := size) (List.replicate n z'.cells.toList) (fun x hx => by rw [(List.mem_replicate.1 hx).2]; simpa using hzs)
      simp only [List.flatMap_id, List.length_replicate] at h2
      omega
  have hnew := h.new (madeCells z'.cells (n * size)) e
  have := hnew.asRow .zero size n (by simp [madeCells]) hn
  rw [e1] at this
  exact this
/-! ### Appends onto a slice that has no room -/
theorem val_appF {K : Value → World → Prop} (h : Hp S w0 w L) {t ty e : TypeId} {size bytes : Nat} (he : ElemT P t e size bytes) {a : Option Addr} {n : Nat} {xs : List Value} (hxs : Lies w a xs) (hn : xs.length = n * size)
    {b : Option Addr} {m c : Nat} {ys : List Value} (hl : Lies w b ys) (hm : ys.length = m * size) (h1 : ∀ u ∈ ys, u.oneCell' = true) (hm0 : 0 < m) (h63 : n + m ≤ maxLen) (hbytes : (n + m) * bytes ≤ 140737488355328)
    (k : ∀ a' cap' w1, Pure w w1 → Hp S w0 w1 (.row e size a' (n + m) cap' (xs ++ ys) :: L) → K (.slice a' (n + m) cap') w1) :
    val P (Builtin.append_ #[t, t] ty #[.slice a n n, .slice b m c]) w K := by
  obtain ⟨ht, h0, i, z, hi, hz, hsize, hby, hzs⟩ := he
  subst hsize
  subst hby
  have hs := src_lies (c := c) ht h0 hm hl h1
  have hsmall : n + m ≤ 9223372036854775807 := by simp only [maxLen] at h63; omega
  have hold : (Builtin.firstCells i.size n (.slice a n n)).run P w.drew = .ok xs.toArray w.drew := by
    by_cases hx : xs = []
    · subst hx
      have hn0 : n = 0 := by
        rcases Nat.eq_zero_or_pos n with h' | h'
        · exact h'
        · have := Nat.mul_pos h' h0; simp at hn; omega
      subst hn0
      cases a with
      | none => exact run_firstCells_none w.drew i.size 0 0 0
      | some ad => exact run_firstCells_some w.drew i.size 0 ad 0 0 [] (by simp) (by simp)
    · obtain ⟨b', o', rfl, _, hc⟩ := hxs.addr hx
      exact run_firstCells_some w.drew i.size n ⟨b', o', none⟩ n n xs hn (fun j u hj => by
        rw [show (⟨b', o', none⟩ : Addr).add j = ⟨b', o' + j, none⟩ from by unfold Addr.add; split <;> simp_all]
        exact hc j u hj)
  have hr := run_append_grow_src (P := P) w t t ty e i z ht hi hz a n n xs hold _ m ys hs (by omega) (by omega) (growslice_fits (by omega) hbytes)
  have hge := grownCap_ge w (n + m) n e
  have hlen : (xs ++ ys).length = (n + m) * i.size := by rw [List.length_append, hn, hm, Nat.add_mul]
  refine val_ok hr (k _ _ _ ?_ ?_)
  · exact (Only.refl _ _).drew.alloc _
  · refine h.fresh (i := .row e i.size _ (n + m) _ (xs ++ ys)) ((Only.refl _ _).drew.alloc _) ?_ (fun q hq => ?_)
    · refine ⟨hlen, hge, grownCap_le_maxLen w (n + m) n e h63, .inr ⟨w.heap.size, _, rfl, heap_alloc_new w.drew _, ?_, ?_⟩⟩
      · simp only [Array.size_append, List.size_toArray, size_zeroCells, hzs, hlen, ← Nat.add_mul]
        congr 1
        omega
      · simp only [Array.toList_append]
        rw [← hlen]
        exact List.take_left
    · have : some w.heap.size = some q := hq
      injection this with this
      omega
/-- An item that goes to the head of the list. -/
theorem At.front {L : List It} {j : Nat} {i : It} (h : At L j i) (i' : It) : (i' :: L.eraseIdx j).Perm (L.set j i') := by
  induction h with
  | zero => exact List.Perm.refl _
  | succ h ih => exact (List.Perm.swap _ _ _).trans (ih.cons _)
theorem Hp.back1 {j : Nat} {i i' : It} (H : Hp S w0 w (i' :: L.eraseIdx j)) (h : At L j i) : Hp S w0 w (L.set j i') := H.perm (h.front i').symm
/-! ### A call that changes one thing alone -/
theorem Hp.one {i : It} (h : i.ok w) : Hp i.fp w w [i] :=
  ⟨Only.refl _ _, fun x hx => by rw [List.mem_singleton.1 hx]; exact h, List.pairwise_singleton _ _, fun x hx k hk => by rw [List.mem_singleton.1 hx] at hk; exact .inr hk⟩
theorem Hp.frame0 {w' : World} {i : It} {N M : List It} (H : Hp S w0 w (i :: M)) (H2 : Hp i.fp w w' N) : Hp S w0 w' (N ++ M) := by
  have hap := List.pairwise_cons.1 H.apart
  have hown := H.own i (List.mem_cons_self ..)
  refine ⟨H.only.trans H2.only (fun k hk hik => (hown k hik).resolve_left (by omega)), fun x hx => ?_, List.pairwise_append.2 ⟨H2.apart, hap.2, fun x hx y hy k hk hk' => ?_⟩, fun x hx k hk => ?_⟩
  · rcases List.mem_append.1 hx with hx | hx
    · exact H2.ok x hx
    · exact It.only (H.ok x (List.mem_cons_of_mem _ hx)) H2.only (fun k hk hik => hap.1 x hx k hik hk)
  · rcases H2.own x hx k hk with h | h
    · have := y.lt (H.ok y (List.mem_cons_of_mem _ hy)) hk'; omega
    · exact hap.1 y hy k h hk'
  · rcases List.mem_append.1 hx with hx | hx
    · rcases H2.own x hx k hk with h | h
      · exact .inl (Nat.le_trans H.only.size h)
      · exact hown k h
    · exact H.own x (List.mem_cons_of_mem _ hx) k hk
theorem Hp.toFront {i : It} (H : Hp S w0 w L) (hk : At L j i) : Hp S w0 w (i :: L.eraseIdx j) := by
  have hset : L.set j i = L := by
    obtain ⟨hlt, he⟩ := List.getElem?_eq_some_iff.1 hk.get
    rw [← he, List.set_getElem_self]
  have hp := hk.front i
  rw [hset] at hp
  exact H.perm hp
theorem Hp.frame {w' : World} {i i' : It} {N : List It} (H : Hp S w0 w L) (hk : At L j i) (H2 : Hp i.fp w w' (i' :: N)) : Hp S w0 w' (N ++ L.set j i') := by
  have h := (H.toFront hk).frame0 H2
  refine h.perm ?_
  refine (List.Perm.append_left N (hk.front i').symm).trans ?_
  rw [List.cons_append]
  exact List.perm_middle
theorem Hp.frame1 {w' : World} {i i' : It} (H : Hp S w0 w L) (hk : At L j i) (H2 : Hp i.fp w w' [i']) : Hp S w0 w' (L.set j i') := by
  simpa using H.frame hk H2
/-- What lies in another thing, or in old memory, is not touched. -/
theorem Hp.off {i : It} (H : Hp (fun _ => False) w0 w L) (hk : At L j i) {a : Option Addr} {xs : List Value} (hl : Lies w0 a xs) (hx : xs ≠ []) : ∀ q, ablk a = some q → ¬ i.fp q := by
  intro q hq hf
  obtain ⟨b, o, rfl, hb, _⟩ := hl.addr hx
  have : q = b := by simpa [ablk] using hq.symm
  subst this
  rcases H.own i hk.mem q hf with h | h
  · omega
  · exact h
/-! ### Regions whose first phases change nothing -/
def uT (w : World) (h : Nat) : Nat → World → Prop := fun p w' => p ≤ h → Pure w w'
theorem drw_u {B : (Nat → World → Prop) → World → Prop} (H : Hp S w0 w L) (h : Nat) (k : ∀ w1, Pure w w1 → Hp S w0 w1 L → B (uT w1 h) w1) : drw w B := drw_iff.2 ⟨uT w.drew h, fun _ => Only.refl _ _, k _ (Only.refl _ _).drew H.drew⟩
theorem ph_u {w' : World} {X : Prop} {p h : Nat} (hp : Pure w w') (k : X) : ph (uT w h) p w' X := ph_iff.2 ⟨fun _ => hp, k⟩
theorem ph_v {w' : World} {X : Prop} {p h : Nat} (hp : h < p) (k : X) : ph (uT w h) p w' X := ph_iff.2 ⟨fun hh => by omega, k⟩
theorem tk_uld {K : Value → Prop} (H : Hp S w0 w L) {hi h : Nat} (hh : hi ≤ h) {ty : TypeId} {B i : Nat} {cs : Array Value} {T : TypeId} {v : Value} (h1 : ∀ w, (isAgg ty).run P w = .ok false w) {q : Nat} (hm : At L q (It.blk B cs T)) (hv : cs.toList[i]? = some v) (k : K v) :
    tk P (uT w h) hi (ld1 ty (.pointer (some ⟨B, i, none⟩))) K := tk_iff.2 ⟨v, fun p w' hp hT => ld1_eq .. ▸ run_load1 h1 ((H.pure (hT (Nat.le_trans hp hh))).cell hm.mem hv), k⟩
theorem tk_uldB {K : Value → Prop} (H : Hp S w0 w L) {hi h : Nat} (hh : hi ≤ h) {ty : TypeId} {B : Nat} {cs : Array Value} {T : TypeId} {q : Nat} (hm : At L q (It.blk B cs T)) (ht : AggT P ty cs.size) (k : K (.agg cs)) :
    tk P (uT w h) hi (ldS ty (.pointer (some ⟨B, 0, none⟩))) K := tk_iff.2 ⟨_, fun p w' hp hT => ldS_eq .. ▸ run_ldA ht (by simp) (Blk.lies ((H.pure (hT (Nat.le_trans hp hh))).ok _ hm.mem)), k⟩
theorem tk_ull {K : Value → Prop} {hi h : Nat} (hh : hi ≤ h) {ty : TypeId} {n : Nat} (ht : AggT P ty n) {b o : Nat} {xs : List Value} (hn : xs.length = n) (hl : Lies w (some ⟨b, o, none⟩) xs) (k : K (.agg xs.toArray)) :
    tk P (uT w h) hi (ldS ty (.pointer (some ⟨b, o, none⟩))) K := tk_iff.2 ⟨_, fun p w' hp hT => ldS_eq .. ▸ run_ldA ht hn (hl.pure (hT (Nat.le_trans hp hh))), k⟩
theorem tk_upu {K : Value → Prop} {hi h : Nat} {s : Sem Value} {v : Value} (hs : ∀ w, s.run P w = .ok v w) (k : K v) : tk P (uT w h) hi s K := tk_iff.2 ⟨v, fun p w' _ _ => hs w', k⟩
end
end Go.Proofs.Ytchmcjimnliodaa
end
section
set_option linter.unusedSimpArgs false
set_option linter.unusedVariables false
/- The octets of chapter 1 as plain Lean: what the writer puts, what the reader takes. No program in sight. -/
namespace Go.Proofs.Ytchmcjimnliodaa

/-- A number's bytes: seven bits each, the lowest first. -/
def num (x : Nat) : List UInt8 :=
  if h : x < 128 then [UInt8.ofNat x] else UInt8.ofNat (x % 128 + 128) :: num (x / 128)
termination_by x
decreasing_by omega
theorem num_small {x : Nat} (h : x < 128) : num x = [UInt8.ofNat x] := by rw [num, dif_pos h]
theorem num_big {x : Nat} (h : ¬ x < 128) : num x = UInt8.ofNat (x % 128 + 128) :: num (x / 128) := by rw [num, dif_neg h]
theorem num_pos (x : Nat) : 1 ≤ (num x).length := by
  by_cases h : x < 128
  · rw [num_small h]; simp
  · rw [num_big h]; simp
theorem num_length (k : Nat) : ∀ x, x < 128 ^ k → (num x).length ≤ max k 1 := by
  induction k with
  | zero => intro x hx; simp at hx; subst hx; rw [num_small (by omega)]; simp
  | succ k ih =>
    intro x hx
    by_cases h : x < 128
    · rw [num_small h]; simp
    · rw [num_big h]
      have := ih (x / 128) (by rw [Nat.pow_succ] at hx; omega)
      cases k with
      | zero => simp at hx; omega
      | succ k => simp only [List.length_cons]; omega
theorem num_length10 {x : Nat} (h : x < 18446744073709551616) : (num x).length ≤ 10 := by
  have := num_length 10 x (by omega)
  omega
theorem byte_low (y : Nat) : ((y : Int) % 256) = ((UInt8.ofNat y).toNat : Int) := by
  rw [UInt8.toNat_ofNat']; simp
theorem toNat_small {y : Nat} (h : y < 256) : (UInt8.ofNat y).toNat = y := by
  rw [UInt8.toNat_ofNat']; exact Nat.mod_eq_of_lt h
/-- An int64. -/
def I64 (x : Int) : Prop := -9223372036854775808 ≤ x ∧ x ≤ 9223372036854775807
/-- A signed number as a number. -/
def fold (x : Int) : Nat := if 0 ≤ x then (2 * x).toNat else (-2 * x - 1).toNat
/-- A number as a signed one. -/
def unfold (n : Nat) : Int := if n % 2 = 0 then ((n / 2 : Nat) : Int) else -((n / 2 : Nat) : Int) - 1
theorem fold_lt {x : Int} (h : I64 x) : fold x < 18446744073709551616 := by
  obtain ⟨h1, h2⟩ := h
  unfold fold; split <;> omega
theorem unfold_fold (x : Int) : unfold (fold x) = x := by
  unfold fold unfold; split <;> split <;> omega
theorem fold_unfold (n : Nat) : fold (unfold n) = n := by
  unfold fold unfold; split <;> split <;> omega
theorem unfold_i64 {n : Nat} (h : n < 18446744073709551616) : I64 (unfold n) := by
  unfold unfold I64; split <;> omega
/-- A reader: the bytes that are left, and the first error. -/
structure Rs where
  b : List UInt8
  e : Int
/-- May a byte stand at this place of a number? -/
def numBad (sh : Nat) (c : UInt8) : Bool := (63 < sh) || (sh == 63 && 1 < c.toNat) || (c.toNat == 0 && 0 < sh)
/-- A number that is read, `x` having been read below bit `sh`. -/
def dec (sh x : Nat) : List UInt8 → Nat × Rs
  | [] => (0, ⟨[], 4⟩)
  | c :: t => if numBad sh c = true then (0, ⟨[], 2⟩) else if c.toNat < 128 then (x + c.toNat * 2 ^ sh, ⟨t, 0⟩) else dec (sh + 7) (x + (c.toNat - 128) * 2 ^ sh) t
def Rs.fail (s : Rs) (k : Int) : Rs := if s.e = 0 then ⟨[], k⟩ else s
def Rs.one (s : Rs) : Nat × Rs := if s.e = 0 then (match s.b with | [] => (0, ⟨[], 4⟩) | c :: t => (c.toNat, ⟨t, 0⟩)) else (0, s)
def Rs.num (s : Rs) : Nat × Rs := if s.e = 0 then dec 0 0 s.b else (0, s)
def Rs.int (s : Rs) : Int × Rs := (unfold s.num.1, s.num.2)
def Rs.count (s : Rs) (most : Int) : Nat × Rs := if max most 0 < (s.num.1 : Int) then (0, s.num.2.fail 15) else s.num
def Rs.text (s : Rs) (most : Int) : List UInt8 × Rs :=
  let n := (s.count most).1
  let t := (s.count most).2
  if t.e = 0 then (if n ≤ t.b.length then (t.b.take n, ⟨t.b.drop n, 0⟩) else ([], ⟨[], 4⟩)) else ([], t)
def Rs.flag (s : Rs) : Bool × Rs := if 1 < s.one.1 then (false, s.one.2.fail 2) else (s.one.1 == 1, s.one.2)
def Rs.left (s : Rs) : Nat := if s.e = 0 then s.b.length else 0
def Rs.fin (s : Rs) : Int := if 0 < s.left then 15 else s.e
end Go.Proofs.Ytchmcjimnliodaa
end
section
set_option linter.unusedSimpArgs false
set_option linter.unusedVariables false
/- The sums of chapter 2 as plain Lean. No program in sight. -/
namespace Go.Proofs.Ytchmcjimnliodaa

/-- One bit more. -/
def cbit (s : BitVec 32) : BitVec 32 := if s.getLsbD 0 then (s >>> 1) ^^^ 3988292384#32 else s >>> 1
def cbits : Nat → BitVec 32 → BitVec 32
  | 0, s => s
  | k + 1, s => cbit (cbits k s)
/-- One byte more. -/
def cstep (s : BitVec 32) (b : UInt8) : BitVec 32 := cbits 8 (s ^^^ BitVec.ofNat 32 b.toNat)
/-- More bytes. -/
def more (s : BitVec 32) (l : List UInt8) : BitVec 32 := ~~~(l.foldl cstep (~~~s))
/-- A sum as bytes. -/
def four (s : BitVec 32) : List UInt8 := [UInt8.ofNat s.toNat, UInt8.ofNat (s.toNat / 256), UInt8.ofNat (s.toNat / 65536), UInt8.ofNat (s.toNat / 16777216)]
theorem four_length (s : BitVec 32) : (four s).length = 4 := rfl
end Go.Proofs.Ytchmcjimnliodaa
end
section
set_option linter.unusedSimpArgs false
set_option linter.unusedVariables false
/- Frames of chapter 3 as plain Lean. No program in sight. -/
namespace Go.Proofs.Ytchmcjimnliodaa

/-- A record. -/
structure Rec where
  k : UInt8
  d : List UInt8
/-- All of a frame but the sum. -/
def headb (r : Rec) : List UInt8 := [197, r.k] ++ (num r.d.length ++ r.d)
/-- A frame. -/
def frameb (s : BitVec 32) (r : Rec) : List UInt8 := headb r ++ four (more s (headb r))
def frameSum (s : BitVec 32) (r : Rec) : BitVec 32 := more s (headb r)
/-- The record that bytes begin with, how many bytes it has, and its sum. -/
def nxt (s : BitVec 32) (b : List UInt8) : Except Int (Rec × Nat × BitVec 32) :=
  match b with
  | [] => .error 4
  | c :: b1 => if c ≠ 197 then .error 2 else match b1 with
    | [] => .error 4
    | k :: rest =>
      let r := Rs.count ⟨rest, 0⟩ 1024
      if r.2.e ≠ 0 then .error r.2.e
      else
        let at_ := b.length - r.2.left
        if r.2.left < r.1 + 4 then .error 4
        else
          let s' := more s (b.take (at_ + r.1))
          if four s' ≠ (b.drop (at_ + r.1)).take 4 then .error 5
          else .ok (⟨k, (b.drop at_).take r.1⟩, at_ + r.1 + 4, s')
theorem dec_len (bs : List UInt8) : ∀ sh x, (dec sh x bs).2.b.length ≤ bs.length := by
  induction bs with
  | nil => intro sh x; simp [dec]
  | cons c t ih =>
    intro sh x
    rw [dec]
    split
    · simp
    · split
      · simp
      · have := ih (sh + 7) (x + (c.toNat - 128) * 2 ^ sh); simp; omega
theorem num_len (s : Rs) : s.num.2.b.length ≤ s.b.length := by
  unfold Rs.num; split
  · exact dec_len _ _ _
  · exact Nat.le_refl _
theorem count_len (s : Rs) (m : Int) : (s.count m).2.b.length ≤ s.b.length := by
  unfold Rs.count; split
  · unfold Rs.fail; split
    · simp
    · exact num_len s
  · exact num_len s
theorem count_le (s : Rs) {m : Int} (hm : 0 ≤ m) : ((s.count m).1 : Int) ≤ m := by
  unfold Rs.count; split
  · simpa using hm
  · omega
theorem left_le (s : Rs) : s.left ≤ s.b.length := by unfold Rs.left; split <;> omega
theorem nxt_len {s : BitVec 32} {b : List UInt8} {r : Rec} {n : Nat} {s' : BitVec 32} (h : nxt s b = .ok (r, n, s')) : 4 < n ∧ n ≤ b.length ∧ r.d.length ≤ 1024 := by
  unfold nxt at h
  cases b with
  | nil => cases h
  | cons c b1 =>
    dsimp only at h
    split at h
    · cases h
    · cases b1 with
      | nil => cases h
      | cons k rest =>
        dsimp only at h
        split at h
        · cases h
        · split at h
          · cases h
          · split at h
            · cases h
            · rename_i h1 h2 h3
              injection h with h
              injection h with hr h
              injection h with hn hs
              have hl : (Rs.count ⟨rest, 0⟩ 1024).2.left ≤ rest.length := Nat.le_trans (left_le _) (count_len _ _)
              have hc : ((Rs.count ⟨rest, 0⟩ 1024).1 : Int) ≤ 1024 := count_le ⟨rest, 0⟩ (m := 1024) (by decide)
              subst hr
              simp only [List.length_cons, List.length_take, List.length_drop] at *
              omega
/-- The records that a chain tells, and where each begins; how many bytes it has, and the last sum. -/
def scan (s : BitVec 32) (at_ : Nat) (b : List UInt8) : List (Nat × Rec) × Nat × BitVec 32 :=
  match nxt s b with
  | .error _ => ([], at_, s)
  | .ok (r, n, s') => if _h : 0 < n ∧ 0 < b.length then ((at_, r) :: (scan s' (at_ + n) (b.drop n)).1, (scan s' (at_ + n) (b.drop n)).2) else ([], at_, s)
termination_by b.length
decreasing_by all_goals (simp; omega)
theorem scan_err {s : BitVec 32} {at_ : Nat} {b : List UInt8} {e : Int} (h : nxt s b = .error e) : scan s at_ b = ([], at_, s) := by rw [scan, h]
theorem scan_ok {s : BitVec 32} {at_ : Nat} {b : List UInt8} {r : Rec} {n : Nat} {s' : BitVec 32} (h : nxt s b = .ok (r, n, s')) :
    scan s at_ b = ((at_, r) :: (scan s' (at_ + n) (b.drop n)).1, (scan s' (at_ + n) (b.drop n)).2) := by
  have := nxt_len h
  rw [scan, h]
  exact dif_pos (by omega)
theorem nxt_nil (s : BitVec 32) : nxt s [] = .error 4 := rfl
theorem dec_e (bs : List UInt8) : ∀ sh x, (dec sh x bs).2.e = 0 ∨ (dec sh x bs).2.e = 4 ∨ (dec sh x bs).2.e = 2 := by
  induction bs with
  | nil => intro sh x; simp [dec]
  | cons c t ih =>
    intro sh x
    rw [dec]
    split
    · simp
    · split
      · simp
      · exact ih _ _
theorem nxt_err_ne {s : BitVec 32} {b : List UInt8} {e : Int} (h : nxt s b = .error e) : e ≠ 0 := by
  unfold nxt at h
  cases b with
  | nil => cases h; decide
  | cons c b1 =>
    dsimp only at h
    split at h
    · cases h; decide
    · cases b1 with
      | nil => cases h; decide
      | cons k rest =>
        dsimp only at h
        split at h
        · rename_i h2; cases h; exact h2
        · split at h
          · cases h; decide
          · split at h
            · cases h; decide
            · cases h
end Go.Proofs.Ytchmcjimnliodaa
end
section
set_option linter.unusedSimpArgs false
set_option linter.unusedVariables false
/- Frames of chapter 3: what the laws say of them, in plain Lean. No program in sight. -/
namespace Go.Proofs.Ytchmcjimnliodaa

theorem numBad_iff (sh : Nat) (c : UInt8) : numBad sh c = true ↔ 63 < sh ∨ (sh = 63 ∧ 1 < c.toNat) ∨ (c.toNat = 0 ∧ 0 < sh) := by
  simp [numBad]; omega
/-- What was read is how it would be written. -/
theorem dec_num (t : List UInt8) : ∀ k x, (dec (7 * k) x t).2.e = 0 → ∃ v, (dec (7 * k) x t).1 = x + v * 2 ^ (7 * k) ∧ num v ++ (dec (7 * k) x t).2.b = t ∧ (0 < k → v ≠ 0) := by
  induction t with
  | nil => intro k x h; simp [dec] at h
  | cons c t ih =>
    intro k x h
    by_cases hb : numBad (7 * k) c = true
    · rw [dec, if_pos hb] at h; simp at h
    · have hb' := hb
      rw [numBad_iff] at hb'
      rw [dec, if_neg hb] at h ⊢
      by_cases hc : c.toNat < 128
      · rw [if_pos hc]
        refine ⟨c.toNat, rfl, ?_, by omega⟩
        rw [num_small hc]; simp
      · rw [if_neg hc] at h ⊢
        rw [show 7 * k + 7 = 7 * (k + 1) by omega] at h ⊢
        obtain ⟨v, h1, h2, h3⟩ := ih (k + 1) _ h
        have hv := h3 (by omega)
        refine ⟨(c.toNat - 128) + 128 * v, ?_, ?_, by omega⟩
        · rw [h1, Nat.add_mul, Nat.add_assoc, show 2 ^ (7 * (k + 1)) = 128 * 2 ^ (7 * k) by rw [Nat.mul_add, Nat.pow_add, Nat.mul_comm]]
          congr 2
          rw [Nat.mul_comm v, Nat.mul_assoc, Nat.mul_assoc, Nat.mul_comm v]
        · have hlt := c.toNat_lt
          rw [num_big (by omega), show ((c.toNat - 128) + 128 * v) % 128 + 128 = c.toNat by omega, show ((c.toNat - 128) + 128 * v) / 128 = v by omega]
          simp [h2]
theorem dec_err (t : List UInt8) : ∀ sh x, (dec sh x t).2.e ≠ 0 → (dec sh x t).1 = 0 ∧ (dec sh x t).2.b = [] := by
  induction t with
  | nil => intro sh x _; simp [dec]
  | cons c t ih =>
    intro sh x h
    rw [dec] at h ⊢
    split at h
    · rename_i hb; simp [hb]
    · rename_i hb
      split at h
      · simp at h
      · rename_i hc; simp only [hb, hc, if_false]; exact ih _ _ h
theorem num_dec (v : Nat) : ∀ k x z, k ≤ 9 → v < 2 ^ (64 - 7 * k) → (0 < k → v ≠ 0) → dec (7 * k) x (num v ++ z) = (x + v * 2 ^ (7 * k), ⟨z, 0⟩) := by
  induction v using Nat.strongRecOn with
  | ind v ih =>
  intro k x z hk hv h0
  by_cases h : v < 128
  · rw [num_small h, List.singleton_append, dec]
    have ht : (UInt8.ofNat v).toNat = v := toNat_small (by omega)
    have hb : ¬ numBad (7 * k) (UInt8.ofNat v) = true := by
      rw [numBad_iff, ht]
      intro hc
      rcases hc with hc | ⟨hc, h1⟩ | ⟨hc, h1⟩
      · omega
      · have : k = 9 := by omega
        subst this
        simp at hv; omega
      · exact h0 (by omega) hc
    rw [if_neg hb, if_pos (by rw [ht]; exact h), ht]
  · have hlt : k < 9 := by
      rcases Nat.lt_or_ge k 9 with h9 | h9
      · exact h9
      · have : k = 9 := by omega
        subst this; simp at hv; omega
    have ht : (UInt8.ofNat (v % 128 + 128)).toNat = v % 128 + 128 := toNat_small (by omega)
    rw [num_big h, List.cons_append, dec]
    have hb : ¬ numBad (7 * k) (UInt8.ofNat (v % 128 + 128)) = true := by
      rw [numBad_iff, ht]; omega
    rw [if_neg hb, if_neg (by rw [ht]; omega), ht, show 7 * k + 7 = 7 * (k + 1) by omega]
    rw [ih (v / 128) (by omega) (k + 1) _ z (by omega) ?_ (by omega)]
    · rw [show 2 ^ (7 * (k + 1)) = 128 * 2 ^ (7 * k) by rw [Nat.mul_add, Nat.pow_add, Nat.mul_comm]]
      congr 1
      rw [Nat.add_assoc, ← Nat.mul_assoc, ← Nat.add_mul]
      congr 2
      omega
    · rw [show 64 - 7 * k = (64 - 7 * (k + 1)) + 7 by omega, Nat.pow_add] at hv
      omega
theorem dec_whole {v : Nat} (hv : v < 18446744073709551616) (z : List UInt8) : dec 0 0 (num v ++ z) = (v, ⟨z, 0⟩) := by
  have := num_dec v 0 0 z (by omega) (by simpa using hv) (by omega)
  simpa using this
theorem dec_cut (v : Nat) : ∀ sh x j, j < (num v).length → (dec sh x ((num v).take j)).2.e ≠ 0 := by
  induction v using Nat.strongRecOn with
  | ind v ih =>
  intro sh x j hj
  cases j with
  | zero => simp [dec]
  | succ j =>
    by_cases h : v < 128
    · rw [num_small h] at hj; simp at hj
    · rw [num_big h] at hj ⊢
      rw [List.take_succ_cons, dec]
      split
      · simp
      · have ht : (UInt8.ofNat (v % 128 + 128)).toNat = v % 128 + 128 := toNat_small (by omega)
        rw [if_neg (by rw [ht]; omega)]
        exact ih (v / 128) (by omega) _ _ j (by simpa using hj)
theorem count_val {t rest : List UInt8} {v : Nat} (h : dec 0 0 t = (v, ⟨rest, 0⟩)) (hv : v ≤ 1024) : Rs.count ⟨t, 0⟩ 1024 = (v, ⟨rest, 0⟩) := by
  have : Rs.num ⟨t, 0⟩ = (v, ⟨rest, 0⟩) := by simp [Rs.num, h]
  unfold Rs.count
  rw [this, if_neg (by simp; omega)]
theorem count_bad {t : List UInt8} (h : (dec 0 0 t).2.e ≠ 0) : Rs.count ⟨t, 0⟩ 1024 = (0, ⟨[], (dec 0 0 t).2.e⟩) := by
  have h1 := dec_err t 0 0 h
  have h2 : Rs.num ⟨t, 0⟩ = dec 0 0 t := by simp [Rs.num]
  unfold Rs.count
  rw [h2, h1.1, if_neg (by decide)]
  ext1
  · exact h1.1
  · rw [← h1.2]
theorem count_long {t rest : List UInt8} {v : Nat} (h : dec 0 0 t = (v, ⟨rest, 0⟩)) (hv : 1024 < v) : Rs.count ⟨t, 0⟩ 1024 = (0, ⟨[], 15⟩) := by
  have : Rs.num ⟨t, 0⟩ = (v, ⟨rest, 0⟩) := by simp [Rs.num, h]
  unfold Rs.count
  rw [this, if_pos (by simp; omega)]
  simp [Rs.fail]
theorem nxt_rest_bad (s : BitVec 32) (k : UInt8) {t : List UInt8} (h : (dec 0 0 t).2.e ≠ 0) : nxt s (197 :: k :: t) = .error (dec 0 0 t).2.e := by
  unfold nxt
  simp [count_bad h, h]
theorem nxt_rest_long (s : BitVec 32) (k : UInt8) {t rest : List UInt8} {v : Nat} (h : dec 0 0 t = (v, ⟨rest, 0⟩)) (hv : 1024 < v) : nxt s (197 :: k :: t) = .error 15 := by
  unfold nxt
  simp [count_long h hv]
theorem nxt_rest_short (s : BitVec 32) (k : UInt8) {t rest : List UInt8} {v : Nat} (h : dec 0 0 t = (v, ⟨rest, 0⟩)) (hv : v ≤ 1024) (hs : rest.length < v + 4) : nxt s (197 :: k :: t) = .error 4 := by
  unfold nxt
  simp [count_val h hv, Rs.left, hs]
theorem take_pre {α : Type} (l k : List α) (n : Nat) (h : n = l.length) : (l ++ k).take n = l := by subst h; simp
theorem drop_pre {α : Type} (l k : List α) (n : Nat) (h : n = l.length) : (l ++ k).drop n = k := by subst h; simp
/-- A record whose length is read well, and that is there whole. -/
theorem nxt_whole (s : BitVec 32) (k : UInt8) (d y z : List UInt8) (hd : d.length ≤ 1024) (hy : y.length = 4) :
    nxt s (headb ⟨k, d⟩ ++ (y ++ z)) = if y = four (more s (headb ⟨k, d⟩)) then .ok (⟨k, d⟩, (frameb s ⟨k, d⟩).length, frameSum s ⟨k, d⟩) else .error 5 := by
  have e0 : headb ⟨k, d⟩ ++ (y ++ z) = 197 :: k :: (num d.length ++ (d ++ (y ++ z))) := by simp [headb]
  have hdec := dec_whole (v := d.length) (by omega) (d ++ (y ++ z))
  have hc := count_val hdec hd
  have hat : (197 :: k :: (num d.length ++ (d ++ (y ++ z)))).length - (d ++ (y ++ z)).length = 2 + (num d.length).length := by simp; omega
  have hhl : (headb ⟨k, d⟩).length = 2 + (num d.length).length + d.length := by simp [headb]; omega
  have t1 : (197 :: k :: (num d.length ++ (d ++ (y ++ z)))).take (2 + (num d.length).length + d.length) = headb ⟨k, d⟩ := by
    rw [← e0]; exact take_pre _ _ _ hhl.symm
  have t2 : ((197 :: k :: (num d.length ++ (d ++ (y ++ z)))).drop (2 + (num d.length).length + d.length)).take 4 = y := by
    rw [← e0, drop_pre _ _ _ hhl.symm]; exact take_pre _ _ _ hy.symm
  have t3 : ((197 :: k :: (num d.length ++ (d ++ (y ++ z)))).drop (2 + (num d.length).length)).take d.length = d := by
    rw [show 197 :: k :: (num d.length ++ (d ++ (y ++ z))) = (197 :: k :: num d.length) ++ (d ++ (y ++ z)) by simp, drop_pre _ _ _ (by simp; omega)]
    exact take_pre _ _ _ rfl
  rw [e0]
  unfold nxt
  simp only [ne_eq, not_true_eq_false, if_false, hc, Rs.left, if_true, hat, t1, t2, t3]
  rw [if_neg (by simp; omega)]
  by_cases h : y = four (more s (headb ⟨k, d⟩))
  · rw [if_neg (by rw [h]; simp), if_pos h]
    simp [frameb, frameSum, hhl, four_length]
  · rw [if_pos (fun e => h e.symm), if_neg h]
theorem nxt_frame (s : BitVec 32) (r : Rec) (z : List UInt8) (hd : r.d.length ≤ 1024) : nxt s (frameb s r ++ z) = .ok (r, (frameb s r).length, frameSum s r) := by
  obtain ⟨k, d⟩ := r
  rw [show frameb s ⟨k, d⟩ ++ z = headb ⟨k, d⟩ ++ (four (more s (headb ⟨k, d⟩)) ++ z) by simp [frameb], nxt_whole s k d _ z hd rfl, if_pos rfl]
theorem nxt_cut (s : BitVec 32) (r : Rec) (hd : r.d.length ≤ 1024) (m : Nat) (hm : m < (frameb s r).length) : ∃ e, nxt s ((frameb s r).take m) = .error e := by
  obtain ⟨k, d⟩ := r
  have e0 : frameb s ⟨k, d⟩ = 197 :: k :: (num d.length ++ (d ++ four (more s (headb ⟨k, d⟩)))) := by simp [frameb, headb]
  rw [e0] at hm ⊢
  obtain ⟨y, hy⟩ : ∃ y, y = four (more s (headb ⟨k, d⟩)) := ⟨_, rfl⟩
  have hyl : y.length = 4 := by rw [hy]; rfl
  rw [← hy] at hm ⊢
  cases m with
  | zero => exact ⟨4, rfl⟩
  | succ m =>
    cases m with
    | zero => exact ⟨4, by simp [nxt]⟩
    | succ m =>
      rw [List.take_succ_cons, List.take_succ_cons]
      by_cases h : m < (num d.length).length
      · rw [List.take_append_of_le_length (by omega)]
        exact ⟨_, nxt_rest_bad s k (dec_cut _ _ _ _ h)⟩
      · rw [List.take_append]
        rw [List.take_of_length_le (by omega)]
        refine ⟨4, nxt_rest_short s k (dec_whole (by simp at hd; omega) _) hd ?_⟩
        simp only [List.length_cons, List.length_append, hyl] at hm
        simp only [List.length_take, List.length_append, hyl]
        omega
/-- The frames of a chain. -/
def chain (s : BitVec 32) : List Rec → List UInt8
  | [] => []
  | r :: l => frameb s r ++ chain (frameSum s r) l
def chainSum (s : BitVec 32) : List Rec → BitVec 32
  | [] => s
  | r :: l => chainSum (frameSum s r) l
/-- Where each record of a chain begins. -/
def starts (s : BitVec 32) (at_ : Nat) : List Rec → List Nat
  | [] => []
  | r :: l => at_ :: starts (frameSum s r) (at_ + (frameb s r).length) l
theorem starts_length (s : BitVec 32) (at_ : Nat) (l : List Rec) : (starts s at_ l).length = l.length := by
  induction l generalizing s at_ with
  | nil => rfl
  | cons r l ih => simp [starts, ih]
theorem chain_append (s : BitVec 32) (l k : List Rec) : chain s (l ++ k) = chain s l ++ chain (chainSum s l) k := by
  induction l generalizing s with
  | nil => rfl
  | cons r l ih => simp [chain, chainSum, ih]
theorem chainSum_append (s : BitVec 32) (l k : List Rec) : chainSum s (l ++ k) = chainSum (chainSum s l) k := by
  induction l generalizing s with
  | nil => rfl
  | cons r l ih => simp [chainSum, ih]
/-- A chain, and whatever is behind it. -/
theorem scan_chain (s : BitVec 32) (at_ : Nat) (l : List Rec) (z : List UInt8) (hl : ∀ r ∈ l, r.d.length ≤ 1024) :
    scan s at_ (chain s l ++ z) = ((starts s at_ l).zip l ++ (scan (chainSum s l) (at_ + (chain s l).length) z).1, (scan (chainSum s l) (at_ + (chain s l).length) z).2) := by
  induction l generalizing s at_ with
  | nil => simp [chain, chainSum, starts]
  | cons r l ih =>
    have h := nxt_frame s r (chain (frameSum s r) l ++ z) (hl r (by simp))
    have e1 : chain s (r :: l) ++ z = frameb s r ++ (chain (frameSum s r) l ++ z) := by simp [chain]
    rw [e1, scan_ok h, drop_pre _ _ _ rfl, ih (frameSum s r) _ (fun x hx => hl x (by simp [hx]))]
    simp [starts, chain, chainSum, Nat.add_assoc]
end Go.Proofs.Ytchmcjimnliodaa
end
section
set_option linter.unusedSimpArgs false
set_option linter.unusedVariables false
/- A byte of a chain that is turned: in plain Lean. No program in sight. -/
namespace Go.Proofs.Ytchmcjimnliodaa

theorem cbit_inj {a b : BitVec 32} (h : cbit a = cbit b) : a = b := by
  have hb : ∀ x : BitVec 32, (cbit x).getLsbD 31 = x.getLsbD 0 := by
    intro x
    unfold cbit
    cases hx : x.getLsbD 0
    · simp
    · simp
  have h0 : a.getLsbD 0 = b.getLsbD 0 := by rw [← hb a, ← hb b, h]
  have hs : a >>> 1 = b >>> 1 := by
    unfold cbit at h
    rw [h0] at h
    cases hx : b.getLsbD 0
    · rw [hx] at h; exact h
    · rw [hx] at h; exact (BitVec.xor_left_inj _).1 h
  apply BitVec.eq_of_getLsbD_eq
  intro i hi
  cases i with
  | zero => exact h0
  | succ i =>
    have := congrArg (fun x => x.getLsbD i) hs
    simp [BitVec.getLsbD_ushiftRight] at this
    rw [Nat.add_comm] at this
    exact this
theorem cbits_inj (k : Nat) {a b : BitVec 32} (h : cbits k a = cbits k b) : a = b := by
  induction k with
  | zero => exact h
  | succ k ih => exact ih (cbit_inj h)
theorem cstep_inj {a b : BitVec 32} {c : UInt8} (h : cstep a c = cstep b c) : a = b := (BitVec.xor_left_inj _).1 (cbits_inj 8 h)
theorem cstep_inj2 {a : BitVec 32} {c d : UInt8} (h : cstep a c = cstep a d) : c = d := by
  have h1 := (BitVec.xor_right_inj _).1 (cbits_inj 8 h)
  have h2 := congrArg BitVec.toNat h1
  simp at h2
  have := c.toNat_lt
  have := d.toNat_lt
  exact UInt8.toNat_inj.1 (by omega)
theorem foldl_cstep_inj (l : List UInt8) : ∀ {a b : BitVec 32}, l.foldl cstep a = l.foldl cstep b → a = b := by
  induction l with
  | nil => intro a b h; exact h
  | cons c l ih => intro a b h; exact cstep_inj (ih h)
/-- One byte turned: another sum. -/
theorem more_turn (s : BitVec 32) (x z : List UInt8) {c d : UInt8} (h : c ≠ d) : more s (x ++ c :: z) ≠ more s (x ++ d :: z) := by
  intro e
  unfold more at e
  have e1 := BitVec.not_inj.1 e
  rw [List.foldl_append, List.foldl_append, List.foldl_cons, List.foldl_cons] at e1
  exact h (cstep_inj2 (foldl_cstep_inj z e1))
theorem four_inj {a b : BitVec 32} (h : four a = four b) : a = b := by
  unfold four at h
  injection h with h1 h; injection h with h2 h; injection h with h3 h; injection h with h4 _
  have k1 := congrArg UInt8.toNat h1
  have k2 := congrArg UInt8.toNat h2
  have k3 := congrArg UInt8.toNat h3
  have k4 := congrArg UInt8.toNat h4
  simp only [UInt8.toNat_ofNat'] at k1 k2 k3 k4
  have := a.isLt
  have := b.isLt
  exact BitVec.eq_of_toNat_eq (by omega)
/-- A frame with a byte turned, not where its length stands, is none. -/
theorem nxt_turn (s : BitVec 32) (r : Rec) (z : List UInt8) (hd : r.d.length ≤ 1024) (p : Nat) (hp : p < (frameb s r).length) (hn : ¬ (2 ≤ p ∧ p < 2 + (num r.d.length).length)) (y : UInt8) (hy : y ≠ (frameb s r)[p]) :
    ∃ e, nxt s ((frameb s r).set p y ++ z) = .error e := by
  obtain ⟨k, d⟩ := r
  obtain ⟨q, hq⟩ : ∃ q, q = four (more s (headb ⟨k, d⟩)) := ⟨_, rfl⟩
  have hql : q.length = 4 := by rw [hq]; rfl
  have e0 : frameb s ⟨k, d⟩ = headb ⟨k, d⟩ ++ q := by rw [frameb, hq]
  have hhl : (headb ⟨k, d⟩).length = 2 + (num d.length).length + d.length := by simp [headb]; omega
  simp only [e0] at hp hy ⊢
  by_cases h0 : p = 0
  · subst h0
    refine ⟨2, ?_⟩
    simp [headb] at hy
    simp [headb, nxt, hy]
  · by_cases hsum : (headb ⟨k, d⟩).length ≤ p
    · refine ⟨5, ?_⟩
      rw [List.set_append_right _ _ hsum, List.append_assoc, nxt_whole s k d _ z hd (by simp [hql])]
      rw [if_neg]
      intro e
      rw [← hq] at e
      have hlt : p - (headb ⟨k, d⟩).length < q.length := by simp at hp; omega
      have := congrArg (fun l => l[p - (headb ⟨k, d⟩).length]?) e
      simp [hlt] at this
      rw [List.getElem_append_right hsum] at hy
      exact hy this
    · rw [List.getElem_append_left (by omega)] at hy
      rw [List.set_append_left _ _ (by omega), List.append_assoc]
      have hset : ∀ r' : Rec, r'.d.length = d.length → headb r' = (headb ⟨k, d⟩).set p y → ∃ e, nxt s ((headb ⟨k, d⟩).set p y ++ (q ++ z)) = .error e := by
        intro r' hl' he
        refine ⟨5, ?_⟩
        rw [← he]
        obtain ⟨k', d'⟩ := r'
        rw [nxt_whole s k' d' q z (by simp at hl' hd; omega) hql, if_neg]
        intro e
        rw [hq] at e
        have e2 := four_inj e
        rw [he] at e2
        have h1 : headb ⟨k, d⟩ = (headb ⟨k, d⟩).take p ++ (headb ⟨k, d⟩)[p] :: (headb ⟨k, d⟩).drop (p + 1) := by
          rw [← List.drop_eq_getElem_cons (by omega), List.take_append_drop]
        have h2 : (headb ⟨k, d⟩).set p y = (headb ⟨k, d⟩).take p ++ y :: (headb ⟨k, d⟩).drop (p + 1) := List.set_eq_take_append_cons_drop ▸ by simp; omega
        rw [h2] at e2
        exact more_turn s _ _ (Ne.symm hy) (by rw [← h1]; exact e2)
      by_cases h1 : p = 1
      · subst h1
        exact hset ⟨y, d⟩ rfl (by simp [headb])
      · have hp2 : 2 + (num d.length).length ≤ p := by
          simp only at hn; omega
        refine hset ⟨k, d.set (p - (2 + (num d.length).length)) y⟩ (by simp) ?_
        have e3 : headb ⟨k, d⟩ = (197 :: k :: num d.length) ++ d := by simp [headb]
        rw [e3, List.set_append_right _ _ (by simp; omega)]
        simp [headb]
        congr 1
        omega
end Go.Proofs.Ytchmcjimnliodaa
end
section
set_option linter.unusedSimpArgs false
set_option linter.unusedVariables false
/- A chain that is cut, or of which a byte is turned: how many records are told. In plain Lean. No program in sight. -/
namespace Go.Proofs.Ytchmcjimnliodaa

/-- Where the record at `i` begins. -/
def pos (s : BitVec 32) (l : List Rec) (i : Nat) : Nat := (chain s (l.take i)).length
theorem pos_zero (s : BitVec 32) (l : List Rec) : pos s l 0 = 0 := rfl
theorem pos_all (s : BitVec 32) (l : List Rec) : pos s l l.length = (chain s l).length := by simp [pos]
theorem chain_split (s : BitVec 32) (l : List Rec) (i : Nat) : chain s l = chain s (l.take i) ++ chain (chainSum s (l.take i)) (l.drop i) := by
  have h := congrArg (chain s) (List.take_append_drop i l)
  rw [chain_append] at h
  exact h.symm
theorem chain_at (s : BitVec 32) (l : List Rec) (i : Nat) (h : i < l.length) :
    chain s l = chain s (l.take i) ++ (frameb (chainSum s (l.take i)) l[i] ++ chain (frameSum (chainSum s (l.take i)) l[i]) (l.drop (i + 1))) := by
  rw [chain_split s l i, List.drop_eq_getElem_cons h, chain]
theorem pos_succ (s : BitVec 32) (l : List Rec) (i : Nat) (h : i < l.length) : pos s l (i + 1) = pos s l i + (frameb (chainSum s (l.take i)) l[i]).length := by
  unfold pos
  rw [List.take_succ_eq_append_getElem h, chain_append, List.length_append]
  simp [chain]
theorem sum_succ (s : BitVec 32) (l : List Rec) (i : Nat) (h : i < l.length) : chainSum s (l.take (i + 1)) = frameSum (chainSum s (l.take i)) l[i] := by
  rw [List.take_succ_eq_append_getElem h, chainSum_append]; rfl
theorem chain_succ (s : BitVec 32) (l : List Rec) (i : Nat) (h : i < l.length) : chain s (l.take (i + 1)) = chain s (l.take i) ++ frameb (chainSum s (l.take i)) l[i] := by
  rw [List.take_succ_eq_append_getElem h, chain_append]; simp [chain]
theorem starts_at (s : BitVec 32) (l : List Rec) : ∀ (at_ i : Nat), i < l.length → (starts s at_ l)[i]? = some (at_ + pos s l i) := by
  induction l generalizing s with
  | nil => intro at_ i h; simp at h
  | cons r l ih =>
    intro at_ i h
    cases i with
    | zero => simp [starts, pos, chain]
    | succ i =>
      simp only [starts, List.getElem?_cons_succ]
      rw [ih _ _ i (by simpa using h)]
      simp [pos, chain, Nat.add_assoc]
/-- Cut anywhere: a beginning. -/
theorem scan_cut (s : BitVec 32) (l : List Rec) (hl : ∀ r ∈ l, r.d.length ≤ 1024) (c k : Nat) (hk : k ≤ l.length) (h1 : pos s l k ≤ c) (h2 : k < l.length → c < pos s l (k + 1)) :
    (scan s 0 ((chain s l).take c)).1.length = k := by
  have hc : (chain s l).take c = chain s (l.take k) ++ (chain (chainSum s (l.take k)) (l.drop k)).take (c - pos s l k) := by
    rw [chain_split s l k, List.take_append, List.take_of_length_le h1]; rfl
  rw [hc, scan_chain s 0 (l.take k) _ (fun r hr => hl r (List.mem_of_mem_take hr))]
  have hrest : ∀ at_, (scan (chainSum s (l.take k)) at_ ((chain (chainSum s (l.take k)) (l.drop k)).take (c - pos s l k))).1 = [] := by
    intro at_
    by_cases hlt : k < l.length
    · have := h2 hlt
      rw [pos_succ s l k hlt] at this
      rw [List.drop_eq_getElem_cons hlt, chain, List.take_append_of_le_length (by omega)]
      obtain ⟨e, he⟩ := nxt_cut (chainSum s (l.take k)) l[k] (hl _ (List.getElem_mem hlt)) (c - pos s l k) (by omega)
      rw [scan_err he]
    · have : k = l.length := by omega
      subst this
      simp only [List.drop_length, chain, List.take_nil]
      rw [scan_err (nxt_nil _)]
  simp only [hrest, List.append_nil, List.length_zip, starts_length, List.length_take]
  omega
/-- A byte turned, but where the length stands: the chain ends where that frame begins. -/
theorem scan_turn (s : BitVec 32) (l : List Rec) (hl : ∀ r ∈ l, r.d.length ≤ 1024) (t i : Nat) (hi : i < l.length) (h1 : pos s l i ≤ t) (h2 : t < pos s l (i + 1))
    (hn : ¬ (pos s l i + 2 ≤ t ∧ t < pos s l i + 2 + (num l[i].d.length).length)) (y : UInt8) (ht : t < (chain s l).length) (hy : y ≠ (chain s l)[t]) :
    (scan s 0 ((chain s l).set t y)).2.1 = pos s l i := by
  have hc := chain_at s l i hi
  have hp : (chain s (l.take i)).length = pos s l i := rfl
  have hf := pos_succ s l i hi
  obtain ⟨F, hF⟩ : ∃ F, F = frameb (chainSum s (l.take i)) l[i] := ⟨_, rfl⟩
  have hy' : y ≠ (frameb (chainSum s (l.take i)) l[i])[t - pos s l i]'(by omega) := by
    intro e
    apply hy
    rw [e]
    have : (chain s l)[t]? = (frameb (chainSum s (l.take i)) l[i])[t - pos s l i]? := by
      rw [hc, List.getElem?_append_right (by omega), List.getElem?_append_left (by rw [hp]; omega), hp]
    rw [List.getElem?_eq_getElem ht, List.getElem?_eq_getElem (by omega)] at this
    exact (Option.some.inj this).symm
  obtain ⟨e, he⟩ := nxt_turn (chainSum s (l.take i)) l[i] (chain (frameSum (chainSum s (l.take i)) l[i]) (l.drop (i + 1))) (hl _ (List.getElem_mem hi)) (t - pos s l i) (by omega) (by omega) y hy'
  have hset : (chain s l).set t y = chain s (l.take i) ++ ((frameb (chainSum s (l.take i)) l[i]).set (t - pos s l i) y ++ chain (frameSum (chainSum s (l.take i)) l[i]) (l.drop (i + 1))) := by
    rw [hc, List.set_append_right _ _ (by omega), List.set_append_left _ _ (by rw [hp]; omega), hp]
  rw [hset, scan_chain s 0 (l.take i) _ (fun r hr => hl r (List.mem_of_mem_take hr)), scan_err he]
  simp [hp]
/-- Each place lies in some frame. -/
theorem frame_of (s : BitVec 32) (l : List Rec) (t : Nat) (ht : t < (chain s l).length) : ∃ i, i < l.length ∧ pos s l i ≤ t ∧ t < pos s l (i + 1) := by
  have : ∀ k, k ≤ l.length → t < pos s l k → ∃ i, i < k ∧ pos s l i ≤ t ∧ t < pos s l (i + 1) := by
    intro k
    induction k with
    | zero => intro _ h; simp [pos, chain] at h
    | succ k ih =>
      intro hk h
      by_cases h' : t < pos s l k
      · obtain ⟨i, h1, h2⟩ := ih (by omega) h'
        exact ⟨i, by omega, h2⟩
      · exact ⟨k, by omega, by omega, h⟩
  exact this l.length (Nat.le_refl _) (by rw [pos_all]; exact ht)
theorem pos_mono (s : BitVec 32) (l : List Rec) {i j : Nat} (h : i ≤ j) : pos s l i ≤ pos s l j := by
  unfold pos
  have : l.take j = l.take i ++ (l.take j).drop i := by
    have h' := List.take_append_drop i (l.take j)
    rw [List.take_take, Nat.min_eq_left h] at h'
    exact h'.symm
  rw [this, chain_append, List.length_append]
  omega
theorem frameb_length (s : BitVec 32) (r : Rec) : (frameb s r).length = 2 + (num r.d.length).length + r.d.length + 4 := by
  simp [frameb, headb, four_length]; omega
theorem chain_length_le (s : BitVec 32) (l : List Rec) (m : Nat) (hm : m < 18446744073709551616) (hl : ∀ r ∈ l, r.d.length ≤ m) : (chain s l).length ≤ l.length * (m + 16) := by
  induction l generalizing s with
  | nil => simp [chain]
  | cons r l ih =>
    have h1 := ih (frameSum s r) (fun x hx => hl x (by simp [hx]))
    have h2 := hl r (by simp)
    have h3 := num_length10 (x := r.d.length) (by omega)
    simp only [chain, List.length_append, frameb_length, List.length_cons, Nat.add_mul]
    omega
end Go.Proofs.Ytchmcjimnliodaa
end
section
set_option linter.unusedSimpArgs false
set_option linter.unusedVariables false
/- Disks of chapter 4 and logs of chapter 5 as plain Lean. No program in sight. -/
namespace Go.Proofs.Ytchmcjimnliodaa

/-- A disk: sectors, writings that wait. -/
structure Dk where
  l : List (List UInt8)
  ws : List (Nat × List UInt8)
  down : Bool
structure Dk.ok (d : Dk) : Prop where
  sec : ∀ s ∈ d.l, s.length = 64
  ws : ∀ p ∈ d.ws, p.1 < d.l.length ∧ p.2.length = 64
  len : d.l.length ≤ 4096
def puts (l : List (List UInt8)) (ws : List (Nat × List UInt8)) : List (List UInt8) := ws.foldl (fun l p => l.set p.1 p.2) l
theorem puts_length (ws : List (Nat × List UInt8)) : ∀ l, (puts l ws).length = l.length := by
  induction ws with
  | nil => intro l; rfl
  | cons p ws ih => intro l; rw [puts, List.foldl_cons, ← puts, ih]; simp
theorem puts_append (l : List (List UInt8)) (a b : List (Nat × List UInt8)) : puts l (a ++ b) = puts (puts l a) b := List.foldl_append ..
def Dk.now (d : Dk) : List (List UInt8) := puts d.l d.ws
def pad (b : List UInt8) : List UInt8 := b ++ List.replicate (64 - b.length) 0
def Dk.write (d : Dk) (at_ : Nat) (b : List UInt8) : Dk := { d with ws := d.ws ++ [(at_, pad b)] }
def kept (keep : Nat → Bool) (ws : List (Nat × List UInt8)) : List (Nat × List UInt8) := ((ws.zipIdx).filter fun p => keep p.2).map (·.1)
def Dk.settle (keep : Nat → Bool) (d : Dk) : Dk := { d with l := puts d.l (kept keep d.ws), ws := [] }
theorem kept_all (ws : List (Nat × List UInt8)) : kept (fun _ => true) ws = ws := by
  unfold kept
  rw [List.filter_eq_self.2 (by simp)]
  simp
theorem kept_none (ws : List (Nat × List UInt8)) : kept (fun _ => false) ws = [] := by
  unfold kept
  rw [List.filter_eq_nil_iff.2 (by simp)]
  rfl
theorem kept_sub {keep : Nat → Bool} {ws : List (Nat × List UInt8)} {p : Nat × List UInt8} (h : p ∈ kept keep ws) : p ∈ ws := by
  obtain ⟨q, hq, rfl⟩ := List.mem_map.1 h
  have := (List.mem_filter.1 hq).1
  exact List.mem_of_mem_drop (i := 0) (by simpa using (List.mem_zipIdx this).2.2 ▸ List.getElem_mem _)
theorem puts_each {Q : Nat → List UInt8 → Prop} (ws : List (Nat × List UInt8)) : ∀ l : List (List UInt8), (∀ j s, l[j]? = some s → Q j s) → (∀ p ∈ ws, Q p.1 p.2) → ∀ j s, (puts l ws)[j]? = some s → Q j s := by
  induction ws with
  | nil => intro l h _ j s hj; exact h j s hj
  | cons p ws ih =>
    intro l h hw j s hj
    refine ih (l.set p.1 p.2) (fun j s hj => ?_) (fun q hq => hw q (List.mem_cons_of_mem _ hq)) j s hj
    rw [List.getElem?_set] at hj
    split at hj
    · rename_i e
      split at hj
      · injection hj with hj; subst hj; subst e; exact hw p (List.mem_cons_self ..)
      · cases hj
    · exact h j s hj
theorem Dk.ok.now {d : Dk} (h : d.ok) : ∀ s ∈ d.now, s.length = 64 := by
  intro s hs
  obtain ⟨j, hj⟩ := List.getElem?_of_mem hs
  exact puts_each (Q := fun _ s => s.length = 64) d.ws d.l (fun j s hj => h.sec s (List.mem_of_getElem? hj)) (fun p hp => (h.ws p hp).2) j s hj
theorem Dk.ok.settle {d : Dk} (h : d.ok) (keep : Nat → Bool) : (d.settle keep).ok := by
  refine ⟨fun s hs => ?_, fun p hp => (List.not_mem_nil hp).elim, by simpa [Dk.settle, puts_length] using h.len⟩
  obtain ⟨j, hj⟩ := List.getElem?_of_mem hs
  exact puts_each (Q := fun _ s => s.length = 64) _ d.l (fun j s hj => h.sec s (List.mem_of_getElem? hj)) (fun p hp => (h.ws p (kept_sub hp)).2) j s hj
theorem pad_length {b : List UInt8} (h : b.length ≤ 64) : (pad b).length = 64 := by simp [pad]; omega
theorem Dk.ok.write {d : Dk} (h : d.ok) {at_ : Nat} {b : List UInt8} (ha : at_ < d.l.length) (hb : b.length ≤ 64) : (d.write at_ b).ok :=
  ⟨h.sec, fun p hp => by
    rcases List.mem_append.1 hp with hp | hp
    · exact h.ws p hp
    · rw [List.mem_singleton.1 hp]; exact ⟨ha, pad_length hb⟩, h.len⟩

/-! ### Sectors of a log -/
/-- A number of eight bytes. -/
def le8 (t : Nat) : List UInt8 := (List.range 8).map fun i => UInt8.ofNat (t / 2 ^ (8 * i) % 256)
theorem le8_length (t : Nat) : (le8 t).length = 8 := by simp [le8]
def sector (t : Nat) (p : List UInt8) : List UInt8 := le8 t ++ (UInt8.ofNat p.length :: p)
/-- The turn of a sector. -/
def turnAt (b : List UInt8) : Nat → Nat
  | 0 => 0
  | k + 1 => turnAt b k + (b.getD k 0).toNat * 2 ^ (8 * k)
def turnOf (b : List UInt8) : Nat := turnAt b 8
theorem turnAt_lt (b : List UInt8) : ∀ k, turnAt b k < 2 ^ (8 * k) := by
  intro k
  induction k with
  | zero => simp [turnAt]
  | succ k ih =>
    rw [turnAt]
    have h := (b.getD k 0).toNat_lt
    have e : 2 ^ (8 * (k + 1)) = 2 ^ (8 * k) * 256 := by rw [Nat.mul_add, Nat.pow_add]
    rw [e]
    have : (b.getD k 0).toNat * 2 ^ (8 * k) ≤ 255 * 2 ^ (8 * k) := Nat.mul_le_mul_right _ (by omega)
    omega
theorem turnOf_lt (b : List UInt8) : turnOf b < 18446744073709551616 := turnAt_lt b 8
theorem turnOf_le8 {t : Nat} (h : t < 18446744073709551616) (r : List UInt8) : turnOf (le8 t ++ r) = t := by
  have e : ∀ k, k ≤ 8 → turnAt (le8 t ++ r) k = t % 2 ^ (8 * k) := by
    intro k
    induction k with
    | zero => intro _; simp [turnAt, Nat.mod_one]
    | succ k ih =>
      intro hk
      rw [turnAt, ih (by omega)]
      have hg : (le8 t ++ r).getD k 0 = UInt8.ofNat (t / 2 ^ (8 * k) % 256) := by
        rw [List.getD_eq_getElem?_getD, List.getElem?_append_left (by rw [le8_length]; omega)]
        simp [le8, show k < 8 by omega]
      rw [hg, UInt8.toNat_ofNat']
      have e2 : 2 ^ (8 * (k + 1)) = 2 ^ (8 * k) * 256 := by rw [Nat.mul_add, Nat.pow_add]
      rw [e2, Nat.mod_mul, Nat.mod_mod, Nat.mul_comm (2 ^ (8 * k))]
  unfold turnOf
  rw [e 8 (by omega)]
  exact Nat.mod_eq_of_lt h
/-- The chain's part that sector i has. -/
def part (C : List UInt8) (i : Nat) : List UInt8 := (C.drop (55 * i)).take 55
def secAt (t : Nat) (C : List UInt8) (i : Nat) : List UInt8 := pad (sector t (part C i))
def cnt (C : List UInt8) : Nat := (C.length + 54) / 55
theorem part_length (C : List UInt8) (i : Nat) : (part C i).length = min 55 (C.length - 55 * i) := by simp [part]
theorem sector_length (t : Nat) (p : List UInt8) : (sector t p).length = 9 + p.length := by simp [sector, le8_length]; omega
theorem secAt_length (t : Nat) (C : List UInt8) (i : Nat) : (secAt t C i).length = 64 := pad_length (by rw [sector_length, part_length]; omega)
theorem turnOf_secAt {t : Nat} (h : t < 18446744073709551616) (C : List UInt8) (i : Nat) : turnOf (secAt t C i) = t := by
  unfold secAt pad sector
  rw [List.append_assoc]
  exact turnOf_le8 h _
theorem secAt_8 (t : Nat) (C : List UInt8) (i : Nat) : (secAt t C i).getD 8 0 = UInt8.ofNat (part C i).length := by
  have h8 := le8_length t
  unfold secAt pad sector
  rw [List.append_assoc, List.getD_eq_getElem?_getD, List.getElem?_append_right (by omega)]
  simp [h8]
theorem secAt_part (t : Nat) (C : List UInt8) (i : Nat) : ((secAt t C i).drop 9).take (part C i).length = part C i := by
  have h8 := le8_length t
  have e : secAt t C i = (le8 t ++ [UInt8.ofNat (part C i).length]) ++ (part C i ++ List.replicate (64 - (sector t (part C i)).length) 0) := by
    simp [secAt, pad, sector]
  rw [e, List.drop_append_of_le_length (by simp [h8]), List.drop_eq_nil_of_le (by simp [h8]), List.nil_append, List.take_left]
/-- The bytes that sectors of a turn have. -/
def chainOf (t : Nat) : List (List UInt8) → List UInt8
  | [] => []
  | s :: r => if turnOf s = t then (s.drop 9).take (min (s.getD 8 0).toNat 55) ++ (if (min (s.getD 8 0).toNat 55) < 55 then [] else chainOf t r) else []
def bytesOf (S : List (List UInt8)) : List UInt8 × Nat :=
  let t := turnOf (S.headD [])
  (if t = 0 then [] else chainOf t S, t)
/-- Sector i of a half has what the chain had at some time, at least `lo` bytes of it; or it is of an older turn. -/
def Vers (t lo : Nat) (C : List UInt8) (i : Nat) (s : List UInt8) : Prop :=
  (turnOf s < t ∧ lo ≤ 55 * i) ∨ ∃ e, lo ≤ e ∧ e ≤ C.length ∧ 55 * i < e ∧ s = secAt t (C.take e) i
theorem part_take (C : List UInt8) (e i : Nat) : part (C.take e) i = (C.drop (55 * i)).take (min 55 (e - 55 * i)) := by
  unfold part
  rw [List.drop_take, List.take_take]
theorem secAt_take (t : Nat) (C : List UInt8) (e i : Nat) (he : e ≤ C.length) : ((secAt t (C.take e) i).drop 9).take (min ((secAt t (C.take e) i).getD 8 0).toNat 55) = (C.drop (55 * i)).take (min 55 (e - 55 * i)) ∧
    min ((secAt t (C.take e) i).getD 8 0).toNat 55 = min 55 (e - 55 * i) := by
  have hl : (part (C.take e) i).length = min 55 (e - 55 * i) := by rw [part_length, List.length_take, Nat.min_eq_left he]
  have h8 : ((secAt t (C.take e) i).getD 8 0).toNat = min 55 (e - 55 * i) := by
    rw [secAt_8, hl, UInt8.toNat_ofNat']
    exact Nat.mod_eq_of_lt (by omega)
  have h9 : min ((secAt t (C.take e) i).getD 8 0).toNat 55 = min 55 (e - 55 * i) := by rw [h8]; omega
  refine ⟨?_, h9⟩
  rw [h9]
  have := secAt_part t (C.take e) i
  rw [hl, part_take] at this
  exact this
theorem chainOf_vers {t lo : Nat} {C : List UInt8} (ht : t < 18446744073709551616) (hlo : lo ≤ C.length) : ∀ (S : List (List UInt8)) (i : Nat), C.length ≤ 55 * (i + S.length) → 55 * i ≤ C.length → (∀ j s, S[j]? = some s → Vers t lo C (i + j) s) →
    ∃ m, m ≤ C.length - 55 * i ∧ lo ≤ 55 * i + m ∧ chainOf t S = (C.drop (55 * i)).take m := by
  intro S
  induction S with
  | nil => intro i h1 h2 _; exact ⟨0, by omega, by simp at h1; omega, by simp [chainOf]⟩
  | cons s r ih =>
    intro i h1 h2 hv
    rcases hv 0 s rfl with ⟨h3, h4⟩ | ⟨e, h3, h4, h5, rfl⟩
    · refine ⟨0, by omega, by simpa using h4, ?_⟩
      rw [chainOf, if_neg (by omega)]; simp
    · simp only [Nat.add_zero] at h5
      obtain ⟨h6, h7⟩ := secAt_take t C e i h4
      rw [chainOf, if_pos (turnOf_secAt ht _ _)]
      simp only [Nat.add_zero]
      rw [h6]
      clear h6
      simp only [h7]
      by_cases hn : min 55 (e - 55 * i) < 55
      · rw [if_pos hn, List.append_nil]
        exact ⟨min 55 (e - 55 * i), by omega, by omega, rfl⟩
      · rw [if_neg hn]
        obtain ⟨m, k1, k2, k3⟩ := ih (i + 1) (by simp only [List.length_cons] at h1; omega) (by omega) (fun j s hj => by
          have := hv (j + 1) s (by simpa using hj)
          rw [show i + 1 + j = i + (j + 1) by omega]; exact this)
        refine ⟨55 + m, by omega, by omega, ?_⟩
        rw [k3, show min 55 (e - 55 * i) = 55 by omega, show 55 * (i + 1) = 55 * i + 55 by omega, ← List.drop_drop, List.take_add]
/-- A half's bytes, whatever of the later writings was kept. -/
theorem bytesOf_vers {t lo : Nat} {C : List UInt8} {S : List (List UInt8)} (ht0 : 0 < t) (ht : t < 18446744073709551616) (hlo0 : 0 < lo) (hlo : lo ≤ C.length) (hS : C.length ≤ 55 * S.length) (hv : ∀ j s, S[j]? = some s → Vers t lo C j s) :
    ∃ m, lo ≤ m ∧ m ≤ C.length ∧ bytesOf S = (C.take m, t) := by
  obtain ⟨m, h1, h2, h3⟩ := chainOf_vers ht hlo S 0 (by omega) (by omega) (fun j s hj => by simpa using hv j s hj)
  have hh : turnOf (S.headD []) = t := by
    cases S with
    | nil => simp only [List.length_nil] at hS; omega
    | cons s r =>
      rcases hv 0 s rfl with ⟨h4, h5⟩ | ⟨e, h4, h5, h6, rfl⟩
      · omega
      · exact turnOf_secAt ht _ _
  refine ⟨m, by omega, by omega, ?_⟩
  unfold bytesOf
  simp only [hh]
  rw [if_neg (by omega), h3]
  simp
/-! ### What is written -/
def over (S : List (List UInt8)) (base t : Nat) (C : List UInt8) : List (List UInt8) := S.mapIdx fun j s => if base ≤ j ∧ j < base + cnt C then secAt t C (j - base) else s
def newWs (base t : Nat) (C b : List UInt8) : List (Nat × List UInt8) := (List.range (cnt (C ++ b) - C.length / 55)).map fun k => (base + C.length / 55 + k, secAt t (C ++ b) (C.length / 55 + k))
theorem over_length (S : List (List UInt8)) (base t : Nat) (C : List UInt8) : (over S base t C).length = S.length := by simp [over]
theorem over_at (S : List (List UInt8)) (base t : Nat) (C : List UInt8) (j : Nat) : (over S base t C)[j]? = if base ≤ j ∧ j < base + cnt C ∧ j < S.length then some (secAt t C (j - base)) else S[j]? := by
  unfold over
  rw [List.getElem?_mapIdx]
  by_cases hj : j < S.length
  · rw [List.getElem?_eq_getElem hj]
    by_cases h : base ≤ j ∧ j < base + cnt C
    · simp [h, hj]
    · rw [Option.map_some, if_neg h, if_neg (by omega)]
  · rw [List.getElem?_eq_none (by omega), if_neg (by omega)]
    rfl
theorem over_nil (S : List (List UInt8)) (base t : Nat) : over S base t [] = S := by
  apply List.ext_getElem?
  intro j
  rw [over_at, if_neg (by simp [cnt]; omega)]
theorem puts_range (f : Nat → List UInt8) (p : Nat) (l : List (List UInt8)) : ∀ (n j : Nat), (puts l ((List.range n).map fun k => (p + k, f k)))[j]? = if p ≤ j ∧ j < p + n ∧ j < l.length then some (f (j - p)) else l[j]? := by
  intro n
  induction n with
  | zero => intro j; rw [if_neg (by omega)]; rfl
  | succ n ih =>
    intro j
    rw [List.range_succ, List.map_append, puts_append]
    show ((puts l _).set (p + n) (f n))[j]? = _
    rw [List.getElem?_set, puts_length, ih]
    by_cases h : p + n = j
    · subst h
      by_cases h2 : p + n < l.length
      · rw [if_pos rfl, if_pos h2, if_pos (by omega), show p + n - p = n by omega]
      · rw [if_pos rfl, if_neg h2, if_neg (by omega), List.getElem?_eq_none (by omega)]
    · rw [if_neg h]
      by_cases h2 : p ≤ j ∧ j < p + n ∧ j < l.length
      · rw [if_pos h2, if_pos (by omega)]
      · rw [if_neg h2, if_neg (by omega)]
theorem part_append {C : List UInt8} {i : Nat} (h : 55 * i + 55 ≤ C.length) (b : List UInt8) : part (C ++ b) i = part C i := by
  unfold part
  rw [List.drop_append_of_le_length (by omega), List.take_append_of_le_length (by simp; omega)]
theorem secAt_append {t : Nat} {C : List UInt8} {i : Nat} (h : 55 * i + 55 ≤ C.length) (b : List UInt8) : secAt t (C ++ b) i = secAt t C i := by
  unfold secAt; rw [part_append h]
theorem puts_new (S : List (List UInt8)) (base t : Nat) (C b : List UInt8) : puts (over S base t C) (newWs base t C b) = over S base t (C ++ b) := by
  apply List.ext_getElem?
  intro j
  unfold newWs
  rw [puts_range (f := fun k => secAt t (C ++ b) (C.length / 55 + k)), over_length, over_at, over_at]
  have hc : cnt C = (C.length + 54) / 55 := rfl
  have hcb : cnt (C ++ b) = (C.length + b.length + 54) / 55 := by simp [cnt]
  by_cases h1 : base + C.length / 55 ≤ j ∧ j < base + C.length / 55 + (cnt (C ++ b) - C.length / 55) ∧ j < S.length
  · rw [if_pos h1, if_pos (by omega), show C.length / 55 + (j - (base + C.length / 55)) = j - base by omega]
  · rw [if_neg h1]
    by_cases h2 : base ≤ j ∧ j < base + cnt C ∧ j < S.length
    · rw [if_pos h2, if_pos (by omega), secAt_append (by omega)]
    · rw [if_neg h2, if_neg (by omega)]
theorem mem_newWs {base t : Nat} {C b : List UInt8} {p : Nat × List UInt8} (h : p ∈ newWs base t C b) : ∃ i, p = (base + i, secAt t (C ++ b) i) ∧ C.length / 55 ≤ i ∧ i < cnt (C ++ b) := by
  obtain ⟨k, hk, rfl⟩ := List.mem_map.1 h
  have := List.mem_range.1 hk
  exact ⟨C.length / 55 + k, by simp [Nat.add_assoc], by omega, by omega⟩
theorem newWs_length (base t : Nat) (C b : List UInt8) : (newWs base t C b).length = cnt (C ++ b) - C.length / 55 := by simp [newWs]

/-! ### Looking at a half -/
structure Hf where
  turn : Nat
  rs : List Rec
  sealed : Bool
def lookStep (h : Bool × List Rec) (r : Rec) : Bool × List Rec := if r.k = 255 ∧ h.1 = false then (true, h.2) else (h.1, h.2 ++ [r])
def lookR (rs : List Rec) : Bool × List Rec := rs.foldl lookStep (false, [])
def recsOf (C : List UInt8) : List Rec := (scan 0 0 C).1.map (·.2)
def lookOf (S : List (List UInt8)) : Hf := ⟨(bytesOf S).2, (lookR (recsOf (bytesOf S).1)).2, (lookR (recsOf (bytesOf S).1)).1⟩
def sealR : Rec := ⟨255, []⟩
theorem look_plain (l : List Rec) (hl : ∀ r ∈ l, r.k ≠ 255) : ∀ h : Bool × List Rec, l.foldl lookStep h = (h.1, h.2 ++ l) := by
  induction l with
  | nil => intro h; simp
  | cons r l ih =>
    intro h
    rw [List.foldl_cons, ih (fun x hx => hl x (List.mem_cons_of_mem _ hx)), lookStep, if_neg (fun e => hl r (List.mem_cons_self ..) e.1)]
    simp
theorem look_sealed (a b : List Rec) (ha : ∀ r ∈ a, r.k ≠ 255) (hb : ∀ r ∈ b, r.k ≠ 255) : lookR (a ++ sealR :: b) = (true, a ++ b) := by
  unfold lookR
  rw [List.foldl_append, look_plain a ha, List.foldl_cons, lookStep, if_pos ⟨rfl, rfl⟩, look_plain b hb]
  simp
theorem look_open (a : List Rec) (ha : ∀ r ∈ a, r.k ≠ 255) : lookR a = (false, a) := by
  unfold lookR
  rw [look_plain a ha]; simp
theorem scan_cut_eq (s : BitVec 32) (l : List Rec) (hl : ∀ r ∈ l, r.d.length ≤ 1024) (c k : Nat) (hk : k ≤ l.length) (h1 : pos s l k ≤ c) (h2 : k < l.length → c < pos s l (k + 1)) :
    (scan s 0 ((chain s l).take c)).1 = (starts s 0 (l.take k)).zip (l.take k) := by
  have hc : (chain s l).take c = chain s (l.take k) ++ (chain (chainSum s (l.take k)) (l.drop k)).take (c - pos s l k) := by
    rw [chain_split s l k, List.take_append, List.take_of_length_le h1]; rfl
  rw [hc, scan_chain s 0 (l.take k) _ (fun r hr => hl r (List.mem_of_mem_take hr))]
  have hrest : ∀ at_, (scan (chainSum s (l.take k)) at_ ((chain (chainSum s (l.take k)) (l.drop k)).take (c - pos s l k))).1 = [] := by
    intro at_
    by_cases hlt : k < l.length
    · have := h2 hlt
      rw [pos_succ s l k hlt] at this
      rw [List.drop_eq_getElem_cons hlt, chain, List.take_append_of_le_length (by omega)]
      obtain ⟨e, he⟩ := nxt_cut (chainSum s (l.take k)) l[k] (hl _ (List.getElem_mem hlt)) (c - pos s l k) (by omega)
      rw [scan_err he]
    · have : k = l.length := by omega
      subst this
      simp only [List.drop_length, chain, List.take_nil]
      rw [scan_err (nxt_nil _)]
  simp only [hrest, List.append_nil]
/-- Of a chain that is cut the records that are whole are told. -/
theorem recsOf_cut (l : List Rec) (hl : ∀ r ∈ l, r.d.length ≤ 1024) (m : Nat) (hm : m ≤ (chain 0 l).length) : ∃ k, k ≤ l.length ∧ pos 0 l k ≤ m ∧ (k < l.length → m < pos 0 l (k + 1)) ∧ recsOf ((chain 0 l).take m) = l.take k := by
  have fin : ∀ k, k ≤ l.length → pos 0 l k ≤ m → (k < l.length → m < pos 0 l (k + 1)) → recsOf ((chain 0 l).take m) = l.take k := by
    intro k h1 h2 h3
    unfold recsOf
    rw [scan_cut_eq 0 l hl m k h1 h2 h3, ← List.unzip_snd, List.unzip_zip (by rw [starts_length])]
  rcases Nat.lt_or_ge m (chain 0 l).length with h | h
  · obtain ⟨i, h1, h2, h3⟩ := frame_of 0 l m h
    exact ⟨i, by omega, h2, fun _ => h3, fin i (by omega) h2 (fun _ => h3)⟩
  · exact ⟨l.length, Nat.le_refl _, by rw [pos_all]; exact h, fun h => by omega, fin _ (Nat.le_refl _) (by rw [pos_all]; exact h) (fun h => by omega)⟩
theorem recsOf_chain (l : List Rec) (hl : ∀ r ∈ l, r.d.length ≤ 1024) : recsOf (chain 0 l) = l := by
  obtain ⟨k, h1, h2, h3, h4⟩ := recsOf_cut l hl (chain 0 l).length (Nat.le_refl _)
  rw [List.take_length] at h4
  rw [h4]
  rcases Nat.lt_or_ge k l.length with h | h
  · have := h3 h
    have := pos_mono 0 l (i := k + 1) (j := l.length) h
    rw [pos_all] at this
    omega
  · exact List.take_of_length_le h
/-- The data of what is told are of at most 1,024 bytes. -/
theorem scan_small : ∀ (n : Nat) (s : BitVec 32) (at_ : Nat) (b : List UInt8), b.length ≤ n → ∀ p ∈ (scan s at_ b).1, p.2.d.length ≤ 1024 := by
  intro n
  induction n with
  | zero =>
    intro s at_ b hb p hp
    obtain rfl : b = [] := List.eq_nil_of_length_eq_zero (by omega)
    rw [scan_err (nxt_nil s)] at hp
    exact (List.not_mem_nil hp).elim
  | succ n ih =>
    intro s at_ b hb p hp
    cases hN : nxt s b with
    | error e => rw [scan_err hN] at hp; exact (List.not_mem_nil hp).elim
    | ok v =>
      obtain ⟨r, m, s'⟩ := v
      have hm := nxt_len hN
      rw [scan_ok hN] at hp
      rcases List.mem_cons.1 hp with rfl | hp
      · exact hm.2.2
      · exact ih s' (at_ + m) (b.drop m) (by simp; omega) p hp
theorem recsOf_small (C : List UInt8) : ∀ r ∈ recsOf C, r.d.length ≤ 1024 := by
  intro r hr
  obtain ⟨p, hp, rfl⟩ := List.mem_map.1 hr
  exact scan_small C.length 0 0 C (Nat.le_refl _) p hp
theorem look_sub (l : List Rec) : ∀ h : Bool × List Rec, ∀ r ∈ (l.foldl lookStep h).2, r ∈ h.2 ∨ r ∈ l := by
  induction l with
  | nil => intro h r hr; exact .inl hr
  | cons x l ih =>
    intro h r hr
    rw [List.foldl_cons] at hr
    rcases ih _ r hr with h1 | h1
    · unfold lookStep at h1
      split at h1
      · exact .inl h1
      · rcases List.mem_append.1 h1 with h2 | h2
        · exact .inl h2
        · right; rw [List.mem_singleton.1 h2]; exact List.mem_cons_self ..
    · exact .inr (List.mem_cons_of_mem _ h1)
theorem look_subR (l : List Rec) : ∀ r ∈ (lookR l).2, r ∈ l := by
  intro r hr
  unfold lookR at hr
  rcases look_sub l (false, []) r hr with h | h
  · exact absurd h List.not_mem_nil
  · exact h
theorem Hf.rs_mk (t : Nat) (a : List Rec) (b : Bool) : (Hf.mk t a b).rs = a := rfl
theorem lookOf_rs (S : List (List UInt8)) : (lookOf S).rs = (lookR (recsOf (bytesOf S).1)).2 := by
  rw [lookOf, Hf.rs_mk]
theorem lookOf_small (S : List (List UInt8)) : ∀ r ∈ (lookOf S).rs, r.d.length ≤ 1024 := by
  intro r hr
  rw [lookOf_rs] at hr
  exact recsOf_small _ r (look_subR _ r hr)

/-! ### A log on a disk -/
/-- What stands in sector j: of the log's half, which begins at p and has n sectors; or of an older turn. -/
def At5 (t lo : Nat) (C : List UInt8) (p n j : Nat) (s : List UInt8) : Prop := (p ≤ j ∧ j < p + n ∧ Vers t lo C (j - p) s) ∨ ((j < p ∨ p + n ≤ j) ∧ turnOf s < t)
theorem Vers.more {t lo : Nat} {C : List UInt8} {i : Nat} {s : List UInt8} (h : Vers t lo C i s) (b : List UInt8) : Vers t lo (C ++ b) i s := by
  rcases h with h | ⟨e, h1, h2, h3, h4⟩
  · exact .inl h
  · exact .inr ⟨e, h1, by simp; omega, h3, by rw [List.take_append_of_le_length h2]; exact h4⟩
theorem Vers.less {t lo lo' : Nat} {C : List UInt8} {i : Nat} {s : List UInt8} (h : Vers t lo C i s) (hl : lo' ≤ lo) : Vers t lo' C i s := by
  rcases h with ⟨h1, h2⟩ | ⟨e, h1, h2, h3, h4⟩
  · exact .inl ⟨h1, by omega⟩
  · exact .inr ⟨e, by omega, h2, h3, h4⟩
theorem At5.more {t lo : Nat} {C : List UInt8} {p n j : Nat} {s : List UInt8} (h : At5 t lo C p n j s) (b : List UInt8) : At5 t lo (C ++ b) p n j s := by
  rcases h with ⟨h1, h2, h3⟩ | h
  · exact .inl ⟨h1, h2, h3.more b⟩
  · exact .inr h
theorem At5.less {t lo lo' : Nat} {C : List UInt8} {p n j : Nat} {s : List UInt8} (h : At5 t lo C p n j s) (hl : lo' ≤ lo) : At5 t lo' C p n j s := by
  rcases h with ⟨h1, h2, h3⟩ | h
  · exact .inl ⟨h1, h2, h3.less hl⟩
  · exact .inr h
/-- The chain of a log: what stood there when the half was made, its mark, what was synced, what wasn't yet. -/
def logR (a s b : List Rec) : List Rec := a ++ sealR :: (s ++ b)
def ch (a s b : List Rec) : List UInt8 := chain 0 (logR a s b)
structure Good (d : Dk) (half t : Nat) (a s b : List Rec) : Prop where
  ok : d.ok
  h1 : half ≤ 1
  n4 : 4 ≤ d.l.length
  t0 : 0 < t
  t1 : t < 9223372036854775808
  small : ∀ r ∈ a ++ (s ++ b), r.d.length ≤ 1024 ∧ r.k ≠ 255
  room : (ch a s b).length ≤ 55 * (d.l.length / 2)
  l : ∀ j x, d.l[j]? = some x → At5 t (ch a s []).length (ch a s []) (half * (d.l.length / 2)) (d.l.length / 2) j x
  ws : ∀ w ∈ d.ws, At5 t (ch a s []).length (ch a s b) (half * (d.l.length / 2)) (d.l.length / 2) w.1 w.2
  now : ∀ j x, d.now[j]? = some x → At5 t (ch a s b).length (ch a s b) (half * (d.l.length / 2)) (d.l.length / 2) j x
theorem ch_split (a s b : List Rec) : ch a s b = ch a s [] ++ chain (chainSum 0 (logR a s [])) b := by
  unfold ch logR
  rw [← chain_append]
  simp
theorem ch_snoc (a s b : List Rec) (r : Rec) : ch a s (b ++ [r]) = ch a s b ++ frameb (chainSum 0 (logR a s b)) r := by
  unfold ch logR
  have e : a ++ sealR :: (s ++ (b ++ [r])) = (a ++ sealR :: (s ++ b)) ++ [r] := by simp
  rw [e, chain_append]
  simp [chain]
theorem logR_small {a s b : List Rec} (h : ∀ r ∈ a ++ (s ++ b), r.d.length ≤ 1024 ∧ r.k ≠ 255) : ∀ r ∈ logR a s b, r.d.length ≤ 1024 := by
  intro r hr
  unfold logR at hr
  rcases List.mem_append.1 hr with hr | hr
  · exact (h r (List.mem_append_left _ hr)).1
  · rcases List.mem_cons.1 hr with rfl | hr
    · decide
    · exact (h r (List.mem_append_right _ hr)).1
/-- The sectors of a half. -/
def halfOf (l : List (List UInt8)) (i : Nat) : List (List UInt8) := (l.drop (i * (l.length / 2))).take (l.length / 2)
theorem halfOf_length (l : List (List UInt8)) {i : Nat} (hi : i ≤ 1) : (halfOf l i).length = l.length / 2 := by
  rcases (by omega : i = 0 ∨ i = 1) with rfl | rfl <;> simp [halfOf] <;> omega
theorem halfOf_at (l : List (List UInt8)) {i j : Nat} (hi : i ≤ 1) (hj : j < l.length / 2) : (halfOf l i)[j]? = l[i * (l.length / 2) + j]? := by
  unfold halfOf
  rw [List.getElem?_take, if_pos hj, List.getElem?_drop]
theorem halfOf_lt (l : List (List UInt8)) {i j : Nat} {x : List UInt8} (hi : i ≤ 1) (h : (halfOf l i)[j]? = some x) : j < l.length / 2 := by
  have := (List.getElem?_eq_some_iff.1 h).1
  rwa [halfOf_length l hi] at this
/-- A half as it is told: whatever of the later writings was kept. -/
theorem look_at5 {l : List (List UInt8)} {half t lo : Nat} {a s b : List Rec} (h1 : half ≤ 1) (t0 : 0 < t) (t1 : t < 9223372036854775808) (small : ∀ r ∈ a ++ (s ++ b), r.d.length ≤ 1024 ∧ r.k ≠ 255)
    (room : (ch a s b).length ≤ 55 * (l.length / 2)) (hlo : (ch a s []).length ≤ lo) (hlo2 : lo ≤ (ch a s b).length) (hl : ∀ j x, l[j]? = some x → At5 t lo (ch a s b) (half * (l.length / 2)) (l.length / 2) j x) :
    ∃ k, k ≤ b.length ∧ lookOf (halfOf l half) = ⟨t, a ++ (s ++ b.take k), true⟩ ∧ (lo = (ch a s b).length → k = b.length) := by
  have hpos : 0 < (ch a s []).length := by
    unfold ch logR
    rw [chain_append]
    simp only [List.length_append, chain]
    have := frameb_length (chainSum 0 a) sealR
    omega
  obtain ⟨m, m1, m2, m3⟩ := bytesOf_vers (t := t) (lo := lo) (C := ch a s b) (S := halfOf l half) t0 (by omega) (by omega) hlo2 (by rw [halfOf_length l h1]; exact room) (fun j x hj => by
    have hjl := halfOf_lt l h1 hj
    rw [halfOf_at l h1 hjl] at hj
    rcases hl _ x hj with ⟨_, _, h⟩ | ⟨h, _⟩
    · rwa [show half * (l.length / 2) + j - half * (l.length / 2) = j by omega] at h
    · omega)
  obtain ⟨k, k1, k2, k3, k4⟩ := recsOf_cut (logR a s b) (logR_small small) m m2
  have hlen : (logR a s b).length = a.length + 1 + s.length + b.length := by simp [logR]; omega
  have hc0 : pos 0 (logR a s b) (a.length + 1 + s.length) = (ch a s []).length := by
    unfold pos ch
    congr 2
    unfold logR
    have e : a ++ sealR :: (s ++ b) = (a ++ sealR :: (s ++ [])) ++ b := by simp
    rw [e, List.take_left' (by simp; omega)]
  have hk : a.length + 1 + s.length ≤ k := by
    rcases Nat.lt_or_ge k (a.length + 1 + s.length) with h | h
    · have h3 := k3 (by omega)
      have := pos_mono 0 (logR a s b) (i := k + 1) (j := a.length + 1 + s.length) h
      omega
    · exact h
  have htk : (logR a s b).take k = a ++ sealR :: (s ++ b.take (k - (a.length + 1 + s.length))) := by
    unfold logR
    have e : a ++ sealR :: (s ++ b) = (a ++ sealR :: s) ++ b := by simp
    rw [e, List.take_append, List.take_of_length_le (by simp; omega)]
    simp [Nat.add_assoc]
    congr 1
    omega
  refine ⟨k - (a.length + 1 + s.length), by omega, ?_, ?_⟩
  · unfold lookOf
    rw [m3]
    show Hf.mk t (lookR (recsOf ((chain 0 (logR a s b)).take m))).2 (lookR (recsOf ((chain 0 (logR a s b)).take m))).1 = _
    rw [k4, htk, look_sealed _ _ (fun r hr => (small r (List.mem_append_left _ hr)).2) (fun r hr => (small r (List.mem_append_right _ (by
      rcases List.mem_append.1 hr with h | h
      · exact List.mem_append_left _ h
      · exact List.mem_append_right _ (List.mem_of_mem_take h)))).2)]
  · intro e
    rcases Nat.lt_or_ge k (logR a s b).length with h | h
    · have h3 := k3 h
      have := pos_mono 0 (logR a s b) (i := k + 1) (j := (logR a s b).length) h
      rw [pos_all] at this
      have e' : lo = (chain 0 (logR a s b)).length := e
      omega
    · omega
/-! ### What is done to a log -/
theorem take_all {α : Type} (C : List α) : C.take C.length = C := List.take_length
theorem vers_secAt {t lo : Nat} {C : List UInt8} {i : Nat} (h : 55 * i < C.length) (hl : lo ≤ C.length) : Vers t lo C i (secAt t C i) :=
  .inr ⟨C.length, hl, Nat.le_refl _, h, by rw [List.take_length]⟩
theorem vers_exact {t : Nat} {C : List UInt8} {i : Nat} {x : List UInt8} (h : Vers t C.length C i x) : (turnOf x < t ∧ C.length ≤ 55 * i) ∨ (55 * i < C.length ∧ x = secAt t C i) := by
  rcases h with h | ⟨e, h1, h2, h3, h4⟩
  · exact .inl h
  · have : e = C.length := by omega
    subst this
    rw [List.take_length] at h4
    exact .inr ⟨h3, h4⟩
theorem over_at5 {S : List (List UInt8)} {half t : Nat} {C : List UInt8} (h1 : half ≤ 1) (old : ∀ x ∈ S, turnOf x < t) (room : C.length ≤ 55 * (S.length / 2)) :
    ∀ j x, (over S (half * (S.length / 2)) t C)[j]? = some x → At5 t C.length C (half * (S.length / 2)) (S.length / 2) j x := by
  intro j x hj
  rw [over_at] at hj
  have hc : cnt C = (C.length + 54) / 55 := rfl
  split at hj
  · rename_i h
    injection hj with hj
    subst hj
    refine .inl ⟨h.1, by omega, vers_secAt (by omega) (Nat.le_refl _)⟩
  · rename_i h
    have hx := old x (List.mem_of_getElem? hj)
    have hjl := (List.getElem?_eq_some_iff.1 hj).1
    by_cases h2 : half * (S.length / 2) ≤ j ∧ j < half * (S.length / 2) + S.length / 2
    · exact .inl ⟨h2.1, h2.2, .inl ⟨hx, by omega⟩⟩
    · exact .inr ⟨by omega, hx⟩
/-- A half is made new, on whatever there was of older turns. -/
theorem Good.fresh {d : Dk} (hok : d.ok) (n4 : 4 ≤ d.l.length) {half t : Nat} {a : List Rec} (h1 : half ≤ 1) (t0 : 0 < t) (t1 : t < 9223372036854775808) (small : ∀ r ∈ a, r.d.length ≤ 1024 ∧ r.k ≠ 255) (room : (ch a [] []).length ≤ 55 * (d.l.length / 2)) (old : ∀ x ∈ d.now, turnOf x < t) :
    Good ⟨over d.now (half * (d.l.length / 2)) t (ch a [] []), [], false⟩ half t a [] [] := by
  have hl : d.now.length = d.l.length := puts_length _ _
  have ho : (over d.now (half * (d.l.length / 2)) t (ch a [] [])).length = d.l.length := by rw [over_length, hl]
  have key := over_at5 (S := d.now) (C := ch a [] []) h1 old (by rw [hl]; exact room)
  rw [hl] at key
  refine ⟨⟨fun x hx => ?_, fun p hp => absurd hp List.not_mem_nil, by simp only [ho]; exact hok.len⟩, h1, by simp only [ho]; exact n4, t0, t1, by simpa using small, by simp only [ho]; exact room, by simp only [ho]; exact key, fun w hw => absurd hw List.not_mem_nil, by simp only [ho]; exact key⟩
  obtain ⟨j, hj⟩ := List.getElem?_of_mem hx
  simp only at hj
  rw [over_at] at hj
  split at hj
  · injection hj with hj; rw [← hj]; exact secAt_length _ _ _
  · exact hok.now x (List.mem_of_getElem? hj)
/-- A record more. -/
theorem Good.append {d : Dk} {half t : Nat} {a s b : List Rec} (h : Good d half t a s b) {r : Rec} (hr : r.d.length ≤ 1024) (hk : r.k ≠ 255) (room : (ch a s (b ++ [r])).length ≤ 55 * (d.l.length / 2)) :
    Good { d with ws := d.ws ++ newWs (half * (d.l.length / 2)) t (ch a s b) (frameb (chainSum 0 (logR a s b)) r) } half t a s (b ++ [r]) := by
  have e := ch_snoc a s b r
  obtain ⟨f, hf⟩ : ∃ f, f = frameb (chainSum 0 (logR a s b)) r := ⟨_, rfl⟩
  obtain ⟨C, hC⟩ : ∃ C, C = ch a s b := ⟨_, rfl⟩
  obtain ⟨n, hn⟩ : ∃ n, n = d.l.length / 2 := ⟨_, rfl⟩
  obtain ⟨p, hp⟩ : ∃ p, p = half * n := ⟨_, rfl⟩
  have hl0 : (ch a s []).length ≤ C.length := by rw [hC, ch_split a s b]; simp
  have g4 := h.room
  have g5 := h.l
  have g6 := h.ws
  have g7 := h.now
  rw [← hf, ← hC] at e
  have hp2 : p + n ≤ d.l.length := by
    rcases (by have := h.h1; omega : half = 0 ∨ half = 1) with h0 | h0 <;> subst h0 <;> omega
  rw [← hf, ← hC]
  rw [← hn, ← hp, ← hC] at g6 g7
  rw [← hn, ← hC] at g4
  rw [← hn, ← hp] at g5 ⊢
  rw [e, ← hn] at room
  have hc : cnt C = (C.length + 54) / 55 := rfl
  have hcb : cnt (C ++ f) = ((C ++ f).length + 54) / 55 := rfl
  have hcf : (C ++ f).length = C.length + f.length := List.length_append
  refine ⟨⟨h.ok.sec, fun w hw => ?_, h.ok.len⟩, h.h1, h.n4, h.t0, h.t1, fun x hx => ?_, by rw [e]; simp only; omega, by simpa only [← hn, ← hp] using g5, fun w hw => ?_, fun j x hj => ?_⟩
  · rcases List.mem_append.1 hw with hw | hw
    · exact h.ok.ws w hw
    · obtain ⟨i, rfl, i1, i2⟩ := mem_newWs hw
      exact ⟨by simp only; omega, secAt_length _ _ _⟩
  · rw [← List.append_assoc s, ← List.append_assoc a] at hx
    rcases List.mem_append.1 hx with hx | hx
    · exact h.small x (by simpa using hx)
    · rw [List.mem_singleton.1 hx]; exact ⟨hr, hk⟩
  · rw [e]
    simp only [← hn, ← hp]
    rcases List.mem_append.1 hw with hw | hw
    · exact (g6 w hw).more f
    · obtain ⟨i, rfl, i1, i2⟩ := mem_newWs hw
      refine .inl ⟨by omega, by simp only; omega, ?_⟩
      rw [show p + i - p = i by omega]
      exact vers_secAt (by omega) (by omega)
  · rw [e]
    simp only [← hn, ← hp]
    unfold Dk.now at hj
    simp only [puts_append] at hj
    change (puts d.now (newWs p t C f))[j]? = some x at hj
    unfold newWs at hj
    rw [puts_range (f := fun k => secAt t (C ++ f) (C.length / 55 + k))] at hj
    split at hj
    · rename_i h2
      injection hj with hj
      rw [show C.length / 55 + (j - (p + C.length / 55)) = j - p by omega] at hj
      subst hj
      exact .inl ⟨by omega, by omega, vers_secAt (by omega) (Nat.le_refl _)⟩
    · rename_i h2
      have hjl : j < d.now.length := (List.getElem?_eq_some_iff.1 hj).1
      rcases g7 j x hj with ⟨k1, k2, k3⟩ | k
      · refine .inl ⟨k1, k2, ?_⟩
        rcases vers_exact k3 with ⟨k4, k5⟩ | ⟨k4, k5⟩
        · exact .inl ⟨k4, by omega⟩
        · rw [k5, ← secAt_append (t := t) (C := C) (i := j - p) (by omega) f]
          exact vers_secAt (by omega) (Nat.le_refl _)
      · exact .inr k
/-- All that waits is written. -/
theorem ch_sync (a s b : List Rec) : ch a (s ++ b) [] = ch a s b := by unfold ch logR; simp
theorem settle_all (d : Dk) : d.settle (fun _ => true) = { d with l := d.now, ws := [] } := by
  unfold Dk.settle
  rw [kept_all]
  rfl
theorem Good.sync {d : Dk} {half t : Nat} {a s b : List Rec} (h : Good d half t a s b) : Good (d.settle fun _ => true) half t a (s ++ b) [] := by
  have hok := h.ok.settle fun _ => true
  rw [settle_all] at hok ⊢
  have hl : d.now.length = d.l.length := puts_length _ _
  have hn := h.now
  refine ⟨hok, h.h1, by simp only [hl]; exact h.n4, h.t0, h.t1, by simpa using h.small, ?_, ?_, fun w hw => absurd hw List.not_mem_nil, ?_⟩
  · rw [ch_sync]; simp only [hl]; exact h.room
  · rw [ch_sync]; simp only [hl]; exact hn
  · rw [ch_sync]; simp only [hl]; exact hn
/-- Whatever of the writings is kept. -/
theorem Good.kept {d : Dk} {half t : Nat} {a s b : List Rec} (h : Good d half t a s b) (keep : Nat → Bool) : ∀ j x, (d.settle keep).l[j]? = some x → At5 t (ch a s []).length (ch a s b) (half * (d.l.length / 2)) (d.l.length / 2) j x := by
  refine puts_each (Q := At5 t (ch a s []).length (ch a s b) (half * (d.l.length / 2)) (d.l.length / 2)) _ d.l (fun j x hj => ?_) (fun w hw => h.ws w (kept_sub hw))
  rw [ch_split a s b]
  exact (h.l j x hj).more _
/-! ### Opening -/
def greatestOf (S : List (List UInt8)) : Nat := S.foldl (fun m x => max m (turnOf x)) 0
def pickOf (l : List (List UInt8)) : Option (Nat × Hf) :=
  if (lookOf (halfOf l 1)).sealed = true ∧ ((lookOf (halfOf l 0)).sealed = false ∨ (lookOf (halfOf l 0)).turn < (lookOf (halfOf l 1)).turn) then some (1, lookOf (halfOf l 1))
  else if (lookOf (halfOf l 0)).sealed = true then some (0, lookOf (halfOf l 0)) else none
theorem foldl_max (S : List (List UInt8)) (f : List UInt8 → Nat) : ∀ m, (S.foldl (fun m x => max m (f x)) m = m ∨ ∃ x ∈ S, S.foldl (fun m x => max m (f x)) m = f x) ∧ m ≤ S.foldl (fun m x => max m (f x)) m ∧ ∀ x ∈ S, f x ≤ S.foldl (fun m x => max m (f x)) m := by
  induction S with
  | nil => intro m; exact ⟨.inl rfl, Nat.le_refl _, by simp⟩
  | cons y S ih =>
    intro m
    obtain ⟨h1, h2, h3⟩ := ih (max m (f y))
    rw [List.foldl_cons]
    refine ⟨?_, by omega, fun x hx => ?_⟩
    · rcases h1 with h1 | ⟨x, hx, h1⟩
      · rw [h1]
        rcases Nat.le_total m (f y) with h | h
        · right; exact ⟨y, List.mem_cons_self .., by omega⟩
        · left; omega
      · exact .inr ⟨x, List.mem_cons_of_mem _ hx, h1⟩
    · rcases List.mem_cons.1 hx with rfl | hx
      · omega
      · exact h3 x hx
theorem greatest_le (S : List (List UInt8)) : ∀ x ∈ S, turnOf x ≤ greatestOf S := (foldl_max S turnOf 0).2.2
theorem greatest_lt (S : List (List UInt8)) : greatestOf S < 18446744073709551616 := by
  rcases (foldl_max S turnOf 0).1 with h | ⟨x, _, h⟩
  · unfold greatestOf; rw [h]; decide
  · unfold greatestOf; rw [h]; exact turnOf_lt x
theorem vers_turn {t lo i : Nat} {C x : List UInt8} (t1 : t < 9223372036854775808) (h : Vers t lo C i x) : turnOf x ≤ t := by
  rcases h with ⟨h, _⟩ | ⟨e, _, _, _, rfl⟩
  · omega
  · rw [turnOf_secAt (by omega)]; omega
theorem greatest_at5 {l : List (List UInt8)} {half t lo : Nat} {C : List UInt8} (h1 : half ≤ 1) (n4 : 4 ≤ l.length) (t1 : t < 9223372036854775808) (lo0 : 0 < lo) (hl : ∀ j x, l[j]? = some x → At5 t lo C (half * (l.length / 2)) (l.length / 2) j x) : greatestOf l = t := by
  have hp2 : half * (l.length / 2) < l.length := by
    rcases (by omega : half = 0 ∨ half = 1) with h0 | h0 <;> subst h0 <;> omega
  have hx := hl _ _ (List.getElem?_eq_getElem hp2)
  have hle : ∀ x ∈ l, turnOf x ≤ t := by
    intro x hx
    obtain ⟨j, hj⟩ := List.getElem?_of_mem hx
    rcases hl j x hj with ⟨_, _, h⟩ | ⟨_, h⟩
    · exact vers_turn t1 h
    · omega
  have h2 : turnOf l[half * (l.length / 2)] = t := by
    rcases hx with ⟨_, _, h⟩ | ⟨h, _⟩
    · rcases h with ⟨_, h⟩ | ⟨e, _, _, _, h⟩
      · omega
      · rw [h]; exact turnOf_secAt (by omega) _ _
    · omega
  have h3 := greatest_le l _ (List.getElem_mem hp2)
  rcases (foldl_max l turnOf 0).1 with h | ⟨x, hx, h⟩
  · unfold greatestOf at h3 ⊢; omega
  · have := hle x hx; unfold greatestOf at h3 ⊢; omega
theorem pick_at5 {l : List (List UInt8)} {half t lo : Nat} {a s b : List Rec} (h1 : half ≤ 1) (n4 : 4 ≤ l.length) (t0 : 0 < t) (t1 : t < 9223372036854775808) (small : ∀ r ∈ a ++ (s ++ b), r.d.length ≤ 1024 ∧ r.k ≠ 255)
    (room : (ch a s b).length ≤ 55 * (l.length / 2)) (hlo : (ch a s []).length ≤ lo) (hlo2 : lo ≤ (ch a s b).length) (hl : ∀ j x, l[j]? = some x → At5 t lo (ch a s b) (half * (l.length / 2)) (l.length / 2) j x) :
    ∃ k, k ≤ b.length ∧ pickOf l = some (half, ⟨t, a ++ (s ++ b.take k), true⟩) ∧ (lo = (ch a s b).length → k = b.length) := by
  obtain ⟨k, k1, k2, k3⟩ := look_at5 h1 t0 t1 small room hlo hlo2 hl
  refine ⟨k, k1, ?_, k3⟩
  have other : ∀ i, i ≤ 1 → i ≠ half → (lookOf (halfOf l i)).turn < t := by
    intro i hi hne
    have e : (lookOf (halfOf l i)).turn = turnOf ((halfOf l i).headD []) := by rw [lookOf, bytesOf]
    have h0 : i * (l.length / 2) + 0 < l.length := by
      rcases (by omega : i = 0 ∨ i = 1) with h0 | h0 <;> subst h0 <;> omega
    have hx : (halfOf l i)[0]? = some l[i * (l.length / 2) + 0] := by rw [halfOf_at l hi (by omega), List.getElem?_eq_getElem h0]
    have hd : (halfOf l i).headD [] = l[i * (l.length / 2) + 0] := by
      cases hh : halfOf l i with
      | nil => rw [hh] at hx; simp at hx
      | cons y r => rw [hh] at hx; simpa using hx
    rw [e, hd]
    rcases hl _ _ (List.getElem?_eq_getElem h0) with ⟨h2, h3, _⟩ | ⟨_, h⟩
    · exfalso
      rcases (by omega : (half = 0 ∧ i = 1) ∨ (half = 1 ∧ i = 0)) with ⟨rfl, rfl⟩ | ⟨rfl, rfl⟩ <;> omega
    · exact h
  unfold pickOf
  rcases (by omega : half = 0 ∨ half = 1) with rfl | rfl
  · have h2 := other 1 (by omega) (by omega)
    rw [if_neg (by rw [k2]; rintro ⟨_, h | h⟩; cases h; simp only at h; omega), k2, if_pos rfl]
  · have h2 := other 0 (by omega) (by omega)
    rw [if_pos (by rw [k2]; exact ⟨rfl, .inr h2⟩), k2]
/-! ### How many bytes -/
def fsize (r : Rec) : Nat := 2 + (num r.d.length).length + r.d.length + 4
theorem chain_len (l : List Rec) : ∀ s, (chain s l).length = (l.map fsize).sum := by
  induction l with
  | nil => intro s; rfl
  | cons r l ih => intro s; rw [chain, List.length_append, ih, frameb_length]; simp [fsize]
theorem ch_len (a s b : List Rec) : (ch a s b).length = (a.map fsize).sum + 7 + (s.map fsize).sum + (b.map fsize).sum := by
  have h7 : fsize sealR = 7 := by simp [fsize, sealR, num_small]
  unfold ch logR
  rw [chain_len]
  simp [h7]
  omega
theorem sum_take (b : List Rec) (k : Nat) : ((b.take k).map fsize).sum ≤ (b.map fsize).sum := by
  have e : ((b.take k ++ b.drop k).map fsize).sum = (b.map fsize).sum := by rw [List.take_append_drop]
  rw [List.map_append, List.sum_append] at e
  omega
theorem ch_again (a s b : List Rec) (k : Nat) : (ch (a ++ (s ++ b.take k)) [] []).length ≤ (ch a s b).length := by
  rw [ch_len, ch_len]
  have := sum_take b k
  simp only [List.map_append, List.sum_append, List.map_nil, List.sum_nil]
  omega
end Go.Proofs.Ytchmcjimnliodaa
end
section
set_option linter.unusedSimpArgs false
set_option linter.unusedVariables false
/- The machine's and, or, xor on unsigned numbers, as those of Nat. -/
namespace Go.Proofs.Ytchmcjimnliodaa

theorem ofInt_toNat (w a : Nat) (h : a < 2 ^ w) : (BitVec.ofInt w (a : Int)).toNat = a := by
  rw [BitVec.ofInt_natCast, BitVec.toNat_ofNat]; exact Nat.mod_eq_of_lt h
theorem wrap_nat (k : IntKind) (hk : k.signed = false) (a : Nat) (h : a < 2 ^ k.bits) : k.wrap (a : Int) = (a : Int) := by
  unfold IntKind.wrap
  simp only [hk, Bool.false_and, Bool.false_eq_true, if_false]
  exact Int.emod_eq_of_lt (by omega) (by exact_mod_cast h)
theorem bits_and (k : IntKind) (hk : k.signed = false) (a b : Nat) (ha : a < 2 ^ k.bits) (hb : b < 2 ^ k.bits) : bits .and k (a : Int) (b : Int) = ((a &&& b : Nat) : Int) := by
  show k.wrap ((BitVec.ofInt k.bits (a : Int) &&& BitVec.ofInt k.bits (b : Int)).toNat : Int) = _
  rw [BitVec.toNat_and, ofInt_toNat _ _ ha, ofInt_toNat _ _ hb]
  exact wrap_nat k hk _ (Nat.and_lt_two_pow _ hb)
theorem bits_or (k : IntKind) (hk : k.signed = false) (a b : Nat) (ha : a < 2 ^ k.bits) (hb : b < 2 ^ k.bits) : bits .or k (a : Int) (b : Int) = ((a ||| b : Nat) : Int) := by
  show k.wrap ((BitVec.ofInt k.bits (a : Int) ||| BitVec.ofInt k.bits (b : Int)).toNat : Int) = _
  rw [BitVec.toNat_or, ofInt_toNat _ _ ha, ofInt_toNat _ _ hb]
  exact wrap_nat k hk _ (Nat.or_lt_two_pow ha hb)
theorem bits_xor (k : IntKind) (hk : k.signed = false) (a b : Nat) (ha : a < 2 ^ k.bits) (hb : b < 2 ^ k.bits) : bits .xor k (a : Int) (b : Int) = ((a ^^^ b : Nat) : Int) := by
  show k.wrap ((BitVec.ofInt k.bits (a : Int) ^^^ BitVec.ofInt k.bits (b : Int)).toNat : Int) = _
  rw [BitVec.toNat_xor, ofInt_toNat _ _ ha, ofInt_toNat _ _ hb]
  exact wrap_nat k hk _ (Nat.xor_lt_two_pow ha hb)
theorem or_128 (y : Nat) : ((UInt8.ofNat y).toNat ||| 128) = y % 128 + 128 := by
  rw [UInt8.toNat_ofNat']
  have h := Nat.mod_lt y (show 0 < 256 by decide)
  have key : ∀ z, z < 256 → z ||| 128 = z % 128 + 128 := by decide +kernel
  rw [show (2 : Nat) ^ 8 = 256 from rfl, key _ h]
  omega
/-- 'byte(x) | 128'. -/
theorem byte_more (y : Nat) : bits .or .u8 ((y : Int) % 256) 128 = ((UInt8.ofNat (y % 128 + 128)).toNat : Int) := by
  have h := (UInt8.ofNat y).toNat_lt
  have e : ((y : Int) % 256) = ((UInt8.ofNat y).toNat : Int) := by rw [UInt8.toNat_ofNat']; simp
  rw [e, show (128 : Int) = ((128 : Nat) : Int) from rfl, bits_or .u8 rfl _ _ h (by decide), or_128, UInt8.toNat_ofNat']
  omega
theorem ofInt_neg1 : BitVec.ofInt 64 18446744073709551615 = BitVec.allOnes 64 := by decide
/-- 'uint64(x)<<1 ^ uint64(x>>63)'. -/
theorem fold_bits {x : Int} (h : I64 x) : bits .xor .u64 (IntKind.u64.wrap (IntKind.u64.wrap x * 2)) (IntKind.u64.wrap (x / 9223372036854775808)) = (fold x : Int) := by
  obtain ⟨h1, h2⟩ := h
  rw [IntKind.wrap_u64, IntKind.wrap_u64, IntKind.wrap_u64]
  by_cases hx : 0 ≤ x
  · have e1 : x % 18446744073709551616 * 2 % 18446744073709551616 = ((2 * x).toNat : Int) := by omega
    have e2 : x / 9223372036854775808 % 18446744073709551616 = ((0 : Nat) : Int) := by omega
    rw [e1, e2, bits_xor .u64 rfl _ _ (by show (2 * x).toNat < 18446744073709551616; omega) (by decide)]
    unfold fold
    rw [if_pos hx]; simp
  · have e1 : x % 18446744073709551616 * 2 % 18446744073709551616 = ((2 * x + 18446744073709551616).toNat : Int) := by omega
    have e2 : x / 9223372036854775808 % 18446744073709551616 = 18446744073709551615 := by omega
    rw [e1, e2]
    show IntKind.u64.wrap ((BitVec.ofInt 64 ((2 * x + 18446744073709551616).toNat : Int) ^^^ BitVec.ofInt 64 18446744073709551615).toNat : Int) = _
    rw [ofInt_neg1, BitVec.xor_allOnes, BitVec.toNat_not, ofInt_toNat 64 _ (by show _ < 18446744073709551616; omega), IntKind.wrap_u64]
    unfold fold
    rw [if_neg hx]
    omega
theorem and_127 {z : Nat} (_h : z < 256) : z &&& 127 = z % 128 := by
  have := Nat.and_two_pow_sub_one_eq_mod z 7
  simpa using this
/-- 'x | uint64(b&127) << shift'. -/
theorem num_val {y z k : Nat} (hy : y < 2 ^ (7 * k)) (hz : z < 256) (hk : k ≤ 9) (h9 : k = 9 → z % 128 ≤ 1) :
    bits .or .u64 (y : Int) (IntKind.u64.wrap (IntKind.u64.wrap (bits .and .u8 (z : Int) 127) * 2 ^ (7 * k))) = ((y + z % 128 * 2 ^ (7 * k) : Nat) : Int) := by
  have hb : z % 128 * 2 ^ (7 * k) < 2 ^ 64 := by
    rcases Nat.lt_or_ge k 9 with h | h
    · have h1 : 2 ^ (7 * k) ≤ 2 ^ 56 := Nat.pow_le_pow_right (by omega) (by omega)
      have h2 : z % 128 < 128 := Nat.mod_lt _ (by omega)
      calc z % 128 * 2 ^ (7 * k) ≤ 127 * 2 ^ 56 := Nat.mul_le_mul (by omega) h1
        _ < 2 ^ 64 := by decide
    · obtain rfl : k = 9 := by omega
      have := h9 rfl
      have h3 : z % 128 * 2 ^ (7 * 9) ≤ 1 * 2 ^ 63 := Nat.mul_le_mul this (Nat.le_refl _)
      exact Nat.lt_of_le_of_lt h3 (by decide)
  have hy64 : y < 2 ^ 64 := Nat.lt_of_lt_of_le hy (Nat.pow_le_pow_right (by omega) (by omega))
  have e1 : bits .and .u8 (z : Int) 127 = ((z % 128 : Nat) : Int) := by
    rw [show (127 : Int) = ((127 : Nat) : Int) from rfl, bits_and .u8 rfl z 127 hz (by decide), and_127 hz]
  have hz2 : z % 128 < 128 := Nat.mod_lt _ (by omega)
  rw [e1, wrap_nat .u64 rfl _ (show z % 128 < 2 ^ 64 by omega)]
  have e2 : ((z % 128 : Nat) : Int) * 2 ^ (7 * k) = ((z % 128 * 2 ^ (7 * k) : Nat) : Int) := by
    rw [Int.natCast_mul, Int.natCast_pow]; rfl
  rw [e2, wrap_nat .u64 rfl _ hb, bits_or .u64 rfl _ _ hy64 hb]
  congr 1
  rw [Nat.or_comm, Nat.mul_comm, ← Nat.two_pow_add_eq_or_of_lt hy, Nat.add_comm]
theorem num_val_lt {y z k : Nat} (hy : y < 2 ^ (7 * k)) : y + z % 128 * 2 ^ (7 * k) < 2 ^ (7 * (k + 1)) := by
  have h2 : z % 128 < 128 := Nat.mod_lt _ (by omega)
  have h3 : (z % 128 + 1) * 2 ^ (7 * k) ≤ 128 * 2 ^ (7 * k) := Nat.mul_le_mul (by omega) (Nat.le_refl _)
  have h4 : 2 ^ (7 * (k + 1)) = 128 * 2 ^ (7 * k) := by
    rw [show 7 * (k + 1) = 7 * k + 7 from by omega, Nat.pow_add]; omega
  rw [Nat.add_mul] at h3
  omega
end Go.Proofs.Ytchmcjimnliodaa
end
section
set_option linter.unusedSimpArgs false
set_option linter.unusedVariables false
/- The writer of octet: what each of its functions leaves. -/
namespace Go.Proofs.Ytchmcjimnliodaa
open Go.RowKit
set_option maxRecDepth 100000

theorem el24 : ElemT Try.prog 24 5 1 1 := ElemT.mk (z := .int .u8 0) Try.underlying24 (by kernel_rfl) rfl (by decide)

/-- Block `B` is a writer that has the bytes `bs`, kept in the block `r`. -/
def Wr (w : World) (B : Nat) (r : Option Nat) (bs : List UInt8) : Prop :=
  ∃ a cap, Blk w B #[.slice a bs.length cap] 127 ∧ Row w 5 1 a bs.length cap (ub bs) ∧ ablk a = r
/-- A writer has these bytes now; nothing else has changed. -/
structure WrTo (w w' : World) (B : Nat) (r : Option Nat) (bs : List UInt8) : Prop where
  now : ∃ r', Wr w' B r' bs ∧ (r' = r ∨ ∃ k, r' = some k ∧ w.heap.size ≤ k)
  only : Only (fun k => k = B ∨ r = some k) w w'
theorem Wr.lt {w : World} {B : Nat} {r : Option Nat} {bs : List UInt8} (h : Wr w B r bs) : B < w.heap.size := by
  obtain ⟨a, cap, hb, _⟩ := h; exact hb.lt
theorem Wr.self {w : World} {B : Nat} {r : Option Nat} {bs : List UInt8} (h : Wr w B r bs) : WrTo w w B r bs := ⟨⟨r, h, .inl rfl⟩, Only.refl _ _⟩
theorem Wr.only {S : Nat → Prop} {w w' : World} {B : Nat} {r : Option Nat} {bs : List UInt8} (h : Wr w B r bs) (ho : Only S w w') (hB : ¬ S B) (hr : ∀ k, r = some k → ¬ S k) : Wr w' B r bs := by
  obtain ⟨a, cap, hb, hrow, rfl⟩ := h
  exact ⟨a, cap, hb.only ho hB, hrow.only ho hr, rfl⟩
theorem WrTo.trans {w w1 w2 : World} {B : Nat} {r r1 : Option Nat} {bs1 bs2 : List UInt8} (h : WrTo w w1 B r bs1) (hr : r1 = r ∨ ∃ k, r1 = some k ∧ w.heap.size ≤ k) (k : WrTo w1 w2 B r1 bs2) : WrTo w w2 B r bs2 := by
  obtain ⟨⟨r2, h2, hr2⟩, ho2⟩ := k
  refine ⟨⟨r2, h2, ?_⟩, h.only.trans ho2 ?_⟩
  · rcases hr2 with rfl | ⟨k, rfl, hk⟩
    · exact hr
    · exact .inr ⟨k, rfl, Nat.le_trans h.only.size hk⟩
  · intro i hi hx
    rcases hx with rfl | hx
    · exact .inl rfl
    · rcases hr with rfl | ⟨k, rfl, hk⟩
      · exact .inr hx
      · injection hx with hx; omega


theorem lies_new1 (w : World) (v : Value) (T : TypeId) : Lies (w.alloc (.cells #[v] T)) (some ⟨w.heap.size, 0, none⟩) [v] :=
  Lies.of_addr fun j u hj => by
    cases j with
    | zero => simp at hj; subst hj; exact (Blk.new w #[v] T).cell rfl
    | succ j => simp at hj
/-- One byte more. -/
theorem Wr.put {w w1 : World} {B : Nat} {a a' : Option Addr} {cap' n : Nat} {bs ys : List UInt8} {cs : Array Value} (h0 : Blk w B cs 127) (hcs : cs.size = 1) (hne : ablk a ≠ some B)
    (ho : Only (fun k => ablk a = some k) w w1) (hn : n = (bs ++ ys).length)
    (hrow : Row w1 5 1 a' n cap' (ub (bs ++ ys))) (hat : ablk a' = ablk a ∨ ∃ k, ablk a' = some k ∧ w.heap.size ≤ k) :
    WrTo w (w1.setCell ⟨B, 0, none⟩ (.slice a' n cap')) B (ablk a) (bs ++ ys) := by
  subst hn
  have hne' : ablk a' ≠ some B := by
    rcases hat with h | ⟨k, h, hk⟩
    · rw [h]; exact hne
    · rw [h]; intro e; injection e with e; have := h0.lt; omega
  have hb := (h0.only ho hne).set 0 (.slice a' (bs ++ ys).length cap')
  obtain ⟨c, rfl⟩ : ∃ c, cs = #[c] := by
    cases cs with | mk l => match l, hcs with | [c], _ => exact ⟨c, rfl⟩
  refine ⟨⟨ablk a', ⟨a', cap', hb, hrow.setCell hne' _, rfl⟩, ?_⟩, ?_⟩
  · rcases hat with h | ⟨k, h, hk⟩
    · exact .inl h
    · exact .inr ⟨k, h, hk⟩
  · exact (ho.mono fun i _ h => .inr h).setCell (fun _ => .inl rfl) _


set_option maxHeartbeats 400000 in
theorem num_any (B : Nat) (r : Option Nat) (bs : List UInt8) (x : Nat) (w : World) (hw : Wr w B r bs) (hx : x < 18446744073709551616) (hlen : bs.length + 10 ≤ 1099511627776) :
    Calls Try.prog 68 #[.pointer (some ⟨B, 0, none⟩), .int .u64 x] w fun e w' => e = .returned (.tuple #[]) ∧ WrTo w w' B r (bs ++ num x) := by
  have hnl := num_length10 hx
  have hself := hw.self
  have Hx := Lib.hid hx
  clear hx
  go_enter Try.func68, Try.ntmps68
  go_wp2
  go_loopw [1] (fun v wr => ∃ (y : Nat) (bs' : List UInt8), v = .int .u64 y ∧ y ≤ x ∧ bs' ++ num y = bs ++ num x ∧ WrTo w wr B r bs') (fun v _ => (intOf v).toNat)
  case atStart => exact ⟨x, bs, rfl, Nat.le_refl _, rfl, hself⟩
  case round =>
    obtain ⟨y, bs', rfl, hy, heq, hto⟩ := hrel
    have hto0 := hto
    obtain ⟨⟨r', hwr, hr'⟩, honly⟩ := hto
    obtain ⟨a, cap, hb, hrow, hr⟩ := hwr
    have hl : bs'.length ≤ bs.length + 10 := by
      have := congrArg List.length heq; simp at this; omega
    have hc := hb.cell (i := 0) rfl
    have hf := hb.frozen 0
    have HHeq := Lib.hid heq
    have HHr := Lib.hid hr
    clear heq hr
    have hmore := byte_more y
    have Hmore := Lib.hid hmore
    clear hmore
    have hne := hrow.ne_blk hb (by decide)
    go_wp2_with (at_builtin; refine Stop.in ?_)
    all_goals (refine Stop.out ?_)
    · have hy128 : 128 ≤ (y : Int) := by assumption
      rw [Hmore.out]
      refine wpList_app_bytes _ rfl _ _ rfl el24 a bs'.length cap bs' rfl (hrow.alloc _) (some ⟨wr.heap.size, 0, none⟩) 1 1 [UInt8.ofNat (y % 128 + 128)] rfl (lies_new1 _ _ _) rfl (by omega) ?_
      intro a2 cap2 w1 hrow1 ho1 hat1
      have hbw := ((hb.alloc _).only ho1 hne)
      have hc1 := hbw.cell (i := 0) rfl
      have hf1 := hbw.frozen 0
      clear hc hf
      go_wp2
      go_roundw
      case rel =>
        refine ⟨y / 128, bs' ++ [UInt8.ofNat (y % 128 + 128)], rfl, by omega, ?_, hto0.trans hr' ?_⟩
        · rw [← HHeq.out, num_big (x := y) (by omega)]; simp
        · have e := HHr.out
          subst e
          exact Wr.put hb rfl hne (((Only.refl _ _).alloc _).trans ho1 (fun _ _ h => h)) (by simp) hrow1 (hat1.imp id (fun h => ⟨_, h, by simp⟩))
      case measure => simp [intOf]; omega
    · have hy128 : (y : Int) < 128 := by assumption
      have hlow : (y : Int) = ((UInt8.ofNat y).toNat : Int) := by rw [toNat_small (by omega)]
      rw [show Value.int IntKind.u8 (y : Int) = Value.int IntKind.u8 ((UInt8.ofNat y).toNat : Int) from by rw [← hlow]]
      refine wpList_app_bytes _ rfl _ _ rfl el24 a bs'.length cap bs' rfl (hrow.alloc _) (some ⟨wr.heap.size, 0, none⟩) 1 1 [UInt8.ofNat y] rfl (lies_new1 _ _ _) rfl (by omega) ?_
      intro a2 cap2 w1 hrow1 ho1 hat1
      have hbw := ((hb.alloc _).only ho1 hne)
      have hc1 := hbw.cell (i := 0) rfl
      have hf1 := hbw.frozen 0
      clear hc hf hlow
      go_wp2
      go_end0
      refine ⟨rfl, ?_⟩
      rw [← HHeq.out, num_small (x := y) (by omega)]
      refine hto0.trans hr' ?_
      have e := HHr.out
      subst e
      exact Wr.put hb rfl hne (((Only.refl _ _).alloc _).trans ho1 (fun _ _ h => h)) (by simp) hrow1 (hat1.imp id (fun h => ⟨_, h, by simp⟩))

theorem el24u : Try.prog.underlying 9 = some .string := Try.underlying9
theorem row_new0 (w : World) (e : TypeId) (size : Nat) : Row (w.alloc (.cells #[] e)) e size (some ⟨w.heap.size, 0, none⟩) 0 0 [] :=
  Row.of_blk (Blk.new w #[] e) (by simp) (Nat.zero_le _)
theorem none_nil {w : World} {l : List UInt8} (h : Lies w none (ub l)) : l = [] := by
  cases l with
  | nil => rfl
  | cons x l => obtain ⟨b, o, e, _⟩ := h 0 _ rfl; cases e
set_option maxHeartbeats 400000 in
/-- slices.Clone of bytes. -/
theorem clone_bytes (a : Option Addr) (cap : Nat) (bs : List UInt8) (w : World) (hl : Lies w a (ub bs)) (hlen : bs.length ≤ 1099511627776) :
    Calls Try.prog 61 #[.slice a bs.length cap] w fun e w' => Made w w' 5 1 bs.length (ub bs) (a = none) e := by
  have hq := fun w => Lib.run_eql_slice_nil (P := Try.prog) w 24 5 a bs.length cap 0 0 Try.underlying24
  cases a with
  | none =>
    have := none_nil hl
    subst this
    simp only [List.length_nil] at hq ⊢
    clear hl hlen
    go_enter Try.func61, Try.ntmps61
    go_wp2
    go_ret
    exact ⟨⟨none, 0, rfl, Row.nil _ _ _, by simp, by simp [ablk]⟩, Only.refl _ _⟩
  | some ad =>
    go_enter Try.func61, Try.ntmps61
    go_wp2_with (at_builtin; refine Stop.in ?_)
    refine Stop.out ?_
    refine wpList_app_bytes _ rfl _ _ rfl el24 (some ⟨w.heap.size, 0, none⟩) 0 0 [] rfl (row_new0 _ _ _) (some ad) bs.length cap bs rfl (hl.alloc _) rfl (by omega) ?_
    intro a2 cap2 w1 hrow1 ho1 hat1
    go_wp2
    go_ret
    simp only [Nat.zero_add, List.nil_append] at hrow1 ⊢
    refine ⟨⟨a2, cap2, rfl, hrow1, ?_, ?_⟩, ((Only.refl _ _).alloc _).trans ho1 (by intro i hi h; simp [ablk] at h; omega)⟩
    · rcases hat1 with h | h <;> (cases a2 <;> simp [ablk] at h ⊢)
    · intro k hk
      rcases hat1 with h | h
      · rw [h] at hk; simp [ablk] at hk; omega
      · rw [h] at hk; simp at hk; omega

set_option maxHeartbeats 400000 in
theorem raw_any (B : Nat) (r : Option Nat) (bs ys : List UInt8) (a : Option Addr) (cap : Nat) (w : World) (hw : Wr w B r bs) (hl : Lies w a (ub ys)) (hlen : bs.length + ys.length ≤ 1099511627776) :
    Calls Try.prog 123 #[.pointer (some ⟨B, 0, none⟩), .slice a ys.length cap] w fun e w' => e = .returned (.tuple #[]) ∧ WrTo w w' B r (bs ++ ys) := by
  obtain ⟨a1, cap1, hb, hrow, hr⟩ := hw
  have hc := hb.cell (i := 0) rfl
  have hne := hrow.ne_blk hb (by decide)
  have Hr := Lib.hid hr
  clear hr
  go_enter Try.func123, Try.ntmps123
  go_wp2_with (at_builtin; refine Stop.in ?_)
  refine Stop.out ?_
  refine wpList_app_bytes _ rfl _ _ rfl el24 a1 bs.length cap1 bs rfl hrow a ys.length cap ys rfl hl rfl (by omega) ?_
  intro a2 cap2 w1 hrow1 ho1 hat1
  have hbw := hb.only ho1 hne
  have hc1 := hbw.cell (i := 0) rfl
  have hf1 := hbw.frozen 0
  clear hc
  go_wp2
  go_end0
  refine ⟨rfl, ?_⟩
  have e := Hr.out
  subst e
  exact Wr.put hb rfl hne ho1 (by simp) hrow1 (hat1.imp id (fun h => ⟨_, h, Nat.le_refl _⟩))

theorem fold_any (x : Int) (hx : I64 x) (w : World) : Calls Try.prog 148 #[.int .i64 x] w fun e w' => e = .returned (.int .u64 (fold x)) ∧ w = w' := by
  have h := fold_bits hx
  have H := Lib.hid h
  clear h
  go_enter Try.func148, Try.ntmps148
  go_wp2
  go_ret
  exact ⟨congrArg (fun z => Ending.returned (.int .u64 z)) H.out, rfl⟩
theorem int_any (B : Nat) (r : Option Nat) (bs : List UInt8) (x : Int) (w : World) (hw : Wr w B r bs) (hx : I64 x) (hlen : bs.length + 10 ≤ 1099511627776) :
    Calls Try.prog 139 #[.pointer (some ⟨B, 0, none⟩), .int .i64 x] w fun e w' => e = .returned (.tuple #[]) ∧ WrTo w w' B r (bs ++ num (fold x)) := by
  go_enter Try.func139, Try.ntmps139
  go_wp2_with fail
  refine (fold_any x hx _).mono ?_
  rintro e w' ⟨rfl, rfl⟩
  go_wp2_with fail
  refine (num_any B r bs (fold x) _ hw (fold_lt hx) hlen).mono ?_
  rintro e w' ⟨rfl, hto⟩
  go_wp2
  go_end0
  exact ⟨rfl, hto⟩
theorem flag_any (B : Nat) (r : Option Nat) (bs : List UInt8) (x : Bool) (w : World) (hw : Wr w B r bs) (hlen : bs.length + 10 ≤ 1099511627776) :
    Calls Try.prog 134 #[.pointer (some ⟨B, 0, none⟩), .bool x] w fun e w' => e = .returned (.tuple #[]) ∧ WrTo w w' B r (bs ++ num (if x then 1 else 0)) := by
  cases x
  · go_enter Try.func134, Try.ntmps134
    go_wp2_with fail
    refine (num_any B r bs 0 _ hw (by decide) hlen).mono ?_
    rintro e w' ⟨rfl, hto⟩
    go_wp2
    go_end0
    exact ⟨rfl, hto⟩
  · go_enter Try.func134, Try.ntmps134
    go_wp2_with fail
    refine (num_any B r bs 1 _ hw (by decide) hlen).mono ?_
    rintro e w' ⟨rfl, hto⟩
    go_wp2
    go_end0
    exact ⟨rfl, hto⟩
theorem text_any (B : Nat) (r : Option Nat) (bs : List UInt8) (s : ByteArray) (w : World) (hw : Wr w B r bs) (hlen : bs.length + s.size + 10 ≤ 1099511627776) :
    Calls Try.prog 135 #[.pointer (some ⟨B, 0, none⟩), .string s] w fun e w' => e = .returned (.tuple #[]) ∧ WrTo w w' B r (bs ++ (num s.size ++ s.data.toList)) := by
  have hcv := fun (w : World) => Lib.run_convert_string_bytes (P := Try.prog) w 9 24 5 s Try.underlying9 Try.underlying24 Try.underlying5
  have hn := num_length10 (x := s.size) (by omega)
  go_enter Try.func135, Try.ntmps135
  go_wp2_with fail
  refine (num_any B r bs s.size _ hw (by omega) (by omega)).mono ?_
  rintro e w1 ⟨rfl, hto⟩
  go_wp2_with fail
  obtain ⟨⟨r1, hw1, hr1⟩, ho1⟩ := id hto
  have hs : s.data.toList.length = s.size := by simp
  have hp := bytesWorld_only w1 5 s
  refine (show Calls Try.prog 123 #[.pointer (some ⟨B, 0, none⟩), .slice (some ⟨w1.heap.size, 0, none⟩) s.data.toList.length (grownCap w1 s.size 0 5)] _ _ from
    raw_any B r1 (bs ++ num s.size) s.data.toList _ _ (Lib.bytesWorld w1 5 s) (hw1.only hp id (fun _ _ => id)) (bytesWorld_lies w1 5 s) (by rw [List.length_append, hs]; omega)).mono ?_
  rintro e w2 ⟨rfl, hto2⟩
  go_wp2
  go_end0
  refine ⟨rfl, ?_⟩
  rw [← List.append_assoc]
  refine hto.trans hr1 ⟨?_, (hp.mono (fun _ _ h => h.elim)).trans hto2.only (fun _ _ h => h)⟩
  obtain ⟨r2, h2, hr2⟩ := hto2.now
  exact ⟨r2, h2, hr2.imp id (fun ⟨k, e, hk⟩ => ⟨k, e, Nat.le_trans hp.size hk⟩)⟩
theorem bytes_any (B : Nat) (r : Option Nat) (bs : List UInt8) (w : World) (hw : Wr w B r bs) (hlen : bs.length ≤ 1099511627776) :
    Calls Try.prog 70 #[.pointer (some ⟨B, 0, none⟩)] w fun e w' => ∃ z, Made w w' 5 1 bs.length (ub bs) z e := by
  obtain ⟨a1, cap1, hb, hrow, hr⟩ := hw
  have hc := hb.cell (i := 0) rfl
  clear hr
  go_enter Try.func70, Try.ntmps70
  go_wp2_with fail
  refine (clone_bytes a1 cap1 bs _ hrow.lies hlen).mono ?_
  rintro e w1 ⟨⟨a2, cap2, rfl, hrow2, h1, h2⟩, ho⟩
  go_wp2
  go_ret
  exact ⟨_, ⟨a2, cap2, rfl, hrow2, h1, h2⟩, ho⟩
end Go.Proofs.Ytchmcjimnliodaa
end
