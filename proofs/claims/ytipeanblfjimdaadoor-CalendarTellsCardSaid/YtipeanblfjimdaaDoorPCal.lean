/- Printed by wip/tools/gen.py: the conditions of functions. -/
import Derived.Test.YtipeanblfjimdaaDoorMix
import Derived.Test.YtipeanblfjimdaaDoorVcL
import Derived.Test.YtipeanblfjimdaaDoorChecked
namespace Go.Proofs.YtipeanblfjimdaaDoor
open Go
set_option maxRecDepth 100000
def c3_1 (x20 x14 x3 x0 : Value) (R : Value → World → Prop) (w : World) : Prop :=
  gd x20 true (
  val Tryd.prog (bin .eql 25 true x14 (Value.int .i64 3)) w fun x22 w => 
  gd x22 true (
  val Tryd.prog (ldS 24 x3) w fun x24 w => 
  val Tryd.prog (Instr.build 24 #[]) w fun x25 w => 
  val Tryd.prog (bin .eql 24 false x24 x25) w fun x26 w => 
  gd x26 true (
  Ret Tryd.prog 6 #[x0] w fun x30 w => 
  val Tryd.prog (bin .eql 9 true x30 (Value.string (ByteArray.mk #[63]))) w fun x31 w => 
  R x31 w) (
  R (Value.bool false) w)) (
  R (Value.bool false) w)) (
  val Tryd.prog (ldS 24 x3) w fun x34 w => 
  Ret Tryd.prog 7 #[x34] w fun x35 w => 
  val Tryd.prog (Instr.extract x35 0) w fun x36 w => 
  val Tryd.prog (Instr.extract x35 1) w fun x37 w => 
  drw w fun T w => 
  pu Tryd.prog (Instr.fieldAt 24 x3 0) fun x38 => 
  tk Tryd.prog T 0 (ld1 3 x38) fun x39 => 
  pu Tryd.prog (Instr.fieldAt 24 x3 1) fun x42 => 
  tk Tryd.prog T 1 (ld1 3 x42) fun x43 => 
  pu Tryd.prog (Instr.fieldAt 24 x3 2) fun x47 => 
  tk Tryd.prog T 2 (ld1 3 x47) fun x48 => 
  pu Tryd.prog (Instr.fieldAt 24 x3 4) fun x52 => 
  tk Tryd.prog T 3 (ld1 3 x52) fun x53 => 
  pu Tryd.prog (Instr.fieldAt 24 x3 5) fun x57 => 
  tk Tryd.prog T 4 (ld1 3 x57) fun x58 => 
  Ret Tryd.prog 8 #[x39, (Value.int .i64 4)] w fun x40 w => 
  ph T 1 w (pu Tryd.prog (bin .add 9 true x40 (Value.string (ByteArray.mk #[45]))) fun x41 => 
  Ret Tryd.prog 8 #[x43, (Value.int .i64 2)] w fun x44 w => 
  ph T 2 w (pu Tryd.prog (bin .add 9 false x41 x44) fun x45 => 
  pu Tryd.prog (bin .add 9 true x45 (Value.string (ByteArray.mk #[45]))) fun x46 => 
  Ret Tryd.prog 8 #[x48, (Value.int .i64 2)] w fun x49 w => 
  ph T 3 w (pu Tryd.prog (bin .add 9 false x46 x49) fun x50 => 
  pu Tryd.prog (bin .add 9 true x50 (Value.string (ByteArray.mk #[32]))) fun x51 => 
  Ret Tryd.prog 8 #[x53, (Value.int .i64 2)] w fun x54 w => 
  ph T 4 w (pu Tryd.prog (bin .add 9 false x51 x54) fun x55 => 
  pu Tryd.prog (bin .add 9 true x55 (Value.string (ByteArray.mk #[58]))) fun x56 => 
  Ret Tryd.prog 8 #[x58, (Value.int .i64 2)] w fun x59 w => 
  ph T 5 w (pu Tryd.prog (bin .add 9 false x56 x59) fun x60 => 
  drw w fun T w => 
  pu Tryd.prog (bin .eql 25 true x14 (Value.int .i64 0)) fun x62 => 
  gd x62 true (
  tk Tryd.prog T 1 (ldS 24 x3) fun x64 => 
  Ret Tryd.prog 9 #[x0] w fun x66 w => 
  ph T 1 w (pu Tryd.prog (bin .eql 24 false x64 x66) fun x67 => 
  gd x67 true (
  pu Tryd.prog (bin .eql 25 true x37 (Value.int .i64 0)) fun x71 => 
  gd x71 true (
  pu Tryd.prog (bin .eql 2 false x36 x0) fun x76 => 
  gd x76 true (
  Ret Tryd.prog 6 #[x0] w fun x80 w => 
  ph T 2 w (pu Tryd.prog (bin .eql 9 false x80 x60) fun x82 => 
  R x82 w)) (
  ph T 2 w (R (Value.bool false) w))) (
  ph T 2 w (R (Value.bool false) w))) (
  ph T 2 w (R (Value.bool false) w)))) (
  ph T 1 w (ph T 2 w (R (Value.bool false) w)))))))))
def c3 (x0 : Value) (w : World) (R : Value → World → Prop) : Prop :=
  Ret Tryd.prog 4 #[] w fun x8 w => 
  val Tryd.prog (Op.unary .not x8) w fun x9 w => 
  gd x9 true (
  R (Value.bool false) w) (
  Ret Tryd.prog 5 #[x0] w fun x12 w => 
  val Tryd.prog (Instr.extract x12 0) w fun x13 w => 
  val Tryd.prog (Instr.extract x12 1) w fun x14 w => 
  val Tryd.prog (Instr.alloc 24 true (.tuple #[])) w fun x3 w => 
  unt Tryd.prog (stS 24 x3 x13) w fun w => 
  joinK 1 (fun (x20 : Value) (w : World) => 
  c3_1 x20 x14 x3 x0 R w)
  fun j => val Tryd.prog (bin .lss 2 true x0 (Value.int .i64 0)) w fun x16 w => 
  gd x16 false (
  val Tryd.prog (bin .gtr 2 true x0 (Value.int .i64 1099511627776)) w fun x19 w => 
  j x19 w) (
  j (Value.bool true) w))
theorem v3 (x0 : Value) (w : World) (R : Value → World → Prop) : vc Tryd.prog true (Tryd.f3.body.getD .skip) (.seq .leaf (.seq (.seq .leaf (.cond (.seq .leaf .leaf) .leaf)) (.seq .leaf (.seq (.join [20] .leaf (.cond (.seq .leaf .leaf) .leaf)) (.seq .leaf (.seq (.draw (.tk 0 0 (.tk 1 0 (.tk 4 1 (.tk 5 1 (.tk 9 2 (.tk 10 2 (.tk 14 3 (.tk 15 3 (.tk 19 4 (.tk 20 4 (.one 2 (.tk 3 5 (.one 6 (.tk 7 5 (.tk 8 5 (.one 11 (.tk 12 5 (.tk 13 5 (.one 16 (.tk 17 5 (.tk 18 5 (.one 21 (.tk 22 5 (.tk 23 5 .nil))))))))))))))))))))))))) (.seq (.draw (.tk 0 0 (.tk 1 0 (.tk 2 0 (.tk 3 1 (.tk 4 0 (.one 5 (.tk 6 1 (.tk 7 1 (.tk 8 1 (.tk 9 1 (.tk 10 1 (.tk 11 1 (.tk 12 1 (.tk 13 1 (.tk 14 1 (.tk 15 1 (.tk 16 1 (.tk 17 1 (.tk 18 1 (.tk 20 2 (.one 19 (.tk 21 2 (.tk 22 2 (.tk 23 2 .nil))))))))))))))))))))))))) .leaf))))))) { get := argEnv [x0], ds := [] } (retQ Tryd.prog Tryd.f3.results.toList R) w = c3 x0 w R := by kernel_rfl
theorem e3 {x0 : Value} {w : World} {R : Value → World → Prop} (h : c3 x0 w R) : Ret Tryd.prog 3 #[x0] w R :=
  ret_of_vc mixed Tryd.call3 Tryd.func3 rfl (by kernel_rfl) (by kernel_rfl) ((v3 x0 w R).mpr h)
def c4 (w : World) (R : Value → World → Prop) : Prop :=
  Ret Tryd.prog 5 #[(Value.int .i64 1440)] w fun x4 w => 
  val Tryd.prog (Instr.extract x4 0) w fun x5 w => 
  val Tryd.prog (Instr.extract x4 1) w fun x6 w => 
  val Tryd.prog (Instr.alloc 24 true (.tuple #[])) w fun x1 w => 
  unt Tryd.prog (stS 24 x1 x5) w fun w => 
  val Tryd.prog (bin .eql 25 true x6 (Value.int .i64 0)) w fun x8 w => 
  gd x8 true (
  val Tryd.prog (ldS 24 x1) w fun x10 w => 
  val Tryd.prog (Instr.build 24 #[(0, (Value.int .i64 2000)), (1, (Value.int .i64 1)), (2, (Value.int .i64 2))]) w fun x11 w => 
  val Tryd.prog (bin .eql 24 false x10 x11) w fun x12 w => 
  R x12 w) (
  R (Value.bool false) w)
theorem v4 (w : World) (R : Value → World → Prop) : vc Tryd.prog true (Tryd.f4.body.getD .skip) (.seq .leaf (.seq .leaf (.seq .leaf .leaf))) { get := argEnv [], ds := [] } (retQ Tryd.prog Tryd.f4.results.toList R) w = c4  w R := by kernel_rfl
theorem e4 {w : World} {R : Value → World → Prop} (h : c4  w R) : Ret Tryd.prog 4 #[] w R :=
  ret_of_vc mixed Tryd.call4 Tryd.func4 rfl (by kernel_rfl) (by kernel_rfl) ((v4  w R).mpr h)
def c5 (x0 : Value) (w : World) (R : Value → World → Prop) : Prop :=
  val Tryd.prog (Instr.alloc 24 true (.tuple #[])) w fun x2 w => 
  val Tryd.prog (bin .lss 2 true x0 (Value.int .i64 0)) w fun x10 w => 
  gd x10 false (
  val Tryd.prog (bin .gtr 2 true x0 (Value.int .i64 1099511627776)) w fun x13 w => 
  gd x13 true (
  val Tryd.prog (Instr.build 24 #[]) w fun x15 w => 
  unt Tryd.prog (stS 24 x2 x15) w fun w => 
  rd Tryd.prog (ldS 24 x2) w fun r => R (.tuple #[r, (Value.int .i64 3)]) w) (
  val Tryd.prog (bin .quo 2 true x0 (Value.int .i64 1440)) w fun x17 w => 
  val Tryd.prog (bin .rem 2 true x0 (Value.int .i64 1440)) w fun x19 w => 
  val Tryd.prog (bin .add 2 true x17 (Value.int .i64 730425)) w fun x22 w => 
  Ret Tryd.prog 10 #[x22] w fun x23 w => 
  val Tryd.prog (Instr.extract x23 0) w fun x24 w => 
  val Tryd.prog (Instr.extract x23 1) w fun x25 w => 
  val Tryd.prog (Instr.extract x23 2) w fun x26 w => 
  val Tryd.prog (bin .add 2 true x17 (Value.int .i64 6)) w fun x31 w => 
  val Tryd.prog (bin .rem 2 true x31 (Value.int .i64 7)) w fun x32 w => 
  val Tryd.prog (bin .quo 3 true x19 (Value.int .i64 60)) w fun x34 w => 
  val Tryd.prog (bin .rem 3 true x19 (Value.int .i64 60)) w fun x36 w => 
  val Tryd.prog (Instr.build 24 #[(0, x24), (1, x25), (2, x26), (3, x32), (4, x34), (5, x36)]) w fun x37 w => 
  unt Tryd.prog (stS 24 x2 x37) w fun w => 
  rd Tryd.prog (ldS 24 x2) w fun r_1 => R (.tuple #[r_1, (Value.int .i64 0)]) w)) (
  val Tryd.prog (Instr.build 24 #[]) w fun x15_1 w => 
  unt Tryd.prog (stS 24 x2 x15_1) w fun w => 
  rd Tryd.prog (ldS 24 x2) w fun r_2 => R (.tuple #[r_2, (Value.int .i64 3)]) w)
theorem v5 (x0 : Value) (w : World) (R : Value → World → Prop) : vc Tryd.prog true (Tryd.f5.body.getD .skip) (.seq .leaf (.seq (.seq .leaf (.cond (.seq .leaf .leaf) .leaf)) (.seq .leaf (.seq .leaf (.seq .leaf .leaf))))) { get := argEnv [x0], ds := [] } (retQ Tryd.prog Tryd.f5.results.toList R) w = c5 x0 w R := by kernel_rfl
theorem e5 {x0 : Value} {w : World} {R : Value → World → Prop} (h : c5 x0 w R) : Ret Tryd.prog 5 #[x0] w R :=
  ret_of_vc mixed Tryd.call5 Tryd.func5 rfl (by kernel_rfl) (by kernel_rfl) ((v5 x0 w R).mpr h)
def c6 (x0 : Value) (w : World) (R : Value → World → Prop) : Prop :=
  Ret Tryd.prog 5 #[x0] w fun x7 w => 
  val Tryd.prog (Instr.extract x7 0) w fun x8 w => 
  val Tryd.prog (Instr.extract x7 1) w fun x9 w => 
  val Tryd.prog (Instr.alloc 24 true (.tuple #[])) w fun x3 w => 
  unt Tryd.prog (stS 24 x3 x8) w fun w => 
  val Tryd.prog (bin .neq 25 true x9 (Value.int .i64 0)) w fun x11 w => 
  gd x11 true (
  R (Value.string (ByteArray.mk #[63])) w) (
  drw w fun T w => 
  pu Tryd.prog (Instr.fieldAt 24 x3 0) fun x12 => 
  tk Tryd.prog T 0 (ld1 3 x12) fun x13 => 
  pu Tryd.prog (Instr.fieldAt 24 x3 1) fun x16 => 
  tk Tryd.prog T 1 (ld1 3 x16) fun x17 => 
  pu Tryd.prog (Instr.fieldAt 24 x3 2) fun x21 => 
  tk Tryd.prog T 2 (ld1 3 x21) fun x22 => 
  pu Tryd.prog (Instr.fieldAt 24 x3 4) fun x26 => 
  tk Tryd.prog T 3 (ld1 3 x26) fun x27 => 
  pu Tryd.prog (Instr.fieldAt 24 x3 5) fun x31 => 
  tk Tryd.prog T 4 (ld1 3 x31) fun x32 => 
  Ret Tryd.prog 11 #[x13, (Value.int .i64 4)] w fun x14 w => 
  ph T 1 w (pu Tryd.prog (bin .add 9 true x14 (Value.string (ByteArray.mk #[45]))) fun x15 => 
  Ret Tryd.prog 11 #[x17, (Value.int .i64 2)] w fun x18 w => 
  ph T 2 w (pu Tryd.prog (bin .add 9 false x15 x18) fun x19 => 
  pu Tryd.prog (bin .add 9 true x19 (Value.string (ByteArray.mk #[45]))) fun x20 => 
  Ret Tryd.prog 11 #[x22, (Value.int .i64 2)] w fun x23 w => 
  ph T 3 w (pu Tryd.prog (bin .add 9 false x20 x23) fun x24 => 
  pu Tryd.prog (bin .add 9 true x24 (Value.string (ByteArray.mk #[32]))) fun x25 => 
  Ret Tryd.prog 11 #[x27, (Value.int .i64 2)] w fun x28 w => 
  ph T 4 w (pu Tryd.prog (bin .add 9 false x25 x28) fun x29 => 
  pu Tryd.prog (bin .add 9 true x29 (Value.string (ByteArray.mk #[58]))) fun x30 => 
  Ret Tryd.prog 11 #[x32, (Value.int .i64 2)] w fun x33 w => 
  ph T 5 w (pu Tryd.prog (bin .add 9 false x30 x33) fun x34 => 
  R x34 w))))))
theorem v6 (x0 : Value) (w : World) (R : Value → World → Prop) : vc Tryd.prog true (Tryd.f6.body.getD .skip) (.seq .leaf (.seq .leaf (.seq (.seq .leaf (.cond (.seq .leaf .leaf) .leaf)) (.seq (.draw (.tk 0 0 (.tk 1 0 (.tk 4 1 (.tk 5 1 (.tk 9 2 (.tk 10 2 (.tk 14 3 (.tk 15 3 (.tk 19 4 (.tk 20 4 (.one 2 (.tk 3 5 (.one 6 (.tk 7 5 (.tk 8 5 (.one 11 (.tk 12 5 (.tk 13 5 (.one 16 (.tk 17 5 (.tk 18 5 (.one 21 (.tk 22 5 (.tk 23 5 .nil))))))))))))))))))))))))) .leaf)))) { get := argEnv [x0], ds := [] } (retQ Tryd.prog Tryd.f6.results.toList R) w = c6 x0 w R := by kernel_rfl
theorem e6 {x0 : Value} {w : World} {R : Value → World → Prop} (h : c6 x0 w R) : Ret Tryd.prog 6 #[x0] w R :=
  ret_of_vc mixed Tryd.call6 Tryd.func6 rfl (by kernel_rfl) (by kernel_rfl) ((v6 x0 w R).mpr h)
def c7_1 (x5 x1 : Value) (R : Value → World → Prop) (w : World) : Prop :=
  gd x5 true (
  R (.tuple #[(Value.int .i64 0), (Value.int .i64 1)]) w) (
  val Tryd.prog (Instr.fieldAt 24 x1 0) w fun x40 w => 
  val Tryd.prog (ld1 3 x40) w fun x41 w => 
  val Tryd.prog (bin .lss 3 true x41 (Value.int .i64 2000)) w fun x42 w => 
  gd x42 false (
  val Tryd.prog (Instr.fieldAt 24 x1 0) w fun x44 w => 
  val Tryd.prog (ld1 3 x44) w fun x45 w => 
  val Tryd.prog (bin .gtr 3 true x45 (Value.int .i64 3000000)) w fun x46 w => 
  gd x46 true (
  R (.tuple #[(Value.int .i64 0), (Value.int .i64 3)]) w) (
  drw w fun T w => 
  pu Tryd.prog (Instr.fieldAt 24 x1 0) fun x48 => 
  tk Tryd.prog T 0 (ld1 3 x48) fun x49 => 
  pu Tryd.prog (Instr.fieldAt 24 x1 1) fun x50 => 
  tk Tryd.prog T 0 (ld1 3 x50) fun x51 => 
  pu Tryd.prog (Instr.fieldAt 24 x1 2) fun x52 => 
  tk Tryd.prog T 0 (ld1 3 x52) fun x53 => 
  pu Tryd.prog (Instr.fieldAt 24 x1 4) fun x57 => 
  tk Tryd.prog T 1 (ld1 3 x57) fun x58 => 
  pu Tryd.prog (bin .mul 3 true x58 (Value.int .i64 60)) fun x59 => 
  pu Tryd.prog (Instr.fieldAt 24 x1 5) fun x60 => 
  tk Tryd.prog T 1 (ld1 3 x60) fun x61 => 
  pu Tryd.prog (bin .add 3 false x59 x61) fun x62 => 
  Ret Tryd.prog 13 #[x49, x51, x53] w fun x54 w => 
  ph T 1 w (pu Tryd.prog (bin .sub 2 true x54 (Value.int .i64 730425)) fun x55 => 
  pu Tryd.prog (bin .mul 2 true x55 (Value.int .i64 1440)) fun x56 => 
  pu Tryd.prog (bin .add 2 false x56 x62) fun x63 => 
  val Tryd.prog (bin .gtr 2 true x63 (Value.int .i64 1099511627776)) w fun x65 w => 
  gd x65 true (
  R (.tuple #[(Value.int .i64 0), (Value.int .i64 3)]) w) (
  R (.tuple #[x63, (Value.int .i64 0)]) w)))) (
  R (.tuple #[(Value.int .i64 0), (Value.int .i64 3)]) w))
def c7 (x0 : Value) (w : World) (R : Value → World → Prop) : Prop :=
  val Tryd.prog (Instr.box 24 x0) w fun x1 w => 
  joinK 1 (fun (x5 : Value) (w : World) => 
  c7_1 x5 x1 R w)
  fun j => drw w fun T w => 
  pu Tryd.prog (Instr.fieldAt 24 x1 2) fun x6 => 
  tk Tryd.prog T 0 (ld1 3 x6) fun x7 => 
  pu Tryd.prog (bin .lss 3 true x7 (Value.int .i64 1)) fun x8 => 
  gd x8 false (
  pu Tryd.prog (Instr.fieldAt 24 x1 2) fun x10 => 
  tk Tryd.prog T 1 (ld1 3 x10) fun x11 => 
  pu Tryd.prog (Instr.fieldAt 24 x1 0) fun x12 => 
  tk Tryd.prog T 0 (ld1 3 x12) fun x13 => 
  pu Tryd.prog (Instr.fieldAt 24 x1 1) fun x14 => 
  tk Tryd.prog T 0 (ld1 3 x14) fun x15 => 
  Ret Tryd.prog 12 #[x13, x15] w fun x16 w => 
  ph T 1 w (pu Tryd.prog (bin .gtr 3 false x11 x16) fun x17 => 
  gd x17 false (
  pu Tryd.prog (Instr.fieldAt 24 x1 4) fun x20 => 
  tk Tryd.prog T 1 (ld1 3 x20) fun x21 => 
  pu Tryd.prog (bin .lss 3 true x21 (Value.int .i64 0)) fun x22 => 
  gd x22 false (
  pu Tryd.prog (Instr.fieldAt 24 x1 4) fun x25 => 
  tk Tryd.prog T 1 (ld1 3 x25) fun x26 => 
  pu Tryd.prog (bin .geq 3 true x26 (Value.int .i64 24)) fun x27 => 
  gd x27 false (
  pu Tryd.prog (Instr.fieldAt 24 x1 5) fun x30 => 
  tk Tryd.prog T 1 (ld1 3 x30) fun x31 => 
  pu Tryd.prog (bin .lss 3 true x31 (Value.int .i64 0)) fun x32 => 
  gd x32 false (
  pu Tryd.prog (Instr.fieldAt 24 x1 5) fun x35 => 
  tk Tryd.prog T 1 (ld1 3 x35) fun x36 => 
  pu Tryd.prog (bin .geq 3 true x36 (Value.int .i64 60)) fun x37 => 
  j x37 w) (
  j (Value.bool true) w)) (
  j (Value.bool true) w)) (
  j (Value.bool true) w)) (
  j (Value.bool true) w))) (
  ph T 1 w (j (Value.bool true) w))
theorem v7 (x0 : Value) (w : World) (R : Value → World → Prop) : vc Tryd.prog true (Tryd.f7.body.getD .skip) (.seq .leaf (.seq (.one (.join [5] (.draw (.tk 0 0 (.tk 1 0 (.tk 2 0 (.tk 3 0 (.tk 4 1 (.tk 5 1 (.tk 6 0 (.tk 7 0 (.tk 8 0 (.tk 9 0 (.one 10 (.tk 11 1 (.tk 12 1 (.tk 13 1 (.tk 14 1 (.tk 15 1 (.tk 16 1 (.tk 17 1 (.tk 18 1 (.tk 19 1 (.tk 20 1 (.tk 21 1 (.tk 22 1 (.tk 23 1 (.tk 24 1 (.tk 25 1 (.tk 26 1 (.tk 27 1 (.tk 28 1 (.tk 29 1 (.tk 30 1 (.tk 31 1 (.tk 32 1 (.tk 33 1 .nil))))))))))))))))))))))))))))))))))) (.cond (.seq .leaf .leaf) (.seq .leaf (.cond (.seq .leaf .leaf) .leaf))))) (.seq (.draw (.tk 0 0 (.tk 1 0 (.tk 2 0 (.tk 3 0 (.tk 4 0 (.tk 5 0 (.tk 9 1 (.tk 10 1 (.tk 11 1 (.tk 12 1 (.tk 13 1 (.tk 14 1 (.one 6 (.tk 7 1 (.tk 8 1 (.tk 15 1 (.tk 16 1 .nil)))))))))))))))))) (.seq (.seq .leaf (.cond (.seq .leaf .leaf) .leaf)) (.seq .leaf .leaf))))) { get := argEnv [x0], ds := [] } (retQ Tryd.prog Tryd.f7.results.toList R) w = c7 x0 w R := by kernel_rfl
theorem e7 {x0 : Value} {w : World} {R : Value → World → Prop} (h : c7 x0 w R) : Ret Tryd.prog 7 #[x0] w R :=
  ret_of_vc mixed Tryd.call7 Tryd.func7 rfl (by kernel_rfl) (by kernel_rfl) ((v7 x0 w R).mpr h)
def c8_1 (x0_1 x5 : Value) (next : Car 2) (w : World) : Prop :=
  val Tryd.prog (bin .rem 3 true x0_1 (Value.int .i64 10)) w fun x17 w => 
  val Tryd.prog (convert 3 5 x17) w fun x18 w => 
  val Tryd.prog (bin .add 5 true (Value.int .u8 48) x18) w fun x19 w => 
  val Tryd.prog (Instr.buildSlice 38 1 #[(0, x19)]) w fun x20 w => 
  val Tryd.prog (convert 38 9 x20) w fun x21 w => 
  val Tryd.prog (bin .add 9 false x21 x5) w fun x23 w => 
  val Tryd.prog (bin .quo 3 true x0_1 (Value.int .i64 10)) w fun x15 w => 
  next x15 x23 w
def c8_2 (x0_1 x5 x1 : Value) (next : Car 2) (R : Value → World → Prop) (w : World) : Prop :=
  joinK 0 (fun (w : World) => 
  c8_1 x0_1 x5 next w)
  fun j => val Tryd.prog (bin .gtr 3 true x0_1 (Value.int .i64 0)) w fun x7 w => 
  gd x7 false (
  val Tryd.prog (Builtin.len_ #[9] 3 #[x5]) w fun x10 w => 
  val Tryd.prog (bin .lss 3 false x10 x1) w fun x12 w => 
  gd x12 true (
  j w) (
  R x5 w)) (
  j w)
def c8 (x0 x1 : Value) (w : World) (R : Value → World → Prop) : Prop :=
  loopK 2 [x0, (Value.string (ByteArray.mk #[]))] w fun next => fun (x0_1 x5 : Value) (w : World) => 
  c8_2 x0_1 x5 x1 next R w
theorem v8 (x0 x1 : Value) (w : World) (R : Value → World → Prop) : vc Tryd.prog true (Tryd.f8.body.getD .skip) (.seq .leaf (.seq .leaf (.seq (.one (.loop [0, 5] (.join [] (.seq .leaf (.cond .leaf .leaf)) (.seq (.one .leaf) .leaf)))) (.seq .leaf .leaf)))) { get := argEnv [x0, x1], ds := [] } (retQ Tryd.prog Tryd.f8.results.toList R) w = c8 x0 x1 w R := by kernel_rfl
theorem e8 {x0 x1 : Value} {w : World} {R : Value → World → Prop} (h : c8 x0 x1 w R) : Ret Tryd.prog 8 #[x0, x1] w R :=
  ret_of_vc mixed Tryd.call8 Tryd.func8 rfl (by kernel_rfl) (by kernel_rfl) ((v8 x0 x1 w R).mpr h)
def c9_1 (x4 x3_1 x2 : Value) (next_1 : Car 1) (R : Value → World → Prop) (w : World) : Prop :=
  val Tryd.prog (Instr.fieldAt 24 x4 0) w fun x40 w => 
  val Tryd.prog (ld1 3 x40) w fun x41 w => 
  val Tryd.prog (Instr.fieldAt 24 x4 1) w fun x42 w => 
  val Tryd.prog (ld1 3 x42) w fun x43 w => 
  Ret Tryd.prog 15 #[x41, x43] w fun x44 w => 
  val Tryd.prog (bin .geq 2 false x3_1 x44) w fun x45 w => 
  gd x45 true (
  val Tryd.prog (Instr.fieldAt 24 x4 0) w fun x47 w => 
  val Tryd.prog (ld1 3 x47) w fun x48 w => 
  val Tryd.prog (Instr.fieldAt 24 x4 1) w fun x49 w => 
  val Tryd.prog (ld1 3 x49) w fun x50 w => 
  Ret Tryd.prog 15 #[x48, x50] w fun x51 w => 
  val Tryd.prog (bin .sub 2 false x3_1 x51) w fun x52 w => 
  val Tryd.prog (Instr.fieldAt 24 x4 1) w fun x53 w => 
  val Tryd.prog (ld1 3 x53) w fun x54 w => 
  val Tryd.prog (bin .add 3 true x54 (Value.int .i64 1)) w fun x55 w => 
  val Tryd.prog (Instr.fieldAt 24 x4 1) w fun x56 w => 
  unt Tryd.prog (st1 3 x56 x55) w fun w => 
  next_1 x52 w) (
  val Tryd.prog (bin .add 3 true x3_1 (Value.int .i64 1)) w fun x58 w => 
  val Tryd.prog (Instr.fieldAt 24 x4 2) w fun x59 w => 
  unt Tryd.prog (st1 3 x59 x58) w fun w => 
  val Tryd.prog (ldS 24 x4) w fun x60 w => 
  unt Tryd.prog (stS 24 x2 x60) w fun w => 
  rd Tryd.prog (ldS 24 x2) w fun r => R r w)
def c9_2 (x3 x5 x4 x2 : Value) (R : Value → World → Prop) (next : Car 1) (w : World) : Prop :=
  val Tryd.prog (bin .lss 2 false x3 x5) w fun x31 w => 
  gd x31 true (
  loopK 1 [x3] w fun next_1 => fun (x3_1 : Value) (w : World) => 
  c9_1 x4 x3_1 x2 next_1 R w) (
  val Tryd.prog (bin .sub 2 false x3 x5) w fun x34 w => 
  val Tryd.prog (Instr.fieldAt 24 x4 0) w fun x35 w => 
  val Tryd.prog (ld1 3 x35) w fun x36 w => 
  val Tryd.prog (bin .add 3 true x36 (Value.int .i64 1)) w fun x37 w => 
  val Tryd.prog (Instr.fieldAt 24 x4 0) w fun x38 w => 
  unt Tryd.prog (st1 3 x38 x37) w fun w => 
  next x34 w)
def c9_3 (x3 x4 x2 : Value) (R : Value → World → Prop) (next : Car 1) (w : World) : Prop :=
  joinK 1 (fun (x5 : Value) (w : World) => 
  c9_2 x3 x5 x4 x2 R next w)
  fun j => val Tryd.prog (Instr.fieldAt 24 x4 0) w fun x26 w => 
  val Tryd.prog (ld1 3 x26) w fun x27 w => 
  Ret Tryd.prog 14 #[x27] w fun x28 w => 
  gd x28 true (
  j (Value.int .i64 366) w) (
  j (Value.int .i64 365) w)
def c9 (x0 : Value) (w : World) (R : Value → World → Prop) : Prop :=
  val Tryd.prog (Instr.alloc 24 true (.tuple #[])) w fun x2 w => 
  val Tryd.prog (bin .quo 2 true x0 (Value.int .i64 1440)) w fun x7 w => 
  val Tryd.prog (bin .add 2 true x7 (Value.int .i64 6)) w fun x9 w => 
  val Tryd.prog (bin .rem 2 true x9 (Value.int .i64 7)) w fun x10 w => 
  val Tryd.prog (bin .rem 2 true x0 (Value.int .i64 1440)) w fun x12 w => 
  val Tryd.prog (bin .quo 2 true x12 (Value.int .i64 60)) w fun x13 w => 
  val Tryd.prog (bin .rem 2 true x0 (Value.int .i64 60)) w fun x15 w => 
  val Tryd.prog (Instr.build 24 #[(0, (Value.int .i64 2000)), (1, (Value.int .i64 1)), (3, x10), (4, x13), (5, x15)]) w fun x16 w => 
  val Tryd.prog (Instr.alloc 24 true (.tuple #[])) w fun x4 w => 
  unt Tryd.prog (stS 24 x4 x16) w fun w => 
  val Tryd.prog (Instr.fieldAt 24 x4 0) w fun x17 w => 
  val Tryd.prog (ld1 3 x17) w fun x18 w => 
  val Tryd.prog (bin .quo 2 true x7 (Value.int .i64 146097)) w fun x20 w => 
  val Tryd.prog (bin .mul 3 true x20 (Value.int .i64 400)) w fun x21 w => 
  val Tryd.prog (bin .add 3 false x18 x21) w fun x22 w => 
  val Tryd.prog (Instr.fieldAt 24 x4 0) w fun x23 w => 
  unt Tryd.prog (st1 3 x23 x22) w fun w => 
  val Tryd.prog (bin .rem 2 true x7 (Value.int .i64 146097)) w fun x25 w => 
  loopK 1 [x25] w fun next => fun (x3 : Value) (w : World) => 
  c9_3 x3 x4 x2 R next w
theorem v9 (x0 : Value) (w : World) (R : Value → World → Prop) : vc Tryd.prog true (Tryd.f9.body.getD .skip) (.seq .leaf (.seq .leaf (.seq .leaf (.seq .leaf (.seq .leaf (.seq (.one (.loop [3] (.one (.seq .leaf (.join [5] (.seq .leaf (.cond .leaf .leaf)) (.seq (.seq .leaf (.cond .leaf .leaf)) (.seq .leaf .leaf))))))) (.seq (.one (.loop [3] (.seq (.seq .leaf (.cond .leaf .leaf)) (.one (.seq .leaf .leaf))))) (.seq .leaf (.seq .leaf .leaf))))))))) { get := argEnv [x0], ds := [] } (retQ Tryd.prog Tryd.f9.results.toList R) w = c9 x0 w R := by kernel_rfl
theorem e9 {x0 : Value} {w : World} {R : Value → World → Prop} (h : c9 x0 w R) : Ret Tryd.prog 9 #[x0] w R :=
  ret_of_vc mixed Tryd.call9 Tryd.func9 rfl (by kernel_rfl) (by kernel_rfl) ((v9 x0 w R).mpr h)
def c10 (x0 : Value) (w : World) (R : Value → World → Prop) : Prop :=
  val Tryd.prog (bin .quo 2 true x0 (Value.int .i64 146097)) w fun x12 w => 
  val Tryd.prog (bin .rem 2 true x0 (Value.int .i64 146097)) w fun x14 w => 
  val Tryd.prog (bin .quo 2 true x14 (Value.int .i64 1460)) w fun x17 w => 
  val Tryd.prog (bin .sub 2 false x14 x17) w fun x18 w => 
  val Tryd.prog (bin .quo 2 true x14 (Value.int .i64 36524)) w fun x20 w => 
  val Tryd.prog (bin .add 2 false x18 x20) w fun x21 w => 
  val Tryd.prog (bin .quo 2 true x14 (Value.int .i64 146096)) w fun x23 w => 
  val Tryd.prog (bin .sub 2 false x21 x23) w fun x24 w => 
  val Tryd.prog (bin .quo 2 true x24 (Value.int .i64 365)) w fun x25 w => 
  val Tryd.prog (bin .mul 2 true (Value.int .i64 365) x25) w fun x28 w => 
  val Tryd.prog (bin .quo 2 true x25 (Value.int .i64 4)) w fun x30 w => 
  val Tryd.prog (bin .add 2 false x28 x30) w fun x31 w => 
  val Tryd.prog (bin .quo 2 true x25 (Value.int .i64 100)) w fun x33 w => 
  val Tryd.prog (bin .sub 2 false x31 x33) w fun x34 w => 
  val Tryd.prog (bin .sub 2 false x14 x34) w fun x35 w => 
  val Tryd.prog (bin .mul 2 true (Value.int .i64 5) x35) w fun x37 w => 
  val Tryd.prog (bin .add 2 true x37 (Value.int .i64 2)) w fun x38 w => 
  val Tryd.prog (bin .quo 2 true x38 (Value.int .i64 153)) w fun x39 w => 
  val Tryd.prog (bin .mul 2 true (Value.int .i64 153) x39) w fun x42 w => 
  val Tryd.prog (bin .add 2 true x42 (Value.int .i64 2)) w fun x43 w => 
  val Tryd.prog (bin .quo 2 true x43 (Value.int .i64 5)) w fun x44 w => 
  val Tryd.prog (bin .sub 2 false x35 x44) w fun x45 w => 
  val Tryd.prog (bin .add 2 true x45 (Value.int .i64 1)) w fun x46 w => 
  val Tryd.prog (bin .mul 2 true x12 (Value.int .i64 400)) w fun x48 w => 
  val Tryd.prog (bin .add 2 false x48 x25) w fun x50 w => 
  val Tryd.prog (bin .lss 2 true x39 (Value.int .i64 10)) w fun x52 w => 
  gd x52 true (
  val Tryd.prog (bin .add 3 true x39 (Value.int .i64 3)) w fun x55 w => 
  R (.tuple #[x50, x55, x46]) w) (
  val Tryd.prog (bin .add 3 true x50 (Value.int .i64 1)) w fun x58 w => 
  val Tryd.prog (bin .sub 3 true x39 (Value.int .i64 9)) w fun x60 w => 
  R (.tuple #[x58, x60, x46]) w)
theorem v10 (x0 : Value) (w : World) (R : Value → World → Prop) : vc Tryd.prog true (Tryd.f10.body.getD .skip) (.seq .leaf (.seq .leaf (.seq .leaf (.seq .leaf (.seq .leaf (.seq .leaf (.seq .leaf (.seq (.seq .leaf (.cond (.seq .leaf .leaf) .leaf)) (.seq .leaf .leaf))))))))) { get := argEnv [x0], ds := [] } (retQ Tryd.prog Tryd.f10.results.toList R) w = c10 x0 w R := by kernel_rfl
theorem e10 {x0 : Value} {w : World} {R : Value → World → Prop} (h : c10 x0 w R) : Ret Tryd.prog 10 #[x0] w R :=
  ret_of_vc mixed Tryd.call10 Tryd.func10 rfl (by kernel_rfl) (by kernel_rfl) ((v10 x0 w R).mpr h)
def c11 (x0 x1 : Value) (w : World) (R : Value → World → Prop) : Prop :=
  Ret Tryd.prog 16 #[x0] w fun x7 w => 
  val Tryd.prog (Builtin.len_ #[9] 3 #[x7]) w fun x10 w => 
  val Tryd.prog (bin .sub 3 false x1 x10) w fun x11 w => 
  val Tryd.prog (Builtin.max_ #[3, 3] 3 #[x11, (Value.int .i64 0)]) w fun x12 w => 
  Ret Tryd.prog 17 #[(Value.string (ByteArray.mk #[48])), x12] w fun x13 w => 
  val Tryd.prog (bin .add 9 false x13 x7) w fun x15 w => 
  R x15 w
theorem v11 (x0 x1 : Value) (w : World) (R : Value → World → Prop) : vc Tryd.prog true (Tryd.f11.body.getD .skip) (.seq .leaf (.seq .leaf (.seq .leaf .leaf))) { get := argEnv [x0, x1], ds := [] } (retQ Tryd.prog Tryd.f11.results.toList R) w = c11 x0 x1 w R := by kernel_rfl
theorem e11 {x0 x1 : Value} {w : World} {R : Value → World → Prop} (h : c11 x0 x1 w R) : Ret Tryd.prog 11 #[x0, x1] w R :=
  ret_of_vc mixed Tryd.call11 Tryd.func11 rfl (by kernel_rfl) (by kernel_rfl) ((v11 x0 x1 w R).mpr h)
def c12_1 (x6 x1 x0 : Value) (R : Value → World → Prop) (w : World) : Prop :=
  gd x6 true (
  R (Value.int .i64 30) w) (
  val Tryd.prog (bin .eql 3 true x1 (Value.int .i64 2)) w fun x12 w => 
  gd x12 true (
  Ret Tryd.prog 18 #[x0] w fun x14 w => 
  gd x14 true (
  R (Value.int .i64 29) w) (
  R (Value.int .i64 28) w)) (
  val Tryd.prog (bin .eql 3 true x1 (Value.int .i64 1)) w fun x16 w => 
  gd x16 true (
  R (Value.int .i64 31) w) (
  val Tryd.prog (bin .eql 3 true x1 (Value.int .i64 3)) w fun x17 w => 
  gd x17 true (
  R (Value.int .i64 31) w) (
  val Tryd.prog (bin .eql 3 true x1 (Value.int .i64 5)) w fun x18 w => 
  gd x18 true (
  R (Value.int .i64 31) w) (
  val Tryd.prog (bin .eql 3 true x1 (Value.int .i64 7)) w fun x19 w => 
  gd x19 true (
  R (Value.int .i64 31) w) (
  val Tryd.prog (bin .eql 3 true x1 (Value.int .i64 8)) w fun x20 w => 
  gd x20 true (
  R (Value.int .i64 31) w) (
  val Tryd.prog (bin .eql 3 true x1 (Value.int .i64 10)) w fun x21 w => 
  gd x21 true (
  R (Value.int .i64 31) w) (
  val Tryd.prog (bin .eql 3 true x1 (Value.int .i64 12)) w fun x22 w => 
  gd x22 true (
  R (Value.int .i64 31) w) (
  R (Value.int .i64 0) w)))))))))
def c12 (x0 x1 : Value) (w : World) (R : Value → World → Prop) : Prop :=
  joinK 1 (fun (x6 : Value) (w : World) => 
  c12_1 x6 x1 x0 R w)
  fun j => val Tryd.prog (bin .eql 3 true x1 (Value.int .i64 4)) w fun x7 w => 
  gd x7 true (
  j (Value.bool true) w) (
  val Tryd.prog (bin .eql 3 true x1 (Value.int .i64 6)) w fun x8 w => 
  gd x8 true (
  j (Value.bool true) w) (
  val Tryd.prog (bin .eql 3 true x1 (Value.int .i64 9)) w fun x9 w => 
  gd x9 true (
  j (Value.bool true) w) (
  val Tryd.prog (bin .eql 3 true x1 (Value.int .i64 11)) w fun x10 w => 
  j x10 w)))
theorem v12 (x0 x1 : Value) (w : World) (R : Value → World → Prop) : vc Tryd.prog true (Tryd.f12.body.getD .skip) (.seq .leaf (.seq (.seq .leaf (.one (.join [6] (.seq .leaf (.cond .leaf (.seq .leaf (.cond .leaf (.seq .leaf (.cond .leaf .leaf)))))) (.cond (.seq .leaf .leaf) (.seq .leaf (.cond (.seq (.seq .leaf (.cond (.seq .leaf .leaf) .leaf)) (.seq .leaf .leaf)) (.seq (.seq .leaf (.cond .leaf (.seq .leaf (.cond .leaf (.seq .leaf (.cond .leaf (.seq .leaf (.cond .leaf (.seq .leaf (.cond .leaf (.seq .leaf (.cond .leaf .leaf)))))))))))) (.cond (.seq .leaf .leaf) .leaf)))))))) (.seq .leaf .leaf))) { get := argEnv [x0, x1], ds := [] } (retQ Tryd.prog Tryd.f12.results.toList R) w = c12 x0 x1 w R := by kernel_rfl
theorem e12 {x0 x1 : Value} {w : World} {R : Value → World → Prop} (h : c12 x0 x1 w R) : Ret Tryd.prog 12 #[x0, x1] w R :=
  ret_of_vc mixed Tryd.call12 Tryd.func12 rfl (by kernel_rfl) (by kernel_rfl) ((v12 x0 x1 w R).mpr h)
def c13_1 (x7 x8 x2 : Value) (R : Value → World → Prop) (w : World) : Prop :=
  val Tryd.prog (bin .quo 2 true x7 (Value.int .i64 400)) w fun x22 w => 
  val Tryd.prog (bin .rem 2 true x7 (Value.int .i64 400)) w fun x24 w => 
  val Tryd.prog (bin .mul 2 true x22 (Value.int .i64 146097)) w fun x26 w => 
  val Tryd.prog (bin .mul 2 true (Value.int .i64 365) x24) w fun x28 w => 
  val Tryd.prog (bin .add 2 false x26 x28) w fun x29 w => 
  val Tryd.prog (bin .quo 2 true x24 (Value.int .i64 4)) w fun x31 w => 
  val Tryd.prog (bin .add 2 false x29 x31) w fun x32 w => 
  val Tryd.prog (bin .quo 2 true x24 (Value.int .i64 100)) w fun x34 w => 
  val Tryd.prog (bin .sub 2 false x32 x34) w fun x35 w => 
  val Tryd.prog (bin .mul 2 true (Value.int .i64 153) x8) w fun x37 w => 
  val Tryd.prog (bin .add 2 true x37 (Value.int .i64 2)) w fun x38 w => 
  val Tryd.prog (bin .quo 2 true x38 (Value.int .i64 5)) w fun x39 w => 
  val Tryd.prog (bin .add 2 false x35 x39) w fun x40 w => 
  val Tryd.prog (bin .add 2 false x40 x2) w fun x42 w => 
  val Tryd.prog (bin .sub 2 true x42 (Value.int .i64 1)) w fun x43 w => 
  R x43 w
def c13 (x0 x1 x2 : Value) (w : World) (R : Value → World → Prop) : Prop :=
  joinK 2 (fun (x7 x8 : Value) (w : World) => 
  c13_1 x7 x8 x2 R w)
  fun j => val Tryd.prog (bin .leq 2 true x1 (Value.int .i64 2)) w fun x14 w => 
  gd x14 true (
  val Tryd.prog (bin .sub 2 true x0 (Value.int .i64 1)) w fun x16 w => 
  val Tryd.prog (bin .add 2 true x1 (Value.int .i64 9)) w fun x18 w => 
  j x16 x18 w) (
  val Tryd.prog (bin .sub 2 true x1 (Value.int .i64 3)) w fun x20 w => 
  j x0 x20 w)
theorem v13 (x0 x1 x2 : Value) (w : World) (R : Value → World → Prop) : vc Tryd.prog true (Tryd.f13.body.getD .skip) (.seq .leaf (.seq .leaf (.join [7, 8] (.seq .leaf (.cond .leaf .leaf)) (.seq .leaf (.seq .leaf .leaf))))) { get := argEnv [x0, x1, x2], ds := [] } (retQ Tryd.prog Tryd.f13.results.toList R) w = c13 x0 x1 x2 w R := by kernel_rfl
theorem e13 {x0 x1 x2 : Value} {w : World} {R : Value → World → Prop} (h : c13 x0 x1 x2 w R) : Ret Tryd.prog 13 #[x0, x1, x2] w R :=
  ret_of_vc mixed Tryd.call13 Tryd.func13 rfl (by kernel_rfl) (by kernel_rfl) ((v13 x0 x1 x2 w R).mpr h)
def c14 (x0 : Value) (w : World) (R : Value → World → Prop) : Prop :=
  val Tryd.prog (bin .rem 3 true x0 (Value.int .i64 400)) w fun x4 w => 
  val Tryd.prog (bin .eql 3 true x4 (Value.int .i64 0)) w fun x5 w => 
  gd x5 false (
  val Tryd.prog (bin .rem 3 true x0 (Value.int .i64 4)) w fun x8 w => 
  val Tryd.prog (bin .eql 3 true x8 (Value.int .i64 0)) w fun x9 w => 
  gd x9 true (
  val Tryd.prog (bin .rem 3 true x0 (Value.int .i64 100)) w fun x12 w => 
  val Tryd.prog (bin .neq 3 true x12 (Value.int .i64 0)) w fun x13 w => 
  R x13 w) (
  R (Value.bool false) w)) (
  R (Value.bool true) w)
theorem v14 (x0 : Value) (w : World) (R : Value → World → Prop) : vc Tryd.prog true (Tryd.f14.body.getD .skip) (.seq .leaf (.seq .leaf .leaf)) { get := argEnv [x0], ds := [] } (retQ Tryd.prog Tryd.f14.results.toList R) w = c14 x0 w R := by kernel_rfl
theorem e14 {x0 : Value} {w : World} {R : Value → World → Prop} (h : c14 x0 w R) : Ret Tryd.prog 14 #[x0] w R :=
  ret_of_vc mixed Tryd.call14 Tryd.func14 rfl (by kernel_rfl) (by kernel_rfl) ((v14 x0 w R).mpr h)
def c15 (x0 x1 : Value) (w : World) (R : Value → World → Prop) : Prop :=
  val Tryd.prog (bin .lss 3 true x1 (Value.int .i64 1)) w fun x6 w => 
  gd x6 false (
  val Tryd.prog (bin .gtr 3 true x1 (Value.int .i64 12)) w fun x9 w => 
  gd x9 true (
  R (Value.int .i64 0) w) (
  val Tryd.prog (bin .eql 3 true x1 (Value.int .i64 2)) w fun x12 w => 
  gd x12 true (
  Ret Tryd.prog 14 #[x0] w fun x15 w => 
  gd x15 true (
  R (Value.int .i64 29) w) (
  val Tryd.prog (Instr.buildSlice 42 12 #[(0, (Value.int .i64 31)), (1, (Value.int .i64 28)), (2, (Value.int .i64 31)), (3, (Value.int .i64 30)), (4, (Value.int .i64 31)), (5, (Value.int .i64 30)), (6, (Value.int .i64 31)), (7, (Value.int .i64 31)), (8, (Value.int .i64 30)), (9, (Value.int .i64 31)), (10, (Value.int .i64 30)), (11, (Value.int .i64 31))]) w fun x17 w => 
  val Tryd.prog (bin .sub 3 true x1 (Value.int .i64 1)) w fun x19 w => 
  val Tryd.prog (Instr.indexAt 42 x17 x19) w fun x20 w => 
  val Tryd.prog (ld1 3 x20) w fun x21 w => 
  R x21 w)) (
  val Tryd.prog (Instr.buildSlice 42 12 #[(0, (Value.int .i64 31)), (1, (Value.int .i64 28)), (2, (Value.int .i64 31)), (3, (Value.int .i64 30)), (4, (Value.int .i64 31)), (5, (Value.int .i64 30)), (6, (Value.int .i64 31)), (7, (Value.int .i64 31)), (8, (Value.int .i64 30)), (9, (Value.int .i64 31)), (10, (Value.int .i64 30)), (11, (Value.int .i64 31))]) w fun x17_1 w => 
  val Tryd.prog (bin .sub 3 true x1 (Value.int .i64 1)) w fun x19_1 w => 
  val Tryd.prog (Instr.indexAt 42 x17_1 x19_1) w fun x20_1 w => 
  val Tryd.prog (ld1 3 x20_1) w fun x21_1 w => 
  R x21_1 w))) (
  R (Value.int .i64 0) w)
theorem v15 (x0 x1 : Value) (w : World) (R : Value → World → Prop) : vc Tryd.prog true (Tryd.f15.body.getD .skip) (.seq .leaf (.seq (.seq .leaf (.cond (.seq .leaf .leaf) .leaf)) (.seq (.seq .leaf (.cond (.seq .leaf .leaf) .leaf)) (.seq .leaf .leaf)))) { get := argEnv [x0, x1], ds := [] } (retQ Tryd.prog Tryd.f15.results.toList R) w = c15 x0 x1 w R := by kernel_rfl
theorem e15 {x0 x1 : Value} {w : World} {R : Value → World → Prop} (h : c15 x0 x1 w R) : Ret Tryd.prog 15 #[x0, x1] w R :=
  ret_of_vc mixed Tryd.call15 Tryd.func15 rfl (by kernel_rfl) (by kernel_rfl) ((v15 x0 x1 w R).mpr h)
def c18 (x0 : Value) (w : World) (R : Value → World → Prop) : Prop :=
  val Tryd.prog (bin .rem 3 true x0 (Value.int .i64 4)) w fun x4 w => 
  val Tryd.prog (bin .eql 3 true x4 (Value.int .i64 0)) w fun x5 w => 
  gd x5 true (
  val Tryd.prog (bin .rem 3 true x0 (Value.int .i64 100)) w fun x8 w => 
  val Tryd.prog (bin .neq 3 true x8 (Value.int .i64 0)) w fun x9 w => 
  gd x9 false (
  val Tryd.prog (bin .rem 3 true x0 (Value.int .i64 400)) w fun x12 w => 
  val Tryd.prog (bin .eql 3 true x12 (Value.int .i64 0)) w fun x13 w => 
  R x13 w) (
  R (Value.bool true) w)) (
  R (Value.bool false) w)
theorem v18 (x0 : Value) (w : World) (R : Value → World → Prop) : vc Tryd.prog true (Tryd.f18.body.getD .skip) (.seq .leaf (.seq .leaf .leaf)) { get := argEnv [x0], ds := [] } (retQ Tryd.prog Tryd.f18.results.toList R) w = c18 x0 w R := by kernel_rfl
theorem e18 {x0 : Value} {w : World} {R : Value → World → Prop} (h : c18 x0 w R) : Ret Tryd.prog 18 #[x0] w R :=
  ret_of_vc mixed Tryd.call18 Tryd.func18 rfl (by kernel_rfl) (by kernel_rfl) ((v18 x0 w R).mpr h)
end Go.Proofs.YtipeanblfjimdaaDoor
