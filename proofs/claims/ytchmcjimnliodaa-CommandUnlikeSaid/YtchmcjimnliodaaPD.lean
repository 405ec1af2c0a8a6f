/- Printed by wip/tools/gen.py: the conditions of functions. -/
import Derived.Test.YtchmcjimnliodaaMix
import Derived.Test.YtchmcjimnliodaaVcR
import Derived.Test.YtchmcjimnliodaaChecked
namespace Go.Proofs.Ytchmcjimnliodaa
open Go
set_option maxRecDepth 100000
def c4 (x0 x1 : Value) (w : World) (R : Value → World → Prop) : Prop :=
  val Try.prog (Instr.box 50 x0) w fun x2 w => 
  val Try.prog (Instr.box 50 x1) w fun x3 w => 
  Ret Try.prog 21 #[] w fun x10 w => 
  val Try.prog (Op.unary .not x10) w fun x11 w => 
  gd x11 false (
  val Try.prog (Instr.fieldAt 50 x2 2) w fun x13 w => 
  val Try.prog (ldS 48 x13) w fun x14 w => 
  Ret Try.prog 22 #[x14] w fun x15 w => 
  val Try.prog (Op.unary .not x15) w fun x16 w => 
  gd x16 false (
  val Try.prog (Instr.fieldAt 50 x3 2) w fun x19 w => 
  val Try.prog (ldS 48 x19) w fun x20 w => 
  Ret Try.prog 22 #[x20] w fun x21 w => 
  val Try.prog (Op.unary .not x21) w fun x22 w => 
  gd x22 true (
  Ret Try.prog 21 #[] w fun x24 w => 
  R x24 w) (
  val Try.prog (ldS 50 x2) w fun x26 w => 
  Ret Try.prog 23 #[x26] w fun x27 w => 
  val Try.prog (Instr.extract x27 0) w fun x28 w => 
  val Try.prog (Instr.extract x27 1) w fun x29 w => 
  val Try.prog (ldS 50 x3) w fun x31 w => 
  Ret Try.prog 23 #[x31] w fun x32 w => 
  val Try.prog (Instr.extract x32 0) w fun x33 w => 
  val Try.prog (Instr.extract x32 1) w fun x34 w => 
  val Try.prog (bin .neq 36 true x29 (Value.int .i64 0)) w fun x36 w => 
  gd x36 false (
  val Try.prog (bin .neq 36 true x34 (Value.int .i64 0)) w fun x39 w => 
  gd x39 true (
  R (Value.bool true) w) (
  joinK 1 (fun (x9 : Value) (w : World) => 
  val Try.prog (convert 24 9 x28) w fun x63 w => 
  val Try.prog (convert 24 9 x33) w fun x65 w => 
  val Try.prog (bin .eql 9 false x63 x65) w fun x66 w => 
  val Try.prog (bin .eql 4 false x66 x9) w fun x68 w => 
  R x68 w)
  fun j => drw w fun T w => 
  pu Try.prog (Instr.fieldAt 50 x2 0) fun x41 => 
  tk Try.prog T 0 (ld1 42 x41) fun x42 => 
  pu Try.prog (Instr.fieldAt 50 x3 0) fun x43 => 
  tk Try.prog T 0 (ld1 42 x43) fun x44 => 
  pu Try.prog (bin .eql 42 false x42 x44) fun x45 => 
  gd x45 true (
  pu Try.prog (Instr.fieldAt 50 x2 1) fun x47 => 
  tk Try.prog T 0 (ld1 42 x47) fun x48 => 
  pu Try.prog (Instr.fieldAt 50 x3 1) fun x49 => 
  tk Try.prog T 0 (ld1 42 x49) fun x50 => 
  pu Try.prog (bin .eql 42 false x48 x50) fun x51 => 
  gd x51 true (
  pu Try.prog (Instr.fieldAt 50 x2 2) fun x54 => 
  tk Try.prog T 0 (ldS 48 x54) fun x55 => 
  pu Try.prog (Instr.fieldAt 50 x3 2) fun x57 => 
  tk Try.prog T 1 (ldS 48 x57) fun x58 => 
  Ret Try.prog 25 #[x55] w fun x56 w => 
  ph T 1 w (Ret Try.prog 25 #[x58] w fun x59 w => 
  ph T 2 w (Ret Try.prog 24 #[x56, x59] w fun x60 w => 
  ph T 3 w (j x60 w)))) (
  ph T 1 w (ph T 2 w (ph T 3 w (j (Value.bool false) w))))) (
  ph T 1 w (ph T 2 w (ph T 3 w (j (Value.bool false) w)))))) (
  R (Value.bool true) w))) (
  Ret Try.prog 21 #[] w fun x24_1 w => 
  R x24_1 w)) (
  Ret Try.prog 21 #[] w fun x24_2 w => 
  R x24_2 w)
theorem v4 (x0 x1 : Value) (w : World) (R : Value → World → Prop) : vc Try.prog true (Try.f4.body.getD .skip) (.seq .leaf (.seq (.seq .leaf (.cond (.seq .leaf .leaf) .leaf)) (.seq .leaf (.seq .leaf (.seq (.seq .leaf (.cond (.seq .leaf .leaf) .leaf)) (.join [9] (.draw (.tk 0 0 (.tk 1 0 (.tk 2 0 (.tk 3 0 (.tk 4 0 (.tk 5 0 (.tk 6 0 (.tk 7 0 (.tk 8 0 (.tk 9 0 (.tk 10 0 (.tk 11 0 (.tk 12 0 (.tk 13 0 (.tk 14 0 (.tk 16 1 (.tk 17 1 (.one 15 (.one 18 (.one 19 (.tk 20 3 (.tk 21 3 .nil))))))))))))))))))))))) (.seq .leaf .leaf))))))) { get := argEnv [x0, x1], ds := [] } (retQ Try.prog Try.f4.results.toList R) w = c4 x0 x1 w R := by kernel_rfl
theorem e4 {x0 x1 : Value} {w : World} {R : Value → World → Prop} (h : c4 x0 x1 w R) : Ret Try.prog 4 #[x0, x1] w R :=
  ret_of_vc mixed Try.call4 Try.func4 rfl (by kernel_rfl) (by kernel_rfl) ((v4 x0 x1 w R).mpr h)
def c22 (x0 : Value) (w : World) (R : Value → World → Prop) : Prop :=
  val Try.prog (Instr.box 48 x0) w fun x1 w => 
  val Try.prog (Instr.fieldAt 48 x1 1) w fun x3 w => 
  val Try.prog (ld1 9 x3) w fun x4 w => 
  val Try.prog (Builtin.len_ #[9] 3 #[x4]) w fun x5 w => 
  val Try.prog (bin .leq 3 true x5 (Value.int .i64 600)) w fun x6 w => 
  gd x6 true (
  val Try.prog (Instr.fieldAt 48 x1 2) w fun x8 w => 
  val Try.prog (ld1 9 x8) w fun x9 w => 
  val Try.prog (Builtin.len_ #[9] 3 #[x9]) w fun x10 w => 
  val Try.prog (bin .leq 3 true x10 (Value.int .i64 600)) w fun x11 w => 
  gd x11 true (
  val Try.prog (Instr.fieldAt 48 x1 5) w fun x14 w => 
  val Try.prog (ldS 46 x14) w fun x15 w => 
  Ret Try.prog 66 #[x15] w fun x16 w => 
  R x16 w) (
  R (Value.bool false) w)) (
  R (Value.bool false) w)
theorem v22 (x0 : Value) (w : World) (R : Value → World → Prop) : vc Try.prog true (Try.f22.body.getD .skip) (.seq .leaf (.seq .leaf .leaf)) { get := argEnv [x0], ds := [] } (retQ Try.prog Try.f22.results.toList R) w = c22 x0 w R := by kernel_rfl
theorem e22 {x0 : Value} {w : World} {R : Value → World → Prop} (h : c22 x0 w R) : Ret Try.prog 22 #[x0] w R :=
  ret_of_vc mixed Try.call22 Try.func22 rfl (by kernel_rfl) (by kernel_rfl) ((v22 x0 w R).mpr h)
def c66_1 (x1 : Value) (R : Value → World → Prop) (w : World) : Prop :=
  val Try.prog (Instr.fieldAt 46 x1 0) w fun x16 w => 
  val Try.prog (ld1 9 x16) w fun x17 w => 
  val Try.prog (Builtin.len_ #[9] 3 #[x17]) w fun x18 w => 
  val Try.prog (bin .leq 3 true x18 (Value.int .i64 60)) w fun x19 w => 
  gd x19 true (
  val Try.prog (Instr.fieldAt 46 x1 1) w fun x21 w => 
  val Try.prog (ld1 9 x21) w fun x22 w => 
  val Try.prog (Builtin.len_ #[9] 3 #[x22]) w fun x23 w => 
  val Try.prog (bin .leq 3 true x23 (Value.int .i64 60)) w fun x24 w => 
  gd x24 true (
  val Try.prog (Instr.fieldAt 46 x1 4) w fun x27 w => 
  val Try.prog (ld1 44 x27) w fun x28 w => 
  val Try.prog (Builtin.len_ #[44] 3 #[x28]) w fun x29 w => 
  val Try.prog (bin .leq 3 true x29 (Value.int .i64 20)) w fun x30 w => 
  gd x30 true (
  val Try.prog (Instr.fieldAt 46 x1 9) w fun x33 w => 
  val Try.prog (ld1 9 x33) w fun x34 w => 
  val Try.prog (Builtin.len_ #[9] 3 #[x34]) w fun x35 w => 
  val Try.prog (bin .leq 3 true x35 (Value.int .i64 200)) w fun x36 w => 
  R x36 w) (
  R (Value.bool false) w)) (
  R (Value.bool false) w)) (
  R (Value.bool false) w)
def c66_2 (x8 x7 x6 x1 : Value) (R : Value → World → Prop) (next : Car 1) (w : World) : Prop :=
  val Try.prog (bin .lss 3 false x8 x7) w fun x9 w => 
  gd x9 true (
  val Try.prog (Instr.indexAt 44 x6 x8) w fun x10 w => 
  val Try.prog (ld1 9 x10) w fun x11 w => 
  val Try.prog (Builtin.len_ #[9] 3 #[x11]) w fun x13 w => 
  val Try.prog (bin .gtr 3 true x13 (Value.int .i64 60)) w fun x14 w => 
  gd x14 true (
  R (Value.bool false) w) (
  val Try.prog (bin .add 3 true x8 (Value.int .i64 1)) w fun x15 w => 
  next x15 w)) (
  c66_1 x1 R w)
def c66 (x0 : Value) (w : World) (R : Value → World → Prop) : Prop :=
  val Try.prog (Instr.box 46 x0) w fun x1 w => 
  val Try.prog (Instr.fieldAt 46 x1 4) w fun x5 w => 
  val Try.prog (ld1 44 x5) w fun x6 w => 
  val Try.prog (Builtin.len_ #[44] 3 #[x6]) w fun x7 w => 
  loopK 1 [(Value.int .i64 0)] w fun next => fun (x8 : Value) (w : World) => 
  c66_2 x8 x7 x6 x1 R next w
theorem v66 (x0 : Value) (w : World) (R : Value → World → Prop) : vc Try.prog true (Try.f66.body.getD .skip) (.seq .leaf (.seq (.seq .leaf (.one (.loop [8] (.seq .leaf (.seq (.cond .leaf .leaf) (.seq (.one (.seq .leaf (.seq .leaf (.cond (.seq .leaf .leaf) .leaf)))) .leaf)))))) (.seq .leaf .leaf))) { get := argEnv [x0], ds := [] } (retQ Try.prog Try.f66.results.toList R) w = c66 x0 w R := by kernel_rfl
theorem e66 {x0 : Value} {w : World} {R : Value → World → Prop} (h : c66 x0 w R) : Ret Try.prog 66 #[x0] w R :=
  ret_of_vc mixed Try.call66 Try.func66 rfl (by kernel_rfl) (by kernel_rfl) ((v66 x0 w R).mpr h)
def c23 (x0 : Value) (w : World) (R : Value → World → Prop) : Prop :=
  val Try.prog (Instr.box 50 x0) w fun x1 w => 
  val Try.prog (Instr.fieldAt 50 x1 2) w fun x6 w => 
  val Try.prog (Instr.fieldAt 48 x6 0) w fun x7 w => 
  val Try.prog (ld1 3 x7) w fun x8 w => 
  Ret Try.prog 67 #[x8] w fun x9 w => 
  val Try.prog (Op.unary .not x9) w fun x10 w => 
  gd x10 true (
  R (.tuple #[(Value.slice none 0 0), (Value.int .i64 1)]) w) (
  val Try.prog (Instr.build 127 #[]) w fun x11 w => 
  val Try.prog (Instr.box 127 x11) w fun x12 w => 
  val Try.prog (Instr.fieldAt 50 x1 0) w fun x14 w => 
  val Try.prog (ld1 42 x14) w fun x15 w => 
  Ret Try.prog 68 #[x12, x15] w fun _ w => 
  val Try.prog (Instr.fieldAt 50 x1 1) w fun x18 w => 
  val Try.prog (ld1 42 x18) w fun x19 w => 
  Ret Try.prog 68 #[x12, x19] w fun _ w => 
  val Try.prog (Instr.fieldAt 50 x1 2) w fun x22 w => 
  val Try.prog (Instr.fieldAt 48 x22 0) w fun x23 w => 
  val Try.prog (ld1 3 x23) w fun x24 w => 
  val Try.prog (convert 3 42 x24) w fun x25 w => 
  Ret Try.prog 68 #[x12, x25] w fun _ w => 
  val Try.prog (Instr.build 131 #[(0, x12)]) w fun x28 w => 
  val Try.prog (Instr.fieldAt 50 x1 2) w fun x29 w => 
  Ret Try.prog 69 #[x28, x29] w fun _ w => 
  Ret Try.prog 70 #[x12] w fun x32 w => 
  val Try.prog (Builtin.len_ #[24] 3 #[x32]) w fun x34 w => 
  val Try.prog (bin .gtr 3 true x34 (Value.int .i64 900)) w fun x35 w => 
  gd x35 true (
  R (.tuple #[(Value.slice none 0 0), (Value.int .i64 15)]) w) (
  R (.tuple #[x32, (Value.int .i64 0)]) w))
theorem v23 (x0 : Value) (w : World) (R : Value → World → Prop) : vc Try.prog true (Try.f23.body.getD .skip) (.seq .leaf (.seq (.seq .leaf (.cond (.seq .leaf .leaf) .leaf)) (.seq .leaf (.seq .leaf (.seq .leaf (.seq .leaf (.seq .leaf (.seq .leaf (.seq (.seq .leaf (.cond (.seq .leaf .leaf) .leaf)) (.seq .leaf .leaf)))))))))) { get := argEnv [x0], ds := [] } (retQ Try.prog Try.f23.results.toList R) w = c23 x0 w R := by kernel_rfl
theorem e23 {x0 : Value} {w : World} {R : Value → World → Prop} (h : c23 x0 w R) : Ret Try.prog 23 #[x0] w R :=
  ret_of_vc mixed Try.call23 Try.func23 rfl (by kernel_rfl) (by kernel_rfl) ((v23 x0 w R).mpr h)
def c67 (x0 : Value) (w : World) (R : Value → World → Prop) : Prop :=
  val Try.prog (bin .geq 3 true x0 (Value.int .i64 0)) w fun x4 w => 
  gd x4 true (
  val Try.prog (bin .lss 3 true x0 (Value.int .i64 10)) w fun x7 w => 
  R x7 w) (
  R (Value.bool false) w)
theorem v67 (x0 : Value) (w : World) (R : Value → World → Prop) : vc Try.prog true (Try.f67.body.getD .skip) (.seq .leaf (.seq .leaf .leaf)) { get := argEnv [x0], ds := [] } (retQ Try.prog Try.f67.results.toList R) w = c67 x0 w R := by kernel_rfl
theorem e67 {x0 : Value} {w : World} {R : Value → World → Prop} (h : c67 x0 w R) : Ret Try.prog 67 #[x0] w R :=
  ret_of_vc mixed Try.call67 Try.func67 rfl (by kernel_rfl) (by kernel_rfl) ((v67 x0 w R).mpr h)
def c112 (x0 x1 : Value) (w : World) (R : Value → World → Prop) : Prop :=
  val Try.prog (Instr.box 46 x1) w fun x3 w => 
  val Try.prog (Instr.fieldAt 46 x3 0) w fun x5 w => 
  val Try.prog (ld1 9 x5) w fun x6 w => 
  Ret Try.prog 135 #[x0, x6] w fun _ w => 
  val Try.prog (Instr.fieldAt 46 x3 1) w fun x9 w => 
  val Try.prog (ld1 9 x9) w fun x10 w => 
  Ret Try.prog 135 #[x0, x10] w fun _ w => 
  val Try.prog (Instr.fieldAt 46 x3 2) w fun x13 w => 
  val Try.prog (ld1 3 x13) w fun x14 w => 
  Ret Try.prog 139 #[x0, x14] w fun _ w => 
  val Try.prog (Instr.fieldAt 46 x3 3) w fun x17 w => 
  val Try.prog (ld1 2 x17) w fun x18 w => 
  Ret Try.prog 139 #[x0, x18] w fun _ w => 
  val Try.prog (Instr.fieldAt 46 x3 4) w fun x21 w => 
  val Try.prog (ld1 44 x21) w fun x22 w => 
  Ret Try.prog 140 #[x0, x22, (Value.func (.func 135) #[] #[])] w fun _ w => 
  val Try.prog (Instr.fieldAt 46 x3 5) w fun x25 w => 
  val Try.prog (ld1 2 x25) w fun x26 w => 
  Ret Try.prog 139 #[x0, x26] w fun _ w => 
  val Try.prog (Instr.fieldAt 46 x3 6) w fun x29 w => 
  val Try.prog (ld1 2 x29) w fun x30 w => 
  Ret Try.prog 139 #[x0, x30] w fun _ w => 
  val Try.prog (Instr.fieldAt 46 x3 7) w fun x33 w => 
  val Try.prog (ld1 3 x33) w fun x34 w => 
  Ret Try.prog 139 #[x0, x34] w fun _ w => 
  val Try.prog (Instr.fieldAt 46 x3 8) w fun x37 w => 
  val Try.prog (ld1 2 x37) w fun x38 w => 
  Ret Try.prog 139 #[x0, x38] w fun _ w => 
  val Try.prog (Instr.fieldAt 46 x3 9) w fun x41 w => 
  val Try.prog (ld1 9 x41) w fun x42 w => 
  Ret Try.prog 135 #[x0, x42] w fun _ w => 
  val Try.prog (Instr.fieldAt 46 x3 10) w fun x45 w => 
  val Try.prog (ld1 3 x45) w fun x46 w => 
  Ret Try.prog 139 #[x0, x46] w fun _ w => 
  R (.tuple #[]) w
theorem v112 (x0 x1 : Value) (w : World) (R : Value → World → Prop) : vc Try.prog true (Try.f112.body.getD .skip) (.seq .leaf (.seq .leaf (.seq .leaf (.seq .leaf (.seq .leaf (.seq .leaf (.seq .leaf (.seq .leaf (.seq .leaf (.seq .leaf (.seq .leaf .leaf))))))))))) { get := argEnv [x0, x1], ds := [] } (retQ Try.prog Try.f112.results.toList R) w = c112 x0 x1 w R := by kernel_rfl
theorem e112 {x0 x1 : Value} {w : World} {R : Value → World → Prop} (h : c112 x0 x1 w R) : Ret Try.prog 112 #[x0, x1] w R :=
  ret_of_vc mixed Try.call112 Try.func112 rfl (by kernel_rfl) (by kernel_rfl) ((v112 x0 x1 w R).mpr h)
def c140_1 (x15 x14 x1 x2 x0 : Value) (next : Car 1) (R : Value → World → Prop) (w : World) : Prop :=
  val Try.prog (bin .lss 3 false x15 x14) w fun x16 w => 
  gd x16 true (
  val Try.prog (Instr.indexAt 44 x1 x15) w fun x17 w => 
  val Try.prog (ld1 9 x17) w fun x18 w => 
  dyn Try.prog x2 [x0, x18] w fun _ w => 
  val Try.prog (bin .add 3 true x15 (Value.int .i64 1)) w fun x23 w => 
  next x23 w) (
  R (.tuple #[]) w)
def c140 (x0 x1 x2 : Value) (w : World) (R : Value → World → Prop) : Prop :=
  val Try.prog (Builtin.len_ #[44] 3 #[x1]) w fun x10 w => 
  val Try.prog (convert 3 42 x10) w fun x11 w => 
  Ret Try.prog 68 #[x0, x11] w fun _ w => 
  val Try.prog (Builtin.len_ #[44] 3 #[x1]) w fun x14 w => 
  loopK 1 [(Value.int .i64 0)] w fun next => fun (x15 : Value) (w : World) => 
  c140_1 x15 x14 x1 x2 x0 next R w
theorem v140 (x0 x1 x2 : Value) (w : World) (R : Value → World → Prop) : vc Try.prog true (Try.f140.body.getD .skip) (.seq .leaf (.seq .leaf (.one (.loop [15] (.seq .leaf (.seq (.cond .leaf .leaf) (.seq (.one (.seq .leaf .leaf)) .leaf))))))) { get := argEnv [x0, x1, x2], ds := [] } (retQ Try.prog Try.f140.results.toList R) w = c140 x0 x1 x2 w R := by kernel_rfl
theorem e140 {x0 x1 x2 : Value} {w : World} {R : Value → World → Prop} (h : c140 x0 x1 x2 w R) : Ret Try.prog 140 #[x0, x1, x2] w R :=
  ret_of_vc mixed Try.call140 Try.func140 rfl (by kernel_rfl) (by kernel_rfl) ((v140 x0 x1 x2 w R).mpr h)
end Go.Proofs.Ytchmcjimnliodaa
