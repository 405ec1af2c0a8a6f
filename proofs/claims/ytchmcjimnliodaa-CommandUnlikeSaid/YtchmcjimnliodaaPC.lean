/- Printed by wip/tools/gen.py: the conditions of functions. -/
import Derived.Test.YtchmcjimnliodaaMix
import Derived.Test.YtchmcjimnliodaaVcR
import Derived.Test.YtchmcjimnliodaaChecked
namespace Go.Proofs.Ytchmcjimnliodaa
open Go
set_option maxRecDepth 100000
def c116 (x0 : Value) (w : World) (R : Value → World → Prop) : Prop :=
  val Try.prog (bin .lss 2 true x0 (Value.int .i64 0)) w fun x4 w => 
  gd x4 true (
  val Try.prog (bin .add 2 true x0 (Value.int .i64 1)) w fun x6 w => 
  val Try.prog (Op.unary .neg x6) w fun x7 w => 
  val Try.prog (convert 2 42 x7) w fun x8 w => 
  val Try.prog (bin .mul 42 true (Value.int .u64 2) x8) w fun x9 w => 
  val Try.prog (bin .add 42 true x9 (Value.int .u64 1)) w fun x10 w => 
  Ret Try.prog 20 #[x10] w fun x11 w => 
  R x11 w) (
  val Try.prog (convert 2 42 x0) w fun x13 w => 
  val Try.prog (bin .mul 42 true (Value.int .u64 2) x13) w fun x14 w => 
  Ret Try.prog 20 #[x14] w fun x15 w => 
  R x15 w)
theorem v116 (x0 : Value) (w : World) (R : Value → World → Prop) : vc Try.prog true (Try.f116.body.getD .skip) (.seq .leaf (.seq (.seq .leaf (.cond (.seq .leaf .leaf) .leaf)) (.seq .leaf .leaf))) { get := argEnv [x0], ds := [] } (retQ Try.prog Try.f116.results.toList R) w = c116 x0 w R := by kernel_rfl
theorem e116 {x0 : Value} {w : World} {R : Value → World → Prop} (h : c116 x0 w R) : Ret Try.prog 116 #[x0] w R :=
  ret_of_vc mixed Try.call116 Try.func116 rfl (by kernel_rfl) (by kernel_rfl) ((v116 x0 w R).mpr h)
def c71_1 (x1 x3 : Value) (R : Value → World → Prop) (w : World) : Prop :=
  drw w fun T w => 
  pu Try.prog (Instr.fieldAt 46 x1 5) fun x40 => 
  tk Try.prog T 0 (ld1 2 x40) fun x41 => 
  pu Try.prog (Instr.fieldAt 46 x1 6) fun x44 => 
  tk Try.prog T 1 (ld1 2 x44) fun x45 => 
  pu Try.prog (Instr.fieldAt 46 x1 7) fun x48 => 
  tk Try.prog T 2 (ld1 3 x48) fun x49 => 
  pu Try.prog (Instr.fieldAt 46 x1 8) fun x52 => 
  tk Try.prog T 3 (ld1 2 x52) fun x53 => 
  pu Try.prog (Instr.fieldAt 46 x1 9) fun x56 => 
  tk Try.prog T 4 (ld1 9 x56) fun x57 => 
  pu Try.prog (Instr.fieldAt 46 x1 10) fun x60 => 
  tk Try.prog T 5 (ld1 3 x60) fun x61 => 
  Ret Try.prog 116 #[x41] w fun x42 w => 
  ph T 1 w (pu Try.prog (bin .add 9 false x3 x42) fun x43 => 
  Ret Try.prog 116 #[x45] w fun x46 w => 
  ph T 2 w (pu Try.prog (bin .add 9 false x43 x46) fun x47 => 
  Ret Try.prog 116 #[x49] w fun x50 w => 
  ph T 3 w (pu Try.prog (bin .add 9 false x47 x50) fun x51 => 
  Ret Try.prog 116 #[x53] w fun x54 w => 
  ph T 4 w (pu Try.prog (bin .add 9 false x51 x54) fun x55 => 
  Ret Try.prog 59 #[x57] w fun x58 w => 
  ph T 5 w (pu Try.prog (bin .add 9 false x55 x58) fun x59 => 
  Ret Try.prog 116 #[x61] w fun x62 w => 
  ph T 6 w (pu Try.prog (bin .add 9 false x59 x62) fun x63 => 
  R x63 w))))))
def c71_2 (x30 x29 x28 x3 x1 : Value) (next : Car 2) (R : Value → World → Prop) (w : World) : Prop :=
  val Try.prog (bin .lss 3 false x30 x29) w fun x31 w => 
  gd x31 true (
  val Try.prog (Instr.indexAt 44 x28 x30) w fun x32 w => 
  val Try.prog (ld1 9 x32) w fun x33 w => 
  Ret Try.prog 59 #[x33] w fun x36 w => 
  val Try.prog (bin .add 9 false x3 x36) w fun x37 w => 
  val Try.prog (bin .add 3 true x30 (Value.int .i64 1)) w fun x38 w => 
  next x37 x38 w) (
  c71_1 x1 x3 R w)
def c71 (x0 : Value) (w : World) (R : Value → World → Prop) : Prop :=
  val Try.prog (Instr.box 46 x0) w fun x1 w => 
  drw w fun T w => 
  pu Try.prog (Instr.fieldAt 46 x1 0) fun x6 => 
  tk Try.prog T 0 (ld1 9 x6) fun x7 => 
  pu Try.prog (Instr.fieldAt 46 x1 1) fun x9 => 
  tk Try.prog T 1 (ld1 9 x9) fun x10 => 
  pu Try.prog (Instr.fieldAt 46 x1 2) fun x13 => 
  tk Try.prog T 2 (ld1 3 x13) fun x14 => 
  pu Try.prog (Instr.fieldAt 46 x1 3) fun x17 => 
  tk Try.prog T 3 (ld1 2 x17) fun x18 => 
  pu Try.prog (Instr.fieldAt 46 x1 4) fun x21 => 
  tk Try.prog T 4 (ld1 44 x21) fun x22 => 
  tk Try.prog T 4 (Builtin.len_ #[44] 3 #[x22]) fun x23 => 
  tk Try.prog T 4 (convert 3 42 x23) fun x24 => 
  Ret Try.prog 59 #[x7] w fun x8 w => 
  ph T 1 w (Ret Try.prog 59 #[x10] w fun x11 w => 
  ph T 2 w (pu Try.prog (bin .add 9 false x8 x11) fun x12 => 
  Ret Try.prog 116 #[x14] w fun x15 w => 
  ph T 3 w (pu Try.prog (bin .add 9 false x12 x15) fun x16 => 
  Ret Try.prog 116 #[x18] w fun x19 w => 
  ph T 4 w (pu Try.prog (bin .add 9 false x16 x19) fun x20 => 
  Ret Try.prog 20 #[x24] w fun x25 w => 
  ph T 5 w (pu Try.prog (bin .add 9 false x20 x25) fun x26 => 
  val Try.prog (Instr.fieldAt 46 x1 4) w fun x27 w => 
  val Try.prog (ld1 44 x27) w fun x28 w => 
  val Try.prog (Builtin.len_ #[44] 3 #[x28]) w fun x29 w => 
  loopK 2 [x26, (Value.int .i64 0)] w fun next => fun (x3 x30 : Value) (w : World) => 
  c71_2 x30 x29 x28 x3 x1 next R w)))))
theorem v71 (x0 : Value) (w : World) (R : Value → World → Prop) : vc Try.prog true (Try.f71.body.getD .skip) (.seq .leaf (.seq (.draw (.tk 0 0 (.tk 1 0 (.tk 3 1 (.tk 4 1 (.tk 7 2 (.tk 8 2 (.tk 11 3 (.tk 12 3 (.tk 15 4 (.tk 16 4 (.tk 17 4 (.tk 18 4 (.one 2 (.one 5 (.tk 6 5 (.one 9 (.tk 10 5 (.one 13 (.tk 14 5 (.one 19 (.tk 20 5 (.tk 21 5 .nil))))))))))))))))))))))) (.seq (.seq .leaf (.one (.loop [3, 30] (.seq .leaf (.seq (.cond .leaf .leaf) (.seq (.one (.seq .leaf .leaf)) .leaf)))))) (.seq (.draw (.tk 0 6 (.tk 1 0 (.tk 2 0 (.tk 5 1 (.tk 6 1 (.tk 9 2 (.tk 10 2 (.tk 13 3 (.tk 14 3 (.tk 17 4 (.tk 18 4 (.tk 21 5 (.tk 22 5 (.one 3 (.tk 4 6 (.one 7 (.tk 8 6 (.one 11 (.tk 12 6 (.one 15 (.tk 16 6 (.one 19 (.tk 20 6 (.one 23 (.tk 24 6 (.tk 25 6 .nil))))))))))))))))))))))))))) .leaf)))) { get := argEnv [x0], ds := [] } (retQ Try.prog Try.f71.results.toList R) w = c71 x0 w R := by kernel_rfl
theorem e71 {x0 : Value} {w : World} {R : Value → World → Prop} (h : c71 x0 w R) : Ret Try.prog 71 #[x0] w R :=
  ret_of_vc mixed Try.call71 Try.func71 rfl (by kernel_rfl) (by kernel_rfl) ((v71 x0 w R).mpr h)
def c117 (x0 : Value) (w : World) (R : Value → World → Prop) : Prop :=
  val Try.prog (bin .eql 44 true x0 (Value.slice none 0 0)) w fun x4 w => 
  gd x4 true (
  R (Value.slice none 0 0) w) (
  val Try.prog (Instr.buildSlice 44 0 #[]) w fun x5 w => 
  val Try.prog (Builtin.append_ #[44, 44] 44 #[x5, x0]) w fun x7 w => 
  R x7 w)
theorem v117 (x0 : Value) (w : World) (R : Value → World → Prop) : vc Try.prog true (Try.f117.body.getD .skip) (.seq .leaf (.seq (.seq .leaf (.cond (.seq .leaf .leaf) .leaf)) (.seq .leaf .leaf))) { get := argEnv [x0], ds := [] } (retQ Try.prog Try.f117.results.toList R) w = c117 x0 w R := by kernel_rfl
theorem e117 {x0 : Value} {w : World} {R : Value → World → Prop} (h : c117 x0 w R) : Ret Try.prog 117 #[x0] w R :=
  ret_of_vc mixed Try.call117 Try.func117 rfl (by kernel_rfl) (by kernel_rfl) ((v117 x0 w R).mpr h)
def c72 (x0 : Value) (w : World) (R : Value → World → Prop) : Prop :=
  val Try.prog (Instr.box 46 x0) w fun x1 w => 
  val Try.prog (Instr.alloc 46 true (.tuple #[])) w fun x2 w => 
  val Try.prog (Instr.fieldAt 46 x1 4) w fun x3 w => 
  val Try.prog (ld1 44 x3) w fun x4 w => 
  Ret Try.prog 117 #[x4] w fun x5 w => 
  val Try.prog (Instr.fieldAt 46 x1 4) w fun x6 w => 
  unt Try.prog (st1 44 x6 x5) w fun w => 
  val Try.prog (ldS 46 x1) w fun x7 w => 
  unt Try.prog (stS 46 x2 x7) w fun w => 
  rd Try.prog (ldS 46 x2) w fun r => R r w
theorem v72 (x0 : Value) (w : World) (R : Value → World → Prop) : vc Try.prog true (Try.f72.body.getD .skip) (.seq .leaf (.seq .leaf (.seq .leaf .leaf))) { get := argEnv [x0], ds := [] } (retQ Try.prog Try.f72.results.toList R) w = c72 x0 w R := by kernel_rfl
theorem e72 {x0 : Value} {w : World} {R : Value → World → Prop} (h : c72 x0 w R) : Ret Try.prog 72 #[x0] w R :=
  ret_of_vc mixed Try.call72 Try.func72 rfl (by kernel_rfl) (by kernel_rfl) ((v72 x0 w R).mpr h)
def c25_1 (x40 x1 x3 x8 : Value) (j : Car 0) (w : World) : Prop :=
  gd x40 true (
  val Try.prog (Instr.fieldAt 48 x1 1) w fun x44 w => 
  val Try.prog (ld1 9 x44) w fun x45 w => 
  val Try.prog (Instr.fieldAt 48 x3 1) w fun x46 w => 
  unt Try.prog (st1 9 x46 x45) w fun w => 
  j w) (
  val Try.prog (bin .eql 3 true x8 (Value.int .i64 9)) w fun x48 w => 
  gd x48 true (
  val Try.prog (Instr.fieldAt 48 x1 4) w fun x49 w => 
  val Try.prog (ld1 2 x49) w fun x50 w => 
  val Try.prog (Instr.fieldAt 48 x3 4) w fun x51 w => 
  unt Try.prog (st1 2 x51 x50) w fun w => 
  j w) (
  j w))
def c25_2 (x20 x1 x3 x8 : Value) (j : Car 0) (w : World) : Prop :=
  gd x20 true (
  drw w fun T w => 
  pu Try.prog (Instr.fieldAt 48 x1 1) fun x23 => 
  tk Try.prog T 0 (ld1 9 x23) fun x24 => 
  pu Try.prog (Instr.fieldAt 48 x1 3) fun x25 => 
  tk Try.prog T 1 (ld1 42 x25) fun x26 => 
  pu Try.prog (Instr.fieldAt 48 x3 1) fun x27 => 
  unt Try.prog (st1 9 x27 x24) w fun w => 
  ph T 1 w (pu Try.prog (Instr.fieldAt 48 x3 3) fun x28 => 
  unt Try.prog (st1 42 x28 x26) w fun w => 
  ph T 2 w (j w))) (
  val Try.prog (bin .eql 3 true x8 (Value.int .i64 4)) w fun x30 w => 
  gd x30 true (
  drw w fun T w => 
  pu Try.prog (Instr.fieldAt 48 x1 1) fun x31 => 
  tk Try.prog T 0 (ld1 9 x31) fun x32 => 
  pu Try.prog (Instr.fieldAt 48 x1 3) fun x33 => 
  tk Try.prog T 1 (ld1 42 x33) fun x34 => 
  pu Try.prog (Instr.fieldAt 48 x1 4) fun x35 => 
  tk Try.prog T 2 (ld1 2 x35) fun x36 => 
  pu Try.prog (Instr.fieldAt 48 x3 1) fun x37 => 
  unt Try.prog (st1 9 x37 x32) w fun w => 
  ph T 1 w (pu Try.prog (Instr.fieldAt 48 x3 3) fun x38 => 
  unt Try.prog (st1 42 x38 x34) w fun w => 
  ph T 2 w (pu Try.prog (Instr.fieldAt 48 x3 4) fun x39 => 
  unt Try.prog (st1 2 x39 x36) w fun w => 
  ph T 3 w (j w)))) (
  joinK 1 (fun (x40 : Value) (w : World) => 
  c25_1 x40 x1 x3 x8 j w)
  fun j_2 => val Try.prog (bin .eql 3 true x8 (Value.int .i64 6)) w fun x41 w => 
  gd x41 true (
  j_2 (Value.bool true) w) (
  val Try.prog (bin .eql 3 true x8 (Value.int .i64 7)) w fun x42 w => 
  gd x42 true (
  j_2 (Value.bool true) w) (
  val Try.prog (bin .eql 3 true x8 (Value.int .i64 8)) w fun x43 w => 
  j_2 x43 w))))
def c25 (x0 : Value) (w : World) (R : Value → World → Prop) : Prop :=
  val Try.prog (Instr.box 48 x0) w fun x1 w => 
  val Try.prog (Instr.alloc 48 true (.tuple #[])) w fun x2 w => 
  val Try.prog (Instr.fieldAt 48 x1 0) w fun x4 w => 
  val Try.prog (ld1 3 x4) w fun x5 w => 
  val Try.prog (Instr.build 48 #[(0, x5)]) w fun x6 w => 
  val Try.prog (Instr.alloc 48 true (.tuple #[])) w fun x3 w => 
  unt Try.prog (stS 48 x3 x6) w fun w => 
  joinK 0 (fun (w : World) => 
  val Try.prog (ldS 48 x3) w fun x52 w => 
  unt Try.prog (stS 48 x2 x52) w fun w => 
  rd Try.prog (ldS 48 x2) w fun r => R r w)
  fun j => val Try.prog (Instr.fieldAt 48 x1 0) w fun x7 w => 
  val Try.prog (ld1 3 x7) w fun x8 w => 
  val Try.prog (bin .eql 3 true x8 (Value.int .i64 1)) w fun x10 w => 
  gd x10 true (
  val Try.prog (Instr.fieldAt 48 x1 5) w fun x11 w => 
  val Try.prog (ldS 46 x11) w fun x12 w => 
  Ret Try.prog 72 #[x12] w fun x13 w => 
  val Try.prog (Instr.fieldAt 48 x3 5) w fun x14 w => 
  unt Try.prog (stS 46 x14 x13) w fun w => 
  j w) (
  val Try.prog (bin .eql 3 true x8 (Value.int .i64 2)) w fun x16 w => 
  gd x16 true (
  val Try.prog (Instr.fieldAt 48 x1 2) w fun x17 w => 
  val Try.prog (ld1 9 x17) w fun x18 w => 
  val Try.prog (Instr.fieldAt 48 x3 2) w fun x19 w => 
  unt Try.prog (st1 9 x19 x18) w fun w => 
  j w) (
  joinK 1 (fun (x20 : Value) (w : World) => 
  c25_2 x20 x1 x3 x8 j w)
  fun j_1 => val Try.prog (bin .eql 3 true x8 (Value.int .i64 3)) w fun x21 w => 
  gd x21 true (
  j_1 (Value.bool true) w) (
  val Try.prog (bin .eql 3 true x8 (Value.int .i64 5)) w fun x22 w => 
  j_1 x22 w)))
theorem v25 (x0 : Value) (w : World) (R : Value → World → Prop) : vc Try.prog true (Try.f25.body.getD .skip) (.seq .leaf (.seq .leaf (.join [] (.seq .leaf (.one (.seq .leaf (.cond .leaf (.seq .leaf (.cond .leaf (.join [20] (.seq .leaf (.cond .leaf .leaf)) (.cond (.draw (.tk 0 0 (.tk 1 0 (.tk 2 1 (.tk 3 1 (.tk 4 0 (.one 5 (.tk 6 1 (.one 7 .nil))))))))) (.seq .leaf (.cond (.draw (.tk 0 0 (.tk 1 0 (.tk 2 1 (.tk 3 1 (.tk 4 2 (.tk 5 2 (.tk 6 0 (.one 7 (.tk 8 1 (.one 9 (.tk 10 2 (.one 11 .nil))))))))))))) (.join [40] (.seq .leaf (.cond .leaf (.seq .leaf (.cond .leaf .leaf)))) (.cond .leaf (.seq .leaf (.cond .leaf .leaf)))))))))))))) (.seq .leaf .leaf)))) { get := argEnv [x0], ds := [] } (retQ Try.prog Try.f25.results.toList R) w = c25 x0 w R := by kernel_rfl
theorem e25 {x0 : Value} {w : World} {R : Value → World → Prop} (h : c25 x0 w R) : Ret Try.prog 25 #[x0] w R :=
  ret_of_vc mixed Try.call25 Try.func25 rfl (by kernel_rfl) (by kernel_rfl) ((v25 x0 w R).mpr h)
def c24 (x0 x1 : Value) (w : World) (R : Value → World → Prop) : Prop :=
  val Try.prog (Instr.box 48 x0) w fun x2 w => 
  val Try.prog (Instr.box 48 x1) w fun x3 w => 
  drw w fun T w => 
  pu Try.prog (Instr.fieldAt 48 x2 0) fun x5 => 
  tk Try.prog T 0 (ld1 3 x5) fun x6 => 
  pu Try.prog (Instr.fieldAt 48 x3 0) fun x7 => 
  tk Try.prog T 0 (ld1 3 x7) fun x8 => 
  pu Try.prog (bin .eql 3 false x6 x8) fun x9 => 
  gd x9 true (
  pu Try.prog (Instr.fieldAt 48 x2 1) fun x11 => 
  tk Try.prog T 0 (ld1 9 x11) fun x12 => 
  pu Try.prog (Instr.fieldAt 48 x3 1) fun x13 => 
  tk Try.prog T 0 (ld1 9 x13) fun x14 => 
  pu Try.prog (bin .eql 9 false x12 x14) fun x15 => 
  gd x15 true (
  pu Try.prog (Instr.fieldAt 48 x2 2) fun x18 => 
  tk Try.prog T 0 (ld1 9 x18) fun x19 => 
  pu Try.prog (Instr.fieldAt 48 x3 2) fun x20 => 
  tk Try.prog T 0 (ld1 9 x20) fun x21 => 
  pu Try.prog (bin .eql 9 false x19 x21) fun x22 => 
  gd x22 true (
  pu Try.prog (Instr.fieldAt 48 x2 3) fun x25 => 
  tk Try.prog T 0 (ld1 42 x25) fun x26 => 
  pu Try.prog (Instr.fieldAt 48 x3 3) fun x27 => 
  tk Try.prog T 0 (ld1 42 x27) fun x28 => 
  pu Try.prog (bin .eql 42 false x26 x28) fun x29 => 
  gd x29 true (
  pu Try.prog (Instr.fieldAt 48 x2 4) fun x32 => 
  tk Try.prog T 0 (ld1 2 x32) fun x33 => 
  pu Try.prog (Instr.fieldAt 48 x3 4) fun x34 => 
  tk Try.prog T 0 (ld1 2 x34) fun x35 => 
  pu Try.prog (bin .eql 2 false x33 x35) fun x36 => 
  gd x36 true (
  pu Try.prog (Instr.fieldAt 48 x2 5) fun x39 => 
  tk Try.prog T 0 (ldS 46 x39) fun x40 => 
  pu Try.prog (Instr.fieldAt 48 x3 5) fun x42 => 
  tk Try.prog T 1 (ldS 46 x42) fun x43 => 
  Ret Try.prog 71 #[x40] w fun x41 w => 
  ph T 1 w (Ret Try.prog 71 #[x43] w fun x44 w => 
  ph T 2 w (pu Try.prog (bin .eql 9 false x41 x44) fun x45 => 
  R x45 w))) (
  ph T 1 w (ph T 2 w (R (Value.bool false) w)))) (
  ph T 1 w (ph T 2 w (R (Value.bool false) w)))) (
  ph T 1 w (ph T 2 w (R (Value.bool false) w)))) (
  ph T 1 w (ph T 2 w (R (Value.bool false) w)))) (
  ph T 1 w (ph T 2 w (R (Value.bool false) w)))
theorem v24 (x0 x1 : Value) (w : World) (R : Value → World → Prop) : vc Try.prog true (Try.f24.body.getD .skip) (.seq .leaf (.seq (.draw (.tk 0 0 (.tk 1 0 (.tk 2 0 (.tk 3 0 (.tk 4 0 (.tk 5 0 (.tk 6 0 (.tk 7 0 (.tk 8 0 (.tk 9 0 (.tk 10 0 (.tk 11 0 (.tk 12 0 (.tk 13 0 (.tk 14 0 (.tk 15 0 (.tk 16 0 (.tk 17 0 (.tk 18 0 (.tk 19 0 (.tk 20 0 (.tk 21 0 (.tk 22 0 (.tk 23 0 (.tk 24 0 (.tk 25 0 (.tk 26 0 (.tk 27 0 (.tk 28 0 (.tk 29 0 (.tk 30 0 (.tk 31 0 (.tk 32 0 (.tk 33 0 (.tk 34 0 (.tk 35 0 (.tk 37 1 (.tk 38 1 (.one 36 (.one 39 (.tk 40 2 (.tk 41 2 (.tk 42 2 .nil)))))))))))))))))))))))))))))))))))))))))))) .leaf)) { get := argEnv [x0, x1], ds := [] } (retQ Try.prog Try.f24.results.toList R) w = c24 x0 x1 w R := by kernel_rfl
theorem e24 {x0 x1 : Value} {w : World} {R : Value → World → Prop} (h : c24 x0 x1 w R) : Ret Try.prog 24 #[x0, x1] w R :=
  ret_of_vc mixed Try.call24 Try.func24 rfl (by kernel_rfl) (by kernel_rfl) ((v24 x0 x1 w R).mpr h)
def c77_1 (x51 x1 x7 x9 : Value) (R : Value → World → Prop) (w : World) : Prop :=
  gd x51 true (
  val Try.prog (Instr.fieldAt 48 x1 1) w fun x56 w => 
  val Try.prog (ld1 9 x56) w fun x57 w => 
  Ret Try.prog 59 #[x57] w fun x58 w => 
  val Try.prog (bin .add 9 false x7 x58) w fun x59 w => 
  R x59 w) (
  val Try.prog (bin .eql 3 true x9 (Value.int .i64 9)) w fun x61 w => 
  gd x61 true (
  val Try.prog (Instr.fieldAt 48 x1 4) w fun x63 w => 
  val Try.prog (ld1 2 x63) w fun x64 w => 
  Ret Try.prog 116 #[x64] w fun x65 w => 
  val Try.prog (bin .add 9 false x7 x65) w fun x66 w => 
  R x66 w) (
  R x7 w))
def c77_2 (x24 x1 x7 x9 : Value) (R : Value → World → Prop) (w : World) : Prop :=
  gd x24 true (
  drw w fun T w => 
  pu Try.prog (Instr.fieldAt 48 x1 1) fun x28 => 
  tk Try.prog T 0 (ld1 9 x28) fun x29 => 
  pu Try.prog (Instr.fieldAt 48 x1 3) fun x32 => 
  tk Try.prog T 1 (ld1 42 x32) fun x33 => 
  Ret Try.prog 59 #[x29] w fun x30 w => 
  ph T 1 w (pu Try.prog (bin .add 9 false x7 x30) fun x31 => 
  Ret Try.prog 20 #[x33] w fun x34 w => 
  ph T 2 w (pu Try.prog (bin .add 9 false x31 x34) fun x35 => 
  R x35 w))) (
  val Try.prog (bin .eql 3 true x9 (Value.int .i64 4)) w fun x37 w => 
  gd x37 true (
  drw w fun T w => 
  pu Try.prog (Instr.fieldAt 48 x1 1) fun x39 => 
  tk Try.prog T 0 (ld1 9 x39) fun x40 => 
  pu Try.prog (Instr.fieldAt 48 x1 3) fun x43 => 
  tk Try.prog T 1 (ld1 42 x43) fun x44 => 
  pu Try.prog (Instr.fieldAt 48 x1 4) fun x47 => 
  tk Try.prog T 2 (ld1 2 x47) fun x48 => 
  Ret Try.prog 59 #[x40] w fun x41 w => 
  ph T 1 w (pu Try.prog (bin .add 9 false x7 x41) fun x42 => 
  Ret Try.prog 20 #[x44] w fun x45 w => 
  ph T 2 w (pu Try.prog (bin .add 9 false x42 x45) fun x46 => 
  Ret Try.prog 116 #[x48] w fun x49 w => 
  ph T 3 w (pu Try.prog (bin .add 9 false x46 x49) fun x50 => 
  R x50 w)))) (
  joinK 1 (fun (x51 : Value) (w : World) => 
  c77_1 x51 x1 x7 x9 R w)
  fun j_1 => val Try.prog (bin .eql 3 true x9 (Value.int .i64 6)) w fun x52 w => 
  gd x52 true (
  j_1 (Value.bool true) w) (
  val Try.prog (bin .eql 3 true x9 (Value.int .i64 7)) w fun x53 w => 
  gd x53 true (
  j_1 (Value.bool true) w) (
  val Try.prog (bin .eql 3 true x9 (Value.int .i64 8)) w fun x54 w => 
  j_1 x54 w))))
def c77 (x0 : Value) (w : World) (R : Value → World → Prop) : Prop :=
  val Try.prog (Instr.box 48 x0) w fun x1 w => 
  val Try.prog (Instr.fieldAt 48 x1 0) w fun x4 w => 
  val Try.prog (ld1 3 x4) w fun x5 w => 
  val Try.prog (convert 3 42 x5) w fun x6 w => 
  Ret Try.prog 20 #[x6] w fun x7 w => 
  val Try.prog (Instr.fieldAt 48 x1 0) w fun x8 w => 
  val Try.prog (ld1 3 x8) w fun x9 w => 
  val Try.prog (bin .eql 3 true x9 (Value.int .i64 1)) w fun x11 w => 
  gd x11 true (
  val Try.prog (Instr.fieldAt 48 x1 5) w fun x13 w => 
  val Try.prog (ldS 46 x13) w fun x14 w => 
  Ret Try.prog 71 #[x14] w fun x15 w => 
  val Try.prog (bin .add 9 false x7 x15) w fun x16 w => 
  R x16 w) (
  val Try.prog (bin .eql 3 true x9 (Value.int .i64 2)) w fun x18 w => 
  gd x18 true (
  val Try.prog (Instr.fieldAt 48 x1 2) w fun x20 w => 
  val Try.prog (ld1 9 x20) w fun x21 w => 
  Ret Try.prog 59 #[x21] w fun x22 w => 
  val Try.prog (bin .add 9 false x7 x22) w fun x23 w => 
  R x23 w) (
  joinK 1 (fun (x24 : Value) (w : World) => 
  c77_2 x24 x1 x7 x9 R w)
  fun j => val Try.prog (bin .eql 3 true x9 (Value.int .i64 3)) w fun x25 w => 
  gd x25 true (
  j (Value.bool true) w) (
  val Try.prog (bin .eql 3 true x9 (Value.int .i64 5)) w fun x26 w => 
  j x26 w)))
theorem v77 (x0 : Value) (w : World) (R : Value → World → Prop) : vc Try.prog true (Try.f77.body.getD .skip) (.seq .leaf (.seq .leaf (.seq (.seq .leaf (.one (.seq .leaf (.cond (.seq .leaf .leaf) (.seq .leaf (.cond (.seq .leaf .leaf) (.join [24] (.seq .leaf (.cond .leaf .leaf)) (.cond (.seq (.draw (.tk 0 2 (.tk 1 0 (.tk 2 0 (.tk 5 1 (.tk 6 1 (.one 3 (.tk 4 2 (.one 7 (.tk 8 2 (.tk 9 2 .nil))))))))))) .leaf) (.seq .leaf (.cond (.seq (.draw (.tk 0 3 (.tk 1 0 (.tk 2 0 (.tk 5 1 (.tk 6 1 (.tk 9 2 (.tk 10 2 (.one 3 (.tk 4 3 (.one 7 (.tk 8 3 (.one 11 (.tk 12 3 (.tk 13 3 .nil))))))))))))))) .leaf) (.join [51] (.seq .leaf (.cond .leaf (.seq .leaf (.cond .leaf .leaf)))) (.cond (.seq .leaf .leaf) (.seq .leaf (.cond (.seq .leaf .leaf) .leaf)))))))))))))) (.seq .leaf .leaf)))) { get := argEnv [x0], ds := [] } (retQ Try.prog Try.f77.results.toList R) w = c77 x0 w R := by kernel_rfl
theorem e77 {x0 : Value} {w : World} {R : Value → World → Prop} (h : c77 x0 w R) : Ret Try.prog 77 #[x0] w R :=
  ret_of_vc mixed Try.call77 Try.func77 rfl (by kernel_rfl) (by kernel_rfl) ((v77 x0 w R).mpr h)
def c27 (x0 : Value) (w : World) (R : Value → World → Prop) : Prop :=
  val Try.prog (Instr.box 50 x0) w fun x1 w => 
  drw w fun T w => 
  pu Try.prog (Instr.fieldAt 50 x1 0) fun x3 => 
  tk Try.prog T 0 (ld1 42 x3) fun x4 => 
  pu Try.prog (Instr.fieldAt 50 x1 1) fun x6 => 
  tk Try.prog T 1 (ld1 42 x6) fun x7 => 
  pu Try.prog (Instr.fieldAt 50 x1 2) fun x10 => 
  tk Try.prog T 2 (ldS 48 x10) fun x11 => 
  Ret Try.prog 20 #[x4] w fun x5 w => 
  ph T 1 w (Ret Try.prog 20 #[x7] w fun x8 w => 
  ph T 2 w (pu Try.prog (bin .add 9 false x5 x8) fun x9 => 
  Ret Try.prog 77 #[x11] w fun x12 w => 
  ph T 3 w (pu Try.prog (bin .add 9 false x9 x12) fun x13 => 
  R x13 w)))
theorem v27 (x0 : Value) (w : World) (R : Value → World → Prop) : vc Try.prog true (Try.f27.body.getD .skip) (.seq .leaf (.seq (.draw (.tk 0 0 (.tk 1 0 (.tk 3 1 (.tk 4 1 (.tk 7 2 (.tk 8 2 (.one 2 (.one 5 (.tk 6 3 (.one 9 (.tk 10 3 (.tk 11 3 .nil))))))))))))) .leaf)) { get := argEnv [x0], ds := [] } (retQ Try.prog Try.f27.results.toList R) w = c27 x0 w R := by kernel_rfl
theorem e27 {x0 : Value} {w : World} {R : Value → World → Prop} (h : c27 x0 w R) : Ret Try.prog 27 #[x0] w R :=
  ret_of_vc mixed Try.call27 Try.func27 rfl (by kernel_rfl) (by kernel_rfl) ((v27 x0 w R).mpr h)
def c65 (x0 : Value) (w : World) (R : Value → World → Prop) : Prop :=
  Ret Try.prog 108 #[x0] w fun x6 w => 
  val Try.prog (Op.unary .not x6) w fun x7 w => 
  gd x7 true (
  R (.tuple #[(Value.slice none 0 0), (Value.int .i64 1)]) w) (
  val Try.prog (Instr.build 127 #[]) w fun x8 w => 
  val Try.prog (Instr.box 127 x8) w fun x9 w => 
  Ret Try.prog 109 #[x9, x0, (Value.func (.func 110) #[] #[])] w fun _ w => 
  Ret Try.prog 70 #[x9] w fun x14 w => 
  R (.tuple #[x14, (Value.int .i64 0)]) w)
theorem v65 (x0 : Value) (w : World) (R : Value → World → Prop) : vc Try.prog true (Try.f65.body.getD .skip) (.seq .leaf (.seq (.seq .leaf (.cond (.seq .leaf .leaf) .leaf)) (.seq .leaf (.seq .leaf (.seq .leaf .leaf))))) { get := argEnv [x0], ds := [] } (retQ Try.prog Try.f65.results.toList R) w = c65 x0 w R := by kernel_rfl
theorem e65 {x0 : Value} {w : World} {R : Value → World → Prop} (h : c65 x0 w R) : Ret Try.prog 65 #[x0] w R :=
  ret_of_vc mixed Try.call65 Try.func65 rfl (by kernel_rfl) (by kernel_rfl) ((v65 x0 w R).mpr h)
def c108_1 (x7 x6 x0 : Value) (R : Value → World → Prop) (next : Car 1) (w : World) : Prop :=
  val Try.prog (bin .lss 3 false x7 x6) w fun x8 w => 
  gd x8 true (
  val Try.prog (Instr.indexAt 27 x0 x7) w fun x10 w => 
  val Try.prog (ld1 3 x10) w fun x11 w => 
  val Try.prog (bin .lss 3 true x11 (Value.int .i64 1)) w fun x13 w => 
  gd x13 false (
  val Try.prog (bin .gtr 3 true x11 (Value.int .i64 7)) w fun x16 w => 
  gd x16 false (
  val Try.prog (bin .gtr 3 true x7 (Value.int .i64 0)) w fun x20 w => 
  gd x20 true (
  val Try.prog (bin .sub 3 true x7 (Value.int .i64 1)) w fun x24 w => 
  val Try.prog (Instr.indexAt 27 x0 x24) w fun x25 w => 
  val Try.prog (ld1 3 x25) w fun x26 w => 
  val Try.prog (bin .geq 3 false x26 x11) w fun x28 w => 
  gd x28 true (
  R (Value.bool false) w) (
  val Try.prog (bin .add 3 true x7 (Value.int .i64 1)) w fun x31 w => 
  next x31 w)) (
  val Try.prog (bin .add 3 true x7 (Value.int .i64 1)) w fun x31_1 w => 
  next x31_1 w)) (
  R (Value.bool false) w)) (
  R (Value.bool false) w)) (
  val Try.prog (Builtin.len_ #[27] 3 #[x0]) w fun x33 w => 
  val Try.prog (bin .gtr 3 true x33 (Value.int .i64 0)) w fun x34 w => 
  R x34 w)
def c108 (x0 : Value) (w : World) (R : Value → World → Prop) : Prop :=
  val Try.prog (Builtin.len_ #[27] 3 #[x0]) w fun x6 w => 
  loopK 1 [(Value.int .i64 0)] w fun next => fun (x7 : Value) (w : World) => 
  c108_1 x7 x6 x0 R next w
theorem v108 (x0 : Value) (w : World) (R : Value → World → Prop) : vc Try.prog true (Try.f108.body.getD .skip) (.seq .leaf (.seq (.seq .leaf (.one (.loop [7] (.seq .leaf (.seq (.cond .leaf .leaf) (.seq (.one (.seq .leaf (.seq .leaf (.cond (.seq .leaf .leaf) .leaf)))) .leaf)))))) (.seq .leaf .leaf))) { get := argEnv [x0], ds := [] } (retQ Try.prog Try.f108.results.toList R) w = c108 x0 w R := by kernel_rfl
theorem e108 {x0 : Value} {w : World} {R : Value → World → Prop} (h : c108 x0 w R) : Ret Try.prog 108 #[x0] w R :=
  ret_of_vc mixed Try.call108 Try.func108 rfl (by kernel_rfl) (by kernel_rfl) ((v108 x0 w R).mpr h)
def c109_1 (x15 x14 x1 x2 x0 : Value) (next : Car 1) (R : Value → World → Prop) (w : World) : Prop :=
  val Try.prog (bin .lss 3 false x15 x14) w fun x16 w => 
  gd x16 true (
  val Try.prog (Instr.indexAt 27 x1 x15) w fun x17 w => 
  val Try.prog (ld1 3 x17) w fun x18 w => 
  dyn Try.prog x2 [x0, x18] w fun _ w => 
  val Try.prog (bin .add 3 true x15 (Value.int .i64 1)) w fun x23 w => 
  next x23 w) (
  R (.tuple #[]) w)
def c109 (x0 x1 x2 : Value) (w : World) (R : Value → World → Prop) : Prop :=
  val Try.prog (Builtin.len_ #[27] 3 #[x1]) w fun x10 w => 
  val Try.prog (convert 3 42 x10) w fun x11 w => 
  Ret Try.prog 68 #[x0, x11] w fun _ w => 
  val Try.prog (Builtin.len_ #[27] 3 #[x1]) w fun x14 w => 
  loopK 1 [(Value.int .i64 0)] w fun next => fun (x15 : Value) (w : World) => 
  c109_1 x15 x14 x1 x2 x0 next R w
theorem v109 (x0 x1 x2 : Value) (w : World) (R : Value → World → Prop) : vc Try.prog true (Try.f109.body.getD .skip) (.seq .leaf (.seq .leaf (.one (.loop [15] (.seq .leaf (.seq (.cond .leaf .leaf) (.seq (.one (.seq .leaf .leaf)) .leaf))))))) { get := argEnv [x0, x1, x2], ds := [] } (retQ Try.prog Try.f109.results.toList R) w = c109 x0 x1 x2 w R := by kernel_rfl
theorem e109 {x0 x1 x2 : Value} {w : World} {R : Value → World → Prop} (h : c109 x0 x1 x2 w R) : Ret Try.prog 109 #[x0, x1, x2] w R :=
  ret_of_vc mixed Try.call109 Try.func109 rfl (by kernel_rfl) (by kernel_rfl) ((v109 x0 x1 x2 w R).mpr h)
def c110 (x0 x1 : Value) (w : World) (R : Value → World → Prop) : Prop :=
  val Try.prog (convert 3 42 x1) w fun x6 w => 
  Ret Try.prog 68 #[x0, x6] w fun _ w => 
  R (.tuple #[]) w
theorem v110 (x0 x1 : Value) (w : World) (R : Value → World → Prop) : vc Try.prog true (Try.f110.body.getD .skip) .leaf { get := argEnv [x0, x1], ds := [] } (retQ Try.prog Try.f110.results.toList R) w = c110 x0 x1 w R := by kernel_rfl
theorem e110 {x0 x1 : Value} {w : World} {R : Value → World → Prop} (h : c110 x0 x1 w R) : Ret Try.prog 110 #[x0, x1] w R :=
  ret_of_vc mixed Try.call110 Try.func110 rfl (by kernel_rfl) (by kernel_rfl) ((v110 x0 x1 w R).mpr h)
def c21 (w : World) (R : Value → World → Prop) : Prop :=
  val Try.prog (Instr.buildSlice 27 2 #[(0, (Value.int .i64 1)), (1, (Value.int .i64 2))]) w fun x4 w => 
  Ret Try.prog 65 #[x4] w fun x5 w => 
  val Try.prog (Instr.extract x5 0) w fun x6 w => 
  val Try.prog (Instr.extract x5 1) w fun x7 w => 
  val Try.prog (bin .eql 36 true x7 (Value.int .i64 0)) w fun x9 w => 
  gd x9 true (
  val Try.prog (convert 24 9 x6) w fun x12 w => 
  val Try.prog (bin .eql 9 true x12 (Value.string (ByteArray.mk #[2, 1, 2]))) w fun x13 w => 
  R x13 w) (
  R (Value.bool false) w)
theorem v21 (w : World) (R : Value → World → Prop) : vc Try.prog true (Try.f21.body.getD .skip) (.seq .leaf (.seq .leaf (.seq .leaf .leaf))) { get := argEnv [], ds := [] } (retQ Try.prog Try.f21.results.toList R) w = c21  w R := by kernel_rfl
theorem e21 {w : World} {R : Value → World → Prop} (h : c21  w R) : Ret Try.prog 21 #[] w R :=
  ret_of_vc mixed Try.call21 Try.func21 rfl (by kernel_rfl) (by kernel_rfl) ((v21  w R).mpr h)
def c113 (x0 x1 : Value) (w : World) (R : Value → World → Prop) : Prop :=
  val Try.prog (Instr.box 131 x0) w fun x2 w => 
  val Try.prog (Instr.fieldAt 131 x2 1) w fun x4 w => 
  val Try.prog (ld1 129 x4) w fun x5 w => 
  val Try.prog (bin .neq 129 true x5 (Value.pointer none)) w fun x6 w => 
  gd x6 true (
  val Try.prog (Instr.fieldAt 131 x2 1) w fun x8 w => 
  val Try.prog (ld1 129 x8) w fun x9 w => 
  Ret Try.prog 141 #[x9, (Value.int .i64 255)] w fun x10 w => 
  val Try.prog (nilc x1) w fun x11 w => 
  unt Try.prog (st1 9 x11 x10) w fun w => 
  R (.tuple #[]) w) (
  drw w fun T w => 
  pu Try.prog (Instr.fieldAt 131 x2 0) fun x12 => 
  tk Try.prog T 0 (ld1 125 x12) fun x13 => 
  pu Try.prog (nilc x1) fun x15 => 
  tk Try.prog T 0 (ld1 9 x15) fun x16 => 
  Ret Try.prog 135 #[x13, x16] w fun _ w => 
  ph T 1 w (R (.tuple #[]) w))
theorem v113 (x0 x1 : Value) (w : World) (R : Value → World → Prop) : vc Try.prog true (Try.f113.body.getD .skip) (.seq .leaf (.seq .leaf (.cond .leaf (.draw (.tk 0 0 (.tk 1 0 (.tk 2 0 (.tk 3 0 (.tk 4 0 (.one 5 .nil)))))))))) { get := argEnv [x0, x1], ds := [] } (retQ Try.prog Try.f113.results.toList R) w = c113 x0 x1 w R := by kernel_rfl
theorem e113 {x0 x1 : Value} {w : World} {R : Value → World → Prop} (h : c113 x0 x1 w R) : Ret Try.prog 113 #[x0, x1] w R :=
  ret_of_vc mixed Try.call113 Try.func113 rfl (by kernel_rfl) (by kernel_rfl) ((v113 x0 x1 w R).mpr h)
def c114 (x0 x1 : Value) (w : World) (R : Value → World → Prop) : Prop :=
  val Try.prog (Instr.box 131 x0) w fun x2 w => 
  val Try.prog (Instr.fieldAt 131 x2 1) w fun x4 w => 
  val Try.prog (ld1 129 x4) w fun x5 w => 
  val Try.prog (bin .neq 129 true x5 (Value.pointer none)) w fun x6 w => 
  gd x6 true (
  val Try.prog (Instr.fieldAt 131 x2 1) w fun x8 w => 
  val Try.prog (ld1 129 x8) w fun x9 w => 
  Ret Try.prog 74 #[x9] w fun x10 w => 
  val Try.prog (nilc x1) w fun x11 w => 
  unt Try.prog (st1 42 x11 x10) w fun w => 
  R (.tuple #[]) w) (
  drw w fun T w => 
  pu Try.prog (Instr.fieldAt 131 x2 0) fun x12 => 
  tk Try.prog T 0 (ld1 125 x12) fun x13 => 
  pu Try.prog (nilc x1) fun x15 => 
  tk Try.prog T 0 (ld1 42 x15) fun x16 => 
  Ret Try.prog 68 #[x13, x16] w fun _ w => 
  ph T 1 w (R (.tuple #[]) w))
theorem v114 (x0 x1 : Value) (w : World) (R : Value → World → Prop) : vc Try.prog true (Try.f114.body.getD .skip) (.seq .leaf (.seq .leaf (.cond .leaf (.draw (.tk 0 0 (.tk 1 0 (.tk 2 0 (.tk 3 0 (.tk 4 0 (.one 5 .nil)))))))))) { get := argEnv [x0, x1], ds := [] } (retQ Try.prog Try.f114.results.toList R) w = c114 x0 x1 w R := by kernel_rfl
theorem e114 {x0 x1 : Value} {w : World} {R : Value → World → Prop} (h : c114 x0 x1 w R) : Ret Try.prog 114 #[x0, x1] w R :=
  ret_of_vc mixed Try.call114 Try.func114 rfl (by kernel_rfl) (by kernel_rfl) ((v114 x0 x1 w R).mpr h)
def c115 (x0 x1 : Value) (w : World) (R : Value → World → Prop) : Prop :=
  val Try.prog (Instr.box 131 x0) w fun x2 w => 
  val Try.prog (Instr.fieldAt 131 x2 1) w fun x4 w => 
  val Try.prog (ld1 129 x4) w fun x5 w => 
  val Try.prog (bin .neq 129 true x5 (Value.pointer none)) w fun x6 w => 
  gd x6 true (
  val Try.prog (Instr.fieldAt 131 x2 1) w fun x8 w => 
  val Try.prog (ld1 129 x8) w fun x9 w => 
  Ret Try.prog 137 #[x9] w fun x10 w => 
  val Try.prog (nilc x1) w fun x11 w => 
  unt Try.prog (st1 2 x11 x10) w fun w => 
  R (.tuple #[]) w) (
  drw w fun T w => 
  pu Try.prog (Instr.fieldAt 131 x2 0) fun x12 => 
  tk Try.prog T 0 (ld1 125 x12) fun x13 => 
  pu Try.prog (nilc x1) fun x15 => 
  tk Try.prog T 0 (ld1 2 x15) fun x16 => 
  Ret Try.prog 139 #[x13, x16] w fun _ w => 
  ph T 1 w (R (.tuple #[]) w))
theorem v115 (x0 x1 : Value) (w : World) (R : Value → World → Prop) : vc Try.prog true (Try.f115.body.getD .skip) (.seq .leaf (.seq .leaf (.cond .leaf (.draw (.tk 0 0 (.tk 1 0 (.tk 2 0 (.tk 3 0 (.tk 4 0 (.one 5 .nil)))))))))) { get := argEnv [x0, x1], ds := [] } (retQ Try.prog Try.f115.results.toList R) w = c115 x0 x1 w R := by kernel_rfl
theorem e115 {x0 x1 : Value} {w : World} {R : Value → World → Prop} (h : c115 x0 x1 w R) : Ret Try.prog 115 #[x0, x1] w R :=
  ret_of_vc mixed Try.call115 Try.func115 rfl (by kernel_rfl) (by kernel_rfl) ((v115 x0 x1 w R).mpr h)
def c136 (x0 : Value) (w : World) (R : Value → World → Prop) : Prop :=
  Ret Try.prog 141 #[x0, (Value.int .i64 255)] w fun x4 w => 
  R x4 w
theorem v136 (x0 : Value) (w : World) (R : Value → World → Prop) : vc Try.prog true (Try.f136.body.getD .skip) (.seq .leaf (.seq .leaf .leaf)) { get := argEnv [x0], ds := [] } (retQ Try.prog Try.f136.results.toList R) w = c136 x0 w R := by kernel_rfl
theorem e136 {x0 : Value} {w : World} {R : Value → World → Prop} (h : c136 x0 w R) : Ret Try.prog 136 #[x0] w R :=
  ret_of_vc mixed Try.call136 Try.func136 rfl (by kernel_rfl) (by kernel_rfl) ((v136 x0 w R).mpr h)
def c138_1 (x12 x11 x2 x0 x7 : Value) (R : Value → World → Prop) (next : Car 2) (w : World) : Prop :=
  val Try.prog (bin .lss 3 false x12 x11) w fun x13 w => 
  gd x13 true (
  dyn Try.prog x2 [x0] w fun x16 w => 
  Ret Try.prog 75 #[x0] w fun x18 w => 
  val Try.prog (bin .neq 36 true x18 (Value.int .i64 0)) w fun x19 w => 
  gd x19 true (
  R (Value.slice none 0 0) w) (
  val Try.prog (Instr.buildSlice 44 1 #[(0, x16)]) w fun x22 w => 
  val Try.prog (Builtin.append_ #[44, 44] 44 #[x7, x22]) w fun x23 w => 
  val Try.prog (bin .add 3 true x12 (Value.int .i64 1)) w fun x24 w => 
  next x23 x24 w)) (
  R x7 w)
def c138 (x0 x1 x2 : Value) (w : World) (R : Value → World → Prop) : Prop :=
  Ret Try.prog 105 #[x0, x1] w fun x11 w => 
  loopK 2 [(Value.slice none 0 0), (Value.int .i64 0)] w fun next => fun (x7 x12 : Value) (w : World) => 
  c138_1 x12 x11 x2 x0 x7 R next w
theorem v138 (x0 x1 x2 : Value) (w : World) (R : Value → World → Prop) : vc Try.prog true (Try.f138.body.getD .skip) (.seq .leaf (.seq .leaf (.seq (.seq .leaf (.one (.loop [7, 12] (.seq .leaf (.seq (.cond .leaf .leaf) (.seq (.one (.seq .leaf (.seq (.seq .leaf (.cond (.seq .leaf .leaf) .leaf)) .leaf))) .leaf)))))) (.seq .leaf .leaf)))) { get := argEnv [x0, x1, x2], ds := [] } (retQ Try.prog Try.f138.results.toList R) w = c138 x0 x1 x2 w R := by kernel_rfl
theorem e138 {x0 x1 x2 : Value} {w : World} {R : Value → World → Prop} (h : c138 x0 x1 x2 w R) : Ret Try.prog 138 #[x0, x1, x2] w R :=
  ret_of_vc mixed Try.call138 Try.func138 rfl (by kernel_rfl) (by kernel_rfl) ((v138 x0 x1 x2 w R).mpr h)
def c111 (x0 : Value) (w : World) (R : Value → World → Prop) : Prop :=
  val Try.prog (Instr.alloc 46 true (.tuple #[])) w fun x2 w => 
  val Try.prog (Instr.alloc 46 true (.tuple #[])) w fun x3 w => 
  Ret Try.prog 136 #[x0] w fun x5 w => 
  Ret Try.prog 136 #[x0] w fun x7 w => 
  val Try.prog (Instr.fieldAt 46 x3 0) w fun x8 w => 
  unt Try.prog (st1 9 x8 x5) w fun w => 
  val Try.prog (Instr.fieldAt 46 x3 1) w fun x9 w => 
  unt Try.prog (st1 9 x9 x7) w fun w => 
  Ret Try.prog 137 #[x0] w fun x11 w => 
  Ret Try.prog 137 #[x0] w fun x13 w => 
  val Try.prog (Instr.fieldAt 46 x3 2) w fun x14 w => 
  unt Try.prog (st1 3 x14 x11) w fun w => 
  val Try.prog (Instr.fieldAt 46 x3 3) w fun x15 w => 
  unt Try.prog (st1 2 x15 x13) w fun w => 
  Ret Try.prog 138 #[x0, (Value.int .i64 255), (Value.func (.func 136) #[] #[])] w fun x17 w => 
  val Try.prog (Instr.fieldAt 46 x3 4) w fun x18 w => 
  unt Try.prog (st1 44 x18 x17) w fun w => 
  Ret Try.prog 137 #[x0] w fun x20 w => 
  Ret Try.prog 137 #[x0] w fun x22 w => 
  val Try.prog (Instr.fieldAt 46 x3 5) w fun x23 w => 
  unt Try.prog (st1 2 x23 x20) w fun w => 
  val Try.prog (Instr.fieldAt 46 x3 6) w fun x24 w => 
  unt Try.prog (st1 2 x24 x22) w fun w => 
  Ret Try.prog 137 #[x0] w fun x26 w => 
  Ret Try.prog 137 #[x0] w fun x28 w => 
  val Try.prog (Instr.fieldAt 46 x3 7) w fun x29 w => 
  unt Try.prog (st1 3 x29 x26) w fun w => 
  val Try.prog (Instr.fieldAt 46 x3 8) w fun x30 w => 
  unt Try.prog (st1 2 x30 x28) w fun w => 
  Ret Try.prog 136 #[x0] w fun x32 w => 
  Ret Try.prog 137 #[x0] w fun x34 w => 
  val Try.prog (Instr.fieldAt 46 x3 9) w fun x35 w => 
  unt Try.prog (st1 9 x35 x32) w fun w => 
  val Try.prog (Instr.fieldAt 46 x3 10) w fun x36 w => 
  unt Try.prog (st1 3 x36 x34) w fun w => 
  Ret Try.prog 75 #[x0] w fun x38 w => 
  val Try.prog (bin .neq 36 true x38 (Value.int .i64 0)) w fun x39 w => 
  gd x39 true (
  val Try.prog (Instr.build 46 #[]) w fun x40 w => 
  unt Try.prog (stS 46 x2 x40) w fun w => 
  rd Try.prog (ldS 46 x2) w fun r => R r w) (
  val Try.prog (ldS 46 x3) w fun x41 w => 
  unt Try.prog (stS 46 x2 x41) w fun w => 
  rd Try.prog (ldS 46 x2) w fun r_1 => R r_1 w)
theorem v111 (x0 : Value) (w : World) (R : Value → World → Prop) : vc Try.prog true (Try.f111.body.getD .skip) (.seq .leaf (.seq .leaf (.seq .leaf (.seq .leaf (.seq .leaf (.seq .leaf (.seq .leaf (.seq .leaf (.seq (.seq .leaf (.cond (.seq .leaf .leaf) .leaf)) (.seq .leaf .leaf)))))))))) { get := argEnv [x0], ds := [] } (retQ Try.prog Try.f111.results.toList R) w = c111 x0 w R := by kernel_rfl
theorem e111 {x0 : Value} {w : World} {R : Value → World → Prop} (h : c111 x0 w R) : Ret Try.prog 111 #[x0] w R :=
  ret_of_vc mixed Try.call111 Try.func111 rfl (by kernel_rfl) (by kernel_rfl) ((v111 x0 w R).mpr h)
def c69_1 (x57 x2 x1 x7 : Value) (R : Value → World → Prop) (w : World) : Prop :=
  gd x57 true (
  drw w fun T w => 
  tk Try.prog T 0 (ldS 131 x2) fun x61 => 
  pu Try.prog (nilc x1) fun x63 => 
  pu Try.prog (Instr.fieldAt 48 x63 1) fun x64 => 
  Ret Try.prog 113 #[x61, x64] w fun _ w => 
  ph T 1 w (R (.tuple #[]) w)) (
  val Try.prog (bin .eql 3 true x7 (Value.int .i64 9)) w fun x67 w => 
  gd x67 true (
  drw w fun T w => 
  tk Try.prog T 0 (ldS 131 x2) fun x68 => 
  pu Try.prog (nilc x1) fun x70 => 
  pu Try.prog (Instr.fieldAt 48 x70 4) fun x71 => 
  Ret Try.prog 115 #[x68, x71] w fun _ w => 
  ph T 1 w (R (.tuple #[]) w)) (
  R (.tuple #[]) w))
def c69_2 (x33 x2 x1 x7 : Value) (R : Value → World → Prop) (w : World) : Prop :=
  gd x33 true (
  drw w fun T w => 
  tk Try.prog T 0 (ldS 131 x2) fun x37 => 
  pu Try.prog (nilc x1) fun x39 => 
  pu Try.prog (Instr.fieldAt 48 x39 1) fun x40 => 
  Ret Try.prog 113 #[x37, x40] w fun _ w => 
  ph T 1 w (drw w fun T w => 
  tk Try.prog T 0 (ldS 131 x2) fun x42 => 
  pu Try.prog (nilc x1) fun x44 => 
  pu Try.prog (Instr.fieldAt 48 x44 3) fun x45 => 
  Ret Try.prog 114 #[x42, x45] w fun _ w => 
  ph T 1 w (val Try.prog (nilc x1) w fun x48 w => 
  val Try.prog (Instr.fieldAt 48 x48 0) w fun x49 w => 
  val Try.prog (ld1 3 x49) w fun x50 w => 
  val Try.prog (bin .eql 3 true x50 (Value.int .i64 4)) w fun x51 w => 
  gd x51 true (
  drw w fun T w => 
  tk Try.prog T 0 (ldS 131 x2) fun x52 => 
  pu Try.prog (nilc x1) fun x54 => 
  pu Try.prog (Instr.fieldAt 48 x54 4) fun x55 => 
  Ret Try.prog 115 #[x52, x55] w fun _ w => 
  ph T 1 w (R (.tuple #[]) w)) (
  R (.tuple #[]) w)))) (
  joinK 1 (fun (x57 : Value) (w : World) => 
  c69_1 x57 x2 x1 x7 R w)
  fun j_1 => val Try.prog (bin .eql 3 true x7 (Value.int .i64 6)) w fun x58 w => 
  gd x58 true (
  j_1 (Value.bool true) w) (
  val Try.prog (bin .eql 3 true x7 (Value.int .i64 7)) w fun x59 w => 
  gd x59 true (
  j_1 (Value.bool true) w) (
  val Try.prog (bin .eql 3 true x7 (Value.int .i64 8)) w fun x60 w => 
  j_1 x60 w)))
def c69 (x0 x1 : Value) (w : World) (R : Value → World → Prop) : Prop :=
  val Try.prog (Instr.box 131 x0) w fun x2 w => 
  val Try.prog (nilc x1) w fun x5 w => 
  val Try.prog (Instr.fieldAt 48 x5 0) w fun x6 w => 
  val Try.prog (ld1 3 x6) w fun x7 w => 
  val Try.prog (bin .eql 3 true x7 (Value.int .i64 1)) w fun x9 w => 
  gd x9 true (
  val Try.prog (Instr.fieldAt 131 x2 1) w fun x10 w => 
  val Try.prog (ld1 129 x10) w fun x11 w => 
  val Try.prog (bin .neq 129 true x11 (Value.pointer none)) w fun x12 w => 
  gd x12 true (
  val Try.prog (Instr.fieldAt 131 x2 1) w fun x14 w => 
  val Try.prog (ld1 129 x14) w fun x15 w => 
  Ret Try.prog 111 #[x15] w fun x16 w => 
  val Try.prog (nilc x1) w fun x17 w => 
  val Try.prog (Instr.fieldAt 48 x17 5) w fun x18 w => 
  unt Try.prog (stS 46 x18 x16) w fun w => 
  R (.tuple #[]) w) (
  drw w fun T w => 
  pu Try.prog (Instr.fieldAt 131 x2 0) fun x19 => 
  tk Try.prog T 0 (ld1 125 x19) fun x20 => 
  pu Try.prog (nilc x1) fun x22 => 
  pu Try.prog (Instr.fieldAt 48 x22 5) fun x23 => 
  tk Try.prog T 0 (ldS 46 x23) fun x24 => 
  Ret Try.prog 112 #[x20, x24] w fun _ w => 
  ph T 1 w (R (.tuple #[]) w))) (
  val Try.prog (bin .eql 3 true x7 (Value.int .i64 2)) w fun x27 w => 
  gd x27 true (
  drw w fun T w => 
  tk Try.prog T 0 (ldS 131 x2) fun x28 => 
  pu Try.prog (nilc x1) fun x30 => 
  pu Try.prog (Instr.fieldAt 48 x30 2) fun x31 => 
  Ret Try.prog 113 #[x28, x31] w fun _ w => 
  ph T 1 w (R (.tuple #[]) w)) (
  joinK 1 (fun (x33 : Value) (w : World) => 
  c69_2 x33 x2 x1 x7 R w)
  fun j => val Try.prog (bin .eql 3 true x7 (Value.int .i64 3)) w fun x34 w => 
  gd x34 true (
  j (Value.bool true) w) (
  val Try.prog (bin .eql 3 true x7 (Value.int .i64 5)) w fun x35 w => 
  gd x35 true (
  j (Value.bool true) w) (
  val Try.prog (bin .eql 3 true x7 (Value.int .i64 4)) w fun x36 w => 
  j x36 w))))
theorem v69 (x0 x1 : Value) (w : World) (R : Value → World → Prop) : vc Try.prog true (Try.f69.body.getD .skip) (.seq .leaf (.seq .leaf (.one (.seq .leaf (.cond (.seq .leaf (.cond .leaf (.draw (.tk 0 0 (.tk 1 0 (.tk 2 0 (.tk 3 0 (.tk 4 0 (.tk 5 0 (.one 6 .nil)))))))))) (.seq .leaf (.cond (.draw (.tk 0 0 (.tk 1 0 (.tk 2 0 (.tk 3 0 (.one 4 .nil)))))) (.join [33] (.seq .leaf (.cond .leaf (.seq .leaf (.cond .leaf .leaf)))) (.cond (.seq (.draw (.tk 0 0 (.tk 1 0 (.tk 2 0 (.tk 3 0 (.one 4 .nil)))))) (.seq (.draw (.tk 0 0 (.tk 1 0 (.tk 2 0 (.tk 3 0 (.one 4 .nil)))))) (.seq .leaf (.cond (.draw (.tk 0 0 (.tk 1 0 (.tk 2 0 (.tk 3 0 (.one 4 .nil)))))) .leaf)))) (.join [57] (.seq .leaf (.cond .leaf (.seq .leaf (.cond .leaf .leaf)))) (.cond (.draw (.tk 0 0 (.tk 1 0 (.tk 2 0 (.tk 3 0 (.one 4 .nil)))))) (.seq .leaf (.cond (.draw (.tk 0 0 (.tk 1 0 (.tk 2 0 (.tk 3 0 (.one 4 .nil)))))) .leaf))))))))))))) { get := argEnv [x0, x1], ds := [] } (retQ Try.prog Try.f69.results.toList R) w = c69 x0 x1 w R := by kernel_rfl
theorem e69 {x0 x1 : Value} {w : World} {R : Value → World → Prop} (h : c69 x0 x1 w R) : Ret Try.prog 69 #[x0, x1] w R :=
  ret_of_vc mixed Try.call69 Try.func69 rfl (by kernel_rfl) (by kernel_rfl) ((v69 x0 x1 w R).mpr h)
def c26_1 (x20 x5 x13 x2 : Value) (R : Value → World → Prop) (w : World) : Prop :=
  val Try.prog (convert 42 3 x20) w fun x30 w => 
  val Try.prog (Instr.fieldAt 50 x5 2) w fun x31 w => 
  val Try.prog (Instr.fieldAt 48 x31 0) w fun x32 w => 
  unt Try.prog (st1 3 x32 x30) w fun w => 
  val Try.prog (Instr.build 131 #[(1, x13)]) w fun x34 w => 
  val Try.prog (Instr.fieldAt 50 x5 2) w fun x35 w => 
  Ret Try.prog 69 #[x34, x35] w fun _ w => 
  Ret Try.prog 76 #[x13] w fun x38 w => 
  val Try.prog (bin .neq 36 true x38 (Value.int .i64 0)) w fun x40 w => 
  gd x40 true (
  val Try.prog (Instr.build 50 #[]) w fun x41 w => 
  unt Try.prog (stS 50 x2 x41) w fun w => 
  rd Try.prog (ldS 50 x2) w fun r_1 => R (.tuple #[r_1, x38]) w) (
  val Try.prog (ldS 50 x5) w fun x43 w => 
  unt Try.prog (stS 50 x2 x43) w fun w => 
  rd Try.prog (ldS 50 x2) w fun r_2 => R (.tuple #[r_2, (Value.int .i64 0)]) w)
def c26 (x0 : Value) (w : World) (R : Value → World → Prop) : Prop :=
  val Try.prog (Instr.alloc 50 true (.tuple #[])) w fun x2 w => 
  val Try.prog (Builtin.len_ #[24] 3 #[x0]) w fun x9 w => 
  val Try.prog (bin .gtr 3 true x9 (Value.int .i64 900)) w fun x10 w => 
  gd x10 true (
  val Try.prog (Instr.build 50 #[]) w fun x11 w => 
  unt Try.prog (stS 50 x2 x11) w fun w => 
  rd Try.prog (ldS 50 x2) w fun r => R (.tuple #[r, (Value.int .i64 15)]) w) (
  Ret Try.prog 73 #[x0] w fun x13 w => 
  Ret Try.prog 74 #[x13] w fun x15 w => 
  Ret Try.prog 74 #[x13] w fun x17 w => 
  val Try.prog (Instr.build 50 #[(0, x15), (1, x17)]) w fun x18 w => 
  val Try.prog (Instr.alloc 50 true (.tuple #[])) w fun x5 w => 
  unt Try.prog (stS 50 x5 x18) w fun w => 
  Ret Try.prog 74 #[x13] w fun x20 w => 
  joinK 0 (fun (w : World) => 
  c26_1 x20 x5 x13 x2 R w)
  fun j => Ret Try.prog 75 #[x13] w fun x22 w => 
  val Try.prog (bin .eql 36 true x22 (Value.int .i64 0)) w fun x23 w => 
  gd x23 true (
  val Try.prog (bin .geq 42 true x20 (Value.int .u64 10)) w fun x26 w => 
  gd x26 true (
  val Try.prog (Instr.build 50 #[]) w fun x28 w => 
  unt Try.prog (stS 50 x2 x28) w fun w => 
  rd Try.prog (ldS 50 x2) w fun r_3 => R (.tuple #[r_3, (Value.int .i64 2)]) w) (
  j w)) (
  j w))
theorem v26 (x0 : Value) (w : World) (R : Value → World → Prop) : vc Try.prog true (Try.f26.body.getD .skip) (.seq .leaf (.seq (.seq .leaf (.cond (.seq .leaf .leaf) .leaf)) (.seq .leaf (.seq .leaf (.seq .leaf (.join [] (.seq .leaf (.cond (.seq .leaf .leaf) .leaf)) (.seq .leaf (.seq .leaf (.seq (.seq .leaf (.seq .leaf (.cond (.seq .leaf .leaf) .leaf))) (.seq .leaf .leaf)))))))))) { get := argEnv [x0], ds := [] } (retQ Try.prog Try.f26.results.toList R) w = c26 x0 w R := by kernel_rfl
theorem e26 {x0 : Value} {w : World} {R : Value → World → Prop} (h : c26 x0 w R) : Ret Try.prog 26 #[x0] w R :=
  ret_of_vc mixed Try.call26 Try.func26 rfl (by kernel_rfl) (by kernel_rfl) ((v26 x0 w R).mpr h)
def c5 (x0 : Value) (w : World) (R : Value → World → Prop) : Prop :=
  Ret Try.prog 21 #[] w fun x5 w => 
  val Try.prog (Op.unary .not x5) w fun x6 w => 
  gd x6 false (
  val Try.prog (Builtin.len_ #[24] 3 #[x0]) w fun x9 w => 
  val Try.prog (bin .gtr 3 true x9 (Value.int .i64 1200)) w fun x10 w => 
  gd x10 true (
  Ret Try.prog 21 #[] w fun x12 w => 
  R x12 w) (
  Ret Try.prog 26 #[x0] w fun x15 w => 
  val Try.prog (Instr.extract x15 0) w fun x16 w => 
  val Try.prog (Instr.extract x15 1) w fun x17 w => 
  val Try.prog (Instr.alloc 50 true (.tuple #[])) w fun x3 w => 
  unt Try.prog (stS 50 x3 x16) w fun w => 
  val Try.prog (bin .neq 36 true x17 (Value.int .i64 0)) w fun x19 w => 
  gd x19 true (
  val Try.prog (Instr.fieldAt 50 x3 0) w fun x20 w => 
  val Try.prog (ld1 42 x20) w fun x21 w => 
  val Try.prog (bin .eql 42 true x21 (Value.int .u64 0)) w fun x22 w => 
  gd x22 true (
  val Try.prog (Instr.fieldAt 50 x3 1) w fun x24 w => 
  val Try.prog (ld1 42 x24) w fun x25 w => 
  val Try.prog (bin .eql 42 true x25 (Value.int .u64 0)) w fun x26 w => 
  gd x26 true (
  val Try.prog (Instr.fieldAt 50 x3 2) w fun x29 w => 
  val Try.prog (ldS 48 x29) w fun x30 w => 
  val Try.prog (Instr.build 48 #[]) w fun x31 w => 
  Ret Try.prog 24 #[x30, x31] w fun x32 w => 
  gd x32 true (
  val Try.prog (Builtin.len_ #[24] 3 #[x0]) w fun x36 w => 
  val Try.prog (bin .leq 3 true x36 (Value.int .i64 900)) w fun x37 w => 
  gd x37 false (
  val Try.prog (bin .eql 36 true x17 (Value.int .i64 15)) w fun x40 w => 
  R x40 w) (
  R (Value.bool true) w)) (
  R (Value.bool false) w)) (
  R (Value.bool false) w)) (
  R (Value.bool false) w)) (
  drw w fun T w => 
  tk Try.prog T 0 (Builtin.len_ #[24] 3 #[x0]) fun x44 => 
  pu Try.prog (bin .leq 3 true x44 (Value.int .i64 900)) fun x45 => 
  gd x45 true (
  pu Try.prog (Instr.fieldAt 50 x3 2) fun x47 => 
  pu Try.prog (Instr.fieldAt 48 x47 0) fun x48 => 
  tk Try.prog T 0 (ld1 3 x48) fun x49 => 
  pu Try.prog (bin .geq 3 true x49 (Value.int .i64 0)) fun x50 => 
  gd x50 true (
  pu Try.prog (Instr.fieldAt 50 x3 2) fun x53 => 
  pu Try.prog (Instr.fieldAt 48 x53 0) fun x54 => 
  tk Try.prog T 0 (ld1 3 x54) fun x55 => 
  pu Try.prog (bin .leq 3 true x55 (Value.int .i64 9)) fun x56 => 
  gd x56 true (
  tk Try.prog T 0 (ldS 50 x3) fun x59 => 
  tk Try.prog T 1 (convert 24 9 x0) fun x62 => 
  Ret Try.prog 27 #[x59] w fun x60 w => 
  ph T 1 w (pu Try.prog (bin .eql 9 false x60 x62) fun x63 => 
  gd x63 true (
  pu Try.prog (Instr.fieldAt 50 x3 2) fun x66 => 
  tk Try.prog T 2 (ldS 48 x66) fun x67 => 
  pu Try.prog (Instr.fieldAt 50 x3 2) fun x68 => 
  tk Try.prog T 1 (ldS 48 x68) fun x69 => 
  Ret Try.prog 25 #[x69] w fun x70 w => 
  ph T 2 w (Ret Try.prog 24 #[x67, x70] w fun x71 w => 
  ph T 3 w (R x71 w))) (
  ph T 2 w (ph T 3 w (R (Value.bool false) w))))) (
  ph T 1 w (ph T 2 w (ph T 3 w (R (Value.bool false) w))))) (
  ph T 1 w (ph T 2 w (ph T 3 w (R (Value.bool false) w))))) (
  ph T 1 w (ph T 2 w (ph T 3 w (R (Value.bool false) w))))))) (
  Ret Try.prog 21 #[] w fun x12_1 w => 
  R x12_1 w)
theorem v5 (x0 : Value) (w : World) (R : Value → World → Prop) : vc Try.prog true (Try.f5.body.getD .skip) (.seq .leaf (.seq (.seq .leaf (.cond (.seq .leaf .leaf) .leaf)) (.seq .leaf (.seq (.seq .leaf (.cond (.seq .leaf .leaf) .leaf)) (.seq (.draw (.tk 0 0 (.tk 1 0 (.tk 2 0 (.tk 3 0 (.tk 4 0 (.tk 5 0 (.tk 6 0 (.tk 7 0 (.tk 8 0 (.tk 9 0 (.tk 10 0 (.tk 11 0 (.tk 12 0 (.tk 13 0 (.tk 14 0 (.tk 15 0 (.tk 16 0 (.tk 18 1 (.tk 19 1 (.one 17 (.tk 20 1 (.tk 21 1 (.tk 22 1 (.tk 23 2 (.tk 24 2 (.tk 25 1 (.tk 26 1 (.one 27 (.one 28 (.tk 29 3 (.tk 30 3 .nil)))))))))))))))))))))))))))))))) .leaf))))) { get := argEnv [x0], ds := [] } (retQ Try.prog Try.f5.results.toList R) w = c5 x0 w R := by kernel_rfl
theorem e5 {x0 : Value} {w : World} {R : Value → World → Prop} (h : c5 x0 w R) : Ret Try.prog 5 #[x0] w R :=
  ret_of_vc mixed Try.call5 Try.func5 rfl (by kernel_rfl) (by kernel_rfl) ((v5 x0 w R).mpr h)
end Go.Proofs.Ytchmcjimnliodaa
