/- Printed by wip/tools/gen.py: the conditions of functions. -/
import Derived.Test.YtchmcjimnliodaaMix
import Derived.Test.YtchmcjimnliodaaVcR
import Derived.Test.YtchmcjimnliodaaChecked
namespace Go.Proofs.Ytchmcjimnliodaa
open Go
set_option maxRecDepth 100000
def c15_1 (x0 x6 : Value) (R : Value → World → Prop) (w : World) : Prop :=
  Ret Try.prog 60 #[x0, x6] w fun x18 w => 
  val Try.prog (bin .rem 22 true x18 (Value.int .u32 256)) w fun x21 w => 
  val Try.prog (convert 22 5 x21) w fun x22 w => 
  val Try.prog (bin .quo 22 true x18 (Value.int .u32 256)) w fun x24 w => 
  val Try.prog (bin .rem 22 true x24 (Value.int .u32 256)) w fun x25 w => 
  val Try.prog (convert 22 5 x25) w fun x26 w => 
  val Try.prog (bin .quo 22 true x18 (Value.int .u32 65536)) w fun x28 w => 
  val Try.prog (bin .rem 22 true x28 (Value.int .u32 256)) w fun x29 w => 
  val Try.prog (convert 22 5 x29) w fun x30 w => 
  val Try.prog (bin .quo 22 true x18 (Value.int .u32 16777216)) w fun x32 w => 
  val Try.prog (convert 22 5 x32) w fun x33 w => 
  val Try.prog (Instr.buildSlice 24 4 #[(0, x22), (1, x26), (2, x30), (3, x33)]) w fun x34 w => 
  val Try.prog (Builtin.append_ #[24, 24] 24 #[x6, x34]) w fun x35 w => 
  R (.tuple #[x35, x18]) w
def c15 (x0 x1 : Value) (w : World) (R : Value → World → Prop) : Prop :=
  val Try.prog (Instr.box 29 x1) w fun x3 w => 
  joinK 1 (fun (x6 : Value) (w : World) => 
  c15_1 x0 x6 R w)
  fun j => drw w fun T w => 
  pu Try.prog (Instr.fieldAt 29 x3 0) fun x8 => 
  tk Try.prog T 1 (ld1 5 x8) fun x9 => 
  pu Try.prog (Instr.fieldAt 29 x3 1) fun x11 => 
  tk Try.prog T 1 (ld1 24 x11) fun x12 => 
  tk Try.prog T 1 (convert 24 9 x12) fun x13 => 
  two (
  val Try.prog (Instr.buildSlice 24 2 #[(0, (Value.int .u8 197)), (1, x9)]) w fun x10 w => 
  ph T 1 w (Ret Try.prog 59 #[x13] w fun x14 w => 
  ph T 2 w (val Try.prog (Builtin.append_ #[24, 9] 24 #[x10, x14]) w fun x15 w => 
  ph T 3 w (j x15 w)))) (
  Ret Try.prog 59 #[x13] w fun x14_1 w => 
  ph T 1 w (val Try.prog (Instr.buildSlice 24 2 #[(0, (Value.int .u8 197)), (1, x9)]) w fun x10_1 w => 
  ph T 2 w (val Try.prog (Builtin.append_ #[24, 9] 24 #[x10_1, x14_1]) w fun x15_1 w => 
  ph T 3 w (j x15_1 w))))
theorem v15 (x0 x1 : Value) (w : World) (R : Value → World → Prop) : vc Try.prog true (Try.f15.body.getD .skip) (.seq .leaf (.join [6] (.draw (.tk 0 1 (.tk 1 1 (.tk 3 1 (.tk 4 1 (.tk 5 1 (.two 2 (.one 6 (.one 7 (.tk 8 3 .nil))) 6 (.one 2 (.one 7 (.tk 8 3 .nil)))))))))) (.seq .leaf (.seq .leaf .leaf)))) { get := argEnv [x0, x1], ds := [] } (retQ Try.prog Try.f15.results.toList R) w = c15 x0 x1 w R := by kernel_rfl
theorem e15 {x0 x1 : Value} {w : World} {R : Value → World → Prop} (h : c15 x0 x1 w R) : Ret Try.prog 15 #[x0, x1] w R :=
  ret_of_vc mixed Try.call15 Try.func15 rfl (by kernel_rfl) (by kernel_rfl) ((v15 x0 x1 w R).mpr h)
end Go.Proofs.Ytchmcjimnliodaa
