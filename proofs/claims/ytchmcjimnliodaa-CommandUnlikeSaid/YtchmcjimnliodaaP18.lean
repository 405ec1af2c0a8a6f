/- Printed by wip/tools/gen.py: the conditions of functions. -/
import Derived.Test.YtchmcjimnliodaaMix
import Derived.Test.YtchmcjimnliodaaVcR
import Derived.Test.YtchmcjimnliodaaChecked
namespace Go.Proofs.Ytchmcjimnliodaa
open Go
set_option maxRecDepth 100000
def c73 (x0 : Value) (w : World) (R : Value → World → Prop) : Prop :=
  Ret Try.prog 61 #[x0] w fun x4 w => 
  val Try.prog (Instr.build 187 #[(0, x4)]) w fun x5 w => 
  val Try.prog (Instr.box 187 x5) w fun x6 w => 
  R x6 w
theorem v73 (x0 : Value) (w : World) (R : Value → World → Prop) : vc Try.prog true (Try.f73.body.getD .skip) (.seq .leaf (.seq .leaf .leaf)) { get := argEnv [x0], ds := [] } (retQ Try.prog Try.f73.results.toList R) w = c73 x0 w R := by kernel_rfl
theorem e73 {x0 : Value} {w : World} {R : Value → World → Prop} (h : c73 x0 w R) : Ret Try.prog 73 #[x0] w R :=
  ret_of_vc mixed Try.call73 Try.func73 rfl (by kernel_rfl) (by kernel_rfl) ((v73 x0 w R).mpr h)
end Go.Proofs.Ytchmcjimnliodaa
