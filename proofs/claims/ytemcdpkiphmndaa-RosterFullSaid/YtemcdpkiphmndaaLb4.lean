import Derived.Test.YtemcdpkiphmndaaLb2
import Derived.Test.YtemcdpkiphmndaaAbR
import Derived.Test.YtemcdpkiphmndaaRows
namespace Go.Proofs.Ytemcdpkiphmndaa.Tb
open Go.Proofs.Ytemcdpkiphmndaa.Ab
set_option maxRecDepth 100000
theorem own : ownKnob Try.prog.godebug = none := by kernel_rfl
theorem laidOut : laidOutB Try.prog = true := by kernel_rfl
theorem tm_ok : TmOk Try.prog TI := TmI_ok lib_mono tab_ok (by kernel_rfl) txt_ok lib_ok
end Go.Proofs.Ytemcdpkiphmndaa.Tb
