import Derived.Test.YtemcdpkiphmndaaLd1
import Derived.Test.YtemcdpkiphmndaaLb4
set_option linter.unusedSimpArgs false
set_option linter.unusedVariables false
namespace Go.Proofs.Ytemcdpkiphmndaa.Tb
open Go.Proofs.Ytemcdpkiphmndaa.Ab
set_option maxRecDepth 100000
theorem walk4 {d e : D} (h0 : datV tau 20 5 d) (h1 : datV tau 20 5 e) : TI.p 4 [d, e] = some (.bool true) := by
  obtain ⟨a, wa, ea⟩ := datP_int tau_5 (datV_cell tau_5 rfl h0)
  obtain ⟨b, wb, eb⟩ := datP_int tau_5 (datV_cell tau_5 rfl h1)
  injection ea with ea; subst ea
  injection eb with eb; subst eb
  exact p4 a b (by simp [wfI, Lit.wf, IntKind.min, IntKind.max, IntKind.signed, IntKind.bits] at wa; omega) (by simp [wfI, Lit.wf, IntKind.min, IntKind.max, IntKind.signed, IntKind.bits] at wb; omega)
end Go.Proofs.Ytemcdpkiphmndaa.Tb
