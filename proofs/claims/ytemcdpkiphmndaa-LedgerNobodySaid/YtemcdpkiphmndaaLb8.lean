import Derived.Test.YtemcdpkiphmndaaLb5
namespace Go.Proofs.Ytemcdpkiphmndaa.Tb
open Go.Proofs.Ytemcdpkiphmndaa.Ab
set_option maxRecDepth 100000
theorem nobody29 (a b c d e f g h : Int) : (TmN tau txt lib 5000).p 11 [.agg [.int .i64 a, .int .i64 b, .int .i64 c, .int .i64 d, .int .i64 e, .int .i64 f, .int .i64 g, .int .i64 h]] = some (.bool true) := by kernel_rfl
theorem walk11 {d : D} (h0 : datV tau 20 63 d) : TI.p 11 [d] = some (.bool true) := by
  obtain ⟨cs, h1, rfl⟩ := datV_agg tau_63 h0
  obtain ⟨a, b, c, d, e, f, g, h, rfl⟩ := dat63 h1
  exact TmI_run lib_mono 5000 (nobody29 a b c d e f g h)
end Go.Proofs.Ytemcdpkiphmndaa.Tb
