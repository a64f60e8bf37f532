import Derived.Test.YtemcdpkiphmndaaLc7
import Derived.Test.YtemcdpkiphmndaaLb5
set_option linter.unusedSimpArgs false
set_option linter.unusedVariables false
namespace Go.Proofs.Ytemcdpkiphmndaa.Tb
open Go.Proofs.Ytemcdpkiphmndaa.Ab
set_option maxRecDepth 100000
theorem cmds_of {d : D} (h0 : datV tau 20 60 d) : ∃ cs : List Cmd, cmdsV d cs := by
  obtain ⟨m, es, h1, h2, h3⟩ := datP_slice tau_60 tau_63 (datV_cell tau_60 rfl h0)
  obtain ⟨cs, e, _⟩ := list_of (Q := fun _ : Cmd => True) (enc := encC) (fun x hx => by
    obtain ⟨a, b, c, d, e, f, g, h, rfl⟩ := dat63 (h3 x hx)
    exact ⟨⟨a, b, c, d, e, f, g, h⟩, trivial, rfl⟩)
  subst e
  rcases h1 with ⟨h1, he⟩ | h1
  · injection h1 with h1; subst h1
    exact ⟨cs, .inl ⟨rfl, List.map_eq_nil_iff.1 he⟩⟩
  · injection h1 with h1; subst h1
    exact ⟨cs, .inr rfl⟩
theorem walk5 {d : D} (h0 : datV tau 20 60 d) : TI.p 5 [d] = some (.bool true) := by
  obtain ⟨cs, h1⟩ := cmds_of h0
  exact p5 d cs h1
end Go.Proofs.Ytemcdpkiphmndaa.Tb
