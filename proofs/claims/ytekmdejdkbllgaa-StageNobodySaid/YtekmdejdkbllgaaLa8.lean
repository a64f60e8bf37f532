import Derived.Test.YtekmdejdkbllgaaLa4
namespace Go.Proofs.Ytekmdejdkbllgaa.Ta
open Go.Proofs.Ytekmdejdkbllgaa.Ab
set_option maxRecDepth 100000
theorem nobody26a (a b u : Int) : (TmN tau txt lib 5000).p 12 [.agg [.int .i64 a, .int .u32 b, .nils], .int .i64 u] = some (.bool true) := by kernel_rfl
theorem nobody26b (a b u : Int) (s : Nat) (es : List (List D)) : (TmN tau txt lib 5000).p 12 [.agg [.int .i64 a, .int .u32 b, .ro s es], .int .i64 u] = some (.bool true) := by kernel_rfl
theorem dat25 {n : Nat} {cs : List D} (h : datP tau n 25 cs) : ∃ (a b : Int) (x : D), cs = [.int .i64 a, .int .u32 b, x] ∧ (x = .nils ∨ ∃ es, x = .ro 4 es) := by
  obtain ⟨m, k0⟩ := datP_struct tau_25 h
  obtain ⟨p1, q1, e1, h1, k1⟩ := datF_cons k0
  obtain ⟨p2, q2, e2, h2, k2⟩ := datF_cons k1
  obtain ⟨p3, q3, e3, h3, k3⟩ := datF_cons k2
  obtain ⟨x1, w1, rfl⟩ := datP_int tau_3 h1
  obtain ⟨x2, w2, rfl⟩ := datP_int tau_22 h2
  obtain ⟨m2, es, h4, _⟩ := datP_slice tau_23 tau_35 h3
  obtain rfl := datF_nil k3
  subst e3 e2 e1
  rcases h4 with ⟨rfl, rfl⟩ | rfl
  · exact ⟨x1, x2, _, rfl, .inl rfl⟩
  · exact ⟨x1, x2, _, rfl, .inr ⟨es, rfl⟩⟩
theorem walk12 {d e : D} (h0 : datV tau 20 25 d) (h1 : datV tau 20 3 e) : TI.p 12 [d, e] = some (.bool true) := by
  obtain ⟨cs, h2, rfl⟩ := datV_agg tau_25 h0
  obtain ⟨a, b, x, rfl, h3⟩ := dat25 h2
  obtain ⟨u, _, hu⟩ := datP_int tau_3 (datV_cell tau_3 rfl h1)
  injection hu with hu; subst hu
  rcases h3 with rfl | ⟨es, rfl⟩
  · exact TmI_run lib_mono 5000 (nobody26a a b u)
  · exact TmI_run lib_mono 5000 (nobody26b a b u 4 es)
end Go.Proofs.Ytekmdejdkbllgaa.Ta
