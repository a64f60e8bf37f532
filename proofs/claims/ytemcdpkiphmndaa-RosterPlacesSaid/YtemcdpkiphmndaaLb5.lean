import Derived.Test.YtemcdpkiphmndaaLb4
namespace Go.Proofs.Ytemcdpkiphmndaa.Tb
open Go.Proofs.Ytemcdpkiphmndaa.Ab
set_option maxRecDepth 100000
theorem dat63 {n : Nat} {cs : List D} (h : datP tau n 63 cs) : ∃ a b c d e f g h : Int, cs = [.int .i64 a, .int .i64 b, .int .i64 c, .int .i64 d, .int .i64 e, .int .i64 f, .int .i64 g, .int .i64 h] := by
  obtain ⟨m, k0⟩ := datP_struct tau_63 h
  obtain ⟨p1, q1, e1, h1, k1⟩ := datF_cons k0
  obtain ⟨p2, q2, e2, h2, k2⟩ := datF_cons k1
  obtain ⟨p3, q3, e3, h3, k3⟩ := datF_cons k2
  obtain ⟨p4, q4, e4, h4, k4⟩ := datF_cons k3
  obtain ⟨p5, q5, e5, h5, k5⟩ := datF_cons k4
  obtain ⟨p6, q6, e6, h6, k6⟩ := datF_cons k5
  obtain ⟨p7, q7, e7, h7, k7⟩ := datF_cons k6
  obtain ⟨p8, q8, e8, h8, k8⟩ := datF_cons k7
  obtain ⟨x1, w1, rfl⟩ := datP_int tau_3 h1
  obtain ⟨x2, w2, rfl⟩ := datP_int tau_3 h2
  obtain ⟨x3, w3, rfl⟩ := datP_int tau_3 h3
  obtain ⟨x4, w4, rfl⟩ := datP_int tau_3 h4
  obtain ⟨x5, w5, rfl⟩ := datP_int tau_3 h5
  obtain ⟨x6, w6, rfl⟩ := datP_int tau_3 h6
  obtain ⟨x7, w7, rfl⟩ := datP_int tau_3 h7
  obtain ⟨x8, w8, rfl⟩ := datP_int tau_3 h8
  obtain rfl := datF_nil k8
  subst e8 e7 e6 e5 e4 e3 e2 e1
  exact ⟨x1, x2, x3, x4, x5, x6, x7, x8, rfl⟩
end Go.Proofs.Ytemcdpkiphmndaa.Tb
