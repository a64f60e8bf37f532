/- Ab14: tidying is sound. -/
import Derived.Test.YtemcdpkiphmndaaAb13
set_option linter.unusedSimpArgs false
set_option linter.unusedVariables false
set_option linter.unusedSectionVars false
namespace Go.Proofs.Ytemcdpkiphmndaa.Ab

def nphi (φ : Nat → Nat) (m : Nat) (ls : List Nat) (k : Nat) : Nat := if k < m then φ k else match ls[k - m]? with | some l => φ l | none => 0
theorem nphi_of {φ : Nat → Nat} {m ls x k} (h : rename m ls x = some k) : nphi φ m ls k = φ x := by
  rcases rename_spec h with ⟨a1, a2⟩ | ⟨a0, a1, a2⟩
  · subst a2; simp [nphi, a1]
  · unfold nphi; rw [if_neg (by omega), a2]

section
variable {w : World} {M0 : Nat → Prop} {φ : Nat → Nat} {h : List (Nat × Ob)} {m : Nat} {ls : List Nat}

theorem gc_sg {l k s : Nat} (hk : rename m ls l = some k) (e : sg h l = some s) : sg (gcH (rename m ls) h (pars m ++ ls)) k = some s ∧ nphi φ m ls k = φ l := by
  obtain ⟨o, ho, hs⟩ := sg_some e
  rw [sg_of (gcH_get (fun _ _ _ => rename_inj) (rename_mem hk) hk ho), renO_sz, hs]
  exact ⟨rfl, nphi_of hk⟩
theorem gc_W {b} (e : W (nphi φ m ls) (gcH (rename m ls) h (pars m ++ ls)) b) : W φ h b := by
  obtain ⟨k, o, h1, h2, h3⟩ := e
  obtain ⟨l, o0, _, g1, g2, rfl⟩ := gcH_some h1
  exact ⟨l, o0, g2, by rw [renO_st] at h2; exact h2, by rw [← h3, nphi_of g1]⟩
theorem gc_Mx {b} (e : Mx M0 (nphi φ m ls) (gcH (rename m ls) h (pars m ++ ls)) b) : Mx M0 φ h b := e.elim .inl (fun e => .inr (gc_W e))

theorem gc_R {d v} (hr : R w (Mx M0 φ h) φ (sg h) d v) : R w (Mx M0 (nphi φ m ls) (gcH (rename m ls) h (pars m ++ ls))) (nphi φ m ls) (sg (gcH (rename m ls) h (pars m ++ ls))) (ren (rename m ls) d) v :=
  R_ren (fun _ e => gc_Mx e) (fun _ _ _ hk e => gc_sg hk e) hr

theorem gc_hp (hp : HpOk w M0 φ h) : HpOk w M0 (nphi φ m ls) (gcH (rename m ls) h (pars m ++ ls)) := by
  refine ⟨fun k o e1 e2 => ?_, fun k k' o o' e1 e2 e3 e4 e5 => ?_, fun k o e1 e2 => ?_, fun k o e1 e2 => ?_⟩
  · obtain ⟨l, o0, _, g1, g2, rfl⟩ := gcH_some e1
    rw [nphi_of g1]
    exact ObOk_ren (fun _ e => gc_Mx e) (fun _ _ _ hk e => gc_sg hk e) (hp.ob l o0 g2 (live_ren e2))
  · obtain ⟨l, o0, _, g1, g2, rfl⟩ := gcH_some e1
    obtain ⟨l', o0', _, g3, g4, rfl⟩ := gcH_some e3
    rw [nphi_of g1, nphi_of g3] at e5
    rw [renO_st] at e2
    have := hp.inj l l' o0 o0' g2 e2 g4 (live_ren e4) e5
    subst this
    rw [g1] at g3; injection g3
  · obtain ⟨l, o0, _, g1, g2, rfl⟩ := gcH_some e1
    rw [nphi_of g1]; exact hp.m0 l o0 g2 (live_ren e2)
  · obtain ⟨l, o0, _, g1, g2, rfl⟩ := gcH_some e1
    rw [nphi_of g1]; exact hp.lt l o0 g2 (live_ren e2)

theorem gcT_get (f : Nat → Option Nat) (t : List (Nat × D)) : ∀ (keep : List Nat) (n : Nat), get (gcT f t keep) n = if n ∈ keep then ren f (get t n) else .any
  | [], n => by simp [gcT, get]
  | x :: keep, n => by
    rw [gcT_cons]
    by_cases e : x = n
    · subst e; simp [get_hit]
    · rw [get_miss _ _ _ _ (by simpa using e), gcT_get f t keep n]
      have : n ≠ x := fun h => e h.symm
      simp [this]

end

/-- Tidying is sound. -/
theorem Sim.gc {X : Ctx} {a w s} (S : Sim X a w s) {m : Nat} (hm : ∀ l z, X.σ0 l = some z → l < m) (keep : List Nat) : Sim X a w (gc m keep s) := by
  obtain ⟨φ, S⟩ := S
  unfold Ab.gc gcL
  generalize roots s.h m (keptT s.t keep) = ls
  refine ⟨nphi φ m ls, ⟨S.size, S.defers, gc_hp S.hp, S.ext, fun b hb e => S.wr b hb (gc_W e), S.m0, fun n => ?_, fun l z e => ?_⟩⟩
  · simp only
    rw [gcT_get]
    split
    · exact gc_R (S.tm n)
    · exact .imm (.any _)
  · obtain ⟨e1, e2⟩ := S.up l z e
    have hk : rename m ls l = some l := by
      have : Nat.blt l m = true := by simpa using hm l z e
      simp [rename, this]
    exact ⟨(gc_sg (φ := φ) hk e1).1, by rw [nphi_of hk, e2]⟩

end Go.Proofs.Ytemcdpkiphmndaa.Ab
