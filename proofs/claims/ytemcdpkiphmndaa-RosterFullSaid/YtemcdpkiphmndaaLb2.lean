import Derived.Test.YtemcdpkiphmndaaLb1
import Derived.Test.YtemcdpkiphmndaaTb
import Derived.Test.YtemcdpkiphmndaaAb17
namespace Go.Proofs.Ytemcdpkiphmndaa.Tb
open Go.Proofs.Ytemcdpkiphmndaa.Ab
set_option maxRecDepth 100000
def libH (f : Nat) (ds : List D) (h : List (Nat × Ob)) (k : Nat) : Option VH := match Nat.beq f 74 with | true => sortedH [120, 123] 3 ds h k | false => none
def libA (f : Nat) (ds : List D) (os : List (Option Ob)) : Option (D × Option Ob) := match Nat.beq f 95 || Nat.beq f 96 with | true => cloneA ds os | false => none
def lib (_ : Tm) : Tm := ⟨fun _ _ => none, libH, libA⟩
theorem lib_mono : Mono lib := fun _ _ _ => .refl _
theorem libH_74 : libH 74 = sortedH [120, 123] 3 := by funext ds h k; rfl
theorem keys_all : ∀ g ∈ [120, 123], KeysOk Try.prog g := by
  intro g hg
  simp only [List.mem_cons, List.not_mem_nil, or_false] at hg
  rcases hg with hg | hg
  · rw [hg]; exact Try.keysOkA
  · rw [hg]; exact Try.keysOkB
theorem lib74 : Heap Try.prog 74 (libH 74) := by rw [libH_74]; exact sorted_heap Try.sortedOk keys_all
theorem beq_ne {g n : Nat} (hg : ¬g = n) : Nat.beq g n = false := by
  cases hb : Nat.beq g n with
  | true => exact absurd (Nat.eq_of_beq_eq_true hb) hg
  | false => rfl
theorem libA_95 : libA 95 = cloneA := by funext ds os; rfl
theorem libA_96 : libA 96 = cloneA := by funext ds os; rfl
theorem libA_ok (g : Nat) : Alloc Try.prog g (libA g) := by
  by_cases h1 : g = 95
  · rw [h1, libA_95]; exact clone_alloc Try.cloneOkA
  by_cases h2 : g = 96
  · rw [h2, libA_96]; exact clone_alloc Try.cloneOkB
  intro ds os r e
  unfold libA at e
  rw [beq_ne h1, beq_ne h2] at e
  cases e
theorem lib_ok : ∀ T, TmOk Try.prog T → TmOk Try.prog (lib T) := by
  intro T _
  refine ⟨fun g ds r e => (by cases e), fun g => ?_, libA_ok⟩
  show Heap Try.prog g (libH g)
  by_cases hg : g = 74
  · rw [hg]; exact lib74
  · intro ds h0 k r h1 e
    unfold libH at e
    have : Nat.beq g 74 = false := by cases hb : Nat.beq g 74 with | true => exact absurd (Nat.eq_of_beq_eq_true hb) hg | false => rfl
    rw [this] at e
    cases e
noncomputable abbrev TI : Tm := TmI tau txt lib
end Go.Proofs.Ytemcdpkiphmndaa.Tb
