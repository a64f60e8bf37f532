import Derived.Test.YtekmdejdkbllgaaLa1
import Derived.Test.YtekmdejdkbllgaaTa
import Derived.Test.YtekmdejdkbllgaaAb17
namespace Go.Proofs.Ytekmdejdkbllgaa.Ta
open Go.Proofs.Ytekmdejdkbllgaa.Ab
set_option maxRecDepth 100000
def libH (f : Nat) (ds : List D) (h : List (Nat × Ob)) (k : Nat) : Option VH := match Nat.beq f 127 with | true => sortedH [158] 3 ds h k | false => (match Nat.beq f 129 with | true => sortH ds h k | false => none)
def lib (_ : Tm) : Tm := ⟨fun _ _ => none, libH, fun _ _ _ => none⟩
theorem lib_mono : Mono lib := fun _ _ _ => .refl _
theorem beq_ne {g n : Nat} (hg : ¬g = n) : Nat.beq g n = false := by
  cases hb : Nat.beq g n with
  | true => exact absurd (Nat.eq_of_beq_eq_true hb) hg
  | false => rfl
theorem libH_127 : libH 127 = sortedH [158] 3 := by funext ds h k; rfl
theorem libH_129 : libH 129 = sortH := by funext ds h k; rfl
theorem keys_all : ∀ g ∈ [158], KeysOk Try.prog g := by
  intro g hg
  simp only [List.mem_cons, List.not_mem_nil, or_false] at hg
  rw [hg]; exact Try.keysOkA
theorem lib_h (g : Nat) : Heap Try.prog g (libH g) := by
  by_cases h1 : g = 127
  · rw [h1, libH_127]; exact sorted_heap Try.sortedOk keys_all
  by_cases h2 : g = 129
  · rw [h2, libH_129]; exact sort_heap Try.sortOk
  intro ds h0 k r h1 e
  unfold libH at e
  rw [beq_ne ‹¬g = 127›, beq_ne ‹¬g = 129›] at e
  cases e
theorem lib_ok : ∀ T, TmOk Try.prog T → TmOk Try.prog (lib T) := fun T _ => ⟨fun g ds r e => (by cases e), lib_h, fun g ds os r e => (by cases e)⟩
noncomputable abbrev TI : Tm := TmI tau txt lib
end Go.Proofs.Ytekmdejdkbllgaa.Ta
