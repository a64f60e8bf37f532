import Derived.Test.YtemcdpkiphmndaaAbL1
import Derived.Ground.GgzProg
import Derived.Ground.SlgmProg
import Derived.Test.YtemcdpkiphmndaaChecked
import Derived.KernelRfl
set_option linter.unusedVariables false
namespace Go.Proofs
open Go.RowKit Go.Maps Go.Sort Go.Shelf Go.Proofs.Ytemcdpkiphmndaa.Ab

shelf_lay_g SlLaysZI.n7 Ggz 7 at Try 75 as Try.keysA
shelf_lay_g SlLaysZI.n7 Ggz 7 at Try 85 as Try.keysB
shelf_lay_g SlLaysZI.n6 Ggz 6 at Try 74 as Try.sortedA
shelf_lay_g SlLaysM.n5 Slgm 5 at Try 119 as Try.sortA

theorem Try.sortsA (m : Nat) : AnyZI.SortsIn Try.prog Try.sortedA_ren Fence.wide m :=
  ⟨fun blk off cap ss W hH hblk hsz => callsIn_wide.2 (AnyM.slices_Sort_int Try.sortA blk off cap ss W hH hblk hsz),
   fun p cap W => callsIn_wide.2 (AnyM.slices_Sort_int_none Try.sortA p cap W)⟩
theorem Try.sortedOk : SortedOk Try.prog 74 3 [120, 123] := by
  refine ⟨fun args w => enters_of Try.func74 (by kernel_rfl) rfl args w, fun g hg lb S N w hN hNb hseq => ?_⟩
  have eg : ∀ args w, (callFunc g args).run Try.prog w = .ok (.enter g args) w := by
    intro args w
    simp only [List.mem_cons, List.not_mem_nil, or_false] at hg
    rcases hg with rfl | rfl
    · exact enters_of Try.func120 (by kernel_rfl) rfl args w
    · exact enters_of Try.func123 (by kernel_rfl) rfl args w
  exact callsIn_wide.1 (AnyZI.sorted_in Try.sortedA Fence.wide 5 trivial trivial trivial trivial rfl (by omega) (Try.sortsA _) (enters_of Try.func119 (by kernel_rfl) rfl) g lb trivial eg S N hN hNb w hseq)
theorem Try.keysOkA : KeysOk Try.prog 120 :=
  ⟨3, Try.underlying3, fun Bm b nn D0 R w h1 h2 h3 => AnyZI.keys_gives (ρ := Try.keysA_ren) { Try.keysA with } Fence.wide _ trivial rfl (by omega) Bm b nn D0 w h1 h2 h3, fun Bm w h1 h2 => AnyZI.keys_gives_nil (ρ := Try.keysA_ren) { Try.keysA with } Fence.wide _ trivial rfl Bm w h1 h2⟩
theorem Try.keysOkB : KeysOk Try.prog 123 :=
  ⟨3, Try.underlying3, fun Bm b nn D0 R w h1 h2 h3 => AnyZI.keys_gives (ρ := Try.keysB_ren) { Try.keysB with } Fence.wide _ trivial rfl (by omega) Bm b nn D0 w h1 h2 h3, fun Bm w h1 h2 => AnyZI.keys_gives_nil (ρ := Try.keysB_ren) { Try.keysB with } Fence.wide _ trivial rfl Bm w h1 h2⟩
end Go.Proofs
