/-
  No cell of these rows narrows 'for every input' (looked for: loops, veiled, ifaces, maps, wideKeys, modest, calm, conditions, laid).
  DERIVED. THE GIVEN ROWS OF THIS SEAT. 10 by the template 'for every input the law returns true; each argument reads behind the call as it read before'; 0 by the template 'total and deterministic' (their statements: YtekmdejdkbllgaaTotals.lean).
  GIVEN WITH THE SEED: the statements are not yours to turn. If you find one false, say at which input.
  Laid BY PROGRAM, IN A SANDBOX (cutbox-rows.mjs): the forced cells as the released guide's own fill.sh prints them over the translation 10af13d147ae3320… (all of the seat's roots in one cut). By AI agents, Wed Nov 11 2026. No macro, syntax, notation, axiom, sorry.
-/
import Derived.Test.YtekmdejdkbllgaaChecked
import GoSem.Claim
import GoSem.ClaimJoined
import GoSem.ClaimMapViews
import Derived.JoinedTies
import Derived.KernelRfl
namespace Go.Proofs.Ytekmdejdkbllgaa
/- THE CELL 'sum', in the pinned program and in every row, IS THE sha256 OF THE DUMP (.gsa) THAT YtekmdejdkbllgaaProg.lean LOADS. Nothing in Lean hashes anything: it is a label: what it is worth is what the hold of that sum in a sandbox is worth. -/
noncomputable def Try.pinned : Pinned := { name := "ytekmdejdkbllgaa", sum := "10af13d147ae3320824d89b32d4978d6aa5096cb5aaf1b2607376da942b994b7", checked := Try.checked }
namespace Rows
def none {H : Type} : Left H := { results := [], args := [] }

/-- 'dogwatchlaw19.ChainGoes': WHATEVER THE INPUT: true; the input reads as it did. -/
def chainGoesSpec : ChangeSpec := { name := "chainGoes", fn := fun _ => fun
  | [d1, d2] => { results := [.lit (.bool true)], args := [d1, d2] }
  | _ => none }
def chainGoesRow : OpenClaim := { program := "ytekmdejdkbllgaa", sum := "10af13d147ae3320824d89b32d4978d6aa5096cb5aaf1b2607376da942b994b7", func := "dogwatch/dogwatchlaw19.ChainGoes", spec := "chainGoes", inPlace := ["slices.overlaps[dogwatch/api.Place]"], unfollowed := true, recurses := true, apart := false }
def ChainGoesSaid : Prop := chainGoesRow.holds Try.pinned (OpenSpec.ofChange chainGoesSpec)

/-- ITS FALSE NEIGHBOUR: 'it returns false'. Refute it at one input. -/
def chainGoesWrong : ChangeSpec := { name := "chainGoes", fn := fun _ => fun
  | [d1, d2] => { results := [.lit (.bool false)], args := [d1, d2] }
  | _ => none }
def ChainGoesWrongFalsely : Prop := chainGoesRow.holds Try.pinned (OpenSpec.ofChange chainGoesWrong)

/-- 'dogwatchlaw19.ChainFull': WHATEVER THE INPUT: true; the input reads as it did. -/
def chainFullSpec : ChangeSpec := { name := "chainFull", fn := fun _ => fun
  | [d1, d2] => { results := [.lit (.bool true)], args := [d1, d2] }
  | _ => none }
def chainFullRow : OpenClaim := { program := "ytekmdejdkbllgaa", sum := "10af13d147ae3320824d89b32d4978d6aa5096cb5aaf1b2607376da942b994b7", func := "dogwatch/dogwatchlaw19.ChainFull", spec := "chainFull", inPlace := ["slices.overlaps[dogwatch/api.Place]"], unfollowed := true, recurses := true, apart := false }
def ChainFullSaid : Prop := chainFullRow.holds Try.pinned (OpenSpec.ofChange chainFullSpec)

/-- ITS FALSE NEIGHBOUR: 'it returns false'. Refute it at one input. -/
def chainFullWrong : ChangeSpec := { name := "chainFull", fn := fun _ => fun
  | [d1, d2] => { results := [.lit (.bool false)], args := [d1, d2] }
  | _ => none }
def ChainFullWrongFalsely : Prop := chainFullRow.holds Try.pinned (OpenSpec.ofChange chainFullWrong)

/-- 'dogwatchlaw41.ShedCores': WHATEVER THE INPUT: true; the input reads as it did. -/
def shedCoresSpec : ChangeSpec := { name := "shedCores", fn := fun _ => fun
  | [d1, d2, d3] => { results := [.lit (.bool true)], args := [d1, d2, d3] }
  | _ => none }
def shedCoresRow : OpenClaim := { program := "ytekmdejdkbllgaa", sum := "10af13d147ae3320824d89b32d4978d6aa5096cb5aaf1b2607376da942b994b7", func := "dogwatch/dogwatchlaw41.ShedCores", spec := "shedCores", unfollowed := true, recurses := true, apart := false }
def ShedCoresSaid : Prop := shedCoresRow.holds Try.pinned (OpenSpec.ofChange shedCoresSpec)

/-- ITS FALSE NEIGHBOUR: 'it returns false'. Refute it at one input. -/
def shedCoresWrong : ChangeSpec := { name := "shedCores", fn := fun _ => fun
  | [d1, d2, d3] => { results := [.lit (.bool false)], args := [d1, d2, d3] }
  | _ => none }
def ShedCoresWrongFalsely : Prop := shedCoresRow.holds Try.pinned (OpenSpec.ofChange shedCoresWrong)

/-- 'dogwatchlaw22.DiffChanges': WHATEVER THE INPUT: true; the input reads as it did. -/
def diffChangesSpec : ChangeSpec := { name := "diffChanges", fn := fun _ => fun
  | [d1, d2] => { results := [.lit (.bool true)], args := [d1, d2] }
  | _ => none }
def diffChangesRow : OpenClaim := { program := "ytekmdejdkbllgaa", sum := "10af13d147ae3320824d89b32d4978d6aa5096cb5aaf1b2607376da942b994b7", func := "dogwatch/dogwatchlaw22.DiffChanges", spec := "diffChanges", unfollowed := true, recurses := true, apart := false }
def DiffChangesSaid : Prop := diffChangesRow.holds Try.pinned (OpenSpec.ofChange diffChangesSpec)

/-- ITS FALSE NEIGHBOUR: 'it returns false'. Refute it at one input. -/
def diffChangesWrong : ChangeSpec := { name := "diffChanges", fn := fun _ => fun
  | [d1, d2] => { results := [.lit (.bool false)], args := [d1, d2] }
  | _ => none }
def DiffChangesWrongFalsely : Prop := diffChangesRow.holds Try.pinned (OpenSpec.ofChange diffChangesWrong)

/-- 'dogwatchlaw22.DiffSelf': WHATEVER THE INPUT: true; the input reads as it did. -/
def diffSelfSpec : ChangeSpec := { name := "diffSelf", fn := fun _ => fun
  | [d1, d2] => { results := [.lit (.bool true)], args := [d1, d2] }
  | _ => none }
def diffSelfRow : OpenClaim := { program := "ytekmdejdkbllgaa", sum := "10af13d147ae3320824d89b32d4978d6aa5096cb5aaf1b2607376da942b994b7", func := "dogwatch/dogwatchlaw22.DiffSelf", spec := "diffSelf", unfollowed := true, recurses := true, apart := false }
def DiffSelfSaid : Prop := diffSelfRow.holds Try.pinned (OpenSpec.ofChange diffSelfSpec)

/-- ITS FALSE NEIGHBOUR: 'it returns false'. Refute it at one input. -/
def diffSelfWrong : ChangeSpec := { name := "diffSelf", fn := fun _ => fun
  | [d1, d2] => { results := [.lit (.bool false)], args := [d1, d2] }
  | _ => none }
def DiffSelfWrongFalsely : Prop := diffSelfRow.holds Try.pinned (OpenSpec.ofChange diffSelfWrong)

/-- 'dogwatchlaw22.DiffLists': WHATEVER THE INPUT: true; the input reads as it did. -/
def diffListsSpec : ChangeSpec := { name := "diffLists", fn := fun _ => fun
  | [d1, d2] => { results := [.lit (.bool true)], args := [d1, d2] }
  | _ => none }
def diffListsRow : OpenClaim := { program := "ytekmdejdkbllgaa", sum := "10af13d147ae3320824d89b32d4978d6aa5096cb5aaf1b2607376da942b994b7", func := "dogwatch/dogwatchlaw22.DiffLists", spec := "diffLists", unfollowed := true, recurses := true, apart := false }
def DiffListsSaid : Prop := diffListsRow.holds Try.pinned (OpenSpec.ofChange diffListsSpec)

/-- ITS FALSE NEIGHBOUR: 'it returns false'. Refute it at one input. -/
def diffListsWrong : ChangeSpec := { name := "diffLists", fn := fun _ => fun
  | [d1, d2] => { results := [.lit (.bool false)], args := [d1, d2] }
  | _ => none }
def DiffListsWrongFalsely : Prop := diffListsRow.holds Try.pinned (OpenSpec.ofChange diffListsWrong)

/-- 'dogwatchlaw08.OrderOne': WHATEVER THE INPUT: true; the input reads as it did. -/
def orderOneSpec : ChangeSpec := { name := "orderOne", fn := fun _ => fun
  | [d1, d2, d3, d4] => { results := [.lit (.bool true)], args := [d1, d2, d3, d4] }
  | _ => none }
def orderOneRow : OpenClaim := { program := "ytekmdejdkbllgaa", sum := "10af13d147ae3320824d89b32d4978d6aa5096cb5aaf1b2607376da942b994b7", func := "dogwatch/dogwatchlaw08.OrderOne", spec := "orderOne", inPlace := ["slices.overlaps[dogwatch/api.Want]"], unfollowed := true, recurses := true, apart := false }
def OrderOneSaid : Prop := orderOneRow.holds Try.pinned (OpenSpec.ofChange orderOneSpec)

/-- ITS FALSE NEIGHBOUR: 'it returns false'. Refute it at one input. -/
def orderOneWrong : ChangeSpec := { name := "orderOne", fn := fun _ => fun
  | [d1, d2, d3, d4] => { results := [.lit (.bool false)], args := [d1, d2, d3, d4] }
  | _ => none }
def OrderOneWrongFalsely : Prop := orderOneRow.holds Try.pinned (OpenSpec.ofChange orderOneWrong)

/-- 'dogwatchlaw08.OrderSorts': WHATEVER THE INPUT: true; the input reads as it did. -/
def orderSortsSpec : ChangeSpec := { name := "orderSorts", fn := fun _ => fun
  | [d1, d2, d3] => { results := [.lit (.bool true)], args := [d1, d2, d3] }
  | _ => none }
def orderSortsRow : OpenClaim := { program := "ytekmdejdkbllgaa", sum := "10af13d147ae3320824d89b32d4978d6aa5096cb5aaf1b2607376da942b994b7", func := "dogwatch/dogwatchlaw08.OrderSorts", spec := "orderSorts", inPlace := ["slices.overlaps[dogwatch/api.Want]"], unfollowed := true, recurses := true, apart := false }
def OrderSortsSaid : Prop := orderSortsRow.holds Try.pinned (OpenSpec.ofChange orderSortsSpec)

/-- ITS FALSE NEIGHBOUR: 'it returns false'. Refute it at one input. -/
def orderSortsWrong : ChangeSpec := { name := "orderSorts", fn := fun _ => fun
  | [d1, d2, d3] => { results := [.lit (.bool false)], args := [d1, d2, d3] }
  | _ => none }
def OrderSortsWrongFalsely : Prop := orderSortsRow.holds Try.pinned (OpenSpec.ofChange orderSortsWrong)

/-- 'dogwatchlaw26.StageLate': WHATEVER THE INPUT: true; the input reads as it did. -/
def stageLateSpec : ChangeSpec := { name := "stageLate", fn := fun _ => fun
  | [d] => { results := [.lit (.bool true)], args := [d] }
  | _ => none }
def stageLateRow : OpenClaim := { program := "ytekmdejdkbllgaa", sum := "10af13d147ae3320824d89b32d4978d6aa5096cb5aaf1b2607376da942b994b7", func := "dogwatch/dogwatchlaw26.StageLate", spec := "stageLate", unfollowed := true, recurses := true, apart := false }
def StageLateSaid : Prop := stageLateRow.holds Try.pinned (OpenSpec.ofChange stageLateSpec)

/-- ITS FALSE NEIGHBOUR: 'it returns false'. Refute it at one input. -/
def stageLateWrong : ChangeSpec := { name := "stageLate", fn := fun _ => fun
  | [d] => { results := [.lit (.bool false)], args := [d] }
  | _ => none }
def StageLateWrongFalsely : Prop := stageLateRow.holds Try.pinned (OpenSpec.ofChange stageLateWrong)

/-- 'dogwatchlaw26.StageNobody': WHATEVER THE INPUT: true; the input reads as it did. -/
def stageNobodySpec : ChangeSpec := { name := "stageNobody", fn := fun _ => fun
  | [d1, d2] => { results := [.lit (.bool true)], args := [d1, d2] }
  | _ => none }
def stageNobodyRow : OpenClaim := { program := "ytekmdejdkbllgaa", sum := "10af13d147ae3320824d89b32d4978d6aa5096cb5aaf1b2607376da942b994b7", func := "dogwatch/dogwatchlaw26.StageNobody", spec := "stageNobody", unfollowed := true, recurses := true, apart := false }
def StageNobodySaid : Prop := stageNobodyRow.holds Try.pinned (OpenSpec.ofChange stageNobodySpec)

/-- ITS FALSE NEIGHBOUR: 'it returns false'. Refute it at one input. -/
def stageNobodyWrong : ChangeSpec := { name := "stageNobody", fn := fun _ => fun
  | [d1, d2] => { results := [.lit (.bool false)], args := [d1, d2] }
  | _ => none }
def StageNobodyWrongFalsely : Prop := stageNobodyRow.holds Try.pinned (OpenSpec.ofChange stageNobodyWrong)

/- THE SECOND FORM. 'bulk': how many values and letters a reading holds, each counted each time it is reached (what is shared counts as often as it is met; a slice's spare places count too). A statement '..UptoSaid' is the law's where the arguments, and the package variables that the reading takes, are together of bulk at most 1048576: NARROWER than '..Said'. Prove '..Said' where nothing that the law and all that it calls make is longer than what came in: it says more and counts as full. Else prove '..UptoSaid'. A law counts once. -/
mutual
def uptoBulk {H : Type} : DataW H → Nat
  | .lit (.string bytes) => bytes.length + 1
  | .lit _ => 1
  | .nil => 1
  | .ptr d => uptoBulk d + 1
  | .slice elems spare => uptoBulkAll elems + uptoBulkAll spare + 1
  | .agg parts => uptoBulkAll parts + 1
  | .iface _ d => uptoBulk d + 1
  | .map entries => uptoBulkEntries entries + 1
  | .held _ => 1
def uptoBulkAll {H : Type} : List (DataW H) → Nat
  | [] => 0
  | d :: r => uptoBulk d + uptoBulkAll r
def uptoBulkEntries {H : Type} : List (Lit × DataW H) → Nat
  | [] => 0
  | x :: r => uptoBulkEntry x + uptoBulkEntries r
def uptoBulkEntry {H : Type} : Lit × DataW H → Nat
  | (.string bytes, d) => bytes.length + uptoBulk d + 1
  | (_, d) => uptoBulk d + 1
 end
def uptoSmall : (H : Type) → List (DataW H) → Bool := fun _ ds => decide (uptoBulkAll ds ≤ 1048576)
def OpenSpec.upto (s : _root_.Go.ChangeSpec) : _root_.Go.OpenSpec := { _root_.Go.OpenSpec.ofChange s with cond := some uptoSmall }

/-- 'dogwatchlaw19.ChainGoes', WHERE WHAT IT READS IS OF BULK AT MOST 1048576: true; the input reads as it did. -/
def chainGoesUptoRow : OpenClaim := { program := "ytekmdejdkbllgaa", sum := "10af13d147ae3320824d89b32d4978d6aa5096cb5aaf1b2607376da942b994b7", func := "dogwatch/dogwatchlaw19.ChainGoes", spec := "chainGoes", inPlace := ["slices.overlaps[dogwatch/api.Place]"], unfollowed := true, recurses := true, apart := false, narrowed := true }
def ChainGoesUptoSaid : Prop := chainGoesUptoRow.holds Try.pinned (OpenSpec.upto chainGoesSpec)

/-- 'dogwatchlaw19.ChainFull', WHERE WHAT IT READS IS OF BULK AT MOST 1048576: true; the input reads as it did. -/
def chainFullUptoRow : OpenClaim := { program := "ytekmdejdkbllgaa", sum := "10af13d147ae3320824d89b32d4978d6aa5096cb5aaf1b2607376da942b994b7", func := "dogwatch/dogwatchlaw19.ChainFull", spec := "chainFull", inPlace := ["slices.overlaps[dogwatch/api.Place]"], unfollowed := true, recurses := true, apart := false, narrowed := true }
def ChainFullUptoSaid : Prop := chainFullUptoRow.holds Try.pinned (OpenSpec.upto chainFullSpec)

/-- 'dogwatchlaw41.ShedCores', WHERE WHAT IT READS IS OF BULK AT MOST 1048576: true; the input reads as it did. -/
def shedCoresUptoRow : OpenClaim := { program := "ytekmdejdkbllgaa", sum := "10af13d147ae3320824d89b32d4978d6aa5096cb5aaf1b2607376da942b994b7", func := "dogwatch/dogwatchlaw41.ShedCores", spec := "shedCores", unfollowed := true, recurses := true, apart := false, narrowed := true }
def ShedCoresUptoSaid : Prop := shedCoresUptoRow.holds Try.pinned (OpenSpec.upto shedCoresSpec)

/-- 'dogwatchlaw22.DiffChanges', WHERE WHAT IT READS IS OF BULK AT MOST 1048576: true; the input reads as it did. -/
def diffChangesUptoRow : OpenClaim := { program := "ytekmdejdkbllgaa", sum := "10af13d147ae3320824d89b32d4978d6aa5096cb5aaf1b2607376da942b994b7", func := "dogwatch/dogwatchlaw22.DiffChanges", spec := "diffChanges", unfollowed := true, recurses := true, apart := false, narrowed := true }
def DiffChangesUptoSaid : Prop := diffChangesUptoRow.holds Try.pinned (OpenSpec.upto diffChangesSpec)

/-- 'dogwatchlaw22.DiffSelf', WHERE WHAT IT READS IS OF BULK AT MOST 1048576: true; the input reads as it did. -/
def diffSelfUptoRow : OpenClaim := { program := "ytekmdejdkbllgaa", sum := "10af13d147ae3320824d89b32d4978d6aa5096cb5aaf1b2607376da942b994b7", func := "dogwatch/dogwatchlaw22.DiffSelf", spec := "diffSelf", unfollowed := true, recurses := true, apart := false, narrowed := true }
def DiffSelfUptoSaid : Prop := diffSelfUptoRow.holds Try.pinned (OpenSpec.upto diffSelfSpec)

/-- 'dogwatchlaw22.DiffLists', WHERE WHAT IT READS IS OF BULK AT MOST 1048576: true; the input reads as it did. -/
def diffListsUptoRow : OpenClaim := { program := "ytekmdejdkbllgaa", sum := "10af13d147ae3320824d89b32d4978d6aa5096cb5aaf1b2607376da942b994b7", func := "dogwatch/dogwatchlaw22.DiffLists", spec := "diffLists", unfollowed := true, recurses := true, apart := false, narrowed := true }
def DiffListsUptoSaid : Prop := diffListsUptoRow.holds Try.pinned (OpenSpec.upto diffListsSpec)

/-- 'dogwatchlaw08.OrderOne', WHERE WHAT IT READS IS OF BULK AT MOST 1048576: true; the input reads as it did. -/
def orderOneUptoRow : OpenClaim := { program := "ytekmdejdkbllgaa", sum := "10af13d147ae3320824d89b32d4978d6aa5096cb5aaf1b2607376da942b994b7", func := "dogwatch/dogwatchlaw08.OrderOne", spec := "orderOne", inPlace := ["slices.overlaps[dogwatch/api.Want]"], unfollowed := true, recurses := true, apart := false, narrowed := true }
def OrderOneUptoSaid : Prop := orderOneUptoRow.holds Try.pinned (OpenSpec.upto orderOneSpec)

/-- 'dogwatchlaw08.OrderSorts', WHERE WHAT IT READS IS OF BULK AT MOST 1048576: true; the input reads as it did. -/
def orderSortsUptoRow : OpenClaim := { program := "ytekmdejdkbllgaa", sum := "10af13d147ae3320824d89b32d4978d6aa5096cb5aaf1b2607376da942b994b7", func := "dogwatch/dogwatchlaw08.OrderSorts", spec := "orderSorts", inPlace := ["slices.overlaps[dogwatch/api.Want]"], unfollowed := true, recurses := true, apart := false, narrowed := true }
def OrderSortsUptoSaid : Prop := orderSortsUptoRow.holds Try.pinned (OpenSpec.upto orderSortsSpec)

/-- 'dogwatchlaw26.StageLate', WHERE WHAT IT READS IS OF BULK AT MOST 1048576: true; the input reads as it did. -/
def stageLateUptoRow : OpenClaim := { program := "ytekmdejdkbllgaa", sum := "10af13d147ae3320824d89b32d4978d6aa5096cb5aaf1b2607376da942b994b7", func := "dogwatch/dogwatchlaw26.StageLate", spec := "stageLate", unfollowed := true, recurses := true, apart := false, narrowed := true }
def StageLateUptoSaid : Prop := stageLateUptoRow.holds Try.pinned (OpenSpec.upto stageLateSpec)

/-- 'dogwatchlaw26.StageNobody', WHERE WHAT IT READS IS OF BULK AT MOST 1048576: true; the input reads as it did. -/
def stageNobodyUptoRow : OpenClaim := { program := "ytekmdejdkbllgaa", sum := "10af13d147ae3320824d89b32d4978d6aa5096cb5aaf1b2607376da942b994b7", func := "dogwatch/dogwatchlaw26.StageNobody", spec := "stageNobody", unfollowed := true, recurses := true, apart := false, narrowed := true }
def StageNobodyUptoSaid : Prop := stageNobodyUptoRow.holds Try.pinned (OpenSpec.upto stageNobodySpec)

end Rows
end Go.Proofs.Ytekmdejdkbllgaa
