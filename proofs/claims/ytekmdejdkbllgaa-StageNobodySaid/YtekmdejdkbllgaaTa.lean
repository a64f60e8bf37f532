/- The types and the texts of the functions 12 19 36 50 51 52 53 54 55 56 57 58 59 60 63 78 79 81 85 88 89 97 100 101 102 103 104 105 108 110 111 112 113 125 128 130 131 132 133 135 142 143 144 145 146 147 148 149 155 160 172 173 174 176 178, told compactly, each matched against the program. Printed by gen.py. -/
import Derived.Test.YtekmdejdkbllgaaAb17
import Derived.Test.YtekmdejdkbllgaaChecked
import Derived.KernelRfl
set_option linter.unusedVariables false
namespace Go.Proofs.Ytekmdejdkbllgaa.Ta
open Go.Proofs.Ytekmdejdkbllgaa.Ab
def tab : List (Nat × TI) := [(3, ⟨1, 8, [.int .i64 0], .int .i64⟩),
  (4, ⟨1, 1, [.bool false], .bool⟩),
  (22, ⟨1, 4, [.int .u32 0], .int .u32⟩),
  (23, ⟨1, 24, [.nils], .slice 35⟩),
  (25, ⟨3, 40, [.int .i64 0, .int .u32 0, .nils], .struct [(0, 1, 3), (1, 1, 22), (2, 1, 23)]⟩),
  (26, ⟨1, 24, [.nils], .slice 39⟩),
  (29, ⟨1, 8, [.int .i64 0], .int .i64⟩),
  (33, ⟨1, 24, [.nils], .slice 48⟩),
  (35, ⟨4, 48, [.int .i64 0, .int .i64 0, .int .i64 0, .nils], .struct [(0, 1, 3), (1, 1, 3), (2, 1, 3), (3, 1, 33)]⟩),
  (39, ⟨2, 16, [.int .i64 0, .int .i64 0], .struct [(0, 1, 3), (1, 1, 3)]⟩),
  (40, ⟨1, 8, [.nilf], .other⟩),
  (42, ⟨1, 24, [.nils], .slice 3⟩),
  (46, ⟨1, 8, [.int .u64 0], .int .u64⟩),
  (48, ⟨2, 16, [.int .i64 0, .int .u64 0], .struct [(0, 1, 3), (1, 1, 46)]⟩),
  (73, ⟨1, 8, [.nilp], .ptr 81⟩),
  (81, ⟨7, 88, [.int .i64 0, .int .u32 0, .nils, .int .i64 0, .int .u32 0, .nils, .int .i64 0], .struct [(0, 3, 25), (3, 3, 25), (6, 1, 3)]⟩),
  (82, ⟨1, 24, [.nils], .slice 73⟩),
  (83, ⟨1, 8, [.nilf], .other⟩),
  (101, ⟨1, 8, [.nilm], .map 3 35⟩),
  (104, ⟨1, 8, [.nilf], .other⟩),
  (134, ⟨1, 8, [.nilf], .other⟩),
  (145, ⟨1, 8, [.int .u64 0], .int .u64⟩),
  (153, ⟨1, 8, [.nilf], .other⟩),
  (170, ⟨16, 128, [.int .u64 0, .int .u64 0, .int .u64 0, .int .u64 0, .int .u64 0, .int .u64 0, .int .u64 0, .int .u64 0, .int .u64 0, .int .u64 0, .int .u64 0, .int .u64 0, .int .u64 0, .int .u64 0, .int .u64 0, .int .u64 0], .arr 16 46⟩)]
def tau : Nat → Option TI := tabOf tab
theorem tau_3 : tau 3 = some ⟨1, 8, [.int .i64 0], .int .i64⟩ := rfl
theorem tau_4 : tau 4 = some ⟨1, 1, [.bool false], .bool⟩ := rfl
theorem tau_22 : tau 22 = some ⟨1, 4, [.int .u32 0], .int .u32⟩ := rfl
theorem tau_23 : tau 23 = some ⟨1, 24, [.nils], .slice 35⟩ := rfl
theorem tau_25 : tau 25 = some ⟨3, 40, [.int .i64 0, .int .u32 0, .nils], .struct [(0, 1, 3), (1, 1, 22), (2, 1, 23)]⟩ := rfl
theorem tau_26 : tau 26 = some ⟨1, 24, [.nils], .slice 39⟩ := rfl
theorem tau_29 : tau 29 = some ⟨1, 8, [.int .i64 0], .int .i64⟩ := rfl
theorem tau_33 : tau 33 = some ⟨1, 24, [.nils], .slice 48⟩ := rfl
theorem tau_35 : tau 35 = some ⟨4, 48, [.int .i64 0, .int .i64 0, .int .i64 0, .nils], .struct [(0, 1, 3), (1, 1, 3), (2, 1, 3), (3, 1, 33)]⟩ := rfl
theorem tau_39 : tau 39 = some ⟨2, 16, [.int .i64 0, .int .i64 0], .struct [(0, 1, 3), (1, 1, 3)]⟩ := rfl
theorem tau_40 : tau 40 = some ⟨1, 8, [.nilf], .other⟩ := rfl
theorem tau_42 : tau 42 = some ⟨1, 24, [.nils], .slice 3⟩ := rfl
theorem tau_46 : tau 46 = some ⟨1, 8, [.int .u64 0], .int .u64⟩ := rfl
theorem tau_48 : tau 48 = some ⟨2, 16, [.int .i64 0, .int .u64 0], .struct [(0, 1, 3), (1, 1, 46)]⟩ := rfl
theorem tau_73 : tau 73 = some ⟨1, 8, [.nilp], .ptr 81⟩ := rfl
theorem tau_81 : tau 81 = some ⟨7, 88, [.int .i64 0, .int .u32 0, .nils, .int .i64 0, .int .u32 0, .nils, .int .i64 0], .struct [(0, 3, 25), (3, 3, 25), (6, 1, 3)]⟩ := rfl
theorem tau_82 : tau 82 = some ⟨1, 24, [.nils], .slice 73⟩ := rfl
theorem tau_83 : tau 83 = some ⟨1, 8, [.nilf], .other⟩ := rfl
theorem tau_101 : tau 101 = some ⟨1, 8, [.nilm], .map 3 35⟩ := rfl
theorem tau_104 : tau 104 = some ⟨1, 8, [.nilf], .other⟩ := rfl
theorem tau_134 : tau 134 = some ⟨1, 8, [.nilf], .other⟩ := rfl
theorem tau_145 : tau 145 = some ⟨1, 8, [.int .u64 0], .int .u64⟩ := rfl
theorem tau_153 : tau 153 = some ⟨1, 8, [.nilf], .other⟩ := rfl
theorem tau_170 : tau 170 = some ⟨16, 128, [.int .u64 0, .int .u64 0, .int .u64 0, .int .u64 0, .int .u64 0, .int .u64 0, .int .u64 0, .int .u64 0, .int .u64 0, .int .u64 0, .int .u64 0, .int .u64 0, .int .u64 0, .int .u64 0, .int .u64 0, .int .u64 0], .arr 16 46⟩ := rfl
theorem tab_ok : ∀ t i, tau t = some i → TIok Try.prog t i := fun _ _ e => tabOk_spec (l := tab) (by kernel_rfl) e
/-- dogwatch/dogwatchlaw26.StageNobody -/
def c12 : C :=
  .seq (.reg [] [⟨(some 2), .box 25 (.t 0), none⟩,
  ⟨(some 4), .move (.c (.bool false)), none⟩]) (.seq (.reg [] [⟨(some 5), .move (.c (.nilp)), none⟩]) (.seq (.reg [] [⟨(some 9), .move (.t 5), none⟩,
  ⟨(some 10), .build 81 [], none⟩,
  ⟨(some 11), .box 81 (.t 10), none⟩,
  ⟨(some 12), .buildSliceB 82 2 [(0, .t 9), (1, .t 11)], none⟩,
  ⟨(some 6), .move (.t 12), none⟩]) (.seq (.seq (.reg [] [⟨(some 7), .move (.c (.int .i64 0)), none⟩]) (.block 0 (.loop [1, 2, 6, 7] (.seq (.seq (.reg [] [⟨(some 13), .move (.t 7), none⟩,
  ⟨(some 14), .move (.t 6), none⟩,
  ⟨(some 15), .len 82 (.t 14), none⟩,
  ⟨(some 16), .binOp .lss 3 (.t 13) (.t 15), none⟩]) (.cond (.t 16) (.skip) (.exit 0))) (.seq (.block 1 (.seq (.reg [] [⟨(some 19), .move (.t 6), none⟩,
  ⟨(some 20), .move (.t 7), none⟩,
  ⟨(some 21), .indexAddr 82 (.t 19) (.t 20), none⟩,
  ⟨(some 22), .load 73 (.t 21), none⟩,
  ⟨(some 8), .move (.t 22), none⟩]) (.seq (.reg [] [⟨(some 23), .move (.t 8), none⟩,
  ⟨(some 24), .call (.f 57) [], none⟩,
  ⟨(some 25), .callH (.f 53) [.t 23, .t 24], none⟩,
  ⟨(some 26), .binOp .neq 29 (.t 25) (.c (.int .i64 2)), none⟩,
  ⟨(some 27), .move (.t 26), none⟩,
  ⟨(some 28), .move (.t 8), (some (27, false))⟩,
  ⟨(some 29), .load 25 (.t 2), (some (27, false))⟩,
  ⟨(some 30), .callH (.f 53) [.t 28, .t 29], (some (27, false))⟩,
  ⟨(some 31), .binOp .neq 29 (.t 30) (.c (.int .i64 2)), (some (27, false))⟩,
  ⟨(some 32), .pick (.t 27) (.c (.bool true)) (.t 31), none⟩,
  ⟨(some 33), .move (.t 32), none⟩,
  ⟨(some 34), .move (.t 8), (some (33, false))⟩,
  ⟨(some 35), .move (.t 1), (some (33, false))⟩,
  ⟨(some 36), .callH (.f 58) [.t 34, .t 35], (some (33, false))⟩,
  ⟨(some 37), .pick (.t 33) (.c (.bool true)) (.t 36), none⟩,
  ⟨(some 38), .move (.t 37), none⟩,
  ⟨(some 39), .move (.t 8), (some (38, false))⟩,
  ⟨(some 40), .callH (.f 55) [.t 39], (some (38, false))⟩,
  ⟨(some 41), .len 42 (.t 40), (some (38, false))⟩,
  ⟨(some 42), .binOp .neq 3 (.t 41) (.c (.int .i64 0)), (some (38, false))⟩,
  ⟨(some 43), .pick (.t 38) (.c (.bool true)) (.t 42), none⟩,
  ⟨(some 44), .move (.t 43), none⟩,
  ⟨(some 45), .move (.t 8), (some (44, false))⟩,
  ⟨(some 46), .callH (.f 52) [.t 45], (some (44, false))⟩,
  ⟨(some 47), .build 25 [], (some (44, false))⟩,
  ⟨(some 48), .call (.f 54) [.t 46, .t 47], (some (44, false))⟩,
  ⟨(some 49), .unOp .not 4 (.t 48), (some (44, false))⟩,
  ⟨(some 50), .pick (.t 44) (.c (.bool true)) (.t 49), none⟩,
  ⟨(some 51), .move (.t 50), none⟩,
  ⟨(some 52), .move (.t 8), (some (51, false))⟩,
  ⟨(some 53), .callH (.f 51) [.t 52], (some (51, false))⟩,
  ⟨(some 54), .build 25 [], (some (51, false))⟩,
  ⟨(some 55), .call (.f 54) [.t 53, .t 54], (some (51, false))⟩,
  ⟨(some 56), .unOp .not 4 (.t 55), (some (51, false))⟩,
  ⟨(some 57), .pick (.t 51) (.c (.bool true)) (.t 56), none⟩,
  ⟨(some 58), .move (.t 57), none⟩,
  ⟨(some 59), .move (.t 8), (some (58, false))⟩,
  ⟨(some 60), .callH (.f 59) [.t 59], (some (58, false))⟩,
  ⟨(some 61), .pick (.t 58) (.c (.bool true)) (.t 60), none⟩,
  ⟨(some 62), .move (.t 61), none⟩,
  ⟨(some 63), .move (.t 8), (some (62, false))⟩,
  ⟨(some 64), .callH (.f 60) [.t 63], (some (62, false))⟩,
  ⟨(some 65), .binOp .neq 3 (.t 64) (.c (.int .i64 0)), (some (62, false))⟩,
  ⟨(some 66), .pick (.t 62) (.c (.bool true)) (.t 65), none⟩]) (.cond (.t 66) (.seq (.reg [] [⟨(some 4), .move (.c (.bool false)), none⟩]) (.ret)) (.skip))))) (.reg [] [⟨(some 17), .move (.t 7), none⟩,
  ⟨(some 18), .binOp .add 3 (.t 17) (.c (.int .i64 1)), none⟩,
  ⟨(some 7), .move (.t 18), none⟩])))))) (.seq (.reg [] [⟨(some 67), .call (.f 56) [], none⟩,
  ⟨(some 4), .move (.t 67), none⟩]) (.ret)))))
theorem ok12 : FnOk Try.prog tau 12 c12 [.t 4] 2 := ⟨Try.f12, _, Try.func12, rfl, by kernel_rfl, by kernel_rfl, by kernel_rfl, of_decide_eq_true (by kernel_rfl)⟩
/-- dogwatch/dogwatchref16.SamePlace -/
def c19 : C :=
  .seq (.reg [] [⟨(some 2), .box 35 (.t 0), none⟩,
  ⟨(some 3), .box 35 (.t 1), none⟩,
  ⟨(some 4), .move (.c (.bool false)), none⟩]) (.seq (.seq (.reg [] [⟨(some 6), .fieldAddr 35 (.t 2) 0, none⟩,
  ⟨(some 7), .load 3 (.t 6), none⟩,
  ⟨(some 8), .fieldAddr 35 (.t 3) 0, none⟩,
  ⟨(some 9), .load 3 (.t 8), none⟩,
  ⟨(some 10), .binOp .neq 3 (.t 7) (.t 9), none⟩,
  ⟨(some 11), .move (.t 10), none⟩,
  ⟨(some 12), .fieldAddr 35 (.t 2) 1, (some (11, false))⟩,
  ⟨(some 13), .load 3 (.t 12), (some (11, false))⟩,
  ⟨(some 14), .fieldAddr 35 (.t 3) 1, (some (11, false))⟩,
  ⟨(some 15), .load 3 (.t 14), (some (11, false))⟩,
  ⟨(some 16), .binOp .neq 3 (.t 13) (.t 15), (some (11, false))⟩,
  ⟨(some 17), .pick (.t 11) (.c (.bool true)) (.t 16), none⟩,
  ⟨(some 18), .move (.t 17), none⟩,
  ⟨(some 19), .fieldAddr 35 (.t 2) 2, (some (18, false))⟩,
  ⟨(some 20), .load 3 (.t 19), (some (18, false))⟩,
  ⟨(some 21), .fieldAddr 35 (.t 3) 2, (some (18, false))⟩,
  ⟨(some 22), .load 3 (.t 21), (some (18, false))⟩,
  ⟨(some 23), .binOp .neq 3 (.t 20) (.t 22), (some (18, false))⟩,
  ⟨(some 24), .pick (.t 18) (.c (.bool true)) (.t 23), none⟩,
  ⟨(some 25), .move (.t 24), none⟩,
  ⟨(some 26), .fieldAddr 35 (.t 2) 3, (some (25, false))⟩,
  ⟨(some 27), .load 33 (.t 26), (some (25, false))⟩,
  ⟨(some 28), .len 33 (.t 27), (some (25, false))⟩,
  ⟨(some 29), .fieldAddr 35 (.t 3) 3, (some (25, false))⟩,
  ⟨(some 30), .load 33 (.t 29), (some (25, false))⟩,
  ⟨(some 31), .len 33 (.t 30), (some (25, false))⟩,
  ⟨(some 32), .binOp .neq 3 (.t 28) (.t 31), (some (25, false))⟩,
  ⟨(some 33), .pick (.t 25) (.c (.bool true)) (.t 32), none⟩]) (.cond (.t 33) (.seq (.reg [] [⟨(some 4), .move (.c (.bool false)), none⟩]) (.ret)) (.skip))) (.seq (.seq (.reg [] [⟨(some 5), .move (.c (.int .i64 0)), none⟩]) (.block 0 (.loop [2, 3, 5] (.seq (.seq (.reg [] [⟨(some 34), .move (.t 5), none⟩,
  ⟨(some 35), .fieldAddr 35 (.t 2) 3, none⟩,
  ⟨(some 36), .load 33 (.t 35), none⟩,
  ⟨(some 37), .len 33 (.t 36), none⟩,
  ⟨(some 38), .binOp .lss 3 (.t 34) (.t 37), none⟩]) (.cond (.t 38) (.skip) (.exit 0))) (.seq (.block 1 (.seq (.reg [0, 1, 2, 3, 4, 5, 6, 7, 8, 9, 10] [⟨(some 41), .fieldAddr 35 (.t 2) 3, none⟩,
  ⟨(some 42), .load 33 (.t 41), none⟩,
  ⟨(some 43), .move (.t 5), none⟩,
  ⟨(some 44), .indexAddr 33 (.t 42) (.t 43), none⟩,
  ⟨(some 45), .load 48 (.t 44), none⟩,
  ⟨(some 46), .fieldAddr 35 (.t 3) 3, none⟩,
  ⟨(some 47), .load 33 (.t 46), none⟩,
  ⟨(some 48), .move (.t 5), none⟩,
  ⟨(some 49), .indexAddr 33 (.t 47) (.t 48), none⟩,
  ⟨(some 50), .load 48 (.t 49), none⟩,
  ⟨(some 51), .binOp .neq 48 (.t 45) (.t 50), none⟩]) (.cond (.t 51) (.seq (.reg [] [⟨(some 4), .move (.c (.bool false)), none⟩]) (.ret)) (.skip)))) (.reg [] [⟨(some 39), .move (.t 5), none⟩,
  ⟨(some 40), .binOp .add 3 (.t 39) (.c (.int .i64 1)), none⟩,
  ⟨(some 5), .move (.t 40), none⟩])))))) (.seq (.reg [] [⟨(some 4), .move (.c (.bool true)), none⟩]) (.ret))))
theorem ok19 : FnOk Try.prog tau 19 c19 [.t 4] 2 := ⟨Try.f19, _, Try.func19, rfl, by kernel_rfl, by kernel_rfl, by kernel_rfl, of_decide_eq_true (by kernel_rfl)⟩
/-- dogwatch/diff.Moved -/
def c36 : C :=
  .seq (.reg [] [⟨(some 2), .box 25 (.t 0), none⟩,
  ⟨(some 3), .box 25 (.t 1), none⟩,
  ⟨(some 4), .move (.c (.nils)), none⟩]) (.seq (.reg [] [⟨(some 5), .load 25 (.t 2), none⟩,
  ⟨(some 6), .load 25 (.t 3), none⟩,
  ⟨(some 7), .callH (.f 79) [.t 5, .t 6, .f 88], none⟩,
  ⟨(some 4), .move (.t 7), none⟩]) (.ret))
theorem ok36 : FnOk Try.prog tau 36 c36 [.t 4] 2 := ⟨Try.f36, _, Try.func36, rfl, by kernel_rfl, by kernel_rfl, by kernel_rfl, of_decide_eq_true (by kernel_rfl)⟩
/-- dogwatch/stage.New -/
def c50 : C :=
  .seq (.reg [] [⟨(some 4), .move (.c (.nilp)), none⟩,
  ⟨(some 5), .move (.c (.int .i64 0)), none⟩]) (.seq (.reg [] [⟨(some 8), .move (.t 0), none⟩,
  ⟨(some 9), .move (.t 1), none⟩,
  ⟨(some 10), .build 25 [(0, .t 8), (1, .t 9)], none⟩,
  ⟨(some 6), .alloc 25, none⟩,
  ⟨none, .store 25 (.t 6) (.t 10), none⟩]) (.seq (.seq (.reg [] [⟨(some 11), .load 25 (.t 6), none⟩,
  ⟨(some 12), .call (.f 100) [.t 11], none⟩,
  ⟨(some 7), .move (.t 12), none⟩]) (.seq (.reg [] [⟨(some 13), .move (.t 7), none⟩,
  ⟨(some 14), .binOp .neq 29 (.t 13) (.c (.int .i64 0)), none⟩]) (.cond (.t 14) (.seq (.reg [] [⟨(some 15), .move (.t 7), none⟩,
  ⟨(some 4), .move (.c (.nilp)), none⟩,
  ⟨(some 5), .move (.t 15), none⟩]) (.ret)) (.skip)))) (.seq (.reg [] [⟨(some 16), .load 25 (.t 6), none⟩,
  ⟨(some 17), .load 25 (.t 6), none⟩,
  ⟨(some 18), .build 81 [(0, .t 16), (1, .t 17)], none⟩,
  ⟨(some 19), .box 81 (.t 18), none⟩,
  ⟨(some 4), .move (.t 19), none⟩,
  ⟨(some 5), .move (.c (.int .i64 0)), none⟩]) (.ret))))
theorem ok50 : FnOk Try.prog tau 50 c50 [.t 4, .t 5] 2 := ⟨Try.f50, _, Try.func50, rfl, by kernel_rfl, by kernel_rfl, by kernel_rfl, of_decide_eq_true (by kernel_rfl)⟩
/-- (*dogwatch/stage.Stage).Staged -/
def c51 : C :=
  .seq (.reg [] [⟨(some 2), .alloc 25, none⟩]) (.seq (.seq (.reg [] [⟨(some 3), .move (.t 0), none⟩,
  ⟨(some 4), .callH (.f 101) [.t 3], none⟩]) (.cond (.t 4) (.seq (.reg [] [⟨(some 5), .build 25 [], none⟩,
  ⟨none, .store 25 (.t 2) (.t 5), none⟩]) (.ret)) (.skip))) (.seq (.reg [] [⟨(some 6), .move (.t 0), none⟩,
  ⟨(some 7), .nilCheck (.t 6), none⟩,
  ⟨(some 8), .fieldAddr 81 (.t 7) 1, none⟩,
  ⟨(some 9), .load 25 (.t 8), none⟩,
  ⟨(some 10), .call (.f 102) [.t 9], none⟩,
  ⟨none, .store 25 (.t 2) (.t 10), none⟩]) (.ret)))
theorem ok51 : FnOk Try.prog tau 51 c51 [.c 2 25] 1 := ⟨Try.f51, _, Try.func51, rfl, by kernel_rfl, by kernel_rfl, by kernel_rfl, of_decide_eq_true (by kernel_rfl)⟩
/-- (*dogwatch/stage.Stage).Active -/
def c52 : C :=
  .seq (.reg [] [⟨(some 2), .alloc 25, none⟩]) (.seq (.seq (.reg [] [⟨(some 3), .move (.t 0), none⟩,
  ⟨(some 4), .callH (.f 101) [.t 3], none⟩]) (.cond (.t 4) (.seq (.reg [] [⟨(some 5), .build 25 [], none⟩,
  ⟨none, .store 25 (.t 2) (.t 5), none⟩]) (.ret)) (.skip))) (.seq (.reg [] [⟨(some 6), .move (.t 0), none⟩,
  ⟨(some 7), .nilCheck (.t 6), none⟩,
  ⟨(some 8), .fieldAddr 81 (.t 7) 0, none⟩,
  ⟨(some 9), .load 25 (.t 8), none⟩,
  ⟨(some 10), .call (.f 102) [.t 9], none⟩,
  ⟨none, .store 25 (.t 2) (.t 10), none⟩]) (.ret)))
theorem ok52 : FnOk Try.prog tau 52 c52 [.c 2 25] 1 := ⟨Try.f52, _, Try.func52, rfl, by kernel_rfl, by kernel_rfl, by kernel_rfl, of_decide_eq_true (by kernel_rfl)⟩
/-- (*dogwatch/stage.Stage).Set -/
def c53 : C :=
  .seq (.reg [] [⟨(some 3), .box 25 (.t 1), none⟩,
  ⟨(some 4), .move (.c (.int .i64 0)), none⟩]) (.seq (.seq (.reg [] [⟨(some 5), .move (.t 0), none⟩,
  ⟨(some 6), .callH (.f 101) [.t 5], none⟩]) (.cond (.t 6) (.seq (.reg [] [⟨(some 4), .move (.c (.int .i64 2)), none⟩]) (.ret)) (.skip))) (.seq (.seq (.reg [0, 1, 2, 3, 4, 5, 6, 7, 8, 9, 10, 11, 12] [⟨(some 7), .load 25 (.t 3), none⟩,
  ⟨(some 8), .call (.f 100) [.t 7], none⟩,
  ⟨(some 9), .binOp .neq 29 (.t 8) (.c (.int .i64 0)), none⟩,
  ⟨(some 10), .move (.t 9), none⟩,
  ⟨(some 11), .fieldAddr 25 (.t 3) 0, (some (10, false))⟩,
  ⟨(some 12), .load 3 (.t 11), (some (10, false))⟩,
  ⟨(some 13), .move (.t 0), (some (10, false))⟩,
  ⟨(some 14), .nilCheck (.t 13), (some (10, false))⟩,
  ⟨(some 15), .fieldAddr 81 (.t 14) 0, (some (10, false))⟩,
  ⟨(some 16), .fieldAddr 25 (.t 15) 0, (some (10, false))⟩,
  ⟨(some 17), .load 3 (.t 16), (some (10, false))⟩,
  ⟨(some 18), .binOp .neq 3 (.t 12) (.t 17), (some (10, false))⟩,
  ⟨(some 19), .pick (.t 10) (.c (.bool true)) (.t 18), none⟩]) (.cond (.t 19) (.seq (.reg [] [⟨(some 4), .move (.c (.int .i64 30)), none⟩]) (.ret)) (.skip))) (.seq (.reg [] [⟨(some 20), .move (.t 0), none⟩,
  ⟨(some 21), .load 25 (.t 3), none⟩,
  ⟨(some 22), .call (.f 102) [.t 21], none⟩,
  ⟨(some 23), .nilCheck (.t 20), none⟩,
  ⟨(some 24), .fieldAddr 81 (.t 23) 1, none⟩,
  ⟨none, .store 25 (.t 24) (.t 22), none⟩]) (.seq (.reg [] [⟨(some 4), .move (.c (.int .i64 0)), none⟩]) (.ret)))))
theorem ok53 : FnOk Try.prog tau 53 c53 [.t 4] 2 := ⟨Try.f53, _, Try.func53, rfl, by kernel_rfl, by kernel_rfl, by kernel_rfl, of_decide_eq_true (by kernel_rfl)⟩
/-- dogwatch/dogwatchref16.Same -/
def c54 : C :=
  .seq (.reg [] [⟨(some 2), .box 25 (.t 0), none⟩,
  ⟨(some 3), .box 25 (.t 1), none⟩,
  ⟨(some 4), .move (.c (.bool false)), none⟩]) (.seq (.seq (.reg [] [⟨(some 6), .fieldAddr 25 (.t 2) 0, none⟩,
  ⟨(some 7), .load 3 (.t 6), none⟩,
  ⟨(some 8), .fieldAddr 25 (.t 3) 0, none⟩,
  ⟨(some 9), .load 3 (.t 8), none⟩,
  ⟨(some 10), .binOp .neq 3 (.t 7) (.t 9), none⟩,
  ⟨(some 11), .move (.t 10), none⟩,
  ⟨(some 12), .fieldAddr 25 (.t 2) 1, (some (11, false))⟩,
  ⟨(some 13), .load 22 (.t 12), (some (11, false))⟩,
  ⟨(some 14), .fieldAddr 25 (.t 3) 1, (some (11, false))⟩,
  ⟨(some 15), .load 22 (.t 14), (some (11, false))⟩,
  ⟨(some 16), .binOp .neq 22 (.t 13) (.t 15), (some (11, false))⟩,
  ⟨(some 17), .pick (.t 11) (.c (.bool true)) (.t 16), none⟩,
  ⟨(some 18), .move (.t 17), none⟩,
  ⟨(some 19), .fieldAddr 25 (.t 2) 2, (some (18, false))⟩,
  ⟨(some 20), .load 23 (.t 19), (some (18, false))⟩,
  ⟨(some 21), .len 23 (.t 20), (some (18, false))⟩,
  ⟨(some 22), .fieldAddr 25 (.t 3) 2, (some (18, false))⟩,
  ⟨(some 23), .load 23 (.t 22), (some (18, false))⟩,
  ⟨(some 24), .len 23 (.t 23), (some (18, false))⟩,
  ⟨(some 25), .binOp .neq 3 (.t 21) (.t 24), (some (18, false))⟩,
  ⟨(some 26), .pick (.t 18) (.c (.bool true)) (.t 25), none⟩]) (.cond (.t 26) (.seq (.reg [] [⟨(some 4), .move (.c (.bool false)), none⟩]) (.ret)) (.skip))) (.seq (.seq (.reg [] [⟨(some 5), .move (.c (.int .i64 0)), none⟩]) (.block 0 (.loop [2, 3, 5] (.seq (.seq (.reg [] [⟨(some 27), .move (.t 5), none⟩,
  ⟨(some 28), .fieldAddr 25 (.t 2) 2, none⟩,
  ⟨(some 29), .load 23 (.t 28), none⟩,
  ⟨(some 30), .len 23 (.t 29), none⟩,
  ⟨(some 31), .binOp .lss 3 (.t 27) (.t 30), none⟩]) (.cond (.t 31) (.skip) (.exit 0))) (.seq (.block 1 (.seq (.reg [0, 1, 2, 3, 4, 5, 6, 7, 8, 9, 10, 11] [⟨(some 34), .fieldAddr 25 (.t 2) 2, none⟩,
  ⟨(some 35), .load 23 (.t 34), none⟩,
  ⟨(some 36), .move (.t 5), none⟩,
  ⟨(some 37), .indexAddr 23 (.t 35) (.t 36), none⟩,
  ⟨(some 38), .load 35 (.t 37), none⟩,
  ⟨(some 39), .fieldAddr 25 (.t 3) 2, none⟩,
  ⟨(some 40), .load 23 (.t 39), none⟩,
  ⟨(some 41), .move (.t 5), none⟩,
  ⟨(some 42), .indexAddr 23 (.t 40) (.t 41), none⟩,
  ⟨(some 43), .load 35 (.t 42), none⟩,
  ⟨(some 44), .call (.f 19) [.t 38, .t 43], none⟩,
  ⟨(some 45), .unOp .not 4 (.t 44), none⟩]) (.cond (.t 45) (.seq (.reg [] [⟨(some 4), .move (.c (.bool false)), none⟩]) (.ret)) (.skip)))) (.reg [] [⟨(some 32), .move (.t 5), none⟩,
  ⟨(some 33), .binOp .add 3 (.t 32) (.c (.int .i64 1)), none⟩,
  ⟨(some 5), .move (.t 33), none⟩])))))) (.seq (.reg [] [⟨(some 4), .move (.c (.bool true)), none⟩]) (.ret))))
theorem ok54 : FnOk Try.prog tau 54 c54 [.t 4] 2 := ⟨Try.f54, _, Try.func54, rfl, by kernel_rfl, by kernel_rfl, by kernel_rfl, of_decide_eq_true (by kernel_rfl)⟩
/-- (*dogwatch/stage.Stage).Turn -/
def c55 : C :=
  .seq (.reg [] [⟨(some 2), .move (.c (.nils)), none⟩]) (.seq (.seq (.reg [] [⟨(some 4), .move (.t 0), none⟩,
  ⟨(some 5), .callH (.f 101) [.t 4], none⟩]) (.cond (.t 5) (.seq (.reg [] [⟨(some 2), .move (.c (.nils)), none⟩]) (.ret)) (.skip))) (.seq (.reg [0, 1, 2, 3, 4, 5, 6, 7, 8, 9] [⟨(some 6), .move (.t 0), none⟩,
  ⟨(some 7), .nilCheck (.t 6), none⟩,
  ⟨(some 8), .fieldAddr 81 (.t 7) 0, none⟩,
  ⟨(some 9), .load 25 (.t 8), none⟩,
  ⟨(some 10), .move (.t 0), none⟩,
  ⟨(some 11), .nilCheck (.t 10), none⟩,
  ⟨(some 12), .fieldAddr 81 (.t 11) 1, none⟩,
  ⟨(some 13), .load 25 (.t 12), none⟩,
  ⟨(some 14), .call (.f 36) [.t 9, .t 13], none⟩,
  ⟨(some 3), .move (.t 14), none⟩]) (.seq (.reg [] [⟨(some 15), .move (.t 0), none⟩,
  ⟨(some 16), .move (.t 0), none⟩,
  ⟨(some 17), .nilCheck (.t 16), none⟩,
  ⟨(some 18), .fieldAddr 81 (.t 17) 1, none⟩,
  ⟨(some 19), .load 25 (.t 18), none⟩,
  ⟨(some 20), .call (.f 102) [.t 19], none⟩,
  ⟨(some 21), .nilCheck (.t 15), none⟩,
  ⟨(some 22), .fieldAddr 81 (.t 21) 0, none⟩,
  ⟨none, .store 25 (.t 22) (.t 20), none⟩]) (.seq (.reg [] [⟨(some 23), .move (.t 0), none⟩,
  ⟨(some 24), .nilCheck (.t 23), none⟩,
  ⟨(some 25), .fieldAddr 81 (.t 24) 2, none⟩,
  ⟨(some 26), .load 3 (.t 25), none⟩,
  ⟨(some 27), .binOp .add 3 (.t 26) (.c (.int .i64 1)), none⟩,
  ⟨(some 28), .nilCheck (.t 23), none⟩,
  ⟨(some 29), .fieldAddr 81 (.t 28) 2, none⟩,
  ⟨none, .store 3 (.t 29) (.t 27), none⟩]) (.seq (.reg [] [⟨(some 30), .move (.t 3), none⟩,
  ⟨(some 2), .move (.t 30), none⟩]) (.ret))))))
theorem ok55 : FnOk Try.prog tau 55 c55 [.t 2] 1 := ⟨Try.f55, _, Try.func55, rfl, by kernel_rfl, by kernel_rfl, by kernel_rfl, of_decide_eq_true (by kernel_rfl)⟩
/-- dogwatch/dogwatchlaw26.awake -/
def c56 : C :=
  .seq (.reg [] [⟨(some 0), .move (.c (.bool false)), none⟩]) (.seq (.reg [] [⟨(some 7), .callH (.f 50) [.c (.int .i64 4), .c (.int .u32 1)], none⟩,
  ⟨(some 6), .move (.t 7), none⟩,
  ⟨(some 8), .extract (.t 6) 0, none⟩,
  ⟨(some 9), .extract (.t 6) 1, none⟩,
  ⟨(some 1), .move (.t 8), none⟩,
  ⟨(some 2), .move (.t 9), none⟩]) (.seq (.seq (.reg [] [⟨(some 10), .move (.t 2), none⟩,
  ⟨(some 11), .binOp .neq 29 (.t 10) (.c (.int .i64 0)), none⟩,
  ⟨(some 12), .move (.t 11), none⟩,
  ⟨(some 13), .move (.t 1), (some (12, false))⟩,
  ⟨(some 14), .binOp .eql 73 (.t 13) (.c (.nilp)), (some (12, false))⟩,
  ⟨(some 15), .pick (.t 12) (.c (.bool true)) (.t 14), none⟩]) (.cond (.t 15) (.seq (.reg [] [⟨(some 0), .move (.c (.bool false)), none⟩]) (.ret)) (.skip))) (.seq (.reg [] [⟨(some 16), .move (.t 1), none⟩,
  ⟨(some 17), .call (.f 57) [], none⟩,
  ⟨(some 18), .callH (.f 53) [.t 16, .t 17], none⟩,
  ⟨(some 3), .move (.t 18), none⟩]) (.seq (.reg [] [⟨(some 19), .move (.t 1), none⟩,
  ⟨(some 20), .callH (.f 52) [.t 19], none⟩,
  ⟨(some 4), .alloc 25, none⟩,
  ⟨none, .store 25 (.t 4) (.t 20), none⟩]) (.seq (.reg [] [⟨(some 21), .move (.t 1), none⟩,
  ⟨(some 22), .callH (.f 55) [.t 21], none⟩,
  ⟨(some 5), .move (.t 22), none⟩]) (.seq (.reg [] [⟨(some 23), .move (.t 3), none⟩,
  ⟨(some 24), .binOp .eql 29 (.t 23) (.c (.int .i64 0)), none⟩,
  ⟨(some 25), .move (.t 24), none⟩,
  ⟨(some 26), .fieldAddr 25 (.t 4) 2, (some (25, true))⟩,
  ⟨(some 27), .load 23 (.t 26), (some (25, true))⟩,
  ⟨(some 28), .len 23 (.t 27), (some (25, true))⟩,
  ⟨(some 29), .binOp .eql 3 (.t 28) (.c (.int .i64 0)), (some (25, true))⟩,
  ⟨(some 30), .pick (.t 25) (.t 29) (.c (.bool false)), none⟩,
  ⟨(some 31), .move (.t 30), none⟩,
  ⟨(some 32), .move (.t 5), (some (31, true))⟩,
  ⟨(some 33), .len 42 (.t 32), (some (31, true))⟩,
  ⟨(some 34), .binOp .eql 3 (.t 33) (.c (.int .i64 0)), (some (31, true))⟩,
  ⟨(some 35), .pick (.t 31) (.t 34) (.c (.bool false)), none⟩,
  ⟨(some 36), .move (.t 35), none⟩,
  ⟨(some 37), .move (.t 1), (some (36, true))⟩,
  ⟨(some 38), .callH (.f 52) [.t 37], (some (36, true))⟩,
  ⟨(some 39), .call (.f 57) [], (some (36, true))⟩,
  ⟨(some 40), .call (.f 54) [.t 38, .t 39], (some (36, true))⟩,
  ⟨(some 41), .pick (.t 36) (.t 40) (.c (.bool false)), none⟩,
  ⟨(some 42), .move (.t 41), none⟩,
  ⟨(some 43), .move (.t 1), (some (42, true))⟩,
  ⟨(some 44), .callH (.f 59) [.t 43], (some (42, true))⟩,
  ⟨(some 45), .unOp .not 4 (.t 44), (some (42, true))⟩,
  ⟨(some 46), .pick (.t 42) (.t 45) (.c (.bool false)), none⟩,
  ⟨(some 47), .move (.t 46), none⟩,
  ⟨(some 48), .move (.t 1), (some (47, true))⟩,
  ⟨(some 49), .callH (.f 58) [.t 48, .c (.int .i64 1)], (some (47, true))⟩,
  ⟨(some 50), .pick (.t 47) (.t 49) (.c (.bool false)), none⟩,
  ⟨(some 51), .move (.t 50), none⟩,
  ⟨(some 52), .move (.t 1), (some (51, true))⟩,
  ⟨(some 53), .callH (.f 59) [.t 52], (some (51, true))⟩,
  ⟨(some 54), .pick (.t 51) (.t 53) (.c (.bool false)), none⟩,
  ⟨(some 55), .move (.t 54), none⟩,
  ⟨(some 56), .move (.t 1), (some (55, true))⟩,
  ⟨(some 57), .callH (.f 60) [.t 56], (some (55, true))⟩,
  ⟨(some 58), .binOp .eql 3 (.t 57) (.c (.int .i64 1)), (some (55, true))⟩,
  ⟨(some 59), .pick (.t 55) (.t 58) (.c (.bool false)), none⟩,
  ⟨(some 0), .move (.t 59), none⟩]) (.ret)))))))
theorem ok56 : FnOk Try.prog tau 56 c56 [.t 0] 0 := ⟨Try.f56, _, Try.func56, rfl, by kernel_rfl, by kernel_rfl, by kernel_rfl, of_decide_eq_true (by kernel_rfl)⟩
/-- dogwatch/dogwatchlaw26.one -/
def c57 : C :=
  .seq (.reg [] [⟨(some 0), .alloc 25, none⟩]) (.seq (.reg [] [⟨(some 1), .build 35 [(0, .c (.int .i64 1)), (1, .c (.int .i64 2))], none⟩,
  ⟨(some 2), .buildSlice 23 1 [(0, .t 1)], none⟩,
  ⟨(some 3), .build 25 [(0, .c (.int .i64 4)), (1, .c (.int .u32 1)), (2, .t 2)], none⟩,
  ⟨none, .store 25 (.t 0) (.t 3), none⟩]) (.ret))
theorem ok57 : FnOk Try.prog tau 57 c57 [.c 0 25] 0 := ⟨Try.f57, _, Try.func57, rfl, by kernel_rfl, by kernel_rfl, by kernel_rfl, of_decide_eq_true (by kernel_rfl)⟩
/-- (*dogwatch/stage.Stage).Cut -/
def c58 : C :=
  .seq (.reg [] [⟨(some 4), .move (.c (.bool false)), none⟩]) (.seq (.seq (.reg [] [⟨(some 7), .move (.t 0), none⟩,
  ⟨(some 8), .callH (.f 101) [.t 7], none⟩]) (.cond (.t 8) (.seq (.reg [] [⟨(some 4), .move (.c (.bool false)), none⟩]) (.ret)) (.skip))) (.seq (.reg [] [⟨(some 10), .move (.t 0), none⟩,
  ⟨(some 11), .nilCheck (.t 10), none⟩,
  ⟨(some 12), .fieldAddr 81 (.t 11) 0, none⟩,
  ⟨(some 13), .load 25 (.t 12), none⟩,
  ⟨(some 14), .move (.t 1), none⟩,
  ⟨(some 15), .call (.f 103) [.t 13, .t 14], none⟩,
  ⟨(some 9), .move (.t 15), none⟩,
  ⟨(some 16), .extract (.t 9) 0, none⟩,
  ⟨(some 17), .extract (.t 9) 1, none⟩,
  ⟨(some 5), .alloc 35, none⟩,
  ⟨none, .store 35 (.t 5) (.t 16), none⟩,
  ⟨(some 6), .move (.t 17), none⟩]) (.seq (.reg [] [⟨(some 18), .move (.t 0), none⟩,
  ⟨(some 19), .move (.t 0), none⟩,
  ⟨(some 20), .nilCheck (.t 19), none⟩,
  ⟨(some 21), .fieldAddr 81 (.t 20) 0, none⟩,
  ⟨(some 22), .load 25 (.t 21), none⟩,
  ⟨(some 23), .move (.t 1), none⟩,
  ⟨(some 24), .call (.f 63) [.t 22, .t 23], none⟩,
  ⟨(some 25), .nilCheck (.t 18), none⟩,
  ⟨(some 26), .fieldAddr 81 (.t 25) 0, none⟩,
  ⟨none, .store 25 (.t 26) (.t 24), none⟩]) (.seq (.reg [] [⟨(some 27), .move (.t 6), none⟩,
  ⟨(some 4), .move (.t 27), none⟩]) (.ret)))))
theorem ok58 : FnOk Try.prog tau 58 c58 [.t 4] 2 := ⟨Try.f58, _, Try.func58, rfl, by kernel_rfl, by kernel_rfl, by kernel_rfl, of_decide_eq_true (by kernel_rfl)⟩
/-- (*dogwatch/stage.Stage).Fresh -/
def c59 : C :=
  .seq (.reg [] [⟨(some 2), .move (.c (.bool false)), none⟩]) (.seq (.reg [0, 1, 2, 3, 4, 5, 6, 7, 8, 9, 10, 11, 12, 13, 14, 15] [⟨(some 3), .move (.t 0), none⟩,
  ⟨(some 4), .callH (.f 101) [.t 3], none⟩,
  ⟨(some 5), .unOp .not 4 (.t 4), none⟩,
  ⟨(some 6), .move (.t 5), none⟩,
  ⟨(some 7), .move (.t 0), (some (6, true))⟩,
  ⟨(some 8), .nilCheck (.t 7), (some (6, true))⟩,
  ⟨(some 9), .fieldAddr 81 (.t 8) 0, (some (6, true))⟩,
  ⟨(some 10), .load 25 (.t 9), (some (6, true))⟩,
  ⟨(some 11), .move (.t 0), (some (6, true))⟩,
  ⟨(some 12), .nilCheck (.t 11), (some (6, true))⟩,
  ⟨(some 13), .fieldAddr 81 (.t 12) 1, (some (6, true))⟩,
  ⟨(some 14), .load 25 (.t 13), (some (6, true))⟩,
  ⟨(some 15), .call (.f 104) [.t 10, .t 14], (some (6, true))⟩,
  ⟨(some 16), .unOp .not 4 (.t 15), (some (6, true))⟩,
  ⟨(some 17), .pick (.t 6) (.t 16) (.c (.bool false)), none⟩,
  ⟨(some 2), .move (.t 17), none⟩]) (.ret))
theorem ok59 : FnOk Try.prog tau 59 c59 [.t 2] 1 := ⟨Try.f59, _, Try.func59, rfl, by kernel_rfl, by kernel_rfl, by kernel_rfl, of_decide_eq_true (by kernel_rfl)⟩
/-- (*dogwatch/stage.Stage).Turns -/
def c60 : C :=
  .seq (.reg [] [⟨(some 2), .move (.c (.int .i64 0)), none⟩]) (.seq (.seq (.reg [] [⟨(some 3), .move (.t 0), none⟩,
  ⟨(some 4), .callH (.f 101) [.t 3], none⟩]) (.cond (.t 4) (.seq (.reg [] [⟨(some 2), .move (.c (.int .i64 0)), none⟩]) (.ret)) (.skip))) (.seq (.reg [] [⟨(some 5), .move (.t 0), none⟩,
  ⟨(some 6), .nilCheck (.t 5), none⟩,
  ⟨(some 7), .fieldAddr 81 (.t 6) 2, none⟩,
  ⟨(some 8), .load 3 (.t 7), none⟩,
  ⟨(some 2), .move (.t 8), none⟩]) (.ret)))
theorem ok60 : FnOk Try.prog tau 60 c60 [.t 2] 1 := ⟨Try.f60, _, Try.func60, rfl, by kernel_rfl, by kernel_rfl, by kernel_rfl, of_decide_eq_true (by kernel_rfl)⟩
/-- dogwatch/plan.Drop -/
def c63 : C :=
  .seq (.reg [] [⟨(some 2), .box 25 (.t 0), none⟩,
  ⟨(some 4), .alloc 25, none⟩]) (.seq (.reg [] [⟨(some 8), .load 25 (.t 2), none⟩,
  ⟨(some 9), .callH (.f 110) [.t 8], none⟩,
  ⟨(some 5), .alloc 25, none⟩,
  ⟨none, .store 25 (.t 5) (.t 9), none⟩]) (.seq (.seq (.reg [] [⟨(some 11), .load 25 (.t 5), none⟩,
  ⟨(some 12), .move (.t 1), none⟩,
  ⟨(some 13), .callH (.f 111) [.t 11, .t 12], none⟩,
  ⟨(some 10), .move (.t 13), none⟩,
  ⟨(some 14), .extract (.t 10) 0, none⟩,
  ⟨(some 15), .extract (.t 10) 1, none⟩,
  ⟨(some 6), .move (.t 14), none⟩,
  ⟨(some 7), .move (.t 15), none⟩]) (.seq (.reg [] [⟨(some 16), .move (.t 7), none⟩]) (.cond (.t 16) (.reg [] [⟨(some 17), .fieldAddr 25 (.t 5) 2, none⟩,
  ⟨(some 18), .load 23 (.t 17), none⟩,
  ⟨(some 19), .move (.t 6), none⟩,
  ⟨(some 20), .move (.t 6), none⟩,
  ⟨(some 21), .binOp .add 3 (.t 20) (.c (.int .i64 1)), none⟩,
  ⟨(some 22), .callH (.f 112) [.t 18, .t 19, .t 21], none⟩,
  ⟨(some 23), .fieldAddr 25 (.t 5) 2, none⟩,
  ⟨none, .store 23 (.t 23) (.t 22), none⟩]) (.skip)))) (.seq (.reg [] [⟨(some 24), .load 25 (.t 5), none⟩,
  ⟨none, .store 25 (.t 4) (.t 24), none⟩]) (.ret))))
theorem ok63 : FnOk Try.prog tau 63 c63 [.c 4 25] 2 := ⟨Try.f63, _, Try.func63, rfl, by kernel_rfl, by kernel_rfl, by kernel_rfl, of_decide_eq_true (by kernel_rfl)⟩
/-- dogwatch/diff.places -/
def c78 : C :=
  .seq (.reg [] [⟨(some 1), .box 25 (.t 0), none⟩,
  ⟨(some 2), .move (.c (.nilm)), none⟩]) (.seq (.reg [] [⟨(some 6), .makeMap 101, none⟩,
  ⟨(some 3), .move (.t 6), none⟩]) (.seq (.seq (.reg [] [⟨(some 7), .fieldAddr 25 (.t 1) 2, none⟩,
  ⟨(some 8), .load 23 (.t 7), none⟩,
  ⟨(some 9), .len 23 (.t 8), none⟩,
  ⟨(some 10), .move (.c (.int .i64 0)), none⟩]) (.block 0 (.loop [3, 8, 9, 10] (.seq (.reg [] [⟨(some 11), .binOp .lss 3 (.t 10) (.t 9), none⟩]) (.seq (.cond (.t 11) (.skip) (.exit 0)) (.seq (.block 1 (.seq (.reg [] [⟨(some 12), .indexAddr 23 (.t 8) (.t 10), none⟩,
  ⟨(some 13), .load 35 (.t 12), none⟩,
  ⟨(some 5), .alloc 35, none⟩,
  ⟨none, .store 35 (.t 5) (.t 13), none⟩]) (.reg [] [⟨(some 14), .move (.t 3), none⟩,
  ⟨(some 15), .fieldAddr 35 (.t 5) 0, none⟩,
  ⟨(some 16), .load 3 (.t 15), none⟩,
  ⟨(some 17), .load 35 (.t 5), none⟩,
  ⟨none, .mapUpd 101 (.t 14) (.t 16) (.t 17), none⟩]))) (.reg [] [⟨(some 18), .binOp .add 3 (.t 10) (.c (.int .i64 1)), none⟩,
  ⟨(some 10), .move (.t 18), none⟩]))))))) (.seq (.reg [] [⟨(some 19), .move (.t 3), none⟩,
  ⟨(some 2), .move (.t 19), none⟩]) (.ret))))
theorem ok78 : FnOk Try.prog tau 78 c78 [.t 2] 1 := ⟨Try.f78, _, Try.func78, rfl, by kernel_rfl, by kernel_rfl, by kernel_rfl, of_decide_eq_true (by kernel_rfl)⟩
/-- dogwatch/diff.some -/
def c79 : C :=
  .seq (.reg [] [⟨(some 3), .box 25 (.t 0), none⟩,
  ⟨(some 4), .box 25 (.t 1), none⟩,
  ⟨(some 5), .box 104 (.t 2), none⟩,
  ⟨(some 6), .move (.c (.nils)), none⟩]) (.seq (.reg [0, 2, 4, 5, 1, 3, 6, 7] [⟨(some 10), .load 25 (.t 3), none⟩,
  ⟨(some 12), .loadF 25 (.t 4) (.t 4), none⟩,
  ⟨(some 7), .alloc 101, none⟩,
  ⟨(some 8), .alloc 101, none⟩,
  ⟨(some 11), .callF [7, 8] [.t 4] (.f 78) [.t 10], none⟩,
  ⟨(some 13), .callF [7, 8] [] (.f 78) [.t 12], none⟩,
  ⟨none, .store 101 (.t 7) (.t 11), none⟩,
  ⟨none, .store 101 (.t 8) (.t 13), none⟩]) (.seq (.reg [] [⟨(some 14), .load 101 (.t 7), none⟩,
  ⟨(some 15), .callH (.f 128) [.t 14], none⟩,
  ⟨(some 16), .callH (.f 127) [.t 15], none⟩,
  ⟨(some 9), .move (.t 16), none⟩]) (.seq (.reg [] [⟨(some 17), .move (.t 9), none⟩,
  ⟨(some 18), .load 101 (.t 8), none⟩,
  ⟨(some 19), .callH (.f 128) [.t 18], none⟩,
  ⟨(some 20), .callH (.f 127) [.t 19], none⟩,
  ⟨(some 21), .append 42 (.t 17) (.t 20), none⟩,
  ⟨(some 9), .move (.t 21), none⟩]) (.seq (.reg [] [⟨(some 22), .move (.t 9), none⟩,
  ⟨(some 23), .callH (.f 129) [.t 22], none⟩]) (.seq (.reg [] [⟨(some 24), .move (.t 9), none⟩,
  ⟨(some 25), .callH (.f 131) [.t 24], none⟩,
  ⟨(some 26), .mkClo 132 [.t 7, .t 8, .t 5], none⟩,
  ⟨(some 27), .callH (.f 130) [.t 25, .t 26], none⟩,
  ⟨(some 6), .move (.t 27), none⟩]) (.ret))))))
theorem ok79 : FnOk Try.prog tau 79 c79 [.t 6] 3 := ⟨Try.f79, _, Try.func79, rfl, by kernel_rfl, by kernel_rfl, by kernel_rfl, of_decide_eq_true (by kernel_rfl)⟩
/-- dogwatch/plan.SamePlace -/
def c81 : C :=
  .seq (.reg [] [⟨(some 2), .box 35 (.t 0), none⟩,
  ⟨(some 3), .box 35 (.t 1), none⟩,
  ⟨(some 4), .move (.c (.bool false)), none⟩]) (.seq (.reg [] [⟨(some 5), .fieldAddr 35 (.t 2) 0, none⟩,
  ⟨(some 6), .load 3 (.t 5), none⟩,
  ⟨(some 7), .fieldAddr 35 (.t 3) 0, none⟩,
  ⟨(some 8), .load 3 (.t 7), none⟩,
  ⟨(some 9), .binOp .eql 3 (.t 6) (.t 8), none⟩,
  ⟨(some 10), .move (.t 9), none⟩,
  ⟨(some 11), .fieldAddr 35 (.t 2) 1, (some (10, true))⟩,
  ⟨(some 12), .load 3 (.t 11), (some (10, true))⟩,
  ⟨(some 13), .fieldAddr 35 (.t 3) 1, (some (10, true))⟩,
  ⟨(some 14), .load 3 (.t 13), (some (10, true))⟩,
  ⟨(some 15), .binOp .eql 3 (.t 12) (.t 14), (some (10, true))⟩,
  ⟨(some 16), .pick (.t 10) (.t 15) (.c (.bool false)), none⟩,
  ⟨(some 17), .move (.t 16), none⟩,
  ⟨(some 18), .fieldAddr 35 (.t 2) 2, (some (17, true))⟩,
  ⟨(some 19), .load 3 (.t 18), (some (17, true))⟩,
  ⟨(some 20), .fieldAddr 35 (.t 3) 2, (some (17, true))⟩,
  ⟨(some 21), .load 3 (.t 20), (some (17, true))⟩,
  ⟨(some 22), .binOp .eql 3 (.t 19) (.t 21), (some (17, true))⟩,
  ⟨(some 23), .pick (.t 17) (.t 22) (.c (.bool false)), none⟩,
  ⟨(some 24), .move (.t 23), none⟩,
  ⟨(some 25), .fieldAddr 35 (.t 2) 3, (some (24, true))⟩,
  ⟨(some 26), .load 33 (.t 25), (some (24, true))⟩,
  ⟨(some 27), .fieldAddr 35 (.t 3) 3, (some (24, true))⟩,
  ⟨(some 28), .load 33 (.t 27), (some (24, true))⟩,
  ⟨(some 29), .call (.f 133) [.t 26, .t 28], (some (24, true))⟩,
  ⟨(some 30), .pick (.t 24) (.t 29) (.c (.bool false)), none⟩,
  ⟨(some 4), .move (.t 30), none⟩]) (.ret))
theorem ok81 : FnOk Try.prog tau 81 c81 [.t 4] 2 := ⟨Try.f81, _, Try.func81, rfl, by kernel_rfl, by kernel_rfl, by kernel_rfl, of_decide_eq_true (by kernel_rfl)⟩
/-- dogwatch/mask.Count -/
def c85 : C :=
  .seq (.reg [] [⟨(some 2), .move (.c (.int .i64 0)), none⟩]) (.seq (.reg [] [⟨(some 3), .move (.t 0), none⟩,
  ⟨(some 4), .call (.f 135) [.t 3], none⟩,
  ⟨(some 2), .move (.t 4), none⟩]) (.ret))
theorem ok85 : FnOk Try.prog tau 85 c85 [.t 2] 1 := ⟨Try.f85, _, Try.func85, rfl, by kernel_rfl, by kernel_rfl, by kernel_rfl, of_decide_eq_true (by kernel_rfl)⟩
/-- dogwatch/diff.Moved$1 -/
def c88 : C :=
  .seq (.reg [] [⟨(some 4), .box 35 (.t 0), none⟩,
  ⟨(some 5), .box 35 (.t 1), none⟩,
  ⟨(some 8), .move (.c (.bool false)), none⟩]) (.seq (.reg [] [⟨(some 9), .move (.t 2), none⟩,
  ⟨(some 10), .move (.t 9), none⟩,
  ⟨(some 11), .move (.t 3), (some (10, true))⟩,
  ⟨(some 12), .pick (.t 10) (.t 11) (.c (.bool false)), none⟩,
  ⟨(some 13), .move (.t 12), none⟩,
  ⟨(some 14), .load 35 (.t 4), (some (13, true))⟩,
  ⟨(some 15), .load 35 (.t 5), (some (13, true))⟩,
  ⟨(some 16), .call (.f 89) [.t 14, .t 15], (some (13, true))⟩,
  ⟨(some 17), .pick (.t 13) (.t 16) (.c (.bool false)), none⟩,
  ⟨(some 8), .move (.t 17), none⟩]) (.ret))
theorem ok88 : FnOk Try.prog tau 88 c88 [.t 8] 4 := ⟨Try.f88, _, Try.func88, rfl, by kernel_rfl, by kernel_rfl, by kernel_rfl, of_decide_eq_true (by kernel_rfl)⟩
/-- dogwatch/diff.moved -/
def c89 : C :=
  .seq (.reg [] [⟨(some 2), .box 35 (.t 0), none⟩,
  ⟨(some 3), .box 35 (.t 1), none⟩,
  ⟨(some 4), .move (.c (.bool false)), none⟩]) (.seq (.reg [] [⟨(some 5), .fieldAddr 35 (.t 2) 3, none⟩,
  ⟨(some 6), .load 33 (.t 5), none⟩,
  ⟨(some 7), .fieldAddr 35 (.t 3) 3, none⟩,
  ⟨(some 8), .load 33 (.t 7), none⟩,
  ⟨(some 9), .call (.f 133) [.t 6, .t 8], none⟩,
  ⟨(some 10), .unOp .not 4 (.t 9), none⟩,
  ⟨(some 11), .move (.t 10), none⟩,
  ⟨(some 12), .fieldAddr 35 (.t 2) 3, (some (11, false))⟩,
  ⟨(some 13), .load 33 (.t 12), (some (11, false))⟩,
  ⟨(some 14), .len 33 (.t 13), (some (11, false))⟩,
  ⟨(some 15), .binOp .eql 3 (.t 14) (.c (.int .i64 0)), (some (11, false))⟩,
  ⟨(some 16), .move (.t 15), (some (11, false))⟩,
  ⟨(some 17), .fieldAddr 35 (.t 2) 2, (some (16, true))⟩,
  ⟨(some 18), .load 3 (.t 17), (some (16, true))⟩,
  ⟨(some 19), .fieldAddr 35 (.t 3) 2, (some (16, true))⟩,
  ⟨(some 20), .load 3 (.t 19), (some (16, true))⟩,
  ⟨(some 21), .binOp .neq 3 (.t 18) (.t 20), (some (16, true))⟩,
  ⟨(some 22), .pick (.t 16) (.t 21) (.c (.bool false)), (some (11, false))⟩,
  ⟨(some 23), .pick (.t 11) (.c (.bool true)) (.t 22), none⟩,
  ⟨(some 4), .move (.t 23), none⟩]) (.ret))
theorem ok89 : FnOk Try.prog tau 89 c89 [.t 4] 2 := ⟨Try.f89, _, Try.func89, rfl, by kernel_rfl, by kernel_rfl, by kernel_rfl, of_decide_eq_true (by kernel_rfl)⟩
/-- dogwatch/order.Kind -/
def c97 : C :=
  .seq (.reg [] [⟨(some 2), .move (.c (.int .i64 0)), none⟩,
  ⟨(some 3), .move (.c (.bool false)), none⟩,
  ⟨(some 4), .move (.c (.bool false)), none⟩]) (.seq (.block 0 (.seq (.reg [] [⟨(some 6), .move (.t 0), none⟩,
  ⟨(some 7), .binOp .geq 3 (.t 6) (.c (.int .i64 1)), none⟩,
  ⟨(some 8), .move (.t 7), none⟩,
  ⟨(some 9), .move (.t 0), (some (8, true))⟩,
  ⟨(some 10), .binOp .leq 3 (.t 9) (.c (.int .i64 200)), (some (8, true))⟩,
  ⟨(some 11), .pick (.t 8) (.t 10) (.c (.bool false)), none⟩,
  ⟨(some 5), .move (.t 11), none⟩]) (.cond (.t 5) (.seq (.reg [] [⟨(some 12), .move (.t 0), none⟩,
  ⟨(some 2), .move (.t 12), none⟩,
  ⟨(some 3), .move (.c (.bool false)), none⟩,
  ⟨(some 4), .move (.c (.bool true)), none⟩]) (.ret)) (.seq (.reg [] [⟨(some 14), .move (.t 0), none⟩,
  ⟨(some 15), .binOp .gtr 3 (.t 14) (.c (.int .i64 1000)), none⟩,
  ⟨(some 16), .move (.t 15), none⟩,
  ⟨(some 17), .move (.t 0), (some (16, true))⟩,
  ⟨(some 18), .binOp .leq 3 (.t 17) (.c (.int .i64 1040)), (some (16, true))⟩,
  ⟨(some 19), .pick (.t 16) (.t 18) (.c (.bool false)), none⟩,
  ⟨(some 13), .move (.t 19), none⟩]) (.cond (.t 13) (.seq (.reg [] [⟨(some 20), .move (.t 0), none⟩,
  ⟨(some 21), .binOp .sub 3 (.t 20) (.c (.int .i64 1000)), none⟩,
  ⟨(some 2), .move (.t 21), none⟩,
  ⟨(some 3), .move (.c (.bool true)), none⟩,
  ⟨(some 4), .move (.c (.bool true)), none⟩]) (.ret)) (.skip)))))) (.seq (.reg [] [⟨(some 2), .move (.c (.int .i64 0)), none⟩,
  ⟨(some 3), .move (.c (.bool false)), none⟩,
  ⟨(some 4), .move (.c (.bool false)), none⟩]) (.ret)))
theorem ok97 : FnOk Try.prog tau 97 c97 [.t 2, .t 3, .t 4] 1 := ⟨Try.f97, _, Try.func97, rfl, by kernel_rfl, by kernel_rfl, by kernel_rfl, of_decide_eq_true (by kernel_rfl)⟩
/-- dogwatch/plan.Check -/
def c100 : C :=
  .seq (.reg [] [⟨(some 1), .box 25 (.t 0), none⟩,
  ⟨(some 2), .move (.c (.int .i64 0)), none⟩]) (.seq (.seq (.reg [] [⟨(some 7), .fieldAddr 25 (.t 1) 0, none⟩,
  ⟨(some 8), .load 3 (.t 7), none⟩,
  ⟨(some 9), .binOp .lss 3 (.t 8) (.c (.int .i64 2)), none⟩,
  ⟨(some 10), .move (.t 9), none⟩,
  ⟨(some 11), .fieldAddr 25 (.t 1) 0, (some (10, false))⟩,
  ⟨(some 12), .load 3 (.t 11), (some (10, false))⟩,
  ⟨(some 13), .binOp .gtr 3 (.t 12) (.c (.int .i64 64)), (some (10, false))⟩,
  ⟨(some 14), .pick (.t 10) (.c (.bool true)) (.t 13), none⟩,
  ⟨(some 15), .move (.t 14), none⟩,
  ⟨(some 16), .fieldAddr 25 (.t 1) 1, (some (15, false))⟩,
  ⟨(some 17), .load 22 (.t 16), (some (15, false))⟩,
  ⟨(some 18), .binOp .eql 22 (.t 17) (.c (.int .u32 0)), (some (15, false))⟩,
  ⟨(some 19), .pick (.t 15) (.c (.bool true)) (.t 18), none⟩,
  ⟨(some 20), .move (.t 19), none⟩,
  ⟨(some 21), .fieldAddr 25 (.t 1) 1, (some (20, false))⟩,
  ⟨(some 22), .load 22 (.t 21), (some (20, false))⟩,
  ⟨(some 23), .binOp .shr 22 (.t 22) (.c (.int .u64 16)), (some (20, false))⟩,
  ⟨(some 24), .binOp .neq 22 (.t 23) (.c (.int .u32 0)), (some (20, false))⟩,
  ⟨(some 25), .pick (.t 20) (.c (.bool true)) (.t 24), none⟩]) (.cond (.t 25) (.seq (.reg [] [⟨(some 2), .move (.c (.int .i64 30)), none⟩]) (.ret)) (.skip))) (.seq (.seq (.reg [] [⟨(some 26), .fieldAddr 25 (.t 1) 2, none⟩,
  ⟨(some 27), .load 23 (.t 26), none⟩,
  ⟨(some 28), .len 23 (.t 27), none⟩,
  ⟨(some 29), .move (.c (.int .i64 0)), none⟩]) (.block 0 (.loop [1, 27, 28, 29] (.seq (.reg [] [⟨(some 30), .binOp .lss 3 (.t 29) (.t 28), none⟩]) (.seq (.cond (.t 30) (.skip) (.exit 0)) (.seq (.block 1 (.seq (.reg [] [⟨(some 31), .move (.t 29), none⟩,
  ⟨(some 32), .indexAddr 23 (.t 27) (.t 29), none⟩,
  ⟨(some 33), .load 35 (.t 32), none⟩,
  ⟨(some 4), .alloc 35, none⟩,
  ⟨(some 3), .move (.t 31), none⟩,
  ⟨none, .store 35 (.t 4) (.t 33), none⟩]) (.seq (.reg [0, 1, 2, 3, 4, 5, 6, 7, 8, 9, 10, 11, 12, 13, 14, 15, 16, 17, 18, 19] [⟨(some 34), .load 25 (.t 1), none⟩,
  ⟨(some 35), .load 35 (.t 4), none⟩,
  ⟨(some 36), .call (.f 142) [.t 34, .t 35], none⟩,
  ⟨(some 37), .unOp .not 4 (.t 36), none⟩,
  ⟨(some 38), .move (.t 37), none⟩,
  ⟨(some 39), .move (.t 3), (some (38, false))⟩,
  ⟨(some 40), .binOp .gtr 3 (.t 39) (.c (.int .i64 0)), (some (38, false))⟩,
  ⟨(some 41), .move (.t 40), (some (38, false))⟩,
  ⟨(some 42), .fieldAddr 25 (.t 1) 2, (some (41, true))⟩,
  ⟨(some 43), .load 23 (.t 42), (some (41, true))⟩,
  ⟨(some 44), .move (.t 3), (some (41, true))⟩,
  ⟨(some 45), .binOp .sub 3 (.t 44) (.c (.int .i64 1)), (some (41, true))⟩,
  ⟨(some 46), .indexAddr 23 (.t 43) (.t 45), (some (41, true))⟩,
  ⟨(some 47), .fieldAddr 35 (.t 46) 0, (some (41, true))⟩,
  ⟨(some 48), .load 3 (.t 47), (some (41, true))⟩,
  ⟨(some 49), .fieldAddr 35 (.t 4) 0, (some (41, true))⟩,
  ⟨(some 50), .load 3 (.t 49), (some (41, true))⟩,
  ⟨(some 51), .binOp .geq 3 (.t 48) (.t 50), (some (41, true))⟩,
  ⟨(some 52), .pick (.t 41) (.t 51) (.c (.bool false)), (some (38, false))⟩,
  ⟨(some 53), .pick (.t 38) (.c (.bool true)) (.t 52), none⟩]) (.cond (.t 53) (.seq (.reg [] [⟨(some 2), .move (.c (.int .i64 30)), none⟩]) (.ret)) (.skip))))) (.reg [] [⟨(some 54), .binOp .add 3 (.t 29) (.c (.int .i64 1)), none⟩,
  ⟨(some 29), .move (.t 54), none⟩]))))))) (.seq (.seq (.reg [0, 1, 2, 3, 4, 5, 6, 7, 8, 9, 10] [⟨(some 55), .load 25 (.t 1), none⟩,
  ⟨(some 56), .call (.f 143) [.t 55], none⟩,
  ⟨(some 57), .unOp .not 4 (.t 56), none⟩,
  ⟨(some 58), .move (.t 57), none⟩,
  ⟨(some 59), .load 25 (.t 1), (some (58, false))⟩,
  ⟨(some 60), .callP (.f 108) [.t 59], (some (58, false))⟩,
  ⟨(some 61), .loadF 25 (.t 1) (.t 1), (some (58, false))⟩,
  ⟨(some 62), .call (.f 105) [.t 61], (some (58, false))⟩,
  ⟨(some 63), .len 42 (.t 62), (some (58, false))⟩,
  ⟨(some 64), .binOp .geq 3 (.t 60) (.t 63), (some (58, false))⟩,
  ⟨(some 65), .pick (.t 58) (.c (.bool true)) (.t 64), none⟩]) (.cond (.t 65) (.seq (.reg [] [⟨(some 2), .move (.c (.int .i64 30)), none⟩]) (.ret)) (.skip))) (.seq (.seq (.reg [] [⟨(some 66), .load 25 (.t 1), none⟩,
  ⟨(some 67), .call (.f 105) [.t 66], none⟩,
  ⟨(some 68), .len 42 (.t 67), none⟩,
  ⟨(some 69), .move (.c (.int .i64 0)), none⟩]) (.block 2 (.loop [1, 67, 68, 69] (.seq (.reg [] [⟨(some 70), .binOp .lss 3 (.t 69) (.t 68), none⟩]) (.seq (.cond (.t 70) (.skip) (.exit 2)) (.seq (.block 3 (.seq (.reg [] [⟨(some 71), .indexAddr 42 (.t 67) (.t 69), none⟩,
  ⟨(some 72), .load 3 (.t 71), none⟩,
  ⟨(some 6), .move (.t 72), none⟩]) (.seq (.reg [] [⟨(some 73), .load 25 (.t 1), none⟩,
  ⟨(some 74), .move (.t 6), none⟩,
  ⟨(some 75), .call (.f 144) [.t 73, .t 74], none⟩,
  ⟨(some 76), .binOp .lss 3 (.t 75) (.c (.int .i64 0)), none⟩]) (.cond (.t 76) (.seq (.reg [] [⟨(some 2), .move (.c (.int .i64 30)), none⟩]) (.ret)) (.skip))))) (.reg [] [⟨(some 77), .binOp .add 3 (.t 69) (.c (.int .i64 1)), none⟩,
  ⟨(some 69), .move (.t 77), none⟩]))))))) (.seq (.reg [] [⟨(some 2), .move (.c (.int .i64 0)), none⟩]) (.ret))))))
theorem ok100 : FnOk Try.prog tau 100 c100 [.t 2] 1 := ⟨Try.f100, _, Try.func100, rfl, by kernel_rfl, by kernel_rfl, by kernel_rfl, of_decide_eq_true (by kernel_rfl)⟩
/-- (*dogwatch/stage.Stage).none -/
def c101 : C :=
  .seq (.reg [] [⟨(some 2), .move (.c (.bool false)), none⟩]) (.seq (.reg [] [⟨(some 3), .move (.t 0), none⟩,
  ⟨(some 4), .binOp .eql 73 (.t 3) (.c (.nilp)), none⟩,
  ⟨(some 5), .move (.t 4), none⟩,
  ⟨(some 6), .move (.t 0), (some (5, false))⟩,
  ⟨(some 7), .nilCheck (.t 6), (some (5, false))⟩,
  ⟨(some 8), .fieldAddr 81 (.t 7) 0, (some (5, false))⟩,
  ⟨(some 9), .fieldAddr 25 (.t 8) 0, (some (5, false))⟩,
  ⟨(some 10), .load 3 (.t 9), (some (5, false))⟩,
  ⟨(some 11), .binOp .eql 3 (.t 10) (.c (.int .i64 0)), (some (5, false))⟩,
  ⟨(some 12), .pick (.t 5) (.c (.bool true)) (.t 11), none⟩,
  ⟨(some 2), .move (.t 12), none⟩]) (.ret))
theorem ok101 : FnOk Try.prog tau 101 c101 [.t 2] 1 := ⟨Try.f101, _, Try.func101, rfl, by kernel_rfl, by kernel_rfl, by kernel_rfl, of_decide_eq_true (by kernel_rfl)⟩
/-- dogwatch/stage.own -/
def c102 : C :=
  .seq (.reg [] [⟨(some 1), .box 25 (.t 0), none⟩,
  ⟨(some 2), .alloc 25, none⟩]) (.seq (.reg [] [⟨(some 3), .load 25 (.t 1), none⟩,
  ⟨(some 4), .call (.f 63) [.t 3, .c (.int .i64 0)], none⟩,
  ⟨none, .store 25 (.t 2) (.t 4), none⟩]) (.ret))
theorem ok102 : FnOk Try.prog tau 102 c102 [.c 2 25] 1 := ⟨Try.f102, _, Try.func102, rfl, by kernel_rfl, by kernel_rfl, by kernel_rfl, of_decide_eq_true (by kernel_rfl)⟩
/-- dogwatch/plan.Find -/
def c103 : C :=
  .seq (.reg [] [⟨(some 2), .box 25 (.t 0), none⟩,
  ⟨(some 4), .alloc 35, none⟩,
  ⟨(some 5), .move (.c (.bool false)), none⟩]) (.seq (.reg [] [⟨(some 10), .load 25 (.t 2), none⟩,
  ⟨(some 11), .move (.t 1), none⟩,
  ⟨(some 12), .call (.f 111) [.t 10, .t 11], none⟩,
  ⟨(some 9), .move (.t 12), none⟩,
  ⟨(some 13), .extract (.t 9) 0, none⟩,
  ⟨(some 14), .extract (.t 9) 1, none⟩,
  ⟨(some 6), .move (.t 13), none⟩,
  ⟨(some 7), .move (.t 14), none⟩]) (.seq (.seq (.reg [] [⟨(some 15), .move (.t 7), none⟩,
  ⟨(some 16), .unOp .not 4 (.t 15), none⟩]) (.cond (.t 16) (.seq (.reg [] [⟨(some 17), .build 35 [], none⟩,
  ⟨none, .store 35 (.t 4) (.t 17), none⟩,
  ⟨(some 5), .move (.c (.bool false)), none⟩]) (.ret)) (.skip))) (.seq (.reg [] [⟨(some 18), .fieldAddr 25 (.t 2) 2, none⟩,
  ⟨(some 19), .load 23 (.t 18), none⟩,
  ⟨(some 20), .move (.t 6), none⟩,
  ⟨(some 21), .indexAddr 23 (.t 19) (.t 20), none⟩,
  ⟨(some 22), .load 35 (.t 21), none⟩,
  ⟨(some 8), .alloc 35, none⟩,
  ⟨none, .store 35 (.t 8) (.t 22), none⟩]) (.seq (.reg [] [⟨(some 23), .fieldAddr 35 (.t 8) 3, none⟩,
  ⟨(some 24), .load 33 (.t 23), none⟩,
  ⟨(some 25), .callH (.f 113) [.t 24], none⟩,
  ⟨(some 26), .fieldAddr 35 (.t 8) 3, none⟩,
  ⟨none, .store 33 (.t 26) (.t 25), none⟩]) (.seq (.reg [] [⟨(some 27), .load 35 (.t 8), none⟩,
  ⟨none, .store 35 (.t 4) (.t 27), none⟩,
  ⟨(some 5), .move (.c (.bool true)), none⟩]) (.ret))))))
theorem ok103 : FnOk Try.prog tau 103 c103 [.c 4 35, .t 5] 2 := ⟨Try.f103, _, Try.func103, rfl, by kernel_rfl, by kernel_rfl, by kernel_rfl, of_decide_eq_true (by kernel_rfl)⟩
/-- dogwatch/plan.Same -/
def c104 : C :=
  .seq (.reg [] [⟨(some 2), .box 25 (.t 0), none⟩,
  ⟨(some 3), .box 25 (.t 1), none⟩,
  ⟨(some 4), .move (.c (.bool false)), none⟩]) (.seq (.reg [] [⟨(some 5), .fieldAddr 25 (.t 2) 0, none⟩,
  ⟨(some 6), .load 3 (.t 5), none⟩,
  ⟨(some 7), .fieldAddr 25 (.t 3) 0, none⟩,
  ⟨(some 8), .load 3 (.t 7), none⟩,
  ⟨(some 9), .binOp .eql 3 (.t 6) (.t 8), none⟩,
  ⟨(some 10), .move (.t 9), none⟩,
  ⟨(some 11), .fieldAddr 25 (.t 2) 1, (some (10, true))⟩,
  ⟨(some 12), .load 22 (.t 11), (some (10, true))⟩,
  ⟨(some 13), .fieldAddr 25 (.t 3) 1, (some (10, true))⟩,
  ⟨(some 14), .load 22 (.t 13), (some (10, true))⟩,
  ⟨(some 15), .binOp .eql 22 (.t 12) (.t 14), (some (10, true))⟩,
  ⟨(some 16), .pick (.t 10) (.t 15) (.c (.bool false)), none⟩,
  ⟨(some 17), .move (.t 16), none⟩,
  ⟨(some 18), .fieldAddr 25 (.t 2) 2, (some (17, true))⟩,
  ⟨(some 19), .load 23 (.t 18), (some (17, true))⟩,
  ⟨(some 20), .fieldAddr 25 (.t 3) 2, (some (17, true))⟩,
  ⟨(some 21), .load 23 (.t 20), (some (17, true))⟩,
  ⟨(some 22), .callH (.f 145) [.t 19, .t 21, .f 81], (some (17, true))⟩,
  ⟨(some 23), .pick (.t 17) (.t 22) (.c (.bool false)), none⟩,
  ⟨(some 4), .move (.t 23), none⟩]) (.ret))
theorem ok104 : FnOk Try.prog tau 104 c104 [.t 4] 2 := ⟨Try.f104, _, Try.func104, rfl, by kernel_rfl, by kernel_rfl, by kernel_rfl, of_decide_eq_true (by kernel_rfl)⟩
/-- dogwatch/plan.Cores -/
def c105 : C :=
  .seq (.reg [] [⟨(some 1), .box 25 (.t 0), none⟩,
  ⟨(some 2), .move (.c (.nils)), none⟩]) (.seq (.reg [] [⟨(some 3), .move (.c (.nils)), none⟩]) (.seq (.seq (.reg [] [⟨(some 5), .move (.c (.int .i64 0)), none⟩]) (.block 0 (.loop [1, 3, 5] (.seq (.reg [] [⟨(some 6), .binOp .lss 3 (.t 5) (.c (.int .i64 16)), none⟩]) (.seq (.cond (.t 6) (.skip) (.exit 0)) (.seq (.block 1 (.seq (.reg [] [⟨(some 7), .move (.t 5), none⟩,
  ⟨(some 4), .move (.t 7), none⟩]) (.seq (.reg [] [⟨(some 8), .load 25 (.t 1), none⟩,
  ⟨(some 9), .move (.t 4), none⟩,
  ⟨(some 10), .call (.f 146) [.t 8, .t 9], none⟩]) (.cond (.t 10) (.reg [] [⟨(some 11), .move (.t 3), none⟩,
  ⟨(some 12), .move (.t 4), none⟩,
  ⟨(some 13), .buildSlice 42 1 [(0, .t 12)], none⟩,
  ⟨(some 14), .append 42 (.t 11) (.t 13), none⟩,
  ⟨(some 3), .move (.t 14), none⟩]) (.skip))))) (.reg [] [⟨(some 15), .binOp .add 3 (.t 5) (.c (.int .i64 1)), none⟩,
  ⟨(some 5), .move (.t 15), none⟩]))))))) (.seq (.reg [] [⟨(some 16), .move (.t 3), none⟩,
  ⟨(some 2), .move (.t 16), none⟩]) (.ret))))
theorem ok105 : FnOk Try.prog tau 105 c105 [.t 2] 1 := ⟨Try.f105, _, Try.func105, rfl, by kernel_rfl, by kernel_rfl, by kernel_rfl, of_decide_eq_true (by kernel_rfl)⟩
/-- dogwatch/plan.Splits -/
def c108 : C :=
  .seq (.reg [] [⟨(some 1), .box 25 (.t 0), none⟩,
  ⟨(some 2), .move (.c (.int .i64 0)), none⟩]) (.seq (.reg [] [⟨(some 3), .move (.c (.int .i64 0)), none⟩]) (.seq (.seq (.reg [] [⟨(some 6), .fieldAddr 25 (.t 1) 2, none⟩,
  ⟨(some 7), .load 23 (.t 6), none⟩,
  ⟨(some 8), .len 23 (.t 7), none⟩,
  ⟨(some 9), .move (.c (.int .i64 0)), none⟩]) (.block 0 (.loop [3, 7, 8, 9] (.seq (.reg [] [⟨(some 10), .binOp .lss 3 (.t 9) (.t 8), none⟩]) (.seq (.cond (.t 10) (.skip) (.exit 0)) (.seq (.block 1 (.seq (.reg [] [⟨(some 11), .indexAddr 23 (.t 7) (.t 9), none⟩,
  ⟨(some 12), .load 35 (.t 11), none⟩,
  ⟨(some 5), .alloc 35, none⟩,
  ⟨none, .store 35 (.t 5) (.t 12), none⟩]) (.seq (.reg [] [⟨(some 13), .load 35 (.t 5), none⟩,
  ⟨(some 14), .call (.f 147) [.t 13], none⟩]) (.cond (.t 14) (.reg [] [⟨(some 15), .move (.t 3), none⟩,
  ⟨(some 16), .binOp .add 3 (.t 15) (.c (.int .i64 1)), none⟩,
  ⟨(some 3), .move (.t 16), none⟩]) (.skip))))) (.reg [] [⟨(some 17), .binOp .add 3 (.t 9) (.c (.int .i64 1)), none⟩,
  ⟨(some 9), .move (.t 17), none⟩]))))))) (.seq (.reg [] [⟨(some 18), .move (.t 3), none⟩,
  ⟨(some 2), .move (.t 18), none⟩]) (.ret))))
theorem ok108 : FnOk Try.prog tau 108 c108 [.t 2] 1 := ⟨Try.f108, _, Try.func108, rfl, by kernel_rfl, by kernel_rfl, by kernel_rfl, of_decide_eq_true (by kernel_rfl)⟩
/-- dogwatch/plan.clone -/
def c110 : C :=
  .seq (.reg [] [⟨(some 1), .box 25 (.t 0), none⟩,
  ⟨(some 2), .alloc 25, none⟩]) (.seq (.reg [] [⟨(some 6), .fieldAddr 25 (.t 1) 2, none⟩,
  ⟨(some 7), .load 23 (.t 6), none⟩,
  ⟨(some 8), .len 23 (.t 7), none⟩,
  ⟨(some 9), .makeSlice 23 (.c (.int .i64 0)) (.t 8), none⟩,
  ⟨(some 3), .move (.t 9), none⟩]) (.seq (.seq (.reg [] [⟨(some 10), .fieldAddr 25 (.t 1) 2, none⟩,
  ⟨(some 11), .load 23 (.t 10), none⟩,
  ⟨(some 12), .len 23 (.t 11), none⟩,
  ⟨(some 13), .move (.c (.int .i64 0)), none⟩]) (.block 0 (.loop [1, 2, 3, 11, 12, 13] (.seq (.reg [] [⟨(some 14), .binOp .lss 3 (.t 13) (.t 12), none⟩]) (.seq (.cond (.t 14) (.skip) (.exit 0)) (.seq (.block 1 (.seq (.reg [] [⟨(some 15), .indexAddr 23 (.t 11) (.t 13), none⟩,
  ⟨(some 16), .load 35 (.t 15), none⟩,
  ⟨(some 5), .alloc 35, none⟩,
  ⟨none, .store 35 (.t 5) (.t 16), none⟩]) (.seq (.reg [] [⟨(some 17), .fieldAddr 35 (.t 5) 3, none⟩,
  ⟨(some 18), .load 33 (.t 17), none⟩,
  ⟨(some 19), .callH (.f 113) [.t 18], none⟩,
  ⟨(some 20), .fieldAddr 35 (.t 5) 3, none⟩,
  ⟨none, .store 33 (.t 20) (.t 19), none⟩]) (.reg [] [⟨(some 21), .move (.t 3), none⟩,
  ⟨(some 22), .load 35 (.t 5), none⟩,
  ⟨(some 23), .buildSlice 23 1 [(0, .t 22)], none⟩,
  ⟨(some 24), .append 23 (.t 21) (.t 23), none⟩,
  ⟨(some 3), .move (.t 24), none⟩])))) (.reg [] [⟨(some 25), .binOp .add 3 (.t 13) (.c (.int .i64 1)), none⟩,
  ⟨(some 13), .move (.t 25), none⟩]))))))) (.seq (.reg [] [⟨(some 26), .move (.t 3), none⟩,
  ⟨(some 27), .fieldAddr 25 (.t 1) 2, none⟩,
  ⟨none, .store 23 (.t 27) (.t 26), none⟩]) (.seq (.reg [] [⟨(some 28), .load 25 (.t 1), none⟩,
  ⟨none, .store 25 (.t 2) (.t 28), none⟩]) (.ret)))))
theorem ok110 : FnOk Try.prog tau 110 c110 [.c 2 25] 1 := ⟨Try.f110, _, Try.func110, rfl, by kernel_rfl, by kernel_rfl, by kernel_rfl, of_decide_eq_true (by kernel_rfl)⟩
/-- dogwatch/plan.find -/
def c111 : C :=
  .seq (.reg [] [⟨(some 2), .box 25 (.t 0), none⟩,
  ⟨(some 4), .move (.c (.int .i64 0)), none⟩,
  ⟨(some 5), .move (.c (.bool false)), none⟩]) (.seq (.reg [] [⟨(some 6), .fieldAddr 25 (.t 2) 2, none⟩,
  ⟨(some 7), .load 23 (.t 6), none⟩,
  ⟨(some 8), .move (.t 1), none⟩,
  ⟨(some 9), .callH (.f 148) [.t 7, .t 8, .f 149], none⟩,
  ⟨(some 10), .extract (.t 9) 0, none⟩,
  ⟨(some 11), .extract (.t 9) 1, none⟩,
  ⟨(some 4), .move (.t 10), none⟩,
  ⟨(some 5), .move (.t 11), none⟩]) (.ret))
theorem ok111 : FnOk Try.prog tau 111 c111 [.t 4, .t 5] 2 := ⟨Try.f111, _, Try.func111, rfl, by kernel_rfl, by kernel_rfl, by kernel_rfl, of_decide_eq_true (by kernel_rfl)⟩
/-- slices.Delete[[]dogwatch/api.Place,dogwatch/api.Place] -/
def c112 : C :=
  .seq (.reg [] [⟨(some 6), .move (.c (.nils)), none⟩]) (.seq (.reg [] [⟨(some 8), .move (.t 0), none⟩,
  ⟨(some 9), .move (.t 1), none⟩,
  ⟨(some 10), .move (.t 2), none⟩,
  ⟨(some 11), .move (.t 0), none⟩,
  ⟨(some 12), .len 23 (.t 11), none⟩,
  ⟨(some 13), .slice3 23 (.t 8) (some (.t 9)) (.t 10) (.t 12), none⟩]) (.seq (.seq (.reg [] [⟨(some 14), .move (.t 1), none⟩,
  ⟨(some 15), .move (.t 2), none⟩,
  ⟨(some 16), .binOp .eql 3 (.t 14) (.t 15), none⟩]) (.cond (.t 16) (.seq (.reg [] [⟨(some 17), .move (.t 0), none⟩,
  ⟨(some 6), .move (.t 17), none⟩]) (.ret)) (.skip))) (.seq (.reg [] [⟨(some 18), .move (.t 0), none⟩,
  ⟨(some 19), .len 23 (.t 18), none⟩,
  ⟨(some 7), .move (.t 19), none⟩]) (.seq (.reg [0, 1, 2, 3, 4, 5, 6, 7] [⟨(some 20), .move (.t 0), none⟩,
  ⟨(some 21), .move (.t 1), none⟩,
  ⟨(some 22), .slice 23 (.t 20) none (some (.t 21)), none⟩,
  ⟨(some 23), .move (.t 0), none⟩,
  ⟨(some 24), .move (.t 2), none⟩,
  ⟨(some 25), .slice 23 (.t 23) (some (.t 24)) none, none⟩,
  ⟨(some 26), .append 23 (.t 22) (.t 25), none⟩,
  ⟨(some 0), .move (.t 26), none⟩]) (.seq (.reg [] [⟨(some 27), .move (.t 0), none⟩,
  ⟨(some 28), .move (.t 0), none⟩,
  ⟨(some 29), .len 23 (.t 28), none⟩,
  ⟨(some 30), .move (.t 7), none⟩,
  ⟨(some 31), .slice 23 (.t 27) (some (.t 29)) (some (.t 30)), none⟩,
  ⟨none, .clear 23 (.t 31), none⟩]) (.seq (.reg [] [⟨(some 32), .move (.t 0), none⟩,
  ⟨(some 6), .move (.t 32), none⟩]) (.ret)))))))
theorem ok112 : FnOk Try.prog tau 112 c112 [.t 6] 3 := ⟨Try.f112, _, Try.func112, rfl, by kernel_rfl, by kernel_rfl, by kernel_rfl, of_decide_eq_true (by kernel_rfl)⟩
/-- slices.Clone[[]dogwatch/api.Piece,dogwatch/api.Piece] -/
def c113 : C :=
  .seq (.reg [] [⟨(some 2), .move (.c (.nils)), none⟩]) (.seq (.seq (.reg [] [⟨(some 3), .move (.t 0), none⟩,
  ⟨(some 4), .binOp .eql 33 (.t 3) (.c (.nils)), none⟩]) (.cond (.t 4) (.seq (.reg [] [⟨(some 2), .move (.c (.nils)), none⟩]) (.ret)) (.skip))) (.seq (.reg [] [⟨(some 5), .buildSlice 33 0 [], none⟩,
  ⟨(some 6), .move (.t 0), none⟩,
  ⟨(some 7), .append 33 (.t 5) (.t 6), none⟩,
  ⟨(some 2), .move (.t 7), none⟩]) (.ret)))
theorem ok113 : FnOk Try.prog tau 113 c113 [.t 2] 1 := ⟨Try.f113, _, Try.func113, rfl, by kernel_rfl, by kernel_rfl, by kernel_rfl, of_decide_eq_true (by kernel_rfl)⟩
/-- cmp.Compare[int] -/
def c125 : C :=
  .seq (.reg [] [⟨(some 4), .move (.c (.int .i64 0)), none⟩]) (.seq (.reg [] [⟨(some 7), .move (.t 0), none⟩,
  ⟨(some 8), .call (.f 155) [.t 7], none⟩,
  ⟨(some 5), .move (.t 8), none⟩]) (.seq (.reg [] [⟨(some 9), .move (.t 1), none⟩,
  ⟨(some 10), .call (.f 155) [.t 9], none⟩,
  ⟨(some 6), .move (.t 10), none⟩]) (.seq (.seq (.reg [] [⟨(some 11), .move (.t 5), none⟩]) (.cond (.t 11) (.seq (.seq (.reg [] [⟨(some 12), .move (.t 6), none⟩]) (.cond (.t 12) (.seq (.reg [] [⟨(some 4), .move (.c (.int .i64 0)), none⟩]) (.ret)) (.skip))) (.seq (.reg [] [⟨(some 4), .move (.c (.int .i64 (-1))), none⟩]) (.ret))) (.skip))) (.seq (.seq (.reg [] [⟨(some 13), .move (.t 6), none⟩]) (.cond (.t 13) (.seq (.reg [] [⟨(some 4), .move (.c (.int .i64 1)), none⟩]) (.ret)) (.skip))) (.seq (.seq (.reg [] [⟨(some 14), .move (.t 0), none⟩,
  ⟨(some 15), .move (.t 1), none⟩,
  ⟨(some 16), .binOp .lss 3 (.t 14) (.t 15), none⟩]) (.cond (.t 16) (.seq (.reg [] [⟨(some 4), .move (.c (.int .i64 (-1))), none⟩]) (.ret)) (.skip))) (.seq (.seq (.reg [] [⟨(some 17), .move (.t 0), none⟩,
  ⟨(some 18), .move (.t 1), none⟩,
  ⟨(some 19), .binOp .gtr 3 (.t 17) (.t 18), none⟩]) (.cond (.t 19) (.seq (.reg [] [⟨(some 4), .move (.c (.int .i64 1)), none⟩]) (.ret)) (.skip))) (.seq (.reg [] [⟨(some 4), .move (.c (.int .i64 0)), none⟩]) (.ret))))))))
theorem ok125 : FnOk Try.prog tau 125 c125 [.t 4] 2 := ⟨Try.f125, _, Try.func125, rfl, by kernel_rfl, by kernel_rfl, by kernel_rfl, of_decide_eq_true (by kernel_rfl)⟩
/-- maps.Keys[map[int]dogwatch/api.Place,int,dogwatch/api.Place] -/
def c128 : C :=
  .seq (.reg [] [⟨(some 1), .box 101 (.t 0), none⟩,
  ⟨(some 2), .move (.c (.nilf)), none⟩]) (.seq (.reg [] [⟨(some 3), .mkClo 158 [.t 1], none⟩,
  ⟨(some 2), .move (.t 3), none⟩]) (.ret))
theorem ok128 : FnOk Try.prog tau 128 c128 [.t 2] 1 := ⟨Try.f128, _, Try.func128, rfl, by kernel_rfl, by kernel_rfl, by kernel_rfl, of_decide_eq_true (by kernel_rfl)⟩
/-- slices.DeleteFunc[[]int,int] -/
def c130 : C :=
  .seq (.reg [] [⟨(some 4), .move (.c (.nils)), none⟩]) (.seq (.reg [] [⟨(some 8), .move (.t 0), none⟩,
  ⟨(some 9), .move (.t 1), none⟩,
  ⟨(some 10), .callH (.f 160) [.t 8, .t 9], none⟩,
  ⟨(some 5), .move (.t 10), none⟩]) (.seq (.seq (.reg [] [⟨(some 11), .move (.t 5), none⟩,
  ⟨(some 12), .binOp .eql 3 (.t 11) (.c (.int .i64 (-1))), none⟩]) (.cond (.t 12) (.seq (.reg [] [⟨(some 13), .move (.t 0), none⟩,
  ⟨(some 4), .move (.t 13), none⟩]) (.ret)) (.skip))) (.seq (.seq (.reg [] [⟨(some 14), .move (.t 5), none⟩,
  ⟨(some 15), .binOp .add 3 (.t 14) (.c (.int .i64 1)), none⟩,
  ⟨(some 6), .move (.t 15), none⟩]) (.block 0 (.loop [0, 1, 5, 6] (.seq (.seq (.reg [] [⟨(some 16), .move (.t 6), none⟩,
  ⟨(some 17), .move (.t 0), none⟩,
  ⟨(some 18), .len 42 (.t 17), none⟩,
  ⟨(some 19), .binOp .lss 3 (.t 16) (.t 18), none⟩]) (.cond (.t 19) (.skip) (.exit 0))) (.seq (.block 1 (.seq (.reg [] [⟨(some 22), .move (.t 0), none⟩,
  ⟨(some 23), .move (.t 6), none⟩,
  ⟨(some 24), .indexAddr 42 (.t 22) (.t 23), none⟩,
  ⟨(some 25), .load 3 (.t 24), none⟩,
  ⟨(some 7), .move (.t 25), none⟩]) (.seq (.reg [] [⟨(some 26), .move (.t 1), none⟩,
  ⟨(some 27), .move (.t 7), none⟩,
  ⟨(some 28), .callH (.t 26) [.t 27], none⟩,
  ⟨(some 29), .unOp .not 4 (.t 28), none⟩]) (.cond (.t 29) (.seq (.reg [] [⟨(some 30), .move (.t 0), none⟩,
  ⟨(some 31), .move (.t 5), none⟩,
  ⟨(some 32), .move (.t 7), none⟩,
  ⟨(some 33), .indexAddr 42 (.t 30) (.t 31), none⟩,
  ⟨none, .store 3 (.t 33) (.t 32), none⟩]) (.reg [] [⟨(some 34), .move (.t 5), none⟩,
  ⟨(some 35), .binOp .add 3 (.t 34) (.c (.int .i64 1)), none⟩,
  ⟨(some 5), .move (.t 35), none⟩])) (.skip))))) (.reg [] [⟨(some 20), .move (.t 6), none⟩,
  ⟨(some 21), .binOp .add 3 (.t 20) (.c (.int .i64 1)), none⟩,
  ⟨(some 6), .move (.t 21), none⟩])))))) (.seq (.reg [] [⟨(some 36), .move (.t 0), none⟩,
  ⟨(some 37), .move (.t 5), none⟩,
  ⟨(some 38), .slice 42 (.t 36) (some (.t 37)) none, none⟩,
  ⟨none, .clear 42 (.t 38), none⟩]) (.seq (.reg [] [⟨(some 39), .move (.t 0), none⟩,
  ⟨(some 40), .move (.t 5), none⟩,
  ⟨(some 41), .slice 42 (.t 39) none (some (.t 40)), none⟩,
  ⟨(some 4), .move (.t 41), none⟩]) (.ret))))))
theorem ok130 : FnOk Try.prog tau 130 c130 [.t 4] 2 := ⟨Try.f130, _, Try.func130, rfl, by kernel_rfl, by kernel_rfl, by kernel_rfl, of_decide_eq_true (by kernel_rfl)⟩
/-- slices.Compact[[]int,int] -/
def c131 : C :=
  .seq (.reg [] [⟨(some 2), .move (.c (.nils)), none⟩]) (.seq (.seq (.reg [] [⟨(some 6), .move (.t 0), none⟩,
  ⟨(some 7), .len 42 (.t 6), none⟩,
  ⟨(some 8), .binOp .lss 3 (.t 7) (.c (.int .i64 2)), none⟩]) (.cond (.t 8) (.seq (.reg [] [⟨(some 9), .move (.t 0), none⟩,
  ⟨(some 2), .move (.t 9), none⟩]) (.ret)) (.skip))) (.seq (.seq (.reg [] [⟨(some 3), .move (.c (.int .i64 1)), none⟩]) (.block 0 (.loop [0, 3] (.seq (.seq (.reg [] [⟨(some 10), .move (.t 3), none⟩,
  ⟨(some 11), .move (.t 0), none⟩,
  ⟨(some 12), .len 42 (.t 11), none⟩,
  ⟨(some 13), .binOp .lss 3 (.t 10) (.t 12), none⟩]) (.cond (.t 13) (.skip) (.exit 0))) (.seq (.block 1 (.seq (.reg [0, 1, 2, 3, 4, 5, 6, 7, 8, 9] [⟨(some 16), .move (.t 0), none⟩,
  ⟨(some 17), .move (.t 3), none⟩,
  ⟨(some 18), .indexAddr 42 (.t 16) (.t 17), none⟩,
  ⟨(some 19), .load 3 (.t 18), none⟩,
  ⟨(some 20), .move (.t 0), none⟩,
  ⟨(some 21), .move (.t 3), none⟩,
  ⟨(some 22), .binOp .sub 3 (.t 21) (.c (.int .i64 1)), none⟩,
  ⟨(some 23), .indexAddr 42 (.t 20) (.t 22), none⟩,
  ⟨(some 24), .load 3 (.t 23), none⟩,
  ⟨(some 25), .binOp .eql 3 (.t 19) (.t 24), none⟩]) (.cond (.t 25) (.seq (.reg [] [⟨(some 26), .move (.t 0), none⟩,
  ⟨(some 27), .move (.t 3), none⟩,
  ⟨(some 28), .slice 42 (.t 26) (some (.t 27)) none, none⟩,
  ⟨(some 4), .move (.t 28), none⟩]) (.seq (.seq (.reg [] [⟨(some 5), .move (.c (.int .i64 1)), none⟩]) (.block 2 (.loop [0, 3, 4, 5] (.seq (.seq (.reg [] [⟨(some 29), .move (.t 5), none⟩,
  ⟨(some 30), .move (.t 4), none⟩,
  ⟨(some 31), .len 42 (.t 30), none⟩,
  ⟨(some 32), .binOp .lss 3 (.t 29) (.t 31), none⟩]) (.cond (.t 32) (.skip) (.exit 2))) (.seq (.block 3 (.seq (.reg [0, 1, 2, 3, 4, 5, 6, 7, 8, 9] [⟨(some 35), .move (.t 4), none⟩,
  ⟨(some 36), .move (.t 5), none⟩,
  ⟨(some 37), .indexAddr 42 (.t 35) (.t 36), none⟩,
  ⟨(some 38), .load 3 (.t 37), none⟩,
  ⟨(some 39), .move (.t 4), none⟩,
  ⟨(some 40), .move (.t 5), none⟩,
  ⟨(some 41), .binOp .sub 3 (.t 40) (.c (.int .i64 1)), none⟩,
  ⟨(some 42), .indexAddr 42 (.t 39) (.t 41), none⟩,
  ⟨(some 43), .load 3 (.t 42), none⟩,
  ⟨(some 44), .binOp .neq 3 (.t 38) (.t 43), none⟩]) (.cond (.t 44) (.seq (.reg [] [⟨(some 45), .move (.t 0), none⟩,
  ⟨(some 46), .move (.t 3), none⟩,
  ⟨(some 47), .move (.t 4), none⟩,
  ⟨(some 48), .move (.t 5), none⟩,
  ⟨(some 49), .indexAddr 42 (.t 47) (.t 48), none⟩,
  ⟨(some 50), .load 3 (.t 49), none⟩,
  ⟨(some 51), .indexAddr 42 (.t 45) (.t 46), none⟩,
  ⟨none, .store 3 (.t 51) (.t 50), none⟩]) (.reg [] [⟨(some 52), .move (.t 3), none⟩,
  ⟨(some 53), .binOp .add 3 (.t 52) (.c (.int .i64 1)), none⟩,
  ⟨(some 3), .move (.t 53), none⟩])) (.skip)))) (.reg [] [⟨(some 33), .move (.t 5), none⟩,
  ⟨(some 34), .binOp .add 3 (.t 33) (.c (.int .i64 1)), none⟩,
  ⟨(some 5), .move (.t 34), none⟩])))))) (.seq (.reg [] [⟨(some 54), .move (.t 0), none⟩,
  ⟨(some 55), .move (.t 3), none⟩,
  ⟨(some 56), .slice 42 (.t 54) (some (.t 55)) none, none⟩,
  ⟨none, .clear 42 (.t 56), none⟩]) (.seq (.reg [] [⟨(some 57), .move (.t 0), none⟩,
  ⟨(some 58), .move (.t 3), none⟩,
  ⟨(some 59), .slice 42 (.t 57) none (some (.t 58)), none⟩,
  ⟨(some 2), .move (.t 59), none⟩]) (.ret))))) (.skip)))) (.reg [] [⟨(some 14), .move (.t 3), none⟩,
  ⟨(some 15), .binOp .add 3 (.t 14) (.c (.int .i64 1)), none⟩,
  ⟨(some 3), .move (.t 15), none⟩])))))) (.seq (.reg [] [⟨(some 60), .move (.t 0), none⟩,
  ⟨(some 2), .move (.t 60), none⟩]) (.ret))))
theorem ok131 : FnOk Try.prog tau 131 c131 [.t 2] 1 := ⟨Try.f131, _, Try.func131, rfl, by kernel_rfl, by kernel_rfl, by kernel_rfl, of_decide_eq_true (by kernel_rfl)⟩
/-- dogwatch/diff.some$1 -/
def c132 : C :=
  .seq (.reg [] [⟨(some 5), .move (.c (.bool false)), none⟩]) (.seq (.reg [] [⟨(some 11), .load 101 (.t 1), none⟩,
  ⟨(some 12), .move (.t 0), none⟩,
  ⟨(some 13), .lookup 101 (.t 11) (.t 12) true, none⟩,
  ⟨(some 10), .move (.t 13), none⟩,
  ⟨(some 14), .extract (.t 10) 0, none⟩,
  ⟨(some 15), .extract (.t 10) 1, none⟩,
  ⟨(some 6), .alloc 35, none⟩,
  ⟨none, .store 35 (.t 6) (.t 14), none⟩,
  ⟨(some 7), .move (.t 15), none⟩]) (.seq (.reg [] [⟨(some 17), .load 101 (.t 2), none⟩,
  ⟨(some 18), .move (.t 0), none⟩,
  ⟨(some 19), .lookup 101 (.t 17) (.t 18) true, none⟩,
  ⟨(some 16), .move (.t 19), none⟩,
  ⟨(some 20), .extract (.t 16) 0, none⟩,
  ⟨(some 21), .extract (.t 16) 1, none⟩,
  ⟨(some 8), .alloc 35, none⟩,
  ⟨none, .store 35 (.t 8) (.t 20), none⟩,
  ⟨(some 9), .move (.t 21), none⟩]) (.seq (.reg [] [⟨(some 22), .load 104 (.t 3), none⟩,
  ⟨(some 23), .load 35 (.t 6), none⟩,
  ⟨(some 24), .load 35 (.t 8), none⟩,
  ⟨(some 25), .move (.t 7), none⟩,
  ⟨(some 26), .move (.t 9), none⟩,
  ⟨(some 27), .callH (.t 22) [.t 23, .t 24, .t 25, .t 26], none⟩,
  ⟨(some 28), .unOp .not 4 (.t 27), none⟩,
  ⟨(some 5), .move (.t 28), none⟩]) (.ret))))
theorem ok132 : FnOk Try.prog tau 132 c132 [.t 5] 4 := ⟨Try.f132, _, Try.func132, rfl, by kernel_rfl, by kernel_rfl, by kernel_rfl, of_decide_eq_true (by kernel_rfl)⟩
/-- slices.Equal[[]dogwatch/api.Piece,dogwatch/api.Piece] -/
def c133 : C :=
  .seq (.reg [] [⟨(some 4), .move (.c (.bool false)), none⟩]) (.seq (.seq (.reg [] [⟨(some 6), .move (.t 0), none⟩,
  ⟨(some 7), .len 33 (.t 6), none⟩,
  ⟨(some 8), .move (.t 1), none⟩,
  ⟨(some 9), .len 33 (.t 8), none⟩,
  ⟨(some 10), .binOp .neq 3 (.t 7) (.t 9), none⟩]) (.cond (.t 10) (.seq (.reg [] [⟨(some 4), .move (.c (.bool false)), none⟩]) (.ret)) (.skip))) (.seq (.seq (.reg [] [⟨(some 11), .move (.t 0), none⟩,
  ⟨(some 12), .len 33 (.t 11), none⟩,
  ⟨(some 13), .move (.c (.int .i64 0)), none⟩]) (.block 0 (.loop [0, 1, 12, 13] (.seq (.reg [] [⟨(some 14), .binOp .lss 3 (.t 13) (.t 12), none⟩]) (.seq (.cond (.t 14) (.skip) (.exit 0)) (.seq (.block 1 (.seq (.reg [] [⟨(some 15), .move (.t 13), none⟩,
  ⟨(some 5), .move (.t 15), none⟩]) (.seq (.reg [0, 1, 2, 3, 4, 5, 6, 7, 8] [⟨(some 16), .move (.t 0), none⟩,
  ⟨(some 17), .move (.t 5), none⟩,
  ⟨(some 18), .indexAddr 33 (.t 16) (.t 17), none⟩,
  ⟨(some 19), .load 48 (.t 18), none⟩,
  ⟨(some 20), .move (.t 1), none⟩,
  ⟨(some 21), .move (.t 5), none⟩,
  ⟨(some 22), .indexAddr 33 (.t 20) (.t 21), none⟩,
  ⟨(some 23), .load 48 (.t 22), none⟩,
  ⟨(some 24), .binOp .neq 48 (.t 19) (.t 23), none⟩]) (.cond (.t 24) (.seq (.reg [] [⟨(some 4), .move (.c (.bool false)), none⟩]) (.ret)) (.skip))))) (.reg [] [⟨(some 25), .binOp .add 3 (.t 13) (.c (.int .i64 1)), none⟩,
  ⟨(some 13), .move (.t 25), none⟩]))))))) (.seq (.reg [] [⟨(some 4), .move (.c (.bool true)), none⟩]) (.ret))))
theorem ok133 : FnOk Try.prog tau 133 c133 [.t 4] 2 := ⟨Try.f133, _, Try.func133, rfl, by kernel_rfl, by kernel_rfl, by kernel_rfl, of_decide_eq_true (by kernel_rfl)⟩
/-- math/bits.OnesCount64 -/
def c135 : C :=
  .seq (.reg [] [⟨(some 2), .move (.c (.int .i64 0)), none⟩]) (.seq (.reg [] [⟨(some 3), .move (.t 0), none⟩,
  ⟨(some 4), .binOp .shr 46 (.t 3) (.c (.int .u64 1)), none⟩,
  ⟨(some 5), .binOp .and 46 (.t 4) (.c (.int .u64 6148914691236517205)), none⟩,
  ⟨(some 6), .move (.t 0), none⟩,
  ⟨(some 7), .binOp .and 46 (.t 6) (.c (.int .u64 6148914691236517205)), none⟩,
  ⟨(some 8), .binOp .add 46 (.t 5) (.t 7), none⟩,
  ⟨(some 0), .move (.t 8), none⟩]) (.seq (.reg [] [⟨(some 9), .move (.t 0), none⟩,
  ⟨(some 10), .binOp .shr 46 (.t 9) (.c (.int .u64 2)), none⟩,
  ⟨(some 11), .binOp .and 46 (.t 10) (.c (.int .u64 3689348814741910323)), none⟩,
  ⟨(some 12), .move (.t 0), none⟩,
  ⟨(some 13), .binOp .and 46 (.t 12) (.c (.int .u64 3689348814741910323)), none⟩,
  ⟨(some 14), .binOp .add 46 (.t 11) (.t 13), none⟩,
  ⟨(some 0), .move (.t 14), none⟩]) (.seq (.reg [] [⟨(some 15), .move (.t 0), none⟩,
  ⟨(some 16), .binOp .shr 46 (.t 15) (.c (.int .u64 4)), none⟩,
  ⟨(some 17), .move (.t 0), none⟩,
  ⟨(some 18), .binOp .add 46 (.t 16) (.t 17), none⟩,
  ⟨(some 19), .binOp .and 46 (.t 18) (.c (.int .u64 1085102592571150095)), none⟩,
  ⟨(some 0), .move (.t 19), none⟩]) (.seq (.reg [] [⟨(some 20), .move (.t 0), none⟩,
  ⟨(some 21), .move (.t 0), none⟩,
  ⟨(some 22), .binOp .shr 46 (.t 21) (.c (.int .u64 8)), none⟩,
  ⟨(some 23), .binOp .add 46 (.t 20) (.t 22), none⟩,
  ⟨(some 0), .move (.t 23), none⟩]) (.seq (.reg [] [⟨(some 24), .move (.t 0), none⟩,
  ⟨(some 25), .move (.t 0), none⟩,
  ⟨(some 26), .binOp .shr 46 (.t 25) (.c (.int .u64 16)), none⟩,
  ⟨(some 27), .binOp .add 46 (.t 24) (.t 26), none⟩,
  ⟨(some 0), .move (.t 27), none⟩]) (.seq (.reg [] [⟨(some 28), .move (.t 0), none⟩,
  ⟨(some 29), .move (.t 0), none⟩,
  ⟨(some 30), .binOp .shr 46 (.t 29) (.c (.int .u64 32)), none⟩,
  ⟨(some 31), .binOp .add 46 (.t 28) (.t 30), none⟩,
  ⟨(some 0), .move (.t 31), none⟩]) (.seq (.reg [] [⟨(some 32), .move (.t 0), none⟩,
  ⟨(some 33), .convert 46 3 (.t 32), none⟩,
  ⟨(some 34), .binOp .and 3 (.t 33) (.c (.int .i64 127)), none⟩,
  ⟨(some 2), .move (.t 34), none⟩]) (.ret))))))))
theorem ok135 : FnOk Try.prog tau 135 c135 [.t 2] 1 := ⟨Try.f135, _, Try.func135, rfl, by kernel_rfl, by kernel_rfl, by kernel_rfl, of_decide_eq_true (by kernel_rfl)⟩
/-- dogwatch/plan.place -/
def c142 : C :=
  .seq (.reg [] [⟨(some 2), .box 25 (.t 0), none⟩,
  ⟨(some 3), .box 35 (.t 1), none⟩,
  ⟨(some 4), .move (.c (.bool false)), none⟩]) (.seq (.seq (.reg [] [⟨(some 9), .fieldAddr 35 (.t 3) 0, none⟩,
  ⟨(some 10), .load 3 (.t 9), none⟩,
  ⟨(some 11), .call (.f 97) [.t 10], none⟩,
  ⟨(some 8), .move (.t 11), none⟩,
  ⟨(some 12), .extract (.t 8) 0, none⟩,
  ⟨(some 13), .extract (.t 8) 1, none⟩,
  ⟨(some 14), .extract (.t 8) 2, none⟩,
  ⟨(some 5), .move (.t 12), none⟩,
  ⟨(some 6), .move (.t 13), none⟩,
  ⟨(some 7), .move (.t 14), none⟩]) (.seq (.reg [] [⟨(some 15), .move (.t 7), none⟩,
  ⟨(some 16), .unOp .not 4 (.t 15), none⟩,
  ⟨(some 17), .move (.t 16), none⟩,
  ⟨(some 18), .fieldAddr 35 (.t 3) 1, (some (17, false))⟩,
  ⟨(some 19), .load 3 (.t 18), (some (17, false))⟩,
  ⟨(some 20), .binOp .lss 3 (.t 19) (.c (.int .i64 1)), (some (17, false))⟩,
  ⟨(some 21), .pick (.t 17) (.c (.bool true)) (.t 20), none⟩,
  ⟨(some 22), .move (.t 21), none⟩,
  ⟨(some 23), .fieldAddr 35 (.t 3) 1, (some (22, false))⟩,
  ⟨(some 24), .load 3 (.t 23), (some (22, false))⟩,
  ⟨(some 25), .fieldAddr 25 (.t 2) 0, (some (22, false))⟩,
  ⟨(some 26), .load 3 (.t 25), (some (22, false))⟩,
  ⟨(some 27), .binOp .gtr 3 (.t 24) (.t 26), (some (22, false))⟩,
  ⟨(some 28), .pick (.t 22) (.c (.bool true)) (.t 27), none⟩]) (.cond (.t 28) (.seq (.reg [] [⟨(some 4), .move (.c (.bool false)), none⟩]) (.ret)) (.skip)))) (.seq (.seq (.reg [] [⟨(some 29), .load 35 (.t 3), none⟩,
  ⟨(some 30), .call (.f 147) [.t 29], none⟩]) (.cond (.t 30) (.seq (.reg [] [⟨(some 31), .load 25 (.t 2), none⟩,
  ⟨(some 32), .load 35 (.t 3), none⟩,
  ⟨(some 33), .call (.f 172) [.t 31, .t 32], none⟩,
  ⟨(some 4), .move (.t 33), none⟩]) (.ret)) (.skip))) (.seq (.reg [] [⟨(some 34), .load 25 (.t 2), none⟩,
  ⟨(some 35), .fieldAddr 35 (.t 3) 2, none⟩,
  ⟨(some 36), .load 3 (.t 35), none⟩,
  ⟨(some 37), .call (.f 146) [.t 34, .t 36], none⟩,
  ⟨(some 4), .move (.t 37), none⟩]) (.ret))))
theorem ok142 : FnOk Try.prog tau 142 c142 [.t 4] 2 := ⟨Try.f142, _, Try.func142, rfl, by kernel_rfl, by kernel_rfl, by kernel_rfl, of_decide_eq_true (by kernel_rfl)⟩
/-- dogwatch/plan.apart -/
def c143 : C :=
  .seq (.reg [] [⟨(some 1), .box 25 (.t 0), none⟩,
  ⟨(some 2), .move (.c (.bool false)), none⟩]) (.seq (.reg [] [⟨(some 3), .alloc 170, none⟩]) (.seq (.seq (.reg [] [⟨(some 8), .fieldAddr 25 (.t 1) 2, none⟩,
  ⟨(some 9), .load 23 (.t 8), none⟩,
  ⟨(some 10), .len 23 (.t 9), none⟩,
  ⟨(some 11), .move (.c (.int .i64 0)), none⟩]) (.block 0 (.loop [3, 9, 10, 11] (.seq (.reg [] [⟨(some 12), .binOp .lss 3 (.t 11) (.t 10), none⟩]) (.seq (.cond (.t 12) (.skip) (.exit 0)) (.seq (.block 1 (.seq (.reg [] [⟨(some 13), .indexAddr 23 (.t 9) (.t 11), none⟩,
  ⟨(some 14), .load 35 (.t 13), none⟩,
  ⟨(some 5), .alloc 35, none⟩,
  ⟨none, .store 35 (.t 5) (.t 14), none⟩]) (.seq (.reg [] [⟨(some 15), .fieldAddr 35 (.t 5) 3, none⟩,
  ⟨(some 16), .load 33 (.t 15), none⟩,
  ⟨(some 17), .len 33 (.t 16), none⟩,
  ⟨(some 18), .move (.c (.int .i64 0)), none⟩]) (.block 2 (.loop [3, 9, 10, 11, 16, 17, 18] (.seq (.reg [] [⟨(some 19), .binOp .lss 3 (.t 18) (.t 17), none⟩]) (.seq (.cond (.t 19) (.skip) (.exit 2)) (.seq (.block 3 (.seq (.reg [] [⟨(some 20), .indexAddr 33 (.t 16) (.t 18), none⟩,
  ⟨(some 21), .load 48 (.t 20), none⟩,
  ⟨(some 7), .alloc 48, none⟩,
  ⟨none, .store 48 (.t 7) (.t 21), none⟩]) (.seq (.seq (.reg [0, 1, 2, 3, 4, 5, 6, 7] [⟨(some 22), .fieldAddr 48 (.t 7) 0, none⟩,
  ⟨(some 23), .load 3 (.t 22), none⟩,
  ⟨(some 24), .indexAddr 170 (.t 3) (.t 23), none⟩,
  ⟨(some 25), .load 46 (.t 24), none⟩,
  ⟨(some 26), .fieldAddr 48 (.t 7) 1, none⟩,
  ⟨(some 27), .load 46 (.t 26), none⟩,
  ⟨(some 28), .binOp .and 46 (.t 25) (.t 27), none⟩,
  ⟨(some 29), .binOp .neq 46 (.t 28) (.c (.int .u64 0)), none⟩]) (.cond (.t 29) (.seq (.reg [] [⟨(some 2), .move (.c (.bool false)), none⟩]) (.ret)) (.skip))) (.reg [0, 1, 2, 3, 4, 5, 6, 7, 8] [⟨(some 30), .fieldAddr 48 (.t 7) 0, none⟩,
  ⟨(some 31), .load 3 (.t 30), none⟩,
  ⟨(some 32), .indexAddr 170 (.t 3) (.t 31), none⟩,
  ⟨(some 33), .load 46 (.t 32), none⟩,
  ⟨(some 34), .fieldAddr 48 (.t 7) 1, none⟩,
  ⟨(some 35), .load 46 (.t 34), none⟩,
  ⟨(some 36), .binOp .or 46 (.t 33) (.t 35), none⟩,
  ⟨(some 37), .indexAddr 170 (.t 3) (.t 31), none⟩,
  ⟨none, .store 46 (.t 37) (.t 36), none⟩])))) (.reg [] [⟨(some 38), .binOp .add 3 (.t 18) (.c (.int .i64 1)), none⟩,
  ⟨(some 18), .move (.t 38), none⟩]))))))))) (.reg [] [⟨(some 39), .binOp .add 3 (.t 11) (.c (.int .i64 1)), none⟩,
  ⟨(some 11), .move (.t 39), none⟩]))))))) (.seq (.reg [] [⟨(some 2), .move (.c (.bool true)), none⟩]) (.ret))))
theorem ok143 : FnOk Try.prog tau 143 c143 [.t 2] 1 := ⟨Try.f143, _, Try.func143, rfl, by kernel_rfl, by kernel_rfl, by kernel_rfl, of_decide_eq_true (by kernel_rfl)⟩
/-- dogwatch/plan.left -/
def c144 : C :=
  .seq (.reg [] [⟨(some 2), .box 25 (.t 0), none⟩,
  ⟨(some 4), .move (.c (.int .i64 0)), none⟩]) (.seq (.reg [0, 1, 2, 3, 4, 5, 6, 7] [⟨(some 8), .fieldAddr 25 (.t 2) 0, none⟩,
  ⟨(some 9), .loadF 3 (.t 8) (.t 2), none⟩,
  ⟨(some 10), .load 25 (.t 2), none⟩,
  ⟨(some 11), .move (.t 1), none⟩,
  ⟨(some 12), .callP (.f 173) [.t 10, .t 11], none⟩,
  ⟨(some 13), .callP (.f 85) [.t 12], none⟩,
  ⟨(some 14), .binOp .sub 3 (.t 9) (.t 13), none⟩,
  ⟨(some 5), .move (.t 14), none⟩]) (.seq (.seq (.reg [] [⟨(some 15), .load 25 (.t 2), none⟩,
  ⟨(some 16), .move (.t 1), none⟩,
  ⟨(some 17), .call (.f 174) [.t 15, .t 16], none⟩,
  ⟨(some 18), .len 26 (.t 17), none⟩,
  ⟨(some 19), .move (.c (.int .i64 0)), none⟩]) (.block 0 (.loop [5, 17, 18, 19] (.seq (.reg [] [⟨(some 20), .binOp .lss 3 (.t 19) (.t 18), none⟩]) (.seq (.cond (.t 20) (.skip) (.exit 0)) (.seq (.block 1 (.seq (.reg [] [⟨(some 21), .indexAddr 26 (.t 17) (.t 19), none⟩,
  ⟨(some 22), .load 39 (.t 21), none⟩,
  ⟨(some 7), .alloc 39, none⟩,
  ⟨none, .store 39 (.t 7) (.t 22), none⟩]) (.reg [] [⟨(some 23), .move (.t 5), none⟩,
  ⟨(some 24), .fieldAddr 39 (.t 7) 1, none⟩,
  ⟨(some 25), .load 3 (.t 24), none⟩,
  ⟨(some 26), .binOp .sub 3 (.t 23) (.t 25), none⟩,
  ⟨(some 5), .move (.t 26), none⟩]))) (.reg [] [⟨(some 27), .binOp .add 3 (.t 19) (.c (.int .i64 1)), none⟩,
  ⟨(some 19), .move (.t 27), none⟩]))))))) (.seq (.reg [] [⟨(some 28), .move (.t 5), none⟩,
  ⟨(some 4), .move (.t 28), none⟩]) (.ret))))
theorem ok144 : FnOk Try.prog tau 144 c144 [.t 4] 2 := ⟨Try.f144, _, Try.func144, rfl, by kernel_rfl, by kernel_rfl, by kernel_rfl, of_decide_eq_true (by kernel_rfl)⟩
/-- slices.EqualFunc[[]dogwatch/api.Place,[]dogwatch/api.Place,dogwatch/api.Place,dogwatch/api.Place] -/
def c145 : C :=
  .seq (.reg [] [⟨(some 6), .move (.c (.bool false)), none⟩]) (.seq (.seq (.reg [] [⟨(some 10), .move (.t 0), none⟩,
  ⟨(some 11), .len 23 (.t 10), none⟩,
  ⟨(some 12), .move (.t 1), none⟩,
  ⟨(some 13), .len 23 (.t 12), none⟩,
  ⟨(some 14), .binOp .neq 3 (.t 11) (.t 13), none⟩]) (.cond (.t 14) (.seq (.reg [] [⟨(some 6), .move (.c (.bool false)), none⟩]) (.ret)) (.skip))) (.seq (.seq (.reg [] [⟨(some 15), .move (.t 0), none⟩,
  ⟨(some 16), .len 23 (.t 15), none⟩,
  ⟨(some 17), .move (.c (.int .i64 0)), none⟩]) (.block 0 (.loop [1, 2, 15, 16, 17] (.seq (.reg [] [⟨(some 18), .binOp .lss 3 (.t 17) (.t 16), none⟩]) (.seq (.cond (.t 18) (.skip) (.exit 0)) (.seq (.block 1 (.seq (.reg [] [⟨(some 19), .move (.t 17), none⟩,
  ⟨(some 20), .indexAddr 23 (.t 15) (.t 17), none⟩,
  ⟨(some 21), .load 35 (.t 20), none⟩,
  ⟨(some 8), .alloc 35, none⟩,
  ⟨(some 7), .move (.t 19), none⟩,
  ⟨none, .store 35 (.t 8) (.t 21), none⟩]) (.seq (.reg [] [⟨(some 22), .move (.t 1), none⟩,
  ⟨(some 23), .move (.t 7), none⟩,
  ⟨(some 24), .indexAddr 23 (.t 22) (.t 23), none⟩,
  ⟨(some 25), .load 35 (.t 24), none⟩,
  ⟨(some 9), .alloc 35, none⟩,
  ⟨none, .store 35 (.t 9) (.t 25), none⟩]) (.seq (.reg [] [⟨(some 26), .move (.t 2), none⟩,
  ⟨(some 27), .load 35 (.t 8), none⟩,
  ⟨(some 28), .load 35 (.t 9), none⟩,
  ⟨(some 29), .callH (.t 26) [.t 27, .t 28], none⟩,
  ⟨(some 30), .unOp .not 4 (.t 29), none⟩]) (.cond (.t 30) (.seq (.reg [] [⟨(some 6), .move (.c (.bool false)), none⟩]) (.ret)) (.skip)))))) (.reg [] [⟨(some 31), .binOp .add 3 (.t 17) (.c (.int .i64 1)), none⟩,
  ⟨(some 17), .move (.t 31), none⟩]))))))) (.seq (.reg [] [⟨(some 6), .move (.c (.bool true)), none⟩]) (.ret))))
theorem ok145 : FnOk Try.prog tau 145 c145 [.t 6] 3 := ⟨Try.f145, _, Try.func145, rfl, by kernel_rfl, by kernel_rfl, by kernel_rfl, of_decide_eq_true (by kernel_rfl)⟩
/-- dogwatch/plan.has -/
def c146 : C :=
  .seq (.reg [] [⟨(some 2), .box 25 (.t 0), none⟩,
  ⟨(some 4), .move (.c (.bool false)), none⟩]) (.seq (.reg [] [⟨(some 5), .move (.t 1), none⟩,
  ⟨(some 6), .binOp .geq 3 (.t 5) (.c (.int .i64 0)), none⟩,
  ⟨(some 7), .move (.t 6), none⟩,
  ⟨(some 8), .move (.t 1), (some (7, true))⟩,
  ⟨(some 9), .binOp .lss 3 (.t 8) (.c (.int .i64 16)), (some (7, true))⟩,
  ⟨(some 10), .pick (.t 7) (.t 9) (.c (.bool false)), none⟩,
  ⟨(some 11), .move (.t 10), none⟩,
  ⟨(some 12), .fieldAddr 25 (.t 2) 1, (some (11, true))⟩,
  ⟨(some 13), .load 22 (.t 12), (some (11, true))⟩,
  ⟨(some 14), .move (.t 1), (some (11, true))⟩,
  ⟨(some 15), .binOp .shr 22 (.t 13) (.t 14), (some (11, true))⟩,
  ⟨(some 16), .binOp .and 22 (.t 15) (.c (.int .u32 1)), (some (11, true))⟩,
  ⟨(some 17), .binOp .eql 22 (.t 16) (.c (.int .u32 1)), (some (11, true))⟩,
  ⟨(some 18), .pick (.t 11) (.t 17) (.c (.bool false)), none⟩,
  ⟨(some 4), .move (.t 18), none⟩]) (.ret))
theorem ok146 : FnOk Try.prog tau 146 c146 [.t 4] 2 := ⟨Try.f146, _, Try.func146, rfl, by kernel_rfl, by kernel_rfl, by kernel_rfl, of_decide_eq_true (by kernel_rfl)⟩
/-- dogwatch/plan.split -/
def c147 : C :=
  .seq (.reg [] [⟨(some 1), .box 35 (.t 0), none⟩,
  ⟨(some 2), .move (.c (.bool false)), none⟩]) (.seq (.reg [] [⟨(some 3), .fieldAddr 35 (.t 1) 3, none⟩,
  ⟨(some 4), .load 33 (.t 3), none⟩,
  ⟨(some 5), .len 33 (.t 4), none⟩,
  ⟨(some 6), .binOp .gtr 3 (.t 5) (.c (.int .i64 0)), none⟩,
  ⟨(some 2), .move (.t 6), none⟩]) (.ret))
theorem ok147 : FnOk Try.prog tau 147 c147 [.t 2] 1 := ⟨Try.f147, _, Try.func147, rfl, by kernel_rfl, by kernel_rfl, by kernel_rfl, of_decide_eq_true (by kernel_rfl)⟩
/-- slices.BinarySearchFunc[[]dogwatch/api.Place,dogwatch/api.Place,int] -/
def c148 : C :=
  .seq (.reg [] [⟨(some 6), .move (.c (.int .i64 0)), none⟩,
  ⟨(some 7), .move (.c (.bool false)), none⟩]) (.seq (.reg [] [⟨(some 12), .move (.t 0), none⟩,
  ⟨(some 13), .len 23 (.t 12), none⟩,
  ⟨(some 8), .move (.t 13), none⟩]) (.seq (.reg [] [⟨(some 14), .move (.t 8), none⟩,
  ⟨(some 9), .move (.c (.int .i64 0)), none⟩,
  ⟨(some 10), .move (.t 14), none⟩]) (.seq (.block 0 (.loop [0, 1, 2, 8, 9, 10] (.seq (.seq (.reg [] [⟨(some 15), .move (.t 9), none⟩,
  ⟨(some 16), .move (.t 10), none⟩,
  ⟨(some 17), .binOp .lss 3 (.t 15) (.t 16), none⟩]) (.cond (.t 17) (.skip) (.exit 0))) (.block 1 (.seq (.reg [] [⟨(some 18), .move (.t 9), none⟩,
  ⟨(some 19), .move (.t 10), none⟩,
  ⟨(some 20), .binOp .add 3 (.t 18) (.t 19), none⟩,
  ⟨(some 21), .convert 3 145 (.t 20), none⟩,
  ⟨(some 22), .binOp .shr 145 (.t 21) (.c (.int .u64 1)), none⟩,
  ⟨(some 23), .convert 145 3 (.t 22), none⟩,
  ⟨(some 11), .move (.t 23), none⟩]) (.seq (.reg [] [⟨(some 24), .move (.t 2), none⟩,
  ⟨(some 25), .move (.t 0), none⟩,
  ⟨(some 26), .move (.t 11), none⟩,
  ⟨(some 27), .indexAddr 23 (.t 25) (.t 26), none⟩,
  ⟨(some 28), .load 35 (.t 27), none⟩,
  ⟨(some 29), .move (.t 1), none⟩,
  ⟨(some 30), .callH (.t 24) [.t 28, .t 29], none⟩,
  ⟨(some 31), .binOp .lss 3 (.t 30) (.c (.int .i64 0)), none⟩]) (.cond (.t 31) (.reg [] [⟨(some 32), .move (.t 11), none⟩,
  ⟨(some 33), .binOp .add 3 (.t 32) (.c (.int .i64 1)), none⟩,
  ⟨(some 9), .move (.t 33), none⟩]) (.reg [] [⟨(some 34), .move (.t 11), none⟩,
  ⟨(some 10), .move (.t 34), none⟩])))))))) (.seq (.reg [] [⟨(some 35), .move (.t 9), none⟩,
  ⟨(some 36), .move (.t 9), none⟩,
  ⟨(some 37), .move (.t 8), none⟩,
  ⟨(some 38), .binOp .lss 3 (.t 36) (.t 37), none⟩,
  ⟨(some 39), .move (.t 38), none⟩,
  ⟨(some 40), .move (.t 2), (some (39, true))⟩,
  ⟨(some 41), .move (.t 0), (some (39, true))⟩,
  ⟨(some 42), .move (.t 9), (some (39, true))⟩,
  ⟨(some 43), .indexAddr 23 (.t 41) (.t 42), (some (39, true))⟩,
  ⟨(some 44), .load 35 (.t 43), (some (39, true))⟩,
  ⟨(some 45), .move (.t 1), (some (39, true))⟩,
  ⟨(some 46), .callH (.t 40) [.t 44, .t 45], (some (39, true))⟩,
  ⟨(some 47), .binOp .eql 3 (.t 46) (.c (.int .i64 0)), (some (39, true))⟩,
  ⟨(some 48), .pick (.t 39) (.t 47) (.c (.bool false)), none⟩,
  ⟨(some 6), .move (.t 35), none⟩,
  ⟨(some 7), .move (.t 48), none⟩]) (.ret)))))
theorem ok148 : FnOk Try.prog tau 148 c148 [.t 6, .t 7] 3 := ⟨Try.f148, _, Try.func148, rfl, by kernel_rfl, by kernel_rfl, by kernel_rfl, of_decide_eq_true (by kernel_rfl)⟩
/-- dogwatch/plan.find$1 -/
def c149 : C :=
  .seq (.reg [] [⟨(some 2), .box 35 (.t 0), none⟩,
  ⟨(some 4), .move (.c (.int .i64 0)), none⟩]) (.seq (.reg [] [⟨(some 5), .fieldAddr 35 (.t 2) 0, none⟩,
  ⟨(some 6), .load 3 (.t 5), none⟩,
  ⟨(some 7), .move (.t 1), none⟩,
  ⟨(some 8), .call (.f 125) [.t 6, .t 7], none⟩,
  ⟨(some 4), .move (.t 8), none⟩]) (.ret))
theorem ok149 : FnOk Try.prog tau 149 c149 [.t 4] 2 := ⟨Try.f149, _, Try.func149, rfl, by kernel_rfl, by kernel_rfl, by kernel_rfl, of_decide_eq_true (by kernel_rfl)⟩
/-- cmp.isNaN[int] -/
def c155 : C :=
  .seq (.reg [] [⟨(some 2), .move (.c (.bool false)), none⟩]) (.seq (.reg [] [⟨(some 3), .move (.t 0), none⟩,
  ⟨(some 4), .move (.t 0), none⟩,
  ⟨(some 5), .binOp .neq 3 (.t 3) (.t 4), none⟩,
  ⟨(some 2), .move (.t 5), none⟩]) (.ret))
theorem ok155 : FnOk Try.prog tau 155 c155 [.t 2] 1 := ⟨Try.f155, _, Try.func155, rfl, by kernel_rfl, by kernel_rfl, by kernel_rfl, of_decide_eq_true (by kernel_rfl)⟩
/-- slices.IndexFunc[[]int,int] -/
def c160 : C :=
  .seq (.reg [] [⟨(some 4), .move (.c (.int .i64 0)), none⟩]) (.seq (.seq (.reg [] [⟨(some 6), .move (.t 0), none⟩,
  ⟨(some 7), .len 42 (.t 6), none⟩,
  ⟨(some 8), .move (.c (.int .i64 0)), none⟩]) (.block 0 (.loop [0, 1, 7, 8] (.seq (.reg [] [⟨(some 9), .binOp .lss 3 (.t 8) (.t 7), none⟩]) (.seq (.cond (.t 9) (.skip) (.exit 0)) (.seq (.block 1 (.seq (.reg [] [⟨(some 10), .move (.t 8), none⟩,
  ⟨(some 5), .move (.t 10), none⟩]) (.seq (.reg [] [⟨(some 11), .move (.t 1), none⟩,
  ⟨(some 12), .move (.t 0), none⟩,
  ⟨(some 13), .move (.t 5), none⟩,
  ⟨(some 14), .indexAddr 42 (.t 12) (.t 13), none⟩,
  ⟨(some 15), .load 3 (.t 14), none⟩,
  ⟨(some 16), .callH (.t 11) [.t 15], none⟩]) (.cond (.t 16) (.seq (.reg [] [⟨(some 17), .move (.t 5), none⟩,
  ⟨(some 4), .move (.t 17), none⟩]) (.ret)) (.skip))))) (.reg [] [⟨(some 18), .binOp .add 3 (.t 8) (.c (.int .i64 1)), none⟩,
  ⟨(some 8), .move (.t 18), none⟩]))))))) (.seq (.reg [] [⟨(some 4), .move (.c (.int .i64 (-1))), none⟩]) (.ret)))
theorem ok160 : FnOk Try.prog tau 160 c160 [.t 4] 2 := ⟨Try.f160, _, Try.func160, rfl, by kernel_rfl, by kernel_rfl, by kernel_rfl, of_decide_eq_true (by kernel_rfl)⟩
/-- dogwatch/plan.pieces -/
def c172 : C :=
  .seq (.reg [] [⟨(some 2), .box 25 (.t 0), none⟩,
  ⟨(some 3), .box 35 (.t 1), none⟩,
  ⟨(some 4), .move (.c (.bool false)), none⟩]) (.seq (.reg [] [⟨(some 5), .move (.c (.int .u64 0)), none⟩]) (.seq (.seq (.reg [] [⟨(some 8), .fieldAddr 35 (.t 3) 3, none⟩,
  ⟨(some 9), .load 33 (.t 8), none⟩,
  ⟨(some 10), .len 33 (.t 9), none⟩,
  ⟨(some 11), .move (.c (.int .i64 0)), none⟩]) (.block 0 (.loop [2, 3, 5, 9, 10, 11] (.seq (.reg [] [⟨(some 12), .binOp .lss 3 (.t 11) (.t 10), none⟩]) (.seq (.cond (.t 12) (.skip) (.exit 0)) (.seq (.block 1 (.seq (.reg [] [⟨(some 13), .move (.t 11), none⟩,
  ⟨(some 14), .indexAddr 33 (.t 9) (.t 11), none⟩,
  ⟨(some 15), .load 48 (.t 14), none⟩,
  ⟨(some 7), .alloc 48, none⟩,
  ⟨(some 6), .move (.t 13), none⟩,
  ⟨none, .store 48 (.t 7) (.t 15), none⟩]) (.seq (.seq (.reg [0, 1, 2, 3, 4, 5, 6, 7, 8, 9, 10, 11, 12, 13, 14, 15, 16, 17, 18, 19, 20, 21, 22, 23, 24, 25, 26, 27, 28, 29, 30, 31, 32, 33, 34, 35, 36, 37, 38, 39, 40, 41] [⟨(some 16), .load 25 (.t 2), none⟩,
  ⟨(some 17), .fieldAddr 48 (.t 7) 0, none⟩,
  ⟨(some 18), .load 3 (.t 17), none⟩,
  ⟨(some 19), .call (.f 146) [.t 16, .t 18], none⟩,
  ⟨(some 20), .unOp .not 4 (.t 19), none⟩,
  ⟨(some 21), .move (.t 20), none⟩,
  ⟨(some 22), .move (.t 6), (some (21, false))⟩,
  ⟨(some 23), .binOp .gtr 3 (.t 22) (.c (.int .i64 0)), (some (21, false))⟩,
  ⟨(some 24), .move (.t 23), (some (21, false))⟩,
  ⟨(some 25), .fieldAddr 48 (.t 7) 0, (some (24, true))⟩,
  ⟨(some 26), .load 3 (.t 25), (some (24, true))⟩,
  ⟨(some 27), .fieldAddr 35 (.t 3) 3, (some (24, true))⟩,
  ⟨(some 28), .load 33 (.t 27), (some (24, true))⟩,
  ⟨(some 29), .move (.t 6), (some (24, true))⟩,
  ⟨(some 30), .binOp .sub 3 (.t 29) (.c (.int .i64 1)), (some (24, true))⟩,
  ⟨(some 31), .indexAddr 33 (.t 28) (.t 30), (some (24, true))⟩,
  ⟨(some 32), .fieldAddr 48 (.t 31) 0, (some (24, true))⟩,
  ⟨(some 33), .load 3 (.t 32), (some (24, true))⟩,
  ⟨(some 34), .binOp .leq 3 (.t 26) (.t 33), (some (24, true))⟩,
  ⟨(some 35), .pick (.t 24) (.t 34) (.c (.bool false)), (some (21, false))⟩,
  ⟨(some 36), .pick (.t 21) (.c (.bool true)) (.t 35), none⟩,
  ⟨(some 37), .move (.t 36), none⟩,
  ⟨(some 38), .fieldAddr 48 (.t 7) 1, (some (37, false))⟩,
  ⟨(some 39), .load 46 (.t 38), (some (37, false))⟩,
  ⟨(some 40), .binOp .eql 46 (.t 39) (.c (.int .u64 0)), (some (37, false))⟩,
  ⟨(some 41), .pick (.t 37) (.c (.bool true)) (.t 40), none⟩,
  ⟨(some 42), .move (.t 41), none⟩,
  ⟨(some 43), .fieldAddr 48 (.t 7) 1, (some (42, false))⟩,
  ⟨(some 44), .loadF 46 (.t 43) (.t 7), (some (42, false))⟩,
  ⟨(some 45), .fieldAddr 25 (.t 2) 0, (some (42, false))⟩,
  ⟨(some 46), .load 3 (.t 45), (some (42, false))⟩,
  ⟨(some 47), .callP (.f 178) [.t 46], (some (42, false))⟩,
  ⟨(some 48), .binOp .andNot 46 (.t 44) (.t 47), (some (42, false))⟩,
  ⟨(some 49), .binOp .neq 46 (.t 48) (.c (.int .u64 0)), (some (42, false))⟩,
  ⟨(some 50), .pick (.t 42) (.c (.bool true)) (.t 49), none⟩,
  ⟨(some 51), .move (.t 50), none⟩,
  ⟨(some 52), .fieldAddr 48 (.t 7) 1, (some (51, false))⟩,
  ⟨(some 53), .load 46 (.t 52), (some (51, false))⟩,
  ⟨(some 54), .move (.t 5), (some (51, false))⟩,
  ⟨(some 55), .binOp .and 46 (.t 53) (.t 54), (some (51, false))⟩,
  ⟨(some 56), .binOp .neq 46 (.t 55) (.c (.int .u64 0)), (some (51, false))⟩,
  ⟨(some 57), .pick (.t 51) (.c (.bool true)) (.t 56), none⟩]) (.cond (.t 57) (.seq (.reg [] [⟨(some 4), .move (.c (.bool false)), none⟩]) (.ret)) (.skip))) (.reg [] [⟨(some 58), .move (.t 5), none⟩,
  ⟨(some 59), .fieldAddr 48 (.t 7) 1, none⟩,
  ⟨(some 60), .load 46 (.t 59), none⟩,
  ⟨(some 61), .binOp .or 46 (.t 58) (.t 60), none⟩,
  ⟨(some 5), .move (.t 61), none⟩])))) (.reg [] [⟨(some 62), .binOp .add 3 (.t 11) (.c (.int .i64 1)), none⟩,
  ⟨(some 11), .move (.t 62), none⟩]))))))) (.seq (.reg [0, 1, 2, 3, 4, 5, 6, 7, 8, 9, 10, 11, 12, 13, 14, 15, 16] [⟨(some 63), .fieldAddr 35 (.t 3) 3, none⟩,
  ⟨(some 64), .load 33 (.t 63), none⟩,
  ⟨(some 65), .len 33 (.t 64), none⟩,
  ⟨(some 66), .binOp .gtr 3 (.t 65) (.c (.int .i64 1)), none⟩,
  ⟨(some 67), .move (.t 66), none⟩,
  ⟨(some 68), .fieldAddr 35 (.t 3) 2, (some (67, true))⟩,
  ⟨(some 69), .load 3 (.t 68), (some (67, true))⟩,
  ⟨(some 70), .binOp .eql 3 (.t 69) (.c (.int .i64 0)), (some (67, true))⟩,
  ⟨(some 71), .pick (.t 67) (.t 70) (.c (.bool false)), none⟩,
  ⟨(some 72), .move (.t 71), none⟩,
  ⟨(some 73), .move (.t 5), (some (72, true))⟩,
  ⟨(some 74), .callP (.f 85) [.t 73], (some (72, true))⟩,
  ⟨(some 75), .fieldAddr 35 (.t 3) 1, (some (72, true))⟩,
  ⟨(some 76), .loadF 3 (.t 75) (.t 3), (some (72, true))⟩,
  ⟨(some 77), .binOp .eql 3 (.t 74) (.t 76), (some (72, true))⟩,
  ⟨(some 78), .pick (.t 72) (.t 77) (.c (.bool false)), none⟩,
  ⟨(some 4), .move (.t 78), none⟩]) (.ret))))
theorem ok172 : FnOk Try.prog tau 172 c172 [.t 4] 2 := ⟨Try.f172, _, Try.func172, rfl, by kernel_rfl, by kernel_rfl, by kernel_rfl, of_decide_eq_true (by kernel_rfl)⟩
/-- dogwatch/plan.Windows -/
def c173 : C :=
  .seq (.reg [] [⟨(some 2), .box 25 (.t 0), none⟩,
  ⟨(some 4), .move (.c (.int .u64 0)), none⟩]) (.seq (.reg [] [⟨(some 5), .move (.c (.int .u64 0)), none⟩]) (.seq (.seq (.reg [] [⟨(some 10), .fieldAddr 25 (.t 2) 2, none⟩,
  ⟨(some 11), .load 23 (.t 10), none⟩,
  ⟨(some 12), .len 23 (.t 11), none⟩,
  ⟨(some 13), .move (.c (.int .i64 0)), none⟩]) (.block 0 (.loop [1, 5, 11, 12, 13] (.seq (.reg [] [⟨(some 14), .binOp .lss 3 (.t 13) (.t 12), none⟩]) (.seq (.cond (.t 14) (.skip) (.exit 0)) (.seq (.block 1 (.seq (.reg [] [⟨(some 15), .indexAddr 23 (.t 11) (.t 13), none⟩,
  ⟨(some 16), .load 35 (.t 15), none⟩,
  ⟨(some 7), .alloc 35, none⟩,
  ⟨none, .store 35 (.t 7) (.t 16), none⟩]) (.seq (.reg [] [⟨(some 17), .fieldAddr 35 (.t 7) 3, none⟩,
  ⟨(some 18), .load 33 (.t 17), none⟩,
  ⟨(some 19), .len 33 (.t 18), none⟩,
  ⟨(some 20), .move (.c (.int .i64 0)), none⟩]) (.block 2 (.loop [1, 5, 11, 12, 13, 18, 19, 20] (.seq (.reg [] [⟨(some 21), .binOp .lss 3 (.t 20) (.t 19), none⟩]) (.seq (.cond (.t 21) (.skip) (.exit 2)) (.seq (.block 3 (.seq (.reg [] [⟨(some 22), .indexAddr 33 (.t 18) (.t 20), none⟩,
  ⟨(some 23), .load 48 (.t 22), none⟩,
  ⟨(some 9), .alloc 48, none⟩,
  ⟨none, .store 48 (.t 9) (.t 23), none⟩]) (.seq (.reg [] [⟨(some 24), .fieldAddr 48 (.t 9) 0, none⟩,
  ⟨(some 25), .load 3 (.t 24), none⟩,
  ⟨(some 26), .move (.t 1), none⟩,
  ⟨(some 27), .binOp .eql 3 (.t 25) (.t 26), none⟩]) (.cond (.t 27) (.reg [] [⟨(some 28), .move (.t 5), none⟩,
  ⟨(some 29), .fieldAddr 48 (.t 9) 1, none⟩,
  ⟨(some 30), .load 46 (.t 29), none⟩,
  ⟨(some 31), .binOp .or 46 (.t 28) (.t 30), none⟩,
  ⟨(some 5), .move (.t 31), none⟩]) (.skip))))) (.reg [] [⟨(some 32), .binOp .add 3 (.t 20) (.c (.int .i64 1)), none⟩,
  ⟨(some 20), .move (.t 32), none⟩]))))))))) (.reg [] [⟨(some 33), .binOp .add 3 (.t 13) (.c (.int .i64 1)), none⟩,
  ⟨(some 13), .move (.t 33), none⟩]))))))) (.seq (.reg [] [⟨(some 34), .move (.t 5), none⟩,
  ⟨(some 4), .move (.t 34), none⟩]) (.ret))))
theorem ok173 : FnOk Try.prog tau 173 c173 [.t 4] 2 := ⟨Try.f173, _, Try.func173, rfl, by kernel_rfl, by kernel_rfl, by kernel_rfl, of_decide_eq_true (by kernel_rfl)⟩
/-- dogwatch/plan.Wholes -/
def c174 : C :=
  .seq (.reg [] [⟨(some 2), .box 25 (.t 0), none⟩,
  ⟨(some 4), .move (.c (.nils)), none⟩]) (.seq (.reg [] [⟨(some 5), .move (.c (.nils)), none⟩]) (.seq (.seq (.reg [] [⟨(some 8), .fieldAddr 25 (.t 2) 2, none⟩,
  ⟨(some 9), .load 23 (.t 8), none⟩,
  ⟨(some 10), .len 23 (.t 9), none⟩,
  ⟨(some 11), .move (.c (.int .i64 0)), none⟩]) (.block 0 (.loop [1, 5, 9, 10, 11] (.seq (.reg [] [⟨(some 12), .binOp .lss 3 (.t 11) (.t 10), none⟩]) (.seq (.cond (.t 12) (.skip) (.exit 0)) (.seq (.block 1 (.seq (.reg [] [⟨(some 13), .indexAddr 23 (.t 9) (.t 11), none⟩,
  ⟨(some 14), .load 35 (.t 13), none⟩,
  ⟨(some 7), .alloc 35, none⟩,
  ⟨none, .store 35 (.t 7) (.t 14), none⟩]) (.seq (.reg [] [⟨(some 15), .load 35 (.t 7), none⟩,
  ⟨(some 16), .call (.f 147) [.t 15], none⟩,
  ⟨(some 17), .unOp .not 4 (.t 16), none⟩,
  ⟨(some 18), .move (.t 17), none⟩,
  ⟨(some 19), .fieldAddr 35 (.t 7) 2, (some (18, true))⟩,
  ⟨(some 20), .load 3 (.t 19), (some (18, true))⟩,
  ⟨(some 21), .move (.t 1), (some (18, true))⟩,
  ⟨(some 22), .binOp .eql 3 (.t 20) (.t 21), (some (18, true))⟩,
  ⟨(some 23), .pick (.t 18) (.t 22) (.c (.bool false)), none⟩]) (.cond (.t 23) (.reg [] [⟨(some 24), .move (.t 5), none⟩,
  ⟨(some 25), .fieldAddr 35 (.t 7) 0, none⟩,
  ⟨(some 26), .load 3 (.t 25), none⟩,
  ⟨(some 27), .fieldAddr 35 (.t 7) 1, none⟩,
  ⟨(some 28), .load 3 (.t 27), none⟩,
  ⟨(some 29), .build 39 [(0, .t 26), (1, .t 28)], none⟩,
  ⟨(some 30), .buildSlice 26 1 [(0, .t 29)], none⟩,
  ⟨(some 31), .append 26 (.t 24) (.t 30), none⟩,
  ⟨(some 5), .move (.t 31), none⟩]) (.skip))))) (.reg [] [⟨(some 32), .binOp .add 3 (.t 11) (.c (.int .i64 1)), none⟩,
  ⟨(some 11), .move (.t 32), none⟩]))))))) (.seq (.reg [] [⟨(some 33), .move (.t 5), none⟩,
  ⟨(some 4), .move (.t 33), none⟩]) (.ret))))
theorem ok174 : FnOk Try.prog tau 174 c174 [.t 4] 2 := ⟨Try.f174, _, Try.func174, rfl, by kernel_rfl, by kernel_rfl, by kernel_rfl, of_decide_eq_true (by kernel_rfl)⟩
/-- dogwatch/mask.frame -/
def c176 : C :=
  .seq (.reg [] [⟨(some 2), .move (.c (.int .i64 0)), none⟩]) (.seq (.reg [] [⟨(some 3), .move (.t 0), none⟩,
  ⟨(some 4), .max (.t 3) (.c (.int .i64 0)), none⟩,
  ⟨(some 5), .min (.t 4) (.c (.int .i64 64)), none⟩,
  ⟨(some 2), .move (.t 5), none⟩]) (.ret))
theorem ok176 : FnOk Try.prog tau 176 c176 [.t 2] 1 := ⟨Try.f176, _, Try.func176, rfl, by kernel_rfl, by kernel_rfl, by kernel_rfl, of_decide_eq_true (by kernel_rfl)⟩
/-- dogwatch/mask.All -/
def c178 : C :=
  .seq (.reg [] [⟨(some 2), .move (.c (.int .u64 0)), none⟩]) (.seq (.reg [] [⟨(some 3), .move (.t 0), none⟩,
  ⟨(some 4), .call (.f 176) [.t 3], none⟩,
  ⟨(some 0), .move (.t 4), none⟩]) (.seq (.seq (.reg [] [⟨(some 5), .move (.t 0), none⟩,
  ⟨(some 6), .binOp .eql 3 (.t 5) (.c (.int .i64 64)), none⟩]) (.cond (.t 6) (.seq (.reg [] [⟨(some 2), .move (.c (.int .u64 18446744073709551615)), none⟩]) (.ret)) (.skip))) (.seq (.reg [] [⟨(some 7), .move (.t 0), none⟩,
  ⟨(some 8), .binOp .shl 46 (.c (.int .u64 1)) (.t 7), none⟩,
  ⟨(some 9), .binOp .sub 46 (.t 8) (.c (.int .u64 1)), none⟩,
  ⟨(some 2), .move (.t 9), none⟩]) (.ret))))
theorem ok178 : FnOk Try.prog tau 178 c178 [.t 2] 1 := ⟨Try.f178, _, Try.func178, rfl, by kernel_rfl, by kernel_rfl, by kernel_rfl, of_decide_eq_true (by kernel_rfl)⟩
def txtL : List (Nat × (C × List RV × Nat)) := [(12, c12, [.t 4], 2),
  (19, c19, [.t 4], 2),
  (36, c36, [.t 4], 2),
  (50, c50, [.t 4, .t 5], 2),
  (51, c51, [.c 2 25], 1),
  (52, c52, [.c 2 25], 1),
  (53, c53, [.t 4], 2),
  (54, c54, [.t 4], 2),
  (55, c55, [.t 2], 1),
  (56, c56, [.t 0], 0),
  (57, c57, [.c 0 25], 0),
  (58, c58, [.t 4], 2),
  (59, c59, [.t 2], 1),
  (60, c60, [.t 2], 1),
  (63, c63, [.c 4 25], 2),
  (78, c78, [.t 2], 1),
  (79, c79, [.t 6], 3),
  (81, c81, [.t 4], 2),
  (85, c85, [.t 2], 1),
  (88, c88, [.t 8], 4),
  (89, c89, [.t 4], 2),
  (97, c97, [.t 2, .t 3, .t 4], 1),
  (100, c100, [.t 2], 1),
  (101, c101, [.t 2], 1),
  (102, c102, [.c 2 25], 1),
  (103, c103, [.c 4 35, .t 5], 2),
  (104, c104, [.t 4], 2),
  (105, c105, [.t 2], 1),
  (108, c108, [.t 2], 1),
  (110, c110, [.c 2 25], 1),
  (111, c111, [.t 4, .t 5], 2),
  (112, c112, [.t 6], 3),
  (113, c113, [.t 2], 1),
  (125, c125, [.t 4], 2),
  (128, c128, [.t 2], 1),
  (130, c130, [.t 4], 2),
  (131, c131, [.t 2], 1),
  (132, c132, [.t 5], 4),
  (133, c133, [.t 4], 2),
  (135, c135, [.t 2], 1),
  (142, c142, [.t 4], 2),
  (143, c143, [.t 2], 1),
  (144, c144, [.t 4], 2),
  (145, c145, [.t 6], 3),
  (146, c146, [.t 4], 2),
  (147, c147, [.t 2], 1),
  (148, c148, [.t 6, .t 7], 3),
  (149, c149, [.t 4], 2),
  (155, c155, [.t 2], 1),
  (160, c160, [.t 4], 2),
  (172, c172, [.t 4], 2),
  (173, c173, [.t 4], 2),
  (174, c174, [.t 4], 2),
  (176, c176, [.t 2], 1),
  (178, c178, [.t 2], 1)]
def txt : Txt := txtOf txtL
theorem txt_all : AllOk Try.prog tau txtL := ⟨ok12, ok19, ok36, ok50, ok51, ok52, ok53, ok54, ok55, ok56, ok57, ok58, ok59, ok60, ok63, ok78, ok79, ok81, ok85, ok88, ok89, ok97, ok100, ok101, ok102, ok103, ok104, ok105, ok108, ok110, ok111, ok112, ok113, ok125, ok128, ok130, ok131, ok132, ok133, ok135, ok142, ok143, ok144, ok145, ok146, ok147, ok148, ok149, ok155, ok160, ok172, ok173, ok174, ok176, ok178, trivial⟩
theorem txt_ok : ∀ f c rs np, txt f = some (c, rs, np) → FnOk Try.prog tau f c rs np := txtOf_ok txt_all
theorem txt_12 : txt 12 = some (c12, [.t 4], 2) := by kernel_rfl
theorem txt_19 : txt 19 = some (c19, [.t 4], 2) := by kernel_rfl
theorem txt_36 : txt 36 = some (c36, [.t 4], 2) := by kernel_rfl
theorem txt_50 : txt 50 = some (c50, [.t 4, .t 5], 2) := by kernel_rfl
theorem txt_51 : txt 51 = some (c51, [.c 2 25], 1) := by kernel_rfl
theorem txt_52 : txt 52 = some (c52, [.c 2 25], 1) := by kernel_rfl
theorem txt_53 : txt 53 = some (c53, [.t 4], 2) := by kernel_rfl
theorem txt_54 : txt 54 = some (c54, [.t 4], 2) := by kernel_rfl
theorem txt_55 : txt 55 = some (c55, [.t 2], 1) := by kernel_rfl
theorem txt_56 : txt 56 = some (c56, [.t 0], 0) := by kernel_rfl
theorem txt_57 : txt 57 = some (c57, [.c 0 25], 0) := by kernel_rfl
theorem txt_58 : txt 58 = some (c58, [.t 4], 2) := by kernel_rfl
theorem txt_59 : txt 59 = some (c59, [.t 2], 1) := by kernel_rfl
theorem txt_60 : txt 60 = some (c60, [.t 2], 1) := by kernel_rfl
theorem txt_63 : txt 63 = some (c63, [.c 4 25], 2) := by kernel_rfl
theorem txt_78 : txt 78 = some (c78, [.t 2], 1) := by kernel_rfl
theorem txt_79 : txt 79 = some (c79, [.t 6], 3) := by kernel_rfl
theorem txt_81 : txt 81 = some (c81, [.t 4], 2) := by kernel_rfl
theorem txt_85 : txt 85 = some (c85, [.t 2], 1) := by kernel_rfl
theorem txt_88 : txt 88 = some (c88, [.t 8], 4) := by kernel_rfl
theorem txt_89 : txt 89 = some (c89, [.t 4], 2) := by kernel_rfl
theorem txt_97 : txt 97 = some (c97, [.t 2, .t 3, .t 4], 1) := by kernel_rfl
theorem txt_100 : txt 100 = some (c100, [.t 2], 1) := by kernel_rfl
theorem txt_101 : txt 101 = some (c101, [.t 2], 1) := by kernel_rfl
theorem txt_102 : txt 102 = some (c102, [.c 2 25], 1) := by kernel_rfl
theorem txt_103 : txt 103 = some (c103, [.c 4 35, .t 5], 2) := by kernel_rfl
theorem txt_104 : txt 104 = some (c104, [.t 4], 2) := by kernel_rfl
theorem txt_105 : txt 105 = some (c105, [.t 2], 1) := by kernel_rfl
theorem txt_108 : txt 108 = some (c108, [.t 2], 1) := by kernel_rfl
theorem txt_110 : txt 110 = some (c110, [.c 2 25], 1) := by kernel_rfl
theorem txt_111 : txt 111 = some (c111, [.t 4, .t 5], 2) := by kernel_rfl
theorem txt_112 : txt 112 = some (c112, [.t 6], 3) := by kernel_rfl
theorem txt_113 : txt 113 = some (c113, [.t 2], 1) := by kernel_rfl
theorem txt_125 : txt 125 = some (c125, [.t 4], 2) := by kernel_rfl
theorem txt_128 : txt 128 = some (c128, [.t 2], 1) := by kernel_rfl
theorem txt_130 : txt 130 = some (c130, [.t 4], 2) := by kernel_rfl
theorem txt_131 : txt 131 = some (c131, [.t 2], 1) := by kernel_rfl
theorem txt_132 : txt 132 = some (c132, [.t 5], 4) := by kernel_rfl
theorem txt_133 : txt 133 = some (c133, [.t 4], 2) := by kernel_rfl
theorem txt_135 : txt 135 = some (c135, [.t 2], 1) := by kernel_rfl
theorem txt_142 : txt 142 = some (c142, [.t 4], 2) := by kernel_rfl
theorem txt_143 : txt 143 = some (c143, [.t 2], 1) := by kernel_rfl
theorem txt_144 : txt 144 = some (c144, [.t 4], 2) := by kernel_rfl
theorem txt_145 : txt 145 = some (c145, [.t 6], 3) := by kernel_rfl
theorem txt_146 : txt 146 = some (c146, [.t 4], 2) := by kernel_rfl
theorem txt_147 : txt 147 = some (c147, [.t 2], 1) := by kernel_rfl
theorem txt_148 : txt 148 = some (c148, [.t 6, .t 7], 3) := by kernel_rfl
theorem txt_149 : txt 149 = some (c149, [.t 4], 2) := by kernel_rfl
theorem txt_155 : txt 155 = some (c155, [.t 2], 1) := by kernel_rfl
theorem txt_160 : txt 160 = some (c160, [.t 4], 2) := by kernel_rfl
theorem txt_172 : txt 172 = some (c172, [.t 4], 2) := by kernel_rfl
theorem txt_173 : txt 173 = some (c173, [.t 4], 2) := by kernel_rfl
theorem txt_174 : txt 174 = some (c174, [.t 4], 2) := by kernel_rfl
theorem txt_176 : txt 176 = some (c176, [.t 2], 1) := by kernel_rfl
theorem txt_178 : txt 178 = some (c178, [.t 2], 1) := by kernel_rfl
end Go.Proofs.Ytekmdejdkbllgaa.Ta
