import Derived.Test.YtemcdpkiphmndaaLc3
set_option linter.unusedSimpArgs false
set_option linter.unusedVariables false
namespace Go.Proofs.Ytemcdpkiphmndaa.Tb
open Go.Proofs.Ytemcdpkiphmndaa.Ab
set_option maxRecDepth 100000
structure Cmd where
  op : Int
  id : Int
  group : Int
  share : Int
  weight : Int
  cap : Int
  core : Int
  n : Int
def encC (c : Cmd) : List D := [.int .i64 c.op, .int .i64 c.id, .int .i64 c.group, .int .i64 c.share, .int .i64 c.weight, .int .i64 c.cap, .int .i64 c.core, .int .i64 c.n]
theorem encC_def (c) : encC c = [.int .i64 c.op, .int .i64 c.id, .int .i64 c.group, .int .i64 c.share, .int .i64 c.weight, .int .i64 c.cap, .int .i64 c.core, .int .i64 c.n] := rfl
def doR (s : Rs) (c : Cmd) : Int × Rs :=
  if c.op = 1 then arrive s c.id c.share else if c.op = 2 then depart s c.id else if c.op = 3 then reweight s c.id c.share
  else if c.op = 4 then off s c.id true else if c.op = 5 then off s c.id false else if c.op = 6 then found s c.group c.share
  else if c.op = 7 then fund s c.group c.share else if c.op = 8 then disband s c.group else if c.op = 9 then enter s c.id c.group c.weight c.cap
  else if c.op = 10 then weigh s c.id c.weight else if c.op = 11 then limit s c.id c.cap else if c.op = 12 then move s c.id c.group else (0, s)
theorem h33 (s : Rs) (hf : s.ok) (c : Cmd) : TI.h 33 [.ptr 0 0 0, .agg (encC c)] (hpR s) 3 = some (.int .i64 (doR s c).1, hpR (doR s c).2) := by
  refine TmI_introH lib_mono txt_33 rfl ?_
  by_cases e1 : c.op = 1
  · have a := h30 s hf c.id c.share
    simp -implicitDefEqProofs only [↓goP, goQ, tauS, Nat.reduceBEq, Nat.reduceBNe, Nat.reduceLT, Nat.reduceLeDiff, Nat.reduceAdd, Nat.reduceMul, Nat.reduceSub, Nat.reduceMod, Nat.reduceDiv, reduceCtorEq, Nat.reduceEqDiff, reduceIte, decide_true, decide_false, Int.reduceEq, Int.reduceNe, Int.reduceLT, Int.reduceLE, Int.reduceNeg, Int.reduceBEq, not_false_eq_true, not_true_eq_false, Int.reduceBNe, zeroD_struct, zeroD_int, zeroD_bool, List.set_cons_zero, List.set_cons_succ, c33, hpR, roS, a, e1, encC_def, doR]
  by_cases e2 : c.op = 2
  · have a := h78 s hf c.id
    simp -implicitDefEqProofs only [↓goP, goQ, tauS, Nat.reduceBEq, Nat.reduceBNe, Nat.reduceLT, Nat.reduceLeDiff, Nat.reduceAdd, Nat.reduceMul, Nat.reduceSub, Nat.reduceMod, Nat.reduceDiv, reduceCtorEq, Nat.reduceEqDiff, reduceIte, decide_true, decide_false, Int.reduceEq, Int.reduceNe, Int.reduceLT, Int.reduceLE, Int.reduceNeg, Int.reduceBEq, not_false_eq_true, not_true_eq_false, Int.reduceBNe, zeroD_struct, zeroD_int, zeroD_bool, List.set_cons_zero, List.set_cons_succ, c33, hpR, roS, a, e2, encC_def, doR]
  by_cases e3 : c.op = 3
  · have a := h77 s hf c.id c.share
    simp -implicitDefEqProofs only [↓goP, goQ, tauS, Nat.reduceBEq, Nat.reduceBNe, Nat.reduceLT, Nat.reduceLeDiff, Nat.reduceAdd, Nat.reduceMul, Nat.reduceSub, Nat.reduceMod, Nat.reduceDiv, reduceCtorEq, Nat.reduceEqDiff, reduceIte, decide_true, decide_false, Int.reduceEq, Int.reduceNe, Int.reduceLT, Int.reduceLE, Int.reduceNeg, Int.reduceBEq, not_false_eq_true, not_true_eq_false, Int.reduceBNe, zeroD_struct, zeroD_int, zeroD_bool, List.set_cons_zero, List.set_cons_succ, c33, hpR, roS, a, e3, encC_def, doR]
  by_cases e4 : c.op = 4
  · have a := h79 s hf c.id
    simp -implicitDefEqProofs only [↓goP, goQ, tauS, Nat.reduceBEq, Nat.reduceBNe, Nat.reduceLT, Nat.reduceLeDiff, Nat.reduceAdd, Nat.reduceMul, Nat.reduceSub, Nat.reduceMod, Nat.reduceDiv, reduceCtorEq, Nat.reduceEqDiff, reduceIte, decide_true, decide_false, Int.reduceEq, Int.reduceNe, Int.reduceLT, Int.reduceLE, Int.reduceNeg, Int.reduceBEq, not_false_eq_true, not_true_eq_false, Int.reduceBNe, zeroD_struct, zeroD_int, zeroD_bool, List.set_cons_zero, List.set_cons_succ, c33, hpR, roS, a, e4, encC_def, doR]
  by_cases e5 : c.op = 5
  · have a := h80 s hf c.id
    simp -implicitDefEqProofs only [↓goP, goQ, tauS, Nat.reduceBEq, Nat.reduceBNe, Nat.reduceLT, Nat.reduceLeDiff, Nat.reduceAdd, Nat.reduceMul, Nat.reduceSub, Nat.reduceMod, Nat.reduceDiv, reduceCtorEq, Nat.reduceEqDiff, reduceIte, decide_true, decide_false, Int.reduceEq, Int.reduceNe, Int.reduceLT, Int.reduceLE, Int.reduceNeg, Int.reduceBEq, not_false_eq_true, not_true_eq_false, Int.reduceBNe, zeroD_struct, zeroD_int, zeroD_bool, List.set_cons_zero, List.set_cons_succ, c33, hpR, roS, a, e5, encC_def, doR]
  by_cases e6 : c.op = 6
  · have a := h28 s hf c.group c.share
    simp -implicitDefEqProofs only [↓goP, goQ, tauS, Nat.reduceBEq, Nat.reduceBNe, Nat.reduceLT, Nat.reduceLeDiff, Nat.reduceAdd, Nat.reduceMul, Nat.reduceSub, Nat.reduceMod, Nat.reduceDiv, reduceCtorEq, Nat.reduceEqDiff, reduceIte, decide_true, decide_false, Int.reduceEq, Int.reduceNe, Int.reduceLT, Int.reduceLE, Int.reduceNeg, Int.reduceBEq, not_false_eq_true, not_true_eq_false, Int.reduceBNe, zeroD_struct, zeroD_int, zeroD_bool, List.set_cons_zero, List.set_cons_succ, c33, hpR, roS, a, e6, encC_def, doR]
  by_cases e7 : c.op = 7
  · have a := h81 s hf c.group c.share
    simp -implicitDefEqProofs only [↓goP, goQ, tauS, Nat.reduceBEq, Nat.reduceBNe, Nat.reduceLT, Nat.reduceLeDiff, Nat.reduceAdd, Nat.reduceMul, Nat.reduceSub, Nat.reduceMod, Nat.reduceDiv, reduceCtorEq, Nat.reduceEqDiff, reduceIte, decide_true, decide_false, Int.reduceEq, Int.reduceNe, Int.reduceLT, Int.reduceLE, Int.reduceNeg, Int.reduceBEq, not_false_eq_true, not_true_eq_false, Int.reduceBNe, zeroD_struct, zeroD_int, zeroD_bool, List.set_cons_zero, List.set_cons_succ, c33, hpR, roS, a, e7, encC_def, doR]
  by_cases e8 : c.op = 8
  · have a := h76 s hf c.group
    simp -implicitDefEqProofs only [↓goP, goQ, tauS, Nat.reduceBEq, Nat.reduceBNe, Nat.reduceLT, Nat.reduceLeDiff, Nat.reduceAdd, Nat.reduceMul, Nat.reduceSub, Nat.reduceMod, Nat.reduceDiv, reduceCtorEq, Nat.reduceEqDiff, reduceIte, decide_true, decide_false, Int.reduceEq, Int.reduceNe, Int.reduceLT, Int.reduceLE, Int.reduceNeg, Int.reduceBEq, not_false_eq_true, not_true_eq_false, Int.reduceBNe, zeroD_struct, zeroD_int, zeroD_bool, List.set_cons_zero, List.set_cons_succ, c33, hpR, roS, a, e8, encC_def, doR]
  by_cases e9 : c.op = 9
  · have a := h29 s hf c.id c.group c.weight c.cap
    simp -implicitDefEqProofs only [↓goP, goQ, tauS, Nat.reduceBEq, Nat.reduceBNe, Nat.reduceLT, Nat.reduceLeDiff, Nat.reduceAdd, Nat.reduceMul, Nat.reduceSub, Nat.reduceMod, Nat.reduceDiv, reduceCtorEq, Nat.reduceEqDiff, reduceIte, decide_true, decide_false, Int.reduceEq, Int.reduceNe, Int.reduceLT, Int.reduceLE, Int.reduceNeg, Int.reduceBEq, not_false_eq_true, not_true_eq_false, Int.reduceBNe, zeroD_struct, zeroD_int, zeroD_bool, List.set_cons_zero, List.set_cons_succ, c33, hpR, roS, a, e9, encC_def, doR]
  by_cases e10 : c.op = 10
  · have a := h82 s hf c.id c.weight
    simp -implicitDefEqProofs only [↓goP, goQ, tauS, Nat.reduceBEq, Nat.reduceBNe, Nat.reduceLT, Nat.reduceLeDiff, Nat.reduceAdd, Nat.reduceMul, Nat.reduceSub, Nat.reduceMod, Nat.reduceDiv, reduceCtorEq, Nat.reduceEqDiff, reduceIte, decide_true, decide_false, Int.reduceEq, Int.reduceNe, Int.reduceLT, Int.reduceLE, Int.reduceNeg, Int.reduceBEq, not_false_eq_true, not_true_eq_false, Int.reduceBNe, zeroD_struct, zeroD_int, zeroD_bool, List.set_cons_zero, List.set_cons_succ, c33, hpR, roS, a, e10, encC_def, doR]
  by_cases e11 : c.op = 11
  · have a := h83 s hf c.id c.cap
    simp -implicitDefEqProofs only [↓goP, goQ, tauS, Nat.reduceBEq, Nat.reduceBNe, Nat.reduceLT, Nat.reduceLeDiff, Nat.reduceAdd, Nat.reduceMul, Nat.reduceSub, Nat.reduceMod, Nat.reduceDiv, reduceCtorEq, Nat.reduceEqDiff, reduceIte, decide_true, decide_false, Int.reduceEq, Int.reduceNe, Int.reduceLT, Int.reduceLE, Int.reduceNeg, Int.reduceBEq, not_false_eq_true, not_true_eq_false, Int.reduceBNe, zeroD_struct, zeroD_int, zeroD_bool, List.set_cons_zero, List.set_cons_succ, c33, hpR, roS, a, e11, encC_def, doR]
  by_cases e12 : c.op = 12
  · have a := h84 s hf c.id c.group
    simp -implicitDefEqProofs only [↓goP, goQ, tauS, Nat.reduceBEq, Nat.reduceBNe, Nat.reduceLT, Nat.reduceLeDiff, Nat.reduceAdd, Nat.reduceMul, Nat.reduceSub, Nat.reduceMod, Nat.reduceDiv, reduceCtorEq, Nat.reduceEqDiff, reduceIte, decide_true, decide_false, Int.reduceEq, Int.reduceNe, Int.reduceLT, Int.reduceLE, Int.reduceNeg, Int.reduceBEq, not_false_eq_true, not_true_eq_false, Int.reduceBNe, zeroD_struct, zeroD_int, zeroD_bool, List.set_cons_zero, List.set_cons_succ, c33, hpR, roS, a, e12, encC_def, doR]
  · simp -implicitDefEqProofs only [↓goP, goQ, tauS, Nat.reduceBEq, Nat.reduceBNe, Nat.reduceLT, Nat.reduceLeDiff, Nat.reduceAdd, Nat.reduceMul, Nat.reduceSub, Nat.reduceMod, Nat.reduceDiv, reduceCtorEq, Nat.reduceEqDiff, reduceIte, decide_true, decide_false, Int.reduceEq, Int.reduceNe, Int.reduceLT, Int.reduceLE, Int.reduceNeg, Int.reduceBEq, not_false_eq_true, not_true_eq_false, Int.reduceBNe, zeroD_struct, zeroD_int, zeroD_bool, List.set_cons_zero, List.set_cons_succ, c33, hpR, roS, e1, e2, e3, e4, e5, e6, e7, e8, e9, e10, e11, e12, beq_false_of_ne e1, beq_false_of_ne e2, beq_false_of_ne e3, beq_false_of_ne e4, beq_false_of_ne e5, beq_false_of_ne e6, beq_false_of_ne e7, beq_false_of_ne e8, beq_false_of_ne e9, beq_false_of_ne e10, beq_false_of_ne e11, beq_false_of_ne e12, encC_def, doR]
theorem h27 (f : Int) (h1 : ¬ f < 2) (h2 : ¬ f > 64) : TI.h 27 [.int .i64 f] [] 0 = some (.tup [.ptr 0 0 0, .int .i64 0], hpR ⟨f, [], []⟩) := by
  refine TmI_introH lib_mono txt_27 rfl ?_
  simp -implicitDefEqProofs only [↓goP, goQ, tauS, Nat.reduceBEq, Nat.reduceBNe, Nat.reduceLT, Nat.reduceLeDiff, Nat.reduceAdd, Nat.reduceMul, Nat.reduceSub, Nat.reduceMod, Nat.reduceDiv, reduceCtorEq, Nat.reduceEqDiff, reduceIte, decide_true, decide_false, Int.reduceEq, Int.reduceNe, Int.reduceLT, Int.reduceLE, Int.reduceNeg, Int.reduceBEq, not_false_eq_true, not_true_eq_false, Int.reduceBNe, zeroD_struct, zeroD_int, zeroD_bool, List.set_cons_zero, List.set_cons_succ, c27, hpR, roS, h1, h2, pars_0]
theorem h27a (f : Int) (h1 : f < 2) : TI.h 27 [.int .i64 f] [] 0 = some (.tup [.nilp, .int .i64 1], []) := by
  refine TmI_introH lib_mono txt_27 rfl ?_
  simp -implicitDefEqProofs only [↓goP, goQ, tauS, Nat.reduceBEq, Nat.reduceBNe, Nat.reduceLT, Nat.reduceLeDiff, Nat.reduceAdd, Nat.reduceMul, Nat.reduceSub, Nat.reduceMod, Nat.reduceDiv, reduceCtorEq, Nat.reduceEqDiff, reduceIte, decide_true, decide_false, Int.reduceEq, Int.reduceNe, Int.reduceLT, Int.reduceLE, Int.reduceNeg, Int.reduceBEq, not_false_eq_true, not_true_eq_false, Int.reduceBNe, zeroD_struct, zeroD_int, zeroD_bool, List.set_cons_zero, List.set_cons_succ, c27, h1, pars_0]
theorem h27b (f : Int) (h1 : ¬ f < 2) (h2 : f > 64) : TI.h 27 [.int .i64 f] [] 0 = some (.tup [.nilp, .int .i64 1], []) := by
  refine TmI_introH lib_mono txt_27 rfl ?_
  simp -implicitDefEqProofs only [↓goP, goQ, tauS, Nat.reduceBEq, Nat.reduceBNe, Nat.reduceLT, Nat.reduceLeDiff, Nat.reduceAdd, Nat.reduceMul, Nat.reduceSub, Nat.reduceMod, Nat.reduceDiv, reduceCtorEq, Nat.reduceEqDiff, reduceIte, decide_true, decide_false, Int.reduceEq, Int.reduceNe, Int.reduceLT, Int.reduceLE, Int.reduceNeg, Int.reduceBEq, not_false_eq_true, not_true_eq_false, Int.reduceBNe, zeroD_struct, zeroD_int, zeroD_bool, List.set_cons_zero, List.set_cons_succ, c27, h1, h2, pars_0]
theorem h37 (s : Rs) (hf : s.ok) (id : Int) : TI.h 37 [.ptr 0 0 0, .int .i64 id] (hpR s) 3 = some (.tup [encT (one s id).1, .bool ((one s id).2 == 0)], hpR s) := by
  refine TmI_introH lib_mono txt_37 rfl ?_
  have a := h90 s hf id
  simp -implicitDefEqProofs only [↓goP, goQ, tauS, Nat.reduceBEq, Nat.reduceBNe, Nat.reduceLT, Nat.reduceLeDiff, Nat.reduceAdd, Nat.reduceMul, Nat.reduceSub, Nat.reduceMod, Nat.reduceDiv, reduceCtorEq, Nat.reduceEqDiff, reduceIte, decide_true, decide_false, Int.reduceEq, Int.reduceNe, Int.reduceLT, Int.reduceLE, Int.reduceNeg, Int.reduceBEq, not_false_eq_true, not_true_eq_false, Int.reduceBNe, zeroD_struct, zeroD_int, zeroD_bool, List.set_cons_zero, List.set_cons_succ, c37, hpR, roS, a, encT_def]
theorem h34 (s : Rs) (hf : s.ok) (id : Int) : TI.h 34 [.ptr 0 0 0, .int .i64 id] (hpR s) 3 = some (.tup [encG (grp s id).1, .bool ((grp s id).2 == 0)], hpR s) := by
  refine TmI_introH lib_mono txt_34 rfl ?_
  have a := h71 s hf id
  simp -implicitDefEqProofs only [↓goP, goQ, tauS, Nat.reduceBEq, Nat.reduceBNe, Nat.reduceLT, Nat.reduceLeDiff, Nat.reduceAdd, Nat.reduceMul, Nat.reduceSub, Nat.reduceMod, Nat.reduceDiv, reduceCtorEq, Nat.reduceEqDiff, reduceIte, decide_true, decide_false, Int.reduceEq, Int.reduceNe, Int.reduceLT, Int.reduceLE, Int.reduceNeg, Int.reduceBEq, not_false_eq_true, not_true_eq_false, Int.reduceBNe, zeroD_struct, zeroD_int, zeroD_bool, List.set_cons_zero, List.set_cons_succ, c34, hpR, roS, a, encG_def]
end Go.Proofs.Ytemcdpkiphmndaa.Tb
