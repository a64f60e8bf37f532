import Derived.Test.YtemcdpkiphmndaaLc2
set_option linter.unusedSimpArgs false
set_option linter.unusedVariables false
namespace Go.Proofs.Ytemcdpkiphmndaa.Tb
open Go.Proofs.Ytemcdpkiphmndaa.Ab
set_option maxRecDepth 100000
def capOk (s : Rs) (n : Int) : Bool := decide (0 ≤ n) && decide (n ≤ s.f)
theorem count_none {s : Rs} {id : Int} (h : mlook s.gs id = none) (b : Int) : count s id b = s := by unfold count; rw [h]
def enter (s : Rs) (id g w cap : Int) : Int × Rs :=
  if fresh s id = 0 then (match mlook s.gs g with
    | none => (25, s)
    | some x => if wOk w = true then (if capOk s cap = true then (if 96 ≤ (s.ts.length : Int) then (13, s) else if 32 ≤ x.members then (13, s) else
        (0, count { s with ts := mput s.ts id ⟨id, g, 0, w, cap, false⟩ } g 1)) else (23, s)) else (22, s)) else (fresh s id, s)
theorem h29 (s : Rs) (hf : s.ok) (id g w cap : Int) : TI.h 29 [.ptr 0 0 0, .int .i64 id, .int .i64 g, .int .i64 w, .int .i64 cap] (hpR s) 3 = some (.int .i64 (enter s id g w cap).1, hpR (enter s id g w cap).2) := by
  refine TmI_introH lib_mono txt_29 rfl ?_
  have a := h70 s hf id
  have b := h71 s hf g
  by_cases h1 : fresh s id = 0
  · have h0 := (fresh_0 h1).1
    cases h2 : mlook s.gs g with
    | none =>
      simp only [grp, h2] at b
      simp -implicitDefEqProofs only [↓goP, goQ, tauS, Nat.reduceBEq, Nat.reduceBNe, Nat.reduceLT, Nat.reduceLeDiff, Nat.reduceAdd, Nat.reduceMul, Nat.reduceSub, Nat.reduceMod, Nat.reduceDiv, reduceCtorEq, Nat.reduceEqDiff, reduceIte, decide_true, decide_false, Int.reduceEq, Int.reduceNe, Int.reduceLT, Int.reduceLE, Int.reduceNeg, Int.reduceBEq, not_false_eq_true, not_true_eq_false, Int.reduceBNe, zeroD_struct, zeroD_int, zeroD_bool, List.set_cons_zero, List.set_cons_succ, c29, hpR, roS, a, b, h1, h2, encG_def, enter, bne_int]
    | some x =>
      simp only [grp, h2] at b
      cases h3 : wOk w
      · simp -implicitDefEqProofs only [↓goP, goQ, tauS, Nat.reduceBEq, Nat.reduceBNe, Nat.reduceLT, Nat.reduceLeDiff, Nat.reduceAdd, Nat.reduceMul, Nat.reduceSub, Nat.reduceMod, Nat.reduceDiv, reduceCtorEq, Nat.reduceEqDiff, reduceIte, decide_true, decide_false, Int.reduceEq, Int.reduceNe, Int.reduceLT, Int.reduceLE, Int.reduceNeg, Int.reduceBEq, not_false_eq_true, not_true_eq_false, Int.reduceBNe, zeroD_struct, zeroD_int, zeroD_bool, List.set_cons_zero, List.set_cons_succ, c29, hpR, roS, a, b, h1, h2, h3, encG_def, enter, bne_int, p72]
      · by_cases h4 : cap < 0
        · have h4' : capOk s cap = false := by simp [capOk]; omega
          simp -implicitDefEqProofs only [↓goP, goQ, tauS, Nat.reduceBEq, Nat.reduceBNe, Nat.reduceLT, Nat.reduceLeDiff, Nat.reduceAdd, Nat.reduceMul, Nat.reduceSub, Nat.reduceMod, Nat.reduceDiv, reduceCtorEq, Nat.reduceEqDiff, reduceIte, decide_true, decide_false, Int.reduceEq, Int.reduceNe, Int.reduceLT, Int.reduceLE, Int.reduceNeg, Int.reduceBEq, not_false_eq_true, not_true_eq_false, Int.reduceBNe, zeroD_struct, zeroD_int, zeroD_bool, List.set_cons_zero, List.set_cons_succ, c29, hpR, roS, a, b, h1, h2, h3, h4, h4', encG_def, enter, bne_int, p72]
        · by_cases h5 : cap > s.f
          · have h4' : capOk s cap = false := by simp [capOk]; omega
            simp -implicitDefEqProofs only [↓goP, goQ, tauS, Nat.reduceBEq, Nat.reduceBNe, Nat.reduceLT, Nat.reduceLeDiff, Nat.reduceAdd, Nat.reduceMul, Nat.reduceSub, Nat.reduceMod, Nat.reduceDiv, reduceCtorEq, Nat.reduceEqDiff, reduceIte, decide_true, decide_false, Int.reduceEq, Int.reduceNe, Int.reduceLT, Int.reduceLE, Int.reduceNeg, Int.reduceBEq, not_false_eq_true, not_true_eq_false, Int.reduceBNe, zeroD_struct, zeroD_int, zeroD_bool, List.set_cons_zero, List.set_cons_succ, c29, hpR, roS, a, b, h1, h2, h3, h4, h4', h5, encG_def, enter, bne_int, p72]
          · have h4' : capOk s cap = true := by simp [capOk]; omega
            by_cases h6 : 96 ≤ (s.ts.length : Int)
            · simp -implicitDefEqProofs only [↓goP, goQ, tauS, Nat.reduceBEq, Nat.reduceBNe, Nat.reduceLT, Nat.reduceLeDiff, Nat.reduceAdd, Nat.reduceMul, Nat.reduceSub, Nat.reduceMod, Nat.reduceDiv, reduceCtorEq, Nat.reduceEqDiff, reduceIte, decide_true, decide_false, Int.reduceEq, Int.reduceNe, Int.reduceLT, Int.reduceLE, Int.reduceNeg, Int.reduceBEq, not_false_eq_true, not_true_eq_false, Int.reduceBNe, zeroD_struct, zeroD_int, zeroD_bool, List.set_cons_zero, List.set_cons_succ, c29, hpR, roS, a, b, h1, h2, h3, h4, h4', h5, h6, encG_def, enter, bne_int, p72]
            · by_cases h7 : 32 ≤ x.members
              · simp -implicitDefEqProofs only [↓goP, goQ, tauS, Nat.reduceBEq, Nat.reduceBNe, Nat.reduceLT, Nat.reduceLeDiff, Nat.reduceAdd, Nat.reduceMul, Nat.reduceSub, Nat.reduceMod, Nat.reduceDiv, reduceCtorEq, Nat.reduceEqDiff, reduceIte, decide_true, decide_false, Int.reduceEq, Int.reduceNe, Int.reduceLT, Int.reduceLE, Int.reduceNeg, Int.reduceBEq, not_false_eq_true, not_true_eq_false, Int.reduceBNe, zeroD_struct, zeroD_int, zeroD_bool, List.set_cons_zero, List.set_cons_succ, c29, hpR, roS, a, b, h1, h2, h3, h4, h4', h5, h6, h7, encG_def, enter, bne_int, p72]
              · have c := h73 { s with ts := mput s.ts id ⟨id, g, 0, w, cap, false⟩ } g 1
                simp only [mput_none h0] at c
                simp -implicitDefEqProofs only [↓goP, goQ, tauS, Nat.reduceBEq, Nat.reduceBNe, Nat.reduceLT, Nat.reduceLeDiff, Nat.reduceAdd, Nat.reduceMul, Nat.reduceSub, Nat.reduceMod, Nat.reduceDiv, reduceCtorEq, Nat.reduceEqDiff, reduceIte, decide_true, decide_false, Int.reduceEq, Int.reduceNe, Int.reduceLT, Int.reduceLE, Int.reduceNeg, Int.reduceBEq, not_false_eq_true, not_true_eq_false, Int.reduceBNe, zeroD_struct, zeroD_int, zeroD_bool, List.set_cons_zero, List.set_cons_succ, c29, hpR, roS, a, b, c, h0, h1, h2, h3, h4, h4', h5, h6, h7, encG_def, enter, bne_int, p72, mput_none h0]
  · have h1' := beq_false_of_ne h1
    simp -implicitDefEqProofs only [↓goP, goQ, tauS, Nat.reduceBEq, Nat.reduceBNe, Nat.reduceLT, Nat.reduceLeDiff, Nat.reduceAdd, Nat.reduceMul, Nat.reduceSub, Nat.reduceMod, Nat.reduceDiv, reduceCtorEq, Nat.reduceEqDiff, reduceIte, decide_true, decide_false, Int.reduceEq, Int.reduceNe, Int.reduceLT, Int.reduceLE, Int.reduceNeg, Int.reduceBEq, not_false_eq_true, not_true_eq_false, Int.reduceBNe, zeroD_struct, zeroD_int, zeroD_bool, List.set_cons_zero, List.set_cons_succ, c29, hpR, roS, a, h1, h1', bne_int, enter]
def weigh (s : Rs) (id w : Int) : Int × Rs :=
  if (member s id true).2 = 0 then (if wOk w = true then (0, { s with ts := mput s.ts id { (member s id true).1 with weight := w } }) else (22, s)) else ((member s id true).2, s)
theorem h82 (s : Rs) (hf : s.ok) (id w : Int) : TI.h 82 [.ptr 0 0 0, .int .i64 id, .int .i64 w] (hpR s) 3 = some (.int .i64 (weigh s id w).1, hpR (weigh s id w).2) := by
  refine TmI_introH lib_mono txt_82 rfl ?_
  have a := h121 s hf id true
  by_cases h1 : (member s id true).2 = 0
  · obtain ⟨t, h3, h4, _⟩ := member_0 h1
    rw [h4] at a
    cases h2 : wOk w
    · simp -implicitDefEqProofs only [↓goP, goQ, tauS, Nat.reduceBEq, Nat.reduceBNe, Nat.reduceLT, Nat.reduceLeDiff, Nat.reduceAdd, Nat.reduceMul, Nat.reduceSub, Nat.reduceMod, Nat.reduceDiv, reduceCtorEq, Nat.reduceEqDiff, reduceIte, decide_true, decide_false, Int.reduceEq, Int.reduceNe, Int.reduceLT, Int.reduceLE, Int.reduceNeg, Int.reduceBEq, not_false_eq_true, not_true_eq_false, Int.reduceBNe, zeroD_struct, zeroD_int, zeroD_bool, List.set_cons_zero, List.set_cons_succ, c82, hpR, roS, a, p72, h2, h4, weigh, encT_def]
    · simp -implicitDefEqProofs only [↓goP, goQ, tauS, Nat.reduceBEq, Nat.reduceBNe, Nat.reduceLT, Nat.reduceLeDiff, Nat.reduceAdd, Nat.reduceMul, Nat.reduceSub, Nat.reduceMod, Nat.reduceDiv, reduceCtorEq, Nat.reduceEqDiff, reduceIte, decide_true, decide_false, Int.reduceEq, Int.reduceNe, Int.reduceLT, Int.reduceLE, Int.reduceNeg, Int.reduceBEq, not_false_eq_true, not_true_eq_false, Int.reduceBNe, zeroD_struct, zeroD_int, zeroD_bool, List.set_cons_zero, List.set_cons_succ, c82, hpR, roS, a, p72, h2, h3, h4, weigh, encT_def, mput_some h3]
  · have h1' := beq_false_of_ne h1
    simp -implicitDefEqProofs only [↓goP, goQ, tauS, Nat.reduceBEq, Nat.reduceBNe, Nat.reduceLT, Nat.reduceLeDiff, Nat.reduceAdd, Nat.reduceMul, Nat.reduceSub, Nat.reduceMod, Nat.reduceDiv, reduceCtorEq, Nat.reduceEqDiff, reduceIte, decide_true, decide_false, Int.reduceEq, Int.reduceNe, Int.reduceLT, Int.reduceLE, Int.reduceNeg, Int.reduceBEq, not_false_eq_true, not_true_eq_false, Int.reduceBNe, zeroD_struct, zeroD_int, zeroD_bool, List.set_cons_zero, List.set_cons_succ, c82, hpR, roS, a, h1, h1', bne_int, weigh, encT_def]
def limit (s : Rs) (id n : Int) : Int × Rs :=
  if (member s id true).2 = 0 then (if capOk s n = true then (0, { s with ts := mput s.ts id { (member s id true).1 with cap := n } }) else (23, s)) else ((member s id true).2, s)
theorem h83 (s : Rs) (hf : s.ok) (id n : Int) : TI.h 83 [.ptr 0 0 0, .int .i64 id, .int .i64 n] (hpR s) 3 = some (.int .i64 (limit s id n).1, hpR (limit s id n).2) := by
  refine TmI_introH lib_mono txt_83 rfl ?_
  have a := h121 s hf id true
  by_cases h1 : (member s id true).2 = 0
  · obtain ⟨t, h3, h4, _⟩ := member_0 h1
    rw [h4] at a
    by_cases h5 : n < 0
    · have h4' : capOk s n = false := by simp [capOk]; omega
      simp -implicitDefEqProofs only [↓goP, goQ, tauS, Nat.reduceBEq, Nat.reduceBNe, Nat.reduceLT, Nat.reduceLeDiff, Nat.reduceAdd, Nat.reduceMul, Nat.reduceSub, Nat.reduceMod, Nat.reduceDiv, reduceCtorEq, Nat.reduceEqDiff, reduceIte, decide_true, decide_false, Int.reduceEq, Int.reduceNe, Int.reduceLT, Int.reduceLE, Int.reduceNeg, Int.reduceBEq, not_false_eq_true, not_true_eq_false, Int.reduceBNe, zeroD_struct, zeroD_int, zeroD_bool, List.set_cons_zero, List.set_cons_succ, c83, hpR, roS, a, h5, h4, h4', limit, encT_def]
    · by_cases h6 : n > s.f
      · have h4' : capOk s n = false := by simp [capOk]; omega
        simp -implicitDefEqProofs only [↓goP, goQ, tauS, Nat.reduceBEq, Nat.reduceBNe, Nat.reduceLT, Nat.reduceLeDiff, Nat.reduceAdd, Nat.reduceMul, Nat.reduceSub, Nat.reduceMod, Nat.reduceDiv, reduceCtorEq, Nat.reduceEqDiff, reduceIte, decide_true, decide_false, Int.reduceEq, Int.reduceNe, Int.reduceLT, Int.reduceLE, Int.reduceNeg, Int.reduceBEq, not_false_eq_true, not_true_eq_false, Int.reduceBNe, zeroD_struct, zeroD_int, zeroD_bool, List.set_cons_zero, List.set_cons_succ, c83, hpR, roS, a, h5, h6, h4, h4', limit, encT_def]
      · have h4' : capOk s n = true := by simp [capOk]; omega
        simp -implicitDefEqProofs only [↓goP, goQ, tauS, Nat.reduceBEq, Nat.reduceBNe, Nat.reduceLT, Nat.reduceLeDiff, Nat.reduceAdd, Nat.reduceMul, Nat.reduceSub, Nat.reduceMod, Nat.reduceDiv, reduceCtorEq, Nat.reduceEqDiff, reduceIte, decide_true, decide_false, Int.reduceEq, Int.reduceNe, Int.reduceLT, Int.reduceLE, Int.reduceNeg, Int.reduceBEq, not_false_eq_true, not_true_eq_false, Int.reduceBNe, zeroD_struct, zeroD_int, zeroD_bool, List.set_cons_zero, List.set_cons_succ, c83, hpR, roS, a, h5, h6, h3, h4, h4', limit, encT_def, mput_some h3]
  · have h1' := beq_false_of_ne h1
    simp -implicitDefEqProofs only [↓goP, goQ, tauS, Nat.reduceBEq, Nat.reduceBNe, Nat.reduceLT, Nat.reduceLeDiff, Nat.reduceAdd, Nat.reduceMul, Nat.reduceSub, Nat.reduceMod, Nat.reduceDiv, reduceCtorEq, Nat.reduceEqDiff, reduceIte, decide_true, decide_false, Int.reduceEq, Int.reduceNe, Int.reduceLT, Int.reduceLE, Int.reduceNeg, Int.reduceBEq, not_false_eq_true, not_true_eq_false, Int.reduceBNe, zeroD_struct, zeroD_int, zeroD_bool, List.set_cons_zero, List.set_cons_succ, c83, hpR, roS, a, h1, h1', bne_int, limit, encT_def]
def move (s : Rs) (id g : Int) : Int × Rs :=
  if (member s id true).2 = 0 then (match mlook s.gs g with
    | none => (25, s)
    | some x => if (member s id true).1.group = g then (15, s) else if 32 ≤ x.members then (13, s) else
        (0, { count (count s (member s id true).1.group (-1)) g 1 with ts := mput s.ts id { (member s id true).1 with group := g } })) else ((member s id true).2, s)
theorem h84 (s : Rs) (hf : s.ok) (id g : Int) : TI.h 84 [.ptr 0 0 0, .int .i64 id, .int .i64 g] (hpR s) 3 = some (.int .i64 (move s id g).1, hpR (move s id g).2) := by
  refine TmI_introH lib_mono txt_84 rfl ?_
  have a := h121 s hf id true
  have b := h71 s hf g
  by_cases h1 : (member s id true).2 = 0
  · obtain ⟨t, h3, h4, _⟩ := member_0 h1
    rw [h4] at a
    cases h2 : mlook s.gs g with
    | none =>
      simp only [grp, h2] at b
      simp -implicitDefEqProofs only [↓goP, goQ, tauS, Nat.reduceBEq, Nat.reduceBNe, Nat.reduceLT, Nat.reduceLeDiff, Nat.reduceAdd, Nat.reduceMul, Nat.reduceSub, Nat.reduceMod, Nat.reduceDiv, reduceCtorEq, Nat.reduceEqDiff, reduceIte, decide_true, decide_false, Int.reduceEq, Int.reduceNe, Int.reduceLT, Int.reduceLE, Int.reduceNeg, Int.reduceBEq, not_false_eq_true, not_true_eq_false, Int.reduceBNe, zeroD_struct, zeroD_int, zeroD_bool, List.set_cons_zero, List.set_cons_succ, c84, hpR, roS, a, b, h2, h4, encG_def, encT_def, move]
    | some x =>
      simp only [grp, h2] at b
      by_cases h5 : t.group = g
      · simp -implicitDefEqProofs only [↓goP, goQ, tauS, Nat.reduceBEq, Nat.reduceBNe, Nat.reduceLT, Nat.reduceLeDiff, Nat.reduceAdd, Nat.reduceMul, Nat.reduceSub, Nat.reduceMod, Nat.reduceDiv, reduceCtorEq, Nat.reduceEqDiff, reduceIte, decide_true, decide_false, Int.reduceEq, Int.reduceNe, Int.reduceLT, Int.reduceLE, Int.reduceNeg, Int.reduceBEq, not_false_eq_true, not_true_eq_false, Int.reduceBNe, zeroD_struct, zeroD_int, zeroD_bool, List.set_cons_zero, List.set_cons_succ, c84, hpR, roS, a, b, h2, h4, h5, encG_def, encT_def, move, beq_self_eq_true]
      · have h5' := beq_false_of_ne h5
        by_cases h7 : 32 ≤ x.members
        · simp -implicitDefEqProofs only [↓goP, goQ, tauS, Nat.reduceBEq, Nat.reduceBNe, Nat.reduceLT, Nat.reduceLeDiff, Nat.reduceAdd, Nat.reduceMul, Nat.reduceSub, Nat.reduceMod, Nat.reduceDiv, reduceCtorEq, Nat.reduceEqDiff, reduceIte, decide_true, decide_false, Int.reduceEq, Int.reduceNe, Int.reduceLT, Int.reduceLE, Int.reduceNeg, Int.reduceBEq, not_false_eq_true, not_true_eq_false, Int.reduceBNe, zeroD_struct, zeroD_int, zeroD_bool, List.set_cons_zero, List.set_cons_succ, c84, hpR, roS, a, b, h2, h4, h5, h5', h7, encG_def, encT_def, move]
        · have c := h73 s t.group (-1)
          have d := h73 (count s t.group (-1)) g 1
          simp only [hpR, count_ts, count_f] at c d
          simp -implicitDefEqProofs only [↓goP, goQ, tauS, Nat.reduceBEq, Nat.reduceBNe, Nat.reduceLT, Nat.reduceLeDiff, Nat.reduceAdd, Nat.reduceMul, Nat.reduceSub, Nat.reduceMod, Nat.reduceDiv, reduceCtorEq, Nat.reduceEqDiff, reduceIte, decide_true, decide_false, Int.reduceEq, Int.reduceNe, Int.reduceLT, Int.reduceLE, Int.reduceNeg, Int.reduceBEq, not_false_eq_true, not_true_eq_false, Int.reduceBNe, zeroD_struct, zeroD_int, zeroD_bool, List.set_cons_zero, List.set_cons_succ, c84, hpR, roS, a, b, c, d, h2, h3, h4, h5, h5', h7, encG_def, encT_def, move, count_ts, count_f, mput_some h3]
  · have h1' := beq_false_of_ne h1
    simp -implicitDefEqProofs only [↓goP, goQ, tauS, Nat.reduceBEq, Nat.reduceBNe, Nat.reduceLT, Nat.reduceLeDiff, Nat.reduceAdd, Nat.reduceMul, Nat.reduceSub, Nat.reduceMod, Nat.reduceDiv, reduceCtorEq, Nat.reduceEqDiff, reduceIte, decide_true, decide_false, Int.reduceEq, Int.reduceNe, Int.reduceLT, Int.reduceLE, Int.reduceNeg, Int.reduceBEq, not_false_eq_true, not_true_eq_false, Int.reduceBNe, zeroD_struct, zeroD_int, zeroD_bool, List.set_cons_zero, List.set_cons_succ, c84, hpR, roS, a, h1, h1', bne_int, move, encT_def]
end Go.Proofs.Ytemcdpkiphmndaa.Tb
