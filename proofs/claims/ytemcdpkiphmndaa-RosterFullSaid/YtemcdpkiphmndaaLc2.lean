import Derived.Test.YtemcdpkiphmndaaLc1
set_option linter.unusedSimpArgs false
set_option linter.unusedVariables false
namespace Go.Proofs.Ytemcdpkiphmndaa.Tb
open Go.Proofs.Ytemcdpkiphmndaa.Ab
set_option maxRecDepth 100000
theorem fresh_0 {s : Rs} {id : Int} (h : fresh s id = 0) : mlook s.ts id = none ∧ 1 ≤ id ∧ id ≤ 200 := by
  unfold fresh at h
  by_cases h1 : id < 1
  · simp [h1] at h
  · by_cases h2 : id > 200
    · simp [h1, h2] at h
    · cases h3 : mlook s.ts id with
      | none => exact ⟨rfl, by omega, by omega⟩
      | some t => simp [h1, h2, h3] at h
def arrive (s : Rs) (id sh : Int) : Int × Rs :=
  if fresh s id = 0 then (if shOk s sh = true then (if 96 ≤ (s.ts.length : Int) then (13, s) else (0, { s with ts := mput s.ts id ⟨id, 0, sh, 0, 0, false⟩ })) else (21, s)) else (fresh s id, s)
theorem h30 (s : Rs) (hf : s.ok) (id sh : Int) : TI.h 30 [.ptr 0 0 0, .int .i64 id, .int .i64 sh] (hpR s) 3 = some (.int .i64 (arrive s id sh).1, hpR (arrive s id sh).2) := by
  refine TmI_introH lib_mono txt_30 rfl ?_
  have a := h70 s hf id
  have b := h69 s sh
  by_cases h1 : fresh s id = 0
  · have h0 := (fresh_0 h1).1
    cases h2 : shOk s sh
    · simp -implicitDefEqProofs only [↓goP, goQ, tauS, Nat.reduceBEq, Nat.reduceBNe, Nat.reduceLT, Nat.reduceLeDiff, Nat.reduceAdd, Nat.reduceMul, Nat.reduceSub, Nat.reduceMod, Nat.reduceDiv, reduceCtorEq, Nat.reduceEqDiff, reduceIte, decide_true, decide_false, Int.reduceEq, Int.reduceNe, Int.reduceLT, Int.reduceLE, Int.reduceNeg, Int.reduceBEq, not_false_eq_true, not_true_eq_false, Int.reduceBNe, zeroD_struct, zeroD_int, zeroD_bool, List.set_cons_zero, List.set_cons_succ, c30, hpR, roS, a, b, h1, h2, arrive]
    · by_cases h3 : 96 ≤ (s.ts.length : Int)
      · simp -implicitDefEqProofs only [↓goP, goQ, tauS, Nat.reduceBEq, Nat.reduceBNe, Nat.reduceLT, Nat.reduceLeDiff, Nat.reduceAdd, Nat.reduceMul, Nat.reduceSub, Nat.reduceMod, Nat.reduceDiv, reduceCtorEq, Nat.reduceEqDiff, reduceIte, decide_true, decide_false, Int.reduceEq, Int.reduceNe, Int.reduceLT, Int.reduceLE, Int.reduceNeg, Int.reduceBEq, not_false_eq_true, not_true_eq_false, Int.reduceBNe, zeroD_struct, zeroD_int, zeroD_bool, List.set_cons_zero, List.set_cons_succ, c30, hpR, roS, a, b, h1, h2, h3, arrive]
      · simp -implicitDefEqProofs only [↓goP, goQ, tauS, Nat.reduceBEq, Nat.reduceBNe, Nat.reduceLT, Nat.reduceLeDiff, Nat.reduceAdd, Nat.reduceMul, Nat.reduceSub, Nat.reduceMod, Nat.reduceDiv, reduceCtorEq, Nat.reduceEqDiff, reduceIte, decide_true, decide_false, Int.reduceEq, Int.reduceNe, Int.reduceLT, Int.reduceLE, Int.reduceNeg, Int.reduceBEq, not_false_eq_true, not_true_eq_false, Int.reduceBNe, zeroD_struct, zeroD_int, zeroD_bool, List.set_cons_zero, List.set_cons_succ, c30, hpR, roS, a, b, h1, h2, h3, h0, arrive, mput_none h0]
  · have h1' := beq_false_of_ne h1
    simp -implicitDefEqProofs only [↓goP, goQ, tauS, Nat.reduceBEq, Nat.reduceBNe, Nat.reduceLT, Nat.reduceLeDiff, Nat.reduceAdd, Nat.reduceMul, Nat.reduceSub, Nat.reduceMod, Nat.reduceDiv, reduceCtorEq, Nat.reduceEqDiff, reduceIte, decide_true, decide_false, Int.reduceEq, Int.reduceNe, Int.reduceLT, Int.reduceLE, Int.reduceNeg, Int.reduceBEq, not_false_eq_true, not_true_eq_false, Int.reduceBNe, zeroD_struct, zeroD_int, zeroD_bool, List.set_cons_zero, List.set_cons_succ, c30, hpR, roS, a, b, h1, h1', bne_int, arrive]
def depart (s : Rs) (id : Int) : Int × Rs := match mlook s.ts id with | some t => (0, { count s t.group (-1) with ts := mdel s.ts id }) | none => (10, s)
theorem count_ts (s : Rs) (id b : Int) : (count s id b).ts = s.ts := by unfold count; cases mlook s.gs id <;> rfl
theorem count_f (s : Rs) (id b : Int) : (count s id b).f = s.f := by unfold count; cases mlook s.gs id <;> rfl
theorem h78 (s : Rs) (hf : s.ok) (id : Int) : TI.h 78 [.ptr 0 0 0, .int .i64 id] (hpR s) 3 = some (.int .i64 (depart s id).1, hpR (depart s id).2) := by
  refine TmI_introH lib_mono txt_78 rfl ?_
  have a := h90 s hf id
  cases h3 : mlook s.ts id with
  | none =>
    simp only [one, h3] at a
    simp -implicitDefEqProofs only [↓goP, goQ, tauS, Nat.reduceBEq, Nat.reduceBNe, Nat.reduceLT, Nat.reduceLeDiff, Nat.reduceAdd, Nat.reduceMul, Nat.reduceSub, Nat.reduceMod, Nat.reduceDiv, reduceCtorEq, Nat.reduceEqDiff, reduceIte, decide_true, decide_false, Int.reduceEq, Int.reduceNe, Int.reduceLT, Int.reduceLE, Int.reduceNeg, Int.reduceBEq, not_false_eq_true, not_true_eq_false, Int.reduceBNe, zeroD_struct, zeroD_int, zeroD_bool, List.set_cons_zero, List.set_cons_succ, c78, hpR, roS, a, h3, depart, encT_def, tz]
  | some t =>
    simp only [one, h3] at a
    have b := h73 s t.group (-1)
    simp -implicitDefEqProofs only [↓goP, goQ, tauS, Nat.reduceBEq, Nat.reduceBNe, Nat.reduceLT, Nat.reduceLeDiff, Nat.reduceAdd, Nat.reduceMul, Nat.reduceSub, Nat.reduceMod, Nat.reduceDiv, reduceCtorEq, Nat.reduceEqDiff, reduceIte, decide_true, decide_false, Int.reduceEq, Int.reduceNe, Int.reduceLT, Int.reduceLE, Int.reduceNeg, Int.reduceBEq, not_false_eq_true, not_true_eq_false, Int.reduceBNe, zeroD_struct, zeroD_int, zeroD_bool, List.set_cons_zero, List.set_cons_succ, c78, hpR, roS, a, b, h3, depart, encT_def, count_ts, count_f, mdel_some h3]
def reweight (s : Rs) (id sh : Int) : Int × Rs :=
  if (member s id false).2 = 0 then (if shOk s sh = true then (0, { s with ts := mput s.ts id { (member s id false).1 with share := sh } }) else (21, s)) else ((member s id false).2, s)
theorem member_0 {s : Rs} {id : Int} {is : Bool} (h : (member s id is).2 = 0) : ∃ t, mlook s.ts id = some t ∧ member s id is = (t, 0) ∧ (t.group != 0) = is := by
  unfold member at h ⊢
  cases h3 : mlook s.ts id with
  | none => simp [h3] at h
  | some t =>
    by_cases h4 : (t.group != 0) = is
    · exact ⟨t, rfl, by simp only [h4, if_true], h4⟩
    · simp only [h3, h4, if_false] at h; cases h
theorem h77 (s : Rs) (hf : s.ok) (id sh : Int) : TI.h 77 [.ptr 0 0 0, .int .i64 id, .int .i64 sh] (hpR s) 3 = some (.int .i64 (reweight s id sh).1, hpR (reweight s id sh).2) := by
  refine TmI_introH lib_mono txt_77 rfl ?_
  have a := h121 s hf id false
  have b := h69 s sh
  by_cases h1 : (member s id false).2 = 0
  · obtain ⟨t, h3, h4, _⟩ := member_0 h1
    rw [h4] at a
    cases h2 : shOk s sh
    · simp -implicitDefEqProofs only [↓goP, goQ, tauS, Nat.reduceBEq, Nat.reduceBNe, Nat.reduceLT, Nat.reduceLeDiff, Nat.reduceAdd, Nat.reduceMul, Nat.reduceSub, Nat.reduceMod, Nat.reduceDiv, reduceCtorEq, Nat.reduceEqDiff, reduceIte, decide_true, decide_false, Int.reduceEq, Int.reduceNe, Int.reduceLT, Int.reduceLE, Int.reduceNeg, Int.reduceBEq, not_false_eq_true, not_true_eq_false, Int.reduceBNe, zeroD_struct, zeroD_int, zeroD_bool, List.set_cons_zero, List.set_cons_succ, c77, hpR, roS, a, b, h2, h4, reweight, encT_def]
    · simp -implicitDefEqProofs only [↓goP, goQ, tauS, Nat.reduceBEq, Nat.reduceBNe, Nat.reduceLT, Nat.reduceLeDiff, Nat.reduceAdd, Nat.reduceMul, Nat.reduceSub, Nat.reduceMod, Nat.reduceDiv, reduceCtorEq, Nat.reduceEqDiff, reduceIte, decide_true, decide_false, Int.reduceEq, Int.reduceNe, Int.reduceLT, Int.reduceLE, Int.reduceNeg, Int.reduceBEq, not_false_eq_true, not_true_eq_false, Int.reduceBNe, zeroD_struct, zeroD_int, zeroD_bool, List.set_cons_zero, List.set_cons_succ, c77, hpR, roS, a, b, h2, h3, h4, reweight, encT_def, mput_some h3]
  · have h1' := beq_false_of_ne h1
    simp -implicitDefEqProofs only [↓goP, goQ, tauS, Nat.reduceBEq, Nat.reduceBNe, Nat.reduceLT, Nat.reduceLeDiff, Nat.reduceAdd, Nat.reduceMul, Nat.reduceSub, Nat.reduceMod, Nat.reduceDiv, reduceCtorEq, Nat.reduceEqDiff, reduceIte, decide_true, decide_false, Int.reduceEq, Int.reduceNe, Int.reduceLT, Int.reduceLE, Int.reduceNeg, Int.reduceBEq, not_false_eq_true, not_true_eq_false, Int.reduceBNe, zeroD_struct, zeroD_int, zeroD_bool, List.set_cons_zero, List.set_cons_succ, c77, hpR, roS, a, b, h1, h1', bne_int, reweight, encT_def]
def off (s : Rs) (id : Int) (o : Bool) : Int × Rs := match mlook s.ts id with | some t => (if t.off = o then (15, s) else (0, { s with ts := mput s.ts id { t with off := o } })) | none => (10, s)
theorem h122 (s : Rs) (hf : s.ok) (id : Int) (o : Bool) : TI.h 122 [.ptr 0 0 0, .int .i64 id, .bool o] (hpR s) 3 = some (.int .i64 (off s id o).1, hpR (off s id o).2) := by
  refine TmI_introH lib_mono txt_122 rfl ?_
  have a := h90 s hf id
  cases h3 : mlook s.ts id with
  | none =>
    simp only [one, h3] at a
    simp -implicitDefEqProofs only [↓goP, goQ, tauS, Nat.reduceBEq, Nat.reduceBNe, Nat.reduceLT, Nat.reduceLeDiff, Nat.reduceAdd, Nat.reduceMul, Nat.reduceSub, Nat.reduceMod, Nat.reduceDiv, reduceCtorEq, Nat.reduceEqDiff, reduceIte, decide_true, decide_false, Int.reduceEq, Int.reduceNe, Int.reduceLT, Int.reduceLE, Int.reduceNeg, Int.reduceBEq, not_false_eq_true, not_true_eq_false, Int.reduceBNe, zeroD_struct, zeroD_int, zeroD_bool, List.set_cons_zero, List.set_cons_succ, c122, hpR, roS, a, h3, off, encT_def, tz]
  | some t =>
    simp only [one, h3] at a
    by_cases h4 : t.off = o
    · simp -implicitDefEqProofs only [↓goP, goQ, tauS, Nat.reduceBEq, Nat.reduceBNe, Nat.reduceLT, Nat.reduceLeDiff, Nat.reduceAdd, Nat.reduceMul, Nat.reduceSub, Nat.reduceMod, Nat.reduceDiv, reduceCtorEq, Nat.reduceEqDiff, reduceIte, decide_true, decide_false, Int.reduceEq, Int.reduceNe, Int.reduceLT, Int.reduceLE, Int.reduceNeg, Int.reduceBEq, not_false_eq_true, not_true_eq_false, Int.reduceBNe, zeroD_struct, zeroD_int, zeroD_bool, List.set_cons_zero, List.set_cons_succ, c122, hpR, roS, a, h3, h4, off, encT_def, beq_self_eq_true]
    · have h5 := beq_false_of_ne h4
      simp -implicitDefEqProofs only [↓goP, goQ, tauS, Nat.reduceBEq, Nat.reduceBNe, Nat.reduceLT, Nat.reduceLeDiff, Nat.reduceAdd, Nat.reduceMul, Nat.reduceSub, Nat.reduceMod, Nat.reduceDiv, reduceCtorEq, Nat.reduceEqDiff, reduceIte, decide_true, decide_false, Int.reduceEq, Int.reduceNe, Int.reduceLT, Int.reduceLE, Int.reduceNeg, Int.reduceBEq, not_false_eq_true, not_true_eq_false, Int.reduceBNe, zeroD_struct, zeroD_int, zeroD_bool, List.set_cons_zero, List.set_cons_succ, c122, hpR, roS, a, h3, h4, h5, off, encT_def, mput_some h3]
theorem h79 (s : Rs) (hf : s.ok) (id : Int) : TI.h 79 [.ptr 0 0 0, .int .i64 id] (hpR s) 3 = some (.int .i64 (off s id true).1, hpR (off s id true).2) := by
  refine TmI_introH lib_mono txt_79 rfl ?_
  have a := h122 s hf id true
  simp -implicitDefEqProofs only [↓goP, goQ, tauS, Nat.reduceBEq, Nat.reduceBNe, Nat.reduceLT, Nat.reduceLeDiff, Nat.reduceAdd, Nat.reduceMul, Nat.reduceSub, Nat.reduceMod, Nat.reduceDiv, reduceCtorEq, Nat.reduceEqDiff, reduceIte, decide_true, decide_false, Int.reduceEq, Int.reduceNe, Int.reduceLT, Int.reduceLE, Int.reduceNeg, Int.reduceBEq, not_false_eq_true, not_true_eq_false, Int.reduceBNe, zeroD_struct, zeroD_int, zeroD_bool, List.set_cons_zero, List.set_cons_succ, c79, hpR, roS, a]
theorem h80 (s : Rs) (hf : s.ok) (id : Int) : TI.h 80 [.ptr 0 0 0, .int .i64 id] (hpR s) 3 = some (.int .i64 (off s id false).1, hpR (off s id false).2) := by
  refine TmI_introH lib_mono txt_80 rfl ?_
  have a := h122 s hf id false
  simp -implicitDefEqProofs only [↓goP, goQ, tauS, Nat.reduceBEq, Nat.reduceBNe, Nat.reduceLT, Nat.reduceLeDiff, Nat.reduceAdd, Nat.reduceMul, Nat.reduceSub, Nat.reduceMod, Nat.reduceDiv, reduceCtorEq, Nat.reduceEqDiff, reduceIte, decide_true, decide_false, Int.reduceEq, Int.reduceNe, Int.reduceLT, Int.reduceLE, Int.reduceNeg, Int.reduceBEq, not_false_eq_true, not_true_eq_false, Int.reduceBNe, zeroD_struct, zeroD_int, zeroD_bool, List.set_cons_zero, List.set_cons_succ, c80, hpR, roS, a]
def found (s : Rs) (id sh : Int) : Int × Rs :=
  if id < 1 then (25, s) else if id > 40 then (25, s) else match mlook s.gs id with | some _ => (11, s) | none => (if shOk s sh = true then (0, { s with gs := mput s.gs id ⟨id, sh, 0⟩ }) else (21, s))
theorem h28 (s : Rs) (hf : s.ok) (id sh : Int) : TI.h 28 [.ptr 0 0 0, .int .i64 id, .int .i64 sh] (hpR s) 3 = some (.int .i64 (found s id sh).1, hpR (found s id sh).2) := by
  refine TmI_introH lib_mono txt_28 rfl ?_
  have a := h67 s hf
  have b := h69 s sh
  by_cases h1 : id < 1
  · simp -implicitDefEqProofs only [↓goP, goQ, tauS, Nat.reduceBEq, Nat.reduceBNe, Nat.reduceLT, Nat.reduceLeDiff, Nat.reduceAdd, Nat.reduceMul, Nat.reduceSub, Nat.reduceMod, Nat.reduceDiv, reduceCtorEq, Nat.reduceEqDiff, reduceIte, decide_true, decide_false, Int.reduceEq, Int.reduceNe, Int.reduceLT, Int.reduceLE, Int.reduceNeg, Int.reduceBEq, not_false_eq_true, not_true_eq_false, Int.reduceBNe, zeroD_struct, zeroD_int, zeroD_bool, List.set_cons_zero, List.set_cons_succ, c28, hpR, roS, a, b, h1, p68t1, found]
  · by_cases h2 : id > 40
    · simp -implicitDefEqProofs only [↓goP, goQ, tauS, Nat.reduceBEq, Nat.reduceBNe, Nat.reduceLT, Nat.reduceLeDiff, Nat.reduceAdd, Nat.reduceMul, Nat.reduceSub, Nat.reduceMod, Nat.reduceDiv, reduceCtorEq, Nat.reduceEqDiff, reduceIte, decide_true, decide_false, Int.reduceEq, Int.reduceNe, Int.reduceLT, Int.reduceLE, Int.reduceNeg, Int.reduceBEq, not_false_eq_true, not_true_eq_false, Int.reduceBNe, zeroD_struct, zeroD_int, zeroD_bool, List.set_cons_zero, List.set_cons_succ, c28, hpR, roS, a, b, h1, h2, p68t2, found]
    · cases h3 : mlook s.gs id with
      | some g => simp -implicitDefEqProofs only [↓goP, goQ, tauS, Nat.reduceBEq, Nat.reduceBNe, Nat.reduceLT, Nat.reduceLeDiff, Nat.reduceAdd, Nat.reduceMul, Nat.reduceSub, Nat.reduceMod, Nat.reduceDiv, reduceCtorEq, Nat.reduceEqDiff, reduceIte, decide_true, decide_false, Int.reduceEq, Int.reduceNe, Int.reduceLT, Int.reduceLE, Int.reduceNeg, Int.reduceBEq, not_false_eq_true, not_true_eq_false, Int.reduceBNe, zeroD_struct, zeroD_int, zeroD_bool, List.set_cons_zero, List.set_cons_succ, c28, hpR, roS, a, b, h1, h2, h3, p68t, found, encG_def]
      | none =>
        cases h4 : shOk s sh
        · simp -implicitDefEqProofs only [↓goP, goQ, tauS, Nat.reduceBEq, Nat.reduceBNe, Nat.reduceLT, Nat.reduceLeDiff, Nat.reduceAdd, Nat.reduceMul, Nat.reduceSub, Nat.reduceMod, Nat.reduceDiv, reduceCtorEq, Nat.reduceEqDiff, reduceIte, decide_true, decide_false, Int.reduceEq, Int.reduceNe, Int.reduceLT, Int.reduceLE, Int.reduceNeg, Int.reduceBEq, not_false_eq_true, not_true_eq_false, Int.reduceBNe, zeroD_struct, zeroD_int, zeroD_bool, List.set_cons_zero, List.set_cons_succ, c28, hpR, roS, a, b, h1, h2, h3, h4, p68t, found, encG_def]
        · simp -implicitDefEqProofs only [↓goP, goQ, tauS, Nat.reduceBEq, Nat.reduceBNe, Nat.reduceLT, Nat.reduceLeDiff, Nat.reduceAdd, Nat.reduceMul, Nat.reduceSub, Nat.reduceMod, Nat.reduceDiv, reduceCtorEq, Nat.reduceEqDiff, reduceIte, decide_true, decide_false, Int.reduceEq, Int.reduceNe, Int.reduceLT, Int.reduceLE, Int.reduceNeg, Int.reduceBEq, not_false_eq_true, not_true_eq_false, Int.reduceBNe, zeroD_struct, zeroD_int, zeroD_bool, List.set_cons_zero, List.set_cons_succ, c28, hpR, roS, a, b, h1, h2, h3, h4, p68t, found, encG_def, mput_none h3]
def fund (s : Rs) (id sh : Int) : Int × Rs :=
  match mlook s.gs id with | none => (25, s) | some g => (if shOk s sh = true then (0, { s with gs := mput s.gs id { g with share := sh } }) else (21, s))
theorem h81 (s : Rs) (hf : s.ok) (id sh : Int) : TI.h 81 [.ptr 0 0 0, .int .i64 id, .int .i64 sh] (hpR s) 3 = some (.int .i64 (fund s id sh).1, hpR (fund s id sh).2) := by
  refine TmI_introH lib_mono txt_81 rfl ?_
  have a := h71 s hf id
  have b := h69 s sh
  cases h3 : mlook s.gs id with
  | none =>
    simp only [grp, h3] at a
    simp -implicitDefEqProofs only [↓goP, goQ, tauS, Nat.reduceBEq, Nat.reduceBNe, Nat.reduceLT, Nat.reduceLeDiff, Nat.reduceAdd, Nat.reduceMul, Nat.reduceSub, Nat.reduceMod, Nat.reduceDiv, reduceCtorEq, Nat.reduceEqDiff, reduceIte, decide_true, decide_false, Int.reduceEq, Int.reduceNe, Int.reduceLT, Int.reduceLE, Int.reduceNeg, Int.reduceBEq, not_false_eq_true, not_true_eq_false, Int.reduceBNe, zeroD_struct, zeroD_int, zeroD_bool, List.set_cons_zero, List.set_cons_succ, c81, hpR, roS, a, b, h3, fund, encG_def]
  | some g =>
    simp only [grp, h3] at a
    cases h4 : shOk s sh
    · simp -implicitDefEqProofs only [↓goP, goQ, tauS, Nat.reduceBEq, Nat.reduceBNe, Nat.reduceLT, Nat.reduceLeDiff, Nat.reduceAdd, Nat.reduceMul, Nat.reduceSub, Nat.reduceMod, Nat.reduceDiv, reduceCtorEq, Nat.reduceEqDiff, reduceIte, decide_true, decide_false, Int.reduceEq, Int.reduceNe, Int.reduceLT, Int.reduceLE, Int.reduceNeg, Int.reduceBEq, not_false_eq_true, not_true_eq_false, Int.reduceBNe, zeroD_struct, zeroD_int, zeroD_bool, List.set_cons_zero, List.set_cons_succ, c81, hpR, roS, a, b, h3, h4, fund, encG_def]
    · simp -implicitDefEqProofs only [↓goP, goQ, tauS, Nat.reduceBEq, Nat.reduceBNe, Nat.reduceLT, Nat.reduceLeDiff, Nat.reduceAdd, Nat.reduceMul, Nat.reduceSub, Nat.reduceMod, Nat.reduceDiv, reduceCtorEq, Nat.reduceEqDiff, reduceIte, decide_true, decide_false, Int.reduceEq, Int.reduceNe, Int.reduceLT, Int.reduceLE, Int.reduceNeg, Int.reduceBEq, not_false_eq_true, not_true_eq_false, Int.reduceBNe, zeroD_struct, zeroD_int, zeroD_bool, List.set_cons_zero, List.set_cons_succ, c81, hpR, roS, a, b, h3, h4, fund, encG_def, mput_some h3]
def disband (s : Rs) (id : Int) : Int × Rs :=
  match mlook s.gs id with | none => (25, s) | some g => (if 0 < g.members then (16, s) else (0, { s with gs := mdel s.gs id }))
theorem h76 (s : Rs) (hf : s.ok) (id : Int) : TI.h 76 [.ptr 0 0 0, .int .i64 id] (hpR s) 3 = some (.int .i64 (disband s id).1, hpR (disband s id).2) := by
  refine TmI_introH lib_mono txt_76 rfl ?_
  have a := h71 s hf id
  cases h3 : mlook s.gs id with
  | none =>
    simp only [grp, h3] at a
    simp -implicitDefEqProofs only [↓goP, goQ, tauS, Nat.reduceBEq, Nat.reduceBNe, Nat.reduceLT, Nat.reduceLeDiff, Nat.reduceAdd, Nat.reduceMul, Nat.reduceSub, Nat.reduceMod, Nat.reduceDiv, reduceCtorEq, Nat.reduceEqDiff, reduceIte, decide_true, decide_false, Int.reduceEq, Int.reduceNe, Int.reduceLT, Int.reduceLE, Int.reduceNeg, Int.reduceBEq, not_false_eq_true, not_true_eq_false, Int.reduceBNe, zeroD_struct, zeroD_int, zeroD_bool, List.set_cons_zero, List.set_cons_succ, c76, hpR, roS, a, h3, disband, encG_def]
  | some g =>
    simp only [grp, h3] at a
    by_cases h4 : 0 < g.members
    · have h5 : g.members > 0 := h4
      simp -implicitDefEqProofs only [↓goP, goQ, tauS, Nat.reduceBEq, Nat.reduceBNe, Nat.reduceLT, Nat.reduceLeDiff, Nat.reduceAdd, Nat.reduceMul, Nat.reduceSub, Nat.reduceMod, Nat.reduceDiv, reduceCtorEq, Nat.reduceEqDiff, reduceIte, decide_true, decide_false, Int.reduceEq, Int.reduceNe, Int.reduceLT, Int.reduceLE, Int.reduceNeg, Int.reduceBEq, not_false_eq_true, not_true_eq_false, Int.reduceBNe, zeroD_struct, zeroD_int, zeroD_bool, List.set_cons_zero, List.set_cons_succ, c76, hpR, roS, a, h3, h4, h5, disband, encG_def]
    · have h5 : ¬ g.members > 0 := h4
      simp -implicitDefEqProofs only [↓goP, goQ, tauS, Nat.reduceBEq, Nat.reduceBNe, Nat.reduceLT, Nat.reduceLeDiff, Nat.reduceAdd, Nat.reduceMul, Nat.reduceSub, Nat.reduceMod, Nat.reduceDiv, reduceCtorEq, Nat.reduceEqDiff, reduceIte, decide_true, decide_false, Int.reduceEq, Int.reduceNe, Int.reduceLT, Int.reduceLE, Int.reduceNeg, Int.reduceBEq, not_false_eq_true, not_true_eq_false, Int.reduceBNe, zeroD_struct, zeroD_int, zeroD_bool, List.set_cons_zero, List.set_cons_succ, c76, hpR, roS, a, h3, h4, h5, disband, encG_def, mdel_some h3]
end Go.Proofs.Ytemcdpkiphmndaa.Tb
