import Derived.Test.YtemcdpkiphmndaaLb2
import Derived.Test.YtemcdpkiphmndaaAbM
set_option linter.unusedSimpArgs false
set_option linter.unusedVariables false
namespace Go.Proofs.Ytemcdpkiphmndaa.Tb
open Go.Proofs.Ytemcdpkiphmndaa.Ab
set_option maxRecDepth 100000
structure Task where
  id : Int
  group : Int
  share : Int
  weight : Int
  cap : Int
  off : Bool
structure Grp where
  id : Int
  share : Int
  members : Int
structure Rs where
  f : Int
  ts : List (Int × Task)
  gs : List (Int × Grp)
def encT (t : Task) : D := .agg [.int .i64 t.id, .int .i64 t.group, .int .i64 t.share, .int .i64 t.weight, .int .i64 t.cap, .bool t.off]
def encG (t : Grp) : D := .agg [.int .i64 t.id, .int .i64 t.share, .int .i64 t.members]
theorem encT_def (t) : encT t = .agg [.int .i64 t.id, .int .i64 t.group, .int .i64 t.share, .int .i64 t.weight, .int .i64 t.cap, .bool t.off] := rfl
theorem encG_def (t) : encG t = .agg [.int .i64 t.id, .int .i64 t.share, .int .i64 t.members] := rfl
abbrev hpR (s : Rs) : List (Nat × Ob) :=
  [(0, ⟨2, .box, 92, 3, [[.int .i64 s.f, .mp 1, .mp 2]]⟩), (1, ⟨2, .map, 89, 2, s.ts.map (ent encT)⟩), (2, ⟨2, .map, 90, 2, s.gs.map (ent encG)⟩)]
theorem locsT (ts : List (Int × Task)) : locsEs (ts.map (ent encT)) = [] := locsEs_ent (fun _ => rfl) ts
theorem locsG (ts : List (Int × Grp)) : locsEs (ts.map (ent encG)) = [] := locsEs_ent (fun _ => rfl) ts
theorem renT (f) (ts : List (Int × Task)) : renEs f (ts.map (ent encT)) = ts.map (ent encT) := renEs_ent (fun _ _ => rfl) f ts
theorem renG (f) (ts : List (Int × Grp)) : renEs f (ts.map (ent encG)) = ts.map (ent encG) := renEs_ent (fun _ _ => rfl) f ts
theorem bne_int (a b : Int) : (a != b) = !(a == b) := rfl
theorem ent_def {α : Type} (enc : α → D) (k : Int) (a : α) : ent enc (k, a) = [.int .i64 k, enc a] := rfl
theorem setG (l : List (Int × Grp)) (i : Nat) (k a b c : Int) : (l.map (ent encG)).set i [.int .i64 k, .agg [.int .i64 a, .int .i64 b, .int .i64 c]] = (l.set i (k, ⟨a, b, c⟩)).map (ent encG) := by rw [List.map_set]; rfl
theorem appG (l : List (Int × Grp)) (k a b c : Int) : l.map (ent encG) ++ [[.int .i64 k, .agg [.int .i64 a, .int .i64 b, .int .i64 c]]] = (l ++ [((k, ⟨a, b, c⟩) : Int × Grp)]).map (ent encG) := by rw [List.map_append]; rfl
theorem map_era {α β : Type} (f : α → β) : ∀ (l : List α) (i : Nat), (l.map f).eraseIdx i = (l.eraseIdx i).map f
  | [], _ => rfl
  | _ :: _, 0 => rfl
  | a :: l, i + 1 => by simp only [List.map_cons, List.eraseIdx_cons_succ, map_era f l i]
theorem eraG (l : List (Int × Grp)) (i : Nat) : (l.map (ent encG)).eraseIdx i = (l.eraseIdx i).map (ent encG) := map_era _ l i
theorem setT (l : List (Int × Task)) (i : Nat) (k a b c d e : Int) (o : Bool) : (l.map (ent encT)).set i [.int .i64 k, .agg [.int .i64 a, .int .i64 b, .int .i64 c, .int .i64 d, .int .i64 e, .bool o]] = (l.set i (k, ⟨a, b, c, d, e, o⟩)).map (ent encT) := by rw [List.map_set]; rfl
theorem appT (l : List (Int × Task)) (k a b c d e : Int) (o : Bool) : l.map (ent encT) ++ [[.int .i64 k, .agg [.int .i64 a, .int .i64 b, .int .i64 c, .int .i64 d, .int .i64 e, .bool o]]] = (l ++ [((k, ⟨a, b, c, d, e, o⟩) : Int × Task)]).map (ent encT) := by rw [List.map_append]; rfl
theorem eraT (l : List (Int × Task)) (i : Nat) : (l.map (ent encT)).eraseIdx i = (l.eraseIdx i).map (ent encT) := map_era _ l i
theorem roS : type_of% (And.intro locsT (And.intro locsG (And.intro renT (And.intro renG (And.intro (findM_map encT) (And.intro (findM_map encG) (And.intro setG (And.intro appG (And.intro eraG (And.intro setT (And.intro appT (eraT)))))))))))) := And.intro locsT (And.intro locsG (And.intro renT (And.intro renG (And.intro (findM_map encT) (And.intro (findM_map encG) (And.intro setG (And.intro appG (And.intro eraG (And.intro setT (And.intro appT (eraT)))))))))))

abbrev Rs.ok (s : Rs) : Prop := (s.f == 0) = false
theorem h67 (s : Rs) (hf : s.ok) : TI.h 67 [.ptr 0 0 0] (hpR s) 3 = some (.bool false, hpR s) := by
  refine TmI_introH lib_mono txt_67 rfl ?_
  simp -implicitDefEqProofs only [↓goP, goQ, tauS, Nat.reduceBEq, Nat.reduceBNe, Nat.reduceLT, Nat.reduceLeDiff, Nat.reduceAdd, Nat.reduceMul, Nat.reduceSub, Nat.reduceMod, Nat.reduceDiv, reduceCtorEq, Nat.reduceEqDiff, reduceIte, decide_true, decide_false, Int.reduceEq, Int.reduceNe, Int.reduceLT, Int.reduceLE, Int.reduceNeg, Int.reduceBEq, not_false_eq_true, not_true_eq_false, Int.reduceBNe, zeroD_struct, zeroD_int, zeroD_bool, List.set_cons_zero, List.set_cons_succ, c67, hpR, roS, hf]
theorem p68f (id : Int) (h1 : ¬ id < 1) (h2 : ¬ id > 200) : TI.p 68 [.int .i64 id, .bool false] = some (.tup [.int .i64 id, .int .i64 0]) := by
  refine TmI_intro lib_mono txt_68 rfl ?_
  simp -implicitDefEqProofs only [↓goP, goQ, tauS, Nat.reduceBEq, Nat.reduceBNe, Nat.reduceLT, Nat.reduceLeDiff, Nat.reduceAdd, Nat.reduceMul, Nat.reduceSub, Nat.reduceMod, Nat.reduceDiv, reduceCtorEq, Nat.reduceEqDiff, reduceIte, decide_true, decide_false, Int.reduceEq, Int.reduceNe, Int.reduceLT, Int.reduceLE, Int.reduceNeg, Int.reduceBEq, not_false_eq_true, not_true_eq_false, Int.reduceBNe, zeroD_struct, zeroD_int, zeroD_bool, List.set_cons_zero, List.set_cons_succ, c68, h1, h2]
theorem p68f1 (id : Int) (h1 : id < 1) : TI.p 68 [.int .i64 id, .bool false] = some (.tup [.int .i64 0, .int .i64 20]) := by
  refine TmI_intro lib_mono txt_68 rfl ?_
  simp -implicitDefEqProofs only [↓goP, goQ, tauS, Nat.reduceBEq, Nat.reduceBNe, Nat.reduceLT, Nat.reduceLeDiff, Nat.reduceAdd, Nat.reduceMul, Nat.reduceSub, Nat.reduceMod, Nat.reduceDiv, reduceCtorEq, Nat.reduceEqDiff, reduceIte, decide_true, decide_false, Int.reduceEq, Int.reduceNe, Int.reduceLT, Int.reduceLE, Int.reduceNeg, Int.reduceBEq, not_false_eq_true, not_true_eq_false, Int.reduceBNe, zeroD_struct, zeroD_int, zeroD_bool, List.set_cons_zero, List.set_cons_succ, c68, h1]
theorem p68f2 (id : Int) (h1 : ¬ id < 1) (h2 : id > 200) : TI.p 68 [.int .i64 id, .bool false] = some (.tup [.int .i64 0, .int .i64 20]) := by
  refine TmI_intro lib_mono txt_68 rfl ?_
  simp -implicitDefEqProofs only [↓goP, goQ, tauS, Nat.reduceBEq, Nat.reduceBNe, Nat.reduceLT, Nat.reduceLeDiff, Nat.reduceAdd, Nat.reduceMul, Nat.reduceSub, Nat.reduceMod, Nat.reduceDiv, reduceCtorEq, Nat.reduceEqDiff, reduceIte, decide_true, decide_false, Int.reduceEq, Int.reduceNe, Int.reduceLT, Int.reduceLE, Int.reduceNeg, Int.reduceBEq, not_false_eq_true, not_true_eq_false, Int.reduceBNe, zeroD_struct, zeroD_int, zeroD_bool, List.set_cons_zero, List.set_cons_succ, c68, h1, h2]
theorem p68t (id : Int) (h1 : ¬ id < 1) (h2 : ¬ id > 40) : TI.p 68 [.int .i64 id, .bool true] = some (.tup [.int .i64 (IntKind.wrap .i64 (1000 + id)), .int .i64 0]) := by
  refine TmI_intro lib_mono txt_68 rfl ?_
  simp -implicitDefEqProofs only [↓goP, goQ, tauS, Nat.reduceBEq, Nat.reduceBNe, Nat.reduceLT, Nat.reduceLeDiff, Nat.reduceAdd, Nat.reduceMul, Nat.reduceSub, Nat.reduceMod, Nat.reduceDiv, reduceCtorEq, Nat.reduceEqDiff, reduceIte, decide_true, decide_false, Int.reduceEq, Int.reduceNe, Int.reduceLT, Int.reduceLE, Int.reduceNeg, Int.reduceBEq, not_false_eq_true, not_true_eq_false, Int.reduceBNe, zeroD_struct, zeroD_int, zeroD_bool, List.set_cons_zero, List.set_cons_succ, c68, h1, h2]
theorem p68t1 (id : Int) (h1 : id < 1) : TI.p 68 [.int .i64 id, .bool true] = some (.tup [.int .i64 0, .int .i64 20]) := by
  refine TmI_intro lib_mono txt_68 rfl ?_
  simp -implicitDefEqProofs only [↓goP, goQ, tauS, Nat.reduceBEq, Nat.reduceBNe, Nat.reduceLT, Nat.reduceLeDiff, Nat.reduceAdd, Nat.reduceMul, Nat.reduceSub, Nat.reduceMod, Nat.reduceDiv, reduceCtorEq, Nat.reduceEqDiff, reduceIte, decide_true, decide_false, Int.reduceEq, Int.reduceNe, Int.reduceLT, Int.reduceLE, Int.reduceNeg, Int.reduceBEq, not_false_eq_true, not_true_eq_false, Int.reduceBNe, zeroD_struct, zeroD_int, zeroD_bool, List.set_cons_zero, List.set_cons_succ, c68, h1]
theorem p68t2 (id : Int) (h1 : ¬ id < 1) (h2 : id > 40) : TI.p 68 [.int .i64 id, .bool true] = some (.tup [.int .i64 0, .int .i64 20]) := by
  refine TmI_intro lib_mono txt_68 rfl ?_
  simp -implicitDefEqProofs only [↓goP, goQ, tauS, Nat.reduceBEq, Nat.reduceBNe, Nat.reduceLT, Nat.reduceLeDiff, Nat.reduceAdd, Nat.reduceMul, Nat.reduceSub, Nat.reduceMod, Nat.reduceDiv, reduceCtorEq, Nat.reduceEqDiff, reduceIte, decide_true, decide_false, Int.reduceEq, Int.reduceNe, Int.reduceLT, Int.reduceLE, Int.reduceNeg, Int.reduceBEq, not_false_eq_true, not_true_eq_false, Int.reduceBNe, zeroD_struct, zeroD_int, zeroD_bool, List.set_cons_zero, List.set_cons_succ, c68, h1, h2]
def shOk (s : Rs) (n : Int) : Bool := decide (1 ≤ n) && decide (n ≤ s.f)
theorem h69 (s : Rs) (n : Int) : TI.h 69 [.ptr 0 0 0, .int .i64 n] (hpR s) 3 = some (.bool (shOk s n), hpR s) := by
  refine TmI_introH lib_mono txt_69 rfl ?_
  unfold shOk
  by_cases h1 : 1 ≤ n
  · simp -implicitDefEqProofs only [↓goP, goQ, tauS, Nat.reduceBEq, Nat.reduceBNe, Nat.reduceLT, Nat.reduceLeDiff, Nat.reduceAdd, Nat.reduceMul, Nat.reduceSub, Nat.reduceMod, Nat.reduceDiv, reduceCtorEq, Nat.reduceEqDiff, reduceIte, decide_true, decide_false, Int.reduceEq, Int.reduceNe, Int.reduceLT, Int.reduceLE, Int.reduceNeg, Int.reduceBEq, not_false_eq_true, not_true_eq_false, Int.reduceBNe, zeroD_struct, zeroD_int, zeroD_bool, List.set_cons_zero, List.set_cons_succ, c69, hpR, roS, h1]
  · simp -implicitDefEqProofs only [↓goP, goQ, tauS, Nat.reduceBEq, Nat.reduceBNe, Nat.reduceLT, Nat.reduceLeDiff, Nat.reduceAdd, Nat.reduceMul, Nat.reduceSub, Nat.reduceMod, Nat.reduceDiv, reduceCtorEq, Nat.reduceEqDiff, reduceIte, decide_true, decide_false, Int.reduceEq, Int.reduceNe, Int.reduceLT, Int.reduceLE, Int.reduceNeg, Int.reduceBEq, not_false_eq_true, not_true_eq_false, Int.reduceBNe, zeroD_struct, zeroD_int, zeroD_bool, List.set_cons_zero, List.set_cons_succ, c69, hpR, roS, h1]
def wOk (n : Int) : Bool := decide (1 ≤ n) && decide (n ≤ 1000)
theorem p72 (n : Int) : TI.p 72 [.int .i64 n] = some (.bool (wOk n)) := by
  refine TmI_intro lib_mono txt_72 rfl ?_
  unfold wOk
  by_cases h1 : 1 ≤ n
  · simp -implicitDefEqProofs only [↓goP, goQ, tauS, Nat.reduceBEq, Nat.reduceBNe, Nat.reduceLT, Nat.reduceLeDiff, Nat.reduceAdd, Nat.reduceMul, Nat.reduceSub, Nat.reduceMod, Nat.reduceDiv, reduceCtorEq, Nat.reduceEqDiff, reduceIte, decide_true, decide_false, Int.reduceEq, Int.reduceNe, Int.reduceLT, Int.reduceLE, Int.reduceNeg, Int.reduceBEq, not_false_eq_true, not_true_eq_false, Int.reduceBNe, zeroD_struct, zeroD_int, zeroD_bool, List.set_cons_zero, List.set_cons_succ, c72, h1]
  · simp -implicitDefEqProofs only [↓goP, goQ, tauS, Nat.reduceBEq, Nat.reduceBNe, Nat.reduceLT, Nat.reduceLeDiff, Nat.reduceAdd, Nat.reduceMul, Nat.reduceSub, Nat.reduceMod, Nat.reduceDiv, reduceCtorEq, Nat.reduceEqDiff, reduceIte, decide_true, decide_false, Int.reduceEq, Int.reduceNe, Int.reduceLT, Int.reduceLE, Int.reduceNeg, Int.reduceBEq, not_false_eq_true, not_true_eq_false, Int.reduceBNe, zeroD_struct, zeroD_int, zeroD_bool, List.set_cons_zero, List.set_cons_succ, c72, h1]
/-- What is wrong with a number that is to come. -/
def fresh (s : Rs) (id : Int) : Int := if id < 1 then 20 else if id > 200 then 20 else match mlook s.ts id with | some _ => 11 | none => 0
theorem h70 (s : Rs) (hf : s.ok) (id : Int) : TI.h 70 [.ptr 0 0 0, .int .i64 id] (hpR s) 3 = some (.int .i64 (fresh s id), hpR s) := by
  refine TmI_introH lib_mono txt_70 rfl ?_
  have a := h67 s hf
  by_cases h1 : id < 1
  · simp -implicitDefEqProofs only [↓goP, goQ, tauS, Nat.reduceBEq, Nat.reduceBNe, Nat.reduceLT, Nat.reduceLeDiff, Nat.reduceAdd, Nat.reduceMul, Nat.reduceSub, Nat.reduceMod, Nat.reduceDiv, reduceCtorEq, Nat.reduceEqDiff, reduceIte, decide_true, decide_false, Int.reduceEq, Int.reduceNe, Int.reduceLT, Int.reduceLE, Int.reduceNeg, Int.reduceBEq, not_false_eq_true, not_true_eq_false, Int.reduceBNe, zeroD_struct, zeroD_int, zeroD_bool, List.set_cons_zero, List.set_cons_succ, c70, hpR, roS, a, p68f1, h1, fresh]
  · by_cases h2 : id > 200
    · simp -implicitDefEqProofs only [↓goP, goQ, tauS, Nat.reduceBEq, Nat.reduceBNe, Nat.reduceLT, Nat.reduceLeDiff, Nat.reduceAdd, Nat.reduceMul, Nat.reduceSub, Nat.reduceMod, Nat.reduceDiv, reduceCtorEq, Nat.reduceEqDiff, reduceIte, decide_true, decide_false, Int.reduceEq, Int.reduceNe, Int.reduceLT, Int.reduceLE, Int.reduceNeg, Int.reduceBEq, not_false_eq_true, not_true_eq_false, Int.reduceBNe, zeroD_struct, zeroD_int, zeroD_bool, List.set_cons_zero, List.set_cons_succ, c70, hpR, roS, a, p68f2, h1, h2, fresh]
    · cases h3 : mlook s.ts id with
      | none => simp -implicitDefEqProofs only [↓goP, goQ, tauS, Nat.reduceBEq, Nat.reduceBNe, Nat.reduceLT, Nat.reduceLeDiff, Nat.reduceAdd, Nat.reduceMul, Nat.reduceSub, Nat.reduceMod, Nat.reduceDiv, reduceCtorEq, Nat.reduceEqDiff, reduceIte, decide_true, decide_false, Int.reduceEq, Int.reduceNe, Int.reduceLT, Int.reduceLE, Int.reduceNeg, Int.reduceBEq, not_false_eq_true, not_true_eq_false, Int.reduceBNe, zeroD_struct, zeroD_int, zeroD_bool, List.set_cons_zero, List.set_cons_succ, c70, hpR, roS, a, p68f, h1, h2, h3, fresh, encT_def]
      | some t => simp -implicitDefEqProofs only [↓goP, goQ, tauS, Nat.reduceBEq, Nat.reduceBNe, Nat.reduceLT, Nat.reduceLeDiff, Nat.reduceAdd, Nat.reduceMul, Nat.reduceSub, Nat.reduceMod, Nat.reduceDiv, reduceCtorEq, Nat.reduceEqDiff, reduceIte, decide_true, decide_false, Int.reduceEq, Int.reduceNe, Int.reduceLT, Int.reduceLE, Int.reduceNeg, Int.reduceBEq, not_false_eq_true, not_true_eq_false, Int.reduceBNe, zeroD_struct, zeroD_int, zeroD_bool, List.set_cons_zero, List.set_cons_succ, c70, hpR, roS, a, p68f, h1, h2, h3, fresh, encT_def]
def tz : Task := ⟨0, 0, 0, 0, 0, false⟩
def gz : Grp := ⟨0, 0, 0⟩
def one (s : Rs) (id : Int) : Task × Int := match mlook s.ts id with | some t => (t, 0) | none => (tz, 10)
theorem h90 (s : Rs) (hf : s.ok) (id : Int) : TI.h 90 [.ptr 0 0 0, .int .i64 id] (hpR s) 3 = some (.tup [encT (one s id).1, .int .i64 (one s id).2], hpR s) := by
  refine TmI_introH lib_mono txt_90 rfl ?_
  have a := h67 s hf
  cases h3 : mlook s.ts id with
  | none => simp -implicitDefEqProofs only [↓goP, goQ, tauS, Nat.reduceBEq, Nat.reduceBNe, Nat.reduceLT, Nat.reduceLeDiff, Nat.reduceAdd, Nat.reduceMul, Nat.reduceSub, Nat.reduceMod, Nat.reduceDiv, reduceCtorEq, Nat.reduceEqDiff, reduceIte, decide_true, decide_false, Int.reduceEq, Int.reduceNe, Int.reduceLT, Int.reduceLE, Int.reduceNeg, Int.reduceBEq, not_false_eq_true, not_true_eq_false, Int.reduceBNe, zeroD_struct, zeroD_int, zeroD_bool, List.set_cons_zero, List.set_cons_succ, c90, hpR, roS, a, h3, one, encT_def, tz]
  | some t => simp -implicitDefEqProofs only [↓goP, goQ, tauS, Nat.reduceBEq, Nat.reduceBNe, Nat.reduceLT, Nat.reduceLeDiff, Nat.reduceAdd, Nat.reduceMul, Nat.reduceSub, Nat.reduceMod, Nat.reduceDiv, reduceCtorEq, Nat.reduceEqDiff, reduceIte, decide_true, decide_false, Int.reduceEq, Int.reduceNe, Int.reduceLT, Int.reduceLE, Int.reduceNeg, Int.reduceBEq, not_false_eq_true, not_true_eq_false, Int.reduceBNe, zeroD_struct, zeroD_int, zeroD_bool, List.set_cons_zero, List.set_cons_succ, c90, hpR, roS, a, h3, one, encT_def, tz]
def grp (s : Rs) (id : Int) : Grp × Int := match mlook s.gs id with | some t => (t, 0) | none => (gz, 25)
theorem h71 (s : Rs) (hf : s.ok) (id : Int) : TI.h 71 [.ptr 0 0 0, .int .i64 id] (hpR s) 3 = some (.tup [encG (grp s id).1, .int .i64 (grp s id).2], hpR s) := by
  refine TmI_introH lib_mono txt_71 rfl ?_
  have a := h67 s hf
  cases h3 : mlook s.gs id with
  | none => simp -implicitDefEqProofs only [↓goP, goQ, tauS, Nat.reduceBEq, Nat.reduceBNe, Nat.reduceLT, Nat.reduceLeDiff, Nat.reduceAdd, Nat.reduceMul, Nat.reduceSub, Nat.reduceMod, Nat.reduceDiv, reduceCtorEq, Nat.reduceEqDiff, reduceIte, decide_true, decide_false, Int.reduceEq, Int.reduceNe, Int.reduceLT, Int.reduceLE, Int.reduceNeg, Int.reduceBEq, not_false_eq_true, not_true_eq_false, Int.reduceBNe, zeroD_struct, zeroD_int, zeroD_bool, List.set_cons_zero, List.set_cons_succ, c71, hpR, roS, a, h3, grp, encG_def, gz]
  | some t => simp -implicitDefEqProofs only [↓goP, goQ, tauS, Nat.reduceBEq, Nat.reduceBNe, Nat.reduceLT, Nat.reduceLeDiff, Nat.reduceAdd, Nat.reduceMul, Nat.reduceSub, Nat.reduceMod, Nat.reduceDiv, reduceCtorEq, Nat.reduceEqDiff, reduceIte, decide_true, decide_false, Int.reduceEq, Int.reduceNe, Int.reduceLT, Int.reduceLE, Int.reduceNeg, Int.reduceBEq, not_false_eq_true, not_true_eq_false, Int.reduceBNe, zeroD_struct, zeroD_int, zeroD_bool, List.set_cons_zero, List.set_cons_succ, c71, hpR, roS, a, h3, grp, encG_def, gz]
def member (s : Rs) (id : Int) (is : Bool) : Task × Int := match mlook s.ts id with | some t => (if (t.group != 0) = is then (t, 0) else (tz, 14)) | none => (tz, 10)
theorem h121 (s : Rs) (hf : s.ok) (id : Int) (is : Bool) : TI.h 121 [.ptr 0 0 0, .int .i64 id, .bool is] (hpR s) 3 = some (.tup [encT (member s id is).1, .int .i64 (member s id is).2], hpR s) := by
  refine TmI_introH lib_mono txt_121 rfl ?_
  have a := h90 s hf id
  cases h3 : mlook s.ts id with
  | none =>
    simp only [one, h3] at a
    simp -implicitDefEqProofs only [↓goP, goQ, tauS, Nat.reduceBEq, Nat.reduceBNe, Nat.reduceLT, Nat.reduceLeDiff, Nat.reduceAdd, Nat.reduceMul, Nat.reduceSub, Nat.reduceMod, Nat.reduceDiv, reduceCtorEq, Nat.reduceEqDiff, reduceIte, decide_true, decide_false, Int.reduceEq, Int.reduceNe, Int.reduceLT, Int.reduceLE, Int.reduceNeg, Int.reduceBEq, not_false_eq_true, not_true_eq_false, Int.reduceBNe, zeroD_struct, zeroD_int, zeroD_bool, List.set_cons_zero, List.set_cons_succ, c121, hpR, roS, a, h3, member, encT_def, tz]
  | some t =>
    simp only [one, h3] at a
    by_cases h4 : (t.group != 0) = is
    · simp -implicitDefEqProofs only [↓goP, goQ, tauS, Nat.reduceBEq, Nat.reduceBNe, Nat.reduceLT, Nat.reduceLeDiff, Nat.reduceAdd, Nat.reduceMul, Nat.reduceSub, Nat.reduceMod, Nat.reduceDiv, reduceCtorEq, Nat.reduceEqDiff, reduceIte, decide_true, decide_false, Int.reduceEq, Int.reduceNe, Int.reduceLT, Int.reduceLE, Int.reduceNeg, Int.reduceBEq, not_false_eq_true, not_true_eq_false, Int.reduceBNe, zeroD_struct, zeroD_int, zeroD_bool, List.set_cons_zero, List.set_cons_succ, c121, hpR, roS, a, h3, h4, beq_self_eq_true, member, encT_def, tz]
    · have h5 : ((t.group != 0) == is) = false := beq_false_of_ne h4
      simp -implicitDefEqProofs only [↓goP, goQ, tauS, Nat.reduceBEq, Nat.reduceBNe, Nat.reduceLT, Nat.reduceLeDiff, Nat.reduceAdd, Nat.reduceMul, Nat.reduceSub, Nat.reduceMod, Nat.reduceDiv, reduceCtorEq, Nat.reduceEqDiff, reduceIte, decide_true, decide_false, Int.reduceEq, Int.reduceNe, Int.reduceLT, Int.reduceLE, Int.reduceNeg, Int.reduceBEq, not_false_eq_true, not_true_eq_false, Int.reduceBNe, zeroD_struct, zeroD_int, zeroD_bool, List.set_cons_zero, List.set_cons_succ, c121, hpR, roS, a, h3, h4, h5, member, encT_def, tz]
def count (s : Rs) (id b : Int) : Rs := match mlook s.gs id with | some g => { s with gs := mput s.gs id { g with members := IntKind.wrap .i64 (g.members + b) } } | none => s
theorem h73 (s : Rs) (id b : Int) : TI.h 73 [.ptr 0 0 0, .int .i64 id, .int .i64 b] (hpR s) 3 = some (.tup [], hpR (count s id b)) := by
  refine TmI_introH lib_mono txt_73 rfl ?_
  cases h3 : mlook s.gs id with
  | none => simp -implicitDefEqProofs only [↓goP, goQ, tauS, Nat.reduceBEq, Nat.reduceBNe, Nat.reduceLT, Nat.reduceLeDiff, Nat.reduceAdd, Nat.reduceMul, Nat.reduceSub, Nat.reduceMod, Nat.reduceDiv, reduceCtorEq, Nat.reduceEqDiff, reduceIte, decide_true, decide_false, Int.reduceEq, Int.reduceNe, Int.reduceLT, Int.reduceLE, Int.reduceNeg, Int.reduceBEq, not_false_eq_true, not_true_eq_false, Int.reduceBNe, zeroD_struct, zeroD_int, zeroD_bool, List.set_cons_zero, List.set_cons_succ, c73, hpR, roS, h3, count, encG_def]
  | some g => simp -implicitDefEqProofs only [↓goP, goQ, tauS, Nat.reduceBEq, Nat.reduceBNe, Nat.reduceLT, Nat.reduceLeDiff, Nat.reduceAdd, Nat.reduceMul, Nat.reduceSub, Nat.reduceMod, Nat.reduceDiv, reduceCtorEq, Nat.reduceEqDiff, reduceIte, decide_true, decide_false, Int.reduceEq, Int.reduceNe, Int.reduceLT, Int.reduceLE, Int.reduceNeg, Int.reduceBEq, not_false_eq_true, not_true_eq_false, Int.reduceBNe, zeroD_struct, zeroD_int, zeroD_bool, List.set_cons_zero, List.set_cons_succ, c73, hpR, roS, h3, count, encG_def, mput_some h3]
end Go.Proofs.Ytemcdpkiphmndaa.Tb
