import Derived.Test.YtemcdpkiphmndaaLc7a
set_option linter.unusedSimpArgs false
set_option linter.unusedVariables false
namespace Go.Proofs.Ytemcdpkiphmndaa.Tb
open Go.Proofs.Ytemcdpkiphmndaa.Ab
set_option maxRecDepth 100000
/-- What the list of commands is, as a value. -/
def cmdsV (X : D) (cs : List Cmd) : Prop := X = .nils ∧ cs = [] ∨ X = .ro 8 (cs.map encC)
structure SlV (X : D) (ty sz : Nat) (es : List (List D)) : Prop where
  len : vLen X = some (.int .i64 (es.length : Int))
  idx : ∀ h (i : Nat) e, es[i]? = some e → vIndexAddr tau h ty X (.int .i64 (i : Int)) = some (.rop e)
  lo : locs X = []
  re : ∀ f, ren f X = X
theorem cmdsV_sl {X cs} (h : cmdsV X cs) : SlV X 60 8 (cs.map encC) := by
  rcases h with ⟨rfl, rfl⟩ | rfl
  · exact ⟨rfl, fun h i e a => by simp at a, rfl, fun _ => rfl⟩
  · refine ⟨rfl, fun h i e a => ?_, rfl, fun _ => rfl⟩
    have b : nth (cs.map encC) (i : Int) = some e := by rw [← a]; simp [nth]
    simp -implicitDefEqProofs only [↓goP, goQ, tauS, Nat.reduceBEq, Nat.reduceBNe, Nat.reduceLT, Nat.reduceLeDiff, Nat.reduceAdd, Nat.reduceMul, Nat.reduceSub, Nat.reduceMod, Nat.reduceDiv, reduceCtorEq, Nat.reduceEqDiff, reduceIte, decide_true, decide_false, Int.reduceEq, Int.reduceNe, Int.reduceLT, Int.reduceLE, Int.reduceNeg, beq_self_eq_true, Int.reduceToNat, Int.toNat_natCast, Int.natCast_nonneg, List.getElem?_map, Int.reduceBEq, not_false_eq_true, not_true_eq_false, Int.reduceBNe, zeroD_struct, zeroD_int, zeroD_bool, List.set_cons_zero, List.set_cons_succ, b]
theorem awake28 : TI.p 32 [] = some (.bool true) := TmI_fast lib_mono 200 (by kernel_rfl)
theorem wrap_sub (x y : Int) (h1 : -1000000 ≤ x - y) (h2 : x - y ≤ 1000000) : IntKind.wrap .i64 (x - y) = x - y := by
  simp [IntKind.wrap, IntKind.signed, IntKind.bits]; omega
theorem p5 (X : D) (cs : List Cmd) (hX : cmdsV X cs) : TI.p 5 [X] = some (.bool true) := by
  have v := cmdsV_sl hX
  have vl := v.len
  rw [List.length_map] at vl
  have vo := v.lo
  have vr := v.re
  refine TmI_intro lib_mono txt_5 rfl ?_
  have a := h27 16 (by omega) (by omega)
  simp -implicitDefEqProofs only [↓goP, goQ, tauS, Nat.reduceBEq, Nat.reduceBNe, Nat.reduceLT, Nat.reduceLeDiff, Nat.reduceAdd, Nat.reduceMul, Nat.reduceSub, Nat.reduceMod, Nat.reduceDiv, reduceCtorEq, Nat.reduceEqDiff, reduceIte, decide_true, decide_false, Int.reduceEq, Int.reduceNe, Int.reduceLT, Int.reduceLE, Int.reduceNeg, beq_self_eq_true, Int.reduceToNat, Int.toNat_natCast, Int.natCast_nonneg, List.getElem?_map, Int.reduceBEq, not_false_eq_true, not_true_eq_false, Int.reduceBNe, zeroD_struct, zeroD_int, zeroD_bool, List.set_cons_zero, List.set_cons_succ, c5, hpR, roS, a, vo, vr]
  refine GoL_exit (fun (s : Rs) t => Inv s ∧ Ab.get t 3 = .ptr 0 0 0) hpR ?_ ?_
  · intro s t ⟨hI, ht⟩
    obtain ⟨kt, kg, lg⟩ := ok_keys hI
    by_cases hz : s.ts = []
    · have b := h31e s hI.ok hz
      simp -implicitDefEqProofs only [↓goP, goQ, tauS, Nat.reduceBEq, Nat.reduceBNe, Nat.reduceLT, Nat.reduceLeDiff, Nat.reduceAdd, Nat.reduceMul, Nat.reduceSub, Nat.reduceMod, Nat.reduceDiv, reduceCtorEq, Nat.reduceEqDiff, reduceIte, decide_true, decide_false, Int.reduceEq, Int.reduceNe, Int.reduceLT, Int.reduceLE, Int.reduceNeg, beq_self_eq_true, Int.reduceToNat, Int.toNat_natCast, Int.natCast_nonneg, List.getElem?_map, Int.reduceBEq, not_false_eq_true, not_true_eq_false, Int.reduceBNe, zeroD_struct, zeroD_int, zeroD_bool, List.set_cons_zero, List.set_cons_succ, roS, ht, b]
      refine GoL_exit (fun (_ : Unit) t => Ab.get t 3 = .ptr 0 0 0 ∧ Ab.get t 6 = .int .i64 (nz (tasksL s) : Int)) (fun _ => hpR s) ?_ ?_
      · intro _ t ⟨ht3, ht6⟩
        by_cases hg : s.gs = []
        · have d := h35e s hI.ok hg
          have hn : (nz (tasksL s) : Int) = 0 := by rw [← mem_all hI]; simp [groupsL, hg, mkeys, sortI, mem]
          simp -implicitDefEqProofs only [↓goP, goQ, tauS, Nat.reduceBEq, Nat.reduceBNe, Nat.reduceLT, Nat.reduceLeDiff, Nat.reduceAdd, Nat.reduceMul, Nat.reduceSub, Nat.reduceMod, Nat.reduceDiv, reduceCtorEq, Nat.reduceEqDiff, reduceIte, decide_true, decide_false, Int.reduceEq, Int.reduceNe, Int.reduceLT, Int.reduceLE, Int.reduceNeg, beq_self_eq_true, Int.reduceToNat, Int.toNat_natCast, Int.natCast_nonneg, List.getElem?_map, Int.reduceBEq, not_false_eq_true, not_true_eq_false, Int.reduceBNe, zeroD_struct, zeroD_int, zeroD_bool, List.set_cons_zero, List.set_cons_succ, roS, ht3, ht6, d]
          rw [GoL_def]
          simp -implicitDefEqProofs only [↓goP, goQ, tauS, Nat.reduceBEq, Nat.reduceBNe, Nat.reduceLT, Nat.reduceLeDiff, Nat.reduceAdd, Nat.reduceMul, Nat.reduceSub, Nat.reduceMod, Nat.reduceDiv, reduceCtorEq, Nat.reduceEqDiff, reduceIte, decide_true, decide_false, Int.reduceEq, Int.reduceNe, Int.reduceLT, Int.reduceLE, Int.reduceNeg, beq_self_eq_true, Int.reduceToNat, Int.toNat_natCast, Int.natCast_nonneg, List.getElem?_map, Int.reduceBEq, not_false_eq_true, not_true_eq_false, Int.reduceBNe, zeroD_struct, zeroD_int, zeroD_bool, List.set_cons_zero, List.set_cons_succ, roS, hn, awake28]
        · have hgp : 0 < s.gs.length := List.length_pos_iff.2 hg
          have d := h35 s hI.ok kg lg hgp
          simp -implicitDefEqProofs only [↓goP, goQ, tauS, Nat.reduceBEq, Nat.reduceBNe, Nat.reduceLT, Nat.reduceLeDiff, Nat.reduceAdd, Nat.reduceMul, Nat.reduceSub, Nat.reduceMod, Nat.reduceDiv, reduceCtorEq, Nat.reduceEqDiff, reduceIte, decide_true, decide_false, Int.reduceEq, Int.reduceNe, Int.reduceLT, Int.reduceLE, Int.reduceNeg, beq_self_eq_true, Int.reduceToNat, Int.toNat_natCast, Int.natCast_nonneg, List.getElem?_map, Int.reduceBEq, not_false_eq_true, not_true_eq_false, Int.reduceBNe, zeroD_struct, zeroD_int, zeroD_bool, List.set_cons_zero, List.set_cons_succ, roS, ht3, ht6, d]
          refine GoL_ind (fun i : Nat => ⟨[(6, .int .i64 ((nz (tasksL s) : Int) - mem ((groupsL s).take i))), (102, .own 0 0 s.gs.length), (103, .int .i64 (s.gs.length : Int)), (104, .int .i64 (i : Int))], [(0, ⟨2, .row, 67, 3, (groupsL s).map cG⟩)]⟩) (fun i => i ≤ s.gs.length) (fun i => s.gs.length - i) ?_ 0 (Nat.zero_le _) (by simp [mem])
          intro i hi ih
          rw [GoL_def]
          by_cases hlt : i < s.gs.length
          · obtain ⟨g, e1, e2⟩ := groupsL_get hI hlt
            have q2 : (i : Int) < (s.gs.length : Int) := by omega
            have hw := wrap_nat i (by omega)
            have hm : mem ((groupsL s).take (i + 1)) = mem ((groupsL s).take i) + g.members := by
              unfold mem; rw [List.take_add_one, e1, List.map_append, List.sum_append]; simp
            have hb := mem_le hI (i + 1)
            have hb2 := nz_le hI
            have hs : IntKind.wrap .i64 ((nz (tasksL s) : Int) - mem ((groupsL s).take i) - g.members) = (nz (tasksL s) : Int) - mem ((groupsL s).take (i + 1)) := by
              rw [wrap_sub _ _ (by omega) (by omega)]; omega
            simp -implicitDefEqProofs only [↓goP, goQ, tauS, Nat.reduceBEq, Nat.reduceBNe, Nat.reduceLT, Nat.reduceLeDiff, Nat.reduceAdd, Nat.reduceMul, Nat.reduceSub, Nat.reduceMod, Nat.reduceDiv, reduceCtorEq, Nat.reduceEqDiff, reduceIte, decide_true, decide_false, Int.reduceEq, Int.reduceNe, Int.reduceLT, Int.reduceLE, Int.reduceNeg, beq_self_eq_true, Int.reduceToNat, Int.toNat_natCast, Int.natCast_nonneg, List.getElem?_map, Int.reduceBEq, not_false_eq_true, not_true_eq_false, Int.reduceBNe, zeroD_struct, zeroD_int, zeroD_bool, List.set_cons_zero, List.set_cons_succ, roS, q2, hw, e1, cG, hs]
            exact ih (i + 1) (by omega) (by omega)
          · have q2 : ¬ (i : Int) < (s.gs.length : Int) := by omega
            have hn : (nz (tasksL s) : Int) - mem ((groupsL s).take i) = 0 := by
              rw [List.take_of_length_le (by rw [groupsL_len']; omega), mem_all hI]; omega
            simp -implicitDefEqProofs only [↓goP, goQ, tauS, Nat.reduceBEq, Nat.reduceBNe, Nat.reduceLT, Nat.reduceLeDiff, Nat.reduceAdd, Nat.reduceMul, Nat.reduceSub, Nat.reduceMod, Nat.reduceDiv, reduceCtorEq, Nat.reduceEqDiff, reduceIte, decide_true, decide_false, Int.reduceEq, Int.reduceNe, Int.reduceLT, Int.reduceLE, Int.reduceNeg, beq_self_eq_true, Int.reduceToNat, Int.toNat_natCast, Int.natCast_nonneg, List.getElem?_map, Int.reduceBEq, not_false_eq_true, not_true_eq_false, Int.reduceBNe, zeroD_struct, zeroD_int, zeroD_bool, List.set_cons_zero, List.set_cons_succ, roS, q2, hn, awake28]
      · intro K' hK
        rw [GoL_def]
        simp -implicitDefEqProofs only [↓goP, goQ, tauS, Nat.reduceBEq, Nat.reduceBNe, Nat.reduceLT, Nat.reduceLeDiff, Nat.reduceAdd, Nat.reduceMul, Nat.reduceSub, Nat.reduceMod, Nat.reduceDiv, reduceCtorEq, Nat.reduceEqDiff, reduceIte, decide_true, decide_false, Int.reduceEq, Int.reduceNe, Int.reduceLT, Int.reduceLE, Int.reduceNeg, beq_self_eq_true, Int.reduceToNat, Int.toNat_natCast, Int.natCast_nonneg, List.getElem?_map, Int.reduceBEq, not_false_eq_true, not_true_eq_false, Int.reduceBNe, zeroD_struct, zeroD_int, zeroD_bool, List.set_cons_zero, List.set_cons_succ, roS]
        refine hK () _ ⟨rfl, ?_⟩
        show D.int .i64 0 = _
        simp [tasksL, hz, mkeys, sortI, nz]
    · have hpos : 0 < s.ts.length := List.length_pos_iff.2 hz
      have hlt := hI.lt
      have b := h31 s hI.ok kt (by omega) hpos
      simp -implicitDefEqProofs only [↓goP, goQ, tauS, Nat.reduceBEq, Nat.reduceBNe, Nat.reduceLT, Nat.reduceLeDiff, Nat.reduceAdd, Nat.reduceMul, Nat.reduceSub, Nat.reduceMod, Nat.reduceDiv, reduceCtorEq, Nat.reduceEqDiff, reduceIte, decide_true, decide_false, Int.reduceEq, Int.reduceNe, Int.reduceLT, Int.reduceLE, Int.reduceNeg, beq_self_eq_true, Int.reduceToNat, Int.toNat_natCast, Int.natCast_nonneg, List.getElem?_map, Int.reduceBEq, not_false_eq_true, not_true_eq_false, Int.reduceBNe, zeroD_struct, zeroD_int, zeroD_bool, List.set_cons_zero, List.set_cons_succ, roS, ht, b]
      refine GoL_exit (fun (_ : Unit) t => Ab.get t 3 = .ptr 0 0 0 ∧ Ab.get t 6 = .int .i64 (nz (tasksL s) : Int)) (fun _ => hpR s ++ [(3, ⟨2, .row, 65, 6, (tasksL s).map cT⟩)]) ?_ ?_
      · intro _ t ⟨ht3, ht6⟩
        by_cases hg : s.gs = []
        · have d := h35e s hI.ok hg
          have hn : (nz (tasksL s) : Int) = 0 := by rw [← mem_all hI]; simp [groupsL, hg, mkeys, sortI, mem]
          simp -implicitDefEqProofs only [↓goP, goQ, tauS, Nat.reduceBEq, Nat.reduceBNe, Nat.reduceLT, Nat.reduceLeDiff, Nat.reduceAdd, Nat.reduceMul, Nat.reduceSub, Nat.reduceMod, Nat.reduceDiv, reduceCtorEq, Nat.reduceEqDiff, reduceIte, decide_true, decide_false, Int.reduceEq, Int.reduceNe, Int.reduceLT, Int.reduceLE, Int.reduceNeg, beq_self_eq_true, Int.reduceToNat, Int.toNat_natCast, Int.natCast_nonneg, List.getElem?_map, Int.reduceBEq, not_false_eq_true, not_true_eq_false, Int.reduceBNe, zeroD_struct, zeroD_int, zeroD_bool, List.set_cons_zero, List.set_cons_succ, roS, ht3, ht6, d]
          rw [GoL_def]
          simp -implicitDefEqProofs only [↓goP, goQ, tauS, Nat.reduceBEq, Nat.reduceBNe, Nat.reduceLT, Nat.reduceLeDiff, Nat.reduceAdd, Nat.reduceMul, Nat.reduceSub, Nat.reduceMod, Nat.reduceDiv, reduceCtorEq, Nat.reduceEqDiff, reduceIte, decide_true, decide_false, Int.reduceEq, Int.reduceNe, Int.reduceLT, Int.reduceLE, Int.reduceNeg, beq_self_eq_true, Int.reduceToNat, Int.toNat_natCast, Int.natCast_nonneg, List.getElem?_map, Int.reduceBEq, not_false_eq_true, not_true_eq_false, Int.reduceBNe, zeroD_struct, zeroD_int, zeroD_bool, List.set_cons_zero, List.set_cons_succ, roS, hn, awake28]
        · have hgp : 0 < s.gs.length := List.length_pos_iff.2 hg
          have d := h35 s hI.ok kg lg hgp
          simp -implicitDefEqProofs only [↓goP, goQ, tauS, Nat.reduceBEq, Nat.reduceBNe, Nat.reduceLT, Nat.reduceLeDiff, Nat.reduceAdd, Nat.reduceMul, Nat.reduceSub, Nat.reduceMod, Nat.reduceDiv, reduceCtorEq, Nat.reduceEqDiff, reduceIte, decide_true, decide_false, Int.reduceEq, Int.reduceNe, Int.reduceLT, Int.reduceLE, Int.reduceNeg, beq_self_eq_true, Int.reduceToNat, Int.toNat_natCast, Int.natCast_nonneg, List.getElem?_map, Int.reduceBEq, not_false_eq_true, not_true_eq_false, Int.reduceBNe, zeroD_struct, zeroD_int, zeroD_bool, List.set_cons_zero, List.set_cons_succ, roS, ht3, ht6, d]
          refine GoL_ind (fun i : Nat => ⟨[(6, .int .i64 ((nz (tasksL s) : Int) - mem ((groupsL s).take i))), (102, .own 0 0 s.gs.length), (103, .int .i64 (s.gs.length : Int)), (104, .int .i64 (i : Int))], [(0, ⟨2, .row, 67, 3, (groupsL s).map cG⟩)]⟩) (fun i => i ≤ s.gs.length) (fun i => s.gs.length - i) ?_ 0 (Nat.zero_le _) (by simp [mem])
          intro i hi ih
          rw [GoL_def]
          by_cases hlt : i < s.gs.length
          · obtain ⟨g, e1, e2⟩ := groupsL_get hI hlt
            have q2 : (i : Int) < (s.gs.length : Int) := by omega
            have hw := wrap_nat i (by omega)
            have hm : mem ((groupsL s).take (i + 1)) = mem ((groupsL s).take i) + g.members := by
              unfold mem; rw [List.take_add_one, e1, List.map_append, List.sum_append]; simp
            have hb := mem_le hI (i + 1)
            have hb2 := nz_le hI
            have hs : IntKind.wrap .i64 ((nz (tasksL s) : Int) - mem ((groupsL s).take i) - g.members) = (nz (tasksL s) : Int) - mem ((groupsL s).take (i + 1)) := by
              rw [wrap_sub _ _ (by omega) (by omega)]; omega
            simp -implicitDefEqProofs only [↓goP, goQ, tauS, Nat.reduceBEq, Nat.reduceBNe, Nat.reduceLT, Nat.reduceLeDiff, Nat.reduceAdd, Nat.reduceMul, Nat.reduceSub, Nat.reduceMod, Nat.reduceDiv, reduceCtorEq, Nat.reduceEqDiff, reduceIte, decide_true, decide_false, Int.reduceEq, Int.reduceNe, Int.reduceLT, Int.reduceLE, Int.reduceNeg, beq_self_eq_true, Int.reduceToNat, Int.toNat_natCast, Int.natCast_nonneg, List.getElem?_map, Int.reduceBEq, not_false_eq_true, not_true_eq_false, Int.reduceBNe, zeroD_struct, zeroD_int, zeroD_bool, List.set_cons_zero, List.set_cons_succ, roS, q2, hw, e1, cG, hs]
            exact ih (i + 1) (by omega) (by omega)
          · have q2 : ¬ (i : Int) < (s.gs.length : Int) := by omega
            have hn : (nz (tasksL s) : Int) - mem ((groupsL s).take i) = 0 := by
              rw [List.take_of_length_le (by rw [groupsL_len']; omega), mem_all hI]; omega
            simp -implicitDefEqProofs only [↓goP, goQ, tauS, Nat.reduceBEq, Nat.reduceBNe, Nat.reduceLT, Nat.reduceLeDiff, Nat.reduceAdd, Nat.reduceMul, Nat.reduceSub, Nat.reduceMod, Nat.reduceDiv, reduceCtorEq, Nat.reduceEqDiff, reduceIte, decide_true, decide_false, Int.reduceEq, Int.reduceNe, Int.reduceLT, Int.reduceLE, Int.reduceNeg, beq_self_eq_true, Int.reduceToNat, Int.toNat_natCast, Int.natCast_nonneg, List.getElem?_map, Int.reduceBEq, not_false_eq_true, not_true_eq_false, Int.reduceBNe, zeroD_struct, zeroD_int, zeroD_bool, List.set_cons_zero, List.set_cons_succ, roS, q2, hn, awake28]
      · intro K' hK
        refine GoL_ind (fun i : Nat => ⟨[(3, .ptr 0 0 0), (6, .int .i64 (nz ((tasksL s).take i) : Int)), (40, .own 3 0 s.ts.length), (41, .int .i64 (s.ts.length : Int)), (42, .int .i64 (i : Int))], hpR s ++ [(3, ⟨2, .row, 65, 6, (tasksL s).map cT⟩)]⟩) (fun i => i ≤ s.ts.length) (fun i => s.ts.length - i) ?_ 0 (Nat.zero_le _) rfl
        intro i hi ih
        rw [GoL_def]
        by_cases hlt : i < s.ts.length
        · obtain ⟨t, e1, e2⟩ := tasksL_get hI hlt
          have q2 : (i : Int) < (s.ts.length : Int) := by omega
          have hw := wrap_nat i (by omega)
          have e := h34 s hI.ok t.group
          rcases (hI.tasks _ _ e2).2 with ⟨g1, g2, g3, g4, g5⟩ | ⟨g1, ⟨g, g2⟩, g3, g4, g5, g6, g7⟩
          · have hn : nz ((tasksL s).take (i + 1)) = nz ((tasksL s).take i) := by
              unfold nz; rw [List.take_add_one, e1, List.countP_append]; simp [g1]
            have q3 : ¬ t.share < 1 := by omega
            have g0 : mlook s.gs 0 = none := by
              rw [mlook_none]; intro h; have := hI.kg _ h; omega
            rw [g1] at e
            simp only [grp, g0] at e
            simp -implicitDefEqProofs only [↓goP, goQ, tauS, Nat.reduceBEq, Nat.reduceBNe, Nat.reduceLT, Nat.reduceLeDiff, Nat.reduceAdd, Nat.reduceMul, Nat.reduceSub, Nat.reduceMod, Nat.reduceDiv, reduceCtorEq, Nat.reduceEqDiff, reduceIte, decide_true, decide_false, Int.reduceEq, Int.reduceNe, Int.reduceLT, Int.reduceLE, Int.reduceNeg, beq_self_eq_true, Int.reduceToNat, Int.toNat_natCast, Int.natCast_nonneg, List.getElem?_map, Int.reduceBEq, not_false_eq_true, not_true_eq_false, Int.reduceBNe, zeroD_struct, zeroD_int, zeroD_bool, List.set_cons_zero, List.set_cons_succ, roS, q2, hw, e1, cT, e, g1, g4, g5, q3, encG_def, gz]
            have := ih (i + 1) (by omega) (by omega)
            simp only [hn] at this
            exact this
          · have hn : nz ((tasksL s).take (i + 1)) = nz ((tasksL s).take i) + 1 := by
              unfold nz; rw [List.take_add_one, e1, List.countP_append]; simp [g1]
            have g1' := beq_false_of_ne g1
            simp only [grp, g2] at e
            have q3 : ¬ t.weight < 1 := by omega
            have q4 : ¬ g.members < 1 := by have := mem_pos hI e2 g1 g2; omega
            have hb := nz_take hI i
            have hw2 := wrap_nat (nz ((tasksL s).take i)) (by omega)
            simp -implicitDefEqProofs only [↓goP, goQ, tauS, Nat.reduceBEq, Nat.reduceBNe, Nat.reduceLT, Nat.reduceLeDiff, Nat.reduceAdd, Nat.reduceMul, Nat.reduceSub, Nat.reduceMod, Nat.reduceDiv, reduceCtorEq, Nat.reduceEqDiff, reduceIte, decide_true, decide_false, Int.reduceEq, Int.reduceNe, Int.reduceLT, Int.reduceLE, Int.reduceNeg, beq_self_eq_true, Int.reduceToNat, Int.toNat_natCast, Int.natCast_nonneg, List.getElem?_map, Int.reduceBEq, not_false_eq_true, not_true_eq_false, Int.reduceBNe, zeroD_struct, zeroD_int, zeroD_bool, List.set_cons_zero, List.set_cons_succ, roS, q2, hw, hw2, e1, cT, e, g1', g3, q3, q4, bne_int, encG_def]
            have := ih (i + 1) (by omega) (by omega)
            simp only [hn] at this
            exact this
        · have q2 : ¬ (i : Int) < (s.ts.length : Int) := by omega
          simp -implicitDefEqProofs only [↓goP, goQ, tauS, Nat.reduceBEq, Nat.reduceBNe, Nat.reduceLT, Nat.reduceLeDiff, Nat.reduceAdd, Nat.reduceMul, Nat.reduceSub, Nat.reduceMod, Nat.reduceDiv, reduceCtorEq, Nat.reduceEqDiff, reduceIte, decide_true, decide_false, Int.reduceEq, Int.reduceNe, Int.reduceLT, Int.reduceLE, Int.reduceNeg, beq_self_eq_true, Int.reduceToNat, Int.toNat_natCast, Int.natCast_nonneg, List.getElem?_map, Int.reduceBEq, not_false_eq_true, not_true_eq_false, Int.reduceBNe, zeroD_struct, zeroD_int, zeroD_bool, List.set_cons_zero, List.set_cons_succ, roS, q2]
          refine hK () _ ⟨rfl, ?_⟩
          show D.int .i64 (nz ((tasksL s).take i) : Int) = _
          rw [List.take_of_length_le (by rw [tasksL_len]; omega)]
  intro K' hK
  refine GoL_ind (fun p : Nat × Rs => ⟨[(0, X), (3, .ptr 0 0 0), (5, .int .i64 (p.1 : Int))], hpR p.2⟩) (fun p => Inv p.2 ∧ p.1 ≤ cs.length) (fun p => cs.length - p.1) ?_ (0, ⟨16, [], []⟩) ?_ rfl
  · rintro ⟨i, s⟩ ⟨hI, hi⟩ ih
    simp only at hI hi
    rw [GoL_def]
    by_cases h1 : (i : Int) < (cs.length : Int)
    · by_cases h2 : (i : Int) < 100
      · obtain ⟨c, hc⟩ : ∃ c, cs[i]? = some c := ⟨cs[i]'(by omega), by simp⟩
        have hc' : (cs.map encC)[i]? = some (encC c) := by simp [hc]
        have b := h33 s hI.ok c
        rw [encC_def] at b
        have hw := wrap_nat i (by omega)
        have vi := v.idx (hpR s) i _ hc'
        simp -implicitDefEqProofs only [↓goP, goQ, tauS, Nat.reduceBEq, Nat.reduceBNe, Nat.reduceLT, Nat.reduceLeDiff, Nat.reduceAdd, Nat.reduceMul, Nat.reduceSub, Nat.reduceMod, Nat.reduceDiv, reduceCtorEq, Nat.reduceEqDiff, reduceIte, decide_true, decide_false, Int.reduceEq, Int.reduceNe, Int.reduceLT, Int.reduceLE, Int.reduceNeg, beq_self_eq_true, Int.reduceToNat, Int.toNat_natCast, Int.natCast_nonneg, List.getElem?_map, Int.reduceBEq, not_false_eq_true, not_true_eq_false, Int.reduceBNe, zeroD_struct, zeroD_int, zeroD_bool, List.set_cons_zero, List.set_cons_succ, roS, h1, h2, vl, vo, vr, vi, b, hw, encC_def]
        exact ih (i + 1, (doR s c).2) ⟨hI.doR c, by simp only; omega⟩ (by simp only; omega)
      · simp -implicitDefEqProofs only [↓goP, goQ, tauS, Nat.reduceBEq, Nat.reduceBNe, Nat.reduceLT, Nat.reduceLeDiff, Nat.reduceAdd, Nat.reduceMul, Nat.reduceSub, Nat.reduceMod, Nat.reduceDiv, reduceCtorEq, Nat.reduceEqDiff, reduceIte, decide_true, decide_false, Int.reduceEq, Int.reduceNe, Int.reduceLT, Int.reduceLE, Int.reduceNeg, beq_self_eq_true, Int.reduceToNat, Int.toNat_natCast, Int.natCast_nonneg, List.getElem?_map, Int.reduceBEq, not_false_eq_true, not_true_eq_false, Int.reduceBNe, zeroD_struct, zeroD_int, zeroD_bool, List.set_cons_zero, List.set_cons_succ, roS, h1, h2, vl]
        exact hK s _ ⟨hI, rfl⟩
    · simp -implicitDefEqProofs only [↓goP, goQ, tauS, Nat.reduceBEq, Nat.reduceBNe, Nat.reduceLT, Nat.reduceLeDiff, Nat.reduceAdd, Nat.reduceMul, Nat.reduceSub, Nat.reduceMod, Nat.reduceDiv, reduceCtorEq, Nat.reduceEqDiff, reduceIte, decide_true, decide_false, Int.reduceEq, Int.reduceNe, Int.reduceLT, Int.reduceLE, Int.reduceNeg, beq_self_eq_true, Int.reduceToNat, Int.toNat_natCast, Int.natCast_nonneg, List.getElem?_map, Int.reduceBEq, not_false_eq_true, not_true_eq_false, Int.reduceBNe, zeroD_struct, zeroD_int, zeroD_bool, List.set_cons_zero, List.set_cons_succ, roS, h1, vl]
      exact hK s _ ⟨hI, rfl⟩
  · refine ⟨⟨by decide, by decide, by simp [mkeys], by simp [mkeys], by simp [mkeys], by simp [mkeys], by simp, by simp [mlook], by simp [mlook]⟩, Nat.zero_le _⟩
end Go.Proofs.Ytemcdpkiphmndaa.Tb
