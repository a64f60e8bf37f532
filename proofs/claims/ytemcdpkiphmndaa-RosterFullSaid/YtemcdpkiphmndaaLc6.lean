import Derived.Test.YtemcdpkiphmndaaLc5
set_option linter.unusedSimpArgs false
set_option linter.unusedVariables false
namespace Go.Proofs.Ytemcdpkiphmndaa.Tb
open Go.Proofs.Ytemcdpkiphmndaa.Ab
set_option maxRecDepth 100000
theorem h85 (t z : Nat) (es : List (List D)) (h1 : locsEs es = []) (h2 : ∀ f, renEs f es = es) : TI.h 85 [.mp 0] [(0, ⟨2, .map, t, z, es⟩)] 1 = some (.clo 123 [.ptr 1 0 0], [(0, ⟨2, .map, t, z, es⟩), (1, ⟨2, .box, 90, 1, [[.mp 0]]⟩)]) := by
  refine TmI_introH lib_mono txt_85 rfl ?_
  simp -implicitDefEqProofs only [↓goP, goQ, tauS, Nat.reduceBEq, Nat.reduceBNe, Nat.reduceLT, Nat.reduceLeDiff, Nat.reduceAdd, Nat.reduceMul, Nat.reduceSub, Nat.reduceMod, Nat.reduceDiv, reduceCtorEq, Nat.reduceEqDiff, reduceIte, decide_true, decide_false, Int.reduceEq, Int.reduceNe, Int.reduceLT, Int.reduceLE, Int.reduceNeg, beq_self_eq_true, Int.reduceToNat, Int.toNat_natCast, Int.natCast_nonneg, List.getElem?_map, Int.reduceBEq, not_false_eq_true, not_true_eq_false, Int.reduceBNe, zeroD_struct, zeroD_int, zeroD_bool, List.set_cons_zero, List.set_cons_succ, c85, h1, h2]
theorem h74g (tb t z : Nat) (es : List (List D)) (ks : List Int) (h1 : keysI es = some ks) (h2 : es.length ≤ 1000000000) :
    TI.h 74 [.clo 123 [.ptr 0 0 0]] [(0, ⟨2, .box, tb, 1, [[.mp 1]]⟩), (1, ⟨2, .map, t, z, es⟩)] 2 = some (sortedV 3 3000 [(0, ⟨2, .box, tb, 1, [[.mp 1]]⟩), (1, ⟨2, .map, t, z, es⟩)] ks) := by
  refine TmI_libH lib_mono txt74 0 ?_
  rw [libH74]
  show gd (true && decide (es.length ≤ 1000000000)) (bO (keysI es) fun ns => some (sortedV 3 3000 _ ns)) = _
  rw [decide_eq_true h2, h1]
  rfl
def gk (s : Rs) (k : Int) : Grp := (mlook s.gs k).getD gz
def cG (t : Grp) : List D := [.int .i64 t.id, .int .i64 t.share, .int .i64 t.members]
/-- The groups, by rising numbers. -/
def groupsL (s : Rs) : List Grp := (sortI (mkeys s.gs)).map (gk s)
theorem groupsL_len (s : Rs) : (groupsL s).length = s.gs.length := by unfold groupsL; rw [List.length_map, sortI_len]; simp [mkeys]
theorem h35 (s : Rs) (hf : s.ok) (hk : ∀ k ∈ mkeys s.gs, okI64 k = true) (hl : s.gs.length ≤ 1000) (hne : 0 < s.gs.length) :
    TI.h 35 [.ptr 0 0 0] (hpR s) 3 = some (.own 3 0 s.gs.length, hpR s ++ [(3, ⟨2, .row, 67, 3, (groupsL s).map cG⟩)]) := by
  refine TmI_introH lib_mono txt_35 rfl ?_
  have a := h67 s hf
  have b := h85 90 2 (s.gs.map (ent encG)) (locsG _) (fun f => renG f _)
  have c := h74g 90 90 2 (s.gs.map (ent encG)) (mkeys s.gs) (keysI_ent encG s.gs hk) (by rw [List.length_map]; omega)
  have hm : (mkeys s.gs).length = s.gs.length := by simp [mkeys]
  have hc : sortedV 3 3000 [(0, ⟨2, .box, 90, 1, [[.mp 1]]⟩), (1, ⟨2, .map, 90, 2, s.gs.map (ent encG)⟩)] (mkeys s.gs) = (.own 3000 0 s.gs.length, [(3000, ⟨2, .row, 3, 1, (sortI (mkeys s.gs)).map i1⟩), (0, ⟨2, .box, 90, 1, [[.mp 1]]⟩), (1, ⟨2, .map, 90, 2, s.gs.map (ent encG)⟩)]) := by
    rw [← hm]
    cases hm2 : mkeys s.gs with
    | nil => rw [hm2] at hm; simp at hm; omega
    | cons n ns => rfl
  rw [hc] at c
  generalize hL : sortI (mkeys s.gs) = L at c
  have hLn : L.length = s.gs.length := by rw [← hL, sortI_len, hm]
  have hin : ∀ i, i < s.gs.length → ∃ k t, L[i]? = some k ∧ mlook s.gs k = some t := by
    intro i hi
    refine ⟨L[i]'(by omega), ?_⟩
    have hmem : L[i]'(by omega) ∈ mkeys s.gs := by
      rw [← (sortI_perm (mkeys s.gs)).mem_iff, hL]; exact List.getElem_mem _
    cases e : mlook s.gs (L[i]'(by omega)) with
    | none => exact absurd hmem (mlook_none.1 e)
    | some t => exact ⟨t, by simp, rfl⟩
  obtain ⟨k0, t0, e0, e1⟩ := hin 0 hne
  have htl : (groupsL s).map cG = (L.map fun k => cG (gk s k)) := by unfold groupsL; rw [hL, List.map_map]; rfl
  rw [htl]
  simp -implicitDefEqProofs only [↓goP, goQ, tauS, Nat.reduceBEq, Nat.reduceBNe, Nat.reduceLT, Nat.reduceLeDiff, Nat.reduceAdd, Nat.reduceMul, Nat.reduceSub, Nat.reduceMod, Nat.reduceDiv, reduceCtorEq, Nat.reduceEqDiff, reduceIte, decide_true, decide_false, Int.reduceEq, Int.reduceNe, Int.reduceLT, Int.reduceLE, Int.reduceNeg, beq_self_eq_true, Int.reduceToNat, Int.toNat_natCast, Int.natCast_nonneg, List.getElem?_map, Int.reduceBEq, not_false_eq_true, not_true_eq_false, Int.reduceBNe, zeroD_struct, zeroD_int, zeroD_bool, List.set_cons_zero, List.set_cons_succ, c35, hpR, roS, a, b, c]
  rw [GoL_def]
  have q1 : (0 : Int) < (s.gs.length : Int) := by omega
  simp -implicitDefEqProofs only [↓goP, goQ, tauS, Nat.reduceBEq, Nat.reduceBNe, Nat.reduceLT, Nat.reduceLeDiff, Nat.reduceAdd, Nat.reduceMul, Nat.reduceSub, Nat.reduceMod, Nat.reduceDiv, reduceCtorEq, Nat.reduceEqDiff, reduceIte, decide_true, decide_false, Int.reduceEq, Int.reduceNe, Int.reduceLT, Int.reduceLE, Int.reduceNeg, beq_self_eq_true, Int.reduceToNat, Int.toNat_natCast, Int.natCast_nonneg, List.getElem?_map, Int.reduceBEq, not_false_eq_true, not_true_eq_false, Int.reduceBNe, zeroD_struct, zeroD_int, zeroD_bool, List.set_cons_zero, List.set_cons_succ, roS, q1, i1, e0, e1, encG_def, hLn]
  refine GoL_ind (fun i : Nat => ⟨[(0, .ptr 0 0 0), (3, .own 3 0 i), (13, .own 4 0 s.gs.length), (14, .int .i64 (s.gs.length : Int)), (15, .int .i64 (i : Int))],
    [(0, ⟨2, .box, 92, 3, [[.int .i64 s.f, .mp 1, .mp 2]]⟩), (1, ⟨2, .map, 89, 2, s.ts.map (ent encT)⟩), (2, ⟨2, .map, 90, 2, s.gs.map (ent encG)⟩), (3, ⟨2, .row, 67, 3, (L.take i).map fun k => cG (gk s k)⟩), (4, ⟨2, .row, 3, 1, L.map i1⟩)]⟩)
    (fun i => 1 ≤ i ∧ i ≤ s.gs.length) (fun i => s.gs.length - i) ?_ 1 ⟨Nat.le_refl _, hne⟩ ?_
  · intro i ⟨hi1, hi2⟩ ih
    rw [GoL_def]
    have ht : (L.take i).length = i := by rw [List.length_take]; omega
    by_cases hlt : i < s.gs.length
    · obtain ⟨k, t, e2, e3⟩ := hin i hlt
      have q2 : (i : Int) < (s.gs.length : Int) := by omega
      have hw := wrap_nat i (by omega)
      have htk : gk s k = t := by unfold gk; rw [e3]; rfl
      have hrow : (L.take i).map (fun k => cG (gk s k)) ++ [[D.int .i64 t.id, .int .i64 t.share, .int .i64 t.members]] = (L.take (i + 1)).map fun k => cG (gk s k) := by
        rw [List.take_add_one, e2, List.map_append, Option.toList_some, List.map_cons, htk]; rfl
      have r1 : (i + 1) * 24 ≤ 70368744177664 := by omega
      have r2 : i ≤ 70368744177663 := by omega
      simp -implicitDefEqProofs only [↓goP, goQ, tauS, Nat.reduceBEq, Nat.reduceBNe, Nat.reduceLT, Nat.reduceLeDiff, Nat.reduceAdd, Nat.reduceMul, Nat.reduceSub, Nat.reduceMod, Nat.reduceDiv, reduceCtorEq, Nat.reduceEqDiff, reduceIte, decide_true, decide_false, Int.reduceEq, Int.reduceNe, Int.reduceLT, Int.reduceLE, Int.reduceNeg, beq_self_eq_true, Int.reduceToNat, Int.toNat_natCast, Int.natCast_nonneg, List.getElem?_map, Int.reduceBEq, not_false_eq_true, not_true_eq_false, Int.reduceBNe, zeroD_struct, zeroD_int, zeroD_bool, List.set_cons_zero, List.set_cons_succ, roS, q2, i1, e2, e3, encG_def, hLn, ht, hw, hrow, r1, r2]
      exact ih (i + 1) ⟨by omega, by omega⟩ (by omega)
    · have q2 : ¬ (i : Int) < (s.gs.length : Int) := by omega
      have : i = s.gs.length := by omega
      subst this
      have htL : L.take s.gs.length = L := by rw [← hLn]; exact List.take_length
      simp -implicitDefEqProofs only [↓goP, goQ, tauS, Nat.reduceBEq, Nat.reduceBNe, Nat.reduceLT, Nat.reduceLeDiff, Nat.reduceAdd, Nat.reduceMul, Nat.reduceSub, Nat.reduceMod, Nat.reduceDiv, reduceCtorEq, Nat.reduceEqDiff, reduceIte, decide_true, decide_false, Int.reduceEq, Int.reduceNe, Int.reduceLT, Int.reduceLE, Int.reduceNeg, beq_self_eq_true, Int.reduceToNat, Int.toNat_natCast, Int.natCast_nonneg, List.getElem?_map, Int.reduceBEq, not_false_eq_true, not_true_eq_false, Int.reduceBNe, zeroD_struct, zeroD_int, zeroD_bool, List.set_cons_zero, List.set_cons_succ, roS, q2, i1, encG_def, hLn, ht, htL]
  · have hrow : (L.take 1).map (fun k => cG (gk s k)) = [[D.int .i64 t0.id, .int .i64 t0.share, .int .i64 t0.members]] := by
      have htk : gk s k0 = t0 := by unfold gk; rw [e1]; rfl
      rw [show 1 = 0 + 1 from rfl, List.take_add_one, e0, List.take_zero, List.nil_append, Option.toList_some, List.map_cons, htk]; rfl
    rw [hrow]; rfl
theorem h31e (s : Rs) (hf : s.ok) (he : s.ts = []) : TI.h 31 [.ptr 0 0 0] (hpR s) 3 = some (.nils, hpR s) := by
  refine TmI_introH lib_mono txt_31 rfl ?_
  have a := h67 s hf
  have b := h75 89 2 (s.ts.map (ent encT)) (locsT _) (fun f => renT f _)
  have c := h74 89 89 2 (s.ts.map (ent encT)) (mkeys s.ts) (keysI_ent encT s.ts (by simp [he, mkeys])) (by simp [he])
  rw [show mkeys s.ts = [] by simp [he, mkeys], show ∀ h, sortedV 3 3000 h [] = (.nils, h) from fun _ => rfl] at c
  simp -implicitDefEqProofs only [↓goP, goQ, tauS, Nat.reduceBEq, Nat.reduceBNe, Nat.reduceLT, Nat.reduceLeDiff, Nat.reduceAdd, Nat.reduceMul, Nat.reduceSub, Nat.reduceMod, Nat.reduceDiv, reduceCtorEq, Nat.reduceEqDiff, reduceIte, decide_true, decide_false, Int.reduceEq, Int.reduceNe, Int.reduceLT, Int.reduceLE, Int.reduceNeg, beq_self_eq_true, Int.reduceToNat, Int.toNat_natCast, Int.natCast_nonneg, List.getElem?_map, Int.reduceBEq, not_false_eq_true, not_true_eq_false, Int.reduceBNe, zeroD_struct, zeroD_int, zeroD_bool, List.set_cons_zero, List.set_cons_succ, c31, hpR, roS, a, b, c]
  rw [GoL_def]
  simp -implicitDefEqProofs only [↓goP, goQ, tauS, Nat.reduceBEq, Nat.reduceBNe, Nat.reduceLT, Nat.reduceLeDiff, Nat.reduceAdd, Nat.reduceMul, Nat.reduceSub, Nat.reduceMod, Nat.reduceDiv, reduceCtorEq, Nat.reduceEqDiff, reduceIte, decide_true, decide_false, Int.reduceEq, Int.reduceNe, Int.reduceLT, Int.reduceLE, Int.reduceNeg, beq_self_eq_true, Int.reduceToNat, Int.toNat_natCast, Int.natCast_nonneg, List.getElem?_map, Int.reduceBEq, not_false_eq_true, not_true_eq_false, Int.reduceBNe, zeroD_struct, zeroD_int, zeroD_bool, List.set_cons_zero, List.set_cons_succ, roS]
theorem h35e (s : Rs) (hf : s.ok) (he : s.gs = []) : TI.h 35 [.ptr 0 0 0] (hpR s) 3 = some (.nils, hpR s) := by
  refine TmI_introH lib_mono txt_35 rfl ?_
  have a := h67 s hf
  have b := h85 90 2 (s.gs.map (ent encG)) (locsG _) (fun f => renG f _)
  have c := h74g 90 90 2 (s.gs.map (ent encG)) (mkeys s.gs) (keysI_ent encG s.gs (by simp [he, mkeys])) (by simp [he])
  rw [show mkeys s.gs = [] by simp [he, mkeys], show ∀ h, sortedV 3 3000 h [] = (.nils, h) from fun _ => rfl] at c
  simp -implicitDefEqProofs only [↓goP, goQ, tauS, Nat.reduceBEq, Nat.reduceBNe, Nat.reduceLT, Nat.reduceLeDiff, Nat.reduceAdd, Nat.reduceMul, Nat.reduceSub, Nat.reduceMod, Nat.reduceDiv, reduceCtorEq, Nat.reduceEqDiff, reduceIte, decide_true, decide_false, Int.reduceEq, Int.reduceNe, Int.reduceLT, Int.reduceLE, Int.reduceNeg, beq_self_eq_true, Int.reduceToNat, Int.toNat_natCast, Int.natCast_nonneg, List.getElem?_map, Int.reduceBEq, not_false_eq_true, not_true_eq_false, Int.reduceBNe, zeroD_struct, zeroD_int, zeroD_bool, List.set_cons_zero, List.set_cons_succ, c35, hpR, roS, a, b, c]
  rw [GoL_def]
  simp -implicitDefEqProofs only [↓goP, goQ, tauS, Nat.reduceBEq, Nat.reduceBNe, Nat.reduceLT, Nat.reduceLeDiff, Nat.reduceAdd, Nat.reduceMul, Nat.reduceSub, Nat.reduceMod, Nat.reduceDiv, reduceCtorEq, Nat.reduceEqDiff, reduceIte, decide_true, decide_false, Int.reduceEq, Int.reduceNe, Int.reduceLT, Int.reduceLE, Int.reduceNeg, beq_self_eq_true, Int.reduceToNat, Int.toNat_natCast, Int.natCast_nonneg, List.getElem?_map, Int.reduceBEq, not_false_eq_true, not_true_eq_false, Int.reduceBNe, zeroD_struct, zeroD_int, zeroD_bool, List.set_cons_zero, List.set_cons_succ, roS]
end Go.Proofs.Ytemcdpkiphmndaa.Tb
