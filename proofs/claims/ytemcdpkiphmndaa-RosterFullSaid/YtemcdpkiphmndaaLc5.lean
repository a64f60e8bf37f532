import Derived.Test.YtemcdpkiphmndaaLc4
set_option linter.unusedSimpArgs false
set_option linter.unusedVariables false
namespace Go.Proofs.Ytemcdpkiphmndaa.Tb
open Go.Proofs.Ytemcdpkiphmndaa.Ab
set_option maxRecDepth 100000
theorem keysI_ent {α : Type} (enc : α → D) : ∀ (ms : List (Int × α)), (∀ k ∈ mkeys ms, okI64 k = true) → keysI (ms.map (ent enc)) = some (mkeys ms)
  | [], _ => rfl
  | p :: ms, h => by
    have h1 : okI64 p.1 = true := h p.1 (by simp [mkeys])
    have ih := keysI_ent enc ms (fun k hk => h k (by simp only [mkeys, List.map_cons, List.mem_cons]; exact .inr hk))
    show keysI (ent enc p :: ms.map (ent enc)) = _
    rw [show ent enc p = [.int .i64 p.1, enc p.2] from rfl, keysI_cons, h1, gd_true, ih]
    rfl
theorem h75 (t z : Nat) (es : List (List D)) (h1 : locsEs es = []) (h2 : ∀ f, renEs f es = es) : TI.h 75 [.mp 0] [(0, ⟨2, .map, t, z, es⟩)] 1 = some (.clo 120 [.ptr 1 0 0], [(0, ⟨2, .map, t, z, es⟩), (1, ⟨2, .box, 89, 1, [[.mp 0]]⟩)]) := by
  refine TmI_introH lib_mono txt_75 rfl ?_
  simp -implicitDefEqProofs only [↓goP, goQ, tauS, Nat.reduceBEq, Nat.reduceBNe, Nat.reduceLT, Nat.reduceLeDiff, Nat.reduceAdd, Nat.reduceMul, Nat.reduceSub, Nat.reduceMod, Nat.reduceDiv, reduceCtorEq, Nat.reduceEqDiff, reduceIte, decide_true, decide_false, Int.reduceEq, Int.reduceNe, Int.reduceLT, Int.reduceLE, Int.reduceNeg, beq_self_eq_true, Int.reduceToNat, Int.toNat_natCast, Int.natCast_nonneg, List.getElem?_map, Int.reduceBEq, not_false_eq_true, not_true_eq_false, Int.reduceBNe, zeroD_struct, zeroD_int, zeroD_bool, List.set_cons_zero, List.set_cons_succ, c75, h1, h2]
theorem libH74 (n : Nat) (ds h k) : (lib (TmN tau txt lib n)).h 74 ds h k = sortedH [120, 123] 3 ds h k := rfl
theorem txt74 : txt 74 = none := by kernel_rfl
theorem h74 (tb t z : Nat) (es : List (List D)) (ks : List Int) (h1 : keysI es = some ks) (h2 : es.length ≤ 1000000000) :
    TI.h 74 [.clo 120 [.ptr 0 0 0]] [(0, ⟨2, .box, tb, 1, [[.mp 1]]⟩), (1, ⟨2, .map, t, z, es⟩)] 2 = some (sortedV 3 3000 [(0, ⟨2, .box, tb, 1, [[.mp 1]]⟩), (1, ⟨2, .map, t, z, es⟩)] ks) := by
  refine TmI_libH lib_mono txt74 0 ?_
  rw [libH74]
  show gd (true && decide (es.length ≤ 1000000000)) (bO (keysI es) fun ns => some (sortedV 3 3000 _ ns)) = _
  rw [decide_eq_true h2, h1]
  rfl
def tk (s : Rs) (k : Int) : Task := (mlook s.ts k).getD tz
def cT (t : Task) : List D := [.int .i64 t.id, .int .i64 t.group, .int .i64 t.share, .int .i64 t.weight, .int .i64 t.cap, .bool t.off]
def i1 (n : Int) : List D := [.int .i64 n]
theorem sortI_len (l : List Int) : (sortI l).length = l.length := (sortI_perm l).length_eq
theorem wrap_nat (i : Nat) (h : i < 4611686018427387904) : IntKind.wrap .i64 ((i : Int) + 1) = ((i + 1 : Nat) : Int) := by
  have : IntKind.wrap .i64 ((i : Int) + 1) = (i : Int) + 1 := by
    simp [IntKind.wrap, IntKind.signed, IntKind.bits]
    omega
  rw [this]; simp
/-- The tasks, by rising numbers. -/
def tasksL (s : Rs) : List Task := (sortI (mkeys s.ts)).map (tk s)
theorem tasksL_len (s : Rs) : (tasksL s).length = s.ts.length := by unfold tasksL; rw [List.length_map, sortI_len]; simp [mkeys]
theorem h31 (s : Rs) (hf : s.ok) (hk : ∀ k ∈ mkeys s.ts, okI64 k = true) (hl : s.ts.length ≤ 1000) (hne : 0 < s.ts.length) :
    TI.h 31 [.ptr 0 0 0] (hpR s) 3 = some (.own 3 0 s.ts.length, hpR s ++ [(3, ⟨2, .row, 65, 6, (tasksL s).map cT⟩)]) := by
  refine TmI_introH lib_mono txt_31 rfl ?_
  have a := h67 s hf
  have b := h75 89 2 (s.ts.map (ent encT)) (locsT _) (fun f => renT f _)
  have c := h74 89 89 2 (s.ts.map (ent encT)) (mkeys s.ts) (keysI_ent encT s.ts hk) (by rw [List.length_map]; omega)
  have hm : (mkeys s.ts).length = s.ts.length := by simp [mkeys]
  have hc : sortedV 3 3000 [(0, ⟨2, .box, 89, 1, [[.mp 1]]⟩), (1, ⟨2, .map, 89, 2, s.ts.map (ent encT)⟩)] (mkeys s.ts) = (.own 3000 0 s.ts.length, [(3000, ⟨2, .row, 3, 1, (sortI (mkeys s.ts)).map i1⟩), (0, ⟨2, .box, 89, 1, [[.mp 1]]⟩), (1, ⟨2, .map, 89, 2, s.ts.map (ent encT)⟩)]) := by
    rw [← hm]
    cases hm2 : mkeys s.ts with
    | nil => rw [hm2] at hm; simp at hm; omega
    | cons n ns => rfl
  rw [hc] at c
  generalize hL : sortI (mkeys s.ts) = L at c
  have hLn : L.length = s.ts.length := by rw [← hL, sortI_len, hm]
  have hin : ∀ i, i < s.ts.length → ∃ k t, L[i]? = some k ∧ mlook s.ts k = some t := by
    intro i hi
    refine ⟨L[i]'(by omega), ?_⟩
    have hmem : L[i]'(by omega) ∈ mkeys s.ts := by
      rw [← (sortI_perm (mkeys s.ts)).mem_iff, hL]; exact List.getElem_mem _
    cases e : mlook s.ts (L[i]'(by omega)) with
    | none => exact absurd hmem (mlook_none.1 e)
    | some t => exact ⟨t, by simp, rfl⟩
  obtain ⟨k0, t0, e0, e1⟩ := hin 0 hne
  have htl : (tasksL s).map cT = (L.map fun k => cT (tk s k)) := by unfold tasksL; rw [hL, List.map_map]; rfl
  rw [htl]
  simp -implicitDefEqProofs only [↓goP, goQ, tauS, Nat.reduceBEq, Nat.reduceBNe, Nat.reduceLT, Nat.reduceLeDiff, Nat.reduceAdd, Nat.reduceMul, Nat.reduceSub, Nat.reduceMod, Nat.reduceDiv, reduceCtorEq, Nat.reduceEqDiff, reduceIte, decide_true, decide_false, Int.reduceEq, Int.reduceNe, Int.reduceLT, Int.reduceLE, Int.reduceNeg, beq_self_eq_true, Int.reduceToNat, Int.toNat_natCast, Int.natCast_nonneg, List.getElem?_map, Int.reduceBEq, not_false_eq_true, not_true_eq_false, Int.reduceBNe, zeroD_struct, zeroD_int, zeroD_bool, List.set_cons_zero, List.set_cons_succ, c31, hpR, roS, a, b, c]
  rw [GoL_def]
  have q1 : (0 : Int) < (s.ts.length : Int) := by omega
  simp -implicitDefEqProofs only [↓goP, goQ, tauS, Nat.reduceBEq, Nat.reduceBNe, Nat.reduceLT, Nat.reduceLeDiff, Nat.reduceAdd, Nat.reduceMul, Nat.reduceSub, Nat.reduceMod, Nat.reduceDiv, reduceCtorEq, Nat.reduceEqDiff, reduceIte, decide_true, decide_false, Int.reduceEq, Int.reduceNe, Int.reduceLT, Int.reduceLE, Int.reduceNeg, beq_self_eq_true, Int.reduceToNat, Int.toNat_natCast, Int.natCast_nonneg, List.getElem?_map, Int.reduceBEq, not_false_eq_true, not_true_eq_false, Int.reduceBNe, zeroD_struct, zeroD_int, zeroD_bool, List.set_cons_zero, List.set_cons_succ, roS, q1, i1, e0, e1, encT_def, hLn]
  refine GoL_ind (fun i : Nat => ⟨[(0, .ptr 0 0 0), (3, .own 3 0 i), (13, .own 4 0 s.ts.length), (14, .int .i64 (s.ts.length : Int)), (15, .int .i64 (i : Int))],
    [(0, ⟨2, .box, 92, 3, [[.int .i64 s.f, .mp 1, .mp 2]]⟩), (1, ⟨2, .map, 89, 2, s.ts.map (ent encT)⟩), (2, ⟨2, .map, 90, 2, s.gs.map (ent encG)⟩), (3, ⟨2, .row, 65, 6, (L.take i).map fun k => cT (tk s k)⟩), (4, ⟨2, .row, 3, 1, L.map i1⟩)]⟩)
    (fun i => 1 ≤ i ∧ i ≤ s.ts.length) (fun i => s.ts.length - i) ?_ 1 ⟨Nat.le_refl _, hne⟩ ?_
  · intro i ⟨hi1, hi2⟩ ih
    rw [GoL_def]
    have ht : (L.take i).length = i := by rw [List.length_take]; omega
    by_cases hlt : i < s.ts.length
    · obtain ⟨k, t, e2, e3⟩ := hin i hlt
      have q2 : (i : Int) < (s.ts.length : Int) := by omega
      have hw := wrap_nat i (by omega)
      have htk : tk s k = t := by unfold tk; rw [e3]; rfl
      have hrow : (L.take i).map (fun k => cT (tk s k)) ++ [[D.int .i64 t.id, .int .i64 t.group, .int .i64 t.share, .int .i64 t.weight, .int .i64 t.cap, .bool t.off]] = (L.take (i + 1)).map fun k => cT (tk s k) := by
        rw [List.take_add_one, e2, List.map_append, Option.toList_some, List.map_cons, htk]; rfl
      have r1 : (i + 1) * 48 ≤ 70368744177664 := by omega
      have r2 : i ≤ 70368744177663 := by omega
      simp -implicitDefEqProofs only [↓goP, goQ, tauS, Nat.reduceBEq, Nat.reduceBNe, Nat.reduceLT, Nat.reduceLeDiff, Nat.reduceAdd, Nat.reduceMul, Nat.reduceSub, Nat.reduceMod, Nat.reduceDiv, reduceCtorEq, Nat.reduceEqDiff, reduceIte, decide_true, decide_false, Int.reduceEq, Int.reduceNe, Int.reduceLT, Int.reduceLE, Int.reduceNeg, beq_self_eq_true, Int.reduceToNat, Int.toNat_natCast, Int.natCast_nonneg, List.getElem?_map, Int.reduceBEq, not_false_eq_true, not_true_eq_false, Int.reduceBNe, zeroD_struct, zeroD_int, zeroD_bool, List.set_cons_zero, List.set_cons_succ, roS, q2, i1, e2, e3, encT_def, hLn, ht, hw, hrow, r1, r2]
      exact ih (i + 1) ⟨by omega, by omega⟩ (by omega)
    · have q2 : ¬ (i : Int) < (s.ts.length : Int) := by omega
      have : i = s.ts.length := by omega
      subst this
      have htL : L.take s.ts.length = L := by rw [← hLn]; exact List.take_length
      simp -implicitDefEqProofs only [↓goP, goQ, tauS, Nat.reduceBEq, Nat.reduceBNe, Nat.reduceLT, Nat.reduceLeDiff, Nat.reduceAdd, Nat.reduceMul, Nat.reduceSub, Nat.reduceMod, Nat.reduceDiv, reduceCtorEq, Nat.reduceEqDiff, reduceIte, decide_true, decide_false, Int.reduceEq, Int.reduceNe, Int.reduceLT, Int.reduceLE, Int.reduceNeg, beq_self_eq_true, Int.reduceToNat, Int.toNat_natCast, Int.natCast_nonneg, List.getElem?_map, Int.reduceBEq, not_false_eq_true, not_true_eq_false, Int.reduceBNe, zeroD_struct, zeroD_int, zeroD_bool, List.set_cons_zero, List.set_cons_succ, roS, q2, i1, encT_def, hLn, ht, htL]
  · have hrow : (L.take 1).map (fun k => cT (tk s k)) = [[D.int .i64 t0.id, .int .i64 t0.group, .int .i64 t0.share, .int .i64 t0.weight, .int .i64 t0.cap, .bool t0.off]] := by
      have htk : tk s k0 = t0 := by unfold tk; rw [e1]; rfl
      rw [show 1 = 0 + 1 from rfl, List.take_add_one, e0, List.take_zero, List.nil_append, Option.toList_some, List.map_cons, htk]; rfl
    rw [hrow]; rfl
end Go.Proofs.Ytemcdpkiphmndaa.Tb
