import Derived.Test.YtemcdpkiphmndaaLc7a
set_option linter.unusedSimpArgs false
set_option linter.unusedVariables false
namespace Go.Proofs.Ytemcdpkiphmndaa.Tb
open Go.Proofs.Ytemcdpkiphmndaa.Ab
set_option maxRecDepth 100000
structure St1 (s : Rs) (i : Nat) : Prop where
  inv : Inv s
  f : s.f = 64
  len : s.ts.length = min i 32
  key : ∀ k ∈ mkeys s.ts, k ≤ ((min i 32 : Nat) : Int)
  g1 : ∃ g, mlook s.gs 1 = some g ∧ g.members = ((min i 32 : Nat) : Int)
  g2 : ∃ g, mlook s.gs 2 = some g
theorem fresh_of {s : Rs} {id : Int} (h1 : 1 ≤ id) (h2 : id ≤ 200) (h3 : id ∉ mkeys s.ts) : fresh s id = 0 := by
  unfold fresh
  rw [if_neg (by omega), if_neg (by omega), mlook_none.2 h3]
theorem St1.lo {s : Rs} {i : Nat} (h : St1 s i) (hi : i < 32) : (enter s (1 + (i : Int)) 1 1 0).1 = 0 ∧ St1 (enter s (1 + (i : Int)) 1 1 0).2 (i + 1) := by
  have hin := h.inv.enter (1 + (i : Int)) 1 1 0
  have hl := h.len
  obtain ⟨g, e1, e2⟩ := h.g1
  obtain ⟨gg, e3⟩ := h.g2
  have hno : (1 + (i : Int)) ∉ mkeys s.ts := fun hk => by have := h.key _ hk; omega
  have hf := fresh_of (s := s) (id := 1 + (i : Int)) (by omega) (by omega) hno
  have hc : capOk s 0 = true := by simp [capOk, h.f]
  have hE : enter s (1 + (i : Int)) 1 1 0 = (0, count { s with ts := mput s.ts (1 + (i : Int)) ⟨1 + (i : Int), 1, 0, 1, 0, false⟩ } 1 1) := by
    unfold enter
    simp only [hf, e1, hc, if_true]
    rw [if_pos (by rfl), if_neg (by omega), if_neg (by omega)]
  rw [hE] at hin ⊢
  refine ⟨rfl, hin, by rw [count_f]; exact h.f, ?_, ?_, ?_, ?_⟩
  · simp only [count_ts]; rw [len_put_none (mlook_none.2 hno)]; omega
  · intro k hk
    simp only [count_ts] at hk
    rcases mem_keys_put hk with rfl | hk
    · omega
    · have := h.key k hk; omega
  · refine ⟨{ g with members := IntKind.wrap .i64 (g.members + 1) }, by simp only [look_count, e1, if_true], ?_⟩
    simp only; rw [wrap_small _ (by omega) (by omega)]; omega
  · simp only [look_count, e3]
    split <;> exact ⟨_, rfl⟩
theorem St1.hi {s : Rs} {i : Nat} (h : St1 s i) (hi : 32 ≤ i) (h40 : i < 40) : enter s (1 + (i : Int)) 1 1 0 = (13, s) ∧ St1 s (i + 1) := by
  have hl := h.len
  obtain ⟨g, e1, e2⟩ := h.g1
  have hm : min (i + 1) 32 = min i 32 := by omega
  have hno : (1 + (i : Int)) ∉ mkeys s.ts := fun hk => by have := h.key _ hk; omega
  have hf := fresh_of (s := s) (id := 1 + (i : Int)) (by omega) (by omega) hno
  have hc : capOk s 0 = true := by simp [capOk, h.f]
  refine ⟨?_, ⟨h.inv, h.f, by rw [hm]; exact h.len, by rw [hm]; exact h.key, by rw [hm]; exact h.g1, h.g2⟩⟩
  unfold enter
  simp only [hf, e1, hc, if_true]
  rw [if_pos (by rfl), if_neg (by omega), if_pos (by omega)]
theorem wrap_1 (i : Nat) (h : i < 1000) : IntKind.wrap .i64 (1 + (i : Int)) = 1 + (i : Int) := wrap_small _ (by omega) (by omega)
theorem wrap_100 (i : Nat) (h : i < 1000) : IntKind.wrap .i64 (100 + (i : Int)) = 100 + (i : Int) := wrap_small _ (by omega) (by omega)
structure St2 (s : Rs) (i : Nat) : Prop where
  inv : Inv s
  f : s.f = 64
  len : s.ts.length = min i 96
  key : ∀ k ∈ mkeys s.ts, k ≤ 32 ∨ 100 ≤ k ∧ k < 100 + ((min i 96 : Nat) : Int)
  g2 : ∃ g, mlook s.gs 2 = some g
theorem St1.two {s : Rs} {n : Nat} (h : St1 s n) : St2 s (min n 32) :=
  ⟨h.inv, h.f, by rw [h.len]; omega, fun k hk => by have := h.key k hk; omega, h.g2⟩
theorem St2.lo {s : Rs} {i : Nat} (h : St2 s i) (hi : i < 96) : (arrive s (100 + (i : Int)) 1).1 = 0 ∧ St2 (arrive s (100 + (i : Int)) 1).2 (i + 1) := by
  have hin := h.inv.arrive (100 + (i : Int)) 1
  have hl := h.len
  have hno : (100 + (i : Int)) ∉ mkeys s.ts := fun hk => by have := h.key _ hk; omega
  have hf := fresh_of (s := s) (id := 100 + (i : Int)) (by omega) (by omega) hno
  have hc : shOk s 1 = true := by simp [shOk, h.f]
  have hE : arrive s (100 + (i : Int)) 1 = (0, { s with ts := mput s.ts (100 + (i : Int)) ⟨100 + (i : Int), 0, 1, 0, 0, false⟩ }) := by
    unfold arrive
    rw [if_pos hf, if_pos hc, if_neg (by omega)]
  rw [hE] at hin ⊢
  refine ⟨rfl, hin, h.f, ?_, ?_, h.g2⟩
  · simp only; rw [len_put_none (mlook_none.2 hno)]; omega
  · intro k hk
    rcases mem_keys_put hk with rfl | hk
    · omega
    · have := h.key k hk; omega
theorem St2.hi {s : Rs} {i : Nat} (h : St2 s i) (hi : 96 ≤ i) (h2 : i < 101) : arrive s (100 + (i : Int)) 1 = (13, s) ∧ St2 s (i + 1) := by
  have hl := h.len
  have hm : min (i + 1) 96 = min i 96 := by omega
  have hno : (100 + (i : Int)) ∉ mkeys s.ts := fun hk => by have := h.key _ hk; omega
  have hf := fresh_of (s := s) (id := 100 + (i : Int)) (by omega) (by omega) hno
  have hc : shOk s 1 = true := by simp [shOk, h.f]
  refine ⟨?_, ⟨h.inv, h.f, by rw [hm]; exact h.len, by rw [hm]; exact h.key, h.g2⟩⟩
  unfold arrive
  rw [if_pos hf, if_pos hc, if_pos (by omega)]
theorem St2.end {s : Rs} {i : Nat} (h : St2 s i) (hi : 96 ≤ i) : enter s 50 2 1 0 = (13, s) := by
  have hl := h.len
  obtain ⟨g, e1⟩ := h.g2
  have hno : (50 : Int) ∉ mkeys s.ts := fun hk => by have := h.key _ hk; omega
  have hf := fresh_of (s := s) (id := 50) (by omega) (by omega) hno
  have hc : capOk s 0 = true := by simp [capOk, h.f]
  unfold enter
  simp only [hf, e1, hc, if_true]
  rw [if_pos (by rfl), if_pos (by omega)]
theorem awake28 : TI.p 32 [] = some (.bool true) := TmI_fast lib_mono 200 (by kernel_rfl)
theorem p4 (a b : Int) (ha : 0 ≤ a ∧ a ≤ 255) (hb : 0 ≤ b ∧ b ≤ 255) : TI.p 4 [.int .u8 a, .int .u8 b] = some (.bool true) := by
  refine TmI_intro lib_mono txt_4 rfl ?_
  have x := h27 64 (by omega) (by omega)
  have y := h28 ⟨64, [], []⟩ rfl 1 1
  rw [show found ⟨64, [], []⟩ 1 1 = (0, ⟨64, [], [(1, ⟨1, 1, 0⟩)]⟩) from rfl] at y
  have z := h28 ⟨64, [], [(1, ⟨1, 1, 0⟩)]⟩ rfl 2 1
  rw [show found ⟨64, [], [(1, ⟨1, 1, 0⟩)]⟩ 2 1 = (0, ⟨64, [], [(1, ⟨1, 1, 0⟩), (2, ⟨2, 1, 0⟩)]⟩) from rfl] at z
  simp only [hpR, List.map_nil, List.map_cons, ent_def, encG_def] at x y z
  obtain ⟨n, hn, hn40⟩ : ∃ n : Nat, (IntKind.wrap .i64 a).tmod 40 = (n : Int) ∧ n < 40 := by
    rw [wrap_small a (by omega) (by omega), Int.tmod_eq_emod_of_nonneg ha.1]
    exact ⟨(a % 40).toNat, by omega, by omega⟩
  obtain ⟨m, hm, hm5⟩ : ∃ m : Nat, (IntKind.wrap .i64 b).tmod 5 = (m : Int) ∧ m < 5 := by
    rw [wrap_small b (by omega) (by omega), Int.tmod_eq_emod_of_nonneg hb.1]
    exact ⟨(b % 5).toNat, by omega, by omega⟩
  simp -implicitDefEqProofs only [↓goP, goQ, tauS, Nat.reduceBEq, Nat.reduceBNe, Nat.reduceLT, Nat.reduceLeDiff, Nat.reduceAdd, Nat.reduceMul, Nat.reduceSub, Nat.reduceMod, Nat.reduceDiv, reduceCtorEq, Nat.reduceEqDiff, reduceIte, decide_true, decide_false, Int.reduceEq, Int.reduceNe, Int.reduceLT, Int.reduceLE, Int.reduceNeg, beq_self_eq_true, Int.reduceToNat, Int.toNat_natCast, Int.natCast_nonneg, List.getElem?_map, Int.reduceBEq, not_false_eq_true, not_true_eq_false, Int.reduceBNe, zeroD_struct, zeroD_int, zeroD_bool, List.set_cons_zero, List.set_cons_succ, c4, hpR, roS, x, y, z, hn]
  refine GoL_exit (fun (s : Rs) t => St1 s n ∧ Ab.get t 1 = .int .u8 b ∧ Ab.get t 5 = .ptr 0 0 0 ∧ Ab.get t 7 = .int .i64 (n : Int)) hpR ?_ ?_
  · intro s t ⟨hI, h1, h5, h7⟩
    have hmin : (if 32 < (n : Int) then 32 else (n : Int)) = ((min n 32 : Nat) : Int) := by split <;> omega
    simp -implicitDefEqProofs only [↓goP, goQ, tauS, Nat.reduceBEq, Nat.reduceBNe, Nat.reduceLT, Nat.reduceLeDiff, Nat.reduceAdd, Nat.reduceMul, Nat.reduceSub, Nat.reduceMod, Nat.reduceDiv, reduceCtorEq, Nat.reduceEqDiff, reduceIte, decide_true, decide_false, Int.reduceEq, Int.reduceNe, Int.reduceLT, Int.reduceLE, Int.reduceNeg, beq_self_eq_true, Int.reduceToNat, Int.toNat_natCast, Int.natCast_nonneg, List.getElem?_map, Int.reduceBEq, not_false_eq_true, not_true_eq_false, Int.reduceBNe, zeroD_struct, zeroD_int, zeroD_bool, List.set_cons_zero, List.set_cons_succ, roS, h1, h5, h7, hmin]
    refine GoL_exit (fun (s : Rs) t => St2 s (96 + m) ∧ Ab.get t 5 = .ptr 0 0 0 ∧ Ab.get t 7 = .int .i64 ((min n 32 : Nat) : Int)) hpR ?_ ?_
    · intro s t ⟨hI, h5, h7⟩
      have hl := hI.len
      have hlen : s.ts.length = 96 := by omega
      have b := h31 s hI.inv.ok (ok_keys hI.inv).1 (by omega) (by omega)
      have e := h29 s hI.inv.ok 50 2 1 0
      rw [hI.end (by omega)] at e
      rw [hlen] at b
      have h96 : (((96 : Nat) : Int) == 96) = true := rfl
      by_cases h6 : ((min n 32 : Nat) : Int) < 32
      · simp -implicitDefEqProofs only [↓goP, goQ, tauS, Nat.reduceBEq, Nat.reduceBNe, Nat.reduceLT, Nat.reduceLeDiff, Nat.reduceAdd, Nat.reduceMul, Nat.reduceSub, Nat.reduceMod, Nat.reduceDiv, reduceCtorEq, Nat.reduceEqDiff, reduceIte, decide_true, decide_false, Int.reduceEq, Int.reduceNe, Int.reduceLT, Int.reduceLE, Int.reduceNeg, beq_self_eq_true, Int.reduceToNat, Int.toNat_natCast, Int.natCast_nonneg, List.getElem?_map, Int.reduceBEq, not_false_eq_true, not_true_eq_false, Int.reduceBNe, zeroD_struct, zeroD_int, zeroD_bool, List.set_cons_zero, List.set_cons_succ, roS, h5, h7, b, h6, awake28, h96]
      · simp -implicitDefEqProofs only [↓goP, goQ, tauS, Nat.reduceBEq, Nat.reduceBNe, Nat.reduceLT, Nat.reduceLeDiff, Nat.reduceAdd, Nat.reduceMul, Nat.reduceSub, Nat.reduceMod, Nat.reduceDiv, reduceCtorEq, Nat.reduceEqDiff, reduceIte, decide_true, decide_false, Int.reduceEq, Int.reduceNe, Int.reduceLT, Int.reduceLE, Int.reduceNeg, beq_self_eq_true, Int.reduceToNat, Int.toNat_natCast, Int.natCast_nonneg, List.getElem?_map, Int.reduceBEq, not_false_eq_true, not_true_eq_false, Int.reduceBNe, zeroD_struct, zeroD_int, zeroD_bool, List.set_cons_zero, List.set_cons_succ, roS, h5, h7, b, e, h6, awake28, h96]
    · intro K' hK
      refine GoL_ind (fun p : Nat × Rs => ⟨[(1, .int .u8 b), (5, .ptr 0 0 0), (7, .int .i64 ((min n 32 : Nat) : Int)), (10, .int .i64 (p.1 : Int))], hpR p.2⟩) (fun p => St2 p.2 p.1 ∧ p.1 ≤ 96 + m) (fun p => 96 + m - p.1) ?_ (min n 32, s) ⟨hI.two, by simp only; omega⟩ rfl
      rintro ⟨i, s⟩ ⟨hI, hi⟩ ih
      simp only at hI hi
      rw [GoL_def]
      have hok := hI.inv.ok
      have hw96 : IntKind.wrap .i64 (96 + (m : Int)) = ((96 + m : Nat) : Int) := by rw [wrap_small _ (by omega) (by omega)]; omega
      by_cases h1 : (i : Int) < ((96 + m : Nat) : Int)
      · have hw := wrap_nat i (by omega)
        have hw1 := wrap_100 i (by omega)
        have e := h30 s hok (100 + (i : Int)) 1
        by_cases h2 : i < 96
        · obtain ⟨q1, q2⟩ := hI.lo h2
          rw [q1] at e
          have h3 : (i : Int) < 96 := by omega
          have h4 : ¬ (96 : Int) ≤ (i : Int) := by omega
          simp -implicitDefEqProofs only [↓goP, goQ, tauS, Nat.reduceBEq, Nat.reduceBNe, Nat.reduceLT, Nat.reduceLeDiff, Nat.reduceAdd, Nat.reduceMul, Nat.reduceSub, Nat.reduceMod, Nat.reduceDiv, reduceCtorEq, Nat.reduceEqDiff, reduceIte, decide_true, decide_false, Int.reduceEq, Int.reduceNe, Int.reduceLT, Int.reduceLE, Int.reduceNeg, beq_self_eq_true, Int.reduceToNat, Int.toNat_natCast, Int.natCast_nonneg, List.getElem?_map, Int.reduceBEq, not_false_eq_true, not_true_eq_false, Int.reduceBNe, zeroD_struct, zeroD_int, zeroD_bool, List.set_cons_zero, List.set_cons_succ, roS, hm, hw96, h1, hw, hw1, e, h3, h4]
          exact ih (i + 1, (arrive s (100 + (i : Int)) 1).2) ⟨q2, by simp only; omega⟩ (by simp only; omega)
        · obtain ⟨q1, q2⟩ := hI.hi (by omega) (by omega)
          rw [q1] at e
          have h3 : ¬ (i : Int) < 96 := by omega
          have h4 : (96 : Int) ≤ (i : Int) := by omega
          simp -implicitDefEqProofs only [↓goP, goQ, tauS, Nat.reduceBEq, Nat.reduceBNe, Nat.reduceLT, Nat.reduceLeDiff, Nat.reduceAdd, Nat.reduceMul, Nat.reduceSub, Nat.reduceMod, Nat.reduceDiv, reduceCtorEq, Nat.reduceEqDiff, reduceIte, decide_true, decide_false, Int.reduceEq, Int.reduceNe, Int.reduceLT, Int.reduceLE, Int.reduceNeg, beq_self_eq_true, Int.reduceToNat, Int.toNat_natCast, Int.natCast_nonneg, List.getElem?_map, Int.reduceBEq, not_false_eq_true, not_true_eq_false, Int.reduceBNe, zeroD_struct, zeroD_int, zeroD_bool, List.set_cons_zero, List.set_cons_succ, roS, hm, hw96, h1, hw, hw1, e, h3, h4]
          exact ih (i + 1, s) ⟨q2, by simp only; omega⟩ (by simp only; omega)
      · simp -implicitDefEqProofs only [↓goP, goQ, tauS, Nat.reduceBEq, Nat.reduceBNe, Nat.reduceLT, Nat.reduceLeDiff, Nat.reduceAdd, Nat.reduceMul, Nat.reduceSub, Nat.reduceMod, Nat.reduceDiv, reduceCtorEq, Nat.reduceEqDiff, reduceIte, decide_true, decide_false, Int.reduceEq, Int.reduceNe, Int.reduceLT, Int.reduceLE, Int.reduceNeg, beq_self_eq_true, Int.reduceToNat, Int.toNat_natCast, Int.natCast_nonneg, List.getElem?_map, Int.reduceBEq, not_false_eq_true, not_true_eq_false, Int.reduceBNe, zeroD_struct, zeroD_int, zeroD_bool, List.set_cons_zero, List.set_cons_succ, roS, hm, hw96, h1]
        have : i = 96 + m := by omega
        subst this
        exact hK s _ ⟨hI, rfl, rfl⟩
  · intro K' hK
    refine GoL_ind (fun p : Nat × Rs => ⟨[(1, .int .u8 b), (5, .ptr 0 0 0), (7, .int .i64 (n : Int)), (8, .int .i64 (p.1 : Int))], hpR p.2⟩) (fun p => St1 p.2 p.1 ∧ p.1 ≤ n) (fun p => n - p.1) ?_ (0, ⟨64, [], [(1, ⟨1, 1, 0⟩), (2, ⟨2, 1, 0⟩)]⟩) ?_ rfl
    · rintro ⟨i, s⟩ ⟨hI, hi⟩ ih
      simp only at hI hi
      rw [GoL_def]
      have hok := hI.inv.ok
      by_cases h1 : (i : Int) < (n : Int)
      · have hw := wrap_nat i (by omega)
        have hw1 := wrap_1 i (by omega)
        have e := h29 s hok (1 + (i : Int)) 1 1 0
        by_cases h2 : i < 32
        · obtain ⟨q1, q2⟩ := hI.lo h2
          rw [q1] at e
          have h3 : (i : Int) < 32 := by omega
          have h4 : ¬ (32 : Int) ≤ (i : Int) := by omega
          simp -implicitDefEqProofs only [↓goP, goQ, tauS, Nat.reduceBEq, Nat.reduceBNe, Nat.reduceLT, Nat.reduceLeDiff, Nat.reduceAdd, Nat.reduceMul, Nat.reduceSub, Nat.reduceMod, Nat.reduceDiv, reduceCtorEq, Nat.reduceEqDiff, reduceIte, decide_true, decide_false, Int.reduceEq, Int.reduceNe, Int.reduceLT, Int.reduceLE, Int.reduceNeg, beq_self_eq_true, Int.reduceToNat, Int.toNat_natCast, Int.natCast_nonneg, List.getElem?_map, Int.reduceBEq, not_false_eq_true, not_true_eq_false, Int.reduceBNe, zeroD_struct, zeroD_int, zeroD_bool, List.set_cons_zero, List.set_cons_succ, roS, h1, hw, hw1, e, h3, h4]
          exact ih (i + 1, (enter s (1 + (i : Int)) 1 1 0).2) ⟨q2, by simp only; omega⟩ (by simp only; omega)
        · obtain ⟨q1, q2⟩ := hI.hi (by omega) (by omega)
          rw [q1] at e
          have h3 : ¬ (i : Int) < 32 := by omega
          have h4 : (32 : Int) ≤ (i : Int) := by omega
          simp -implicitDefEqProofs only [↓goP, goQ, tauS, Nat.reduceBEq, Nat.reduceBNe, Nat.reduceLT, Nat.reduceLeDiff, Nat.reduceAdd, Nat.reduceMul, Nat.reduceSub, Nat.reduceMod, Nat.reduceDiv, reduceCtorEq, Nat.reduceEqDiff, reduceIte, decide_true, decide_false, Int.reduceEq, Int.reduceNe, Int.reduceLT, Int.reduceLE, Int.reduceNeg, beq_self_eq_true, Int.reduceToNat, Int.toNat_natCast, Int.natCast_nonneg, List.getElem?_map, Int.reduceBEq, not_false_eq_true, not_true_eq_false, Int.reduceBNe, zeroD_struct, zeroD_int, zeroD_bool, List.set_cons_zero, List.set_cons_succ, roS, h1, hw, hw1, e, h3, h4]
          exact ih (i + 1, s) ⟨q2, by simp only; omega⟩ (by simp only; omega)
      · simp -implicitDefEqProofs only [↓goP, goQ, tauS, Nat.reduceBEq, Nat.reduceBNe, Nat.reduceLT, Nat.reduceLeDiff, Nat.reduceAdd, Nat.reduceMul, Nat.reduceSub, Nat.reduceMod, Nat.reduceDiv, reduceCtorEq, Nat.reduceEqDiff, reduceIte, decide_true, decide_false, Int.reduceEq, Int.reduceNe, Int.reduceLT, Int.reduceLE, Int.reduceNeg, beq_self_eq_true, Int.reduceToNat, Int.toNat_natCast, Int.natCast_nonneg, List.getElem?_map, Int.reduceBEq, not_false_eq_true, not_true_eq_false, Int.reduceBNe, zeroD_struct, zeroD_int, zeroD_bool, List.set_cons_zero, List.set_cons_succ, roS, h1]
        have : i = n := by omega
        subst this
        exact hK s _ ⟨hI, rfl, rfl, rfl⟩
    · have i1 := ((show Inv ⟨64, [], []⟩ from ⟨by decide, by decide, by simp [mkeys], by simp [mkeys], by simp [mkeys], by simp [mkeys], by simp, by simp [mlook], by simp [mlook]⟩).found 1 1).found 2 1
      exact ⟨⟨i1, rfl, rfl, by simp [mkeys], ⟨⟨1, 1, 0⟩, rfl, rfl⟩, ⟨⟨2, 1, 0⟩, rfl⟩⟩, Nat.zero_le _⟩
end Go.Proofs.Ytemcdpkiphmndaa.Tb
