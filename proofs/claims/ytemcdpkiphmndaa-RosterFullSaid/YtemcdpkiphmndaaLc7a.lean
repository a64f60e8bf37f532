import Derived.Test.YtemcdpkiphmndaaLc6
import Derived.Test.YtemcdpkiphmndaaAbN
set_option linter.unusedSimpArgs false
set_option linter.unusedVariables false
namespace Go.Proofs.Ytemcdpkiphmndaa.Tb
open Go.Proofs.Ytemcdpkiphmndaa.Ab
def cnt (ts : List (Int × Task)) (g : Int) : Nat := ts.countP fun p => decide (p.2.group = g)
structure Inv (s : Rs) : Prop where
  f1 : 2 ≤ s.f
  f2 : s.f ≤ 64
  nt : (mkeys s.ts).Nodup
  ng : (mkeys s.gs).Nodup
  kt : ∀ k ∈ mkeys s.ts, 1 ≤ k ∧ k ≤ 200
  kg : ∀ k ∈ mkeys s.gs, 1 ≤ k ∧ k ≤ 40
  lt : s.ts.length ≤ 96
  tasks : ∀ k t, mlook s.ts k = some t → t.id = k ∧ (t.group = 0 ∧ 1 ≤ t.share ∧ t.share ≤ s.f ∧ t.weight = 0 ∧ t.cap = 0 ∨ t.group ≠ 0 ∧ (∃ g, mlook s.gs t.group = some g) ∧ t.share = 0 ∧ 1 ≤ t.weight ∧ t.weight ≤ 1000 ∧ 0 ≤ t.cap ∧ t.cap ≤ s.f)
  groups : ∀ k g, mlook s.gs k = some g → g.id = k ∧ 1 ≤ g.share ∧ g.share ≤ s.f ∧ g.members = cnt s.ts k ∧ g.members ≤ 32
theorem Inv.ok {s} (h : Inv s) : s.ok := by have := h.f1; exact beq_false_of_ne (by omega)

theorem look_count (s : Rs) (id b k : Int) : mlook (count s id b).gs k = match mlook s.gs k with | some g => (if k = id then some { g with members := IntKind.wrap .i64 (g.members + b) } else some g) | none => none := by
  unfold count
  cases h : mlook s.gs id with
  | none =>
    simp only
    cases h2 : mlook s.gs k with
    | none => rfl
    | some g =>
      by_cases e : k = id
      · subst e; rw [h] at h2; cases h2
      · simp [e]
  | some g =>
    simp only [mlook_put]
    by_cases e : k = id
    · subst e; rw [if_pos rfl, h]; simp
    · rw [if_neg e]; cases mlook s.gs k with
      | none => rfl
      | some g => simp [e]
theorem keys_count (s : Rs) (id b : Int) : mkeys (count s id b).gs = mkeys s.gs := by
  unfold count
  cases h : mlook s.gs id with
  | none => rfl
  | some g => simp only [mkeys_put, h]
theorem wrap_small (x : Int) (h1 : -1000000 ≤ x) (h2 : x ≤ 1000000) : IntKind.wrap .i64 x = x := by
  simp [IntKind.wrap, IntKind.signed, IntKind.bits]; omega
/-- A task is changed, and stays where it is. -/
theorem Inv.upd {s : Rs} (h : Inv s) {k : Int} {t t' : Task} (e : mlook s.ts k = some t) (hid : t'.id = k) (hg : t'.group = t.group)
    (hc : t'.group = 0 ∧ 1 ≤ t'.share ∧ t'.share ≤ s.f ∧ t'.weight = 0 ∧ t'.cap = 0 ∨ t'.group ≠ 0 ∧ (∃ g, mlook s.gs t'.group = some g) ∧ t'.share = 0 ∧ 1 ≤ t'.weight ∧ t'.weight ≤ 1000 ∧ 0 ≤ t'.cap ∧ t'.cap ≤ s.f) : Inv { s with ts := mput s.ts k t' } := by
  have hcnt : ∀ g, cnt (mput s.ts k t') g = cnt s.ts g := by
    intro g
    have := count_put_some (fun p => decide (p.2.group = g)) e t'
    simp only [hg] at this
    unfold cnt; omega
  refine ⟨h.f1, h.f2, mnodup_put h.nt _ _, h.ng, fun j hj => ?_, h.kg, by simp only; rw [len_put_some e]; exact h.lt, fun j u hu => ?_, fun j g hu => ?_⟩
  · rcases mem_keys_put hj with rfl | hj
    · have := mlook_mem e
      exact h.kt _ (List.mem_map.2 ⟨_, this, rfl⟩)
    · exact h.kt j hj
  · simp only [mlook_put] at hu
    by_cases ej : j = k
    · subst ej; rw [if_pos rfl] at hu; injection hu with hu; subst hu; exact ⟨hid, hc⟩
    · rw [if_neg ej] at hu; exact h.tasks j u hu
  · simp only [hcnt]; exact h.groups j g hu
theorem shOk_spec {s : Rs} {n : Int} (h : shOk s n = true) : 1 ≤ n ∧ n ≤ s.f := by simpa [shOk] using h
theorem wOk_spec {n : Int} (h : wOk n = true) : 1 ≤ n ∧ n ≤ 1000 := by simpa [wOk] using h
theorem capOk_spec {s : Rs} {n : Int} (h : capOk s n = true) : 0 ≤ n ∧ n ≤ s.f := by simpa [capOk] using h
theorem Inv.g0 {s : Rs} (h : Inv s) : mlook s.gs 0 = none := by
  rw [mlook_none]; intro hh; have := h.kg _ hh; omega
theorem Inv.arrive {s : Rs} (h : Inv s) (id sh : Int) : Inv (arrive s id sh).2 := by
  unfold Tb.arrive
  split
  · rename_i h1
    obtain ⟨h2, h3, h4⟩ := fresh_0 h1
    split
    · rename_i h5
      have h5 := shOk_spec h5
      split
      · exact h
      · rename_i h6
        refine ⟨h.f1, h.f2, mnodup_put h.nt _ _, h.ng, fun j hj => ?_, h.kg, by simp only; rw [len_put_none h2]; omega, fun j u hu => ?_, fun j g hu => ?_⟩
        · rcases mem_keys_put hj with rfl | hj
          · exact ⟨h3, h4⟩
          · exact h.kt j hj
        · simp only [mlook_put] at hu
          by_cases ej : j = id
          · subst ej; rw [if_pos rfl] at hu; injection hu with hu; subst hu
            exact ⟨rfl, .inl ⟨rfl, h5.1, h5.2, rfl, rfl⟩⟩
          · rw [if_neg ej] at hu; exact h.tasks j u hu
        · have hj : j ≠ 0 := by intro e; subst e; rw [h.g0] at hu; cases hu
          have : cnt (mput s.ts id ⟨id, 0, sh, 0, 0, false⟩) j = cnt s.ts j := by
            unfold cnt
            rw [count_put_none _ h2]
            have : decide ((0 : Int) = j) = false := decide_eq_false (fun e => hj e.symm)
            simp only [this, b2n, Nat.add_zero]
          simp only [this]; exact h.groups j g hu
    · exact h
  · exact h
theorem Inv.depart {s : Rs} (h : Inv s) (id : Int) : Inv (depart s id).2 := by
  unfold Tb.depart
  cases e : mlook s.ts id with
  | none => exact h
  | some t =>
    simp only
    refine ⟨by rw [count_f]; exact h.f1, by rw [count_f]; exact h.f2, mnodup_del h.nt _, by simp only [keys_count]; exact h.ng, fun j hj => h.kt j (mem_keys_del hj), fun j hj => h.kg j (by simpa only [keys_count] using hj),
      Nat.le_trans (len_del _ _) h.lt, fun j u hu => ?_, fun j g hu => ?_⟩
    · simp only [mlook_del h.nt] at hu
      by_cases ej : j = id
      · rw [if_pos ej] at hu; cases hu
      · rw [if_neg ej] at hu
        obtain ⟨q1, q2⟩ := h.tasks j u hu
        refine ⟨q1, ?_⟩
        rw [count_f]
        rcases q2 with q2 | ⟨p1, ⟨g, p2⟩, p3⟩
        · exact .inl q2
        · refine .inr ⟨p1, ?_, p3⟩
          simp only [look_count, p2]
          split <;> exact ⟨_, rfl⟩
    · have hc := count_del_some (fun p => decide (p.2.group = j)) e
      simp only [look_count] at hu
      cases eg : mlook s.gs j with
      | none => rw [eg] at hu; cases hu
      | some g0 =>
        rw [eg] at hu
        simp only at hu
        obtain ⟨q1, q2, q3, q4, q5⟩ := h.groups j g0 eg
        rw [count_f]
        by_cases ej : j = t.group
        · rw [if_pos ej] at hu; injection hu with hu; subst hu
          rw [decide_eq_true ej.symm] at hc
          simp only [b2n] at hc
          have hcn : cnt (mdel s.ts id) j + 1 = cnt s.ts j := hc
          have hw : IntKind.wrap .i64 (g0.members + -1) = g0.members + -1 := wrap_small _ (by omega) (by omega)
          simp only [hw]
          exact ⟨q1, q2, q3, by omega, by omega⟩
        · rw [if_neg ej] at hu; injection hu with hu; subst hu
          rw [decide_eq_false (fun e => ej e.symm)] at hc
          have hcn : cnt (mdel s.ts id) j = cnt s.ts j := by unfold cnt; simpa [b2n] using hc
          simp only [hcn]; exact ⟨q1, q2, q3, q4, q5⟩
theorem Inv.reweight {s : Rs} (h : Inv s) (id sh : Int) : Inv (reweight s id sh).2 := by
  unfold Tb.reweight
  split
  · rename_i h1
    obtain ⟨t, e1, e2, e3⟩ := member_0 h1
    split
    · rename_i h5
      have h5 := shOk_spec h5
      rw [e2]
      obtain ⟨q1, q2⟩ := h.tasks _ _ e1
      have hg : t.group = 0 := by simpa using e3
      refine h.upd e1 q1 rfl (.inl ?_)
      rcases q2 with q2 | q2
      · exact ⟨hg, h5.1, h5.2, q2.2.2.2.1, q2.2.2.2.2⟩
      · exact absurd hg q2.1
    · exact h
  · exact h
theorem Inv.off {s : Rs} (h : Inv s) (id : Int) (o : Bool) : Inv (off s id o).2 := by
  unfold Tb.off
  cases e : mlook s.ts id with
  | none => exact h
  | some t =>
    simp only
    split
    · exact h
    · obtain ⟨q1, q2⟩ := h.tasks _ _ e
      exact h.upd e q1 rfl q2
theorem Inv.found {s : Rs} (h : Inv s) (id sh : Int) : Inv (found s id sh).2 := by
  unfold Tb.found
  split
  · exact h
  split
  · exact h
  rename_i h1 h2
  cases e : mlook s.gs id with
  | some g => exact h
  | none =>
    simp only
    split
    · rename_i h5
      have h5 := shOk_spec h5
      have hno : ∀ k t, mlook s.ts k = some t → t.group ≠ id := by
        intro k t hk eg
        rcases (h.tasks k t hk).2 with q | ⟨q1, ⟨g, q2⟩, _⟩
        · omega
        · rw [eg, e] at q2; cases q2
      refine ⟨h.f1, h.f2, h.nt, mnodup_put h.ng _ _, h.kt, fun j hj => ?_, h.lt, fun j u hu => ?_, fun j g hu => ?_⟩
      · rcases mem_keys_put hj with rfl | hj
        · omega
        · exact h.kg j hj
      · obtain ⟨q1, q2⟩ := h.tasks j u hu
        refine ⟨q1, ?_⟩
        rcases q2 with q2 | ⟨p1, ⟨g, p2⟩, p3⟩
        · exact .inl q2
        · refine .inr ⟨p1, ?_, p3⟩
          simp only [mlook_put, p2]
          split <;> exact ⟨_, rfl⟩
      · simp only [mlook_put] at hu
        by_cases ej : j = id
        · subst ej; rw [if_pos rfl] at hu; injection hu with hu; subst hu
          have hz : cnt s.ts j = 0 := by
            unfold cnt
            rw [List.countP_eq_zero]
            intro p hp
            have := hno p.1 p.2 (mem_mlook h.nt hp)
            simpa using this
          exact ⟨rfl, h5.1, h5.2, by simp [hz], by simp⟩
        · rw [if_neg ej] at hu; exact h.groups j g hu
    · exact h
theorem Inv.fund {s : Rs} (h : Inv s) (id sh : Int) : Inv (fund s id sh).2 := by
  unfold Tb.fund
  cases e : mlook s.gs id with
  | none => exact h
  | some g0 =>
    simp only
    split
    · rename_i h5
      have h5 := shOk_spec h5
      refine ⟨h.f1, h.f2, h.nt, mnodup_put h.ng _ _, h.kt, fun j hj => ?_, h.lt, fun j u hu => ?_, fun j g hu => ?_⟩
      · rcases mem_keys_put hj with rfl | hj
        · exact h.kg _ (List.mem_map.2 ⟨_, mlook_mem e, rfl⟩)
        · exact h.kg j hj
      · obtain ⟨q1, q2⟩ := h.tasks j u hu
        refine ⟨q1, ?_⟩
        rcases q2 with q2 | ⟨p1, ⟨g, p2⟩, p3⟩
        · exact .inl q2
        · refine .inr ⟨p1, ?_, p3⟩
          simp only [mlook_put, p2]
          split <;> exact ⟨_, rfl⟩
      · simp only [mlook_put] at hu
        by_cases ej : j = id
        · subst ej; rw [if_pos rfl] at hu; injection hu with hu; subst hu
          obtain ⟨q1, q2, q3, q4, q5⟩ := h.groups _ _ e
          exact ⟨q1, h5.1, h5.2, q4, q5⟩
        · rw [if_neg ej] at hu; exact h.groups j g hu
    · exact h
theorem Inv.disband {s : Rs} (h : Inv s) (id : Int) : Inv (disband s id).2 := by
  unfold Tb.disband
  cases e : mlook s.gs id with
  | none => exact h
  | some g0 =>
    simp only
    split
    · exact h
    · rename_i h1
      obtain ⟨q1, q2, q3, q4, q5⟩ := h.groups _ _ e
      have hz : cnt s.ts id = 0 := by omega
      have hno : ∀ k t, mlook s.ts k = some t → t.group ≠ id := by
        intro k t hk eg
        unfold cnt at hz
        rw [List.countP_eq_zero] at hz
        exact hz _ (mlook_mem hk) (by simpa using eg)
      refine ⟨h.f1, h.f2, h.nt, mnodup_del h.ng _, h.kt, fun j hj => h.kg j (mem_keys_del hj), h.lt, fun j u hu => ?_, fun j g hu => ?_⟩
      · obtain ⟨q1, q2⟩ := h.tasks j u hu
        refine ⟨q1, ?_⟩
        rcases q2 with q2 | ⟨p1, ⟨g, p2⟩, p3⟩
        · exact .inl q2
        · refine .inr ⟨p1, ?_, p3⟩
          simp only [mlook_del h.ng, if_neg (hno j u hu), p2]
          exact ⟨_, rfl⟩
      · simp only [mlook_del h.ng] at hu
        by_cases ej : j = id
        · rw [if_pos ej] at hu; cases hu
        · rw [if_neg ej] at hu; exact h.groups j g hu
theorem Inv.enter {s : Rs} (h : Inv s) (id g w cap : Int) : Inv (enter s id g w cap).2 := by
  unfold Tb.enter
  split
  · rename_i h1
    obtain ⟨h2, h3, h4⟩ := fresh_0 h1
    cases e : mlook s.gs g with
    | none => exact h
    | some x =>
      simp only
      split
      · rename_i hw
        have hw := wOk_spec hw
        split
        · rename_i hc
          have hc := capOk_spec hc
          split
          · exact h
          split
          · exact h
          rename_i h5 h6
          have hg0 : g ≠ 0 := by intro eg; subst eg; rw [h.g0] at e; cases e
          refine ⟨by rw [count_f]; exact h.f1, by rw [count_f]; exact h.f2, by simp only [count_ts]; exact mnodup_put h.nt _ _, by simp only [keys_count]; exact h.ng, fun j hj => ?_, fun j hj => h.kg j (by simpa only [keys_count] using hj),
            by simp only [count_ts]; rw [len_put_none h2]; omega, fun j u hu => ?_, fun j y hu => ?_⟩
          · simp only [count_ts] at hj
            rcases mem_keys_put hj with rfl | hj
            · exact ⟨h3, h4⟩
            · exact h.kt j hj
          · simp only [count_ts, mlook_put] at hu
            rw [count_f]
            by_cases ej : j = id
            · subst ej; rw [if_pos rfl] at hu; injection hu with hu; subst hu
              refine ⟨rfl, .inr ⟨hg0, ?_, rfl, hw.1, hw.2, hc.1, hc.2⟩⟩
              simp only [look_count, e, if_pos]
              exact ⟨_, rfl⟩
            · rw [if_neg ej] at hu
              obtain ⟨q1, q2⟩ := h.tasks j u hu
              refine ⟨q1, ?_⟩
              rcases q2 with q2 | ⟨p1, ⟨z, p2⟩, p3⟩
              · exact .inl q2
              · refine .inr ⟨p1, ?_, p3⟩
                simp only [look_count, p2]
                split <;> exact ⟨_, rfl⟩
          · have hcn := count_put_none (fun p => decide (p.2.group = j)) h2 (⟨id, g, 0, w, cap, false⟩ : Task)
            simp only [look_count] at hu
            cases eg : mlook s.gs j with
            | none => rw [eg] at hu; cases hu
            | some g0 =>
              rw [eg] at hu
              simp only at hu
              obtain ⟨q1, q2, q3, q4, q5⟩ := h.groups j g0 eg
              rw [count_f]
              simp only [count_ts]
              by_cases ej : j = g
              · rw [if_pos ej] at hu; injection hu with hu; subst hu
                rw [decide_eq_true ej.symm] at hcn
                have hc1 : cnt (mput s.ts id ⟨id, g, 0, w, cap, false⟩) j = cnt s.ts j + 1 := hcn
                subst ej
                rw [e] at eg; injection eg with eg; subst eg
                have hw : IntKind.wrap .i64 (x.members + 1) = x.members + 1 := wrap_small _ (by omega) (by omega)
                simp only [hw]
                exact ⟨q1, q2, q3, by omega, by omega⟩
              · rw [if_neg ej] at hu; injection hu with hu; subst hu
                rw [decide_eq_false (fun e => ej e.symm)] at hcn
                have hc1 : cnt (mput s.ts id ⟨id, g, 0, w, cap, false⟩) j = cnt s.ts j := by unfold cnt; simpa [b2n] using hcn
                simp only [hc1]; exact ⟨q1, q2, q3, q4, q5⟩
        · exact h
      · exact h
  · exact h
theorem Inv.weigh {s : Rs} (h : Inv s) (id w : Int) : Inv (weigh s id w).2 := by
  unfold Tb.weigh
  split
  · rename_i h1
    obtain ⟨t, e1, e2, e3⟩ := member_0 h1
    split
    · rename_i h5
      have h5 := wOk_spec h5
      rw [e2]
      obtain ⟨q1, q2⟩ := h.tasks _ _ e1
      have hg : t.group ≠ 0 := by simpa using e3
      refine h.upd e1 q1 rfl (.inr ?_)
      rcases q2 with q2 | q2
      · exact absurd q2.1 hg
      · exact ⟨hg, q2.2.1, q2.2.2.1, h5.1, h5.2, q2.2.2.2.2.2.1, q2.2.2.2.2.2.2⟩
    · exact h
  · exact h
theorem Inv.limit {s : Rs} (h : Inv s) (id w : Int) : Inv (limit s id w).2 := by
  unfold Tb.limit
  split
  · rename_i h1
    obtain ⟨t, e1, e2, e3⟩ := member_0 h1
    split
    · rename_i h5
      have h5 := capOk_spec h5
      rw [e2]
      obtain ⟨q1, q2⟩ := h.tasks _ _ e1
      have hg : t.group ≠ 0 := by simpa using e3
      refine h.upd e1 q1 rfl (.inr ?_)
      rcases q2 with q2 | q2
      · exact absurd q2.1 hg
      · exact ⟨hg, q2.2.1, q2.2.2.1, q2.2.2.2.1, q2.2.2.2.2.1, h5.1, h5.2⟩
    · exact h
  · exact h
theorem Inv.move {s : Rs} (h : Inv s) (id g : Int) : Inv (move s id g).2 := by
  unfold Tb.move
  split
  · rename_i h1
    obtain ⟨t, e1, e2, e3⟩ := member_0 h1
    have hg : t.group ≠ 0 := by simpa using e3
    cases e : mlook s.gs g with
    | none => exact h
    | some x =>
      simp only [e2]
      split
      · exact h
      split
      · exact h
      rename_i h5 h6
      have hg0 : g ≠ 0 := by intro eg; subst eg; rw [h.g0] at e; cases e
      obtain ⟨r1, r2⟩ := h.tasks _ _ e1
      refine ⟨by rw [count_f, count_f]; exact h.f1, by rw [count_f, count_f]; exact h.f2, mnodup_put h.nt _ _, by simp only [keys_count]; exact h.ng, fun j hj => ?_, fun j hj => h.kg j (by simpa only [keys_count] using hj),
        by simp only; rw [len_put_some e1]; exact h.lt, fun j u hu => ?_, fun j y hu => ?_⟩
      · rcases mem_keys_put hj with rfl | hj
        · exact h.kt _ (List.mem_map.2 ⟨_, mlook_mem e1, rfl⟩)
        · exact h.kt j hj
      · simp only [mlook_put] at hu
        rw [count_f, count_f]
        have hex : ∀ k, (∃ z, mlook s.gs k = some z) → ∃ z, mlook (count (count s t.group (-1)) g 1).gs k = some z := by
          have one : ∀ (s' : Rs) (id b k : Int), (∃ z, mlook s'.gs k = some z) → ∃ z, mlook (count s' id b).gs k = some z := by
            intro s' id b k ⟨z, hz⟩
            rw [look_count, hz]
            simp only
            split <;> exact ⟨_, rfl⟩
          exact fun k hk => one _ _ _ k (one _ _ _ k hk)
        by_cases ej : j = id
        · subst ej; rw [if_pos rfl] at hu; injection hu with hu; subst hu
          refine ⟨r1, ?_⟩
          rcases r2 with q2 | q2
          · exact absurd q2.1 hg
          · exact .inr ⟨hg0, hex g ⟨x, e⟩, q2.2.2⟩
        · rw [if_neg ej] at hu
          obtain ⟨q1, q2⟩ := h.tasks j u hu
          refine ⟨q1, ?_⟩
          rcases q2 with q2 | ⟨p1, p2, p3⟩
          · exact .inl q2
          · exact .inr ⟨p1, hex _ p2, p3⟩
      · have hcn := count_put_some (fun p => decide (p.2.group = j)) e1 { t with group := g }
        simp only at hcn
        rw [count_f, count_f]
        simp only [look_count] at hu
        cases eg : mlook s.gs j with
        | none => rw [eg] at hu; cases hu
        | some g0 =>
          rw [eg] at hu
          obtain ⟨q1, q2, q3, q4, q5⟩ := h.groups j g0 eg
          simp only at hu
          by_cases ej : j = g
          · have ej2 : ¬ j = t.group := fun e9 => h5 (e9.symm.trans ej)
            rw [if_neg ej2] at hu
            simp only [if_pos ej] at hu
            injection hu with hu; subst hu
            rw [decide_eq_false (fun e9 => ej2 e9.symm), decide_eq_true ej.symm] at hcn
            have hc1 : cnt (mput s.ts id { t with group := g }) j = cnt s.ts j + 1 := by unfold cnt; simpa [b2n] using hcn
            have hx : g0 = x := by subst ej; rw [e] at eg; injection eg with eg; exact eg.symm
            subst hx
            have hw : IntKind.wrap .i64 (g0.members + 1) = g0.members + 1 := wrap_small _ (by omega) (by omega)
            simp only [hw, hc1]
            exact ⟨q1, q2, q3, by omega, by omega⟩
          · by_cases ej2 : j = t.group
            · rw [if_pos ej2] at hu
              simp only [if_neg ej] at hu
              injection hu with hu; subst hu
              rw [decide_eq_true ej2.symm, decide_eq_false (fun e9 => ej e9.symm)] at hcn
              have hc1 : cnt (mput s.ts id { t with group := g }) j + 1 = cnt s.ts j := by unfold cnt; simpa [b2n] using hcn
              have hw : IntKind.wrap .i64 (g0.members + -1) = g0.members + -1 := wrap_small _ (by omega) (by omega)
              simp only [hw]
              exact ⟨q1, q2, q3, by omega, by omega⟩
            · rw [if_neg ej2] at hu
              simp only [if_neg ej] at hu
              injection hu with hu; subst hu
              rw [decide_eq_false (fun e9 => ej2 e9.symm), decide_eq_false (fun e9 => ej e9.symm)] at hcn
              have hc1 : cnt (mput s.ts id { t with group := g }) j = cnt s.ts j := by unfold cnt; simpa [b2n] using hcn
              simp only [hc1]; exact ⟨q1, q2, q3, q4, q5⟩
  · exact h
theorem Inv.doR {s : Rs} (h : Inv s) (c : Cmd) : Inv (doR s c).2 := by
  unfold Tb.doR
  by_cases e1 : c.op = 1
  · rw [if_pos e1]; exact h.arrive _ _
  rw [if_neg e1]
  by_cases e2 : c.op = 2
  · rw [if_pos e2]; exact h.depart _
  rw [if_neg e2]
  by_cases e3 : c.op = 3
  · rw [if_pos e3]; exact h.reweight _ _
  rw [if_neg e3]
  by_cases e4 : c.op = 4
  · rw [if_pos e4]; exact h.off _ _
  rw [if_neg e4]
  by_cases e5 : c.op = 5
  · rw [if_pos e5]; exact h.off _ _
  rw [if_neg e5]
  by_cases e6 : c.op = 6
  · rw [if_pos e6]; exact h.found _ _
  rw [if_neg e6]
  by_cases e7 : c.op = 7
  · rw [if_pos e7]; exact h.fund _ _
  rw [if_neg e7]
  by_cases e8 : c.op = 8
  · rw [if_pos e8]; exact h.disband _
  rw [if_neg e8]
  by_cases e9 : c.op = 9
  · rw [if_pos e9]; exact h.enter _ _ _ _
  rw [if_neg e9]
  by_cases e10 : c.op = 10
  · rw [if_pos e10]; exact h.weigh _ _
  rw [if_neg e10]
  by_cases e11 : c.op = 11
  · rw [if_pos e11]; exact h.limit _ _
  rw [if_neg e11]
  by_cases e12 : c.op = 12
  · rw [if_pos e12]; exact h.move _ _
  rw [if_neg e12]
  exact h
def nz (l : List Task) : Nat := l.countP fun t => decide (t.group ≠ 0)
def mem (l : List Grp) : Int := (l.map (·.members)).sum
theorem tasksL_perm {s : Rs} (h : Inv s) : (tasksL s).Perm (s.ts.map (·.2)) := by
  rw [← mlook_vals tz s.ts h.nt]
  exact (sortI_perm _).map _
theorem groupsL_perm {s : Rs} (h : Inv s) : (groupsL s).Perm (s.gs.map (·.2)) := by
  rw [← mlook_vals gz s.gs h.ng]
  exact (sortI_perm _).map _
theorem groupsL_len' (s : Rs) : (groupsL s).length = s.gs.length := by unfold groupsL; rw [List.length_map, sortI_len]; simp [mkeys]
theorem tasksL_get {s : Rs} (h : Inv s) {i : Nat} (hi : i < s.ts.length) : ∃ t, (tasksL s)[i]? = some t ∧ mlook s.ts t.id = some t := by
  have hl := tasksL_len s
  refine ⟨(tasksL s)[i]'(by omega), by simp, ?_⟩
  have hm : (tasksL s)[i]'(by omega) ∈ s.ts.map (·.2) := (tasksL_perm h).mem_iff.1 (List.getElem_mem _)
  obtain ⟨p, hp, he⟩ := List.mem_map.1 hm
  have hk := mem_mlook h.nt (k := p.1) (a := p.2) hp
  rw [← he, (h.tasks _ _ hk).1]; exact hk
theorem groupsL_get {s : Rs} (h : Inv s) {i : Nat} (hi : i < s.gs.length) : ∃ t, (groupsL s)[i]? = some t ∧ mlook s.gs t.id = some t := by
  have hl := groupsL_len' s
  refine ⟨(groupsL s)[i]'(by omega), by simp, ?_⟩
  have hm : (groupsL s)[i]'(by omega) ∈ s.gs.map (·.2) := (groupsL_perm h).mem_iff.1 (List.getElem_mem _)
  obtain ⟨p, hp, he⟩ := List.mem_map.1 hm
  have hk := mem_mlook h.ng (k := p.1) (a := p.2) hp
  rw [← he, (h.groups _ _ hk).1]; exact hk
theorem nz_eq {s : Rs} (h : Inv s) : nz (tasksL s) = s.ts.countP (fun p => decide (p.2.group ≠ 0)) := by
  unfold nz; rw [(tasksL_perm h).countP_eq, List.countP_map]; rfl
theorem nz_le {s : Rs} (h : Inv s) : nz (tasksL s) ≤ 96 := by
  rw [nz_eq h]; exact Nat.le_trans List.countP_le_length h.lt
theorem nz_take {s : Rs} (h : Inv s) (i : Nat) : nz ((tasksL s).take i) ≤ 96 :=
  Nat.le_trans ((List.take_sublist i _).countP_le) (nz_le h)
theorem mem_all {s : Rs} (h : Inv s) : mem (groupsL s) = (nz (tasksL s) : Int) := by
  unfold mem
  rw [sum_perm ((groupsL_perm h).map _), List.map_map, nz_eq h]
  have h1 : s.gs.map ((·.members) ∘ (·.2)) = (mkeys s.gs).map fun k => (s.ts.countP (fun a => decide (a.2.group = k)) : Int) := by
    unfold mkeys; rw [List.map_map]
    refine List.map_congr_left (fun p hp => ?_)
    have := (h.groups _ _ (mem_mlook h.ng (k := p.1) (a := p.2) hp)).2.2.2.1
    exact this
  rw [h1, count_mem (fun p : Int × Task => p.2.group) s.ts (mkeys s.gs) h.ng]
  congr 1
  refine List.countP_congr (fun p hp => ?_)
  have hk := mem_mlook h.nt (k := p.1) (a := p.2) hp
  rcases (h.tasks _ _ hk).2 with q | ⟨q1, ⟨g, q2⟩, _⟩
  · have : 0 ∉ mkeys s.gs := mlook_none.1 h.g0
    simp [q.1, this]
  · have : p.2.group ∈ mkeys s.gs := List.mem_map.2 ⟨_, mlook_mem q2, rfl⟩
    simp [q1, this]
theorem mem_nonneg {s : Rs} (h : Inv s) : ∀ g ∈ groupsL s, 0 ≤ g.members := by
  intro g hg
  obtain ⟨p, hp, he⟩ := List.mem_map.1 ((groupsL_perm h).mem_iff.1 hg)
  have := (h.groups _ _ (mem_mlook h.ng (k := p.1) (a := p.2) hp)).2.2.2.1
  rw [← he]; omega
theorem sum_nonneg : ∀ l : List Grp, (∀ g ∈ l, 0 ≤ g.members) → 0 ≤ mem l
  | [], _ => by simp [mem]
  | g :: l, h => by
    have := sum_nonneg l (fun x hx => h x (List.mem_cons_of_mem _ hx))
    have := h g (by simp)
    simp only [mem, List.map_cons, List.sum_cons] at *; omega
theorem mem_le {s : Rs} (h : Inv s) (i : Nat) : mem ((groupsL s).take i) ≤ (nz (tasksL s) : Int) ∧ 0 ≤ mem ((groupsL s).take i) := by
  have h0 := mem_nonneg h
  have h1 := sum_nonneg ((groupsL s).take i) (fun g hg => h0 g (List.mem_of_mem_take hg))
  have h2 := sum_nonneg ((groupsL s).drop i) (fun g hg => h0 g (List.mem_of_mem_drop hg))
  have h3 : mem (groupsL s) = mem ((groupsL s).take i) + mem ((groupsL s).drop i) := by
    unfold mem; rw [← List.sum_append, ← List.map_append, List.take_append_drop]
  have := mem_all h
  omega
theorem mem_pos {s : Rs} (h : Inv s) {k t g} (e : mlook s.ts k = some t) (g1 : t.group ≠ 0) (g2 : mlook s.gs t.group = some g) : 1 ≤ g.members := by
  have q := (h.groups _ _ g2).2.2.2.1
  have : 0 < cnt s.ts t.group := by
    unfold cnt; rw [List.countP_pos_iff]
    exact ⟨_, mlook_mem e, by simp⟩
  omega
theorem ok_keys {s : Rs} (h : Inv s) : (∀ k ∈ mkeys s.ts, okI64 k = true) ∧ (∀ k ∈ mkeys s.gs, okI64 k = true) ∧ s.gs.length ≤ 1000 := by
  refine ⟨fun k hk => ?_, fun k hk => ?_, ?_⟩
  · have := h.kt k hk; simp [okI64]; omega
  · have := h.kg k hk; simp [okI64]; omega
  · have := bounded_len 40 (mkeys s.gs) h.ng (fun x hx => h.kg x hx)
    simp [mkeys] at this; omega
end Go.Proofs.Ytemcdpkiphmndaa.Tb
