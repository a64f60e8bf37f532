/- Ab10h: objects under new names, and calls to which objects are handed over. -/
import Derived.Test.YtemcdpkiphmndaaAb10
set_option linter.unusedSimpArgs false
set_option linter.unusedVariables false
set_option linter.unusedSectionVars false
namespace Go.Proofs.Ytemcdpkiphmndaa.Ab

theorem renL_get (f : Nat → Option Nat) : ∀ (cs : List D) (j : Nat), (renL f cs)[j]? = (cs[j]?).map (ren f)
  | [], j => by simp [renL]
  | c :: cs, 0 => by simp [renL]
  | c :: cs, j + 1 => by simp [renL, renL_get f cs j]
theorem renL_length (f : Nat → Option Nat) : ∀ (cs : List D), (renL f cs).length = cs.length
  | [] => by simp [renL]
  | c :: cs => by simp [renL, renL_length f cs]
theorem renEs_get (f : Nat → Option Nat) : ∀ (es : List (List D)) (j : Nat), (renEs f es)[j]? = (es[j]?).map (renL f)
  | [], j => by simp [renEs]
  | c :: cs, 0 => by simp [renEs]
  | c :: cs, j + 1 => by simp [renEs, renEs_get f cs j]
theorem renEs_length (f : Nat → Option Nat) : ∀ (es : List (List D)), (renEs f es).length = es.length
  | [] => by simp [renEs]
  | c :: cs => by simp [renEs, renEs_length f cs]
theorem ren_okR (f : Nat → Option Nat) {d : D} (h : okR d = true) : ren f d = d := by cases d <;> first | (simp only [ren]; done) | cases h

theorem idx_spec {x : Nat} : ∀ {l : List Nat} {i k : Nat}, idx x l i = some k → i ≤ k ∧ l[k - i]? = some x
  | [], i, k, h => by cases h
  | y :: l, i, k, h => by
    rw [idx] at h
    cases e : y == x with
    | true =>
      rw [e] at h; injection h with h; subst h
      simp at e; subst e
      simp
    | false =>
      rw [e] at h
      obtain ⟨h1, h2⟩ := idx_spec (l := l) h
      refine ⟨by omega, ?_⟩
      rw [show k - i = (k - (i + 1)) + 1 from by omega]
      simpa using h2
theorem rename_spec {m : Nat} {ls : List Nat} {x k : Nat} (h : rename m ls x = some k) : (x < m ∧ k = x) ∨ (m ≤ x ∧ m ≤ k ∧ ls[k - m]? = some x) := by
  unfold rename at h
  cases e : Nat.blt x m with
  | true => rw [e] at h; injection h with h; exact .inl ⟨by simpa using e, h.symm⟩
  | false =>
    rw [e] at h
    obtain ⟨h1, h2⟩ := idx_spec h
    have e' : m ≤ x := by
      by_cases hh : x < m
      · have : Nat.blt x m = true := by simpa using hh
        rw [this] at e; cases e
      · omega
    exact .inr ⟨e', h1, h2⟩
theorem rename_inj {m : Nat} {ls : List Nat} {x y k : Nat} (hx : rename m ls x = some k) (hy : rename m ls y = some k) : x = y := by
  rcases rename_spec hx with ⟨a1, a2⟩ | ⟨a0, a1, a2⟩ <;> rcases rename_spec hy with ⟨b1, b2⟩ | ⟨b0, b1, b2⟩
  · omega
  · omega
  · omega
  · rw [a2] at b2; injection b2
theorem rename_mem {m : Nat} {ls : List Nat} {x k : Nat} (hx : rename m ls x = some k) : x ∈ pars m ++ ls := by
  rcases rename_spec hx with ⟨a1, _⟩ | ⟨_, _, a2⟩
  · exact List.mem_append_left _ (by simp [pars, a1])
  · exact List.mem_append_right _ (List.mem_of_getElem? a2)

theorem renO_st (f : Nat → Option Nat) (o : Ob) : (renO f o).st = o.st := by unfold renO; split <;> rfl
theorem renO_sz (f : Nat → Option Nat) (o : Ob) : (renO f o).sz = o.sz := by unfold renO; split <;> rfl
theorem renO_ty (f : Nat → Option Nat) (o : Ob) : (renO f o).ty = o.ty := by unfold renO; split <;> rfl
theorem renO_k (f : Nat → Option Nat) (o : Ob) : (renO f o).k = o.k := by unfold renO; split <;> first | rfl | simp_all


section
variable {f : Nat → Option Nat} (finj : ∀ x y k, f x = some k → f y = some k → x = y) {h : List (Nat × Ob)}
theorem gcH_some : ∀ {xs : List Nat} {k : Nat} {o : Ob}, getO (gcH f h xs) k = some o → ∃ l o0, l ∈ xs ∧ f l = some k ∧ getO h l = some o0 ∧ o = renO f o0
  | [], k, o, e => by cases e
  | x :: xs, k, o, e => by
    rw [gcH_cons] at e
    unfold gcO at e
    split at e
    · rename_i k' o' hk ho
      rw [getO_cons] at e
      by_cases hh : k' = k
      · rw [if_pos hh] at e; injection e with e
        exact ⟨x, o', by simp, by rw [hk, hh], ho, e.symm⟩
      · rw [if_neg hh] at e
        obtain ⟨l, o0, q1, q2⟩ := gcH_some e
        exact ⟨l, o0, by simp [q1], q2⟩
    · obtain ⟨l, o0, q1, q2⟩ := gcH_some e
      exact ⟨l, o0, by simp [q1], q2⟩
include finj in
theorem gcH_get : ∀ {xs : List Nat} {l k : Nat} {o : Ob}, l ∈ xs → f l = some k → getO h l = some o → getO (gcH f h xs) k = some (renO f o)
  | [], l, k, o, hl, _, _ => by cases hl
  | x :: xs, l, k, o, hl, hk, ho => by
    rw [gcH_cons]
    unfold gcO
    by_cases hx : x = l
    · subst hx
      rw [hk, ho]
      simp only [getO_hit]
    · have hl' : l ∈ xs := by
        cases hl with
        | head => exact absurd rfl hx
        | tail _ hl => exact hl
      split
      · rename_i k' o' hk' ho'
        rw [getO_cons]
        by_cases hh : k' = k
        · subst hh
          exact absurd (finj _ _ _ hk' hk) hx
        · rw [if_neg hh]; exact gcH_get hl' hk ho
      · exact gcH_get hl' hk ho
end

/-- What stands in memory, under new names. -/
theorem R_ren {w : World} {M M' : Nat → Prop} {φ φ' : Nat → Nat} {σ σ' : Nat → Option Nat} {f : Nat → Option Nat} (hM : ∀ b, M' b → M b) (hφ : ∀ l k s, f l = some k → σ l = some s → σ' k = some s ∧ φ' k = φ l) {d v} (hr : R w M φ σ d v) : R w M' φ' σ' (ren f d) v := by
  induction hr with
  | imm hv =>
    rename_i d v
    have e : ren f d = d := by cases hv <;> simp only [ren]
    rw [e]
    exact .imm (hv.mono (Ext.refl (fun _ => False) w) (fun _ _ e => e.elim) (fun b _ e => hM b e))
  | ptr l i j s hs =>
    rw [ren_ptr]
    cases hk : f l with
    | none => exact .imm (.any _)
    | some k =>
      obtain ⟨q1, q2⟩ := hφ l k s hk hs
      rw [rePtr_some, ← q2]
      exact .ptr k i j s q1
  | own l i n s c cur ty hs hc hm hw hz =>
    rw [ren_own]
    cases hk : f l with
    | none => exact .imm (.any _)
    | some k =>
      obtain ⟨q1, q2⟩ := hφ l k s hk hs
      rw [reOwn_some]
      rw [← q2] at hw ⊢
      exact .own k i n s c cur ty q1 hc hm hw hz
  | mp l s hs =>
    rw [ren_mp]
    cases hk : f l with
    | none => exact .imm (.any _)
    | some k =>
      obtain ⟨q1, q2⟩ := hφ l k s hk hs
      rw [reMp_some, ← q2]
      exact .mp k s q1
  | agg cs vs hl _ ih =>
    rw [ren_agg]
    refine .agg _ _ (by rw [renL_length]; exact hl) (fun j d v a b => ?_)
    rw [renL_get] at a
    cases hj : cs[j]? with
    | none => rw [hj] at a; cases a
    | some d0 => rw [hj] at a; injection a with a; subst a; exact ih j d0 v hj b
  | tup cs vs hl _ ih =>
    rw [ren_tup]
    refine .tup _ _ (by rw [renL_length]; exact hl) (fun j d v a b => ?_)
    rw [renL_get] at a
    cases hj : cs[j]? with
    | none => rw [hj] at a; cases a
    | some d0 => rw [hj] at a; injection a with a; subst a; exact ih j d0 v hj b
  | clo g cs vs hl _ ih =>
    rw [ren_clo]
    refine .clo _ _ _ (by rw [renL_length]; exact hl) (fun j d v a b => ?_)
    rw [renL_get] at a
    cases hj : cs[j]? with
    | none => rw [hj] at a; cases a
    | some d0 => rw [hj] at a; injection a with a; subst a; exact ih j d0 v hj b

/-- An object, under a new name. -/
theorem ObOk_ren {w : World} {M M' : Nat → Prop} {φ φ' : Nat → Nat} {σ σ' : Nat → Option Nat} {f : Nat → Option Nat} (hM : ∀ b, M' b → M b) (hφ : ∀ l k s, f l = some k → σ l = some s → σ' k = some s ∧ φ' k = φ l) {b : Nat} {o : Ob} (ho : ObOk w M φ σ b o) : ObOk w M' φ' σ' b (renO f o) := by
  obtain ⟨c, hc, h1, h2⟩ := ho
  refine ⟨c, hc, fun hkm => ?_, fun hkm => ?_⟩
  · rw [renO_k] at hkm
    obtain ⟨cur, c1, c2, c3, c4⟩ := h1 hkm
    rw [renO_ty, renO_sz]
    refine ⟨cur, c1, ?_, fun i e he => ?_, fun i e j d he hd => ?_⟩
    · unfold renO; split
      · exact c2
      · simp only [renEs_length]; exact c2
    · unfold renO at he; split at he
      · exact c3 i e he
      · simp only [renEs_get] at he
        cases hq : o.es[i]? with
        | none => rw [hq] at he; cases he
        | some e0 => rw [hq] at he; injection he with he; rw [← he, renL_length]; exact c3 i e0 hq
    · rw [renO_k]
      unfold renO at he
      split at he
      · rename_i hrow
        obtain ⟨q0, u, q1, q2⟩ := c4 i e j d he hd
        rw [hrow] at q0
        refine ⟨by rw [hrow]; exact q0, u, q1, ?_⟩
        have := R_ren (f := f) hM hφ q2
        rw [ren_okR _ q0] at this
        exact this
      · rename_i hkb
        have hbox : o.k = .box := by
          cases hq : o.k with
          | box => rfl
          | row => exact absurd hq hkb
          | map => exact absurd hq hkm
        simp only [renEs_get] at he
        cases hq : o.es[i]? with
        | none => rw [hq] at he; cases he
        | some e0 =>
          rw [hq] at he; injection he with he; subst he
          rw [renL_get] at hd
          cases hq2 : e0[j]? with
          | none => rw [hq2] at hd; cases hd
          | some d0 =>
            rw [hq2] at hd; injection hd with hd; subst hd
            obtain ⟨q0, u, q1, q2⟩ := c4 i e0 j d0 hq hq2
            exact ⟨by rw [hbox]; rfl, u, q1, R_ren hM hφ q2⟩
  · rw [renO_k] at hkm
    obtain ⟨ents, clock, c1, c2, cst, c3⟩ := h2 hkm
    refine ⟨ents, clock, c1, ?_, cst, fun i e he => ?_⟩
    · unfold renO; split
      · exact c2
      · simp only [renEs_length]; exact c2
    · unfold renO at he
      split at he
      · rename_i hrow; rw [hrow] at hkm; cases hkm
      · simp only [renEs_get] at he
        cases hq : o.es[i]? with
        | none => rw [hq] at he; cases he
        | some e0 =>
          rw [hq] at he; injection he with he; subst he
          obtain ⟨k, n, d, en, g1, g2, g3, g4⟩ := c3 i e0 hq
          subst g1
          exact ⟨k, n, ren f d, en, by simp [renL, ren], g2, g3, R_ren hM hφ g4⟩

theorem sg_of {h : List (Nat × Ob)} {l : Nat} {o : Ob} (e : getO h l = some o) : sg h l = some o.sz := by unfold sg; rw [e]; rfl
theorem sg_some {h : List (Nat × Ob)} {l s : Nat} (e : sg h l = some s) : ∃ o, getO h l = some o ∧ o.sz = s := by
  unfold sg at e
  cases ho : getO h l with
  | none => rw [ho] at e; cases e
  | some o => rw [ho] at e; injection e with e; exact ⟨o, rfl, e⟩
theorem live_ren {f : Nat → Option Nat} {o : Ob} (e : Live (renO f o)) : Live o := by unfold Live at *; rwa [renO_st] at e

/-! ### which names are reached -/
theorem mem_spec {x : Nat} : ∀ {l : List Nat}, mem x l = true ↔ x ∈ l
  | [] => by simp [mem]
  | y :: l => by
    simp only [mem, Bool.or_eq_true, beq_iff_eq, mem_spec (l := l), List.mem_cons]
    constructor
    · rintro (h | h)
      · exact .inl h.symm
      · exact .inr h
    · rintro (h | h)
      · exact .inl h.symm
      · exact .inr h
theorem close_nodup {h : List (Nat × Ob)} {m : Nat} : ∀ {n : Nat} {xs acc : List Nat}, acc.Nodup → (∀ x ∈ acc, m ≤ x) → (close h m n xs acc).Nodup ∧ ∀ x ∈ close h m n xs acc, m ≤ x
  | 0, xs, acc, h1, h2 => by simp only [close]; exact ⟨h1, h2⟩
  | n + 1, [], acc, h1, h2 => by simp only [close]; exact ⟨h1, h2⟩
  | n + 1, x :: xs, acc, h1, h2 => by
    rw [close]
    cases e : (Nat.blt x m || mem x acc) with
    | true => exact close_nodup h1 h2
    | false =>
      simp only [Bool.or_eq_false_iff] at e
      have hm : m ≤ x := by
        by_cases hh : x < m
        · have : Nat.blt x m = true := by simpa using hh
          rw [this] at e; cases e.1
        · omega
      have hx : x ∉ acc := by
        intro hc
        rw [mem_spec.2 hc] at e; cases e.2
      refine close_nodup ?_ ?_
      · rw [List.nodup_append]
        refine ⟨h1, by simp, fun a ha b hb => ?_⟩
        simp at hb; subst hb
        exact fun hab => hx (hab ▸ ha)
      · intro y hy
        rcases List.mem_append.1 hy with q | q
        · exact h2 y q
        · simp at q; subst q; exact hm

theorem idx_mem {x : Nat} : ∀ {l : List Nat} {i : Nat}, x ∈ l → ∃ k, idx x l i = some k
  | [], _, h => by cases h
  | y :: l, i, h => by
    rw [idx]
    cases e : y == x with
    | true => exact ⟨i, rfl⟩
    | false =>
      simp at e
      cases h with
      | head => exact absurd rfl e
      | tail _ h => exact idx_mem h
theorem nodup_get {ls : List Nat} (hn : ls.Nodup) {i j x : Nat} (h1 : ls[i]? = some x) (h2 : ls[j]? = some x) : i = j := by
  have a := (List.getElem?_eq_some_iff.1 h1)
  have b := (List.getElem?_eq_some_iff.1 h2)
  obtain ⟨a1, a2⟩ := a
  obtain ⟨b1, b2⟩ := b
  rcases Nat.lt_trichotomy i j with hij | hij | hij
  · exact absurd (a2.trans b2.symm) (List.pairwise_iff_getElem.1 hn i j a1 b1 hij)
  · exact hij
  · exact absurd (b2.trans a2.symm) (List.pairwise_iff_getElem.1 hn j i b1 a1 hij)
theorem allIn_spec {h : List (Nat × Ob)} : ∀ {ls : List Nat}, allIn h ls = true → ∀ l ∈ ls, ∃ o, getO h l = some o
  | [], _, l, hl => by cases hl
  | x :: ls, e, l, hl => by
    rw [allIn_cons] at e
    simp only [Bool.and_eq_true, Option.isSome_iff_exists] at e
    cases hl with
    | head => exact e.1
    | tail _ hl => exact allIn_spec e.2 l hl
theorem noneIn_spec {h : List (Nat × Ob)} : ∀ {ls : List Nat} {b : Nat}, noneIn h b ls = true → ∀ j, j < ls.length → getO h (b + j) = none
  | [], _, _, j, hj => by cases hj
  | x :: ls, b, e, j, hj => by
    rw [noneIn_cons] at e
    simp only [Bool.and_eq_true] at e
    cases j with
    | zero => exact fresh_spec e.1
    | succ j =>
      have := noneIn_spec e.2 j (by simpa using hj)
      rwa [show b + 1 + j = b + (j + 1) from by omega] at this
theorem getO_append (a b : List (Nat × Ob)) (x : Nat) : getO (a ++ b) x = match getO a x with | some o => some o | none => getO b x := by
  induction a with
  | nil => rfl
  | cons p a ih =>
    obtain ⟨n, o⟩ := p
    rw [List.cons_append, getO_cons, getO_cons]
    split
    · rfl
    · exact ih
theorem rename0 {ls : List Nat} {x k : Nat} (h : rename 0 ls x = some k) : ls[k]? = some x := by
  rcases rename_spec h with ⟨a, _⟩ | ⟨_, _, a⟩
  · omega
  · simpa using a
theorem rename0_of {ls : List Nat} (hn : ls.Nodup) {x k : Nat} (h : ls[k]? = some x) : rename 0 ls x = some k := by
  obtain ⟨k', hk'⟩ := idx_mem (i := 0) (List.mem_of_getElem? h)
  have hr : rename 0 ls x = some k' := hk'
  rw [hr, nodup_get hn (rename0 hr) h]

section
variable {w : World} {M0 : Nat → Prop} {φ : Nat → Nat} {h : List (Nat × Ob)} {ls : List Nat}

def cphi (φ : Nat → Nat) (ls : List Nat) (k : Nat) : Nat := match ls[k]? with | some l => φ l | none => 0
def cM0 (M0 : Nat → Prop) (φ : Nat → Nat) (h : List (Nat × Ob)) (ls : List Nat) (b : Nat) : Prop := M0 b ∨ (W φ h b ∧ ¬ W (cphi φ ls) (gcH (rename 0 ls) h ls) b)

theorem cphi_of {k l} (e : ls[k]? = some l) : cphi φ ls k = φ l := by unfold cphi; rw [e]
theorem c_W {b} (e : W (cphi φ ls) (gcH (rename 0 ls) h ls) b) : ∃ l o, l ∈ ls ∧ getO h l = some o ∧ o.st = 2 ∧ φ l = b := by
  obtain ⟨k, o, h1, h2, h3⟩ := e
  obtain ⟨l, o0, g0, g1, g2, rfl⟩ := gcH_some h1
  exact ⟨l, o0, g0, g2, by rw [renO_st] at h2; exact h2, by rw [← h3, cphi_of (rename0 g1)]⟩
theorem c_W' (hn : ls.Nodup) {l o} (hl : l ∈ ls) (ho : getO h l = some o) (h2 : o.st = 2) : W (cphi φ ls) (gcH (rename 0 ls) h ls) (φ l) := by
  obtain ⟨k, hk⟩ := List.getElem?_of_mem hl
  have hr := rename0_of hn hk
  exact ⟨k, _, gcH_get (fun _ _ _ => rename_inj) hl hr ho, by rw [renO_st]; exact h2, cphi_of hk⟩
theorem c_WW {b} (e : W (cphi φ ls) (gcH (rename 0 ls) h ls) b) : W φ h b := by
  obtain ⟨l, o, _, h2, h3, h4⟩ := c_W e
  exact ⟨l, o, h2, h3, h4⟩
theorem c_M {b} (e : Mx (cM0 M0 φ h ls) (cphi φ ls) (gcH (rename 0 ls) h ls) b) : Mx M0 φ h b := by
  rcases e with (e | e) | e
  · exact .inl e
  · exact .inr e.1
  · exact .inr (c_WW e)
theorem c_sg {l k s} (hk : rename 0 ls l = some k) (e : sg h l = some s) : sg (gcH (rename 0 ls) h ls) k = some s ∧ cphi φ ls k = φ l := by
  obtain ⟨o, ho, hs⟩ := sg_some e
  have := gcH_get (fun _ _ _ => rename_inj) (List.mem_of_getElem? (rename0 hk)) hk ho
  rw [sg_of this, renO_sz, hs]
  exact ⟨rfl, cphi_of (rename0 hk)⟩

theorem call_R {d v} (hr : R w (Mx M0 φ h) φ (sg h) d v) : R w (Mx (cM0 M0 φ h ls) (cphi φ ls) (gcH (rename 0 ls) h ls)) (cphi φ ls) (sg (gcH (rename 0 ls) h ls)) (ren (rename 0 ls) d) v :=
  R_ren (fun _ e => c_M e) (fun _ _ _ hk e => c_sg hk e) hr

theorem call_hp (hp : HpOk w M0 φ h) (hn : ls.Nodup) : HpOk w (cM0 M0 φ h ls) (cphi φ ls) (gcH (rename 0 ls) h ls) := by
  refine ⟨fun k o e1 e2 => ?_, fun k k' o o' e1 e2 e3 e4 e5 => ?_, fun k o e1 e2 => ?_, fun k o e1 e2 => ?_⟩
  · obtain ⟨l, o0, g0, g1, g2, rfl⟩ := gcH_some e1
    rw [cphi_of (rename0 g1)]
    exact ObOk_ren (fun _ e => c_M e) (fun _ _ _ hk e => c_sg hk e) (hp.ob l o0 g2 (live_ren e2))
  · obtain ⟨l, o0, g0, g1, g2, rfl⟩ := gcH_some e1
    obtain ⟨l', o0', g0', g3, g4, rfl⟩ := gcH_some e3
    rw [cphi_of (rename0 g1), cphi_of (rename0 g3)] at e5
    rw [renO_st] at e2
    have := hp.inj l l' o0 o0' g2 e2 g4 (live_ren e4) e5
    subst this
    rw [g1] at g3; injection g3
  · obtain ⟨l, o0, g0, g1, g2, rfl⟩ := gcH_some e1
    rw [cphi_of (rename0 g1)]
    rintro (e | ⟨⟨l2, o2, q1, q2, q3⟩, e⟩)
    · exact hp.m0 l o0 g2 (live_ren e2) e
    · have := hp.inj l2 l o2 o0 q1 q2 g2 (live_ren e2) q3
      subst this
      exact e (c_W' hn g0 q1 q2)
  · obtain ⟨l, o0, g0, g1, g2, rfl⟩ := gcH_some e1
    rw [cphi_of (rename0 g1)]; exact hp.lt l o0 g2 (live_ren e2)
theorem call_lt {l z} (e : sg (gcH (rename 0 ls) h ls) l = some z) : l < ls.length := by
  obtain ⟨o, ho, _⟩ := sg_some e
  obtain ⟨l', o0, g0, g1, g2, _⟩ := gcH_some ho
  exact (List.getElem?_eq_some_iff.1 (rename0 g1)).1

def jphi (φ φ1 : Nat → Nat) (b : Nat) (ls2 : List Nat) (x : Nat) : Nat := if b ≤ x ∧ x < b + ls2.length then (match ls2[x - b]? with | some y => φ1 y | none => 0) else φ x

theorem back_spec {k b : Nat} {ls2 : List Nat} {y x : Nat} (e : back ls k b ls2 y = some x) : (y < k ∧ ls[y]? = some x) ∨ (k ≤ y ∧ b ≤ x ∧ ls2[x - b]? = some y) := by
  unfold back at e
  cases hb : Nat.blt y k with
  | true => rw [hb] at e; exact .inl ⟨by simpa using hb, e⟩
  | false =>
    rw [hb] at e
    have : k ≤ y := by
      by_cases hh : y < k
      · have : Nat.blt y k = true := by simpa using hh
        rw [this] at hb; cases hb
      · omega
    obtain ⟨q1, q2⟩ := idx_spec e
    exact .inr ⟨this, q1, q2⟩

/-- What came of a call, over what we have. -/
theorem call_join (hp : HpOk w M0 φ h) (hn : ls.Nodup) (hall : allIn h ls = true) {b : Nat} {r : D} {h1 : List (Nat × Ob)} {ls2 : List Nat} (hn2 : ls2.Nodup) {v : D} {h' : List (Nat × Ob)} (e : joinH h ls b (r, h1) ls2 = some (v, h'))
    {w' : World} {φ1 : Nat → Nat} (n : Nx (cM0 M0 φ h ls) (cphi φ ls) (gcH (rename 0 ls) h ls) w φ1 h1 w') {u : Value} (hr : R w' (Mx (cM0 M0 φ h ls) φ1 h1) φ1 (sg h1) r u) :
    ∃ φ', Nx M0 φ h w φ' h' w' ∧ R w' (Mx M0 φ' h') φ' (sg h') v u := by
  rw [joinH_def] at e
  obtain ⟨e0, e1⟩ := gd_eq e
  injection e1 with e1; injection e1 with e2 e3; subst e2; subst e3
  have hfr := noneIn_spec e0
  have hall' := allIn_spec hall
  -- of the new names there is nothing as yet
  have hnew : ∀ x, b ≤ x → x < b + ls2.length → getO h x = none := by
    intro x q1 q2
    have := hfr (x - b) (by omega)
    rwa [show b + (x - b) = x from by omega] at this
  have hold : ∀ x o, getO h x = some o → jphi φ φ1 b ls2 x = φ x := by
    intro x o ho
    unfold jphi
    rw [if_neg]
    rintro ⟨q1, q2⟩
    rw [hnew x q1 q2] at ho; cases ho
  -- the names of the callee, in ours
  have hsg0 : ∀ y l, ls[y]? = some l → ∃ o, getO h l = some o ∧ sg (gcH (rename 0 ls) h ls) y = some o.sz := by
    intro y l hy
    obtain ⟨o, ho⟩ := hall' l (List.mem_of_getElem? hy)
    exact ⟨o, ho, (c_sg (φ := φ) (rename0_of hn hy) (sg_of ho)).1⟩
  have hφg : ∀ y x, back ls ls.length b ls2 y = some x → jphi φ φ1 b ls2 x = φ1 y := by
    intro y x hy
    rcases back_spec hy with ⟨q1, q2⟩ | ⟨q1, q2, q3⟩
    · obtain ⟨o, ho, hs⟩ := hsg0 y x q2
      rw [hold x o ho, (n.up y _ hs).2, cphi_of q2]
    · unfold jphi
      have hlt := (List.getElem?_eq_some_iff.1 q3).1
      rw [if_pos ⟨q2, by omega⟩, q3]
  have ginj : ∀ y y' x, back ls ls.length b ls2 y = some x → back ls ls.length b ls2 y' = some x → y = y' := by
    intro y y' x h1 h2
    rcases back_spec h1 with ⟨q1, q2⟩ | ⟨q1, q2, q3⟩ <;> rcases back_spec h2 with ⟨p1, p2⟩ | ⟨p1, p2, p3⟩
    · exact nodup_get hn q2 p2
    · obtain ⟨o, ho, _⟩ := hsg0 y x q2
      have hlt := (List.getElem?_eq_some_iff.1 p3).1
      rw [hnew x p2 (by omega)] at ho; cases ho
    · obtain ⟨o, ho, _⟩ := hsg0 y' x p2
      have hlt := (List.getElem?_eq_some_iff.1 q3).1
      rw [hnew x q2 (by omega)] at ho; cases ho
    · rw [q3] at p3; injection p3
  have gmem : ∀ y x, back ls ls.length b ls2 y = some x → y ∈ pars ls.length ++ ls2 := by
    intro y x hy
    rcases back_spec hy with ⟨q1, _⟩ | ⟨_, _, q3⟩
    · exact List.mem_append_left _ (by simp [pars, q1])
    · exact List.mem_append_right _ (List.mem_of_getElem? q3)
  -- the objects
  have hget : ∀ y x o, back ls ls.length b ls2 y = some x → getO h1 y = some o → getO (gcH (back ls ls.length b ls2) h1 (pars ls.length ++ ls2) ++ h) x = some (renO (back ls ls.length b ls2) o) := by
    intro y x o hy ho
    rw [getO_append, gcH_get ginj (gmem y x hy) hy ho]
  have hcase : ∀ x o, getO (gcH (back ls ls.length b ls2) h1 (pars ls.length ++ ls2) ++ h) x = some o → (∃ y o1, back ls ls.length b ls2 y = some x ∧ getO h1 y = some o1 ∧ o = renO (back ls ls.length b ls2) o1) ∨ (x ∉ ls ∧ getO h x = some o) := by
    intro x o hx
    rw [getO_append] at hx
    cases hq : getO (gcH (back ls ls.length b ls2) h1 (pars ls.length ++ ls2)) x with
    | some o2 =>
      rw [hq] at hx; injection hx with hx; subst hx
      obtain ⟨y, o1, _, q1, q2, q3⟩ := gcH_some hq
      exact .inl ⟨y, o1, q1, q2, q3⟩
    | none =>
      rw [hq] at hx
      refine .inr ⟨fun hl => ?_, hx⟩
      obtain ⟨y, hy⟩ := List.getElem?_of_mem hl
      obtain ⟨o3, ho3, hs⟩ := hsg0 y x hy
      obtain ⟨o1, ho1, _⟩ := sg_some (n.up y _ hs).1
      have hlt := (List.getElem?_eq_some_iff.1 hy).1
      have hbk : back ls ls.length b ls2 y = some x := by
        rw [back_lo _ _ _ _ _ (by simpa using hlt)]; exact hy
      rw [gcH_get ginj (gmem y x hbk) hbk ho1] at hq; cases hq
  have hsgx : ∀ y x s, back ls ls.length b ls2 y = some x → sg h1 y = some s → sg (gcH (back ls ls.length b ls2) h1 (pars ls.length ++ ls2) ++ h) x = some s ∧ jphi φ φ1 b ls2 x = φ1 y := by
    intro y x s hy hs
    obtain ⟨o, ho, hz⟩ := sg_some hs
    rw [sg_of (hget y x o hy ho), renO_sz, hz]
    exact ⟨rfl, hφg y x hy⟩
  -- a block of the callee's that may be written
  have hnot : ∀ x o, x ∉ ls → getO h x = some o → Live o → ¬ W (cphi φ ls) (gcH (rename 0 ls) h ls) (φ x) := by
    rintro x o hx ho hv hw
    obtain ⟨l, o2, q1, q2, q3, q4⟩ := c_W hw
    have := hp.inj l x o2 o q2 q3 ho hv q4
    subst this
    exact hx q1
  have hM : ∀ b', Mx M0 (jphi φ φ1 b ls2) (gcH (back ls ls.length b ls2) h1 (pars ls.length ++ ls2) ++ h) b' → Mx (cM0 M0 φ h ls) φ1 h1 b' := by
    rintro b' (e | ⟨x, o, q1, q2, q3⟩)
    · exact .inl (.inl e)
    · rcases hcase x o q1 with ⟨y, o1, p1, p2, rfl⟩ | ⟨p1, p2⟩
      · rw [renO_st] at q2
        exact .inr ⟨y, o1, p2, q2, by rw [← hφg y x p1, q3]⟩
      · rw [hold x o p2] at q3
        refine .inl (.inr ⟨⟨x, o, p2, q2, q3⟩, ?_⟩)
        rw [← q3]
        exact hnot x o p1 p2 (.inr q2)
  have hWW : ∀ b', b' < w.heap.size → W (jphi φ φ1 b ls2) (gcH (back ls ls.length b ls2) h1 (pars ls.length ++ ls2) ++ h) b' → W φ h b' := by
    rintro b' hb ⟨x, o, q1, q2, q3⟩
    rcases hcase x o q1 with ⟨y, o1, p1, p2, rfl⟩ | ⟨p1, p2⟩
    · rw [renO_st] at q2
      exact c_WW (n.mx b' hb ⟨y, o1, p2, q2, by rw [← hφg y x p1, q3]⟩)
    · rw [hold x o p2] at q3
      exact ⟨x, o, p2, q2, q3⟩
  have hup : ∀ l z, sg h l = some z → sg (gcH (back ls ls.length b ls2) h1 (pars ls.length ++ ls2) ++ h) l = some z ∧ jphi φ φ1 b ls2 l = φ l := by
    intro l z hz
    obtain ⟨o, ho, hoz⟩ := sg_some hz
    refine ⟨?_, hold l o ho⟩
    by_cases hl : l ∈ ls
    · obtain ⟨y, hy⟩ := List.getElem?_of_mem hl
      have hlt := (List.getElem?_eq_some_iff.1 hy).1
      have hbk : back ls ls.length b ls2 y = some l := by
        rw [back_lo _ _ _ _ _ (by simpa using hlt)]; exact hy
      have hs := (c_sg (φ := φ) (rename0_of hn hy) hz).1
      exact (hsgx y l z hbk (n.up y z hs).1).1
    · have : getO (gcH (back ls ls.length b ls2) h1 (pars ls.length ++ ls2)) l = none := by
        cases hq : getO (gcH (back ls ls.length b ls2) h1 (pars ls.length ++ ls2)) l with
        | none => rfl
        | some o2 =>
          exfalso
          obtain ⟨y, o1, _, q1, q2, q3⟩ := gcH_some hq
          rcases back_spec q1 with ⟨p1, p2⟩ | ⟨p1, p2, p3⟩
          · exact hl (List.mem_of_getElem? p2)
          · have hlt := (List.getElem?_eq_some_iff.1 p3).1
            rw [hnew l p2 (by omega)] at ho; cases ho
      unfold sg
      rw [getO_append, this]
      exact hz
  refine ⟨jphi φ φ1 b ls2, ⟨n.ext.mono (fun _ _ e => c_WW e), ⟨fun x o q1 q2 => ?_, fun x x' o o' q1 q2 q3 q4 q5 => ?_, fun x o q1 q2 => ?_, fun x o q1 q2 => ?_⟩, hup, hWW⟩, R_ren hM (fun y x s hy hs => hsgx y x s hy hs) hr⟩
  · rcases hcase x o q1 with ⟨y, o1, p1, p2, rfl⟩ | ⟨p1, p2⟩
    · rw [hφg y x p1]
      exact ObOk_ren hM (fun y x s hy hs => hsgx y x s hy hs) (n.hp.ob y o1 p2 (live_ren q2))
    · rw [hold x o p2]
      have hb := hp.ob x o p2 q2
      obtain ⟨c, hc, _⟩ := id hb
      exact hb.mono n.ext (n.ext.same _ (lt_of_heap hc) (hnot x o p1 p2 q2)) (fun b' _ e => .inr (c_WW e)) (fun b' hb' e => e.elim .inl (fun e => .inr (hWW b' hb' e))) hup
  · rcases hcase x o q1 with ⟨y, o1, p1, p2, rfl⟩ | ⟨p1, p2⟩
    · rw [renO_st] at q2
      rw [hφg y x p1] at q5
      rcases hcase x' o' q3 with ⟨y', o1', p1', p2', rfl⟩ | ⟨p1', p2'⟩
      · rw [hφg y' x' p1'] at q5
        have := n.hp.inj y y' o1 o1' p2 q2 p2' (live_ren q4) q5
        subst this
        rw [p1] at p1'; injection p1'
      · rw [hold x' o' p2'] at q5
        exact absurd (n.mx (φ x') (hp.lt x' o' p2' q4) ⟨y, o1, p2, q2, q5⟩) (hnot x' o' p1' p2' q4)
    · rw [hold x o p2] at q5
      rcases hcase x' o' q3 with ⟨y', o1', p1', p2', rfl⟩ | ⟨p1', p2'⟩
      · rw [hφg y' x' p1'] at q5
        exfalso
        have hm := n.hp.m0 y' o1' p2' (live_ren q4)
        rw [← q5] at hm
        exact hm (.inr ⟨⟨x, o, p2, q2, rfl⟩, hnot x o p1 p2 (.inr q2)⟩)
      · rw [hold x' o' p2'] at q5
        exact hp.inj x x' o o' p2 q2 p2' q4 q5
  · rcases hcase x o q1 with ⟨y, o1, p1, p2, rfl⟩ | ⟨p1, p2⟩
    · rw [hφg y x p1]
      exact fun e => n.hp.m0 y o1 p2 (live_ren q2) (.inl e)
    · rw [hold x o p2]; exact hp.m0 x o p2 q2
  · rcases hcase x o q1 with ⟨y, o1, p1, p2, rfl⟩ | ⟨p1, p2⟩
    · rw [hφg y x p1]; exact n.hp.lt y o1 p2 (live_ren q2)
    · rw [hold x o p2]; exact Nat.lt_of_lt_of_le (hp.lt x o p2 q2) n.ext.size

end
end Go.Proofs.Ytemcdpkiphmndaa.Ab
