/- Ab12: guarded operations, and regions in the text's order. -/
import Derived.Test.YtemcdpkiphmndaaAb11
import Derived.Tactics
set_option linter.unusedSimpArgs false
set_option linter.unusedVariables false
set_option linter.unusedSectionVars false
namespace Go.Proofs.Ytemcdpkiphmndaa.Ab

def okG (ops : Array Oper) (x y : Option (Nat × Bool)) : Bool :=
  match x, y with
  | none, none => true
  | some (j, b), some (g, b') => b == b' && (match ops[j]? with | some o => (match o.dst with | some t => t == g | none => false) | none => false)
  | _, _ => false
def okD? (N : Nat) (x y : Option Nat) : Bool :=
  match x, y with
  | none, none => true
  | some a, some b => a == b && decide (b < N)
  | _, _ => false
def okOp (τ : Nat → Option TI) (N : Nat) (ops : Array Oper) (o : Oper) (c : Co) : Bool :=
  okD? N o.dst c.d && (okG ops o.guard c.g && okCop τ o.op c.o)

section
variable {P : Program} {τ : Nat → Option TI} {T : Tm} (hτ : ∀ t i, τ t = some i → TIok P t i) (hT : TmOk P T)
variable {X : Ctx} {a : Act} {w : World} {s s' : St}

theorem upon_of_yld {o : Oper} {next : Act → World → Prop} {Q : Exit → Act → World → Prop} {post : Value → World → Prop} {r : Result Next} (h : Yld P r post) (hn : ∀ u w', post u w' → next (a.put o.dst u) w') : o.upon P a next Q r := by
  unfold Yld at h
  split at h
  · exact hn _ _ h
  · rw [Oper.upon_enter]
    exact h.mono (fun e w' ⟨u, h1, h2⟩ => by subst h1; exact hn _ _ h2)
  · exact h.elim

include hτ hT in
theorem stepO_sound (S : Sim X a w s) {o : Oper} {d : Option Nat} {c : Cop} (hd : okD? X.N o.dst d = true) (ho : okCop τ o.op c = true) (e : stepO τ T d c s = some s') (next : Act → World → Prop) (Q : Exit → Act → World → Prop)
    (hn : ∀ a' w', Sim X a' w' s' → next a' w') : o.wp P a w next Q := by
  obtain ⟨φ, S⟩ := S
  unfold Oper.wp
  cases d with
  | some d =>
    have hdst : o.dst = some d ∧ d < X.N := by
      cases hq : o.dst with
      | none => rw [hq] at hd; cases hd
      | some x =>
        rw [hq] at hd
        simp only [okD?, Bool.and_eq_true, beq_iff_eq, decide_eq_true_eq] at hd
        exact ⟨by rw [hd.1], hd.2⟩
    have e' : bO (stepV τ T s.t s.h d c) (fun p => some ⟨(d, p.1) :: s.t, p.2⟩) = some s' := by
      cases c <;> exact e
    obtain ⟨⟨v, h'⟩, e1, e2⟩ := bO_eq e'
    injection e2 with e2; subst e2
    refine upon_of_yld (stepV_sound hτ hT S ho e1) (fun u w' ⟨φ', n, r⟩ => hn _ _ ⟨φ', ?_⟩)
    rw [hdst.1]
    exact (S.heap n).put hdst.2 r
  | none =>
    have hdst : o.dst = none := by
      cases hq : o.dst with
      | none => rfl
      | some x => rw [hq] at hd; cases hd
    have store : ∀ ty x y h', (∃ t' ox oy, o.op = .store t' ox oy ∧ (t' == ty && (okA ox x && okA oy y)) = true) → vStore τ s.h ty (ev s.t x) (ev s.t y) = some h' → (∀ a' w', Sim X a' w' ⟨s.t, h'⟩ → next a' w') → o.upon P a next Q ((execOp a.eval o).run P w) := by
      rintro ty x y h' ⟨t', ox, oy, hop, ho⟩ e1 hn
      simp only [Bool.and_eq_true, beq_iff_eq] at ho
      obtain ⟨rfl, h1, h2⟩ := ho
      obtain ⟨w', r1, r2⟩ := vStore_run hτ S.hp (okA_run S h1) (okA_run S h2) e1
      have : (execOp a.eval o).run P w = .ok .skip w' := by simp [execOp, hop, r1]
      rw [this, Oper.upon_skip, hdst]
      exact hn _ _ ⟨φ, S.heap r2⟩
    cases c <;> try cases e
    · -- store
      rename_i ty x y
      simp only [stepO] at e
      obtain ⟨h', e1, e2⟩ := bO_eq e
      injection e2 with e2; subst e2
      exact store ty x y h' (by
        cases hop : o.op <;> rw [hop] at ho <;> simp only [okCop] at ho <;> try cases ho
        · exact ⟨_, _, _, rfl, ho⟩
        all_goals (simp only [okCall] at ho; split at ho <;> first | cases ho | (split at ho <;> cases ho))) e1 (fun a' w' q => hn a' w' q)
    · -- clear
      rename_i ty x
      simp only [stepO] at e
      obtain ⟨h', e1, e2⟩ := bO_eq e
      injection e2 with e2; subst e2
      have e3 : stepV τ T s.t s.h 0 (.clear ty x) = some (und, h') := by simp only [stepV]; rw [e1]; rfl
      refine upon_of_yld (stepV_sound hτ hT S ho e3) (fun u w' ⟨φ', n, r⟩ => hn _ _ ⟨φ', ?_⟩)
      rw [hdst]
      exact S.heap n
    · -- copy
      rename_i ty x y
      simp only [stepO] at e
      obtain ⟨⟨v, h'⟩, e1, e2⟩ := bO_eq e
      injection e2 with e2; subst e2
      have e3 : stepV τ T s.t s.h 0 (.copy ty x y) = some (v, h') := by simp only [stepV]; exact e1
      refine upon_of_yld (stepV_sound hτ hT S ho e3) (fun u w' ⟨φ', n, r⟩ => hn _ _ ⟨φ', ?_⟩)
      rw [hdst]
      exact S.heap n
    · -- a call, apart
      rename_i ex fr f xs
      simp only [stepO] at e
      obtain ⟨⟨v, h'⟩, e1, e2⟩ := bO_eq e
      injection e2 with e2; subst e2
      have e3 : stepV τ T s.t s.h 0 (.callF ex fr f xs) = some (v, h') := by simp only [stepV]; exact e1
      refine upon_of_yld (stepV_sound hτ hT S ho e3) (fun u w' ⟨φ', n, r⟩ => hn _ _ ⟨φ', ?_⟩)
      rw [hdst]
      exact S.heap n
    · -- a store, apart
      rename_i ty x y fr
      simp only [stepO] at e
      obtain ⟨h', e1, e2⟩ := bO_eq e
      injection e2 with e2; subst e2
      have e3 : vStore τ s.h ty (ev s.t x) (ev s.t y) = some h' := by
        cases hx : ev s.t x with
        | ptr l i j => rw [hx] at e1; exact (gd_eq e1).2
        | _ => rw [hx] at e1; cases e1
      exact store ty x y h' (by
        cases hop : o.op <;> rw [hop] at ho <;> simp only [okCop] at ho <;> try cases ho
        · exact ⟨_, _, _, rfl, ho⟩
        all_goals (simp only [okCall] at ho; split at ho <;> first | cases ho | (split at ho <;> cases ho))) e3 (fun a' w' q => hn a' w' q)
    · rename_i f xs
      simp only [stepO] at e
      obtain ⟨⟨v, h'⟩, e1, e2⟩ := bO_eq e
      injection e2 with e2; subst e2
      cases hop : o.op <;> rw [hop] at ho <;> simp only [okCop] at ho <;> try cases ho
      rename_i k
      simp only [okCall] at ho
      split at ho
      · rename_i f' hk
        simp only [Bool.and_eq_true] at ho
        refine upon_of_yld (vCall_run hT S hk ho.1 ho.2 e1 hop) (fun u w' ⟨φ', n, r⟩ => hn _ _ ⟨φ', ?_⟩)
        rw [hdst]
        exact S.heap n
      · split at ho <;> cases ho
      · cases ho
    · rename_i f xs
      simp only [stepO] at e
      obtain ⟨⟨v, h'⟩, e1, e2⟩ := bO_eq e
      injection e2 with e2; subst e2
      cases hop : o.op <;> rw [hop] at ho <;> simp only [okCop] at ho <;> try cases ho
      rename_i k
      simp only [okCall] at ho
      split at ho
      · rename_i f' hk
        simp only [Bool.and_eq_true] at ho
        refine upon_of_yld (vCallH_run hT S hk ho.1 ho.2 e1 hop) (fun u w' ⟨φ', n, r⟩ => hn _ _ ⟨φ', ?_⟩)
        rw [hdst]
        exact S.heap n
      · split at ho <;> cases ho
      · cases ho

    · -- a map
      rename_i ty m k x
      simp only [stepO] at e
      obtain ⟨h', e1, e2⟩ := bO_eq e
      injection e2 with e2; subst e2
      have key : ∀ om ok ox, okA om m = true → okA ok k = true → okA ox x = true → (execOp a.eval o = (do (do Instr.mapUpdate ty (a.eval om) (a.eval ok) (a.eval ox)); pure .skip)) → o.upon P a next Q ((execOp a.eval o).run P w) := by
        intro om ok ox q1 q2 q3 q4
        obtain ⟨w', r1, r2⟩ := vMapUpd_run hτ S.hp (okA_run S q1) (okA_run S q2) (okA_run S q3) e1
        rw [q4]
        simp only [Sem.run_bind, r1, Result.andThen_ok, Sem.run_pure]
        rw [Oper.upon_skip, hdst]
        exact hn _ _ ⟨φ, S.heap r2⟩
      cases hop : o.op <;> rw [hop] at ho <;> simp only [okCop] at ho <;> try cases ho
      · rename_i t' om ok ox
        simp only [Bool.and_eq_true, beq_iff_eq] at ho
        obtain ⟨rfl, h1, h2, h3⟩ := ho
        exact key om ok ox h1 h2 h3 (by simp only [execOp, hop])
      · rename_i t' om ok ox
        simp only [Bool.and_eq_true, beq_iff_eq] at ho
        obtain ⟨rfl, h1, h2, h3⟩ := ho
        exact key om ok ox h1 h2 h3 (by simp only [execOp, hop])
      all_goals (simp only [okCall] at ho; split at ho <;> first | cases ho | (split at ho <;> cases ho))
    · -- delete
      rename_i ty m k
      simp only [stepO] at e
      obtain ⟨h', e1, e2⟩ := bO_eq e
      injection e2 with e2; subst e2
      have e3 : stepV τ T s.t s.h 0 (.delete ty m k) = some (und, h') := by simp only [stepV]; rw [e1]; rfl
      refine upon_of_yld (stepV_sound hτ hT S ho e3) (fun u w' ⟨φ', n, r⟩ => hn _ _ ⟨φ', ?_⟩)
      rw [hdst]
      exact S.heap n

/-- The machine's own view of one operation in a region. -/
def opG (P : Program) (ops : Array Oper) (o : Oper) (a : Act) (w : World) (next : Act → World → Prop) (Q : Exit → Act → World → Prop) : Prop :=
  if Region.wanted o (yielded ops a.tmps) then o.wp P a w next Q ∨ (o.asks P a w ∧ LetsOut Q) else next (a.put o.dst undef) w

theorem Sim.skip (S : Sim X a w s) {d : Option Nat} {d' : Option Nat} (hd : okD? X.N d d' = true) : Sim X (a.put d undef) w (skipS d' s) := by
  obtain ⟨φ, S⟩ := S
  cases d with
  | none =>
    cases d' with
    | none => exact ⟨φ, S⟩
    | some _ => cases hd
  | some d =>
    cases d' with
    | none => cases hd
    | some d' =>
      simp only [okD?, Bool.and_eq_true, beq_iff_eq, decide_eq_true_eq] at hd
      obtain ⟨rfl, hd⟩ := hd
      exact ⟨φ, S.put hd (.tup [] #[] rfl (by simp))⟩

include hτ hT in
theorem stepG_sound (S : Sim X a w s) {ops : Array Oper} {o : Oper} {c : Co} (ho : okOp τ X.N ops o c = true) (e : stepG τ T c s = some s') (next : Act → World → Prop) (Q : Exit → Act → World → Prop)
    (hn : ∀ a' w', Sim X a' w' s' → next a' w') : opG P ops o a w next Q := by
  simp only [okOp, Bool.and_eq_true] at ho
  obtain ⟨h1, h2, h3⟩ := ho
  unfold opG
  cases hg : c.g with
  | none =>
    rw [hg] at h2
    have hg' : o.guard = none := by
      cases hq : o.guard with
      | none => rfl
      | some x => rw [hq] at h2; obtain ⟨j, b⟩ := x; cases h2
    have : Region.wanted o (yielded ops a.tmps) = true := by simp [Region.wanted, hg']
    rw [if_pos this]
    simp only [stepG, hg] at e
    exact .inl (stepO_sound hτ hT S h1 h3 e next Q hn)
  | some gw =>
    obtain ⟨g, b⟩ := gw
    rw [hg] at h2
    cases hq : o.guard with
    | none => rw [hq] at h2; cases h2
    | some x =>
      obtain ⟨j, b'⟩ := x
      rw [hq] at h2
      simp only [okG, Bool.and_eq_true, beq_iff_eq] at h2
      obtain ⟨rfl, h2⟩ := h2
      have hj : (ops[j]?).bind (·.dst) = some g := by
        split at h2
        · rename_i oj hoj
          split at h2
          · rename_i t ht; simp at h2; subst h2; simp [hoj, ht]
          · cases h2
        · cases h2
      simp only [stepG, hg] at e
      have hB : ∀ x, isB b' (get s.t g) = .bool x → (get s.t g = .bool (x == b')) ∨ (get s.t g = .tup [] ∧ x = false) := by
        intro x hx
        cases hq2 : get s.t g with
        | bool y => rw [hq2] at hx; injection hx with hx; subst hx; left; cases y <;> cases b' <;> rfl
        | tup vs =>
          cases vs with
          | nil => rw [hq2] at hx; injection hx with hx; exact .inr ⟨rfl, hx.symm⟩
          | cons _ _ => rw [hq2] at hx; cases hx
        | _ => rw [hq2] at hx; cases hx
      have hw : ∀ x, isB b' (get s.t g) = .bool x → Region.wanted o (yielded ops a.tmps) = x := by
        intro x hx
        obtain ⟨φ, S'⟩ := S
        have ht := S'.tm g
        rcases hB x hx with hb | ⟨hb, rfl⟩
        · rw [hb] at ht
          have hv := ht.bool_inv
          have hx' : a.tmps[g]? = some (.bool (x == b')) := by
            rw [Array.getD_eq_getD_getElem?] at hv
            cases hq2 : a.tmps[g]? with
            | none => rw [hq2] at hv; simp [undef] at hv
            | some y => rw [hq2] at hv; simpa using hv
          have hy : yielded ops a.tmps j = some (x == b') := by simp [yielded, hj, hx']
          simp only [Region.wanted, hq, hy]
          cases x <;> cases b' <;> rfl
        · rw [hb] at ht
          obtain ⟨us, hv, hl, _⟩ := tup_inv ht
          have hy : yielded ops a.tmps j = none := by
            unfold yielded
            rw [hj]
            rw [Array.getD_eq_getD_getElem?] at hv
            cases hq2 : a.tmps[g]? with
            | none => simp [hq2]
            | some y => rw [hq2] at hv; simp at hv; subst hv; simp [hq2]
          simp only [Region.wanted, hq, hy]
          cases b' <;> rfl
      split at e
      · rename_i hx
        rw [hw true hx, if_pos rfl]
        exact .inl (stepO_sound hτ hT S h1 h3 e next Q hn)
      · rename_i hx
        rw [hw false hx, if_neg (by simp)]
        apply hn
        injection e with e
        rw [← e]
        exact S.skip h1
      · cases e

def okText (τ : Nat → Option TI) (N : Nat) (ops : Array Oper) : List Oper → List Co → Bool
  | [], [] => true
  | o :: os, c :: cs => okOp τ N ops o c && okText τ N ops os cs
  | _, _ => false

include hτ hT in
theorem text_sound {ops : Array Oper} {Q : Exit → Act → World → Prop} : ∀ (os : List Oper) (cs : List Co) (a : Act) (w : World) (s : St), okText τ X.N ops os cs = true → Sim X a w s → runO τ T cs s = some s' → (∀ a' w', Sim X a' w' s' → Q .normal a' w') → wpList P ops Q os a w
  | [], [], a, w, s, _, S, e, hq => by cases e; exact hq _ _ S
  | [], _ :: _, _, _, _, h, _, _, _ => by cases h
  | _ :: _, [], _, _, _, h, _, _, _ => by cases h
  | o :: os, c :: cs, a, w, s, h, S, e, hq => by
    simp only [okText, Bool.and_eq_true] at h
    simp only [runO] at e
    cases h1 : stepG τ T c s with
    | none => rw [h1] at e; cases e
    | some s1 =>
      rw [h1] at e
      exact stepG_sound hτ hT S h.1 h1 (wpList P ops Q os) Q (fun a' w' S' => text_sound os cs a' w' s1 h.2 S' e hq)

include hτ hT in
theorem region_text {ops : Array Oper} {cs : List Co} {id : Nat} {Q : Exit → Act → World → Prop} (h : okText τ X.N ops ops.toList cs = true) (S : Sim X a w s) (e : runO τ T cs s = some s') (hq : ∀ a' w', Sim X a' w' s' → Q .normal a' w') : (Code.region id ops false).wp P Q a w := by
  apply wp_region
  rw [List.range_eq_range', show ops.size = ops.toList.length from by simp, wpOps_eq_wpList ops.toList 0 (by simp)]
  exact text_sound hτ hT _ _ _ _ _ h S e hq

end
end Go.Proofs.Ytemcdpkiphmndaa.Ab
