/- Ab15: a run of the abstract interpreter is a run of the machine; functions. -/
import Derived.Test.YtemcdpkiphmndaaAb14
import Derived.Below
set_option linter.unusedSimpArgs false
set_option linter.unusedVariables false
set_option linter.unusedSectionVars false
namespace Go.Proofs.Ytemcdpkiphmndaa.Ab

/-- A path that is left out: it matches any code, and nothing runs there. -/
def isStuck : C → Bool
  | .stuck => true
  | _ => false
def okCode (τ : Nat → Option TI) (N : Nat) : Code → C → Bool
  | .skip, c => (match c with | .skip => true | c => isStuck c)
  | .label _, c => (match c with | .skip => true | c => isStuck c)
  | .region _ ops draw, c => (match c with | .reg p cs => (match draw with | true => okDraw τ N ops p cs | false => okText τ N ops ops.toList cs) | c => isStuck c)
  | .seq x y, c => (match c with | .seq a b => okCode τ N x a && okCode τ N y b | c => isStuck c)
  | .cond o x y, c => (match c with | .cond o' a b => okA o o' && (okCode τ N x a && okCode τ N y b) | c => isStuck c)
  | .block i x, c => (match c with | .block j a => i == j && okCode τ N x a | c => isStuck c)
  | .loop x, c => (match c with | .loop _ a => okCode τ N x a | c => isStuck c)
  | .exit i, c => (match c with | .exit j => i == j | c => isStuck c)
  | .ret, c => (match c with | .ret => true | c => isStuck c)
  | _, c => isStuck c

inductive OkK (τ : Nat → Option TI) (N : Nat) : List Item → List It → Prop where
  | nil : OkK τ N [] []
  | c {x c its K} : okCode τ N x c = true → OkK τ N its K → OkK τ N (.code x :: its) (.c c :: K)
  | bk {i its K} : OkK τ N its K → OkK τ N (.inBlock i :: its) (.bk i :: K)
  | lp {x c l its K} : okCode τ N x c = true → OkK τ N its K → OkK τ N (.inLoop x :: its) (.lp l c :: K)

section
variable {P : Program} {τ : Nat → Option TI} {T : Tm} (hτ : ∀ t i, τ t = some i → TIok P t i) (hT : TmOk P T) (hmix : P.follows .mixedOrders = true)
variable {X : Ctx} {m : Nat} (hm : ∀ l z, X.σ0 l = some z → l < m) {Q : St → Prop}

/-- From these items the machine ends well. -/
def Good (P : Program) (X : Ctx) (Q : St → Prop) (its : List Item) (s : St) : Prop :=
  ∀ a w, Sim X a w s → ∀ (b : Frame) (k : List Item) (cs : List Frame), ∃ e a' w' s', (e = .normal ∨ e = .ret) ∧ Sim X a' w' s' ∧ Q s' ∧ Arrives P (lone (b.at a (its ++ k)) cs w) b k cs e a' w'

def ExitGood (P : Program) (X : Ctx) (Q : St → Prop) (i : Nat) (its : List Item) (s : St) : Prop :=
  ∃ its2, (∀ k, exitTo i (its ++ k) = some (its2 ++ k)) ∧ Good P X Q its2 s

theorem Good.step {its its' : List Item} {s s' : St} (h : Good P X Q its' s') (hs : ∀ a w, Sim X a w s → Sim X a w s') (hst : ∀ (b : Frame) (a : Act) (k : List Item) (cs : List Frame) (w : World), step P (lone (b.at a (its ++ k)) cs w) = .next (lone (b.at a (its' ++ k)) cs w)) : Good P X Q its s := by
  intro a w S b k cs
  obtain ⟨e, a', w', s2, h1, h2, h3, h4⟩ := h a w (hs a w S) b k cs
  exact ⟨e, a', w', s2, h1, h2, h3, .of_steps (.one (hst b a k cs w)) h4⟩

theorem ExitGood.good {i : Nat} {its : List Item} {s : St} (h : ExitGood P X Q i its s) : Good P X Q (.code (.exit i) :: its) s := by
  obtain ⟨its2, h1, h2⟩ := h
  exact h2.step (fun _ _ S => S) (fun b a k cs w => step_exit (h1 k))

theorem okCode_exit {N x i} (h : okCode τ N x (.exit i) = true) : x = .exit i := by
  cases x <;> simp only [okCode] at h <;> try cases h
  simp at h; rw [h]

theorem okA_bool {a w s} (S : Sim X a w s) {x : Operand} {y : A} (h : okA x y = true) {b : Bool} (e : ev s.t y = .bool b) : a.eval x = .bool b := by
  obtain ⟨φ, S⟩ := S
  have := okA_run S h
  rw [e] at this
  exact this.bool_inv

include hτ hT hmix hm in
theorem Go_sound {K : List It} {s : St} (G : Go τ T m Q K s) : ∀ its, OkK τ X.N its K → Good P X Q its s ∧ (∀ i K', K = .c (.exit i) :: K' → ∀ its', OkK τ X.N its' K' → ExitGood P X Q i its' s) ∧ (∀ l c K', K = .lp l c :: K' → ∀ x its', okCode τ X.N x c = true → OkK τ X.N its' K' → Good P X Q (.code x :: .inLoop x :: its') s) := by
  have exits : ∀ {i : Nat} {K' : List It} {s : St}, (∀ its', OkK τ X.N its' K' → ExitGood P X Q i its' s) → ∀ its, OkK τ X.N its (.c (.exit i) :: K') → Good P X Q its s ∧ (∀ i' K2, It.c (.exit i) :: K' = .c (.exit i') :: K2 → ∀ its', OkK τ X.N its' K2 → ExitGood P X Q i' its' s) ∧ (∀ l c K2, It.c (.exit i) :: K' = .lp l c :: K2 → ∀ x its', okCode τ X.N x c = true → OkK τ X.N its' K2 → Good P X Q (.code x :: .inLoop x :: its') s) := by
    intro i K' s h its hk
    refine ⟨?_, fun i' K2 e its' hk' => ?_, fun l c K2 e => by cases e⟩
    · cases hk with
      | c h1 h2 =>
        have := okCode_exit h1
        subst this
        exact (h _ h2).good
    · injection e with e1 e2; injection e1 with e1; injection e1 with e1; subst e1; subst e2
      exact h its' hk'
  induction G with
  | nil s hq =>
    intro its hk
    cases hk
    refine ⟨fun a w S b k cs => ⟨.normal, a, w, s, .inl rfl, S, hq, Steps.refl _ _⟩, fun _ _ e => (by cases e), fun _ _ _ e => by cases e⟩
  | ret K s hq =>
    intro its hk
    cases hk with
    | c h1 h2 =>
      refine ⟨fun a w S b k cs => ?_, fun _ _ e => (by cases e), fun _ _ _ e => by cases e⟩
      rename_i x its
      cases x <;> simp only [okCode] at h1 <;> try cases h1
      exact ⟨.ret, a, w, s, .inr rfl, S, hq, _, .one step_ret⟩
  | skip K s _ ih =>
    intro its hk
    cases hk with
    | c h1 h2 =>
      refine ⟨?_, fun _ _ e => (by cases e), fun _ _ _ e => by cases e⟩
      rename_i x its
      cases x <;> simp only [okCode] at h1 <;> try cases h1
      · exact (ih its h2).1.step (fun _ _ S => S) (fun b a k cs w => step_skip)
      · exact (ih its h2).1.step (fun _ _ S => S) (fun b a k cs w => step_label)
  | reg K s s' p ops hr _ ih =>
    intro its hk
    cases hk with
    | c h1 h2 =>
      refine ⟨?_, fun _ _ e => (by cases e), fun _ _ _ e => by cases e⟩
      rename_i x its
      cases x <;> simp only [okCode] at h1 <;> try cases h1
      rename_i id ops' draw
      intro a w S b k cs
      have hwp : (Code.region id ops' draw).wp P (fun e a' w' => e = .normal ∧ Sim X a' w' s') a w := by
        cases draw with
        | true => exact region_any hτ hT hmix h1 S hr (fun a' w' S' => ⟨rfl, S'⟩)
        | false => exact region_text hτ hT h1 S hr (fun a' w' S' => ⟨rfl, S'⟩)
      obtain ⟨e, a1, w1, ⟨rfl, S1⟩, har⟩ := hwp b (its ++ k) cs
      obtain ⟨e2, a2, w2, s2, q1, q2, q3, q4⟩ := (ih its h2).1 a1 w1 S1 b k cs
      exact ⟨e2, a2, w2, s2, q1, q2, q3, .of_steps har q4⟩
  | seq K s c d _ ih =>
    intro its hk
    cases hk with
    | c h1 h2 =>
      refine ⟨?_, fun _ _ e => (by cases e), fun _ _ _ e => by cases e⟩
      rename_i x its
      cases x <;> simp only [okCode] at h1 <;> try cases h1
      simp only [Bool.and_eq_true] at h1
      exact (ih _ (.c h1.1 (.c h1.2 h2))).1.step (fun _ _ S => S) (fun b a k cs w => step_seq)
  | cond K s o c d x hx _ ih =>
    intro its hk
    cases hk with
    | c h1 h2 =>
      refine ⟨?_, fun _ _ e => (by cases e), fun _ _ _ e => by cases e⟩
      rename_i y its
      cases y <;> simp only [okCode] at h1 <;> try cases h1
      rename_i o' c' d'
      simp only [Bool.and_eq_true] at h1
      intro a w S b k cs
      have hv := okA_bool S h1.1 hx
      have hk : OkK τ X.N (.code (if x then c' else d') :: its) (.c (if x then c else d) :: K) := by
        cases x
        · exact .c h1.2.2 h2
        · exact .c h1.2.1 h2
      obtain ⟨e2, a2, w2, s2, q1, q2, q3, q4⟩ := (ih _ hk).1 a w S b k cs
      exact ⟨e2, a2, w2, s2, q1, q2, q3, .of_steps (.one (step_cond hv)) q4⟩
  | block K s i c _ ih =>
    intro its hk
    cases hk with
    | c h1 h2 =>
      refine ⟨?_, fun _ _ e => (by cases e), fun _ _ _ e => by cases e⟩
      rename_i y its
      cases y <;> simp only [okCode] at h1 <;> try cases h1
      simp only [Bool.and_eq_true, beq_iff_eq] at h1
      obtain ⟨rfl, h1⟩ := h1
      exact (ih _ (.c h1 (.bk h2))).1.step (fun _ _ S => S) (fun b a k cs w => step_block)
  | bk K s i _ ih =>
    intro its hk
    cases hk with
    | bk h2 =>
      refine ⟨?_, fun _ _ e => (by cases e), fun _ _ _ e => by cases e⟩
      exact (ih _ h2).1.step (fun _ _ S => S) (fun b a k cs w => step_inBlock)
  | loop K s l c _ ih =>
    intro its hk
    cases hk with
    | c h1 h2 =>
      refine ⟨?_, fun _ _ e => (by cases e), fun _ _ _ e => by cases e⟩
      rename_i y its
      cases y <;> simp only [okCode] at h1 <;> try cases h1
      rename_i y
      exact ((ih _ (OkK.lp (x := y) h1 h2)).2.2 l c K rfl y its h1 h2).step (fun _ _ S => S) (fun b a k cs w => step_loop)
  | lp K s l c _ ih =>
    intro its hk
    have key : ∀ x its', okCode τ X.N x c = true → OkK τ X.N its' K → Good P X Q (.code x :: .inLoop x :: its') s := by
      intro x its' h1 h2 a w S b k cs
      exact (ih _ (.c h1 (.lp h1 h2))).1 a w (S.gc hm l) b k cs
    cases hk with
    | lp h1 h2 =>
      refine ⟨(key _ _ h1 h2).step (fun _ _ S => S) (fun b a k cs w => step_inLoop), fun _ _ e => (by cases e), fun l' c' K' e x its' h3 h4 => ?_⟩
      injection e with e1 e2; injection e1 with e3 e4; subst e3; subst e4; subst e2
      exact key x its' h3 h4
  | exC K s i c _ ih =>
    intro its hk
    refine exits (K' := .c c :: K) (fun its' hk' => ?_) its hk
    cases hk' with
    | c h1 h2 =>
      have hk2 : OkK τ X.N (.code (.exit i) :: _) (.c (.exit i) :: K) := .c (by simp [okCode]) h2
      obtain ⟨its2, q1, q2⟩ := (ih _ hk2).2.1 i K rfl _ h2
      exact ⟨its2, fun k => by simpa [exitTo] using q1 k, q2⟩
  | exB K s i _ ih =>
    intro its hk
    refine exits (K' := .bk i :: K) (fun its' hk' => ?_) its hk
    cases hk' with
    | bk h2 => exact ⟨_, fun k => by simp [exitTo], (ih _ h2).1⟩
  | exBn K s i j hne _ ih =>
    intro its hk
    refine exits (K' := .bk j :: K) (fun its' hk' => ?_) its hk
    cases hk' with
    | bk h2 =>
      have hk2 : OkK τ X.N (.code (.exit i) :: _) (.c (.exit i) :: K) := .c (by simp [okCode]) h2
      obtain ⟨its2, q1, q2⟩ := (ih _ hk2).2.1 i K rfl _ h2
      have hji : (j == i) = false := by simp; exact fun h => hne h.symm
      exact ⟨its2, fun k => by simpa [exitTo, hji] using q1 k, q2⟩
  | exL K s i l c _ ih =>
    intro its hk
    refine exits (K' := .lp l c :: K) (fun its' hk' => ?_) its hk
    cases hk' with
    | lp h1 h2 =>
      have hk2 : OkK τ X.N (.code (.exit i) :: _) (.c (.exit i) :: K) := .c (by simp [okCode]) h2
      obtain ⟨its2, q1, q2⟩ := (ih _ hk2).2.1 i K rfl _ h2
      exact ⟨its2, fun k => by simpa [exitTo] using q1 k, q2⟩

end

/-! ### functions -/
def parT : Nat → List D → List (Nat × D)
  | _, [] => []
  | n, d :: ds => (n, d) :: parT (n + 1) ds
theorem parT_get : ∀ (ds : List D) (n k : Nat), get (parT n ds) k = if n ≤ k then (ds[k - n]?).getD .any else .any
  | [], n, k => by simp [parT, get]
  | d :: ds, n, k => by
    rw [parT]
    by_cases e : n = k
    · subst e; rw [get_hit, if_pos (Nat.le_refl _)]; simp
    · rw [get_miss _ _ _ _ (by simpa using e), parT_get ds (n + 1) k]
      by_cases h : n ≤ k
      · rw [if_pos h, if_pos (by omega), show k - n = (k - (n + 1)) + 1 from by omega]; simp
      · rw [if_neg h, if_neg (by omega)]

inductive RV where
  | t (n : Nat)
  | c (a ty : Nat)
def okRes : List ResultVar → List RV → Bool
  | [], [] => true
  | r :: rs, n :: ns => (match r with | .tmp t => (match n with | .t n => t == n | _ => false) | .cell a t => (match n with | .c a' t' => a == a' && t == t' | _ => false)) && okRes rs ns
  | _, _ => false
def rvs (τ : Nat → Option TI) (s : St) : List RV → Option (List D)
  | [] => some []
  | .t n :: l => bO (rvs τ s l) fun ds => some (get s.t n :: ds)
  | .c a ty :: l => bO (vLoad τ s.h ty (get s.t a)) fun d => bO (rvs τ s l) fun ds => some (d :: ds)
theorem rvs_nil (τ s) : rvs τ s [] = some [] := rfl
theorem rvs_t (τ t h n l) : rvs τ ⟨t, h⟩ (.t n :: l) = bO (rvs τ ⟨t, h⟩ l) fun ds => some (get t n :: ds) := rfl
theorem rvs_c (τ t h a ty l) : rvs τ ⟨t, h⟩ (.c a ty :: l) = bO (vLoad τ h ty (get t a)) fun d => bO (rvs τ ⟨t, h⟩ l) fun ds => some (d :: ds) := rfl
def oneD : List D → D
  | [d] => d
  | ds => .tup ds
theorem oneD_one (d) : oneD [d] = d := rfl
theorem oneD_nil : oneD [] = .tup [] := rfl
theorem oneD_two (a b l) : oneD (a :: b :: l) = .tup (a :: b :: l) := rfl
def oneV : List Value → Value
  | [v] => v
  | vs => .tuple vs.toArray
def lowO (h : List (Nat × Ob)) : List D → Option D
  | [d] => bO (lowD h d) fun p => some p.1
  | ds => bO (lowDs h ds) fun p => some (.tup p.1)
theorem lowO_one (h d) : lowO h [d] = bO (lowD h d) fun p => some p.1 := rfl
theorem lowO_nil (h) : lowO h [] = some (.tup []) := rfl
theorem lowO_two (h a b l) : lowO h (a :: b :: l) = bO (lowDs h (a :: b :: l)) fun p => some (.tup p.1) := rfl
/-- What a function hands back, as it reads. -/
def outV (τ : Nat → Option TI) (rs : List RV) (s : St) : Option D := bO (rvs τ s rs) fun ds => lowO s.h ds
theorem outV_def (τ rs t h) : outV τ rs ⟨t, h⟩ = bO (rvs τ ⟨t, h⟩ rs) fun ds => lowO h ds := rfl
/-- What a function hands back, and the objects behind it. -/
def outH (τ : Nat → Option TI) (rs : List RV) (s : St) : Option VH := bO (rvs τ s rs) fun ds => some (oneD ds, s.h)
theorem outH_def (τ rs t h) : outH τ rs ⟨t, h⟩ = bO (rvs τ ⟨t, h⟩ rs) fun ds => some (oneD ds, h) := rfl
/-- Tidied: what was handed over, and what the answer leads to, under new names. -/
def normL (k : Nat) (d : D) (h : List (Nat × Ob)) (ls : List Nat) : VH := (ren (rename k ls) d, gcH (rename k ls) h (pars k ++ ls))
def norm (k : Nat) (d : D) (h : List (Nat × Ob)) : VH := normL k d h (roots h k [d])
theorem normL_def (k d h ls) : normL k d h ls = (ren (rename k ls) d, gcH (rename k ls) h (pars k ++ ls)) := rfl
theorem norm_def (k d h) : norm k d h = normL k d h (roots h k [d]) := rfl
def outN (τ : Nat → Option TI) (rs : List RV) (k : Nat) (s : St) : Option VH := bO (rvs τ s rs) fun ds => some (norm k (oneD ds) s.h)
theorem outN_def (τ rs k t h) : outN τ rs k ⟨t, h⟩ = bO (rvs τ ⟨t, h⟩ rs) fun ds => some (norm k (oneD ds) h) := rfl

section
variable {P : Program} {τ : Nat → Option TI} {T : Tm} (hτ : ∀ t i, τ t = some i → TIok P t i) (hT : TmOk P T) (hmix : P.follows .mixedOrders = true)

include hτ in
theorem res_mapM {X : Ctx} {φ : Nat → Nat} {a : Act} {w : World} {s : St} (S : SimW X φ a w s) (f : ResultVar → Sem Value) (hf1 : ∀ t, f (.tmp t) = pure (a.tmps.getD t undef)) (hf2 : ∀ b t, f (.cell b t) = do loadVar t (← asAddr (a.tmps.getD b undef))) :
    ∀ (l : List ResultVar) (rs : List RV) (ds : List D), okRes l rs = true → rvs τ s rs = some ds → ∃ vs, (l.mapM f).run P w = .ok vs w ∧ vs.length = ds.length ∧ ∀ (j : Nat) (d : D) (v : Value), ds[j]? = some d → vs[j]? = some v → R w (Mx X.M0 φ s.h) φ (sg s.h) d v
  | [], [], ds, _, e => by cases e; exact ⟨[], by simp, rfl, by simp⟩
  | [], _ :: _, _, h, _ => by cases h
  | _ :: _, [], _, h, _ => by cases h
  | r :: l, n :: rs, ds, h, e => by
    simp only [okRes, Bool.and_eq_true] at h
    obtain ⟨h1, h2⟩ := h
    cases r with
    | tmp t =>
      cases n with
      | c _ _ => cases h1
      | t n =>
        have : t = n := by simpa using h1
        subst this
        obtain ⟨ds', e1, e2⟩ := bO_eq e
        injection e2 with e2; subst e2
        obtain ⟨vs, r1, r2, r3⟩ := res_mapM S f hf1 hf2 l rs ds' h2 e1
        refine ⟨a.tmps.getD t undef :: vs, by rw [List.mapM_cons, hf1]; simp only [Sem.run_bind, Sem.run_pure, Result.andThen_ok, r1], by simp [r2], fun j d v q1 q2 => ?_⟩
        cases j with
        | zero =>
          simp only [List.getElem?_cons_zero] at q1 q2
          injection q1 with q1; injection q2 with q2; subst q1; subst q2
          exact S.tm t
        | succ j => exact r3 j d v (by simpa using q1) (by simpa using q2)
    | cell b t =>
      cases n with
      | t _ => cases h1
      | c b' t' =>
        simp only [Bool.and_eq_true, beq_iff_eq] at h1
        obtain ⟨rfl, rfl⟩ := h1
        obtain ⟨d0, e0, e⟩ := bO_eq e
        obtain ⟨ds', e1, e2⟩ := bO_eq e
        injection e2 with e2; subst e2
        obtain ⟨vs, r1, r2, r3⟩ := res_mapM S f hf1 hf2 l rs ds' h2 e1
        obtain ⟨u, g1, g2⟩ := vLoad_run hτ S.hp (S.tm b) e0
        have hl : (do loadVar t (← asAddr (a.tmps.getD b undef)) : Sem Value).run P w = .ok u w := by
          have := S.tm b
          revert g1 this
          cases hb : get s.t b with
          | ptr l0 i0 j0 =>
            intro g1 this
            obtain ⟨s0, _, hv⟩ := ptr_inv this
            rw [hv] at g1 ⊢
            simpa [Instr.loadAt, Instr.sureAddr, asAddr] using g1
          | rop cs0 =>
            intro g1 this
            obtain ⟨b0, o0, hv⟩ := rop_inv this
            rw [hv] at g1 ⊢
            simpa [Instr.loadAt, Instr.sureAddr, asAddr] using g1
          | _ => rw [hb] at e0; cases e0
        refine ⟨u :: vs, by rw [List.mapM_cons, hf2]; simp only [Sem.run_bind] at hl ⊢; rw [hl]; simp only [Result.andThen_ok, r1, Sem.run_pure, Sem.run_bind], by simp [r2], fun j d v q1 q2 => ?_⟩
        cases j with
        | zero =>
          simp only [List.getElem?_cons_zero] at q1 q2
          injection q1 with q1; injection q2 with q2; subst q1; subst q2
          exact g2
        | succ j => exact r3 j d v (by simpa using q1) (by simpa using q2)

include hτ in
theorem results_run {X : Ctx} {φ : Nat → Nat} {a : Act} {w : World} {s : St} (S : SimW X φ a w s) {fn : Func} {rs : List RV} {ds : List D} (h : okRes fn.results.toList rs = true) (e : rvs τ s rs = some ds) :
    ∃ vs, (results fn a.tmps).run P w = .ok (oneV vs) w ∧ vs.length = ds.length ∧ ∀ (j : Nat) (d : D) (v : Value), ds[j]? = some d → vs[j]? = some v → R w (Mx X.M0 φ s.h) φ (sg s.h) d v := by
  unfold results
  rw [Array.mapM_eq_mapM_toList]
  simp only [Sem.run_bind, Sem.run_map]
  obtain ⟨vs, h1, h2, h3⟩ := res_mapM hτ S (fun | .tmp t => pure (a.tmps.getD t undef) | .cell b t => do loadVar t (← asAddr (a.tmps.getD b undef))) (fun _ => rfl) (fun _ _ => rfl) fn.results.toList rs ds h e
  refine ⟨vs, ?_, h2, h3⟩
  have : ∀ (g : ResultVar → Sem Value), (∀ r, g r = (match r with | .tmp t => pure (a.tmps.getD t undef) | .cell b t => do loadVar t (← asAddr (a.tmps.getD b undef)))) → (fn.results.toList.mapM g).run P w = .ok vs w := by
    intro g hg
    have : g = (fun | .tmp t => pure (a.tmps.getD t undef) | .cell b t => do loadVar t (← asAddr (a.tmps.getD b undef))) := funext hg
    rw [this]; exact h1
  rw [this _ (fun r => by cases r <;> rfl)]
  simp only [Result.andThen_ok, Sem.run_pure]
  match vs with
  | [] => rfl
  | [v] => rfl
  | v :: v' :: vs => simp [oneV]

/-- A function's text, matched. -/
structure FnOk (P : Program) (τ : Nat → Option TI) (f : Nat) (c : C) (rs : List RV) (np : Nat) : Prop where
  ex : ∃ fn code, P.funcs[f]? = some fn ∧ fn.body = some code ∧ (fn.name == "runtime.NumGoroutine") = false ∧ okCode τ fn.ntmps code c = true ∧ okRes fn.results.toList rs = true ∧ np ≤ fn.ntmps

include hτ hT hmix in
theorem fn_run {f : Nat} {c : C} {rs : List RV} {np : Nat} (hf : FnOk P τ f c rs np) {ds : List D} (hl : ds.length = np) {h0 : List (Nat × Ob)} {k : Nat} {Q : St → Prop} (G : Go τ T k Q [.c c] ⟨parT 0 ds, h0⟩) (hQ : ∀ s, Q s → ∃ os, rvs τ s rs = some os)
    (M0 : Nat → Prop) (φ0 : Nat → Nat) (args : Array Value) (w : World) (hM : ∀ b, M0 b → b < w.heap.size) (hp : HpOk w M0 φ0 h0) (hk : ∀ l z, sg h0 l = some z → l < k) (hsz : args.size = ds.length)
    (hr : ∀ (j : Nat) (d : D) (v : Value), ds[j]? = some d → args[j]? = some v → R w (Mx M0 φ0 h0) φ0 (sg h0) d v) :
    Calls P f args w fun e w' => ∃ u φ1 s' os vs, e = .returned u ∧ Q s' ∧ Nx M0 φ0 h0 w φ1 s'.h w' ∧ rvs τ s' rs = some os ∧ u = oneV vs ∧ vs.length = os.length ∧ ∀ (j : Nat) (d : D) (v : Value), os[j]? = some d → vs[j]? = some v → R w' (Mx M0 φ1 s'.h) φ1 (sg s'.h) d v := by
  obtain ⟨fn, code, h1, h2, h3, h4, h5, h6⟩ := hf.ex
  refine calls_of_wp h1 h2 ?_
  let X : Ctx := ⟨fn.ntmps, w, M0, W φ0 h0, sg h0, φ0⟩
  have S : Sim X { tmps := args ++ Array.replicate (fn.ntmps - args.size) undef, defers := [] } w ⟨parT 0 ds, h0⟩ := by
    refine ⟨φ0, ⟨by simp [X]; omega, rfl, hp, .refl _ _, fun b _ e => e, hM, fun n => ?_, fun l z e => ⟨e, rfl⟩⟩⟩
    simp only
    rw [parT_get, if_pos (Nat.zero_le _), Nat.sub_zero]
    cases hd : ds[n]? with
    | none => exact .imm (.any _)
    | some d =>
      have hlt := (List.getElem?_eq_some_iff.1 hd).1
      have hna : n < args.size := by omega
      have hv : (args ++ Array.replicate (fn.ntmps - args.size) undef).getD n undef = args[n] := by
        rw [Array.getD_eq_getD_getElem?, Array.getElem?_append_left hna]; simp [hna]
      rw [hv]
      exact hr n d args[n] hd (by simp [hna])
  have good := (Go_sound hτ hT hmix (X := X) (m := k) hk G [.code code] (.c h4 .nil)).1
  intro b k' cs
  obtain ⟨e, a', w', s', q1, ⟨φ, S'⟩, q3, q4⟩ := good _ _ S b k' cs
  refine ⟨e, a', w', ?_, q4⟩
  obtain ⟨os, ho⟩ := hQ s' q3
  obtain ⟨vs, r1, r2, r3⟩ := results_run hτ S' h5 ho
  have fin : ∃ u φ1 s'' os vs, Ending.returned (oneV vs) = .returned u ∧ Q s'' ∧ Nx M0 φ0 h0 w φ1 s''.h w' ∧ rvs τ s'' rs = some os ∧ u = oneV vs ∧ vs.length = os.length ∧ ∀ (j : Nat) (d : D) (v : Value), os[j]? = some d → vs[j]? = some v → R w' (Mx M0 φ1 s''.h) φ1 (sg s''.h) d v :=
    ⟨oneV vs, φ, s', os, vs, rfl, q3, ⟨S'.ext, S'.hp, S'.up, S'.wr⟩, ho, rfl, r2, r3⟩
  have fin' : ∃ u φ1 s'' os vs', Ending.returned (oneV vs) = .returned u ∧ Q s'' ∧ Nx M0 φ0 h0 w φ1 s''.h w' ∧ rvs τ s'' rs = some os ∧ u = oneV vs' ∧ vs'.length = os.length ∧ ∀ (j : Nat) (d : D) (v : Value), os[j]? = some d → vs'[j]? = some v → R w' (Mx M0 φ1 s''.h) φ1 (sg s''.h) d v :=
    ⟨oneV vs, φ, s', os, vs, rfl, q3, ⟨S'.ext, S'.hp, S'.up, S'.wr⟩, ho, rfl, r2, r3⟩
  rcases q1 with rfl | rfl
  · exact ⟨S'.defers, oneV vs, r1, fin'⟩
  · exact ⟨S'.defers, oneV vs, r1, fin'⟩

theorem oneR {w : World} {M : Nat → Prop} {φ : Nat → Nat} {σ : Nat → Option Nat} {os : List D} {vs : List Value} (hl : vs.length = os.length) (h : ∀ (j : Nat) (d : D) (v : Value), os[j]? = some d → vs[j]? = some v → R w M φ σ d v) : R w M φ σ (oneD os) (oneV vs) := by
  match os, vs, hl, h with
  | [], [], _, h => exact .tup _ _ rfl (fun j d v a => by simp at a)
  | [d], [v], _, h => exact h 0 d v rfl rfl
  | a :: b :: os, u :: v :: vs, hl, h => exact .tup _ _ (by simpa using hl) (fun j d v q1 q2 => h j d v q1 (by simpa using q2))

theorem hp_nil (w : World) (M0 : Nat → Prop) (φ : Nat → Nat) : HpOk w M0 φ [] := ⟨fun l o e => (by cases e), fun l l' o o' e => (by cases e), fun l o e => (by cases e), fun l o e => (by cases e)⟩

include hτ hT hmix in
theorem fn_calls {f : Nat} {c : C} {rs : List RV} {np : Nat} (hf : FnOk P τ f c rs np) {ds : List D} {r : D} (hl : ds.length = np) (G : Go τ T 0 (fun s => outV τ rs s = some r) [.c c] ⟨parT 0 ds, []⟩)
    (M : Nat → Prop) (args : Array Value) (w : World) (hM : ∀ b, M b → b < w.heap.size) (hsz : args.size = ds.length) (himm : ∀ (j : Nat) (d : D), ds[j]? = some d → Imm d) (hr : ∀ (j : Nat) (d : D) (v : Value), ds[j]? = some d → args[j]? = some v → R w M id (fun _ => none) d v) :
    Calls P f args w fun e w' => ∃ u, e = .returned u ∧ Ext (fun _ => False) w w' ∧ Imm r ∧ R w' M id (fun _ => none) r u := by
  have hmx : ∀ b, Mx M id [] b → M b := by
    rintro b (e | ⟨l, o, e, _⟩)
    · exact e
    · cases e
  refine (fn_run hτ hT hmix hf hl G (fun s e => (bO_eq e).imp fun _ h => h.1) M id args w hM (hp_nil _ _ _) (fun l z e => by cases e) hsz (fun j d v q1 q2 => ?_)).mono ?_
  · exact ((himm j d q1).any (hr j d v q1 q2)).mono (Ext.refl (fun _ => False) w) (fun _ _ e => e.elim) (fun b _ e => hmx b e) (fun _ _ e => ⟨e, rfl⟩)
  · rintro e w' ⟨u, φ1, s', os, vs, rfl, q, n, ho, rfl, hlen, hrel⟩
    refine ⟨_, rfl, n.ext.mono (fun b _ ⟨l, o, e, _⟩ => by cases e), ?_⟩
    have fin : ∀ (d : D) (v : Value) (h' : List (Nat × Ob)), Imm d → R w' (Mx M φ1 h') φ1 (sg h') d v → R w' M id (fun _ => none) d v := fun d v h' hi hr =>
      hi.any (hr.mono (Ext.refl (fun _ => False) w') (fun _ _ e => e.elim) (fun b _ e => .inl e) (fun _ _ e => ⟨e, rfl⟩))
    unfold outV at q
    rw [ho] at q
    simp only [bO_some] at q
    have many : (bO (lowDs s'.h os) fun p => some (D.tup p.1)) = some r → oneV vs = .tuple vs.toArray → Imm r ∧ R w' M id (fun _ => none) r (oneV vs) := by
      intro e hv
      obtain ⟨⟨p, h'⟩, e1, e2⟩ := bO_eq e
      injection e2 with e2; subst e2
      obtain ⟨n1, n2, n3, n4⟩ := lowDs_spec _ _ _ _ vs e1 n.hp hlen hrel
      rw [hv]
      refine ⟨.tup _ n3, .tup _ _ (by rw [n2]; simpa using hlen) (fun j d v q1 q2 => fin d v h' (n3 j d q1) (n4 j d v q1 (by simpa using q2)))⟩
    match os, vs, hlen, hrel, q, many with
    | [], [], _, _, q, many => exact many q rfl
    | [d], [v], _, hrel, q, _ =>
      obtain ⟨⟨p, h'⟩, e1, e2⟩ := bO_eq q
      injection e2 with e2; simp only at e2; subst e2
      obtain ⟨n1, n2, n3⟩ := lowD_spec e1 n.hp (hrel 0 d v rfl rfl)
      exact ⟨n2, fin _ _ h' n2 n3⟩
    | a :: b :: os, u :: v :: vs, _, _, q, many => exact many q rfl

theorem enter_run {f : Nat} {c : C} {rs : List RV} {np : Nat} (hf : FnOk P τ f c rs np) (args : Array Value) (w : World) : (callFunc f args).run P w = .ok (.enter f args) w := by
  obtain ⟨fn, code, h1, h2, h3, h4, h5, h6⟩ := hf.ex
  have hn : fn.name ≠ "runtime.NumGoroutine" := by simpa using h3
  simp [callFunc, h1, hn, h2]

include hτ hT hmix in
/-- A function of this program that only reads. -/
theorem fn_pure {f : Nat} {c : C} {rs : List RV} {np : Nat} (hf : FnOk P τ f c rs np) {F : List D → Option D} (hF : ∀ ds r, F ds = some r → ds.length = np ∧ Go τ T 0 (fun s => outV τ rs s = some r) [.c c] ⟨parT 0 ds, []⟩) : Pure P f F := by
  intro ds r e M args w hM hsz himm hr
  rw [enter_run hf]
  exact fn_calls hτ hT hmix hf (hF ds r e).1 (hF ds r e).2 M args w hM hsz himm hr

include hτ hT hmix in
/-- A function of this program to which objects are handed over. -/
theorem fn_heap {f : Nat} {c : C} {rs : List RV} {np : Nat} (hf : FnOk P τ f c rs np) {F : List D → List (Nat × Ob) → Nat → Option (D × List (Nat × Ob))} (hF : ∀ ds h0 k r h1, F ds h0 k = some (r, h1) → ds.length = np ∧ Go τ T k (fun s => outN τ rs k s = some (r, h1)) [.c c] ⟨parT 0 ds, h0⟩) : Heap P f F := by
  intro ds h0 k r h1 e M0 φ0 args w hM hp hk hsz hr
  rw [enter_run hf]
  refine (fn_run hτ hT hmix hf (hF ds h0 k r h1 e).1 (hF ds h0 k r h1 e).2 (fun s e => (bO_eq e).imp fun _ h => h.1) M0 φ0 args w hM hp hk hsz hr).mono ?_
  rintro e w' ⟨u, φ1, s', os, vs, rfl, q, n, ho, rfl, hlen, hrel⟩
  unfold outN at q
  rw [ho] at q
  simp only [bO_some, norm, normL] at q
  injection q with q; injection q with q1 q2; subst q1; subst q2
  generalize roots s'.h k [oneD os] = ls
  refine ⟨_, rfl, nphi φ1 k ls, ⟨n.ext, gc_hp n.hp, fun l z e => ?_, fun b hb e => n.mx b hb (gc_W e)⟩, gc_R (oneR hlen hrel)⟩
  obtain ⟨e1, e2⟩ := n.up l z e
  have hkk : rename k ls l = some l := by
    have : Nat.blt l k = true := by simpa using hk l z e
    simp [rename, this]
  exact ⟨(gc_sg (φ := φ1) hkk e1).1, by rw [nphi_of hkk, e2]⟩

end

theorem Ext.below {w w' : World} (h : Ext (fun _ => False) w w') : RowKit.Below w.heap.size w w' :=
  ⟨h.os, h.tape, h.output, h.size, fun k hk => h.same k hk (fun e => e)⟩

end Go.Proofs.Ytemcdpkiphmndaa.Ab
