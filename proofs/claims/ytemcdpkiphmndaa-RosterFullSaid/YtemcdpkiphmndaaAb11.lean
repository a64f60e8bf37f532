/- Ab11: the compact operations against the program's; each is sound. -/
import Derived.Test.YtemcdpkiphmndaaAb10m
set_option linter.unusedSimpArgs false
set_option linter.unusedVariables false
set_option linter.unusedSectionVars false
namespace Go.Proofs.Ytemcdpkiphmndaa.Ab

/-! ### matching -/
def okA (x : Operand) (a : A) : Bool :=
  match x with
  | .tmp t => (match a with | .t n => t == n | _ => false)
  | .const v => (match a with | .c d => okV v d | _ => false)
  | .func f => (match a with | .f g => f == g | _ => false)
  | _ => false
def okAs : List Operand → List A → Bool
  | [], [] => true
  | x :: xs, a :: as => okA x a && okAs xs as
  | _, _ => false
def okPs : List (Nat × Operand) → List (Nat × A) → Bool
  | [], [] => true
  | x :: xs, a :: as => x.1 == a.1 && okA x.2 a.2 && okPs xs as
  | _, _ => false
def okM (x : Option Operand) (a : Option A) : Bool :=
  match x, a with
  | none, none => true
  | some x, some a => okA x a
  | _, _ => false
def isStruct (x : Option TI) : Bool := match x with | some i => (match i.k with | .struct _ => true | _ => false) | none => false
def isSlice (x : Option TI) : Bool := match x with | some i => (tslice i).isSome | none => false
def okCall (τ : Nat → Option TI) (k' : Call) (c : Cop) : Bool :=
  match k'.callee with
  | .value f => (match c with | .call g as => okA f g && okAs k'.args.toList as | .callP g as => okA f g && okAs k'.args.toList as | .callH g as => okA f g && okAs k'.args.toList as | .callA _ g as => okA f g && okAs k'.args.toList as | .callF _ _ g as => okA f g && okAs k'.args.toList as | _ => false)
  | .builtin b =>
    match b with
    | .len => (match c with | .len t a => isSlice (τ t) && (k'.argTypes.toList == [t] && okAs k'.args.toList [a]) | .mlen t a => k'.argTypes.toList == [t] && okAs k'.args.toList [a] | _ => false)
    | .append => (match c with | .append t a b => k'.argTypes.toList == [t, t] && okAs k'.args.toList [a, b] | _ => false)
    | .delete => (match c with | .delete t m k => (match k'.argTypes.toList with | t1 :: _ :: [] => t1 == t && okAs k'.args.toList [m, k] | _ => false) | _ => false)
    | .copy => (match c with | .copy t a b => (match k'.argTypes.toList with | t1 :: _ :: [] => t1 == t && okAs k'.args.toList [a, b] | _ => false) | _ => false)
    | .clear => (match c with | .clear t a => k'.argTypes.toList == [t] && okAs k'.args.toList [a] | _ => false)
    | .max => (match c with | .max a b => okAs k'.args.toList [a, b] | _ => false)
    | .min => (match c with | .min a b => okAs k'.args.toList [a, b] | _ => false)
    | _ => false
  | _ => false
def isStr (x : Option TI) : Bool := match x with | some i => (match i.k with | .str => true | _ => false) | none => false
def isText (x : Operand) (tbl : List Nat) : Bool := match x with | .const (.string s) => s.data.toList.map (·.toNat) == tbl | _ => false
def okCop (τ : Nat → Option TI) (o : Op) (c : Cop) : Bool :=
  match o with
  | .move x => (match c with | .move a => okA x a | _ => false)
  | .assign x => (match c with | .move a => okA x a | _ => false)
  | .pick x y z => (match c with | .pick a b d => okA x a && (okA y b && okA z d) | _ => false)
  | .alloc e => (match c with | .alloc e' => e == e' | _ => false)
  | .box e x => (match c with | .box e' a => e == e' && okA x a | _ => false)
  | .build t ps => (match c with | .build t' qs => t == t' && (isStruct (τ t) && okPs ps.toList qs) | _ => false)
  | .buildSlice t n ps => (match c with | .buildSlice t' n' qs => t == t' && (n == n' && okPs ps.toList qs) | .buildSliceP t' n' qs => t == t' && (n == n' && okPs ps.toList qs) | .buildSliceB t' n' qs => t == t' && (n == n' && okPs ps.toList qs) | _ => false)
  | .load t x => (match c with | .load t' a => t == t' && okA x a | .loadF t' a _ => t == t' && okA x a | .loadR t' a => t == t' && okA x a | _ => false)
  | .store t x y => (match c with | .store t' a b => t == t' && (okA x a && okA y b) | .storeF t' a b _ => t == t' && (okA x a && okA y b) | _ => false)
  | .nilCheck x => (match c with | .nilCheck a => okA x a | _ => false)
  | .binOp op t x y _ => (match c with | .binOp op' t' a b => decide (op = op') && (t == t' && (okA x a && okA y b)) | _ => false)
  | .unOp op _ x => (match c with | .unOp op' _ a => decide (op = op') && okA x a | _ => false)
  | .convert s d x => (match c with | .convert _ d' a => (τ s).isSome && (d == d' && okA x a) | _ => false)
  | .makeMap t r => (match c with | .makeMap t' => t == t' && r.isNone | _ => false)
  | .lookup t x i ok => (match c with | .lookup t' a b ok' => t == t' && (ok == ok' && (okA x a && okA i b)) | _ => false)
  | .mapUpdate t m k v => (match c with | .mapUpd t' a b d => t == t' && (okA m a && (okA k b && okA v d)) | _ => false)
  | .insert t m k v => (match c with | .mapUpd t' a b d => t == t' && (okA m a && (okA k b && okA v d)) | _ => false)
  | .makeSlice t l k => (match c with | .makeSlice t' a b => t == t' && (okA l a && okA k b) | _ => false)
  | .slice t x lo hi mx => (match c with
    | .slice t' a l h => t == t' && (okA x a && (okM lo l && (okM hi h && mx.isNone)))
    | .slice3 t' a l h m => t == t' && (okA x a && (okM lo l && (okM hi (some h) && okM mx (some m))))
    | _ => false)
  | .makeFunc fn first cap => (match c with
    | .mkClo g as => (match fn with | .func f => f == g | _ => false) && (first.size == 0 && okAs cap.toList as)
    | _ => false)
  | .fieldAddr t x f => (match c with | .fieldAddr t' a f' => t == t' && (okA x a && f == f') | _ => false)
  | .field t x f => (match c with | .field t' a f' => t == t' && (okA x a && f == f') | _ => false)
  | .indexAddr t x i => (match c with | .indexAddr t' a b => t == t' && (okA x a && okA i b) | .indexR t' a b => t == t' && (okA x a && okA i b) | _ => false)
  | .index t x i => (match c with | .strIdx t' tbl a => t == t' && (isStr (τ t) && (isText x tbl && okA i a)) | _ => false)
  | .extract x i => (match c with | .extract a i' => okA x a && i == i' | _ => false)
  | .call k => okCall τ k c
  | _ => false

/-! ### what a call comes to -/
def Yld (P : Program) (r : Result Next) (post : Value → World → Prop) : Prop :=
  match r with
  | .ok (.value u) w => post u w
  | .ok (.enter f args) w => Calls P f args w fun e w' => ∃ u, e = .returned u ∧ post u w'
  | _ => False
theorem Yld.mono {P r post post'} (h : Yld P r post) (hp : ∀ u w, post u w → post' u w) : Yld P r post' := by
  unfold Yld at *
  split
  · exact hp _ _ h
  · exact h.mono (fun e w' ⟨u, h1, h2⟩ => ⟨u, h1, hp _ _ h2⟩)
  · rename_i h1 h2
    split at h
    · exact absurd rfl (h1 _ _)
    · exact absurd rfl (h2 _ _ _)
    · exact h

/-- What a function does that only reads. -/
def Pure (P : Program) (g : Nat) (F : List D → Option D) : Prop :=
  ∀ (ds : List D) (r : D), F ds = some r → ∀ (M : Nat → Prop) (args : Array Value) (w : World), (∀ b, M b → b < w.heap.size) → args.size = ds.length → (∀ (j : Nat) (d : D), ds[j]? = some d → Imm d) →
    (∀ (j : Nat) (d : D) (v : Value), ds[j]? = some d → args[j]? = some v → R w M id (fun _ => none) d v) →
    Yld P ((callFunc g args).run P w) fun u w' => Ext (fun _ => False) w w' ∧ Imm r ∧ R w' M id (fun _ => none) r u

/-- What a function does to which objects are handed over, too. -/
def Heap (P : Program) (g : Nat) (F : List D → List (Nat × Ob) → Nat → Option (D × List (Nat × Ob))) : Prop :=
  ∀ (ds : List D) (h0 : List (Nat × Ob)) (k : Nat) (r : D) (h1 : List (Nat × Ob)), F ds h0 k = some (r, h1) → ∀ (M0 : Nat → Prop) (φ0 : Nat → Nat) (args : Array Value) (w : World), (∀ b, M0 b → b < w.heap.size) → HpOk w M0 φ0 h0 → (∀ l z, sg h0 l = some z → l < k) → args.size = ds.length →
    (∀ (j : Nat) (d : D) (v : Value), ds[j]? = some d → args[j]? = some v → R w (Mx M0 φ0 h0) φ0 (sg h0) d v) →
    Yld P ((callFunc g args).run P w) fun u w' => ∃ φ1, Nx M0 φ0 h0 w φ1 h1 w' ∧ R w' (Mx M0 φ1 h1) φ1 (sg h1) r u
/-- What a function does that reads objects, and makes one at most. -/
def resA (n : Nat) (h : List (Nat × Ob)) (r : D × Option Ob) : VH := match r.2 with | none => (r.1, h) | some o => (newV n o, (n, o) :: h)
def Alloc (P : Program) (g : Nat) (F : List D → List (Option Ob) → Option (D × Option Ob)) : Prop :=
  ∀ (ds : List D) (os : List (Option Ob)) (r : D × Option Ob), F ds os = some r → ∀ (h0 : List (Nat × Ob)) (ex : List Nat), objsA h0 ex ds = some os → ∀ (M0 : Nat → Prop) (φ0 : Nat → Nat) (args : Array Value) (w : World), (∀ b, M0 b → b < w.heap.size) → HpOk w M0 φ0 h0 → args.size = ds.length →
    (∀ (j : Nat) (d : D) (v : Value), ds[j]? = some d → args[j]? = some v → R w (Mx M0 φ0 h0) φ0 (sg h0) d v) → ∀ n, (r.2 ≠ none → getO h0 n = none) →
    Yld P ((callFunc g args).run P w) fun u w' => ∃ φ1, Nx M0 φ0 h0 w φ1 (resA n h0 r).2 w' ∧ R w' (Mx M0 φ1 (resA n h0 r).2) φ1 (sg (resA n h0 r).2) (resA n h0 r).1 u
structure TmOk (P : Program) (T : Tm) : Prop where
  p : ∀ g, Pure P g (T.p g)
  h : ∀ g, Heap P g (T.h g)
  a : ∀ g, Alloc P g (T.a g)

theorem Imm.any {w M φ σ φ' σ'} {d : D} (i : Imm d) : ∀ {v}, R w M φ σ d v → R w M φ' σ' d v := by
  induction i with
  | cell h => intro v hr; exact .imm (hr.imm_of h)
  | agg cs h =>
    intro v hr
    cases hr with
    | imm hr => exact .imm hr
    | agg _ vs hl hh => exact .agg _ _ hl (fun j d v a b => .imm ((hh j d v a b).imm_of (h j d a)))
  | tup cs h ih =>
    intro v hr
    cases hr with
    | imm hr => exact .imm hr
    | tup _ vs hl hh => exact .tup _ _ hl (fun j d v a b => ih j d a (hh j d v a b))
  | clo f =>
    intro v hr
    cases hr with
    | imm hr => exact .imm hr
    | clo _ _ vs hl hh => exact .clo _ _ _ hl (fun j d v a b => by simp at a)

/-- Nothing of ours is touched. -/
theorem Nx.frame {M0 φ h w w'} (hp : HpOk w M0 φ h) (he : Ext (fun _ => False) w w') : Nx M0 φ h w φ h w' :=
  ⟨he.mono (fun _ _ e => e.elim), ⟨fun l o e1 e2 => by
      have hb := hp.ob l o e1 e2
      obtain ⟨c, hc, _⟩ := id hb
      exact hb.mono he (he.same _ (lt_of_heap hc) (fun e => e)) (fun _ _ e => e.elim) (fun _ _ e => e) (fun _ _ e => ⟨e, rfl⟩),
    hp.inj, hp.m0, fun l o e1 e2 => Nat.lt_of_lt_of_le (hp.lt l o e1 e2) he.size⟩, fun _ _ e => ⟨e, rfl⟩, fun _ _ e => e⟩

/-! ### the state of a walk -/
structure Ctx where
  N : Nat
  w0 : World
  M0 : Nat → Prop
  S0 : Nat → Prop
  σ0 : Nat → Option Nat
  φ0 : Nat → Nat

structure SimW (X : Ctx) (φ : Nat → Nat) (a : Act) (w : World) (s : St) : Prop where
  size : a.tmps.size = X.N
  defers : a.defers = []
  hp : HpOk w X.M0 φ s.h
  ext : Ext X.S0 X.w0 w
  wr : ∀ b, b < X.w0.heap.size → W φ s.h b → X.S0 b
  m0 : ∀ b, X.M0 b → b < X.w0.heap.size
  tm : ∀ n, R w (Mx X.M0 φ s.h) φ (sg s.h) (get s.t n) (a.tmps.getD n undef)
  up : ∀ l z, X.σ0 l = some z → sg s.h l = some z ∧ φ l = X.φ0 l
def Sim (X : Ctx) (a : Act) (w : World) (s : St) : Prop := ∃ φ, SimW X φ a w s

theorem SimW.heap {X φ a w s φ' h' w'} (S : SimW X φ a w s) (n : Nx X.M0 φ s.h w φ' h' w') : SimW X φ' a w' ⟨s.t, h'⟩ :=
  ⟨S.size, S.defers, n.hp, S.ext.trans n.ext (fun x hx e => S.wr x hx e), fun b hb e => S.wr b hb (n.mx b (Nat.lt_of_lt_of_le hb S.ext.size) e), S.m0, fun k => n.r (S.tm k), fun l z e => by
    obtain ⟨e1, e2⟩ := S.up l z e
    obtain ⟨e3, e4⟩ := n.up l z e1
    exact ⟨e3, e4.trans e2⟩⟩
theorem SimW.put {X φ a w s} (S : SimW X φ a w s) {n : Nat} {d : D} {v : Value} (hn : n < X.N) (hr : R w (Mx X.M0 φ s.h) φ (sg s.h) d v) : SimW X φ (a.put (some n) v) w ⟨(n, d) :: s.t, s.h⟩ :=
  ⟨by simp [Act.put, S.size], S.defers, S.hp, S.ext, S.wr, S.m0, fun k => by
    simp only [Act.put]
    by_cases e : n = k
    · subst e
      rw [get_hit]
      have : n < a.tmps.size := by rw [S.size]; exact hn
      simp [Array.getD_eq_getD_getElem?, this]
      exact hr
    · rw [get_miss _ _ _ _ (by simpa using e)]
      have := S.tm k
      rwa [Array.getD_eq_getD_getElem?, ← Array.getElem?_setIfInBounds_ne (xs := a.tmps) e (a := v), ← Array.getD_eq_getD_getElem?] at this, S.up⟩
theorem SimW.lt {X φ a w s} (S : SimW X φ a w s) : ∀ b, X.M0 b → b < w.heap.size := fun b hb => Nat.lt_of_lt_of_le (S.m0 b hb) S.ext.size

section
variable {P : Program} {τ : Nat → Option TI} {T : Tm} (hτ : ∀ t i, τ t = some i → TIok P t i) (hT : TmOk P T)
variable {X : Ctx} {φ : Nat → Nat} {a : Act} {w : World} {s : St}

theorem okA_run (S : SimW X φ a w s) {x : Operand} {y : A} (h : okA x y = true) : R w (Mx X.M0 φ s.h) φ (sg s.h) (ev s.t y) (a.eval x) := by
  cases x with
  | tmp t =>
    cases y <;> simp only [okA] at h <;> try cases h
    simp at h; subst h
    exact S.tm t
  | const v =>
    cases y <;> simp only [okA] at h <;> try cases h
    exact okV_spec h _ _ _ _
  | func f =>
    cases y <;> simp only [okA] at h <;> try cases h
    simp at h; subst h
    exact .clo f [] #[] rfl (by simp)
  | global g => cases y <;> cases h

theorem okAs_run (S : SimW X φ a w s) : ∀ {xs : List Operand} {ys : List A}, okAs xs ys = true → (xs.map a.eval).length = (evs s.t ys).length ∧ ∀ (j : Nat) (d : D) (v : Value), (evs s.t ys)[j]? = some d → (xs.map a.eval)[j]? = some v → R w (Mx X.M0 φ s.h) φ (sg s.h) d v
  | [], [], _ => ⟨rfl, by simp [evs]⟩
  | [], _ :: _, h => by cases h
  | _ :: _, [], h => by cases h
  | x :: xs, y :: ys, h => by
    simp only [okAs, Bool.and_eq_true] at h
    obtain ⟨h1, h2⟩ := okAs_run S h.2
    refine ⟨by simp [evs] at h1 ⊢; exact h1, fun j d v a b => ?_⟩
    cases j with
    | zero => simp [evs] at a b; subst a; subst b; exact okA_run S h.1
    | succ j => simp [evs] at a b; exact h2 j d v a (by simpa using b)

theorem okPs_run (S : SimW X φ a w s) : ∀ {xs : List (Nat × Operand)} {ys : List (Nat × A)}, okPs xs ys = true → xs.length = ys.length ∧ ∀ (j : Nat) (p : Nat × A) (q : Nat × Value), ys[j]? = some p → (xs.map fun x => (x.1, a.eval x.2))[j]? = some q → q.1 = p.1 ∧ R w (Mx X.M0 φ s.h) φ (sg s.h) (ev s.t p.2) q.2
  | [], [], _ => ⟨rfl, by simp⟩
  | [], _ :: _, h => by cases h
  | _ :: _, [], h => by cases h
  | x :: xs, y :: ys, h => by
    simp only [okPs, Bool.and_eq_true, beq_iff_eq] at h
    obtain ⟨h1, h2⟩ := okPs_run S h.2
    refine ⟨by simp [h1], fun j d v a b => ?_⟩
    cases j with
    | zero => simp at a b; subst a; subst b; exact ⟨h.1.1, okA_run S h.1.2⟩
    | succ j => simp at a b; exact h2 j d v a (by simpa using b)

/-- A value, and nothing of ours turned. -/
theorem yld_same (S : SimW X φ a w s) {o : Oper} {d : D} (h : ∃ u, (execOp a.eval o).run P w = .ok (.value u) w ∧ R w (Mx X.M0 φ s.h) φ (sg s.h) d u) :
    Yld P ((execOp a.eval o).run P w) fun u w' => ∃ φ', Nx X.M0 φ s.h w φ' s.h w' ∧ R w' (Mx X.M0 φ' s.h) φ' (sg s.h) d u := by
  obtain ⟨u, h1, h2⟩ := h
  rw [h1]
  exact ⟨φ, .refl S.hp, h2⟩
theorem yld_new {o : Oper} {d : D} {h' : List (Nat × Ob)} (h : ∃ u w' φ', (execOp a.eval o).run P w = .ok (.value u) w' ∧ Nx X.M0 φ s.h w φ' h' w' ∧ R w' (Mx X.M0 φ' h') φ' (sg h') d u) :
    Yld P ((execOp a.eval o).run P w) fun u w' => ∃ φ', Nx X.M0 φ s.h w φ' h' w' ∧ R w' (Mx X.M0 φ' h') φ' (sg h') d u := by
  obtain ⟨u, w', φ', h1, h2, h3⟩ := h
  rw [h1]
  exact ⟨φ', h2, h3⟩
theorem onlyV_eq {h : List (Nat × Ob)} {x : Option D} {v : D} {h' : List (Nat × Ob)} (e : onlyV h x = some (v, h')) : x = some v ∧ h' = h := by
  obtain ⟨v', e1, e2⟩ := bO_eq e
  injection e2 with e2; injection e2 with e3 e4
  exact ⟨by rw [e1, e3], e4.symm⟩

theorem okM_lo {S : SimW X φ a w s} {x : Option Operand} {y : Option A} {d n : Nat} (e : (match y with | none => some d | some a => natD (ev s.t a)) = some n) (h : okM x y = true) :
    (x.map a.eval = none ∧ n = d) ∨ ∃ k i, x.map a.eval = some (.int k i) ∧ 0 ≤ i ∧ i.toNat = n := by
  cases x with
  | none =>
    cases y with
    | none => injection e with e; exact .inl ⟨rfl, e.symm⟩
    | some y => cases h
  | some x =>
    cases y with
    | none => cases h
    | some y =>
      obtain ⟨k, i, h1, h2, h3⟩ := natD_spec e (okA_run S h)
      exact .inr ⟨k, i, by simp [h1], h2, h3⟩

include hT in
/-- A call of what only reads. -/
theorem vCall_run (S : SimW X φ a w s) {k : Call} {f : Operand} {g : A} {xs : List A} (hk : k.callee = .value f) (hf : okA f g = true) (hx : okAs k.args.toList xs = true) {v : D} {h' : List (Nat × Ob)} (e : vCall T s.t s.h g xs = some (v, h')) {o : Oper} (ho : o.op = .call k) :
    Yld P ((execOp a.eval o).run P w) fun u w' => ∃ φ', Nx X.M0 φ s.h w φ' h' w' ∧ R w' (Mx X.M0 φ' h') φ' (sg h') v u := by
  unfold vCall at e
  obtain ⟨⟨c, cs⟩, e1, e⟩ := bO_eq e
  obtain ⟨⟨ds, h1⟩, e2, e⟩ := bO_eq e
  obtain ⟨r, e3, e⟩ := bO_eq e
  injection e with e; injection e with e4 e5; subst e4; subst e5
  have hfr := okA_run S hf
  cases hg : ev s.t g with
  | clo c' cs' =>
    rw [hg] at e1 hfr
    injection e1 with e1; injection e1 with e6 e7; subst e6; subst e7
    obtain ⟨vs, v1, v2, v3⟩ := clo_inv hfr
    obtain ⟨l1, l2⟩ := okAs_run S hx
    have hrun : (execOp a.eval o).run P w = (callFunc c' (k.args.map a.eval ++ vs)).run P w := by
      simp only [execOp, ho, resolve, hk, v1, Deferred.ofValue, Sem.run_bind, Sem.run_pure, Result.andThen_ok, invoke]
      simp
    rw [hrun]
    have hsz : (k.args.map a.eval ++ vs).toList.length = (evs s.t xs ++ cs').length := by
      simp only [Array.toList_append, Array.toList_map, List.length_append, l1]
      simp [v2]
    obtain ⟨n1, n2, n3, n4⟩ := lowDs_spec _ _ _ _ (k.args.map a.eval ++ vs).toList e2 S.hp hsz (fun j d v q1 q2 => by
      simp only [Array.toList_append, Array.toList_map] at q2
      by_cases hj : j < (evs s.t xs).length
      · rw [List.getElem?_append_left hj] at q1
        rw [List.getElem?_append_left (by rw [l1]; exact hj)] at q2
        exact l2 j d v q1 q2
      · rw [List.getElem?_append_right (by omega)] at q1
        rw [List.getElem?_append_right (by rw [l1]; omega), l1] at q2
        exact v3 _ d v q1 (by simpa using q2))
    have := hT.p c' ds r e3 (Mx X.M0 φ h1) (k.args.map a.eval ++ vs) w (fun b hb => hb.elim (S.lt b) (fun ⟨l, o, q1, q2, q3⟩ => by rw [← q3]; exact n1.hp.lt l o q1 (.inr q2))) (by rw [n2, ← hsz]; simp) n3
      (fun j d v q1 q2 => (n3 j d q1).any (n4 j d v q1 (by rw [Array.getElem?_toList]; exact q2)))
    exact this.mono (fun u w' ⟨q1, q2, q3⟩ => ⟨φ, n1.trans (Nx.frame n1.hp q1), q2.any q3⟩)
  | _ => rw [hg] at e1; cases e1

theorem lowL_any : ∀ {cs : List D} {cs' h'}, lowL [] cs = some (cs', h') → h' = [] ∧ ∀ h, lowL h cs = some (cs', h)
  | [], cs', h', e => by cases e; exact ⟨rfl, fun h => rfl⟩
  | d :: cs, cs', h', e => by
    have plain : ∀ d', (bO (lowL [] cs) fun p => some (d' :: p.1, p.2)) = some (cs', h') → h' = [] ∧ ∀ h, (bO (lowL h cs) fun p => some (d' :: p.1, p.2)) = some (cs', h) := by
      intro d' e
      obtain ⟨⟨p, h2⟩, q1, q2⟩ := bO_eq e
      injection q2 with q2; injection q2 with q3 q4; subst q3; subst q4
      obtain ⟨r1, r2⟩ := lowL_any q1
      exact ⟨r1, fun h => by rw [r2 h]; rfl⟩
    cases d with
    | own l' i n => cases e
    | int k n => exact plain _ e
    | bool b => exact plain _ e
    | nilp => exact plain _ e
    | nils => exact plain _ e
    | nilf => exact plain _ e
    | nilm => exact plain _ e
    | em => exact plain _ e
    | ro s es => exact plain _ e
    | any => cases e
    | rop _ => cases e
    | agg _ => cases e
    | tup _ => cases e
    | ptr _ _ _ => cases e
    | mp _ => cases e
    | clo _ _ => cases e
theorem lowD_any {d d' : D} {h'} (e : lowD [] d = some (d', h')) : h' = [] ∧ ∀ h, lowD h d = some (d', h) := by
  cases d with
  | agg cs =>
    rw [lowD_agg] at e
    obtain ⟨⟨p, h2⟩, q1, q2⟩ := bO_eq e
    injection q2 with q2; injection q2 with q3 q4; subst q3; subst q4
    obtain ⟨r1, r2⟩ := lowL_any q1
    exact ⟨r1, fun h => by rw [lowD_agg, r2 h]; rfl⟩
  | clo f cs =>
    cases cs with
    | nil => cases e; exact ⟨rfl, fun h => rfl⟩
    | cons c cs => cases e
  | own l i n => cases e
  | int k n => cases e; exact ⟨rfl, fun h => rfl⟩
  | bool k => cases e; exact ⟨rfl, fun h => rfl⟩
  | nilp => cases e; exact ⟨rfl, fun h => rfl⟩
  | nils => cases e; exact ⟨rfl, fun h => rfl⟩
  | nilf => cases e; exact ⟨rfl, fun h => rfl⟩
  | nilm => cases e; exact ⟨rfl, fun h => rfl⟩
  | em => cases e; exact ⟨rfl, fun h => rfl⟩
  | ro s es => cases e; exact ⟨rfl, fun h => rfl⟩
  | any => cases e
  | rop _ => cases e
  | tup _ => cases e
  | ptr _ _ _ => cases e
  | mp _ => cases e
theorem lowDs_any : ∀ {ds : List D} {ds' h'}, lowDs [] ds = some (ds', h') → h' = [] ∧ ∀ h, lowDs h ds = some (ds', h)
  | [], ds', h', e => by cases e; exact ⟨rfl, fun h => rfl⟩
  | d :: ds, ds', h', e => by
    rw [lowDs_cons] at e
    obtain ⟨⟨x, h1⟩, q1, e⟩ := bO_eq e
    obtain ⟨⟨q, h2⟩, q2, e⟩ := bO_eq e
    injection e with e; injection e with q3 q4; subst q3; subst q4
    obtain ⟨r1, r2⟩ := lowD_any q1
    subst r1
    obtain ⟨r3, r4⟩ := lowDs_any q2
    exact ⟨r3, fun h => by rw [lowDs_cons, r2 h]; simp only [bO_some]; rw [r4 h]; rfl⟩
theorem vCallP_call {t : List (Nat × D)} {g : A} {xs : List A} {v : D} (e : vCallP T t g xs = some v) (h : List (Nat × Ob)) : vCall T t h g xs = some (v, h) := by
  unfold vCallP at e
  obtain ⟨c, e1, e⟩ := bO_eq e
  obtain ⟨⟨ds, h1⟩, e2, e⟩ := bO_eq e
  obtain ⟨_, r2⟩ := lowDs_any e2
  simp only at e
  unfold vCall
  rw [e1]; simp only [bO_some]
  rw [r2 h]; simp only [bO_some]
  rw [e]; rfl

include hT in
/-- A call to which objects of ours are handed over. -/
theorem vCallH_run (S : SimW X φ a w s) {k : Call} {f : Operand} {g : A} {xs : List A} (hk : k.callee = .value f) (hf : okA f g = true) (hx : okAs k.args.toList xs = true) {d : Nat} {v : D} {h' : List (Nat × Ob)} (e : vCallH T s.t s.h d g xs = some (v, h')) {o : Oper} (ho : o.op = .call k) :
    Yld P ((execOp a.eval o).run P w) fun u w' => ∃ φ', Nx X.M0 φ s.h w φ' h' w' ∧ R w' (Mx X.M0 φ' h') φ' (sg h') v u := by
  unfold vCallH at e
  obtain ⟨⟨c, cs⟩, e1, e⟩ := bO_eq e
  have hcl := close_nodup (h := s.h) (m := 0) (n := 1000) (xs := locsL (evs s.t xs ++ cs)) (acc := []) List.nodup_nil (by simp)
  revert e hcl
  generalize close s.h 0 1000 (locsL (evs s.t xs ++ cs)) [] = ls
  intro e hcl
  rw [enterH_def] at e
  obtain ⟨hall, e⟩ := gd_eq e
  obtain ⟨⟨r, h1⟩, e3, e9⟩ := bO_eq e
  have hcl2 := close_nodup (h := h1) (m := ls.length) (n := 1000) (xs := (pars ls.length).flatMap (fun k => locsO (getO h1 k)) ++ locsL [r]) (acc := []) List.nodup_nil (by simp)
  have hfr := okA_run S hf
  cases hg : ev s.t g with
  | clo c' cs' =>
    rw [hg] at e1 hfr
    injection e1 with e1; injection e1 with e6 e7; subst e6; subst e7
    obtain ⟨vs, v1, v2, v3⟩ := clo_inv hfr
    obtain ⟨l1, l2⟩ := okAs_run S hx
    have hrun : (execOp a.eval o).run P w = (callFunc c' (k.args.map a.eval ++ vs)).run P w := by
      simp only [execOp, ho, resolve, hk, v1, Deferred.ofValue, Sem.run_bind, Sem.run_pure, Result.andThen_ok, invoke]
      simp
    rw [hrun]
    have hsz : (k.args.map a.eval ++ vs).toList.length = (evs s.t xs ++ cs').length := by
      simp only [Array.toList_append, Array.toList_map, List.length_append, l1]
      simp [v2]
    have hrel : ∀ (j : Nat) (d : D) (v : Value), (evs s.t xs ++ cs')[j]? = some d → (k.args.map a.eval ++ vs)[j]? = some v → R w (Mx X.M0 φ s.h) φ (sg s.h) d v := by
      intro j d v q1 q2
      rw [← Array.getElem?_toList] at q2
      simp only [Array.toList_append, Array.toList_map] at q2
      by_cases hj : j < (evs s.t xs).length
      · rw [List.getElem?_append_left hj] at q1
        rw [List.getElem?_append_left (by rw [l1]; exact hj)] at q2
        exact l2 j d v q1 q2
      · rw [List.getElem?_append_right (by omega)] at q1
        rw [List.getElem?_append_right (by rw [l1]; omega), l1] at q2
        exact v3 _ d v q1 (by simpa using q2)
    have := hT.h c' _ _ _ r h1 e3 (cM0 X.M0 φ s.h ls) (cphi φ ls) (k.args.map a.eval ++ vs) w (fun b hb => hb.elim (S.lt b) (fun ⟨⟨l, o, q1, q2, q3⟩, _⟩ => by rw [← q3]; exact S.hp.lt l o q1 (.inr q2))) (call_hp S.hp hcl.1) (fun l z hz => call_lt hz)
      (by rw [renL_length, ← hsz]; simp) (fun j d v q1 q2 => by
        rw [renL_get] at q1
        cases hj : (evs s.t xs ++ cs')[j]? with
        | none => rw [hj] at q1; cases q1
        | some d0 => rw [hj] at q1; injection q1 with q1; subst q1; exact call_R (hrel j d0 v hj q2))
    exact this.mono (fun u w' ⟨φ1, n, q⟩ => call_join S.hp hcl.1 hall hcl2.1 e9 n q)
  | _ => rw [hg] at e1; cases e1

include hT in
/-- A call of what reads objects, and makes one at most. -/
theorem vCallA_run (S : SimW X φ a w s) {k : Call} {f : Operand} {g : A} {xs : List A} (hk : k.callee = .value f) (hf : okA f g = true) (hx : okAs k.args.toList xs = true) {d : Nat} {ex : List Nat} {v : D} {h' : List (Nat × Ob)} (e : vCallA T s.t s.h d ex g xs = some (v, h')) {o : Oper} (ho : o.op = .call k) :
    Yld P ((execOp a.eval o).run P w) fun u w' => ∃ φ', Nx X.M0 φ s.h w φ' h' w' ∧ R w' (Mx X.M0 φ' h') φ' (sg h') v u := by
  unfold vCallA at e
  obtain ⟨⟨c, cs⟩, e1, e⟩ := bO_eq e
  obtain ⟨os, e2, e⟩ := bO_eq e
  obtain ⟨r, e3, e⟩ := bO_eq e
  have hfr := okA_run S hf
  cases hg : ev s.t g with
  | clo c' cs' =>
    rw [hg] at e1 hfr
    injection e1 with e1; injection e1 with e6 e7; subst e6; subst e7
    obtain ⟨vs, v1, v2, v3⟩ := clo_inv hfr
    obtain ⟨l1, l2⟩ := okAs_run S hx
    have hrun : (execOp a.eval o).run P w = (callFunc c' (k.args.map a.eval ++ vs)).run P w := by
      simp only [execOp, ho, resolve, hk, v1, Deferred.ofValue, Sem.run_bind, Sem.run_pure, Result.andThen_ok, invoke]
      simp
    rw [hrun]
    have hsz : (k.args.map a.eval ++ vs).toList.length = (evs s.t xs ++ cs').length := by
      simp only [Array.toList_append, Array.toList_map, List.length_append, l1]
      simp [v2]
    have hrel : ∀ (j : Nat) (d : D) (v : Value), (evs s.t xs ++ cs')[j]? = some d → (k.args.map a.eval ++ vs)[j]? = some v → R w (Mx X.M0 φ s.h) φ (sg s.h) d v := by
      intro j d v q1 q2
      rw [← Array.getElem?_toList] at q2
      simp only [Array.toList_append, Array.toList_map] at q2
      by_cases hj : j < (evs s.t xs).length
      · rw [List.getElem?_append_left hj] at q1
        rw [List.getElem?_append_left (by rw [l1]; exact hj)] at q2
        exact l2 j d v q1 q2
      · rw [List.getElem?_append_right (by omega)] at q1
        rw [List.getElem?_append_right (by rw [l1]; omega), l1] at q2
        exact v3 _ d v q1 (by simpa using q2)
    have hres : resA (nm d) s.h r = (v, h') ∧ (r.2 ≠ none → getO s.h (nm d) = none) := by
      obtain ⟨r1, r2⟩ := r
      cases r2 with
      | none => injection e with e; exact ⟨e, fun q => absurd rfl q⟩
      | some ob =>
        rw [joinA_some] at e
        obtain ⟨e8, e9⟩ := gd_eq e
        injection e9 with e9
        exact ⟨e9, fun _ => fresh_spec e8⟩
    have := hT.a c' _ os r e3 s.h ex e2 X.M0 φ (k.args.map a.eval ++ vs) w S.lt S.hp (by rw [← hsz]; simp) hrel (nm d) hres.2
    rw [hres.1] at this
    exact this
  | _ => rw [hg] at e1; cases e1

theorem vCallF_callH {t : List (Nat × D)} {h : List (Nat × Ob)} {d : Nat} {ex : List Nat} {fr : List A} {g : A} {xs : List A} {r : VH} (e : vCallF T t h d ex fr g xs = some r) : vCallH T t h d g xs = some r := by
  unfold vCallF at e
  obtain ⟨c, e1, e⟩ := bO_eq e
  obtain ⟨_, e⟩ := gd_eq e
  unfold vCallH; rw [e1]; exact e
theorem vLoadF_load {h : List (Nat × Ob)} {ty : Nat} {a r d : D} (e : vLoadF τ h ty a r = some d) : vLoad τ h ty a = some d := (gd_eq e).2
theorem vLoadR_load {ty : Nat} {a d : D} (e : vLoadR τ ty a = some d) (h : List (Nat × Ob)) : vLoad τ h ty a = some d := by
  unfold vLoadR at e
  cases a with
  | ptr l i j => cases e
  | rop cs => exact e
  | _ => cases e
theorem vIndexR_index {ty : Nat} {x i d : D} (e : vIndexR τ ty x i = some d) (h : List (Nat × Ob)) : vIndexAddr τ h ty x i = some d := by
  unfold vIndexR at e
  cases x with
  | ro s es => cases i <;> exact e
  | _ => cases e
theorem fillE_any {t : List (Nat × D)} {sz : Nat} : ∀ {ps : List (Nat × A)} {n : Nat} {es h'}, fillE t [] sz n ps = some (es, h') → h' = [] ∧ ∀ h, fillE t h sz n ps = some (es, h)
  | [], n, es, h', e => by cases e; exact ⟨rfl, fun h => rfl⟩
  | (i, x) :: ps, n, es, h', e => by
    rw [fillE_cons] at e
    obtain ⟨e0, e⟩ := gd_eq e
    obtain ⟨⟨y, h2⟩, q1, e⟩ := bO_eq e
    obtain ⟨⟨z, h3⟩, q2, e⟩ := bO_eq e
    injection e with e; injection e with e3 e4; subst e3; subst e4
    obtain ⟨r1, r2⟩ := lowL_any q1
    subst r1
    obtain ⟨r3, r4⟩ := fillE_any q2
    exact ⟨r3, fun h => by rw [fillE_cons, e0, gd_true, r2 h]; simp only [bO_some]; rw [r4 h]; rfl⟩
theorem vBuildSliceP_build {t : List (Nat × D)} {h : List (Nat × Ob)} {d ty n : Nat} {ps : List (Nat × A)} {r : VH} (e : vBuildSliceP τ t h d ty n ps = some r) : vBuildSlice τ t h d ty n ps = some r := by
  rw [vBuildSliceP_def] at e
  obtain ⟨ti, e1, e⟩ := bO_eq e
  obtain ⟨te, e2, e⟩ := bO_eq e
  obtain ⟨ie, e3, e⟩ := bO_eq e
  obtain ⟨⟨q, h2⟩, e4, e⟩ := bO_eq e
  obtain ⟨e5, e⟩ := gd_eq e
  rw [vBuildSlice_def, e1]; simp only [bO_some]; rw [e2]; simp only [bO_some]; rw [e3]; simp only [bO_some]
  simp only [← Bool.and_assoc] at e5
  rw [e5, gd_true, (fillE_any e4).2 h]
  exact e

include hτ hT in
theorem stepV_sound (S : SimW X φ a w s) {o : Oper} {c : Cop} (ho : okCop τ o.op c = true) {d : Nat} {v : D} {h' : List (Nat × Ob)} (e : stepV τ T s.t s.h d c = some (v, h')) :
    Yld P ((execOp a.eval o).run P w) fun u w' => ∃ φ', Nx X.M0 φ s.h w φ' h' w' ∧ R w' (Mx X.M0 φ' h') φ' (sg h') v u := by
  cases hop : o.op with
  | move x =>
    rw [hop] at ho
    cases c <;> simp only [okCop] at ho <;> try cases ho
    simp only [stepV] at e
    injection e with e; injection e with e1 e2; subst e1; subst e2
    exact yld_same S ⟨_, by simp [execOp, hop], okA_run S ho⟩
  | assign x =>
    rw [hop] at ho
    cases c <;> simp only [okCop] at ho <;> try cases ho
    simp only [stepV] at e
    injection e with e; injection e with e1 e2; subst e1; subst e2
    exact yld_same S ⟨_, by simp [execOp, hop], okA_run S ho⟩
  | pick x y z =>
    rw [hop] at ho
    cases c <;> simp only [okCop] at ho <;> try cases ho
    rename_i p q r
    simp only [Bool.and_eq_true] at ho
    simp only [stepV] at e
    have hc := okA_run S ho.1
    cases hb : ev s.t p with
    | bool b =>
      rw [hb] at e hc
      have hcv := hc.bool_inv
      cases b with
      | true =>
        injection e with e; injection e with e1 e2; subst e1; subst e2
        exact yld_same S ⟨_, by simp [execOp, hop, hcv, asBool], okA_run S ho.2.1⟩
      | false =>
        injection e with e; injection e with e1 e2; subst e1; subst e2
        exact yld_same S ⟨_, by simp [execOp, hop, hcv, asBool], okA_run S ho.2.2⟩
    | _ => rw [hb] at e; cases e
  | alloc e0 =>
    rw [hop] at ho
    cases c <;> simp only [okCop] at ho <;> try cases ho
    simp only [beq_iff_eq] at ho; subst ho
    obtain ⟨u, w', φ', h1, h2, h3⟩ := vAlloc_run hτ S.lt S.hp e
    exact yld_new ⟨u, w', φ', by simp [execOp, hop, h1], h2, h3⟩
  | box e0 x =>
    rw [hop] at ho
    cases c <;> simp only [okCop] at ho <;> try cases ho
    simp only [Bool.and_eq_true, beq_iff_eq] at ho
    obtain ⟨rfl, ho⟩ := ho
    obtain ⟨u, w', φ', h1, h2, h3⟩ := vBox_run hτ S.lt S.hp (okA_run S ho) e
    exact yld_new ⟨u, w', φ', by simp [execOp, hop, h1], h2, h3⟩
  | build t ps =>
    rw [hop] at ho
    cases c <;> simp only [okCop] at ho <;> try cases ho
    rename_i t' qs
    simp only [Bool.and_eq_true, beq_iff_eq] at ho
    obtain ⟨rfl, h1, h2⟩ := ho
    obtain ⟨p1, p2⟩ := okPs_run S h2
    simp only [stepV] at e
    obtain ⟨e1, rfl⟩ := onlyV_eq e
    have hst : ∃ ti fs, τ t = some ti ∧ ti.k = .struct fs := by
      unfold isStruct at h1
      split at h1
      · rename_i i hi
        split at h1
        · rename_i fs hk; exact ⟨i, fs, hi, hk⟩
        · cases h1
      · cases h1
    obtain ⟨u, r1, r2⟩ := vBuild_run (w := w) (M := Mx X.M0 φ s.h) (φ := φ) (σ := sg s.h) hτ e1 (qs := ps.map fun x => (x.1, a.eval x.2)) (by simpa using p1) (fun j p q q1 q2 => by
      obtain ⟨g1, g2⟩ := p2 j p q q1 (by rw [← Array.toList_map, Array.getElem?_toList]; exact q2)
      exact ⟨g1, g2⟩) hst
    exact yld_same S ⟨u, by simp [execOp, hop, r1], r2⟩
  | buildSlice t n ps =>
    rw [hop] at ho
    have key : ∀ t' n' qs, (t == t' && (n == n' && okPs ps.toList qs)) = true → vBuildSlice τ s.t s.h d t' n' qs = some (v, h') → Yld P ((execOp a.eval o).run P w) fun u w' => ∃ φ', Nx X.M0 φ s.h w φ' h' w' ∧ R w' (Mx X.M0 φ' h') φ' (sg h') v u := by
      intro t' n' qs ho e
      simp only [Bool.and_eq_true, beq_iff_eq] at ho
      obtain ⟨rfl, rfl, h2⟩ := ho
      obtain ⟨p1, p2⟩ := okPs_run S h2
      obtain ⟨u, w', φ', r1, r2, r3⟩ := vBuildSlice_run hτ S.lt S.hp e (qs := ps.map fun x => (x.1, a.eval x.2)) (by simpa using p1) (fun j p q q1 q2 => p2 j p q q1 (by rw [← Array.toList_map, Array.getElem?_toList]; exact q2))
      exact yld_new ⟨u, w', φ', by simp [execOp, hop, r1], r2, r3⟩
    cases c <;> simp only [okCop] at ho <;> try cases ho
    · exact key _ _ _ ho e
    · exact key _ _ _ ho (vBuildSliceP_build e)
    · simp only [Bool.and_eq_true, beq_iff_eq] at ho
      obtain ⟨rfl, rfl, h2⟩ := ho
      obtain ⟨p1, p2⟩ := okPs_run S h2
      obtain ⟨u, w', φ', r1, r2, r3⟩ := vBuildSliceB_run hτ S.lt S.hp e (qs := ps.map fun x => (x.1, a.eval x.2)) (by simpa using p1) (fun j p q q1 q2 => p2 j p q q1 (by rw [← Array.toList_map, Array.getElem?_toList]; exact q2))
      exact yld_new ⟨u, w', φ', by simp [execOp, hop, r1], r2, r3⟩
  | load t x =>
    rw [hop] at ho
    have key : ∀ t' y, (t == t' && okA x y) = true → h' = s.h → vLoad τ s.h t' (ev s.t y) = some v → Yld P ((execOp a.eval o).run P w) fun u w' => ∃ φ', Nx X.M0 φ s.h w φ' h' w' ∧ R w' (Mx X.M0 φ' h') φ' (sg h') v u := by
      intro t' y ho hh e1
      subst hh
      simp only [Bool.and_eq_true, beq_iff_eq] at ho
      obtain ⟨rfl, ho⟩ := ho
      obtain ⟨u, r1, r2⟩ := vLoad_run hτ S.hp (okA_run S ho) e1
      exact yld_same S ⟨u, by simp [execOp, hop, r1], r2⟩
    cases c <;> simp only [okCop] at ho <;> try cases ho
    all_goals simp only [stepV] at e
    all_goals obtain ⟨e1, e2⟩ := onlyV_eq e
    · exact key _ _ ho e2 e1
    · exact key _ _ ho e2 (vLoadF_load e1)
    · exact key _ _ ho e2 (vLoadR_load e1 _)
  | nilCheck x =>
    rw [hop] at ho
    cases c <;> simp only [okCop] at ho <;> try cases ho
    simp only [stepV] at e
    obtain ⟨e1, rfl⟩ := onlyV_eq e
    obtain ⟨r1, r2⟩ := vNil_run (P := P) o x a.eval rfl hop e1 (okA_run S ho)
    exact yld_same S ⟨_, r1, r2⟩
  | binOp op t x y t2 =>
    rw [hop] at ho
    cases c <;> simp only [okCop] at ho <;> try cases ho
    simp only [Bool.and_eq_true, beq_iff_eq, decide_eq_true_eq] at ho
    obtain ⟨rfl, rfl, h1, h2⟩ := ho
    simp only [stepV] at e
    obtain ⟨e1, rfl⟩ := onlyV_eq e
    obtain ⟨u, r1, r2⟩ := vBin_run hτ x y e1 (okA_run S h1) (okA_run S h2)
    exact yld_same S ⟨u, by simp only [execOp, hop, Sem.run_bind] at r1 ⊢; rw [r1]; rfl, r2⟩
  | unOp op t x =>
    rw [hop] at ho
    cases c <;> simp only [okCop] at ho <;> try cases ho
    simp only [Bool.and_eq_true, beq_iff_eq, decide_eq_true_eq] at ho
    obtain ⟨rfl, h1⟩ := ho
    simp only [stepV] at e
    obtain ⟨e1, rfl⟩ := onlyV_eq e
    obtain ⟨u, r1, r2⟩ := vUn_run (P := P) e1 (okA_run S h1)
    exact yld_same S ⟨u, by simp [execOp, hop, r1], r2⟩
  | convert t1 t2 x =>
    rw [hop] at ho
    cases c <;> simp only [okCop] at ho <;> try cases ho
    simp only [Bool.and_eq_true, beq_iff_eq, Option.isSome_iff_exists] at ho
    obtain ⟨⟨ti, h0⟩, rfl, h1⟩ := ho
    simp only [stepV] at e
    obtain ⟨e1, rfl⟩ := onlyV_eq e
    obtain ⟨dd, k1, _⟩ := (hτ _ _ h0).und
    obtain ⟨u, r1, r2⟩ := vConv_run hτ k1 e1 (okA_run S h1)
    exact yld_same S ⟨u, by simp [execOp, hop, r1], r2⟩
  | makeSlice t l k =>
    rw [hop] at ho
    cases c <;> simp only [okCop] at ho <;> try cases ho
    simp only [Bool.and_eq_true, beq_iff_eq] at ho
    obtain ⟨rfl, h1, h2⟩ := ho
    obtain ⟨u, w', φ', r1, r2, r3⟩ := vMake_run hτ S.lt S.hp (okA_run S h1) (okA_run S h2) e
    exact yld_new ⟨u, w', φ', by simp [execOp, hop, r1], r2, r3⟩
  | slice t x lo hi mx =>
    rw [hop] at ho
    cases c <;> simp only [okCop] at ho <;> try cases ho
    · rename_i t' y l k
      simp only [Bool.and_eq_true, beq_iff_eq, Option.isNone_iff_eq_none] at ho
      obtain ⟨rfl, h1, h2, h3, rfl⟩ := ho
      simp only [stepV] at e
      obtain ⟨e1, rfl⟩ := onlyV_eq e
      obtain ⟨n, e2, e1⟩ := bO_eq e1
      obtain ⟨lo', e3, e1⟩ := bO_eq e1
      obtain ⟨hi', e4, e1⟩ := bO_eq e1
      have hx := okA_run S h1
      have k1 := okM_lo (S := S) e3 h2
      have k2 := okM_lo (S := S) e4 h3
      obtain ⟨u, r1, r2⟩ := vSl_run hτ S.hp hx e1 e2 k1 k2
      exact yld_same S ⟨u, by simp [execOp, hop, r1], r2⟩
    · rename_i t' y l k m
      simp only [Bool.and_eq_true, beq_iff_eq] at ho
      obtain ⟨rfl, h1, h2, h3, h4⟩ := ho
      simp only [stepV] at e
      obtain ⟨e1, rfl⟩ := onlyV_eq e
      obtain ⟨lo', e2, e1⟩ := bO_eq e1
      obtain ⟨hi', e3, e1⟩ := bO_eq e1
      obtain ⟨mx', e4, e1⟩ := bO_eq e1
      have hx := okA_run S h1
      have k1 := okM_lo (S := S) e2 h2
      have one : ∀ {q : Option Operand} {y : A} {n : Nat}, okM q (some y) = true → natD (ev s.t y) = some n → ∃ k i, q.map a.eval = some (.int k i) ∧ 0 ≤ i ∧ i.toNat = n := by
        intro q y n hq hn
        rcases okM_lo (S := S) (y := some y) (d := 0) hn hq with ⟨g, _⟩ | g
        · cases q with
          | none => cases hq
          | some q => cases g
        · exact g
      obtain ⟨ka, ia, a1, a2, a3⟩ := one h3 e3
      obtain ⟨kb, ib, b1, b2, b3⟩ := one h4 e4
      obtain ⟨u, r1, r2⟩ := vSl3_run hτ S.hp hx e1 (k2 := ka) (k3 := kb) (n2 := ia) (n3 := ib) k1 ⟨a2, a3⟩ ⟨b2, b3⟩
      exact yld_same S ⟨u, by simp [execOp, hop, a1, b1, r1], r2⟩
  | makeFunc fn first cap =>
    rw [hop] at ho
    cases c <;> simp only [okCop] at ho <;> try cases ho
    rename_i g as
    simp only [Bool.and_eq_true, beq_iff_eq] at ho
    obtain ⟨h0, h1, h2⟩ := ho
    have hfn : fn = .func g := by
      cases fn <;> simp only at h0 <;> try cases h0
      simp only [beq_iff_eq] at h0; rw [h0]
    subst hfn
    simp only [stepV] at e
    injection e with e; injection e with e1 e2; subst e1; subst e2
    obtain ⟨l1, l2⟩ := okAs_run S h2
    have hfe : first = #[] := Array.eq_empty_of_size_eq_zero h1
    subst hfe
    refine yld_same S ⟨.func (.func g) #[] (cap.map a.eval), by simp [execOp, hop, Instr.makeFunc], .clo _ _ _ (by rw [← l1]; simp) (fun j d v q1 q2 => l2 j d v q1 ?_)⟩
    rw [← Array.getElem?_toList, Array.toList_map] at q2
    exact q2
  | fieldAddr t x f =>
    rw [hop] at ho
    cases c <;> simp only [okCop] at ho <;> try cases ho
    simp only [Bool.and_eq_true, beq_iff_eq] at ho
    obtain ⟨rfl, h1, rfl⟩ := ho
    simp only [stepV] at e
    obtain ⟨e1, rfl⟩ := onlyV_eq e
    obtain ⟨u, r1, r2⟩ := vFieldAddr_run hτ (okA_run S h1) e1
    exact yld_same S ⟨u, by simp [execOp, hop, r1], r2⟩
  | field t x f =>
    rw [hop] at ho
    cases c <;> simp only [okCop] at ho <;> try cases ho
    simp only [Bool.and_eq_true, beq_iff_eq] at ho
    obtain ⟨rfl, h1, rfl⟩ := ho
    simp only [stepV] at e
    obtain ⟨e1, rfl⟩ := onlyV_eq e
    obtain ⟨u, r1, r2⟩ := vField_run hτ (okA_run S h1) e1
    exact yld_same S ⟨u, by simp [execOp, hop, r1], r2⟩
  | indexAddr t x i =>
    rw [hop] at ho
    have key : ∀ t' y z, (t == t' && (okA x y && okA i z)) = true → h' = s.h → vIndexAddr τ s.h t' (ev s.t y) (ev s.t z) = some v → Yld P ((execOp a.eval o).run P w) fun u w' => ∃ φ', Nx X.M0 φ s.h w φ' h' w' ∧ R w' (Mx X.M0 φ' h') φ' (sg h') v u := by
      intro t' y z ho hh e1
      subst hh
      simp only [Bool.and_eq_true, beq_iff_eq] at ho
      obtain ⟨rfl, h1, h2⟩ := ho
      obtain ⟨u, r1, r2⟩ := vIndexAddr_run hτ S.hp (okA_run S h1) (okA_run S h2) e1
      exact yld_same S ⟨u, by simp [execOp, hop, r1], r2⟩
    cases c <;> simp only [okCop] at ho <;> try cases ho
    all_goals simp only [stepV] at e
    all_goals obtain ⟨e1, e2⟩ := onlyV_eq e
    · exact key _ _ _ ho e2 (vIndexR_index e1 _)
    · exact key _ _ _ ho e2 e1
  | index t x i =>
    rw [hop] at ho
    cases c <;> simp only [okCop] at ho <;> try cases ho
    rename_i t' tbl y
    simp only [Bool.and_eq_true, beq_iff_eq] at ho
    obtain ⟨rfl, h1, h2, h3⟩ := ho
    simp only [stepV] at e
    obtain ⟨e1, rfl⟩ := onlyV_eq e
    unfold isStr at h1
    split at h1
    · rename_i ti hti
      split at h1
      · rename_i hk
        unfold isText at h2
        split at h2
        · rename_i s
          obtain ⟨u, r1, r2⟩ := vStrI_run hτ hti hk s (by simpa using h2) (okA_run S h3) e1
          exact yld_same S ⟨u, by
            have hx : ∀ a : Act, a.eval (.const (.string s)) = .string s := fun _ => rfl
            simp only [execOp, hop, hx, Sem.run_bind, r1]; rfl, r2⟩
        · cases h2
      · cases h1
    · cases h1
  | extract x i =>
    rw [hop] at ho
    cases c <;> simp only [okCop] at ho <;> try cases ho
    simp only [Bool.and_eq_true, beq_iff_eq] at ho
    obtain ⟨h1, rfl⟩ := ho
    simp only [stepV] at e
    obtain ⟨e1, rfl⟩ := onlyV_eq e
    obtain ⟨u, r1, r2⟩ := vExtract_run (P := P) e1 (okA_run S h1)
    exact yld_same S ⟨u, by simp [execOp, hop, r1], r2⟩
  | call k =>
    rw [hop] at ho
    simp only [okCop, okCall] at ho
    cases hk : k.callee with
    | value f =>
      rw [hk] at ho
      cases c <;> simp only at ho <;> try cases ho
      · simp only [Bool.and_eq_true] at ho
        exact vCallA_run hT S hk ho.1 ho.2 e hop
      · simp only [Bool.and_eq_true] at ho
        exact vCallH_run hT S hk ho.1 ho.2 (vCallF_callH e) hop
      · simp only [Bool.and_eq_true] at ho
        exact vCall_run hT S hk ho.1 ho.2 e hop
      · simp only [Bool.and_eq_true] at ho
        exact vCallH_run hT S hk ho.1 ho.2 e hop
      · simp only [Bool.and_eq_true] at ho
        simp only [stepV] at e
        obtain ⟨e1, rfl⟩ := onlyV_eq e
        exact vCall_run hT S hk ho.1 ho.2 (vCallP_call e1 s.h) hop
    | invoke r m => rw [hk] at ho; cases ho
    | builtin b =>
      rw [hk] at ho
      have hargs : ∀ (n : List A), okAs k.args.toList n = true → (k.args.map a.eval).toList.length = n.length := fun n hn => by
        have := (okAs_run S hn).1
        rw [Array.toList_map, this]
        clear this hn
        induction n with
        | nil => rfl
        | cons x n ih => simp [evs, ih]
      have one : ∀ (y : A), okAs k.args.toList [y] = true → ∃ u, k.args.map a.eval = #[u] ∧ R w (Mx X.M0 φ s.h) φ (sg s.h) (ev s.t y) u := by
        intro y hy
        obtain ⟨l1, l2⟩ := okAs_run S hy
        match hq : (k.args.toList.map a.eval), l1, l2 with
        | [u], _, l2 => exact ⟨u, by apply Array.ext'; rw [Array.toList_map, hq], l2 0 _ u rfl rfl⟩
      have two : ∀ (y z : A), okAs k.args.toList [y, z] = true → ∃ u u', k.args.map a.eval = #[u, u'] ∧ R w (Mx X.M0 φ s.h) φ (sg s.h) (ev s.t y) u ∧ R w (Mx X.M0 φ s.h) φ (sg s.h) (ev s.t z) u' := by
        intro y z hy
        obtain ⟨l1, l2⟩ := okAs_run S hy
        match hq : (k.args.toList.map a.eval), l1, l2 with
        | [u, u'], _, l2 => exact ⟨u, u', by apply Array.ext'; rw [Array.toList_map, hq], l2 0 _ u rfl rfl, l2 1 _ u' rfl rfl⟩
      cases b <;> simp only at ho <;> try cases ho
      · -- append
        cases c <;> simp only at ho <;> try cases ho
        simp only [Bool.and_eq_true, beq_iff_eq] at ho
        obtain ⟨u, u', q1, q2, q3⟩ := two _ _ ho.2
        obtain ⟨v', w', φ', r1, r2, r3⟩ := vAppend_run hτ S.lt S.hp q2 q3 e o.type
        have hts : k.argTypes = #[_, _] := Array.ext' ho.1
        exact yld_new ⟨v', w', φ', by simp only [execOp, hop, resolve, hk, Sem.run_bind, Sem.run_pure, Result.andThen_ok, invoke, builtin, q1, hts, r1], r2, r3⟩
      · -- clear
        cases c <;> simp only at ho <;> try cases ho
        simp only [Bool.and_eq_true, beq_iff_eq] at ho
        obtain ⟨u, q1, q2⟩ := one _ ho.2
        simp only [stepV] at e
        obtain ⟨h2, e1, e2⟩ := bO_eq e
        injection e2 with e2; injection e2 with e3 e4; subst e3; subst e4
        obtain ⟨w', r1, r2⟩ := vClear_run hτ o.type S.hp q2 e1
        have hts : k.argTypes = #[_] := Array.ext' ho.1
        exact yld_new ⟨.tuple #[], w', φ, by simp only [execOp, hop, resolve, hk, Sem.run_bind, Sem.run_pure, Result.andThen_ok, invoke, builtin, q1, hts, r1], r2, .tup [] #[] rfl (by simp)⟩
      · -- copy
        cases c <;> simp only at ho <;> try cases ho
        rename_i t' ym yk
        have hat : ∃ t2, k.argTypes = #[t', t2] ∧ okAs k.args.toList [ym, yk] = true := by
          split at ho
          · rename_i t1 t2 hts
            simp only [Bool.and_eq_true, beq_iff_eq] at ho
            obtain ⟨rfl, ho⟩ := ho
            exact ⟨t2, Array.ext' hts, ho⟩
          · cases ho
        obtain ⟨t2, hts, ho⟩ := hat
        obtain ⟨u, u', q1, q2, q3⟩ := two _ _ ho
        obtain ⟨v', w', r1, r2, r3⟩ := vCopy_run hτ (sT := t2) o.type S.hp q2 q3 e
        exact yld_new ⟨v', w', φ, by simp only [execOp, hop, resolve, hk, Sem.run_bind, Sem.run_pure, Result.andThen_ok, invoke, builtin, q1, hts, r1], r2, r3⟩
      · -- delete
        cases c <;> simp only at ho <;> try cases ho
        rename_i t' ym yk
        have hat : ∃ t2, k.argTypes = #[t', t2] ∧ okAs k.args.toList [ym, yk] = true := by
          split at ho
          · rename_i t1 t2 hts
            simp only [Bool.and_eq_true, beq_iff_eq] at ho
            obtain ⟨rfl, ho⟩ := ho
            exact ⟨t2, Array.ext' hts, ho⟩
          · cases ho
        obtain ⟨t2, hts, ho⟩ := hat
        obtain ⟨u, u', q1, q2, q3⟩ := two _ _ ho
        simp only [stepV] at e
        obtain ⟨h2, e1, e2⟩ := bO_eq e
        injection e2 with e2; injection e2 with e3 e4; subst e3; subst e4
        obtain ⟨w', r1, r2⟩ := vDelete_run hτ o.type S.hp q2 q3 t2 e1
        exact yld_new ⟨.tuple #[], w', φ, by simp only [execOp, hop, resolve, hk, Sem.run_bind, Sem.run_pure, Result.andThen_ok, invoke, builtin, q1, hts, r1], r2, .tup [] #[] rfl (by simp)⟩
      · -- len
        cases c <;> simp only at ho <;> try cases ho
        rotate_left
        · simp only [Bool.and_eq_true, beq_iff_eq] at ho
          obtain ⟨u, q1, q2⟩ := one _ ho.2
          simp only [stepV] at e
          obtain ⟨e1, rfl⟩ := onlyV_eq e
          obtain ⟨u', r1, r2⟩ := vMlen_run hτ o.type S.hp q2 e1
          have hts : k.argTypes = #[_] := Array.ext' ho.1
          exact yld_same S ⟨u', by simp only [execOp, hop, resolve, hk, Sem.run_bind, Sem.run_pure, Result.andThen_ok, invoke, builtin, q1, hts, r1], r2⟩
        simp only [Bool.and_eq_true, beq_iff_eq] at ho
        obtain ⟨u, q1, q2⟩ := one _ ho.2.2
        simp only [stepV] at e
        obtain ⟨e1, rfl⟩ := onlyV_eq e
        have hsl := ho.1
        unfold isSlice at hsl
        split at hsl
        · rename_i i hi
          obtain ⟨te, hte⟩ := Option.isSome_iff_exists.1 hsl
          obtain ⟨u', r1, r2⟩ := vLen_run hτ hi hte o.type e1 q2
          have hts : k.argTypes = #[_] := Array.ext' ho.2.1
          exact yld_same S ⟨u', by simp only [execOp, hop, resolve, hk, Sem.run_bind, Sem.run_pure, Result.andThen_ok, invoke, builtin, q1, hts, r1], r2⟩
        · cases hsl
      · -- max
        cases c <;> simp only at ho <;> try cases ho
        obtain ⟨u, u', q1, q2, q3⟩ := two _ _ ho
        simp only [stepV] at e
        obtain ⟨e1, rfl⟩ := onlyV_eq e
        obtain ⟨v', r1, r2⟩ := vMax_run (P := P) (w := w) k.argTypes o.type e1 q2 q3
        exact yld_same S ⟨v', by simp only [execOp, hop, resolve, hk, Sem.run_bind, Sem.run_pure, Result.andThen_ok, invoke, builtin, q1, r1], r2⟩
      · -- min
        cases c <;> simp only at ho <;> try cases ho
        obtain ⟨u, u', q1, q2, q3⟩ := two _ _ ho
        simp only [stepV] at e
        obtain ⟨e1, rfl⟩ := onlyV_eq e
        obtain ⟨v', r1, r2⟩ := vMin_run (P := P) (w := w) k.argTypes o.type e1 q2 q3
        exact yld_same S ⟨v', by simp only [execOp, hop, resolve, hk, Sem.run_bind, Sem.run_pure, Result.andThen_ok, invoke, builtin, q1, r1], r2⟩
  | store t x y =>
    rw [hop] at ho
    cases c <;> simp only [okCop] at ho <;> try cases ho
    all_goals (simp only [stepV] at e; cases e)
  | mapUpdate t m k x =>
    rw [hop] at ho
    cases c <;> simp only [okCop] at ho <;> try cases ho
    simp only [stepV] at e; cases e
  | insert t m k x =>
    rw [hop] at ho
    cases c <;> simp only [okCop] at ho <;> try cases ho
    simp only [stepV] at e; cases e
  | makeMap t r =>
    rw [hop] at ho
    cases c <;> simp only [okCop] at ho <;> try cases ho
    simp only [Bool.and_eq_true, beq_iff_eq, Option.isNone_iff_eq_none] at ho
    obtain ⟨rfl, rfl⟩ := ho
    obtain ⟨u, w', φ', r1, r2, r3⟩ := vMakeMap_run (P := P) S.lt S.hp e
    exact yld_new ⟨u, w', φ', by simp [execOp, hop, r1], r2, r3⟩
  | lookup t x i ok =>
    rw [hop] at ho
    cases c <;> simp only [okCop] at ho <;> try cases ho
    simp only [Bool.and_eq_true, beq_iff_eq] at ho
    obtain ⟨rfl, rfl, h1, h2⟩ := ho
    simp only [stepV] at e
    obtain ⟨e1, rfl⟩ := onlyV_eq e
    obtain ⟨u, r1, r2⟩ := vLookup_run hτ S.hp (okA_run S h1) (okA_run S h2) e1
    exact yld_same S ⟨u, by simp [execOp, hop, r1], r2⟩
  | _ => rw [hop] at ho; simp only [okCop] at ho; cases ho

end
end Go.Proofs.Ytemcdpkiphmndaa.Ab
