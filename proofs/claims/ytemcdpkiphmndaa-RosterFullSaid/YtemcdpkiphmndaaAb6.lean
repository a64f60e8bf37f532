/- Ab6: numbers, bools, comparisons, slices' bounds: the machine's answer is what the interpreter tells. -/
import Derived.Test.YtemcdpkiphmndaaAb5
import Derived.Laws.StructEq
set_option linter.unusedSimpArgs false
set_option linter.unusedVariables false
namespace Go.Proofs.Ytemcdpkiphmndaa.Ab

section
variable {P : Program} {τ : Nat → Option TI} (hτ : ∀ t i, τ t = some i → TIok P t i)
variable {w : World} {M0 : Nat → Prop} {φ : Nat → Nat} {h : List (Nat × Ob)} {M : Nat → Prop} {σ : Nat → Option Nat}

theorem TIok.bool {t i} (x : TIok P t i) (hk : i.k = .bool) : P.underlying t = some .bool := by
  obtain ⟨d, h1, h2⟩ := x.und
  rw [hk] at h2
  cases d <;> simp [descOk] at h2
  exact h1

include hτ in
theorem eqFields_run (d : Nat) (xs ys : Array Value) : ∀ (gs : List Field) (fs : List (Nat × Nat × Nat)) (k : Nat) (a b : List D) (r : Bool), gs.length = fs.length →
    (∀ (f : Nat) p, fs[f]? = some p → ∃ g, gs[f]? = some g ∧ g.offset = p.1 ∧ g.type = p.2.2 ∧ g.name ≠ "_") → eqF τ fs k a b = some r →
    (∀ (j : Nat) (x : D), a[j]? = some x → ∃ u, xs[k + j]? = some u ∧ R w M φ σ x u) → (∀ (j : Nat) (x : D), b[j]? = some x → ∃ u, ys[k + j]? = some u ∧ R w M φ σ x u) →
    (Op.eqFields (d + 1) xs ys gs).run P w = .ok r w
  | [], fs, k, a, b, r, hl, _, he, _, _ => by
    have : fs = [] := List.eq_nil_of_length_eq_zero hl.symm
    subst this
    unfold eqF at he
    split at he
    · cases he; simp [Op.eqFields]
    · rename_i h1 _ _; cases h1
    · cases he
  | g :: gs, [], k, a, b, r, hl, _, _, _, _ => by simp at hl
  | g :: gs, (o, s, t) :: fs, k, [], b, r, _, _, he, _, _ => by cases he
  | g :: gs, (o, s, t) :: fs, k, _ :: _, [], r, _, _, he, _, _ => by cases he
  | g :: gs, (o, s, t) :: fs, k, x :: a, y :: b, r, hl, hf, he, hx, hy => by
    rw [eqF_cons] at he
    obtain ⟨hb, q1⟩ := gd_eq he
    clear he
    simp only [Bool.and_eq_true, beq_iff_eq] at hb
    obtain ⟨rfl, rfl⟩ := hb
    obtain ⟨ti, ht, q2⟩ := bO_eq q1
    obtain ⟨e1, he1, q3⟩ := bO_eq q2
    obtain ⟨e2, he2, q4⟩ := bO_eq q3
    injection q4 with q4; subst q4
    clear q1 q2 q3
    obtain ⟨g', g1, g2, g3, g4⟩ := hf 0 _ rfl
    simp at g1; subst g1
    have X := hτ _ _ ht
    obtain ⟨u, u1, u2⟩ := hx 0 x rfl
    obtain ⟨v, v1, v2⟩ := hy 0 y rfl
    have ih := eqFields_run d xs ys gs fs (o + 1) a b e2 (by simpa using hl) (fun f p hp => by
      obtain ⟨g', a1, a2⟩ := hf (f + 1) p (by simpa using hp)
      exact ⟨g', by simpa using a1, a2⟩) he2 (fun j z hz => by
      have := hx (j + 1) z (by simpa using hz)
      rwa [show o + (j + 1) = o + 1 + j from by omega] at this) (fun j z hz => by
      have := hy (j + 1) z (by simpa using hz)
      rwa [show o + (j + 1) = o + 1 + j from by omega] at this)
    simp only [Nat.add_zero] at u1 v1
    simp only at g2 g3
    have hpe : ti.isAgg = false ∧ (Op.equalIn (d + 1) g.type u v).run P w = .ok e1 w := by
      rw [g3]
      unfold eqC at he1
      split at he1
      · rename_i q a' q' b'
        split at he1
        · rename_i q2 hk
          obtain ⟨c1, c2⟩ := gd_eq he1
          injection c2 with c2; subst c2
          have := u2.int_inv; have := v2.int_inv; subst u; subst v
          have hq : q = q' := by simpa using c1
          subst hq
          exact ⟨by simp [TI.isAgg, hk], run_equalIn_int w d t q q2 a' b' (X.int hk)⟩
        · cases he1
      · rename_i a' b'
        split at he1
        · rename_i hk
          injection he1 with he1; subst he1
          have := u2.bool_inv; have := v2.bool_inv; subst u; subst v
          exact ⟨by simp [TI.isAgg, hk], run_equalIn_bool' w d t a' b' (X.bool hk)⟩
        · cases he1
      · cases he1
    obtain ⟨hna, pe⟩ := hpe
    have pa : (part g.type xs g.offset).run P w = .ok u w := by rw [g3, g2]; simp [part, X.agg, hna, u1]
    have pb : (part g.type ys g.offset).run P w = .ok v w := by rw [g3, g2]; simp [part, X.agg, hna, v1]
    simp only [Op.eqFields, if_pos g4, Sem.run_bind, pa, pb, pe, Result.andThen_ok]
    cases e1
    · simp
    · simpa using ih

theorem own_inv {l i n v} (hr : R w M φ σ (.own l i n) v) : ∃ s c, σ l = some s ∧ v = .slice (some ⟨φ l, i * s, none⟩) n c ∧ n ≤ c := by
  cases hr with
  | imm hr => cases hr
  | own _ _ _ s c cur ty hs hc hm hw hz => exact ⟨s, c, hs, rfl, hc⟩
theorem clo_inv {f cs v} (hr : R w M φ σ (.clo f cs) v) : ∃ vs, v = .func (.func f) #[] vs ∧ vs.size = cs.length ∧ ∀ (j : Nat) (d : D) (u : Value), cs[j]? = some d → vs[j]? = some u → R w M φ σ d u := by
  cases hr with
  | imm hr => cases hr
  | clo _ _ vs hl hh => exact ⟨vs, rfl, hl, hh⟩
theorem ro_inv {s es v} (hr : R w M φ σ (.ro s es) v) : ∃ A c, v = .slice A es.length c ∧ (es.length ≤ c ∨ es = []) ∧ (es ≠ [] → ∃ b o, A = some ⟨b, o, none⟩) := by
  cases hr with
  | imm hr =>
    cases hr with
    | ro0 => exact ⟨_, _, rfl, .inr rfl, by simp⟩
    | ro _ _ b o c u hc => exact ⟨_, _, rfl, .inl hc, fun _ => ⟨b, o, rfl⟩⟩

theorem eqG_int (op : BinOp) (ty : TypeId) (x y : Operand) (k k' : IntKind) (a b : Int) : (eqGuard op ty x y (.int k a) (.int k' b)).run P w = .ok () w := by
  cases op <;> simp [eqGuard]
theorem eqG_bool (op : BinOp) (ty : TypeId) (x y : Operand) (a b : Bool) : (eqGuard op ty x y (.bool a) (.bool b)).run P w = .ok () w := by
  cases op <;> simp [eqGuard]
theorem eqG_ptr (op : BinOp) (ty : TypeId) (x y : Operand) (a b : Option Addr) : (eqGuard op ty x y (.pointer a) (.pointer b)).run P w = .ok () w := by
  cases op <;> simp [eqGuard]
theorem eqG_slice (op : BinOp) (ty : TypeId) (x y : Operand) (a b : Option Addr) (n m c d : Nat) : (eqGuard op ty x y (.slice a n c) (.slice b m d)).run P w = .ok () w := by
  cases op <;> simp [eqGuard]

theorem ibin_run {op k a b d} (ty : TypeId) (h1 : op ≠ .shl) (h2 : op ≠ .shr) (e : ibin op k a b = some d) : ∃ u, (binOp op ty (.int k a) (.int k b)).run P w = .ok u w ∧ R w M φ σ d u := by
  cases op <;> simp only [ibin] at e <;> first
    | (exact absurd rfl h1)
    | (exact absurd rfl h2)
    | (obtain ⟨e1, e2⟩ := gd_eq e; injection e2 with e2; subst e2; refine ⟨_, ?_, .imm (.int _ _)⟩; have e1' : b ≠ 0 := by simpa using e1
       simp [binOp, Op.intDiv, e1'])
    | (injection e with e; subst e; refine ⟨_, ?_, .imm (.int _ _)⟩; simp [binOp, Op.intArith, Op.intBits, iand, ior, ixor, iandn]; done)
    | (injection e with e; subst e; refine ⟨_, ?_, .imm (.bool _)⟩; simp [binOp, Op.intCmp]; done)


include hτ in
theorem vEqA_run {ty a b r va vb} (e : vEqA τ ty a b = some r) (ha : R w M φ σ (.agg a) va) (hb : R w M φ σ (.agg b) vb) :
    (Op.equalIn 10000 ty va vb).run P w = .ok r w ∧ ∃ xs ys, va = .agg xs ∧ vb = .agg ys ∧ P.eqGuardType P.depth ty = false := by
  rw [vEqA_def] at e
  obtain ⟨ti, e1, e⟩ := bO_eq e
  obtain ⟨fs, e2, e⟩ := bO_eq e
  have hk : ti.k = .struct fs := by
    unfold sfs at e2
    split at e2
    · rename_i f hk; injection e2 with e2; subst e2; exact hk
    · cases e2
  have X := hτ _ _ e1
  obtain ⟨gs, g1, g2, g3⟩ := X.struct hk
  obtain ⟨xs, rfl, x1, x2⟩ := agg_inv ha
  obtain ⟨ys, rfl, y1, y2⟩ := agg_inv hb
  refine ⟨?_, xs, ys, rfl, rfl, X.guard⟩
  have hfo : P.fieldsOf ty = gs := by simp [Program.fieldsOf, g1]
  rw [run_equalIn_struct w 9999 ty xs ys (by rw [hfo]; exact g1) X.held, hfo]
  refine eqFields_run (M := M) (φ := φ) (σ := σ) hτ 9998 xs ys gs.toList fs 0 a b r (by simpa using g2) (fun f p hp => ?_) e (fun j x hx => ?_) (fun j x hx => ?_)
  · obtain ⟨g, b1, b2, b3, b4, _⟩ := g3 f p hp
    exact ⟨g, by simpa using b1, b2, b3, b4⟩
  · have hj : j < xs.size := by have := (List.getElem?_eq_some_iff.1 hx).1; omega
    exact ⟨xs[j], by simp [hj], x2 j x _ hx (by simp [hj])⟩
  · have hj : j < ys.size := by have := (List.getElem?_eq_some_iff.1 hx).1; omega
    exact ⟨ys[j], by simp [hj], y2 j x _ hx (by simp [hj])⟩

theorem tyK_spec {n ti} (h : tyK n ti = true) : (n = 0 ∧ ti.k = .bool) ∨ (n = 1 ∧ ∃ e, ti.k = .ptr e) ∨ (n = 2 ∧ ∃ e, ti.k = .slice e) := by
  unfold tyK at h
  split at h
  · rename_i hk; exact .inl ⟨rfl, hk⟩
  · rename_i e hk; exact .inr (.inl ⟨rfl, e, hk⟩)
  · rename_i e hk; exact .inr (.inr ⟨rfl, e, hk⟩)
  · cases h
theorem TIok.ptr {t i e} (x : TIok P t i) (hk : i.k = .ptr e) : P.underlying t = some (.pointer e) := by
  obtain ⟨d, h1, h2⟩ := x.und
  rw [hk] at h2
  cases d <;> simp [descOk] at h2
  subst h2; exact h1

theorem eqIn_nn {ty e} (hu : P.underlying ty = some (.pointer e)) : (Op.equalIn 10000 ty (.pointer none) (.pointer none)).run P w = .ok true w := by
  have : ∀ d, (Op.equalIn (d + 1) ty (.pointer none) (.pointer none)).run P w = .ok true w := fun d => by simp [Op.equalIn, run_underlying hu]
  exact this 9999
theorem eqIn_pn {ty e} (a : Addr) (hu : P.underlying ty = some (.pointer e)) : (Op.equalIn 10000 ty (.pointer (some a)) (.pointer none)).run P w = .ok false w := by
  have : ∀ d, (Op.equalIn (d + 1) ty (.pointer (some a)) (.pointer none)).run P w = .ok false w := fun d => by simp [Op.equalIn, run_underlying hu]
  exact this 9999
theorem eqIn_ll {ty e} (hu : P.underlying ty = some (.slice e)) : (Op.equalIn 10000 ty (.slice none 0 0) (.slice none 0 0)).run P w = .ok true w := by
  have : ∀ d, (Op.equalIn (d + 1) ty (.slice none 0 0) (.slice none 0 0)).run P w = .ok true w := fun d => by simp [Op.equalIn, run_underlying hu]
  exact this 9999
theorem eqIn_sl {ty e} (a : Addr) (n c : Nat) (hu : P.underlying ty = some (.slice e)) : (Op.equalIn 10000 ty (.slice (some a) n c) (.slice none 0 0)).run P w = .ok false w := by
  have : ∀ d, (Op.equalIn (d + 1) ty (.slice (some a) n c) (.slice none 0 0)).run P w = .ok false w := fun d => by simp [Op.equalIn, run_underlying hu]
  exact this 9999
theorem eqIn_bb {ty} (a b : Bool) (hu : P.underlying ty = some .bool) : (Op.equalIn 10000 ty (.bool a) (.bool b)).run P w = .ok (a == b) w := run_equalIn_bool' w 9999 ty a b hu
theorem eql_of {ty va vb r} (hn : ∀ k a, va ≠ .int k a) (hf : ∀ k a, va ≠ .float k a) (hc : ∀ k a b, va ≠ .complex k a b) (hs : ∀ s, va ≠ .string s) (h : (Op.equalIn 10000 ty va vb).run P w = .ok r w) :
    (binOp .eql ty va vb).run P w = .ok (.bool r) w ∧ (binOp .neq ty va vb).run P w = .ok (.bool !r) w := by
  cases va <;> first
    | exact absurd rfl (hn _ _)
    | exact absurd rfl (hf _ _)
    | exact absurd rfl (hc _ _ _)
    | exact absurd rfl (hs _)
    | (simp [binOp, Op.equal, Op.maxDepth, h]; done)

include hτ in
theorem veq_run {ty a b r va vb} (x y : Operand) (e : veq τ ty a b = some r) (ha : R w M φ σ a va) (hb : R w M φ σ b vb) :
    (∀ op, (eqGuard op ty x y va vb).run P w = .ok () w) ∧ (binOp .eql ty va vb).run P w = .ok (.bool r) w ∧ (binOp .neq ty va vb).run P w = .ok (.bool !r) w := by
  have tk : ∀ n q, (bO (τ ty) fun i => gd (tyK n i) (some q)) = some r → r = q ∧ ∃ ti, τ ty = some ti ∧ tyK n ti = true := by
    intro n q e
    obtain ⟨ti, e1, e⟩ := bO_eq e
    obtain ⟨e2, e3⟩ := gd_eq e
    injection e3 with e3
    exact ⟨e3.symm, ti, e1, e2⟩
  have tp : ∀ q, (bO (τ ty) fun i => gd (tyK 1 i) (some q)) = some r → r = q ∧ ∃ e, P.underlying ty = some (.pointer e) := by
    intro q e
    obtain ⟨e1, ti, e2, e3⟩ := tk 1 q e
    rcases tyK_spec e3 with ⟨h, _⟩ | ⟨_, e, h⟩ | ⟨h, _⟩
    · cases h
    · exact ⟨e1, e, (hτ _ _ e2).ptr h⟩
    · cases h
  have tl : ∀ q, (bO (τ ty) fun i => gd (tyK 2 i) (some q)) = some r → r = q ∧ ∃ e, P.underlying ty = some (.slice e) := by
    intro q e
    obtain ⟨e1, ti, e2, e3⟩ := tk 2 q e
    rcases tyK_spec e3 with ⟨h, _⟩ | ⟨h, _⟩ | ⟨_, e, h⟩
    · cases h
    · cases h
    · exact ⟨e1, e, (hτ _ _ e2).slice h⟩
  unfold veq at e
  split at e
  · rename_i a' b'
    obtain ⟨e1, ti, e2, e3⟩ := tk 0 _ e
    subst e1
    have := ha.bool_inv; have := hb.bool_inv; subst va; subst vb
    rcases tyK_spec e3 with ⟨_, h⟩ | ⟨h, _⟩ | ⟨h, _⟩
    · have hu := (hτ _ _ e2).bool h
      exact ⟨fun op => eqG_bool op ty x y a' b', eql_of (by simp) (by simp) (by simp) (by simp) (eqIn_bb a' b' hu)⟩
    · cases h
    · cases h
  · obtain ⟨h1, xs, ys, rfl, rfl, h2⟩ := vEqA_run hτ e ha hb
    exact ⟨fun op => run_eqGuard_agg w op ty x y xs ys h2, eql_of (by simp) (by simp) (by simp) (by simp) h1⟩
  · obtain ⟨rfl, e, hu⟩ := tp _ e
    have := ha.nilp_inv; have := hb.nilp_inv; subst va; subst vb
    exact ⟨fun op => eqG_ptr op ty x y none none, eql_of (by simp) (by simp) (by simp) (by simp) (eqIn_nn hu)⟩
  · obtain ⟨rfl, e, hu⟩ := tp _ e
    obtain ⟨s, _, rfl⟩ := ptr_inv ha
    have := hb.nilp_inv; subst vb
    exact ⟨fun op => eqG_ptr op ty x y _ none, eql_of (by simp) (by simp) (by simp) (by simp) (eqIn_pn _ hu)⟩
  · obtain ⟨rfl, e, hu⟩ := tp _ e
    obtain ⟨b, o, rfl⟩ := rop_inv ha
    have := hb.nilp_inv; subst vb
    exact ⟨fun op => eqG_ptr op ty x y _ none, eql_of (by simp) (by simp) (by simp) (by simp) (eqIn_pn _ hu)⟩
  · obtain ⟨rfl, e, hu⟩ := tl _ e
    have := ha.nils_inv; have := hb.nils_inv; subst va; subst vb
    exact ⟨fun op => eqG_slice op ty x y none none 0 0 0 0, eql_of (by simp) (by simp) (by simp) (by simp) (eqIn_ll hu)⟩
  · obtain ⟨rfl, e, hu⟩ := tl _ e
    obtain ⟨s, c, _, rfl, _⟩ := own_inv ha
    have := hb.nils_inv; subst vb
    exact ⟨fun op => eqG_slice op ty x y _ none _ 0 _ 0, eql_of (by simp) (by simp) (by simp) (by simp) (eqIn_sl _ _ _ hu)⟩
  · cases e

include hτ in
theorem vBin_run {op ty a b d va vb} (x y : Operand) (e : vBin τ op ty a b = some d) (ha : R w M φ σ a va) (hb : R w M φ σ b vb) :
    ∃ u, (do eqGuard op ty x y va vb; binOp op ty va vb : Sem Value).run P w = .ok u w ∧ R w M φ σ d u := by
  have gen : (∀ k n k' n', ¬ (a = .int k n ∧ b = .int k' n')) → ∃ u, (do eqGuard op ty x y va vb; binOp op ty va vb : Sem Value).run P w = .ok u w ∧ R w M φ σ d u := by
    intro hne
    have e' : vB2 τ op ty a b = some d := by
      cases a <;> cases b <;> first
        | exact absurd ⟨rfl, rfl⟩ (hne _ _ _ _)
        | exact e
    clear e
    cases op <;> simp only [vB2] at e' <;> try cases e'
    · obtain ⟨r, h1, h2⟩ := bO_eq e'
      injection h2 with h2; subst h2
      obtain ⟨g1, g2, g3⟩ := veq_run hτ x y h1 ha hb
      exact ⟨.bool r, by simp only [Sem.run_bind, g1, Result.andThen_ok, g2], .imm (.bool _)⟩
    · obtain ⟨r, h1, h2⟩ := bO_eq e'
      injection h2 with h2; subst h2
      obtain ⟨g1, g2, g3⟩ := veq_run hτ x y h1 ha hb
      exact ⟨.bool !r, by simp only [Sem.run_bind, g1, Result.andThen_ok, g3], .imm (.bool _)⟩
  cases a with
  | int k n =>
    cases b with
    | int k' n' =>
      have := ha.int_inv; have := hb.int_inv; subst va; subst vb
      by_cases h1 : op = .shl
      · subst h1
        rw [vBin_shl] at e
        obtain ⟨e1, e2⟩ := gd_eq e
        injection e2 with e2; subst e2
        have e1' : ¬ (n' < 0) := by simpa using e1
        exact ⟨_, by simp [eqG_int, binOp, Op.shift, e1']; rfl, .imm (.int _ _)⟩
      · by_cases h2 : op = .shr
        · subst h2
          rw [vBin_shr] at e
          obtain ⟨e1, e2⟩ := gd_eq e
          injection e2 with e2; subst e2
          have e1' : ¬ (n' < 0) := by simpa using e1
          exact ⟨_, by simp [eqG_int, binOp, Op.shift, e1']; rfl, .imm (.int _ _)⟩
        · have e' : gd (decide (k = k')) (ibin op k n n') = some d := by
            cases op <;> first
              | exact absurd rfl h1
              | exact absurd rfl h2
              | exact e
          obtain ⟨e1, e2⟩ := gd_eq e'
          have hk : k = k' := by simpa using e1
          subst hk
          obtain ⟨u, u1, u2⟩ := ibin_run (P := P) (w := w) (M := M) (φ := φ) (σ := σ) ty h1 h2 e2
          exact ⟨u, by simp only [Sem.run_bind, eqG_int, Result.andThen_ok, u1], u2⟩
    | _ => exact gen (by intro _ _ _ _ ⟨_, h⟩; cases h)
  | _ => exact gen (by intro _ _ _ _ ⟨h, _⟩; cases h)

theorem vUn_run {op a d va} (e : vUn op a = some d) (ha : R w M φ σ a va) : ∃ u, (Op.unary op va).run P w = .ok u w ∧ R w M φ σ d u := by
  cases a with
  | int k n =>
    have := ha.int_inv; subst va
    cases op <;> simp only [vUn] at e <;> try cases e
    · exact ⟨_, by simp [Op.unary, Op.intArith], .imm (.int _ _)⟩
    · refine ⟨.int k (ixor k (if k.signed then -1 else k.max) n), ?_, .imm (.int _ _)⟩
      simp [Op.unary, Op.intBits, ixor]
  | bool b =>
    have := ha.bool_inv; subst va
    cases op <;> simp only [vUn] at e <;> try cases e
    exact ⟨_, by simp [Op.unary], .imm (.bool _)⟩
  | _ => cases e

include hτ in
theorem vConv_run {s t a d va ds} (hs : P.underlying s = some ds) (e : vConv τ t a = some d) (ha : R w M φ σ a va) : ∃ u, (convert s t va).run P w = .ok u w ∧ R w M φ σ d u := by
  cases a with
  | int q n =>
    have := ha.int_inv; subst va
    rw [vConv_int] at e
    obtain ⟨ti, e1, e⟩ := bO_eq e
    obtain ⟨k, e2, e⟩ := bO_eq e
    injection e with e; subst e
    have hk : ti.k = .int k := by
      unfold tint at e2
      split at e2
      · rename_i k' hk; injection e2 with e2; subst e2; exact hk
      · cases e2
    refine ⟨_, ?_, .imm (.int _ _)⟩
    simp [convert, run_underlying hs, run_underlying ((hτ _ _ e1).int hk), Conv.intToInt]
  | _ => cases e

include hτ in
theorem vLen_run {t ti e0 a d va} (ht : τ t = some ti) (hk : tslice ti = some e0) (ty : TypeId) (e : vLen a = some d) (ha : R w M φ σ a va) : ∃ u, (Builtin.len_ #[t] ty #[va]).run P w = .ok u w ∧ R w M φ σ d u := by
  have hu := (hτ _ _ ht).slice (tslice_spec hk)
  cases a with
  | nils =>
    have := ha.nils_inv; subst va
    cases e
    exact ⟨_, by simp [Builtin.len_, run_underlying hu, goInt], .imm (.int _ _)⟩
  | em =>
    obtain ⟨A, rfl⟩ := ha.em_inv
    cases e
    exact ⟨_, by simp [Builtin.len_, run_underlying hu, goInt], .imm (.int _ _)⟩
  | ro s es =>
    obtain ⟨A, c, rfl, _⟩ := ro_inv ha
    cases e
    exact ⟨_, by simp [Builtin.len_, run_underlying hu, goInt], .imm (.int _ _)⟩
  | own l i n =>
    obtain ⟨s, c, _, rfl, _⟩ := own_inv ha
    cases e
    exact ⟨_, by simp [Builtin.len_, run_underlying hu, goInt], .imm (.int _ _)⟩
  | _ => cases e

theorem vMax_run {a b d va vb} (ts : Array TypeId) (ty : TypeId) (e : vMax a b = some d) (ha : R w M φ σ a va) (hb : R w M φ σ b vb) : ∃ u, (Builtin.max_ ts ty #[va, vb]).run P w = .ok u w ∧ R w M φ σ d u := by
  cases a with
  | int k n =>
    cases b with
    | int k' n' =>
      have := ha.int_inv; have := hb.int_inv; subst va; subst vb
      obtain ⟨e1, e2⟩ := gd_eq e
      injection e2 with e2; subst e2
      exact ⟨_, by simp [Builtin.max_, Builtin.max2], .imm (.int _ _)⟩
    | _ => cases e
  | _ => cases e
theorem vMin_run {a b d va vb} (ts : Array TypeId) (ty : TypeId) (e : vMin a b = some d) (ha : R w M φ σ a va) (hb : R w M φ σ b vb) : ∃ u, (Builtin.min_ ts ty #[va, vb]).run P w = .ok u w ∧ R w M φ σ d u := by
  cases a with
  | int k n =>
    cases b with
    | int k' n' =>
      have := ha.int_inv; have := hb.int_inv; subst va; subst vb
      obtain ⟨e1, e2⟩ := gd_eq e
      injection e2 with e2; subst e2
      exact ⟨_, by simp [Builtin.min_, Builtin.min2], .imm (.int _ _)⟩
    | _ => cases e
  | _ => cases e

theorem vExtract_run {i a d va} (e : vExtract i a = some d) (ha : R w M φ σ a va) : ∃ u, (Instr.extract va i).run P w = .ok u w ∧ R w M φ σ d u := by
  cases a with
  | tup vs =>
    obtain ⟨us, rfl, h1, h2⟩ := tup_inv ha
    have hi : i < us.size := by have := (List.getElem?_eq_some_iff.1 e).1; omega
    exact ⟨us[i], by simp [Instr.extract, hi], h2 i d _ e (by simp [hi])⟩
  | _ => cases e

theorem TIok.str {t i} (x : TIok P t i) (hk : i.k = .str) : P.underlying t = some .string := by
  obtain ⟨d, h1, h2⟩ := x.und
  rw [hk] at h2
  cases d <;> simp only [descOk] at h2 <;> try cases h2
  exact h1
include hτ in
theorem vStrI_run {t ti tbl i vi d} (ht : τ t = some ti) (hk : ti.k = .str) (s : ByteArray) (hs : s.data.toList.map (·.toNat) = tbl) (hi : R w M φ σ i vi) (e : vStrI tbl i = some d) : ∃ u, (Instr.index t (.string s) vi).run P w = .ok u w ∧ R w M φ σ d u := by
  have hu := (hτ _ _ ht).str hk
  cases i with
  | int k n =>
    have := hi.int_inv; subst vi
    cases n with
    | negSucc m => cases e
    | ofNat m =>
      have e : (bO tbl[m]? fun b => some (D.int .u8 b)) = some d := e
      obtain ⟨b, e1, e2⟩ := bO_eq e
      injection e2 with e2; subst e2
      rw [← hs, List.getElem?_map] at e1
      simp only [Option.map_eq_some_iff] at e1
      obtain ⟨y, y1, y2⟩ := e1
      have hm : m < s.size := by have := (List.getElem?_eq_some_iff.1 y1).1; simpa using this
      have hy : s[m]? = some y := by
        rw [getElem?_pos s m hm]
        have h3 := (List.getElem?_eq_some_iff.1 y1).2
        congr 1
      refine ⟨.int .u8 b, ?_, .imm (.int _ _)⟩
      have h0 : (0 : Int) ≤ Int.ofNat m := Int.natCast_nonneg m
      have h1 : (Int.ofNat m).toNat = m := rfl
      simp only [Instr.index, asIntOf, Sem.run_bind, Sem.run_pure, Result.andThen_ok, run_underlying hu, h0, if_true, h1, hy, y2]
  | _ => cases e

theorem sliceB {isS : Bool} {len cap lo hi : Nat} (vlo vhi : Option Value) (h1 : vlo = none ∧ lo = 0 ∨ ∃ k n, vlo = some (.int k n) ∧ 0 ≤ n ∧ n.toNat = lo) (h2 : vhi = none ∧ hi = len ∨ ∃ k n, vhi = some (.int k n) ∧ 0 ≤ n ∧ n.toNat = hi)
    (hl : lo ≤ hi) (hh : hi ≤ cap) : (Instr.sliceBounds isS len cap vlo vhi none).run P w = .ok (lo, hi, cap) w := by
  rcases h1 with ⟨rfl, rfl⟩ | ⟨k, n, rfl, n0, rfl⟩ <;> rcases h2 with ⟨rfl, rfl⟩ | ⟨k', n', rfl, n0', rfl⟩
  · simp [Instr.sliceBounds]
  · have : n' ≤ (cap : Int) := by omega
    simp [Instr.sliceBounds, Instr.sliceBound, asIntOf, n0', this]
  · have : n ≤ (hi : Int) := by omega
    simp [Instr.sliceBounds, Instr.sliceBound, asIntOf, n0, this]
  · have : n' ≤ (cap : Int) := by omega
    have : n ≤ ((n'.toNat : Nat) : Int) := by omega
    simp [Instr.sliceBounds, Instr.sliceBound, asIntOf, n0, n0', *]
    intro hx
    exfalso
    omega

theorem sliceB3 {len cap lo hi mx : Nat} (vlo : Option Value) (k2 k3 : IntKind) (n2 n3 : Int) (h1 : vlo = none ∧ lo = 0 ∨ ∃ k n, vlo = some (.int k n) ∧ 0 ≤ n ∧ n.toNat = lo) (h2 : 0 ≤ n2 ∧ n2.toNat = hi) (h3 : 0 ≤ n3 ∧ n3.toNat = mx)
    (hl : lo ≤ hi) (hh : hi ≤ mx) (hc : mx ≤ cap) : (Instr.sliceBounds true len cap vlo (some (.int k2 n2)) (some (.int k3 n3))).run P w = .ok (lo, hi, mx) w := by
  obtain ⟨a2, rfl⟩ := h2
  obtain ⟨a3, rfl⟩ := h3
  have q3 : n3 ≤ (cap : Int) := by omega
  have q2 : n2 ≤ ((n3.toNat : Nat) : Int) := by omega
  rcases h1 with ⟨rfl, rfl⟩ | ⟨k, n, rfl, n0, rfl⟩
  · simp only [Instr.sliceBounds, Instr.sliceBound, asIntOf, Sem.run_bind, Sem.run_pure, Result.andThen_ok, a2, a3, q2, q3, and_self, if_true]
  · have q1 : n ≤ ((n2.toNat : Nat) : Int) := by omega
    simp only [Instr.sliceBounds, Instr.sliceBound, asIntOf, Sem.run_bind, Sem.run_pure, Result.andThen_ok, a2, a3, q2, q3, q1, n0, and_self, if_true]

end
end Go.Proofs.Ytemcdpkiphmndaa.Ab
