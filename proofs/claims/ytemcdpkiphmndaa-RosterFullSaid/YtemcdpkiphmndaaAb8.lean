/- Ab8: struct and slice literals, make, append, stores. -/
import Derived.Test.YtemcdpkiphmndaaAb7
import Derived.Laws.MakeOwn
set_option linter.unusedSimpArgs false
set_option linter.unusedVariables false
namespace Go.Proofs.Ytemcdpkiphmndaa.Ab

/-! ### cells put into cells -/
theorem foldl_set (vs : List Value) : ∀ (cells : Array Value) (off n : Nat), off + n + vs.length ≤ cells.size →
    ((vs.zipIdx n).foldl (fun cs p => cs.setIfInBounds (off + p.2) p.1) cells).size = cells.size ∧
    ∀ k, ((vs.zipIdx n).foldl (fun cs p => cs.setIfInBounds (off + p.2) p.1) cells)[k]? = if off + n ≤ k ∧ k < off + n + vs.length then vs[k - (off + n)]? else cells[k]? := by
  induction vs with
  | nil => intro cells off n _; simp; intro k h1 h2; omega
  | cons v vs ih =>
    intro cells off n hl
    simp only [List.zipIdx_cons, List.foldl_cons]
    have hl' : off + (n + 1) + vs.length ≤ (cells.setIfInBounds (off + n) v).size := by simp at hl ⊢; omega
    obtain ⟨h1, h2⟩ := ih (cells.setIfInBounds (off + n) v) off (n + 1) hl'
    refine ⟨by rw [h1]; simp, fun k => ?_⟩
    rw [h2 k]
    simp only [List.length_cons] at hl ⊢
    by_cases hk : k = off + n
    · subst hk
      have hlt : off + n < cells.size := by omega
      rw [if_neg (by omega), if_pos (by omega)]
      simp [hlt]
    · by_cases hb : off + (n + 1) ≤ k ∧ k < off + (n + 1) + vs.length
      · rw [if_pos hb, if_pos (by omega)]
        rw [show k - (off + n) = (k - (off + (n + 1))) + 1 from by omega]
        simp
      · rw [if_neg hb, if_neg (by omega)]
        rw [Array.getElem?_setIfInBounds_ne (by omega)]

/-- One part laid into cells. -/
theorem fill_step (place : Nat → Option (Nat × Nat)) (cells : Array Value) (i : Nat) (v : Value) (rest : List (Nat × Value)) (off size : Nat) (hp : place i = some (off, size)) (hs : v.cells.size = size) (hl : off + size ≤ cells.size) :
    ∃ cells', Instr.fill place cells ((i, v) :: rest) = Instr.fill place cells' rest ∧ cells'.size = cells.size ∧ ∀ k, cells'[k]? = if off ≤ k ∧ k < off + size then v.cells[k - off]? else cells[k]? := by
  have hh := foldl_set v.cells.toList cells off 0 (by simpa [hs] using hl)
  refine ⟨_, ?_, hh.1, fun k => ?_⟩
  · simp only [Instr.fill, hp, hs]
    have : ¬ (off + size > cells.size) := by omega
    simp [this]
    congr 1
    rw [← Array.toList_zipIdx, Array.foldl_toList]
    simp
  · have := hh.2 k
    simpa [hs] using this

section
variable {P : Program} {τ : Nat → Option TI} (hτ : ∀ t i, τ t = some i → TIok P t i)
variable {w : World} {M0 : Nat → Prop} {φ : Nat → Nat} {h : List (Nat × Ob)} {M : Nat → Prop} {σ : Nat → Option Nat}

/-- Cells that read as cs. -/
def ArrR (w : World) (M : Nat → Prop) (φ : Nat → Nat) (σ : Nat → Option Nat) (cs : List D) (arr : Array Value) : Prop :=
  arr.size = cs.length ∧ ∀ (j : Nat) (d : D), cs[j]? = some d → ∃ u, arr[j]? = some u ∧ R w M φ σ d u

theorem setAt_spec {cs j v cs'} (e : setAt cs j v = some cs') : j + v.length ≤ cs.length ∧ cs' = cs.take j ++ v ++ cs.drop (j + v.length) := by
  obtain ⟨e1, e2⟩ := gd_eq e
  injection e2 with e2
  exact ⟨by simpa using e1, e2.symm⟩
theorem setAt_get {cs j v cs'} (e : setAt cs j v = some cs') : cs'.length = cs.length ∧ ∀ k, cs'[k]? = if j ≤ k ∧ k < j + v.length then v[k - j]? else cs[k]? := by
  obtain ⟨h1, rfl⟩ := setAt_spec e
  refine ⟨by simp; omega, fun k => ?_⟩
  have hj : (cs.take j).length = j := by simp; omega
  rw [List.append_assoc, List.getElem?_append]
  by_cases k1 : k < j
  · rw [if_pos (by omega), if_neg (by omega), List.getElem?_take, if_pos k1]
  · rw [if_neg (by omega), List.getElem?_append, hj]
    by_cases k2 : k < j + v.length
    · rw [if_pos (by omega), if_pos (by omega)]
    · rw [if_neg (by omega), if_neg (by omega), List.getElem?_drop]
      congr 1; omega

theorem ArrR.set {cs arr off vs cs' arr'} {v : Value} (ha : ArrR w M φ σ cs arr) (e : setAt cs off vs = some cs') (hv : v.cells.size = vs.length) (hr : ∀ (j : Nat) (x : D), vs[j]? = some x → ∃ u, v.cells[j]? = some u ∧ R w M φ σ x u)
    (h1 : arr'.size = arr.size) (h2 : ∀ k : Nat, arr'[k]? = if off ≤ k ∧ k < off + vs.length then v.cells[k - off]? else arr[k]?) : ArrR w M φ σ cs' arr' := by
  obtain ⟨g1, g2⟩ := setAt_get e
  refine ⟨by rw [h1, ha.1, g1], fun j d hd => ?_⟩
  rw [g2] at hd
  rw [h2]
  split at hd
  · rename_i hc
    rw [if_pos hc]
    exact hr _ d hd
  · rename_i hc
    rw [if_neg hc]
    exact ha.2 j d hd

theorem mapM_run {α β : Type} (f : α → Sem β) (g : α → β) : ∀ (l : List α), (∀ x ∈ l, (f x).run P w = .ok (g x) w) → (l.mapM f).run P w = .ok (l.map g) w
  | [], _ => by simp
  | x :: l, hx => by
    have ih := mapM_run f g l (fun y hy => hx y (by simp [hy]))
    simp [List.mapM_cons, hx x (by simp), ih]

theorem fillS_run {t : List (Nat × D)} {ti : TI} (place : Nat → Option (Nat × Nat)) (hpl : ∀ (f : Nat) p, fOff ti f = some p → place f = some (p.1, p.2.1)) :
    ∀ (ps : List (Nat × A)) (qs : List (Nat × Value)) (cs : List D) (arr : Array Value) (cs' : List D), qs.length = ps.length → (∀ (i : Nat) p q, ps[i]? = some p → qs[i]? = some q → q.1 = p.1 ∧ R w M φ σ (ev t p.2) q.2) →
    fillS t ti ps cs = some cs' → ArrR w M φ σ cs arr → ∃ arr', Instr.fill place arr qs = some arr' ∧ ArrR w M φ σ cs' arr'
  | [], [], cs, arr, cs', _, _, e, ha => by cases e; exact ⟨arr, rfl, ha⟩
  | [], _ :: _, _, _, _, hl, _, _, _ => by simp at hl
  | _ :: _, [], _, _, _, hl, _, _, _ => by simp at hl
  | (f, x) :: ps, (f', v) :: qs, cs, arr, cs', hl, hh, e, ha => by
    rw [fillS_cons] at e
    obtain ⟨p, e1, e⟩ := bO_eq e
    obtain ⟨e2, e⟩ := gd_eq e
    obtain ⟨cs1, e3, e4⟩ := bO_eq e
    obtain ⟨h1, h2⟩ := hh 0 _ _ rfl rfl
    simp only at h1 h2
    subst h1
    simp only [Bool.and_eq_true, beq_iff_eq] at e2
    obtain ⟨e2, e2b⟩ := e2
    obtain ⟨c1, c2⟩ := cells_R h2 (allB_spec e2b)
    have hb := (setAt_spec e3).1
    obtain ⟨arr1, a1, a2, a3⟩ := fill_step place arr f' v qs p.1 p.2.1 (hpl f' p e1) (by rw [c1, e2]) (by rw [ha.1, ← e2]; exact hb)
    rw [a1]
    exact fillS_run place hpl ps qs cs1 arr1 cs' (by simpa using hl) (fun i p q a b => hh (i + 1) p q (by simpa using a) (by simpa using b)) e4 (ha.set e3 (by rw [c1]) c2 a2 (by rw [e2]; exact a3))

include hτ in
/-- A struct literal. -/
theorem vBuild_run {t : List (Nat × D)} {ty : Nat} {ps : List (Nat × A)} {qs : Array (Nat × Value)} {d} (e : vBuild τ t ty ps = some d) (hl : qs.size = ps.length)
    (hh : ∀ (i : Nat) p q, ps[i]? = some p → qs[i]? = some q → q.1 = p.1 ∧ R w M φ σ (ev t p.2) q.2) (hst : ∃ ti fs, τ ty = some ti ∧ ti.k = .struct fs) :
    ∃ u, (Instr.build ty qs).run P w = .ok u w ∧ R w M φ σ d u := by
  rw [vBuild_def] at e
  obtain ⟨ti, e1, e⟩ := bO_eq e
  obtain ⟨cs, e2, e⟩ := bO_eq e
  injection e with e; subst e
  obtain ⟨ti', fs, f1, hk⟩ := hst
  rw [e1] at f1; injection f1 with f1; subst f1
  have X := hτ _ _ e1
  obtain ⟨gs, g1, g2, g3⟩ := X.struct hk
  obtain ⟨pi, i1, i2, i3, z, i4, i5⟩ := X.info
  obtain ⟨z1, z2⟩ := okVs_spec i5
  have hz : ArrR w M φ σ ti.zero z.cells := ⟨by simpa using z1, fun j x hx => by
    have hj : j < z.cells.size := by have := (List.getElem?_eq_some_iff.1 hx).1; simp at z1; omega
    exact ⟨z.cells[j], by simp [hj], .imm (z2 _ _ j x _ hx (by simp [hj]))⟩⟩
  let pl : Field → Nat × Nat := fun g => (g.offset, (P.info? g.type).elim 0 (·.size))
  have hpl : ∀ (f : Nat) p, fOff ti f = some p → (gs.map pl)[f]? = some (p.1, p.2.1) := by
    intro f p hf
    obtain ⟨fs', hk', hf'⟩ := fOff_spec hf
    rw [hk] at hk'; injection hk' with hk'; subst hk'
    obtain ⟨g, b1, b2, b3, b4, b5⟩ := g3 f p hf'
    have := b5 default
    simp [Array.getElem?_map, b1, pl, b2]
    cases hq : P.info? g.type with
    | none => simp [sizeOf, typeInfo, hq] at this
    | some q => simp [sizeOf, typeInfo, hq] at this; simpa using this
  have hmap : (gs.mapM fun f => (do pure (f.offset, ← sizeOf f.type) : Sem (Nat × Nat))).run P w = .ok (gs.map pl) w := by
    rw [Array.mapM_eq_mapM_toList]
    have := mapM_run (P := P) (w := w) (fun f : Field => (do pure (f.offset, ← sizeOf f.type) : Sem (Nat × Nat))) pl gs.toList (fun g hg => by
      obtain ⟨i, hi⟩ := List.getElem?_of_mem hg
      have hlt : i < fs.length := by have := (List.getElem?_eq_some_iff.1 hi).1; simp at this; omega
      obtain ⟨g', b1, b2, b3, b4, b5⟩ := g3 i _ (List.getElem?_eq_getElem hlt)
      have : g' = g := by simp at hi; rw [hi] at b1; injection b1 with b1; exact b1.symm
      subst this
      have b5' := b5 w
      cases hq : P.info? g'.type with
      | none => simp [sizeOf, typeInfo, hq] at b5'
      | some q => simp [sizeOf, typeInfo, hq, pl])
    rw [Sem.run_map, this]
    simp
    apply Array.ext'
    simp
  obtain ⟨arr, a1, a2⟩ := fillS_run (w := w) (M := M) (φ := φ) (σ := σ) (fun i => (gs.map pl)[i]?) hpl ps qs.toList ti.zero z.cells cs (by simpa using hl) (fun i p q a b => hh i p q a (by simpa using b)) e2 hz
  refine ⟨.agg arr, ?_, .agg _ _ a2.1 (fun j d v a b => by obtain ⟨u, u1, u2⟩ := a2.2 j d a; rw [b] at u1; injection u1 with u1; rw [u1]; exact u2)⟩
  simp only [Instr.build, Sem.run_bind, zeroValue, typeInfo, run_program, Result.andThen_ok, i1, Sem.run_pure, i4, run_underlying g1, hmap, a1]


/-! ### slice literals -/
theorem lowL_okB : ∀ {cs : List D} {h : List (Nat × Ob)} {r}, lowL h cs = some r → ∀ x ∈ cs, okB x = true
  | [], h, r, _, x, hx => by cases hx
  | d :: cs, h, r, e, x, hx => by
    have plain : okB d = true → (∃ h1 r1, lowL h1 cs = some r1) → okB x = true := by
      rintro hd ⟨h1, r1, e1⟩
      cases hx with
      | head => exact hd
      | tail _ hx => exact lowL_okB e1 x hx
    cases d with
    | own l i n =>
      rw [lowL_own] at e
      obtain ⟨o, e1, e⟩ := bO_eq e
      obtain ⟨es, e2, e⟩ := bO_eq e
      obtain ⟨p, e3, e4⟩ := bO_eq e
      exact plain rfl ⟨_, _, e3⟩
    | int k n => obtain ⟨p, e3, _⟩ := bO_eq (x := lowL h cs) e; exact plain rfl ⟨_, _, e3⟩
    | bool b => obtain ⟨p, e3, _⟩ := bO_eq (x := lowL h cs) e; exact plain rfl ⟨_, _, e3⟩
    | nilp => obtain ⟨p, e3, _⟩ := bO_eq (x := lowL h cs) e; exact plain rfl ⟨_, _, e3⟩
    | nils => obtain ⟨p, e3, _⟩ := bO_eq (x := lowL h cs) e; exact plain rfl ⟨_, _, e3⟩
    | nilf => obtain ⟨p, e3, _⟩ := bO_eq (x := lowL h cs) e; exact plain rfl ⟨_, _, e3⟩
    | nilm => obtain ⟨p, e3, _⟩ := bO_eq (x := lowL h cs) e; exact plain rfl ⟨_, _, e3⟩
    | em => obtain ⟨p, e3, _⟩ := bO_eq (x := lowL h cs) e; exact plain rfl ⟨_, _, e3⟩
    | ro s es => obtain ⟨p, e3, _⟩ := bO_eq (x := lowL h cs) e; exact plain rfl ⟨_, _, e3⟩
    | any => cases e
    | rop _ => cases e
    | agg _ => cases e
    | tup _ => cases e
    | ptr _ _ _ => cases e
    | mp _ => cases e
    | clo _ _ => cases e

/-- A value's cells, made fit for a row. -/
theorem low_cells {d v cs' h'} (hp : HpOk w M0 φ h) (e : lowL h (cells d) = some (cs', h')) (hr : R w (Mx M0 φ h) φ (sg h) d v) :
    Nx M0 φ h w φ h' w ∧ cs'.length = (cells d).length ∧ v.cells.size = cs'.length ∧ (∀ (j : Nat) (x : D), cs'[j]? = some x → okR x = true ∧ ∃ u, v.cells[j]? = some u ∧ R w (Mx M0 φ h') φ (sg h') x u) := by
  obtain ⟨c1, c2⟩ := cells_R hr (lowL_okB e)
  obtain ⟨n, l1, k1, r1⟩ := lowL_spec (cells d) h cs' h' v.cells.toList e hp (fun j x u a b => by
    obtain ⟨u', b1, b2⟩ := c2 j x a
    have : u' = u := by simp at b; rw [b] at b1; injection b1 with b1; exact b1.symm
    subst this; exact b2)
  refine ⟨n, l1, by rw [c1, l1], fun j x hx => ?_⟩
  have hj : j < v.cells.size := by have := (List.getElem?_eq_some_iff.1 hx).1; omega
  exact ⟨k1 j x hx, v.cells[j], by simp [hj], r1 j x _ hx (by simp [hj])⟩

theorem fillE_run {t : List (Nat × D)} {sz : Nat} : ∀ (ps : List (Nat × A)) (qs : List (Nat × Value)) (n : Nat) (h : List (Nat × Ob)) (es : List (List D)) (h' : List (Nat × Ob)) (arr : Array Value), HpOk w M0 φ h → fillE t h sz n ps = some (es, h') → qs.length = ps.length →
    (∀ (i : Nat) p q, ps[i]? = some p → qs[i]? = some q → q.1 = p.1 ∧ R w (Mx M0 φ h) φ (sg h) (ev t p.2) q.2) → (n + ps.length) * sz ≤ arr.size →
    ∃ arr', Instr.fill (fun i => some (i * sz, sz)) arr qs = some arr' ∧ arr'.size = arr.size ∧ Nx M0 φ h w φ h' w ∧ es.length = ps.length ∧
      (∀ (i : Nat) (e : List D), es[i]? = some e → e.length = sz ∧ ∀ (j : Nat) (d : D), e[j]? = some d → okR d = true ∧ ∃ u, arr'[(n + i) * sz + j]? = some u ∧ R w (Mx M0 φ h') φ (sg h') d u) ∧ ∀ k, k < n * sz → arr'[k]? = arr[k]?
  | [], [], n, h, es, h', arr, hp, e, _, _, _ => by cases e; exact ⟨arr, rfl, rfl, .refl hp, rfl, by simp, fun _ _ => rfl⟩
  | [], _ :: _, _, _, _, _, _, _, _, hl, _, _ => by simp at hl
  | _ :: _, [], _, _, _, _, _, _, _, hl, _, _ => by simp at hl
  | (i, x) :: ps, (i', v) :: qs, n, h, es, h', arr, hp, e, hl, hh, hsz => by
    rw [fillE_cons] at e
    obtain ⟨e1, e⟩ := gd_eq e
    obtain ⟨⟨cs, h1⟩, e2, e⟩ := bO_eq e
    obtain ⟨⟨es1, h2⟩, e3, e⟩ := bO_eq e
    injection e with e; injection e with e4 e5; subst e4; subst e5
    simp only [Bool.and_eq_true, beq_iff_eq] at e1
    obtain ⟨rfl, e1⟩ := e1
    obtain ⟨q1, q2⟩ := hh 0 _ _ rfl rfl
    simp only at q1 q2
    subst q1
    obtain ⟨nx, l1, l2, l3⟩ := low_cells hp e2 q2
    have hb : (i' + 1 + ps.length) * sz ≤ arr.size := by rw [← show i' + (ps.length + 1) = i' + 1 + ps.length from by omega]; exact hsz
    have hb1 : i' * sz + sz ≤ arr.size := by
      have : i' * sz + sz = (i' + 1) * sz := by rw [Nat.add_mul, Nat.one_mul]
      rw [this]
      exact Nat.le_trans (Nat.mul_le_mul_right _ (by omega)) hb
    obtain ⟨arr1, a1, a2, a3⟩ := fill_step (fun i => some (i * sz, sz)) arr i' v qs (i' * sz) sz rfl (by rw [l2, l1, e1]) hb1
    obtain ⟨arr2, b1, b2, b3, b4, b5, b6⟩ := fillE_run ps qs (i' + 1) h1 es1 _ arr1 nx.hp e3 (by simpa using hl) (fun i p q a b => by
      obtain ⟨c1, c2⟩ := hh (i + 1) p q (by simpa using a) (by simpa using b)
      exact ⟨c1, nx.r c2⟩) (by rw [a2]; exact hb)
    have hs1 : (i' + 1) * sz = i' * sz + sz := by rw [Nat.add_mul, Nat.one_mul]
    refine ⟨arr2, by rw [a1, b1], by rw [b2, a2], nx.trans b3, by simp [b4], fun i e he => ?_, fun k hk => ?_⟩
    · cases i with
      | zero =>
        simp at he; subst he
        refine ⟨by rw [l1, e1], fun j d hd => ?_⟩
        obtain ⟨c1, u, c2, c3⟩ := l3 j d hd
        have hj : j < sz := by have := (List.getElem?_eq_some_iff.1 hd).1; rw [l1, e1] at this; exact this
        refine ⟨c1, u, ?_, b3.r c3⟩
        rw [Nat.add_zero, b6 _ (by omega), a3, if_pos (by omega)]
        rw [← c2]; congr 1; omega
      | succ i =>
        obtain ⟨c1, c2⟩ := b5 i e (by simpa using he)
        refine ⟨c1, fun j d hd => ?_⟩
        have := c2 j d hd
        rwa [show i' + 1 + i = i' + (i + 1) from by omega] at this
    · rw [b6 k (by omega), a3, if_neg (by omega)]

theorem lowL_none : ∀ {cs : List D} {h : List (Nat × Ob)} {r h'}, lowL h cs = some (r, h') → ∀ l, getO h l = none → getO h' l = none
  | [], h, r, h', e, l, hl => by cases e; exact hl
  | d :: cs, h, r, h', e, l, hl => by
    have plain : ∀ h1, getO h1 l = none → ∀ (d' : D), (bO (lowL h1 cs) fun p => some (d' :: p.1, p.2)) = some (r, h') → getO h' l = none := by
      intro h1 hl1 d' e
      obtain ⟨⟨p, h2⟩, e1, e2⟩ := bO_eq e
      injection e2 with e2; injection e2 with e3 e4; subst e4
      exact lowL_none e1 l hl1
    cases d with
    | own l' i n =>
      rw [lowL_own] at e
      obtain ⟨o, e1, e⟩ := bO_eq e
      obtain ⟨es, e2, e⟩ := bO_eq e
      refine plain _ ?_ _ e
      rw [getO_cons]
      have := (objR_spec e1).1
      by_cases hh : l' = l
      · subst hh; rw [hl] at this; cases this
      · rw [if_neg hh]; exact hl
    | int k n => exact plain _ hl _ e
    | bool b => exact plain _ hl _ e
    | nilp => exact plain _ hl _ e
    | nils => exact plain _ hl _ e
    | nilf => exact plain _ hl _ e
    | nilm => exact plain _ hl _ e
    | em => exact plain _ hl _ e
    | ro s es => exact plain _ hl _ e
    | any => cases e
    | rop _ => cases e
    | agg _ => cases e
    | tup _ => cases e
    | ptr _ _ _ => cases e
    | mp _ => cases e
    | clo _ _ => cases e

theorem fillE_none {t : List (Nat × D)} {sz : Nat} : ∀ (ps : List (Nat × A)) n h es h', fillE t h sz n ps = some (es, h') → ∀ l, getO h l = none → getO h' l = none
  | [], n, h, es, h', e, l, hl => by cases e; exact hl
  | (i, x) :: ps, n, h, es, h', e, l, hl => by
    rw [fillE_cons] at e
    obtain ⟨_, e⟩ := gd_eq e
    obtain ⟨⟨cs, h1⟩, e2, e⟩ := bO_eq e
    obtain ⟨⟨es1, h2⟩, e3, e⟩ := bO_eq e
    injection e with e; injection e with e4 e5; subst e5
    exact fillE_none ps _ _ _ _ e3 l (lowL_none e2 l hl)

include hτ in
theorem vBuildSlice_run {t : List (Nat × D)} {d ty n : Nat} {ps : List (Nat × A)} {qs : Array (Nat × Value)} {v h'} (hM0 : ∀ b, M0 b → b < w.heap.size) (hp : HpOk w M0 φ h) (e : vBuildSlice τ t h d ty n ps = some (v, h')) (hl : qs.size = ps.length)
    (hh : ∀ (i : Nat) p q, ps[i]? = some p → qs[i]? = some q → q.1 = p.1 ∧ R w (Mx M0 φ h) φ (sg h) (ev t p.2) q.2) :
    ∃ u w' φ', (Instr.buildSlice ty n qs).run P w = .ok u w' ∧ Nx M0 φ h w φ' h' w' ∧ R w' (Mx M0 φ' h') φ' (sg h') v u := by
  rw [vBuildSlice_def] at e
  obtain ⟨ti, e1, e⟩ := bO_eq e
  obtain ⟨et, e2, e⟩ := bO_eq e
  obtain ⟨ie, e3, e⟩ := bO_eq e
  obtain ⟨e4, e⟩ := gd_eq e
  obtain ⟨⟨es, h1⟩, e5, e⟩ := bO_eq e
  injection e with e; injection e with e6 e7; subst e6; subst e7
  simp only [Bool.and_eq_true, beq_iff_eq, bne_iff_ne, decide_eq_true_eq] at e4
  obtain ⟨⟨⟨f1, f2⟩, f3⟩, f4⟩ := e4
  have X := hτ _ _ e3
  obtain ⟨pi, i1, i2, i3, z, i4, i5⟩ := X.info
  have hn : ((Array.range (n * ie.size)).map (z.cells[· % z.cells.size]!)).size = n * ie.size := by simp
  obtain ⟨arr, a1, a2, a3, a4, a5, a6⟩ := fillE_run (M0 := M0) (φ := φ) ps qs.toList 0 h es h1 ((Array.range (n * ie.size)).map (z.cells[· % z.cells.size]!)) hp e5 (by simpa using hl) (fun i p q a b => hh i p q a (by simpa using b)) (by rw [hn, f2, Nat.zero_add]; exact Nat.le_refl _)
  -- the fresh name is fresh still
  have hfr : getO h1 (nm d) = none := by
    cases hq : getO h1 (nm d) with
    | none => rfl
    | some o =>
      exfalso
      rw [fillE_none ps 0 h es h1 e5 _ (fresh_spec f1)] at hq
      cases hq
  have nx := Nx.new (w := w) hM0 a3.hp hfr .row (by simp) et ie.size es arr (by rw [a4, a2, hn, f2]; exact Nat.le_refl _) (fun i e he => (a5 i e he).1) (fun i e j d he hd => by
    have := (a5 i e he).2 j d hd
    rw [Nat.zero_add] at this
    exact this) w (.inl rfl)
  refine ⟨.slice (some ⟨w.heap.size, 0, none⟩) n n, _, _, ?_, a3.trans nx, ?_⟩
  · have hbig : ¬ (n * ie.size > 2 ^ 24) := by omega
    by_cases hz : n * ie.size = 0
    · have hn0 : n = 0 := by
        rcases Nat.mul_eq_zero.1 hz with h | h
        · exact h
        · exact absurd h f3
      subst hn0
      simp only [Instr.buildSlice, Sem.run_bind, run_underlying ((hτ _ _ e1).slice (tslice_spec e2)), Result.andThen_ok, X.size, if_neg hbig, if_pos hz, Sem.run_pure]
      have : qs = #[] := by
        apply Array.eq_empty_of_size_eq_zero; omega
      subst this
      have hA : ∀ f : Nat → Value, (Array.range (0 * ie.size)).map f = #[] := by simp
      have hF : ∀ pl, Instr.fill pl #[] [] = some #[] := fun _ => rfl
      rw [hA] at a1
      have : arr = #[] := by
        have := a1.symm.trans (hF _)
        injection this
      subst this
      simp only [hA, hF, newRow, Sem.run_bind, run_newObj, Sem.run_pure, Result.andThen_ok]
      rfl
    · simp only [Instr.buildSlice, Sem.run_bind, run_underlying ((hτ _ _ e1).slice (tslice_spec e2)), Result.andThen_ok, X.size, if_neg hbig, if_neg hz, zeroValue, typeInfo, run_program, i1, Sem.run_pure, i4, a1]
      simp [newRow]
  · have hs := heap_alloc_new w (.cells arr et)
    have := R.own (w := w.alloc (.cells arr et)) (M := Mx M0 (phi φ (nm d) w.heap.size) ((nm d, ⟨2, .row, et, ie.size, es⟩) :: h1)) (φ := phi φ (nm d) w.heap.size) (σ := sg ((nm d, ⟨2, .row, et, ie.size, es⟩) :: h1)) (nm d) 0 n ie.size n arr et (by rw [sg_cons]; simp) (Nat.le_refl _) (by
      have : n ≤ n * ie.size := Nat.le_mul_of_pos_right _ (by omega)
      simp only [maxLen]; omega) (by simpa [phi] using hs) (by rw [a2, hn]; simp)
    simpa [phi] using this

theorem fillB_run {t : List (Nat × D)} {sz : Nat} : ∀ (ps : List (Nat × A)) (qs : List (Nat × Value)) (n : Nat) (es : List (List D)) (arr : Array Value), fillB t sz n ps = some es → qs.length = ps.length →
    (∀ (i : Nat) p q, ps[i]? = some p → qs[i]? = some q → q.1 = p.1 ∧ R w (Mx M0 φ h) φ (sg h) (ev t p.2) q.2) → (n + ps.length) * sz ≤ arr.size →
    ∃ arr', Instr.fill (fun i => some (i * sz, sz)) arr qs = some arr' ∧ arr'.size = arr.size ∧ es.length = ps.length ∧
      (∀ (i : Nat) (e : List D), es[i]? = some e → e.length = sz ∧ ∀ (j : Nat) (d : D), e[j]? = some d → ∃ u, arr'[(n + i) * sz + j]? = some u ∧ R w (Mx M0 φ h) φ (sg h) d u) ∧ ∀ k, k < n * sz → arr'[k]? = arr[k]?
  | [], [], n, es, arr, e, _, _, _ => by cases e; exact ⟨arr, rfl, rfl, rfl, by simp, fun _ _ => rfl⟩
  | [], _ :: _, _, _, _, _, hl, _, _ => by simp at hl
  | _ :: _, [], _, _, _, _, hl, _, _ => by simp at hl
  | (i, x) :: ps, (i', v) :: qs, n, es, arr, e, hl, hh, hsz => by
    rw [fillB_cons] at e
    obtain ⟨e1, e⟩ := gd_eq e
    obtain ⟨es1, e3, e⟩ := bO_eq e
    injection e with e; subst e
    simp only [Bool.and_eq_true, beq_iff_eq] at e1
    obtain ⟨rfl, e1, e2⟩ := e1
    obtain ⟨q1, q2⟩ := hh 0 _ _ rfl rfl
    simp only at q1 q2
    subst q1
    obtain ⟨l2, l3⟩ := cells_R q2 (allB_spec e2)
    have hb : (i' + 1 + ps.length) * sz ≤ arr.size := by rw [← show i' + (ps.length + 1) = i' + 1 + ps.length from by omega]; exact hsz
    have hb1 : i' * sz + sz ≤ arr.size := by
      have : i' * sz + sz = (i' + 1) * sz := by rw [Nat.add_mul, Nat.one_mul]
      rw [this]
      exact Nat.le_trans (Nat.mul_le_mul_right _ (by omega)) hb
    obtain ⟨arr1, a1, a2, a3⟩ := fill_step (fun i => some (i * sz, sz)) arr i' v qs (i' * sz) sz rfl (by rw [l2, e1]) hb1
    obtain ⟨arr2, b1, b2, b4, b5, b6⟩ := fillB_run ps qs (i' + 1) es1 arr1 e3 (by simpa using hl) (fun i p q a b => hh (i + 1) p q (by simpa using a) (by simpa using b)) (by rw [a2]; exact hb)
    have hs1 : (i' + 1) * sz = i' * sz + sz := by rw [Nat.add_mul, Nat.one_mul]
    refine ⟨arr2, by rw [a1, b1], by rw [b2, a2], by simp [b4], fun i e he => ?_, fun k hk => ?_⟩
    · cases i with
      | zero =>
        simp at he; subst he
        refine ⟨e1, fun j d hd => ?_⟩
        obtain ⟨u, c2, c3⟩ := l3 j d hd
        have hj : j < sz := by have := (List.getElem?_eq_some_iff.1 hd).1; rw [e1] at this; exact this
        refine ⟨u, ?_, c3⟩
        rw [Nat.add_zero, b6 _ (by omega), a3, if_pos (by omega)]
        rw [← c2]; congr 1; omega
      | succ i =>
        obtain ⟨c1, c2⟩ := b5 i e (by simpa using he)
        refine ⟨c1, fun j d hd => ?_⟩
        have := c2 j d hd
        rwa [show i' + 1 + i = i' + (i + 1) from by omega] at this
    · rw [b6 k (by omega), a3, if_neg (by omega)]

include hτ in
theorem vBuildSliceB_run {t : List (Nat × D)} {d ty n : Nat} {ps : List (Nat × A)} {qs : Array (Nat × Value)} {v h'} (hM0 : ∀ b, M0 b → b < w.heap.size) (hp : HpOk w M0 φ h) (e : vBuildSliceB τ t h d ty n ps = some (v, h')) (hl : qs.size = ps.length)
    (hh : ∀ (i : Nat) p q, ps[i]? = some p → qs[i]? = some q → q.1 = p.1 ∧ R w (Mx M0 φ h) φ (sg h) (ev t p.2) q.2) :
    ∃ u w' φ', (Instr.buildSlice ty n qs).run P w = .ok u w' ∧ Nx M0 φ h w φ' h' w' ∧ R w' (Mx M0 φ' h') φ' (sg h') v u := by
  rw [vBuildSliceB_def] at e
  obtain ⟨ti, e1, e⟩ := bO_eq e
  obtain ⟨et, e2, e⟩ := bO_eq e
  obtain ⟨ie, e3, e⟩ := bO_eq e
  obtain ⟨es, e5, e⟩ := bO_eq e
  obtain ⟨e4, e⟩ := gd_eq e
  injection e with e; injection e with e6 e7; subst e6; subst e7
  simp only [Bool.and_eq_true, beq_iff_eq, bne_iff_ne, decide_eq_true_eq] at e4
  obtain ⟨f1, f2, f3, f4⟩ := e4
  have X := hτ _ _ e3
  obtain ⟨pi, i1, i2, i3, z, i4, i5⟩ := X.info
  have hn : ((Array.range (n * ie.size)).map (z.cells[· % z.cells.size]!)).size = n * ie.size := by simp
  obtain ⟨arr, a1, a2, a4, a5, a6⟩ := fillB_run (M0 := M0) (φ := φ) (h := h) ps qs.toList 0 es ((Array.range (n * ie.size)).map (z.cells[· % z.cells.size]!)) e5 (by simpa using hl) (fun i p q a b => hh i p q a (by simpa using b)) (by rw [hn, f2, Nat.zero_add]; exact Nat.le_refl _)
  have nx := Nx.new (w := w) hM0 hp (fresh_spec f1) .box (by simp) et ie.size es arr (by rw [a4, a2, hn, f2]; exact Nat.le_refl _) (fun i e he => (a5 i e he).1) (fun i e j d he hd => by
    have := (a5 i e he).2 j d hd
    rw [Nat.zero_add] at this
    exact ⟨rfl, this⟩) w (.inl rfl)
  refine ⟨.slice (some ⟨w.heap.size, 0, none⟩) n n, _, _, ?_, nx, ?_⟩
  · have hbig : ¬ (n * ie.size > 2 ^ 24) := by omega
    by_cases hz : n * ie.size = 0
    · have hn0 : n = 0 := by
        rcases Nat.mul_eq_zero.1 hz with h | h
        · exact h
        · exact absurd h f3
      subst hn0
      simp only [Instr.buildSlice, Sem.run_bind, run_underlying ((hτ _ _ e1).slice (tslice_spec e2)), Result.andThen_ok, X.size, if_neg hbig, if_pos hz, Sem.run_pure]
      have : qs = #[] := by
        apply Array.eq_empty_of_size_eq_zero; omega
      subst this
      have hA : ∀ f : Nat → Value, (Array.range (0 * ie.size)).map f = #[] := by simp
      have hF : ∀ pl, Instr.fill pl #[] [] = some #[] := fun _ => rfl
      rw [hA] at a1
      have : arr = #[] := by
        have := a1.symm.trans (hF _)
        injection this
      subst this
      simp only [hA, hF, newRow, Sem.run_bind, run_newObj, Sem.run_pure, Result.andThen_ok]
      rfl
    · simp only [Instr.buildSlice, Sem.run_bind, run_underlying ((hτ _ _ e1).slice (tslice_spec e2)), Result.andThen_ok, X.size, if_neg hbig, if_neg hz, zeroValue, typeInfo, run_program, i1, Sem.run_pure, i4, a1]
      simp [newRow]
  · have hs := heap_alloc_new w (.cells arr et)
    have := R.own (w := w.alloc (.cells arr et)) (M := Mx M0 (phi φ (nm d) w.heap.size) ((nm d, ⟨2, .box, et, ie.size, es⟩) :: h)) (φ := phi φ (nm d) w.heap.size) (σ := sg ((nm d, ⟨2, .box, et, ie.size, es⟩) :: h)) (nm d) 0 n ie.size n arr et (by rw [sg_cons]; simp) (Nat.le_refl _) (by
      have : n ≤ n * ie.size := Nat.le_mul_of_pos_right _ (by omega)
      simp only [maxLen]; omega) (by simpa [phi] using hs) (by rw [a2, hn]; simp)
    simpa [phi] using this

end
end Go.Proofs.Ytemcdpkiphmndaa.Ab
