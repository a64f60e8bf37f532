/- Ab5: the operations that only compute and read: the machine's answer is what the interpreter tells. -/
import Derived.Test.YtemcdpkiphmndaaAb4
import GoSem.Dispatch
set_option linter.unusedSimpArgs false
set_option linter.unusedVariables false
namespace Go.Proofs.Ytemcdpkiphmndaa.Ab

/-! ### constants -/
def okV0 : Value → D → Bool
  | .int k n, .int k' n' => decide (k = k') && decide (n = n')
  | .bool a, .bool b => a == b
  | .pointer none, .nilp => true
  | .slice none 0 0, .nils => true
  | .nilFunc, .nilf => true
  | .map none, .nilm => true
  | _, .any => true
  | _, _ => false
def okVs : List Value → List D → Bool
  | [], [] => true
  | v :: vs, d :: ds => okV0 v d && okVs vs ds
  | _, _ => false
def okV : Value → D → Bool
  | .agg vs, .agg ds => okVs vs.toList ds
  | v, d => okV0 v d

theorem okV0_spec {v d} (h : okV0 v d = true) (w : World) (M : Nat → Prop) : Rv w M d v := by
  unfold okV0 at h
  split at h
  · simp at h; obtain ⟨rfl, rfl⟩ := h; exact .int _ _
  · simp at h; subst h; exact .bool _
  · exact .nilp
  · exact .nils
  · exact .nilf
  · exact .nilm
  · exact .any _
  · cases h
theorem okVs_spec : ∀ {vs : List Value} {ds : List D}, okVs vs ds = true → vs.length = ds.length ∧ ∀ (w : World) (M : Nat → Prop) (j : Nat) (d : D) (v : Value), ds[j]? = some d → vs[j]? = some v → Rv w M d v
  | [], [], _ => ⟨rfl, by simp⟩
  | v :: vs, d :: ds, h => by
    simp only [okVs, Bool.and_eq_true] at h
    obtain ⟨h1, h2⟩ := h
    obtain ⟨i1, i2⟩ := okVs_spec h2
    refine ⟨by simp [i1], fun w M j d' v' a b => ?_⟩
    cases j with
    | zero => simp at a b; subst a; subst b; exact okV0_spec h1 w M
    | succ j => exact i2 w M j d' v' (by simpa using a) (by simpa using b)
  | [], _ :: _, h => by cases h
  | _ :: _, [], h => by cases h
theorem okV_spec {v d} (h : okV v d = true) (w : World) (M : Nat → Prop) (φ : Nat → Nat) (σ : Nat → Option Nat) : R w M φ σ d v := by
  unfold okV at h
  split at h
  · rename_i vs ds
    obtain ⟨h1, h2⟩ := okVs_spec h
    exact .agg _ _ (by simpa using h1) (fun j d v a b => .imm (h2 w M j d v a (by simpa using b)))
  · exact .imm (okV0_spec h w M)

/-! ### types -/
def descOk : TypeDesc → TK → Bool
  | .int k, .int k' => decide (k = k')
  | .bool, .bool => true
  | .slice e, .slice e' => e == e'
  | .struct gs, .struct fs => gs.size == fs.length && (gs.toList.zip fs).all fun p => p.1.offset == p.2.1 && p.1.type == p.2.2.2 && p.1.name != "_"
  | .array n e, .arr n' e' => n == n' && e == e'
  | .pointer e, .ptr e' => e == e'
  | .map k e, .map k' e' => k == k' && e == e'
  | .string, .str => true
  | .struct _, _ | .array _ _, _ => false
  | _, .other => true
  | _, _ => false
def fsOk (P : Program) : TK → Bool
  | .struct fs => fs.all fun p => (P.info? p.2.2).map (·.size) == some p.2.1
  | _ => true
def zOk (v : Value) (b : Bool) : Bool := match v with | .agg _ => b | _ => !b
def zkOk (P : Program) (t : Nat) (i : TI) : Bool := match P.info? t with | some pi => (match pi.zero with | some z => zOk z i.isAgg | none => false) | none => false
def tiOk (P : Program) (t : Nat) (i : TI) : Bool :=
  (match P.info? t with
   | some pi => pi.size == i.size && pi.bytes == i.bytes && (match pi.zero with | some z => okVs z.cells.toList i.zero | none => false)
   | none => false) &&
  (match P.underlying t with | some d => descOk d i.k | none => false) && fsOk P i.k && !P.stoodInHeld t && !P.eqGuardType P.depth t && zkOk P t i
def tabOf (l : List (Nat × TI)) (t : Nat) : Option TI := match l with | [] => none | (n, i) :: l => if n = t then some i else tabOf l t
def tabOk (P : Program) (l : List (Nat × TI)) : Bool := l.all fun p => tiOk P p.1 p.2

structure TIok (P : Program) (t : Nat) (i : TI) : Prop where
  info : ∃ pi, P.info? t = some pi ∧ pi.size = i.size ∧ pi.bytes = i.bytes ∧ ∃ z, pi.zero = some z ∧ okVs z.cells.toList i.zero = true
  und : ∃ d, P.underlying t = some d ∧ descOk d i.k = true
  fs : fsOk P i.k = true
  held : P.stoodInHeld t = false
  guard : P.eqGuardType P.depth t = false
  zk : zkOk P t i = true

theorem tabOk_spec {P : Program} : ∀ {l : List (Nat × TI)}, tabOk P l = true → ∀ {t i}, tabOf l t = some i → TIok P t i
  | [], _, t, i, e => by cases e
  | (n, j) :: l, h, t, i, e => by
    simp only [tabOk, List.all_cons, Bool.and_eq_true] at h
    unfold tabOf at e
    split at e
    · injection e with e; subst e; rename_i hn; subst hn
      obtain ⟨h1, _⟩ := h
      unfold tiOk at h1
      simp only [Bool.and_eq_true, Bool.not_eq_true'] at h1
      obtain ⟨⟨⟨⟨⟨h1, h2⟩, h3⟩, h4⟩, h5⟩, h6⟩ := h1
      refine ⟨?_, ?_, h3, h4, h5, h6⟩
      · split at h1
        · rename_i pi hp
          simp only [Bool.and_eq_true, beq_iff_eq] at h1
          obtain ⟨⟨a, b⟩, c⟩ := h1
          split at c
          · rename_i z hz; exact ⟨pi, hp, a, b, z, hz, c⟩
          · cases c
        · cases h1
      · split at h2
        · rename_i d hd; exact ⟨d, hd, h2⟩
        · cases h2
    · exact tabOk_spec (by simpa [tabOk] using h.2) e

section
variable {P : Program} {τ : Nat → Option TI} (hτ : ∀ t i, τ t = some i → TIok P t i)
variable {w : World} {M0 : Nat → Prop} {φ : Nat → Nat} {h : List (Nat × Ob)}

theorem TIok.size {t i} (x : TIok P t i) (w : World) : (sizeOf t).run P w = .ok i.size w := by
  obtain ⟨pi, h1, h2, _⟩ := x.info
  simp [sizeOf, typeInfo, h1, h2]
theorem TIok.agg {t i} (x : TIok P t i) (w : World) : (isAgg t).run P w = .ok i.isAgg w := by
  obtain ⟨d, h1, h2⟩ := x.und
  simp only [isAgg, Sem.run_bind, run_underlying h1, Result.andThen_ok]
  unfold TI.isAgg
  cases d <;> cases hk : i.k <;> rw [hk] at h2 <;> simp [descOk] at h2 <;> simp
theorem TIok.struct {t i fs} (x : TIok P t i) (hk : i.k = .struct fs) : ∃ gs, P.underlying t = some (.struct gs) ∧ gs.size = fs.length ∧ ∀ (f : Nat) p, fs[f]? = some p → ∃ g, gs[f]? = some g ∧ g.offset = p.1 ∧ g.type = p.2.2 ∧ g.name ≠ "_" ∧ ∀ w, (sizeOf g.type).run P w = .ok p.2.1 w := by
  obtain ⟨d, h1, h2⟩ := x.und
  rw [hk] at h2
  cases d <;> simp only [descOk] at h2 <;> try cases h2
  rename_i gs
  simp only [Bool.and_eq_true, beq_iff_eq, List.all_eq_true] at h2
  refine ⟨gs, h1, h2.1, fun f p hp => ?_⟩
  have hlt : f < fs.length := (List.getElem?_eq_some_iff.1 hp).1
  have hg : f < gs.size := by omega
  have hmem : (gs[f], p) ∈ gs.toList.zip fs := by
    apply List.mem_of_getElem? (i := f)
    rw [List.getElem?_zip_eq_some]
    exact ⟨by simp [hg], hp⟩
  have := h2.2 _ hmem
  simp only [Bool.and_eq_true, beq_iff_eq, bne_iff_ne] at this
  have hf := x.fs
  rw [hk] at hf
  simp only [fsOk, List.all_eq_true, beq_iff_eq] at hf
  have hf' := hf p (List.mem_of_getElem? hp)
  refine ⟨gs[f], by simp [hg], this.1.1, this.1.2, this.2, fun w => ?_⟩
  cases hq : P.info? p.2.2 with
  | none => rw [hq] at hf'; cases hf'
  | some pi =>
    rw [hq] at hf'
    simp at hf'
    simp [sizeOf, typeInfo, this.1.2, hq, hf']
theorem TIok.slice {t i e} (x : TIok P t i) (hk : i.k = .slice e) : P.underlying t = some (.slice e) := by
  obtain ⟨d, h1, h2⟩ := x.und
  rw [hk] at h2
  cases d <;> simp [descOk] at h2
  subst h2; exact h1
theorem TIok.arr {t i n e} (x : TIok P t i) (hk : i.k = .arr n e) : P.underlying t = some (.array n e) := by
  obtain ⟨d, h1, h2⟩ := x.und
  rw [hk] at h2
  cases d <;> simp [descOk] at h2
  obtain ⟨rfl, rfl⟩ := h2; exact h1
theorem TIok.int {t i k} (x : TIok P t i) (hk : i.k = .int k) : P.underlying t = some (.int k) := by
  obtain ⟨d, h1, h2⟩ := x.und
  rw [hk] at h2
  cases d <;> simp [descOk] at h2
  subst h2; exact h1

/-! ### cells in a row -/
/-- From (b, o) on lie cells that read as cs. -/
def CellsAt (w : World) (M : Nat → Prop) (φ : Nat → Nat) (σ : Nat → Option Nat) (b o : Nat) (cs : List D) : Prop :=
  ∀ (j : Nat) (d : D), cs[j]? = some d → True ∧ ∃ u, w.cell? ⟨b, o + j, none⟩ = some u ∧ R w M φ σ d u

theorem CellsAt.drop {M σ b o cs} (h : CellsAt w M φ σ b o cs) (n : Nat) : CellsAt w M φ σ b (o + n) (cs.drop n) := by
  intro j d hj
  rw [List.getElem?_drop] at hj
  have := h _ d hj
  rwa [show o + n + j = o + (n + j) from by omega]

theorem load_run {M σ b o cs ty i j d} (hc : CellsAt w M φ σ b o cs) (x : TIok P ty i) (hl : ldi i cs j = some d) :
    ∃ u, (loadVar ty ⟨b, o + j, none⟩).run P w = .ok u w ∧ R w M φ σ d u := by
  have hag : i.isAgg = true → agS i.size ((cs.drop j).take i.size) = some d → ∃ u, (loadVar ty ⟨b, o + j, none⟩).run P w = .ok u w ∧ R w M φ σ d u := by
    intro ha he
    obtain ⟨h1, h2⟩ := gd_eq he
    injection h2 with h2
    subst h2
    simp only [beq_iff_eq] at h1
    have hrun := run_loadCells (P := P) w ⟨b, o + j, none⟩ i.size (fun k => (w.cell? ⟨b, o + j + k, none⟩).getD undef) (fun k hk => by
      rw [add_at]
      have hlt : k < ((cs.drop j).take i.size).length := by omega
      have hget : (cs.drop j)[k]? = some (((cs.drop j).take i.size)[k]) := by
        rw [← List.getElem?_eq_getElem hlt, List.getElem?_take]; simp [hk]
      obtain ⟨_, u, hu, _⟩ := hc.drop j k _ hget
      rw [hu]; rfl)
    refine ⟨.agg ((List.range i.size).map fun k => (w.cell? ⟨b, o + j + k, none⟩).getD undef).toArray, by simp only [loadVar, Sem.run_bind, x.agg, ha, Result.andThen_ok, if_true, x.size, hrun, Sem.run_pure], ?_⟩
    refine .agg _ _ (by simp; simpa using h1.symm) (fun k d v a b' => ?_)
    have hk : k < i.size := by
      have := (List.getElem?_eq_some_iff.1 a).1
      omega
    rw [List.getElem?_take] at a
    simp only [hk, if_true] at a
    obtain ⟨_, u, hu, hr⟩ := hc.drop j k d a
    simp [hk] at b'
    subst b'
    rw [hu]; exact hr
  have hsc : i.isAgg = false → cs[j]? = some d → ∃ u, (loadVar ty ⟨b, o + j, none⟩).run P w = .ok u w ∧ R w M φ σ d u := by
    intro ha he
    obtain ⟨_, u, hu, hr⟩ := hc j d he
    refine ⟨u, ?_, hr⟩
    simp [loadVar, Sem.run_bind, x.agg, ha, hu]
  unfold ldi at hl
  cases hk : i.k <;> rw [hk] at hl <;> first
    | exact hag (by simp [TI.isAgg, hk]) hl
    | exact hsc (by simp [TI.isAgg, hk]) hl

theorem cells_of_ob {l o} (hp : HpOk w M0 φ h) (ho : getO h l = some o) (hv : Live o) (hk : o.k ≠ .map) {i : Nat} {e : List D} (he : o.es[i]? = some e) : CellsAt w (Mx M0 φ h) φ (sg h) (φ l) (i * o.sz) e := by
  obtain ⟨cur, h1, _, _, h4⟩ := (hp.ob l o ho hv).cells hk
  intro j d hj
  obtain ⟨h5, u, h6, h7⟩ := h4 i e j d he hj
  exact ⟨trivial, u, by rw [cell_of_row w (φ l) _ cur o.ty (0, 0) h1]; exact h6, h7⟩
theorem oEs_spec {o i e} (he : oEs o i = some e) : o.k ≠ .map ∧ o.es[i]? = some e := by
  obtain ⟨a, b⟩ := gd_eq he
  exact ⟨by simpa using a, b⟩
theorem cells_of_rop {M σ cs b o} (hr : R w M φ σ (.rop cs) (.pointer (some ⟨b, o, none⟩))) : CellsAt w M φ σ b o cs := by
  cases hr with
  | imm hr =>
    cases hr with
    | rop _ _ _ u hb hM hk h1 h2 => exact fun j d hj => ⟨trivial, u j, h1 j d hj, .imm (h2 j d hj)⟩
theorem rop_inv {M σ cs v} (hr : R w M φ σ (.rop cs) v) : ∃ b o, v = .pointer (some ⟨b, o, none⟩) := by
  cases hr with
  | imm hr => cases hr; exact ⟨_, _, rfl⟩
theorem ptr_inv {M σ l i j v} (hr : R w M φ σ (.ptr l i j) v) : ∃ s, σ l = some s ∧ v = .pointer (some ⟨φ l, i * s + j, none⟩) := by
  cases hr with
  | imm hr => cases hr
  | ptr _ _ _ s hs => exact ⟨s, hs, rfl⟩

include hτ in
theorem vLoad_run (hp : HpOk w M0 φ h) {ty x v d} (hr : R w (Mx M0 φ h) φ (sg h) x v) (e : vLoad τ h ty x = some d) :
    ∃ u, (Instr.loadAt ty v).run P w = .ok u w ∧ R w (Mx M0 φ h) φ (sg h) d u := by
  cases x with
  | ptr l i j =>
    rw [vLoad_ptr] at e
    obtain ⟨o, e1, e⟩ := bO_eq e
    obtain ⟨es, e2, e⟩ := bO_eq e
    obtain ⟨ti, e3, e4⟩ := bO_eq e
    obtain ⟨g1, g2⟩ := objR_spec e1
    obtain ⟨k1, k2⟩ := oEs_spec e2
    obtain ⟨s, hs, rfl⟩ := ptr_inv hr
    have hs' : s = o.sz := by unfold sg at hs; rw [g1] at hs; injection hs with hs; exact hs.symm
    subst hs'
    obtain ⟨u, h1, h2⟩ := load_run (cells_of_ob hp g1 g2 k1 k2) (hτ _ _ e3) e4
    exact ⟨u, by simp [Instr.loadAt, Instr.sureAddr, h1], h2⟩
  | rop cs =>
    rw [vLoad_rop] at e
    obtain ⟨ti, e3, e4⟩ := bO_eq e
    obtain ⟨b, o, rfl⟩ := rop_inv hr
    obtain ⟨u, h1, h2⟩ := load_run (j := 0) (cells_of_rop hr) (hτ _ _ e3) e4
    exact ⟨u, by simpa [Instr.loadAt, Instr.sureAddr] using h1, h2⟩
  | _ => cases e

theorem rop_drop {M σ cs b o} (n : Nat) (hr : R w M φ σ (.rop cs) (.pointer (some ⟨b, o, none⟩))) : R w M φ σ (.rop (cs.drop n)) (.pointer (some ⟨b, o + n, none⟩)) := by
  cases hr with
  | imm hr =>
    cases hr with
    | rop _ _ _ u hb hM hk h1 h2 =>
      refine .imm (.rop _ b (o + n) (fun j => u (n + j)) hb hM (fun j d a => hk _ d (by rwa [List.getElem?_drop] at a)) (fun j d a => ?_) (fun j d a => h2 _ d (by rwa [List.getElem?_drop] at a)))
      rw [List.getElem?_drop] at a
      rw [← h1 _ d a]; congr 2; omega

theorem fOff_spec {i f p} (e : fOff i f = some p) : ∃ fs, i.k = .struct fs ∧ fs[f]? = some p := by
  unfold fOff at e
  split at e
  · rename_i fs hk; exact ⟨fs, hk, e⟩
  · cases e

include hτ in
theorem vFieldAddr_run {M σ ty f x v d} (hr : R w M φ σ x v) (e : vFieldAddr τ ty f x = some d) : ∃ u, (Instr.fieldAt ty v f).run P w = .ok u w ∧ R w M φ σ d u := by
  have key : ∀ (ti : TI) p b o, τ ty = some ti → fOff ti f = some p → (p.2.1 != 0) = true → (Instr.fieldAt ty (.pointer (some ⟨b, o, none⟩)) f).run P w = .ok (.pointer (some ⟨b, o + p.1, none⟩)) w := by
    intro ti p b o h1 h2 h3
    obtain ⟨fs, hk, hf⟩ := fOff_spec h2
    obtain ⟨gs, u1, u2, u3⟩ := (hτ _ _ h1).struct hk
    obtain ⟨g, g1, g2, g3, g4, g5⟩ := u3 f p hf
    have h3' : p.2.1 ≠ 0 := by simpa using h3
    simp only [Instr.fieldAt, Sem.run_bind, run_underlying u1, Result.andThen_ok, g1, Instr.sureAddr, Sem.run_pure, fieldPlace, g5, if_neg h3', add_at, g2]
  cases x with
  | ptr l i j =>
    rw [vFieldAddr_ptr] at e
    obtain ⟨ti, e1, e⟩ := bO_eq e
    obtain ⟨p, e2, e⟩ := bO_eq e
    obtain ⟨e3, e4⟩ := gd_eq e
    injection e4 with e4; subst e4
    obtain ⟨s, hs, rfl⟩ := ptr_inv hr
    refine ⟨_, key ti p _ _ e1 e2 e3, ?_⟩
    have := R.ptr (w := w) (M := M) (φ := φ) l i (j + p.1) s hs
    rwa [← Nat.add_assoc] at this
  | rop cs =>
    rw [vFieldAddr_rop] at e
    obtain ⟨ti, e1, e⟩ := bO_eq e
    obtain ⟨p, e2, e⟩ := bO_eq e
    obtain ⟨e3, e4⟩ := gd_eq e
    injection e4 with e4; subst e4
    obtain ⟨b, o, rfl⟩ := rop_inv hr
    exact ⟨_, key ti p _ _ e1 e2 e3, rop_drop p.1 hr⟩
  | _ => cases e

/-- A part of a struct that is at hand. -/
theorem part_run {M σ ty i cs vs j d} (x : TIok P ty i) (hr : R w M φ σ (.agg cs) (.agg vs)) (hl : ldi i cs j = some d) : ∃ u, (part ty vs j).run P w = .ok u w ∧ R w M φ σ d u := by
  cases hr with
  | imm hr => cases hr
  | agg _ _ hsz hh =>
    unfold ldi at hl
    have hag : i.isAgg = true → agS i.size ((cs.drop j).take i.size) = some d → ∃ u, (part ty vs j).run P w = .ok u w ∧ R w M φ σ d u := by
      intro ha he
      obtain ⟨h1, h2⟩ := gd_eq he
      injection h2 with h2
      subst h2
      simp only [beq_iff_eq, List.length_take, List.length_drop] at h1
      refine ⟨.agg (vs.extract j (j + i.size)), by simp [part, x.agg, ha, x.size], .agg _ _ (by simp; omega) (fun k d v a b => ?_)⟩
      rw [List.getElem?_take] at a
      split at a
      · rename_i hk
        rw [List.getElem?_drop] at a
        rw [Array.getElem?_extract] at b
        split at b
        · exact hh _ d v a b
        · cases b
      · cases a
    have hsc : i.isAgg = false → cs[j]? = some d → ∃ u, (part ty vs j).run P w = .ok u w ∧ R w M φ σ d u := by
      intro ha he
      have hj : j < vs.size := by have := (List.getElem?_eq_some_iff.1 he).1; omega
      refine ⟨vs[j], by simp [part, x.agg, ha, hj], hh j d _ he (by simp [hj])⟩
    cases hk : i.k <;> rw [hk] at hl <;> first
      | exact hag (by simp [TI.isAgg, hk]) hl
      | exact hsc (by simp [TI.isAgg, hk]) hl

theorem agg_inv {M σ cs v} (hr : R w M φ σ (.agg cs) v) : ∃ vs, v = .agg vs ∧ vs.size = cs.length ∧ ∀ (j : Nat) (d : D) (u : Value), cs[j]? = some d → vs[j]? = some u → R w M φ σ d u := by
  cases hr with
  | imm hr => cases hr
  | agg _ vs hl hh => exact ⟨vs, rfl, hl, hh⟩
theorem tup_inv {M σ cs v} (hr : R w M φ σ (.tup cs) v) : ∃ vs, v = .tuple vs ∧ vs.size = cs.length ∧ ∀ (j : Nat) (d : D) (u : Value), cs[j]? = some d → vs[j]? = some u → R w M φ σ d u := by
  cases hr with
  | imm hr => cases hr
  | tup _ vs hl hh => exact ⟨vs, rfl, hl, hh⟩

include hτ in
theorem vField_run {M σ ty f x v d} (hr : R w M φ σ x v) (e : vField τ ty f x = some d) : ∃ u, (Instr.field ty v f).run P w = .ok u w ∧ R w M φ σ d u := by
  cases x with
  | agg cs =>
    rw [vField_agg] at e
    obtain ⟨ti, e1, e⟩ := bO_eq e
    obtain ⟨p, e2, e⟩ := bO_eq e
    obtain ⟨ti2, e3, e4⟩ := bO_eq e
    obtain ⟨vs, rfl, _, _⟩ := agg_inv hr
    obtain ⟨fs, hk, hf⟩ := fOff_spec e2
    obtain ⟨gs, u1, u2, u3⟩ := (hτ _ _ e1).struct hk
    obtain ⟨g, g1, g2, g3, g4, g5⟩ := u3 f p hf
    obtain ⟨u, h1, h2⟩ := part_run (hτ _ _ e3) hr e4
    refine ⟨u, ?_, h2⟩
    rw [← g3, ← g2] at h1
    simp [Instr.field, run_underlying u1, g1, asAgg, h1]
  | _ => cases e

theorem nth_spec {es i e} (hn : nth es i = some e) : 0 ≤ i ∧ es[i.toNat]? = some e ∧ i < es.length := by
  unfold nth at hn
  split at hn
  · refine ⟨by simp, hn, ?_⟩
    have := (List.getElem?_eq_some_iff.1 hn).1
    simp only [Int.ofNat_eq_natCast]; omega
  · cases hn

theorem tslice_spec {ti e} (h : tslice ti = some e) : ti.k = .slice e := by
  unfold tslice at h
  split at h
  · rename_i e' hk; injection h with h; subst h; exact hk
  · cases h

include hτ in
theorem vIndexAddr_run {t x ix v vi d} (hp : HpOk w M0 φ h) (hr : R w (Mx M0 φ h) φ (sg h) x v) (hi : R w (Mx M0 φ h) φ (sg h) ix vi) (e : vIndexAddr τ h t x ix = some d) : ∃ u, (Instr.indexAt t v vi).run P w = .ok u w ∧ R w (Mx M0 φ h) φ (sg h) d u := by
  cases ix with
  | int k i =>
    have := hi.int_inv; subst this
    cases x with
    | ro s es =>
      rw [vIndexAddr_ro] at e
      obtain ⟨ti, k0, e⟩ := bO_eq e
      obtain ⟨et, k1, e⟩ := bO_eq e
      obtain ⟨ie, k2, e⟩ := bO_eq e
      obtain ⟨k3, e⟩ := gd_eq e
      obtain ⟨el, e1, e2⟩ := bO_eq e
      injection e2 with e2; subst e2
      simp only [beq_iff_eq] at k3
      obtain ⟨n1, n2, n3⟩ := nth_spec e1
      cases hr with
      | imm hr =>
        cases hr with
        | ro0 => simp at n2
        | ro _ _ b o c u hc hb hM hl hk h1 h2 =>
          refine ⟨.pointer (some ⟨b, o + i.toNat * s, none⟩), ?_, .imm (.rop _ _ _ (fun j => u i.toNat j) hb hM (fun j d a => hk _ _ j d n2 a) (fun j d a => h1 _ _ j d n2 a) (fun j d a => h2 _ _ j d n2 a))⟩
          simp only [Instr.indexAt, Sem.run_bind, asIntOf, Sem.run_pure, Result.andThen_ok, run_underlying ((hτ _ _ k0).slice (tslice_spec k1)), n1, n3, and_self, if_true, (hτ _ _ k2).size, k3, add_at]
    | own l i0 n =>
      rw [vIndexAddr_own] at e
      obtain ⟨ti, k0, e⟩ := bO_eq e
      obtain ⟨et, k1, e⟩ := bO_eq e
      obtain ⟨ie, k2, e⟩ := bO_eq e
      obtain ⟨ob, k3, e⟩ := bO_eq e
      obtain ⟨e1, e2⟩ := gd_eq e
      injection e2 with e2; subst e2
      simp [obsz] at e1
      obtain ⟨g1, g2⟩ := objR_spec k3
      cases hr with
      | imm hr => cases hr
      | own _ _ _ s' c cur ty hs hc hm hw hz =>
        have hs' : s' = ob.sz := by unfold sg at hs; rw [g1] at hs; injection hs with hs; exact hs.symm
        refine ⟨.pointer (some ⟨φ l, i0 * s' + i.toNat * s', none⟩), ?_, ?_⟩
        · simp only [Instr.indexAt, Sem.run_bind, asIntOf, Sem.run_pure, Result.andThen_ok, run_underlying ((hτ _ _ k0).slice (tslice_spec k1)), e1.2, and_self, if_true, (hτ _ _ k2).size, e1.1, hs', add_at]
        · have := R.ptr (w := w) (M := Mx M0 φ h) (φ := φ) l (i0 + i.toNat) 0 s' hs
          rw [Nat.add_mul] at this
          exact this
    | ptr l i0 j =>
      rw [vIndexAddr_ptr] at e
      obtain ⟨ti', e1, e⟩ := bO_eq e
      obtain ⟨p, e2, e⟩ := bO_eq e
      obtain ⟨ie, e3, e⟩ := bO_eq e
      obtain ⟨e4, e5⟩ := gd_eq e
      injection e5 with e5; subst e5
      simp at e4
      obtain ⟨f1, f2, f3⟩ := e4
      obtain ⟨s, hs, rfl⟩ := ptr_inv hr
      have hk : ti'.k = .arr p.1 p.2 := by
        unfold arrE at e2
        split at e2
        · rename_i n e hk; injection e2 with e2; subst e2; exact hk
        · cases e2
      refine ⟨.pointer (some ⟨φ l, i0 * s + j + i.toNat * ie.size, none⟩), ?_, ?_⟩
      · simp only [Instr.indexAt, Sem.run_bind, asIntOf, Sem.run_pure, Result.andThen_ok, run_underlying ((hτ _ _ e1).arr hk), Instr.sureAddr, f2, f3, and_self, if_true, (hτ _ _ e3).size, add_at]
      · have := R.ptr (w := w) (M := Mx M0 φ h) (φ := φ) l i0 (j + i.toNat * ie.size) s hs
        rwa [← Nat.add_assoc] at this
    | _ => cases e
  | _ => cases x <;> cases e

end
end Go.Proofs.Ytemcdpkiphmndaa.Ab
