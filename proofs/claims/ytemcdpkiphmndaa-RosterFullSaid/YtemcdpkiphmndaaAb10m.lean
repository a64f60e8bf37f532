/- Ab10m: maps whose keys are whole numbers. -/
import Derived.Test.YtemcdpkiphmndaaAb10h
import Derived.ChangeMaps4
set_option linter.unusedSimpArgs false
set_option linter.unusedVariables false
set_option linter.unusedSectionVars false
namespace Go.Proofs.Ytemcdpkiphmndaa.Ab

theorem TIok.map {P : Program} {t i k e} (x : TIok P t i) (hk : i.k = .map k e) : P.underlying t = some (.map k e) := by
  obtain ⟨d, h1, h2⟩ := x.und
  rw [hk] at h2
  cases d <;> simp [descOk] at h2
  obtain ⟨rfl, rfl⟩ := h2; exact h1

/-- The entries, as they read. -/
def EntOk (w : World) (M : Nat → Prop) (φ : Nat → Nat) (σ : Nat → Option Nat) (e : List D) (en : MapEntry) : Prop :=
  ∃ (k : IntKind) (n : Int) (d : D), e = [.int k n, d] ∧ en.key = .int k n ∧ R w M φ σ d en.val

/-- A map, laid anew. -/
def setM (w : World) (b : Nat) (o : Obj) : World := { w with heap := w.heap.setIfInBounds b o }
theorem setM_at {w : World} {b : Nat} {o c : Obj} (h : w.heap[b]? = some c) : (setM w b o).heap[b]? = some o := by
  have := (Array.getElem?_eq_some_iff.1 h).1
  simp [setM, this]
theorem setM_other {w : World} {b : Nat} {o : Obj} (b' : Nat) (h : b' ≠ b) : (setM w b o).heap[b']? = w.heap[b']? := by
  simp [setM, Array.getElem?_setIfInBounds_ne (Ne.symm h)]
theorem Ext.setM {S : Nat → Prop} {w : World} {b : Nat} {o : Obj} {ents : Array MapEntry} {clock : Nat} (h : w.heap[b]? = some (.map ents clock)) (hS : S b) : Ext S w (setM w b o) :=
  ⟨rfl, rfl, rfl, by simp [Ab.setM], fun b' _ hn => setM_other b' (fun e => hn (e ▸ hS)), fun b' cur ty hc => by
    by_cases e : b' = b
    · subst e; rw [h] at hc; cases hc
    · exact ⟨cur, by rw [setM_other b' e]; exact hc, rfl⟩⟩

section
variable {P : Program} {τ : Nat → Option TI} (hτ : ∀ t i, τ t = some i → TIok P t i)
variable {w : World} {M0 : Nat → Prop} {φ : Nat → Nat} {h : List (Nat × Ob)} {M : Nat → Prop} {σ : Nat → Option Nat}

include hτ in
theorem mapT_spec {t p} (e : mapT τ t = some p) : P.underlying t = some (.map p.1 p.2) ∧ ∃ kk, P.underlying p.1 = some (.int kk) := by
  rw [mapT_def] at e
  obtain ⟨ti, e1, e⟩ := bO_eq e
  obtain ⟨q, e2, e⟩ := bO_eq e
  obtain ⟨ki, e3, e⟩ := bO_eq e
  obtain ⟨e4, e5⟩ := gd_eq e
  injection e5 with e5; subst e5
  have hk : ti.k = .map q.1 q.2 := by
    unfold tmap at e2
    split at e2
    · rename_i k e hk; injection e2 with e2; subst e2; exact hk
    · cases e2
  have hk2 : ∃ kk, ki.k = .int kk := by
    unfold tint0 at e4
    split at e4
    · rename_i kk hk; exact ⟨kk, hk⟩
    · cases e4
  obtain ⟨kk, hk2⟩ := hk2
  exact ⟨(hτ _ _ e1).map hk, kk, (hτ _ _ e3).int hk2⟩

theorem findM_run {kt : TypeId} {kk : IntKind} {k : IntKind} {n : Int} : ∀ (es : List (List D)) (ents : List MapEntry) (i : Nat) (r : Option (Nat × D)), findM k n es i = some r → ents.length = es.length → (∀ (j : Nat) (e : List D) (en : MapEntry), es[j]? = some e → ents[j]? = some en → EntOk w M φ σ e en) →
    ∃ r' : Option (Nat × Value), Instr.findNow (.int kk) (.int k n) ents i = some r' ∧ (match r, r' with | none, none => ∀ en ∈ ents, en.key ≠ .int k n | some p, some q => p.1 = q.1 ∧ i ≤ p.1 ∧ (∃ en, ents[p.1 - i]? = some en ∧ en.key = .int k n ∧ en.val = q.2) ∧ (es[p.1 - i]? = some [.int k n, p.2]) ∧ R w M φ σ p.2 q.2 | _, _ => False)
  | [], [], i, r, e, _, _ => by simp only [findM] at e; injection e with e; subst e; exact ⟨none, rfl, by simp⟩
  | [], _ :: _, _, _, _, hl, _ => by cases hl
  | _ :: _, [], _, _, _, hl, _ => by cases hl
  | e0 :: es, en :: ents, i, r, e, hl, hh => by
    obtain ⟨k', n', d, rfl, hk, hr⟩ := hh 0 _ _ rfl rfl
    simp only [findM] at e
    obtain ⟨e1, e⟩ := gd_eq e
    have hkk : k = k' := of_decide_eq_true e1
    subst hkk
    by_cases hn : n = n'
    · subst hn
      simp only [beq_self_eq_true] at e
      injection e with e; subst e
      refine ⟨some (i, en.val), by simp [Instr.findNow, Instr.sameNow, hk], rfl, Nat.le_refl _, ⟨en, by simp, hk, rfl⟩, by simp, hr⟩
    · have hb : (n == n') = false := by simpa using hn
      rw [hb] at e
      simp only at e
      obtain ⟨r', g1, g2⟩ := findM_run (kt := kt) (kk := kk) es ents (i + 1) r e (by simpa using hl) (fun j e en a b => hh (j + 1) e en (by simpa using a) (by simpa using b))
      refine ⟨r', by simp [Instr.findNow, Instr.sameNow, hk, hb, g1], ?_⟩
      match r, r', g2 with
      | none, none, g2 =>
        intro x hx
        cases hx with
        | head => rw [hk]; intro hc; injection hc with _ hc; exact hn hc.symm
        | tail _ hx => exact g2 x hx
      | some p, some q, g2 =>
        obtain ⟨a1, a2, ⟨en', a3, a4, a5⟩, a6, a7⟩ := g2
        have : p.1 - i = (p.1 - (i + 1)) + 1 := by omega
        exact ⟨a1, by omega, ⟨en', by rw [this]; simpa using a3, a4, a5⟩, by rw [this]; simpa using a6, a7⟩

theorem checkKey_int {kt : TypeId} {kk : IntKind} (hd : P.underlying kt = some (.int kk)) (e : Bool) (v : Value) (k : IntKind) (n : Int) (hv : v = .int k n) : (Instr.checkKey e 10000 kt v).run P w = .ok () w := by
  subst hv
  show (Instr.checkKey e (9999 + 1) kt _).run P w = _
  unfold Instr.checkKey
  simp [run_underlying hd]

theorem map_ob {l o} (hp : HpOk w M0 φ h) (ho : getO h l = some o) (hv : Live o) (hk : o.k = .map) : ∃ (ents : Array MapEntry) (clock : Nat), w.heap[φ l]? = some (Obj.map ents clock) ∧ ents.size = o.es.length ∧ MapKept.Stamped ents clock ∧
    (∀ (j : Nat) (e : List D) (en : MapEntry), o.es[j]? = some e → ents.toList[j]? = some en → EntOk w (Mx M0 φ h) φ (sg h) e en) := by
  obtain ⟨ents, clock, h1, h2, hst, h3⟩ := (hp.ob l o ho hv).map hk
  refine ⟨ents, clock, h1, h2, hst, fun j e en a b => ?_⟩
  obtain ⟨k, n, d, en', g1, g2, g3, g4⟩ := h3 j e a
  simp at b
  rw [b] at g2; injection g2 with g2; subst g2
  exact ⟨k, n, d, g1, g3, g4⟩
theorem isMapO_spec {o : Ob} (e : isMapO o = true) : o.k = .map := by
  unfold isMapO at e; split at e
  · assumption
  · cases e
theorem mp_inv {l v} (hr : R w M φ σ (.mp l) v) : v = .map (some (φ l)) := by
  cases hr with
  | imm hr => cases hr
  | mp _ _ _ => rfl
theorem nilm_inv {v} (hr : R w M φ σ .nilm v) : v = .map none := by
  cases hr with
  | imm hr => cases hr; rfl

include hτ in
theorem zeroD_run {t ie d} (e1 : τ t = some ie) (e : zeroD ie = some d) : ∃ z, (zeroValue t).run P w = .ok z w ∧ R w M φ σ d z := by
  have X := hτ _ _ e1
  obtain ⟨pi, i1, i2, i3, z, i4, i5⟩ := X.info
  obtain ⟨z1, z2⟩ := okVs_spec i5
  refine ⟨z, by simp [zeroValue, typeInfo, i1, i4], ?_⟩
  have hz := X.zk
  unfold zkOk at hz
  rw [i1] at hz
  simp only [i4] at hz
  unfold zeroD at e
  cases ha : ie.isAgg with
  | true =>
    rw [ha] at e hz
    injection e with e; subst e
    cases z with
    | agg vs => exact .agg _ _ (by simpa [Value.cells] using z1) (fun j d v a b => .imm (z2 w M j d v a (by simpa [Value.cells] using b)))
    | _ => cases hz
  | false =>
    rw [ha] at e hz
    simp only [cond_false] at e
    split at e
    · rename_i d0 hd
      injection e with e; subst e
      have hc : z.cells = #[z] := by cases z <;> first | rfl | cases hz
      exact .imm (z2 w M 0 d0 z (by rw [hd]; rfl) (by rw [hc]; rfl))
    · cases e

theorem okv_run {c : Bool} {d : D} {v : Value} {b : Bool} (hr : R w M φ σ d v) : R w M φ σ (okv c d b) (if c then .tuple #[v, .bool b] else v) := by
  cases c with
  | false => exact hr
  | true =>
    refine .tup _ _ rfl (fun j d' v' a b' => ?_)
    match j, a, b' with
    | 0, a, b' => simp at a b'; subst a; subst b'; exact hr
    | 1, a, b' => simp at a b'; subst a; subst b'; exact .imm (.bool _)
    | j + 2, a, _ => simp at a

include hτ in
theorem vLookup_run {t x i c d vx vi} (hp : HpOk w M0 φ h) (hx : R w (Mx M0 φ h) φ (sg h) x vx) (hi : R w (Mx M0 φ h) φ (sg h) i vi) (e : vLookup τ h t x i c = some d) : ∃ u, (Instr.lookup t vx vi c).run P w = .ok u w ∧ R w (Mx M0 φ h) φ (sg h) d u := by
  cases i with
  | int k n =>
    have := hi.int_inv; subst this
    cases x with
    | nilm =>
      have := nilm_inv hx; subst this
      rw [vLookup_nil] at e
      obtain ⟨p, e1, e⟩ := bO_eq e
      obtain ⟨ie, e2, e⟩ := bO_eq e
      rw [foundV_none] at e
      obtain ⟨z, e3, e4⟩ := bO_eq e
      injection e4 with e4; subst e4
      obtain ⟨u1, kk, u2⟩ := mapT_spec hτ e1
      obtain ⟨zv, z1, z2⟩ := zeroD_run (w := w) (M := Mx M0 φ h) (φ := φ) (σ := sg h) hτ e2 e3
      refine ⟨_, ?_, okv_run z2⟩
      simp [Instr.lookup, run_underlying u1, checkKey_int u2 _ _ k n rfl, Instr.findKey, run_underlying u2, Instr.findNow, z1]
    | mp l =>
      have := mp_inv hx; subst this
      rw [vLookup_mp] at e
      obtain ⟨p, e1, e⟩ := bO_eq e
      obtain ⟨ie, e2, e⟩ := bO_eq e
      obtain ⟨o, e3, e⟩ := bO_eq e
      obtain ⟨e4, e⟩ := gd_eq e
      obtain ⟨r, e5, e⟩ := bO_eq e
      obtain ⟨u1, kk, u2⟩ := mapT_spec hτ e1
      obtain ⟨g1, g2⟩ := objR_spec e3
      obtain ⟨ents, clock, m1, m2, mst, m3⟩ := map_ob hp g1 g2 (isMapO_spec e4)
      obtain ⟨r', f1, f2⟩ := findM_run (kt := p.1) (kk := kk) o.es ents.toList 0 r e5 (by simpa using m2) m3
      have hget := MapKept.run_getObj_map (P := P) m1
      match r, r', f2 with
      | none, none, _ =>
        rw [foundV_none] at e
        obtain ⟨z, e6, e7⟩ := bO_eq e
        injection e7 with e7; subst e7
        obtain ⟨zv, z1, z2⟩ := zeroD_run (w := w) (M := Mx M0 φ h) (φ := φ) (σ := sg h) hτ e2 e6
        refine ⟨_, ?_, okv_run z2⟩
        simp [Instr.lookup, run_underlying u1, hget, checkKey_int u2 _ _ k n rfl, Instr.findKey, run_underlying u2, f1, z1]
      | some a, some b, f2 =>
        rw [foundV_some] at e
        injection e with e; subst e
        refine ⟨_, ?_, okv_run f2.2.2.2.2⟩
        simp [Instr.lookup, run_underlying u1, hget, checkKey_int u2 _ _ k n rfl, Instr.findKey, run_underlying u2, f1]
    | _ => cases e
  | _ => cases x <;> cases e

include hτ in
theorem vMlen_run {t x d vx} (ty : TypeId) (hp : HpOk w M0 φ h) (hx : R w (Mx M0 φ h) φ (sg h) x vx) (e : vMlen τ h t x = some d) : ∃ u, (Builtin.len_ #[t] ty #[vx]).run P w = .ok u w ∧ R w (Mx M0 φ h) φ (sg h) d u := by
  cases x with
  | nilm =>
    have := nilm_inv hx; subst this
    rw [vMlen_nil] at e
    obtain ⟨p, e1, e⟩ := bO_eq e
    injection e with e; subst e
    obtain ⟨u1, kk, u2⟩ := mapT_spec hτ e1
    exact ⟨_, by simp [Builtin.len_, run_underlying u1]; rfl, .imm (.int _ _)⟩
  | mp l =>
    have := mp_inv hx; subst this
    rw [vMlen_mp] at e
    obtain ⟨p, e1, e⟩ := bO_eq e
    obtain ⟨o, e3, e⟩ := bO_eq e
    obtain ⟨e4, e⟩ := gd_eq e
    injection e with e; subst e
    obtain ⟨u1, kk, u2⟩ := mapT_spec hτ e1
    obtain ⟨g1, g2⟩ := objR_spec e3
    obtain ⟨ents, clock, m1, m2, mst, m3⟩ := map_ob hp g1 g2 (isMapO_spec e4)
    refine ⟨goInt ents.size, by simp [Builtin.len_, run_underlying u1, MapKept.run_getObj_map (P := P) m1], ?_⟩
    rw [m2]
    exact .imm (.int _ _)
  | _ => cases e


/-- A map of ours, laid anew. -/
theorem Nx.map (hp : HpOk w M0 φ h) {l : Nat} {o : Ob} (ho : getO h l = some o) (h2 : o.st = 2) {ents : Array MapEntry} {clock : Nat} (hw : w.heap[φ l]? = some (.map ents clock)) (ents' : Array MapEntry) (clock' : Nat) (es' : List (List D)) (hl : ents'.size = es'.length) (hst : MapKept.Stamped ents' clock')
    (hh : ∀ (j : Nat) (e : List D) (en : MapEntry), es'[j]? = some e → ents'[j]? = some en → EntOk w (Mx M0 φ h) φ (sg h) e en) :
    Nx M0 φ h w φ ((l, ⟨2, .map, o.ty, o.sz, es'⟩) :: h) (setM w (φ l) (.map ents' clock')) := by
  refine Nx.putO hp ho h2 (Ext.setM hw ⟨l, o, ho, h2, rfl⟩) (fun b hb => setM_other b hb) (setM_at hw) l _ ⟨2, .map, o.ty, o.sz, es'⟩ φ (by simp [getO_cons]) (fun x ox g1 g2 g3 => ?_) rfl (fun x s hxs => ⟨?_, rfl⟩) ⟨fun e => absurd rfl e, fun _ => ⟨ents', clock', rfl, hl, hst, fun j e a => ?_⟩⟩
  · rw [getO_cons, if_neg (Ne.symm g2)] at g1; exact ⟨g1, g2⟩
  · rw [sg_cons]
    by_cases e : l = x
    · subst e; rw [if_pos rfl]; unfold sg at hxs; rw [ho] at hxs; exact hxs
    · rw [if_neg e]; exact hxs
  · have hlt : j < ents'.size := by have := (List.getElem?_eq_some_iff.1 a).1; simp at this; omega
    obtain ⟨k, n, d, q1, q2, q3⟩ := hh j e ents'[j] a (by simp [hlt])
    exact ⟨k, n, d, ents'[j], q1, by simp [hlt], q2, q3⟩

include hτ in
theorem vMapUpd_run {t x i v vx vi vv h'} (hp : HpOk w M0 φ h) (hx : R w (Mx M0 φ h) φ (sg h) x vx) (hi : R w (Mx M0 φ h) φ (sg h) i vi) (hv : R w (Mx M0 φ h) φ (sg h) v vv) (e : vMapUpd τ h t x i v = some h') : ∃ w', (Instr.mapUpdate t vx vi vv).run P w = .ok () w' ∧ Nx M0 φ h w φ h' w' := by
  cases i with
  | int k n =>
    have := hi.int_inv; subst this
    cases x with
    | mp l =>
      have := mp_inv hx; subst this
      rw [vMapUpd_mp] at e
      obtain ⟨p, e1, e⟩ := bO_eq e
      obtain ⟨o, e3, e⟩ := bO_eq e
      obtain ⟨e4, e⟩ := gd_eq e
      obtain ⟨r, e5, e⟩ := bO_eq e
      injection e with e; subst e
      obtain ⟨u1, kk, u2⟩ := mapT_spec hτ e1
      obtain ⟨g1, g2⟩ := objW_spec e3
      obtain ⟨ents, clock, m1, m2, mst, m3⟩ := map_ob hp g1 (.inr g2) (isMapO_spec e4)
      obtain ⟨r', f1, f2⟩ := findM_run (kt := p.1) (kk := kk) o.es ents.toList 0 r e5 (by simpa using m2) m3
      have hget := MapKept.run_getObj_map (P := P) m1
      have hset : ∀ ob, (setObj (φ l) ob).run P w = .ok () (setM w (φ l) ob) := fun ob => MapKept.run_setObj_map (P := P) ob m1
      have old : ∀ (j : Nat) (e : List D) (en : MapEntry), o.es[j]? = some e → ents[j]? = some en → EntOk w (Mx M0 φ h) φ (sg h) e en := fun j e en a b => m3 j e en a (by simpa using b)
      match r, r', f2 with
      | none, none, f2 =>
        refine ⟨_, ?_, Nx.map hp g1 g2 m1 (ents.push { key := .int k n, val := vv, born := clock }) (clock + 1) _ (by simp [putM, oes, m2]) (MapKept.stamped_push mst f2) (fun j e en a b => ?_)⟩
        · simp [Instr.mapUpdate, run_underlying u1, hget, checkKey_int u2 _ _ k n rfl, Instr.findKey, run_underlying u2, f1, hset]
        · simp only [putM, oes] at a
          by_cases hj : j < o.es.length
          · rw [List.getElem?_append_left hj] at a
            rw [Array.getElem?_push, if_neg (by omega)] at b
            exact old j e en a b
          · rw [List.getElem?_append_right (by omega)] at a
            have hj0 : j - o.es.length = 0 := by
              by_cases hz : j - o.es.length = 0
              · exact hz
              · have : ([[D.int k n, v]] : List (List D))[j - o.es.length]? = none := by simp; omega
                rw [this] at a; cases a
            rw [hj0] at a
            simp at a; subst a
            have hje : j = ents.size := by omega
            subst hje
            simp at b; subst b
            exact ⟨k, n, v, rfl, rfl, hv⟩
      | some a, some b, f2 =>
        obtain ⟨f3, _, ⟨en0, f4, f5, f6⟩, f7, f8⟩ := f2
        simp only [Nat.sub_zero] at f4 f7
        rw [f3] at f4 f7
        have hkeep : ∀ w, (Instr.keyThatStays (.int k n) (.int k n)).run P w = .ok (.int k n) w := by
          intro w; simp [Instr.keyThatStays, Instr.sameBits]
        have hkey : ((ents[b.1]?).map (·.key)).getD (.int k n) = .int k n := by
          rw [show ents[b.1]? = some en0 from by simpa using f4]; simp [f5]
        refine ⟨_, ?_, Nx.map hp g1 g2 m1 (ents.modify b.1 fun e => { e with key := .int k n, val := vv }) clock _ (by simp [putM, oes, m2]) (MapKept.stamped_modify mst _ _ (fun _ _ => rfl) (fun e _ he => by rw [show ents[b.1]? = some en0 from by simpa using f4] at he; injection he with he; subst he; exact f5.symm)) (fun j e en q1 q2 => ?_)⟩
        · simp only [Instr.mapUpdate, Sem.run_bind, run_underlying u1, Result.andThen_ok, hget, checkKey_int u2 _ _ k n rfl, Instr.findKey, run_underlying u2, f1, Sem.run_pure, hkey, hkeep, hset]
        · simp only [putM, oes, f3] at q1
          rw [List.getElem?_set] at q1
          rw [Array.getElem?_modify] at q2
          by_cases hj : b.1 = j
          · subst hj
            rw [if_pos rfl] at q1 q2
            rw [show ents[b.1]? = some en0 from by simpa using f4] at q2
            simp at q2; subst q2
            have hlt := (List.getElem?_eq_some_iff.1 f7).1
            rw [if_pos hlt] at q1
            injection q1 with q1; subst q1
            exact ⟨k, n, v, rfl, rfl, hv⟩
          · rw [if_neg hj] at q1 q2
            exact old j e en q1 q2
    | _ => cases e
  | _ => cases x <;> cases e

include hτ in
theorem vDelete_run {t x i vx vi h'} (ty : TypeId) (hp : HpOk w M0 φ h) (hx : R w (Mx M0 φ h) φ (sg h) x vx) (hi : R w (Mx M0 φ h) φ (sg h) i vi) (at2 : TypeId) (e : vDelete τ h t x i = some h') : ∃ w', (Builtin.delete_ #[t, at2] ty #[vx, vi]).run P w = .ok (.tuple #[]) w' ∧ Nx M0 φ h w φ h' w' := by
  cases i with
  | int k n =>
    have := hi.int_inv; subst this
    cases x with
    | nilm =>
      have := nilm_inv hx; subst this
      rw [vDelete_nil] at e
      obtain ⟨p, e1, e⟩ := bO_eq e
      injection e with e; subst e
      obtain ⟨u1, kk, u2⟩ := mapT_spec hτ e1
      exact ⟨w, by simp [Builtin.delete_, run_underlying u1, checkKey_int u2 _ _ k n rfl], .refl hp⟩
    | mp l =>
      have := mp_inv hx; subst this
      rw [vDelete_mp] at e
      obtain ⟨p, e1, e⟩ := bO_eq e
      obtain ⟨o, e3, e⟩ := bO_eq e
      obtain ⟨e4, e⟩ := gd_eq e
      obtain ⟨r, e5, e⟩ := bO_eq e
      injection e with e; subst e
      obtain ⟨u1, kk, u2⟩ := mapT_spec hτ e1
      obtain ⟨g1, g2⟩ := objW_spec e3
      obtain ⟨ents, clock, m1, m2, mst, m3⟩ := map_ob hp g1 (.inr g2) (isMapO_spec e4)
      obtain ⟨r', f1, f2⟩ := findM_run (kt := p.1) (kk := kk) o.es ents.toList 0 r e5 (by simpa using m2) m3
      have hget := MapKept.run_getObj_map (P := P) m1
      have hset : ∀ ob, (setObj (φ l) ob).run P w = .ok () (setM w (φ l) ob) := fun ob => MapKept.run_setObj_map (P := P) ob m1
      have old : ∀ (j : Nat) (e : List D) (en : MapEntry), o.es[j]? = some e → ents[j]? = some en → EntOk w (Mx M0 φ h) φ (sg h) e en := fun j e en a b => m3 j e en a (by simpa using b)
      match r, r', f2 with
      | none, none, _ =>
        refine ⟨_, ?_, Nx.map hp g1 g2 m1 ents clock _ (by simp [cutM, oes, m2]) mst (fun j e en a b => old j e en a b)⟩
        simp [Builtin.delete_, run_underlying u1, hget, checkKey_int u2 _ _ k n rfl, Instr.findKey, run_underlying u2, f1, hset]
      | some a, some b, f2 =>
        obtain ⟨f3, _, ⟨en0, f4, f5, f6⟩, f7, f8⟩ := f2
        simp only [Nat.sub_zero] at f4 f7
        rw [f3] at f4 f7
        have hlt : b.1 < ents.size := by have := (List.getElem?_eq_some_iff.1 f4).1; simpa using this
        have hlt2 := (List.getElem?_eq_some_iff.1 f7).1
        have hE : (ents.eraseIdxIfInBounds b.1).toList = ents.toList.eraseIdx b.1 := by
          simp [Array.eraseIdxIfInBounds, hlt]
        refine ⟨_, ?_, Nx.map hp g1 g2 m1 (ents.eraseIdxIfInBounds b.1) clock _ ?_ (MapKept.stamped_erase mst _) (fun j e en q1 q2 => ?_)⟩
        · simp [Builtin.delete_, run_underlying u1, hget, checkKey_int u2 _ _ k n rfl, Instr.findKey, run_underlying u2, f1, hset]
        · rw [← Array.length_toList, hE]
          simp only [cutM, oes, f3, List.length_eraseIdx]
          rw [if_pos (by simpa using hlt), if_pos hlt2]
          simp [m2]
        · simp only [cutM, oes, f3] at q1
          rw [← Array.getElem?_toList, hE] at q2
          rw [List.getElem?_eraseIdx] at q1 q2
          by_cases hj : j < b.1
          · rw [if_pos hj] at q1 q2; exact old j e en q1 (by simpa using q2)
          · rw [if_neg hj] at q1 q2; exact old (j + 1) e en q1 (by simpa using q2)
    | _ => cases e
  | _ => cases x <;> cases e

theorem vMakeMap_run {d t v h'} (hM0 : ∀ b, M0 b → b < w.heap.size) (hp : HpOk w M0 φ h) (e : vMakeMap h d t = some (v, h')) : ∃ u w' φ', (Instr.makeMap t none).run P w = .ok u w' ∧ Nx M0 φ h w φ' h' w' ∧ R w' (Mx M0 φ' h') φ' (sg h') v u := by
  rw [vMakeMap_def] at e
  obtain ⟨e1, e2⟩ := gd_eq e
  injection e2 with e2; injection e2 with e3 e4; subst e3; subst e4
  have nx := Nx.newO hM0 hp (fresh_spec e1) .map t 2 [] (.map #[] 0) ⟨fun e => absurd rfl e, fun _ => ⟨#[], 0, rfl, rfl, MapKept.stamped_empty 0, fun i e a => by simp at a⟩⟩ w (.inl rfl)
  refine ⟨.map (some w.heap.size), w.alloc (.map #[] 0), _, by simp [Instr.makeMap], nx, ?_⟩
  have := R.mp (w := w.alloc (.map #[] 0)) (M := Mx M0 (phi φ (nm d) w.heap.size) ((nm d, ⟨2, .map, t, 2, []⟩) :: h)) (φ := phi φ (nm d) w.heap.size) (σ := sg ((nm d, ⟨2, .map, t, 2, []⟩) :: h)) (nm d) 2 (by rw [sg_cons]; simp)
  simpa [phi] using this

end
end Go.Proofs.Ytemcdpkiphmndaa.Ab
