/- Ab7: the operations that make objects and write into them. -/
import Derived.Test.YtemcdpkiphmndaaAb6
set_option linter.unusedSimpArgs false
set_option linter.unusedVariables false
set_option linter.unusedSectionVars false
namespace Go.Proofs.Ytemcdpkiphmndaa.Ab

section
variable {P : Program} {τ : Nat → Option TI} (hτ : ∀ t i, τ t = some i → TIok P t i)
variable {w : World} {M0 : Nat → Prop} {φ : Nat → Nat} {h : List (Nat × Ob)} {M : Nat → Prop} {σ : Nat → Option Nat}

theorem natD_spec {d n v} (e : natD d = some n) (hr : R w M φ σ d v) : ∃ k i, v = .int k i ∧ 0 ≤ i ∧ i.toNat = n := by
  cases d with
  | int k i =>
    rw [natD_int] at e
    obtain ⟨e1, e2⟩ := gd_eq e
    injection e2 with e2
    exact ⟨k, i, hr.int_inv, by simpa using e1, e2⟩
  | _ => cases e

/-- A part of what is only read. -/
theorem ro_part {M : Nat → Prop} {σ : Nat → Option Nat} {s es v lo hi} (hr : R w M φ σ (.ro s es) v) (h1 : lo ≤ hi) (h2 : hi ≤ es.length) : ∃ A c, v = .slice A es.length c ∧ (es.length ≤ c ∨ es = []) ∧ ∀ m, hi ≤ m → R w M φ σ (.ro s ((es.take hi).drop lo)) (.slice (if m = lo then A else A.map (·.add (lo * s))) (hi - lo) (m - lo)) := by
  cases hr with
  | imm hr =>
    cases hr with
    | ro0 _ A c =>
      simp only [List.length_nil, Nat.le_zero_eq] at h2
      subst h2
      have hl0 : lo = 0 := by omega
      subst hl0
      exact ⟨A, c, rfl, .inr rfl, fun m _ => .imm (.ro0 _ _ _)⟩
    | ro _ _ b o c u hc hbb hM hl hkk hh1 hh2 =>
      refine ⟨_, c, rfl, .inl hc, fun m hm => ?_⟩
      by_cases hcl : m = lo
      · have hes : ((es.take hi).drop lo) = [] := by simp; omega
        rw [hes, show hi - lo = 0 from by omega]
        exact .imm (.ro0 _ _ _)
      · rw [if_neg hcl]
        have hlen : ((es.take hi).drop lo).length = hi - lo := by simp; omega
        have key : ∀ (i : Nat) (e : List D), ((es.take hi).drop lo)[i]? = some e → es[lo + i]? = some e := by
          intro i e he
          rw [List.getElem?_drop, List.getElem?_take] at he
          split at he
          · exact he
          · cases he
        have := Rv.ro (w := w) (M := M) s ((es.take hi).drop lo) b (o + lo * s) (m - lo) (fun i j => u (lo + i) j) (by omega) hbb hM (fun i e a => hl _ e (key i e a)) (fun i e j d a1 a2 => hkk _ e j d (key i e a1) a2)
          (fun i e j d a1 a2 => by
            have := hh1 _ e j d (key i e a1) a2
            rw [Nat.add_mul] at this
            rw [← this]; congr 2; omega) (fun i e j d a1 a2 => hh2 _ e j d (key i e a1) a2)
        rw [hlen] at this
        simpa [add_at] using R.imm this

include hτ in
theorem slW_spec {t z} (e : slW τ t = some z) : ∃ e0, P.underlying t = some (.slice e0) ∧ ∀ w : World, (sizeOf e0).run P w = .ok z w := by
  rw [slW_def] at e
  obtain ⟨ti, a1, e⟩ := bO_eq e
  obtain ⟨te, a2, e⟩ := bO_eq e
  obtain ⟨ie, a3, e⟩ := bO_eq e
  injection e with e; subst e
  exact ⟨te, (hτ _ _ a1).slice (tslice_spec a2), (hτ _ _ a3).size⟩

theorem slice_of {t e0 z n c lo hi m : Nat} {A : Option Addr} {vlo vhi vmx : Option Value} (hu : P.underlying t = some (.slice e0)) (hz : ∀ w : World, (sizeOf e0).run P w = .ok z w) (hb : (Instr.sliceBounds true n c vlo vhi vmx).run P w = .ok (lo, hi, m) w) :
    (Instr.sliceAt t (.slice A n c) vlo vhi vmx).run P w = .ok (.slice (if m = lo then A else A.map (·.add (lo * z))) (hi - lo) (m - lo)) w := by
  simp [Instr.sliceAt, Instr.slice, run_underlying hu, hb, hz]

theorem rowLen_spec {o m} (e : rowLen o = some m) : o.k = .row ∧ m = o.es.length := by
  unfold rowLen at e
  split at e
  · rename_i h; injection e with e; exact ⟨h, e.symm⟩
  · cases e

include hτ in
theorem vSl_run {t x v lo hi d} {vlo vhi : Option Value} (hp : HpOk w M0 φ h) (hr : R w (Mx M0 φ h) φ (sg h) x v) (e : vSl τ h t x lo hi = some d) {n : Nat} (hn : lenD x = some n)
    (h1 : vlo = none ∧ lo = 0 ∨ ∃ k n, vlo = some (.int k n) ∧ 0 ≤ n ∧ n.toNat = lo) (h2 : vhi = none ∧ hi = n ∨ ∃ k n, vhi = some (.int k n) ∧ 0 ≤ n ∧ n.toNat = hi) :
    ∃ u, (Instr.sliceAt t v vlo vhi none).run P w = .ok u w ∧ R w (Mx M0 φ h) φ (sg h) d u := by
  cases x with
  | nils =>
    rw [vSl_nils] at e
    obtain ⟨z, e0, e⟩ := bO_eq e
    obtain ⟨te, hu, hz⟩ := slW_spec hτ e0
    have := hr.nils_inv; subst v
    cases hn
    obtain ⟨e1, e2⟩ := gd_eq e
    injection e2 with e2; subst e2
    simp at e1
    obtain ⟨rfl, rfl⟩ := e1
    have hb := sliceB (P := P) (w := w) (isS := true) (len := 0) (cap := 0) vlo vhi h1 h2 (Nat.le_refl _) (Nat.le_refl _)
    exact ⟨_, slice_of hu hz hb, .imm .nils⟩
  | em =>
    rw [vSl_em] at e
    obtain ⟨z, e0, e⟩ := bO_eq e
    obtain ⟨te, hu, hz⟩ := slW_spec hτ e0
    obtain ⟨A, rfl⟩ := hr.em_inv
    cases hn
    obtain ⟨e1, e2⟩ := gd_eq e
    injection e2 with e2; subst e2
    simp at e1
    obtain ⟨rfl, rfl⟩ := e1
    have hb := sliceB (P := P) (w := w) (isS := true) (len := 0) (cap := 0) vlo vhi h1 h2 (Nat.le_refl _) (Nat.le_refl _)
    exact ⟨_, slice_of hu hz hb, .imm (.em _)⟩
  | ro s es =>
    rw [vSl_ro] at e
    obtain ⟨z, e0, e⟩ := bO_eq e
    obtain ⟨e3, e⟩ := gd_eq e
    simp only [beq_iff_eq] at e3
    subst e3
    obtain ⟨te, hu, hz⟩ := slW_spec hτ e0
    cases hn
    rw [vSlice_ro] at e
    obtain ⟨e1, e2⟩ := gd_eq e
    injection e2 with e2; subst e2
    simp at e1
    obtain ⟨A, c, rfl, q1, q2⟩ := ro_part hr e1.1 e1.2
    have hc : hi ≤ c := by
      rcases q1 with q1 | q1
      · omega
      · rw [q1] at e1; simp at e1; omega
    have hb := sliceB (P := P) (w := w) (isS := true) (len := es.length) (cap := c) vlo vhi h1 h2 e1.1 hc
    exact ⟨_, slice_of hu hz hb, q2 c hc⟩
  | own l i n =>
    cases hn
    rw [vSl_own] at e
    obtain ⟨z, e0, e⟩ := bO_eq e
    obtain ⟨o, g1, e⟩ := bO_eq e
    obtain ⟨m, g2, e⟩ := bO_eq e
    obtain ⟨e1, e2⟩ := gd_eq e
    injection e2 with e2; subst e2
    simp only [Bool.and_eq_true, Bool.or_eq_true, beq_iff_eq, bne_iff_ne, decide_eq_true_eq] at e1
    obtain ⟨f1, f2, f3, f4⟩ := e1
    obtain ⟨te, hu, hz⟩ := slW_spec hτ e0
    obtain ⟨g3, g4⟩ := objR_spec g1
    obtain ⟨hk, rfl⟩ := rowLen_spec g2
    obtain ⟨cur0, c1, c2, _, _⟩ := (hp.ob l o g3 g4).cells (by rw [hk]; simp)
    cases hr with
    | imm hr => cases hr
    | own _ _ _ s c cur ty hs hc hm hw hzz =>
      rw [c1] at hw
      injection hw with hw; injection hw with hw1 hw2; subst hw1
      have hs' : s = z := by unfold sg at hs; rw [g3] at hs; injection hs with hs; rw [← hs]; exact f1.symm
      subst hs'
      have hoz : o.sz = s := f1.symm
      have hcap : hi ≤ c := by
        rcases f4 with f4 | f4
        · omega
        · rw [← hzz, hoz] at c2
          have := Nat.le_of_mul_le_mul_right c2 (Nat.pos_of_ne_zero f2)
          omega
      have hb := sliceB (P := P) (w := w) (isS := true) (len := n) (cap := c) vlo vhi h1 h2 f3 hcap
      refine ⟨_, slice_of hu hz hb, ?_⟩
      by_cases hlt : lo < hi
      · rw [ownS_lt _ _ _ _ _ hlt, if_neg (by omega)]
        have := R.own (w := w) (M := Mx M0 φ h) (φ := φ) (σ := sg h) l (i + lo) (hi - lo) s (c - lo) cur0 o.ty hs (by omega) (by omega) c1 (by rw [← hzz]; congr 1; omega)
        rw [Nat.add_mul] at this
        simpa [add_at] using this
      · have : lo = hi := by omega
        subst this
        by_cases h0 : lo = 0
        · subst h0
          rw [ownS_0]
          have := R.own (w := w) (M := Mx M0 φ h) (φ := φ) (σ := sg h) l i 0 s c cur0 o.ty hs (by omega) hm c1 hzz
          by_cases hc0 : c = 0
          · rw [if_pos hc0]; simpa using this
          · rw [if_neg hc0]; simpa [add_at] using this
        · rw [ownS_eq _ _ _ _ (by omega), Nat.sub_self]
          exact .imm (.ro0 _ _ _)
  | _ => cases e

include hτ in
theorem vSl3_run {t x v lo hi mx d} {vlo : Option Value} (hp : HpOk w M0 φ h) (hr : R w (Mx M0 φ h) φ (sg h) x v) (e : vSl3 τ h t x lo hi mx = some d) {k2 k3 : IntKind} {n2 n3 : Int}
    (h1 : vlo = none ∧ lo = 0 ∨ ∃ k n, vlo = some (.int k n) ∧ 0 ≤ n ∧ n.toNat = lo) (h2 : 0 ≤ n2 ∧ n2.toNat = hi) (h3 : 0 ≤ n3 ∧ n3.toNat = mx) :
    ∃ u, (Instr.sliceAt t v vlo (some (.int k2 n2)) (some (.int k3 n3))).run P w = .ok u w ∧ R w (Mx M0 φ h) φ (sg h) d u := by
  cases x with
  | nils =>
    rw [vSl3_nils] at e
    obtain ⟨z, e0, e⟩ := bO_eq e
    obtain ⟨te, hu, hz⟩ := slW_spec hτ e0
    have := hr.nils_inv; subst v
    obtain ⟨e1, e2⟩ := gd_eq e
    injection e2 with e2; subst e2
    simp at e1
    obtain ⟨rfl, rfl, rfl⟩ := e1
    have hb := sliceB3 (P := P) (w := w) (len := 0) (cap := 0) vlo k2 k3 n2 n3 h1 h2 h3 (Nat.le_refl _) (Nat.le_refl _) (Nat.le_refl _)
    exact ⟨_, slice_of hu hz hb, .imm .nils⟩
  | em =>
    rw [vSl3_em] at e
    obtain ⟨z, e0, e⟩ := bO_eq e
    obtain ⟨te, hu, hz⟩ := slW_spec hτ e0
    obtain ⟨A, rfl⟩ := hr.em_inv
    obtain ⟨e1, e2⟩ := gd_eq e
    injection e2 with e2; subst e2
    simp at e1
    obtain ⟨rfl, rfl, rfl⟩ := e1
    have hb := sliceB3 (P := P) (w := w) (len := 0) (cap := 0) vlo k2 k3 n2 n3 h1 h2 h3 (Nat.le_refl _) (Nat.le_refl _) (Nat.le_refl _)
    exact ⟨_, slice_of hu hz hb, .imm (.em _)⟩
  | ro s es =>
    rw [vSl3_ro] at e
    obtain ⟨z, e0, e⟩ := bO_eq e
    obtain ⟨te, hu, hz⟩ := slW_spec hτ e0
    obtain ⟨e1, e2⟩ := gd_eq e
    injection e2 with e2; subst e2
    simp only [Bool.and_eq_true, beq_iff_eq, decide_eq_true_eq] at e1
    obtain ⟨rfl, f1, f2, f3⟩ := e1
    obtain ⟨A, c, rfl, q1, q2⟩ := ro_part hr f1 (by omega)
    have hc : mx ≤ c := by
      rcases q1 with q1 | q1
      · omega
      · rw [q1] at f3; simp at f3; omega
    have hb := sliceB3 (P := P) (w := w) (len := es.length) (cap := c) vlo k2 k3 n2 n3 h1 h2 h3 f1 f2 hc
    refine ⟨_, slice_of hu hz hb, ?_⟩
    by_cases hml : mx = lo
    · have hhi : hi = lo := by omega
      rw [show (mx == lo) = true from by simpa using hml, emOr_t, hml, Nat.sub_self, hhi, Nat.sub_self]
      exact .imm (.em _)
    · rw [show (mx == lo) = false from by simpa using hml, emOr_f]
      exact q2 mx f2
  | own l i n =>
    rw [vSl3_own] at e
    obtain ⟨z, e0, e⟩ := bO_eq e
    obtain ⟨te, hu, hz⟩ := slW_spec hτ e0
    obtain ⟨e1, e2⟩ := gd_eq e
    injection e2 with e2; subst e2
    simp only [Bool.and_eq_true, decide_eq_true_eq] at e1
    obtain ⟨f1, f2, f3⟩ := e1
    obtain ⟨s, c, _, rfl, hnc⟩ := own_inv hr
    have hb := sliceB3 (P := P) (w := w) (len := n) (cap := c) vlo k2 k3 n2 n3 h1 h2 h3 f1 f2 (by omega)
    refine ⟨_, slice_of hu hz hb, ?_⟩
    by_cases hml : mx = lo
    · have hhi : hi = lo := by omega
      rw [show (mx == lo) = true from by simpa using hml, emOr_t, hml, Nat.sub_self, hhi, Nat.sub_self]
      exact .imm (.em _)
    · rw [show (mx == lo) = false from by simpa using hml, emOr_f]
      exact .imm (.any _)
  | _ => cases e

theorem vNil_run {x v d} (o : Oper) (a : Operand) (ρ : Operand → Value) (hv : ρ a = v) (ho : o.op = .nilCheck a) (e : vNil x = some d) (hr : R w M φ σ x v) : (execOp ρ o).run P w = .ok (.value v) w ∧ R w M φ σ d v := by
  cases x with
  | ptr l i j =>
    cases e
    obtain ⟨s, _, rfl⟩ := ptr_inv hr
    exact ⟨by simp [execOp, ho, hv], hr⟩
  | rop cs =>
    cases e
    obtain ⟨b, q, rfl⟩ := rop_inv hr
    exact ⟨by simp [execOp, ho, hv], hr⟩
  | clo f cs =>
    cases e
    obtain ⟨vs, rfl, _, _⟩ := clo_inv hr
    exact ⟨by simp [execOp, ho, hv], hr⟩
  | _ => cases e

/-! ### a value's cells -/
theorem cells_R {d v} (hr : R w M φ σ d v) (hd : ∀ x ∈ cells d, okB x = true) : v.cells.size = (cells d).length ∧ ∀ (j : Nat) (x : D), (cells d)[j]? = some x → ∃ u, v.cells[j]? = some u ∧ R w M φ σ x u := by
  have one : okB d = true → cells d = [d] → v.cells = #[v] → v.cells.size = (cells d).length ∧ ∀ (j : Nat) (x : D), (cells d)[j]? = some x → ∃ u, v.cells[j]? = some u ∧ R w M φ σ x u := by
    intro _ e1 e2
    rw [e1, e2]
    refine ⟨rfl, fun j x hx => ?_⟩
    cases j with
    | zero => simp at hx; subst hx; exact ⟨v, rfl, hr⟩
    | succ j => simp at hx
  cases d with
  | agg cs =>
    obtain ⟨vs, rfl, h1, h2⟩ := agg_inv hr
    refine ⟨h1, fun j x hx => ?_⟩
    have hj : j < vs.size := by have := (List.getElem?_eq_some_iff.1 hx).1; rw [h1]; exact this
    exact ⟨vs[j], by simp [Value.cells, hj], h2 j x _ hx (by simp [hj])⟩
  | any => have := hd .any (by simp [cells]); cases this
  | tup vs => have := hd (.tup vs) (by simp [cells]); cases this
  | rop cs => have := hd (.rop cs) (by simp [cells]); cases this
  | _ =>
    refine one rfl rfl ?_
    have hv := hr.one rfl
    cases v <;> first | rfl | cases hv

theorem allB_spec : ∀ {cs : List D}, allB cs = true → ∀ x ∈ cs, okB x = true
  | [], _, x, hx => by cases hx
  | d :: cs, e, x, hx => by
    rw [allB_cons] at e
    simp only [Bool.and_eq_true] at e
    cases hx with
    | head => exact e.1
    | tail _ hx => exact allB_spec e.2 x hx
theorem okK_spec {k cs} (e : okK k cs = true) : ∀ (j : Nat) (d : D), cs[j]? = some d → okD k d = true := by
  intro j d hj
  cases k with
  | box => rfl
  | row => rw [okK_row] at e; exact List.all_eq_true.1 e d (List.mem_of_getElem? hj)
  | map => cases e

theorem okK_okB {k cs} (e : okK k cs = true) : ∀ (j : Nat) (d : D), cs[j]? = some d → okB d = true := by
  intro j d hj
  cases k with
  | box => exact allB_spec e d (List.mem_of_getElem? hj)
  | row => rw [okK_row] at e; exact okR_okB (List.all_eq_true.1 e d (List.mem_of_getElem? hj))
  | map => cases e

/-- One new object of one element, out of the cells of a value. -/
theorem Nx.one (hM0 : ∀ b, M0 b → b < w.heap.size) (hp : HpOk w M0 φ h) {l : Nat} (hf : fresh h l = true) (k : OK) (ty sz : Nat) (cs : List D) (arr : Array Value) (hl : cs.length = sz) (hk : okK k cs = true) (hs : arr.size = cs.length)
    (hr : ∀ (j : Nat) (d : D), cs[j]? = some d → ∃ u, arr[j]? = some u ∧ R w (Mx M0 φ h) φ (sg h) d u) :
    Nx M0 φ h w (phi φ l w.heap.size) ((l, ⟨2, k, ty, sz, [cs]⟩) :: h) (w.alloc (.cells arr ty)) ∧ R (w.alloc (.cells arr ty)) (Mx M0 (phi φ l w.heap.size) ((l, ⟨2, k, ty, sz, [cs]⟩) :: h)) (phi φ l w.heap.size) (sg ((l, ⟨2, k, ty, sz, [cs]⟩) :: h)) (.ptr l 0 0) (.pointer (some ⟨w.heap.size, 0, none⟩)) := by
  refine ⟨Nx.new hM0 hp (fresh_spec hf) k (by intro e; subst e; cases hk) ty sz [cs] arr (by simp [hs, hl]) (fun i e he => ?_) (fun i e j d he hd => ?_) w (.inl rfl), ?_⟩
  · cases i with
    | zero => simp at he; subst he; exact hl
    | succ i => simp at he
  · cases i with
    | zero => simp at he; subst he; simp only [Nat.zero_mul, Nat.zero_add]; exact ⟨okK_spec hk j d hd, hr j d hd⟩
    | succ i => simp at he
  · have := R.ptr (w := w.alloc (.cells arr ty)) (M := Mx M0 (phi φ l w.heap.size) ((l, ⟨2, k, ty, sz, [cs]⟩) :: h)) (φ := phi φ l w.heap.size) (σ := sg ((l, ⟨2, k, ty, sz, [cs]⟩) :: h)) l 0 0 sz (by rw [sg_cons]; simp)
    simpa [phi] using this

include hτ in
theorem vAlloc_run {d e v h'} (hM0 : ∀ b, M0 b → b < w.heap.size) (hp : HpOk w M0 φ h) (ev : vAlloc τ h d e = some (v, h')) :
    ∃ u w' φ', (Instr.alloc e true (.tuple #[])).run P w = .ok u w' ∧ Nx M0 φ h w φ' h' w' ∧ R w' (Mx M0 φ' h') φ' (sg h') v u := by
  rw [vAlloc_def] at ev
  obtain ⟨ti, e1, ev⟩ := bO_eq ev
  obtain ⟨e2, e3⟩ := gd_eq ev
  injection e3 with e3; injection e3 with e4 e5; subst e4; subst e5
  simp only [Bool.and_eq_true, beq_iff_eq] at e2
  obtain ⟨⟨f1, f2⟩, f3⟩ := e2
  obtain ⟨pi, i1, i2, i3, z, i4, i5⟩ := (hτ _ _ e1).info
  obtain ⟨z1, z2⟩ := okVs_spec i5
  obtain ⟨n, r⟩ := Nx.one hM0 hp f1 (bkind ti) e ti.size ti.zero z.cells f2 f3 (by simpa using z1) (fun j x hx => by
    have hj : j < z.cells.size := by have := (List.getElem?_eq_some_iff.1 hx).1; simp at z1; omega
    exact ⟨z.cells[j], by simp [hj], .imm (z2 _ _ j x _ hx (by simp [hj]))⟩)
  exact ⟨_, _, _, by simp [Instr.alloc, zeroValue, typeInfo, i1, i4, newVar, newRow], n, r⟩

include hτ in
theorem vBox_run {d e x vx v h'} (hM0 : ∀ b, M0 b → b < w.heap.size) (hp : HpOk w M0 φ h) (hx : R w (Mx M0 φ h) φ (sg h) x vx) (ev : vBox τ h d e x = some (v, h')) :
    ∃ u w' φ', (Instr.box e vx).run P w = .ok u w' ∧ Nx M0 φ h w φ' h' w' ∧ R w' (Mx M0 φ' h') φ' (sg h') v u := by
  rw [vBox_def] at ev
  obtain ⟨ti, e1, ev⟩ := bO_eq ev
  obtain ⟨e2, e3⟩ := gd_eq ev
  injection e3 with e3; injection e3 with e4 e5; subst e4; subst e5
  simp only [Bool.and_eq_true, beq_iff_eq] at e2
  obtain ⟨⟨f1, f2⟩, f3⟩ := e2
  obtain ⟨c1, c2⟩ := cells_R hx (fun y hy => by
    obtain ⟨j, hj⟩ := List.getElem?_of_mem hy
    exact okK_okB f3 j y hj)
  obtain ⟨n, r⟩ := Nx.one hM0 hp f1 (bkind ti) e ti.size (cells x) vx.cells f2 f3 c1 c2
  exact ⟨_, _, _, by simp [Instr.box, newVar, newRow], n, r⟩

end
end Go.Proofs.Ytemcdpkiphmndaa.Ab
