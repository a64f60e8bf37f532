/- Ab9: make, append, stores. -/
import Derived.Test.YtemcdpkiphmndaaAb8
import Derived.Laws.CopyRow
set_option linter.unusedSimpArgs false
set_option linter.unusedVariables false
namespace Go.Proofs.Ytemcdpkiphmndaa.Ab

section
variable {P : Program} {τ : Nat → Option TI} (hτ : ∀ t i, τ t = some i → TIok P t i)
variable {w : World} {M0 : Nat → Prop} {φ : Nat → Nat} {h : List (Nat × Ob)} {M : Nat → Prop} {σ : Nat → Option Nat}

include hτ in
theorem vMake_run {d ty x y vx vy v h'} (hM0 : ∀ b, M0 b → b < w.heap.size) (hp : HpOk w M0 φ h) (hx : R w (Mx M0 φ h) φ (sg h) x vx) (hy : R w (Mx M0 φ h) φ (sg h) y vy) (ev : vMake τ h d ty x y = some (v, h')) :
    ∃ u w' φ', (Instr.makeSlice ty vx vy).run P w = .ok u w' ∧ Nx M0 φ h w φ' h' w' ∧ R w' (Mx M0 φ' h') φ' (sg h') v u := by
  rw [vMake_def] at ev
  obtain ⟨ti, e1, ev⟩ := bO_eq ev
  obtain ⟨et, e2, ev⟩ := bO_eq ev
  obtain ⟨ie, e3, ev⟩ := bO_eq ev
  obtain ⟨n, e4, ev⟩ := bO_eq ev
  obtain ⟨m, e5, ev⟩ := bO_eq ev
  obtain ⟨e6, e7⟩ := gd_eq ev
  injection e7 with e7; injection e7 with e8 e9; subst e8; subst e9
  simp only [Bool.and_eq_true, beq_iff_eq, bne_iff_ne, decide_eq_true_eq] at e6
  obtain ⟨⟨⟨⟨⟨⟨f1, f2⟩, f3⟩, f4⟩, f5⟩, f6⟩, f7⟩ := e6
  rw [room_def] at f6 f7
  obtain ⟨kl, l, rfl, l0, ln⟩ := natD_spec e4 hx
  obtain ⟨kc, c, rfl, c0, cn⟩ := natD_spec e5 hy
  have X := hτ _ _ e3
  obtain ⟨pi, i1, i2, i3, z, i4, i5⟩ := X.info
  obtain ⟨z1, z2⟩ := okVs_spec i5
  have hb : (pi.bytes : Int) * c ≤ 281474976710656 := by
    have : (pi.bytes : Int) * c = ((m * ie.bytes : Nat) : Int) := by
      rw [i3, show c = (m : Int) from by omega, Int.natCast_mul, Int.mul_comm]
    rw [this]; omega
  have hr := run_make (P := P) w ty et pi z ((hτ _ _ e1).slice (tslice_spec e2)) i1 i4 kl kc l c l0 (by omega) hb (by omega)
  have hzs : z.cells.size = ie.size := by rw [← f3, ← z1]; simp
  have nx := Nx.new (w := w) hM0 hp (fresh_spec f1) .row (by simp) et ie.size (List.replicate n ie.zero) (madeCells z.cells (c.toNat * pi.size)) (by
      rw [size_madeCells, List.length_replicate, cn, i2]; exact Nat.mul_le_mul_right _ f5) (fun i e he => by
        rw [List.getElem?_replicate] at he
        split at he
        · injection he with he; rw [← he]; exact f3
        · cases he) (fun i e j x he hx => by
      rw [List.getElem?_replicate] at he
      split at he
      · injection he with he
        subst he
        rename_i hin
        refine ⟨List.all_eq_true.1 f4 x (List.mem_of_getElem? hx), ?_⟩
        have hj : j < ie.size := by have := (List.getElem?_eq_some_iff.1 hx).1; omega
        have hlt : i * ie.size + j < c.toNat * pi.size := by
          rw [cn, i2]
          have : (i + 1) * ie.size ≤ m * ie.size := Nat.mul_le_mul_right _ (by omega)
          rw [Nat.add_mul, Nat.one_mul] at this; omega
        have hmod : (i * ie.size + j) % z.cells.size = j := by
          rw [hzs, Nat.mul_comm, Nat.mul_add_mod, Nat.mod_eq_of_lt hj]
        have hjz : j < z.cells.size := by omega
        refine ⟨z.cells[j], ?_, .imm (z2 _ _ j x _ hx (by simp [hjz]))⟩
        simp [madeCells, hlt, hmod, hjz]
      · cases he) w (.inl rfl)
  refine ⟨_, _, _, hr, nx, ?_⟩
  rw [ln, cn]
  have hs := heap_alloc_new w (.cells (madeCells z.cells (m * pi.size)) et)
  have := R.own (w := w.alloc (.cells (madeCells z.cells (m * pi.size)) et)) (M := Mx M0 (phi φ (nm d) w.heap.size) ((nm d, ⟨2, .row, et, ie.size, List.replicate n ie.zero⟩) :: h)) (φ := phi φ (nm d) w.heap.size) (σ := sg ((nm d, ⟨2, .row, et, ie.size, List.replicate n ie.zero⟩) :: h)) (nm d) 0 n ie.size m _ et (by rw [sg_cons]; simp) f5 (by simp only [maxLen]; omega) (by simpa [phi] using hs) (by rw [size_madeCells, i2]; simp)
  simpa [phi] using this

/-- One object's block, written anew. -/
theorem Nx.putO (hp : HpOk w M0 φ h) {l : Nat} {o : Ob} (ho : getO h l = some o) (h2 : o.st = 2) {w' : World} (he : Ext (W φ h) w w') (hoth' : ∀ b, b ≠ φ l → w'.heap[b]? = w.heap[b]?) {c' : Obj} (hc' : w'.heap[φ l]? = some c') (n : Nat) (h' : List (Nat × Ob)) (o' : Ob) (φ' : Nat → Nat)
    (hn : getO h' n = some o') (hoth : ∀ x ox, getO h' x = some ox → x ≠ n → Live ox → getO h x = some ox ∧ x ≠ l) (hφn : φ' n = φ l) (hup : ∀ x s, sg h x = some s → sg h' x = some s ∧ φ' x = φ x)
    (hat : ObAt c' w (Mx M0 φ h) φ (sg h) o') :
    Nx M0 φ h w φ' h' w' := by
  have hWl : W φ h (φ l) := ⟨l, o, ho, h2, rfl⟩
  have hphi : ∀ x ox, getO h x = some ox → φ' x = φ x := fun x ox e => (hup x ox.sz (by unfold sg; rw [e]; rfl)).2
  have hW : ∀ b, W φ' h' b → W φ h b := by
    rintro b ⟨x, ox, e1, e2, e3⟩
    by_cases hx : x = n
    · subst hx; rw [hφn] at e3; rw [← e3]; exact hWl
    · obtain ⟨g1, g2⟩ := hoth x ox e1 hx (.inr e2)
      exact ⟨x, ox, g1, e2, by rw [← hphi x ox g1]; exact e3⟩
  have hmx : ∀ b, Mx M0 φ' h' b → Mx M0 φ h b := fun b e => e.elim .inl (fun e => .inr (hW b e))
  refine ⟨he, ⟨?_, ?_, ?_, ?_⟩, hup, fun b _ e => hW b e⟩
  · intro x ox e1 e2
    by_cases hx : x = n
    · subst hx
      rw [hn] at e1; injection e1 with e1; subst e1
      rw [hφn]
      exact ⟨c', hc', hat.mono he (fun b _ e => .inr e) (fun b _ e => hmx b e) hup⟩
    · obtain ⟨g1, g2⟩ := hoth x ox e1 hx e2
      rw [hphi x ox g1]
      have hb := hp.ob x ox g1 e2
      have hne : φ x ≠ φ l := fun e => g2 (hp.inj l x o ox ho h2 g1 e2 e.symm).symm
      exact hb.mono he (hoth' _ hne) (fun b _ e => .inr e) (fun b _ e => hmx b e) hup
  · intro x y ox oy e1 e2 e3 e4 e5
    by_cases hx : x = n
    · by_cases hy : y = n
      · exact hx.trans hy.symm
      · obtain ⟨g3, g4⟩ := hoth y oy e3 hy e4
        subst hx
        rw [hφn, hphi y oy g3] at e5
        exact absurd (hp.inj l y o oy ho h2 g3 e4 e5).symm g4
    · obtain ⟨g1, g2⟩ := hoth x ox e1 hx (.inr e2)
      by_cases hy : y = n
      · subst hy
        rw [hφn, hphi x ox g1] at e5
        exact absurd (hp.inj l x o ox ho h2 g1 (.inr e2) e5.symm).symm g2
      · obtain ⟨g3, g4⟩ := hoth y oy e3 hy e4
        rw [hphi x ox g1, hphi y oy g3] at e5
        exact hp.inj x y ox oy g1 e2 g3 e4 e5
  · intro x ox e1 e2
    by_cases hx : x = n
    · subst hx; rw [hφn]; exact hp.m0 l o ho (.inr h2)
    · obtain ⟨g1, g2⟩ := hoth x ox e1 hx e2
      rw [hphi x ox g1]; exact hp.m0 x ox g1 e2
  · intro x ox e1 e2
    have hs := he.size
    by_cases hx : x = n
    · subst hx; rw [hφn]; have := hp.lt l o ho (.inr h2); omega
    · obtain ⟨g1, g2⟩ := hoth x ox e1 hx e2
      rw [hphi x ox g1]; have := hp.lt x ox g1 e2; omega

theorem Nx.put (hp : HpOk w M0 φ h) {l : Nat} {o : Ob} (ho : getO h l = some o) (h2 : o.st = 2) {cur cur' : Array Value} {ty : Nat} (hw : w.heap[φ l]? = some (Obj.cells cur ty (0, 0))) (hsz : cur'.size = cur.size) (n : Nat) (h' : List (Nat × Ob)) (o' : Ob) (φ' : Nat → Nat)
    (hn : getO h' n = some o') (hk : o'.k ≠ .map) (hty : o'.ty = ty) (hoth : ∀ x ox, getO h' x = some ox → x ≠ n → Live ox → getO h x = some ox ∧ x ≠ l) (hφn : φ' n = φ l) (hup : ∀ x s, sg h x = some s → sg h' x = some s ∧ φ' x = φ x)
    (hlen : o'.es.length * o'.sz ≤ cur'.size) (hel : ∀ (i : Nat) (e : List D), o'.es[i]? = some e → e.length = o'.sz)
    (hc : ∀ (i : Nat) (e : List D) (j : Nat) (d : D), o'.es[i]? = some e → e[j]? = some d → okD o'.k d = true ∧ ∃ u, cur'[i * o'.sz + j]? = some u ∧ R w (Mx M0 φ h) φ (sg h) d u) :
    Nx M0 φ h w φ' h' (w.setRow (φ l) cur') :=
  Nx.putO hp ho h2 (Ext.setRow w (φ l) cur cur' ty hw hsz ⟨l, o, ho, h2, rfl⟩) (fun b hb => setRow_other w (φ l) b cur' hb) (c' := .cells cur' o'.ty (0, 0)) (by rw [hty]; exact setRow_heap w (φ l) cur cur' ty _ hw) n h' o' φ' hn hoth hφn hup (ObAt.of_cells hk hlen hel hc)

/-- What is appended, or copied: its cells. -/
theorem appY_run (hp : HpOk w M0 φ h) {y v s es} (e : appY h s y = some es) (hs : 0 < s) (hr : R w (Mx M0 φ h) φ (sg h) y v) :
    ∃ (A : Option Addr) (c : Nat) (news : List Value), v = .slice A es.length c ∧ news.length = es.length * s ∧ (es ≠ [] → ∃ a, A = some a ∧ ∀ j u, news[j]? = some u → w.cell? (a.add j) = some u) ∧ (∀ (i : Nat) (e : List D), es[i]? = some e → e.length = s) ∧
      (∀ (i : Nat) (e : List D) (j : Nat) (d : D), es[i]? = some e → e[j]? = some d → okR d = true ∧ ∃ u, news[i * s + j]? = some u ∧ Rv w (Mx M0 φ h) d u) := by
  have key : ∀ (b o : Nat), (∀ (i : Nat) (e : List D), es[i]? = some e → e.length = s) → (∀ (i : Nat) (e : List D) (j : Nat) (d : D), es[i]? = some e → e[j]? = some d → okR d = true ∧ ∃ u, w.cell? ⟨b, o + i * s + j, none⟩ = some u ∧ Rv w (Mx M0 φ h) d u) →
      ∃ news : List Value, news.length = es.length * s ∧ (∀ j u, news[j]? = some u → w.cell? ((⟨b, o, none⟩ : Addr).add j) = some u) ∧ (∀ (i : Nat) (e : List D) (j : Nat) (d : D), es[i]? = some e → e[j]? = some d → okR d = true ∧ ∃ u, news[i * s + j]? = some u ∧ Rv w (Mx M0 φ h) d u) := by
    intro b o k1 k2
    refine ⟨(List.range (es.length * s)).map (fun k => (w.cell? ⟨b, o + k, none⟩).getD undef), by simp, fun j u hj => ?_, fun i e j d a1 a2 => ?_⟩
    · rw [add_at]
      simp only [List.getElem?_map, List.getElem?_range] at hj
      have hlt : j < es.length * s := by
        by_cases hc : j < es.length * s
        · exact hc
        · simp [hc] at hj
      simp [hlt] at hj
      have hi : j / s < es.length := (Nat.div_lt_iff_lt_mul hs).2 hlt
      have hm : j % s < s := Nat.mod_lt _ hs
      have he := List.getElem?_eq_getElem hi
      have hel := k1 _ _ he
      obtain ⟨_, u', g1, _⟩ := k2 (j / s) _ (j % s) _ he (List.getElem?_eq_getElem (by rw [hel]; exact hm))
      have : o + j / s * s + j % s = o + j := by have := Nat.div_add_mod j s; rw [Nat.mul_comm] at this; omega
      rw [this] at g1
      rw [g1] at hj ⊢
      simpa using hj
    · obtain ⟨g0, u, g1, g2⟩ := k2 i e j d a1 a2
      refine ⟨g0, u, ?_, g2⟩
      have hi := (List.getElem?_eq_some_iff.1 a1).1
      have hj : j < s := by have := (List.getElem?_eq_some_iff.1 a2).1; rw [k1 i e a1] at this; exact this
      have hlt : i * s + j < es.length * s := by
        have : (i + 1) * s ≤ es.length * s := Nat.mul_le_mul_right _ (by omega)
        rw [Nat.add_mul, Nat.one_mul] at this; omega
      simp [hlt, ← Nat.add_assoc, g1]
  cases y with
  | nils =>
    rw [appY_nils] at e
    injection e with e; subst e
    exact ⟨none, 0, [], hr.nils_inv, by simp, fun q => absurd rfl q, by simp, by simp⟩
  | em =>
    rw [appY_em] at e
    injection e with e; subst e
    obtain ⟨A, q⟩ := hr.em_inv
    exact ⟨A, 0, [], q, by simp, fun q => absurd rfl q, by simp, by simp⟩
  | ro s' es' =>
    rw [appY_ro] at e
    obtain ⟨e0, e⟩ := gd_eq e
    injection e with e2; subst e2
    simp only [beq_iff_eq] at e0; subst e0
    cases hr with
    | imm hr =>
      cases hr with
      | ro0 _ A c => exact ⟨A, c, [], rfl, by simp, fun q => absurd rfl q, by simp, by simp⟩
      | ro _ _ b o c u hc hb hM hl hk h1 h2 =>
        obtain ⟨news, n1, n2, n3⟩ := key b o hl (fun i e j d a1 a2 => ⟨hk i e j d a1 a2, u i j, h1 i e j d a1 a2, h2 i e j d a1 a2⟩)
        exact ⟨_, c, news, rfl, n1, fun _ => ⟨_, rfl, n2⟩, hl, n3⟩
  | own l i n =>
    rw [appY_own] at e
    obtain ⟨o, e1, e⟩ := bO_eq e
    obtain ⟨e3, e2⟩ := gd_eq e
    have hos : obsz o = o.sz := rfl
    rw [hos] at e3
    simp only [beq_iff_eq] at e3; subst e3
    obtain ⟨g1, g2⟩ := objR_spec e1
    obtain ⟨o', g1', _, hk, hn, hes⟩ := viewE_own_spec e2
    rw [g1] at g1'; injection g1' with g1'; subst g1'
    obtain ⟨cur, h1, h2, h3, h4⟩ := (hp.ob l o g1 g2).cells (by rw [hk]; simp)
    have hkey : ∀ (i' : Nat) (e : List D), es[i']? = some e → o.es[i + i']? = some e := by
      intro i' e he
      rw [hes, List.getElem?_take] at he
      split at he
      · rwa [List.getElem?_drop] at he
      · cases he
    obtain ⟨sx, cx, curx, tyx, hsx, hcx, rfl⟩ : ∃ s c cur ty, sg h l = some s ∧ n ≤ c ∧ v = .slice (some ⟨φ l, i * s, none⟩) n c := by
      cases hr with
      | imm hr => cases hr
      | own _ _ _ s c cur ty hs hc hm hw hz => exact ⟨s, c, cur, ty, hs, hc, rfl⟩
    have hsx' : sx = o.sz := by unfold sg at hsx; rw [g1] at hsx; injection hsx with hsx; exact hsx.symm
    subst hsx'
    obtain ⟨news, n1, n2, n3⟩ := key (φ l) (i * o.sz) (fun i' e a => h3 _ e (hkey i' e a)) (fun i' e j d a1 a2 => by
      obtain ⟨q0, u, q1, q2⟩ := h4 _ e j d (hkey i' e a1) a2
      rw [hk] at q0
      refine ⟨q0, u, ?_, q2.imm_of q0⟩
      rw [cell_of_row w (φ l) _ cur o.ty (0, 0) h1, ← Nat.add_mul]
      exact q1)
    refine ⟨some ⟨φ l, i * o.sz, none⟩, cx, news, ?_, n1, fun _ => ⟨_, rfl, n2⟩, fun i' e a => h3 _ e (hkey i' e a), n3⟩
    have : es.length = n := by rw [hes]; simp; omega
    rw [this]
  | _ => cases e

/-- The first cells of it. -/
theorem first_run {A : Option Addr} {es : List (List D)} {c s : Nat} {news : List Value} (h1 : news.length = es.length * s) (h2 : es ≠ [] → ∃ a, A = some a ∧ ∀ j u, news[j]? = some u → w.cell? (a.add j) = some u) {n : Nat} (hn : n ≤ es.length) :
    (Builtin.firstCells s n (.slice A es.length c)).run P w = .ok (news.take (n * s)).toArray w := by
  have hle : n * s ≤ news.length := by rw [h1]; exact Nat.mul_le_mul_right _ hn
  by_cases hes : es = []
  · subst hes
    have hn0 : n = 0 := by simpa using hn
    subst hn0
    cases A with
    | none => simp [Builtin.firstCells]
    | some a => exact run_firstCells_some (P := P) w s 0 a 0 c _ (by simp) (by simp)
  · obtain ⟨a, rfl, h3⟩ := h2 hes
    refine run_firstCells_some (P := P) w s n a _ c _ (by simp; omega) (fun j u hj => h3 j u ?_)
    rw [List.getElem?_take] at hj
    split at hj
    · exact hj
    · cases hj

theorem news_one {M : Nat → Prop} {es : List (List D)} {s : Nat} {news : List Value} (hs : 0 < s) (n1 : news.length = es.length * s) (n3 : ∀ (i : Nat) (e : List D), es[i]? = some e → e.length = s)
    (n4 : ∀ (i : Nat) (e : List D) (j : Nat) (d : D), es[i]? = some e → e[j]? = some d → okR d = true ∧ ∃ u, news[i * s + j]? = some u ∧ Rv w M d u) : ∀ u ∈ news, u.oneCell' = true := by
  intro u hu
  obtain ⟨k, hk⟩ := List.getElem?_of_mem hu
  have hlt : k < es.length * s := by rw [← n1]; exact (List.getElem?_eq_some_iff.1 hk).1
  have hi : k / s < es.length := (Nat.div_lt_iff_lt_mul hs).2 hlt
  have he := List.getElem?_eq_getElem hi
  have hm : k % s < es[k / s].length := by rw [n3 _ _ he]; exact Nat.mod_lt _ hs
  obtain ⟨g0, u', g1, g2⟩ := n4 _ _ (k % s) _ he (List.getElem?_eq_getElem hm)
  have : k / s * s + k % s = k := by have := Nat.div_add_mod k s; rw [Nat.mul_comm] at this; omega
  rw [this, hk] at g1
  injection g1 with g1; subst g1
  exact (R.imm (φ := id) (σ := fun _ => none) g2).one (okR_okB g0)

theorem mid_get {α : Type} {A B : List α} {a : Nat} (hl : a + B.length ≤ A.length) (k : Nat) : (A.take a ++ B ++ A.drop (a + B.length))[k]? = if a ≤ k ∧ k < a + B.length then B[k - a]? else A[k]? := by
  have hta : (A.take a).length = a := by simp; omega
  by_cases h1 : k < a
  · rw [if_neg (by omega), List.append_assoc, List.getElem?_append_left (by omega), List.getElem?_take, if_pos h1]
  · by_cases h2 : k < a + B.length
    · rw [if_pos ⟨by omega, h2⟩, List.append_assoc, List.getElem?_append_right (by omega), hta, List.getElem?_append_left (by omega)]
    · rw [if_neg (by omega), List.getElem?_append_right (by rw [List.length_append]; omega), List.getElem?_drop]
      congr 1
      rw [List.length_append]; omega
theorem mid_length {α : Type} {A B : List α} {a : Nat} (hl : a + B.length ≤ A.length) : (A.take a ++ B ++ A.drop (a + B.length)).length = A.length := by
  simp; omega

/-- Elements of a row of ours, written anew. -/
theorem row_put (hp : HpOk w M0 φ h) {l : Nat} {o : Ob} (ho : getO h l = some o) (h2 : o.st = 2) (hk : o.k = .row) {cur : Array Value} (hw : w.heap[φ l]? = some (Obj.cells cur o.ty (0, 0))) (hs : 0 < o.sz) {ys : List (List D)} {news : List Value} {p : Nat} (hfit : p + ys.length ≤ o.es.length)
    (n1 : news.length = ys.length * o.sz) (n3 : ∀ (i : Nat) (e : List D), ys[i]? = some e → e.length = o.sz)
    (n4 : ∀ (i : Nat) (e : List D) (j : Nat) (d : D), ys[i]? = some e → e[j]? = some d → okR d = true ∧ ∃ u, news[i * o.sz + j]? = some u ∧ Rv w (Mx M0 φ h) d u) :
    Nx M0 φ h w φ ((l, ⟨2, o.k, o.ty, o.sz, o.es.take p ++ ys ++ o.es.drop (p + ys.length)⟩) :: h) (w.setRow (φ l) (cur.toList.take (p * o.sz) ++ news ++ cur.toList.drop (p * o.sz + news.length)).toArray) := by
  obtain ⟨cur0, c1, c2, c3, c4⟩ := (hp.ob l o ho (.inr h2)).cells (by rw [hk]; simp)
  rw [hw] at c1
  injection c1 with c1; injection c1 with c1 _; subst c1
  rw [hk] at c4
  have hps : p * o.sz + news.length ≤ cur.toList.length := by
    rw [n1, ← Nat.add_mul, Array.length_toList]; exact Nat.le_trans (Nat.mul_le_mul_right _ hfit) c2
  refine Nx.put hp ho h2 hw (by rw [List.size_toArray, mid_length hps, Array.length_toList]) l ((l, ⟨2, o.k, o.ty, o.sz, o.es.take p ++ ys ++ o.es.drop (p + ys.length)⟩) :: h) ⟨2, o.k, o.ty, o.sz, o.es.take p ++ ys ++ o.es.drop (p + ys.length)⟩ φ (by rw [getO_cons, if_pos rfl]) (by simp [hk]) rfl (fun x ox g1 g2 g3 => ?_) rfl (fun x s hx => ⟨?_, rfl⟩) ?_ (fun i e a => ?_) (fun i e j d a1 a2 => ?_)
  · rw [getO_cons, if_neg (Ne.symm g2)] at g1; exact ⟨g1, g2⟩
  · rw [sg_cons]
    split
    · rename_i e; subst e; unfold sg at hx; rw [ho] at hx; exact hx
    · exact hx
  · dsimp only
    rw [List.size_toArray, mid_length hps, Array.length_toList (xs := cur), mid_length hfit]; exact c2
  · dsimp only at a ⊢
    rw [mid_get hfit] at a
    split at a
    · exact n3 _ _ a
    · exact c3 _ _ a
  · dsimp only at a1 ⊢
    rw [mid_get hfit] at a1
    rw [List.getElem?_toArray, mid_get hps, hk]
    split at a1
    · rename_i hin
      obtain ⟨q0, u, q1, q2⟩ := n4 _ e j d a1 a2
      have hj : j < o.sz := by have := (List.getElem?_eq_some_iff.1 a2).1; rw [n3 _ e a1] at this; exact this
      have hlt : i * o.sz + j < (p + ys.length) * o.sz := by
        have : (i + 1) * o.sz ≤ (p + ys.length) * o.sz := Nat.mul_le_mul_right _ (by omega)
        rw [Nat.add_mul, Nat.one_mul] at this; omega
      have hge : p * o.sz ≤ i * o.sz := Nat.mul_le_mul_right _ hin.1
      rw [Nat.add_mul] at hlt
      refine ⟨q0, u, ?_, .imm q2⟩
      rw [if_pos ⟨by omega, by omega⟩, ← q1]
      congr 1
      rw [Nat.sub_mul]; omega
    · rename_i hout
      obtain ⟨q0, u, q1, q2⟩ := c4 i e j d a1 a2
      have hj : j < o.sz := by have := (List.getElem?_eq_some_iff.1 a2).1; rw [c3 _ e a1] at this; exact this
      refine ⟨q0, u, ?_, q2⟩
      rw [if_neg, Array.getElem?_toList]; exact q1
      rintro ⟨b1, b2⟩
      apply hout
      constructor
      · rcases Nat.lt_or_ge i p with hlt | hge
        · have : (i + 1) * o.sz ≤ p * o.sz := Nat.mul_le_mul_right _ (by omega)
          rw [Nat.add_mul, Nat.one_mul] at this; omega
        · exact hge
      · rcases Nat.lt_or_ge i (p + ys.length) with hlt | hge
        · exact hlt
        · have : (p + ys.length) * o.sz ≤ i * o.sz := Nat.mul_le_mul_right _ hge
          rw [Nat.add_mul] at this; omega

/-- A slice of ours stands over a row's block. -/
theorem own_row (hp : HpOk w M0 φ h) {l i n : Nat} {v : Value} (hx : R w (Mx M0 φ h) φ (sg h) (.own l i n) v) {o : Ob} (ho : getO h l = some o) (hv : Live o) (hk : o.k = .row) : ∃ (c : Nat) (cur : Array Value), v = .slice (some ⟨φ l, i * o.sz, none⟩) n c ∧ n ≤ c ∧ c ≤ maxLen ∧ w.heap[φ l]? = some (Obj.cells cur o.ty (0, 0)) ∧ (i + c) * o.sz = cur.size ∧ o.es.length * o.sz ≤ cur.size := by
  obtain ⟨cur0, c1, c2, _, _⟩ := (hp.ob l o ho hv).cells (by rw [hk]; simp)
  cases hx with
  | imm hx => cases hx
  | own _ _ _ s c cur ty hs hc hm hw hz =>
    rw [c1] at hw
    injection hw with hw; injection hw with hw1 hw2; subst hw1
    have hs' : s = o.sz := by unfold sg at hs; rw [ho] at hs; injection hs with hs; exact hs.symm
    subst hs'
    exact ⟨c, cur0, rfl, hc, hm, c1, hz, c2⟩
theorem own_of {l i n c : Nat} {o : Ob} {cur : Array Value} {ty : Nat} (hs : sg h l = some o.sz) (hc : n ≤ c) (hm : c ≤ maxLen) (hw : w.heap[φ l]? = some (Obj.cells cur ty (0, 0))) (hz : (i + c) * o.sz = cur.size) : R w M φ (sg h) (.own l i n) (.slice (some ⟨φ l, i * o.sz, none⟩) n c) :=
  .own l i n o.sz c cur ty hs hc hm hw hz

end
end Go.Proofs.Ytemcdpkiphmndaa.Ab
