/- Ab4: objects that cool down, types as the table tells them, loads and addresses. -/
import Derived.Test.YtemcdpkiphmndaaAb3
namespace Go.Proofs.Ytemcdpkiphmndaa.Ab

/-! ### looking at objects -/
theorem objR_spec {h l o} (e : objR h l = some o) : getO h l = some o ∧ Live o := by
  obtain ⟨o', h1, h2⟩ := bO_eq e
  obtain ⟨h3, h4⟩ := gd_eq h2
  injection h4 with h4; subst h4
  refine ⟨h1, ?_⟩
  simp at h3; exact h3
theorem objW_spec {h l o} (e : objW h l = some o) : getO h l = some o ∧ o.st = 2 := by
  obtain ⟨o', h1, h2⟩ := bO_eq e
  obtain ⟨h3, h4⟩ := gd_eq h2
  injection h4 with h4; subst h4
  exact ⟨h1, by simpa using h3⟩

theorem add_at (b o n : Nat) : (⟨b, o, none⟩ : Addr).add n = ⟨b, o + n, none⟩ := by
  unfold Addr.add; split <;> simp_all

/-- A row of ours, frozen, as data that is only read. -/
theorem ro_of_own {w M0 φ h l o} (hp : HpOk w M0 φ h) (ho : getO h l = some o) (hv : Live o) (hk : o.k = .row) {i n c : Nat} (hn : i + n ≤ o.es.length) (hc : n ≤ c) :
    Rv w (Mx M0 φ ((l, ⟨1, o.k, o.ty, o.sz, o.es⟩) :: h)) (.ro o.sz ((o.es.drop i).take n)) (.slice (some ⟨φ l, i * o.sz, none⟩) n c) := by
  obtain ⟨cur, h1, h2, h3, h4⟩ := (hp.ob l o ho hv).cells (by rw [hk]; simp)
  have nx := Nx.cool hp ho 1 (.inr ⟨rfl, hv⟩)
  have hlen : ((o.es.drop i).take n).length = n := by simp; omega
  have hM : ¬ Mx M0 φ ((l, ⟨1, o.k, o.ty, o.sz, o.es⟩) :: h) (φ l) := by
    rintro (e | ⟨l', o', e1, e2, e3⟩)
    · exact hp.m0 l o ho hv e
    · rw [getO_cons] at e1
      by_cases e : l = l'
      · rw [if_pos e] at e1; injection e1 with e1; subst e1; simp at e2
      · rw [if_neg e] at e1; exact e (hp.inj l' l o' o e1 e2 ho hv e3).symm
  have key : ∀ (i' : Nat) (e : List D), ((o.es.drop i).take n)[i']? = some e → o.es[i + i']? = some e := by
    intro i' e he
    rw [List.getElem?_take] at he
    split at he
    · rwa [List.getElem?_drop] at he
    · cases he
  have key2 : ∀ (i' : Nat) (e : List D) (j : Nat) (d : D), ((o.es.drop i).take n)[i']? = some e → e[j]? = some d → w.cell? ⟨φ l, i * o.sz + i' * o.sz + j, none⟩ = some (cur.getD (i * o.sz + i' * o.sz + j) undef) := by
    intro i' e j d a1 a2
    obtain ⟨_, u, h6, _⟩ := h4 _ e j d (key i' e a1) a2
    rw [cell_of_row w (φ l) _ cur o.ty (0, 0) h1]
    rw [Nat.add_mul] at h6
    simp [Array.getD_eq_getD_getElem?, h6]
  have := Rv.ro (w := w) (M := Mx M0 φ ((l, ⟨1, o.k, o.ty, o.sz, o.es⟩) :: h)) o.sz ((o.es.drop i).take n) (φ l) (i * o.sz) c (fun i' j => cur.getD (i * o.sz + i' * o.sz + j) undef) (by omega) (hp.lt l o ho hv) hM
    (fun i' e a => h3 _ e (key i' e a)) (fun i' e j d a1 a2 => by have := (h4 _ e j d (key i' e a1) a2).1; rw [hk] at this; exact this) key2
    (fun i' e j d a1 a2 => by
      obtain ⟨h5, u, h6, h7⟩ := h4 _ e j d (key i' e a1) a2
      rw [hk] at h5
      rw [Nat.add_mul] at h6
      have h8 : cur.getD (i * o.sz + i' * o.sz + j) undef = u := by simp [Array.getD_eq_getD_getElem?, h6]
      rw [h8]
      exact (h7.imm_of h5).mono (Ext.refl (fun _ => False) w) (fun _ _ e => e.elim) (fun b hb e => e.elim .inl (fun e => .inr (nx.mx b hb e))))
  rw [hlen] at this
  exact this

theorem viewE_own_spec {h l i n es} (e : viewE h (.own l i n) = some es) : ∃ o, getO h l = some o ∧ Live o ∧ o.k = .row ∧ i + n ≤ o.es.length ∧ es = (o.es.drop i).take n := by
  rw [viewE_own] at e
  obtain ⟨o, h1, h2⟩ := bO_eq e
  obtain ⟨h3, h4⟩ := gd_eq h2
  obtain ⟨h5, h6⟩ := objR_spec h1
  injection h4 with h4
  simp at h3
  exact ⟨o, h5, h6, h3.1, h3.2, h4.symm⟩

/-- What the cells of a value are handed on as. -/
theorem lowL_spec {w M0 φ} : ∀ (cs : List D) (h : List (Nat × Ob)) (cs' : List D) (h' : List (Nat × Ob)) (vs : List Value), lowL h cs = some (cs', h') → HpOk w M0 φ h →
    (∀ (j : Nat) (d : D) (v : Value), cs[j]? = some d → vs[j]? = some v → R w (Mx M0 φ h) φ (sg h) d v) →
    Nx M0 φ h w φ h' w ∧ cs'.length = cs.length ∧ (∀ (j : Nat) (d : D), cs'[j]? = some d → okR d = true) ∧ (∀ (j : Nat) (d : D) (v : Value), cs'[j]? = some d → vs[j]? = some v → R w (Mx M0 φ h') φ (sg h') d v)
  | [], h, cs', h', vs, e, hp, hr => by
    cases e
    exact ⟨.refl hp, rfl, by simp, by simp⟩
  | d :: cs, h, cs', h', vs, e, hp, hr => by
    have plain : okR d = true → (bO (lowL h cs) fun p => some (d :: p.1, p.2)) = some (cs', h') → Nx M0 φ h w φ h' w ∧ cs'.length = (d :: cs).length ∧ (∀ (j : Nat) (d : D), cs'[j]? = some d → okR d = true) ∧ (∀ (j : Nat) (d : D) (v : Value), cs'[j]? = some d → vs[j]? = some v → R w (Mx M0 φ h') φ (sg h') d v) := by
      intro hk e
      obtain ⟨⟨p, h1⟩, e1, e2⟩ := bO_eq e
      injection e2 with e2; injection e2 with e3 e4; subst e3; subst e4
      obtain ⟨n, l1, k1, r1⟩ := lowL_spec cs h p _ vs.tail e1 hp (fun j d v a b => hr (j + 1) d v (by simpa using a) (by rw [List.getElem?_tail] at b; exact b))
      refine ⟨n, by simp [l1], fun j d' a => ?_, fun j d' v a b => ?_⟩
      · cases j with
        | zero => simp at a; subst a; exact hk
        | succ j => exact k1 j d' (by simpa using a)
      · cases j with
        | zero => simp at a; subst a; exact n.r (hr 0 d v rfl b)
        | succ j => exact r1 j d' v (by simpa using a) (by rw [List.getElem?_tail]; exact b)
    cases d with
    | own l i n =>
      rw [lowL_own] at e
      obtain ⟨o, e1, e⟩ := bO_eq e
      obtain ⟨es, e2, e⟩ := bO_eq e
      obtain ⟨⟨p, h1⟩, e3, e4⟩ := bO_eq e
      injection e4 with e4; injection e4 with e5 e6; subst e5; subst e6
      obtain ⟨g1, g2⟩ := objR_spec e1
      obtain ⟨o', g1', _, hk, hn, hes⟩ := viewE_own_spec e2
      rw [g1] at g1'; injection g1' with g1'; subst g1'
      have nx := Nx.cool hp g1 1 (.inr ⟨rfl, g2⟩)
      obtain ⟨n2, l1, k1, r1⟩ := lowL_spec cs _ p _ vs.tail e3 nx.hp (fun j d v a b => nx.r (hr (j + 1) d v (by simpa using a) (by rw [List.getElem?_tail] at b; exact b)))
      refine ⟨nx.trans n2, by simp [l1], fun j d' a => ?_, fun j d' v a b => ?_⟩
      · cases j with
        | zero => simp at a; subst a; rfl
        | succ j => exact k1 j d' (by simpa using a)
      · cases j with
        | zero =>
          simp at a; subst a
          have hv := hr 0 (.own l i n) v rfl b
          cases hv with
          | imm hv => cases hv
          | own _ _ _ s c cur ty hs hc hm hw hz =>
            have hs' : s = o.sz := by unfold sg at hs; rw [g1] at hs; injection hs with hs; exact hs.symm
            subst hs'
            rw [hes]
            exact n2.r (.imm (ro_of_own hp g1 g2 hk hn hc))
        | succ j => exact r1 j d' v (by simpa using a) (by rw [List.getElem?_tail]; exact b)
    | int k n => exact plain rfl e
    | bool b => exact plain rfl e
    | nilp => exact plain rfl e
    | nils => exact plain rfl e
    | nilf => exact plain rfl e
    | nilm => exact plain rfl e
    | em => exact plain rfl e
    | ro s es => exact plain rfl e
    | any => cases e
    | rop _ => cases e
    | agg _ => cases e
    | tup _ => cases e
    | ptr _ _ _ => cases e
    | mp _ => cases e
    | clo _ _ => cases e

/-- A value that leads to nothing that is written. -/
inductive Imm : D → Prop where
  | cell {d} (h : okR d = true) : Imm d
  | agg (cs) (h : ∀ (j : Nat) (d : D), cs[j]? = some d → okR d = true) : Imm (.agg cs)
  | tup (cs) (h : ∀ (j : Nat) (d : D), cs[j]? = some d → Imm d) : Imm (.tup cs)
  | clo (f) : Imm (.clo f [])

theorem lowD_spec {w M0 φ h d d' h' v} (e : lowD h d = some (d', h')) (hp : HpOk w M0 φ h) (hr : R w (Mx M0 φ h) φ (sg h) d v) :
    Nx M0 φ h w φ h' w ∧ Imm d' ∧ R w (Mx M0 φ h') φ (sg h') d' v := by
  have single : okR d = true ∨ (∃ l i n, d = .own l i n) → (bO (lowL h [d]) one1) = some (d', h') → Nx M0 φ h w φ h' w ∧ Imm d' ∧ R w (Mx M0 φ h') φ (sg h') d' v := by
    intro _ e
    obtain ⟨⟨p, h1⟩, e1, e2⟩ := bO_eq e
    obtain ⟨n, l1, k1, r1⟩ := lowL_spec [d] h p h1 [v] e1 hp (fun j x y a b => by
      cases j with
      | zero => simp at a b; subst a; subst b; exact hr
      | succ j => simp at a)
    match p, l1, e2, k1, r1 with
    | [x], _, e2, k1, r1 =>
      simp only [one1] at e2
      injection e2 with e2; injection e2 with e3 e4; subst e3; subst e4
      exact ⟨n, .cell (k1 0 _ rfl), r1 0 _ v rfl rfl⟩
  cases d with
  | agg cs =>
    rw [lowD_agg] at e
    obtain ⟨⟨p, h1⟩, e1, e2⟩ := bO_eq e
    injection e2 with e2; injection e2 with e3 e4; subst e3; subst e4
    cases hr with
    | imm hr => cases hr
    | agg _ vs hl hh =>
      obtain ⟨n, l1, k1, r1⟩ := lowL_spec cs h p _ vs.toList e1 hp (fun j x y a b => hh j x y a (by simpa using b))
      exact ⟨n, .agg _ k1, .agg _ _ (by rw [l1]; exact hl) (fun j x y a b => r1 j x y a (by simpa using b))⟩
  | clo f cs =>
    cases cs with
    | nil => cases e; exact ⟨.refl hp, .clo f, hr⟩
    | cons c cs => simp only [lowD, lowL, gd, okR, bO] at e; cases e
  | own l i n => exact single (.inr ⟨l, i, n, rfl⟩) e
  | int k n => exact single (.inl rfl) e
  | bool b => exact single (.inl rfl) e
  | nilp => exact single (.inl rfl) e
  | nils => exact single (.inl rfl) e
  | nilf => exact single (.inl rfl) e
  | nilm => exact single (.inl rfl) e
  | em => exact single (.inl rfl) e
  | ro s es => exact single (.inl rfl) e
  | any => cases e
  | rop _ => cases e
  | tup _ => cases e
  | ptr _ _ _ => cases e
  | mp _ => cases e

theorem lowDs_spec {w M0 φ} : ∀ (ds : List D) (h : List (Nat × Ob)) (ds' : List D) (h' : List (Nat × Ob)) (vs : List Value), lowDs h ds = some (ds', h') → HpOk w M0 φ h → vs.length = ds.length →
    (∀ (j : Nat) (d : D) (v : Value), ds[j]? = some d → vs[j]? = some v → R w (Mx M0 φ h) φ (sg h) d v) →
    Nx M0 φ h w φ h' w ∧ ds'.length = ds.length ∧ (∀ (j : Nat) (d : D), ds'[j]? = some d → Imm d) ∧ (∀ (j : Nat) (d : D) (v : Value), ds'[j]? = some d → vs[j]? = some v → R w (Mx M0 φ h') φ (sg h') d v)
  | [], h, ds', h', vs, e, hp, _, hr => by cases e; exact ⟨.refl hp, rfl, by simp, by simp⟩
  | d :: ds, h, ds', h', vs, e, hp, hl, hr => by
    rw [lowDs_cons] at e
    obtain ⟨⟨d1, h1⟩, e1, e⟩ := bO_eq e
    obtain ⟨⟨q, h2⟩, e2, e⟩ := bO_eq e
    injection e with e; injection e with e3 e4; subst e3; subst e4
    cases vs with
    | nil => simp at hl
    | cons v vs =>
      obtain ⟨n1, i1, r1⟩ := lowD_spec e1 hp (hr 0 d v rfl rfl)
      obtain ⟨n2, l2, k2, r2⟩ := lowDs_spec ds h1 q _ vs e2 n1.hp (by simpa using hl) (fun j x y a b => n1.r (hr (j + 1) x y (by simpa using a) (by simpa using b)))
      refine ⟨n1.trans n2, by simp [l2], fun j x a => ?_, fun j x y a b => ?_⟩
      · cases j with
        | zero => simp at a; subst a; exact i1
        | succ j => exact k2 j x (by simpa using a)
      · cases j with
        | zero => simp at a b; subst a; subst b; exact n2.r r1
        | succ j => exact r2 j x y (by simpa using a) (by simpa using b)

end Go.Proofs.Ytemcdpkiphmndaa.Ab
