/- Ab10: append and stores are sound. -/
import Derived.Test.YtemcdpkiphmndaaAb9
set_option linter.unusedSimpArgs false
set_option linter.unusedVariables false
namespace Go.Proofs.Ytemcdpkiphmndaa.Ab

section
variable {P : Program} {τ : Nat → Option TI} (hτ : ∀ t i, τ t = some i → TIok P t i)
variable {w : World} {M0 : Nat → Prop} {φ : Nat → Nat} {h : List (Nat × Ob)} {M : Nat → Prop} {σ : Nat → Option Nat}

/-- A new row behind a draw, and the slice of it. -/
theorem grown_row (hM0 : ∀ b, M0 b → b < w.heap.size) (hp : HpOk w M0 φ h) {l : Nat} (hf : getO h l = none) (ty sz : Nat) (es : List (List D)) (cells rest : List Value) (cap : Nat) (hsz : 0 < sz) (hc : cells.length = es.length * sz) (hcap : es.length ≤ cap) (hm : cap ≤ maxLen)
    (arr : Array Value) (harr : arr.toList = cells ++ rest) (hlen : arr.size = cap * sz) (h3 : ∀ (i : Nat) (e : List D), es[i]? = some e → e.length = sz)
    (h4 : ∀ (i : Nat) (e : List D) (j : Nat) (d : D), es[i]? = some e → e[j]? = some d → okR d = true ∧ ∃ u, cells[i * sz + j]? = some u ∧ R w (Mx M0 φ h) φ (sg h) d u) :
    Nx M0 φ h w (phi φ l w.heap.size) ((l, ⟨2, .row, ty, sz, es⟩) :: h) (w.drew.alloc (.cells arr ty)) ∧
    R (w.drew.alloc (.cells arr ty)) (Mx M0 (phi φ l w.heap.size) ((l, ⟨2, .row, ty, sz, es⟩) :: h)) (phi φ l w.heap.size) (sg ((l, ⟨2, .row, ty, sz, es⟩) :: h)) (.own l 0 es.length) (.slice (some ⟨w.heap.size, 0, none⟩) es.length cap) := by
  refine ⟨Nx.new hM0 hp hf .row (by simp) ty sz es arr (by rw [hlen]; exact Nat.mul_le_mul_right _ hcap) h3 (fun i e j d a1 a2 => ?_) w.drew (.inr ⟨1, rfl⟩), ?_⟩
  · obtain ⟨g0, u, g1, g2⟩ := h4 i e j d a1 a2
    refine ⟨g0, u, ?_, g2⟩
    rw [← Array.getElem?_toList, harr, List.getElem?_append_left (List.getElem?_eq_some_iff.1 g1).1]
    exact g1
  · have hs := heap_alloc_new w.drew (.cells arr ty)
    have := R.own (w := w.drew.alloc (.cells arr ty)) (M := Mx M0 (phi φ l w.heap.size) ((l, ⟨2, .row, ty, sz, es⟩) :: h)) (φ := phi φ l w.heap.size) (σ := sg ((l, ⟨2, .row, ty, sz, es⟩) :: h)) l 0 es.length sz cap arr ty (by rw [sg_cons]; simp) hcap hm (by simpa [phi] using hs) (by rw [hlen]; simp)
    simpa [phi] using this

/-- Two lists of elements, one behind the other. -/
theorem two_rows {s : Nat} {X : D → Value → Prop} {es ys : List (List D)} {olds news : List Value} (hl : olds.length = es.length * s)
    (h3 : ∀ (i : Nat) (e : List D), es[i]? = some e → e.length = s)
    (h1 : ∀ (i : Nat) (e : List D) (j : Nat) (d : D), es[i]? = some e → e[j]? = some d → okR d = true ∧ ∃ u, olds[i * s + j]? = some u ∧ X d u)
    (h2 : ∀ (i : Nat) (e : List D) (j : Nat) (d : D), ys[i]? = some e → e[j]? = some d → okR d = true ∧ ∃ u, news[i * s + j]? = some u ∧ X d u) :
    ∀ (i : Nat) (e : List D) (j : Nat) (d : D), (es ++ ys)[i]? = some e → e[j]? = some d → okR d = true ∧ ∃ u, (olds ++ news)[i * s + j]? = some u ∧ X d u := by
  intro i e j d a1 a2
  by_cases hi : i < es.length
  · rw [List.getElem?_append_left hi] at a1
    obtain ⟨g0, u, g1, g2⟩ := h1 i e j d a1 a2
    exact ⟨g0, u, by rw [List.getElem?_append_left (List.getElem?_eq_some_iff.1 g1).1]; exact g1, g2⟩
  · rw [List.getElem?_append_right (by omega)] at a1
    obtain ⟨g0, u, g1, g2⟩ := h2 _ e j d a1 a2
    refine ⟨g0, u, ?_, g2⟩
    have hle : es.length * s ≤ i * s := Nat.mul_le_mul_right _ (by omega)
    rw [List.getElem?_append_right (by omega), hl, ← g1]
    congr 1
    rw [Nat.sub_mul]; omega

theorem roomy_spec {ie n} (e : roomy ie n = true) : ie.size ≠ 0 ∧ ie.zero.length = ie.size ∧ n * ie.bytes ≤ 70368744177664 ∧ n ≤ 70368744177664 := by
  rw [roomy_def, room_def] at e
  simp only [Bool.and_eq_true, beq_iff_eq, bne_iff_ne, decide_eq_true_eq] at e
  exact e

theorem append_none (t rt e : TypeId) (i : TypeInfo) (ht : P.underlying t = some (.slice e)) (hi : P.info? e = some i) (A B : Option Addr) (c c' : Nat) :
    (Builtin.append_ #[t, t] rt #[.slice A 0 c, .slice B 0 c']).run P w = .ok (.slice A 0 c) w := by
  have hf : (Builtin.firstCells i.size 0 (.slice B 0 c')).run P w = .ok #[] w := by
    cases B with
    | none => simp [Builtin.firstCells]
    | some a => exact run_firstCells_some (P := P) w i.size 0 a 0 c' [] (by simp) (by simp)
  cases A <;> simp [Builtin.append_, run_underlying ht, sizeOf, typeInfo, hi, Builtin.lenOf, hf, storeCells]

theorem append_nothing (t rt e : TypeId) (i : TypeInfo) (ht : P.underlying t = some (.slice e)) (hi : P.info? e = some i) (g off n c c' : Nat) (B : Option Addr) (hnc : n ≤ c) :
    (Builtin.append_ #[t, t] rt #[.slice (some ⟨g, off, none⟩) n c, .slice B 0 c']).run P w = .ok (.slice (some ⟨g, off, none⟩) n c) w := by
  have hf : (Builtin.firstCells i.size 0 (.slice B 0 c')).run P w = .ok #[] w := by
    cases B with
    | none => simp [Builtin.firstCells]
    | some a => exact run_firstCells_some (P := P) w i.size 0 a 0 c' [] (by simp) (by simp)
  simp [Builtin.append_, run_underlying ht, sizeOf, typeInfo, hi, Builtin.lenOf, hf, hnc, storeCells]

/-- Over cells that are there. -/
theorem append_part (t rt e : TypeId) (i : TypeInfo) (ht : P.underlying t = some (.slice e)) (hi : P.info? e = some i) (g off n c : Nat) (ty : Nat) (cur : Array Value) (hg : w.heap[g]? = some (.cells cur ty (0, 0)))
    (a : Addr) (m c' : Nat) (news : List Value) (hl : news.length = m * i.size) (hnews : ∀ j u, news[j]? = some u → w.cell? (a.add j) = some u) (h1 : ∀ u ∈ news, u.oneCell' = true)
    (hroom : n + m ≤ c) (hfit : off + n * i.size + news.length ≤ cur.size) :
    (Builtin.append_ #[t, t] rt #[.slice (some ⟨g, off, none⟩) n c, .slice (some a) m c']).run P w =
      .ok (.slice (some ⟨g, off, none⟩) (n + m) c) (w.setRow g (cur.toList.take (off + n * i.size) ++ news ++ cur.toList.drop (off + n * i.size + news.length)).toArray) := by
  have hf := run_firstCells_some (P := P) w i.size m a m c' news hl hnews
  have hst := run_storeCells_at P g (off + n * i.size) ty news 0 cur w hg (by simpa using hfit) h1
  simp only [Nat.add_zero] at hst
  simp [Builtin.append_, run_underlying ht, sizeOf, typeInfo, hi, Builtin.lenOf, hroom, hf, add_at, hst]

include hτ in
theorem vAppend_run {d ty x y vx vy v h'} (hM0 : ∀ b, M0 b → b < w.heap.size) (hp : HpOk w M0 φ h) (hx : R w (Mx M0 φ h) φ (sg h) x vx) (hy : R w (Mx M0 φ h) φ (sg h) y vy) (ev : vAppend τ h d ty x y = some (v, h')) (rt : Nat) :
    ∃ u w' φ', (Builtin.append_ #[ty, ty] rt #[vx, vy]).run P w = .ok u w' ∧ Nx M0 φ h w φ' h' w' ∧ R w' (Mx M0 φ' h') φ' (sg h') v u := by
  rw [vAppend_def] at ev
  obtain ⟨ti, e1, ev⟩ := bO_eq ev
  obtain ⟨et, e2, ev⟩ := bO_eq ev
  obtain ⟨ie, e3, ev⟩ := bO_eq ev
  obtain ⟨ys, e4, ev⟩ := bO_eq ev
  have X := hτ _ _ e3
  have ht := (hτ _ _ e1).slice (tslice_spec e2)
  obtain ⟨pi, i1, i2, i3, z, i4, i5⟩ := X.info
  obtain ⟨z1, z2⟩ := okVs_spec i5
  have empty : ys = [] → 0 < ie.size → ∃ B c', vy = .slice B 0 c' := by
    intro hys hs
    obtain ⟨A, c, news, rfl, _⟩ := appY_run hp e4 hs hy
    exact ⟨A, c, by rw [hys]; rfl⟩
  have emptyN : ys = [] → ∃ B c', vy = .slice B 0 c' := by
    intro hys
    subst hys
    cases y with
    | nils => exact ⟨_, _, hy.nils_inv⟩
    | em => obtain ⟨A, q⟩ := hy.em_inv; exact ⟨A, 0, q⟩
    | ro s es =>
      rw [appY_ro] at e4
      obtain ⟨_, e4⟩ := gd_eq e4
      injection e4 with e4; subst e4
      obtain ⟨A, c, q, _⟩ := ro_inv hy
      exact ⟨A, c, q⟩
    | own l i n =>
      rw [appY_own] at e4
      obtain ⟨o, q1, e4⟩ := bO_eq e4
      obtain ⟨_, e4⟩ := gd_eq e4
      obtain ⟨o', _, _, _, hn, hes⟩ := viewE_own_spec e4
      obtain ⟨s, c, _, q, _⟩ := own_inv hy
      have : n = 0 := by
        have := congrArg List.length hes
        simp at this; omega
      subst this
      exact ⟨_, c, q⟩
    | _ => cases e4
  -- onto nothing
  have onto : ∀ (A : Option Addr), vx = .slice A 0 0 → (x = .nils ∨ x = .em) → appN h d et ie x ys = some (v, h') → ∃ u w' φ', (Builtin.append_ #[ty, ty] rt #[vx, vy]).run P w = .ok u w' ∧ Nx M0 φ h w φ' h' w' ∧ R w' (Mx M0 φ' h') φ' (sg h') v u := by
    intro A hA hxe ev
    subst hA
    by_cases hys : ys = []
    · obtain ⟨B, c', rfl⟩ := emptyN hys
      subst hys
      rw [appN_nil] at ev
      injection ev with ev; injection ev with e8 e9; subst e8; subst e9
      exact ⟨_, w, φ, append_none ty rt et pi ht i1 A B 0 c', .refl hp, hx⟩
    · have hpos : 0 < ys.length := List.length_pos_iff.2 hys
      rw [appN_pos _ _ _ _ _ _ hpos] at ev
      obtain ⟨e6, e7⟩ := gd_eq ev
      injection e7 with e7; injection e7 with e8 e9; subst e8; subst e9
      simp only [Bool.and_eq_true] at e6
      obtain ⟨f1, f2⟩ := e6
      obtain ⟨g1, g2, g3, g4⟩ := roomy_spec f2
      have hs : 0 < ie.size := by omega
      have hzs : z.cells.size = ie.size := by rw [← g2, ← z1]; simp
      obtain ⟨B, c, news, rfl, n1, n2', n3, n4⟩ := appY_run hp e4 hs hy
      obtain ⟨a, rfl, n2⟩ := n2' hys
      have n1' : news.length = ys.length * pi.size := by rw [i2]; exact n1
      have hr : (Builtin.append_ #[ty, ty] rt #[.slice A 0 0, .slice (some a) ys.length c]).run P w = .ok (.slice (some ⟨w.heap.size, 0, none⟩) ys.length (grownCap w ys.length 0 et)) (w.drew.alloc (.cells (news.toArray ++ Builtin.zeroCells z.cells (grownCap w ys.length 0 et - ys.length)) et)) := by
        cases A with
        | none => exact run_append_nil (P := P) w ty rt et pi z ht i1 i4 a ys.length c news n1' n2 hpos (by omega) (by rw [i3]; omega)
        | some b =>
          have := run_append_grow (P := P) w ty rt et pi z ht i1 i4 b 0 0 [] (by simp) (by simp) a ys.length c news n1' n2 (by omega) (by omega) (growslice_fits (by omega) (by rw [i3, Nat.zero_add]; omega))
          simpa using this
      have hcap := grownCap_ge w ys.length 0 et
      obtain ⟨q1, q2⟩ := grown_row hM0 hp (fresh_spec f1) et ie.size ys news (Builtin.zeroCells z.cells (grownCap w ys.length 0 et - ys.length)).toList (grownCap w ys.length 0 et) hs n1 hcap
        (grownCap_le_maxLen w _ _ _ (by simp only [maxLen]; omega)) (news.toArray ++ Builtin.zeroCells z.cells (grownCap w ys.length 0 et - ys.length)) (by simp) (by
          rw [Array.size_append, List.size_toArray, n1, size_zeroCells, hzs, Nat.sub_mul]
          have := Nat.mul_le_mul_right ie.size hcap; omega) n3 (fun i e j d a1 a2 => by
          obtain ⟨q0, u, q1, q2⟩ := n4 i e j d a1 a2
          exact ⟨q0, u, q1, .imm q2⟩)
      exact ⟨_, _, _, hr, q1, q2⟩
  cases x with
  | nils => exact onto none hx.nils_inv (.inl rfl) ev
  | em =>
    obtain ⟨A, q⟩ := hx.em_inv
    exact onto A q (.inr rfl) ev
  | own l i n =>
    rw [vApp_own] at ev
    obtain ⟨o, o1, ev⟩ := bO_eq ev
    obtain ⟨o2, ev⟩ := gd_eq ev
    simp only [Bool.and_eq_true, beq_iff_eq, decide_eq_true_eq] at o2
    obtain ⟨o3, o5, o6⟩ := o2
    obtain ⟨w1, w2⟩ := objW_spec o1
    have hlive : Live o := .inr w2
    obtain ⟨cur, c1, c2, c3, c4⟩ := (hp.ob l o w1 hlive).cells (by rw [o3]; simp)
    rw [o3] at c4
    obtain ⟨cp, cur', rfl, hcp, hcm, hw', hcz, hfit⟩ := own_row hp hx w1 hlive o3
    rw [c1] at hw'
    injection hw' with hw'; injection hw' with hw' _; subst hw'
    cases hfull : (i == 0 && o.es.length == n) with
    | false =>
      rw [hfull] at ev
      obtain ⟨f1, ev⟩ := gd_eq ev
      injection ev with ev; injection ev with e8 e9; subst e8; subst e9
      simp only [Bool.and_eq_true, bne_iff_ne, decide_eq_true_eq] at f1
      obtain ⟨f1, f2⟩ := f1
      have hs : 0 < ie.size := by omega
      have hs' : 0 < o.sz := by omega
      obtain ⟨B, c', news, rfl, n1, n2', n3, n4⟩ := appY_run hp e4 hs hy
      rw [← o6] at n1 n3 n4
      have nx := row_put hp w1 w2 o3 c1 hs' f2 n1 n3 n4
      rw [o6] at n1
      have hroom : n + ys.length ≤ cp := by
        have := Nat.le_of_mul_le_mul_right (by rw [hcz]; exact hfit : o.es.length * o.sz ≤ (i + cp) * o.sz) hs'
        omega
      have hoff : (i + n) * o.sz = i * o.sz + n * pi.size := by rw [i2, ← o6, Nat.add_mul]
      have hsg : sg ((l, (⟨2, o.k, o.ty, o.sz, o.es.take (i + n) ++ ys ++ o.es.drop (i + n + ys.length)⟩ : Ob)) :: h) l = some o.sz := by rw [sg_cons, if_pos rfl]
      by_cases hys : ys = []
      · subst hys
        have hn0 : news = [] := List.eq_nil_of_length_eq_zero (by simpa using n1)
        subst hn0
        have hr := append_nothing (P := P) (w := w) ty rt et pi ht i1 (φ l) (i * o.sz) n cp c' B hcp
        have hself : w.setRow (φ l) (cur.toList.take ((i + n) * o.sz) ++ [] ++ cur.toList.drop ((i + n) * o.sz + ([] : List Value).length)).toArray = w := by
          simp [setRow_self w (φ l) cur _ _ c1]
        rw [hself] at nx
        refine ⟨_, w, φ, hr, nx, ?_⟩
        exact .own l i n o.sz cp cur o.ty hsg hcp hcm c1 hcz
      · obtain ⟨a, rfl, n2⟩ := n2' hys
        have n1' : news.length = ys.length * pi.size := by rw [i2]; exact n1
        rw [← o6] at n1
        have hone := news_one hs' n1 n3 n4
        have hfit2 : i * o.sz + n * pi.size + news.length ≤ cur.size := by
          rw [← hoff, n1, ← Nat.add_mul]
          exact Nat.le_trans (Nat.mul_le_mul_right _ f2) hfit
        have hr := append_part (P := P) (w := w) ty rt et pi ht i1 (φ l) (i * o.sz) n cp o.ty cur c1 a ys.length c' news n1' n2 hone hroom hfit2
        rw [← hoff] at hr hfit2
        refine ⟨_, _, φ, hr, nx, ?_⟩
        have hps : (i + n) * o.sz + news.length ≤ cur.toList.length := by rw [Array.length_toList]; exact hfit2
        exact .own l i (n + ys.length) o.sz cp _ o.ty hsg hroom hcm (setRow_heap w (φ l) cur _ _ _ c1) (by rw [List.size_toArray, mid_length hps, Array.length_toList]; exact hcz)
    | true =>
      rw [hfull] at ev
      simp only [Bool.and_eq_true, beq_iff_eq] at hfull
      obtain ⟨rfl, o4⟩ := hfull
      subst o4
      obtain ⟨e6, e7⟩ := gd_eq ev
      injection e7 with e7; injection e7 with e8 e9; subst e8; subst e9
      simp only [Bool.and_eq_true] at e6
      obtain ⟨f1, f2⟩ := e6
      obtain ⟨f2, f3, f5, f6⟩ := roomy_spec f2
      have hs : 0 < ie.size := by omega
      have hzs : z.cells.size = ie.size := by rw [← f3, ← z1]; simp
      obtain ⟨B, c, news, rfl, n1, n2', n3, n4⟩ := appY_run hp e4 hs hy
      have hone := news_one hs n1 n3 n4
      rw [o5] at c1
      rw [o6] at c2 c3 c4 hcz
      rw [Nat.zero_mul] at hx ⊢
      rw [Nat.zero_add] at hcz
      have nx0 := Nx.cool hp w1 0 (.inl rfl)
      have hfr : getO ((l, (⟨0, o.k, o.ty, o.sz, o.es⟩ : Ob)) :: h) (nm d) = none := by
        rw [getO_cons]
        have := fresh_spec f1
        by_cases hh : l = nm d
        · subst hh; rw [w1] at this; cases this
        · rw [if_neg hh]; exact this
      have hol : (cur.toList.take (o.es.length * ie.size)).length = o.es.length * ie.size := by simp; omega
      have hold : ∀ (i : Nat) (e : List D) (j : Nat) (d : D), o.es[i]? = some e → e[j]? = some d → okR d = true ∧ ∃ u, (cur.toList.take (o.es.length * ie.size))[i * ie.size + j]? = some u ∧ Rv w (Mx M0 φ h) d u := by
        intro i e j d a1 a2
        obtain ⟨q0, u, q1, q2⟩ := c4 i e j d a1 a2
        refine ⟨q0, u, ?_, q2.imm_of q0⟩
        have hi := (List.getElem?_eq_some_iff.1 a1).1
        have hj : j < ie.size := by have := (List.getElem?_eq_some_iff.1 a2).1; rw [c3 i e a1] at this; exact this
        have hlt : i * ie.size + j < o.es.length * ie.size := by
          have : (i + 1) * ie.size ≤ o.es.length * ie.size := Nat.mul_le_mul_right _ (by omega)
          rw [Nat.add_mul, Nat.one_mul] at this; omega
        rw [List.getElem?_take, if_pos hlt]
        simpa using q1
      have hboth := two_rows (X := fun d u => Rv w (Mx M0 φ h) d u) hol c3 hold n4
      have h3b : ∀ (i : Nat) (e : List D), (o.es ++ ys)[i]? = some e → e.length = ie.size := by
        intro i e a1
        rw [List.getElem?_append] at a1
        split at a1
        · exact c3 _ _ a1
        · exact n3 _ _ a1
      -- the same block under a new name
      have room_case : o.es.length + ys.length ≤ cp → (Builtin.append_ #[ty, ty] rt #[.slice (some ⟨φ l, 0, none⟩) o.es.length cp, .slice B ys.length c]).run P w = .ok (.slice (some ⟨φ l, 0, none⟩) (o.es.length + ys.length) cp) (w.setRow (φ l) (cur.toList.take (o.es.length * ie.size) ++ news ++ cur.toList.drop (o.es.length * ie.size + news.length)).toArray) →
          ∃ u w' φ', (Builtin.append_ #[ty, ty] rt #[.slice (some ⟨φ l, 0, none⟩) o.es.length cp, .slice B ys.length c]).run P w = .ok u w' ∧ Nx M0 φ h w φ' ((nm d, ⟨2, .row, et, ie.size, o.es ++ ys⟩) :: (l, ⟨0, o.k, o.ty, o.sz, o.es⟩) :: h) w' ∧
            R w' (Mx M0 φ' ((nm d, ⟨2, .row, et, ie.size, o.es ++ ys⟩) :: (l, ⟨0, o.k, o.ty, o.sz, o.es⟩) :: h)) φ' (sg ((nm d, ⟨2, .row, et, ie.size, o.es ++ ys⟩) :: (l, ⟨0, o.k, o.ty, o.sz, o.es⟩) :: h)) (.own (nm d) 0 (o.es.length + ys.length)) u := by
        intro hroom hr
        have hfit : o.es.length * ie.size + news.length ≤ cur.size := by
          rw [n1, ← hcz, ← Nat.add_mul]; exact Nat.mul_le_mul_right _ hroom
        have hup : ∀ x s, sg h x = some s → sg ((nm d, (⟨2, .row, et, ie.size, o.es ++ ys⟩ : Ob)) :: (l, ⟨0, o.k, o.ty, o.sz, o.es⟩) :: h) x = some s ∧ phi φ (nm d) (φ l) x = φ x := by
          intro x s hxs
          have hne : ¬ nm d = x := by
            intro e; subst e; unfold sg at hxs; rw [fresh_spec f1] at hxs; cases hxs
          refine ⟨?_, by simp [phi]; intro e; exact absurd e.symm hne⟩
          rw [sg_cons, if_neg hne]; exact (nx0.up x s hxs).1
        have hcur' : (cur.toList.take (o.es.length * ie.size) ++ news ++ cur.toList.drop (o.es.length * ie.size + news.length)).toArray.size = cur.size := by
          simp; omega
        have nx := Nx.put hp w1 w2 c1 hcur' (nm d) ((nm d, (⟨2, .row, et, ie.size, o.es ++ ys⟩ : Ob)) :: (l, ⟨0, o.k, o.ty, o.sz, o.es⟩) :: h) ⟨2, .row, et, ie.size, o.es ++ ys⟩ (phi φ (nm d) (φ l)) (by simp [getO_cons]) (by simp) rfl
          (fun x ox g1 g2 g3 => by
            rw [getO_cons, if_neg (Ne.symm g2), getO_cons] at g1
            by_cases e : l = x
            · rw [if_pos e] at g1; injection g1 with g1; subst g1; rcases g3 with g3 | g3 <;> simp at g3
            · rw [if_neg e] at g1; exact ⟨g1, Ne.symm e⟩) (by simp [phi]) hup (by
            rw [hcur', ← hcz]
            simp only [List.length_append]
            exact Nat.mul_le_mul_right _ hroom) h3b (fun i e j d a1 a2 => by
            obtain ⟨q0, u, q1, q2⟩ := hboth i e j d a1 a2
            refine ⟨q0, u, ?_, .imm q2⟩
            simp only [List.getElem?_toArray]
            rw [List.getElem?_append_left (List.getElem?_eq_some_iff.1 q1).1]
            exact q1)
        revert nx hr hcur'
        generalize (cur.toList.take (o.es.length * ie.size) ++ news ++ cur.toList.drop (o.es.length * ie.size + news.length)).toArray = A
        intro hr hcur' nx
        refine ⟨_, _, _, hr, nx, ?_⟩
        have hw' := setRow_heap w (φ l) cur A et _ c1
        have := R.own (w := w.setRow (φ l) A)
          (M := Mx M0 (phi φ (nm d) (φ l)) ((nm d, (⟨2, .row, et, ie.size, o.es ++ ys⟩ : Ob)) :: (l, ⟨0, o.k, o.ty, o.sz, o.es⟩) :: h)) (φ := phi φ (nm d) (φ l)) (σ := sg ((nm d, (⟨2, .row, et, ie.size, o.es ++ ys⟩ : Ob)) :: (l, ⟨0, o.k, o.ty, o.sz, o.es⟩) :: h))
          (nm d) 0 (o.es.length + ys.length) ie.size cp _ et (by rw [sg_cons]; simp) hroom hcm (by simpa [phi] using hw') (by rw [hcur', ← hcz]; simp)
        simpa [phi] using this
      by_cases hys : ys = []
      · subst hys
        have hn0 : news = [] := List.eq_nil_of_length_eq_zero (by simpa using n1)
        subst hn0
        refine room_case (by simpa using hcp) ?_
        have hr := append_nothing (P := P) (w := w) ty rt et pi ht i1 (φ l) 0 o.es.length cp c B hcp
        have hself : w.setRow (φ l) (cur.toList.take (o.es.length * ie.size) ++ [] ++ cur.toList.drop (o.es.length * ie.size + ([] : List Value).length)).toArray = w := by
          simp [setRow_self w (φ l) cur _ _ c1]
        rw [hself]
        exact hr
      obtain ⟨a, rfl, n2⟩ := n2' hys
      have hpos : 0 < ys.length := List.length_pos_iff.2 hys
      have n1' : news.length = ys.length * pi.size := by rw [i2]; exact n1
      by_cases hroom : o.es.length + ys.length ≤ cp
      · have hfit : o.es.length * pi.size + news.length ≤ cur.size := by
          rw [n1, i2, ← hcz, ← Nat.add_mul]; exact Nat.mul_le_mul_right _ hroom
        have hr := run_append_room (P := P) w ty rt et pi ht i1 (φ l) o.es.length cp cur c1 a ys.length c news n1' n2 hone hroom hfit
        rw [i2] at hr
        exact room_case hroom hr
      · have hfitb : Builtin.nextslicecap (o.es.length + ys.length) cp * pi.bytes ≤ 281474976710656 := growslice_fits (by omega) (by rw [i3]; omega)
        have hr := run_append_grow (P := P) w ty rt et pi z ht i1 i4 ⟨φ l, 0, none⟩ o.es.length cp (cur.toList.take (o.es.length * ie.size)) (by rw [hol, i2]) (fun j u hj => by
          rw [add_at, Nat.zero_add, cell_of_row w (φ l) _ cur et (0, 0) c1]
          rw [List.getElem?_take] at hj
          split at hj
          · simpa using hj
          · cases hj) a ys.length c news n1' n2 (by omega) (by omega) hfitb
        have hcap := grownCap_ge w (o.es.length + ys.length) cp et
        have hl2 : (o.es ++ ys).length = o.es.length + ys.length := by simp
        obtain ⟨g1, g2⟩ := grown_row hM0 nx0.hp hfr et ie.size (o.es ++ ys) (cur.toList.take (o.es.length * ie.size) ++ news) (Builtin.zeroCells z.cells (grownCap w (o.es.length + ys.length) cp et - (o.es.length + ys.length))).toList (grownCap w (o.es.length + ys.length) cp et) hs
          (by rw [List.length_append, hol, n1, hl2, Nat.add_mul]) (by rw [hl2]; exact hcap) (grownCap_le_maxLen w _ _ _ (by simp only [maxLen]; omega))
          ((cur.toList.take (o.es.length * ie.size)).toArray ++ news.toArray ++ Builtin.zeroCells z.cells (grownCap w (o.es.length + ys.length) cp et - (o.es.length + ys.length))) (by simp) (by
            rw [Array.size_append, Array.size_append, List.size_toArray, List.size_toArray, hol, n1, size_zeroCells, hzs, Nat.sub_mul, ← Nat.add_mul]
            have := Nat.mul_le_mul_right ie.size hcap; omega) h3b (fun i e j d a1 a2 => by
            obtain ⟨q0, u, q1, q2⟩ := hboth i e j d a1 a2
            exact ⟨q0, u, q1, nx0.r (.imm q2)⟩)
        rw [hl2] at g2
        exact ⟨_, _, _, hr, nx0.trans g1, g2⟩
  | _ => cases ev

/-- A slice's zero elements. -/
theorem zero_cells {i : TI} {z : Value} (h1 : z.cells.toList.length = i.zero.length) (h2 : ∀ (w : World) (M : Nat → Prop) (j : Nat) (d : D) (v : Value), i.zero[j]? = some d → z.cells.toList[j]? = some v → Rv w M d v) (hz : i.zero.length = i.size) (hk : i.zero.all okR = true) (n : Nat) (M : Nat → Prop) :
    (Builtin.zeroCells z.cells n).toList.length = n * i.size ∧ (∀ (k : Nat) (e : List D), (List.replicate n i.zero)[k]? = some e → e.length = i.size) ∧
    ∀ (k : Nat) (e : List D) (j : Nat) (d : D), (List.replicate n i.zero)[k]? = some e → e[j]? = some d → okR d = true ∧ ∃ u, (Builtin.zeroCells z.cells n).toList[k * i.size + j]? = some u ∧ Rv w M d u := by
  have hzs : z.cells.size = i.size := by rw [← hz, ← h1]; simp
  refine ⟨by rw [Array.length_toList, size_zeroCells, hzs], fun k e he => ?_, fun k e j d he hd => ?_⟩
  · rw [List.getElem?_replicate] at he
    split at he
    · injection he with he; rw [← he]; exact hz
    · cases he
  · rw [List.getElem?_replicate] at he
    split at he
    · rename_i hin
      injection he with he; subst he
      have hj : j < i.size := by have := (List.getElem?_eq_some_iff.1 hd).1; omega
      have hjz : j < z.cells.size := by omega
      have hlt : k * i.size + j < n * i.size := by
        have : (k + 1) * i.size ≤ n * i.size := Nat.mul_le_mul_right _ (by omega)
        rw [Nat.add_mul, Nat.one_mul] at this; omega
      have hmod : (k * i.size + j) % z.cells.size = j := by
        rw [hzs, Nat.mul_comm, Nat.mul_add_mod, Nat.mod_eq_of_lt hj]
      refine ⟨List.all_eq_true.1 hk d (List.mem_of_getElem? hd), z.cells[j], ?_, h2 w M j d _ hd (by simp [hjz])⟩
      rw [Array.getElem?_toList]
      rw [hzs] at hmod
      simp [Builtin.zeroCells, hzs, hlt, hmod, hj]
    · cases he

include hτ in
theorem vClear_run {ty x vx h'} (rt : TypeId) (hp : HpOk w M0 φ h) (hx : R w (Mx M0 φ h) φ (sg h) x vx) (ev : vClear τ h ty x = some h') :
    ∃ w', (Builtin.clear_ #[ty] rt #[vx]).run P w = .ok (.tuple #[]) w' ∧ Nx M0 φ h w φ h' w' := by
  obtain ⟨ti, e1, ev⟩ := bO_eq ev
  obtain ⟨et, e2, ev⟩ := bO_eq ev
  obtain ⟨ie, e3, ev⟩ := bO_eq ev
  have X := hτ _ _ e3
  have ht := (hτ _ _ e1).slice (tslice_spec e2)
  obtain ⟨pi, i1, i2, i3, z, i4, i5⟩ := X.info
  obtain ⟨z1, z2⟩ := okVs_spec i5
  have nothing : ∀ (A : Option Addr) (c : Nat), vx = .slice A 0 c → (Builtin.clear_ #[ty] rt #[vx]).run P w = .ok (.tuple #[]) w := by
    rintro A c rfl
    cases A <;> simp [Builtin.clear_, run_underlying ht]
  cases x with
  | nils =>
    injection ev with ev; subst ev
    exact ⟨w, nothing none 0 hx.nils_inv, .refl hp⟩
  | em =>
    injection ev with ev; subst ev
    obtain ⟨A, q⟩ := hx.em_inv
    exact ⟨w, nothing A 0 q, .refl hp⟩
  | ro s es =>
    obtain ⟨f, ev⟩ := gd_eq ev
    injection ev with ev; subst ev
    obtain ⟨A, c, q, _⟩ := ro_inv hx
    have : es = [] := by simpa using f
    subst this
    exact ⟨w, nothing A c q, .refl hp⟩
  | own l i n =>
    obtain ⟨o, o1, ev⟩ := bO_eq ev
    obtain ⟨f, ev⟩ := gd_eq ev
    injection ev with ev; subst ev
    simp only [Bool.and_eq_true, beq_iff_eq, bne_iff_ne, decide_eq_true_eq] at f
    obtain ⟨f1, f2, f3, f4, f5, f6⟩ := f
    obtain ⟨w1, w2⟩ := objW_spec o1
    obtain ⟨cp, cur, rfl, hcp, hcm, c1, hcz, hfit⟩ := own_row hp hx w1 (.inr w2) f1
    obtain ⟨q1, q2, q3⟩ := zero_cells (w := w) z1 z2 f4 f5 n (Mx M0 φ h)
    rw [← f2] at q1 q2 q3 f3
    have hs : 0 < o.sz := by omega
    have hlr : (List.replicate n ie.zero).length = n := List.length_replicate
    rw [← hlr] at f6
    have q1' : (Builtin.zeroCells z.cells n).toList.length = (List.replicate n ie.zero).length * o.sz := by rw [hlr]; exact q1
    have nx := row_put hp w1 w2 f1 c1 hs f6 q1' q2 q3
    rw [hlr] at nx
    by_cases hn : n = 0
    · subst hn
      have hself : w.setRow (φ l) (cur.toList.take (i * o.sz) ++ (Builtin.zeroCells z.cells 0).toList ++ cur.toList.drop (i * o.sz + (Builtin.zeroCells z.cells 0).toList.length)).toArray = w := by
        have hz0 : (Builtin.zeroCells z.cells 0).toList = [] := List.eq_nil_of_length_eq_zero (by simpa using q1)
        rw [hz0]; simp [setRow_self w (φ l) cur _ _ c1]
      rw [hself] at nx
      exact ⟨w, nothing _ cp rfl, nx⟩
    · have hst := run_storeCells_at P (φ l) (i * o.sz) o.ty (Builtin.zeroCells z.cells n).toList 0 cur w c1 (by
        rw [Nat.add_zero, q1, ← Nat.add_mul]; rw [hlr] at f6
        exact Nat.le_trans (Nat.mul_le_mul_right _ f6) hfit) (news_one hs q1' q2 q3)
      rw [Nat.add_zero] at hst
      refine ⟨_, ?_, nx⟩
      have hcl : ∀ n' : Nat, n' = n → (Builtin.clear_ #[ty] rt #[.slice (some ⟨φ l, i * o.sz, none⟩) n' cp]).run P w = .ok (.tuple #[]) (w.setRow (φ l) (cur.toList.take (i * o.sz) ++ (Builtin.zeroCells z.cells n).toList ++ cur.toList.drop (i * o.sz + (Builtin.zeroCells z.cells n).toList.length)).toArray) := by
        intro n' hn'
        cases n' with
        | zero => omega
        | succ k => simp only [Builtin.clear_, run_underlying ht, zeroValue, typeInfo, run_program, i1, i4, Sem.run_bind, Sem.run_pure, Result.andThen_ok, List.getElem?_toArray, List.getElem?_cons_zero, hn', hst]
      exact hcl n rfl
  | _ => cases ev

include hτ in
theorem vCopy_run {ty sT x y vx vy v h'} (rt : TypeId) (hp : HpOk w M0 φ h) (hx : R w (Mx M0 φ h) φ (sg h) x vx) (hy : R w (Mx M0 φ h) φ (sg h) y vy) (ev : vCopy τ h ty x y = some (v, h')) :
    ∃ u w', (Builtin.copy_ #[ty, sT] rt #[vx, vy]).run P w = .ok u w' ∧ Nx M0 φ h w φ h' w' ∧ R w' (Mx M0 φ h') φ (sg h') v u := by
  rw [vCopy_def] at ev
  obtain ⟨ti, e1, ev⟩ := bO_eq ev
  obtain ⟨et, e2, ev⟩ := bO_eq ev
  obtain ⟨ie, e3, ev⟩ := bO_eq ev
  obtain ⟨ys, e4, ev⟩ := bO_eq ev
  have X := hτ _ _ e3
  have ht := (hτ _ _ e1).slice (tslice_spec e2)
  obtain ⟨pi, i1, i2, i3, z, i4, i5⟩ := X.info
  have shape : ∃ B m c', vy = .slice B m c' := by
    cases y with
    | nils => exact ⟨_, _, _, hy.nils_inv⟩
    | em => obtain ⟨A, q⟩ := hy.em_inv; exact ⟨A, 0, 0, q⟩
    | ro s es => obtain ⟨A, c, q, _⟩ := ro_inv hy; exact ⟨A, _, c, q⟩
    | own l i n => obtain ⟨s, c, _, q, _⟩ := own_inv hy; exact ⟨_, _, c, q⟩
    | _ => cases e4
  have nothing : ∀ A, vx = .slice A 0 0 → (Builtin.copy_ #[ty, sT] rt #[vx, vy]).run P w = .ok (.int .i64 0) w := by
    rintro A rfl
    obtain ⟨B, m, c', rfl⟩ := shape
    have hf : (Builtin.firstCells pi.size 0 (.slice B m c')).run P w = .ok #[] w := by
      cases B with
      | none => simp [Builtin.firstCells]
      | some a => exact run_firstCells_some (P := P) w pi.size 0 a m c' [] (by simp) (by simp)
    cases A <;> simp [Builtin.copy_, run_underlying ht, Builtin.lenOf, sizeOf, typeInfo, i1, hf, storeCells, goInt]
  cases x with
  | nils =>
    injection ev with ev; injection ev with e8 e9; subst e8; subst e9
    exact ⟨_, w, nothing none hx.nils_inv, .refl hp, .imm (.int _ _)⟩
  | em =>
    injection ev with ev; injection ev with e8 e9; subst e8; subst e9
    obtain ⟨A, q⟩ := hx.em_inv
    exact ⟨_, w, nothing A q, .refl hp, .imm (.int _ _)⟩
  | own l i n =>
    rw [vCopyE_own] at ev
    obtain ⟨o, o1, ev⟩ := bO_eq ev
    obtain ⟨h2, e5, ev⟩ := bO_eq ev
    injection ev with ev; injection ev with e8 e9; subst e8; subst e9
    obtain ⟨f, e5⟩ := gd_eq e5
    injection e5 with e5; subst e5
    simp only [Bool.and_eq_true, beq_iff_eq, bne_iff_ne, decide_eq_true_eq] at f
    obtain ⟨f1, f2, f3, f4⟩ := f
    obtain ⟨w1, w2⟩ := objW_spec o1
    obtain ⟨cp, cur, rfl, hcp, hcm, c1, hcz, hfit⟩ := own_row hp hx w1 (.inr w2) f1
    have hs : 0 < ie.size := by omega
    have hs' : 0 < o.sz := by omega
    obtain ⟨B, c', news, rfl, n1, n2', n3, n4⟩ := appY_run hp e4 hs hy
    have hk : Nat.min n ys.length ≤ ys.length := Nat.min_le_right _ _
    have hlen : (ys.take n).length = Nat.min n ys.length := List.length_take
    have hf := first_run (P := P) (c := c') n1 n2' (n := Nat.min n ys.length) hk
    rw [← f2] at n1 n3 n4 hf
    have hkm : Nat.min n ys.length * o.sz ≤ news.length := by rw [n1]; exact Nat.mul_le_mul_right _ hk
    have m1 : (news.take (Nat.min n ys.length * o.sz)).length = (ys.take n).length * o.sz := by
      rw [hlen]; exact List.length_take_of_le hkm
    have m3 : ∀ (i : Nat) (e : List D), (ys.take n)[i]? = some e → e.length = o.sz := by
      intro i e he
      rw [List.getElem?_take] at he
      split at he
      · exact n3 i e he
      · cases he
    have m4 : ∀ (i : Nat) (e : List D) (j : Nat) (d : D), (ys.take n)[i]? = some e → e[j]? = some d → okR d = true ∧ ∃ u, (news.take (Nat.min n ys.length * o.sz))[i * o.sz + j]? = some u ∧ Rv w (Mx M0 φ h) d u := by
      intro i e j d a1 a2
      have hi := (List.getElem?_eq_some_iff.1 a1).1
      rw [hlen] at hi
      have hj : j < o.sz := by have := (List.getElem?_eq_some_iff.1 a2).1; rw [m3 i e a1] at this; exact this
      have hlt : i * o.sz + j < Nat.min n ys.length * o.sz := by
        have : (i + 1) * o.sz ≤ Nat.min n ys.length * o.sz := Nat.mul_le_mul_right _ (by omega)
        rw [Nat.add_mul, Nat.one_mul] at this; omega
      rw [List.getElem?_take] at a1
      split at a1
      · obtain ⟨q0, u, q1, q2⟩ := n4 i e j d a1 a2
        exact ⟨q0, u, by rw [List.getElem?_take, if_pos hlt]; exact q1, q2⟩
      · cases a1
    have hone := news_one hs' m1 m3 m4
    have f4' : i + (ys.take n).length ≤ o.es.length := by rw [hlen]; exact Nat.le_trans (Nat.add_le_add_left (Nat.min_le_left n ys.length) i) f4
    have nx := row_put hp w1 w2 f1 c1 hs' f4' m1 m3 m4
    have hst := run_storeCells_at P (φ l) (i * o.sz) o.ty (news.take (Nat.min n ys.length * o.sz)) 0 cur w c1 (by
      rw [Nat.add_zero, m1, ← Nat.add_mul]
      exact Nat.le_trans (Nat.mul_le_mul_right _ f4') hfit) hone
    rw [Nat.add_zero] at hst
    rw [hlen] at nx
    refine ⟨_, _, ?_, nx, .imm (.int _ _)⟩
    have hcm : Nat.min ys.length n = Nat.min n ys.length := Nat.min_comm _ _
    simp only [Builtin.copy_, run_underlying ht, Builtin.lenOf, sizeOf, typeInfo, run_program, i1, i2, ← f2, hcm, hf, hst, goInt, Sem.run_bind, Sem.run_pure, Result.andThen_ok, List.getElem?_toArray, List.getElem?_cons_zero, List.getElem?_cons_succ]
  | _ => cases ev

theorem putE_spec {o i j cs o2} (e : putE o i j cs = some o2) : o.k ≠ .map ∧ ∃ e0 e1, o.es[i]? = some e0 ∧ setAt e0 j cs = some e1 ∧ o2 = ⟨2, o.k, o.ty, o.sz, o.es.set i e1⟩ := by
  obtain ⟨e0, g1, e⟩ := bO_eq e
  obtain ⟨e1, g2, e⟩ := bO_eq e
  injection e with e
  obtain ⟨g3, g4⟩ := oEs_spec g1
  exact ⟨g3, e0, e1, g4, g2, e.symm⟩

theorem lowK_run {k : OK} (hp : HpOk w M0 φ h) {x v cs h'} (e : lowK k h (cells x) = some (cs, h')) (hr : R w (Mx M0 φ h) φ (sg h) x v) :
    Nx M0 φ h w φ h' w ∧ cs.length = (cells x).length ∧ v.cells.size = cs.length ∧ (∀ (j : Nat) (d : D), cs[j]? = some d → okD k d = true ∧ ∃ u, v.cells[j]? = some u ∧ R w (Mx M0 φ h') φ (sg h') d u) ∧ (∀ (j : Nat) (d : D), cs[j]? = some d → okB d = true) := by
  cases k with
  | box =>
    rw [lowK_box] at e
    obtain ⟨e1, e2⟩ := gd_eq e
    injection e2 with e2; injection e2 with e3 e4; subst e3; subst e4
    obtain ⟨c1, c2⟩ := cells_R hr (allB_spec e1)
    exact ⟨.refl hp, rfl, c1, fun j d hd => ⟨rfl, c2 j d hd⟩, fun j d hd => allB_spec e1 d (List.mem_of_getElem? hd)⟩
  | row =>
    rw [lowK_row] at e
    obtain ⟨q1, q2, q3, q4⟩ := low_cells hp e hr
    exact ⟨q1, q2, q3, q4, fun j d hd => okR_okB (q4 j d hd).1⟩
  | map => cases e

include hτ in
theorem vStore_run {ty x y vx vy h'} (hp : HpOk w M0 φ h) (hx : R w (Mx M0 φ h) φ (sg h) x vx) (hy : R w (Mx M0 φ h) φ (sg h) y vy) (ev : vStore τ h ty x y = some h') :
    ∃ w', (Instr.storeAt ty vx vy).run P w = .ok () w' ∧ Nx M0 φ h w φ h' w' := by
  cases x with
  | ptr l i j =>
    rw [vStore_ptr] at ev
    obtain ⟨ti, e1, ev⟩ := bO_eq ev
    obtain ⟨e2, ev⟩ := gd_eq ev
    obtain ⟨o, e3, ev⟩ := bO_eq ev
    obtain ⟨⟨cs, h1⟩, e4, ev⟩ := bO_eq ev
    obtain ⟨o', e5, ev⟩ := bO_eq ev
    obtain ⟨o2, e6, ev⟩ := bO_eq ev
    injection ev with ev; subst ev
    simp only [beq_iff_eq] at e2
    simp only at e5 e6
    obtain ⟨s, hs, rfl⟩ := ptr_inv hx
    obtain ⟨nx, l1, l2, l3, l4⟩ := lowK_run hp e4 hy
    obtain ⟨a1, a2⟩ := objW_spec e3
    obtain ⟨b1, b2⟩ := objW_spec e5
    obtain ⟨hk, e0, en, p1, p2, rfl⟩ := putE_spec e6
    obtain ⟨cur, c1, c2, c3, c4⟩ := (nx.hp.ob l o' b1 (.inr b2)).cells hk
    have hs' : s = o'.sz := by
      have := (nx.up l s hs).1
      unfold sg at this; rw [b1] at this; injection this with this; exact this.symm
    subst hs'
    -- lowering keeps the object's kind
    have hkk : okk o = o'.k := by
      unfold okk
      have : ∀ (cs : List D) (h : List (Nat × Ob)) r h1, lowL h cs = some (r, h1) → ∀ x ox ox', getO h x = some ox → getO h1 x = some ox' → ox.k = ox'.k := by
        intro cs
        induction cs with
        | nil => intro h r h1 e x ox ox' g1 g2; cases e; rw [g1] at g2; injection g2 with g2; rw [g2]
        | cons d cs ih =>
          intro h r h1 e x ox ox' g1 g2
          have plain : ∀ d', (bO (lowL h cs) fun p => some (d' :: p.1, p.2)) = some (r, h1) → ox.k = ox'.k := by
            intro d' e
            obtain ⟨⟨p, h2⟩, q1, q2⟩ := bO_eq e
            injection q2 with q2; injection q2 with q3 q4; subst q4
            exact ih h p _ q1 x ox ox' g1 g2
          cases d with
          | own l' i n =>
            rw [lowL_own] at e
            obtain ⟨o3, q1, e⟩ := bO_eq e
            obtain ⟨es, q2, e⟩ := bO_eq e
            obtain ⟨⟨p, h2⟩, q3, q4⟩ := bO_eq e
            injection q4 with q4; injection q4 with q5 q6; subst q6
            have q7 := (objR_spec q1).1
            by_cases hxl : l' = x
            · subst hxl
              rw [g1] at q7; injection q7 with q7; subst q7
              have := ih _ p _ q3 l' ⟨1, ox.k, ox.ty, ox.sz, ox.es⟩ ox' (by simp [getO_cons]) g2
              exact this
            · exact ih _ p _ q3 x ox ox' (by rw [getO_cons, if_neg hxl]; exact g1) g2
          | int k n => exact plain _ e
          | bool b => exact plain _ e
          | nilp => exact plain _ e
          | nils => exact plain _ e
          | nilf => exact plain _ e
          | nilm => exact plain _ e
          | em => exact plain _ e
          | ro s es => exact plain _ e
          | any => cases e
          | rop _ => cases e
          | agg _ => cases e
          | tup _ => cases e
          | ptr _ _ _ => cases e
          | mp _ => cases e
          | clo _ _ => cases e
      cases hq : o.k with
      | box =>
        have e4' := e4
        simp only [okk, hq] at e4'
        rw [lowK_box] at e4'
        obtain ⟨_, e4'⟩ := gd_eq e4'
        injection e4' with e4'; injection e4' with _ e4'; subst e4'
        rw [a1] at b1; injection b1 with b1; rw [← b1, hq]
      | row =>
        have e4' := e4
        simp only [okk, hq] at e4'
        rw [lowK_row] at e4'
        rw [← this _ _ _ _ e4' l o o' a1 b1, hq]
      | map => simp only [okk, hq] at e4; cases e4
    rw [hkk] at l3
    obtain ⟨s1, s2⟩ := setAt_get p2
    have hfit := (setAt_spec p2).1
    have he0 := c3 i e0 p1
    have hi := (List.getElem?_eq_some_iff.1 p1).1
    have hrow : i * o'.sz + o'.sz ≤ o'.es.length * o'.sz := by
      have : (i + 1) * o'.sz ≤ o'.es.length * o'.sz := Nat.mul_le_mul_right _ (by omega)
      rw [Nat.add_mul, Nat.one_mul] at this; exact this
    have hone : ∀ u ∈ vy.cells.toList, u.oneCell' = true := by
      intro u hu
      obtain ⟨k, hk2⟩ := List.getElem?_of_mem hu
      have hlt : k < cs.length := by have := (List.getElem?_eq_some_iff.1 hk2).1; rw [← l2]; simpa using this
      obtain ⟨q0, u', q1, q2⟩ := l3 k _ (List.getElem?_eq_getElem hlt)
      have : u' = u := by simp at hk2; rw [q1] at hk2; injection hk2
      subst this
      exact q2.one (l4 k _ (List.getElem?_eq_getElem hlt))
    have hvl : vy.cells.toList.length = cs.length := by simp [l2]
    have hst := run_storeCells_at P (φ l) (i * o'.sz + j) o'.ty vy.cells.toList 0 cur w c1 (by rw [hvl]; omega) hone
    simp only [Nat.add_zero] at hst
    refine ⟨w.setRow (φ l) (cur.toList.take (i * o'.sz + j) ++ vy.cells.toList ++ cur.toList.drop (i * o'.sz + j + vy.cells.toList.length)).toArray, ?_, ?_⟩
    · simp only [Instr.storeAt, Instr.sureAddr, storeVar, Sem.run_bind, Sem.run_pure, Result.andThen_ok, (hτ _ _ e1).size]
      rw [if_neg (by rw [l2, l1, e2]; simp)]
      exact hst
    · have hcur' : (cur.toList.take (i * o'.sz + j) ++ vy.cells.toList ++ cur.toList.drop (i * o'.sz + j + vy.cells.toList.length)).toArray.size = cur.size := by
        simp; omega
      refine nx.trans (Nx.put nx.hp b1 b2 c1 hcur' l _ ⟨2, o'.k, o'.ty, o'.sz, o'.es.set i en⟩ φ (by simp [getO_cons]) hk rfl (fun x ox g1 g2 g3 => by
        rw [getO_cons, if_neg (Ne.symm g2)] at g1
        exact ⟨g1, g2⟩) rfl (fun x s hxs => by
        refine ⟨?_, rfl⟩
        rw [sg_cons]
        by_cases e : l = x
        · subst e; rw [if_pos rfl]; unfold sg at hxs; rw [b1] at hxs; exact hxs
        · rw [if_neg e]; exact hxs) (by rw [hcur']; simpa using c2) (fun i' e he => ?_) (fun i' e j' d he hd => ?_))
      · simp only [List.getElem?_set] at he
        by_cases hii : i = i'
        · subst hii
          rw [if_pos rfl, if_pos hi] at he
          injection he with he; subst he; rw [s1]; exact he0
        · rw [if_neg hii] at he; exact c3 i' e he
      · have hcell : (cur.toList.take (i * o'.sz + j) ++ vy.cells.toList ++ cur.toList.drop (i * o'.sz + j + vy.cells.toList.length)).toArray[i' * o'.sz + j']? = if i * o'.sz + j ≤ i' * o'.sz + j' ∧ i' * o'.sz + j' < i * o'.sz + j + cs.length then vy.cells[i' * o'.sz + j' - (i * o'.sz + j)]? else cur[i' * o'.sz + j']? := by
          rw [hvl]
          simp only [List.getElem?_toArray]
          have ht : (cur.toList.take (i * o'.sz + j)).length = i * o'.sz + j := by simp; omega
          rw [List.append_assoc, List.getElem?_append, ht]
          by_cases k1 : i' * o'.sz + j' < i * o'.sz + j
          · rw [if_pos k1, if_neg (by omega), List.getElem?_take, if_pos k1]; simp
          · rw [if_neg k1, List.getElem?_append, hvl]
            by_cases k2 : i' * o'.sz + j' < i * o'.sz + j + cs.length
            · rw [if_pos (by omega), if_pos (by omega)]; simp
            · rw [if_neg (by omega), if_neg (by omega), List.getElem?_drop]
              simp; congr 1; omega
        simp only at he
        rw [hcell]
        simp only [List.getElem?_set] at he
        by_cases hii : i = i'
        · subst hii
          rw [if_pos rfl, if_pos hi] at he
          injection he with he; subst he
          rw [s2] at hd
          by_cases hb : j ≤ j' ∧ j' < j + cs.length
          · rw [if_pos hb] at hd
            rw [if_pos (by omega)]
            have := l3 _ d hd
            rwa [show i * o'.sz + j' - (i * o'.sz + j) = j' - j from by omega]
          · rw [if_neg hb] at hd
            rw [if_neg (by omega)]
            exact c4 i e0 j' d p1 hd
        · rw [if_neg hii] at he
          have hj' : j' < o'.sz := by have := (List.getElem?_eq_some_iff.1 hd).1; rw [c3 i' e he] at this; exact this
          have hout : ¬ (i * o'.sz + j ≤ i' * o'.sz + j' ∧ i' * o'.sz + j' < i * o'.sz + j + cs.length) := by
            rcases Nat.lt_or_gt_of_ne hii with hlt | hlt
            · have : (i + 1) * o'.sz ≤ i' * o'.sz := Nat.mul_le_mul_right _ (by omega)
              rw [Nat.add_mul, Nat.one_mul] at this; omega
            · have : (i' + 1) * o'.sz ≤ i * o'.sz := Nat.mul_le_mul_right _ (by omega)
              rw [Nat.add_mul, Nat.one_mul] at this; omega
          rw [if_neg hout]
          exact c4 i' e j' d he hd
  | _ => cases ev

end
end Go.Proofs.Ytemcdpkiphmndaa.Ab
