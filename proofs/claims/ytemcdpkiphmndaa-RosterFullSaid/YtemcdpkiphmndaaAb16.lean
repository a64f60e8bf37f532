/- Ab16: the interpreter as a program that Lean runs; what functions answer, of all rounds together. -/
import Derived.Test.YtemcdpkiphmndaaAb15
set_option linter.unusedSimpArgs false
set_option linter.unusedVariables false
set_option linter.unusedSectionVars false
namespace Go.Proofs.Ytemcdpkiphmndaa.Ab

section
variable (τ : Nat → Option TI) (T : Tm) (m : Nat)
def exec : Nat → List It → St → Option St
  | 0, _, _ => none
  | _ + 1, [], s => some s
  | n + 1, .bk _ :: K, s => exec n K s
  | n + 1, .lp l c :: K, s => exec n (.c c :: .lp l c :: K) (gc m l s)
  | n + 1, .c x :: K, s =>
    match x with
    | .stuck => none
    | .ret => some s
    | .skip => exec n K s
    | .reg _ ops => (match runO τ T ops s with | some s' => exec n K s' | none => none)
    | .seq a b => exec n (.c a :: .c b :: K) s
    | .cond c a b => (match ev s.t c with | .bool true => exec n (.c a :: K) s | .bool false => exec n (.c b :: K) s | _ => none)
    | .block i c => exec n (.c c :: .bk i :: K) s
    | .loop l c => exec n (.lp l c :: K) s
    | .exit i =>
      match K with
      | .c _ :: K => exec n (.c (.exit i) :: K) s
      | .lp _ _ :: K => exec n (.c (.exit i) :: K) s
      | .bk j :: K => (match decide (i = j) with | true => exec n K s | false => exec n (.c (.exit i) :: K) s)
      | [] => none
end

section
variable {τ : Nat → Option TI} {T : Tm} {m : Nat}
theorem exec_sound : ∀ {n : Nat} {K : List It} {s s' : St}, exec τ T m n K s = some s' → ∀ {Q : St → Prop}, Q s' → Go τ T m Q K s
  | 0, _, _, _, e, _, _ => by cases e
  | n + 1, [], s, s', e, Q, q => by simp only [exec] at e; injection e with e; subst e; exact .nil _ q
  | n + 1, .bk i :: K, s, s', e, Q, q => by simp only [exec] at e; exact .bk _ _ _ (exec_sound e q)
  | n + 1, .lp l c :: K, s, s', e, Q, q => by simp only [exec] at e; exact .lp _ _ _ _ (exec_sound e q)
  | n + 1, .c x :: K, s, s', e, Q, q => by
    simp only [exec] at e
    cases x with
    | stuck => cases e
    | ret => simp only at e; injection e with e; subst e; exact .ret _ _ q
    | skip => exact .skip _ _ (exec_sound e q)
    | reg p ops =>
      simp only at e
      split at e
      · rename_i s1 h1; exact .reg _ _ s1 p ops h1 (exec_sound e q)
      · cases e
    | seq a b => exact .seq _ _ _ _ (exec_sound e q)
    | cond c a b =>
      simp only at e
      split at e
      · rename_i h1; exact .cond _ _ c a b true h1 (exec_sound e q)
      · rename_i h1; exact .cond _ _ c a b false h1 (exec_sound e q)
      · cases e
    | block i c => exact .block _ _ _ _ (exec_sound e q)
    | loop l c => exact .loop _ _ _ _ (exec_sound e q)
    | exit i =>
      simp only at e
      split at e
      · exact .exC _ _ _ _ (exec_sound e q)
      · exact .exL _ _ _ _ _ (exec_sound e q)
      · rename_i j K'
        split at e
        · rename_i hd
          have : i = j := of_decide_eq_true hd
          subst this
          exact .exB _ _ _ (exec_sound e q)
        · rename_i hd
          exact .exBn _ _ _ _ (of_decide_eq_false hd) (exec_sound e q)
      · cases e

/-! ### more is known, more is answered -/
structure TmLe (T T' : Tm) : Prop where
  p : ∀ f ds r, T.p f ds = some r → T'.p f ds = some r
  h : ∀ f ds h0 k r, T.h f ds h0 k = some r → T'.h f ds h0 k = some r
  a : ∀ f ds os r, T.a f ds os = some r → T'.a f ds os = some r
theorem TmLe.refl (T : Tm) : TmLe T T := ⟨fun _ _ _ e => e, fun _ _ _ _ _ e => e, fun _ _ _ _ e => e⟩
theorem TmLe.trans {A B C : Tm} (a : TmLe A B) (b : TmLe B C) : TmLe A C := ⟨fun f ds r e => b.p f ds r (a.p f ds r e), fun f ds h k r e => b.h f ds h k r (a.h f ds h k r e), fun f ds os r e => b.a f ds os r (a.a f ds os r e)⟩

variable {T' : Tm}
theorem vCall_mono (l : TmLe T T') {t h f xs r} (e : vCall T t h f xs = some r) : vCall T' t h f xs = some r := by
  unfold vCall at e ⊢
  obtain ⟨c, e1, e⟩ := bO_eq e
  obtain ⟨p, e2, e⟩ := bO_eq e
  obtain ⟨q, e3, e⟩ := bO_eq e
  rw [e1]; simp only [bO_some]; rw [e2]; simp only [bO_some]; rw [l.p _ _ _ e3]; exact e
theorem vCallP_mono (l : TmLe T T') {t f xs r} (e : vCallP T t f xs = some r) : vCallP T' t f xs = some r := by
  unfold vCallP at e ⊢
  obtain ⟨c, e1, e⟩ := bO_eq e
  obtain ⟨p, e2, e⟩ := bO_eq e
  rw [e1]; simp only [bO_some]; rw [e2]; simp only [bO_some]; exact l.p _ _ _ e
theorem enterH_mono (l : TmLe T T') {h d f args ls r} (e : enterH T h d f args ls = some r) : enterH T' h d f args ls = some r := by
  rw [enterH_def] at e ⊢
  obtain ⟨e1, e⟩ := gd_eq e
  obtain ⟨q, e2, e⟩ := bO_eq e
  rw [e1, gd_true, l.h _ _ _ _ _ e2]; exact e
theorem vCallH_mono (l : TmLe T T') {t h d f xs r} (e : vCallH T t h d f xs = some r) : vCallH T' t h d f xs = some r := by
  unfold vCallH at e ⊢
  obtain ⟨c, e1, e⟩ := bO_eq e
  rw [e1]; exact enterH_mono l e
theorem vCallA_mono (l : TmLe T T') {t h d ex f xs r} (e : vCallA T t h d ex f xs = some r) : vCallA T' t h d ex f xs = some r := by
  unfold vCallA at e ⊢
  obtain ⟨c, e1, e⟩ := bO_eq e
  obtain ⟨os, e2, e⟩ := bO_eq e
  obtain ⟨q, e3, e⟩ := bO_eq e
  rw [e1]; simp only [bO_some]; rw [e2]; simp only [bO_some]; rw [l.a _ _ _ _ e3]; exact e
theorem vCallF_mono (l : TmLe T T') {t h d ex fr f xs r} (e : vCallF T t h d ex fr f xs = some r) : vCallF T' t h d ex fr f xs = some r := by
  unfold vCallF at e ⊢
  obtain ⟨c, e1, e⟩ := bO_eq e
  obtain ⟨e0, e⟩ := gd_eq e
  rw [e1]; simp only [bO_some]; rw [e0, gd_true]; exact enterH_mono l e
theorem stepV_mono (l : TmLe T T') {t h d o r} (e : stepV τ T t h d o = some r) : stepV τ T' t h d o = some r := by
  cases o with
  | call f xs => exact vCall_mono l e
  | callH f xs => exact vCallH_mono l e
  | callA ex f xs => exact vCallA_mono l e
  | callF ex fr f xs => exact vCallF_mono l e
  | callP f xs =>
    simp only [stepV] at e ⊢
    obtain ⟨v, e1, e2⟩ := bO_eq e
    rw [vCallP_mono l e1]; exact e2
  | _ => exact e
theorem stepO_mono (l : TmLe T T') {d o s r} (e : stepO τ T d o s = some r) : stepO τ T' d o s = some r := by
  cases d with
  | some d =>
    rw [stepO_some] at e ⊢
    obtain ⟨p, e1, e2⟩ := bO_eq e
    rw [stepV_mono l e1]; exact e2
  | none =>
    cases o <;> try cases e
    · exact e
    · exact e
    · exact e
    · simp only [stepO] at e ⊢
      obtain ⟨p, e1, e2⟩ := bO_eq e
      rw [vCallF_mono l e1]; exact e2
    · exact e
    · simp only [stepO] at e ⊢
      obtain ⟨p, e1, e2⟩ := bO_eq e
      rw [vCall_mono l e1]; exact e2
    · simp only [stepO] at e ⊢
      obtain ⟨p, e1, e2⟩ := bO_eq e
      rw [vCallH_mono l e1]; exact e2
    · exact e
    · exact e
theorem stepG_mono (l : TmLe T T') {o s r} (e : stepG τ T o s = some r) : stepG τ T' o s = some r := by
  unfold stepG at e ⊢
  split
  · rename_i h; rw [h] at e; exact stepO_mono l e
  · rename_i g b h
    rw [h] at e
    simp only at e ⊢
    split
    · rename_i hx; rw [hx] at e; exact stepO_mono l e
    · rename_i hx; rw [hx] at e; exact e
    · rename_i h1 h2
      split at e
      · rename_i hx; exact absurd hx h1
      · rename_i hx; exact absurd hx h2
      · cases e
theorem runO_mono (l : TmLe T T') : ∀ {ops s r}, runO τ T ops s = some r → runO τ T' ops s = some r
  | [], _, _, e => e
  | o :: ops, s, r, e => by
    simp only [runO] at e ⊢
    cases h1 : stepG τ T o s with
    | none => rw [h1] at e; cases e
    | some s1 => rw [h1] at e; rw [stepG_mono l h1]; exact runO_mono l e
theorem exec_mono (l : TmLe T T') : ∀ {n n' K s r}, n ≤ n' → exec τ T m n K s = some r → exec τ T' m n' K s = some r
  | 0, _, _, _, _, _, e => by cases e
  | n + 1, 0, _, _, _, h, _ => by omega
  | n + 1, n' + 1, [], s, r, h, e => by simp only [exec] at e ⊢; exact e
  | n + 1, n' + 1, .bk i :: K, s, r, h, e => by simp only [exec] at e ⊢; exact exec_mono l (by omega) e
  | n + 1, n' + 1, .lp lv c :: K, s, r, h, e => by simp only [exec] at e ⊢; exact exec_mono l (by omega) e
  | n + 1, n' + 1, .c x :: K, s, r, h, e => by
    simp only [exec] at e ⊢
    cases x with
    | stuck => cases e
    | ret => exact e
    | skip => exact exec_mono l (by omega) e
    | reg p ops =>
      simp only at e ⊢
      split at e
      · rename_i s1 h1; rw [runO_mono l h1]; exact exec_mono l (by omega) e
      · cases e
    | seq a b => exact exec_mono l (by omega) e
    | cond c a b =>
      simp only at e ⊢
      split at e
      · exact exec_mono l (by omega) e
      · exact exec_mono l (by omega) e
      · cases e
    | block i c => exact exec_mono l (by omega) e
    | loop l' c => exact exec_mono l (by omega) e
    | exit i =>
      simp only at e ⊢
      split at e
      · exact exec_mono l (by omega) e
      · exact exec_mono l (by omega) e
      · split at e
        · exact exec_mono l (by omega) e
        · exact exec_mono l (by omega) e
      · cases e

/-! ### what a program's functions answer -/
abbrev Txt := Nat → Option (C × List RV × Nat)
def bodyP (τ : Nat → Option TI) (T : Tm) (n : Nat) (b : C × List RV × Nat) (ds : List D) : Option D :=
  gd (ds.length == b.2.2) (bO (exec τ T 0 n [.c b.1] ⟨parT 0 ds, []⟩) fun s => outV τ b.2.1 s)
def bodyH (τ : Nat → Option TI) (T : Tm) (n : Nat) (b : C × List RV × Nat) (ds : List D) (h : List (Nat × Ob)) (k : Nat) : Option (D × List (Nat × Ob)) :=
  gd (ds.length == b.2.2) (bO (exec τ T k n [.c b.1] ⟨parT 0 ds, h⟩) fun s => outN τ b.2.1 k s)
def TmN (τ : Nat → Option TI) (X : Txt) (L : Tm → Tm) : Nat → Tm
  | 0 => ⟨fun _ _ => none, fun _ _ _ _ => none, fun _ _ _ => none⟩
  | n + 1 => ⟨fun f ds => match X f with | some b => bodyP τ (TmN τ X L n) n b ds | none => (L (TmN τ X L n)).p f ds,
      fun f ds h k => match X f with | some b => bodyH τ (TmN τ X L n) n b ds h k | none => (L (TmN τ X L n)).h f ds h k,
      fun f ds os => (L (TmN τ X L n)).a f ds os⟩
def Mono (L : Tm → Tm) : Prop := ∀ T T', TmLe T T' → TmLe (L T) (L T')

variable {X : Txt} {L : Tm → Tm}
theorem TmN_p (n f ds) : (TmN τ X L (n + 1)).p f ds = match X f with | some b => bodyP τ (TmN τ X L n) n b ds | none => (L (TmN τ X L n)).p f ds := rfl
theorem TmN_h (n f ds h k) : (TmN τ X L (n + 1)).h f ds h k = match X f with | some b => bodyH τ (TmN τ X L n) n b ds h k | none => (L (TmN τ X L n)).h f ds h k := rfl
theorem TmN_a (n f ds os) : (TmN τ X L (n + 1)).a f ds os = (L (TmN τ X L n)).a f ds os := rfl
theorem TmN_succ (hm : Mono L) : ∀ n, TmLe (TmN τ X L n) (TmN τ X L (n + 1))
  | 0 => ⟨fun _ _ _ e => (by cases e), fun _ _ _ _ _ e => (by cases e), fun _ _ _ _ e => (by cases e)⟩
  | n + 1 => by
    have ih := TmN_succ hm n
    refine ⟨fun f ds r e => ?_, fun f ds h k r e => ?_, fun f ds os r e => ?_⟩
    · rw [TmN_p] at e ⊢
      cases hx : X f with
      | none => rw [hx] at e; exact (hm _ _ ih).p _ _ _ e
      | some b =>
        rw [hx] at e
        simp only [bodyP] at e ⊢
        obtain ⟨e1, e⟩ := gd_eq e
        obtain ⟨s, e2, e⟩ := bO_eq e
        rw [e1, gd_true, exec_mono ih (Nat.le_succ n) e2]; exact e
    · rw [TmN_h] at e ⊢
      cases hx : X f with
      | none => rw [hx] at e; exact (hm _ _ ih).h _ _ _ _ _ e
      | some b =>
        rw [hx] at e
        simp only [bodyH] at e ⊢
        obtain ⟨e1, e⟩ := gd_eq e
        obtain ⟨s, e2, e⟩ := bO_eq e
        rw [e1, gd_true, exec_mono ih (Nat.le_succ n) e2]; exact e
    · rw [TmN_a] at e ⊢
      exact (hm _ _ ih).a _ _ _ _ e
theorem TmN_le (hm : Mono L) {n n' : Nat} (h : n ≤ n') : TmLe (TmN τ X L n) (TmN τ X L n') := by
  induction h with
  | refl => exact .refl _
  | step h ih => exact ih.trans (TmN_succ hm _)

open Classical in
/-- All rounds together. -/
noncomputable def TmI (τ : Nat → Option TI) (X : Txt) (L : Tm → Tm) : Tm :=
  ⟨fun f ds => if h : ∃ r n, (TmN τ X L n).p f ds = some r then some (Classical.choose h) else none,
   fun f ds h0 k => if h : ∃ r n, (TmN τ X L n).h f ds h0 k = some r then some (Classical.choose h) else none,
   fun f ds os => if h : ∃ r n, (TmN τ X L n).a f ds os = some r then some (Classical.choose h) else none⟩
theorem TmI_p (hm : Mono L) {f ds r} : (TmI τ X L).p f ds = some r ↔ ∃ n, (TmN τ X L n).p f ds = some r := by
  constructor
  · intro e
    simp only [TmI] at e
    split at e
    · rename_i h
      injection e with e
      have := Classical.choose_spec h
      rw [e] at this; exact this
    · cases e
  · rintro ⟨n, hn⟩
    have h : ∃ r n, (TmN τ X L n).p f ds = some r := ⟨r, n, hn⟩
    simp only [TmI, dif_pos h]
    obtain ⟨n', hn'⟩ := Classical.choose_spec h
    have a := (TmN_le hm (Nat.le_max_left n n')).p _ _ _ hn
    have b := (TmN_le hm (Nat.le_max_right n n')).p _ _ _ hn'
    rw [a] at b; exact b.symm
theorem TmI_h (hm : Mono L) {f ds h0 k r} : (TmI τ X L).h f ds h0 k = some r ↔ ∃ n, (TmN τ X L n).h f ds h0 k = some r := by
  constructor
  · intro e
    simp only [TmI] at e
    split at e
    · rename_i h
      injection e with e
      have := Classical.choose_spec h
      rw [e] at this; exact this
    · cases e
  · rintro ⟨n, hn⟩
    have h : ∃ r n, (TmN τ X L n).h f ds h0 k = some r := ⟨r, n, hn⟩
    simp only [TmI, dif_pos h]
    obtain ⟨n', hn'⟩ := Classical.choose_spec h
    have a := (TmN_le hm (Nat.le_max_left n n')).h _ _ _ _ _ hn
    have b := (TmN_le hm (Nat.le_max_right n n')).h _ _ _ _ _ hn'
    rw [a] at b; exact b.symm

theorem TmI_a (hm : Mono L) {f ds os r} : (TmI τ X L).a f ds os = some r ↔ ∃ n, (TmN τ X L n).a f ds os = some r := by
  constructor
  · intro e
    simp only [TmI] at e
    split at e
    · rename_i h
      injection e with e
      have := Classical.choose_spec h
      rw [e] at this; exact this
    · cases e
  · rintro ⟨n, hn⟩
    have h : ∃ r n, (TmN τ X L n).a f ds os = some r := ⟨r, n, hn⟩
    simp only [TmI, dif_pos h]
    obtain ⟨n', hn'⟩ := Classical.choose_spec h
    have a := (TmN_le hm (Nat.le_max_left n n')).a _ _ _ _ hn
    have b := (TmN_le hm (Nat.le_max_right n n')).a _ _ _ _ hn'
    rw [a] at b; exact b.symm

/-! ### what runs over all rounds runs over some -/
variable (hm : Mono L)
include hm
theorem vCallA_some {t h d ex f xs r} (e : vCallA (TmI τ X L) t h d ex f xs = some r) : ∃ n, vCallA (TmN τ X L n) t h d ex f xs = some r := by
  unfold vCallA at e
  obtain ⟨c, e1, e⟩ := bO_eq e
  obtain ⟨os, e2, e⟩ := bO_eq e
  obtain ⟨q, e3, e⟩ := bO_eq e
  obtain ⟨n, hn⟩ := (TmI_a hm).1 e3
  exact ⟨n, by unfold vCallA; rw [e1]; simp only [bO_some]; rw [e2]; simp only [bO_some]; rw [hn]; exact e⟩
theorem vCall_some {t h f xs r} (e : vCall (TmI τ X L) t h f xs = some r) : ∃ n, vCall (TmN τ X L n) t h f xs = some r := by
  unfold vCall at e
  obtain ⟨c, e1, e⟩ := bO_eq e
  obtain ⟨p, e2, e⟩ := bO_eq e
  obtain ⟨q, e3, e⟩ := bO_eq e
  obtain ⟨n, hn⟩ := (TmI_p hm).1 e3
  exact ⟨n, by unfold vCall; rw [e1]; simp only [bO_some]; rw [e2]; simp only [bO_some]; rw [hn]; exact e⟩
theorem vCallP_some {t f xs r} (e : vCallP (TmI τ X L) t f xs = some r) : ∃ n, vCallP (TmN τ X L n) t f xs = some r := by
  unfold vCallP at e
  obtain ⟨c, e1, e⟩ := bO_eq e
  obtain ⟨p, e2, e⟩ := bO_eq e
  obtain ⟨n, hn⟩ := (TmI_p hm).1 e
  exact ⟨n, by unfold vCallP; rw [e1]; simp only [bO_some]; rw [e2]; simp only [bO_some]; exact hn⟩
theorem vCallH_some {t h d f xs r} (e : vCallH (TmI τ X L) t h d f xs = some r) : ∃ n, vCallH (TmN τ X L n) t h d f xs = some r := by
  unfold vCallH at e
  obtain ⟨c, e1, e⟩ := bO_eq e
  rw [enterH_def] at e
  obtain ⟨e2, e⟩ := gd_eq e
  obtain ⟨q, e3, e⟩ := bO_eq e
  obtain ⟨n, hn⟩ := (TmI_h hm).1 e3
  refine ⟨n, ?_⟩
  unfold vCallH; rw [e1]; simp only [bO_some]
  rw [enterH_def, e2, gd_true, hn]; exact e
theorem vCallF_some {t h d ex fr f xs r} (e : vCallF (TmI τ X L) t h d ex fr f xs = some r) : ∃ n, vCallF (TmN τ X L n) t h d ex fr f xs = some r := by
  unfold vCallF at e
  obtain ⟨c, e1, e⟩ := bO_eq e
  obtain ⟨e0, e⟩ := gd_eq e
  rw [enterH_def] at e
  obtain ⟨e2, e⟩ := gd_eq e
  obtain ⟨q, e3, e⟩ := bO_eq e
  obtain ⟨n, hn⟩ := (TmI_h hm).1 e3
  refine ⟨n, ?_⟩
  unfold vCallF; rw [e1]; simp only [bO_some]; rw [e0, gd_true]
  rw [enterH_def, e2, gd_true, hn]; exact e
theorem stepV_some {t h d o r} (e : stepV τ (TmI τ X L) t h d o = some r) : ∃ n, stepV τ (TmN τ X L n) t h d o = some r := by
  cases o with
  | call f xs => exact vCall_some hm e
  | callH f xs => exact vCallH_some hm e
  | callA ex f xs => exact vCallA_some hm e
  | callF ex fr f xs => exact vCallF_some hm e
  | callP f xs =>
    simp only [stepV] at e ⊢
    obtain ⟨v, e1, e2⟩ := bO_eq e
    obtain ⟨n, hn⟩ := vCallP_some hm e1
    exact ⟨n, by rw [hn]; exact e2⟩
  | _ => exact ⟨0, e⟩
theorem stepO_some' {d o s r} (e : stepO τ (TmI τ X L) d o s = some r) : ∃ n, stepO τ (TmN τ X L n) d o s = some r := by
  cases d with
  | some d =>
    rw [stepO_some] at e
    obtain ⟨p, e1, e2⟩ := bO_eq e
    obtain ⟨n, hn⟩ := stepV_some hm e1
    exact ⟨n, by rw [stepO_some, hn]; exact e2⟩
  | none =>
    cases o <;> try cases e
    · exact ⟨0, e⟩
    · exact ⟨0, e⟩
    · exact ⟨0, e⟩
    · simp only [stepO] at e ⊢
      obtain ⟨p, e1, e2⟩ := bO_eq e
      obtain ⟨n, hn⟩ := vCallF_some hm e1
      exact ⟨n, by rw [hn]; exact e2⟩
    · exact ⟨0, e⟩
    · simp only [stepO] at e ⊢
      obtain ⟨p, e1, e2⟩ := bO_eq e
      obtain ⟨n, hn⟩ := vCall_some hm e1
      exact ⟨n, by rw [hn]; exact e2⟩
    · simp only [stepO] at e ⊢
      obtain ⟨p, e1, e2⟩ := bO_eq e
      obtain ⟨n, hn⟩ := vCallH_some hm e1
      exact ⟨n, by rw [hn]; exact e2⟩
    · exact ⟨0, e⟩
    · exact ⟨0, e⟩
theorem stepG_some {o s r} (e : stepG τ (TmI τ X L) o s = some r) : ∃ n, stepG τ (TmN τ X L n) o s = some r := by
  unfold stepG at e ⊢
  split at e
  · obtain ⟨n, hn⟩ := stepO_some' hm e; exact ⟨n, hn⟩
  · split at e
    · obtain ⟨n, hn⟩ := stepO_some' hm e; exact ⟨n, hn⟩
    · exact ⟨0, e⟩
    · cases e
theorem runO_some : ∀ {ops s r}, runO τ (TmI τ X L) ops s = some r → ∃ n, runO τ (TmN τ X L n) ops s = some r
  | [], _, _, e => ⟨0, e⟩
  | o :: ops, s, r, e => by
    simp only [runO] at e
    cases h1 : stepG τ (TmI τ X L) o s with
    | none => rw [h1] at e; cases e
    | some s1 =>
      rw [h1] at e
      obtain ⟨n1, a⟩ := stepG_some hm h1
      obtain ⟨n2, b⟩ := runO_some e
      refine ⟨max n1 n2, ?_⟩
      simp only [runO]
      rw [stepG_mono (TmN_le hm (Nat.le_max_left n1 n2)) a]
      exact runO_mono (TmN_le hm (Nat.le_max_right n1 n2)) b

theorem Go_exec {m : Nat} {Q : St → Prop} {K : List It} {s : St} (G : Go τ (TmI τ X L) m Q K s) : ∃ n s', exec τ (TmN τ X L n) m n K s = some s' ∧ Q s' := by
  have up : ∀ {K1 : List It} {s1 : St}, (∃ n s', exec τ (TmN τ X L n) m n K1 s1 = some s' ∧ Q s') → ∀ {K2 : List It} {s2 : St}, (∀ n T, exec τ T m (n + 1) K2 s2 = exec τ T m n K1 s1) → ∃ n s', exec τ (TmN τ X L n) m n K2 s2 = some s' ∧ Q s' := by
    rintro K1 s1 ⟨n, s', e, q⟩ K2 s2 h
    exact ⟨n + 1, s', by rw [h]; exact exec_mono (TmN_succ hm n) (Nat.le_refl n) e, q⟩
  induction G with
  | nil s q => exact ⟨1, s, rfl, q⟩
  | ret K s q => exact ⟨1, s, rfl, q⟩
  | skip K s _ ih => exact up ih (fun n T => rfl)
  | reg K s s' p ops hr _ ih =>
    obtain ⟨n1, a⟩ := runO_some hm hr
    obtain ⟨n, s2, e, q⟩ := ih
    refine ⟨max n1 n + 1, s2, ?_, q⟩
    simp only [exec]
    rw [runO_mono (TmN_le hm (Nat.le_trans (Nat.le_max_left n1 n) (Nat.le_succ _))) a]
    exact exec_mono (TmN_le hm (Nat.le_trans (Nat.le_max_right n1 n) (Nat.le_succ _))) (Nat.le_max_right n1 n) e
  | seq K s a b _ ih => exact up ih (fun n T => rfl)
  | cond K s c a b x hx _ ih =>
    cases x
    · exact up ih (fun n T => by simp only [exec, hx]; rfl)
    · exact up ih (fun n T => by simp only [exec, hx]; rfl)
  | block K s i c _ ih => exact up ih (fun n T => rfl)
  | bk K s i _ ih => exact up ih (fun n T => rfl)
  | loop K s l c _ ih => exact up ih (fun n T => rfl)
  | lp K s l c _ ih => exact up ih (fun n T => rfl)
  | exC K s i c _ ih => exact up ih (fun n T => rfl)
  | exB K s i _ ih => exact up ih (fun n T => by simp [exec])
  | exBn K s i j hne _ ih => exact up ih (fun n T => by simp only [exec]; rw [decide_eq_false hne])
  | exL K s i l c _ ih => exact up ih (fun n T => rfl)

/-- A function's text, walked, tells what it answers. -/
theorem TmI_intro {f : Nat} {c : C} {rs : List RV} {np : Nat} (hx : X f = some (c, rs, np)) {ds : List D} {r : D} (hl : ds.length = np) (G : Go τ (TmI τ X L) 0 (fun s => outV τ rs s = some r) [.c c] ⟨parT 0 ds, []⟩) : (TmI τ X L).p f ds = some r := by
  obtain ⟨n, s', e, q⟩ := Go_exec hm G
  refine (TmI_p hm).2 ⟨n + 1, ?_⟩
  rw [TmN_p, hx]
  simp only [bodyP]
  have : (ds.length == np) = true := by simpa using hl
  rw [this, gd_true, e]; exact q
theorem TmI_introH {f : Nat} {c : C} {rs : List RV} {np : Nat} (hx : X f = some (c, rs, np)) {ds : List D} {h0 : List (Nat × Ob)} {k : Nat} {r : D × List (Nat × Ob)} (hl : ds.length = np) (G : Go τ (TmI τ X L) k (fun s => outN τ rs k s = some r) [.c c] ⟨parT 0 ds, h0⟩) : (TmI τ X L).h f ds h0 k = some r := by
  obtain ⟨n, s', e, q⟩ := Go_exec hm G
  refine (TmI_h hm).2 ⟨n + 1, ?_⟩
  rw [TmN_h, hx]
  simp only [bodyH]
  have : (ds.length == np) = true := by simpa using hl
  rw [this, gd_true, e]; exact q
theorem TmI_lib {f : Nat} (hx : X f = none) (n : Nat) {ds : List D} {r : D} (e : (L (TmN τ X L n)).p f ds = some r) : (TmI τ X L).p f ds = some r := (TmI_p hm).2 ⟨n + 1, by rw [TmN_p, hx]; exact e⟩
theorem TmI_libH {f : Nat} (hx : X f = none) (n : Nat) {ds : List D} {h0 : List (Nat × Ob)} {k : Nat} {r : D × List (Nat × Ob)} (e : (L (TmN τ X L n)).h f ds h0 k = some r) : (TmI τ X L).h f ds h0 k = some r := (TmI_h hm).2 ⟨n + 1, by rw [TmN_h, hx]; exact e⟩
theorem TmI_libA {f : Nat} (n : Nat) {ds : List D} {os : List (Option Ob)} {r : D × Option Ob} (e : (L (TmN τ X L n)).a f ds os = some r) : (TmI τ X L).a f ds os = some r := (TmI_a hm).2 ⟨n + 1, by rw [TmN_a]; exact e⟩
/-- Reckoned by Lean itself. -/
theorem TmI_run (n : Nat) {f : Nat} {ds : List D} {r : D} (e : (TmN τ X L n).p f ds = some r) : (TmI τ X L).p f ds = some r := (TmI_p hm).2 ⟨n, e⟩
theorem TmI_runH (n : Nat) {f : Nat} {ds : List D} {h0 : List (Nat × Ob)} {k : Nat} {r : D × List (Nat × Ob)} (e : (TmN τ X L n).h f ds h0 k = some r) : (TmI τ X L).h f ds h0 k = some r := (TmI_h hm).2 ⟨n, e⟩

variable {P : Program} (hτ : ∀ t i, τ t = some i → TIok P t i) (hmix : P.follows .mixedOrders = true) (hX : ∀ f c rs np, X f = some (c, rs, np) → FnOk P τ f c rs np) (hL : ∀ T, TmOk P T → TmOk P (L T))
include hτ hmix hX hL
theorem TmN_ok : ∀ n, TmOk P (TmN τ X L n)
  | 0 => ⟨fun g ds r e => (by cases e), fun g ds h0 k r h1 e => (by cases e), fun g ds os r e => (by cases e)⟩
  | n + 1 => by
    have ih := TmN_ok n
    refine ⟨fun g => ?_, fun g => ?_, fun g => (hL _ ih).a g⟩
    · cases hx : X g with
      | none =>
        have : (TmN τ X L (n + 1)).p g = (L (TmN τ X L n)).p g := by funext ds; rw [TmN_p, hx]
        rw [this]; exact (hL _ ih).p g
      | some b =>
        obtain ⟨c, rs, np⟩ := b
        refine fn_pure hτ ih hmix (hX g c rs np hx) (fun ds r e => ?_)
        rw [TmN_p, hx] at e
        simp only [bodyP] at e
        obtain ⟨e1, e⟩ := gd_eq e
        obtain ⟨s, e2, e⟩ := bO_eq e
        exact ⟨by simpa using e1, exec_sound e2 e⟩
    · cases hx : X g with
      | none =>
        have : (TmN τ X L (n + 1)).h g = (L (TmN τ X L n)).h g := by funext ds h k; rw [TmN_h, hx]
        rw [this]; exact (hL _ ih).h g
      | some b =>
        obtain ⟨c, rs, np⟩ := b
        refine fn_heap hτ ih hmix (hX g c rs np hx) (fun ds h0 k r h1 e => ?_)
        rw [TmN_h, hx] at e
        simp only [bodyH] at e
        obtain ⟨e1, e⟩ := gd_eq e
        obtain ⟨s, e2, e⟩ := bO_eq e
        exact ⟨by simpa using e1, exec_sound e2 e⟩
theorem TmI_ok : TmOk P (TmI τ X L) :=
  ⟨fun g ds r e => by obtain ⟨n, hn⟩ := (TmI_p hm).1 e; exact (TmN_ok hm hτ hmix hX hL n).p g ds r hn, fun g ds h0 k r h1 e => by obtain ⟨n, hn⟩ := (TmI_h hm).1 e; exact (TmN_ok hm hτ hmix hX hL n).h g ds h0 k r h1 hn, fun g ds os r e => by obtain ⟨n, hn⟩ := (TmI_a hm).1 e; exact (TmN_ok hm hτ hmix hX hL n).a g ds os r hn⟩

end

/-! ### a program's texts -/
def txtOf : List (Nat × (C × List RV × Nat)) → Txt
  | [], _ => none
  | p :: l, f => bif p.1 == f then some p.2 else txtOf l f
def AllOk (P : Program) (τ : Nat → Option TI) : List (Nat × (C × List RV × Nat)) → Prop
  | [] => True
  | p :: l => FnOk P τ p.1 p.2.1 p.2.2.1 p.2.2.2 ∧ AllOk P τ l
theorem txtOf_ok {P : Program} {τ : Nat → Option TI} : ∀ {l : List (Nat × (C × List RV × Nat))}, AllOk P τ l → ∀ f c rs np, txtOf l f = some (c, rs, np) → FnOk P τ f c rs np
  | [], _, f, c, rs, np, e => by cases e
  | p :: l, h, f, c, rs, np, e => by
    simp only [txtOf] at e
    cases hb : p.1 == f with
    | true =>
      rw [hb] at e
      simp only [cond_true] at e
      injection e with e
      have : p.1 = f := by simpa using hb
      subst this
      have h1 := h.1
      rw [e] at h1
      exact h1
    | false =>
      rw [hb] at e
      exact txtOf_ok h.2 f c rs np e
end Go.Proofs.Ytemcdpkiphmndaa.Ab
