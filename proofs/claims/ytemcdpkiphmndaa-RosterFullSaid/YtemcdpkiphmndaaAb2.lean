/- Ab2: the runs of the abstract interpreter ('Go'), and the laws by which simp evaluates them. -/
import Derived.Test.YtemcdpkiphmndaaAb1
namespace Go.Proofs.Ytemcdpkiphmndaa.Ab

variable (τ : Nat → Option TI) (T : Tm) (m : Nat) (Q : St → Prop)

inductive Go : List It → St → Prop where
  | nil (s) : Q s → Go [] s
  | ret (K s) : Q s → Go (.c .ret :: K) s
  | skip (K s) : Go K s → Go (.c .skip :: K) s
  | reg (K s s' p ops) : runO τ T ops s = some s' → Go K s' → Go (.c (.reg p ops) :: K) s
  | seq (K s a b) : Go (.c a :: .c b :: K) s → Go (.c (.seq a b) :: K) s
  | cond (K s c a b) (x : Bool) : ev s.t c = .bool x → Go (.c (if x then a else b) :: K) s → Go (.c (.cond c a b) :: K) s
  | block (K s i c) : Go (.c c :: .bk i :: K) s → Go (.c (.block i c) :: K) s
  | bk (K s i) : Go K s → Go (.bk i :: K) s
  | loop (K s l c) : Go (.lp l c :: K) s → Go (.c (.loop l c) :: K) s
  | lp (K s l c) : Go (.c c :: .lp l c :: K) (gc m l s) → Go (.lp l c :: K) s
  | exC (K s i c) : Go (.c (.exit i) :: K) s → Go (.c (.exit i) :: .c c :: K) s
  | exB (K s i) : Go K s → Go (.c (.exit i) :: .bk i :: K) s
  | exBn (K s i j) : i ≠ j → Go (.c (.exit i) :: K) s → Go (.c (.exit i) :: .bk j :: K) s
  | exL (K s i l c) : Go (.c (.exit i) :: K) s → Go (.c (.exit i) :: .lp l c :: K) s

/-- A region, some of whose operations are still to come. -/
def GoO (l : List Co) (K : List It) (s : St) : Prop := ∃ s', runO τ T l s = some s' ∧ Go τ T m Q K s'

variable {τ T m Q}
variable {K : List It}
@[congr] theorem Go_congr {s s' : St} (h : ∀ _ : Unit, s = s') : Go τ T m Q K s = Go τ T m Q K s' := by rw [h ()]

def ob {α : Type} (x : Option α) (k : α → Prop) : Prop := match x with | some v => k v | none => False
theorem ob_some {α : Type} (v : α) (k : α → Prop) : ob (some v) k = k v := rfl
theorem ob_none {α : Type} (k : α → Prop) : ob none k = False := rfl
@[congr] theorem ob_congr {α : Type} {x y : Option α} (h : ∀ _ : Unit, x = y) (k : α → Prop) : ob x k = ob y k := by rw [h ()]
def obv (x : D) (k : D → Prop) : Prop := k x
theorem obv_def (v : D) (k : D → Prop) : obv v k = k v := rfl
@[congr] theorem obv_congr {x y : D} (h : ∀ _ : Unit, x = y) (k : D → Prop) : obv x k = obv y k := by rw [h ()]
def br (c : D) (x y : Prop) : Prop := match c with | .bool b => (match b with | true => x | false => y) | _ => False
@[congr] theorem br_congr {c d : D} (h : ∀ _ : Unit, c = d) (x y : Prop) : br c x y = br d x y := by rw [h ()]
theorem br_true (x y : Prop) : br (.bool true) x y = x := rfl
theorem br_false (x y : Prop) : br (.bool false) x y = y := rfl
theorem br_bool (b : Bool) (x y : Prop) : br (.bool b) x y = ((b = true → x) ∧ (b = false → y)) := by cases b <;> simp [br]
/-- The heap is tidied: simp goes into the state, not behind it. -/
def gk (s : St) (k : St → Prop) : Prop := k s
theorem gk_mk (t h) (k : St → Prop) : gk ⟨t, h⟩ k = k ⟨t, h⟩ := rfl
@[congr] theorem gk_congr {s s' : St} (h : ∀ _ : Unit, s = s') (k : St → Prop) : gk s k = gk s' k := by rw [h ()]

theorem Go_nil (s) : Go τ T m Q [] s = Q s := propext ⟨fun h => by cases h; assumption, .nil s⟩
theorem Go_ret (s) : Go τ T m Q (.c .ret :: K) s = Q s := propext ⟨fun h => by cases h; assumption, .ret K s⟩
theorem Go_skip (s) : Go τ T m Q (.c .skip :: K) s = Go τ T m Q K s := propext ⟨fun h => by cases h; assumption, .skip K s⟩
theorem Go_reg (s p o) : Go τ T m Q (.c (.reg p o) :: K) s = GoO τ T m Q o K s :=
  propext ⟨fun h => by cases h with | reg _ _ s' _ _ h1 h2 => exact ⟨s', h1, h2⟩, fun ⟨s', h1, h2⟩ => .reg K s s' p o h1 h2⟩
theorem Go_seq (s a b) : Go τ T m Q (.c (.seq a b) :: K) s = Go τ T m Q (.c a :: .c b :: K) s := propext ⟨fun h => by cases h; assumption, .seq K s a b⟩
theorem Go_cond (t h c a b) : Go τ T m Q (.c (.cond c a b) :: K) ⟨t, h⟩ = br (ev t c) (Go τ T m Q (.c a :: K) ⟨t, h⟩) (Go τ T m Q (.c b :: K) ⟨t, h⟩) := by
  refine propext ⟨fun h => ?_, fun h => ?_⟩
  · cases h with
    | cond _ _ _ _ _ x hx hg =>
      simp only at hx
      rw [hx]
      cases x <;> simpa [br] using hg
  · unfold br at h
    split at h
    · rename_i b hb
      cases b with
      | true => exact .cond K ⟨t, _⟩ c a _ true hb (by simpa using h)
      | false => exact .cond K ⟨t, _⟩ c a _ false hb (by simpa using h)
    · exact h.elim
theorem Go_block (s i c) : Go τ T m Q (.c (.block i c) :: K) s = Go τ T m Q (.c c :: .bk i :: K) s := propext ⟨fun h => by cases h; assumption, .block K s i c⟩
theorem Go_bk (s i) : Go τ T m Q (.bk i :: K) s = Go τ T m Q K s := propext ⟨fun h => by cases h; assumption, .bk K s i⟩
theorem Go_loop (s l c) : Go τ T m Q (.c (.loop l c) :: K) s = gk (gc m l s) fun s' => Go τ T m Q (.c c :: .lp l c :: K) s' :=
  propext ⟨fun h => by cases h with | loop _ _ _ _ h => cases h; assumption, fun h => .loop K s l c (.lp K s l c h)⟩
theorem Go_lp (s l c) : Go τ T m Q (.lp l c :: K) s = gk (gc m l s) fun s' => Go τ T m Q (.c c :: .lp l c :: K) s' := propext ⟨fun h => by cases h; assumption, .lp K s l c⟩
theorem Go_ex_c (s i c) : Go τ T m Q (.c (.exit i) :: .c c :: K) s = Go τ T m Q (.c (.exit i) :: K) s := propext ⟨fun h => by cases h; assumption, .exC K s i c⟩
theorem Go_ex_lp (s i l c) : Go τ T m Q (.c (.exit i) :: .lp l c :: K) s = Go τ T m Q (.c (.exit i) :: K) s := propext ⟨fun h => by cases h; assumption, .exL K s i l c⟩
theorem Go_ex_bk (s i) : Go τ T m Q (.c (.exit i) :: .bk i :: K) s = Go τ T m Q K s :=
  propext ⟨fun h => by cases h with | exB => assumption | exBn _ _ _ _ hne => exact absurd rfl hne, .exB K s i⟩
theorem Go_ex_bn (s i j) (hn : (i == j) = false) : Go τ T m Q (.c (.exit i) :: .bk j :: K) s = Go τ T m Q (.c (.exit i) :: K) s := by
  have hne : i ≠ j := by simpa using hn
  exact propext ⟨fun h => by cases h with | exB => exact absurd rfl hne | exBn => assumption, .exBn K s i j hne⟩

/-! ### operation by operation -/
theorem GoO_nil (s) : GoO τ T m Q [] K s = Go τ T m Q K s := propext ⟨fun ⟨_, h1, h2⟩ => by cases h1; exact h2, fun h => ⟨s, rfl, h⟩⟩
theorem GoO_cons (o l s) : GoO τ T m Q (o :: l) K s = ob (stepG τ T o s) fun s' => GoO τ T m Q l K s' := by
  unfold GoO
  simp only [runO]
  cases stepG τ T o s with
  | none => simp [ob]
  | some s' => rfl
variable {l : List Co}
theorem GoO_guard (t h d o g w) : GoO τ T m Q (⟨some d, o, some (g, w)⟩ :: l) K ⟨t, h⟩ = br (isB w (get t g)) (GoO τ T m Q (⟨some d, o, none⟩ :: l) K ⟨t, h⟩) (GoO τ T m Q l K ⟨(d, und) :: t, h⟩) := by
  rw [GoO_cons]
  simp only [stepG]
  cases hb : isB w (get t g) with
  | bool b =>
    cases b with
    | true => simp only [br]; rw [GoO_cons]; simp only [stepG]
    | false => rfl
  | _ => rfl
theorem GoO_guardN (t h o g w) : GoO τ T m Q (⟨none, o, some (g, w)⟩ :: l) K ⟨t, h⟩ = br (isB w (get t g)) (GoO τ T m Q (⟨none, o, none⟩ :: l) K ⟨t, h⟩) (GoO τ T m Q l K ⟨t, h⟩) := by
  rw [GoO_cons]
  simp only [stepG]
  cases hb : isB w (get t g) with
  | bool b =>
    cases b with
    | true => simp only [br]; rw [GoO_cons]; simp only [stepG]
    | false => rfl
  | _ => rfl
theorem GoO_store (t h ty a v) : GoO τ T m Q (⟨none, .store ty a v, none⟩ :: l) K ⟨t, h⟩ = ob (vStore τ h ty (ev t a) (ev t v)) fun h' => GoO τ T m Q l K ⟨t, h'⟩ := by
  rw [GoO_cons]; simp only [stepG, stepO]; cases vStore τ h ty (ev t a) (ev t v) <;> rfl
theorem GoO_callN (t h f xs) : GoO τ T m Q (⟨none, .call f xs, none⟩ :: l) K ⟨t, h⟩ = ob (vCall T t h f xs) fun p => GoO τ T m Q l K ⟨t, p.2⟩ := by
  rw [GoO_cons]; simp only [stepG, stepO]; cases vCall T t h f xs <;> rfl
/-- A value and a heap behind an operation. -/
def o2 (x : Option VH) (k : D → List (Nat × Ob) → Prop) : Prop := match x with | some p => k p.1 p.2 | none => False
theorem o2_some (v h) (k : D → List (Nat × Ob) → Prop) : o2 (some (v, h)) k = k v h := rfl
@[congr] theorem o2_congr {x y : Option VH} (h : ∀ _ : Unit, x = y) (k) : o2 x k = o2 y k := by rw [h ()]
theorem GoO_V (t h d o) : GoO τ T m Q (⟨some d, o, none⟩ :: l) K ⟨t, h⟩ = o2 (stepV τ T t h d o) fun v h' => GoO τ T m Q l K ⟨(d, v) :: t, h'⟩ := by
  rw [GoO_cons]
  have : stepG τ T ⟨some d, o, none⟩ ⟨t, h⟩ = bO (stepV τ T t h d o) fun p => some ⟨(d, p.1) :: t, p.2⟩ := by
    simp only [stepG, stepO]
  rw [this]; cases stepV τ T t h d o <;> rfl
theorem GoO_v1 (t h d o) (x : Option D) (hv : stepV τ T t h d o = onlyV h x) : GoO τ T m Q (⟨some d, o, none⟩ :: l) K ⟨t, h⟩ = ob x fun v => GoO τ T m Q l K ⟨(d, v) :: t, h⟩ := by
  rw [GoO_V _ _ _ _, hv]; cases x <;> rfl
theorem GoO_move (t h d x) : GoO τ T m Q (⟨some d, .move x, none⟩ :: l) K ⟨t, h⟩ = obv (ev t x) fun v => GoO τ T m Q l K ⟨(d, v) :: t, h⟩ := by
  rw [GoO_V _ _ _ _]; rfl
theorem GoO_pick (t h d c a b) : GoO τ T m Q (⟨some d, .pick c a b, none⟩ :: l) K ⟨t, h⟩ = br (ev t c) (obv (ev t a) fun v => GoO τ T m Q l K ⟨(d, v) :: t, h⟩) (obv (ev t b) fun v => GoO τ T m Q l K ⟨(d, v) :: t, h⟩) := by
  rw [GoO_V _ _ _ _]
  simp only [stepV]
  cases ev t c with
  | bool x => cases x <;> rfl
  | _ => rfl
theorem GoO_alloc (t h d e) : GoO τ T m Q (⟨some d, .alloc e, none⟩ :: l) K ⟨t, h⟩ = o2 (vAlloc τ h d e) fun v h' => GoO τ T m Q l K ⟨(d, v) :: t, h'⟩ := GoO_V _ _ _ _
theorem GoO_box (t h d e x) : GoO τ T m Q (⟨some d, .box e x, none⟩ :: l) K ⟨t, h⟩ = o2 (vBox τ h d e (ev t x)) fun v h' => GoO τ T m Q l K ⟨(d, v) :: t, h'⟩ := GoO_V _ _ _ _
theorem GoO_build (t h d ty ps) : GoO τ T m Q (⟨some d, .build ty ps, none⟩ :: l) K ⟨t, h⟩ = ob (vBuild τ t ty ps) fun v => GoO τ T m Q l K ⟨(d, v) :: t, h⟩ := GoO_v1 _ _ _ _ _ rfl
theorem GoO_buildSlice (t h d ty n ps) : GoO τ T m Q (⟨some d, .buildSlice ty n ps, none⟩ :: l) K ⟨t, h⟩ = o2 (vBuildSlice τ t h d ty n ps) fun v h' => GoO τ T m Q l K ⟨(d, v) :: t, h'⟩ := GoO_V _ _ _ _
theorem GoO_load (t h d ty a) : GoO τ T m Q (⟨some d, .load ty a, none⟩ :: l) K ⟨t, h⟩ = ob (vLoad τ h ty (ev t a)) fun v => GoO τ T m Q l K ⟨(d, v) :: t, h⟩ := GoO_v1 _ _ _ _ _ rfl
theorem GoO_nilCheck (t h d x) : GoO τ T m Q (⟨some d, .nilCheck x, none⟩ :: l) K ⟨t, h⟩ = ob (vNil (ev t x)) fun v => GoO τ T m Q l K ⟨(d, v) :: t, h⟩ := GoO_v1 _ _ _ _ _ rfl
theorem GoO_binOp (t h d op ty x y) : GoO τ T m Q (⟨some d, .binOp op ty x y, none⟩ :: l) K ⟨t, h⟩ = ob (vBin τ op ty (ev t x) (ev t y)) fun v => GoO τ T m Q l K ⟨(d, v) :: t, h⟩ := GoO_v1 _ _ _ _ _ rfl
theorem GoO_unOp (t h d op ty x) : GoO τ T m Q (⟨some d, .unOp op ty x, none⟩ :: l) K ⟨t, h⟩ = ob (vUn op (ev t x)) fun v => GoO τ T m Q l K ⟨(d, v) :: t, h⟩ := GoO_v1 _ _ _ _ _ rfl
theorem GoO_convert (t h d a b x) : GoO τ T m Q (⟨some d, .convert a b x, none⟩ :: l) K ⟨t, h⟩ = ob (vConv τ b (ev t x)) fun v => GoO τ T m Q l K ⟨(d, v) :: t, h⟩ := GoO_v1 _ _ _ _ _ rfl
theorem GoO_makeSlice (t h d ty x y) : GoO τ T m Q (⟨some d, .makeSlice ty x y, none⟩ :: l) K ⟨t, h⟩ = o2 (vMake τ h d ty (ev t x) (ev t y)) fun v h' => GoO τ T m Q l K ⟨(d, v) :: t, h'⟩ := GoO_V _ _ _ _
theorem GoO_sliceNN (t h d ty x) : GoO τ T m Q (⟨some d, .slice ty x none none, none⟩ :: l) K ⟨t, h⟩ = ob (bO (lenD (ev t x)) fun n => vSl τ h ty (ev t x) 0 n) fun v => GoO τ T m Q l K ⟨(d, v) :: t, h⟩ := GoO_v1 _ _ _ _ _ rfl
theorem GoO_sliceSN (t h d ty x a) : GoO τ T m Q (⟨some d, .slice ty x (some a) none, none⟩ :: l) K ⟨t, h⟩ = ob (bO (lenD (ev t x)) fun n => bO (natD (ev t a)) fun i => vSl τ h ty (ev t x) i n) fun v => GoO τ T m Q l K ⟨(d, v) :: t, h⟩ := GoO_v1 _ _ _ _ _ rfl
theorem GoO_sliceNS (t h d ty x b) : GoO τ T m Q (⟨some d, .slice ty x none (some b), none⟩ :: l) K ⟨t, h⟩ = ob (bO (lenD (ev t x)) fun _ => bO (natD (ev t b)) fun j => vSl τ h ty (ev t x) 0 j) fun v => GoO τ T m Q l K ⟨(d, v) :: t, h⟩ := GoO_v1 _ _ _ _ _ rfl
theorem GoO_sliceSS (t h d ty x a b) : GoO τ T m Q (⟨some d, .slice ty x (some a) (some b), none⟩ :: l) K ⟨t, h⟩ = ob (bO (lenD (ev t x)) fun _ => bO (natD (ev t a)) fun i => bO (natD (ev t b)) fun j => vSl τ h ty (ev t x) i j) fun v => GoO τ T m Q l K ⟨(d, v) :: t, h⟩ := GoO_v1 _ _ _ _ _ rfl
theorem GoO_fieldAddr (t h d ty x f) : GoO τ T m Q (⟨some d, .fieldAddr ty x f, none⟩ :: l) K ⟨t, h⟩ = ob (vFieldAddr τ ty f (ev t x)) fun v => GoO τ T m Q l K ⟨(d, v) :: t, h⟩ := GoO_v1 _ _ _ _ _ rfl
theorem GoO_field (t h d ty x f) : GoO τ T m Q (⟨some d, .field ty x f, none⟩ :: l) K ⟨t, h⟩ = ob (vField τ ty f (ev t x)) fun v => GoO τ T m Q l K ⟨(d, v) :: t, h⟩ := GoO_v1 _ _ _ _ _ rfl
theorem GoO_indexAddr (t h d ty x i) : GoO τ T m Q (⟨some d, .indexAddr ty x i, none⟩ :: l) K ⟨t, h⟩ = ob (vIndexAddr τ h ty (ev t x) (ev t i)) fun v => GoO τ T m Q l K ⟨(d, v) :: t, h⟩ := GoO_v1 _ _ _ _ _ rfl
theorem GoO_extract (t h d x i) : GoO τ T m Q (⟨some d, .extract x i, none⟩ :: l) K ⟨t, h⟩ = ob (vExtract i (ev t x)) fun v => GoO τ T m Q l K ⟨(d, v) :: t, h⟩ := GoO_v1 _ _ _ _ _ rfl
theorem GoO_len (t h d ty x) : GoO τ T m Q (⟨some d, .len ty x, none⟩ :: l) K ⟨t, h⟩ = ob (vLen (ev t x)) fun v => GoO τ T m Q l K ⟨(d, v) :: t, h⟩ := GoO_v1 _ _ _ _ _ rfl
theorem GoO_max (t h d x y) : GoO τ T m Q (⟨some d, .max x y, none⟩ :: l) K ⟨t, h⟩ = ob (vMax (ev t x) (ev t y)) fun v => GoO τ T m Q l K ⟨(d, v) :: t, h⟩ := GoO_v1 _ _ _ _ _ rfl
theorem GoO_min (t h d x y) : GoO τ T m Q (⟨some d, .min x y, none⟩ :: l) K ⟨t, h⟩ = ob (vMin (ev t x) (ev t y)) fun v => GoO τ T m Q l K ⟨(d, v) :: t, h⟩ := GoO_v1 _ _ _ _ _ rfl
theorem GoO_append (t h d ty x y) : GoO τ T m Q (⟨some d, .append ty x y, none⟩ :: l) K ⟨t, h⟩ = o2 (vAppend τ h d ty (ev t x) (ev t y)) fun v h' => GoO τ T m Q l K ⟨(d, v) :: t, h'⟩ := GoO_V _ _ _ _
theorem GoO_call (t h d f xs) : GoO τ T m Q (⟨some d, .call f xs, none⟩ :: l) K ⟨t, h⟩ = o2 (vCall T t h f xs) fun v h' => GoO τ T m Q l K ⟨(d, v) :: t, h'⟩ := GoO_V _ _ _ _
theorem GoO_callH (t h d f xs) : GoO τ T m Q (⟨some d, .callH f xs, none⟩ :: l) K ⟨t, h⟩ = o2 (vCallH T t h d f xs) fun v h' => GoO τ T m Q l K ⟨(d, v) :: t, h'⟩ := GoO_V _ _ _ _
theorem GoO_callHN (t h f xs) : GoO τ T m Q (⟨none, .callH f xs, none⟩ :: l) K ⟨t, h⟩ = ob (vCallH T t h 0 f xs) fun p => GoO τ T m Q l K ⟨t, p.2⟩ := by
  rw [GoO_cons]; simp only [stepG, stepO]; cases vCallH T t h 0 f xs <;> rfl
theorem GoO_makeMap (t h d ty) : GoO τ T m Q (⟨some d, .makeMap ty, none⟩ :: l) K ⟨t, h⟩ = o2 (vMakeMap h d ty) fun v h' => GoO τ T m Q l K ⟨(d, v) :: t, h'⟩ := GoO_V _ _ _ _
theorem GoO_lookup (t h d ty x i c) : GoO τ T m Q (⟨some d, .lookup ty x i c, none⟩ :: l) K ⟨t, h⟩ = ob (vLookup τ h ty (ev t x) (ev t i) c) fun v => GoO τ T m Q l K ⟨(d, v) :: t, h⟩ := GoO_v1 _ _ _ _ _ rfl
theorem GoO_mlen (t h d ty x) : GoO τ T m Q (⟨some d, .mlen ty x, none⟩ :: l) K ⟨t, h⟩ = ob (vMlen τ h ty (ev t x)) fun v => GoO τ T m Q l K ⟨(d, v) :: t, h⟩ := GoO_v1 _ _ _ _ _ rfl
theorem GoO_mapUpd (t h ty x k v) : GoO τ T m Q (⟨none, .mapUpd ty x k v, none⟩ :: l) K ⟨t, h⟩ = ob (vMapUpd τ h ty (ev t x) (ev t k) (ev t v)) fun h' => GoO τ T m Q l K ⟨t, h'⟩ := by
  rw [GoO_cons]; simp only [stepG, stepO]; cases vMapUpd τ h ty (ev t x) (ev t k) (ev t v) <;> rfl
theorem GoO_deleteN (t h ty x k) : GoO τ T m Q (⟨none, .delete ty x k, none⟩ :: l) K ⟨t, h⟩ = ob (vDelete τ h ty (ev t x) (ev t k)) fun h' => GoO τ T m Q l K ⟨t, h'⟩ := by
  rw [GoO_cons]; simp only [stepG, stepO]; cases vDelete τ h ty (ev t x) (ev t k) <;> rfl
theorem GoO_delete (t h d ty x k) : GoO τ T m Q (⟨some d, .delete ty x k, none⟩ :: l) K ⟨t, h⟩ = ob (vDelete τ h ty (ev t x) (ev t k)) fun h' => GoO τ T m Q l K ⟨(d, und) :: t, h'⟩ := by
  rw [GoO_V _ _ _ _]; simp only [stepV]; cases vDelete τ h ty (ev t x) (ev t k) <;> rfl
theorem GoO_callP (t h d f xs) : GoO τ T m Q (⟨some d, .callP f xs, none⟩ :: l) K ⟨t, h⟩ = ob (vCallP T t f xs) fun v => GoO τ T m Q l K ⟨(d, v) :: t, h⟩ := GoO_v1 _ _ _ _ _ rfl

theorem GoO_slice3N (t h d ty x b c) : GoO τ T m Q (⟨some d, .slice3 ty x none b c, none⟩ :: l) K ⟨t, h⟩ = ob (bO (natD (ev t b)) fun j => bO (natD (ev t c)) fun k => vSl3 τ h ty (ev t x) 0 j k) fun v => GoO τ T m Q l K ⟨(d, v) :: t, h⟩ := GoO_v1 _ _ _ _ _ rfl
theorem GoO_slice3S (t h d ty x a b c) : GoO τ T m Q (⟨some d, .slice3 ty x (some a) b c, none⟩ :: l) K ⟨t, h⟩ = ob (bO (natD (ev t a)) fun i => bO (natD (ev t b)) fun j => bO (natD (ev t c)) fun k => vSl3 τ h ty (ev t x) i j k) fun v => GoO τ T m Q l K ⟨(d, v) :: t, h⟩ := GoO_v1 _ _ _ _ _ rfl
theorem GoO_mkClo (t h d f xs) : GoO τ T m Q (⟨some d, .mkClo f xs, none⟩ :: l) K ⟨t, h⟩ = obv (.clo f (evs t xs)) fun v => GoO τ T m Q l K ⟨(d, v) :: t, h⟩ := by
  rw [GoO_V _ _ _ _]; rfl
theorem GoO_copy (t h d ty x y) : GoO τ T m Q (⟨some d, .copy ty x y, none⟩ :: l) K ⟨t, h⟩ = o2 (vCopy τ h ty (ev t x) (ev t y)) fun v h' => GoO τ T m Q l K ⟨(d, v) :: t, h'⟩ := GoO_V _ _ _ _
theorem GoO_copyN (t h ty x y) : GoO τ T m Q (⟨none, .copy ty x y, none⟩ :: l) K ⟨t, h⟩ = ob (vCopy τ h ty (ev t x) (ev t y)) fun p => GoO τ T m Q l K ⟨t, p.2⟩ := by
  rw [GoO_cons]; simp only [stepG, stepO]; cases vCopy τ h ty (ev t x) (ev t y) <;> rfl
theorem GoO_clearN (t h ty x) : GoO τ T m Q (⟨none, .clear ty x, none⟩ :: l) K ⟨t, h⟩ = ob (vClear τ h ty (ev t x)) fun h' => GoO τ T m Q l K ⟨t, h'⟩ := by
  rw [GoO_cons]; simp only [stepG, stepO]; cases vClear τ h ty (ev t x) <;> rfl
theorem GoO_clear (t h d ty x) : GoO τ T m Q (⟨some d, .clear ty x, none⟩ :: l) K ⟨t, h⟩ = ob (vClear τ h ty (ev t x)) fun h' => GoO τ T m Q l K ⟨(d, und) :: t, h'⟩ := by
  rw [GoO_V _ _ _ _]; simp only [stepV]; cases vClear τ h ty (ev t x) <;> rfl
theorem GoO_callF (t h d ex fr f xs) : GoO τ T m Q (⟨some d, .callF ex fr f xs, none⟩ :: l) K ⟨t, h⟩ = o2 (vCallF T t h d ex fr f xs) fun v h' => GoO τ T m Q l K ⟨(d, v) :: t, h'⟩ := GoO_V _ _ _ _
theorem GoO_callFN (t h ex fr f xs) : GoO τ T m Q (⟨none, .callF ex fr f xs, none⟩ :: l) K ⟨t, h⟩ = ob (vCallF T t h 0 ex fr f xs) fun p => GoO τ T m Q l K ⟨t, p.2⟩ := by
  rw [GoO_cons]; simp only [stepG, stepO]; cases vCallF T t h 0 ex fr f xs <;> rfl
theorem GoO_storeF (t h ty a v fr) : GoO τ T m Q (⟨none, .storeF ty a v fr, none⟩ :: l) K ⟨t, h⟩ = ob (vStoreF τ h ty (ev t a) (ev t v) (evs t fr)) fun h' => GoO τ T m Q l K ⟨t, h'⟩ := by
  rw [GoO_cons]; simp only [stepG, stepO]; cases vStoreF τ h ty (ev t a) (ev t v) (evs t fr) <;> rfl
theorem GoO_loadF (t h d ty a r) : GoO τ T m Q (⟨some d, .loadF ty a r, none⟩ :: l) K ⟨t, h⟩ = ob (vLoadF τ h ty (ev t a) (ev t r)) fun v => GoO τ T m Q l K ⟨(d, v) :: t, h⟩ := GoO_v1 _ _ _ _ _ rfl
theorem GoO_loadR (t h d ty a) : GoO τ T m Q (⟨some d, .loadR ty a, none⟩ :: l) K ⟨t, h⟩ = ob (vLoadR τ ty (ev t a)) fun v => GoO τ T m Q l K ⟨(d, v) :: t, h⟩ := GoO_v1 _ _ _ _ _ rfl
theorem GoO_indexR (t h d ty x i) : GoO τ T m Q (⟨some d, .indexR ty x i, none⟩ :: l) K ⟨t, h⟩ = ob (vIndexR τ ty (ev t x) (ev t i)) fun v => GoO τ T m Q l K ⟨(d, v) :: t, h⟩ := GoO_v1 _ _ _ _ _ rfl
theorem GoO_buildSliceP (t h d ty n ps) : GoO τ T m Q (⟨some d, .buildSliceP ty n ps, none⟩ :: l) K ⟨t, h⟩ = o2 (vBuildSliceP τ t h d ty n ps) fun v h' => GoO τ T m Q l K ⟨(d, v) :: t, h'⟩ := GoO_V _ _ _ _
theorem GoO_buildSliceB (t h d ty n ps) : GoO τ T m Q (⟨some d, .buildSliceB ty n ps, none⟩ :: l) K ⟨t, h⟩ = o2 (vBuildSliceB τ t h d ty n ps) fun v h' => GoO τ T m Q l K ⟨(d, v) :: t, h'⟩ := GoO_V _ _ _ _
theorem GoO_strIdx (t h d ty tbl i) : GoO τ T m Q (⟨some d, .strIdx ty tbl i, none⟩ :: l) K ⟨t, h⟩ = ob (vStrI tbl (ev t i)) fun v => GoO τ T m Q l K ⟨(d, v) :: t, h⟩ := GoO_v1 _ _ _ _ _ rfl
theorem GoO_callA (t h d ex f xs) : GoO τ T m Q (⟨some d, .callA ex f xs, none⟩ :: l) K ⟨t, h⟩ = o2 (vCallA T t h d ex f xs) fun v h' => GoO τ T m Q l K ⟨(d, v) :: t, h'⟩ := GoO_V _ _ _ _

/-! ### laws for tidying -/
theorem gc_def (m keep t h) : gc m keep ⟨t, h⟩ = gcL m (roots h m (keptT t keep)) keep ⟨t, h⟩ := rfl
theorem gcL_def (m ls keep t h) : gcL m ls keep ⟨t, h⟩ = ⟨gcT (rename m ls) t keep, gcH (rename m ls) h (pars m ++ ls)⟩ := rfl
theorem pars_0 : pars 0 = [] := rfl
theorem roots_0 (h ds) : roots h 0 ds = close h 0 1000 (locsL ds) [] := rfl
theorem close_nil (h m n acc) : close h m (n + 1) [] acc = acc := rfl
theorem close_skip (h m n x xs acc) (e : (Nat.blt x m || mem x acc) = true) : close h m (n + 1) (x :: xs) acc = close h m n xs acc := by rw [close, e]; rfl
theorem close_take (h m n x xs acc) (e : (Nat.blt x m || mem x acc) = false) : close h m (n + 1) (x :: xs) acc = close h m n (locsO (getO h x) ++ xs) (acc ++ [x]) := by rw [close, e]; rfl
theorem locsO_box (s t z es) : locsO (some ⟨s, .box, t, z, es⟩) = locsEs es := rfl
theorem locsO_map (s t z es) : locsO (some ⟨s, .map, t, z, es⟩) = locsEs es := rfl
theorem locsO_row (s t z es) : locsO (some ⟨s, .row, t, z, es⟩) = [] := rfl
theorem locsO_none : locsO none = [] := rfl
theorem renO_box (f s t z es) : renO f ⟨s, .box, t, z, es⟩ = ⟨s, .box, t, z, renEs f es⟩ := rfl
theorem renO_map (f s t z es) : renO f ⟨s, .map, t, z, es⟩ = ⟨s, .map, t, z, renEs f es⟩ := rfl
theorem renO_row (f s t z es) : renO f ⟨s, .row, t, z, es⟩ = ⟨s, .row, t, z, es⟩ := rfl
theorem idx_hit (x l i) : idx x (x :: l) i = some i := by simp [idx]
theorem idx_miss (x y l i) (e : (y == x) = false) : idx x (y :: l) i = idx x l (i + 1) := by rw [idx, e]; rfl
theorem idx_nil (x i) : idx x [] i = none := rfl
theorem rename_0 (ls x) : rename 0 ls x = idx x ls 0 := rfl
theorem ren_int (f k n) : ren f (.int k n) = .int k n := by simp only [ren]
theorem ren_bool (f b) : ren f (.bool b) = .bool b := by simp only [ren]
theorem ren_any (f) : ren f .any = .any := by simp only [ren]
theorem ren_nilp (f) : ren f .nilp = .nilp := by simp only [ren]
theorem ren_nils (f) : ren f .nils = .nils := by simp only [ren]
theorem ren_em (f) : ren f .em = .em := by simp only [ren]
theorem ren_nilf (f) : ren f .nilf = .nilf := by simp only [ren]
theorem ren_nilm (f) : ren f .nilm = .nilm := by simp only [ren]
theorem ren_ro (f s e) : ren f (.ro s e) = .ro s e := by simp only [ren]
theorem ren_rop (f c) : ren f (.rop c) = .rop c := by simp only [ren]
theorem ren_agg (f c) : ren f (.agg c) = .agg (renL f c) := by simp only [ren]
theorem ren_tup (f c) : ren f (.tup c) = .tup (renL f c) := by simp only [ren]
theorem ren_clo (f g c) : ren f (.clo g c) = .clo g (renL f c) := by simp only [ren]
def rePtr (x : Option Nat) (i j : Nat) : D := match x with | some k => .ptr k i j | none => .any
def reOwn (x : Option Nat) (i j : Nat) : D := match x with | some k => .own k i j | none => .any
def reMp (x : Option Nat) : D := match x with | some k => .mp k | none => .any
theorem rePtr_some (k i j) : rePtr (some k) i j = .ptr k i j := rfl
theorem reOwn_some (k i j) : reOwn (some k) i j = .own k i j := rfl
theorem reMp_some (k) : reMp (some k) = .mp k := rfl
theorem rePtr_none (i j) : rePtr none i j = .any := rfl
theorem reOwn_none (i j) : reOwn none i j = .any := rfl
theorem ren_ptr (f l i j) : ren f (.ptr l i j) = rePtr (f l) i j := by rw [ren]; rfl
theorem ren_own (f l i j) : ren f (.own l i j) = reOwn (f l) i j := by rw [ren]; rfl
theorem ren_mp (f l) : ren f (.mp l) = reMp (f l) := by rw [ren]; rfl
theorem renL_nil (f) : renL f [] = [] := by simp only [renL]
theorem renL_cons (f d ds) : renL f (d :: ds) = ren f d :: renL f ds := by simp only [renL]
theorem renEs_nil (f) : renEs f [] = [] := rfl
theorem renEs_cons (f e es) : renEs f (e :: es) = renL f e :: renEs f es := rfl
theorem locs_int (k n) : locs (.int k n) = [] := by simp only [locs]
theorem locs_bool (b) : locs (.bool b) = [] := by simp only [locs]
theorem locs_any : locs .any = [] := by simp only [locs]
theorem locs_nilp : locs .nilp = [] := by simp only [locs]
theorem locs_nils : locs .nils = [] := by simp only [locs]
theorem locs_em : locs .em = [] := by simp only [locs]
theorem locs_nilf : locs .nilf = [] := by simp only [locs]
theorem locs_nilm : locs .nilm = [] := by simp only [locs]
theorem locs_ro (s e) : locs (.ro s e) = [] := by simp only [locs]
theorem locs_rop (c) : locs (.rop c) = [] := by simp only [locs]
theorem locs_agg (c) : locs (.agg c) = locsL c := by simp only [locs]
theorem locs_tup (c) : locs (.tup c) = locsL c := by simp only [locs]
theorem locs_clo (f c) : locs (.clo f c) = locsL c := by simp only [locs]
theorem locs_ptr (l i j) : locs (.ptr l i j) = [l] := by simp only [locs]
theorem locs_own (l i j) : locs (.own l i j) = [l] := by simp only [locs]
theorem locs_mp (l) : locs (.mp l) = [l] := by simp only [locs]
theorem locsL_nil : locsL [] = [] := by simp only [locsL]
theorem locsL_cons (d ds) : locsL (d :: ds) = locs d ++ locsL ds := by simp only [locsL]
theorem locsEs_nil : locsEs [] = [] := rfl
theorem locsEs_cons (e es) : locsEs (e :: es) = locsL e ++ locsEs es := rfl
theorem keptT_nil (t) : keptT t [] = [] := rfl
theorem keptT_cons (t n ns) : keptT t (n :: ns) = get t n :: keptT t ns := rfl
theorem gcT_nil (f t) : gcT f t [] = [] := rfl
theorem gcT_cons (f t n ns) : gcT f t (n :: ns) = (n, ren f (get t n)) :: gcT f t ns := rfl
def gcO (f : Nat → Option Nat) (k : Option Nat) (o : Option Ob) (r : List (Nat × Ob)) : List (Nat × Ob) := match k, o with | some k, some o => (k, renO f o) :: r | _, _ => r
theorem gcO_some (f k o r) : gcO f (some k) (some o) r = (k, renO f o) :: r := rfl
theorem gcH_nil (f h) : gcH f h [] = [] := rfl
theorem gcH_cons (f h l ls) : gcH f h (l :: ls) = gcO f (f l) (getO h l) (gcH f h ls) := by
  rw [gcH]; unfold gcO; cases f l <;> cases getO h l <;> rfl
theorem mem_nil (x) : mem x [] = false := rfl
theorem mem_cons (x y l) : mem x (y :: l) = (y == x || mem x l) := rfl

end Go.Proofs.Ytemcdpkiphmndaa.Ab
