/- Ab13: regions whose operations run in any order that the program's text allows. -/
import Derived.Test.YtemcdpkiphmndaaAb12
import Derived.Orders
set_option linter.unusedSimpArgs false
set_option linter.unusedVariables false
set_option linter.unusedSectionVars false
namespace Go.Proofs.Ytemcdpkiphmndaa.Ab

inductive Cls where | hf | rd | rf | al | ra | cf | sf | mm
def cls : Cop → Cls
  | .move _ => .hf
  | .pick _ _ _ => .hf
  | .build _ _ => .hf
  | .nilCheck _ => .hf
  | .binOp _ _ _ _ => .hf
  | .unOp _ _ _ => .hf
  | .convert _ _ _ => .hf
  | .fieldAddr _ _ _ => .hf
  | .field _ _ _ => .hf
  | .extract _ _ => .hf
  | .len _ _ => .hf
  | .max _ _ => .hf
  | .min _ _ => .hf
  | .callP _ _ => .hf
  | .mkClo _ _ => .hf
  | .loadR _ _ => .hf
  | .strIdx _ _ _ => .hf
  | .indexR _ _ _ => .hf
  | .loadF _ _ _ => .rf
  | .callF _ _ _ _ => .cf
  | .storeF _ _ _ _ => .sf
  | .buildSliceP _ _ _ => .al
  | .buildSliceB _ _ _ => .al
  | .slice3 _ _ _ _ _ => .hf
  | .callA _ _ _ => .ra
  | .load _ _ => .rd
  | .lookup _ _ _ _ => .rd
  | .mlen _ _ => .rd
  | .indexAddr _ _ _ => .rd
  | .slice _ _ _ _ => .rd
  | .alloc _ => .al
  | .makeMap _ => .al
  | .box _ _ => .al
  | .makeSlice _ _ _ => .al
  | _ => .mm
def rdA : A → List Nat
  | .t n => [n]
  | _ => []
def rdO : Option A → List Nat
  | some a => rdA a
  | none => []
def rdL : List A → List Nat
  | [] => []
  | a :: l => rdA a ++ rdL l
def rdP : List (Nat × A) → List Nat
  | [] => []
  | a :: l => rdA a.2 ++ rdP l
def rds : Cop → List Nat
  | .move x => rdA x
  | .pick c a b => rdA c ++ (rdA a ++ rdA b)
  | .alloc _ => []
  | .box _ x => rdA x
  | .build _ ps => rdP ps
  | .buildSlice _ _ ps => rdP ps
  | .load _ a => rdA a
  | .store _ a v => rdA a ++ rdA v
  | .nilCheck x => rdA x
  | .binOp _ _ x y => rdA x ++ rdA y
  | .unOp _ _ x => rdA x
  | .convert _ _ x => rdA x
  | .makeSlice _ l c => rdA l ++ rdA c
  | .slice _ x lo hi => rdA x ++ (rdO lo ++ rdO hi)
  | .fieldAddr _ x _ => rdA x
  | .field _ x _ => rdA x
  | .indexAddr _ x i => rdA x ++ rdA i
  | .extract x _ => rdA x
  | .len _ x => rdA x
  | .append _ x y => rdA x ++ rdA y
  | .max x y => rdA x ++ rdA y
  | .min x y => rdA x ++ rdA y
  | .call f xs => rdA f ++ rdL xs
  | .callH f xs => rdA f ++ rdL xs
  | .callP f xs => rdA f ++ rdL xs
  | .makeMap _ => []
  | .lookup _ x i _ => rdA x ++ rdA i
  | .mapUpd _ m k v => rdA m ++ (rdA k ++ rdA v)
  | .delete _ m k => rdA m ++ rdA k
  | .mlen _ x => rdA x
  | .slice3 _ x lo hi mx => rdA x ++ (rdO lo ++ (rdA hi ++ rdA mx))
  | .clear _ x => rdA x
  | .copy _ x y => rdA x ++ rdA y
  | .mkClo _ xs => rdL xs
  | .loadR _ a => rdA a
  | .strIdx _ _ i => rdA i
  | .indexR _ x i => rdA x ++ rdA i
  | .loadF _ a r => rdA a ++ rdA r
  | .callF _ fr f xs => rdA f ++ (rdL xs ++ rdL fr)
  | .storeF _ a v fr => rdA a ++ (rdA v ++ rdL fr)
  | .buildSliceP _ _ ps => rdP ps
  | .buildSliceB _ _ ps => rdP ps
  | .callA _ f xs => rdA f ++ rdL xs
def rdC (c : Co) : List Nat := rds c.o ++ (match c.g with | some g => [g.1] | none => [])
def Agree (l : List Nat) (t t' : List (Nat × D)) : Prop := ∀ n ∈ l, get t' n = get t n
theorem Agree.left {l l' : List Nat} {t t'} (h : Agree (l ++ l') t t') : Agree l t t' := fun n hn => h n (List.mem_append_left _ hn)
theorem Agree.right {l l' : List Nat} {t t'} (h : Agree (l ++ l') t t') : Agree l' t t' := fun n hn => h n (List.mem_append_right _ hn)
theorem ev_agree {x : A} {t t'} (h : Agree (rdA x) t t') : ev t' x = ev t x := by
  cases x with
  | t n => exact h n (by simp [rdA])
  | c d => rfl
  | f g => rfl
theorem evs_agree : ∀ {xs : List A} {t t'}, Agree (rdL xs) t t' → evs t' xs = evs t xs
  | [], _, _, _ => rfl
  | x :: xs, t, t', h => by rw [evs_cons, evs_cons, ev_agree h.left, evs_agree h.right]
theorem fillS_agree {i : TI} : ∀ {ps : List (Nat × A)} {t t'} {cs : List D}, Agree (rdP ps) t t' → fillS t' i ps cs = fillS t i ps cs
  | [], _, _, _, _ => rfl
  | (f, x) :: ps, t, t', cs, h => by
    rw [fillS_cons, fillS_cons, ev_agree (show Agree (rdA x) t t' from h.left)]
    have : ∀ cs', fillS t' i ps cs' = fillS t i ps cs' := fun cs' => fillS_agree h.right
    simp only [this]
theorem fillB_agree {sz : Nat} : ∀ {ps : List (Nat × A)} {t t'} {n : Nat}, Agree (rdP ps) t t' → fillB t' sz n ps = fillB t sz n ps
  | [], _, _, _, _ => rfl
  | (f, x) :: ps, t, t', n, ha => by
    rw [fillB_cons, fillB_cons, ev_agree (show Agree (rdA x) t t' from ha.left)]
    have : ∀ n', fillB t' sz n' ps = fillB t sz n' ps := fun n' => fillB_agree ha.right
    simp only [this]
theorem fillE_agree {sz : Nat} : ∀ {ps : List (Nat × A)} {t t'} {h : List (Nat × Ob)} {n : Nat}, Agree (rdP ps) t t' → fillE t' h sz n ps = fillE t h sz n ps
  | [], _, _, _, _, _ => rfl
  | (f, x) :: ps, t, t', h, n, ha => by
    rw [fillE_cons, fillE_cons, ev_agree (show Agree (rdA x) t t' from ha.left)]
    have : ∀ h' n', fillE t' h' sz n' ps = fillE t h' sz n' ps := fun h' n' => fillE_agree ha.right
    simp only [this]

section
variable {τ : Nat → Option TI} {T : Tm}

theorem rdO_agree {x : Option A} {t t' : List (Nat × D)} (h : Agree (rdO x) t t') (d : Nat) : (match x with | none => some d | some a => natD (ev t' a)) = (match x with | none => some d | some a => natD (ev t a)) := by
  cases x with
  | none => rfl
  | some a => simp only [ev_agree (show Agree (rdA a) t t' from h)]

/-- What an operation does hangs on the slots that it reads. -/
theorem stepV_agree {c : Cop} {t t' : List (Nat × D)} (h : List (Nat × Ob)) (d : Nat) (ha : Agree (rds c) t t') : stepV τ T t' h d c = stepV τ T t h d c := by
  cases c <;> simp only [rds] at ha <;> simp only [stepV]
  case move x => rw [ev_agree ha]
  case pick x y z => rw [ev_agree ha.left, ev_agree ha.right.left, ev_agree ha.right.right]
  case box e x => rw [ev_agree ha]
  case build ty ps => rw [vBuild_def, vBuild_def]; simp only [fillS_agree ha]
  case buildSlice ty n ps => rw [vBuildSlice_def, vBuildSlice_def]; simp only [fillE_agree ha]
  case load ty x => rw [ev_agree ha]
  case nilCheck x => rw [ev_agree ha]
  case binOp op ty x y => rw [ev_agree ha.left, ev_agree ha.right]
  case unOp op ty x => rw [ev_agree ha]
  case convert s d x => rw [ev_agree ha]
  case makeSlice ty x y => rw [ev_agree ha.left, ev_agree ha.right]
  case slice ty x lo hi =>
    rw [ev_agree ha.left]
    have h1 := ha.right.left
    have h2 := ha.right.right
    cases lo with
    | none =>
      cases hi with
      | none => rfl
      | some b => simp only [ev_agree (show Agree (rdA b) t t' from h2)]
    | some a =>
      cases hi with
      | none => simp only [ev_agree (show Agree (rdA a) t t' from h1)]
      | some b => simp only [ev_agree (show Agree (rdA a) t t' from h1), ev_agree (show Agree (rdA b) t t' from h2)]
  case slice3 ty x lo hi mx =>
    rw [ev_agree ha.left, ev_agree ha.right.right.left, ev_agree ha.right.right.right]
    cases lo with
    | none => rfl
    | some a => simp only [ev_agree (show Agree (rdA a) t t' from ha.right.left)]
  case clear ty x => rw [ev_agree ha]
  case copy ty x y => rw [ev_agree ha.left, ev_agree ha.right]
  case mkClo f xs => rw [evs_agree ha]
  case loadR ty x => rw [ev_agree ha]
  case strIdx ty tbl x => rw [ev_agree ha]
  case indexR ty x i => rw [ev_agree ha.left, ev_agree ha.right]
  case loadF ty x r => rw [ev_agree ha.left, ev_agree ha.right]
  case callF ex fr f xs => unfold vCallF; rw [ev_agree ha.left, evs_agree ha.right.left, evs_agree ha.right.right]
  case buildSliceP ty n ps => rw [vBuildSliceP_def, vBuildSliceP_def]; simp only [fillE_agree ha]
  case buildSliceB ty n ps => rw [vBuildSliceB_def, vBuildSliceB_def]; simp only [fillB_agree ha]
  case callA ex f xs => unfold vCallA; rw [ev_agree ha.left, evs_agree ha.right]
  case fieldAddr ty x f => rw [ev_agree ha]
  case field ty x f => rw [ev_agree ha]
  case indexAddr ty x i => rw [ev_agree ha.left, ev_agree ha.right]
  case extract x i => rw [ev_agree ha]
  case len ty x => rw [ev_agree ha]
  case append ty x y => rw [ev_agree ha.left, ev_agree ha.right]
  case max x y => rw [ev_agree ha.left, ev_agree ha.right]
  case min x y => rw [ev_agree ha.left, ev_agree ha.right]
  case call f xs => unfold vCall; rw [ev_agree ha.left, evs_agree ha.right]
  case lookup ty x i c => rw [ev_agree ha.left, ev_agree ha.right]
  case delete ty x i => rw [ev_agree ha.left, ev_agree ha.right]
  case mlen ty x => rw [ev_agree ha]
  case callH f xs => unfold vCallH; rw [ev_agree ha.left, evs_agree ha.right]
  case callP f xs => unfold vCallP; rw [ev_agree ha.left, evs_agree ha.right]

def Sub (h h' : List (Nat × Ob)) : Prop := ∀ l o, getO h l = some o → getO h' l = some o
theorem objR_sub {h h' l o} (s : Sub h h') (e : objR h l = some o) : objR h' l = some o := by
  obtain ⟨o', e1, e2⟩ := bO_eq e
  rw [objR_def, s _ _ e1]; exact e2

theorem vSl3_any (h h' : List (Nat × Ob)) (ty : Nat) (x : D) (lo hi mx : Nat) : vSl3 τ h' ty x lo hi mx = vSl3 τ h ty x lo hi mx := by cases x <;> rfl
theorem stepV_hf {c : Cop} {t : List (Nat × D)} {h : List (Nat × Ob)} {d : Nat} {v h1} (hc : cls c = .hf) (e : stepV τ T t h d c = some (v, h1)) : h1 = h ∧ ∀ h' d', stepV τ T t h' d' c = some (v, h') := by
  have only : ∀ x : Option D, onlyV h x = some (v, h1) → h1 = h ∧ ∀ h', onlyV h' x = some (v, h') := by
    intro x e
    obtain ⟨e1, e2⟩ := onlyV_eq e
    exact ⟨e2, fun h' => by rw [e1]; rfl⟩
  cases c <;> simp only [cls] at hc <;> try cases hc
  all_goals simp only [stepV] at e ⊢
  case move x => injection e with e; injection e with e1 e2; subst e1; exact ⟨e2.symm, fun _ _ => rfl⟩
  case pick x y z =>
    cases hb : ev t x with
    | bool b =>
      rw [hb] at e
      cases b <;> (injection e with e; injection e with e1 e2; subst e1; exact ⟨e2.symm, fun _ _ => rfl⟩)
    | _ => rw [hb] at e; cases e
  case mkClo f xs => injection e with e; injection e with e1 e2; subst e1; exact ⟨e2.symm, fun _ _ => rfl⟩
  case slice3 ty x lo hi mx =>
    refine ⟨(only _ e).1, fun h' _ => ?_⟩
    have := (only _ e).2 h'
    simp only [vSl3_any h h'] at this ⊢
    exact this
  all_goals exact ⟨(only _ e).1, fun h' _ => (only _ e).2 h'⟩

theorem stepV_rd {c : Cop} {t : List (Nat × D)} {h : List (Nat × Ob)} {d : Nat} {v h1} (hc : cls c = .rd) (e : stepV τ T t h d c = some (v, h1)) : h1 = h ∧ ∀ h' d', Sub h h' → stepV τ T t h' d' c = some (v, h') := by
  cases c <;> simp only [cls] at hc <;> try cases hc
  all_goals simp only [stepV] at e ⊢
  all_goals obtain ⟨e1, e2⟩ := onlyV_eq e
  all_goals refine ⟨e2, fun h' d' hs => ?_⟩
  case load ty x =>
    have : vLoad τ h' ty (ev t x) = some v := by
      cases hx : ev t x with
      | ptr l i j =>
        rw [hx, vLoad_ptr] at e1
        obtain ⟨o, q1, q2⟩ := bO_eq e1
        rw [vLoad_ptr, objR_sub hs q1]; exact q2
      | rop cs => rw [hx] at e1; exact e1
      | _ => rw [hx] at e1; cases e1
    rw [this]; rfl
  case lookup ty x i c =>
    have : vLookup τ h' ty (ev t x) (ev t i) c = some v := by
      cases hi : ev t i with
      | int k n =>
        rw [hi] at e1
        cases hx : ev t x with
        | mp l =>
          rw [hx, vLookup_mp] at e1
          obtain ⟨p, q1, e1⟩ := bO_eq e1
          obtain ⟨ie, q2, e1⟩ := bO_eq e1
          obtain ⟨o, q3, e1⟩ := bO_eq e1
          rw [vLookup_mp, q1]; simp only [bO_some]; rw [q2]; simp only [bO_some]; rw [objR_sub hs q3]; exact e1
        | nilm => rw [hx] at e1; exact e1
        | _ => rw [hx] at e1; cases e1
      | _ => rw [hi] at e1; cases hx : ev t x <;> rw [hx] at e1 <;> cases e1
    rw [this]; rfl
  case mlen ty x =>
    have : vMlen τ h' ty (ev t x) = some v := by
      cases hx : ev t x with
      | mp l =>
        rw [hx, vMlen_mp] at e1
        obtain ⟨p, q1, e1⟩ := bO_eq e1
        obtain ⟨o, q3, e1⟩ := bO_eq e1
        rw [vMlen_mp, q1]; simp only [bO_some]; rw [objR_sub hs q3]; exact e1
      | nilm => rw [hx] at e1; exact e1
      | _ => rw [hx] at e1; cases e1
    rw [this]; rfl
  case indexAddr ty x i =>
    have : vIndexAddr τ h' ty (ev t x) (ev t i) = some v := by
      cases hi : ev t i with
      | int k n =>
        rw [hi] at e1
        cases hx : ev t x with
        | own l i0 n0 =>
          rw [hx, vIndexAddr_own] at e1
          obtain ⟨ti, q1, e1⟩ := bO_eq e1
          obtain ⟨te, q2, e1⟩ := bO_eq e1
          obtain ⟨ie, q3, e1⟩ := bO_eq e1
          obtain ⟨o, q4, e1⟩ := bO_eq e1
          rw [vIndexAddr_own, q1]; simp only [bO_some]; rw [q2]; simp only [bO_some]; rw [q3]; simp only [bO_some]; rw [objR_sub hs q4]; exact e1
        | ro s es => rw [hx] at e1; exact e1
        | ptr l i0 j => rw [hx] at e1; exact e1
        | _ => rw [hx] at e1; cases e1
      | _ => rw [hi] at e1; cases hx : ev t x <;> rw [hx] at e1 <;> cases e1
    rw [this]; rfl
  case slice ty x lo hi =>
    obtain ⟨n, q1, e1⟩ := bO_eq e1
    obtain ⟨l, q2, e1⟩ := bO_eq e1
    obtain ⟨m, q3, e1⟩ := bO_eq e1
    have : vSl τ h' ty (ev t x) l m = some v := by
      cases hx : ev t x with
      | own l0 i0 n0 =>
        rw [hx, vSl_own] at e1
        obtain ⟨z, q4, e1⟩ := bO_eq e1
        obtain ⟨o, q5, e1⟩ := bO_eq e1
        rw [vSl_own, q4]; simp only [bO_some]; rw [objR_sub hs q5]; exact e1
      | ro s es => rw [hx] at e1; exact e1
      | nils => rw [hx] at e1; exact e1
      | em => rw [hx] at e1; exact e1
      | _ => rw [hx] at e1; cases e1
    simp only [q1, q2, q3, bO_some, this]; rfl

/-- What is laid in: nothing, or one object under its slot's name. -/
def layA (r : Option (Nat × Ob)) (h : List (Nat × Ob)) : List (Nat × Ob) := match r with | none => h | some p => p :: h
def freeA (r : Option (Nat × Ob)) (h : List (Nat × Ob)) : Prop := ∀ p, r = some p → getO h p.1 = none
theorem fresh_of {h : List (Nat × Ob)} {n : Nat} (e : getO h n = none) : fresh h n = true := by unfold fresh; rw [e]; rfl

theorem stepV_al {c : Cop} {t : List (Nat × D)} {h : List (Nat × Ob)} {d : Nat} {v h1} (hc : cls c = .al) (e : stepV τ T t h d c = some (v, h1)) : ∃ r, h1 = layA r h ∧ freeA r h ∧ (∀ p, r = some p → p.1 = nm d) ∧ ∀ h', freeA r h' → stepV τ T t h' d c = some (v, layA r h') := by
  have fin : ∀ (x : Bool) (o : Ob) (v' : D), (fresh h (nm d) && x) = true → v' = v → (nm d, o) :: h = h1 → (∀ h', stepV τ T t h' d c = gd (fresh h' (nm d) && x) (some (v', (nm d, o) :: h'))) → ∃ r, h1 = layA r h ∧ freeA r h ∧ (∀ p, r = some p → p.1 = nm d) ∧ ∀ h', freeA r h' → stepV τ T t h' d c = some (v, layA r h') := by
    intro x o v' hx hv hh hall
    subst hv; subst hh
    simp only [Bool.and_eq_true] at hx
    refine ⟨some (nm d, o), rfl, fun p hp => (by injection hp with hp; subst hp; exact fresh_spec hx.1), fun p hp => (by injection hp with hp; subst hp; rfl), fun h' hf => ?_⟩
    rw [hall h', fresh_of (hf _ rfl), hx.2]
    rfl
  cases c <;> simp only [cls] at hc <;> try cases hc
  all_goals simp only [stepV] at e
  case alloc e0 =>
    rw [vAlloc_def] at e
    obtain ⟨ti, e1, e⟩ := bO_eq e
    obtain ⟨e2, e3⟩ := gd_eq e
    injection e3 with e3; injection e3 with e4 e5
    rw [Bool.and_assoc] at e2
    refine fin _ _ _ e2 e4 e5 (fun h' => ?_)
    simp only [stepV]
    rw [vAlloc_def, e1, ← Bool.and_assoc]; rfl
  case makeMap ty =>
    rw [vMakeMap_def] at e
    obtain ⟨e2, e3⟩ := gd_eq e
    injection e3 with e3; injection e3 with e4 e5
    refine fin true _ _ (by rw [e2]; rfl) e4 e5 (fun h' => ?_)
    simp only [stepV]
    rw [vMakeMap_def, Bool.and_true]
  case box e0 x =>
    rw [vBox_def] at e
    obtain ⟨ti, e1, e⟩ := bO_eq e
    obtain ⟨e2, e3⟩ := gd_eq e
    injection e3 with e3; injection e3 with e4 e5
    rw [Bool.and_assoc] at e2
    refine fin _ _ _ e2 e4 e5 (fun h' => ?_)
    simp only [stepV]
    rw [vBox_def, e1, ← Bool.and_assoc]; rfl
  case makeSlice ty x y =>
    rw [vMake_def] at e
    obtain ⟨ti, e1, e⟩ := bO_eq e
    obtain ⟨et, e1', e⟩ := bO_eq e
    obtain ⟨ie, e1'', e⟩ := bO_eq e
    obtain ⟨n, e6, e⟩ := bO_eq e
    obtain ⟨m, e7, e⟩ := bO_eq e
    obtain ⟨e2, e3⟩ := gd_eq e
    injection e3 with e3; injection e3 with e4 e5
    simp only [Bool.and_assoc] at e2
    refine fin _ _ _ e2 e4 e5 (fun h' => ?_)
    simp only [stepV]
    rw [vMake_def, e1]; simp only [bO_some]; rw [e1']; simp only [bO_some]; rw [e1'']; simp only [bO_some]; rw [e6]; simp only [bO_some]; rw [e7]; simp only [bO_some]
    simp only [Bool.and_assoc]
  case buildSliceP ty n ps =>
    rw [vBuildSliceP_def] at e
    obtain ⟨ti, e1, e⟩ := bO_eq e
    obtain ⟨et, e1', e⟩ := bO_eq e
    obtain ⟨ie, e1'', e⟩ := bO_eq e
    obtain ⟨q, e6, e⟩ := bO_eq e
    obtain ⟨e2, e3⟩ := gd_eq e
    injection e3 with e3; injection e3 with e4 e5
    refine fin _ _ _ e2 e4 e5 (fun h' => ?_)
    simp only [stepV]
    rw [vBuildSliceP_def, e1]; simp only [bO_some]; rw [e1']; simp only [bO_some]; rw [e1'']; simp only [bO_some]; rw [e6]; rfl
  case buildSliceB ty n ps =>
    rw [vBuildSliceB_def] at e
    obtain ⟨ti, e1, e⟩ := bO_eq e
    obtain ⟨et, e1', e⟩ := bO_eq e
    obtain ⟨ie, e1'', e⟩ := bO_eq e
    obtain ⟨q, e6, e⟩ := bO_eq e
    obtain ⟨e2, e3⟩ := gd_eq e
    injection e3 with e3; injection e3 with e4 e5
    refine fin _ _ _ e2 e4 e5 (fun h' => ?_)
    simp only [stepV]
    rw [vBuildSliceB_def, e1]; simp only [bO_some]; rw [e1']; simp only [bO_some]; rw [e1'']; simp only [bO_some]; rw [e6]; rfl

def exOf : Cop → List Nat
  | .callA ex _ _ => ex
  | .callF ex _ _ _ => ex
  | _ => []
def rootOf : Cop → A
  | .loadF _ _ r => r
  | _ => .c .any
def frOf : Cop → List A
  | .callF _ fr _ _ => fr
  | .storeF _ _ _ fr => fr
  | _ => []
theorem mem_evs {t : List (Nat × D)} : ∀ {fr : List A} {r : A}, r ∈ fr → ev t r ∈ evs t fr
  | [], _, h => by cases h
  | x :: xs, r, h => by
    rw [evs_cons]
    cases h with
    | head => simp
    | tail _ h => exact List.mem_cons_of_mem _ (mem_evs h)
theorem offDs_spec {ls : List Nat} : ∀ {ds : List D}, offDs ls ds = true → ∀ d ∈ ds, ∀ l, locD d = some l → l ∉ ls
  | [], _, d, h, _, _ => by cases h
  | x :: xs, e, d, h, l, hl => by
    rw [offDs_cons, Bool.and_eq_true] at e
    cases h with
    | head =>
      have := e.1
      rw [offD_def, hl, offS_some] at this
      intro hm
      rw [mem_spec.2 hm] at this
      cases this
    | tail _ h => exact offDs_spec e.2 d h l hl
theorem offN_spec {ls : List Nat} : ∀ {ex : List Nat}, offN ls ex = true → ∀ d ∈ ex, nm d ∉ ls
  | [], _, d, h => by cases h
  | x :: xs, e, d, h => by
    rw [offN_cons, Bool.and_eq_true] at e
    cases h with
    | head =>
      intro hm
      have := e.1
      rw [mem_spec.2 hm] at this
      cases this
    | tail _ h => exact offN_spec e.2 d h

theorem close_sub {h : List (Nat × Ob)} {m : Nat} : ∀ (n : Nat) (xs acc : List Nat), ∀ x ∈ acc, x ∈ close h m n xs acc
  | 0, _, _, x, hx => hx
  | _ + 1, [], _, x, hx => hx
  | n + 1, y :: ys, acc, x, hx => by
    simp only [close]
    cases (Nat.blt y m || mem y acc) with
    | true => exact close_sub n ys acc x hx
    | false => exact close_sub n _ _ x (List.mem_append_left _ hx)
/-- What is reached without an object, where it is not reached. -/
theorem close_without {p : Nat × Ob} {h : List (Nat × Ob)} {m : Nat} : ∀ (n : Nat) (xs acc : List Nat), p.1 ∉ close (p :: h) m n xs acc → close (p :: h) m n xs acc = close h m n xs acc
  | 0, _, _, _ => rfl
  | _ + 1, [], _, _ => rfl
  | n + 1, y :: ys, acc, hn => by
    simp only [close] at hn ⊢
    cases hb : (Nat.blt y m || mem y acc) with
    | true => rw [hb] at hn; exact close_without n ys acc hn
    | false =>
      rw [hb] at hn
      have hy : p.1 ≠ y := by
        intro e
        exact hn (close_sub n _ _ _ (by simp [e]))
      have hg : getO (p :: h) y = getO h y := by
        obtain ⟨p1, p2⟩ := p
        exact getO_miss p1 p2 h y (by simpa using hy)
      simp only [cond_false] at hn ⊢
      rw [hg] at hn ⊢
      exact close_without n _ _ hn
theorem gcH_without {p : Nat × Ob} {h : List (Nat × Ob)} (f : Nat → Option Nat) : ∀ (ls : List Nat), p.1 ∉ ls → gcH f (p :: h) ls = gcH f h ls
  | [], _ => rfl
  | l :: ls, hn => by
    have hy : p.1 ≠ l := fun e => hn (by simp [e])
    have hg : getO (p :: h) l = getO h l := by
      obtain ⟨p1, p2⟩ := p
      exact getO_miss p1 p2 h l (by simpa using hy)
    rw [gcH_cons, gcH_cons, hg, gcH_without f ls (fun e => hn (List.mem_cons_of_mem _ e))]
theorem allIn_without {p : Nat × Ob} {h : List (Nat × Ob)} : ∀ (ls : List Nat), p.1 ∉ ls → allIn (p :: h) ls = allIn h ls
  | [], _ => rfl
  | l :: ls, hn => by
    have hy : p.1 ≠ l := fun e => hn (by simp [e])
    have hg : getO (p :: h) l = getO h l := by
      obtain ⟨p1, p2⟩ := p
      exact getO_miss p1 p2 h l (by simpa using hy)
    rw [allIn_cons, allIn_cons, hg, allIn_without ls (fun e => hn (List.mem_cons_of_mem _ e))]
theorem noneIn_without {p : Nat × Ob} {h : List (Nat × Ob)} : ∀ (ls : List Nat) (b : Nat), noneIn (p :: h) b ls = true → noneIn h b ls = true ∧ ∀ i, i < ls.length → p.1 ≠ b + i
  | [], _, _ => ⟨rfl, by simp⟩
  | l :: ls, b, e => by
    rw [noneIn_cons, Bool.and_eq_true] at e
    obtain ⟨g1, g2⟩ := noneIn_without ls (b + 1) e.2
    have hf := fresh_spec e.1
    obtain ⟨p1, p2⟩ := p
    have hne : p1 ≠ b := by
      intro q; subst q
      rw [getO_hit] at hf; cases hf
    rw [getO_miss p1 p2 h b (by simpa using hne)] at hf
    refine ⟨by rw [noneIn_cons, fresh_of hf, g1]; rfl, fun i hi => ?_⟩
    cases i with
    | zero => exact hne
    | succ i => have := g2 i (by simpa using hi); simp only at this ⊢; omega
/-- What a call lays over ours lies where it was handed something, or at new names. -/
theorem join_out {h h1 : List (Nat × Ob)} {ls ls2 : List Nat} {b l : Nat} (hn : noneIn h b ls2 = true) (h1' : l ∉ ls) (h2 : ∀ i, i < ls2.length → l ≠ b + i) : getO (gcH (back ls ls.length b ls2) h1 (pars ls.length ++ ls2)) l = none := by
  cases hg : getO (gcH (back ls ls.length b ls2) h1 (pars ls.length ++ ls2)) l with
  | none => rfl
  | some o =>
    exfalso
    obtain ⟨x, o0, _, q1, _, _⟩ := gcH_some hg
    rcases back_spec q1 with ⟨_, q2⟩ | ⟨_, q2, q3⟩
    · exact h1' (List.mem_of_getElem? q2)
    · have := (List.getElem?_eq_some_iff.1 q3).1
      exact h2 (l - b) this (by omega)
/-- Outside of some names two heaps are one. -/
def Out (ex : List Nat) (h h' : List (Nat × Ob)) : Prop := ∀ l, outside ex l = true → getO h' l = getO h l
theorem objA_out {ex : List Nat} {h h' : List (Nat × Ob)} (ho : Out ex h h') (d : D) : objA h' ex d = objA h ex d := by
  have key : ∀ l, (gd (outside ex l) (bO (objR h' l) fun o => some (some o))) = gd (outside ex l) (bO (objR h l) fun o => some (some o)) := by
    intro l
    cases hb : outside ex l with
    | false => rfl
    | true => rw [objR_def, objR_def, ho l hb]
  cases d <;> first | rfl | exact key _
theorem objsA_out {ex : List Nat} {h h' : List (Nat × Ob)} (ho : Out ex h h') : ∀ ds, objsA h' ex ds = objsA h ex ds
  | [] => rfl
  | d :: ds => by rw [objsA_cons, objsA_cons, objA_out ho d, objsA_out ho ds]

theorem stepV_ra {c : Cop} {t : List (Nat × D)} {h : List (Nat × Ob)} {d : Nat} {v h1} (hc : cls c = .ra) (e : stepV τ T t h d c = some (v, h1)) : ∃ r, h1 = layA r h ∧ freeA r h ∧ (∀ p, r = some p → p.1 = nm d) ∧ ∀ h', Out (exOf c) h h' → freeA r h' → stepV τ T t h' d c = some (v, layA r h') := by
  cases c <;> simp only [cls] at hc <;> try cases hc
  rename_i ex f xs
  simp only [stepV, vCallA] at e
  obtain ⟨g, e1, e⟩ := bO_eq e
  obtain ⟨os, e2, e⟩ := bO_eq e
  obtain ⟨⟨r1, r2⟩, e3, e⟩ := bO_eq e
  have hall : ∀ h', Out (exOf (.callA ex f xs)) h h' → stepV τ T t h' d (.callA ex f xs) = joinA h' d (r1, r2) := by
    intro h' ho
    simp only [stepV, vCallA]
    rw [e1]; simp only [bO_some]; rw [objsA_out (ex := ex) ho, e2]; simp only [bO_some]; rw [e3]; rfl
  cases r2 with
  | none =>
    injection e with e; injection e with e4 e5; subst e4; subst e5
    exact ⟨none, rfl, fun p hp => (by cases hp), fun p hp => (by cases hp), fun h' ho _ => hall h' ho⟩
  | some o =>
    rw [joinA_some] at e
    obtain ⟨e6, e7⟩ := gd_eq e
    injection e7 with e7; injection e7 with e4 e5; subst e4; subst e5
    refine ⟨some (nm d, o), rfl, fun p hp => (by injection hp with hp; subst hp; exact fresh_spec e6), fun p hp => (by injection hp with hp; subst hp; rfl), fun h' ho hf => ?_⟩
    rw [hall h' ho, joinA_some, fresh_of (hf _ rfl)]
    rfl

/-! ### heaps that read alike -/
def Heq (h h' : List (Nat × Ob)) : Prop := ∀ l, getO h' l = getO h l
theorem Heq.refl (h) : Heq h h := fun _ => rfl
theorem Heq.trans {a b c} (h : Heq a b) (k : Heq b c) : Heq a c := fun l => (k l).trans (h l)
theorem Heq.symm {a b} (h : Heq a b) : Heq b a := fun l => (h l).symm
theorem Heq.cons {h h'} (e : Heq h h') (l o) : Heq ((l, o) :: h) ((l, o) :: h') := fun x => by rw [getO_cons, getO_cons, e x]
section
variable {h h' : List (Nat × Ob)} (q : Heq h h')
include q
theorem objR_heq (l) : objR h' l = objR h l := by rw [objR_def, objR_def, q l]
theorem objW_heq (l) : objW h' l = objW h l := by rw [objW_def, objW_def, q l]
theorem fresh_heq (l) : fresh h' l = fresh h l := by unfold fresh; rw [q l]
theorem viewE_heq (d) : viewE h' d = viewE h d := by cases d <;> first | rfl | (simp only [viewE_own, objR_heq q])
theorem appY_heq (z d) : appY h' z d = appY h z d := by cases d <;> first | rfl | (simp only [appY_own, objR_heq q, viewE_heq q])
theorem vLoad_heq (ty d) : vLoad τ h' ty d = vLoad τ h ty d := by cases d <;> first | rfl | (simp only [vLoad_ptr, objR_heq q])
theorem vIndexAddr_heq (ty d i) : vIndexAddr τ h' ty d i = vIndexAddr τ h ty d i := by
  cases d <;> cases i <;> first | rfl | (simp only [vIndexAddr_own, objR_heq q])
theorem vSl_heq (ty d lo hi) : vSl τ h' ty d lo hi = vSl τ h ty d lo hi := by cases d <;> first | rfl | (simp only [vSl_own, objR_heq q])
theorem vLookup_heq (ty d i c) : vLookup τ h' ty d i c = vLookup τ h ty d i c := by
  cases d <;> cases i <;> first | rfl | (simp only [vLookup_mp, objR_heq q])
theorem vMlen_heq (ty d) : vMlen τ h' ty d = vMlen τ h ty d := by cases d <;> first | rfl | (simp only [vMlen_mp, objR_heq q])
theorem objsA_heq (ex ds) : objsA h' ex ds = objsA h ex ds := objsA_out (fun l _ => q l) ds
end

theorem vLoadF_heq {h h' : List (Nat × Ob)} (q : Heq h h') (ty a r) : vLoadF τ h' ty a r = vLoadF τ h ty a r := by rw [vLoadF_def, vLoadF_def, vLoad_heq q]
theorem boxAt_heq {h h' : List (Nat × Ob)} (q : Heq h h') (l) : boxAt h' l = boxAt h l := by unfold boxAt; rw [q l]
theorem lowL_heq : ∀ {cs : List D} {h h' : List (Nat × Ob)} {r h1}, lowL h cs = some (r, h1) → Heq h h' → ∃ h1', lowL h' cs = some (r, h1') ∧ Heq h1 h1'
  | [], h, h', r, h1, e, q => by cases e; exact ⟨h', rfl, q⟩
  | d :: cs, h, h', r, h1, e, q => by
    have plain : ∀ d', (bO (lowL h cs) fun p => some (d' :: p.1, p.2)) = some (r, h1) → ∃ h1', (bO (lowL h' cs) fun p => some (d' :: p.1, p.2)) = some (r, h1') ∧ Heq h1 h1' := by
      intro d' e
      obtain ⟨⟨p, h2⟩, q1, q2⟩ := bO_eq e
      injection q2 with q2; injection q2 with q3 q4; subst q3; subst q4
      obtain ⟨h3, r1, r2⟩ := lowL_heq q1 q
      exact ⟨h3, by rw [r1]; rfl, r2⟩
    cases d with
    | own l' i n =>
      rw [lowL_own] at e ⊢
      obtain ⟨o, e1, e⟩ := bO_eq e
      obtain ⟨es, e2, e⟩ := bO_eq e
      obtain ⟨⟨p, h2⟩, q1, q2⟩ := bO_eq e
      injection q2 with q2; injection q2 with q3 q4; subst q3; subst q4
      obtain ⟨h3, r1, r2⟩ := lowL_heq q1 (q.cons _ _)
      refine ⟨h3, ?_, r2⟩
      rw [objR_heq q, e1]; simp only [bO_some]; rw [viewE_heq q, e2]; simp only [bO_some]; rw [r1]; rfl
    | int k n => exact plain _ e
    | bool b => exact plain _ e
    | nilp => exact plain _ e
    | nils => exact plain _ e
    | nilf => exact plain _ e
    | nilm => exact plain _ e
    | em => exact plain _ e
    | ro s es => exact plain _ e
    | any => cases e
    | rop _ => cases e
    | agg _ => cases e
    | tup _ => cases e
    | ptr _ _ _ => cases e
    | mp _ => cases e
    | clo _ _ => cases e
theorem lowD_heq {d : D} {h h' : List (Nat × Ob)} {r h1} (e : lowD h d = some (r, h1)) (q : Heq h h') : ∃ h1', lowD h' d = some (r, h1') ∧ Heq h1 h1' := by
  have one : (bO (lowL h [d]) one1) = some (r, h1) → ∃ h1', (bO (lowL h' [d]) one1) = some (r, h1') ∧ Heq h1 h1' := by
    intro e
    obtain ⟨⟨p, h2⟩, q1, q2⟩ := bO_eq e
    obtain ⟨h3, r1, r2⟩ := lowL_heq q1 q
    rw [r1]
    match p, q2 with
    | [x], q2 =>
      simp only [one1] at q2
      injection q2 with q2; injection q2 with q3 q4; subst q3; subst q4
      exact ⟨h3, rfl, r2⟩
  cases d with
  | agg cs =>
    rw [lowD_agg] at e ⊢
    obtain ⟨⟨p, h2⟩, q1, q2⟩ := bO_eq e
    injection q2 with q2; injection q2 with q3 q4; subst q3; subst q4
    obtain ⟨h3, r1, r2⟩ := lowL_heq q1 q
    exact ⟨h3, by rw [r1]; rfl, r2⟩
  | clo f cs =>
    cases cs with
    | nil => cases e; exact ⟨h', rfl, q⟩
    | cons c cs => exact one e
  | own l i n => exact one e
  | int k n => exact one e
  | bool b => exact one e
  | nilp => exact one e
  | nils => exact one e
  | nilf => exact one e
  | nilm => exact one e
  | em => exact one e
  | ro s es => exact one e
  | any => exact one e
  | rop _ => exact one e
  | tup _ => exact one e
  | ptr _ _ _ => exact one e
  | mp _ => exact one e
theorem lowDs_heq : ∀ {ds : List D} {h h' : List (Nat × Ob)} {r h1}, lowDs h ds = some (r, h1) → Heq h h' → ∃ h1', lowDs h' ds = some (r, h1') ∧ Heq h1 h1'
  | [], h, h', r, h1, e, q => by cases e; exact ⟨h', rfl, q⟩
  | d :: ds, h, h', r, h1, e, q => by
    rw [lowDs_cons] at e ⊢
    obtain ⟨⟨x, h2⟩, q1, e⟩ := bO_eq e
    obtain ⟨⟨y, h3⟩, q2, e⟩ := bO_eq e
    injection e with e; injection e with e3 e4; subst e3; subst e4
    obtain ⟨h4, r1, r2⟩ := lowD_heq q1 q
    obtain ⟨h5, r3, r4⟩ := lowDs_heq q2 r2
    exact ⟨h5, by rw [r1]; simp only [bO_some]; rw [r3]; rfl, r4⟩
theorem fillE_heq {t : List (Nat × D)} {sz : Nat} : ∀ {ps : List (Nat × A)} {n : Nat} {h h' : List (Nat × Ob)} {r h1}, fillE t h sz n ps = some (r, h1) → Heq h h' → ∃ h1', fillE t h' sz n ps = some (r, h1') ∧ Heq h1 h1'
  | [], n, h, h', r, h1, e, q => by cases e; exact ⟨h', rfl, q⟩
  | (i, x) :: ps, n, h, h', r, h1, e, q => by
    rw [fillE_cons] at e ⊢
    obtain ⟨e0, e⟩ := gd_eq e
    obtain ⟨⟨y, h2⟩, q1, e⟩ := bO_eq e
    obtain ⟨⟨z, h3⟩, q2, e⟩ := bO_eq e
    injection e with e; injection e with e3 e4; subst e3; subst e4
    obtain ⟨h4, r1, r2⟩ := lowL_heq q1 q
    obtain ⟨h5, r3, r4⟩ := fillE_heq q2 r2
    exact ⟨h5, by rw [e0, gd_true, r1]; simp only [bO_some]; rw [r3]; rfl, r4⟩

theorem close_heq {h h' : List (Nat × Ob)} (q : Heq h h') (m : Nat) : ∀ n xs acc, close h' m n xs acc = close h m n xs acc
  | 0, _, _ => rfl
  | n + 1, [], _ => rfl
  | n + 1, x :: xs, acc => by simp only [close, q x, close_heq q m n]
theorem gcH_heq {h h' : List (Nat × Ob)} (q : Heq h h') (f : Nat → Option Nat) : ∀ ls, gcH f h' ls = gcH f h ls
  | [] => rfl
  | l :: ls => by rw [gcH_cons, gcH_cons, q l, gcH_heq q f ls]
theorem allIn_heq {h h' : List (Nat × Ob)} (q : Heq h h') : ∀ ls, allIn h' ls = allIn h ls
  | [] => rfl
  | l :: ls => by rw [allIn_cons, allIn_cons, q l, allIn_heq q ls]
theorem noneIn_heq {h h' : List (Nat × Ob)} (q : Heq h h') : ∀ ls b, noneIn h' b ls = noneIn h b ls
  | [], _ => rfl
  | l :: ls, b => by rw [noneIn_cons, noneIn_cons, fresh_heq q, noneIn_heq q ls]
theorem Heq.append {h h' : List (Nat × Ob)} (q : Heq h h') (a : List (Nat × Ob)) : Heq (a ++ h) (a ++ h') := fun x => by rw [getO_append, getO_append, q x]

theorem vStore_heq {h h' : List (Nat × Ob)} (hq : Heq h h') {ty : Nat} {a v : D} {h1 : List (Nat × Ob)} (e : vStore τ h ty a v = some h1) : ∃ h1', vStore τ h' ty a v = some h1' ∧ Heq h1 h1' := by
  cases a with
  | ptr l i j =>
    rw [vStore_ptr] at e
    obtain ⟨ti, e1, e⟩ := bO_eq e
    obtain ⟨e2, e⟩ := gd_eq e
    obtain ⟨o, e3, e⟩ := bO_eq e
    obtain ⟨⟨cs, h2⟩, e4, e⟩ := bO_eq e
    obtain ⟨o', e5, e⟩ := bO_eq e
    obtain ⟨o2, e6, e⟩ := bO_eq e
    injection e with e; subst e
    have low : ∃ h3, lowK (okk o) h' (cells v) = some (cs, h3) ∧ Heq h2 h3 := by
      cases hk : okk o with
      | box =>
        rw [hk, lowK_box] at e4
        obtain ⟨g1, g2⟩ := gd_eq e4
        injection g2 with g2; injection g2 with g3 g4; subst g3; subst g4
        exact ⟨h', by rw [lowK_box, g1]; rfl, hq⟩
      | row => rw [hk, lowK_row] at e4; exact lowL_heq e4 hq
      | map => rw [hk] at e4; cases e4
    obtain ⟨h3, g1, g2⟩ := low
    refine ⟨_, ?_, g2.cons _ _⟩
    rw [vStore_ptr, e1]; simp only [bO_some]; rw [e2, gd_true, objW_heq hq, e3]; simp only [bO_some]; rw [g1]; simp only [bO_some]; rw [objW_heq g2, e5]; simp only [bO_some]; rw [e6]; rfl
  | _ => cases e
/-- A store into a box turns that alone. -/
theorem vStoreF_out {h : List (Nat × Ob)} {ty : Nat} {a v : D} {fr : List D} {h1 : List (Nat × Ob)} (e : vStoreF τ h ty a v fr = some h1) : ∀ d ∈ fr, ∀ l o, locD d = some l → getO h l = some o → getO h1 l = some o := by
  intro d hd l o hl hg
  cases a with
  | ptr l' i j =>
    rw [vStoreF_ptr] at e
    obtain ⟨e0, e⟩ := gd_eq e
    simp only [Bool.and_eq_true] at e0
    have hne := offDs_spec e0.2 d hd l hl
    simp only [List.mem_singleton] at hne
    rw [vStore_ptr] at e
    obtain ⟨ti, e1, e⟩ := bO_eq e
    obtain ⟨e2, e⟩ := gd_eq e
    obtain ⟨ob, e3, e⟩ := bO_eq e
    obtain ⟨⟨cs, h2⟩, e4, e⟩ := bO_eq e
    obtain ⟨o', e5, e⟩ := bO_eq e
    obtain ⟨o2, e6, e⟩ := bO_eq e
    injection e with e; subst e
    have hbox : okk ob = .box := by
      have := e0.1
      unfold boxAt at this
      rw [(objW_spec e3).1] at this
      exact of_decide_eq_true this
    rw [hbox, lowK_box] at e4
    obtain ⟨_, e4⟩ := gd_eq e4
    injection e4 with e4; injection e4 with _ e4; subst e4
    rw [getO_cons, if_neg (Ne.symm hne)]
    exact hg
  | _ => cases e
/-- A step over heaps that read alike. -/
theorem stepV_heq {c : Cop} {t : List (Nat × D)} {h h' : List (Nat × Ob)} {d : Nat} {v h1} (q : Heq h h') (e : stepV τ T t h d c = some (v, h1)) : ∃ h1', stepV τ T t h' d c = some (v, h1') ∧ Heq h1 h1' := by
  have only : ∀ x : Option D, onlyV h x = some (v, h1) → ∃ h1', onlyV h' x = some (v, h1') ∧ Heq h1 h1' := by
    intro x e
    obtain ⟨e1, e2⟩ := onlyV_eq e
    subst e2
    exact ⟨h', by rw [e1]; rfl, q⟩
  have onlyH : ∀ x : Option (List (Nat × Ob)), (bO x fun h2 => some (und, h2)) = some (v, h1) → ∀ y, (∀ h2, x = some h2 → ∃ h2', y = some h2' ∧ Heq h2 h2') → ∃ h1', (bO y fun h2 => some (und, h2)) = some (v, h1') ∧ Heq h1 h1' := by
    intro x e y hy
    obtain ⟨h2, e1, e2⟩ := bO_eq e
    injection e2 with e2; injection e2 with e3 e4; subst e3; subst e4
    obtain ⟨h3, g1, g2⟩ := hy _ e1
    exact ⟨h3, by rw [g1]; rfl, g2⟩
  cases c <;> simp only [stepV] at e ⊢
  case move x => injection e with e; injection e with e1 e2; subst e1; subst e2; exact ⟨h', rfl, q⟩
  case pick x y z =>
    cases hb : ev t x with
    | bool b =>
      rw [hb] at e
      cases b <;> (injection e with e; injection e with e1 e2; subst e1; subst e2; exact ⟨h', rfl, q⟩)
    | _ => rw [hb] at e; cases e
  case alloc e0 =>
    rw [vAlloc_def] at e ⊢
    obtain ⟨ti, e1, e⟩ := bO_eq e
    obtain ⟨e2, e3⟩ := gd_eq e
    injection e3 with e3; injection e3 with e4 e5; subst e4; subst e5
    exact ⟨_, by rw [e1]; simp only [bO_some, fresh_heq q]; rw [e2]; rfl, q.cons _ _⟩
  case box e0 x =>
    rw [vBox_def] at e ⊢
    obtain ⟨ti, e1, e⟩ := bO_eq e
    obtain ⟨e2, e3⟩ := gd_eq e
    injection e3 with e3; injection e3 with e4 e5; subst e4; subst e5
    exact ⟨_, by rw [e1]; simp only [bO_some, fresh_heq q]; rw [e2]; rfl, q.cons _ _⟩
  case makeMap ty =>
    rw [vMakeMap_def] at e ⊢
    obtain ⟨e2, e3⟩ := gd_eq e
    injection e3 with e3; injection e3 with e4 e5; subst e4; subst e5
    exact ⟨_, by rw [fresh_heq q, e2]; rfl, q.cons _ _⟩
  case makeSlice ty x y =>
    rw [vMake_def] at e ⊢
    obtain ⟨ti, e1, e⟩ := bO_eq e
    obtain ⟨et, e1', e⟩ := bO_eq e
    obtain ⟨ie, e1'', e⟩ := bO_eq e
    obtain ⟨n, e6, e⟩ := bO_eq e
    obtain ⟨m, e7, e⟩ := bO_eq e
    obtain ⟨e2, e3⟩ := gd_eq e
    injection e3 with e3; injection e3 with e4 e5; subst e4; subst e5
    refine ⟨_, ?_, q.cons _ _⟩
    rw [e1]; simp only [bO_some]; rw [e1']; simp only [bO_some]; rw [e1'']; simp only [bO_some]; rw [e6]; simp only [bO_some]; rw [e7]; simp only [bO_some, fresh_heq q]
    rw [e2]; rfl
  case buildSlice ty n ps =>
    rw [vBuildSlice_def] at e ⊢
    obtain ⟨ti, e1, e⟩ := bO_eq e
    obtain ⟨et, e1', e⟩ := bO_eq e
    obtain ⟨ie, e1'', e⟩ := bO_eq e
    obtain ⟨e2, e⟩ := gd_eq e
    obtain ⟨⟨r, h2⟩, e3, e⟩ := bO_eq e
    injection e with e; injection e with e4 e5; subst e4; subst e5
    obtain ⟨h3, g1, g2⟩ := fillE_heq e3 q
    refine ⟨_, ?_, g2.cons _ _⟩
    rw [e1]; simp only [bO_some]; rw [e1']; simp only [bO_some]; rw [e1'']; simp only [bO_some, fresh_heq q]; rw [e2, gd_true, g1]; rfl
  case load ty x => rw [vLoad_heq q]; exact only _ e
  case indexAddr ty x i => rw [vIndexAddr_heq q]; exact only _ e
  case lookup ty x i c => rw [vLookup_heq q]; exact only _ e
  case mlen ty x => rw [vMlen_heq q]; exact only _ e
  case slice ty x lo hi => simp only [vSl_heq q]; exact only _ e
  case slice3 ty x lo hi mx => simp only [vSl3_any h h']; exact only _ e
  case mkClo f xs => injection e with e; injection e with e1 e2; subst e1; subst e2; exact ⟨h', rfl, q⟩
  case append ty x y =>
    rw [vAppend_def] at e ⊢
    obtain ⟨ti, e1, e⟩ := bO_eq e
    obtain ⟨et, e1', e⟩ := bO_eq e
    obtain ⟨ie, e1'', e⟩ := bO_eq e
    obtain ⟨ys, e2, e⟩ := bO_eq e
    rw [e1]; simp only [bO_some]; rw [e1']; simp only [bO_some]; rw [e1'']; simp only [bO_some]; rw [appY_heq q, e2]; simp only [bO_some]
    have onto : ∀ x, appN h d et ie x ys = some (v, h1) → ∃ h1', appN h' d et ie x ys = some (v, h1') ∧ Heq h1 h1' := by
      intro x e
      cases ys with
      | nil => injection e with e; injection e with e4 e5; subst e4; subst e5; exact ⟨h', rfl, q⟩
      | cons y ys =>
        rw [appN_cons] at e ⊢
        obtain ⟨e3, e⟩ := gd_eq e
        injection e with e; injection e with e4 e5; subst e4; subst e5
        exact ⟨_, by rw [fresh_heq q, e3]; rfl, q.cons _ _⟩
    cases hx : ev t x with
    | nils => rw [hx] at e; exact onto _ e
    | em => rw [hx] at e; exact onto _ e
    | own l i n =>
      rw [hx, vApp_own] at e
      rw [vApp_own]
      obtain ⟨o, e3, e⟩ := bO_eq e
      obtain ⟨e4, e⟩ := gd_eq e
      rw [objW_heq q, e3]
      simp only [bO_some, appW]
      rw [e4, gd_true]
      cases hb : (i == 0 && o.es.length == n) with
      | true =>
        rw [hb] at e
        obtain ⟨e5, e⟩ := gd_eq e
        injection e with e; injection e with e6 e7; subst e6; subst e7
        exact ⟨_, by simp only [appO, fresh_heq q]; rw [e5]; rfl, (q.cons _ _).cons _ _⟩
      | false =>
        rw [hb] at e
        obtain ⟨e5, e⟩ := gd_eq e
        injection e with e; injection e with e6 e7; subst e6; subst e7
        exact ⟨_, by simp only [appO]; rw [e5]; rfl, q.cons _ _⟩
    | _ => rw [hx] at e; cases e
  case clear ty x =>
    refine onlyH _ e _ (fun h2 e => ?_)
    obtain ⟨ti, e1, e⟩ := bO_eq e
    obtain ⟨et, e1', e⟩ := bO_eq e
    obtain ⟨ie, e1'', e⟩ := bO_eq e
    unfold vClear
    rw [e1]; simp only [bO_some]; rw [e1']; simp only [bO_some]; rw [e1'']; simp only [bO_some]
    cases hx : ev t x with
    | nils => rw [hx] at e; injection e with e; subst e; exact ⟨h', rfl, q⟩
    | em => rw [hx] at e; injection e with e; subst e; exact ⟨h', rfl, q⟩
    | ro s es =>
      rw [hx] at e
      obtain ⟨e5, e⟩ := gd_eq e
      injection e with e; subst e
      exact ⟨h', by simp only; rw [e5]; rfl, q⟩
    | own l i n =>
      rw [hx] at e
      obtain ⟨o, e3, e⟩ := bO_eq e
      obtain ⟨e5, e⟩ := gd_eq e
      injection e with e; subst e
      exact ⟨_, by simp only; rw [objW_heq q, e3]; simp only [bO_some, clrO]; rw [e5]; rfl, q.cons _ _⟩
    | _ => rw [hx] at e; cases e
  case copy ty x y =>
    rw [vCopy_def] at e ⊢
    obtain ⟨ti, e1, e⟩ := bO_eq e
    obtain ⟨et, e1', e⟩ := bO_eq e
    obtain ⟨ie, e1'', e⟩ := bO_eq e
    obtain ⟨ys, e2, e⟩ := bO_eq e
    rw [e1]; simp only [bO_some]; rw [e1']; simp only [bO_some]; rw [e1'']; simp only [bO_some]; rw [appY_heq q, e2]; simp only [bO_some]
    cases hx : ev t x with
    | nils => rw [hx] at e; injection e with e; injection e with e4 e5; subst e4; subst e5; exact ⟨h', rfl, q⟩
    | em => rw [hx] at e; injection e with e; injection e with e4 e5; subst e4; subst e5; exact ⟨h', rfl, q⟩
    | own l i n =>
      rw [hx, vCopyE_own] at e
      rw [vCopyE_own]
      obtain ⟨o, e3, e⟩ := bO_eq e
      obtain ⟨h2, e4, e⟩ := bO_eq e
      injection e with e; injection e with e6 e7; subst e6; subst e7
      obtain ⟨e5, e4⟩ := gd_eq e4
      injection e4 with e4; subst e4
      exact ⟨_, by rw [objW_heq q, e3]; simp only [bO_some, cpyO]; rw [e5]; rfl, q.cons _ _⟩
    | _ => rw [hx] at e; cases e
  case call f xs =>
    unfold vCall at e ⊢
    obtain ⟨c, e1, e⟩ := bO_eq e
    obtain ⟨⟨ds, h2⟩, e2, e⟩ := bO_eq e
    obtain ⟨r, e3, e⟩ := bO_eq e
    injection e with e; injection e with e4 e5; subst e4; subst e5
    obtain ⟨h3, g1, g2⟩ := lowDs_heq e2 q
    exact ⟨h3, by rw [e1]; simp only [bO_some]; rw [g1]; simp only [bO_some]; rw [e3]; rfl, g2⟩
  case callH f xs =>
    unfold vCallH at e ⊢
    obtain ⟨c, e1, e⟩ := bO_eq e
    rw [e1]
    simp only [bO_some, close_heq q]
    rw [enterH_def] at e ⊢
    obtain ⟨e2, e⟩ := gd_eq e
    obtain ⟨r, e3, e⟩ := bO_eq e
    rw [joinH_def] at e
    obtain ⟨e4, e⟩ := gd_eq e
    injection e with e; injection e with e5 e6; subst e5; subst e6
    refine ⟨_, ?_, q.append _⟩
    rw [allIn_heq q, e2, gd_true, gcH_heq q, e3]
    simp only [bO_some]
    rw [joinH_def, noneIn_heq q, e4, gd_true]
  case callA ex f xs =>
    unfold vCallA at e ⊢
    obtain ⟨c, e1, e⟩ := bO_eq e
    obtain ⟨os, e2, e⟩ := bO_eq e
    obtain ⟨⟨r1, r2⟩, e3, e⟩ := bO_eq e
    rw [e1]; simp only [bO_some]; rw [objsA_heq q, e2]; simp only [bO_some]; rw [e3]; simp only [bO_some]
    cases r2 with
    | none => injection e with e; injection e with e4 e5; subst e4; subst e5; exact ⟨h', rfl, q⟩
    | some o =>
      rw [joinA_some] at e
      obtain ⟨e6, e7⟩ := gd_eq e
      injection e7 with e7; injection e7 with e4 e5; subst e4; subst e5
      exact ⟨_, by rw [joinA_some, fresh_heq q, e6]; rfl, q.cons _ _⟩
  case callF ex fr f xs =>
    unfold vCallF at e ⊢
    obtain ⟨c, e1, e⟩ := bO_eq e
    rw [e1]
    simp only [bO_some, close_heq q]
    obtain ⟨e0, e⟩ := gd_eq e
    rw [e0, gd_true]
    rw [enterH_def] at e ⊢
    obtain ⟨e2, e⟩ := gd_eq e
    obtain ⟨r, e3, e⟩ := bO_eq e
    rw [joinH_def] at e
    obtain ⟨e4, e⟩ := gd_eq e
    injection e with e; injection e with e5 e6; subst e5; subst e6
    refine ⟨_, ?_, q.append _⟩
    rw [allIn_heq q, e2, gd_true, gcH_heq q, e3]
    simp only [bO_some]
    rw [joinH_def, noneIn_heq q, e4, gd_true]
  case loadF ty x r => rw [vLoadF_heq q]; exact only _ e
  case buildSliceP ty n ps =>
    rw [vBuildSliceP_def] at e ⊢
    obtain ⟨ti, e1, e⟩ := bO_eq e
    obtain ⟨et, e1', e⟩ := bO_eq e
    obtain ⟨ie, e1'', e⟩ := bO_eq e
    obtain ⟨r, e3, e⟩ := bO_eq e
    obtain ⟨e2, e⟩ := gd_eq e
    injection e with e; injection e with e4 e5; subst e4; subst e5
    refine ⟨_, ?_, q.cons _ _⟩
    rw [e1]; simp only [bO_some]; rw [e1']; simp only [bO_some]; rw [e1'']; simp only [bO_some]; rw [e3]; simp only [bO_some, fresh_heq q]; rw [e2]; rfl
  case buildSliceB ty n ps =>
    rw [vBuildSliceB_def] at e ⊢
    obtain ⟨ti, e1, e⟩ := bO_eq e
    obtain ⟨et, e1', e⟩ := bO_eq e
    obtain ⟨ie, e1'', e⟩ := bO_eq e
    obtain ⟨r, e3, e⟩ := bO_eq e
    obtain ⟨e2, e⟩ := gd_eq e
    injection e with e; injection e with e4 e5; subst e4; subst e5
    refine ⟨_, ?_, q.cons _ _⟩
    rw [e1]; simp only [bO_some]; rw [e1']; simp only [bO_some]; rw [e1'']; simp only [bO_some]; rw [e3]; simp only [bO_some, fresh_heq q]; rw [e2]; rfl
  case storeF => cases e
  case delete ty x k =>
    refine onlyH _ e _ (fun h2 e => ?_)
    cases hk : ev t k with
    | int kk n =>
      rw [hk] at e
      cases hx : ev t x with
      | mp l =>
        rw [hx, vDelete_mp] at e
        obtain ⟨p, e1, e⟩ := bO_eq e
        obtain ⟨o, e2, e⟩ := bO_eq e
        obtain ⟨e3, e⟩ := gd_eq e
        obtain ⟨r, e4, e⟩ := bO_eq e
        injection e with e; subst e
        refine ⟨_, ?_, q.cons _ _⟩
        rw [vDelete_mp, e1]; simp only [bO_some]; rw [objW_heq q, e2]; simp only [bO_some]; rw [e3, gd_true, e4]; rfl
      | nilm =>
        rw [hx, vDelete_nil] at e
        obtain ⟨p, e1, e⟩ := bO_eq e
        injection e with e; subst e
        exact ⟨h', by rw [vDelete_nil, e1]; rfl, q⟩
      | _ => rw [hx] at e; cases e
    | _ => rw [hk] at e; cases hx : ev t x <;> rw [hx] at e <;> cases e
  case mapUpd => cases e
  case store => cases e
  all_goals exact only _ e

/-! ### one operation's whole effect -/
def putS (d : Option Nat) (v : D) (t : List (Nat × D)) : List (Nat × D) := match d with | some d => (d, v) :: t | none => t

structure Eff (c : Co) (s s' : St) (v : D) : Prop where
  t : s'.t = putS c.d v s.t
  any : ∀ t', Agree (rdC c) s.t t' → stepG τ T c ⟨t', s.h⟩ = some ⟨putS c.d v t', s'.h⟩
  hf : cls c.o = .hf → s'.h = s.h ∧ ∀ t' h', Agree (rdC c) s.t t' → stepG τ T c ⟨t', h'⟩ = some ⟨putS c.d v t', h'⟩
  rd : cls c.o = .rd → s'.h = s.h ∧ ∀ t' h', Agree (rdC c) s.t t' → Sub s.h h' → stepG τ T c ⟨t', h'⟩ = some ⟨putS c.d v t', h'⟩
  al : cls c.o = .al ∨ cls c.o = .ra → ∃ r, s'.h = layA r s.h ∧ freeA r s.h ∧ (∀ p, r = some p → ∃ d, c.d = some d ∧ p.1 = nm d) ∧ ∀ t' h', Agree (rdC c) s.t t' → (cls c.o = .al ∨ Out (exOf c.o) s.h h') → freeA r h' → stepG τ T c ⟨t', h'⟩ = some ⟨putS c.d v t', layA r h'⟩
  rf : cls c.o = .rf → s'.h = s.h ∧ ∀ t' h', Agree (rdC c) s.t t' → (∀ l o, locD (ev s.t (rootOf c.o)) = some l → getO s.h l = some o → getO h' l = some o) → stepG τ T c ⟨t', h'⟩ = some ⟨putS c.d v t', h'⟩
  fr : cls c.o = .cf ∨ cls c.o = .sf → ∀ r ∈ frOf c.o, ∀ l o, locD (ev s.t r) = some l → getO s.h l = some o → getO s'.h l = some o
  cf : cls c.o = .cf → ∀ p h0, s.h = p :: h0 → (∃ x, p.1 = nm x ∧ x ∈ exOf c.o) → ∃ Y, s'.h = Y ++ (p :: h0) ∧ getO Y p.1 = none ∧ ∀ t', Agree (rdC c) s.t t' → stepG τ T c ⟨t', h0⟩ = some ⟨putS c.d v t', Y ++ h0⟩
  q : ∀ t' h', Agree (rdC c) s.t t' → Heq s.h h' → ∃ h1', stepG τ T c ⟨t', h'⟩ = some ⟨putS c.d v t', h1'⟩ ∧ Heq s'.h h1'

/-- What a call that stays apart does. -/
theorem callF_out {t : List (Nat × D)} {h : List (Nat × Ob)} {d : Nat} {ex : List Nat} {fr : List A} {f : A} {xs : List A} {v : D} {h1 : List (Nat × Ob)} (e : vCallF T t h d ex fr f xs = some (v, h1)) :
    (∀ r ∈ fr, ∀ l o, locD (ev t r) = some l → getO h l = some o → getO h1 l = some o) ∧
    ∀ p h0, h = p :: h0 → (∃ x, p.1 = nm x ∧ x ∈ ex) → ∃ Y, h1 = Y ++ (p :: h0) ∧ getO Y p.1 = none ∧ vCallF T t h0 d ex fr f xs = some (v, Y ++ h0) := by
  unfold vCallF at e
  obtain ⟨c, e1, e⟩ := bO_eq e
  obtain ⟨e0, e⟩ := gd_eq e
  simp only [Bool.and_eq_true] at e0
  rw [enterH_def] at e
  obtain ⟨e2, e⟩ := gd_eq e
  obtain ⟨r, e3, e⟩ := bO_eq e
  rw [joinH_def] at e
  obtain ⟨e4, e⟩ := gd_eq e
  injection e with e; injection e with e5 e6; subst e5; subst e6
  refine ⟨fun a ha l o hl hg => ?_, fun p h0 hh ⟨x, hx1, hx2⟩ => ?_⟩
  · have hout := offDs_spec e0.2 _ (mem_evs ha) l hl
    rw [getO_append, join_out e4 hout (fun i hi hq => by
      have := noneIn_spec e4 i hi
      rw [← hq, hg] at this; cases this)]
    exact hg
  · subst hh
    have hout : p.1 ∉ close (p :: h0) 0 1000 (locsL (evs t xs ++ c.2)) [] := by rw [hx1]; exact offN_spec e0.1 x hx2
    have hcl := close_without (p := p) (h := h0) 1000 (locsL (evs t xs ++ c.2)) [] hout
    rw [hcl] at hout e0 e2 e3 e4 ⊢
    obtain ⟨n1, n2⟩ := noneIn_without _ _ e4
    refine ⟨_, rfl, join_out n1 hout (fun i hi => n2 i hi), ?_⟩
    unfold vCallF
    rw [e1]; simp only [bO_some]
    rw [show (offN (close h0 0 1000 (locsL (evs t xs ++ c.2)) []) ex && offDs (close h0 0 1000 (locsL (evs t xs ++ c.2)) []) (evs t fr)) = true from by rw [e0.1, e0.2]; rfl, gd_true, enterH_def, ← allIn_without _ hout, e2, gd_true, ← gcH_without _ _ hout, e3]
    simp only [bO_some]
    rw [joinH_def, n1, gd_true]

theorem stepO_some (d : Nat) (o : Cop) (s : St) : stepO τ T (some d) o s = bO (stepV τ T s.t s.h d o) fun p => some ⟨(d, p.1) :: s.t, p.2⟩ := by cases o <;> rfl

/-- A walk of the operation itself, its guard being met. -/
theorem eff_op {c : Co} {s s' : St} (e : stepO τ T c.d c.o s = some s') (hg : ∀ t', Agree (rdC c) s.t t' → ∀ h', stepG τ T c ⟨t', h'⟩ = stepO τ T c.d c.o ⟨t', h'⟩) : ∃ v, Eff (τ := τ) (T := T) c s s' v := by
  cases hd : c.d with
  | some d =>
    rw [hd, stepO_some] at e
    obtain ⟨⟨v, h1⟩, e1, e2⟩ := bO_eq e
    injection e2 with e2; subst e2
    have base : ∀ t' h' h2, Agree (rdC c) s.t t' → stepV τ T s.t h' d c.o = some (v, h2) → stepG τ T c ⟨t', h'⟩ = some ⟨putS c.d v t', h2⟩ := by
      intro t' h' h2 ha hv
      rw [hg t' ha, hd, stepO_some]
      simp only
      rw [stepV_agree h' d (show Agree (rds c.o) s.t t' from ha.left), hv]
      rfl
    refine ⟨v, by simp [putS, hd], fun t' ha => base t' _ _ ha e1, fun hc => ?_, fun hc => ?_, fun hc => ?_, fun hc => ?_, fun hc => ?_, fun hc => ?_, fun t' h' ha hq => ?_⟩
    · obtain ⟨q1, q2⟩ := stepV_hf hc e1
      exact ⟨q1, fun t' h' ha => base t' _ _ ha (q2 h' d)⟩
    · obtain ⟨q1, q2⟩ := stepV_rd hc e1
      exact ⟨q1, fun t' h' ha hs => base t' _ _ ha (q2 h' d hs)⟩
    · rcases hc with hc | hc
      · obtain ⟨r, q1, q2, q3, q4⟩ := stepV_al hc e1
        exact ⟨r, q1, q2, fun p hp => ⟨d, hd, q3 p hp⟩, fun t' h' ha _ hf => base t' _ _ ha (q4 h' hf)⟩
      · obtain ⟨r, q1, q2, q3, q4⟩ := stepV_ra hc e1
        refine ⟨r, q1, q2, fun p hp => ⟨d, hd, q3 p hp⟩, fun t' h' ha ho hf => ?_⟩
        rcases ho with ho | ho
        · rw [hc] at ho; cases ho
        · exact base t' _ _ ha (q4 h' ho hf)
    · cases ho : c.o with
      | loadF ty x r =>
        rw [ho] at e1
        simp only [stepV] at e1
        obtain ⟨q1, q2⟩ := onlyV_eq e1
        refine ⟨q2, fun t' h' ha hs => base t' _ _ ha ?_⟩
        rw [ho]
        simp only [stepV]
        have : vLoadF τ h' ty (ev s.t x) (ev s.t r) = some v := by
          rw [vLoadF_def] at q1 ⊢
          obtain ⟨q3, q4⟩ := gd_eq q1
          rw [q3, gd_true]
          cases hx : ev s.t x with
          | ptr l i j =>
            rw [hx] at q3 q4
            rw [vLoad_ptr] at q4 ⊢
            obtain ⟨o, q5, q6⟩ := bO_eq q4
            have hl : locD (ev s.t r) = some l := by
              cases hr : locD (ev s.t r) with
              | none => rw [hr] at q3; cases q3
              | some y => rw [hr, locD_ptr, sameL_some] at q3; simp at q3; rw [q3]
            have h3 := hs l o (by rw [rootOf]; exact hl) (objR_spec q5).1
            have : objR h' l = some o := by
              rw [objR_def] at q5 ⊢
              rw [(objR_spec (by rw [objR_def]; exact q5)).1] at q5
              rw [h3]; exact q5
            rw [this]; exact q6
          | rop cs => rw [hx] at q4; exact q4
          | _ => rw [hx] at q4; cases q4
        rw [this]; rfl
      | _ => rw [ho] at hc; cases hc
    · intro r hr l o hl hg
      cases ho : c.o with
      | callF ex fr f xs =>
        rw [ho] at e1 hr
        exact (callF_out e1).1 r hr l o hl hg
      | storeF => rw [ho] at e1; cases e1
      | _ => rw [ho] at hc; rcases hc with hc | hc <;> cases hc
    · intro p h0 hh hx
      cases ho : c.o with
      | callF ex fr f xs =>
        rw [ho] at e1 hx
        obtain ⟨Y, y1, y2, y3⟩ := (callF_out e1).2 p h0 hh hx
        exact ⟨Y, y1, y2, fun t' ha => base t' _ _ ha (by rw [ho]; exact y3)⟩
      | _ => rw [ho] at hc; cases hc
    · obtain ⟨h2, g1, g2⟩ := stepV_heq hq e1
      exact ⟨h2, base t' _ _ ha g1, g2⟩
  | none =>
    have gen : ∀ (F : List (Nat × D) → List (Nat × Ob) → Option (List (Nat × Ob))), (∀ t h, stepO τ T none c.o ⟨t, h⟩ = bO (F t h) fun h' => some ⟨t, h'⟩) → (cls c.o = .mm ∨ cls c.o = .cf ∨ cls c.o = .sf) → (∀ t' h, Agree (rds c.o) s.t t' → F t' h = F s.t h) → (∀ h' h1, Heq s.h h' → F s.t s.h = some h1 → ∃ h1', F s.t h' = some h1' ∧ Heq h1 h1') →
        (∀ h1, F s.t s.h = some h1 → cls c.o = .cf ∨ cls c.o = .sf → ∀ r ∈ frOf c.o, ∀ l o, locD (ev s.t r) = some l → getO s.h l = some o → getO h1 l = some o) →
        (∀ h1, F s.t s.h = some h1 → cls c.o = .cf → ∀ p h0, s.h = p :: h0 → (∃ x, p.1 = nm x ∧ x ∈ exOf c.o) → ∃ Y, h1 = Y ++ (p :: h0) ∧ getO Y p.1 = none ∧ F s.t h0 = some (Y ++ h0)) → ∃ v, Eff (τ := τ) (T := T) c s s' v := by
      intro F hF hcl hag hqq hfr hcf
      rw [hd, hF s.t s.h] at e
      obtain ⟨h1, e1, e2⟩ := bO_eq e
      injection e2 with e2; subst e2
      have no : ∀ k, k ≠ Cls.mm → k ≠ Cls.cf → k ≠ Cls.sf → cls c.o = k → False := fun k hk hk2 hk3 h => hcl.elim (fun q => hk (h.symm.trans q)) (fun q => q.elim (fun q => hk2 (h.symm.trans q)) (fun q => hk3 (h.symm.trans q)))
      refine ⟨.any, by simp [putS, hd], fun t' ha => ?_, fun hc => (no _ (by simp) (by simp) (by simp) hc).elim, fun hc => (no _ (by simp) (by simp) (by simp) hc).elim, fun hc => (hc.elim (no _ (by simp) (by simp) (by simp)) (no _ (by simp) (by simp) (by simp))).elim, fun hc => (no _ (by simp) (by simp) (by simp) hc).elim, fun hc r hr l o hl hg => hfr _ e1 hc r hr l o hl hg, fun hc p h0 hh hx => ?_, fun t' h' ha hq => ?_⟩
      · rw [hg t' ha, hd, hF, hag t' _ ha.left, e1]; rfl
      · obtain ⟨Y, y1, y2, y3⟩ := hcf _ e1 hc p h0 hh hx
        exact ⟨Y, y1, y2, fun t' ha => by rw [hg t' ha, hd, hF, hag t' _ ha.left, y3]; rfl⟩
      · obtain ⟨h2, g1, g2⟩ := hqq h' h1 hq e1
        exact ⟨h2, by rw [hg t' ha, hd, hF, hag t' _ ha.left, g1]; rfl, g2⟩
    have viaV : ∀ (F : List (Nat × D) → List (Nat × Ob) → Option VH), (∀ t h, stepO τ T none c.o ⟨t, h⟩ = bO (F t h) fun p => some ⟨t, p.2⟩) → (∀ t h, stepV τ T t h 0 c.o = F t h) → cls c.o = .mm → ∃ v, Eff (τ := τ) (T := T) c s s' v := by
      intro F hF hV hcl
      refine gen (fun t h => bO (F t h) fun p => some p.2) (fun t h => ?_) (.inl hcl) (fun t' h ha => ?_) (fun h' h1 hq e => ?_) (fun h1 _ hc => (by rw [hcl] at hc; rcases hc with hc | hc <;> cases hc)) (fun h1 _ hc => (by rw [hcl] at hc; cases hc))
      · rw [hF]; cases F t h <;> rfl
      · rw [← hV, ← hV, stepV_agree h 0 ha]
      · obtain ⟨⟨v, h2⟩, e1, e2⟩ := bO_eq e
        injection e2 with e2; subst e2
        rw [← hV] at e1
        obtain ⟨h3, g1, g2⟩ := stepV_heq hq e1
        exact ⟨h3, by rw [← hV, g1]; rfl, g2⟩
    cases ho : c.o with
    | store ty x y =>
      refine gen (fun t h => vStore τ h ty (ev t x) (ev t y)) (fun t h => by rw [ho]; rfl) (.inl (by rw [ho]; rfl)) (fun t' h ha => ?_) (fun h' h1 hq e => vStore_heq hq e) (fun h1 _ hc => (by rw [ho] at hc; rcases hc with hc | hc <;> cases hc)) (fun h1 _ hc => (by rw [ho] at hc; cases hc))
      rw [ho] at ha
      simp only [ev_agree (show Agree (rdA x) s.t t' from ha.left), ev_agree (show Agree (rdA y) s.t t' from ha.right)]
    | storeF ty x y fr =>
      refine gen (fun t h => vStoreF τ h ty (ev t x) (ev t y) (evs t fr)) (fun t h => by rw [ho]; rfl) (.inr (.inr (by rw [ho]; rfl))) (fun t' h ha => ?_) (fun h' h1 hq e => ?_) (fun h1 e _ r hr l o hl hg => ?_) (fun h1 _ hc => (by rw [ho] at hc; cases hc))
      · rw [ho] at ha
        simp only [ev_agree (show Agree (rdA x) s.t t' from ha.left), ev_agree (show Agree (rdA y) s.t t' from ha.right.left), evs_agree (show Agree (rdL fr) s.t t' from ha.right.right)]
      · cases hx : ev s.t x with
        | ptr l i j =>
          rw [hx, vStoreF_ptr] at e
          rw [vStoreF_ptr, boxAt_heq hq]
          obtain ⟨e1, e⟩ := gd_eq e
          rw [e1, gd_true]
          exact vStore_heq hq e
        | _ => rw [hx] at e; cases e
      · rw [ho] at hr
        exact vStoreF_out e _ (mem_evs hr) l o hl hg
    | callF ex fr f xs =>
      refine gen (fun t h => bO (vCallF T t h 0 ex fr f xs) fun p => some p.2) (fun t h => ?_) (.inr (.inl (by rw [ho]; rfl))) (fun t' h ha => ?_) (fun h' h1 hq e => ?_) (fun h1 e _ r hr l o hl hg => ?_) (fun h1 e _ p h0 hh hx => ?_)
      · rw [ho]; simp only [stepO]; cases vCallF T t h 0 ex fr f xs <;> rfl
      · rw [ho] at ha
        have := stepV_agree (τ := τ) (T := T) (c := .callF ex fr f xs) h 0 ha
        simp only [stepV] at this
        rw [this]
      · obtain ⟨⟨v, h2⟩, e1, e2⟩ := bO_eq e
        injection e2 with e2; subst e2
        obtain ⟨h3, g1, g2⟩ := stepV_heq (τ := τ) (T := T) (c := .callF ex fr f xs) (d := 0) hq e1
        exact ⟨h3, by simp only [stepV] at g1; rw [g1]; rfl, g2⟩
      · obtain ⟨⟨v, h2⟩, e1, e2⟩ := bO_eq e
        injection e2 with e2; subst e2
        rw [ho] at hr
        exact (callF_out e1).1 r hr l o hl hg
      · obtain ⟨⟨v, h2⟩, e1, e2⟩ := bO_eq e
        injection e2 with e2; subst e2
        rw [ho] at hx
        obtain ⟨Y, y1, y2, y3⟩ := (callF_out e1).2 p h0 hh hx
        exact ⟨Y, y1, y2, by rw [y3]; rfl⟩
    | mapUpd ty m k x =>
      refine gen (fun t h => vMapUpd τ h ty (ev t m) (ev t k) (ev t x)) (fun t h => by rw [ho]; rfl) (.inl (by rw [ho]; rfl)) (fun t' h ha => ?_) (fun h' h1 hq e => ?_) (fun h1 _ hc => (by rw [ho] at hc; rcases hc with hc | hc <;> cases hc)) (fun h1 _ hc => (by rw [ho] at hc; cases hc))
      · rw [ho] at ha
        simp only [ev_agree (show Agree (rdA m) s.t t' from ha.left), ev_agree (show Agree (rdA k) s.t t' from ha.right.left), ev_agree (show Agree (rdA x) s.t t' from ha.right.right)]
      · cases hk : ev s.t k with
        | int kk n =>
          rw [hk] at e
          cases hx : ev s.t m with
          | mp l =>
            rw [hx, vMapUpd_mp] at e
            obtain ⟨p, e1, e⟩ := bO_eq e
            obtain ⟨o, e2, e⟩ := bO_eq e
            obtain ⟨e3, e⟩ := gd_eq e
            obtain ⟨r, e4, e⟩ := bO_eq e
            injection e with e; subst e
            refine ⟨_, ?_, hq.cons _ _⟩
            rw [vMapUpd_mp, e1]; simp only [bO_some]; rw [objW_heq hq, e2]; simp only [bO_some]; rw [e3, gd_true, e4]; rfl
          | _ => rw [hx] at e; cases e
        | _ => rw [hk] at e; cases hx : ev s.t m <;> rw [hx] at e <;> cases e
    | clear ty x =>
      refine viaV (fun t h => bO (vClear τ h ty (ev t x)) fun h' => some (und, h')) (fun t h => ?_) (fun t h => by rw [ho]; rfl) (by rw [ho]; rfl)
      rw [ho]; simp only [stepO]; cases vClear τ h ty (ev t x) <;> rfl
    | copy ty x y => exact viaV (fun t h => vCopy τ h ty (ev t x) (ev t y)) (fun t h => by rw [ho]; rfl) (fun t h => by rw [ho]; rfl) (by rw [ho]; rfl)
    | call f xs => exact viaV (fun t h => vCall T t h f xs) (fun t h => by rw [ho]; rfl) (fun t h => by rw [ho]; rfl) (by rw [ho]; rfl)
    | callH f xs => exact viaV (fun t h => vCallH T t h 0 f xs) (fun t h => by rw [ho]; rfl) (fun t h => by rw [ho]; rfl) (by rw [ho]; rfl)
    | delete ty m k =>
      refine viaV (fun t h => bO (vDelete τ h ty (ev t m) (ev t k)) fun h' => some (und, h')) (fun t h => ?_) (fun t h => by rw [ho]; rfl) (by rw [ho]; rfl)
      rw [ho]; simp only [stepO]; cases vDelete τ h ty (ev t m) (ev t k) <;> rfl
    | _ => rw [hd, ho] at e; cases e

theorem eff_of {c : Co} {s s' : St} (e : stepG τ T c s = some s') : ∃ v, Eff (τ := τ) (T := T) c s s' v := by
  cases hg : c.g with
  | none =>
    have hall : ∀ s : St, stepG τ T c s = stepO τ T c.d c.o s := fun s => by simp only [stepG, hg]
    rw [hall] at e
    exact eff_op e (fun t' _ h' => hall _)
  | some gw =>
    obtain ⟨g, b⟩ := gw
    have hget : ∀ t', Agree (rdC c) s.t t' → get t' g = get s.t g := fun t' ha => ha g (by simp [rdC, hg])
    have e0 := e
    simp only [stepG, hg] at e
    split at e
    · rename_i hb
      have hall : ∀ t', Agree (rdC c) s.t t' → ∀ h', stepG τ T c ⟨t', h'⟩ = stepO τ T c.d c.o ⟨t', h'⟩ := fun t' ha h' => by
        simp only [stepG, hg, hget t' ha, hb]
      exact eff_op e hall
    · rename_i hb
      have hall : ∀ t', Agree (rdC c) s.t t' → ∀ h', stepG τ T c ⟨t', h'⟩ = some ⟨putS c.d und t', h'⟩ := fun t' ha h' => by
        simp only [stepG, hg, hget t' ha, hb]
        cases hd : c.d <;> rfl
      have e' : s' = ⟨putS c.d und s.t, s.h⟩ := by
        have := hall s.t (fun _ _ => rfl) s.h
        have e2 : some s' = some ⟨putS c.d und s.t, s.h⟩ := by rw [← this]; exact e0.symm
        injection e2
      subst e'
      exact ⟨und, rfl, fun t' ha => hall t' ha _, fun _ => ⟨rfl, fun t' h' ha => hall t' ha h'⟩, fun _ => ⟨rfl, fun t' h' ha _ => hall t' ha h'⟩, fun _ => ⟨none, rfl, fun p hp => (by cases hp), fun p hp => (by cases hp), fun t' h' ha _ _ => hall t' ha h'⟩, fun _ => ⟨rfl, fun t' h' ha _ => hall t' ha h'⟩, fun _ r _ l o _ hg => hg, fun _ p h0 hh _ => ⟨[], hh, rfl, fun t' ha => hall t' ha h0⟩, fun t' h' ha hq => ⟨h', hall t' ha h', hq⟩⟩
    · cases e

/-! ### two operations, the other way round -/
def apartS (k j : Co) : Bool :=
  (match k.d with | some d => !(rdC j).contains d && (match j.d with | some d' => !(d' == d) | none => true) | none => true) && (match j.d with | some d => !(rdC k).contains d | none => true)
def inA (a : A) : List A → Bool
  | [] => false
  | x :: xs => (match a with | .t n => (match x with | .t m => n == m | _ => false) | _ => false) || inA a xs
theorem inA_spec {a : A} : ∀ {l : List A}, inA a l = true → a ∈ l
  | [], h => by cases h
  | x :: xs, h => by
    simp only [inA, Bool.or_eq_true] at h
    rcases h with h | h
    · cases a with
      | t n =>
        cases x with
        | t m => simp at h; subst h; simp
        | _ => cases h
      | _ => cases h
    · exact List.mem_cons_of_mem _ (inA_spec h)
def named (d : Option Nat) (l : List Nat) : Bool := match d with | some d => l.contains d | none => false
def apartH (k j : Co) : Bool :=
  match cls k.o, cls j.o with
  | .hf, _ => true
  | _, .hf => true
  | .rd, .rd => true
  | .rd, .al => true
  | .rd, .ra => true
  | .rd, .rf => true
  | .rf, .rd => true
  | .rf, .rf => true
  | .rf, .al => true
  | .rf, .ra => true
  | .rf, .cf => inA (rootOf k.o) (frOf j.o)
  | .rf, .sf => inA (rootOf k.o) (frOf j.o)
  | .al, .cf => named k.d (exOf j.o)
  | .al, .al => true
  | .al, .ra => named k.d (exOf j.o)
  | .ra, .al => named j.d (exOf k.o)
  | .ra, .ra => named k.d (exOf j.o) && named j.d (exOf k.o)
  | _, _ => false
def comm (k j : Co) : Bool := apartS k j && apartH k j

def Teq (a b : St) : Prop := (∀ n, get a.t n = get b.t n) ∧ Heq a.h b.h
theorem Teq.refl (a : St) : Teq a a := ⟨fun _ => rfl, .refl _⟩
theorem Teq.trans {a b c : St} (h : Teq a b) (k : Teq b c) : Teq a c := ⟨fun n => (h.1 n).trans (k.1 n), h.2.trans k.2⟩

theorem get_putS (d : Option Nat) (v : D) (t : List (Nat × D)) (n : Nat) : get (putS d v t) n = if d = some n then v else get t n := by
  cases d with
  | none => simp [putS]
  | some d =>
    by_cases e : d = n
    · subst e; simp [putS, get_hit]
    · rw [if_neg (by intro h; injection h with h; exact e h)]; exact get_miss _ _ _ _ (by simpa using e)
theorem agree_putS {l : List Nat} {d : Option Nat} {v : D} {t : List (Nat × D)} (h : ∀ x, d = some x → x ∉ l) : Agree l t (putS d v t) := by
  intro n hn
  rw [get_putS, if_neg (fun e => h n e hn)]
theorem agree_putS' {l : List Nat} {d : Option Nat} {v : D} {t : List (Nat × D)} (h : ∀ x, d = some x → x ∉ l) : Agree l (putS d v t) t := by
  intro n hn
  rw [get_putS, if_neg (fun e => h n e hn)]

/-- The same slots: the same step. -/
theorem stepG_teq {c : Co} {s s' t : St} (e : stepG τ T c s = some s') (h : Teq s t) : ∃ t', stepG τ T c t = some t' ∧ Teq s' t' := by
  obtain ⟨v, E⟩ := eff_of e
  obtain ⟨h1, g1, g2⟩ := E.q t.t t.h (fun n _ => (h.1 n).symm) h.2
  refine ⟨⟨putS c.d v t.t, h1⟩, g1, fun n => ?_, g2⟩
  rw [E.t, get_putS, get_putS, h.1 n]
theorem runO_teq : ∀ {cs : List Co} {s s' t : St}, runO τ T cs s = some s' → Teq s t → ∃ t', runO τ T cs t = some t' ∧ Teq s' t'
  | [], s, s', t, e, h => by cases e; exact ⟨t, rfl, h⟩
  | c :: cs, s, s', t, e, h => by
    simp only [runO] at e ⊢
    cases h1 : stepG τ T c s with
    | none => rw [h1] at e; cases e
    | some s1 =>
      rw [h1] at e
      obtain ⟨t1, e1, k1⟩ := stepG_teq h1 h
      rw [e1]
      exact runO_teq e k1

theorem layA_get {r : Option (Nat × Ob)} {h : List (Nat × Ob)} (l : Nat) : getO (layA r h) l = match r with | some p => if p.1 = l then some p.2 else getO h l | none => getO h l := by
  cases r with
  | none => rfl
  | some p => rfl
theorem sub_layA {r : Option (Nat × Ob)} {h : List (Nat × Ob)} (hf : freeA r h) : Sub h (layA r h) := by
  intro l o e
  rw [layA_get]
  cases r with
  | none => exact e
  | some p =>
    simp only
    by_cases hp : p.1 = l
    · have := hf p rfl; rw [hp, e] at this; cases this
    · rw [if_neg hp]; exact e
theorem outside_ne {ex : List Nat} {d l : Nat} (h : outside ex l = true) (hd : ex.contains d = true) : l ≠ nm d := by
  induction ex with
  | nil => simp at hd
  | cons x ex ih =>
    rw [outside_cons, Bool.and_eq_true] at h
    rw [List.contains_cons, Bool.or_eq_true] at hd
    rcases hd with hd | hd
    · have : d = x := by simpa using hd
      subst this
      simpa using h.1
    · exact ih h.2 hd
theorem out_layA {ex : List Nat} {r : Option (Nat × Ob)} {h : List (Nat × Ob)} {d : Option Nat} (hn : ∀ p, r = some p → ∃ x, d = some x ∧ p.1 = nm x) (hd : named d ex = true) : Out ex h (layA r h) := by
  intro l hl
  rw [layA_get]
  cases r with
  | none => rfl
  | some p =>
    obtain ⟨x, rfl, hx⟩ := hn p rfl
    have := outside_ne hl (show ex.contains x = true from hd)
    simp only
    rw [if_neg (by rw [hx]; exact Ne.symm this)]
theorem Out.symm {ex h h'} (o : Out ex h h') : Out ex h' h := fun l hl => (o l hl).symm

theorem swap {k j : Co} {s s1 s2 : St} (hc : comm k j = true) (e1 : stepG τ T k s = some s1) (e2 : stepG τ T j s1 = some s2) : ∃ t1 t2, stepG τ T j s = some t1 ∧ stepG τ T k t1 = some t2 ∧ Teq s2 t2 := by
  simp only [comm, apartS, Bool.and_eq_true] at hc
  obtain ⟨⟨hA, hB⟩, hC⟩ := hc
  obtain ⟨v, K⟩ := eff_of e1
  obtain ⟨u, J⟩ := eff_of e2
  have hk : ∀ x, k.d = some x → x ∉ rdC j := by
    intro x hx hm
    rw [hx] at hA
    simp at hA
    exact hA.1 hm
  have hj : ∀ x, j.d = some x → x ∉ rdC k := by
    intro x hx hm
    rw [hx] at hB
    simp at hB
    exact hB hm
  have hkj : ∀ x, k.d = some x → j.d ≠ some x := by
    intro x hx hy
    rw [hx, hy] at hA
    simp at hA
  have hJt : Agree (rdC j) s1.t s.t := by rw [K.t]; exact agree_putS' hk
  have hKt : Agree (rdC k) s.t (putS j.d u s.t) := agree_putS hj
  have hget : ∀ n, get s2.t n = get (putS k.d v (putS j.d u s.t)) n := by
    intro n
    rw [J.t, K.t, get_putS, get_putS, get_putS, get_putS]
    by_cases a : k.d = some n
    · have := hkj n a
      rw [if_neg this, if_pos a, if_pos a]
    · rw [if_neg a, if_neg a]
  have any1 := J.any s.t hJt
  -- two that lay objects in
  have two : ∀ (rk rj : Option (Nat × Ob)), s1.h = layA rk s.h → s2.h = layA rj s1.h → freeA rk s.h → freeA rj s1.h → stepG τ T j s = some ⟨putS j.d u s.t, layA rj s.h⟩ → (freeA rk (layA rj s.h) → stepG τ T k ⟨putS j.d u s.t, layA rj s.h⟩ = some ⟨putS k.d v (putS j.d u s.t), layA rk (layA rj s.h)⟩) →
      ∃ t1 t2, stepG τ T j s = some t1 ∧ stepG τ T k t1 = some t2 ∧ Teq s2 t2 := by
    intro rk rj h1 h2 f1 f2 g1 g2
    have hne : ∀ p q, rk = some p → rj = some q → p.1 ≠ q.1 := by
      intro p q hp hq e
      have := f2 q hq
      rw [h1, hp, layA_get] at this
      simp only [e, if_true] at this
      cases this
    refine ⟨_, _, g1, g2 (fun p hp => ?_), hget, fun l => ?_⟩
    · rw [layA_get]
      cases hr : rj with
      | none => exact f1 p hp
      | some q => simp only; rw [if_neg (Ne.symm (hne p q hp hr))]; exact f1 p hp
    · rw [h2, h1, layA_get, layA_get, layA_get, layA_get]
      cases hp : rk with
      | none => rfl
      | some p =>
        cases hq : rj with
        | none => rfl
        | some q =>
          simp only
          by_cases a : p.1 = l
          · rw [if_pos a, if_neg (by rw [← a]; exact Ne.symm (hne p q hp hq))]
            simp [a]
          · rw [if_neg a]
            split <;> first | rfl | rw [if_neg a]
  -- the cases
  cases ck : cls k.o with
  | hf =>
    obtain ⟨q1, q2⟩ := K.hf ck
    rw [q1] at any1
    exact ⟨_, _, any1, q2 _ _ hKt, hget, .refl _⟩
  | rd =>
    obtain ⟨q1, q2⟩ := K.rd ck
    rw [q1] at any1
    cases cj : cls j.o with
    | hf =>
      obtain ⟨p1, p2⟩ := J.hf cj
      refine ⟨_, _, any1, q2 _ _ hKt ?_, hget, .refl _⟩
      rw [p1, q1]; exact fun _ _ e => e
    | rd =>
      obtain ⟨p1, p2⟩ := J.rd cj
      refine ⟨_, _, any1, q2 _ _ hKt ?_, hget, .refl _⟩
      rw [p1, q1]; exact fun _ _ e => e
    | al =>
      obtain ⟨r, p1, p2, _, _⟩ := J.al (.inl cj)
      refine ⟨_, _, any1, q2 _ _ hKt ?_, hget, .refl _⟩
      rw [p1, q1]; rw [q1] at p2; exact sub_layA p2
    | ra =>
      obtain ⟨r, p1, p2, _, _⟩ := J.al (.inr cj)
      refine ⟨_, _, any1, q2 _ _ hKt ?_, hget, .refl _⟩
      rw [p1, q1]; rw [q1] at p2; exact sub_layA p2
    | rf =>
      obtain ⟨p1, p2⟩ := J.rf cj
      refine ⟨_, _, any1, q2 _ _ hKt ?_, hget, .refl _⟩
      rw [p1, q1]; exact fun _ _ e => e
    | _ => rw [apartH, ck, cj] at hC; cases hC
  | rf =>
    obtain ⟨q1, q2⟩ := K.rf ck
    rw [q1] at any1
    have frame : (cls j.o = .cf ∨ cls j.o = .sf) → inA (rootOf k.o) (frOf j.o) = true → ∀ l o, locD (ev s.t (rootOf k.o)) = some l → getO s.h l = some o → getO s2.h l = some o := by
      intro hc hi l o hl hg
      have hm := inA_spec hi
      have hr : ev s1.t (rootOf k.o) = ev s.t (rootOf k.o) := by
        have hsub : Agree (rdA (rootOf k.o)) s1.t s.t := by
          intro n hn
          refine hJt n ?_
          have : n ∈ rds j.o := by
            have h2 : ∀ {l : List A}, rootOf k.o ∈ l → n ∈ rdL l := by
              intro l
              induction l with
              | nil => intro h; cases h
              | cons x xs ih =>
                intro h
                rw [rdL]
                cases h with
                | head => exact List.mem_append_left _ hn
                | tail _ h => exact List.mem_append_right _ (ih h)
            cases hjo : j.o <;> rw [hjo] at hm <;> simp only [frOf] at hm <;> try (exact absurd hm (by simp))
            · exact List.mem_append_right _ (List.mem_append_right _ (h2 hm))
            · exact List.mem_append_right _ (List.mem_append_right _ (h2 hm))
          exact List.mem_append_left _ this
        exact (ev_agree hsub).symm
      exact J.fr hc _ hm l o (by rw [hr]; exact hl) (by rw [q1]; exact hg)
    cases cj : cls j.o with
    | hf =>
      obtain ⟨p1, p2⟩ := J.hf cj
      refine ⟨_, _, any1, q2 _ _ hKt ?_, hget, .refl _⟩
      rw [p1, q1]; exact fun _ _ _ e => e
    | rd =>
      obtain ⟨p1, p2⟩ := J.rd cj
      refine ⟨_, _, any1, q2 _ _ hKt ?_, hget, .refl _⟩
      rw [p1, q1]; exact fun _ _ _ e => e
    | rf =>
      obtain ⟨p1, p2⟩ := J.rf cj
      refine ⟨_, _, any1, q2 _ _ hKt ?_, hget, .refl _⟩
      rw [p1, q1]; exact fun _ _ _ e => e
    | al =>
      obtain ⟨r, p1, p2, _, _⟩ := J.al (.inl cj)
      refine ⟨_, _, any1, q2 _ _ hKt ?_, hget, .refl _⟩
      rw [p1, q1]; rw [q1] at p2; exact fun l o _ e => sub_layA p2 l o e
    | ra =>
      obtain ⟨r, p1, p2, _, _⟩ := J.al (.inr cj)
      refine ⟨_, _, any1, q2 _ _ hKt ?_, hget, .refl _⟩
      rw [p1, q1]; rw [q1] at p2; exact fun l o _ e => sub_layA p2 l o e
    | cf =>
      rw [apartH, ck, cj] at hC
      exact ⟨_, _, any1, q2 _ _ hKt (frame (.inl cj) hC), hget, .refl _⟩
    | sf =>
      rw [apartH, ck, cj] at hC
      exact ⟨_, _, any1, q2 _ _ hKt (frame (.inr cj) hC), hget, .refl _⟩
    | mm => rw [apartH, ck, cj] at hC; cases hC
  | al =>
    obtain ⟨rk, k1, k2, k3, k4⟩ := K.al (.inl ck)
    cases cj : cls j.o with
    | hf =>
      obtain ⟨p1, p2⟩ := J.hf cj
      exact ⟨_, _, p2 s.t s.h hJt, K.any _ hKt, hget, fun l => by rw [p1]⟩
    | al =>
      obtain ⟨rj, j1, j2, j3, j4⟩ := J.al (.inl cj)
      refine two rk rj k1 j1 k2 j2 (j4 s.t s.h hJt (.inl cj) (fun p hp => ?_)) (fun hf => k4 _ _ hKt (.inl ck) hf)
      have := j2 p hp
      rw [k1] at this
      cases hg : getO s.h p.1 with
      | none => rfl
      | some o => have := sub_layA k2 _ _ hg; simp_all
    | ra =>
      obtain ⟨rj, j1, j2, j3, j4⟩ := J.al (.inr cj)
      rw [apartH, ck, cj] at hC
      refine two rk rj k1 j1 k2 j2 (j4 s.t s.h hJt (.inr (by rw [k1]; exact (out_layA k3 hC).symm)) (fun p hp => ?_)) (fun hf => k4 _ _ hKt (.inl ck) hf)
      have := j2 p hp
      rw [k1] at this
      cases hg : getO s.h p.1 with
      | none => rfl
      | some o => have := sub_layA k2 _ _ hg; simp_all
    | cf =>
      rw [apartH, ck, cj] at hC
      cases hr : rk with
      | none =>
        subst hr
        rw [k1] at any1
        exact ⟨_, _, any1, k4 _ _ hKt (.inl ck) (fun p hp => by cases hp), hget, .refl _⟩
      | some p =>
        subst hr
        obtain ⟨x, x1, x2⟩ := k3 p rfl
        have hfree := k2 p rfl
        have hex : ∃ y, p.1 = nm y ∧ y ∈ exOf j.o := by
          rw [x1] at hC
          exact ⟨x, x2, by simpa [named] using hC⟩
        obtain ⟨Y, y1, y2, y3⟩ := J.cf cj p s.h k1 hex
        have hfree2 : getO (Y ++ s.h) p.1 = none := by rw [getO_append, y2]; exact hfree
        refine ⟨_, _, y3 s.t hJt, k4 _ _ hKt (.inl ck) (fun q hq => by injection hq with hq; subst hq; exact hfree2), hget, fun l => ?_⟩
        rw [y1, getO_append]
        show getO (p :: (Y ++ s.h)) l = _
        obtain ⟨p1, p2⟩ := p
        rw [getO_cons, getO_cons, getO_append]
        by_cases hl : p1 = l
        · subst hl
          simp only at y2
          rw [y2]
        · rw [if_neg hl, if_neg hl]
    | _ => rw [apartH, ck, cj] at hC; cases hC
  | ra =>
    obtain ⟨rk, k1, k2, k3, k4⟩ := K.al (.inr ck)
    cases cj : cls j.o with
    | hf =>
      obtain ⟨p1, p2⟩ := J.hf cj
      exact ⟨_, _, p2 s.t s.h hJt, K.any _ hKt, hget, fun l => by rw [p1]⟩
    | al =>
      obtain ⟨rj, j1, j2, j3, j4⟩ := J.al (.inl cj)
      rw [apartH, ck, cj] at hC
      refine two rk rj k1 j1 k2 j2 (j4 s.t s.h hJt (.inl cj) (fun p hp => ?_)) (fun hf => k4 _ _ hKt (.inr (out_layA j3 hC)) hf)
      have := j2 p hp
      rw [k1] at this
      cases hg : getO s.h p.1 with
      | none => rfl
      | some o => have := sub_layA k2 _ _ hg; simp_all
    | ra =>
      obtain ⟨rj, j1, j2, j3, j4⟩ := J.al (.inr cj)
      rw [apartH, ck, cj] at hC
      simp only [Bool.and_eq_true] at hC
      refine two rk rj k1 j1 k2 j2 (j4 s.t s.h hJt (.inr (by rw [k1]; exact (out_layA k3 hC.1).symm)) (fun p hp => ?_)) (fun hf => k4 _ _ hKt (.inr (out_layA j3 hC.2)) hf)
      have := j2 p hp
      rw [k1] at this
      cases hg : getO s.h p.1 with
      | none => rfl
      | some o => have := sub_layA k2 _ _ hg; simp_all
    | _ => rw [apartH, ck, cj] at hC; cases hC
  | _ =>
    cases cj : cls j.o with
    | hf =>
      obtain ⟨p1, p2⟩ := J.hf cj
      exact ⟨_, _, p2 s.t s.h hJt, K.any _ hKt, hget, fun l => by rw [p1]⟩
    | _ => rw [apartH, ck, cj] at hC; cases hC

/-- An operation that is apart from all ahead of it goes first. -/
theorem front {j : Co} {post : List Co} : ∀ {pre : List Co} {s s' : St}, (∀ k ∈ pre, comm k j = true) → runO τ T (pre ++ j :: post) s = some s' → ∃ s1 s'', stepG τ T j s = some s1 ∧ runO τ T (pre ++ post) s1 = some s'' ∧ Teq s' s''
  | [], s, s', _, e => by
    simp only [List.nil_append, runO] at e
    cases h1 : stepG τ T j s with
    | none => rw [h1] at e; cases e
    | some s1 => rw [h1] at e; exact ⟨s1, s', rfl, e, .refl _⟩
  | k :: pre, s, s', hc, e => by
    simp only [List.cons_append, runO] at e
    cases h1 : stepG τ T k s with
    | none => rw [h1] at e; cases e
    | some s1 =>
      rw [h1] at e
      obtain ⟨s2, s3, a1, a2, a3⟩ := front (fun x hx => hc x (by simp [hx])) e
      obtain ⟨t1, t2, b1, b2, b3⟩ := swap (hc k (by simp)) h1 a1
      obtain ⟨t3, c1, c2⟩ := runO_teq a2 b3
      refine ⟨t1, t3, b1, ?_, a3.trans c2⟩
      simp only [List.cons_append, runO, b2]
      exact c1

end

/-! ### any order -/
def bpreds (ops : Array Oper) (i : Nat) : List Nat :=
  match ops[i]? with
  | some o => (o.after.toList.filter (Region.binds .any ·)).map (·.on)
  | none => []
/-- All that is ahead of some, at last. -/
def reach (ops : Array Oper) : Nat → List Nat → List Nat → List Nat
  | 0, _, vis => vis
  | _ + 1, [], vis => vis
  | n + 1, x :: xs, vis => bif vis.contains x then reach ops n xs vis else reach ops n (bpreds ops x ++ xs) (x :: vis)
def ancOf (ops : Array Oper) (j : Nat) : List Nat := reach ops 2000 (bpreds ops j) []
theorem reach_all {ops : Array Oper} {Q : Nat → Prop} (hQ : ∀ x, Q x → ∀ e ∈ bpreds ops x, Q e) : ∀ (n : Nat) (xs vis : List Nat), (∀ x ∈ xs, Q x) → (∀ x ∈ vis, Q x) → ∀ x ∈ reach ops n xs vis, Q x
  | 0, _, _, _, h2 => h2
  | _ + 1, [], _, _, h2 => h2
  | n + 1, x :: xs, vis, h1, h2 => by
    simp only [reach]
    cases hv : vis.contains x with
    | true => exact reach_all hQ n xs vis (fun y hy => h1 y (List.mem_cons_of_mem _ hy)) h2
    | false =>
      refine reach_all hQ n _ _ (fun y hy => ?_) (fun y hy => ?_)
      · rcases List.mem_append.1 hy with q | q
        · exact hQ x (h1 x (by simp)) y q
        · exact h1 y (List.mem_cons_of_mem _ q)
      · cases hy with
        | head => exact h1 x (by simp)
        | tail _ q => exact h2 y q
def fNs {α : Type} : List Nat → (List Nat → α) → α
  | [], k => k []
  | x :: xs, k => match x with | 0 => fNs xs fun xs => k (0 :: xs) | y + 1 => fNs xs fun xs => k ((y + 1) :: xs)
theorem fNs_eq {α : Type} : ∀ (l : List Nat) (k : List Nat → α), fNs l k = k l
  | [], _ => rfl
  | 0 :: xs, k => by rw [fNs, fNs_eq xs]
  | (y + 1) :: xs, k => by rw [fNs, fNs_eq xs]
def okAt (τ : Nat → Option TI) (N : Nat) (ops : Array Oper) (z : Nat × Co) : Bool :=
  match ops[z.1]? with
  | some o => okOp τ N ops o z.2
  | none => false
def okPair (ops : Array Oper) (R : List Nat) (k j : Nat × Co) : Bool := !(j.1 == k.1) && (!(bpreds ops k.1).contains j.1 && (R.contains k.1 || comm k.2 j.2))
def okPw (ops : Array Oper) : List (Nat × Co) → List (Nat × Co) → Bool
  | _, [] => true
  | pre, j :: l => !(bpreds ops j.1).contains j.1 && (fNs (ancOf ops j.1) (fun R => pre.all (fun k => okPair ops R k j)) && okPw ops (j :: pre) l)
def okDraw (τ : Nat → Option TI) (N : Nat) (ops : Array Oper) (p : List Nat) (cs : List Co) : Bool :=
  p.length == cs.length && (p.length == ops.size && ((List.range ops.size).all (fun i => p.contains i) && ((p.zip cs).all (fun z => okAt τ N ops z && (bpreds ops z.1).all (fun i => decide (i < ops.size))) && okPw ops [] (p.zip cs))))

def Pw (ops : Array Oper) (k j : Nat × Co) : Prop := j.1 ≠ k.1 ∧ j.1 ∉ bpreds ops k.1 ∧ (k.1 ∈ ancOf ops j.1 ∨ comm k.2 j.2 = true)
theorem okPw_spec {ops} : ∀ {l pre}, okPw ops pre l = true → l.Pairwise (Pw ops) ∧ (∀ z ∈ l, z.1 ∉ bpreds ops z.1) ∧ ∀ k ∈ pre, ∀ j ∈ l, Pw ops k j
  | [], _, _ => ⟨.nil, by simp, by simp⟩
  | j :: l, pre, h => by
    simp only [okPw, fNs_eq, Bool.and_eq_true, Bool.not_eq_true', List.all_eq_true] at h
    obtain ⟨h0, h1, h2⟩ := h
    obtain ⟨g1, g2, g3⟩ := okPw_spec h2
    have hp : ∀ k ∈ pre, Pw ops k j := by
      intro k hk
      have := h1 k hk
      simp only [okPair, Bool.and_eq_true, Bool.or_eq_true, Bool.not_eq_true', beq_eq_false_iff_ne, List.contains_iff_mem] at this
      exact ⟨this.1, by simpa using this.2.1, this.2.2⟩
    refine ⟨.cons (fun x hx => g3 j (by simp) x hx) g1, fun z hz => ?_, fun k hk x hx => ?_⟩
    · cases hz with
      | head => simpa using h0
      | tail _ hz => exact g2 z hz
    · cases hx with
      | head => exact hp k hk
      | tail _ hx => exact g3 k (List.mem_cons_of_mem _ hk) x hx

/-- The set of those that are still to come is closed under 'is ahead of': so none of those is ahead of one that is ready. -/
theorem pred_rem {ops : Array Oper} {rem : List (Nat × Co)} (hdown : ∀ m, (∀ z ∈ rem, z.1 ≠ m) → ∀ e ∈ bpreds ops m, ∀ z ∈ rem, z.1 ≠ e) (m : Nat) (hm : ∀ e ∈ bpreds ops m, ∀ z ∈ rem, z.1 ≠ e) (k : Nat) (h : k ∈ ancOf ops m) : ∀ z ∈ rem, z.1 ≠ k :=
  reach_all (Q := fun x => ∀ z ∈ rem, z.1 ≠ x) (fun x hx => hdown x hx) 2000 _ [] hm (by simp) k h

section
variable {P : Program} {τ : Nat → Option TI} {T : Tm} (hτ : ∀ t i, τ t = some i → TIok P t i) (hT : TmOk P T)
variable {X : Ctx}

theorem sg_heq {h h' : List (Nat × Ob)} (q : Heq h h') : sg h' = sg h := by funext l; unfold sg; rw [q l]
theorem W_heq {φ : Nat → Nat} {h h' : List (Nat × Ob)} (q : Heq h h') : W φ h' = W φ h := by
  funext b
  unfold W
  exact propext ⟨fun ⟨l, o, h1, h2⟩ => ⟨l, o, by rw [← q l]; exact h1, h2⟩, fun ⟨l, o, h1, h2⟩ => ⟨l, o, by rw [q l]; exact h1, h2⟩⟩
theorem Mx_heq {M0 : Nat → Prop} {φ : Nat → Nat} {h h' : List (Nat × Ob)} (q : Heq h h') : Mx M0 φ h' = Mx M0 φ h := by
  funext b
  unfold Mx
  rw [W_heq q]
theorem HpOk.heq {w : World} {M0 : Nat → Prop} {φ : Nat → Nat} {h h' : List (Nat × Ob)} (hp : HpOk w M0 φ h) (q : Heq h h') : HpOk w M0 φ h' :=
  ⟨fun l o e1 e2 => by rw [Mx_heq q, sg_heq q]; exact hp.ob l o (by rw [← q l]; exact e1) e2,
    fun l l' o o' e1 e2 e3 e4 => hp.inj l l' o o' (by rw [← q l]; exact e1) e2 (by rw [← q l']; exact e3) e4,
    fun l o e1 e2 => hp.m0 l o (by rw [← q l]; exact e1) e2, fun l o e1 e2 => hp.lt l o (by rw [← q l]; exact e1) e2⟩
theorem Sim.teq {a w} {s t : St} (S : Sim X a w s) (h : Teq s t) : Sim X a w t := by
  obtain ⟨φ, S⟩ := S
  obtain ⟨h1, h2⟩ := h
  refine ⟨φ, ⟨S.size, S.defers, S.hp.heq h2, S.ext, fun b hb e => S.wr b hb (by rw [W_heq h2] at e; exact e), S.m0, fun n => ?_, fun l z e => ?_⟩⟩
  · have := S.tm n
    rw [h1 n] at this
    rw [Mx_heq h2, sg_heq h2]
    exact this
  · rw [sg_heq h2]; exact S.up l z e

include hτ hT in
theorem any_sound {ops : Array Oper} {Q : Exit → Act → World → Prop} {s' : St} (hQ : ∀ a w, Sim X a w s' → Q .normal a w) : ∀ (n : Nat) (rem : List (Nat × Co)) (listed : Array Bool) (a : Act) (w : World) (s s2 : St), rem.length = n →
    (∀ z ∈ rem, okAt τ X.N ops z = true ∧ ∀ e ∈ bpreds ops z.1, e < ops.size) → rem.Pairwise (Pw ops) → (∀ z ∈ rem, z.1 ∉ bpreds ops z.1) →
    (∀ i, i < ops.size → (listed.getD i true = false ↔ ∃ z ∈ rem, z.1 = i)) → listed.size = ops.size →
    (∀ m, (∀ z ∈ rem, z.1 ≠ m) → ∀ e ∈ bpreds ops m, ∀ z ∈ rem, z.1 ≠ e) →
    Sim X a w s → runO τ T (rem.map (·.2)) s = some s2 → Teq s2 s' → wpAny P .any ops Q n listed a w := by
  intro n
  induction n with
  | zero =>
    intro rem listed a w s s2 hn hok hpw hself hl hls hdown S e ht
    have : rem = [] := List.eq_nil_of_length_eq_zero hn
    subst this
    cases e
    refine ⟨?_, hQ _ _ (S.teq ht)⟩
    cases hr : Region.ready .any ops listed with
    | nil => rfl
    | cons j js =>
      have hj : j ∈ Region.ready .any ops listed := by rw [hr]; simp
      obtain ⟨h1, o, h2, _⟩ := mem_ready.1 hj
      obtain ⟨z, hz, _⟩ := (hl j (Array.getElem?_eq_some_iff.1 h2).1).1 h1
      cases hz
  | succ n ih =>
    intro rem listed a w s s2 hn hok hpw hself hl hls hdown S e ht
    have lst : ∀ i, i < ops.size → (∀ z ∈ rem, z.1 ≠ i) → listed.getD i false = true := by
      intro i hi hz
      have h1 : i < listed.size := by omega
      have h2 := (not_congr (hl i hi)).2 (fun ⟨z, a, b⟩ => hz z a b)
      simp only [Array.getD_eq_getD_getElem?, Array.getElem?_eq_getElem h1, Option.getD_some, Bool.not_eq_false] at h2 ⊢
      exact h2
    refine ⟨fun hr => ?_, fun i hi => ?_⟩
    · -- the first of the rest is ready
      exfalso
      match rem, hn with
      | z :: rest, _ =>
        have hin : z.1 ∈ Region.ready .any ops listed := by
          obtain ⟨h1, h2⟩ := hok z (by simp)
          unfold okAt at h1
          split at h1
          · rename_i o ho
            have hlt := (Array.getElem?_eq_some_iff.1 ho).1
            refine mem_ready.2 ⟨(hl z.1 hlt).2 ⟨z, by simp, rfl⟩, o, ho, fun ed hed hb => ?_⟩
            have hp : ed.on ∈ bpreds ops z.1 := by
              simp only [bpreds, ho]
              exact List.mem_map.2 ⟨ed, List.mem_filter.2 ⟨by simpa using hed, hb⟩, rfl⟩
            refine lst _ (h2 _ hp) (fun y hy he => ?_)
            cases hy with
            | head => exact hself z (by simp) (he ▸ hp)
            | tail _ hy =>
              have := (List.pairwise_cons.1 hpw).1 y hy
              exact this.2.1 (he ▸ hp)
          · cases h1
        rw [hr] at hin; cases hin
    · obtain ⟨h1, o, ho, h3⟩ := mem_ready.1 hi
      have hlt := (Array.getElem?_eq_some_iff.1 ho).1
      obtain ⟨z, hz, rfl⟩ := (hl i hlt).1 h1
      obtain ⟨pre, post, rfl⟩ := List.append_of_mem hz
      -- what is ahead of i is done
      have hpd : ∀ e ∈ bpreds ops z.1, ∀ y ∈ pre ++ z :: post, y.1 ≠ e := by
        intro e' he y hy hye
        simp only [bpreds, ho, List.mem_map, List.mem_filter] at he
        obtain ⟨ed, ⟨q1, q2⟩, q3⟩ := he
        have q4 := h3 ed (by simpa using q1) q2
        have hlt2 : ed.on < ops.size := by
          have := (hok z hz).2 ed.on (by simp only [bpreds, ho, List.mem_map, List.mem_filter]; exact ⟨ed, ⟨q1, q2⟩, rfl⟩)
          exact this
        have q5 := (hl ed.on hlt2).2 ⟨y, hy, by rw [hye, q3]⟩
        rw [Array.getD_eq_getD_getElem?, Array.getElem?_eq_getElem (by omega)] at q4 q5
        simp at q4 q5
        rw [q4] at q5; cases q5
      have hcm : ∀ k ∈ pre.map (·.2), comm k z.2 = true := by
        intro k hk
        obtain ⟨k', hk', rfl⟩ := List.mem_map.1 hk
        have hp := (List.pairwise_append.1 hpw).2.2 k' hk' z (by simp)
        rcases hp.2.2 with q | q
        · exact absurd rfl (pred_rem hdown z.1 hpd k'.1 q k' (by simp [hk']))
        · exact q
      simp only [List.map_append, List.map_cons] at e
      obtain ⟨s1, s3, e1, e2, e3⟩ := front hcm e
      have hop : okOp τ X.N ops o z.2 = true := by
        have := (hok z hz).1
        simpa only [okAt, ho] using this
      have hsub : ∀ y ∈ pre ++ post, y ∈ pre ++ z :: post := by
        intro y hy
        rcases List.mem_append.1 hy with q | q
        · exact List.mem_append_left _ q
        · exact List.mem_append_right _ (List.mem_cons_of_mem _ q)
      have hsl : (pre ++ post).Sublist (pre ++ z :: post) := List.Sublist.append_left (List.sublist_cons_self _ _) _
      have hne : ∀ y ∈ pre ++ post, y.1 ≠ z.1 := by
        intro y hy
        rcases List.mem_append.1 hy with q | q
        · exact fun e => ((List.pairwise_append.1 hpw).2.2 y q z (by simp)).1 e.symm
        · exact ((List.pairwise_cons.1 (List.pairwise_append.1 hpw).2.1).1 y q).1
      have key : ∀ a' w', Sim X a' w' s1 → wpAny P .any ops Q n (listed.setIfInBounds z.1 true) a' w' := by
        intro a' w' S'
        refine ih (pre ++ post) _ a' w' s1 s3 (by simp at hn ⊢; omega) (fun y hy => hok y (hsub y hy)) (hpw.sublist hsl) (fun y hy => hself y (hsub y hy)) (fun i hi => ?_) (by simp [hls]) (fun m hm e he y hy => ?_) S' (by simpa using e2) ⟨fun n => (e3.1 n).symm.trans (ht.1 n), e3.2.symm.trans ht.2⟩
        · by_cases hiz : z.1 = i
          · subst hiz
            have : z.1 < listed.size := by omega
            simp [Array.getD_eq_getD_getElem?, this]
            intro x
            exact ⟨fun h => hne _ (List.mem_append_left _ h) rfl, fun h => hne _ (List.mem_append_right _ h) rfl⟩
          · rw [Array.getD_eq_getD_getElem?, Array.getElem?_setIfInBounds_ne hiz, ← Array.getD_eq_getD_getElem?, hl i hi]
            constructor
            · rintro ⟨y, hy, rfl⟩
              rcases List.mem_append.1 hy with q | q
              · exact ⟨y, List.mem_append_left _ q, rfl⟩
              · cases q with
                | head => exact absurd rfl hiz
                | tail _ q => exact ⟨y, List.mem_append_right _ q, rfl⟩
            · rintro ⟨y, hy, rfl⟩; exact ⟨y, hsub y hy, rfl⟩
        · by_cases hmz : z.1 = m
          · subst hmz; exact hpd e he y (hsub y hy)
          · refine hdown m (fun x hx => ?_) e he y (hsub y hy)
            rcases List.mem_append.1 hx with q | q
            · exact hm x (List.mem_append_left _ q)
            · cases q with
              | head => exact hmz
              | tail _ q => exact hm x (List.mem_append_right _ q)
      have := stepG_sound hτ hT S hop e1 (wpAny P .any ops Q n (listed.setIfInBounds z.1 true)) Q key
      unfold wpOp
      rw [ho]
      exact this

include hτ hT in
theorem region_any {ops : Array Oper} {p : List Nat} {cs : List Co} {id : Nat} {Q : Exit → Act → World → Prop} {a : Act} {w : World} {s s' : St} (hm : P.follows .mixedOrders = true) (h : okDraw τ X.N ops p cs = true) (S : Sim X a w s) (e : runO τ T cs s = some s') (hq : ∀ a' w', Sim X a' w' s' → Q .normal a' w') : (Code.region id ops true).wp P Q a w := by
  simp only [okDraw, Bool.and_eq_true, beq_iff_eq, List.all_eq_true, decide_eq_true_eq, List.mem_range, List.contains_iff_mem] at h
  obtain ⟨h1, hlen, h2, h3, h4⟩ := h
  obtain ⟨h5, h6, _⟩ := okPw_spec h4
  have hmap : (p.zip cs).map (·.2) = cs := by
    rw [List.map_snd_zip]; omega
  have hfst : (p.zip cs).map (·.1) = p := by
    rw [List.map_fst_zip]; omega
  refine wp_region_any hm ?_
  have S' : Sim X a { w with drawn := w.drawn + 1 } s := by
    obtain ⟨φ, S⟩ := S
    have n := Nx.frame S.hp (Ext.drew (fun _ => False) w 1)
    exact ⟨φ, S.heap n⟩
  refine any_sound hτ hT hq ops.size (p.zip cs) _ a _ s s' (by simp; omega) (fun z hz => ⟨(h3 z hz).1, (h3 z hz).2⟩) h5 h6 (fun i hi => ?_) (by simp) (fun m hm e he z hz => ?_) S' (by rw [hmap]; exact e) (.refl _)
  · constructor
    · intro _
      have := h2 i hi
      rw [← hfst] at this
      obtain ⟨z, hz, hz2⟩ := List.mem_map.1 this
      exact ⟨z, hz, hz2⟩
    · intro _
      simp [Array.getD_eq_getD_getElem?, hi]
  · -- nothing is done as yet
    intro hze
    have hms : ¬ m < ops.size := by
      intro hlt2
      have := h2 m hlt2
      rw [← hfst] at this
      obtain ⟨y, hy, hy2⟩ := List.mem_map.1 this
      exact hm y hy hy2
    have : bpreds ops m = [] := by
      unfold bpreds
      have : ops[m]? = none := by simp; omega
      rw [this]
    rw [this] at he; cases he

end
end Go.Proofs.Ytemcdpkiphmndaa.Ab
