/- Ab3: what it means that abstract data stands in memory, and what keeps it standing. -/
import Derived.Test.YtemcdpkiphmndaaAb2
import Derived.Laws.AppendOwn
import Derived.Below
import Derived.MapKept
namespace Go.Proofs.Ytemcdpkiphmndaa.Ab

/-! ### worlds -/
/-- From w to w' nothing but the blocks of S has turned, and these have kept their shape. -/
structure Ext (S : Nat → Prop) (w w' : World) : Prop where
  os : w'.os = w.os
  tape : w'.tape = w.tape
  output : w'.output = w.output
  size : w.heap.size ≤ w'.heap.size
  same : ∀ b : Nat, b < w.heap.size → ¬ S b → w'.heap[b]? = w.heap[b]?
  shape : ∀ (b : Nat) (cur : Array Value) (ty : TypeId), w.heap[b]? = some (Obj.cells cur ty (0, 0)) → ∃ cur' : Array Value, w'.heap[b]? = some (Obj.cells cur' ty (0, 0)) ∧ cur'.size = cur.size

theorem Ext.refl (S : Nat → Prop) (w : World) : Ext S w w := ⟨rfl, rfl, rfl, Nat.le_refl _, fun _ _ _ => rfl, fun _ cur _ h => ⟨cur, h, rfl⟩⟩
theorem Ext.trans {S S' : Nat → Prop} {a b c : World} (h : Ext S a b) (k : Ext S' b c) (hs : ∀ x, x < a.heap.size → S' x → S x) : Ext S a c :=
  ⟨k.os.trans h.os, k.tape.trans h.tape, k.output.trans h.output, Nat.le_trans h.size k.size,
    fun x hx hn => (k.same x (Nat.lt_of_lt_of_le hx h.size) (fun e => hn (hs x hx e))).trans (h.same x hx hn),
    fun x cur ty e => by
      obtain ⟨c1, h1, e1⟩ := h.shape x cur ty e
      obtain ⟨c2, h2, e2⟩ := k.shape x c1 ty h1
      exact ⟨c2, h2, e2.trans e1⟩⟩
theorem Ext.mono {S S' : Nat → Prop} {a b : World} (h : Ext S a b) (hs : ∀ x, x < a.heap.size → S x → S' x) : Ext S' a b :=
  ⟨h.os, h.tape, h.output, h.size, fun x hx hn => h.same x hx (fun e => hn (hs x hx e)), h.shape⟩
theorem Ext.drew (S : Nat → Prop) (w : World) (n : Nat) : Ext S w { w with drawn := w.drawn + n } := ⟨rfl, rfl, rfl, Nat.le_refl _, fun _ _ _ => rfl, fun _ cur _ h => ⟨cur, h, rfl⟩⟩
theorem lt_of_heap {w : World} {b : Nat} {o : Obj} (h : w.heap[b]? = some o) : b < w.heap.size := (Array.getElem?_eq_some_iff.1 h).1
theorem Ext.alloc (S : Nat → Prop) (w : World) (o : Obj) : Ext S w (w.alloc o) :=
  ⟨rfl, rfl, rfl, by simp, fun b hb _ => heap_alloc_old w o b hb, fun b cur ty h => ⟨cur, by rw [heap_alloc_old w o b (lt_of_heap h)]; exact h, rfl⟩⟩
theorem Ext.setRow {S : Nat → Prop} (w : World) (g : Nat) (old cs : Array Value) (ty : TypeId) (hg : w.heap[g]? = some (.cells old ty (0, 0))) (hsz : cs.size = old.size) (hS : S g) : Ext S w (w.setRow g cs) := by
  refine ⟨rfl, rfl, rfl, by simp [World.setRow], fun b _ hn => ?_, fun b cur t h => ?_⟩
  · exact setRow_other w g b cs (fun e => hn (e ▸ hS))
  · by_cases e : b = g
    · subst e
      rw [hg] at h
      injection h with h
      injection h with h1 h2 h3
      subst h1; subst h2
      exact ⟨cs, setRow_heap w b _ cs _ _ hg, hsz⟩
    · exact ⟨cur, by rw [setRow_other w g b cs e]; exact h, rfl⟩
theorem Ext.cell {S : Nat → Prop} {w w' : World} (h : Ext S w w') {b o : Nat} {u : Value} (hc : w.cell? ⟨b, o, none⟩ = some u) (hn : ¬ S b) : w'.cell? ⟨b, o, none⟩ = some u := by
  have hlt : b < w.heap.size := World.block_lt_of_cell? w ⟨b, o, none⟩ hc
  exact (World.cell?_of_block (w := w) (a := ⟨b, o, none⟩) (h.same b hlt hn)).trans hc

/-! ### data that is only read -/
inductive Rv (w : World) (M : Nat → Prop) : D → Value → Prop where
  | any (v) : Rv w M .any v
  | int (k n) : Rv w M (.int k n) (.int k n)
  | bool (b) : Rv w M (.bool b) (.bool b)
  | nilp : Rv w M .nilp (.pointer none)
  | nils : Rv w M .nils (.slice none 0 0)
  | nilf : Rv w M .nilf .nilFunc
  | nilm : Rv w M .nilm (.map none)
  | em (A : Option Addr) : Rv w M .em (.slice A 0 0)
  | ro0 (sz : Nat) (A : Option Addr) (c : Nat) : Rv w M (.ro sz []) (.slice A 0 c)
  | ro (sz : Nat) (es : List (List D)) (b o c : Nat) (u : Nat → Nat → Value) (hc : es.length ≤ c) (hb : b < w.heap.size) (hM : ¬ M b) (hl : ∀ (i : Nat) (e : List D), es[i]? = some e → e.length = sz)
      (hk : ∀ (i : Nat) (e : List D) (j : Nat) (d : D), es[i]? = some e → e[j]? = some d → okR d = true)
      (h1 : ∀ (i : Nat) (e : List D) (j : Nat) (d : D), es[i]? = some e → e[j]? = some d → w.cell? ⟨b, o + i * sz + j, none⟩ = some (u i j))
      (h2 : ∀ (i : Nat) (e : List D) (j : Nat) (d : D), es[i]? = some e → e[j]? = some d → Rv w M d (u i j)) : Rv w M (.ro sz es) (.slice (some ⟨b, o, none⟩) es.length c)
  | rop (cs : List D) (b o : Nat) (u : Nat → Value) (hb : b < w.heap.size) (hM : ¬ M b) (hk : ∀ (j : Nat) (d : D), cs[j]? = some d → okR d = true) (h1 : ∀ (j : Nat) (d : D), cs[j]? = some d → w.cell? ⟨b, o + j, none⟩ = some (u j))
      (h2 : ∀ (j : Nat) (d : D), cs[j]? = some d → Rv w M d (u j)) : Rv w M (.rop cs) (.pointer (some ⟨b, o, none⟩))

theorem Rv.mono {S : Nat → Prop} {w w' : World} {M M' : Nat → Prop} {d : D} {v : Value} (h : Rv w M d v) (he : Ext S w w') (hS : ∀ b, b < w.heap.size → S b → M b) (hM' : ∀ b, b < w.heap.size → M' b → M b) : Rv w' M' d v := by
  induction h with
  | any v => exact .any v
  | int k n => exact .int k n
  | bool b => exact .bool b
  | nilp => exact .nilp
  | nils => exact .nils
  | nilf => exact .nilf
  | nilm => exact .nilm
  | em A => exact .em A
  | ro0 s A c => exact .ro0 s A c
  | ro sz es b o c u hc hb hM hl hk h1 h2 ih =>
    exact .ro sz es b o c u hc (Nat.lt_of_lt_of_le hb he.size) (fun e => hM (hM' b hb e)) hl hk (fun i e j d a1 a2 => he.cell (h1 i e j d a1 a2) (fun e => hM (hS b hb e))) ih
  | rop cs b o u hb hM hk h1 h2 ih =>
    exact .rop cs b o u (Nat.lt_of_lt_of_le hb he.size) (fun e => hM (hM' b hb e)) hk (fun j d a => he.cell (h1 j d a) (fun e => hM (hS b hb e))) ih

/-! ### data that may lead to objects: where they lie ('φ'), how wide their elements are ('σ') -/
inductive R (w : World) (M : Nat → Prop) (φ : Nat → Nat) (σ : Nat → Option Nat) : D → Value → Prop where
  | imm {d v} (h : Rv w M d v) : R w M φ σ d v
  | ptr (l i j s : Nat) (hs : σ l = some s) : R w M φ σ (.ptr l i j) (.pointer (some ⟨φ l, i * s + j, none⟩))
  | own (l i n s c : Nat) (cur : Array Value) (ty : TypeId) (hs : σ l = some s) (hc : n ≤ c) (hm : c ≤ maxLen) (hw : w.heap[φ l]? = some (Obj.cells cur ty (0, 0))) (hz : (i + c) * s = cur.size) : R w M φ σ (.own l i n) (.slice (some ⟨φ l, i * s, none⟩) n c)
  | mp (l s : Nat) (hs : σ l = some s) : R w M φ σ (.mp l) (.map (some (φ l)))
  | agg (cs : List D) (vs : Array Value) (hl : vs.size = cs.length) (h : ∀ (j : Nat) (d : D) (v : Value), cs[j]? = some d → vs[j]? = some v → R w M φ σ d v) : R w M φ σ (.agg cs) (.agg vs)
  | tup (cs : List D) (vs : Array Value) (hl : vs.size = cs.length) (h : ∀ (j : Nat) (d : D) (v : Value), cs[j]? = some d → vs[j]? = some v → R w M φ σ d v) : R w M φ σ (.tup cs) (.tuple vs)
  | clo (f : Nat) (cs : List D) (vs : Array Value) (hl : vs.size = cs.length) (h : ∀ (j : Nat) (d : D) (v : Value), cs[j]? = some d → vs[j]? = some v → R w M φ σ d v) : R w M φ σ (.clo f cs) (.func (.func f) #[] vs)

theorem R.mono {S : Nat → Prop} {w w' : World} {M M' : Nat → Prop} {φ φ' : Nat → Nat} {σ σ' : Nat → Option Nat} {d : D} {v : Value} (h : R w M φ σ d v) (he : Ext S w w') (hS : ∀ b, b < w.heap.size → S b → M b) (hM' : ∀ b, b < w.heap.size → M' b → M b)
    (hu : ∀ l s, σ l = some s → σ' l = some s ∧ φ' l = φ l) : R w' M' φ' σ' d v := by
  induction h with
  | imm h => exact .imm (h.mono he hS hM')
  | ptr l i j s hs => rw [← (hu l s hs).2]; exact .ptr l i j s (hu l s hs).1
  | own l i n s c cur ty hs hc hm hw hz =>
    obtain ⟨cur', h1, h2⟩ := he.shape _ _ _ hw
    rw [← (hu l s hs).2] at h1 ⊢
    exact .own l i n s c cur' ty (hu l s hs).1 hc hm h1 (hz.trans h2.symm)
  | mp l s hs => rw [← (hu l s hs).2]; exact .mp l s (hu l s hs).1
  | agg cs vs hl _ ih => exact .agg cs vs hl ih
  | tup cs vs hl _ ih => exact .tup cs vs hl ih
  | clo f cs vs hl _ ih => exact .clo f cs vs hl ih

section
variable {w : World} {M : Nat → Prop} {φ : Nat → Nat} {σ : Nat → Option Nat}
theorem R.int_inv {k n v} (h : R w M φ σ (.int k n) v) : v = .int k n := by cases h with | imm h => cases h; rfl
theorem R.bool_inv {b v} (h : R w M φ σ (.bool b) v) : v = .bool b := by cases h with | imm h => cases h; rfl
theorem R.nilp_inv {v} (h : R w M φ σ .nilp v) : v = .pointer none := by cases h with | imm h => cases h; rfl
theorem R.nils_inv {v} (h : R w M φ σ .nils v) : v = .slice none 0 0 := by cases h with | imm h => cases h; rfl
theorem R.em_inv {v} (h : R w M φ σ .em v) : ∃ A, v = .slice A 0 0 := by cases h with | imm h => cases h; exact ⟨_, rfl⟩
theorem R.one {d v} (h : R w M φ σ d v) (hd : okB d = true) : v.oneCell' = true := by
  cases h with
  | imm h => cases h <;> first | rfl | cases hd
  | agg => cases hd
  | tup => cases hd
  | _ => rfl
theorem okR_okB {d : D} (h : okR d = true) : okB d = true := by cases d <;> first | rfl | cases h
theorem R.imm_of {d v} (h : R w M φ σ d v) (hd : okR d = true) : Rv w M d v := by
  cases h with
  | imm h => exact h
  | _ => cases hd
end

/-! ### the heap of objects -/
def sg (h : List (Nat × Ob)) (l : Nat) : Option Nat := (getO h l).map (·.sz)
/-- The blocks that may be written. -/
def W (φ : Nat → Nat) (h : List (Nat × Ob)) (b : Nat) : Prop := ∃ l o, getO h l = some o ∧ o.st = 2 ∧ φ l = b
def Mx (M0 : Nat → Prop) (φ : Nat → Nat) (h : List (Nat × Ob)) (b : Nat) : Prop := M0 b ∨ W φ h b
def okD (k : OK) (d : D) : Bool := match k with | .box => true | .row => okR d | .map => false

/-- A block's content, as an object. -/
def ObAt (c : Obj) (w : World) (M : Nat → Prop) (φ : Nat → Nat) (σ : Nat → Option Nat) (o : Ob) : Prop :=
  (o.k ≠ .map → ∃ cur : Array Value, c = Obj.cells cur o.ty (0, 0) ∧ o.es.length * o.sz ≤ cur.size ∧ (∀ (i : Nat) (e : List D), o.es[i]? = some e → e.length = o.sz) ∧
    ∀ (i : Nat) (e : List D) (j : Nat) (d : D), o.es[i]? = some e → e[j]? = some d → okD o.k d = true ∧ ∃ u, cur[i * o.sz + j]? = some u ∧ R w M φ σ d u) ∧
  (o.k = .map → ∃ (ents : Array MapEntry) (clock : Nat), c = Obj.map ents clock ∧ ents.size = o.es.length ∧ MapKept.Stamped ents clock ∧
    ∀ (i : Nat) (e : List D), o.es[i]? = some e → ∃ (k : IntKind) (n : Int) (d : D) (en : MapEntry), e = [.int k n, d] ∧ ents[i]? = some en ∧ en.key = .int k n ∧ R w M φ σ d en.val)
def ObOk (w : World) (M : Nat → Prop) (φ : Nat → Nat) (σ : Nat → Option Nat) (b : Nat) (o : Ob) : Prop := ∃ c, w.heap[b]? = some c ∧ ObAt c w M φ σ o
theorem ObOk.cells {w : World} {M : Nat → Prop} {φ : Nat → Nat} {σ : Nat → Option Nat} {b : Nat} {o : Ob} (h : ObOk w M φ σ b o) (hk : o.k ≠ .map) : ∃ cur : Array Value, w.heap[b]? = some (Obj.cells cur o.ty (0, 0)) ∧ o.es.length * o.sz ≤ cur.size ∧ (∀ (i : Nat) (e : List D), o.es[i]? = some e → e.length = o.sz) ∧
    ∀ (i : Nat) (e : List D) (j : Nat) (d : D), o.es[i]? = some e → e[j]? = some d → okD o.k d = true ∧ ∃ u, cur[i * o.sz + j]? = some u ∧ R w M φ σ d u := by
  obtain ⟨c, h1, h2, _⟩ := h
  obtain ⟨cur, rfl, h3⟩ := h2 hk
  exact ⟨cur, h1, h3⟩
theorem ObOk.map {w : World} {M : Nat → Prop} {φ : Nat → Nat} {σ : Nat → Option Nat} {b : Nat} {o : Ob} (h : ObOk w M φ σ b o) (hk : o.k = .map) : ∃ (ents : Array MapEntry) (clock : Nat), w.heap[b]? = some (Obj.map ents clock) ∧ ents.size = o.es.length ∧ MapKept.Stamped ents clock ∧
    ∀ (i : Nat) (e : List D), o.es[i]? = some e → ∃ (k : IntKind) (n : Int) (d : D) (en : MapEntry), e = [.int k n, d] ∧ ents[i]? = some en ∧ en.key = .int k n ∧ R w M φ σ d en.val := by
  obtain ⟨c, h1, _, h2⟩ := h
  obtain ⟨ents, clock, rfl, h3⟩ := h2 hk
  exact ⟨ents, clock, h1, h3⟩
/-- The cells of an object that is no map. -/
theorem ObAt.of_cells {w : World} {M : Nat → Prop} {φ : Nat → Nat} {σ : Nat → Option Nat} {o : Ob} {cur : Array Value} (hk : o.k ≠ .map) (h2 : o.es.length * o.sz ≤ cur.size) (h3 : ∀ (i : Nat) (e : List D), o.es[i]? = some e → e.length = o.sz)
    (h4 : ∀ (i : Nat) (e : List D) (j : Nat) (d : D), o.es[i]? = some e → e[j]? = some d → okD o.k d = true ∧ ∃ u, cur[i * o.sz + j]? = some u ∧ R w M φ σ d u) : ObAt (Obj.cells cur o.ty (0, 0)) w M φ σ o :=
  ⟨fun _ => ⟨cur, rfl, h2, h3, h4⟩, fun e => absurd e hk⟩

def Live (o : Ob) : Prop := o.st = 1 ∨ o.st = 2

structure HpOk (w : World) (M0 : Nat → Prop) (φ : Nat → Nat) (h : List (Nat × Ob)) : Prop where
  ob : ∀ l o, getO h l = some o → Live o → ObOk w (Mx M0 φ h) φ (sg h) (φ l) o
  inj : ∀ l l' o o', getO h l = some o → o.st = 2 → getO h l' = some o' → Live o' → φ l = φ l' → l = l'
  m0 : ∀ l o, getO h l = some o → Live o → ¬ M0 (φ l)
  lt : ∀ l o, getO h l = some o → Live o → φ l < w.heap.size

/-- From one heap of objects to the next. -/
structure Nx (M0 : Nat → Prop) (φ : Nat → Nat) (h : List (Nat × Ob)) (w : World) (φ' : Nat → Nat) (h' : List (Nat × Ob)) (w' : World) : Prop where
  ext : Ext (W φ h) w w'
  hp : HpOk w' M0 φ' h'
  up : ∀ l s, sg h l = some s → sg h' l = some s ∧ φ' l = φ l
  mx : ∀ b, b < w.heap.size → W φ' h' b → W φ h b

theorem Nx.r {M0 φ h w φ' h' w'} (n : Nx M0 φ h w φ' h' w') {d v} (hr : R w (Mx M0 φ h) φ (sg h) d v) : R w' (Mx M0 φ' h') φ' (sg h') d v :=
  hr.mono n.ext (fun _ _ hb => .inr hb) (fun b hb hm => hm.elim .inl (fun e => .inr (n.mx b hb e))) n.up
theorem Nx.refl {M0 φ h w} (hp : HpOk w M0 φ h) : Nx M0 φ h w φ h w := ⟨.refl _ _, hp, fun _ _ e => ⟨e, rfl⟩, fun _ _ e => e⟩
theorem Nx.trans {M0 φ h w φ1 h1 w1 φ2 h2 w2} (a : Nx M0 φ h w φ1 h1 w1) (b : Nx M0 φ1 h1 w1 φ2 h2 w2) : Nx M0 φ h w φ2 h2 w2 :=
  ⟨a.ext.trans b.ext (fun x hx => a.mx x hx), b.hp, fun l s e => by
    obtain ⟨e1, e2⟩ := a.up l s e
    obtain ⟨e3, e4⟩ := b.up l s e1
    exact ⟨e3, e4.trans e2⟩, fun x hx e => a.mx x hx (b.mx x (Nat.lt_of_lt_of_le hx a.ext.size) e)⟩

theorem ObAt.mono {S : Nat → Prop} {w w' : World} {M M' : Nat → Prop} {φ φ' : Nat → Nat} {σ σ' : Nat → Option Nat} {c : Obj} {o : Ob} (h : ObAt c w M φ σ o) (he : Ext S w w') (hS : ∀ b, b < w.heap.size → S b → M b) (hM' : ∀ b, b < w.heap.size → M' b → M b)
    (hu : ∀ l s, σ l = some s → σ' l = some s ∧ φ' l = φ l) : ObAt c w' M' φ' σ' o := by
  refine ⟨fun hk => ?_, fun hk => ?_⟩
  · obtain ⟨cur, h1, h2, h3, h4⟩ := h.1 hk
    refine ⟨cur, h1, h2, h3, fun i e j d a1 a2 => ?_⟩
    obtain ⟨h5, u, h6, h7⟩ := h4 i e j d a1 a2
    exact ⟨h5, u, h6, h7.mono he hS hM' hu⟩
  · obtain ⟨ents, clock, h1, h2, hst, h3⟩ := h.2 hk
    refine ⟨ents, clock, h1, h2, hst, fun i e a => ?_⟩
    obtain ⟨k, n, d, en, g1, g2, g3, g4⟩ := h3 i e a
    exact ⟨k, n, d, en, g1, g2, g3, g4.mono he hS hM' hu⟩
theorem ObOk.mono {S : Nat → Prop} {w w' : World} {M M' : Nat → Prop} {φ φ' : Nat → Nat} {σ σ' : Nat → Option Nat} {b : Nat} {o : Ob} (h : ObOk w M φ σ b o) (he : Ext S w w') (hb : w'.heap[b]? = w.heap[b]?) (hS : ∀ b, b < w.heap.size → S b → M b) (hM' : ∀ b, b < w.heap.size → M' b → M b)
    (hu : ∀ l s, σ l = some s → σ' l = some s ∧ φ' l = φ l) : ObOk w' M' φ' σ' b o := by
  obtain ⟨c, h1, h2⟩ := h
  exact ⟨c, hb.trans h1, h2.mono he hS hM' hu⟩

theorem getO_cons (l : Nat) (o : Ob) (h) (n : Nat) : getO ((l, o) :: h) n = if l = n then some o else getO h n := rfl
theorem sg_cons (l : Nat) (o : Ob) (h) (n : Nat) : sg ((l, o) :: h) n = if l = n then some o.sz else sg h n := by
  unfold sg; rw [getO_cons]; split <;> rfl

/-- Without a world's change: an object is written no more, or is gone. -/
theorem Nx.cool {M0 φ h w} (hp : HpOk w M0 φ h) {l : Nat} {o : Ob} (ho : getO h l = some o) (k : Nat) (hk : k = 0 ∨ (k = 1 ∧ Live o)) : Nx M0 φ h w φ ((l, ⟨k, o.k, o.ty, o.sz, o.es⟩) :: h) w := by
  have hsub : ∀ b, W φ ((l, ⟨k, o.k, o.ty, o.sz, o.es⟩) :: h) b → W φ h b := by
    rintro b ⟨l', o', h1, h2, h3⟩
    rw [getO_cons] at h1
    by_cases e : l = l'
    · rw [if_pos e] at h1; injection h1 with h1; subst h1; rcases hk with rfl | ⟨rfl, _⟩ <;> simp at h2
    · rw [if_neg e] at h1; exact ⟨l', o', h1, h2, h3⟩
  have hup : ∀ l' s, sg h l' = some s → sg ((l, ⟨k, o.k, o.ty, o.sz, o.es⟩) :: h) l' = some s ∧ φ l' = φ l' := by
    intro l' s e
    refine ⟨?_, rfl⟩
    rw [sg_cons]
    by_cases e2 : l = l'
    · subst e2; rw [if_pos rfl]; unfold sg at e; rw [ho] at e; exact e
    · rw [if_neg e2]; exact e
  refine ⟨.refl _ _, ⟨?_, ?_, ?_, ?_⟩, hup, fun b _ e => hsub b e⟩
  · intro l' o' h1 h2
    have key : ∀ o2, ObOk w (Mx M0 φ h) φ (sg h) (φ l') o2 → ObOk w (Mx M0 φ ((l, ⟨k, o.k, o.ty, o.sz, o.es⟩) :: h)) φ (sg ((l, ⟨k, o.k, o.ty, o.sz, o.es⟩) :: h)) (φ l') o2 := fun o2 hh =>
      hh.mono (Ext.refl (fun _ => False) w) rfl (fun _ _ e => e.elim) (fun b _ e => e.elim .inl (fun e => .inr (hsub b e))) hup
    rw [getO_cons] at h1
    by_cases e : l = l'
    · rw [if_pos e] at h1; injection h1 with h1; subst h1; subst e
      rcases hk with rfl | ⟨rfl, hk2⟩
      · rcases h2 with h2 | h2 <;> simp at h2
      · exact key _ (hp.ob l o ho hk2)
    · rw [if_neg e] at h1; exact key _ (hp.ob l' o' h1 h2)
  · intro l1 l2 o1 o2' h1 h2 h3 h4 h5
    rw [getO_cons] at h1 h3
    by_cases e1 : l = l1
    · rw [if_pos e1] at h1; injection h1 with h1; subst h1; rcases hk with rfl | ⟨rfl, _⟩ <;> simp at h2
    · rw [if_neg e1] at h1
      by_cases e2 : l = l2
      · rw [if_pos e2] at h3; injection h3 with h3; subst h3; subst e2
        rcases hk with rfl | ⟨rfl, hk2⟩
        · rcases h4 with h4 | h4 <;> simp at h4
        · exact hp.inj l1 l o1 o h1 h2 ho hk2 h5
      · rw [if_neg e2] at h3; exact hp.inj l1 l2 o1 o2' h1 h2 h3 h4 h5
  · intro l' o' h1 h2
    rw [getO_cons] at h1
    by_cases e : l = l'
    · rw [if_pos e] at h1; injection h1 with h1; subst h1; subst e
      rcases hk with rfl | ⟨rfl, hk2⟩
      · rcases h2 with h2 | h2 <;> simp at h2
      · exact hp.m0 l o ho hk2
    · rw [if_neg e] at h1; exact hp.m0 l' o' h1 h2
  · intro l' o' h1 h2
    rw [getO_cons] at h1
    by_cases e : l = l'
    · rw [if_pos e] at h1; injection h1 with h1; subst h1; subst e
      rcases hk with rfl | ⟨rfl, hk2⟩
      · rcases h2 with h2 | h2 <;> simp at h2
      · exact hp.lt l o ho hk2
    · rw [if_neg e] at h1; exact hp.lt l' o' h1 h2

theorem fresh_spec {h : List (Nat × Ob)} {n : Nat} (hf : fresh h n = true) : getO h n = none := by
  unfold fresh at hf; simpa using hf

def phi (φ : Nat → Nat) (l b : Nat) (x : Nat) : Nat := if x = l then b else φ x

/-- A new object, in a world that has it. -/
theorem Nx.born {M0 φ h w w'} (hM0 : ∀ b, M0 b → b < w.heap.size) (hp : HpOk w M0 φ h) {l : Nat} (hf : getO h l = none) (k : OK) (ty sz : Nat) (es : List (List D)) (c0 : Obj)
    (hat : ObAt c0 w (Mx M0 φ h) φ (sg h) ⟨2, k, ty, sz, es⟩) (he0 : Ext (fun _ => False) w w') (b0 : Nat) (hb0 : w.heap.size ≤ b0) (hnew : w'.heap[b0]? = some c0) :
    Nx M0 φ h w (phi φ l b0) ((l, ⟨2, k, ty, sz, es⟩) :: h) w' := by
  have hold : ∀ b, b < w.heap.size → w'.heap[b]? = w.heap[b]? := fun b hb => he0.same b hb (fun e => e)
  have hk : ∀ x s, sg h x = some s → x ≠ l := by
    intro x s e e2; subst e2; unfold sg at e; rw [hf] at e; cases e
  have hup : ∀ x s, sg h x = some s → sg ((l, ⟨2, k, ty, sz, es⟩) :: h) x = some s ∧ phi φ l b0 x = φ x := by
    intro x s e
    have hne := hk x s e
    refine ⟨by rw [sg_cons, if_neg (Ne.symm hne)]; exact e, by simp [phi, hne]⟩
  have hgo : ∀ x o, getO h x = some o → phi φ l b0 x = φ x ∧ l ≠ x := by
    intro x o e
    have hs : sg h x = some o.sz := by unfold sg; rw [e]; rfl
    exact ⟨(hup x _ hs).2, Ne.symm (hk x _ hs)⟩
  have hW : ∀ b, b < w.heap.size → W (phi φ l b0) ((l, ⟨2, k, ty, sz, es⟩) :: h) b → W φ h b := by
    rintro b hb ⟨x, o, e1, e2, e3⟩
    rw [getO_cons] at e1
    by_cases e : l = x
    · subst e; simp [phi] at e3; omega
    · rw [if_neg e] at e1; exact ⟨x, o, e1, e2, by rw [← (hgo x o e1).1]; exact e3⟩
  have hmx : ∀ b, b < w.heap.size → Mx M0 (phi φ l b0) ((l, ⟨2, k, ty, sz, es⟩) :: h) b → Mx M0 φ h b := fun b hb e => e.elim .inl (fun e => .inr (hW b hb e))
  refine ⟨he0.mono (fun _ _ e => e.elim), ⟨?_, ?_, ?_, ?_⟩, hup, hW⟩
  · intro x o e1 e2
    rw [getO_cons] at e1
    by_cases e : l = x
    · rw [if_pos e] at e1; injection e1 with e1; subst e1; subst e
      exact ⟨c0, by simpa [phi] using hnew, hat.mono he0 (fun _ _ e => e.elim) hmx hup⟩
    · rw [if_neg e] at e1
      have hb := hp.ob x o e1 e2
      rw [(hgo x o e1).1]
      obtain ⟨c, hc, _⟩ := id hb
      exact hb.mono he0 (hold _ (lt_of_heap hc)) (fun _ _ e => e.elim) hmx hup
  · intro l1 l2 o1 o2 e1 e2 e3 e4 e5
    rw [getO_cons] at e1 e3
    by_cases x1 : l = l1
    · by_cases x2 : l = l2
      · exact x1.symm.trans x2
      · rw [if_neg x2] at e3
        rw [(hgo l2 o2 e3).1] at e5
        subst x1
        simp [phi] at e5
        have := hp.lt l2 o2 e3 e4
        omega
    · rw [if_neg x1] at e1
      rw [(hgo l1 o1 e1).1] at e5
      by_cases x2 : l = l2
      · subst x2
        simp [phi] at e5
        have := hp.lt l1 o1 e1 (.inr e2)
        omega
      · rw [if_neg x2] at e3
        rw [(hgo l2 o2 e3).1] at e5
        exact hp.inj l1 l2 o1 o2 e1 e2 e3 e4 e5
  · intro x o e1 e2
    rw [getO_cons] at e1
    by_cases e : l = x
    · subst e; simp only [phi, if_true]; intro hc; have := hM0 _ hc; omega
    · rw [if_neg e] at e1; rw [(hgo x o e1).1]; exact hp.m0 x o e1 e2
  · intro x o e1 e2
    rw [getO_cons] at e1
    have hs := he0.size
    by_cases e : l = x
    · subst e; simp only [phi, if_true]; exact lt_of_heap hnew
    · rw [if_neg e] at e1; rw [(hgo x o e1).1]; have := hp.lt x o e1 e2; omega

/-- A new object. -/
theorem Nx.newO {M0 φ h w} (hM0 : ∀ b, M0 b → b < w.heap.size) (hp : HpOk w M0 φ h) {l : Nat} (hf : getO h l = none) (k : OK) (ty sz : Nat) (es : List (List D)) (c0 : Obj)
    (hat : ObAt c0 w (Mx M0 φ h) φ (sg h) ⟨2, k, ty, sz, es⟩) (w1 : World) (hw1 : w1 = w ∨ ∃ n, w1 = { w with drawn := w.drawn + n }) :
    Nx M0 φ h w (phi φ l w.heap.size) ((l, ⟨2, k, ty, sz, es⟩) :: h) (w1.alloc c0) := by
  have hsz1 : w1.heap = w.heap := by rcases hw1 with rfl | ⟨n, rfl⟩ <;> rfl
  have he0 : Ext (fun _ => False) w (w1.alloc c0) := by
    rcases hw1 with rfl | ⟨n, rfl⟩
    · exact .alloc _ _ _
    · exact (Ext.drew (fun _ => False) w n).trans (Ext.alloc (fun _ => False) { w with drawn := w.drawn + n } c0) (fun _ _ e => e)
  have hnew : (w1.alloc c0).heap[w.heap.size]? = some c0 := by
    have := heap_alloc_new w1 c0
    rw [hsz1] at this; exact this
  exact Nx.born hM0 hp hf k ty sz es c0 hat he0 _ (Nat.le_refl _) hnew
theorem Ext.of_below {w w' : World} (h : RowKit.Below w.heap.size w w') : Ext (fun _ => False) w w' :=
  ⟨h.os, h.tape, h.output, h.size, fun b hb _ => h.block b hb, fun b cur ty e => ⟨cur, by rw [h.block b (lt_of_heap e)]; exact e, rfl⟩⟩

theorem Nx.new {M0 φ h w} (hM0 : ∀ b, M0 b → b < w.heap.size) (hp : HpOk w M0 φ h) {l : Nat} (hf : getO h l = none) (k : OK) (hk : k ≠ .map) (ty sz : Nat) (es : List (List D)) (cur : Array Value)
    (h2 : es.length * sz ≤ cur.size) (h3 : ∀ (i : Nat) (e : List D), es[i]? = some e → e.length = sz)
    (h4 : ∀ (i : Nat) (e : List D) (j : Nat) (d : D), es[i]? = some e → e[j]? = some d → okD k d = true ∧ ∃ u, cur[i * sz + j]? = some u ∧ R w (Mx M0 φ h) φ (sg h) d u) (w1 : World) (hw1 : w1 = w ∨ ∃ n, w1 = { w with drawn := w.drawn + n }) :
    Nx M0 φ h w (phi φ l w.heap.size) ((l, ⟨2, k, ty, sz, es⟩) :: h) (w1.alloc (.cells cur ty)) :=
  Nx.newO hM0 hp hf k ty sz es _ (ObAt.of_cells (o := ⟨2, k, ty, sz, es⟩) hk h2 h3 h4) w1 hw1

end Go.Proofs.Ytemcdpkiphmndaa.Ab
