/- Ab1: an abstract interpreter over plain data: the values, the compact code, what each operation does, and the laws by which simp evaluates it. No memory here. -/
import Derived.Calls
set_option linter.unusedVariables false
namespace Go.Proofs.Ytemcdpkiphmndaa.Ab

inductive D where
  | any
  | int (k : IntKind) (n : Int)
  | bool (b : Bool)
  | nilp | nils | nilf | nilm
  | ro (sz : Nat) (es : List (List D))
  | rop (cs : List D)
  | agg (cs : List D)
  | tup (vs : List D)
  | ptr (l i j : Nat)
  | own (l i n : Nat)
  | mp (l : Nat)
  | clo (f : Nat) (cs : List D)
  | em
  deriving Inhabited

inductive OK where | box | row | map
  deriving DecidableEq

structure Ob where
  st : Nat
  k : OK
  ty : Nat
  sz : Nat
  es : List (List D)

structure St where
  t : List (Nat × D)
  h : List (Nat × Ob)

inductive TK where
  | int (k : IntKind)
  | bool
  | slice (e : Nat)
  | struct (fs : List (Nat × Nat × Nat))
  | arr (n e : Nat)
  | ptr (e : Nat)
  | map (k e : Nat)
  | str
  | other

structure TI where
  size : Nat
  bytes : Nat
  zero : List D
  k : TK

def TI.isAgg (i : TI) : Bool := match i.k with | .struct _ => true | .arr _ _ => true | _ => false

inductive A where
  | t (n : Nat)
  | c (d : D)
  | f (f : Nat)

inductive Cop where
  | move (x : A)
  | pick (c a b : A)
  | alloc (e : Nat)
  | box (e : Nat) (x : A)
  | build (t : Nat) (ps : List (Nat × A))
  | buildSlice (t : Nat) (n : Nat) (ps : List (Nat × A))
  | load (t : Nat) (a : A)
  | store (t : Nat) (a v : A)
  | nilCheck (x : A)
  | binOp (op : BinOp) (t : Nat) (x y : A)
  | unOp (op : UnOp) (t : Nat) (x : A)
  | convert (s d : Nat) (x : A)
  | makeSlice (t : Nat) (l c : A)
  | slice (t : Nat) (x : A) (lo hi : Option A)
  | slice3 (t : Nat) (x : A) (lo : Option A) (hi mx : A)
  | clear (t : Nat) (x : A)
  | copy (t : Nat) (x y : A)
  | mkClo (f : Nat) (xs : List A)
  | callA (ex : List Nat) (f : A) (xs : List A)
  | callF (ex : List Nat) (fr : List A) (f : A) (xs : List A)
  | storeF (t : Nat) (a v : A) (fr : List A)
  | loadF (t : Nat) (a root : A)
  | loadR (t : Nat) (a : A)
  | indexR (t : Nat) (x i : A)
  | buildSliceP (t : Nat) (n : Nat) (ps : List (Nat × A))
  | buildSliceB (t : Nat) (n : Nat) (ps : List (Nat × A))
  | strIdx (t : Nat) (tbl : List Nat) (i : A)
  | fieldAddr (t : Nat) (x : A) (f : Nat)
  | field (t : Nat) (x : A) (f : Nat)
  | indexAddr (t : Nat) (x i : A)
  | extract (x : A) (i : Nat)
  | len (t : Nat) (x : A)
  | append (t : Nat) (x y : A)
  | max (x y : A)
  | min (x y : A)
  | call (f : A) (xs : List A)
  | callH (f : A) (xs : List A)
  | callP (f : A) (xs : List A)
  | makeMap (t : Nat)
  | lookup (t : Nat) (x i : A) (ok : Bool)
  | mapUpd (t : Nat) (m k v : A)
  | delete (t : Nat) (m k : A)
  | mlen (t : Nat) (x : A)

structure Co where
  d : Option Nat
  o : Cop
  g : Option (Nat × Bool)

inductive C where
  | skip | ret
  | exit (id : Nat)
  | reg (p : List Nat) (ops : List Co)
  | seq (a b : C)
  | cond (c : A) (a b : C)
  | block (id : Nat) (c : C)
  | loop (keep : List Nat) (c : C)
  | stuck

inductive It where
  | c (c : C)
  | bk (id : Nat)
  | lp (keep : List Nat) (c : C)

/-- What a slot holds whose operation was left out. -/
def und : D := .tup []
theorem und_def : und = .tup [] := rfl

/-! ### looking up -/
def get : List (Nat × D) → Nat → D
  | [], _ => .any
  | (m, v) :: t, n => if m = n then v else get t n
theorem get_hit (n : Nat) (v : D) (t) : get ((n, v) :: t) n = v := by simp [get]
theorem get_miss (m : Nat) (v : D) (t) (n : Nat) (h : (m == n) = false) : get ((m, v) :: t) n = get t n := by
  simp [get] at *; intro e; exact absurd e h

def getO : List (Nat × Ob) → Nat → Option Ob
  | [], _ => none
  | (m, v) :: t, n => if m = n then some v else getO t n
theorem getO_hit (n : Nat) (v : Ob) (t) : getO ((n, v) :: t) n = some v := by simp [getO]
theorem getO_miss (m : Nat) (v : Ob) (t) (n : Nat) (h : (m == n) = false) : getO ((m, v) :: t) n = getO t n := by
  simp [getO] at *; intro e; exact absurd e h
theorem getO_nil (n : Nat) : getO [] n = none := rfl

def ev (t : List (Nat × D)) : A → D
  | .t n => get t n
  | .c d => d
  | .f f => .clo f []
theorem ev_t (t n) : ev t (.t n) = get t n := rfl
theorem ev_c (t d) : ev t (.c d) = d := rfl
theorem ev_f (t f) : ev t (.f f) = .clo f [] := rfl

/-! ### the combinators: simp goes into the first argument alone -/
def bO {α β : Type} (x : Option α) (k : α → Option β) : Option β := match x with | some v => k v | none => none
theorem bO_some {α β : Type} (v : α) (k : α → Option β) : bO (some v) k = k v := rfl
@[congr] theorem bO_congr {α β : Type} {x y : Option α} (h : ∀ _ : Unit, x = y) (k : α → Option β) : bO x k = bO y k := by rw [h ()]
theorem bO_eq {α β : Type} {x : Option α} {k : α → Option β} {r : β} (h : bO x k = some r) : ∃ v, x = some v ∧ k v = some r := by
  cases x with
  | none => cases h
  | some v => exact ⟨v, rfl, h⟩

/-- A guard: where 'b' is false there is nothing. -/
def gd {β : Type} (b : Bool) (k : Option β) : Option β := match b with | true => k | false => none
theorem gd_true {β : Type} (k : Option β) : gd true k = k := rfl
@[congr] theorem gd_congr {β : Type} {b c : Bool} (h : ∀ _ : Unit, b = c) (k : Option β) : gd b k = gd c k := by rw [h ()]
theorem gd_eq {β : Type} {b : Bool} {k : Option β} {r : β} (h : gd b k = some r) : b = true ∧ k = some r := by
  cases b with
  | false => cases h
  | true => exact ⟨rfl, h⟩

/-! ### cells -/
def cells : D → List D
  | .agg cs => cs
  | d => [d]
theorem cells_agg (cs) : cells (.agg cs) = cs := rfl
theorem cells_int (k n) : cells (.int k n) = [.int k n] := rfl
theorem cells_bool (b) : cells (.bool b) = [.bool b] := rfl
theorem cells_nilp : cells .nilp = [.nilp] := rfl
theorem cells_nils : cells .nils = [.nils] := rfl
theorem cells_nilf : cells .nilf = [.nilf] := rfl
theorem cells_nilm : cells .nilm = [.nilm] := rfl
theorem cells_ro (s e) : cells (.ro s e) = [.ro s e] := rfl
theorem cells_ptr (l i j) : cells (.ptr l i j) = [.ptr l i j] := rfl
theorem cells_own (l i j) : cells (.own l i j) = [.own l i j] := rfl
theorem cells_mp (l) : cells (.mp l) = [.mp l] := rfl
theorem cells_clo (l c) : cells (.clo l c) = [.clo l c] := rfl
theorem cells_rop (c) : cells (.rop c) = [.rop c] := rfl
theorem cells_em : cells .em = [.em] := rfl

/-- May it lie in a cell of a box? -/
def okB : D → Bool
  | .any | .agg _ | .tup _ | .rop _ => false
  | _ => true
theorem okB_int (k n) : okB (.int k n) = true := rfl
theorem okB_bool (b) : okB (.bool b) = true := rfl
theorem okB_nilp : okB .nilp = true := rfl
theorem okB_nils : okB .nils = true := rfl
theorem okB_nilf : okB .nilf = true := rfl
theorem okB_em : okB .em = true := rfl
theorem okB_nilm : okB .nilm = true := rfl
theorem okB_ro (s e) : okB (.ro s e) = true := rfl
theorem okB_ptr (l i j) : okB (.ptr l i j) = true := rfl
theorem okB_own (l i j) : okB (.own l i j) = true := rfl
theorem okB_mp (l) : okB (.mp l) = true := rfl
theorem okB_clo (l c) : okB (.clo l c) = true := rfl
def allB : List D → Bool
  | [] => true
  | d :: l => okB d && allB l
theorem allB_nil : allB [] = true := rfl
theorem allB_cons (d l) : allB (d :: l) = (okB d && allB l) := rfl

/-- May it lie in a cell of a row? (It leads to nothing that is written.) -/
def okR : D → Bool
  | .int _ _ | .bool _ | .nilp | .nils | .nilf | .nilm | .em | .ro _ _ => true
  | _ => false

/-! ### the objects -/
def objR (h : List (Nat × Ob)) (l : Nat) : Option Ob := bO (getO h l) fun o => gd (o.st == 1 || o.st == 2) (some o)
theorem objR_def (h l) : objR h l = bO (getO h l) fun o => gd (o.st == 1 || o.st == 2) (some o) := rfl
def objW (h : List (Nat × Ob)) (l : Nat) : Option Ob := bO (getO h l) fun o => gd (o.st == 2) (some o)
theorem objW_def (h l) : objW h l = bO (getO h l) fun o => gd (o.st == 2) (some o) := rfl
theorem st1_2 (k t s e) : ((⟨2, k, t, s, e⟩ : Ob).st == 1 || (⟨2, k, t, s, e⟩ : Ob).st == 2) = true := rfl
theorem st1_1 (k t s e) : ((⟨1, k, t, s, e⟩ : Ob).st == 1 || (⟨1, k, t, s, e⟩ : Ob).st == 2) = true := rfl
theorem st2_2 (k t s e) : ((⟨2, k, t, s, e⟩ : Ob).st == 2) = true := rfl
/-- The elements of a slice. -/
def viewE (h : List (Nat × Ob)) : D → Option (List (List D))
  | .nils => some []
  | .em => some []
  | .ro _ es => some es
  | .own l i n => bO (objR h l) fun o => gd (decide (o.k = .row) && decide (i + n ≤ o.es.length)) (some ((o.es.drop i).take n))
  | _ => none
theorem viewE_nils (h) : viewE h .nils = some [] := rfl
theorem viewE_em (h) : viewE h .em = some [] := rfl
theorem viewE_ro (h s es) : viewE h (.ro s es) = some es := rfl
theorem viewE_own (h l i n) : viewE h (.own l i n) = bO (objR h l) fun o => gd (decide (o.k = .row) && decide (i + n ≤ o.es.length)) (some ((o.es.drop i).take n)) := rfl

/-- The cells of a value as they may lie in a row: what a slice of ours leads to is written no more. -/
def lowL (h : List (Nat × Ob)) : List D → Option (List D × List (Nat × Ob))
  | [] => some ([], h)
  | .own l i n :: cs => bO (objR h l) fun o => bO (viewE h (.own l i n)) fun es => bO (lowL ((l, ⟨1, o.k, o.ty, o.sz, o.es⟩) :: h) cs) fun p => some (.ro o.sz es :: p.1, p.2)
  | d :: cs => gd (okR d) (bO (lowL h cs) fun p => some (d :: p.1, p.2))
theorem lowL_nil (h) : lowL h [] = some ([], h) := rfl
theorem lowL_int (h k n cs) : lowL h (.int k n :: cs) = bO (lowL h cs) fun p => some (.int k n :: p.1, p.2) := rfl
theorem lowL_bool (h b cs) : lowL h (.bool b :: cs) = bO (lowL h cs) fun p => some (.bool b :: p.1, p.2) := rfl
theorem lowL_nilp (h cs) : lowL h (.nilp :: cs) = bO (lowL h cs) fun p => some (.nilp :: p.1, p.2) := rfl
theorem lowL_nils (h cs) : lowL h (.nils :: cs) = bO (lowL h cs) fun p => some (.nils :: p.1, p.2) := rfl
theorem lowL_em (h cs) : lowL h (.em :: cs) = bO (lowL h cs) fun p => some (.em :: p.1, p.2) := rfl
theorem lowL_nilf (h cs) : lowL h (.nilf :: cs) = bO (lowL h cs) fun p => some (.nilf :: p.1, p.2) := rfl
theorem lowL_nilm (h cs) : lowL h (.nilm :: cs) = bO (lowL h cs) fun p => some (.nilm :: p.1, p.2) := rfl
theorem lowL_ro (h s e cs) : lowL h (.ro s e :: cs) = bO (lowL h cs) fun p => some (.ro s e :: p.1, p.2) := rfl
theorem lowL_own (h l i n cs) : lowL h (.own l i n :: cs) = bO (objR h l) fun o => bO (viewE h (.own l i n)) fun es => bO (lowL ((l, ⟨1, o.k, o.ty, o.sz, o.es⟩) :: h) cs) fun p => some (.ro o.sz es :: p.1, p.2) := rfl

/-- A value as it is handed to what only reads: whole or cell by cell. -/
def lowD (h : List (Nat × Ob)) : D → Option (D × List (Nat × Ob))
  | .agg cs => bO (lowL h cs) fun p => some (.agg p.1, p.2)
  | .clo f [] => some (.clo f [], h)
  | d => bO (lowL h [d]) fun p => match p.1 with | [e] => some (e, p.2) | _ => none
def one1 (p : List D × List (Nat × Ob)) : Option (D × List (Nat × Ob)) := match p.1 with | [e] => some (e, p.2) | _ => none
theorem one1_mk (e h) : one1 ([e], h) = some (e, h) := rfl
theorem lowD_agg (h cs) : lowD h (.agg cs) = bO (lowL h cs) fun p => some (.agg p.1, p.2) := rfl
theorem lowD_int (h k n) : lowD h (.int k n) = some (.int k n, h) := rfl
theorem lowD_bool (h b) : lowD h (.bool b) = some (.bool b, h) := rfl
theorem lowD_nilp (h) : lowD h .nilp = some (.nilp, h) := rfl
theorem lowD_nils (h) : lowD h .nils = some (.nils, h) := rfl
theorem lowD_em (h) : lowD h .em = some (.em, h) := rfl
theorem lowD_nilf (h) : lowD h .nilf = some (.nilf, h) := rfl
theorem lowD_nilm (h) : lowD h .nilm = some (.nilm, h) := rfl
theorem lowD_ro (h s e) : lowD h (.ro s e) = some (.ro s e, h) := rfl
theorem lowD_clo (h f) : lowD h (.clo f []) = some (.clo f [], h) := rfl
theorem lowD_own (h l i n) : lowD h (.own l i n) = bO (lowL h [.own l i n]) one1 := rfl

def lowDs (h : List (Nat × Ob)) : List D → Option (List D × List (Nat × Ob))
  | [] => some ([], h)
  | d :: ds => bO (lowD h d) fun p => bO (lowDs p.2 ds) fun q => some (p.1 :: q.1, q.2)
theorem lowDs_nil (h) : lowDs h [] = some ([], h) := rfl
theorem lowDs_cons (h d ds) : lowDs h (d :: ds) = bO (lowD h d) fun p => bO (lowDs p.2 ds) fun q => some (p.1 :: q.1, q.2) := rfl

/-- What functions answer: of data alone; and over the objects that are handed over (named below the last number). -/
structure Tm where
  p : Nat → List D → Option D
  h : Nat → List D → List (Nat × Ob) → Nat → Option (D × List (Nat × Ob))
  a : Nat → List D → List (Option Ob) → Option (D × Option Ob)

variable (τ : Nat → Option TI) (T : Tm)

/-! ### loads -/
def agS (s : Nat) (l : List D) : Option D := gd (l.length == s) (some (.agg l))
theorem agS_def (s l) : agS s l = gd (l.length == s) (some (.agg l)) := rfl
def ldi (i : TI) (cs : List D) (j : Nat) : Option D :=
  match i.k with
  | .struct _ | .arr _ _ => agS i.size ((cs.drop j).take i.size)
  | _ => cs[j]?
theorem ldi_int (s b z k cs j) : ldi ⟨s, b, z, .int k⟩ cs j = cs[j]? := rfl
theorem ldi_bool (s b z cs j) : ldi ⟨s, b, z, .bool⟩ cs j = cs[j]? := rfl
theorem ldi_slice (s b z k cs j) : ldi ⟨s, b, z, .slice k⟩ cs j = cs[j]? := rfl
theorem ldi_ptr (s b z k cs j) : ldi ⟨s, b, z, .ptr k⟩ cs j = cs[j]? := rfl
theorem ldi_map (s b z k e cs j) : ldi ⟨s, b, z, .map k e⟩ cs j = cs[j]? := rfl
theorem ldi_other (s b z cs j) : ldi ⟨s, b, z, .other⟩ cs j = cs[j]? := rfl
theorem ldi_struct (s b z fs cs j) : ldi ⟨s, b, z, .struct fs⟩ cs j = agS s ((cs.drop j).take s) := rfl
theorem ldi_arr (s b z n e cs j) : ldi ⟨s, b, z, .arr n e⟩ cs j = agS s ((cs.drop j).take s) := rfl
def ldc (ty : Nat) (cs : List D) (j : Nat) : Option D := bO (τ ty) fun i => ldi i cs j
theorem ldc_def (ty cs j) : ldc τ ty cs j = bO (τ ty) fun i => ldi i cs j := rfl
def oEs (o : Ob) (i : Nat) : Option (List D) := gd (decide (o.k ≠ .map)) o.es[i]?
theorem oEs_box (st t s es i) : oEs ⟨st, .box, t, s, es⟩ i = es[i]? := rfl
theorem oEs_row (st t s es i) : oEs ⟨st, .row, t, s, es⟩ i = es[i]? := rfl
def vLoad (h : List (Nat × Ob)) (ty : Nat) : D → Option D
  | .ptr l i j => bO (objR h l) fun o => bO (oEs o i) fun e => ldc τ ty e j
  | .rop cs => ldc τ ty cs 0
  | _ => none
theorem vLoad_ptr (h ty l i j) : vLoad τ h ty (.ptr l i j) = bO (objR h l) fun o => bO (oEs o i) fun e => ldc τ ty e j := rfl
theorem vLoad_rop (h ty cs) : vLoad τ h ty (.rop cs) = ldc τ ty cs 0 := rfl

/-! ### addresses -/
def fOff (i : TI) (f : Nat) : Option (Nat × Nat × Nat) := match i.k with | .struct fs => fs[f]? | _ => none
theorem fOff_struct (s b z fs f) : fOff ⟨s, b, z, .struct fs⟩ f = fs[f]? := rfl
def vFieldAddr (s f : Nat) : D → Option D
  | .ptr l i j => bO (τ s) fun ti => bO (fOff ti f) fun p => gd (p.2.1 != 0) (some (.ptr l i (j + p.1)))
  | .rop cs => bO (τ s) fun ti => bO (fOff ti f) fun p => gd (p.2.1 != 0) (some (.rop (cs.drop p.1)))
  | _ => none
theorem vFieldAddr_ptr (s f l i j) : vFieldAddr τ s f (.ptr l i j) = bO (τ s) fun ti => bO (fOff ti f) fun p => gd (p.2.1 != 0) (some (.ptr l i (j + p.1))) := rfl
theorem vFieldAddr_rop (s f cs) : vFieldAddr τ s f (.rop cs) = bO (τ s) fun ti => bO (fOff ti f) fun p => gd (p.2.1 != 0) (some (.rop (cs.drop p.1))) := rfl
def vField (s f : Nat) : D → Option D
  | .agg cs => bO (τ s) fun ti => bO (fOff ti f) fun p => ldc τ p.2.2 cs p.1
  | _ => none
theorem vField_agg (s f cs) : vField τ s f (.agg cs) = bO (τ s) fun ti => bO (fOff ti f) fun p => ldc τ p.2.2 cs p.1 := rfl

/-- The i-th element. -/
def nth (es : List (List D)) (i : Int) : Option (List D) := match i with | .ofNat n => es[n]? | _ => none
def arrE (i : TI) : Option (Nat × Nat) := match i.k with | .arr n e => some (n, e) | _ => none
theorem arrE_arr (s b z n e) : arrE ⟨s, b, z, .arr n e⟩ = some (n, e) := rfl
def tslice (i : TI) : Option Nat := match i.k with | .slice e => some e | _ => none
theorem tslice_slice (s b z e) : tslice ⟨s, b, z, .slice e⟩ = some e := rfl
def obsz (o : Ob) : Nat := o.sz
theorem obsz_mk (s k t z e) : obsz ⟨s, k, t, z, e⟩ = z := rfl
def vIndexAddr (h : List (Nat × Ob)) (t : Nat) : D → D → Option D
  | .ro s es, .int _ i => bO (τ t) fun ti => bO (tslice ti) fun te => bO (τ te) fun ie => gd (ie.size == s) (bO (nth es i) fun e => some (.rop e))
  | .own l i0 n, .int _ i => bO (τ t) fun ti => bO (tslice ti) fun te => bO (τ te) fun ie => bO (objR h l) fun o => gd (ie.size == obsz o && (decide (0 ≤ i) && decide (i < (n : Int)))) (some (.ptr l (i0 + i.toNat) 0))
  | .ptr l i j, .int _ k => bO (τ t) fun ti => bO (arrE ti) fun p => bO (τ p.2) fun ie => gd (decide (1 < p.1) && (decide (0 ≤ k) && decide (k < (p.1 : Int)))) (some (.ptr l i (j + k.toNat * ie.size)))
  | _, _ => none
theorem vIndexAddr_ro (h t s es k i) : vIndexAddr τ h t (.ro s es) (.int k i) = bO (τ t) fun ti => bO (tslice ti) fun te => bO (τ te) fun ie => gd (ie.size == s) (bO (nth es i) fun e => some (.rop e)) := rfl
theorem vIndexAddr_own (h t l i0 n k i) : vIndexAddr τ h t (.own l i0 n) (.int k i) = bO (τ t) fun ti => bO (tslice ti) fun te => bO (τ te) fun ie => bO (objR h l) fun o => gd (ie.size == obsz o && (decide (0 ≤ i) && decide (i < (n : Int)))) (some (.ptr l (i0 + i.toNat) 0)) := rfl
theorem vIndexAddr_ptr (h t l i j q k) : vIndexAddr τ h t (.ptr l i j) (.int q k) = bO (τ t) fun ti => bO (arrE ti) fun p => bO (τ p.2) fun ie => gd (decide (1 < p.1) && (decide (0 ≤ k) && decide (k < (p.1 : Int)))) (some (.ptr l i (j + k.toNat * ie.size))) := rfl

/-! ### whole numbers, bools, structs of these -/
def iand (k : IntKind) (x y : Int) : Int := k.wrap (BitVec.ofInt k.bits x &&& BitVec.ofInt k.bits y).toNat
def ior (k : IntKind) (x y : Int) : Int := k.wrap (BitVec.ofInt k.bits x ||| BitVec.ofInt k.bits y).toNat
def ixor (k : IntKind) (x y : Int) : Int := k.wrap (BitVec.ofInt k.bits x ^^^ BitVec.ofInt k.bits y).toNat
def iandn (k : IntKind) (x y : Int) : Int := k.wrap (BitVec.ofInt k.bits x &&& ~~~BitVec.ofInt k.bits y).toNat
def ishl (k : IntKind) (x y : Int) : Int := k.wrap (x * 2 ^ (Nat.min y.toNat k.bits))
def ishr (k : IntKind) (x y : Int) : Int := x.fdiv (2 ^ (Nat.min y.toNat k.bits))

def ibin (op : BinOp) (k : IntKind) (a b : Int) : Option D :=
  match op with
  | .add => some (.int k (k.wrap (a + b)))
  | .sub => some (.int k (k.wrap (a - b)))
  | .mul => some (.int k (k.wrap (a * b)))
  | .quo => gd (b != 0) (some (.int k (k.wrap (a.tdiv b))))
  | .rem => gd (b != 0) (some (.int k (a.tmod b)))
  | .and => some (.int k (iand k a b))
  | .or => some (.int k (ior k a b))
  | .xor => some (.int k (ixor k a b))
  | .andNot => some (.int k (iandn k a b))
  | .eql => some (.bool (a == b))
  | .neq => some (.bool (a != b))
  | .lss => some (.bool (decide (a < b)))
  | .leq => some (.bool (decide (a ≤ b)))
  | .gtr => some (.bool (decide (a > b)))
  | .geq => some (.bool (decide (a ≥ b)))
  | _ => none

def eqC (ti : TI) : D → D → Option Bool
  | .int k a, .int k' b => match ti.k with | .int _ => gd (decide (k = k')) (some (a == b)) | _ => none
  | .bool a, .bool b => match ti.k with | .bool => some (a == b) | _ => none
  | _, _ => none
theorem eqC_int (s b z q k x y) : eqC ⟨s, b, z, .int q⟩ (.int k x) (.int k y) = some (x == y) := by simp [eqC, gd]
theorem eqC_bool (s b z x y) : eqC ⟨s, b, z, .bool⟩ (.bool x) (.bool y) = some (x == y) := rfl
def sfs (i : TI) : Option (List (Nat × Nat × Nat)) := match i.k with | .struct fs => some fs | _ => none
theorem sfs_struct (s b z fs) : sfs ⟨s, b, z, .struct fs⟩ = some fs := rfl
/-- '==' of structs of numbers and bools, field by field. -/
def eqF : List (Nat × Nat × Nat) → Nat → List D → List D → Option Bool
  | [], _, [], [] => some true
  | (o, s, t) :: fs, k, c :: cs, d :: ds => gd (o == k && s == 1) (bO (τ t) fun ti => bO (eqC ti c d) fun x => bO (eqF fs (k + 1) cs ds) fun y => some (x && y))
  | _, _, _, _ => none
theorem eqF_nil (k) : eqF τ [] k [] [] = some true := rfl
theorem eqF_cons (o s t fs k c cs d ds) : eqF τ ((o, s, t) :: fs) k (c :: cs) (d :: ds) = gd (o == k && s == 1) (bO (τ t) fun ti => bO (eqC ti c d) fun x => bO (eqF τ fs (k + 1) cs ds) fun y => some (x && y)) := rfl
def vEqA (ty : Nat) (a b : List D) : Option Bool := bO (τ ty) fun i => bO (sfs i) fun fs => eqF τ fs 0 a b
theorem vEqA_def (ty a b) : vEqA τ ty a b = bO (τ ty) fun i => bO (sfs i) fun fs => eqF τ fs 0 a b := rfl
def tyK (n : Nat) (i : TI) : Bool := match n, i.k with | 0, .bool => true | 1, .ptr _ => true | 2, .slice _ => true | _, _ => false
theorem tyK_bool (s b z) : tyK 0 ⟨s, b, z, .bool⟩ = true := rfl
theorem tyK_ptr (s b z e) : tyK 1 ⟨s, b, z, .ptr e⟩ = true := rfl
theorem tyK_slice (s b z e) : tyK 2 ⟨s, b, z, .slice e⟩ = true := rfl
/-- '==' beyond numbers: bools, structs of both kinds, and what is held against nil. -/
def veq (ty : Nat) : D → D → Option Bool
  | .bool a, .bool b => bO (τ ty) fun i => gd (tyK 0 i) (some (a == b))
  | .agg a, .agg b => vEqA τ ty a b
  | .nilp, .nilp => bO (τ ty) fun i => gd (tyK 1 i) (some true)
  | .ptr _ _ _, .nilp => bO (τ ty) fun i => gd (tyK 1 i) (some false)
  | .rop _, .nilp => bO (τ ty) fun i => gd (tyK 1 i) (some false)
  | .nils, .nils => bO (τ ty) fun i => gd (tyK 2 i) (some true)
  | .own _ _ _, .nils => bO (τ ty) fun i => gd (tyK 2 i) (some false)
  | _, _ => none
theorem veq_bool (ty a b) : veq τ ty (.bool a) (.bool b) = bO (τ ty) fun i => gd (tyK 0 i) (some (a == b)) := rfl
theorem veq_agg (ty a b) : veq τ ty (.agg a) (.agg b) = vEqA τ ty a b := rfl
theorem veq_nilp (ty) : veq τ ty .nilp .nilp = bO (τ ty) fun i => gd (tyK 1 i) (some true) := rfl
theorem veq_ptr (ty l i j) : veq τ ty (.ptr l i j) .nilp = bO (τ ty) fun i => gd (tyK 1 i) (some false) := rfl
theorem veq_rop (ty c) : veq τ ty (.rop c) .nilp = bO (τ ty) fun i => gd (tyK 1 i) (some false) := rfl
theorem veq_nils (ty) : veq τ ty .nils .nils = bO (τ ty) fun i => gd (tyK 2 i) (some true) := rfl
theorem veq_own (ty l i j) : veq τ ty (.own l i j) .nils = bO (τ ty) fun i => gd (tyK 2 i) (some false) := rfl

def vB2 (op : BinOp) (ty : Nat) (a b : D) : Option D :=
  match op with
  | .eql => bO (veq τ ty a b) fun x => some (.bool x)
  | .neq => bO (veq τ ty a b) fun x => some (.bool !x)
  | _ => none
def vBin (op : BinOp) (ty : Nat) : D → D → Option D
  | .int k a, .int k' b =>
    match op with
    | .shl => gd (decide (0 ≤ b)) (some (.int k (ishl k a b)))
    | .shr => gd (decide (0 ≤ b)) (some (.int k (ishr k a b)))
    | _ => gd (decide (k = k')) (ibin op k a b)
  | a, b => vB2 τ op ty a b
theorem vBin_add (ty k a b) : vBin τ .add ty (.int k a) (.int k b) = some (.int k (k.wrap (a + b))) := by simp [vBin, ibin, gd]
theorem vBin_sub (ty k a b) : vBin τ .sub ty (.int k a) (.int k b) = some (.int k (k.wrap (a - b))) := by simp [vBin, ibin, gd]
theorem vBin_mul (ty k a b) : vBin τ .mul ty (.int k a) (.int k b) = some (.int k (k.wrap (a * b))) := by simp [vBin, ibin, gd]
theorem vBin_quo (ty k a b) : vBin τ .quo ty (.int k a) (.int k b) = gd (b != 0) (some (.int k (k.wrap (a.tdiv b)))) := by simp [vBin, ibin, gd]
theorem vBin_rem (ty k a b) : vBin τ .rem ty (.int k a) (.int k b) = gd (b != 0) (some (.int k (a.tmod b))) := by simp [vBin, ibin, gd]
theorem vBin_and (ty k a b) : vBin τ .and ty (.int k a) (.int k b) = some (.int k (iand k a b)) := by simp [vBin, ibin, gd]
theorem vBin_or (ty k a b) : vBin τ .or ty (.int k a) (.int k b) = some (.int k (ior k a b)) := by simp [vBin, ibin, gd]
theorem vBin_xor (ty k a b) : vBin τ .xor ty (.int k a) (.int k b) = some (.int k (ixor k a b)) := by simp [vBin, ibin, gd]
theorem vBin_andNot (ty k a b) : vBin τ .andNot ty (.int k a) (.int k b) = some (.int k (iandn k a b)) := by simp [vBin, ibin, gd]
theorem vBin_shl (ty k q a b) : vBin τ .shl ty (.int k a) (.int q b) = gd (decide (0 ≤ b)) (some (.int k (ishl k a b))) := by simp [vBin]
theorem vBin_shr (ty k q a b) : vBin τ .shr ty (.int k a) (.int q b) = gd (decide (0 ≤ b)) (some (.int k (ishr k a b))) := by simp [vBin]
theorem vBin_eql (ty k a b) : vBin τ .eql ty (.int k a) (.int k b) = some (.bool (a == b)) := by simp [vBin, ibin, gd]
theorem vBin_neq (ty k a b) : vBin τ .neq ty (.int k a) (.int k b) = some (.bool (a != b)) := by simp [vBin, ibin, gd]
theorem vBin_lss (ty k a b) : vBin τ .lss ty (.int k a) (.int k b) = some (.bool (decide (a < b))) := by simp [vBin, ibin, gd]
theorem vBin_leq (ty k a b) : vBin τ .leq ty (.int k a) (.int k b) = some (.bool (decide (a ≤ b))) := by simp [vBin, ibin, gd]
theorem vBin_gtr (ty k a b) : vBin τ .gtr ty (.int k a) (.int k b) = some (.bool (decide (b < a))) := by simp [vBin, ibin, gd]
theorem vBin_geq (ty k a b) : vBin τ .geq ty (.int k a) (.int k b) = some (.bool (decide (b ≤ a))) := by simp [vBin, ibin, gd]
def eqB (x : Option Bool) : Option D := bO x fun x => some (.bool x)
theorem eqB_def (x) : eqB x = bO x fun x => some (.bool x) := rfl
def neB (x : Option Bool) : Option D := bO x fun x => some (.bool !x)
theorem neB_def (x) : neB x = bO x fun x => some (.bool !x) := rfl
theorem vBin_eqb (ty a b) : vBin τ .eql ty (.bool a) (.bool b) = eqB (veq τ ty (.bool a) (.bool b)) := rfl
theorem vBin_neb (ty a b) : vBin τ .neq ty (.bool a) (.bool b) = neB (veq τ ty (.bool a) (.bool b)) := rfl
theorem vBin_eqa (ty a b) : vBin τ .eql ty (.agg a) (.agg b) = eqB (veq τ ty (.agg a) (.agg b)) := rfl
theorem vBin_nea (ty a b) : vBin τ .neq ty (.agg a) (.agg b) = neB (veq τ ty (.agg a) (.agg b)) := rfl
theorem vBin_eq_nilp (ty x) : vBin τ .eql ty x .nilp = eqB (veq τ ty x .nilp) := by cases x <;> rfl
theorem vBin_ne_nilp (ty x) : vBin τ .neq ty x .nilp = neB (veq τ ty x .nilp) := by cases x <;> rfl
theorem vBin_eq_nils (ty x) : vBin τ .eql ty x .nils = eqB (veq τ ty x .nils) := by cases x <;> rfl
theorem vBin_ne_nils (ty x) : vBin τ .neq ty x .nils = neB (veq τ ty x .nils) := by cases x <;> rfl

def vUn (op : UnOp) : D → Option D
  | .int k n => match op with
    | .neg => some (.int k (k.wrap (0 - n)))
    | .xor => some (.int k (ixor k (if k.signed then -1 else k.max) n))
    | _ => none
  | .bool b => match op with
    | .not => some (.bool !b)
    | _ => none
  | _ => none
theorem vUn_neg (k n) : vUn .neg (.int k n) = some (.int k (k.wrap (0 - n))) := rfl
theorem vUn_xor (k n) : vUn .xor (.int k n) = some (.int k (ixor k (if k.signed then -1 else k.max) n)) := rfl
theorem vUn_not (b) : vUn .not (.bool b) = some (.bool !b) := rfl

def tint (i : TI) : Option IntKind := match i.k with | .int k => some k | _ => none
theorem tint_int (s b z k) : tint ⟨s, b, z, .int k⟩ = some k := rfl
def vConv (d : Nat) : D → Option D
  | .int _ n => bO (τ d) fun i => bO (tint i) fun k => some (.int k (k.wrap n))
  | _ => none
theorem vConv_int (d q n) : vConv τ d (.int q n) = bO (τ d) fun i => bO (tint i) fun k => some (.int k (k.wrap n)) := rfl

def vLen : D → Option D
  | .nils => some (.int .i64 0)
  | .em => some (.int .i64 0)
  | .ro _ es => some (.int .i64 es.length)
  | .own _ _ n => some (.int .i64 n)
  | _ => none
theorem vLen_em : vLen .em = some (.int .i64 0) := rfl
theorem vLen_nils : vLen .nils = some (.int .i64 0) := rfl
theorem vLen_ro (s es) : vLen (.ro s es) = some (.int .i64 es.length) := rfl
theorem vLen_own (l i n) : vLen (.own l i n) = some (.int .i64 n) := rfl

def vMax : D → D → Option D
  | .int k a, .int k' b => gd (decide (k = k')) (some (.int k (if a < b then b else a)))
  | _, _ => none
theorem vMax_int (k a b) : vMax (.int k a) (.int k b) = some (.int k (if a < b then b else a)) := by simp [vMax, gd]
def vMin : D → D → Option D
  | .int k a, .int k' b => gd (decide (k = k')) (some (.int k (if b < a then b else a)))
  | _, _ => none
theorem vMin_int (k a b) : vMin (.int k a) (.int k b) = some (.int k (if b < a then b else a)) := by simp [vMin, gd]

def vExtract (i : Nat) : D → Option D
  | .tup vs => vs[i]?
  | _ => none
theorem vExtract_tup (i vs) : vExtract i (.tup vs) = vs[i]? := rfl

def vNil : D → Option D
  | .ptr l i j => some (.ptr l i j)
  | .rop cs => some (.rop cs)
  | .clo f cs => some (.clo f cs)
  | _ => none
theorem vNil_ptr (l i j) : vNil (.ptr l i j) = some (.ptr l i j) := rfl
theorem vNil_rop (cs) : vNil (.rop cs) = some (.rop cs) := rfl
theorem vNil_clo (f cs) : vNil (.clo f cs) = some (.clo f cs) := rfl

/-- A bound of a slice expression. -/
def bnd (t : List (Nat × D)) (x : Option A) (dflt : Nat) : Option Nat :=
  match x with
  | none => some dflt
  | some a => match ev t a with | .int _ (.ofNat n) => some n | _ => none
def natD : D → Option Nat
  | .int _ n => gd (decide (0 ≤ n)) (some n.toNat)
  | _ => none
theorem natD_int (k n) : natD (.int k n) = gd (decide (0 ≤ n)) (some n.toNat) := rfl
def vSlice (x : D) (lo hi : Nat) : Option D :=
  match x with
  | .ro s es => gd (decide (lo ≤ hi) && decide (hi ≤ es.length)) (some (.ro s ((es.take hi).drop lo)))
  | .nils => gd (lo == 0 && hi == 0) (some .nils)
  | .em => gd (lo == 0 && hi == 0) (some .em)
  | _ => none
theorem vSlice_ro (s es lo hi) : vSlice (.ro s es) lo hi = gd (decide (lo ≤ hi) && decide (hi ≤ es.length)) (some (.ro s ((es.take hi).drop lo))) := rfl
/-- A part of a slice of ours; 'n': how many elements there are from its first one on. -/
def ownS (s l i lo hi : Nat) : D := bif decide (lo < hi) || lo == 0 then .own l (i + lo) (hi - lo) else .ro s []
theorem ownS_lt (s l i lo hi) (h : lo < hi) : ownS s l i lo hi = .own l (i + lo) (hi - lo) := by simp [ownS, h]
theorem ownS_0 (s l i hi) : ownS s l i 0 hi = .own l i hi := by simp [ownS]
theorem ownS_eq (s l i lo) (h : 0 < lo) : ownS s l i lo lo = .ro s [] := by
  have : (lo == 0) = false := by simp; omega
  simp [ownS, this]
def lenD : D → Option Nat
  | .nils => some 0
  | .em => some 0
  | .ro _ es => some es.length
  | .own _ _ n => some n
  | _ => none
theorem lenD_ro (s es) : lenD (.ro s es) = some es.length := rfl
theorem lenD_own (l i n) : lenD (.own l i n) = some n := rfl
theorem lenD_nils : lenD .nils = some 0 := rfl
theorem lenD_em : lenD .em = some 0 := rfl

def slW (ty : Nat) : Option Nat := bO (τ ty) fun ti => bO (tslice ti) fun te => bO (τ te) fun ie => some ie.size
theorem slW_def (ty) : slW τ ty = bO (τ ty) fun ti => bO (tslice ti) fun te => bO (τ te) fun ie => some ie.size := rfl
def rowLen (o : Ob) : Option Nat := match o.k with | .row => some o.es.length | _ => none
theorem rowLen_row (s t z e) : rowLen ⟨s, .row, t, z, e⟩ = some e.length := rfl
/-- A slice expression, where the slice's elements are as wide as its type says. -/
def vSl (h : List (Nat × Ob)) (ty : Nat) (x : D) (lo hi : Nat) : Option D :=
  match x with
  | .ro s es => bO (slW τ ty) fun z => gd (z == s) (vSlice (.ro s es) lo hi)
  | .own l i n => bO (slW τ ty) fun z => bO (objR h l) fun o => bO (rowLen o) fun m => gd (z == obsz o && (z != 0 && (decide (lo ≤ hi) && (decide (hi ≤ n) || decide (i + hi ≤ m))))) (some (ownS z l i lo hi))
  | .nils => bO (slW τ ty) fun _ => vSlice .nils lo hi
  | .em => bO (slW τ ty) fun _ => vSlice .em lo hi
  | _ => none
theorem vSl_ro (h ty s es lo hi) : vSl τ h ty (.ro s es) lo hi = bO (slW τ ty) fun z => gd (z == s) (vSlice (.ro s es) lo hi) := rfl
theorem vSl_own (h ty l i n lo hi) : vSl τ h ty (.own l i n) lo hi = bO (slW τ ty) fun z => bO (objR h l) fun o => bO (rowLen o) fun m => gd (z == obsz o && (z != 0 && (decide (lo ≤ hi) && (decide (hi ≤ n) || decide (i + hi ≤ m))))) (some (ownS z l i lo hi)) := rfl
theorem vSl_nils (h ty lo hi) : vSl τ h ty .nils lo hi = bO (slW τ ty) fun _ => vSlice .nils lo hi := rfl
theorem vSl_em (h ty lo hi) : vSl τ h ty .em lo hi = bO (slW τ ty) fun _ => vSlice .em lo hi := rfl
theorem vSlice_nils (lo hi) : vSlice .nils lo hi = gd (lo == 0 && hi == 0) (some .nils) := rfl
theorem vSlice_em (lo hi) : vSlice .em lo hi = gd (lo == 0 && hi == 0) (some .em) := rfl
/-- The same with a bound on what may be appended. -/
def emOr (b : Bool) (d : D) : D := bif b then .em else d
theorem emOr_t (d) : emOr true d = .em := rfl
theorem emOr_f (d) : emOr false d = d := rfl
def vSl3 (h : List (Nat × Ob)) (ty : Nat) (x : D) (lo hi mx : Nat) : Option D :=
  match x with
  | .ro s es => bO (slW τ ty) fun z => gd (z == s && (decide (lo ≤ hi) && (decide (hi ≤ mx) && decide (mx ≤ es.length)))) (some (emOr (mx == lo) (.ro s ((es.take hi).drop lo))))
  | .own _ _ n => bO (slW τ ty) fun _ => gd (decide (lo ≤ hi) && (decide (hi ≤ mx) && decide (mx ≤ n))) (some (emOr (mx == lo) .any))
  | .nils => bO (slW τ ty) fun _ => gd (lo == 0 && (hi == 0 && mx == 0)) (some .nils)
  | .em => bO (slW τ ty) fun _ => gd (lo == 0 && (hi == 0 && mx == 0)) (some .em)
  | _ => none
theorem vSl3_ro (h ty s es lo hi mx) : vSl3 τ h ty (.ro s es) lo hi mx = bO (slW τ ty) fun z => gd (z == s && (decide (lo ≤ hi) && (decide (hi ≤ mx) && decide (mx ≤ es.length)))) (some (emOr (mx == lo) (.ro s ((es.take hi).drop lo)))) := rfl
theorem vSl3_own (h ty l i n lo hi mx) : vSl3 τ h ty (.own l i n) lo hi mx = bO (slW τ ty) fun _ => gd (decide (lo ≤ hi) && (decide (hi ≤ mx) && decide (mx ≤ n))) (some (emOr (mx == lo) .any)) := rfl
theorem vSl3_nils (h ty lo hi mx) : vSl3 τ h ty .nils lo hi mx = bO (slW τ ty) fun _ => gd (lo == 0 && (hi == 0 && mx == 0)) (some .nils) := rfl
theorem vSl3_em (h ty lo hi mx) : vSl3 τ h ty .em lo hi mx = bO (slW τ ty) fun _ => gd (lo == 0 && (hi == 0 && mx == 0)) (some .em) := rfl

/-! ### what makes objects -/
def nm (d : Nat) : Nat := 1000 * (d + 1)
theorem nm_def (d) : nm d = 1000 * (d + 1) := rfl
def fresh (h : List (Nat × Ob)) (n : Nat) : Bool := (getO h n).isNone
theorem fresh_nil (n) : fresh [] n = true := rfl
theorem fresh_cons (m : Nat) (o h n) (e : (m == n) = false) : fresh ((m, o) :: h) n = fresh h n := by simp only [fresh, getO_miss m o h n e]
def setAt (cs : List D) (j : Nat) (v : List D) : Option (List D) := gd (decide (j + v.length ≤ cs.length)) (some (cs.take j ++ v ++ cs.drop (j + v.length)))
theorem setAt_def (cs j v) : setAt cs j v = gd (decide (j + v.length ≤ cs.length)) (some (cs.take j ++ v ++ cs.drop (j + v.length))) := rfl
def fillS (t : List (Nat × D)) (i : TI) : List (Nat × A) → List D → Option (List D)
  | [], cs => some cs
  | (f, x) :: ps, cs => bO (fOff i f) fun p => gd ((cells (ev t x)).length == p.2.1 && allB (cells (ev t x))) (bO (setAt cs p.1 (cells (ev t x))) fun cs' => fillS t i ps cs')
theorem fillS_nil (t i cs) : fillS t i [] cs = some cs := rfl
theorem fillS_cons (t i f x ps cs) : fillS t i ((f, x) :: ps) cs = bO (fOff i f) fun p => gd ((cells (ev t x)).length == p.2.1 && allB (cells (ev t x))) (bO (setAt cs p.1 (cells (ev t x))) fun cs' => fillS t i ps cs') := rfl
/-- Elements one by one from 'n' on: the parts of a slice literal, in order. -/
def fillE (t : List (Nat × D)) (h : List (Nat × Ob)) (sz : Nat) : Nat → List (Nat × A) → Option (List (List D) × List (Nat × Ob))
  | _, [] => some ([], h)
  | n, (i, x) :: ps => gd (i == n && (cells (ev t x)).length == sz) (bO (lowL h (cells (ev t x))) fun p => bO (fillE t p.2 sz (n + 1) ps) fun q => some (p.1 :: q.1, q.2))
theorem fillE_nil (t h sz n) : fillE t h sz n [] = some ([], h) := rfl
theorem fillE_cons (t h sz n i x ps) : fillE t h sz n ((i, x) :: ps) = gd (i == n && (cells (ev t x)).length == sz) (bO (lowL h (cells (ev t x))) fun p => bO (fillE t p.2 sz (n + 1) ps) fun q => some (p.1 :: q.1, q.2)) := rfl
def bkind (i : TI) : OK := match i.k with | .arr _ _ => .row | _ => .box
theorem bkind_int (s b z k) : bkind ⟨s, b, z, .int k⟩ = .box := rfl
theorem bkind_bool (s b z) : bkind ⟨s, b, z, .bool⟩ = .box := rfl
theorem bkind_slice (s b z k) : bkind ⟨s, b, z, .slice k⟩ = .box := rfl
theorem bkind_struct (s b z k) : bkind ⟨s, b, z, .struct k⟩ = .box := rfl
theorem bkind_ptr (s b z k) : bkind ⟨s, b, z, .ptr k⟩ = .box := rfl
theorem bkind_map (s b z k e) : bkind ⟨s, b, z, .map k e⟩ = .box := rfl
theorem bkind_other (s b z) : bkind ⟨s, b, z, .other⟩ = .box := rfl
theorem bkind_arr (s b z n e) : bkind ⟨s, b, z, .arr n e⟩ = .row := rfl
def okK (k : OK) (cs : List D) : Bool := match k with | .box => allB cs | .row => cs.all okR | .map => false
theorem okK_box (cs) : okK .box cs = allB cs := rfl
theorem okK_row (cs) : okK .row cs = cs.all okR := rfl

abbrev VH := D × List (Nat × Ob)

def vAlloc (h : List (Nat × Ob)) (d e : Nat) : Option VH :=
  bO (τ e) fun i => gd (fresh h (nm d) && i.zero.length == i.size && okK (bkind i) i.zero) (some (.ptr (nm d) 0 0, (nm d, ⟨2, bkind i, e, i.size, [i.zero]⟩) :: h))
theorem vAlloc_def (h d e) : vAlloc τ h d e = bO (τ e) fun i => gd (fresh h (nm d) && i.zero.length == i.size && okK (bkind i) i.zero) (some (.ptr (nm d) 0 0, (nm d, ⟨2, bkind i, e, i.size, [i.zero]⟩) :: h)) := rfl
def vBox (h : List (Nat × Ob)) (d e : Nat) (x : D) : Option VH :=
  bO (τ e) fun i => gd (fresh h (nm d) && (cells x).length == i.size && okK (bkind i) (cells x)) (some (.ptr (nm d) 0 0, (nm d, ⟨2, bkind i, e, i.size, [cells x]⟩) :: h))
theorem vBox_def (h d e x) : vBox τ h d e x = bO (τ e) fun i => gd (fresh h (nm d) && (cells x).length == i.size && okK (bkind i) (cells x)) (some (.ptr (nm d) 0 0, (nm d, ⟨2, bkind i, e, i.size, [cells x]⟩) :: h)) := rfl
def vBuild (t : List (Nat × D)) (ty : Nat) (ps : List (Nat × A)) : Option D :=
  bO (τ ty) fun i => bO (fillS t i ps i.zero) fun cs => some (.agg cs)
theorem vBuild_def (t ty ps) : vBuild τ t ty ps = bO (τ ty) fun i => bO (fillS t i ps i.zero) fun cs => some (.agg cs) := rfl
def vBuildSlice (t : List (Nat × D)) (h : List (Nat × Ob)) (d ty n : Nat) (ps : List (Nat × A)) : Option VH :=
  bO (τ ty) fun i => bO (tslice i) fun e => bO (τ e) fun ie => gd (fresh h (nm d) && ps.length == n && ie.size != 0 && decide (n * ie.size ≤ 16777216)) (bO (fillE t h ie.size 0 ps) fun q => some (.own (nm d) 0 n, (nm d, ⟨2, .row, e, ie.size, q.1⟩) :: q.2))
theorem vBuildSlice_def (t h d ty n ps) : vBuildSlice τ t h d ty n ps = bO (τ ty) fun i => bO (tslice i) fun e => bO (τ e) fun ie => gd (fresh h (nm d) && ps.length == n && ie.size != 0 && decide (n * ie.size ≤ 16777216)) (bO (fillE t h ie.size 0 ps) fun q => some (.own (nm d) 0 n, (nm d, ⟨2, .row, e, ie.size, q.1⟩) :: q.2)) := rfl
def room : Nat := 70368744177664
theorem room_def : room = 70368744177664 := rfl
def vMake (h : List (Nat × Ob)) (d ty : Nat) (l c : D) : Option VH :=
  bO (τ ty) fun i => bO (tslice i) fun e => bO (τ e) fun ie => bO (natD l) fun n => bO (natD c) fun m =>
    gd (fresh h (nm d) && ie.size != 0 && ie.zero.length == ie.size && ie.zero.all okR && decide (n ≤ m) && decide (m * ie.bytes ≤ room) && decide (m ≤ room)) (some (.own (nm d) 0 n, (nm d, ⟨2, .row, e, ie.size, List.replicate n ie.zero⟩) :: h))
theorem vMake_def (h d ty l c) : vMake τ h d ty l c = bO (τ ty) fun i => bO (tslice i) fun e => bO (τ e) fun ie => bO (natD l) fun n => bO (natD c) fun m =>
    gd (fresh h (nm d) && ie.size != 0 && ie.zero.length == ie.size && ie.zero.all okR && decide (n ≤ m) && decide (m * ie.bytes ≤ room) && decide (m ≤ room)) (some (.own (nm d) 0 n, (nm d, ⟨2, .row, e, ie.size, List.replicate n ie.zero⟩) :: h)) := rfl
/-- What is appended, or copied: its elements, 'z' cells each. -/
def appY (h : List (Nat × Ob)) (z : Nat) : D → Option (List (List D))
  | .nils => some []
  | .em => some []
  | .ro s es => gd (s == z) (some es)
  | .own l i n => bO (objR h l) fun o => gd (obsz o == z) (viewE h (.own l i n))
  | _ => none
theorem appY_nils (h z) : appY h z .nils = some [] := rfl
theorem appY_em (h z) : appY h z .em = some [] := rfl
theorem appY_ro (h z s es) : appY h z (.ro s es) = gd (s == z) (some es) := rfl
theorem appY_own (h z l i n) : appY h z (.own l i n) = bO (objR h l) fun o => gd (obsz o == z) (viewE h (.own l i n)) := rfl
def roomy (ie : TI) (n : Nat) : Bool := ie.size != 0 && (ie.zero.length == ie.size && (decide (n * ie.bytes ≤ room) && decide (n ≤ room)))
theorem roomy_def (ie n) : roomy ie n = (ie.size != 0 && (ie.zero.length == ie.size && (decide (n * ie.bytes ≤ room) && decide (n ≤ room)))) := rfl
/-- Onto nothing. -/
def appN (h : List (Nat × Ob)) (d e : Nat) (ie : TI) (x : D) : List (List D) → Option VH
  | [] => some (x, h)
  | y :: ys => gd (fresh h (nm d) && roomy ie (y :: ys).length) (some (.own (nm d) 0 (y :: ys).length, (nm d, ⟨2, .row, e, ie.size, y :: ys⟩) :: h))
theorem appN_nil (h d e ie x) : appN h d e ie x [] = some (x, h) := rfl
theorem appN_cons (h d e ie x y ys) : appN h d e ie x (y :: ys) = gd (fresh h (nm d) && roomy ie (y :: ys).length) (some (.own (nm d) 0 (y :: ys).length, (nm d, ⟨2, .row, e, ie.size, y :: ys⟩) :: h)) := rfl
theorem appN_pos (h d e ie x ys) (hp : 0 < ys.length) : appN h d e ie x ys = gd (fresh h (nm d) && roomy ie ys.length) (some (.own (nm d) 0 ys.length, (nm d, ⟨2, .row, e, ie.size, ys⟩) :: h)) := by
  cases ys with
  | nil => simp at hp
  | cons => rfl
/-- Onto a whole row, which is gone behind it; or over a row's own elements behind a part of it. -/
def appO (h : List (Nat × Ob)) (d e : Nat) (ie : TI) (l i n : Nat) (o : Ob) (ys : List (List D)) : Bool → Option VH
  | true => gd (fresh h (nm d) && roomy ie (n + ys.length)) (some (.own (nm d) 0 (n + ys.length), (nm d, ⟨2, .row, e, ie.size, o.es ++ ys⟩) :: (l, ⟨0, o.k, o.ty, o.sz, o.es⟩) :: h))
  | false => gd (ie.size != 0 && decide (i + n + ys.length ≤ o.es.length)) (some (.own l i (n + ys.length), (l, ⟨2, o.k, o.ty, o.sz, o.es.take (i + n) ++ ys ++ o.es.drop (i + n + ys.length)⟩) :: h))
def appW (h : List (Nat × Ob)) (d e : Nat) (ie : TI) (l i n : Nat) (ys : List (List D)) (o : Ob) : Option VH :=
  gd (decide (o.k = .row) && (o.ty == e && o.sz == ie.size)) (appO h d e ie l i n o ys (i == 0 && o.es.length == n))
theorem appW_row (h d e ie l i n ys s t z es) : appW h d e ie l i n ys ⟨s, .row, t, z, es⟩ = gd (t == e && z == ie.size) (appO h d e ie l i n ⟨s, .row, t, z, es⟩ ys (i == 0 && es.length == n)) := rfl
theorem appO_t (h d e ie l i n s t z es ys) : appO h d e ie l i n ⟨s, .row, t, z, es⟩ ys true = gd (fresh h (nm d) && roomy ie (n + ys.length)) (some (.own (nm d) 0 (n + ys.length), (nm d, ⟨2, .row, e, ie.size, es ++ ys⟩) :: (l, ⟨0, .row, t, z, es⟩) :: h)) := rfl
theorem appO_f (h d e ie l i n s t z es ys) : appO h d e ie l i n ⟨s, .row, t, z, es⟩ ys false = gd (ie.size != 0 && decide (i + n + ys.length ≤ es.length)) (some (.own l i (n + ys.length), (l, ⟨2, .row, t, z, es.take (i + n) ++ ys ++ es.drop (i + n + ys.length)⟩) :: h)) := rfl
def vApp (h : List (Nat × Ob)) (d e : Nat) (ie : TI) (x : D) (ys : List (List D)) : Option VH :=
  match x with
  | .nils => appN h d e ie .nils ys
  | .em => appN h d e ie .em ys
  | .own l i n => bO (objW h l) fun o => appW h d e ie l i n ys o
  | _ => none
theorem vApp_nils (h d e ie ys) : vApp h d e ie .nils ys = appN h d e ie .nils ys := rfl
theorem vApp_em (h d e ie ys) : vApp h d e ie .em ys = appN h d e ie .em ys := rfl
theorem vApp_own (h d e ie l i n ys) : vApp h d e ie (.own l i n) ys = bO (objW h l) fun o => appW h d e ie l i n ys o := rfl
def vAppend (h : List (Nat × Ob)) (d ty : Nat) (x y : D) : Option VH :=
  bO (τ ty) fun i => bO (tslice i) fun e => bO (τ e) fun ie => bO (appY h ie.size y) fun ys => vApp h d e ie x ys
theorem vAppend_def (h d ty x y) : vAppend τ h d ty x y = bO (τ ty) fun i => bO (tslice i) fun e => bO (τ e) fun ie => bO (appY h ie.size y) fun ys => vApp h d e ie x ys := rfl

/-! ### clear, copy -/
def clrO (h : List (Nat × Ob)) (ie : TI) (l i n : Nat) (o : Ob) : Option (List (Nat × Ob)) :=
  gd (decide (o.k = .row) && (o.sz == ie.size && (ie.size != 0 && (ie.zero.length == ie.size && (ie.zero.all okR && decide (i + n ≤ o.es.length)))))) (some ((l, ⟨2, o.k, o.ty, o.sz, o.es.take i ++ List.replicate n ie.zero ++ o.es.drop (i + n)⟩) :: h))
theorem clrO_row (h ie l i n s t z es) : clrO h ie l i n ⟨s, .row, t, z, es⟩ = gd (z == ie.size && (ie.size != 0 && (ie.zero.length == ie.size && (ie.zero.all okR && decide (i + n ≤ es.length))))) (some ((l, ⟨2, .row, t, z, es.take i ++ List.replicate n ie.zero ++ es.drop (i + n)⟩) :: h)) := rfl
def vClear (h : List (Nat × Ob)) (ty : Nat) (x : D) : Option (List (Nat × Ob)) :=
  bO (τ ty) fun i => bO (tslice i) fun e => bO (τ e) fun ie => match x with
    | .nils => some h
    | .em => some h
    | .ro _ es => gd es.isEmpty (some h)
    | .own l i n => bO (objW h l) fun o => clrO h ie l i n o
    | _ => none
theorem vClear_nils (h ty) : vClear τ h ty .nils = bO (τ ty) fun i => bO (tslice i) fun e => bO (τ e) fun _ => some h := rfl
theorem vClear_em (h ty) : vClear τ h ty .em = bO (τ ty) fun i => bO (tslice i) fun e => bO (τ e) fun _ => some h := rfl
theorem vClear_ro (h ty s es) : vClear τ h ty (.ro s es) = bO (τ ty) fun i => bO (tslice i) fun e => bO (τ e) fun _ => gd es.isEmpty (some h) := rfl
theorem vClear_own (h ty l i n) : vClear τ h ty (.own l i n) = bO (τ ty) fun ti => bO (tslice ti) fun e => bO (τ e) fun ie => bO (objW h l) fun o => clrO h ie l i n o := rfl
def cpyO (h : List (Nat × Ob)) (ie : TI) (l i n : Nat) (ys : List (List D)) (o : Ob) : Option (List (Nat × Ob)) :=
  gd (decide (o.k = .row) && (o.sz == ie.size && (ie.size != 0 && decide (i + n ≤ o.es.length)))) (some ((l, ⟨2, o.k, o.ty, o.sz, o.es.take i ++ ys.take n ++ o.es.drop (i + Nat.min n ys.length)⟩) :: h))
theorem cpyO_row (h ie l i n ys s t z es) : cpyO h ie l i n ys ⟨s, .row, t, z, es⟩ = gd (z == ie.size && (ie.size != 0 && decide (i + n ≤ es.length))) (some ((l, ⟨2, .row, t, z, es.take i ++ ys.take n ++ es.drop (i + Nat.min n ys.length)⟩) :: h)) := rfl
def vCopyE (h : List (Nat × Ob)) (ie : TI) (x : D) (ys : List (List D)) : Option VH :=
  match x with
  | .nils => some (.int .i64 0, h)
  | .em => some (.int .i64 0, h)
  | .own l i n => bO (objW h l) fun o => bO (cpyO h ie l i n ys o) fun h' => some (.int .i64 (Nat.min n ys.length : Nat), h')
  | _ => none
theorem vCopyE_nils (h ie ys) : vCopyE h ie .nils ys = some (.int .i64 0, h) := rfl
theorem vCopyE_em (h ie ys) : vCopyE h ie .em ys = some (.int .i64 0, h) := rfl
theorem vCopyE_own (h ie l i n ys) : vCopyE h ie (.own l i n) ys = bO (objW h l) fun o => bO (cpyO h ie l i n ys o) fun h' => some (.int .i64 (Nat.min n ys.length : Nat), h') := rfl
def vCopy (h : List (Nat × Ob)) (ty : Nat) (x y : D) : Option VH :=
  bO (τ ty) fun i => bO (tslice i) fun e => bO (τ e) fun ie => bO (appY h ie.size y) fun ys => vCopyE h ie x ys
theorem vCopy_def (h ty x y) : vCopy τ h ty x y = bO (τ ty) fun i => bO (tslice i) fun e => bO (τ e) fun ie => bO (appY h ie.size y) fun ys => vCopyE h ie x ys := rfl

/-! ### maps: the entries as they were laid in -/
def tmap (i : TI) : Option (Nat × Nat) := match i.k with | .map k e => some (k, e) | _ => none
theorem tmap_map (s b z k e) : tmap ⟨s, b, z, .map k e⟩ = some (k, e) := rfl
def tint0 (i : TI) : Bool := match i.k with | .int _ => true | _ => false
theorem tint0_int (s b z k) : tint0 ⟨s, b, z, .int k⟩ = true := rfl
def isMapO (o : Ob) : Bool := match o.k with | .map => true | _ => false
theorem isMapO_map (s t z e) : isMapO ⟨s, .map, t, z, e⟩ = true := rfl
def oes (o : Ob) : List (List D) := o.es
theorem oes_mk (s k t z e) : oes ⟨s, k, t, z, e⟩ = e := rfl
/-- The entry of a key: where it lies, and its value. -/
def findM (k : IntKind) (n : Int) : List (List D) → Nat → Option (Option (Nat × D))
  | [], _ => some none
  | [.int k' n', d] :: es, i => gd (decide (k = k')) (match n == n' with | true => some (some (i, d)) | false => findM k n es (i + 1))
  | _, _ => none
def zeroD (i : TI) : Option D := bif i.isAgg then some (.agg i.zero) else match i.zero with | [d] => some d | _ => none
/-- The key and the element type of a map type whose keys are whole numbers. -/
def mapT (t : Nat) : Option (Nat × Nat) := bO (τ t) fun ti => bO (tmap ti) fun p => bO (τ p.1) fun ki => gd (tint0 ki) (some p)
theorem mapT_def (t) : mapT τ t = bO (τ t) fun ti => bO (tmap ti) fun p => bO (τ p.1) fun ki => gd (tint0 ki) (some p) := rfl
def okv (c : Bool) (d : D) (b : Bool) : D := match c with | true => .tup [d, .bool b] | false => d
theorem okv_t (d b) : okv true d b = .tup [d, .bool b] := rfl
theorem okv_f (d b) : okv false d b = d := rfl
def foundV (c : Bool) (z : Option D) : Option (Nat × D) → Option D
  | some p => some (okv c p.2 true)
  | none => bO z fun d => some (okv c d false)
theorem foundV_some (c z p) : foundV c z (some p) = some (okv c p.2 true) := rfl
theorem foundV_none (c z) : foundV c z none = bO z fun d => some (okv c d false) := rfl
def vLookup (h : List (Nat × Ob)) (t : Nat) (x i : D) (c : Bool) : Option D :=
  match x, i with
  | .nilm, .int _ _ => bO (mapT τ t) fun p => bO (τ p.2) fun ie => foundV c (zeroD ie) none
  | .mp l, .int k n => bO (mapT τ t) fun p => bO (τ p.2) fun ie => bO (objR h l) fun o => gd (isMapO o) (bO (findM k n (oes o) 0) fun r => foundV c (zeroD ie) r)
  | _, _ => none
theorem vLookup_nil (h t k n c) : vLookup τ h t .nilm (.int k n) c = bO (mapT τ t) fun p => bO (τ p.2) fun ie => foundV c (zeroD ie) none := rfl
theorem vLookup_mp (h t l k n c) : vLookup τ h t (.mp l) (.int k n) c = bO (mapT τ t) fun p => bO (τ p.2) fun ie => bO (objR h l) fun o => gd (isMapO o) (bO (findM k n (oes o) 0) fun r => foundV c (zeroD ie) r) := rfl
def putM (k : IntKind) (n : Int) (d : D) (es : List (List D)) : Option (Nat × D) → List (List D)
  | some p => es.set p.1 [.int k n, d]
  | none => es ++ [[.int k n, d]]
theorem putM_some (k n d es p) : putM k n d es (some p) = es.set p.1 [.int k n, d] := rfl
theorem putM_none (k n d es) : putM k n d es none = es ++ [[.int k n, d]] := rfl
def vMapUpd (h : List (Nat × Ob)) (t : Nat) (x i v : D) : Option (List (Nat × Ob)) :=
  match x, i with
  | .mp l, .int k n => bO (mapT τ t) fun _ => bO (objW h l) fun o => gd (isMapO o) (bO (findM k n (oes o) 0) fun r => some ((l, ⟨2, .map, o.ty, o.sz, putM k n v (oes o) r⟩) :: h))
  | _, _ => none
theorem vMapUpd_mp (h t l k n v) : vMapUpd τ h t (.mp l) (.int k n) v = bO (mapT τ t) fun _ => bO (objW h l) fun o => gd (isMapO o) (bO (findM k n (oes o) 0) fun r => some ((l, ⟨2, .map, o.ty, o.sz, putM k n v (oes o) r⟩) :: h)) := rfl
def cutM (es : List (List D)) : Option (Nat × D) → List (List D)
  | some p => es.eraseIdx p.1
  | none => es
theorem cutM_some (es p) : cutM es (some p) = es.eraseIdx p.1 := rfl
theorem cutM_none (es) : cutM es none = es := rfl
def vDelete (h : List (Nat × Ob)) (t : Nat) (x i : D) : Option (List (Nat × Ob)) :=
  match x, i with
  | .mp l, .int k n => bO (mapT τ t) fun _ => bO (objW h l) fun o => gd (isMapO o) (bO (findM k n (oes o) 0) fun r => some ((l, ⟨2, .map, o.ty, o.sz, cutM (oes o) r⟩) :: h))
  | .nilm, .int _ _ => bO (mapT τ t) fun _ => some h
  | _, _ => none
theorem vDelete_mp (h t l k n) : vDelete τ h t (.mp l) (.int k n) = bO (mapT τ t) fun _ => bO (objW h l) fun o => gd (isMapO o) (bO (findM k n (oes o) 0) fun r => some ((l, ⟨2, .map, o.ty, o.sz, cutM (oes o) r⟩) :: h)) := rfl
theorem vDelete_nil (h t k n) : vDelete τ h t .nilm (.int k n) = bO (mapT τ t) fun _ => some h := rfl
def vMlen (h : List (Nat × Ob)) (t : Nat) : D → Option D
  | .nilm => bO (mapT τ t) fun _ => some (.int .i64 0)
  | .mp l => bO (mapT τ t) fun _ => bO (objR h l) fun o => gd (isMapO o) (some (.int .i64 (oes o).length))
  | _ => none
theorem vMlen_nil (h t) : vMlen τ h t .nilm = bO (mapT τ t) fun _ => some (.int .i64 0) := rfl
theorem vMlen_mp (h t l) : vMlen τ h t (.mp l) = bO (mapT τ t) fun _ => bO (objR h l) fun o => gd (isMapO o) (some (.int .i64 (oes o).length)) := rfl
def vMakeMap (h : List (Nat × Ob)) (d t : Nat) : Option VH := gd (fresh h (nm d)) (some (.mp (nm d), (nm d, ⟨2, .map, t, 2, []⟩) :: h))
theorem vMakeMap_def (h d t) : vMakeMap h d t = gd (fresh h (nm d)) (some (.mp (nm d), (nm d, ⟨2, .map, t, 2, []⟩) :: h)) := rfl

/-! ### stores -/
def lowK (k : OK) (h : List (Nat × Ob)) (cs : List D) : Option (List D × List (Nat × Ob)) :=
  match k with | .box => gd (allB cs) (some (cs, h)) | .row => lowL h cs | .map => none
theorem lowK_box (h cs) : lowK .box h cs = gd (allB cs) (some (cs, h)) := rfl
theorem lowK_row (h cs) : lowK .row h cs = lowL h cs := rfl
def okk (o : Ob) : OK := o.k
theorem okk_mk (s k t z e) : okk ⟨s, k, t, z, e⟩ = k := rfl
def putE (o : Ob) (i j : Nat) (cs : List D) : Option Ob := bO (oEs o i) fun e => bO (setAt e j cs) fun e' => some ⟨2, o.k, o.ty, o.sz, o.es.set i e'⟩
theorem putE_box (st t s es i j cs) : putE ⟨st, .box, t, s, es⟩ i j cs = bO es[i]? fun e => bO (setAt e j cs) fun e' => some ⟨2, .box, t, s, es.set i e'⟩ := rfl
theorem putE_row (st t s es i j cs) : putE ⟨st, .row, t, s, es⟩ i j cs = bO es[i]? fun e => bO (setAt e j cs) fun e' => some ⟨2, .row, t, s, es.set i e'⟩ := rfl
def vStore (h : List (Nat × Ob)) (ty : Nat) (a v : D) : Option (List (Nat × Ob)) :=
  match a with
  | .ptr l i j => bO (τ ty) fun ti => gd ((cells v).length == ti.size) (bO (objW h l) fun o => bO (lowK (okk o) h (cells v)) fun p => bO (objW p.2 l) fun o' => bO (putE o' i j p.1) fun o2 => some ((l, o2) :: p.2))
  | _ => none
theorem vStore_ptr (h ty l i j v) : vStore τ h ty (.ptr l i j) v = bO (τ ty) fun ti => gd ((cells v).length == ti.size) (bO (objW h l) fun o => bO (lowK (okk o) h (cells v)) fun p => bO (objW p.2 l) fun o' => bO (putE o' i j p.1) fun o2 => some ((l, o2) :: p.2)) := rfl

/-! ### calls of what only reads: the arguments are handed over as they read -/
def cloF : D → Option (Nat × List D)
  | .clo f cs => some (f, cs)
  | _ => none
theorem cloF_clo (f cs) : cloF (.clo f cs) = some (f, cs) := rfl
def evs (t : List (Nat × D)) : List A → List D
  | [] => []
  | x :: xs => ev t x :: evs t xs
theorem evs_nil (t) : evs t [] = [] := rfl
theorem evs_cons (t x xs) : evs t (x :: xs) = ev t x :: evs t xs := rfl
def vCall (t : List (Nat × D)) (h : List (Nat × Ob)) (f : A) (xs : List A) : Option VH :=
  bO (cloF (ev t f)) fun c => bO (lowDs h (evs t xs ++ c.2)) fun p => bO (T.p c.1 p.1) fun r => some (r, p.2)
theorem vCall_f (t h f xs) : vCall T t h (.f f) xs = bO (lowDs h (evs t xs)) fun p => bO (T.p f p.1) fun r => some (r, p.2) := by
  simp only [vCall, ev, cloF, bO_some, List.append_nil]
theorem vCall_t (t h n xs) : vCall T t h (.t n) xs = bO (cloF (get t n)) fun c => bO (lowDs h (evs t xs ++ c.2)) fun p => bO (T.p c.1 p.1) fun r => some (r, p.2) := rfl

/-- The same, where nothing of ours is handed over: it does not look at our objects. -/
def vCallP (t : List (Nat × D)) (f : A) (xs : List A) : Option D :=
  bO (cloF (ev t f)) fun c => bO (lowDs [] (evs t xs ++ c.2)) fun p => T.p c.1 p.1
theorem vCallP_f (t f xs) : vCallP T t (.f f) xs = bO (lowDs [] (evs t xs)) fun p => T.p f p.1 := by
  simp only [vCallP, ev, cloF, bO_some, List.append_nil]
theorem vCallP_t (t n xs) : vCallP T t (.t n) xs = bO (cloF (get t n)) fun c => bO (lowDs [] (evs t xs ++ c.2)) fun p => T.p c.1 p.1 := rfl

/-- A call of the library's that reads objects, and makes one at most; 'ex': what else is made beside it. -/
def outside (ex : List Nat) (l : Nat) : Bool := match ex with | [] => true | d :: ex => !(l == nm d) && outside ex l
theorem outside_nil (l) : outside [] l = true := rfl
theorem outside_cons (d ex l) : outside (d :: ex) l = (!(l == nm d) && outside ex l) := rfl
/-- The object that a value leads to. -/
def objA (h : List (Nat × Ob)) (ex : List Nat) : D → Option (Option Ob)
  | .mp l => gd (outside ex l) (bO (objR h l) fun o => some (some o))
  | .own l _ _ => gd (outside ex l) (bO (objR h l) fun o => some (some o))
  | .ptr _ _ _ => none
  | .agg _ => none
  | .tup _ => none
  | .clo _ _ => none
  | _ => some none
theorem objA_mp (h ex l) : objA h ex (.mp l) = gd (outside ex l) (bO (objR h l) fun o => some (some o)) := rfl
theorem objA_own (h ex l i n) : objA h ex (.own l i n) = gd (outside ex l) (bO (objR h l) fun o => some (some o)) := rfl
theorem objA_int (h ex k n) : objA h ex (.int k n) = some none := rfl
theorem objA_ro (h ex k n) : objA h ex (.ro k n) = some none := rfl
theorem objA_nils (h ex) : objA h ex .nils = some none := rfl
theorem objA_nilm (h ex) : objA h ex .nilm = some none := rfl
theorem objA_em (h ex) : objA h ex .em = some none := rfl
def objsA (h : List (Nat × Ob)) (ex : List Nat) : List D → Option (List (Option Ob))
  | [] => some []
  | d :: ds => bO (objA h ex d) fun o => bO (objsA h ex ds) fun os => some (o :: os)
theorem objsA_nil (h ex) : objsA h ex [] = some [] := rfl
theorem objsA_cons (h ex d ds) : objsA h ex (d :: ds) = bO (objA h ex d) fun o => bO (objsA h ex ds) fun os => some (o :: os) := rfl
def newV (n : Nat) (o : Ob) : D := match o.k with | .map => .mp n | .row => .own n 0 o.es.length | .box => .ptr n 0 0
theorem newV_map (n s t z es) : newV n ⟨s, .map, t, z, es⟩ = .mp n := rfl
theorem newV_row (n s t z es) : newV n ⟨s, .row, t, z, es⟩ = .own n 0 es.length := rfl
def joinA (h : List (Nat × Ob)) (d : Nat) : D × Option Ob → Option VH
  | (v, none) => some (v, h)
  | (_, some o) => gd (fresh h (nm d)) (some (newV (nm d) o, (nm d, o) :: h))
theorem joinA_none (h d v) : joinA h d (v, none) = some (v, h) := rfl
theorem joinA_some (h d v o) : joinA h d (v, some o) = gd (fresh h (nm d)) (some (newV (nm d) o, (nm d, o) :: h)) := rfl
def vCallA (t : List (Nat × D)) (h : List (Nat × Ob)) (d : Nat) (ex : List Nat) (f : A) (xs : List A) : Option VH :=
  bO (cloF (ev t f)) fun c => bO (objsA h ex (evs t xs ++ c.2)) fun os => bO (T.a c.1 (evs t xs ++ c.2) os) fun r => joinA h d r
theorem vCallA_f (t h d ex f xs) : vCallA T t h d ex (.f f) xs = bO (objsA h ex (evs t xs)) fun os => bO (T.a f (evs t xs) os) fun r => joinA h d r := by
  simp only [vCallA, ev, cloF, bO_some, List.append_nil]

/-! ### tidying at a loop's head: the slots that are kept, the objects that these lead to, under new names -/
mutual
def ren (f : Nat → Option Nat) : D → D
  | .ptr l i j => match f l with | some k => .ptr k i j | none => .any
  | .own l i n => match f l with | some k => .own k i n | none => .any
  | .mp l => match f l with | some k => .mp k | none => .any
  | .agg cs => .agg (renL f cs)
  | .tup cs => .tup (renL f cs)
  | .clo g cs => .clo g (renL f cs)
  | d => d
def renL (f : Nat → Option Nat) : List D → List D
  | [] => []
  | d :: ds => ren f d :: renL f ds
end
mutual
def locs : D → List Nat
  | .ptr l _ _ => [l]
  | .own l _ _ => [l]
  | .mp l => [l]
  | .agg cs => locsL cs
  | .tup cs => locsL cs
  | .clo _ cs => locsL cs
  | _ => []
def locsL : List D → List Nat
  | [] => []
  | d :: ds => locs d ++ locsL ds
end
def renEs (f : Nat → Option Nat) : List (List D) → List (List D)
  | [] => []
  | e :: es => renL f e :: renEs f es
def renO (f : Nat → Option Nat) (o : Ob) : Ob := match o.k with | .row => o | k => ⟨o.st, k, o.ty, o.sz, renEs f o.es⟩
def locsEs : List (List D) → List Nat
  | [] => []
  | e :: es => locsL e ++ locsEs es
def locsO (o : Option Ob) : List Nat := match o with | some ⟨_, .box, _, _, es⟩ => locsEs es | some ⟨_, .map, _, _, es⟩ => locsEs es | _ => []
def mem (x : Nat) : List Nat → Bool
  | [] => false
  | y :: l => y == x || mem x l
/-- What is reached, in the order in which it is met; 'm': the names below it stay. -/
def close (h : List (Nat × Ob)) (m : Nat) : Nat → List Nat → List Nat → List Nat
  | 0, _, acc => acc
  | _ + 1, [], acc => acc
  | n + 1, x :: xs, acc => bif Nat.blt x m || mem x acc then close h m n xs acc else close h m n (locsO (getO h x) ++ xs) (acc ++ [x])
def idx (x : Nat) : List Nat → Nat → Option Nat
  | [], _ => none
  | y :: l, i => bif y == x then some i else idx x l (i + 1)
def rename (m : Nat) (ls : List Nat) (x : Nat) : Option Nat := bif Nat.blt x m then some x else idx x ls m
def keptT (t : List (Nat × D)) : List Nat → List D
  | [] => []
  | n :: ns => get t n :: keptT t ns
def gcT (f : Nat → Option Nat) (t : List (Nat × D)) : List Nat → List (Nat × D)
  | [] => []
  | n :: ns => (n, ren f (get t n)) :: gcT f t ns
def gcH (f : Nat → Option Nat) (h : List (Nat × Ob)) : List Nat → List (Nat × Ob)
  | [] => []
  | l :: ls => match f l, getO h l with
    | some k, some o => (k, renO f o) :: gcH f h ls
    | _, _ => gcH f h ls
def pars (m : Nat) : List Nat := List.range m
def roots (h : List (Nat × Ob)) (m : Nat) (ds : List D) : List Nat := close h m 1000 ((pars m).flatMap (fun k => locsO (getO h k)) ++ locsL ds) []
def gcL (m : Nat) (ls : List Nat) (keep : List Nat) (s : St) : St := ⟨gcT (rename m ls) s.t keep, gcH (rename m ls) s.h (pars m ++ ls)⟩
def gc (m : Nat) (keep : List Nat) (s : St) : St := gcL m (roots s.h m (keptT s.t keep)) keep s

/-! ### calls to which objects of ours are handed over -/
def back (ls : List Nat) (k b : Nat) (ls2 : List Nat) (x : Nat) : Option Nat := bif Nat.blt x k then ls[x]? else idx x ls2 b
def allIn (h : List (Nat × Ob)) : List Nat → Bool
  | [] => true
  | l :: ls => (getO h l).isSome && allIn h ls
def noneIn (h : List (Nat × Ob)) (b : Nat) : List Nat → Bool
  | [] => true
  | _ :: ls => fresh h b && noneIn h (b + 1) ls
/-- What came of a call, laid over what we have. -/
def joinH (h : List (Nat × Ob)) (ls : List Nat) (b : Nat) (r : VH) (ls2 : List Nat) : Option VH :=
  gd (noneIn h b ls2) (some (ren (back ls ls.length b ls2) r.1, gcH (back ls ls.length b ls2) r.2 (pars ls.length ++ ls2) ++ h))
theorem joinH_def (h ls b r ls2) : joinH h ls b r ls2 = gd (noneIn h b ls2) (some (ren (back ls ls.length b ls2) r.1, gcH (back ls ls.length b ls2) r.2 (pars ls.length ++ ls2) ++ h)) := rfl
def enterH (h : List (Nat × Ob)) (d f : Nat) (args : List D) (ls : List Nat) : Option VH :=
  gd (allIn h ls) (bO (T.h f (renL (rename 0 ls) args) (gcH (rename 0 ls) h ls) ls.length) fun r => joinH h ls (nm d + 1) r (roots r.2 ls.length [r.1]))
theorem enterH_def (h d f args ls) : enterH T h d f args ls = gd (allIn h ls) (bO (T.h f (renL (rename 0 ls) args) (gcH (rename 0 ls) h ls) ls.length) fun r => joinH h ls (nm d + 1) r (roots r.2 ls.length [r.1])) := rfl
def vCallH (t : List (Nat × D)) (h : List (Nat × Ob)) (d : Nat) (f : A) (xs : List A) : Option VH :=
  bO (cloF (ev t f)) fun c => enterH T h d c.1 (evs t xs ++ c.2) (close h 0 1000 (locsL (evs t xs ++ c.2)) [])
theorem vCallH_f (t h d f xs) : vCallH T t h d (.f f) xs = enterH T h d f (evs t xs) (close h 0 1000 (locsL (evs t xs)) []) := by
  simp only [vCallH, ev, cloF, bO_some, List.append_nil]
theorem vCallH_t (t h d n xs) : vCallH T t h d (.t n) xs = bO (cloF (get t n)) fun c => enterH T h d c.1 (evs t xs ++ c.2) (close h 0 1000 (locsL (evs t xs ++ c.2)) []) := rfl
theorem allIn_nil (h) : allIn h [] = true := rfl
theorem allIn_cons (h l ls) : allIn h (l :: ls) = ((getO h l).isSome && allIn h ls) := rfl
theorem noneIn_nil (h b) : noneIn h b [] = true := rfl
theorem noneIn_cons (h b l ls) : noneIn h b (l :: ls) = (fresh h b && noneIn h (b + 1) ls) := rfl
theorem back_lo (ls k b ls2 x) (h : Nat.blt x k = true) : back ls k b ls2 x = ls[x]? := by rw [back, h]; rfl
theorem back_hi (ls k b ls2 x) (h : Nat.blt x k = false) : back ls k b ls2 x = idx x ls2 b := by rw [back, h]; rfl

/-! ### where operations may run in more than one order: what stays apart is asked when it runs -/
def locD : D → Option Nat
  | .ptr l _ _ => some l
  | .own l _ _ => some l
  | .mp l => some l
  | _ => none
theorem locD_ptr (l i j) : locD (.ptr l i j) = some l := rfl
theorem locD_own (l i j) : locD (.own l i j) = some l := rfl
theorem locD_mp (l) : locD (.mp l) = some l := rfl
theorem locD_rop (c) : locD (.rop c) = none := rfl
theorem locD_ro (s e) : locD (.ro s e) = none := rfl
theorem locD_nils : locD .nils = none := rfl
theorem locD_nilp : locD .nilp = none := rfl
def offD (ls : List Nat) (d : D) : Bool := match locD d with | some l => !mem l ls | none => true
def offS : Option Nat → List Nat → Bool
  | some l, ls => !mem l ls
  | none, _ => true
theorem offS_some (l ls) : offS (some l) ls = !mem l ls := rfl
theorem offS_none (ls) : offS none ls = true := rfl
theorem offD_def (ls d) : offD ls d = offS (locD d) ls := by unfold offD offS; cases locD d <;> rfl
def offDs (ls : List Nat) : List D → Bool
  | [] => true
  | d :: ds => offD ls d && offDs ls ds
theorem offDs_nil (ls) : offDs ls [] = true := rfl
theorem offDs_cons (ls d ds) : offDs ls (d :: ds) = (offD ls d && offDs ls ds) := rfl
def offN (ls : List Nat) : List Nat → Bool
  | [] => true
  | d :: ds => !mem (nm d) ls && offN ls ds
theorem offN_nil (ls) : offN ls [] = true := rfl
theorem offN_cons (ls d ds) : offN ls (d :: ds) = (!mem (nm d) ls && offN ls ds) := rfl
def vCallF (t : List (Nat × D)) (h : List (Nat × Ob)) (d : Nat) (ex : List Nat) (fr : List A) (f : A) (xs : List A) : Option VH :=
  bO (cloF (ev t f)) fun c => gd (offN (close h 0 1000 (locsL (evs t xs ++ c.2)) []) ex && offDs (close h 0 1000 (locsL (evs t xs ++ c.2)) []) (evs t fr)) (enterH T h d c.1 (evs t xs ++ c.2) (close h 0 1000 (locsL (evs t xs ++ c.2)) []))
theorem vCallF_f (t h d ex fr f xs) : vCallF T t h d ex fr (.f f) xs = gd (offN (close h 0 1000 (locsL (evs t xs)) []) ex && offDs (close h 0 1000 (locsL (evs t xs)) []) (evs t fr)) (enterH T h d f (evs t xs) (close h 0 1000 (locsL (evs t xs)) [])) := by
  simp only [vCallF, ev, cloF, bO_some, List.append_nil]
def boxAt (h : List (Nat × Ob)) (l : Nat) : Bool := match getO h l with | some o => decide (o.k = .box) | none => false
theorem boxAt_hit (l s t z e h) : boxAt ((l, ⟨s, .box, t, z, e⟩) :: h) l = true := by simp [boxAt, getO]
theorem boxAt_miss (m o h l) (e : (m == l) = false) : boxAt ((m, o) :: h) l = boxAt h l := by unfold boxAt; rw [getO_miss _ _ _ _ e]
def vStoreF (h : List (Nat × Ob)) (ty : Nat) (a v : D) (fr : List D) : Option (List (Nat × Ob)) :=
  match a with
  | .ptr l i j => gd (boxAt h l && offDs [l] fr) (vStore τ h ty (.ptr l i j) v)
  | _ => none
theorem vStoreF_ptr (h ty l i j v fr) : vStoreF τ h ty (.ptr l i j) v fr = gd (boxAt h l && offDs [l] fr) (vStore τ h ty (.ptr l i j) v) := rfl
def sameL (a b : Option Nat) : Bool := match a, b with | some x, some y => x == y | _, _ => false
theorem sameL_some (x y) : sameL (some x) (some y) = (x == y) := rfl
def vLoadF (h : List (Nat × Ob)) (ty : Nat) (a r : D) : Option D := gd (sameL (locD a) (locD r)) (vLoad τ h ty a)
theorem vLoadF_def (h ty a r) : vLoadF τ h ty a r = gd (sameL (locD a) (locD r)) (vLoad τ h ty a) := rfl
def vLoadR (ty : Nat) (a : D) : Option D := vLoad τ [] ty a
theorem vLoadR_rop (ty cs) : vLoadR τ ty (.rop cs) = ldc τ ty cs 0 := rfl
def vIndexR (t : Nat) (x i : D) : Option D := match x with | .ro s es => vIndexAddr τ [] t (.ro s es) i | _ => none
theorem vIndexR_ro (t s es k i) : vIndexR τ t (.ro s es) (.int k i) = bO (τ t) fun ti => bO (tslice ti) fun te => bO (τ te) fun ie => gd (ie.size == s) (bO (nth es i) fun e => some (.rop e)) := rfl
def vBuildSliceP (t : List (Nat × D)) (h : List (Nat × Ob)) (d ty n : Nat) (ps : List (Nat × A)) : Option VH :=
  bO (τ ty) fun i => bO (tslice i) fun e => bO (τ e) fun ie => bO (fillE t [] ie.size 0 ps) fun q => gd (fresh h (nm d) && (ps.length == n && (ie.size != 0 && decide (n * ie.size ≤ 16777216)))) (some (.own (nm d) 0 n, (nm d, ⟨2, .row, e, ie.size, q.1⟩) :: h))
/-- A slice whose elements may lead to objects: its row is a box of several. -/
def fillB (t : List (Nat × D)) (sz : Nat) : Nat → List (Nat × A) → Option (List (List D))
  | _, [] => some []
  | n, (i, x) :: ps => gd (i == n && ((cells (ev t x)).length == sz && allB (cells (ev t x)))) (bO (fillB t sz (n + 1) ps) fun q => some (cells (ev t x) :: q))
theorem fillB_nil (t sz n) : fillB t sz n [] = some [] := rfl
theorem fillB_cons (t sz n i x ps) : fillB t sz n ((i, x) :: ps) = gd (i == n && ((cells (ev t x)).length == sz && allB (cells (ev t x)))) (bO (fillB t sz (n + 1) ps) fun q => some (cells (ev t x) :: q)) := rfl
def vBuildSliceB (t : List (Nat × D)) (h : List (Nat × Ob)) (d ty n : Nat) (ps : List (Nat × A)) : Option VH :=
  bO (τ ty) fun i => bO (tslice i) fun e => bO (τ e) fun ie => bO (fillB t ie.size 0 ps) fun q => gd (fresh h (nm d) && (ps.length == n && (ie.size != 0 && decide (n * ie.size ≤ 16777216)))) (some (.own (nm d) 0 n, (nm d, ⟨2, .box, e, ie.size, q⟩) :: h))
theorem vBuildSliceB_def (t h d ty n ps) : vBuildSliceB τ t h d ty n ps = bO (τ ty) fun i => bO (tslice i) fun e => bO (τ e) fun ie => bO (fillB t ie.size 0 ps) fun q => gd (fresh h (nm d) && (ps.length == n && (ie.size != 0 && decide (n * ie.size ≤ 16777216)))) (some (.own (nm d) 0 n, (nm d, ⟨2, .box, e, ie.size, q⟩) :: h)) := rfl
theorem vBuildSliceP_def (t h d ty n ps) : vBuildSliceP τ t h d ty n ps = bO (τ ty) fun i => bO (tslice i) fun e => bO (τ e) fun ie => bO (fillE t [] ie.size 0 ps) fun q => gd (fresh h (nm d) && (ps.length == n && (ie.size != 0 && decide (n * ie.size ≤ 16777216)))) (some (.own (nm d) 0 n, (nm d, ⟨2, .row, e, ie.size, q.1⟩) :: h)) := rfl

/-- A byte of a text that stands in the program. -/
def vStrI (tbl : List Nat) : D → Option D
  | .int _ n => (match n with | .ofNat m => bO tbl[m]? fun b => some (.int .u8 b) | _ => none)
  | _ => none
theorem vStrI_nat (tbl k) (m : Nat) : vStrI tbl (.int k m) = bO tbl[m]? fun b => some (.int .u8 b) := rfl

/-! ### one operation -/
def onlyV (h : List (Nat × Ob)) (x : Option D) : Option VH := bO x fun v => some (v, h)
/-- A value op's value, and the heap behind it; 'd': its slot. -/
def stepV (t : List (Nat × D)) (h : List (Nat × Ob)) (d : Nat) : Cop → Option VH
  | .move x => some (ev t x, h)
  | .pick c a b => match ev t c with
    | .bool true => some (ev t a, h)
    | .bool false => some (ev t b, h)
    | _ => none
  | .alloc e => vAlloc τ h d e
  | .box e x => vBox τ h d e (ev t x)
  | .build ty ps => onlyV h (vBuild τ t ty ps)
  | .buildSlice ty n ps => vBuildSlice τ t h d ty n ps
  | .load ty a => onlyV h (vLoad τ h ty (ev t a))
  | .nilCheck x => onlyV h (vNil (ev t x))
  | .binOp op ty x y => onlyV h (vBin τ op ty (ev t x) (ev t y))
  | .unOp op _ x => onlyV h (vUn op (ev t x))
  | .convert _ e x => onlyV h (vConv τ e (ev t x))
  | .makeSlice ty l c => vMake τ h d ty (ev t l) (ev t c)
  | .slice ty x lo hi => onlyV h (bO (lenD (ev t x)) fun n => bO (match lo with | none => some 0 | some a => natD (ev t a)) fun l => bO (match hi with | none => some n | some a => natD (ev t a)) fun m => vSl τ h ty (ev t x) l m)
  | .slice3 ty x lo hi mx => onlyV h (bO (match lo with | none => some 0 | some a => natD (ev t a)) fun l => bO (natD (ev t hi)) fun m => bO (natD (ev t mx)) fun c => vSl3 τ h ty (ev t x) l m c)
  | .clear ty x => bO (vClear τ h ty (ev t x)) fun h' => some (und, h')
  | .copy ty x y => vCopy τ h ty (ev t x) (ev t y)
  | .mkClo f xs => some (.clo f (evs t xs), h)
  | .callA ex f xs => vCallA T t h d ex f xs
  | .callF ex fr f xs => vCallF T t h d ex fr f xs
  | .loadF ty a r => onlyV h (vLoadF τ h ty (ev t a) (ev t r))
  | .loadR ty a => onlyV h (vLoadR τ ty (ev t a))
  | .indexR ty x i => onlyV h (vIndexR τ ty (ev t x) (ev t i))
  | .buildSliceP ty n ps => vBuildSliceP τ t h d ty n ps
  | .buildSliceB ty n ps => vBuildSliceB τ t h d ty n ps
  | .strIdx _ tbl i => onlyV h (vStrI tbl (ev t i))
  | .storeF _ _ _ _ => none
  | .fieldAddr ty x f => onlyV h (vFieldAddr τ ty f (ev t x))
  | .field ty x f => onlyV h (vField τ ty f (ev t x))
  | .indexAddr ty x i => onlyV h (vIndexAddr τ h ty (ev t x) (ev t i))
  | .extract x i => onlyV h (vExtract i (ev t x))
  | .len _ x => onlyV h (vLen (ev t x))
  | .append ty x y => vAppend τ h d ty (ev t x) (ev t y)
  | .max x y => onlyV h (vMax (ev t x) (ev t y))
  | .min x y => onlyV h (vMin (ev t x) (ev t y))
  | .call f xs => vCall T t h f xs
  | .callH f xs => vCallH T t h d f xs
  | .callP f xs => onlyV h (vCallP T t f xs)
  | .makeMap ty => vMakeMap h d ty
  | .lookup ty x i c => onlyV h (vLookup τ h ty (ev t x) (ev t i) c)
  | .mapUpd _ _ _ _ => none
  | .delete ty x k => bO (vDelete τ h ty (ev t x) (ev t k)) fun h' => some (und, h')
  | .mlen ty x => onlyV h (vMlen τ h ty (ev t x))
  | .store _ _ _ => none

def stepO (d : Option Nat) (o : Cop) (s : St) : Option St :=
  match d, o with
  | none, .store ty a v => bO (vStore τ s.h ty (ev s.t a) (ev s.t v)) fun h => some ⟨s.t, h⟩
  | none, .mapUpd ty m k v => bO (vMapUpd τ s.h ty (ev s.t m) (ev s.t k) (ev s.t v)) fun h => some ⟨s.t, h⟩
  | none, .delete ty m k => bO (vDelete τ s.h ty (ev s.t m) (ev s.t k)) fun h => some ⟨s.t, h⟩
  | none, .storeF ty a v fr => bO (vStoreF τ s.h ty (ev s.t a) (ev s.t v) (evs s.t fr)) fun h => some ⟨s.t, h⟩
  | none, .callF ex fr f xs => bO (vCallF T s.t s.h 0 ex fr f xs) fun p => some ⟨s.t, p.2⟩
  | none, .clear ty x => bO (vClear τ s.h ty (ev s.t x)) fun h => some ⟨s.t, h⟩
  | none, .copy ty x y => bO (vCopy τ s.h ty (ev s.t x) (ev s.t y)) fun p => some ⟨s.t, p.2⟩
  | none, .call f xs => bO (vCall T s.t s.h f xs) fun p => some ⟨s.t, p.2⟩
  | none, .callH f xs => bO (vCallH T s.t s.h 0 f xs) fun p => some ⟨s.t, p.2⟩
  | some d, op => bO (stepV τ T s.t s.h d op) fun p => some ⟨(d, p.1) :: s.t, p.2⟩
  | _, _ => none

def wantB (w : Bool) : D → Option Bool
  | .bool b => some (b == w)
  | _ => none

def isB (b : Bool) (d : D) : D := match d with | .bool c => .bool (c == b) | .tup [] => .bool false | d => d
theorem isB_tt : isB true (.bool true) = .bool true := rfl
theorem isB_tf : isB true (.bool false) = .bool false := rfl
theorem isB_ft : isB false (.bool true) = .bool false := rfl
theorem isB_ff : isB false (.bool false) = .bool true := rfl
theorem isB_u (b) : isB b und = .bool false := rfl
def skipS (d : Option Nat) (s : St) : St := match d with | some d => ⟨(d, und) :: s.t, s.h⟩ | none => s
def stepG (o : Co) (s : St) : Option St :=
  match o.g with
  | none => stepO τ T o.d o.o s
  | some (g, w) => match isB w (get s.t g) with
    | .bool true => stepO τ T o.d o.o s
    | .bool false => some (skipS o.d s)
    | _ => none

def runO : List Co → St → Option St
  | [], s => some s
  | o :: l, s => match stepG τ T o s with | some s' => runO l s' | none => none

end Go.Proofs.Ytemcdpkiphmndaa.Ab
