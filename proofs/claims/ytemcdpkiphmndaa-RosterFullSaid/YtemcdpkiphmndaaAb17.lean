/- Ab17: the interpreter as a program, each value reckoned when it is made (the kernel reckons by name). -/
import Derived.Test.YtemcdpkiphmndaaAb16
set_option linter.unusedVariables false
namespace Go.Proofs.Ytemcdpkiphmndaa.Ab

def fN {α : Type} (n : Nat) (k : Nat → α) : α := match n with | 0 => k 0 | m + 1 => k (m + 1)
theorem fN_eq {α : Type} (n : Nat) (k : Nat → α) : fN n k = k n := by cases n <;> rfl
def fI {α : Type} (n : Int) (k : Int → α) : α := match n with | .ofNat m => fN m fun m => k (.ofNat m) | .negSucc m => fN m fun m => k (.negSucc m)
theorem fI_eq {α : Type} (n : Int) (k : Int → α) : fI n k = k n := by cases n <;> simp [fI, fN_eq]
def fB {α : Type} (b : Bool) (k : Bool → α) : α := match b with | true => k true | false => k false
theorem fB_eq {α : Type} (b : Bool) (k : Bool → α) : fB b k = k b := by cases b <;> rfl
def fK {α : Type} (b : IntKind) (k : IntKind → α) : α := match b with | .i64 => k .i64 | .u64 => k .u64 | b => k b
theorem fK_eq {α : Type} (b : IntKind) (k : IntKind → α) : fK b k = k b := by cases b <;> rfl
/-- A list's spine. -/
def fS {α β : Type} : List β → (List β → α) → α
  | [], k => k []
  | x :: xs, k => fS xs fun xs => k (x :: xs)
theorem fS_eq {α β : Type} : ∀ (l : List β) (k : List β → α), fS l k = k l
  | [], k => rfl
  | x :: xs, k => by rw [fS, fS_eq xs]
/-- One cell. -/
def fC {α : Type} (d : D) (k : D → α) : α :=
  match d with
  | .int q n => fK q fun q => fI n fun n => k (.int q n)
  | .bool b => fB b fun b => k (.bool b)
  | .ro s es => fN s fun s => fS es fun es => k (.ro s es)
  | .rop cs => fS cs fun cs => k (.rop cs)
  | .ptr l i j => fN l fun l => fN i fun i => fN j fun j => k (.ptr l i j)
  | .own l i n => fN l fun l => fN i fun i => fN n fun n => k (.own l i n)
  | .mp l => fN l fun l => k (.mp l)
  | d => k d
theorem fC_eq {α : Type} (d : D) (k : D → α) : fC d k = k d := by cases d <;> simp [fC, fK_eq, fI_eq, fB_eq, fN_eq, fS_eq]
def fL {α : Type} : List D → (List D → α) → α
  | [], k => k []
  | d :: ds, k => fC d fun d => fL ds fun ds => k (d :: ds)
theorem fL_eq {α : Type} : ∀ (l : List D) (k : List D → α), fL l k = k l
  | [], k => rfl
  | d :: ds, k => by rw [fL, fC_eq, fL_eq ds]
def fD {α : Type} (d : D) (k : D → α) : α :=
  match d with
  | .agg cs => fL cs fun cs => k (.agg cs)
  | .tup vs => fL vs fun vs => k (.tup vs)
  | .clo f cs => fN f fun f => fL cs fun cs => k (.clo f cs)
  | d => fC d k
theorem fD_eq {α : Type} (d : D) (k : D → α) : fD d k = k d := by cases d <;> simp [fD, fC_eq, fL_eq, fN_eq]
def fDs {α : Type} : List D → (List D → α) → α
  | [], k => k []
  | d :: ds, k => fD d fun d => fDs ds fun ds => k (d :: ds)
theorem fDs_eq {α : Type} : ∀ (l : List D) (k : List D → α), fDs l k = k l
  | [], k => rfl
  | d :: ds, k => by rw [fDs, fD_eq, fDs_eq ds]
def fE {α : Type} : List (List D) → (List (List D) → α) → α
  | [], k => k []
  | e :: es, k => fDs e fun e => fE es fun es => k (e :: es)
theorem fE_eq {α : Type} : ∀ (l : List (List D)) (k : List (List D) → α), fE l k = k l
  | [], k => rfl
  | d :: ds, k => by rw [fE, fDs_eq, fE_eq ds]
def fO {α : Type} (o : Ob) (k : Ob → α) : α := fN o.st fun st => (match o.k with | .box => fE o.es fun es => k ⟨st, .box, o.ty, o.sz, es⟩ | .row => fE o.es fun es => k ⟨st, .row, o.ty, o.sz, es⟩ | .map => fE o.es fun es => k ⟨st, .map, o.ty, o.sz, es⟩)
theorem fO_eq {α : Type} (o : Ob) (k : Ob → α) : fO o k = k o := by
  obtain ⟨st, q, ty, sz, es⟩ := o
  cases q <;> simp [fO, fN_eq, fE_eq]
def fH {α : Type} : List (Nat × Ob) → (List (Nat × Ob) → α) → α
  | [], k => k []
  | p :: h, k => fN p.1 fun l => fO p.2 fun o => fH h fun h => k ((l, o) :: h)
theorem fH_eq {α : Type} : ∀ (h : List (Nat × Ob)) (k : List (Nat × Ob) → α), fH h k = k h
  | [], k => rfl
  | p :: h, k => by rw [fH, fN_eq, fO_eq, fH_eq h]
def fT {α : Type} : List (Nat × D) → (List (Nat × D) → α) → α
  | [], k => k []
  | p :: t, k => fN p.1 fun n => fD p.2 fun d => fT t fun t => k ((n, d) :: t)
theorem fT_eq {α : Type} : ∀ (t : List (Nat × D)) (k : List (Nat × D) → α), fT t k = k t
  | [], k => rfl
  | p :: t, k => by rw [fT, fN_eq, fD_eq, fT_eq t]
/-- The newest slot alone. -/
def fT1 {α : Type} (t : List (Nat × D)) (k : List (Nat × D) → α) : α := match t with | p :: t => fD p.2 fun d => k ((p.1, d) :: t) | [] => k []
theorem fT1_eq {α : Type} (t : List (Nat × D)) (k : List (Nat × D) → α) : fT1 t k = k t := by cases t <;> simp [fT1, fD_eq]

section
variable (τ : Nat → Option TI) (T : Tm) (m : Nat)
def runF : List Co → St → Option St
  | [], s => some s
  | o :: l, s => match stepG τ T o s with | some s' => fT1 s'.t fun t => runF l ⟨t, s'.h⟩ | none => none
theorem runF_eq : ∀ (l : List Co) (s : St), runF τ T l s = runO τ T l s
  | [], s => rfl
  | o :: l, s => by
    simp only [runF, runO]
    cases stepG τ T o s with
    | none => rfl
    | some s' => simp only [fT1_eq]; exact runF_eq l s'

def execF : Nat → List It → St → Option St
  | 0, _, _ => none
  | _ + 1, [], s => some s
  | n + 1, .bk _ :: K, s => execF n K s
  | n + 1, .lp l c :: K, s => fT (gc m l s).t fun t => fH (gc m l s).h fun h => execF n (.c c :: .lp l c :: K) ⟨t, h⟩
  | n + 1, .c x :: K, s =>
    match x with
    | .stuck => none
    | .ret => some s
    | .skip => execF n K s
    | .reg _ ops => (match runF τ T ops s with | some s' => fH s'.h fun h => execF n K ⟨s'.t, h⟩ | none => none)
    | .seq a b => execF n (.c a :: .c b :: K) s
    | .cond c a b => (match ev s.t c with | .bool true => execF n (.c a :: K) s | .bool false => execF n (.c b :: K) s | _ => none)
    | .block i c => execF n (.c c :: .bk i :: K) s
    | .loop l c => execF n (.lp l c :: K) s
    | .exit i =>
      match K with
      | .c _ :: K => execF n (.c (.exit i) :: K) s
      | .lp _ _ :: K => execF n (.c (.exit i) :: K) s
      | .bk j :: K => (match decide (i = j) with | true => execF n K s | false => execF n (.c (.exit i) :: K) s)
      | [] => none
theorem execF_eq : ∀ (n : Nat) (K : List It) (s : St), execF τ T m n K s = exec τ T m n K s
  | 0, _, _ => rfl
  | n + 1, [], s => rfl
  | n + 1, .bk _ :: K, s => by simp only [execF, exec]; exact execF_eq n K s
  | n + 1, .lp l c :: K, s => by simp only [execF, exec, fT_eq, fH_eq]; exact execF_eq n _ _
  | n + 1, .c x :: K, s => by
    cases x with
    | stuck => rfl
    | ret => rfl
    | skip => simp only [execF, exec]; exact execF_eq n _ _
    | reg p ops =>
      simp only [execF, exec, runF_eq]
      cases runO τ T ops s with
      | none => rfl
      | some s' => simp only [fH_eq]; exact execF_eq n _ _
    | seq a b => simp only [execF, exec]; exact execF_eq n _ _
    | cond c a b =>
      simp only [execF, exec]
      cases ev s.t c with
      | bool b => cases b <;> exact execF_eq n _ _
      | _ => rfl
    | block i c => simp only [execF, exec]; exact execF_eq n _ _
    | loop l c => simp only [execF, exec]; exact execF_eq n _ _
    | exit i =>
      match K with
      | [] => rfl
      | .c _ :: K => exact execF_eq n _ _
      | .lp _ _ :: K => exact execF_eq n _ _
      | .bk j :: K =>
        simp only [execF, exec]
        cases decide (i = j) with
        | true => exact execF_eq n _ _
        | false => exact execF_eq n _ _
end

def TmF (τ : Nat → Option TI) (X : Txt) (L : Tm → Tm) : Nat → Tm
  | 0 => ⟨fun _ _ => none, fun _ _ _ _ => none, fun _ _ _ => none⟩
  | n + 1 => ⟨fun f ds => match X f with
        | some b => fDs ds fun ds => gd (ds.length == b.2.2) (bO (execF τ (TmF τ X L n) 0 n [.c b.1] ⟨parT 0 ds, []⟩) fun s => outV τ b.2.1 s)
        | none => (L (TmF τ X L n)).p f ds,
      fun f ds h k => match X f with
        | some b => fDs ds fun ds => fH h fun h => gd (ds.length == b.2.2) (bO (execF τ (TmF τ X L n) k n [.c b.1] ⟨parT 0 ds, h⟩) fun s => outN τ b.2.1 k s)
        | none => (L (TmF τ X L n)).h f ds h k,
      fun f ds os => (L (TmF τ X L n)).a f ds os⟩
theorem TmF_eq (τ : Nat → Option TI) (X : Txt) (L : Tm → Tm) : ∀ n, TmF τ X L n = TmN τ X L n
  | 0 => rfl
  | n + 1 => by
    simp only [TmF, TmN, TmF_eq τ X L n, execF_eq, fDs_eq, fH_eq, bodyP, bodyH]
    rfl
theorem TmI_fast {τ : Nat → Option TI} {X : Txt} {L : Tm → Tm} (hm : Mono L) (n : Nat) {f : Nat} {ds : List D} {r : D} (e : (TmF τ X L n).p f ds = some r) : (TmI τ X L).p f ds = some r := TmI_run hm n (by rw [← TmF_eq]; exact e)
theorem TmI_fastH {τ : Nat → Option TI} {X : Txt} {L : Tm → Tm} (hm : Mono L) (n : Nat) {f : Nat} {ds : List D} {h0 : List (Nat × Ob)} {k : Nat} {r : D × List (Nat × Ob)} (e : (TmF τ X L n).h f ds h0 k = some r) : (TmI τ X L).h f ds h0 k = some r := TmI_runH hm n (by rw [← TmF_eq]; exact e)
end Go.Proofs.Ytemcdpkiphmndaa.Ab
