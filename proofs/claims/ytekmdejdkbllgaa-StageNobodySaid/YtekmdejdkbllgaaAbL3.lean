/- AbL3: slices.Sort of the library's at whole numbers, as the interpreter sees it: a row of ours, sorted in place. -/
import Derived.Test.YtekmdejdkbllgaaAbL2
set_option linter.unusedVariables false
set_option linter.unusedSimpArgs false
namespace Go.Proofs.Ytekmdejdkbllgaa.Ab
open Go.RowKit Go.Maps Go.Sort Go.Shelf Go.Proofs

def intsI : List (List D) → Option (List Int)
  | [] => some []
  | e :: es => match e with
    | [.int k n] => gd (decide (k = .i64)) (bO (intsI es) fun ns => some (n :: ns))
    | _ => none
theorem intsI_nil : intsI [] = some [] := rfl
theorem intsI_cons (n es) : intsI ([.int .i64 n] :: es) = bO (intsI es) fun ns => some (n :: ns) := rfl
theorem intsI_spec : ∀ {es ns}, intsI es = some ns → es = ns.map fun n => [D.int .i64 n]
  | [], ns, e => by cases e; rfl
  | e0 :: es, ns, e => by
    unfold intsI at e
    split at e
    · obtain ⟨e1, e⟩ := gd_eq e
      obtain ⟨ns', e2, e⟩ := bO_eq e
      injection e with e; subst e
      have e1 := of_decide_eq_true e1; subst e1
      rw [intsI_spec e2]; rfl
    · cases e
theorem intsI_map : ∀ ns : List Int, intsI (ns.map fun n => [D.int .i64 n]) = some ns
  | [] => rfl
  | n :: ns => by rw [List.map_cons, intsI_cons, intsI_map ns]; rfl
def isRow1 (o : Ob) : Bool := match o.k with | .row => Nat.beq o.sz 1 | _ => false
def sortH : List D → List (Nat × Ob) → Nat → Option VH
  | [.nils], h, _ => some (.tup [], h)
  | [.em], h, _ => some (.tup [], h)
  | [.own l 0 n], h, _ => bO (objW h l) fun o => gd (isRow1 o && (Nat.beq n o.es.length && decide (n ≤ 1000000000000))) (bO (intsI o.es) fun ns => some (.tup [], (l, ⟨2, o.k, o.ty, o.sz, (sortI ns).map fun n => [.int .i64 n]⟩) :: h))
  | _, _, _ => none
theorem sortH_own (h : List (Nat × Ob)) (k l n : Nat) (o : Ob) (ns : List Int) (h1 : objW h l = some o) (h2 : isRow1 o = true) (h3 : n = ns.length) (h4 : ns.length ≤ 1000000000000) (h5 : o.es = ns.map fun n => [.int .i64 n]) :
    sortH [.own l 0 n] h k = some (.tup [], (l, ⟨2, o.k, o.ty, o.sz, (sortI ns).map fun n => [.int .i64 n]⟩) :: h) := by
  subst h3
  simp only [sortH, h1, h2, h5, intsI_map, bO_some, List.length_map, Nat.beq_refl, h4, decide_true, Bool.and_self, gd_true]
structure SortOk (P : Program) (f : Nat) : Prop where
  enter : ∀ args w, (callFunc f args).run P w = .ok (.enter f args) w
  run : ∀ (blk cap : Nat) (zs : List Int) (w : World), Holds (Value.int .i64) w blk 0 zs.toArray → blk < w.heap.size → zs.length < 4611686018427387904 →
    Calls P f #[.slice (some ⟨blk, 0, none⟩) zs.length cap] w fun e w' => e = .returned (.tuple #[]) ∧ ∃ n os, w' = grow (putRow (Value.int .i64) (Sort.ahead w n) blk 0 (zs.mergeSort fun x y => decide (x ≤ y)).toArray) os
  none_ : ∀ (p : Option Addr) (cap : Nat) (w : World), Calls P f #[.slice p 0 cap] w fun e w' => e = .returned (.tuple #[]) ∧ w' = w

theorem putRow_setRow {w : World} {b : Nat} {cur : Array Value} {ty : TypeId} {fr} (hw : w.heap[b]? = some (.cells cur ty fr)) (d : Array Int) : putRow (Value.int .i64) w b 0 d = w.setRow b (putCells (Value.int .i64) 0 d cur) := by
  unfold putRow mapBlock World.setRow
  congr 1
  apply Array.ext_getElem?
  intro k
  simp only [Array.getElem?_modify]
  by_cases hk : b = k
  · subst hk; simp only [if_true, hw, Option.map_some, onCells]
  · simp [hk]
theorem Ext.grow (w : World) (os : Array Obj) : Ext (fun _ => False) w (grow w os) :=
  ⟨rfl, rfl, rfl, by simp, fun b hb _ => by simp [Sort.grow, Array.getElem?_append, hb], fun b cur ty h => ⟨cur, by have := lt_of_heap h; simpa [Sort.grow, Array.getElem?_append, this] using h, rfl⟩⟩
theorem em_inv {w M φ σ v} (h : R w M φ σ .em v) : ∃ p, v = .slice p 0 0 := by
  cases h with
  | imm h => cases h; exact ⟨_, rfl⟩
theorem nils_inv' {w M φ σ v} (h : R w M φ σ .nils v) : v = .slice none 0 0 := by
  cases h with
  | imm h => cases h; rfl

theorem sort_heap {P : Program} {f : Nat} (hS : SortOk P f) : Heap P f sortH := by
  intro ds h0 k r h1 e M0 φ0 args w hM hp hk hsz hr
  have tupR : ∀ (w : World) (M φ σ), R w M φ σ (.tup []) (.tuple #[]) := fun w M φ σ => .tup [] #[] rfl (fun j d v a => by simp at a)
  unfold sortH at e
  split at e
  · injection e with e; injection e with e1 e2; subst e1; subst e2
    have ha := args_one hsz
    rw [hS.enter, ha, nils_inv' (hr 0 _ (args[0]'(by rw [hsz]; simp)) rfl (by simp))]
    refine (hS.none_ _ _ w).mono ?_
    rintro e w' ⟨rfl, rfl⟩
    exact ⟨_, rfl, φ0, Nx.refl hp, tupR _ _ _ _⟩
  · injection e with e; injection e with e1 e2; subst e1; subst e2
    have ha := args_one hsz
    obtain ⟨p, hv⟩ := em_inv (hr 0 _ (args[0]'(by rw [hsz]; simp)) rfl (by simp))
    rw [hS.enter, ha, hv]
    refine (hS.none_ _ _ w).mono ?_
    rintro e w' ⟨rfl, rfl⟩
    exact ⟨_, rfl, φ0, Nx.refl hp, tupR _ _ _ _⟩
  · rename_i l n
    obtain ⟨o, e1, e⟩ := bO_eq e
    obtain ⟨e2, e⟩ := gd_eq e
    obtain ⟨ns, e3, e⟩ := bO_eq e
    injection e with e; injection e with e4 e5; subst e4; subst e5
    simp only [Bool.and_eq_true, decide_eq_true_eq] at e2
    obtain ⟨f1, f2, f3⟩ := e2
    have f2 := Nat.eq_of_beq_eq_true f2
    have hrow : o.k = .row ∧ o.sz = 1 := by
      unfold isRow1 at f1
      split at f1
      · rename_i hk; exact ⟨hk, Nat.eq_of_beq_eq_true f1⟩
      · cases f1
    have hes := intsI_spec e3
    have hlen : o.es.length = ns.length := by rw [hes, List.length_map]
    obtain ⟨g1, g2⟩ := objW_spec e1
    have hob := hp.ob l o g1 (.inr g2)
    obtain ⟨cur, c1, c2, c3, c4⟩ := hob.cells (by rw [hrow.1]; simp)
    have hcell : ∀ j (hj : j < ns.length), cur[j]? = some (Value.int .i64 ns[j]) := by
      intro j hj
      have hej : o.es[j]? = some [D.int .i64 ns[j]] := by rw [hes]; simp [hj]
      obtain ⟨_, u, c5, c6⟩ := c4 j _ 0 _ hej rfl
      rw [hrow.2, Nat.mul_one, Nat.add_zero] at c5
      rw [c5, c6.int_inv]
    have hlt := hp.lt l o g1 (.inr g2)
    have ha := args_one hsz
    obtain ⟨s, c, hs, hv, hc⟩ := own_inv (hr 0 _ (args[0]'(by rw [hsz]; simp)) rfl (by simp))
    rw [Nat.zero_mul] at hv
    have hn : n = ns.length := by rw [f2, hlen]
    subst hn
    rw [hS.enter, ha, hv]
    have hcl : ns.length ≤ cur.size := by rw [hrow.2, Nat.mul_one, hlen] at c2; exact c2
    have hholds : Holds (Value.int .i64) w (φ0 l) 0 ns.toArray := by
      intro j hj
      have hj' : j < ns.length := by simpa using hj
      refine ⟨?_, ?_⟩
      · simp only [World.cell?, c1, Nat.zero_add, hcell j hj']
        simp [hj']
      · simp [World.frozen?, c1]
    refine (hS.run (φ0 l) c ns w hholds hlt (by omega)).mono ?_
    rintro e w' ⟨rfl, m, os, rfl⟩
    have hmerge : (ns.mergeSort fun x y => decide (x ≤ y)) = sortI ns := sortI_merge (.refl _)
    have hsl : (sortI ns).length = ns.length := (sortI_perm _).length_eq
    rw [hmerge, putRow_ahead, putRow_setRow c1]
    have hpz : (putCells (Value.int .i64) 0 (sortI ns).toArray cur).size = cur.size := by simp [putCells]
    have nx1 := Nx.put hp g1 g2 c1 hpz l ((l, ⟨2, o.k, o.ty, o.sz, (sortI ns).map fun n => [D.int .i64 n]⟩) :: h0) ⟨2, o.k, o.ty, o.sz, (sortI ns).map fun n => [D.int .i64 n]⟩ φ0 (by simp [getO_cons]) (by rw [hrow.1]; simp) rfl
      (fun x ox q1 q2 q3 => by rw [getO_cons, if_neg (Ne.symm q2)] at q1; exact ⟨q1, q2⟩) rfl
      (fun x s hxs => by
        refine ⟨?_, rfl⟩
        rw [sg_cons]
        split
        · rename_i hx; subst hx; unfold sg at hxs; rw [g1] at hxs; exact hxs
        · exact hxs)
      (by rw [hpz]; simp only [List.length_map, hsl, hrow.2, Nat.mul_one]; exact hcl)
      (fun i e he => by
        simp only [List.getElem?_map, Option.map_eq_some_iff] at he
        obtain ⟨y, _, rfl⟩ := he
        rw [hrow.2]; rfl)
      (fun i e j d he hd => by
        simp only [List.getElem?_map, Option.map_eq_some_iff] at he
        obtain ⟨y, hy, rfl⟩ := he
        cases j with
        | succ j => simp at hd
        | zero =>
          simp at hd; subst hd
          have hi := (List.getElem?_eq_some_iff.1 hy).1
          refine ⟨by rw [hrow.1]; rfl, .int .i64 y, ?_, .imm (.int _ _)⟩
          have hic : i < cur.size := by omega
          have hyi : (sortI ns)[i] = y := (List.getElem?_eq_some_iff.1 hy).2
          simp only [hrow.2, Nat.mul_one, Nat.add_zero, putCells, Array.getElem?_mapIdx, Array.getElem?_eq_getElem hic, Option.map_some]
          simp [hi, hyi])
    have nx2 : Nx M0 φ0 ((l, ⟨2, o.k, o.ty, o.sz, (sortI ns).map fun n => [D.int .i64 n]⟩) :: h0) (w.setRow (φ0 l) (putCells (Value.int .i64) 0 (sortI ns).toArray cur)) φ0 ((l, ⟨2, o.k, o.ty, o.sz, (sortI ns).map fun n => [D.int .i64 n]⟩) :: h0) (grow (Sort.ahead (w.setRow (φ0 l) (putCells (Value.int .i64) 0 (sortI ns).toArray cur)) m) os) :=
      Nx.frame nx1.hp ((Ext.drew (fun _ => False) _ m).trans (Ext.grow _ os) (fun _ _ e => e))
    exact ⟨_, rfl, φ0, nx1.trans nx2, tupR _ _ _ _⟩
  · cases e
end Go.Proofs.Ytekmdejdkbllgaa.Ab
