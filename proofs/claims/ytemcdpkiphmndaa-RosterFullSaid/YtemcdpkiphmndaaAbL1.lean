/- AbL1: slices.Sorted(maps.Keys(m)) of the library's, as the interpreter sees it: the keys of a map of ours, sorted, in a new row. -/
import Derived.Test.YtemcdpkiphmndaaAb17
import Derived.Shelf.SlIterI.Nil
import Derived.Shelf.SortM.Plain
import Derived.Shelf.SortM.SortNone
set_option linter.unusedVariables false
set_option linter.unusedSimpArgs false
namespace Go.Proofs.Ytemcdpkiphmndaa.Ab
open Go.RowKit Go.Maps Go.Sort Go.Shelf Go.Proofs

/-! ### sorted whole numbers -/
def insI (x : Int) : List Int → List Int
  | [] => [x]
  | y :: ys => match decide (x ≤ y) with | true => x :: y :: ys | false => y :: insI x ys
def sortI : List Int → List Int
  | [] => []
  | x :: xs => insI x (sortI xs)
theorem insI_perm (x : Int) : ∀ l, (insI x l).Perm (x :: l)
  | [] => .refl _
  | y :: ys => by
    simp only [insI]
    cases decide (x ≤ y) with
    | true => exact .refl _
    | false => exact ((insI_perm x ys).cons y).trans (.swap x y ys)
theorem sortI_perm : ∀ l, (sortI l).Perm l
  | [] => .refl _
  | x :: xs => (insI_perm x _).trans ((sortI_perm xs).cons x)
theorem insI_sorted (x : Int) : ∀ l : List Int, l.Pairwise (· ≤ ·) → (insI x l).Pairwise (· ≤ ·)
  | [], _ => by simp [insI]
  | y :: ys, h => by
    simp only [insI]
    cases hd : decide (x ≤ y) with
    | true =>
      have hxy : x ≤ y := of_decide_eq_true hd
      refine List.Pairwise.cons (fun z hz => ?_) h
      cases hz with
      | head => exact hxy
      | tail _ hz => exact Int.le_trans hxy ((List.pairwise_cons.1 h).1 z hz)
    | false =>
      have hxy : y ≤ x := by have := of_decide_eq_false hd; omega
      refine List.Pairwise.cons (fun z hz => ?_) (insI_sorted x ys (List.pairwise_cons.1 h).2)
      rcases List.mem_cons.1 ((insI_perm x ys).mem_iff.1 hz) with rfl | hz
      · exact hxy
      · exact (List.pairwise_cons.1 h).1 z hz
theorem sortI_sorted : ∀ l : List Int, (sortI l).Pairwise (· ≤ ·)
  | [] => .nil
  | x :: xs => insI_sorted x _ (sortI_sorted xs)
theorem sortI_merge {l l' : List Int} (h : l'.Perm l) : l'.mergeSort leI = sortI l := by
  have tr : ∀ a b c : Int, leI a b = true → leI b c = true → leI a c = true := fun a b c h1 h2 => by simp only [leI, decide_eq_true_eq] at *; exact Int.le_trans h1 h2
  have to : ∀ a b : Int, (leI a b || leI b a) = true := fun a b => by simp only [leI, Bool.or_eq_true, decide_eq_true_eq]; exact Int.le_total a b
  refine List.Perm.eq_of_pairwise (le := fun a b => leI a b = true) (fun a b _ _ h1 h2 => ?_) (List.pairwise_mergeSort tr to l') ?_ (((List.mergeSort_perm l' leI).trans h).trans (sortI_perm l).symm)
  · simp only [leI, decide_eq_true_eq] at h1 h2
    exact Int.le_antisymm h1 h2
  · refine (sortI_sorted l).imp ?_
    intro a b h
    simpa [leI] using h

/-! ### a map's keys -/
def okI64 (n : Int) : Bool := decide (-9223372036854775808 ≤ n) && decide (n ≤ 9223372036854775807)
def keysI : List (List D) → Option (List Int)
  | [] => some []
  | e :: es => match e with
    | [.int k n, _] => gd (decide (k = .i64) && okI64 n) (bO (keysI es) fun ns => some (n :: ns))
    | _ => none
theorem keysI_nil : keysI [] = some [] := rfl
theorem keysI_cons (n d es) : keysI ([.int .i64 n, d] :: es) = gd (okI64 n) (bO (keysI es) fun ns => some (n :: ns)) := rfl
def rowI (te : Nat) (ns : List Int) : Ob := ⟨2, .row, te, 1, ns.map fun n => [.int .i64 n]⟩
/-- The keys' row, under the name 'b'. -/
def sortedV (te b : Nat) (h : List (Nat × Ob)) (ns : List Int) : VH := match ns with | [] => (.nils, h) | n :: ns => (.own b 0 (n :: ns).length, (b, rowI te (sortI (n :: ns))) :: h)
def boxV (o : Ob) : Option D := match o.k, o.es with | .box, [[d]] => some d | _, _ => none
theorem boxV_mk (s t z d) : boxV ⟨s, .box, t, z, [[d]]⟩ = some d := rfl
def sortedM (te b : Nat) (h : List (Nat × Ob)) : D → Option VH
  | .nilm => some (.nils, h)
  | .mp m => bO (objR h m) fun om => gd (isMapO om && decide ((oes om).length ≤ 1000000000)) (bO (keysI (oes om)) fun ns => some (sortedV te b h ns))
  | _ => none
def sortedH (gs : List Nat) (te : Nat) : List D → List (Nat × Ob) → Nat → Option VH
  | [.clo g [.ptr l 0 0]], h, k => gd (gs.contains g && fresh h (nm k)) (bO (objR h l) fun o => bO (boxV o) fun d => sortedM te (nm k) h d)
  | _, _, _ => none

structure KeysOk (P : Program) (g : Nat) : Prop where
  ex : ∃ kt, P.underlying kt = some (.int .i64) ∧
    (∀ (Bm b nn : Nat) (D0 : DataW Unit) (R : Value → Option (DataW Unit × List MemPlace)) (w : World), Bm < w.heap.size → w.cell? ⟨Bm, 0, none⟩ = some (.map (some b)) → w.ownsMap P kt R b nn D0 → SeqGives Fence.wide 2 P g #[.pointer (some ⟨Bm, 0, none⟩)] encZ (fun ss => ss.Perm (intKeys D0)) (Maps.size D0) w) ∧
    (∀ (Bm : Nat) (w : World), Bm < w.heap.size → w.cell? ⟨Bm, 0, none⟩ = some (.map none) → SeqGives Fence.wide 2 P g #[.pointer (some ⟨Bm, 0, none⟩)] encZ (fun ss : List Int => ss = []) 0 w)

structure SortedOk (P : Program) (fS te : Nat) (gs : List Nat) : Prop where
  enter : ∀ args w, (callFunc fS args).run P w = .ok (.enter fS args) w
  run : ∀ g ∈ gs, ∀ (lb : Array Value) (S : List Int → Prop) (N : Nat) (w : World), N ≤ maxLen → N * 8 ≤ 140737488355328 → SeqGives Fence.wide 2 P g lb encZ S N w →
    Calls P fS #[.func (.func g) #[] lb] w fun e w' => ∃ (v : Value) (ss : List Int), e = .returned v ∧ S ss ∧ w'.ownsRow w.heap.size te 1 v ss.length ((ss.mergeSort (fun x y => decide (x ≤ y))).map encZ) ∧ (v = .slice none 0 0 ↔ ss = []) ∧ Below w.heap.size w w'

theorem ks_entries {w : World} {M : Nat → Prop} {φ : Nat → Nat} {σ : Nat → Option Nat} : ∀ {es : List (List D)} {ents : List MapEntry} {ns : List Int}, keysI es = some ns → ents.length = es.length → (∀ (j : Nat) (e : List D) (en : MapEntry), es[j]? = some e → ents[j]? = some en → EntOk w M φ σ e en) →
    ents.map (·.key) = ns.map encZ ∧ ∀ n ∈ ns, okI64 n = true
  | [], [], ns, e, _, _ => by cases e; exact ⟨rfl, by simp⟩
  | [], _ :: _, _, _, hl, _ => by cases hl
  | _ :: _, [], _, _, hl, _ => by cases hl
  | e0 :: es, en :: ents, ns, e, hl, hh => by
    obtain ⟨k, n, d, rfl, hk, hr⟩ := hh 0 _ _ rfl rfl
    simp only [keysI] at e
    obtain ⟨e1, e⟩ := gd_eq e
    obtain ⟨ns', e2, e⟩ := bO_eq e
    injection e with e; subst e
    simp only [Bool.and_eq_true, decide_eq_true_eq] at e1
    obtain ⟨rfl, e1⟩ := e1
    obtain ⟨g1, g2⟩ := ks_entries e2 (by simpa using hl) (fun j e en a b => hh (j + 1) e en (by simpa using a) (by simpa using b))
    refine ⟨by simp [hk, g1, encZ], fun x hx => ?_⟩
    cases hx with
    | head => exact e1
    | tail _ hx => exact g2 x hx

/-- The contract. -/
theorem sorted_heap {P : Program} {fS te : Nat} {gs : List Nat} (hS : SortedOk P fS te gs) (hK : ∀ g ∈ gs, KeysOk P g) : Heap P fS (sortedH gs te) := by
  intro ds h0 k r h1 e M0 φ0 args w hM hp hk hsz hr
  unfold sortedH at e
  split at e
  · rename_i hh kk g l
    obtain ⟨e0, e⟩ := gd_eq e
    obtain ⟨o, e1, e⟩ := bO_eq e
    obtain ⟨d, e2, e⟩ := bO_eq e
    simp only [Bool.and_eq_true, List.contains_iff_mem] at e0
    obtain ⟨hg, hfr⟩ := e0
    have hfr := fresh_spec hfr
    rw [hS.enter]
    -- the argument
    have ha : args = #[args[0]'(by rw [hsz]; simp)] := by
      apply Array.ext
      · simp [hsz]
      · intro i h1 h2
        have : i = 0 := by simp at h2; omega
        subst this; rfl
    have hr0 := hr 0 _ (args[0]'(by rw [hsz]; simp)) rfl (by simp)
    obtain ⟨lb, hlb, hl1, hl2⟩ := clo_inv hr0
    have hl : lb = #[lb[0]'(by rw [hl1]; simp)] := by
      apply Array.ext
      · simp [hl1]
      · intro i h1 h2
        have : i = 0 := by simp at h2; omega
        subst this; rfl
    have hp0 := hl2 0 _ (lb[0]'(by rw [hl1]; simp)) rfl (by simp)
    obtain ⟨s, hs, hv0⟩ := ptr_inv hp0
    -- the box
    obtain ⟨g1, g2⟩ := objR_spec e1
    have hbox : o.k = .box ∧ o.es = [[d]] := by
      unfold boxV at e2
      split at e2
      · rename_i h1 h2; injection e2 with e2; subst e2; exact ⟨h1, h2⟩
      · cases e2
    obtain ⟨cur, c1, c2, c3, c4⟩ := (hp.ob l o g1 g2).cells (by rw [hbox.1]; simp)
    obtain ⟨_, u, c5, c6⟩ := c4 0 [d] 0 d (by rw [hbox.2]; rfl) rfl
    simp only [Nat.zero_mul, Nat.zero_add] at c5
    have hcell : w.cell? ⟨φ0 l, 0, none⟩ = some u := by simp [World.cell?, c1, c5]
    have hlt := hp.lt l o g1 g2
    have hptr : lb = #[.pointer (some ⟨φ0 l, 0, none⟩)] := by rw [hl, hv0]; simp
    have hargs : args = #[.func (.func g) #[] #[.pointer (some ⟨φ0 l, 0, none⟩)]] := by rw [ha, hlb, hptr]
    rw [hargs]
    obtain ⟨kt, hkt, hk1, hk2⟩ := (hK g hg).ex
    show Calls P fS _ w _
    cases d with
    | nilm =>
      injection e with e; injection e with e3 e4; subst e3; subst e4
      have := nilm_inv c6; subst this
      refine (hS.run g hg _ _ 0 w (Nat.zero_le _) (by omega) (hk2 (φ0 l) w hlt hcell)).mono ?_
      rintro e w' ⟨v, ss, rfl, rfl, hrow, hnil, hb⟩
      obtain rfl : v = .slice none 0 0 := hnil.2 rfl
      exact ⟨_, rfl, φ0, Nx.frame hp (Ext.of_below hb), .imm .nils⟩
    | mp m =>
      obtain ⟨om, e3, e⟩ := bO_eq e
      obtain ⟨e4, e⟩ := gd_eq e
      obtain ⟨ns, e5, e⟩ := bO_eq e
      injection e with e
      simp only [Bool.and_eq_true, decide_eq_true_eq] at e4
      have := mp_inv c6; subst this
      obtain ⟨m1, m2⟩ := objR_spec e3
      obtain ⟨ents, clock, q1, q2, qst, q3⟩ := map_ob hp m1 m2 (isMapO_spec e4.1)
      obtain ⟨r1, r2⟩ := ks_entries e5 (by simpa [oes] using q2) q3
      let R0 : Value → Option (DataW Unit × List MemPlace) := fun _ => some (.nil, [])
      have hreads : ∀ x ∈ ents.toList, ∃ n, x.key = encZ n ∧ WideElems.rd P kt R0 x = some (.int .i64 n, .nil) := by
        intro x hx
        have : x.key ∈ ns.map encZ := by rw [← r1]; exact List.mem_map_of_mem hx
        obtain ⟨n, hn, hxe⟩ := List.mem_map.1 this
        refine ⟨n, hxe.symm, ?_⟩
        have hw := r2 n hn
        simp only [okI64, Bool.and_eq_true, decide_eq_true_eq] at hw
        have hwf : (Lit.int .i64 n).wf = true := by
          simp [Lit.wf, IntKind.min, IntKind.max, IntKind.signed, IntKind.bits]
          omega
        have hkey : keyOf P kt x.key = some (.int .i64 n) := by
          rw [← hxe]
          simp [keyOf, hkt, mapKey, encZ, hwf]
        simp [WideElems.rd, hkey, R0]
      have hown : w.ownsMap P kt R0 (φ0 m) ents.size (.map ((ents.toList.map (WideElems.rg P kt R0)).foldr DataW.insert [])) :=
        ⟨ents, clock, q1, ⟨by rw [q2]; have := e4.2; simp only [oes] at this; simp only [maxLen]; omega, qst, fun x hx => by obtain ⟨n, _, hn⟩ := hreads x hx; exact ⟨_, hn⟩⟩, Nat.le_refl _, rfl⟩
      have hperm : ∀ ss : List Int, ss.Perm (intKeys (.map ((ents.toList.map (WideElems.rg P kt R0)).foldr DataW.insert []))) → ss.Perm ns := by
        intro ss hss
        refine hss.trans ?_
        show (List.map (fun (p : Lit × DataW Unit) => Go.intOf p.1) _).Perm ns
        refine ((WideShapes.sorted_perm _).map _).trans ?_
        rw [List.map_map]
        have : ents.toList.map ((fun p => Go.intOf p.1) ∘ WideElems.rg P kt R0) = ns := by
          have h2 : ents.toList.map ((fun p => Go.intOf p.1) ∘ WideElems.rg P kt R0) = (ents.toList.map (·.key)).map (fun v => match v with | .int _ n => n | _ => 0) := by
            rw [List.map_map]
            refine List.map_congr_left (fun x hx => ?_)
            obtain ⟨n, hn, hrd⟩ := hreads x hx
            simp [WideElems.rg_of hrd, hn, Go.intOf, encZ]
          rw [h2, r1, List.map_map]
          exact (List.map_congr_left (fun x _ => rfl)).trans (List.map_id _)
        rw [this]
      have hsz2 : Maps.size (.map ((ents.toList.map (WideElems.rg P kt R0)).foldr DataW.insert []) : DataW Unit) ≤ 1000000000 := by
        show List.length _ ≤ _
        rw [(WideShapes.sorted_perm _).length_eq, List.length_map, Array.length_toList, q2]
        exact e4.2
      refine (hS.run g hg _ _ _ w (by simp only [maxLen]; omega) (by omega) (hk1 (φ0 l) (φ0 m) ents.size _ R0 w hlt hcell hown)).mono ?_
      rintro e' w' ⟨v, ss, rfl, hS', hrow, hnil, hb⟩
      have hpn := hperm ss hS'
      have hext := Ext.of_below hb
      cases ns with
      | nil =>
        injection e with e6 e7; subst e6; subst e7
        have hss : ss = [] := List.perm_nil.1 hpn
        obtain rfl : v = .slice none 0 0 := hnil.2 hss
        exact ⟨_, rfl, φ0, Nx.frame hp hext, .imm .nils⟩
      | cons n ns =>
        injection e with e6 e7; subst e6; subst e7
        have hne : ss ≠ [] := by intro hss; subst hss; exact absurd hpn.symm.eq_nil (by simp)
        have hlen := hpn.length_eq
        rw [show (ss.mergeSort fun x y => decide (x ≤ y)) = sortI (n :: ns) from sortI_merge hpn] at hrow
        have hsl : (sortI (n :: ns)).length = (n :: ns).length := (sortI_perm _).length_eq
        rcases hrow.2 with ⟨rfl, hz⟩ | ⟨gb, cap, cur', rfl, hbase, hgb, x1, x2, x3, x4⟩
        · exact absurd (hnil.1 rfl) hne
        have nx := Nx.born (w := w) (w' := w') hM hp hfr .row te 1 ((sortI (n :: ns)).map fun n => [D.int .i64 n]) (.cells cur' te (0, 0)) (ObAt.of_cells (o := ⟨2, .row, te, 1, (sortI (n :: ns)).map fun n => [D.int .i64 n]⟩) (by simp) (by
            simp only [List.length_map, Nat.mul_one] at x3 ⊢
            omega) (fun i e a => by
            simp only [List.getElem?_map, Option.map_eq_some_iff] at a
            obtain ⟨y, _, rfl⟩ := a; rfl) (fun i e j d a1 a2 => by
            simp only [List.getElem?_map, Option.map_eq_some_iff] at a1
            obtain ⟨y, hy, rfl⟩ := a1
            cases j with
            | succ j => simp at a2
            | zero =>
              simp at a2; subst a2
              refine ⟨rfl, .int .i64 y, ?_, .imm (.int _ _)⟩
              have hi := (List.getElem?_eq_some_iff.1 hy).1
              have hil : i < ss.length := by omega
              have : (cur'.toList.take (ss.length * 1))[i]? = ((sortI (n :: ns)).map encZ)[i]? := by rw [x4]
              rw [Nat.mul_one, List.getElem?_take_of_lt hil, List.getElem?_map, hy] at this
              simpa [encZ] using this)) hext gb hbase hgb
        refine ⟨_, rfl, _, nx, ?_⟩
        have := R.own (w := w') (M := Mx M0 (phi φ0 (nm k) gb) ((nm k, rowI te (sortI (n :: ns))) :: h0)) (φ := phi φ0 (nm k) gb) (σ := sg ((nm k, rowI te (sortI (n :: ns))) :: h0)) (nm k) 0 (n :: ns).length 1 cap cur' te (by rw [sg_cons, if_pos rfl]; rfl) (by omega) x2 (by simpa [phi] using hgb) (by rw [x3]; simp)
        simpa [phi, hlen] using this
    | _ => cases e
  · cases e

end Go.Proofs.Ytemcdpkiphmndaa.Ab
