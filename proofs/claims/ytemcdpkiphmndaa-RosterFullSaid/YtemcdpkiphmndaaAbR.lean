/- AbR: what comes in, read as the interpreter's data. -/
import Derived.Test.YtemcdpkiphmndaaAb17
import Derived.WalkKit
import Derived.ProofKit
import Derived.OpenShut
import Derived.ChangeOld
import Derived.Below
import Derived.SizedLaws
set_option linter.unusedVariables false
set_option linter.unusedSimpArgs false
namespace Go.Proofs.Ytemcdpkiphmndaa.Ab

/-! ### the shapes of what comes in -/
def wfI (k : IntKind) (n : Int) : Prop := (Lit.int k n).wf = true
def datF (f : Nat → List D → Prop) : Nat → List (Nat × Nat × Nat) → List D → Prop
  | _, [], cs => cs = []
  | k, (_, s, t) :: fs, cs => ∃ c1 c2, cs = c1 ++ c2 ∧ c1.length = s ∧ f t c1 ∧ datF f (k + s) fs c2
def datK (τ : Nat → Option TI) (f : Nat → List D → Prop) (cs : List D) : TK → Prop
  | .int k => ∃ x, wfI k x ∧ cs = [.int k x]
  | .bool => ∃ b, cs = [.bool b]
  | .slice e => cs = [.nils] ∨ ∃ s es, (τ e).map (·.size) = some s ∧ cs = [.ro s es] ∧ es.length ≤ maxLen ∧ ∀ x ∈ es, f e x
  | .struct fs => datF f 0 fs cs
  | _ => False
/-- The cells of a value of a type, that lead to data alone. -/
def datP (τ : Nat → Option TI) : Nat → Nat → List D → Prop
  | 0, _, _ => False
  | n + 1, t, cs => ∃ i, τ t = some i ∧ datK τ (datP τ n) cs i.k

theorem datP_int {τ : Nat → Option TI} {n t : Nat} {cs : List D} {s b : Nat} {z : List D} {k : IntKind} (hi : τ t = some ⟨s, b, z, .int k⟩) (h : datP τ n t cs) : ∃ x, wfI k x ∧ cs = [.int k x] := by
  cases n with
  | zero => exact h.elim
  | succ n => obtain ⟨i, h1, h2⟩ := h; rw [hi] at h1; injection h1 with h1; subst h1; exact h2
theorem datP_bool {τ : Nat → Option TI} {n t : Nat} {cs : List D} {s b : Nat} {z : List D} (hi : τ t = some ⟨s, b, z, .bool⟩) (h : datP τ n t cs) : ∃ x, cs = [.bool x] := by
  cases n with
  | zero => exact h.elim
  | succ n => obtain ⟨i, h1, h2⟩ := h; rw [hi] at h1; injection h1 with h1; subst h1; exact h2
theorem datP_slice {τ : Nat → Option TI} {n t e : Nat} {cs : List D} {s b s' b' : Nat} {z z' : List D} {k : TK} (hi : τ t = some ⟨s, b, z, .slice e⟩) (he : τ e = some ⟨s', b', z', k⟩) (h : datP τ n t cs) :
    ∃ m es, (cs = [.nils] ∧ es = [] ∨ cs = [.ro s' es]) ∧ es.length ≤ maxLen ∧ ∀ x ∈ es, datP τ m e x := by
  cases n with
  | zero => exact h.elim
  | succ n =>
    obtain ⟨i, h1, h2⟩ := h
    rw [hi] at h1; injection h1 with h1; subst h1
    rcases h2 with h2 | ⟨z, es, h3, h4, h5, h6⟩
    · exact ⟨n, [], .inl ⟨h2, rfl⟩, Nat.zero_le _, by simp⟩
    · rw [he] at h3; injection h3 with h3; subst h3
      exact ⟨n, es, .inr h4, h5, h6⟩
theorem datP_struct {τ : Nat → Option TI} {n t : Nat} {cs : List D} {s b : Nat} {z : List D} {fs : List (Nat × Nat × Nat)} (hi : τ t = some ⟨s, b, z, .struct fs⟩) (h : datP τ n t cs) : ∃ m, datF (datP τ m) 0 fs cs := by
  cases n with
  | zero => exact h.elim
  | succ n => obtain ⟨i, h1, h2⟩ := h; rw [hi] at h1; injection h1 with h1; subst h1; exact ⟨n, h2⟩
theorem datF_cons {f : Nat → List D → Prop} {k o s t : Nat} {fs : List (Nat × Nat × Nat)} {cs : List D} (h : datF f k ((o, s, t) :: fs) cs) : ∃ c1 c2, cs = c1 ++ c2 ∧ f t c1 ∧ datF f (k + s) fs c2 := by
  obtain ⟨c1, c2, h1, _, h3, h4⟩ := h
  exact ⟨c1, c2, h1, h3, h4⟩
theorem datF_nil {f : Nat → List D → Prop} {k : Nat} {cs : List D} (h : datF f k [] cs) : cs = [] := h
theorem list_of {α : Type} {Q : α → Prop} {enc : α → List D} : ∀ {es : List (List D)}, (∀ x ∈ es, ∃ a, Q a ∧ x = enc a) → ∃ l : List α, es = l.map enc ∧ ∀ a ∈ l, Q a
  | [], _ => ⟨[], rfl, by simp⟩
  | e :: es, h => by
    obtain ⟨a, h1, h2⟩ := h e (by simp)
    obtain ⟨l, h3, h4⟩ := list_of (fun x hx => h x (List.mem_cons_of_mem _ hx))
    exact ⟨a :: l, by rw [h2, h3]; rfl, fun x hx => by cases hx with | head => exact h1 | tail _ hx => exact h4 x hx⟩

def dataF (f : Nat → Bool) (τ : Nat → Option TI) : Nat → List (Nat × Nat × Nat) → Nat → Bool
  | k, [], z => k == z
  | k, (o, s, t) :: fs, z => o == k && ((match τ t with | some i => i.size == s | none => false) && (f t && dataF f τ (k + s) fs z))
/-- Do a type's values lead to data alone? -/
def dataT (τ : Nat → Option TI) : Nat → Nat → Bool
  | 0, _ => false
  | n + 1, t => match τ t with
    | none => false
    | some i => match i.k with
      | .int _ => true
      | .bool => true
      | .slice e => (match τ e with | some ie => ie.size != 0 | none => false) && dataT τ n e
      | .struct fs => dataF (dataT τ n) τ 0 fs i.size
      | _ => false

section
variable {P : Program} {τ : Nat → Option TI} (hτ : ∀ t i, τ t = some i → TIok P t i)
variable {H : Type} {enc : TypeId × Value → H} {W : World} {sp : Nat → Bool} {held : Bool}

def RvAll (W : World) (ds : List D) (cs : List Value) : Prop := ds.length = cs.length ∧ ∀ (j : Nat) (d : D) (v : Value), ds[j]? = some d → cs[j]? = some v → okR d = true ∧ Rv W (fun _ => False) d v

theorem TIok.cellsOf {t i} (x : TIok P t i) : P.cellsOf t = i.size := by
  obtain ⟨pi, h1, h2, _⟩ := x.info
  simp [Program.cellsOf, h1, h2]

theorem RvAll.append {ds ds' : List D} {cs cs' : List Value} (h : RvAll W ds cs) (h' : RvAll W ds' cs') : RvAll W (ds ++ ds') (cs ++ cs') := by
  refine ⟨by simp [h.1, h'.1], fun j d v a b => ?_⟩
  by_cases hj : j < ds.length
  · rw [List.getElem?_append_left hj] at a
    rw [List.getElem?_append_left (by rw [← h.1]; exact hj)] at b
    exact h.2 j d v a b
  · rw [List.getElem?_append_right (by omega)] at a
    rw [List.getElem?_append_right (by rw [← h.1]; omega), ← h.1] at b
    exact h'.2 _ d v a b

include hτ in
theorem fields_dat {n fuel : Nat} (ih : ∀ (t : Nat) (cs : List Value) dw ps, DataW.trod enc P W 0 sp held fuel t cs = some (dw, ps) → dataT τ n t = true → ∃ ds, datP τ n t ds ∧ RvAll W ds cs) (cs : List Value) :
    ∀ (fs : List (Nat × Nat × Nat)) (k : Nat), (∀ (f : Nat) p, fs[f]? = some p → (DataW.trod enc P W 0 sp held fuel p.2.2 ((cs.drop p.1).take (P.cellsOf p.2.2))).isSome = true) →
      dataF (dataT τ n) τ k fs cs.length = true → ∃ ds, datF (datP τ n) k fs ds ∧ RvAll W ds (cs.drop k) ∧ k ≤ cs.length
  | [], k, _, hd => by
    simp only [dataF, beq_iff_eq] at hd
    subst hd
    exact ⟨[], rfl, ⟨by simp, by simp⟩, Nat.le_refl _⟩
  | (o, s, t) :: fs, k, hg, hd => by
    simp only [dataF, Bool.and_eq_true, beq_iff_eq] at hd
    obtain ⟨hok, h1, h2, h3⟩ := hd
    subst hok
    have hs : P.cellsOf t = s := by
      cases hi : τ t with
      | none => rw [hi] at h1; cases h1
      | some i =>
        rw [hi] at h1
        rw [(hτ _ _ hi).cellsOf]; simpa using h1
    have h0 := hg 0 _ rfl
    simp only [hs] at h0
    cases hf : DataW.trod enc P W 0 sp held fuel t ((cs.drop o).take s) with
    | none => rw [hf] at h0; cases h0
    | some x =>
      obtain ⟨d1, q1, q2⟩ := ih t _ _ _ hf h2
      obtain ⟨d2, r1, r2, r3⟩ := fields_dat ih cs fs (o + s) (fun f p hp => hg (f + 1) p (by simpa using hp)) h3
      have hd1 : d1.length = s := by rw [q2.1]; simp; omega
      refine ⟨d1 ++ d2, ⟨d1, d2, rfl, hd1, q1, r1⟩, ?_, by omega⟩
      have hsplit : cs.drop o = (cs.drop o).take s ++ cs.drop (o + s) := by
        rw [← List.drop_drop]; exact (List.take_append_drop s (cs.drop o)).symm
      rw [hsplit]
      exact q2.append r2

theorem cell_spot {w : World} {a : Addr} {v : Value} (h : w.cell? a = some v) : a.spot = none ∧ a.block < w.heap.size := by
  refine ⟨?_, World.block_lt_of_cell? w a h⟩
  unfold World.cell? at h
  split at h
  · cases hs : a.spot with
    | none => rfl
    | some x => rw [hs] at h; simp at h
  · cases h

include hτ in
/-- What reads as data is data of ours. -/
theorem trod_dat : ∀ (fuel n : Nat) (t : Nat) (cs : List Value) (dw : DataW H) (ps : List MemPlace), DataW.trod enc P W 0 sp held fuel t cs = some (dw, ps) → dataT τ n t = true → ∃ ds, datP τ n t ds ∧ RvAll W ds cs
  | 0, _, _, _, _, _, h, _ => by simp [DataW.trod] at h
  | _ + 1, 0, _, _, _, _, _, hd => by simp [dataT] at hd
  | fuel + 1, n + 1, t, cs, dw, ps, h, hd => by
    have ih := fun (t : Nat) (cs : List Value) (dw : DataW H) (ps : List MemPlace) => trod_dat fuel n t cs dw ps
    simp only [dataT] at hd
    cases hi : τ t with
    | none => rw [hi] at hd; cases hd
    | some i =>
      rw [hi] at hd
      simp only at hd
      have X := hτ _ _ hi
      have one : ∀ (d : D) (v : Value), cs = [v] → okR d = true → Rv W (fun _ => False) d v → RvAll W [d] cs := by
        intro d v hc h1 h2
        subst hc
        refine ⟨rfl, fun j x u a b => ?_⟩
        cases j with
        | zero => simp at a b; subst a; subst b; exact ⟨h1, h2⟩
        | succ j => simp at a
      cases hk : i.k with
      | int k =>
        obtain ⟨x, rfl, _, hw⟩ := DataW.trod_int (X.int hk) h
        exact ⟨[.int k x], ⟨i, hi, by rw [hk]; exact ⟨x, hw, rfl⟩⟩, one _ _ rfl rfl (.int _ _)⟩
      | bool =>
        obtain ⟨b, rfl, _⟩ := DataW.trod_bool (X.bool hk) h
        exact ⟨[.bool b], ⟨i, hi, by rw [hk]; exact ⟨b, rfl⟩⟩, one _ _ rfl rfl (.bool _)⟩
      | slice e =>
        have hu := X.slice hk
        rw [hk] at hd
        simp only [Bool.and_eq_true] at hd
        cases he : τ e with
        | none => rw [he] at hd; cases hd.1
        | some ie =>
          rw [he] at hd
          have hsz : P.cellsOf e = ie.size := (hτ _ _ he).cellsOf
          have hpos : 0 < ie.size := by
            have := hd.1
            simp at this; omega
          rcases DataW.trod_slice hu h with ⟨rfl, _⟩ | ⟨a, len, cap, elems, rest, fuel', hfu, rfl, _, _, hb1, hb2, hel, hget, _, _⟩
          · exact ⟨[.nils], ⟨i, hi, by rw [hk]; exact .inl rfl⟩, one _ _ rfl rfl .nils⟩
          · injection hfu with hfu
            subst hfu
            · · have hb : True ∧ len ≤ cap ∧ cap ≤ maxLen := ⟨trivial, hb1, hb2⟩
                have each : ∀ j, j < len → ∃ ds, datP τ n e ds ∧ ds.length = ie.size ∧ ∀ (q : Nat) (d : D), ds[q]? = some d → ∃ u, W.cell? (a.add (j * ie.size + q)) = some u ∧ okR d = true ∧ Rv W (fun _ => False) d u := by
                  intro j hj
                  have h1 := hget j hj
                  have hje : j < elems.length := by omega
                  rw [List.getElem?_eq_getElem hje] at h1
                  cases hc : W.cells? 0 (a.add (j * P.cellsOf e)) (P.cellsOf e) with
                  | none => rw [hc] at h1; simp at h1
                  | some cl =>
                    rw [hc] at h1
                    simp only [Option.bind_some] at h1
                    obtain ⟨ds, d1, d2⟩ := ih e cl _ _ h1 hd.2
                    obtain ⟨_, c2, c3⟩ := World.cells?_some hc
                    rw [hsz] at c2 c3
                    refine ⟨ds, d1, by rw [d2.1, c2], fun q d hq => ?_⟩
                    have hql : q < cl.length := by rw [← d2.1]; exact (List.getElem?_eq_some_iff.1 hq).1
                    obtain ⟨g1, g2⟩ := d2.2 q d cl[q] hq (List.getElem?_eq_getElem hql)
                    have h3 := c3 q (by omega)
                    rw [List.getElem?_eq_getElem hql] at h3
                    refine ⟨cl[q], ?_, g1, g2⟩
                    have : (a.add (j * ie.size)).add q = a.add (j * ie.size + q) := by
                      unfold Addr.add
                      by_cases z1 : j * ie.size = 0
                      · simp [z1]
                      · by_cases z2 : q = 0
                        · simp [z2]
                        · rw [if_neg z2, if_neg z1, if_neg (by omega)]
                          simp [Nat.add_assoc]
                    rw [← this]; exact h3
                by_cases hl0 : len = 0
                · subst hl0
                  exact ⟨[.ro ie.size []], ⟨i, hi, by rw [hk]; exact .inr ⟨ie.size, [], by rw [he]; rfl, rfl, Nat.zero_le _, by simp⟩⟩, one _ _ rfl rfl (.ro0 _ _ _)⟩
                · let es : List (List D) := (List.range len).map (fun j => if hj : j < len then Classical.choose (each j hj) else [])
                  have hes : ∀ j e', es[j]? = some e' → ∃ hj : j < len, e' = Classical.choose (each j hj) := by
                    intro j e' h0
                    simp only [es, List.getElem?_map, Option.map_eq_some_iff] at h0
                    obtain ⟨y, hy, rfl⟩ := h0
                    have hjl : j < len := by have := (List.getElem?_eq_some_iff.1 hy).1; simpa using this
                    rw [List.getElem?_eq_getElem (by simpa using hjl)] at hy
                    simp at hy
                    subst hy
                    exact ⟨hjl, by rw [dif_pos hjl]⟩
                  have hlen : es.length = len := by simp [es]
                  -- where it lies
                  obtain ⟨ds0, _, x2, x3⟩ := each 0 (by omega)
                  have hds0 : 0 < ds0.length := by omega
                  obtain ⟨u0, y1, _, _⟩ := x3 0 ds0[0] (List.getElem?_eq_getElem hds0)
                  simp only [Nat.zero_mul, Nat.add_zero] at y1
                  have ha0 : a.add 0 = a := by simp [Addr.add]
                  rw [ha0] at y1
                  obtain ⟨z1, z2⟩ := cell_spot y1
                  obtain ⟨b, o, s⟩ := a
                  simp only at z1 z2
                  subst z1
                  have hall : ∀ x ∈ es, datP τ n e x := by
                    intro x hx
                    obtain ⟨j, hj⟩ := List.getElem?_of_mem hx
                    obtain ⟨hjl, rfl⟩ := hes j x hj
                    exact (Classical.choose_spec (each j hjl)).1
                  refine ⟨[.ro ie.size es], ⟨i, hi, by rw [hk]; exact .inr ⟨ie.size, es, by rw [he]; rfl, rfl, by rw [hlen]; exact Nat.le_trans hb.2.1 hb.2.2, hall⟩⟩, one _ (.slice (some ⟨b, o, none⟩) len cap) rfl rfl ?_⟩
                  · have cell : ∀ (j : Nat) (e' : List D) (q : Nat) (d : D), es[j]? = some e' → e'[q]? = some d → ∃ u, W.cell? ⟨b, o + j * ie.size + q, none⟩ = some u ∧ okR d = true ∧ Rv W (fun _ => False) d u := by
                      intro j e' q d h1 h2
                      obtain ⟨hjl, rfl⟩ := hes j e' h1
                      obtain ⟨u, w1, w2, w3⟩ := (Classical.choose_spec (each j hjl)).2.2 q d h2
                      rw [add_at] at w1
                      exact ⟨u, by rw [← Nat.add_assoc] at w1; exact w1, w2, w3⟩
                    have := Rv.ro (w := W) (M := fun _ => False) ie.size es b o cap (fun j q => (W.cell? ⟨b, o + j * ie.size + q, none⟩).getD undef) (by rw [hlen]; exact hb.2.1) z2 (fun e => e) (fun j e' h1 => by
                      obtain ⟨hjl, rfl⟩ := hes j e' h1
                      exact (Classical.choose_spec (each j hjl)).2.1) (fun j e' q d h1 h2 => by obtain ⟨u, _, w2, _⟩ := cell j e' q d h1 h2; exact w2) (fun j e' q d h1 h2 => by
                      obtain ⟨u, w1, _, _⟩ := cell j e' q d h1 h2
                      rw [w1]; rfl) (fun j e' q d h1 h2 => by
                      obtain ⟨u, w1, _, w3⟩ := cell j e' q d h1 h2
                      rw [w1]; exact w3)
                    rw [hlen] at this
                    exact this
      | struct fs =>
        rw [hk] at hd
        simp only at hd
        obtain ⟨gs, hu, hgl, hgf⟩ := X.struct hk
        obtain ⟨xs, fuel', hfu, _, hlen, hxl, hx⟩ := DataW.trod_struct hu h
        injection hfu with hfu
        subst hfu
        rw [X.cellsOf] at hlen
        obtain ⟨ds, d1, d2, _⟩ := fields_dat hτ (n := n) ih cs fs 0 (fun f p hp => by
          obtain ⟨g, a1, a2, a3, _⟩ := hgf f p hp
          have h1 := hx f g a1
          rw [a2, a3] at h1
          have hfl : f < xs.length := by rw [hxl]; exact (Array.getElem?_eq_some_iff.1 a1).1
          rw [h1, List.getElem?_eq_getElem hfl]; rfl) (by rw [hlen]; exact hd)
        rw [List.drop_zero] at d2
        exact ⟨ds, ⟨i, hi, by rw [hk]; exact d1⟩, d2⟩
      | _ => rw [hk] at hd; cases hd

/-- An argument as the interpreter's data. -/
def datV (τ : Nat → Option TI) (n t : Nat) (d : D) : Prop := ∃ i, τ t = some i ∧ ((i.isAgg = true ∧ ∃ cs, datP τ n t cs ∧ d = .agg cs) ∨ (i.isAgg = false ∧ datP τ n t [d]))
theorem datV_agg {n t : Nat} {d : D} {s b : Nat} {z : List D} {fs : List (Nat × Nat × Nat)} (hi : τ t = some ⟨s, b, z, .struct fs⟩) (h : datV τ n t d) : ∃ cs, datP τ n t cs ∧ d = .agg cs := by
  obtain ⟨i, h1, h2⟩ := h
  rw [hi] at h1; injection h1 with h1; subst h1
  rcases h2 with ⟨_, h2⟩ | ⟨h2, _⟩
  · exact h2
  · cases h2
theorem datV_cell {n t : Nat} {d : D} {s b : Nat} {z : List D} {k : TK} (hi : τ t = some ⟨s, b, z, k⟩) (hk : TI.isAgg ⟨s, b, z, k⟩ = false) (h : datV τ n t d) : datP τ n t [d] := by
  obtain ⟨i, h1, h2⟩ := h
  rw [hi] at h1; injection h1 with h1; subst h1
  rcases h2 with ⟨h2, _⟩ | ⟨_, h2⟩
  · rw [hk] at h2; cases h2
  · exact h2
include hτ in
theorem arg_dat {r : Reach} {b0 n t : Nat} {v : Value} {dw : DataW H} {ps : List MemPlace} (hval : Value.okWide P W r b0 t v) (h : DataW.Trod enc P W 0 sp held t v dw ps) (hd : dataT τ n t = true) :
    ∃ d, datV τ n t d ∧ Imm d ∧ R W (fun _ => False) id (fun _ => none) d v := by
  obtain ⟨fuel, h⟩ := h
  obtain ⟨ds, d1, d2⟩ := trod_dat hτ fuel n t _ dw ps h hd
  cases n with
  | zero => simp [dataT] at hd
  | succ n =>
    obtain ⟨i, hi, hk⟩ := id d1
    have X := hτ _ _ hi
    cases hkk : i.k with
    | struct fs =>
      obtain ⟨gs, hu, _, _⟩ := X.struct hkk
      unfold Value.okWide at hval
      rw [hu] at hval
      obtain ⟨cs, rfl, _, _⟩ := hval
      have hcs : (Value.agg cs).cells.toList = cs.toList := rfl
      rw [hcs] at d2
      refine ⟨.agg ds, ⟨i, hi, .inl ⟨by unfold TI.isAgg; rw [hkk], ds, d1, rfl⟩⟩, .agg _ (fun j d hd => ?_), .agg _ _ (by rw [d2.1]; simp) (fun j d v a b => .imm (d2.2 j d v a (by simpa using b)).2)⟩
      have hj : j < cs.toList.length := by rw [← d2.1]; exact (List.getElem?_eq_some_iff.1 hd).1
      exact (d2.2 j d _ hd (List.getElem?_eq_getElem hj)).1
    | int k =>
      rw [hkk] at hk
      obtain ⟨x, _, rfl⟩ := hk
      obtain ⟨y, rfl⟩ := WideShapes.okWide_int (X.int hkk) hval
      obtain ⟨a1, a2⟩ := d2.2 0 _ _ rfl rfl
      exact ⟨_, ⟨i, hi, .inr ⟨by unfold TI.isAgg; rw [hkk], d1⟩⟩, .cell a1, .imm a2⟩
    | bool =>
      rw [hkk] at hk
      obtain ⟨x, rfl⟩ := hk
      obtain ⟨y, rfl⟩ := WideShapes.okWide_bool (X.bool hkk) hval
      obtain ⟨a1, a2⟩ := d2.2 0 _ _ rfl rfl
      exact ⟨_, ⟨i, hi, .inr ⟨by unfold TI.isAgg; rw [hkk], d1⟩⟩, .cell a1, .imm a2⟩
    | slice e =>
      obtain ⟨a, l, c, rfl⟩ := WideShapes.okWide_slice (X.slice hkk) hval
      rw [hkk] at hk
      rcases hk with rfl | ⟨s, es, _, rfl, _, _⟩
      · obtain ⟨a1, a2⟩ := d2.2 0 _ _ rfl rfl
        exact ⟨_, ⟨i, hi, .inr ⟨by unfold TI.isAgg; rw [hkk], d1⟩⟩, .cell a1, .imm a2⟩
      · obtain ⟨a1, a2⟩ := d2.2 0 _ _ rfl rfl
        exact ⟨_, ⟨i, hi, .inr ⟨by unfold TI.isAgg; rw [hkk], d1⟩⟩, .cell a1, .imm a2⟩
    | _ => rw [hkk] at hk; cases hk

/-- A law's walk: true. -/
theorem law_calls {T : Tm} (hT : TmOk P T) {f : Nat} (hent : ∀ args w, (callFunc f args).run P w = .ok (.enter f args) w) {ds : List D} (e : T.p f ds = some (.bool true)) {args : Array Value} (hsz : args.size = ds.length) (himm : ∀ (j : Nat) (d : D), ds[j]? = some d → Imm d)
    (hr : ∀ (j : Nat) (d : D) (v : Value), ds[j]? = some d → args[j]? = some v → R W (fun _ => False) id (fun _ => none) d v) : Calls P f args W fun e W' => e = .returned (.bool true) ∧ RowKit.Below W.heap.size W W' := by
  have := hT.p f ds _ e (fun _ => False) args W (fun b hb => hb.elim) hsz himm hr
  rw [hent] at this
  refine Calls.mono (show Calls P f args W _ from this) ?_
  rintro e' w' ⟨u, rfl, h1, h2, h3⟩
  have := h3.bool_inv
  subst this
  exact ⟨rfl, h1.below⟩
end
end Go.Proofs.Ytemcdpkiphmndaa.Ab
