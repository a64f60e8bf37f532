/- AbL2: maps.Clone of the library's, as the interpreter sees it: a new map with the old one's entries. -/
import Derived.Test.YtemcdpkiphmndaaAbL1
import Derived.Shelf.SlMaps.Clone
set_option linter.unusedVariables false
set_option linter.unusedSimpArgs false
namespace Go.Proofs.Ytemcdpkiphmndaa.Ab
open Go.RowKit Go.Maps Go.Shelf Go.Proofs

def cloneA : List D → List (Option Ob) → Option (D × Option Ob)
  | [.nilm], _ => some (.nilm, none)
  | [.mp _], [some o] => gd (isMapO o) (some (.nilm, some ⟨2, .map, o.ty, o.sz, o.es⟩))
  | _, _ => none
structure CloneOk (P : Program) (f : Nat) : Prop where
  enter : ∀ args w, (callFunc f args).run P w = .ok (.enter f args) w
  some_ : ∀ (b : Nat) (es : Array MapEntry) (clock : Nat) (w : World), w.heap[b]? = some (.map es clock) → Calls P f #[.map (some b)] w fun e w' => e = .returned (.map (some w.heap.size)) ∧ w' = w.alloc (.map es clock)
  none_ : ∀ (w : World), Calls P f #[.map none] w fun e w' => e = .returned (.map none) ∧ w' = w
theorem args_one {args : Array Value} (h : args.size = 1) : args = #[args[0]'(by rw [h]; simp)] := by
  apply Array.ext
  · simp [h]
  · intro i h1 h2
    have : i = 0 := by simp at h2; omega
    subst this; rfl
theorem clone_alloc {P : Program} {f : Nat} (hC : CloneOk P f) : Alloc P f cloneA := by
  intro ds os r e h0 ex ho M0 φ0 args w hM hp hsz hr n hn
  unfold cloneA at e
  split at e
  · injection e with e; subst e
    have ha := args_one hsz
    have hr0 := hr 0 _ (args[0]'(by rw [hsz]; simp)) rfl (by simp)
    have hv := nilm_inv hr0
    rw [hC.enter, ha, hv]
    refine (hC.none_ w).mono ?_
    rintro e w' ⟨rfl, rfl⟩
    exact ⟨_, rfl, φ0, Nx.frame hp (Ext.refl _ _), .imm .nilm⟩
  · rename_i l o
    obtain ⟨hk, e⟩ := gd_eq e
    injection e with e; subst e
    have ha := args_one hsz
    have hr0 := hr 0 _ (args[0]'(by rw [hsz]; simp)) rfl (by simp)
    have hv := mp_inv hr0
    have ho' : objR h0 l = some o := by
      rw [objsA_cons, objA_mp] at ho
      obtain ⟨o1, h1, h2⟩ := bO_eq ho
      obtain ⟨_, h1⟩ := gd_eq h1
      obtain ⟨o2, h3, h4⟩ := bO_eq h1
      injection h4 with h4; subst h4
      rw [objsA_nil, bO_some] at h2
      injection h2 with h2; injection h2 with h2 h5; injection h2 with h2; subst h2
      exact h3
    obtain ⟨m1, m2⟩ := objR_spec ho'
    obtain ⟨ents, clock, q1, q2, qst, q3⟩ := map_ob hp m1 m2 (isMapO_spec hk)
    rw [hC.enter, ha, hv]
    refine (hC.some_ _ ents clock w q1).mono ?_
    rintro e w' ⟨rfl, rfl⟩
    have hext : Ext (fun _ => False) w (w.alloc (.map ents clock)) := Ext.of_below ((Below.refl _ w).alloc (Nat.le_refl _) _)
    have hf : getO h0 n = none := hn (by simp)
    have nx := Nx.born hM hp hf .map o.ty o.sz o.es (.map ents clock) ⟨fun h => absurd rfl h, fun _ => ⟨ents, clock, rfl, q2, qst, fun i e a => by
      have hi : i < o.es.length := (List.getElem?_eq_some_iff.1 a).1
      obtain ⟨k, m, d, g1, g2, g3⟩ := q3 i e (ents.toList[i]'(by simp; omega)) a (by simp)
      exact ⟨k, m, d, _, g1, by simp, g2, g3⟩⟩⟩ hext w.heap.size (Nat.le_refl _) (MapKept.heap_alloc w _).1
    refine ⟨_, rfl, _, nx, ?_⟩
    have := R.mp (w := w.alloc (.map ents clock)) (M := Mx M0 (phi φ0 n w.heap.size) ((n, ⟨2, .map, o.ty, o.sz, o.es⟩) :: h0)) (φ := phi φ0 n w.heap.size) (σ := sg ((n, ⟨2, .map, o.ty, o.sz, o.es⟩) :: h0)) n o.sz (by rw [sg_cons, if_pos rfl])
    simpa [phi, resA, newV] using this
  · cases e
end Go.Proofs.Ytemcdpkiphmndaa.Ab
