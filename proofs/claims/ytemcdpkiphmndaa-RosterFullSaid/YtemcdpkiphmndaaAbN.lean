/- AbN: counting over maps as lists of pairs. -/
import Derived.Test.YtemcdpkiphmndaaAbM
set_option linter.unusedVariables false
namespace Go.Proofs.Ytemcdpkiphmndaa.Ab
section
variable {α : Type}
theorem mkeys_cons (p : Int × α) (ms) : mkeys (p :: ms) = p.1 :: mkeys ms := rfl
theorem mlook_vals (z : α) : ∀ (ms : List (Int × α)), (mkeys ms).Nodup → (mkeys ms).map (fun k => (mlook ms k).getD z) = ms.map (·.2)
  | [], _ => rfl
  | p :: ms, h => by
    rw [mkeys_cons, List.nodup_cons] at h
    rw [mkeys_cons, List.map_cons, List.map_cons]
    congr 1
    · simp [mlook]
    · rw [← mlook_vals z ms h.2]
      refine List.map_congr_left (fun k hk => ?_)
      have : ¬ p.1 = k := fun e => h.1 (e ▸ hk)
      simp [mlook, this]
theorem mlook_mem {ms : List (Int × α)} {k : Int} {a : α} (h : mlook ms k = some a) : (k, a) ∈ ms := by
  obtain ⟨h1, h2⟩ := mpos_lt h
  exact List.mem_of_getElem? h2
theorem mem_mlook {ms : List (Int × α)} (hn : (mkeys ms).Nodup) {k : Int} {a : α} (h : (k, a) ∈ ms) : mlook ms k = some a := by
  induction ms with
  | nil => cases h
  | cons p ms ih =>
    rw [mkeys_cons, List.nodup_cons] at hn
    rcases List.mem_cons.1 h with rfl | h
    · simp [mlook]
    · have : ¬ p.1 = k := by
        intro e; subst e
        exact hn.1 (List.mem_map.2 ⟨_, h, rfl⟩)
      simp only [mlook, if_neg this]
      exact ih hn.2 h
def b2n (b : Bool) : Nat := match b with | true => 1 | false => 0
theorem countP_cons' (P : Int × α → Bool) (p : Int × α) (ms) : List.countP P (p :: ms) = List.countP P ms + b2n (P p) := by
  rw [List.countP_cons]; cases h : P p <;> simp [b2n]
theorem count_put_none (P : Int × α → Bool) {ms : List (Int × α)} {n : Int} (h : mlook ms n = none) (b : α) : (mput ms n b).countP P = ms.countP P + b2n (P (n, b)) := by
  rw [mput_none h, List.countP_append, countP_cons']; simp
theorem count_put_some (P : Int × α → Bool) {ms : List (Int × α)} {n : Int} {a : α} (h : mlook ms n = some a) (b : α) : (mput ms n b).countP P + b2n (P (n, a)) = ms.countP P + b2n (P (n, b)) := by
  rw [mput_some h]
  induction ms with
  | nil => cases h
  | cons p ms ih =>
    simp only [mlook] at h
    simp only [mpos]
    by_cases e : p.1 = n
    · rw [if_pos e] at h ⊢; injection h with h
      have hp : p = (n, a) := by rw [← e, ← h]
      rw [List.set_cons_zero, countP_cons', countP_cons', hp]; omega
    · rw [if_neg e] at h ⊢
      rw [List.set_cons_succ, countP_cons', countP_cons']
      have := ih h
      omega
theorem count_del_some (P : Int × α → Bool) {ms : List (Int × α)} {n : Int} {a : α} (h : mlook ms n = some a) : (mdel ms n).countP P + b2n (P (n, a)) = ms.countP P := by
  rw [mdel_some h]
  induction ms with
  | nil => cases h
  | cons p ms ih =>
    simp only [mlook] at h
    simp only [mpos]
    by_cases e : p.1 = n
    · rw [if_pos e] at h ⊢; injection h with h
      have hp : p = (n, a) := by rw [← e, ← h]
      rw [List.eraseIdx_cons_zero, countP_cons', hp]
    · rw [if_neg e] at h ⊢
      rw [List.eraseIdx_cons_succ, countP_cons', countP_cons']
      have := ih h
      omega
theorem len_put_none {ms : List (Int × α)} {n : Int} (h : mlook ms n = none) (b : α) : (mput ms n b).length = ms.length + 1 := by rw [mput_none h]; simp
theorem len_put_some {ms : List (Int × α)} {n : Int} {a : α} (h : mlook ms n = some a) (b : α) : (mput ms n b).length = ms.length := by rw [mput_some h]; simp
theorem len_del (ms : List (Int × α)) (n : Int) : (mdel ms n).length ≤ ms.length := by
  cases h : mlook ms n with
  | none => rw [mdel_none h]; exact Nat.le_refl _
  | some a => rw [mdel_some h, List.length_eraseIdx]; split <;> omega
theorem mem_keys_put {ms : List (Int × α)} {n : Int} {b : α} {k : Int} (h : k ∈ mkeys (mput ms n b)) : k = n ∨ k ∈ mkeys ms := by
  rw [mkeys_put] at h
  cases e : mlook ms n with
  | none => rw [e] at h; simp at h; rcases h with h | h; exact .inr h; exact .inl h
  | some a => rw [e] at h; exact .inr h
theorem mem_keys_del {ms : List (Int × α)} {n : Int} {k : Int} (h : k ∈ mkeys (mdel ms n)) : k ∈ mkeys ms := by
  cases e : mlook ms n with
  | none => rw [mdel_none e] at h; exact h
  | some a => rw [mkeys_del_some e] at h; exact List.mem_of_mem_eraseIdx h
end
theorem sum_perm {l l' : List Int} (h : l.Perm l') : l.sum = l'.sum := by
  induction h with
  | nil => rfl
  | cons x _ ih => simp [ih]
  | swap x y l => simp; omega
  | trans _ _ ih1 ih2 => exact ih1.trans ih2
theorem bounded_len : ∀ (n : Nat) (l : List Int), l.Nodup → (∀ x ∈ l, 1 ≤ x ∧ x ≤ (n : Int)) → l.length ≤ n
  | 0, l, _, h => by
    cases l with
    | nil => simp
    | cons x l => have := h x (by simp); omega
  | n + 1, l, hn, h => by
    have ih := bounded_len n (l.erase ((n + 1 : Nat) : Int)) (hn.erase _) (fun x hx => by
      rw [hn.mem_erase_iff] at hx
      have := h x hx.2
      have := hx.1
      omega)
    rw [List.length_erase] at ih
    split at ih <;> omega
theorem count_mem {α : Type} (f : α → Int) (l : List α) : ∀ K : List Int, K.Nodup → (K.map fun k => (l.countP (fun a => decide (f a = k)) : Int)).sum = (l.countP (fun a => decide (f a ∈ K)) : Int)
  | [], _ => by simp
  | k :: K, h => by
    rw [List.nodup_cons] at h
    rw [List.map_cons, List.sum_cons, count_mem f l K h.2]
    have : l.countP (fun a => decide (f a ∈ k :: K)) = l.countP (fun a => decide (f a = k)) + l.countP (fun a => decide (f a ∈ K)) := by
      induction l with
      | nil => rfl
      | cons a l ih =>
        have h1 : decide (f a ∈ k :: K) = (decide (f a = k) || decide (f a ∈ K)) := by simp
        rw [List.countP_cons, List.countP_cons, List.countP_cons, ih, h1]
        by_cases e : f a = k
        · have e2 : ¬ f a ∈ K := by rw [e]; exact h.1
          simp only [decide_eq_true e, decide_eq_false e2]; simp; omega
        · by_cases e2 : f a ∈ K
          · simp only [decide_eq_false e, decide_eq_true e2]; simp; omega
          · simp only [decide_eq_false e, decide_eq_false e2]; simp
    omega
end Go.Proofs.Ytemcdpkiphmndaa.Ab
