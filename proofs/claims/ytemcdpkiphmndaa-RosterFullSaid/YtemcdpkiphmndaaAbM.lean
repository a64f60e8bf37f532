/- AbM: maps with whole numbers as keys, as lists of pairs. -/
import Derived.Test.YtemcdpkiphmndaaAbS
set_option linter.unusedVariables false
namespace Go.Proofs.Ytemcdpkiphmndaa.Ab
section
variable {α : Type}
def mlook : List (Int × α) → Int → Option α
  | [], _ => none
  | p :: ms, n => if p.1 = n then some p.2 else mlook ms n
def mpos : List (Int × α) → Int → Nat
  | [], _ => 0
  | p :: ms, n => if p.1 = n then 0 else mpos ms n + 1
def mput (ms : List (Int × α)) (n : Int) (b : α) : List (Int × α) := match mlook ms n with | some _ => ms.set (mpos ms n) (n, b) | none => ms ++ [(n, b)]
def mdel (ms : List (Int × α)) (n : Int) : List (Int × α) := match mlook ms n with | some _ => ms.eraseIdx (mpos ms n) | none => ms
def ent (enc : α → D) (p : Int × α) : List D := [.int .i64 p.1, enc p.2]
theorem mput_none {ms : List (Int × α)} {n : Int} (h : mlook ms n = none) (b : α) : mput ms n b = ms ++ [(n, b)] := by unfold mput; rw [h]
theorem mput_some {ms : List (Int × α)} {n : Int} {a : α} (h : mlook ms n = some a) (b : α) : mput ms n b = ms.set (mpos ms n) (n, b) := by unfold mput; rw [h]
theorem mdel_none {ms : List (Int × α)} {n : Int} (h : mlook ms n = none) : mdel ms n = ms := by unfold mdel; rw [h]
theorem mdel_some {ms : List (Int × α)} {n : Int} {a : α} (h : mlook ms n = some a) : mdel ms n = ms.eraseIdx (mpos ms n) := by unfold mdel; rw [h]
theorem findM_at (enc : α → D) (n : Int) : ∀ (ms : List (Int × α)) (i : Nat), findM .i64 n (ms.map (ent enc)) i = some ((mlook ms n).map fun a => (i + mpos ms n, enc a))
  | [], i => rfl
  | p :: ms, i => by
    have ih := findM_at enc n ms (i + 1)
    by_cases h : p.1 = n
    · have h2 : (n == p.1) = true := by simp [h]
      simp only [List.map_cons, ent, findM, mlook, mpos, h2, if_pos h, decide_true, gd_true, tick_def, Option.map_some, Nat.add_zero]
    · have h2 : (n == p.1) = false := by simpa using fun e => h e.symm
      simp only [List.map_cons, findM, mlook, mpos, h2, if_neg h, decide_true, gd_true, tick_def, ent] at ih ⊢
      rw [ih]
      congr 2; funext a; rw [show i + 1 + mpos ms n = i + (mpos ms n + 1) by omega]
theorem findM_map (enc : α → D) (n : Int) (ms : List (Int × α)) : findM .i64 n (ms.map (ent enc)) 0 = some ((mlook ms n).map fun a => (mpos ms n, enc a)) := by
  rw [findM_at]; simp only [Nat.zero_add]
theorem locsEs_ent {enc : α → D} (h : ∀ a, locs (enc a) = []) (ms : List (Int × α)) : locsEs (ms.map (ent enc)) = [] := by
  induction ms with
  | nil => rfl
  | cons t ts ih => rw [List.map_cons, locsEs_cons, ih]; simp only [ent, locsL_cons, locs_int, h, locsL_nil, List.append_nil]
theorem renEs_ent {enc : α → D} (h : ∀ f a, ren f (enc a) = enc a) (f) (ms : List (Int × α)) : renEs f (ms.map (ent enc)) = ms.map (ent enc) := by
  induction ms with
  | nil => rfl
  | cons t ts ih => rw [List.map_cons, renEs_cons, ih]; simp only [ent, renL_cons, ren_int, h, renL_nil]
theorem zeroD_struct (s b z fs) : zeroD ⟨s, b, z, .struct fs⟩ = some (.agg z) := rfl
theorem zeroD_int (s b d k) : zeroD ⟨s, b, [d], .int k⟩ = some d := rfl
theorem zeroD_bool (s b d) : zeroD ⟨s, b, [d], .bool⟩ = some d := rfl

/-! ### what a map holds -/
def mkeys (ms : List (Int × α)) : List Int := ms.map (·.1)
theorem mlook_none {ms : List (Int × α)} {n : Int} : mlook ms n = none ↔ n ∉ mkeys ms := by
  induction ms with
  | nil => simp [mlook, mkeys]
  | cons p ms ih =>
    simp only [mlook, mkeys, List.map_cons, List.mem_cons]
    by_cases h : p.1 = n
    · simp [h]
    · rw [if_neg h, ih]; simp [mkeys]; exact fun _ e => h e.symm
theorem mpos_lt {ms : List (Int × α)} {n : Int} {a : α} (h : mlook ms n = some a) : mpos ms n < ms.length ∧ ms[mpos ms n]? = some (n, a) := by
  induction ms with
  | nil => cases h
  | cons p ms ih =>
    simp only [mlook] at h
    simp only [mpos]
    by_cases e : p.1 = n
    · rw [if_pos e] at h ⊢; injection h with h
      exact ⟨by simp, by simp [← e, ← h]⟩
    · rw [if_neg e] at h ⊢
      obtain ⟨h1, h2⟩ := ih h
      exact ⟨by simp; omega, by simpa using h2⟩
theorem mlook_append (ms : List (Int × α)) (n k : Int) (b : α) : mlook (ms ++ [(n, b)]) k = match mlook ms k with | some a => some a | none => if n = k then some b else none := by
  induction ms with
  | nil => simp [mlook]
  | cons p ms ih =>
    simp only [List.cons_append, mlook]
    by_cases e : p.1 = k
    · simp [e]
    · simp only [if_neg e, ih]
theorem mlook_set {ms : List (Int × α)} {n : Int} {a : α} (h : mlook ms n = some a) (k : Int) (b : α) : mlook (ms.set (mpos ms n) (n, b)) k = if k = n then some b else mlook ms k := by
  induction ms with
  | nil => cases h
  | cons p ms ih =>
    simp only [mlook] at h
    simp only [mpos]
    by_cases e : p.1 = n
    · rw [if_pos e]
      simp only [List.set_cons_zero, mlook]
      by_cases e2 : k = n
      · subst e2; simp
      · rw [if_neg (fun x => e2 x.symm), if_neg e2, if_neg (by rw [e]; exact fun x => e2 x.symm)]
    · rw [if_neg e] at h ⊢
      simp only [List.set_cons_succ, mlook, ih h]
      by_cases e2 : p.1 = k
      · have : ¬ k = n := fun x => e (e2.trans x)
        simp [e2, this]
      · simp [e2]
theorem mlook_put (ms : List (Int × α)) (n k : Int) (b : α) : mlook (mput ms n b) k = if k = n then some b else mlook ms k := by
  cases h : mlook ms n with
  | none =>
    rw [mput_none h, mlook_append]
    by_cases e : k = n
    · subst e; rw [h]
    · rw [if_neg e, if_neg (fun x => e x.symm)]; cases mlook ms k <;> rfl
  | some a => rw [mput_some h, mlook_set h]
theorem mkeys_set (ms : List (Int × α)) (n : Int) (b : α) (h : ∃ a, mlook ms n = some a) : mkeys (ms.set (mpos ms n) (n, b)) = mkeys ms := by
  obtain ⟨a, h⟩ := h
  obtain ⟨h1, h2⟩ := mpos_lt h
  unfold mkeys
  rw [List.map_set]
  apply List.ext_getElem?
  intro i
  rw [List.getElem?_set]
  split
  · rename_i e
    subst e
    simp only [List.length_map, h1, if_true, List.getElem?_map, h2, Option.map_some]
  · rfl
theorem mkeys_put (ms : List (Int × α)) (n : Int) (b : α) : mkeys (mput ms n b) = match mlook ms n with | some _ => mkeys ms | none => mkeys ms ++ [n] := by
  cases h : mlook ms n with
  | none => rw [mput_none h]; simp [mkeys]
  | some a => rw [mput_some h]; exact mkeys_set ms n b ⟨a, h⟩
theorem mnodup_put {ms : List (Int × α)} (hn : (mkeys ms).Nodup) (n : Int) (b : α) : (mkeys (mput ms n b)).Nodup := by
  rw [mkeys_put]
  cases h : mlook ms n with
  | none =>
    have := mlook_none.1 h
    simp only
    rw [List.nodup_append]
    exact ⟨hn, by simp, fun a ha b hb => by simp at hb; subst hb; intro e; subst e; exact this ha⟩
  | some a => exact hn
theorem mkeys_del_some {ms : List (Int × α)} {n : Int} {a : α} (h : mlook ms n = some a) : mkeys (mdel ms n) = (mkeys ms).eraseIdx (mpos ms n) := by
  rw [mdel_some h]; unfold mkeys
  generalize mpos ms n = i
  clear h
  induction ms generalizing i with
  | nil => simp
  | cons p ms ih => cases i <;> simp [ih]
theorem mnodup_del {ms : List (Int × α)} (hn : (mkeys ms).Nodup) (n : Int) : (mkeys (mdel ms n)).Nodup := by
  cases h : mlook ms n with
  | none => rw [mdel_none h]; exact hn
  | some a => rw [mkeys_del_some h]; exact hn.sublist (List.eraseIdx_sublist _ _)
theorem mlook_del {ms : List (Int × α)} (hn : (mkeys ms).Nodup) (n k : Int) : mlook (mdel ms n) k = if k = n then none else mlook ms k := by
  induction ms with
  | nil => simp [mdel, mlook]
  | cons p ms ih =>
    have hn' : (mkeys ms).Nodup := by simp only [mkeys, List.map_cons, List.nodup_cons] at hn; exact hn.2
    have hp : p.1 ∉ mkeys ms := by simp only [mkeys, List.map_cons, List.nodup_cons] at hn; exact hn.1
    by_cases e : p.1 = n
    · have h : mlook (p :: ms) n = some p.2 := by simp [mlook, e]
      rw [mdel_some h]
      have : mpos (p :: ms) n = 0 := by simp [mpos, e]
      rw [this]
      simp only [List.eraseIdx_zero, List.tail_cons, mlook]
      by_cases e2 : k = n
      · subst e2; rw [if_pos rfl]; exact mlook_none.2 (e ▸ hp)
      · rw [if_neg e2, if_neg (by rw [e]; exact fun x => e2 x.symm)]
    · have hd : mdel (p :: ms) n = p :: mdel ms n := by
        cases h : mlook ms n with
        | none =>
          rw [mdel_none h]
          exact mdel_none (by simp only [mlook, if_neg e]; exact h)
        | some a =>
          have h2 : mlook (p :: ms) n = some a := by simp only [mlook, if_neg e]; exact h
          rw [mdel_some h2, mdel_some h]
          simp [mpos, e]
      rw [hd]
      simp only [mlook, ih hn']
      by_cases e2 : p.1 = k
      · have : ¬ k = n := fun x => e (e2.trans x)
        simp [e2, this]
      · simp [e2]
end
end Go.Proofs.Ytemcdpkiphmndaa.Ab
