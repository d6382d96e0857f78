/- Own texts joined: Cd. -/
import Derived.Test.YtnadjlejlohgiaaGreatDoorS5
/- Canonical codes by their lengths: what each symbol's code is, when codes fit, and that a symbol is found by its code. Nothing of the program stands here. -/
namespace Go.Proofs.YtnadjlejlohgiaaGreatDoor.Cd
open Go.Proofs.YtnadjlejlohgiaaGreatDoor.Bt
/-- The first code of a length. -/
def first (lens : List Nat) : Nat → Nat
  | 0 => 0
  | 1 => 0
  | l + 2 => 2 * (first lens (l + 1) + lens.count (l + 1))
theorem first_succ (lens : List Nat) {l : Nat} (h : 1 ≤ l) : first lens (l + 1) = 2 * (first lens l + lens.count l) := by
  obtain ⟨m, rfl⟩ : ∃ m, l = m + 1 := ⟨l - 1, by omega⟩
  rfl
/-- The code of a symbol of length l. -/
def codeAt (lens : List Nat) (l k : Nat) : Nat := first lens l + (lens.take k).count l
def code (lens : List Nat) (k : Nat) : Nat := if 1 ≤ lens.getD k 0 ∧ lens.getD k 0 ≤ 15 then codeAt lens (lens.getD k 0) k else 0
def codes (lens : List Nat) : List Nat := (List.range lens.length).map (code lens)
theorem codes_length (lens : List Nat) : (codes lens).length = lens.length := by simp [codes]
theorem codes_get (lens : List Nat) {k : Nat} (h : k < lens.length) : (codes lens)[k]? = some (code lens k) := by
  simp [codes, h]
theorem codes_getD (lens : List Nat) {k : Nat} (h : k < lens.length) : (codes lens).getD k 0 = code lens k := by
  rw [List.getD_eq_getElem?_getD, codes_get lens h]; rfl
def Fits (lens : List Nat) : Prop := ∀ l, 1 ≤ l → l ≤ 15 → first lens l + lens.count l ≤ 2 ^ l
theorem count_take_le (lens : List Nat) (k l : Nat) : (lens.take k).count l ≤ lens.count l := (List.take_sublist k lens).count_le l
theorem count_take_succ {lens : List Nat} {k : Nat} (h : k < lens.length) (l : Nat) : (lens.take (k + 1)).count l = (lens.take k).count l + if lens.getD k 0 = l then 1 else 0 := by
  rw [List.take_succ_eq_append_getElem h, List.count_append, List.getD_eq_getElem?_getD, List.getElem?_eq_getElem h]
  simp only [Option.getD_some, List.count_cons, List.count_nil, Nat.zero_add, beq_iff_eq]
theorem code_lt {lens : List Nat} (hf : Fits lens) {k : Nat} (h : k < lens.length) (h1 : 1 ≤ lens.getD k 0) (h2 : lens.getD k 0 ≤ 15) : code lens k < 2 ^ lens.getD k 0 := by
  have := hf _ h1 h2
  have a := count_take_succ h (lens.getD k 0)
  have b := count_take_le lens (k + 1) (lens.getD k 0)
  rw [if_pos rfl] at a
  unfold code codeAt
  rw [if_pos ⟨h1, h2⟩]
  omega
/-- The symbol of a code of a length: the first. -/
def find (lens : List Nat) (l c : Nat) : Option Nat := (List.range lens.length).find? fun i => decide (lens.getD i 0 = l ∧ code lens i = c)
theorem find_some {lens : List Nat} {l c k : Nat} (h : find lens l c = some k) : k < lens.length ∧ lens.getD k 0 = l ∧ code lens k = c := by
  unfold find at h
  have h1 := List.find?_some h
  have h2 := List.mem_of_find?_eq_some h
  simp only [decide_eq_true_eq] at h1
  exact ⟨by simpa using h2, h1.1, h1.2⟩
/-- A symbol by its code: from length l on, when c is what was read. -/
def symGo (lens : List Nat) : Nat → Nat → Nat → List Bool → Option (Nat × List Bool)
  | 0, _, _, _ => none
  | _ + 1, _, _, [] => none
  | f + 1, l, c, b :: t => match find lens l (2 * c + b1 b) with
    | some k => some (k, t)
    | none => symGo lens f (l + 1) (2 * c + b1 b) t
def sym (lens : List Nat) (bs : List Bool) : Option (Nat × List Bool) := symGo lens 15 1 0 bs
/-- A symbol's code as it is written: the highest bit first. -/
def enc (lens : List Nat) (k : Nat) : List Bool := (bitsOf (code lens k) (lens.getD k 0)).reverse
/-- How much of all codes lengths take, in 32768 parts. -/
def kraft (lens : List Nat) : Nat := (lens.map fun l => if l = 0 then 0 else 2 ^ (15 - l)).sum
def used (lens : List Nat) : Nat := (lens.filter fun l => decide (0 < l)).length
def okLens (lens : List Nat) : Bool := decide (lens.length ≤ 300) && lens.all (fun l => decide (l ≤ 15)) && (decide (kraft lens = 32768) || (decide (used lens = 1) && decide (kraft lens = 16384)))
def part (lens : List Nat) (l : Nat) : Nat := (lens.map fun x => if 1 ≤ x ∧ x ≤ l then 2 ^ (15 - x) else 0).sum
theorem part_succ (l : Nat) : ∀ lens : List Nat, part lens (l + 1) = part lens l + lens.count (l + 1) * 2 ^ (15 - (l + 1))
  | [] => by simp [part]
  | x :: t => by
    have ih := part_succ l t
    unfold part at ih ⊢
    simp only [List.map_cons, List.sum_cons, List.count_cons, ih]
    by_cases h : x = l + 1
    · subst h
      rw [if_pos (by omega), if_neg (by omega), if_pos (by simp), Nat.add_mul, Nat.one_mul]
      omega
    · have hb : (x == l + 1) = false := by simpa using h
      rw [hb]
      by_cases h2 : 1 ≤ x ∧ x ≤ l
      · rw [if_pos (show 1 ≤ x ∧ x ≤ l + 1 by omega), if_pos h2]; simp; omega
      · rw [if_neg (show ¬ (1 ≤ x ∧ x ≤ l + 1) by omega), if_neg h2]; simp
theorem part_zero (lens : List Nat) : part lens 0 = 0 := by
  unfold part
  induction lens with
  | nil => rfl
  | cons x t ih => rw [List.map_cons, List.sum_cons, ih, if_neg (by omega)]
theorem part_le (l : Nat) : ∀ lens : List Nat, part lens l ≤ kraft lens
  | [] => Nat.le_refl _
  | x :: t => by
    have ih := part_le l t
    unfold part kraft at ih ⊢
    simp only [List.map_cons, List.sum_cons]
    by_cases h2 : 1 ≤ x ∧ x ≤ l
    · rw [if_pos h2, if_neg (by omega)]; omega
    · rw [if_neg h2]; omega
theorem part_first (lens : List Nat) : ∀ l, 1 ≤ l → l ≤ 15 → (first lens l + lens.count l) * 2 ^ (15 - l) = part lens l
  | 0, h, _ => by omega
  | 1, _, _ => by
    have := part_succ 0 lens
    rw [part_zero] at this
    rw [this]; simp [first]
  | l + 2, _, h => by
    have ih := part_first lens (l + 1) (by omega) (by omega)
    rw [part_succ, ← ih, first, Nat.add_mul, show 15 - (l + 1) = 15 - (l + 2) + 1 from by omega, Nat.pow_succ]
    congr 1
    rw [Nat.mul_comm 2, Nat.mul_assoc, Nat.mul_comm 2]
theorem fits_of {lens : List Nat} (h : kraft lens ≤ 32768) : Fits lens := by
  intro l h1 h2
  have a := part_first lens l h1 h2
  have b := part_le l lens
  have c : 2 ^ l * 2 ^ (15 - l) = 32768 := by rw [← Nat.pow_add, show l + (15 - l) = 15 from by omega]
  have d : (first lens l + lens.count l) * 2 ^ (15 - l) ≤ 2 ^ l * 2 ^ (15 - l) := by omega
  exact Nat.le_of_mul_le_mul_right d (Nat.two_pow_pos _)
theorem ok_kraft {lens : List Nat} (h : okLens lens = true) : kraft lens ≤ 32768 := by
  simp only [okLens, Bool.and_eq_true, Bool.or_eq_true, decide_eq_true_eq] at h
  omega
theorem ok_fits {lens : List Nat} (h : okLens lens = true) : Fits lens := fits_of (ok_kraft h)
theorem ok_le {lens : List Nat} (h : okLens lens = true) : ∀ x ∈ lens, x ≤ 15 := by
  simp only [okLens, Bool.and_eq_true, Bool.or_eq_true, decide_eq_true_eq, List.all_eq_true] at h
  exact h.1.2
theorem getD_le {lens : List Nat} {m : Nat} (h : ∀ x ∈ lens, x ≤ m) (k : Nat) : lens.getD k 0 ≤ m := by
  rw [List.getD_eq_getElem?_getD]
  cases hk : lens[k]? with
  | none => exact Nat.zero_le _
  | some x => exact h x (List.mem_of_getElem? hk)
theorem symGo_lt {lens : List Nat} : ∀ (f l c : Nat) (bs : List Bool) (k : Nat) (r : List Bool), symGo lens f l c bs = some (k, r) → k < lens.length ∧ ∃ s, bs = s ++ r ∧ s ≠ []
  | 0, _, _, _, _, _, h => by simp [symGo] at h
  | f + 1, l, c, [], k, r, h => by simp [symGo] at h
  | f + 1, l, c, b :: t, k, r, h => by
    simp only [symGo] at h
    cases hs : find lens l (2 * c + b1 b) with
    | some j =>
      rw [hs] at h
      cases h
      exact ⟨(find_some hs).1, [b], rfl, by simp⟩
    | none =>
      rw [hs] at h
      obtain ⟨h1, s, rfl, _⟩ := symGo_lt f _ _ t k r h
      exact ⟨h1, b :: s, rfl, by simp⟩
theorem symGo_ext {lens : List Nat} (e : List Bool) : ∀ (f l c : Nat) (bs : List Bool) (k : Nat) (r : List Bool), symGo lens f l c bs = some (k, r) → symGo lens f l c (bs ++ e) = some (k, r ++ e)
  | 0, _, _, _, _, _, h => by simp [symGo] at h
  | f + 1, l, c, [], k, r, h => by simp [symGo] at h
  | f + 1, l, c, b :: t, k, r, h => by
    simp only [symGo, List.cons_append] at h ⊢
    cases hs : find lens l (2 * c + b1 b) with
    | some j => rw [hs] at h; cases h; rfl
    | none => rw [hs] at h; exact symGo_ext e f _ _ t k r h
theorem symGo_cut {lens : List Nat} (e : List Bool) : ∀ (f l c : Nat) (bs : List Bool) (k : Nat) (r : List Bool), symGo lens f l c (bs ++ e) = some (k, r ++ e) → symGo lens f l c bs = some (k, r)
  | 0, _, _, _, _, _, h => by simp [symGo] at h
  | f + 1, l, c, [], k, r, h => by
    obtain ⟨_, s, hs, hne⟩ := symGo_lt _ _ _ _ _ _ h
    have := congrArg List.length hs
    simp at this
    have : s.length = 0 := by omega
    exact absurd (List.length_eq_zero_iff.1 this) hne
  | f + 1, l, c, b :: t, k, r, h => by
    simp only [symGo, List.cons_append] at h ⊢
    cases hs : find lens l (2 * c + b1 b) with
    | some j =>
      rw [hs] at h
      simp only [Option.some.injEq, Prod.mk.injEq] at h
      obtain ⟨rfl, h⟩ := h
      rw [List.append_cancel_right h]
    | none => rw [hs] at h; exact symGo_cut e f _ _ t k r h
end Go.Proofs.YtnadjlejlohgiaaGreatDoor.Cd

