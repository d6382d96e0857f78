/- Own texts joined: Hq0. -/
import Derived.Test.YtnadjlejlohgiaaGreatDoorW25
import Derived.Test.YtnadjlejlohgiaaGreatDoorW26
/- How often symbols come, step by step. Nothing of the program stands here. -/
namespace Go.Proofs.YtnadjlejlohgiaaGreatDoor.Wi
open Go.Proofs.YtnadjlejlohgiaaGreatDoor.Bt Go.Proofs.YtnadjlejlohgiaaGreatDoor.Cd Go.Proofs.YtnadjlejlohgiaaGreatDoor.De Go.Proofs.YtnadjlejlohgiaaGreatDoor.En Go.Proofs.YtnadjlejlohgiaaGreatDoor.Lz Go.Proofs.YtnadjlejlohgiaaGreatDoor.Hf
set_option linter.unusedVariables false
/-- The first k tokens are counted. -/
def cntLTo (l : List Tok) (k : Nat) : List Nat := bump ((List.replicate 286 0).set 256 1) (symsL (l.take k))
def cntBTo (l : List Tok) (k : Nat) : List Nat := bump (List.replicate 30 0) (symsB (l.take k))
def symL (t : Tok) : Nat := if t.long = 0 then t.byte.toNat else 257 + lad longBase t.long.toNat
theorem cntLTo_length (l : List Tok) (k : Nat) : (cntLTo l k).length = 286 := by unfold cntLTo; rw [bump_length, List.length_set, List.length_replicate]
theorem cntBTo_length (l : List Tok) (k : Nat) : (cntBTo l k).length = 30 := by unfold cntBTo; rw [bump_length, List.length_replicate]
theorem cntLTo_zero (l : List Tok) : cntLTo l 0 = (List.replicate 286 0).set 256 1 := by unfold cntLTo; rw [List.take_zero]; rfl
theorem cntBTo_zero (l : List Tok) : cntBTo l 0 = List.replicate 30 0 := by unfold cntBTo; rw [List.take_zero]; rfl
theorem cntLTo_succ {l : List Tok} {k : Nat} (h : k < l.length) : cntLTo l (k + 1) = (cntLTo l k).set (symL l[k]) ((cntLTo l k).getD (symL l[k]) 0 + 1) := by
  unfold cntLTo
  rw [List.take_succ_eq_append_getElem h]
  unfold symsL
  rw [List.map_append, bump_append]
  rfl
theorem cntBTo_long {l : List Tok} {k : Nat} (h : k < l.length) (h0 : l[k].long ≠ 0) : cntBTo l (k + 1) = (cntBTo l k).set (lad backBase l[k].back.toNat) ((cntBTo l k).getD (lad backBase l[k].back.toNat) 0 + 1) := by
  unfold cntBTo
  rw [List.take_succ_eq_append_getElem h]
  unfold symsB
  rw [List.filter_append, List.map_append, bump_append, List.filter_cons, if_pos (by simpa using h0)]
  rfl
theorem cntBTo_byte {l : List Tok} {k : Nat} (h : k < l.length) (h0 : l[k].long = 0) : cntBTo l (k + 1) = cntBTo l k := by
  unfold cntBTo
  rw [List.take_succ_eq_append_getElem h]
  unfold symsB
  rw [List.filter_append, List.map_append, bump_append, List.filter_cons, if_neg (by simpa using h0)]
  rfl
theorem bump_le {base S : List Nat} {m : Nat} (hb : ∀ x ∈ base, x ≤ m) : ∀ x ∈ bump base S, x ≤ m + S.length := by
  refine getD_le' fun i hi => ?_
  rw [bump_length] at hi
  rw [bump_get S base i hi]
  have h1 := List.count_le_length (a := i) (l := S)
  have h2 := Cd.getD_le hb i
  omega
theorem base_le : ∀ x ∈ (List.replicate 286 0).set 256 1, x ≤ 1 := by
  intro x hx
  rcases List.mem_or_eq_of_mem_set hx with h | h
  · have := List.eq_of_mem_replicate h; omega
  · omega
theorem cntLTo_le (l : List Tok) (k : Nat) : ∀ x ∈ cntLTo l k, x ≤ 1 + k := by
  intro x hx
  have := bump_le base_le x hx
  have h2 : (symsL (l.take k)).length ≤ k := by unfold symsL; rw [List.length_map, List.length_take]; omega
  omega
theorem cntBTo_le (l : List Tok) (k : Nat) : ∀ x ∈ cntBTo l k, x ≤ k := by
  intro x hx
  have := bump_le (base := List.replicate 30 0) (m := 0) (fun x hx => by have := List.eq_of_mem_replicate hx; omega) x hx
  have h2 : (symsB (l.take k)).length ≤ k := by
    unfold symsB
    rw [List.length_map]
    have := List.length_filter_le (fun t : Tok => decide (t.long ≠ 0)) (l.take k)
    rw [List.length_take] at this; omega
  omega
theorem cntLTo_all (l : List Tok) : cntLTo l l.length = cntL l := by unfold cntLTo cntL; rw [List.take_length]
theorem symL_lt {lit dist : List Nat} {t : Tok} (F : Fine lit dist t) : symL t < 286 := by
  unfold symL
  by_cases h : t.long = 0
  · rw [if_pos h]; have := F.byte h; omega
  · rw [if_neg h]
    have := F.long h
    have := (lad_long t.long.toNat (by omega) (by omega)).1
    omega
theorem symB_lt {lit dist : List Nat} {t : Tok} (F : Fine lit dist t) (h : t.long ≠ 0) : lad backBase t.back.toNat < 30 := by
  have := F.long h
  exact (lad_back t.back.toNat (by omega) (by omega)).1
theorem used_pos {l : List Nat} {k : Nat} (h : 1 ≤ l.getD k 0) : used l ≠ 0 := by
  unfold used
  intro e
  have := List.eq_nil_of_length_eq_zero e
  have hk := lt_of_getD h
  have hm : l[k] ∈ l.filter fun l => decide (0 < l) := by
    rw [List.mem_filter]
    refine ⟨List.getElem_mem hk, ?_⟩
    rw [List.getD_eq_getElem?_getD, List.getElem?_eq_getElem hk] at h
    have h : 1 ≤ l[k] := h
    simp; omega
  rw [this] at hm
  cases hm
theorem cntB_is {l : List Tok} (F : ∀ t ∈ l, Fine [] [] t) : cntB l = if used (cntBTo l l.length) = 0 then (cntBTo l l.length).set 0 1 else cntBTo l l.length := by
  have e : cntBTo l l.length = bump (List.replicate 30 0) (symsB l) := by unfold cntBTo; rw [List.take_length]
  rw [e]
  unfold cntB
  by_cases h : symsB l = []
  · rw [if_pos h, h]
    rw [show bump (List.replicate 30 0) [] = List.replicate 30 0 from rfl, used_zeros, if_pos rfl]
  · rw [if_neg h]
    obtain ⟨s, r, hs⟩ := List.exists_cons_of_ne_nil h
    have hm : s ∈ symsB l := by rw [hs]; simp
    have hlt : s < 30 := by
      unfold symsB at hm
      obtain ⟨t, ht, rfl⟩ := List.mem_map.1 hm
      obtain ⟨h1, h2⟩ := List.mem_filter.1 ht
      exact symB_lt (F t h1) (by simpa using h2)
    rw [if_neg (used_pos (bump_pos hm (by simpa using hlt)))]
/-- Sums: numbers counted. -/
theorem cntM_le (all : List Nat) (k : Nat) : ∀ x ∈ bump (List.replicate 19 0) (all.take k), x ≤ k := by
  intro x hx
  have := bump_le (base := List.replicate 19 0) (m := 0) (fun x hx => by have := List.eq_of_mem_replicate hx; omega) x hx
  rw [List.length_take] at this; omega
theorem cntM_succ {all : List Nat} {k : Nat} (h : k < all.length) : bump (List.replicate 19 0) (all.take (k + 1)) = (bump (List.replicate 19 0) (all.take k)).set (all.getD k 0) ((bump (List.replicate 19 0) (all.take k)).getD (all.getD k 0) 0 + 1) := by
  rw [List.take_succ_eq_append_getElem h, bump_append, List.getD_eq_getElem?_getD (i := k), List.getElem?_eq_getElem h]
  rfl
theorem flat_succ {α : Type} {l : List Nat} (f : Nat → List α) {k : Nat} (h : k < l.length) : (l.take (k + 1)).flatMap f = (l.take k).flatMap f ++ f (l.getD k 0) := by
  rw [List.take_succ_eq_append_getElem h, List.flatMap_append, List.getD_eq_getElem?_getD, List.getElem?_eq_getElem h]
  simp
theorem flat_len {α : Type} (l : List Nat) (f : Nat → List α) {m : Nat} (h : ∀ x, (f x).length ≤ m) : (l.flatMap f).length ≤ l.length * m := by
  induction l with
  | nil => simp
  | cons x l ih =>
    rw [List.flatMap_cons, List.length_append, List.length_cons, Nat.add_mul]
    have := h x
    omega
end Go.Proofs.YtnadjlejlohgiaaGreatDoor.Wi

