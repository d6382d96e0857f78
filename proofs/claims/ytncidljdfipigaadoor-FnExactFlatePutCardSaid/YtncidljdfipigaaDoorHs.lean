/- Trees whose symbols stand in another order make the same lengths; the least symbol brought to the head. Nothing of the program stands here. -/
import Derived.Test.YtncidljdfipigaaDoorHf
namespace Go.Proofs.YtncidljdfipigaaDoor.Hf
open Go.Proofs.YtncidljdfipigaaDoor.Bt Go.Proofs.YtncidljdfipigaaDoor.Cd
/-- The same tree, its symbols in any order. -/
structure Same (x y : It) : Prop where
  c : x.c = y.c
  f : x.f = y.f
  s : x.s.Perm y.s
def Sames (l l' : List It) : Prop := l.length = l'.length ∧ ∀ i, Same (l.getD i dflt) (l'.getD i dflt)
theorem Same.refl (x : It) : Same x x := ⟨rfl, rfl, .refl _⟩
theorem Sames.refl (l : List It) : Sames l l := ⟨rfl, fun _ => .refl _⟩
theorem leastTo_same {l l' : List It} (h : Sames l l') : ∀ j, leastTo l j = leastTo l' j
  | 0 => rfl
  | j + 1 => by
    unfold leastTo
    rw [← leastTo_same h j]
    have e : less (l.getD (j + 1) dflt) (l.getD (leastTo l j) dflt) = less (l'.getD (j + 1) dflt) (l'.getD (leastTo l j) dflt) := by
      unfold less; rw [(h.2 (j + 1)).c, (h.2 (j + 1)).f, (h.2 (leastTo l j)).c, (h.2 (leastTo l j)).f]
    rw [e]
theorem least_same {l l' : List It} (h : Sames l l') : least l = least l' := by unfold least; rw [leastTo_same h, h.1]
theorem Sames.erase {l l' : List It} (h : Sames l l') (k : Nat) : Sames (l.eraseIdx k) (l'.eraseIdx k) := by
  refine ⟨by rw [List.length_eraseIdx, List.length_eraseIdx, h.1], fun i => ?_⟩
  have h1 := h.2 i
  have h2 := h.2 (i + 1)
  rw [List.getD_eq_getElem?_getD, List.getD_eq_getElem?_getD] at h1 h2 ⊢
  rw [List.getElem?_eraseIdx, List.getElem?_eraseIdx]
  split
  · exact h1
  · exact h2
theorem Sames.snoc {l l' : List It} {x y : It} (h : Sames l l') (hx : Same x y) : Sames (l ++ [x]) (l' ++ [y]) := by
  refine ⟨by rw [List.length_append, List.length_append, h.1]; rfl, fun i => ?_⟩
  have h1 := h.2 i
  rw [List.getD_eq_getElem?_getD, List.getD_eq_getElem?_getD] at h1 ⊢
  rw [List.getElem?_append, List.getElem?_append, h.1]
  split
  · exact h1
  · match i - l'.length with
    | 0 => exact hx
    | j + 1 => exact .refl _
theorem rounds_same : ∀ (n : Nat) (out : List Nat) (l l' : List It), Sames l l' → rounds n out l = rounds n out l'
  | 0, _, _, _, _ => rfl
  | n + 1, out, l, l', h => by
    have h1 := least_same h
    have h2 := h.erase (least l)
    have h3 := least_same h2
    have a := h.2 (least l)
    have b := h2.2 (least (l.eraseIdx (least l)))
    unfold rounds
    rw [h.1, ← h1, ← h3, rounds_same n _ _ _ ((h2.erase _).snoc (y := one (l'.getD (least l) dflt) ((l'.eraseIdx (least l)).getD (least (l.eraseIdx (least l))) dflt)) ⟨by unfold one; rw [a.c, b.c], by unfold one; rw [a.f, b.f], a.s.append b.s⟩), bump_perm _ (a.s.append b.s)]
/-- The least symbol stands at the head. -/
structure Headed (x : It) : Prop where
  h0 : 0 < x.s.length
  head : x.s.getD 0 0 = x.f
  min : ∀ z ∈ x.s, x.f ≤ z
/-- The first k are looked at: the least of them is at the head. -/
structure Swapped (S : List Nat) (k : Nat) (cur : List Nat) : Prop where
  perm : cur.Perm S
  drop : cur.drop k = S.drop k
  min : ∀ j, j < k → cur.getD 0 0 ≤ S.getD j 0
theorem getD_drop' (l : List Nat) (k i : Nat) : (l.drop k).getD i 0 = l.getD (k + i) 0 := by
  rw [List.getD_eq_getElem?_getD, List.getD_eq_getElem?_getD, List.getElem?_drop]
theorem Swapped.start (S : List Nat) : Swapped S 0 S := ⟨.refl _, rfl, fun _ h => by omega⟩
theorem Swapped.at_ {S cur : List Nat} {k : Nat} (h : Swapped S k cur) : cur.getD k 0 = S.getD k 0 := by
  have := congrArg (fun l : List Nat => l.getD 0 0) h.drop
  simpa only [getD_drop', Nat.add_zero] using this
theorem Swapped.length {S cur : List Nat} {k : Nat} (h : Swapped S k cur) : cur.length = S.length := h.perm.length_eq
theorem Swapped.stay {S cur : List Nat} {k : Nat} (h : Swapped S k cur) (hs : ¬ S.getD k 0 < cur.getD 0 0) : Swapped S (k + 1) cur := by
  refine ⟨h.perm, ?_, fun j hj => ?_⟩
  · rw [← List.drop_drop, ← List.drop_drop, h.drop]
  · by_cases e : j = k
    · subst e; omega
    · exact h.min j (by omega)
theorem Swapped.swap {S cur : List Nat} {k : Nat} (h : Swapped S k cur) (hk : k < S.length) (hs : S.getD k 0 < cur.getD 0 0) : Swapped S (k + 1) ((cur.set 0 (S.getD k 0)).set k (cur.getD 0 0)) := by
  have hl := h.length
  have hat := h.at_
  have hk0 : k ≠ 0 := by rintro rfl; rw [hat] at hs; omega
  have hkc : k < cur.length := by omega
  have h0c : 0 < cur.length := by omega
  refine ⟨?_, ?_, fun j hj => ?_⟩
  · have e1 : cur[k] = S.getD k 0 := by rw [← hat, List.getD_eq_getElem?_getD, List.getElem?_eq_getElem hkc]; rfl
    have e2 : cur[0] = cur.getD 0 0 := by rw [List.getD_eq_getElem?_getD, List.getElem?_eq_getElem h0c]; rfl
    have := List.set_set_perm h0c hkc
    rw [e1, e2] at this
    exact this.trans h.perm
  · rw [List.drop_set_of_lt (by omega), List.drop_set_of_lt (by omega), ← List.drop_drop, ← List.drop_drop, h.drop]
  · have e : ((cur.set 0 (S.getD k 0)).set k (cur.getD 0 0)).getD 0 0 = S.getD k 0 := by
      rw [getD_set _ _ _ _ (by rw [List.length_set]; exact h0c), if_neg hk0, getD_set _ _ _ _ h0c, if_pos rfl]
    rw [e]
    by_cases e : j = k
    · subst e; omega
    · have := h.min j (by omega); omega
/-- Two trees put together, their symbols in another order. -/
theorem headed_join {a b : It} {cur : List Nat} (ha : Headed a) (hb : Headed b) (h : Swapped (a.s ++ b.s) (a.s ++ b.s).length cur) : Headed ⟨a.c + b.c, min a.f b.f, cur⟩ ∧ Same ⟨a.c + b.c, min a.f b.f, cur⟩ (one a b) := by
  have hl := h.length
  rw [List.length_append] at hl
  have ha0 := ha.h0
  have h0 : 0 < cur.length := by omega
  have hmin : ∀ z ∈ a.s ++ b.s, cur.getD 0 0 ≤ z := by
    intro z hz
    obtain ⟨i, hi, rfl⟩ := List.mem_iff_getElem.1 hz
    have := h.min i hi
    rwa [List.getD_eq_getElem?_getD (i := i), List.getElem?_eq_getElem hi] at this
  have hmem : cur.getD 0 0 ∈ a.s ++ b.s := by
    rw [List.getD_eq_getElem?_getD, List.getElem?_eq_getElem h0]
    exact h.perm.mem_iff.1 (List.getElem_mem h0)
  have hall : ∀ z ∈ a.s ++ b.s, min a.f b.f ≤ z := by
    intro z hz
    rcases List.mem_append.1 hz with hz | hz
    · have := ha.min z hz; omega
    · have := hb.min z hz; omega
  have hhead : cur.getD 0 0 = min a.f b.f := by
    have h1 := hall _ hmem
    have hfa : a.f ∈ a.s ++ b.s := List.mem_append_left _ (by rw [← ha.head, List.getD_eq_getElem?_getD, List.getElem?_eq_getElem ha.h0]; exact List.getElem_mem _)
    have hfb : b.f ∈ a.s ++ b.s := List.mem_append_right _ (by rw [← hb.head, List.getD_eq_getElem?_getD, List.getElem?_eq_getElem hb.h0]; exact List.getElem_mem _)
    have := hmin _ hfa
    have := hmin _ hfb
    omega
  exact ⟨⟨h0, hhead, fun z hz => hall z (h.perm.mem_iff.1 hz)⟩, ⟨rfl, rfl, h.perm⟩⟩
end Go.Proofs.YtncidljdfipigaaDoor.Hf
