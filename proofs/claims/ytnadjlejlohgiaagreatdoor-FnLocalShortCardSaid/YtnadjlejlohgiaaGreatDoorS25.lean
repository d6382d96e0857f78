/- Own texts joined: En2, Hs. -/
import Derived.Test.YtnadjlejlohgiaaGreatDoorS15
import Derived.Test.YtnadjlejlohgiaaGreatDoorS17
/- A text packed by codes of its own is unpacked; the shortest of three ways. Nothing of the program stands here. -/
namespace Go.Proofs.YtnadjlejlohgiaaGreatDoor.En
open Go.Proofs.YtnadjlejlohgiaaGreatDoor.Bt Go.Proofs.YtnadjlejlohgiaaGreatDoor.Cd Go.Proofs.YtnadjlejlohgiaaGreatDoor.Hf Go.Proofs.YtnadjlejlohgiaaGreatDoor.Lz Go.Proofs.YtnadjlejlohgiaaGreatDoor.De
set_option linter.unusedVariables false
theorem trimTo_le (lens : List Nat) (least : Nat) : ∀ n, trimTo lens least n ≤ n
  | 0 => Nat.le_refl _
  | n + 1 => by
    have := trimTo_le lens least n
    unfold trimTo; split <;> omega
theorem trimTo_ge (lens : List Nat) (least : Nat) : ∀ n, least ≤ n → least ≤ trimTo lens least n
  | 0, h => h
  | n + 1, h => by
    unfold trimTo
    split
    · exact trimTo_ge lens least n (by omega)
    · exact h
theorem trimTo_zero (lens : List Nat) (least : Nat) : ∀ n k, trimTo lens least n ≤ k → k < n → lens.getD k 0 = 0
  | 0, k, _, h => by omega
  | n + 1, k, h, hk => by
    unfold trimTo at h
    split at h
    · rename_i hc
      by_cases e : k = n
      · rw [e]; exact hc.2
      · exact trimTo_zero lens least n k h (by omega)
    · omega
theorem getD_take (l : List Nat) (n k : Nat) : (l.take n).getD k 0 = if k < n then l.getD k 0 else 0 := by
  rw [List.getD_eq_getElem?_getD, List.getD_eq_getElem?_getD, List.getElem?_take]
  split <;> rfl
theorem trim_length (lens : List Nat) (least : Nat) : (trim lens least).length = trimTo lens least lens.length := by
  have := trimTo_le lens least lens.length
  unfold trim; rw [List.length_take]; omega
theorem trim_getD (lens : List Nat) (least k : Nat) : (trim lens least).getD k 0 = lens.getD k 0 := by
  unfold trim
  rw [getD_take]
  split
  · rfl
  · by_cases h : k < lens.length
    · rw [trimTo_zero lens least _ k (by omega) h]
    · rw [getD_over (by omega)]
theorem zeros_of {l : List Nat} (h : ∀ k, l.getD k 0 = 0) : l = List.replicate l.length 0 :=
  list_ext (by simp) fun k hk => by
    rw [h, List.getD_eq_getElem?_getD, List.getElem?_replicate]; split <;> rfl
theorem kraft_append (a b : List Nat) : kraft (a ++ b) = kraft a + kraft b := by
  unfold kraft; rw [List.map_append, List.sum_append_nat]
theorem kraft_zeros : ∀ n, kraft (List.replicate n 0) = 0
  | 0 => rfl
  | n + 1 => by
    have := kraft_zeros n
    unfold kraft at this ⊢
    rw [List.replicate_succ, List.map_cons, List.sum_cons, this]; rfl
theorem used_append (a b : List Nat) : used (a ++ b) = used a + used b := by
  unfold used; rw [List.filter_append, List.length_append]
theorem used_zeros : ∀ n, used (List.replicate n 0) = 0
  | 0 => rfl
  | n + 1 => by
    have := used_zeros n
    unfold used at this ⊢
    rw [List.replicate_succ, List.filter_cons]; exact this
theorem trim_split (lens : List Nat) (least : Nat) : lens = trim lens least ++ List.replicate (lens.drop (trimTo lens least lens.length)).length 0 := by
  conv => lhs; rw [← List.take_append_drop (trimTo lens least lens.length) lens]
  unfold trim
  congr 1
  refine zeros_of fun k => ?_
  have e : (lens.drop (trimTo lens least lens.length)).getD k 0 = lens.getD (trimTo lens least lens.length + k) 0 := by
    rw [List.getD_eq_getElem?_getD, List.getD_eq_getElem?_getD, List.getElem?_drop]
  rw [e]
  by_cases h : trimTo lens least lens.length + k < lens.length
  · exact trimTo_zero lens least _ _ (by omega) h
  · exact getD_over (by omega)
theorem trim_ok {lens : List Nat} (least : Nat) (h : okLens lens = true) : okLens (trim lens least) = true := by
  have hs := trim_split lens least
  have hk : kraft lens = kraft (trim lens least) := by
    conv => lhs; rw [hs]
    rw [kraft_append, kraft_zeros, Nat.add_zero]
  have hu : used lens = used (trim lens least) := by
    conv => lhs; rw [hs]
    rw [used_append, used_zeros, Nat.add_zero]
  have hl := trimTo_le lens least lens.length
  simp only [okLens, Bool.and_eq_true, Bool.or_eq_true, decide_eq_true_eq, List.all_eq_true] at h ⊢
  rw [trim_length, ← hk, ← hu]
  exact ⟨⟨by omega, fun x hx => h.1.2 x (List.mem_of_mem_take hx)⟩, h.2⟩
theorem bump_ge (s out : List Nat) (k : Nat) : out.getD k 0 ≤ (bump out s).getD k 0 := by
  by_cases h : k < out.length
  · rw [bump_get _ _ _ h]; omega
  · rw [getD_over (by omega)]; exact Nat.zero_le _
theorem bump_pos {s out : List Nat} {k : Nat} (hk : k ∈ s) (h : k < out.length) : 1 ≤ (bump out s).getD k 0 := by
  rw [bump_get _ _ _ h]
  have := List.count_pos_iff.2 hk
  omega
theorem cntL_length (l : List Tok) : (cntL l).length = 286 := by
  unfold cntL; rw [bump_length, List.length_set, List.length_replicate]
theorem cntB_length (l : List Tok) : (cntB l).length = 30 := by
  unfold cntB; split
  · simp
  · rw [bump_length]; simp
theorem cntL_last (l : List Tok) : 1 ≤ (cntL l).getD 256 0 := by
  refine Nat.le_trans ?_ (bump_ge (symsL l) _ 256)
  rw [getD_set _ _ _ _ (by rw [List.length_replicate]; omega)]; exact Nat.le_refl _
theorem fib18 : fib 18 = 2584 := by decide
theorem fib10 : fib 10 = 55 := by decide
theorem cntB_pos {l : List Tok} {out o : List Nat} (ht : text out l = some o) : ∃ k, 0 < (cntB l).getD k 0 := by
  unfold cntB
  by_cases h : symsB l = []
  · rw [if_pos h]
    exact ⟨0, by rw [getD_set _ _ _ _ (by simp)]; simp⟩
  · rw [if_neg h]
    obtain ⟨k, r, hk⟩ := List.exists_cons_of_ne_nil h
    have hm : k ∈ symsB l := by rw [hk]; simp
    refine ⟨k, bump_pos hm ?_⟩
    unfold symsB at hm
    obtain ⟨t, h1, rfl⟩ := List.mem_map.1 hm
    obtain ⟨h1, h2⟩ := List.mem_filter.1 h1
    obtain ⟨o1, o2, ha⟩ := text_adds l out o ht t h1
    have := add_long ha (by simpa using h2)
    have := lad_back t.back.toNat (by omega) (by omega)
    simp; omega
theorem ownLit_ok (l : List Tok) : okLens (ownLit l) = true :=
  trim_ok _ (fit_okLens (by omega) (by omega) ⟨256, cntL_last l⟩ (by rw [cntL_length, show 15 + 3 = 18 from rfl, fib18]; omega) (by rw [cntL_length]; omega))
theorem ownDist_ok {l : List Tok} {out o : List Nat} (ht : text out l = some o) : okLens (ownDist l) = true :=
  trim_ok _ (fit_okLens (by omega) (by omega) (cntB_pos ht) (by rw [cntB_length, show 15 + 3 = 18 from rfl, fib18]; omega) (by rw [cntB_length]; omega))
theorem fitL (l : List Tok) : Lens (cntL l) (fit 15 (cntL l)) ∧ ∀ x ∈ fit 15 (cntL l), x ≤ 15 := fit_ok (by omega) (by omega) _ _ (Nat.le_refl _) ⟨256, cntL_last l⟩ (by rw [cntL_length, show 15 + 3 = 18 from rfl, fib18]; omega)
theorem fitB {l : List Tok} {out o : List Nat} (ht : text out l = some o) : Lens (cntB l) (fit 15 (cntB l)) ∧ ∀ x ∈ fit 15 (cntB l), x ≤ 15 := fit_ok (by omega) (by omega) _ _ (Nat.le_refl _) (cntB_pos ht) (by rw [cntB_length, show 15 + 3 = 18 from rfl, fib18]; omega)
theorem own_has {l : List Tok} {out o : List Nat} (ht : text out l = some o) : Has (ownLit l) (ownDist l) l := by
  have pL : ∀ s, s ∈ symsL l → s < 286 → 1 ≤ (ownLit l).getD s 0 := fun s hs h => by
    unfold ownLit; rw [trim_getD]
    exact (fitL l).1.pos s (bump_pos hs (by rw [List.length_set, List.length_replicate]; exact h))
  have mL : ∀ t ∈ l, (if t.long = 0 then t.byte.toNat else 257 + lad longBase t.long.toNat) ∈ symsL l := fun t h => List.mem_map.2 ⟨t, h, rfl⟩
  refine ⟨ok_fits (ownLit_ok l), ok_fits (ownDist_ok ht), ok_le (ownLit_ok l), ok_le (ownDist_ok ht), ?_, fun t h h0 => ?_, fun t h h0 => ?_, fun t h h0 => ?_⟩
  · unfold ownLit; rw [trim_getD]
    exact (fitL l).1.pos 256 (cntL_last l)
  · obtain ⟨o1, o2, ha⟩ := text_adds l out o ht t h
    have := add_byte ha h0
    have hm := mL t h
    rw [if_pos h0] at hm
    exact pL _ hm (by omega)
  · obtain ⟨o1, o2, ha⟩ := text_adds l out o ht t h
    have := add_long ha h0
    have := lad_long t.long.toNat (by omega) (by omega)
    have hm := mL t h
    rw [if_neg h0] at hm
    exact pL _ hm (by omega)
  · obtain ⟨o1, o2, ha⟩ := text_adds l out o ht t h
    have := add_long ha h0
    have := lad_back t.back.toNat (by omega) (by omega)
    have hm : lad backBase t.back.toNat ∈ symsB l := List.mem_map.2 ⟨t, List.mem_filter.2 ⟨h, by simpa using h0⟩, rfl⟩
    have hne : symsB l ≠ [] := fun e => by rw [e] at hm; cases hm
    unfold ownDist; rw [trim_getD]
    refine (fitB ht).1.pos _ ?_
    unfold cntB; rw [if_neg hne]
    exact bump_pos hm (by simp; omega)
theorem ownLit_length (l : List Tok) : 257 ≤ (ownLit l).length ∧ (ownLit l).length ≤ 286 := by
  have hf : (fit 15 (cntL l)).length = 286 := by rw [(fitL l).1.len, cntL_length]
  unfold ownLit
  rw [trim_length, hf]
  exact ⟨trimTo_ge _ _ _ (by omega), trimTo_le _ _ _⟩
theorem ownDist_length {l : List Tok} {out o : List Nat} (ht : text out l = some o) : 1 ≤ (ownDist l).length ∧ (ownDist l).length ≤ 30 := by
  have hf : (fit 15 (cntB l)).length = 30 := by rw [(fitB ht).1.len, cntB_length]
  unfold ownDist
  rw [trim_length, hf]
  exact ⟨trimTo_ge _ _ _ (by omega), trimTo_le _ _ _⟩
/-- The code of lengths. -/
structure Meta (all m : List Nat) : Prop where
  ok : okLens m = true
  le : ∀ x ∈ m, x ≤ 7
  len : m.length = 19
  pos : ∀ x ∈ all, 1 ≤ m.getD x 0
theorem meta_pos {all : List Nat} (h : ∀ x ∈ all, x ≤ 15) (hne : all ≠ []) : (∃ k, 0 < (bump (List.replicate 19 0) all).getD k 0) := by
  obtain ⟨k, r, hk⟩ := List.exists_cons_of_ne_nil hne
  have hm : k ∈ all := by rw [hk]; simp
  exact ⟨k, bump_pos hm (by have := h k hm; simp; omega)⟩
theorem ownMeta_ok {all : List Nat} (h : ∀ x ∈ all, x ≤ 15) (hne : all ≠ []) : Meta all (ownMeta all) := by
  have hl : (bump (List.replicate 19 0) all).length = 19 := by rw [bump_length]; simp
  obtain ⟨L, h7⟩ := fit_ok (most := 7) (by omega) (by omega) _ _ (Nat.le_refl _) (meta_pos h hne) (by rw [hl, show 7 + 3 = 10 from rfl, fib10]; omega)
  exact ⟨fit_okLens (by omega) (by omega) (meta_pos h hne) (by rw [hl, show 7 + 3 = 10 from rfl, fib10]; omega) (by rw [hl]; omega), h7, by unfold ownMeta; rw [L.len, hl], fun x hx => L.pos x (bump_pos hx (by have := h x hx; simp; omega))⟩
end Go.Proofs.YtnadjlejlohgiaaGreatDoor.En

/- Trees whose symbols stand in another order make the same lengths; the least symbol brought to the head. Nothing of the program stands here. -/
namespace Go.Proofs.YtnadjlejlohgiaaGreatDoor.Hf
open Go.Proofs.YtnadjlejlohgiaaGreatDoor.Bt Go.Proofs.YtnadjlejlohgiaaGreatDoor.Cd
/-- The same tree, its symbols in any order. -/
structure Same (x y : It) : Prop where
  c : x.c = y.c
  f : x.f = y.f
  s : x.s.Perm y.s
def Sames (l l' : List It) : Prop := l.length = l'.length ∧ ∀ i, Same (l.getD i dflt) (l'.getD i dflt)
theorem Same.refl (x : It) : Same x x := ⟨rfl, rfl, .refl _⟩
theorem Sames.refl (l : List It) : Sames l l := ⟨rfl, fun _ => .refl _⟩
theorem leastTo_same {l l' : List It} (h : Sames l l') : ∀ j, leastTo l j = leastTo l' j
  | 0 => rfl
  | j + 1 => by
    unfold leastTo
    rw [← leastTo_same h j]
    have e : less (l.getD (j + 1) dflt) (l.getD (leastTo l j) dflt) = less (l'.getD (j + 1) dflt) (l'.getD (leastTo l j) dflt) := by
      unfold less; rw [(h.2 (j + 1)).c, (h.2 (j + 1)).f, (h.2 (leastTo l j)).c, (h.2 (leastTo l j)).f]
    rw [e]
theorem least_same {l l' : List It} (h : Sames l l') : least l = least l' := by unfold least; rw [leastTo_same h, h.1]
theorem Sames.erase {l l' : List It} (h : Sames l l') (k : Nat) : Sames (l.eraseIdx k) (l'.eraseIdx k) := by
  refine ⟨by rw [List.length_eraseIdx, List.length_eraseIdx, h.1], fun i => ?_⟩
  have h1 := h.2 i
  have h2 := h.2 (i + 1)
  rw [List.getD_eq_getElem?_getD, List.getD_eq_getElem?_getD] at h1 h2 ⊢
  rw [List.getElem?_eraseIdx, List.getElem?_eraseIdx]
  split
  · exact h1
  · exact h2
theorem Sames.snoc {l l' : List It} {x y : It} (h : Sames l l') (hx : Same x y) : Sames (l ++ [x]) (l' ++ [y]) := by
  refine ⟨by rw [List.length_append, List.length_append, h.1]; rfl, fun i => ?_⟩
  have h1 := h.2 i
  rw [List.getD_eq_getElem?_getD, List.getD_eq_getElem?_getD] at h1 ⊢
  rw [List.getElem?_append, List.getElem?_append, h.1]
  split
  · exact h1
  · match i - l'.length with
    | 0 => exact hx
    | j + 1 => exact .refl _
theorem rounds_same : ∀ (n : Nat) (out : List Nat) (l l' : List It), Sames l l' → rounds n out l = rounds n out l'
  | 0, _, _, _, _ => rfl
  | n + 1, out, l, l', h => by
    have h1 := least_same h
    have h2 := h.erase (least l)
    have h3 := least_same h2
    have a := h.2 (least l)
    have b := h2.2 (least (l.eraseIdx (least l)))
    unfold rounds
    rw [h.1, ← h1, ← h3, rounds_same n _ _ _ ((h2.erase _).snoc (y := one (l'.getD (least l) dflt) ((l'.eraseIdx (least l)).getD (least (l.eraseIdx (least l))) dflt)) ⟨by unfold one; rw [a.c, b.c], by unfold one; rw [a.f, b.f], a.s.append b.s⟩), bump_perm _ (a.s.append b.s)]
/-- The least symbol stands at the head. -/
structure Headed (x : It) : Prop where
  h0 : 0 < x.s.length
  head : x.s.getD 0 0 = x.f
  min : ∀ z ∈ x.s, x.f ≤ z
/-- The first k are looked at: the least of them is at the head. -/
structure Swapped (S : List Nat) (k : Nat) (cur : List Nat) : Prop where
  perm : cur.Perm S
  drop : cur.drop k = S.drop k
  min : ∀ j, j < k → cur.getD 0 0 ≤ S.getD j 0
theorem getD_drop' (l : List Nat) (k i : Nat) : (l.drop k).getD i 0 = l.getD (k + i) 0 := by
  rw [List.getD_eq_getElem?_getD, List.getD_eq_getElem?_getD, List.getElem?_drop]
theorem Swapped.start (S : List Nat) : Swapped S 0 S := ⟨.refl _, rfl, fun _ h => by omega⟩
theorem Swapped.at_ {S cur : List Nat} {k : Nat} (h : Swapped S k cur) : cur.getD k 0 = S.getD k 0 := by
  have := congrArg (fun l : List Nat => l.getD 0 0) h.drop
  simpa only [getD_drop', Nat.add_zero] using this
theorem Swapped.length {S cur : List Nat} {k : Nat} (h : Swapped S k cur) : cur.length = S.length := h.perm.length_eq
theorem Swapped.stay {S cur : List Nat} {k : Nat} (h : Swapped S k cur) (hs : ¬ S.getD k 0 < cur.getD 0 0) : Swapped S (k + 1) cur := by
  refine ⟨h.perm, ?_, fun j hj => ?_⟩
  · rw [← List.drop_drop, ← List.drop_drop, h.drop]
  · by_cases e : j = k
    · subst e; omega
    · exact h.min j (by omega)
theorem Swapped.swap {S cur : List Nat} {k : Nat} (h : Swapped S k cur) (hk : k < S.length) (hs : S.getD k 0 < cur.getD 0 0) : Swapped S (k + 1) ((cur.set 0 (S.getD k 0)).set k (cur.getD 0 0)) := by
  have hl := h.length
  have hat := h.at_
  have hk0 : k ≠ 0 := by rintro rfl; rw [hat] at hs; omega
  have hkc : k < cur.length := by omega
  have h0c : 0 < cur.length := by omega
  refine ⟨?_, ?_, fun j hj => ?_⟩
  · have e1 : cur[k] = S.getD k 0 := by rw [← hat, List.getD_eq_getElem?_getD, List.getElem?_eq_getElem hkc]; rfl
    have e2 : cur[0] = cur.getD 0 0 := by rw [List.getD_eq_getElem?_getD, List.getElem?_eq_getElem h0c]; rfl
    have := List.set_set_perm h0c hkc
    rw [e1, e2] at this
    exact this.trans h.perm
  · rw [List.drop_set_of_lt (by omega), List.drop_set_of_lt (by omega), ← List.drop_drop, ← List.drop_drop, h.drop]
  · have e : ((cur.set 0 (S.getD k 0)).set k (cur.getD 0 0)).getD 0 0 = S.getD k 0 := by
      rw [getD_set _ _ _ _ (by rw [List.length_set]; exact h0c), if_neg hk0, getD_set _ _ _ _ h0c, if_pos rfl]
    rw [e]
    by_cases e : j = k
    · subst e; omega
    · have := h.min j (by omega); omega
/-- Two trees put together, their symbols in another order. -/
theorem headed_join {a b : It} {cur : List Nat} (ha : Headed a) (hb : Headed b) (h : Swapped (a.s ++ b.s) (a.s ++ b.s).length cur) : Headed ⟨a.c + b.c, min a.f b.f, cur⟩ ∧ Same ⟨a.c + b.c, min a.f b.f, cur⟩ (one a b) := by
  have hl := h.length
  rw [List.length_append] at hl
  have ha0 := ha.h0
  have h0 : 0 < cur.length := by omega
  have hmin : ∀ z ∈ a.s ++ b.s, cur.getD 0 0 ≤ z := by
    intro z hz
    obtain ⟨i, hi, rfl⟩ := List.mem_iff_getElem.1 hz
    have := h.min i hi
    rwa [List.getD_eq_getElem?_getD (i := i), List.getElem?_eq_getElem hi] at this
  have hmem : cur.getD 0 0 ∈ a.s ++ b.s := by
    rw [List.getD_eq_getElem?_getD, List.getElem?_eq_getElem h0]
    exact h.perm.mem_iff.1 (List.getElem_mem h0)
  have hall : ∀ z ∈ a.s ++ b.s, min a.f b.f ≤ z := by
    intro z hz
    rcases List.mem_append.1 hz with hz | hz
    · have := ha.min z hz; omega
    · have := hb.min z hz; omega
  have hhead : cur.getD 0 0 = min a.f b.f := by
    have h1 := hall _ hmem
    have hfa : a.f ∈ a.s ++ b.s := List.mem_append_left _ (by rw [← ha.head, List.getD_eq_getElem?_getD, List.getElem?_eq_getElem ha.h0]; exact List.getElem_mem _)
    have hfb : b.f ∈ a.s ++ b.s := List.mem_append_right _ (by rw [← hb.head, List.getD_eq_getElem?_getD, List.getElem?_eq_getElem hb.h0]; exact List.getElem_mem _)
    have := hmin _ hfa
    have := hmin _ hfb
    omega
  exact ⟨⟨h0, hhead, fun z hz => hall z (h.perm.mem_iff.1 hz)⟩, ⟨rfl, rfl, h.perm⟩⟩
end Go.Proofs.YtnadjlejlohgiaaGreatDoor.Hf

