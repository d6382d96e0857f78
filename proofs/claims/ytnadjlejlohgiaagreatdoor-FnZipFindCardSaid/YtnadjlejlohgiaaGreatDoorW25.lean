/- Own texts joined: En2, Db, En4. -/
import Derived.Test.YtnadjlejlohgiaaGreatDoorW13
/- A text packed by codes of its own is unpacked; the shortest of three ways. Nothing of the program stands here. -/
namespace Go.Proofs.YtnadjlejlohgiaaGreatDoor.En
open Go.Proofs.YtnadjlejlohgiaaGreatDoor.Bt Go.Proofs.YtnadjlejlohgiaaGreatDoor.Cd Go.Proofs.YtnadjlejlohgiaaGreatDoor.Hf Go.Proofs.YtnadjlejlohgiaaGreatDoor.Lz Go.Proofs.YtnadjlejlohgiaaGreatDoor.De
set_option linter.unusedVariables false
theorem trimTo_le (lens : List Nat) (least : Nat) : ∀ n, trimTo lens least n ≤ n
  | 0 => Nat.le_refl _
  | n + 1 => by
    have := trimTo_le lens least n
    unfold trimTo; split <;> omega
theorem trimTo_ge (lens : List Nat) (least : Nat) : ∀ n, least ≤ n → least ≤ trimTo lens least n
  | 0, h => h
  | n + 1, h => by
    unfold trimTo
    split
    · exact trimTo_ge lens least n (by omega)
    · exact h
theorem trimTo_zero (lens : List Nat) (least : Nat) : ∀ n k, trimTo lens least n ≤ k → k < n → lens.getD k 0 = 0
  | 0, k, _, h => by omega
  | n + 1, k, h, hk => by
    unfold trimTo at h
    split at h
    · rename_i hc
      by_cases e : k = n
      · rw [e]; exact hc.2
      · exact trimTo_zero lens least n k h (by omega)
    · omega
theorem getD_take (l : List Nat) (n k : Nat) : (l.take n).getD k 0 = if k < n then l.getD k 0 else 0 := by
  rw [List.getD_eq_getElem?_getD, List.getD_eq_getElem?_getD, List.getElem?_take]
  split <;> rfl
theorem trim_length (lens : List Nat) (least : Nat) : (trim lens least).length = trimTo lens least lens.length := by
  have := trimTo_le lens least lens.length
  unfold trim; rw [List.length_take]; omega
theorem trim_getD (lens : List Nat) (least k : Nat) : (trim lens least).getD k 0 = lens.getD k 0 := by
  unfold trim
  rw [getD_take]
  split
  · rfl
  · by_cases h : k < lens.length
    · rw [trimTo_zero lens least _ k (by omega) h]
    · rw [getD_over (by omega)]
theorem zeros_of {l : List Nat} (h : ∀ k, l.getD k 0 = 0) : l = List.replicate l.length 0 :=
  list_ext (by simp) fun k hk => by
    rw [h, List.getD_eq_getElem?_getD, List.getElem?_replicate]; split <;> rfl
theorem kraft_append (a b : List Nat) : kraft (a ++ b) = kraft a + kraft b := by
  unfold kraft; rw [List.map_append, List.sum_append_nat]
theorem kraft_zeros : ∀ n, kraft (List.replicate n 0) = 0
  | 0 => rfl
  | n + 1 => by
    have := kraft_zeros n
    unfold kraft at this ⊢
    rw [List.replicate_succ, List.map_cons, List.sum_cons, this]; rfl
theorem used_append (a b : List Nat) : used (a ++ b) = used a + used b := by
  unfold used; rw [List.filter_append, List.length_append]
theorem used_zeros : ∀ n, used (List.replicate n 0) = 0
  | 0 => rfl
  | n + 1 => by
    have := used_zeros n
    unfold used at this ⊢
    rw [List.replicate_succ, List.filter_cons]; exact this
theorem trim_split (lens : List Nat) (least : Nat) : lens = trim lens least ++ List.replicate (lens.drop (trimTo lens least lens.length)).length 0 := by
  conv => lhs; rw [← List.take_append_drop (trimTo lens least lens.length) lens]
  unfold trim
  congr 1
  refine zeros_of fun k => ?_
  have e : (lens.drop (trimTo lens least lens.length)).getD k 0 = lens.getD (trimTo lens least lens.length + k) 0 := by
    rw [List.getD_eq_getElem?_getD, List.getD_eq_getElem?_getD, List.getElem?_drop]
  rw [e]
  by_cases h : trimTo lens least lens.length + k < lens.length
  · exact trimTo_zero lens least _ _ (by omega) h
  · exact getD_over (by omega)
theorem trim_ok {lens : List Nat} (least : Nat) (h : okLens lens = true) : okLens (trim lens least) = true := by
  have hs := trim_split lens least
  have hk : kraft lens = kraft (trim lens least) := by
    conv => lhs; rw [hs]
    rw [kraft_append, kraft_zeros, Nat.add_zero]
  have hu : used lens = used (trim lens least) := by
    conv => lhs; rw [hs]
    rw [used_append, used_zeros, Nat.add_zero]
  have hl := trimTo_le lens least lens.length
  simp only [okLens, Bool.and_eq_true, Bool.or_eq_true, decide_eq_true_eq, List.all_eq_true] at h ⊢
  rw [trim_length, ← hk, ← hu]
  exact ⟨⟨by omega, fun x hx => h.1.2 x (List.mem_of_mem_take hx)⟩, h.2⟩
theorem bump_ge (s out : List Nat) (k : Nat) : out.getD k 0 ≤ (bump out s).getD k 0 := by
  by_cases h : k < out.length
  · rw [bump_get _ _ _ h]; omega
  · rw [getD_over (by omega)]; exact Nat.zero_le _
theorem bump_pos {s out : List Nat} {k : Nat} (hk : k ∈ s) (h : k < out.length) : 1 ≤ (bump out s).getD k 0 := by
  rw [bump_get _ _ _ h]
  have := List.count_pos_iff.2 hk
  omega
theorem cntL_length (l : List Tok) : (cntL l).length = 286 := by
  unfold cntL; rw [bump_length, List.length_set, List.length_replicate]
theorem cntB_length (l : List Tok) : (cntB l).length = 30 := by
  unfold cntB; split
  · simp
  · rw [bump_length]; simp
theorem cntL_last (l : List Tok) : 1 ≤ (cntL l).getD 256 0 := by
  refine Nat.le_trans ?_ (bump_ge (symsL l) _ 256)
  rw [getD_set _ _ _ _ (by rw [List.length_replicate]; omega)]; exact Nat.le_refl _
theorem fib18 : fib 18 = 2584 := by decide
theorem fib10 : fib 10 = 55 := by decide
theorem cntB_pos {l : List Tok} {out o : List Nat} (ht : text out l = some o) : ∃ k, 0 < (cntB l).getD k 0 := by
  unfold cntB
  by_cases h : symsB l = []
  · rw [if_pos h]
    exact ⟨0, by rw [getD_set _ _ _ _ (by simp)]; simp⟩
  · rw [if_neg h]
    obtain ⟨k, r, hk⟩ := List.exists_cons_of_ne_nil h
    have hm : k ∈ symsB l := by rw [hk]; simp
    refine ⟨k, bump_pos hm ?_⟩
    unfold symsB at hm
    obtain ⟨t, h1, rfl⟩ := List.mem_map.1 hm
    obtain ⟨h1, h2⟩ := List.mem_filter.1 h1
    obtain ⟨o1, o2, ha⟩ := text_adds l out o ht t h1
    have := add_long ha (by simpa using h2)
    have := lad_back t.back.toNat (by omega) (by omega)
    simp; omega
theorem ownLit_ok (l : List Tok) : okLens (ownLit l) = true :=
  trim_ok _ (fit_okLens (by omega) (by omega) ⟨256, cntL_last l⟩ (by rw [cntL_length, show 15 + 3 = 18 from rfl, fib18]; omega) (by rw [cntL_length]; omega))
theorem ownDist_ok {l : List Tok} {out o : List Nat} (ht : text out l = some o) : okLens (ownDist l) = true :=
  trim_ok _ (fit_okLens (by omega) (by omega) (cntB_pos ht) (by rw [cntB_length, show 15 + 3 = 18 from rfl, fib18]; omega) (by rw [cntB_length]; omega))
theorem fitL (l : List Tok) : Lens (cntL l) (fit 15 (cntL l)) ∧ ∀ x ∈ fit 15 (cntL l), x ≤ 15 := fit_ok (by omega) (by omega) _ _ (Nat.le_refl _) ⟨256, cntL_last l⟩ (by rw [cntL_length, show 15 + 3 = 18 from rfl, fib18]; omega)
theorem fitB {l : List Tok} {out o : List Nat} (ht : text out l = some o) : Lens (cntB l) (fit 15 (cntB l)) ∧ ∀ x ∈ fit 15 (cntB l), x ≤ 15 := fit_ok (by omega) (by omega) _ _ (Nat.le_refl _) (cntB_pos ht) (by rw [cntB_length, show 15 + 3 = 18 from rfl, fib18]; omega)
theorem own_has {l : List Tok} {out o : List Nat} (ht : text out l = some o) : Has (ownLit l) (ownDist l) l := by
  have pL : ∀ s, s ∈ symsL l → s < 286 → 1 ≤ (ownLit l).getD s 0 := fun s hs h => by
    unfold ownLit; rw [trim_getD]
    exact (fitL l).1.pos s (bump_pos hs (by rw [List.length_set, List.length_replicate]; exact h))
  have mL : ∀ t ∈ l, (if t.long = 0 then t.byte.toNat else 257 + lad longBase t.long.toNat) ∈ symsL l := fun t h => List.mem_map.2 ⟨t, h, rfl⟩
  refine ⟨ok_fits (ownLit_ok l), ok_fits (ownDist_ok ht), ok_le (ownLit_ok l), ok_le (ownDist_ok ht), ?_, fun t h h0 => ?_, fun t h h0 => ?_, fun t h h0 => ?_⟩
  · unfold ownLit; rw [trim_getD]
    exact (fitL l).1.pos 256 (cntL_last l)
  · obtain ⟨o1, o2, ha⟩ := text_adds l out o ht t h
    have := add_byte ha h0
    have hm := mL t h
    rw [if_pos h0] at hm
    exact pL _ hm (by omega)
  · obtain ⟨o1, o2, ha⟩ := text_adds l out o ht t h
    have := add_long ha h0
    have := lad_long t.long.toNat (by omega) (by omega)
    have hm := mL t h
    rw [if_neg h0] at hm
    exact pL _ hm (by omega)
  · obtain ⟨o1, o2, ha⟩ := text_adds l out o ht t h
    have := add_long ha h0
    have := lad_back t.back.toNat (by omega) (by omega)
    have hm : lad backBase t.back.toNat ∈ symsB l := List.mem_map.2 ⟨t, List.mem_filter.2 ⟨h, by simpa using h0⟩, rfl⟩
    have hne : symsB l ≠ [] := fun e => by rw [e] at hm; cases hm
    unfold ownDist; rw [trim_getD]
    refine (fitB ht).1.pos _ ?_
    unfold cntB; rw [if_neg hne]
    exact bump_pos hm (by simp; omega)
theorem ownLit_length (l : List Tok) : 257 ≤ (ownLit l).length ∧ (ownLit l).length ≤ 286 := by
  have hf : (fit 15 (cntL l)).length = 286 := by rw [(fitL l).1.len, cntL_length]
  unfold ownLit
  rw [trim_length, hf]
  exact ⟨trimTo_ge _ _ _ (by omega), trimTo_le _ _ _⟩
theorem ownDist_length {l : List Tok} {out o : List Nat} (ht : text out l = some o) : 1 ≤ (ownDist l).length ∧ (ownDist l).length ≤ 30 := by
  have hf : (fit 15 (cntB l)).length = 30 := by rw [(fitB ht).1.len, cntB_length]
  unfold ownDist
  rw [trim_length, hf]
  exact ⟨trimTo_ge _ _ _ (by omega), trimTo_le _ _ _⟩
/-- The code of lengths. -/
structure Meta (all m : List Nat) : Prop where
  ok : okLens m = true
  le : ∀ x ∈ m, x ≤ 7
  len : m.length = 19
  pos : ∀ x ∈ all, 1 ≤ m.getD x 0
theorem meta_pos {all : List Nat} (h : ∀ x ∈ all, x ≤ 15) (hne : all ≠ []) : (∃ k, 0 < (bump (List.replicate 19 0) all).getD k 0) := by
  obtain ⟨k, r, hk⟩ := List.exists_cons_of_ne_nil hne
  have hm : k ∈ all := by rw [hk]; simp
  exact ⟨k, bump_pos hm (by have := h k hm; simp; omega)⟩
theorem ownMeta_ok {all : List Nat} (h : ∀ x ∈ all, x ≤ 15) (hne : all ≠ []) : Meta all (ownMeta all) := by
  have hl : (bump (List.replicate 19 0) all).length = 19 := by rw [bump_length]; simp
  obtain ⟨L, h7⟩ := fit_ok (most := 7) (by omega) (by omega) _ _ (Nat.le_refl _) (meta_pos h hne) (by rw [hl, show 7 + 3 = 10 from rfl, fib10]; omega)
  exact ⟨fit_okLens (by omega) (by omega) (meta_pos h hne) (by rw [hl, show 7 + 3 = 10 from rfl, fib10]; omega) (by rw [hl]; omega), h7, by unfold ownMeta; rw [L.len, hl], fun x hx => L.pos x (bump_pos hx (by have := h x hx; simp; omega))⟩
theorem foldl_set (g : Nat → Nat) : ∀ (l m : List Nat) (j : Nat), j < m.length → (l.foldl (fun m k => m.set k (g k)) m).getD j 0 = if j ∈ l then g j else m.getD j 0
  | [], m, j, _ => by simp
  | x :: l, m, j, h => by
    rw [List.foldl_cons, foldl_set g l _ j (by rw [List.length_set]; exact h), getD_set _ _ _ _ h]
    by_cases h1 : j ∈ l
    · rw [if_pos h1, if_pos (List.mem_cons_of_mem _ h1)]
    · rw [if_neg h1]
      by_cases e : x = j
      · subst e; rw [if_pos rfl, if_pos (by simp)]
      · rw [if_neg e, if_neg (by simp [h1, Ne.symm e])]
theorem foldl_set_length (g : Nat → Nat) : ∀ (l m : List Nat), (l.foldl (fun m k => m.set k (g k)) m).length = m.length
  | [], _ => rfl
  | x :: l, m => by rw [List.foldl_cons, foldl_set_length g l, List.length_set]
theorem metas_is {v : List Nat} (hv : ∀ k, v.getD k 0 < 8) (r : List Bool) : ∀ (n i : Nat) (m : List Nat), i + n ≤ 19 →
    metas n i m (((order.drop i).take n).flatMap (fun k => bitsOf (v.getD k 0) 3) ++ r) = some (((order.drop i).take n).foldl (fun m k => m.set k (v.getD k 0)) m, r)
  | 0, i, m, _ => by simp [metas, ret]
  | n + 1, i, m, h => by
    have hi : i < order.length := by have : order.length = 19 := rfl; omega
    have ed : order.drop i = order[i] :: order.drop (i + 1) := List.drop_eq_getElem_cons hi
    have eg : order.getD i 0 = order[i] := by rw [List.getD_eq_getElem?_getD, List.getElem?_eq_getElem hi]; rfl
    rw [ed, List.take_succ_cons, List.flatMap_cons, List.append_assoc, metas, next_some (num_small (hv _) _), metas_is hv r n (i + 1) _ (by omega), eg, List.foldl_cons]
theorem order_all : ∀ k, k < 19 → k ∈ order := by decide
theorem metas_own {v : List Nat} (hv : ∀ x ∈ v, x ≤ 7) (hl : v.length = 19) (r : List Bool) : metas 19 0 (List.replicate 19 0) (order.flatMap (fun k => bitsOf (v.getD k 0) 3) ++ r) = some (v, r) := by
  have e : (order.drop 0).take 19 = order := rfl
  have hm := metas_is (v := v) (fun k => by have := getD_le hv k; omega) r 19 0 (List.replicate 19 0) (by omega)
  rw [e] at hm
  refine hm.trans ?_
  have ev : order.foldl (fun m k => m.set k (v.getD k 0)) (List.replicate 19 0) = v := ?_
  · rw [ev]
  clear hm
  apply list_ext
  · rw [foldl_set_length, List.length_replicate, hl]
  · intro k hk
    rw [foldl_set_length, List.length_replicate] at hk
    rw [foldl_set _ _ _ _ (by simpa using hk), if_pos (order_all k hk)]
theorem lenLoop_is {m : List Nat} (hf : Fits m) (h15 : ∀ x ∈ m, x ≤ 15) (r : List Bool) : ∀ (l acc : List Nat) (want f : Nat), (∀ x ∈ l, x < 16 ∧ 1 ≤ m.getD x 0) → want = acc.length + l.length → l.length < f →
    lenLoop m want f acc (l.flatMap (enc m) ++ r) = some (acc ++ l, r)
  | [], acc, want, f, _, hw, hlt => by
    obtain ⟨g, rfl⟩ : ∃ g, f = g + 1 := ⟨f - 1, by simp at hlt; omega⟩
    rw [lenLoop, if_pos (by simp at hw; omega), if_pos (by simp at hw; omega)]; simp [ret]
  | x :: l, acc, want, f, H, hw, hlt => by
    obtain ⟨g, rfl⟩ : ∃ g, f = g + 1 := ⟨f - 1, by simp at hlt; omega⟩
    rw [List.length_cons] at hw hlt
    obtain ⟨h16, hx⟩ := H x (by simp)
    rw [lenLoop, if_neg (by omega), List.flatMap_cons, List.append_assoc, next_some (sym_enc' hf h15 hx _), if_pos h16, lenLoop_is hf h15 r l _ want g (fun y hy => H y (by simp [hy])) (by simp; omega) (by omega), List.append_assoc]
    rfl
theorem own_is {lit dist : List Nat} (hl : okLens lit = true) (hd : okLens dist = true) (l1 : 257 ≤ lit.length) (l2 : lit.length ≤ 286) (d1 : 1 ≤ dist.length) (d2 : dist.length ≤ 30) (r : List Bool) :
    own (headBits lit dist ++ r) = some ((lit, dist), r) := by
  have hall : ∀ x ∈ lit ++ dist, x ≤ 15 := fun x hx => by
    rcases List.mem_append.1 hx with h | h
    · exact ok_le hl x h
    · exact ok_le hd x h
  have M := ownMeta_ok hall (by intro e; have := congrArg List.length e; rw [List.length_append, List.length_nil] at this; omega)
  have hloop := lenLoop_is (ok_fits M.ok) (ok_le M.ok) r (lit ++ dist) [] (lit.length - 257 + 257 + (dist.length - 1 + 1)) 400 (fun x hx => ⟨by have := hall x hx; omega, M.pos x hx⟩)
    (by rw [List.length_append, List.length_nil]; omega) (by rw [List.length_append]; omega)
  unfold headBits own
  simp only [List.append_assoc]
  rw [next_some (num_small (by omega) _), next_some (num_small (by omega) _), next_some (num_small (by omega) _), next_some (metas_own M.le M.len _), if_pos ⟨M.ok, by omega, by omega⟩, next_some hloop]
  rw [List.nil_append, show lit.length - 257 + 257 = lit.length from by omega, List.take_left, List.drop_left, if_pos ⟨hl, hd⟩]; rfl
theorem own_flate {t : List Nat} (hb : ∀ x ∈ t, x < 256) (h300 : t.length ≤ 300) (h7 : (ownPut t).length ≤ 700) : flate (ownPut t) = some (t, (ownPut t).length) := by
  have ht := text_tokens hb h300
  unfold ownPut ownBits at h7 ⊢
  rw [List.append_assoc, List.append_assoc] at h7 ⊢
  refine flate_pack (by omega) (fun r => ?_) h7
  obtain ⟨l1, l2⟩ := ownLit_length (tokens t)
  obtain ⟨d1, d2⟩ := ownDist_length ht
  unfold body
  rw [if_neg (by omega), if_neg (by omega), if_pos rfl, List.append_assoc, next_some (own_is (ownLit_ok _) (ownDist_ok ht) l1 l2 d1 d2 _)]
  exact packed_encToks (own_has ht) ht r
theorem flatePut_cases (t : List Nat) : (flatePut t = store t ∨ flatePut t = fixed t ∨ flatePut t = ownPut t) ∧ (flatePut t).length ≤ (store t).length ∧ (flatePut t).length ≤ (fixed t).length ∧ (flatePut t).length ≤ (ownPut t).length := by
  unfold flatePut
  dsimp only
  by_cases h1 : (fixed t).length < (store t).length
  · rw [if_pos h1]
    by_cases h2 : (ownPut t).length < (fixed t).length
    · rw [if_pos h2]; exact ⟨.inr (.inr rfl), by omega, by omega, by omega⟩
    · rw [if_neg h2]; exact ⟨.inr (.inl rfl), by omega, by omega, by omega⟩
  · rw [if_neg h1]
    by_cases h2 : (ownPut t).length < (store t).length
    · rw [if_pos h2]; exact ⟨.inr (.inr rfl), by omega, by omega, by omega⟩
    · rw [if_neg h2]; exact ⟨.inl rfl, by omega, by omega, by omega⟩
theorem flatePut_flate {t : List Nat} (hb : ∀ x ∈ t, x < 256) (h300 : t.length ≤ 300) : flate (flatePut t) = some (t, (flatePut t).length) := by
  obtain ⟨h, h1, _⟩ := flatePut_cases t
  have hs := store_length t
  rcases h with h | h | h <;> rw [h] at h1 ⊢
  · exact store_flate hb h300
  · exact fixed_flate hb h300 (by omega)
  · exact own_flate hb h300 (by omega)
theorem pack_bytes (t : List Nat) (h : ∀ x ∈ t, x < 256) : ∀ x ∈ flatePut t, x < 256 := by
  obtain ⟨hc, _⟩ := flatePut_cases t
  have hs : ∀ x ∈ store t, x < 256 := fun x hx => by
    unfold store at hx
    rcases List.mem_append.1 hx with hx | hx
    · exact pack_lt _ x hx
    · exact h x hx
  rcases hc with e | e | e <;> rw [e]
  · exact hs
  · exact pack_lt _
  · exact pack_lt _
end Go.Proofs.YtnadjlejlohgiaaGreatDoor.En

/- What is unpacked is no longer than three hundred bytes. Nothing of the program stands here. -/
namespace Go.Proofs.YtnadjlejlohgiaaGreatDoor.De
open Go.Proofs.YtnadjlejlohgiaaGreatDoor.Bt Go.Proofs.YtnadjlejlohgiaaGreatDoor.Cd
set_option linter.unusedVariables false
/-- Whatever it reads is as told. -/
def Yields {α : Type} (d : Dec α) (P : α → Prop) : Prop := ∀ s a r, d s = some (a, r) → P a
theorem Yields.bad {α : Type} {P : α → Prop} : Yields (bad : Dec α) P := fun s a r h => by cases h
theorem Yields.ret {α : Type} {P : α → Prop} {a : α} (h : P a) : Yields (ret a) P := fun s b r hb => by cases hb; exact h
theorem Yields.next {α β : Type} {P : α → Prop} {Q : β → Prop} {d : Dec α} {f : α → Dec β} (h : Yields d P) (k : ∀ a, P a → Yields (f a) Q) : Yields (next d f) Q := fun s b r hb => by
  unfold De.next at hb
  cases hd : d s with
  | none => rw [hd] at hb; cases hb
  | some x =>
    obtain ⟨a, t⟩ := x
    rw [hd] at hb
    exact k a (h s a t hd) t b r hb
theorem Yields.any {α : Type} (d : Dec α) : Yields d (fun _ => True) := fun _ _ _ _ => trivial
theorem Yields.then {α β : Type} {Q : β → Prop} {d : Dec α} {f : α → Dec β} (k : ∀ a, Yields (f a) Q) : Yields (De.next d f) Q := Yields.next (Yields.any d) fun a _ => k a
theorem Yields.ite {α : Type} {P : α → Prop} {c : Prop} [Decidable c] {a b : Dec α} (ha : c → Yields a P) (hb : ¬ c → Yields b P) : Yields (if c then a else b) P := by
  by_cases h : c
  · rw [if_pos h]; exact ha h
  · rw [if_neg h]; exact hb h
theorem packN_length : ∀ (n : Nat) (l : List Bool), (packN n l).length = n
  | 0, _ => rfl
  | n + 1, l => by rw [packN, List.length_cons, packN_length n]
theorem bytes_len (n : Nat) : Yields (bytes n) (fun x => x.length = n) := fun s a r h => by
  unfold bytes at h
  split at h
  · cases h; exact packN_length n _
  · cases h
abbrev Small (o : List Nat) : Prop := o.length ≤ 300
theorem stored_small (out : List Nat) : Yields (stored out) Small :=
  Yields.then fun _ => Yields.then fun n => Yields.then fun m => Yields.ite (fun h => Yields.next (bytes_len n) fun x hx => Yields.ret (by show (out ++ x).length ≤ 300; rw [List.length_append]; omega)) fun _ => Yields.bad
theorem put_small (out : List Nat) (long back : Nat) : Yields (put out long back) Small := by
  unfold De.put
  split
  · exact Yields.ite (fun h => Yields.ret h) fun _ => Yields.bad
  · exact Yields.bad
theorem again_small (dist out : List Nat) (k : Nat) : Yields (again dist out k) Small :=
  Yields.ite (fun _ => Yields.bad) fun _ => Yields.then fun _ => Yields.then fun _ => Yields.ite (fun _ => Yields.bad) fun _ => Yields.then fun _ => put_small _ _ _
theorem packed_small (lit dist : List Nat) : ∀ (f : Nat) (out : List Nat), Small out → Yields (packed lit dist f out) Small
  | 0, _, _ => Yields.bad
  | f + 1, out, h => Yields.then fun s => Yields.ite (fun _ => Yields.ret h) fun _ => Yields.ite (fun _ => Yields.ite (fun hl => packed_small lit dist f _ (by show (out ++ [s]).length ≤ 300; rw [List.length_append]; exact hl)) fun _ => Yields.bad)
      fun _ => Yields.next (again_small _ _ _) fun o ho => packed_small lit dist f o ho
theorem body_small (t : Nat) (out : List Nat) (h : Small out) : Yields (body t out) Small :=
  Yields.ite (fun _ => stored_small out) fun _ => Yields.ite (fun _ => packed_small _ _ _ _ h) fun _ => Yields.ite (fun _ => Yields.then fun p => packed_small _ _ _ _ h) fun _ => Yields.bad
theorem part_small (out : List Nat) (h : Small out) : Yields (part out) (fun p => Small p.1) :=
  Yields.then fun _ => Yields.then fun t => Yields.next (body_small t out h) fun o ho => Yields.ret ho
theorem parts_small : ∀ (f : Nat) (out : List Nat), Small out → Yields (parts f out) Small
  | 0, _, _ => Yields.bad
  | f + 1, out, h => Yields.next (part_small out h) fun p hp => Yields.ite (fun _ => Yields.ret hp) fun _ => parts_small f _ hp
theorem flate_small {t o : List Nat} {n : Nat} (h : flate t = some (o, n)) : o.length ≤ 300 := by
  unfold flate at h
  split at h
  · cases h
  · cases hw : whole (unpack t) with
    | none => rw [hw] at h; cases h
    | some x =>
      obtain ⟨a, r⟩ := x
      rw [hw] at h
      cases h
      exact (Yields.next (parts_small 6000 [] (Nat.zero_le _)) fun o ho => Yields.then fun _ => Yields.ret ho : Yields whole Small) _ _ _ hw
end Go.Proofs.YtnadjlejlohgiaaGreatDoor.De

/- What is unpacked is not long; how it begins. Nothing of the program stands here. -/
namespace Go.Proofs.YtnadjlejlohgiaaGreatDoor.En
open Go.Proofs.YtnadjlejlohgiaaGreatDoor.Bt Go.Proofs.YtnadjlejlohgiaaGreatDoor.Cd Go.Proofs.YtnadjlejlohgiaaGreatDoor.Hf Go.Proofs.YtnadjlejlohgiaaGreatDoor.Lz Go.Proofs.YtnadjlejlohgiaaGreatDoor.De
set_option linter.unusedVariables false
def Le300 (d : Dec (List Nat)) : Prop := ∀ bs o r, d bs = some (o, r) → o.length ≤ 300
theorem Le300.bad : Le300 De.bad := fun _ _ _ h => by cases h
theorem Le300.ret {o : List Nat} (h : o.length ≤ 300) : Le300 (De.ret o) := fun bs o' r e => by
  unfold De.ret at e
  cases e
  exact h
theorem Le300.next {α : Type} {d : Dec α} {k : α → Dec (List Nat)} (h : ∀ x, Le300 (k x)) : Le300 (De.next d k) := fun bs o r e => by
  obtain ⟨x, r1, _, h2⟩ := next_inv e
  exact h x _ _ _ h2
theorem Le300.next' {α : Type} {d : Dec α} {k : α → Dec (List Nat)} (h : ∀ x bs r, d bs = some (x, r) → Le300 (k x)) : Le300 (De.next d k) := fun bs o r e => by
  obtain ⟨x, r1, h1, h2⟩ := next_inv e
  exact h x _ _ h1 _ _ _ h2
theorem Le300.ite {c : Prop} [Decidable c] {a b : Dec (List Nat)} (ha : c → Le300 a) (hb : Le300 b) : Le300 (if c then a else b) := by
  split
  · rename_i h; exact ha h
  · exact hb
theorem bytes_len {n : Nat} {bs : List Bool} {x : List Nat} {r : List Bool} (h : bytes n bs = some (x, r)) : x.length = n := by
  unfold bytes at h
  split at h
  · simp only [Option.some.injEq, Prod.mk.injEq] at h
    rw [← h.1, De.packN_length]
  · cases h
theorem le_stored (out : List Nat) : Le300 (stored out) :=
  .next fun _ => .next fun n => .next fun m => .ite (fun hc => .next' fun x bs r h => .ret (by rw [List.length_append, bytes_len h]; exact hc.2)) .bad
theorem le_put (out : List Nat) (long back : Nat) : Le300 (put out long back) := by
  unfold put
  split
  · exact .ite (fun h => .ret h) .bad
  · exact .bad
theorem le_again (dist out : List Nat) (k : Nat) : Le300 (again dist out k) := by
  unfold again
  exact .ite (fun _ => .bad) (.next fun x => .next fun j => .ite (fun _ => .bad) (.next fun y => le_put _ _ _))
theorem le_packed (lit dist : List Nat) : ∀ (f : Nat) (out : List Nat), out.length ≤ 300 → Le300 (packed lit dist f out)
  | 0, _, _ => .bad
  | f + 1, out, h => .next fun s => .ite (fun _ => .ret h) (.ite (fun _ => .ite (fun hl => le_packed lit dist f _ (by rw [List.length_append, List.length_singleton]; omega)) .bad)
      (.next' fun o bs r e => le_packed lit dist f o (le_again _ _ _ _ _ _ e)))
theorem le_body (t : Nat) (out : List Nat) (h : out.length ≤ 300) : Le300 (body t out) :=
  .ite (fun _ => le_stored out) (.ite (fun _ => le_packed _ _ _ _ h) (.ite (fun _ => .next fun p => le_packed _ _ _ _ h) .bad))
theorem part_le {out : List Nat} (h : out.length ≤ 300) {bs : List Bool} {p : List Nat × Nat} {r : List Bool} (e : part out bs = some (p, r)) : p.1.length ≤ 300 := by
  obtain ⟨a, r1, _, e⟩ := next_inv e
  obtain ⟨t, r2, _, e⟩ := next_inv e
  obtain ⟨o, r3, e3, e⟩ := next_inv e
  unfold De.ret at e
  cases e
  exact le_body t out h _ _ _ e3
end Go.Proofs.YtnadjlejlohgiaaGreatDoor.En

