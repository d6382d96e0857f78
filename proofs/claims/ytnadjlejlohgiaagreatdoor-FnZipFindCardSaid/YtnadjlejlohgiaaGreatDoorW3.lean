/- Own texts joined: Hf. -/
import Derived.Test.YtnadjlejlohgiaaGreatDoorW1
/- Lengths of codes by how often symbols come: two of the least are put together, again and again; what is true of the lengths. Nothing of the program stands here. -/
namespace Go.Proofs.YtnadjlejlohgiaaGreatDoor.Hf
open Go.Proofs.YtnadjlejlohgiaaGreatDoor.Bt Go.Proofs.YtnadjlejlohgiaaGreatDoor.Cd
/-- Symbols that are put together: how often they come, the least symbol, all symbols. -/
structure It where
  c : Nat
  f : Nat
  s : List Nat
def dflt : It := ⟨0, 0, []⟩
def less (x y : It) : Bool := decide (x.c < y.c ∨ x.c = y.c ∧ x.f < y.f)
/-- The place of the least of the first j + 1. -/
def leastTo (l : List It) : Nat → Nat
  | 0 => 0
  | j + 1 => if less (l.getD (j + 1) dflt) (l.getD (leastTo l j) dflt) then j + 1 else leastTo l j
def least (l : List It) : Nat := leastTo l (l.length - 1)
theorem leastTo_le (l : List It) : ∀ j, leastTo l j ≤ j
  | 0 => Nat.le_refl _
  | j + 1 => by
    have := leastTo_le l j
    unfold leastTo; split <;> omega
theorem least_lt {l : List It} (h : 0 < l.length) : least l < l.length := by
  have := leastTo_le l (l.length - 1)
  unfold least; omega
theorem leastTo_min (l : List It) : ∀ (j i : Nat), i ≤ j → (l.getD (leastTo l j) dflt).c ≤ (l.getD i dflt).c
  | 0, i, h => by
    obtain rfl : i = 0 := by omega
    exact Nat.le_refl _
  | j + 1, i, h => by
    unfold leastTo
    by_cases hl : less (l.getD (j + 1) dflt) (l.getD (leastTo l j) dflt) = true
    · rw [if_pos hl]
      simp only [less, decide_eq_true_eq] at hl
      by_cases hi : i = j + 1
      · rw [hi]; exact Nat.le_refl _
      · have := leastTo_min l j i (by omega)
        omega
    · rw [if_neg hl]
      simp only [less, decide_eq_true_eq] at hl
      by_cases hi : i = j + 1
      · rw [hi]; omega
      · exact leastTo_min l j i (by omega)
theorem least_min (l : List It) : ∀ x ∈ l, (l.getD (least l) dflt).c ≤ x.c := by
  intro x hx
  obtain ⟨i, hi, rfl⟩ := List.mem_iff_getElem.1 hx
  have := leastTo_min l (l.length - 1) i (by omega)
  rw [List.getD_eq_getElem?_getD (i := i), List.getElem?_eq_getElem hi] at this
  exact this
/-- One more at each of some places. -/
def bump : List Nat → List Nat → List Nat
  | out, [] => out
  | out, k :: t => bump (out.set k (out.getD k 0 + 1)) t
theorem bump_length : ∀ (s out : List Nat), (bump out s).length = out.length
  | [], _ => rfl
  | k :: t, out => by rw [bump, bump_length t, List.length_set]
theorem getD_set (out : List Nat) (k v j : Nat) (h : j < out.length) : (out.set k v).getD j 0 = if k = j then v else out.getD j 0 := by
  rw [List.getD_eq_getElem?_getD, List.getD_eq_getElem?_getD, List.getElem?_set]
  by_cases e : k = j
  · subst e; rw [if_pos rfl, if_pos rfl, if_pos h]; rfl
  · rw [if_neg e, if_neg e]
theorem bump_get : ∀ (s out : List Nat) (k : Nat), k < out.length → (bump out s).getD k 0 = out.getD k 0 + s.count k
  | [], _, _, _ => by simp [bump]
  | x :: t, out, k, h => by
    rw [bump, bump_get t _ k (by rw [List.length_set]; exact h), getD_set out x _ k h, List.count_cons]
    by_cases e : x = k
    · subst e; simp; omega
    · simp [e]
theorem list_ext {a b : List Nat} (hl : a.length = b.length) (h : ∀ k, k < a.length → a.getD k 0 = b.getD k 0) : a = b := by
  apply List.ext_getElem hl
  intro i h1 h2
  have := h i h1
  rw [List.getD_eq_getElem?_getD, List.getD_eq_getElem?_getD, List.getElem?_eq_getElem h1, List.getElem?_eq_getElem h2] at this
  exact this
theorem bump_append : ∀ (s t out : List Nat), bump out (s ++ t) = bump (bump out s) t
  | [], _, _ => rfl
  | x :: s, t, out => by rw [List.cons_append, bump, bump, bump_append s t]
def one (a b : It) : It := ⟨a.c + b.c, min a.f b.f, a.s ++ b.s⟩
/-- The two least put together, as long as there are two. -/
def rounds : Nat → List Nat → List It → List Nat
  | 0, out, _ => out
  | n + 1, out, l => if l.length ≤ 1 then out else
    rounds n (bump out ((l.getD (least l) dflt).s ++ ((l.eraseIdx (least l)).getD (least (l.eraseIdx (least l))) dflt).s))
      ((l.eraseIdx (least l)).eraseIdx (least (l.eraseIdx (least l))) ++ [one (l.getD (least l) dflt) ((l.eraseIdx (least l)).getD (least (l.eraseIdx (least l))) dflt)])
def leaf (counts : List Nat) (k : Nat) : It := ⟨counts.getD k 0, k, [k]⟩
def some_ (counts : List Nat) (n : Nat) : List Nat := (List.range n).filter fun k => decide (0 < counts.getD k 0)
def leaves (counts : List Nat) : List It := (some_ counts counts.length).map (leaf counts)
def lensOf (counts : List Nat) : List Nat :=
  if (leaves counts).length = 1 then (List.replicate counts.length 0).set ((leaves counts).getD 0 dflt).f 1
  else rounds (leaves counts).length (List.replicate counts.length 0) (leaves counts)
theorem rounds_length : ∀ (n : Nat) (out : List Nat) (l : List It), (rounds n out l).length = out.length
  | 0, _, _ => rfl
  | n + 1, out, l => by
    unfold rounds; split
    · rfl
    · rw [rounds_length n, bump_length]
theorem lensOf_length (counts : List Nat) : (lensOf counts).length = counts.length := by
  unfold lensOf; split
  · simp
  · rw [rounds_length]; simp
def fib : Nat → Nat
  | 0 => 0
  | 1 => 1
  | n + 2 => fib n + fib (n + 1)
theorem fib_step (n : Nat) : fib (n + 2) = fib n + fib (n + 1) := rfl
theorem fib_le : ∀ n, fib n ≤ fib (n + 1)
  | 0 => by decide
  | n + 1 => by rw [fib_step]; omega
theorem fib_mono {a b : Nat} (h : a ≤ b) : fib a ≤ fib b := by
  induction b with
  | zero => obtain rfl : a = 0 := by omega
            exact Nat.le_refl _
  | succ b ih =>
    by_cases e : a = b + 1
    · rw [e]; exact Nat.le_refl _
    · exact Nat.le_trans (ih (by omega)) (fib_le b)
theorem fib_pos {n : Nat} (h : 1 ≤ n) : 1 ≤ fib n := fib_mono h
/-- What is known of symbols that are put together. -/
structure Tree (out : List Nat) (l : List It) (x : It) (d m : Nat) : Prop where
  ne : x.s ≠ []
  deep : ∀ k ∈ x.s, out.getD k 0 ≤ d
  sum : ∀ D, d ≤ D → (x.s.map fun k => 2 ^ (D - out.getD k 0)).sum = 2 ^ D
  big : fib (d + 2) ≤ x.c
  big2 : 1 ≤ d → fib (d + 1) ≤ m
  low : ∀ y ∈ l, m ≤ y.c
structure Good (out : List Nat) (l : List It) : Prop where
  nodup : (l.flatMap (·.s)).Nodup
  lt : ∀ k ∈ l.flatMap (·.s), k < out.length
  zero : ∀ k, k ∉ l.flatMap (·.s) → out.getD k 0 = 0
  tree : ∀ x ∈ l, ∃ d m, Tree out l x d m
theorem Good.perm {out : List Nat} {l l' : List It} (h : Good out l) (p : l.Perm l') : Good out l' := by
  have q : (l.flatMap (·.s)).Perm (l'.flatMap (·.s)) := p.flatMap_right _
  refine ⟨q.nodup_iff.1 h.nodup, fun k hk => h.lt k (q.mem_iff.2 hk), fun k hk => h.zero k (fun hh => hk (q.mem_iff.1 hh)), fun x hx => ?_⟩
  obtain ⟨d, m, t⟩ := h.tree x (p.mem_iff.2 hx)
  exact ⟨d, m, t.ne, t.deep, t.sum, t.big, t.big2, fun y hy => t.low y (p.mem_iff.2 hy)⟩
theorem count_one {l : List Nat} (h : l.Nodup) (k : Nat) : l.count k = if k ∈ l then 1 else 0 := by
  by_cases hk : k ∈ l
  · rw [if_pos hk, h.count, if_pos hk]
  · rw [if_neg hk, List.count_eq_zero.2 hk]
theorem bump_at {out s : List Nat} (h : s.Nodup) {k : Nat} (hk : k < out.length) : (bump out s).getD k 0 = out.getD k 0 + if k ∈ s then 1 else 0 := by
  rw [bump_get _ _ _ hk, count_one h]
theorem getD_over {l : List Nat} {k : Nat} (h : l.length ≤ k) : l.getD k 0 = 0 := by
  rw [List.getD_eq_getElem?_getD, List.getElem?_eq_none h]; rfl
theorem Good.join {out : List Nat} {a b : It} {r : List It} (h : Good out (a :: b :: r)) (hab : a.c ≤ b.c) (hbr : ∀ x ∈ r, b.c ≤ x.c) :
    Good (bump out (a.s ++ b.s)) (one a b :: r) := by
  have hfl : (a :: b :: r).flatMap (·.s) = (a.s ++ b.s) ++ r.flatMap (·.s) := by simp [List.flatMap_cons, List.append_assoc]
  have hfl2 : (one a b :: r).flatMap (·.s) = (a.s ++ b.s) ++ r.flatMap (·.s) := by simp [List.flatMap_cons, one]
  have hnd := h.nodup
  rw [hfl] at hnd
  have hlt := h.lt
  rw [hfl] at hlt
  have hz := h.zero
  rw [hfl] at hz
  obtain ⟨n1, n2, n3⟩ := List.nodup_append.1 hnd
  obtain ⟨m1, m2, m3⟩ := List.nodup_append.1 n1
  have hat : ∀ k, k < out.length → (bump out (a.s ++ b.s)).getD k 0 = out.getD k 0 + if k ∈ a.s ++ b.s then 1 else 0 := fun k hk => bump_at n1 hk
  refine ⟨by rw [hfl2]; exact hnd, by rw [hfl2, bump_length]; exact hlt, ?_, ?_⟩
  · rw [hfl2]
    intro k hk
    by_cases hkl : k < out.length
    · rw [hat k hkl, if_neg (fun e => hk (List.mem_append_left _ e)), hz k hk]
    · exact getD_over (by rw [bump_length]; omega)
  · obtain ⟨da, ma, ta⟩ := h.tree a (by simp)
    obtain ⟨db, mb, tb⟩ := h.tree b (by simp)
    have pa : ∀ k ∈ a.s, (bump out (a.s ++ b.s)).getD k 0 = out.getD k 0 + 1 := fun k hk => by
      rw [hat k (hlt k (by simp [hk])), if_pos (by simp [hk])]
    have pb : ∀ k ∈ b.s, (bump out (a.s ++ b.s)).getD k 0 = out.getD k 0 + 1 := fun k hk => by
      rw [hat k (hlt k (by simp [hk])), if_pos (by simp [hk])]
    have low : ∀ m, (∀ y ∈ a :: b :: r, m ≤ y.c) → ∀ y ∈ one a b :: r, m ≤ y.c := fun m hm y hy => by
      rcases List.mem_cons.1 hy with rfl | hy
      · have := hm a (by simp)
        show m ≤ a.c + b.c
        omega
      · exact hm y (by simp [hy])
    intro x hx
    rcases List.mem_cons.1 hx with rfl | hx
    · have hda : fib (da + 1) ≤ b.c := by
        by_cases e : 1 ≤ da
        · exact Nat.le_trans (ta.big2 e) (ta.low b (by simp))
        · obtain rfl : da = 0 := by omega
          have := tb.big
          have := fib_mono (show 1 ≤ db + 2 by omega)
          have e1 : fib 1 = 1 := rfl
          show fib 1 ≤ b.c
          omega
      have hdb : fib (db + 1) ≤ a.c := by
        by_cases e : 1 ≤ db
        · exact Nat.le_trans (tb.big2 e) (tb.low a (by simp))
        · obtain rfl : db = 0 := by omega
          have := ta.big
          have := fib_mono (show 1 ≤ da + 2 by omega)
          have e1 : fib 1 = 1 := rfl
          show fib 1 ≤ a.c
          omega
      have hba := ta.big
      have hbb := tb.big
      refine ⟨max da db + 1, b.c, by show a.s ++ b.s ≠ []; simp [ta.ne], ?_, ?_, ?_, ?_, ?_⟩
      · intro k hk
        rcases List.mem_append.1 (show k ∈ a.s ++ b.s from hk) with hk | hk
        · rw [pa k hk]; have := ta.deep k hk; omega
        · rw [pb k hk]; have := tb.deep k hk; omega
      · intro D hD
        obtain ⟨E, rfl⟩ : ∃ E, D = E + 1 := ⟨D - 1, by omega⟩
        have ea : a.s.map (fun k => 2 ^ (E + 1 - (bump out (a.s ++ b.s)).getD k 0)) = a.s.map (fun k => 2 ^ (E - out.getD k 0)) :=
          List.map_congr_left fun k hk => by rw [pa k hk, Nat.add_sub_add_right]
        have eb : b.s.map (fun k => 2 ^ (E + 1 - (bump out (a.s ++ b.s)).getD k 0)) = b.s.map (fun k => 2 ^ (E - out.getD k 0)) :=
          List.map_congr_left fun k hk => by rw [pb k hk, Nat.add_sub_add_right]
        show ((a.s ++ b.s).map _).sum = _
        rw [List.map_append, List.sum_append_nat, ea, eb, ta.sum E (by omega), tb.sum E (by omega), Nat.pow_succ]
        omega
      · show fib (max da db + 1 + 2) ≤ a.c + b.c
        rcases Nat.le_total da db with g | g
        · rw [Nat.max_eq_right g, show db + 1 + 2 = (db + 1) + 2 from rfl, fib_step]
          have e2 : db + 1 + 1 = db + 2 := rfl
          rw [e2]; omega
        · rw [Nat.max_eq_left g, show da + 1 + 2 = (da + 1) + 2 from rfl, fib_step]
          have e2 : da + 1 + 1 = da + 2 := rfl
          rw [e2]; omega
      · intro _
        show fib (max da db + 2) ≤ b.c
        rcases Nat.le_total da db with g | g
        · rw [Nat.max_eq_right g]; exact hbb
        · rw [Nat.max_eq_left g]; omega
      · intro y hy
        rcases List.mem_cons.1 hy with rfl | hy
        · show b.c ≤ a.c + b.c; omega
        · exact hbr y hy
    · obtain ⟨d, m, t⟩ := h.tree x (by simp [hx])
      have same : ∀ k ∈ x.s, (bump out (a.s ++ b.s)).getD k 0 = out.getD k 0 := fun k hk => by
        have hm : k ∈ r.flatMap (·.s) := List.mem_flatMap.2 ⟨x, hx, hk⟩
        rw [hat k (hlt k (List.mem_append_right _ hm)), if_neg (fun e => n3 k e k hm rfl)]; rfl
      refine ⟨d, m, t.ne, fun k hk => by rw [same k hk]; exact t.deep k hk, fun D hD => ?_, t.big, t.big2, low m t.low⟩
      rw [← t.sum D hD]
      congr 1
      exact List.map_congr_left fun k hk => by rw [same k hk]
theorem erase_cons : ∀ (l : List It) (i : Nat) (h : i < l.length), l.Perm (l[i] :: l.eraseIdx i)
  | x :: t, 0, _ => by simp
  | x :: t, i + 1, h => by
    have ih := erase_cons t i (by simpa using h)
    simp only [List.getElem_cons_succ, List.eraseIdx_cons_succ]
    exact (ih.cons x).trans (List.Perm.swap _ _ _)
theorem erase_perm {l : List It} {i : Nat} (h : i < l.length) : l.Perm (l.getD i dflt :: l.eraseIdx i) := by
  have := erase_cons l i h
  rw [List.getD_eq_getElem?_getD, List.getElem?_eq_getElem h]
  exact this
theorem two_least {l : List It} (h : 2 ≤ l.length) : ∃ a b r, a = l.getD (least l) dflt ∧ b = (l.eraseIdx (least l)).getD (least (l.eraseIdx (least l))) dflt ∧ r = (l.eraseIdx (least l)).eraseIdx (least (l.eraseIdx (least l))) ∧
    l.Perm (a :: b :: r) ∧ a.c ≤ b.c ∧ ∀ x ∈ r, b.c ≤ x.c := by
  have h1 := least_lt (l := l) (by omega)
  have p1 := erase_perm h1
  have hl : (l.eraseIdx (least l)).length = l.length - 1 := List.length_eraseIdx_of_lt h1
  have h2 := least_lt (l := l.eraseIdx (least l)) (by omega)
  have p2 := erase_perm h2
  refine ⟨_, _, _, rfl, rfl, rfl, p1.trans (p2.cons _), ?_, ?_⟩
  · exact least_min l _ (p1.mem_iff.2 (List.mem_cons_of_mem _ (p2.mem_iff.2 (by simp))))
  · intro x hx
    exact least_min _ x (p2.mem_iff.2 (by simp [hx]))
theorem rounds_good : ∀ (n : Nat) (out : List Nat) (l : List It), Good out l → l.length ≤ n → 1 ≤ l.length →
    ∃ x, Good (rounds n out l) [x] ∧ x.c = (l.map (·.c)).sum ∧ x.s.Perm (l.flatMap (·.s))
  | 0, out, l, h, hn, h1 => by omega
  | n + 1, out, l, h, hn, h1 => by
    unfold rounds
    by_cases hl : l.length ≤ 1
    · rw [if_pos hl]
      match l, h1, hl with
      | [x], _, _ => exact ⟨x, h, by simp, by simp⟩
    · rw [if_neg hl]
      obtain ⟨a, b, r, ha, hb, hr, p, hab, hbr⟩ := two_least (l := l) (by omega)
      rw [← ha, ← hb, ← hr]
      have g := ((h.perm p).join hab hbr).perm (show (one a b :: r).Perm (r ++ [one a b]) from (List.perm_append_comm (l₁ := [one a b]) (l₂ := r)))
      have hlen := p.length_eq
      simp only [List.length_cons] at hlen
      obtain ⟨x, gx, cx, sx⟩ := rounds_good n _ _ g (by simp; omega) (by simp)
      refine ⟨x, gx, ?_, ?_⟩
      · rw [cx]
        have := (p.map (·.c)).sum_nat
        rw [this]
        simp [one]; omega
      · refine sx.trans ?_
        refine ((List.perm_append_comm (l₁ := r) (l₂ := [one a b])).flatMap_right _).trans ?_
        refine List.Perm.trans ?_ (p.flatMap_right (·.s)).symm
        simp [List.flatMap_cons, one]
theorem leaves_good (counts : List Nat) : Good (List.replicate counts.length 0) (leaves counts) := by
  have hf : (leaves counts).flatMap (·.s) = some_ counts counts.length := by
    unfold leaves
    rw [List.flatMap_map]
    simp [leaf]
  have hm : ∀ k, k ∈ some_ counts counts.length ↔ k < counts.length ∧ 0 < counts.getD k 0 := fun k => by simp [some_]
  have hz : ∀ k, (List.replicate counts.length 0).getD k 0 = 0 := fun k => by
    rw [List.getD_eq_getElem?_getD, List.getElem?_replicate]; split <;> rfl
  refine ⟨by rw [hf]; exact List.nodup_range.filter _, fun k hk => ?_, fun k _ => hz k, fun x hx => ?_⟩
  · rw [hf, hm] at hk; simpa using hk.1
  · obtain ⟨k, hk, rfl⟩ := List.mem_map.1 hx
    have := (hm k).1 hk
    refine ⟨0, 0, by simp [leaf], fun j hj => by rw [hz j]; exact Nat.le_refl _, fun D _ => ?_, ?_, fun h => by omega, fun y hy => Nat.zero_le _⟩
    · simp only [leaf, List.map_cons, List.map_nil, List.sum_cons, List.sum_nil, hz]; simp
    · show fib 2 ≤ counts.getD k 0
      have e : fib 2 = 1 := rfl
      omega
theorem sum_range_some (counts : List Nat) : ((leaves counts).map (·.c)).sum = counts.sum := by
  have h1 : ∀ n, n ≤ counts.length → (((some_ counts n).map (leaf counts)).map (·.c)).sum = (counts.take n).sum := by
    intro n
    induction n with
    | zero => intro _; simp [some_]
    | succ n ih =>
      intro hn
      have ih := ih (by omega)
      have hg : counts.getD n 0 = counts[n] := by rw [List.getD_eq_getElem?_getD, List.getElem?_eq_getElem (by omega)]; rfl
      have e : some_ counts (n + 1) = some_ counts n ++ if 0 < counts.getD n 0 then [n] else [] := by
        unfold some_
        rw [List.range_succ, List.filter_append]
        congr 1
        by_cases h : 0 < counts.getD n 0 <;> simp [List.filter_cons]
      rw [e, List.map_append, List.map_append, List.sum_append_nat, ih, List.take_succ_eq_append_getElem (by omega), List.sum_append_nat]
      by_cases h : 0 < counts.getD n 0
      · rw [if_pos h]; simp only [List.map_cons, List.map_nil, List.sum_cons, List.sum_nil, leaf, hg]
      · rw [if_neg h]; simp only [List.map_nil, List.sum_nil, List.sum_cons]; omega
  have := h1 counts.length (Nat.le_refl _)
  rw [List.take_length] at this
  exact this
theorem leaf_f (counts : List Nat) (h : (leaves counts).length = 1) : ∃ k, k < counts.length ∧ leaves counts = [leaf counts k] ∧ (∀ j, 0 < counts.getD j 0 ↔ j = k) := by
  unfold leaves at h ⊢
  rw [List.length_map] at h
  obtain ⟨k, hk⟩ := List.length_eq_one_iff.1 h
  have hm : ∀ j, j ∈ some_ counts counts.length ↔ j < counts.length ∧ 0 < counts.getD j 0 := fun j => by simp [some_]
  rw [hk] at hm ⊢
  simp only [List.mem_singleton] at hm
  refine ⟨k, ((hm k).1 rfl).1, rfl, fun j => ⟨fun hj => ?_, fun e => ((hm j).1 e).2⟩⟩
  by_cases hl : j < counts.length
  · exact (hm j).2 ⟨hl, hj⟩
  · rw [getD_over (by omega)] at hj; omega
theorem sum_map_range (g : Nat → Nat) : ∀ (l : List Nat), (l.map g).sum = ((List.range l.length).map fun k => g (l.getD k 0)).sum := by
  intro l
  congr 1
  apply List.ext_getElem?
  intro i
  rw [List.getElem?_map, List.getElem?_map]
  by_cases h : i < l.length
  · simp [h]
  · simp [h]
theorem sum_over {n : Nat} {s : List Nat} (hn : s.Nodup) (hs : ∀ k ∈ s, k < n) (g : Nat → Nat) (hg : ∀ k, k < n → k ∉ s → g k = 0) : ((List.range n).map g).sum = (s.map g).sum := by
  have p : (List.range n).Perm (s ++ (List.range n).filter (fun k => decide (k ∉ s))) := by
    refine (List.perm_ext_iff_of_nodup List.nodup_range ?_).2 (fun a => ?_)
    · refine List.nodup_append.2 ⟨hn, List.nodup_range.filter _, fun a ha b hb e => ?_⟩
      subst e
      simp at hb
      exact hb.2 ha
    · simp only [List.mem_range, List.mem_append, List.mem_filter, decide_eq_true_eq]
      constructor
      · intro h
        by_cases hm : a ∈ s
        · exact .inl hm
        · exact .inr ⟨h, hm⟩
      · rintro (h | h)
        · exact hs a h
        · exact h.1
  have := (p.map g).sum_nat
  rw [this, List.map_append, List.sum_append_nat]
  have z : ∀ t : List Nat, (∀ k ∈ t, g k = 0) → (t.map g).sum = 0 := by
    intro t
    induction t with
    | nil => intro _; rfl
    | cons x t ih => intro h; rw [List.map_cons, List.sum_cons, h x (by simp), ih (fun k hk => h k (by simp [hk]))]
  rw [z ((List.range n).filter (fun k => decide (k ∉ s))) (fun k hk => by
    have := List.mem_filter.1 hk
    exact hg k (List.mem_range.1 this.1) (by simpa using this.2))]
  exact Nat.add_zero _
theorem sum_pos_le {t : List Nat} {g : Nat → Nat} {k : Nat} (hk : k ∈ t) : g k ≤ (t.map g).sum := by
  induction t with
  | nil => cases hk
  | cons x t ih =>
    rw [List.map_cons, List.sum_cons]
    rcases List.mem_cons.1 hk with rfl | h
    · omega
    · have := ih h; omega
/-- What is known of the lengths. -/
structure Lens (counts lens : List Nat) : Prop where
  len : lens.length = counts.length
  pos : ∀ k, 0 < counts.getD k 0 → 1 ≤ lens.getD k 0
  zero : ∀ k, counts.getD k 0 = 0 → lens.getD k 0 = 0
  full : (∀ x ∈ lens, x ≤ 15) → kraft lens = 32768 ∨ (used lens = 1 ∧ kraft lens = 16384)
theorem getD_le' {l : List Nat} {m : Nat} (h : ∀ k, k < l.length → l.getD k 0 ≤ m) : ∀ x ∈ l, x ≤ m := by
  intro x hx
  obtain ⟨i, hi, rfl⟩ := List.mem_iff_getElem.1 hx
  have := h i hi
  rw [List.getD_eq_getElem?_getD, List.getElem?_eq_getElem hi] at this
  exact this
theorem used_range (lens : List Nat) : used lens = ((List.range lens.length).map fun k => if 0 < lens.getD k 0 then 1 else 0).sum := by
  rw [← sum_map_range (fun x => if 0 < x then 1 else 0) lens]
  unfold used
  induction lens with
  | nil => rfl
  | cons x t ih => rw [List.map_cons, List.sum_cons, ← ih, List.filter_cons]; by_cases h : 0 < x <;> simp [h]; omega
theorem lensOf_ok (counts : List Nat) (hp : ∃ k, 0 < counts.getD k 0) : Lens counts (lensOf counts) ∧ ∃ d, fib (d + 2) ≤ max 2 counts.sum ∧ ∀ x ∈ lensOf counts, x ≤ d := by
  by_cases h1 : (leaves counts).length = 1
  · obtain ⟨k, hk, hl, hj⟩ := leaf_f counts h1
    have e : lensOf counts = (List.replicate counts.length 0).set k 1 := by
      unfold lensOf; rw [if_pos h1, hl]; rfl
    have hz : ∀ j, (List.replicate counts.length 0).getD j 0 = 0 := fun j => by
      rw [List.getD_eq_getElem?_getD, List.getElem?_replicate]; split <;> rfl
    have hg : ∀ j, j < counts.length → (lensOf counts).getD j 0 = if k = j then 1 else 0 := fun j hj => by
      rw [e, getD_set _ _ _ _ (by simpa using hj), hz j]
    have hg2 : ∀ j, (lensOf counts).getD j 0 = if k = j then 1 else 0 := fun j => by
      by_cases h : j < counts.length
      · exact hg j h
      · rw [getD_over (by rw [lensOf_length]; omega), if_neg (by omega)]
    refine ⟨⟨lensOf_length _, fun j h => ?_, fun j h => ?_, fun _ => .inr ⟨?_, ?_⟩⟩, 1, ?_, getD_le' fun j _ => ?_⟩
    · rw [hg2, if_pos ((hj j).1 h).symm]; omega
    · rw [hg2, if_neg]
      intro ee
      have := (hj j).2 ee.symm
      omega
    · rw [used_range, lensOf_length, sum_over (s := [k]) (by simp) (by simpa using hk)]
      · simp only [List.map_cons, List.map_nil, List.sum_cons, List.sum_nil, hg2, if_pos]; rfl
      · intro j hj hjs
        rw [hg2]
        have : k ≠ j := fun e => hjs (by simp [e])
        simp [this]
    · unfold kraft
      rw [sum_map_range, lensOf_length, sum_over (s := [k]) (by simp) (by simpa using hk)]
      · simp only [List.map_cons, List.map_nil, List.sum_cons, List.sum_nil, hg2, if_pos]; rfl
      · intro j hj hjs
        rw [hg2]
        have : k ≠ j := fun e => hjs (by simp [e])
        simp [this]
    · have e : fib (1 + 2) = 2 := rfl
      omega
    · rw [hg2]; split <;> omega
  · have h2 : 2 ≤ (leaves counts).length := by
      obtain ⟨k, hk⟩ := hp
      have hkl : k < counts.length := by
        rcases Nat.lt_or_ge k counts.length with h | h
        · exact h
        · rw [getD_over h] at hk; omega
      have : k ∈ some_ counts counts.length := by simp [some_]; exact ⟨hkl, by simpa [List.getD_eq_getElem?_getD] using hk⟩
      have : 0 < (leaves counts).length := by
        unfold leaves; rw [List.length_map]; exact List.length_pos_of_mem this
      omega
    have e : lensOf counts = rounds (leaves counts).length (List.replicate counts.length 0) (leaves counts) := by unfold lensOf; rw [if_neg h1]
    obtain ⟨x, g, cx, sx⟩ := rounds_good _ _ _ (leaves_good counts) (Nat.le_refl _) (by omega)
    rw [← e] at g
    have hf : (leaves counts).flatMap (·.s) = some_ counts counts.length := by
      unfold leaves
      rw [List.flatMap_map]
      simp [leaf]
    rw [hf] at sx
    have hm : ∀ k, k ∈ some_ counts counts.length ↔ k < counts.length ∧ 0 < counts.getD k 0 := fun k => by simp [some_]
    have hx : ∀ k, k ∈ x.s ↔ 0 < counts.getD k 0 := fun k => by
      rw [sx.mem_iff, hm]
      constructor
      · exact fun h => h.2
      · intro h
        refine ⟨?_, h⟩
        rcases Nat.lt_or_ge k counts.length with h' | h'
        · exact h'
        · rw [getD_over h'] at h; omega
    obtain ⟨d, m, t⟩ := g.tree x (by simp)
    have hnd : x.s.Nodup := by have := g.nodup; simpa using this
    have hlt : ∀ k ∈ x.s, k < counts.length := fun k hk => by
      have := g.lt k (by simpa using hk); rw [lensOf_length] at this; exact this
    have hz : ∀ k, k ∉ x.s → (lensOf counts).getD k 0 = 0 := fun k hk => g.zero k (by simpa using hk)
    have hl2 : 2 ≤ x.s.length := by
      rw [sx.length_eq]; unfold leaves at h2; rw [List.length_map] at h2; exact h2
    have hone : ∀ k ∈ x.s, 1 ≤ (lensOf counts).getD k 0 := by
      intro k hk
      rcases Nat.eq_zero_or_pos ((lensOf counts).getD k 0) with h0 | h0
      · exfalso
        have hs := t.sum d (Nat.le_refl _)
        obtain ⟨a, b, hab⟩ := List.append_of_mem hk
        rw [hab, List.map_append, List.sum_append_nat, List.map_cons, List.sum_cons, h0, Nat.sub_zero] at hs
        have hlen : 2 ≤ a.length + (b.length + 1) := by rw [hab] at hl2; simpa using hl2
        have z : ∀ t : List Nat, t ≠ [] → 0 < (t.map fun k => 2 ^ (d - (lensOf counts).getD k 0)).sum := by
          intro t ht
          cases t with
          | nil => exact absurd rfl ht
          | cons y t => rw [List.map_cons, List.sum_cons]; have := Nat.two_pow_pos (d - (lensOf counts).getD y 0); omega
        by_cases ha : a = []
        · by_cases hb : b = []
          · subst ha; subst hb; simp at hlen
          · have := z b hb; omega
        · have := z a ha; omega
      · exact h0
    refine ⟨⟨lensOf_length _, fun k hk => hone k ((hx k).2 hk), fun k hk => hz k (fun h => by have := (hx k).1 h; omega), fun h15 => .inl ?_⟩, d, ?_, getD_le' fun k hk => ?_⟩
    · unfold kraft
      rw [sum_map_range, lensOf_length, sum_over hnd hlt]
      · have h15' : ∀ k ∈ x.s, (lensOf counts).getD k 0 ≤ 15 := fun k _ => getD_le h15 k
        rw [← show (x.s.map fun k => 2 ^ (15 - (lensOf counts).getD k 0)).sum = 32768 from ?_]
        · congr 1
          exact List.map_congr_left fun k hk => by rw [if_neg (by have := hone k hk; omega)]
        · by_cases hd : d ≤ 15
          · exact t.sum 15 hd
          · have hs := t.sum d (Nat.le_refl _)
            have e2 : (x.s.map fun k => 2 ^ (d - (lensOf counts).getD k 0)) = (x.s.map fun k => 2 ^ (d - 15) * 2 ^ (15 - (lensOf counts).getD k 0)) :=
              List.map_congr_left fun k hk => by rw [← Nat.pow_add]; congr 1; have := h15' k hk; omega
            have e3 : ∀ (q : Nat) (f : Nat → Nat) (t : List Nat), (t.map fun k => q * f k).sum = q * (t.map f).sum := by
              intro q f t
              induction t with
              | nil => rfl
              | cons y t ih => rw [List.map_cons, List.sum_cons, ih, List.map_cons, List.sum_cons, Nat.mul_add]
            rw [e2, e3, show (2 : Nat) ^ d = 2 ^ (d - 15) * 2 ^ 15 from by rw [← Nat.pow_add]; congr 1; omega] at hs
            exact Nat.eq_of_mul_eq_mul_left (Nat.two_pow_pos _) hs
      · intro k hk hks
        rw [hz k hks]; rfl
    · rw [sum_range_some] at cx
      have := t.big
      omega
    · by_cases hks : k ∈ x.s
      · exact t.deep k hks
      · rw [hz k hks]; exact Nat.zero_le _
/-- The greatest of some lengths. -/
def topTo (l : List Nat) : Nat → Nat
  | 0 => 0
  | n + 1 => max (topTo l n) (l.getD n 0)
def top (l : List Nat) : Nat := topTo l l.length
theorem topTo_ge (l : List Nat) : ∀ (n k : Nat), k < n → l.getD k 0 ≤ topTo l n
  | 0, _, h => by omega
  | n + 1, k, h => by
    unfold topTo
    by_cases e : k = n
    · subst e; omega
    · have := topTo_ge l n k (by omega); omega
theorem topTo_le {l : List Nat} {m : Nat} (h : ∀ x ∈ l, x ≤ m) : ∀ n, topTo l n ≤ m
  | 0 => Nat.zero_le _
  | n + 1 => by
    have := topTo_le h n
    have := getD_le h n
    unfold topTo; omega
theorem le_top {l : List Nat} : ∀ x ∈ l, x ≤ top l := getD_le' fun k hk => topTo_ge l l.length k hk
def halve (c : List Nat) : List Nat := c.map fun x => (x + 1) / 2
theorem halve_length (c : List Nat) : (halve c).length = c.length := by simp [halve]
theorem halve_getD (c : List Nat) (k : Nat) : (halve c).getD k 0 = (c.getD k 0 + 1) / 2 := by
  unfold halve
  rw [List.getD_eq_getElem?_getD, List.getD_eq_getElem?_getD, List.getElem?_map]
  cases c[k]? <;> rfl
theorem halve_sum_le : ∀ c : List Nat, (halve c).sum ≤ c.sum
  | [] => Nat.le_refl _
  | x :: t => by
    have := halve_sum_le t
    unfold halve at this ⊢
    rw [List.map_cons, List.sum_cons, List.sum_cons]; omega
theorem halve_sum_lt : ∀ c : List Nat, (∃ x ∈ c, 2 ≤ x) → (halve c).sum < c.sum
  | [], h => by obtain ⟨x, hx, _⟩ := h; cases hx
  | y :: t, h => by
    have hle := halve_sum_le t
    obtain ⟨x, hx, h2⟩ := h
    rcases List.mem_cons.1 hx with rfl | hx
    · unfold halve at hle ⊢
      rw [List.map_cons, List.sum_cons, List.sum_cons]; omega
    · have := halve_sum_lt t ⟨x, hx, h2⟩
      unfold halve at this ⊢
      rw [List.map_cons, List.sum_cons, List.sum_cons]; omega
theorem sum_le_length : ∀ c : List Nat, (∀ x ∈ c, x ≤ 1) → c.sum ≤ c.length
  | [], _ => Nat.le_refl _
  | y :: t, h => by
    have := sum_le_length t (fun x hx => h x (by simp [hx]))
    have := h y (by simp)
    rw [List.sum_cons, List.length_cons]; omega
theorem top_small {c : List Nat} {most : Nat} (hm : 1 ≤ most) (hc : ∃ k, 0 < c.getD k 0) (hs : c.sum < fib (most + 3)) : top (lensOf c) ≤ most := by
  obtain ⟨_, d, hd, hx⟩ := lensOf_ok c hc
  refine topTo_le (fun x h => Nat.le_trans (hx x h) ?_) _
  rcases Nat.lt_or_ge most d with h | h
  · have a := fib_mono (show most + 3 ≤ d + 2 by omega)
    have b := fib_mono (show 4 ≤ most + 3 by omega)
    have e : fib 4 = 3 := rfl
    omega
  · exact h
theorem halve_less {c : List Nat} {most : Nat} (hm : 1 ≤ most) (hc : ∃ k, 0 < c.getD k 0) (hl : c.length < fib (most + 3)) (ht : most < top (lensOf c)) : (halve c).sum < c.sum := by
  apply halve_sum_lt
  rcases Classical.em (∃ x ∈ c, 2 ≤ x) with h | h
  · exact h
  · exfalso
    have h1 : ∀ x ∈ c, x ≤ 1 := fun x hx => by
      rcases Nat.lt_or_ge x 2 with h' | h'
      · omega
      · exact absurd ⟨x, hx, h'⟩ h
    have := sum_le_length c h1
    have := top_small hm hc (by omega)
    omega
theorem halve_pos {c : List Nat} (hc : ∃ k, 0 < c.getD k 0) : ∃ k, 0 < (halve c).getD k 0 := by
  obtain ⟨k, hk⟩ := hc
  exact ⟨k, by rw [halve_getD]; omega⟩
/-- Lengths none of which is longer than most: counts are halved as long as one is. -/
def fitN (most : Nat) : Nat → List Nat → List Nat
  | 0, c => lensOf c
  | n + 1, c => if top (lensOf c) ≤ most then lensOf c else fitN most n (halve c)
def fit (most : Nat) (c : List Nat) : List Nat := fitN most c.sum c
theorem fitN_more {most : Nat} (hm : 1 ≤ most) : ∀ (a b : Nat) (c : List Nat), (∃ k, 0 < c.getD k 0) → c.length < fib (most + 3) → c.sum ≤ a → c.sum ≤ b → fitN most a c = fitN most b c
  | 0, b, c, hc, hl, ha, hb => by
    obtain ⟨k, hk⟩ := hc
    exfalso
    have : c.getD k 0 ≤ c.sum := by
      have hkl : k < c.length := by
        rcases Nat.lt_or_ge k c.length with h | h
        · exact h
        · rw [getD_over h] at hk; omega
      have hm : c.getD k 0 ∈ c := by rw [List.getD_eq_getElem?_getD, List.getElem?_eq_getElem hkl]; exact List.getElem_mem hkl
      have := sum_pos_le (g := id) hm
      simpa using this
    omega
  | a + 1, 0, c, hc, hl, ha, hb => (fitN_more hm 0 (a + 1) c hc hl hb ha).symm
  | a + 1, b + 1, c, hc, hl, ha, hb => by
    unfold fitN
    by_cases h : top (lensOf c) ≤ most
    · rw [if_pos h, if_pos h]
    · rw [if_neg h, if_neg h]
      have := halve_less hm hc hl (by omega)
      exact fitN_more hm a b (halve c) (halve_pos hc) (by rw [halve_length]; exact hl) (by omega) (by omega)
theorem fit_step {most : Nat} {c : List Nat} (hm : 1 ≤ most) (hc : ∃ k, 0 < c.getD k 0) (hl : c.length < fib (most + 3)) : fit most c = if top (lensOf c) ≤ most then lensOf c else fit most (halve c) := by
  unfold fit
  rw [fitN_more hm c.sum (c.sum + 1) c hc hl (Nat.le_refl _) (by omega)]
  conv => lhs; unfold fitN
  by_cases h : top (lensOf c) ≤ most
  · rw [if_pos h, if_pos h]
  · rw [if_neg h, if_neg h]
    exact fitN_more hm _ _ _ (halve_pos hc) (by rw [halve_length]; exact hl) (halve_sum_le c) (Nat.le_refl _)
theorem fit_ok {most : Nat} (hm : 1 ≤ most) (h15 : most ≤ 15) : ∀ (n : Nat) (c : List Nat), c.sum ≤ n → (∃ k, 0 < c.getD k 0) → c.length < fib (most + 3) → Lens c (fit most c) ∧ (∀ x ∈ fit most c, x ≤ most) := by
  intro n
  induction n with
  | zero =>
    intro c hn hc hl
    rw [fit_step hm hc hl]
    have := top_small hm hc (show c.sum < fib (most + 3) by have := fib_pos (show 1 ≤ most + 3 by omega); omega)
    rw [if_pos this]
    exact ⟨(lensOf_ok c hc).1, fun x hx => Nat.le_trans (le_top x hx) this⟩
  | succ n ih =>
    intro c hn hc hl
    rw [fit_step hm hc hl]
    by_cases h : top (lensOf c) ≤ most
    · rw [if_pos h]
      exact ⟨(lensOf_ok c hc).1, fun x hx => Nat.le_trans (le_top x hx) h⟩
    · rw [if_neg h]
      have hless := halve_less hm hc hl (by omega)
      obtain ⟨L, hle⟩ := ih (halve c) (by omega) (halve_pos hc) (by rw [halve_length]; exact hl)
      refine ⟨⟨by rw [L.len, halve_length], fun k hk => L.pos k (by rw [halve_getD]; omega), fun k hk => L.zero k (by rw [halve_getD, hk]), L.full⟩, hle⟩
theorem fit_okLens {most : Nat} {c : List Nat} (hm : 1 ≤ most) (h15 : most ≤ 15) (hc : ∃ k, 0 < c.getD k 0) (hl : c.length < fib (most + 3)) (h300 : c.length ≤ 300) : okLens (fit most c) = true := by
  obtain ⟨L, hle⟩ := fit_ok hm h15 c.sum c (Nat.le_refl _) hc hl
  have h15' : ∀ x ∈ fit most c, x ≤ 15 := fun x hx => Nat.le_trans (hle x hx) h15
  have := L.full h15'
  simp only [okLens, Bool.and_eq_true, Bool.or_eq_true, decide_eq_true_eq, List.all_eq_true]
  exact ⟨⟨by rw [L.len]; exact h300, h15'⟩, this⟩
end Go.Proofs.YtnadjlejlohgiaaGreatDoor.Hf

