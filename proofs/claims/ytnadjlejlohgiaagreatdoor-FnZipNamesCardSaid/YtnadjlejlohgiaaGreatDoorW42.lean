/- Own texts joined: Zz, Zf, Zg2, Ly, Zs, Zw, Pt, Zb, Dz. -/
import Derived.Test.YtnadjlejlohgiaaGreatDoorW4
import Derived.Test.YtnadjlejlohgiaaGreatDoorW25
import Derived.Test.YtnadjlejlohgiaaGreatDoorW37
import Derived.Test.YtnadjlejlohgiaaGreatDoorW38
import Derived.Test.YtnadjlejlohgiaaGreatDoorW39
import Derived.Test.YtnadjlejlohgiaaGreatDoorW40
import Derived.Test.YtnadjlejlohgiaaGreatDoorW41
/- An archive read back, in plain words: files one behind the other, the list of their heads, the end. Nothing is walked here. -/
namespace Go.Proofs.YtnadjlejlohgiaaGreatDoor.Lc
open Go.RowKit Go.Proofs.YtnadjlejlohgiaaGreatDoor.Mem Go.Proofs.YtnadjlejlohgiaaGreatDoor.Nm Go.Proofs.YtnadjlejlohgiaaGreatDoor.Nb Go.Proofs.YtnadjlejlohgiaaGreatDoor.Cr Go.Proofs.YtnadjlejlohgiaaGreatDoor.Wi Go.Proofs.YtnadjlejlohgiaaGreatDoor.De
set_option linter.unusedVariables false
set_option linter.unusedSimpArgs false
def tail (s : ByteArray) (a : Nat) : ByteArray := s.extract a s.size
theorem tail_size (s : ByteArray) (a : Nat) : (tail s a).size = s.size - a := by unfold tail; rw [ByteArray.size_extract]; omega
theorem ch_tail (s : ByteArray) (a : Nat) : chars (tail s a) = (chars s).drop a := by
  unfold tail
  rw [ch_extract, List.take_of_length_le (by rw [List.length_drop, chars_length]; exact Nat.le_refl _)]
theorem tail_zero (s : ByteArray) : tail s 0 = s := chars_ext (by rw [ch_tail]; rfl)
theorem tail_tail (s : ByteArray) (a b : Nat) : tail (tail s a) b = tail s (a + b) := chars_ext (by rw [ch_tail, ch_tail, ch_tail, List.drop_drop])
/-- The place of the k-th file. -/
def pos (s : ByteArray) : Nat → Nat
  | 0 => 0
  | k + 1 => pos s k + rdLong (tail s (pos s k))
def txt (s : ByteArray) (k : Nat) : Option ByteArray := locText (tail s (pos s k))
def good (s : ByteArray) (k : Nat) : Prop := ∀ i, i < k → (txt s i).isSome = true
def fileAt (s : ByteArray) (i : Nat) : Fi := fiOf (tail s (pos s i)) ((txt s i).getD ⟨#[]⟩)
def files (s : ByteArray) (k : Nat) : List Fi := (List.range k).map (fileAt s)
def pc (s : ByteArray) (i : Nat) : ByteArray := (tail s (pos s i)).extract 0 (rdLong (tail s (pos s i)))
def pcs (s : ByteArray) (k : Nat) : List ByteArray := (List.range k).map (pc s)
theorem files_length (s : ByteArray) (k : Nat) : (files s k).length = k := by unfold files; rw [List.length_map, List.length_range]
theorem pcs_length (s : ByteArray) (k : Nat) : (pcs s k).length = k := by unfold pcs; rw [List.length_map, List.length_range]
theorem files_succ (s : ByteArray) (k : Nat) : files s (k + 1) = files s k ++ [fileAt s k] := by unfold files; rw [List.range_succ, List.map_append]; rfl
theorem pcs_succ (s : ByteArray) (k : Nat) : pcs s (k + 1) = pcs s k ++ [pc s k] := by unfold pcs; rw [List.range_succ, List.map_append]; rfl
theorem nB_m1 : nB 4 33639248 = ⟨#[80, 75, 1, 2]⟩ := by decide
theorem nB_m2 : nB 4 101010256 = ⟨#[80, 75, 5, 6]⟩ := by decide
/-- The archive of k files, all of the text. -/
def zipIs (s : ByteArray) (k : Nat) : Prop := k ≤ 6 ∧ good s k ∧ ZipOk (files s k) ∧ tail s (pos s k) = closB (pcs s k)
theorem good_head {s : ByteArray} {k i : Nat} (h : good s k) (hi : i < k) : headOk (tail s (pos s i)) := by
  have h1 := h i hi
  unfold txt locText at h1
  by_cases hk : headOk (tail s (pos s i))
  · exact hk
  · rw [if_neg hk] at h1; cases h1
theorem pos_le {s : ByteArray} : ∀ {k : Nat}, good s k → pos s k ≤ s.size
  | 0, _ => Nat.zero_le _
  | k + 1, h => by
    have h1 := pos_le (s := s) (k := k) fun i hi => h i (by omega)
    have h2 := (good_head h (Nat.lt_succ_self k)).2.2.2.2.2
    rw [tail_size] at h2
    show pos s k + rdLong _ ≤ _
    unfold rdLong
    omega
theorem pc_size {s : ByteArray} {k i : Nat} (h : good s k) (hi : i < k) : (pc s i).size = rdLong (tail s (pos s i)) := by
  have h2 := (good_head h hi).2.2.2.2.2
  unfold pc
  rw [ByteArray.size_extract]
  unfold rdLong
  omega
theorem pcs_getD {s : ByteArray} {k i : Nat} (hi : i < k) : (pcs s k).getD i ⟨#[]⟩ = pc s i := by
  unfold pcs
  rw [List.getD_eq_getElem?_getD, List.getElem?_map, List.getElem?_range hi]; rfl
theorem pcs_take {s : ByteArray} {k i : Nat} (hi : i ≤ k) : (pcs s k).take i = pcs s i := by
  unfold pcs
  rw [← List.map_take, List.take_range, Nat.min_eq_left hi]
theorem atL_pcs {s : ByteArray} {k : Nat} (h : good s k) : ∀ {i : Nat}, i ≤ k → atL (pcs s k) i = pos s i
  | 0, _ => rfl
  | i + 1, hi => by
    have ih := atL_pcs h (i := i) (by omega)
    unfold atL at ih ⊢
    rw [pcs_take (by omega)] at ih
    rw [pcs_take hi, pcs_succ, List.map_append, List.sum_append, ih, List.map_cons, List.map_nil, List.sum_cons, List.sum_nil, pc_size h (by omega)]
    rfl
theorem sub_sub (l : List Nat) {p L a n : Nat} (h : a + n ≤ L) : (((l.drop p).take L).drop a).take n = (l.drop (p + a)).take n := by
  rw [List.drop_take, List.take_take, List.drop_drop, Nat.min_eq_left (by omega)]
theorem numL_sub (l : List Nat) {p L a n : Nat} (h : a + n ≤ L) : numL ((l.drop p).take L) a n = numL l (p + a) n := by unfold numL; rw [sub_sub l h]
theorem numL_drop (l : List Nat) (p a n : Nat) : numL (l.drop p) a n = numL l (p + a) n := by unfold numL; rw [List.drop_drop]
theorem ch_pc (s : ByteArray) (i : Nat) : chars (pc s i) = ((chars s).drop (pos s i)).take (rdLong (tail s (pos s i))) := by
  unfold pc
  rw [ch_extract, ch_tail]; rfl
theorem numAtB_tail (s : ByteArray) (p a n : Nat) : numAtB (tail s p) a n = numAtB s (p + a) n := by rw [numAtB_eq, numAtB_eq, ch_tail, numL_drop]
/-- A head of the list, as bytes. -/
def cH (l : List Nat) (p : Nat) : List Nat := (numB 4 33639248 ++ numB 2 20) ++ ((l.drop (p + 4)).take 26 ++ ((numB 10 0 ++ numB 4 p) ++ (l.drop (p + 30)).take (numL l (p + 26) 2)))
theorem ch_cHead {s : ByteArray} {k i : Nat} (h : good s k) (hi : i < k) : chars (cHead (pc s i) (pos s i)) = cH (chars s) (pos s i) := by
  have h30 : 30 + numAtB s (pos s i + 26) 2 ≤ rdLong (tail s (pos s i)) := by unfold rdLong; rw [numAtB_tail]; omega
  have e1 : numAtB (pc s i) 26 2 = numAtB s (pos s i + 26) 2 := by rw [numAtB_eq, numAtB_eq, ch_pc, numL_sub _ (by omega)]
  unfold cHead cH
  rw [e1]
  simp only [ch_append, chars_nB, ch_extract, ch_pc, ← nB_m1, List.append_assoc]
  rw [sub_sub _ (by omega), sub_sub _ (by omega), numAtB_eq, show 30 + numL (chars s) (pos s i + 26) 2 - 30 = numL (chars s) (pos s i + 26) 2 from by omega]
/-- The head in the list at H is that of the file at p. -/
def fineL (l : List Nat) (H p : Nat) : Prop :=
  H + 30 ≤ l.length ∧ H + (46 + numL l (H + 28) 2) ≤ l.length ∧ p + 30 + numL l (H + 28) 2 ≤ l.length ∧ (l.drop (H + 6)).take 26 = (l.drop (p + 4)).take 26 ∧ (l.drop (H + 46)).take (numL l (H + 28) 2) = (l.drop (p + 30)).take (numL l (H + 28) 2) ∧
    (l.drop H).take 6 = numB 4 33639248 ++ numB 2 20 ∧ (l.drop (H + 32)).take 14 = numB 10 0 ++ numB 4 p
theorem cut4 (l : List Nat) (H n : Nat) : (l.drop H).take (46 + n) = (l.drop H).take 6 ++ ((l.drop (H + 6)).take 26 ++ ((l.drop (H + 32)).take 14 ++ (l.drop (H + 46)).take n)) := by
  rw [show 46 + n = 6 + (26 + (14 + n)) from by omega, List.take_add, List.take_add, List.take_add, List.drop_drop, List.drop_drop, List.drop_drop]
theorem name_same {l : List Nat} {H p : Nat} (h : (l.drop (H + 6)).take 26 = (l.drop (p + 4)).take 26) : numL l (H + 28) 2 = numL l (p + 26) 2 := by
  have e : numOf ((((l.drop (H + 6)).take 26).drop 22).take 2) = numOf ((((l.drop (p + 4)).take 26).drop 22).take 2) := by rw [h]
  rw [sub_sub _ (by omega), sub_sub _ (by omega)] at e
  exact e
theorem fine_to {l : List Nat} {H p : Nat} (h : fineL l H p) : (l.drop H).take (46 + numL l (p + 26) 2) = cH l p ∧ numL l (H + 28) 2 = numL l (p + 26) 2 := by
  obtain ⟨_, _, _, h4, h5, h6, h7⟩ := h
  have e := name_same h4
  refine ⟨?_, e⟩
  rw [cut4, h6, h4, h7, ← e, h5, e]; rfl
theorem fine_of {l : List Nat} {H p : Nat} (hH : H + (46 + numL l (p + 26) 2) ≤ l.length) (hp : p + 30 + numL l (p + 26) 2 ≤ l.length) (h : (l.drop H).take (46 + numL l (p + 26) 2) = cH l p) : fineL l H p := by
  rw [cut4] at h
  unfold cH at h
  have z1 : ((l.drop H).take 6).length = (numB 4 33639248 ++ numB 2 20).length := by rw [List.length_take, List.length_drop, List.length_append, numB_length, numB_length]; omega
  obtain ⟨a1, h⟩ := List.append_inj h z1
  have z2 : ((l.drop (H + 6)).take 26).length = ((l.drop (p + 4)).take 26).length := by rw [List.length_take, List.length_drop, List.length_take, List.length_drop]; omega
  obtain ⟨a2, h⟩ := List.append_inj h z2
  have z3 : ((l.drop (H + 32)).take 14).length = (numB 10 0 ++ numB 4 p).length := by rw [List.length_take, List.length_drop, List.length_append, numB_length, numB_length]; omega
  obtain ⟨a3, a4⟩ := List.append_inj h z3
  have e := name_same a2
  exact ⟨by omega, by omega, by omega, a2, by rw [e]; exact a4, a1, a3⟩
/-- The heads' bytes. -/
def hL (s : ByteArray) (k i : Nat) : Nat := (hdsL (pcs s k) i).size
theorem ch_hds {s : ByteArray} {k i : Nat} (h : good s k) (hi : i < k) : chars (hdsL (pcs s k) (i + 1)) = chars (hdsL (pcs s k) i) ++ cH (chars s) (pos s i) := by
  show chars (hdsL (pcs s k) i ++ _) = _
  rw [ch_append, pcs_getD hi, atL_pcs h (by omega), ch_cHead h hi]
theorem zfits {s : ByteArray} {k i : Nat} (h : good s k) (hi : i < k) : pos s i + 30 + numL (chars s) (pos s i + 26) 2 ≤ (chars s).length := by
  have h2 := (good_head h hi).2.2.2.2.2
  have h3 := pos_le (k := i) fun j hj => h j (by omega)
  have h4 := (good_head h hi).1
  rw [tail_size] at h2 h4
  rw [numAtB_tail, numAtB_eq] at h2
  rw [chars_length]
  omega
theorem cH_length {s : ByteArray} {k i : Nat} (h : good s k) (hi : i < k) : (cH (chars s) (pos s i)).length = 46 + numL (chars s) (pos s i + 26) 2 := by
  have h1 := zfits h hi
  unfold cH
  simp only [List.length_append, numB_length, List.length_take, List.length_drop]
  omega
theorem hL_succ {s : ByteArray} {k i : Nat} (h : good s k) (hi : i < k) : hL s k (i + 1) = hL s k i + (46 + numL (chars s) (pos s i + 26) 2) := by
  unfold hL
  rw [← chars_length, ch_hds h hi, List.length_append, chars_length, cH_length h hi]
theorem hds_pre {s : ByteArray} {k : Nat} (h : good s k) {i : Nat} : ∀ {j : Nat}, i ≤ j → j ≤ k → ∃ r, chars (hdsL (pcs s k) j) = chars (hdsL (pcs s k) i) ++ r := by
  intro j hij hj
  induction j with
  | zero => obtain rfl : i = 0 := by omega
            exact ⟨[], by rw [List.append_nil]⟩
  | succ j ih =>
    by_cases e : i = j + 1
    · subst e; exact ⟨[], by rw [List.append_nil]⟩
    · obtain ⟨r, hr⟩ := ih (by omega) (by omega)
      exact ⟨r ++ cH (chars s) (pos s j), by rw [ch_hds h (by omega), hr, List.append_assoc]⟩
/-- The reference's look at the list: each head is its file's, and then the end. -/
theorem heads_to {s : ByteArray} {k : Nat} (h : good s k) (hf : ∀ i, i < k → fineL (chars s) (pos s k + hL s k i) (pos s i)) (he : tail s (pos s k + hL s k k) = endB k (hL s k k) (pos s k)) : tail s (pos s k) = closB (pcs s k) := by
  have P : ∀ i, i ≤ k → ((chars s).drop (pos s k)).take (hL s k i) = chars (hdsL (pcs s k) i) := by
    intro i
    induction i with
    | zero => intro _; rfl
    | succ i ih =>
      intro hi
      have f := (fine_to (hf i (by omega))).1
      rw [hL_succ h (by omega), List.take_add, List.drop_drop, ih (by omega), f, ch_hds h (by omega)]
  apply chars_ext
  rw [closB_is, ch_append, ch_tail, pcs_length, atL_pcs h (Nat.le_refl _), ← P k (Nat.le_refl _)]
  have e := congrArg chars he
  rw [ch_tail] at e
  have : (hdsL (pcs s k) k).size = hL s k k := rfl
  rw [this, ← e, ← List.drop_drop, List.take_append_drop]
theorem heads_of {s : ByteArray} {k : Nat} (h : good s k) (hc : tail s (pos s k) = closB (pcs s k)) : (∀ i, i < k → fineL (chars s) (pos s k + hL s k i) (pos s i)) ∧ tail s (pos s k + hL s k k) = endB k (hL s k k) (pos s k) := by
  have e := congrArg chars hc
  rw [closB_is, ch_append, ch_tail, pcs_length, atL_pcs h (Nat.le_refl _)] at e
  have hn := congrArg List.length e
  rw [List.length_append, List.length_drop, chars_length, chars_length, chars_length, endB_size] at hn
  have hk : (hdsL (pcs s k) k).size = hL s k k := rfl
  constructor
  · intro i hi
    obtain ⟨r, hr⟩ := hds_pre h (i := i + 1) (show i + 1 ≤ k from hi) (Nat.le_refl _)
    have hrl := congrArg List.length hr
    rw [List.length_append, chars_length, chars_length, hk, show (hdsL (pcs s k) (i + 1)).size = hL s k (i + 1) from rfl, hL_succ h hi] at hrl
    refine fine_of ?_ (zfits h hi) ?_
    · rw [chars_length]; omega
    · rw [ch_hds h hi] at hr
      rw [hr, List.append_assoc, List.append_assoc] at e
      rw [← List.drop_drop, e, show hL s k i = (chars (hdsL (pcs s k) i)).length from (chars_length _).symm, List.drop_left, ← cH_length h hi, List.take_left]
  · apply chars_ext
    rw [ch_tail, ← List.drop_drop, e, hk, show hL s k k = (chars (hdsL (pcs s k) k)).length from (chars_length _).symm, List.drop_left]
/-- What an archive's end tells: how many files there are. -/
theorem many_of {s : ByteArray} {k : Nat} (hk : k ≤ 6) (h : good s k) (hc : tail s (pos s k) = closB (pcs s k)) : 12 ≤ s.size ∧ numAtB s (s.size - 12) 2 = k := by
  have h1 := (heads_of h hc).2
  have hn := congrArg ByteArray.size h1
  rw [tail_size, endB_size] at hn
  refine ⟨by omega, ?_⟩
  have e : s.size - 12 = pos s k + hL s k k + 10 := by omega
  rw [e, ← numAtB_tail, h1, numAtB_eq]
  have e2 : chars (endB k (hL s k k) (pos s k)) = (numB 4 101010256 ++ (numB 4 0 ++ numB 2 k)) ++ (numB 2 k ++ (numB 4 (hL s k k) ++ (numB 4 (pos s k) ++ numB 2 0))) := by
    unfold endB
    simp only [ch_append, chars_nB, ← nB_m2, List.append_assoc]
  unfold numL
  rw [e2, List.drop_left' (by simp only [List.length_append, numB_length]), List.take_left' (numB_length 2 k), numOf_numB 2 k (by omega)]
/-- Behind an archive's files there is no other. -/
theorem none_of {s : ByteArray} {k : Nat} (h : good s k) (hc : tail s (pos s k) = closB (pcs s k)) : txt s k = none := by
  have hh : ¬ headOk (tail s (pos s k)) := by
    intro hk
    have h0 := hk.2.1
    rw [hc, closB_is, numAtB_eq, ch_append, pcs_length, numL, List.drop_zero] at h0
    rcases Nat.eq_zero_or_pos k with rfl | hp
    · have e : chars (hdsL (pcs s 0) 0) = [] := rfl
      rw [e, List.nil_append] at h0
      have e2 : ∀ a b, (chars (endB 0 a b)).take 4 = numB 4 101010256 := by
        intro a b
        unfold endB
        simp only [ch_append, chars_nB, ← nB_m2, List.append_assoc]
        rw [List.take_left' (numB_length 4 _)]
      rw [e2, numOf_numB 4 _ (by decide)] at h0
      omega
    · obtain ⟨r, hr⟩ := hds_pre h (i := 1) hp (Nat.le_refl _)
      rw [hr, ch_hds h hp] at h0
      have e0 : chars (hdsL (pcs s k) 0) = [] := rfl
      rw [e0, List.nil_append, cH] at h0
      simp only [List.append_assoc] at h0
      rw [List.take_left' (numB_length 4 _), numOf_numB 4 _ (by decide)] at h0
      omega
  unfold txt locText
  rw [if_neg hh]
theorem zipIs_none {s : ByteArray} {k : Nat} (h : zipIs s k) : txt s k = none := none_of h.2.1 h.2.2.2
theorem zipIs_one {s : ByteArray} {j k : Nat} (h : zipIs s j) (hg : good s k) (hk : k = 6 ∨ txt s k = none) : j = k := by
  have h1 := zipIs_none h
  rcases Nat.lt_trichotomy j k with hl | he | hl
  · have := hg j hl
    rw [h1] at this; cases this
  · exact he
  · have h6 := h.1
    rcases hk with rfl | hk
    · omega
    · have := h.2.1 k hl
      rw [hk] at this; cases this
open Classical in
/-- What is read of an archive. -/
noncomputable def zipGot (s : ByteArray) : List Fi × Bool := if h : ∃ k, zipIs s k then (files s (Classical.choose h), true) else ([], false)
theorem zipIs_inj {s : ByteArray} {j k : Nat} (h : zipIs s j) (h2 : zipIs s k) : j = k := zipIs_one h h2.2.1 (.inr (zipIs_none h2))
theorem zipGot_yes {s : ByteArray} {k : Nat} (h : zipIs s k) : zipGot s = (files s k, true) := by
  have hx : ∃ k, zipIs s k := ⟨k, h⟩
  unfold zipGot
  rw [dif_pos hx, zipIs_inj (Classical.choose_spec hx) h]
theorem zipGot_no {s : ByteArray} (h : ¬ ∃ k, zipIs s k) : zipGot s = ([], false) := by unfold zipGot; rw [dif_neg h]
/-- The program's way: as many files as can be read, six at most. -/
theorem zip_impl {s : ByteArray} {k : Nat} (h6 : k ≤ 6) (hg : good s k) (hk : k = 6 ∨ txt s k = none) : (ZipOk (files s k) ∧ tail s (pos s k) = closB (pcs s k) → zipGot s = (files s k, true)) ∧ (¬ (ZipOk (files s k) ∧ tail s (pos s k) = closB (pcs s k)) → zipGot s = ([], false)) :=
  ⟨fun h => zipGot_yes ⟨h6, hg, h.1, h.2⟩, fun h => zipGot_no fun ⟨j, hj⟩ => by
    obtain rfl := zipIs_one hj hg hk
    exact h ⟨hj.2.2.1, hj.2.2.2⟩⟩
/-- The reference's way: as many files as the end tells. -/
theorem zip_spec_yes {s : ByteArray} {k : Nat} (h6 : k ≤ 6) (hg : good s k) (hz : ZipOk (files s k)) (hf : ∀ i, i < k → fineL (chars s) (pos s k + hL s k i) (pos s i)) (he : tail s (pos s k + hL s k k) = endB k (hL s k k) (pos s k)) : zipGot s = (files s k, true) :=
  zipGot_yes ⟨h6, hg, hz, heads_to hg hf he⟩
theorem zip_spec_no {s : ByteArray} {k : Nat} (hm : 12 ≤ s.size → numAtB s (s.size - 12) 2 = k) (h : k ≤ 6 → good s k → ZipOk (files s k) → (∀ i, i < k → fineL (chars s) (pos s k + hL s k i) (pos s i)) → tail s (pos s k + hL s k k) = endB k (hL s k k) (pos s k) → False) : zipGot s = ([], false) := by
  refine zipGot_no fun ⟨j, hj⟩ => ?_
  have h1 := many_of hj.1 hj.2.1 hj.2.2.2
  have e := hm h1.1
  rw [h1.2] at e
  subst e
  have h2 := heads_of hj.2.1 hj.2.2.2
  exact h hj.1 hj.2.1 hj.2.2.1 h2.1 h2.2
end Go.Proofs.YtnadjlejlohgiaaGreatDoor.Lc

/- The look at a head in the list, of texts and of their bytes. Rows of files and of texts side by side. Nothing is walked here. -/
namespace Go.Proofs.YtnadjlejlohgiaaGreatDoor.Lc
open Go.RowKit Go.Proofs.YtnadjlejlohgiaaGreatDoor.Mem Go.Proofs.YtnadjlejlohgiaaGreatDoor.Nm Go.Proofs.YtnadjlejlohgiaaGreatDoor.Nb Go.Proofs.YtnadjlejlohgiaaGreatDoor.Cr Go.Proofs.YtnadjlejlohgiaaGreatDoor.Wi Go.Proofs.YtnadjlejlohgiaaGreatDoor.De
set_option linter.unusedVariables false
set_option linter.unusedSimpArgs false
theorem bytes_iff {a b : ByteArray} : a = b ↔ chars a = chars b := ⟨congrArg chars, chars_ext⟩
theorem fineB_iff (s : ByteArray) (H p : Nat) : fineB s H p ↔ fineL (chars s) H p := by
  unfold fineB fineL
  simp only [bytes_iff, ch_extract, ch_append, chars_nB, numAtB_eq, chars_length]
  generalize numL (chars s) (H + 28) 2 = nm
  rw [show H + 32 - (H + 6) = 26 from by omega, show p + 30 - (p + 4) = 26 from by omega, show H + (46 + nm) - (H + 46) = nm from by omega, show p + 30 + nm - (p + 30) = nm from by omega, show H + 6 - H = 6 from by omega, show H + 46 - (H + 32) = 14 from by omega]
end Go.Proofs.YtnadjlejlohgiaaGreatDoor.Lc

/- The reference's reading of an archive, over whatever is read at each place: ZipGet of the specification. -/
namespace Go.Proofs.YtnadjlejlohgiaaGreatDoor.Lc
open Go.RowKit Go.Proofs.YtnadjlejlohgiaaGreatDoor.Mem Go.Proofs.YtnadjlejlohgiaaGreatDoor.Nm Go.Proofs.YtnadjlejlohgiaaGreatDoor.Nb Go.Proofs.YtnadjlejlohgiaaGreatDoor.Cr
set_option linter.unusedVariables false
set_option linter.unusedSimpArgs false
theorem shead_calls (s : ByteArray) (H p : Nat) (hs : s.size ≤ 1048576) (hH : H ≤ 10000000) (hp : p ≤ 10000000) (w : World) :
    Calls Tryz.prog 33 #[.string s, .int .i64 H, .int .i64 p] w (fun e w' => ∃ (n : Nat) (b : Bool), e = .returned (.tuple #[.int .i64 n, .bool b]) ∧ On w w' ∧ (b = true → fineB s H p ∧ n = 46 + numAtB s (H + 28) 2) ∧ (b = false → ¬ fineB s H p)) := by
  by_cases h : H + 30 ≤ s.size
  · by_cases hf : H + (46 + numAtB s (H + 28) 2) ≤ s.size ∧ p + 30 + numAtB s (H + 28) 2 ≤ s.size
    · refine (shead_fit s H p hs hH hp h hf.1 hf.2 w).mono ?_
      rintro e w' ⟨rfl, O⟩
      exact ⟨_, _, rfl, O, fun hb => ⟨of_decide_eq_true hb, rfl⟩, fun hb => of_decide_eq_false hb⟩
    · refine (shead_unfit s H p hs hH hp h hf w).mono ?_
      rintro e w' ⟨rfl, O⟩
      exact ⟨0, false, rfl, O, fun hb => (by cases hb), fun _ q => hf ⟨q.2.1, q.2.2.1⟩⟩
  · refine (shead_none s H p hs hH hp h w).mono ?_
    rintro e w' ⟨rfl, O⟩
    exact ⟨0, false, rfl, O, fun hb => (by cases hb), fun _ q => h q.1⟩
/-- What ZipGet answers. -/
def ZOut (w : World) (s : ByteArray) (mz : Int) (pos : Nat → Nat) (hp : Nat → Nat → Nat) (get : Nat → Option (Fi × Nat)) (fs : Nat → List Fi) (Z : Nat → Prop) (e : Ending) (w' : World) : Prop := ∃ (v : Value) (b : Bool), e = .returned (.tuple #[v, .bool b]) ∧ On w w' ∧
    ((b = true ∧ ∃ k : Nat, mz = k ∧ k ≤ 6 ∧ (∀ i, i < k → (get i).isSome = true) ∧ Z k ∧ (∀ i, i < k → fineB s (hp k i) (pos i)) ∧ s.extract (hp k k) s.size = endB k (hp k k - pos k) (pos k) ∧ Own w.heap.size w' 42 8 v k (fcells (fs k))) ∨
     (b = false ∧ Own w.heap.size w' 42 8 v 0 [] ∧ ∀ k : Nat, mz = k → k ≤ 6 → (∀ i, i < k → (get i).isSome = true) → Z k → (∀ i, i < k → fineB s (hp k i) (pos i)) → s.extract (hp k k) s.size = endB k (hp k k - pos k) (pos k) → False))
theorem ZOut.of {w : World} {s : ByteArray} {mz : Int} {pos : Nat → Nat} {hp : Nat → Nat → Nat} {get : Nat → Option (Fi × Nat)} {fs : Nat → List Fi} {Z : Nat → Prop} {e : Ending} {w' : World} (h : ∃ (v : Value) (b : Bool), e = .returned (.tuple #[v, .bool b]) ∧ On w w' ∧
    ((b = true ∧ ∃ k : Nat, mz = k ∧ k ≤ 6 ∧ (∀ i, i < k → (get i).isSome = true) ∧ Z k ∧ (∀ i, i < k → fineB s (hp k i) (pos i)) ∧ s.extract (hp k k) s.size = endB k (hp k k - pos k) (pos k) ∧ Own w.heap.size w' 42 8 v k (fcells (fs k))) ∨
     (b = false ∧ Own w.heap.size w' 42 8 v 0 [] ∧ ∀ k : Nat, mz = k → k ≤ 6 → (∀ i, i < k → (get i).isSome = true) → Z k → (∀ i, i < k → fineB s (hp k i) (pos i)) → s.extract (hp k k) s.size = endB k (hp k k - pos k) (pos k) → False))) : ZOut w s mz pos hp get fs Z e w' := h
set_option maxRecDepth 100000 in
set_option maxHeartbeats 8000000 in
theorem szipget_gen (s : ByteArray) (hs : s.size ≤ 1048576) (mz : Int) (hmz : -1 ≤ mz ∧ mz ≤ 65535) (pos : Nat → Nat) (hp : Nat → Nat → Nat) (get : Nat → Option (Fi × Nat)) (fs : Nat → List Fi) (Z : Nat → Prop) (R : SRead s pos get fs) (w : World)
    (hp0 : ∀ k, hp k 0 = pos k) (hps : ∀ k i, hp k (i + 1) = hp k i + (46 + numAtB s (hp k i + 28) 2))
    (HM : ∀ w', Calls Tryz.prog 29 #[.string s, .int .i64 ((s.size : Int) - 12), .int .i64 2] w' (fun e w'' => e = .returned (.int .i64 mz) ∧ w'' = w'))
    (HI : ∀ w', Calls Tryz.prog 30 #[.int .i64 mz, .int .i64 0, .int .i64 6] w' (fun e w'' => e = .returned (.bool (decide (0 ≤ mz ∧ mz ≤ 6))) ∧ w'' = w'))
    (HRs : ∀ k f n w', get k = some (f, n) → On w w' → Calls Tryz.prog 34 #[.string (s.extract (pos k) s.size)] w' (Tells w' (.tuple #[.agg #[.string f.nm, .int .i64 f.y, .int .i64 f.m, .int .i64 f.d, .int .i64 f.h, .int .i64 f.mi, .int .i64 f.s, .string f.tx], .int .i64 (n : Nat), .bool true])))
    (HG : ∀ (many : Nat) w', many ≤ 6 → On w w' → Calls Tryz.prog 31 #[.string s, .int .i64 many] w' (L7Out w' many pos get fs))
    (HZ : ∀ k g cap w', On w w' → (∀ i, i < k → (get i).isSome = true) → FiAt w' g 0 (fs k) → Calls Tryz.prog 32 #[.slice (some ⟨g, 0, none⟩) k cap] w' (fun e w'' => ∃ b : Bool, e = .returned (.bool b) ∧ On w' w'' ∧ (b = true ↔ Z k))) :
    Calls Tryz.prog 9 #[.string s] w (ZOut w s mz pos hp get fs Z) := by
  have HMh := Lib.hid HM
  have HIh := Lib.hid HI
  have HRh := Lib.hid HRs
  have HGh := Lib.hid HG
  have HZh := Lib.hid HZ
  clear HM HI HRs HG HZ
  have e0 : IntKind.i64.wrap ((s.size : Int) - 12) = (s.size : Int) - 12 := by rw [IntKind.wrap_i64]; omega
  by_cases hin : 0 ≤ mz ∧ mz ≤ 6
  rotate_left
  · have hd : decide (0 ≤ mz ∧ mz ≤ 6) = false := decide_eq_false hin
    rw [hd] at HIh
    go_enter Tryz.func9, Tryz.ntmps9
    go_wp2_with fail
    refine (HMh.out w).mono ?_
    rintro e w' ⟨rfl, hw⟩
    rw [hw]
    clear hw
    go_wp2_with fail
    refine (HIh.out w).mono ?_
    rintro e w' ⟨rfl, hw⟩
    rw [hw]
    clear hw
    go_wp2_with fail
    go_ret2
    exact ZOut.of ⟨_, false, rfl, (On.refl w).alloc _, .inr ⟨rfl, Own.new w 42 8 #[] 0 (Nat.zero_le _) rfl (by have := (On.refl w).size; omega), fun k hk h6 _ _ _ _ => by omega⟩⟩
  · have hd : decide (0 ≤ mz ∧ mz ≤ 6) = true := decide_eq_true hin
    rw [hd] at HIh
    obtain ⟨many, rfl⟩ : ∃ many : Nat, mz = many := ⟨mz.toNat, by omega⟩
    have hm6 : many ≤ 6 := by omega
    clear hin hd hmz
    go_enter Tryz.func9, Tryz.ntmps9
    go_wp2_with fail
    refine (HMh.out w).mono ?_
    rintro e w' ⟨rfl, hw⟩
    rw [hw]
    clear hw
    go_wp2_with fail
    refine (HIh.out w).mono ?_
    rintro e w' ⟨rfl, hw⟩
    rw [hw]
    clear hw
    go_wp2_with fail
    refine (HGh.out many w hm6 (On.refl w)).mono ?_
    intro e w1 hout
    obtain ⟨k, v, b, hk, hg, hb, rfl, O1, hown⟩ := (show ∃ (k : Nat) (v : Value) (b : Bool), k ≤ many ∧ (∀ i, i < k → (get i).isSome = true) ∧ ((b = true ∧ k = many) ∨ (b = false ∧ get k = none ∧ k < many)) ∧ e = .returned (.tuple #[v, .int .i64 (pos k : Nat), .bool b]) ∧ On w w1 ∧ Own w.heap.size w1 42 8 v k (fcells (fs k)) from hout)
    rcases hb with ⟨rfl, rfl⟩ | ⟨rfl, hgk, hlt⟩
    rotate_left
    · go_wp2_with fail
      go_ret2
      exact ZOut.of ⟨_, false, rfl, O1.alloc _, .inr ⟨rfl, Own.new w1 42 8 #[] 0 (Nat.zero_le _) rfl (by have := O1.size; omega), fun k' hk' h6 hall _ _ _ => (by
        have hkk : k' = many := by omega
        have h9 := hall k (by omega)
        rw [hgk] at h9
        cases h9)⟩⟩
    · obtain ⟨g1, c1, rfl, hb1, hrow1, hn1, hm1, hl1⟩ := hown.parts
      have HZk := Lib.hid (HZh.out k g1 c1 w1 O1 hg (FiAt.row hrow1))
      go_wp2_with fail
      refine HZk.out.mono ?_
      rintro e w2 ⟨bz, rfl, O2, hbz⟩
      cases bz with
      | false =>
        have hnz : ¬ Z k := fun q => by have := hbz.2 q; cases this
        have Oc := O1.call O2
        go_wp2_with fail
        go_ret2
        exact ZOut.of ⟨_, false, rfl, Oc.alloc _, .inr ⟨rfl, Own.new w2 42 8 #[] 0 (Nat.zero_le _) rfl (by have := Oc.size; omega), fun k' hk' h6 hall hz _ _ => (by
          have hkk : k' = k := by omega
          rw [hkk] at hz
          exact hnz hz)⟩⟩
      | true =>
        have hzk : Z k := hbz.1 rfl
        have Oc := O1.call O2
        have hown2 := hown.on O2
        clear HZk hbz O1 O2 hown hrow1
        have H0 := Lib.hid (hp0 k)
        have P0 := Lib.hid R.p0
        have hpk := R.le k hg
        have HPS := Lib.hid (hps k)
        have hmono : ∀ i, pos k ≤ hp k i := by
          intro i
          induction i with
          | zero => rw [hp0]; exact Nat.le_refl _
          | succ i ih => rw [hps]; omega
        clear hp0 hps
        go_wp2_with fail
        go_loopw [8, 9, 10, 11, 12, 13, 14, 15] (fun hv ov iv _ _ _ _ _ wr => ∃ i : Nat, i ≤ k ∧ iv = .int .i64 i ∧ hv = .int .i64 (hp k i : Nat) ∧ ov = .int .i64 (pos i : Nat) ∧ (∀ j, j < i → fineB s (hp k j) (pos j)) ∧ hp k i ≤ s.size ∧ On w2 wr) (fun _ _ iv _ _ _ _ _ _ => k - (intOf iv).toNat)
        case atStart => exact ⟨0, by omega, rfl, by rw [H0.out], by rw [P0.out]; rfl, fun j hj => by omega, by rw [H0.out]; exact hpk, On.refl w2⟩
        case round =>
          obtain ⟨i, hik, rfl, rfl, rfl, hfi, hhz, O⟩ := hrel
          have hpi := R.le i (fun j hj => hg j (by omega))
          by_cases hlt : i < k
          · have hlt' : (i : Int) < k := by omega
            have HH := Lib.hid (shead_calls s (hp k i) (pos i) hs (by omega) (by omega) wr)
            go_wp2_with fail
            refine HH.out.mono ?_
            rintro e w3 ⟨n, b, rfl, O3, hb1, hb2⟩
            cases b with
            | false =>
              have hnf := hb2 rfl
              have Od := (Oc.call O).call O3
              go_wp2_with fail
              go_ret2
              exact ZOut.of ⟨_, false, rfl, Od.alloc _, .inr ⟨rfl, Own.new w3 42 8 #[] 0 (Nat.zero_le _) rfl (by have := Od.size; omega), fun k' hk' h6 hall hz hfine _ => (by
                have hkk : k' = k := by omega
                subst hkk
                exact hnf (hfine i hlt))⟩⟩
            | true =>
              obtain ⟨hfn, hnn⟩ := hb1 rfl
              subst hnn
              obtain ⟨⟨⟨nm, y, m, d, h, mi, se, tx⟩, n⟩, hr⟩ := Option.isSome_iff_exists.1 (hg i hlt)
              have Od := (Oc.call O).call O3
              have HL := Lib.hid (HRh.out i _ n w3 hr Od)
              have st := (R.step i _ n hr).2
              have hle2 := R.le (i + 1) (fun j hj => hg j (by omega))
              rw [st] at hle2
              obtain ⟨_, hsz, _⟩ := id hfn
              have HF := Lib.hid hfn
              have S2 := Lib.hid st
              have hH := Lib.hid (HPS.out i)
              clear hb1 hb2 hr st hfn
              generalize numAtB s (hp k i + 28) 2 = nz at *
              have e1 : IntKind.i64.wrap ((hp k i : Int) + ((46 + nz : Nat) : Int)) = (hp k i : Int) + ((46 + nz : Nat) : Int) := by rw [IntKind.wrap_i64]; omega
              have e2 : IntKind.i64.wrap ((pos i : Int) + (n : Int)) = (pos i : Int) + (n : Int) := by rw [IntKind.wrap_i64]; omega
              have e3 : IntKind.i64.wrap ((hp k i : Int) + (46 + (nz : Int))) = (hp k i : Int) + (46 + (nz : Int)) := by rw [IntKind.wrap_i64]; omega
              have v1 : (0 : Int) ≤ (pos i : Int) := by omega
              have v2 : (pos i : Int) ≤ (s.size : Int) := by omega
              go_wp2_with fail
              refine HL.out.mono ?_
              rintro e w4 ⟨rfl, O4⟩
              go_wp2_with fail
              exact ⟨⟨i + 1, by omega, by go_num, by rw [hH.out]; simp, by rw [S2.out]; simp, fun j hj => (by
                by_cases e : j < i
                · exact hfi j e
                · have hji : j = i := by omega
                  rw [hji]; exact HF.out), by rw [hH.out]; exact hsz, ((O.call O3).call O4).alloc _⟩, by simp [intOf]; omega⟩
          · skip
            obtain rfl : k = i := by omega
            have hlt' : ¬ (k : Int) < k := by omega
            have hmn := hmono k
            have v2 : (hp k k : Int) ≤ (s.size : Int) := by omega
            have Od := Oc.call O
            have hwz := Od.size
            have FY := Lib.hid (show s.extract (hp k k) s.size = endB k (hp k k - pos k) (pos k) → ∀ we, On wr we → ZOut w s (k : Int) pos hp get fs Z (.returned (.tuple #[.slice (some ⟨g1, 0, none⟩) k c1, .bool true])) we from fun hq we Oe => ZOut.of ⟨_, true, rfl, Od.call Oe, .inl ⟨rfl, k, rfl, hm6, hg, hzk, fun j hj => hfi j (by omega), hq, (hown2.on O).on Oe⟩⟩)
            have FN := Lib.hid (show ¬ s.extract (hp k k) s.size = endB k (hp k k - pos k) (pos k) → ∀ we, On wr we → ZOut w s (k : Int) pos hp get fs Z (.returned (.tuple #[.slice (some ⟨we.heap.size, 0, none⟩) 0 0, .bool false])) (we.alloc (.cells #[] 42)) from fun hq we Oe => ZOut.of ⟨_, false, rfl, (Od.call Oe).alloc _, .inr ⟨rfl, Own.new we 42 8 #[] 0 (Nat.zero_le _) rfl (by have := (Od.call Oe).size; omega), fun k' hk' h6 hall hz hfine hend => (by
              have hkk : k' = k := by omega
              rw [hkk] at hend
              exact hq hend)⟩⟩)
            have HE := Lib.hid (fun w => send_calls k (hp k k - pos k) (pos k) (by omega) (by omega) (by omega) w)
            have v3 : IntKind.i64.wrap ((hp k k - pos k : Nat) : Int) = ((hp k k - pos k : Nat) : Int) := by rw [IntKind.wrap_i64]; omega
            have v4 : (hp k k : Int) - (pos k : Int) = ((hp k k - pos k : Nat) : Int) := by omega
            have v1 : (0 : Int) ≤ (hp k k : Int) := by omega
            clear hmono HPS H0 P0 hfi hown2 hb1 hn1 hm1 hl1 hg hzk R HRh HGh HZh HMh HIh hpi hhz Oc Od O
            generalize endB k (hp k k - pos k) (pos k) = eb at *
            generalize hp k k - pos k = hl at *
            generalize hp k k = H at *
            generalize pos k = p at *
            by_cases hq : s.extract H s.size = eb
            · have hq2 := str_eq hq
              have FZ := Lib.hid (FY.out hq)
              clear hq FY FN
              go_upto_region 18 with fail
              refine wp_region_held_drew (S := fun W => On wr W) (by kernel_rfl) (On.refl _).drew (fun hHeld => ?_)
              refine Tk.tk 0 ?_ rfl (.inl ⟨by rfl, ?_⟩) ?_
              rotate_left
              · intro w hSw; go_simp; first | done | with_reducible rfl
              try simp (maxSteps := 2000000) only [Act.put, Tk.s6]
              refine Tk.tk 1 ?_ rfl (.inl ⟨by rfl, ?_⟩) ?_
              rotate_left
              · intro w hSw; go_simp; first | done | with_reducible rfl
              try simp (maxSteps := 2000000) only [Act.put, Tk.s6]
              refine Tk.tk 2 ?_ rfl (.inl ⟨by rfl, ?_⟩) ?_
              rotate_left
              · intro w hSw; go_simp; first | done | with_reducible rfl
              try simp (maxSteps := 2000000) only [Act.put, Tk.s6]
              refine Tk.tk 3 ?_ rfl (.inl ⟨by rfl, ?_⟩) ?_
              rotate_left
              · intro w hSw; go_simp; first | done | with_reducible rfl
              try simp (maxSteps := 2000000) only [Act.put, Tk.s6]
              refine Tk.tk 4 ?_ rfl (.inl ⟨by rfl, ?_⟩) ?_
              rotate_left
              · intro w hSw; go_simp; first | done | with_reducible rfl
              try simp (maxSteps := 2000000) only [Act.put, Tk.s6]
              refine Tk.tk 5 ?_ rfl (.inl ⟨by rfl, ?_⟩) ?_
              rotate_left
              · intro w hSw; go_simp; first | done | with_reducible rfl
              try simp (maxSteps := 2000000) only [Act.put, Tk.s6]
              refine Tk.tk 6 ?_ rfl (.inl ⟨by rfl, ?_⟩) ?_
              rotate_left
              · intro w hSw; go_simp; first | done | with_reducible rfl
              try simp (maxSteps := 2000000) only [Act.put, Tk.s6]
              refine Tk.tk 7 ?_ rfl (.inl ⟨by rfl, ?_⟩) ?_
              rotate_left
              · intro w hSw; go_simp; first | done | with_reducible rfl
              try simp (maxSteps := 2000000) only [Act.put, Tk.s6]
              have O0 := (On.refl wr).drew
              generalize wr.drew = wd at *
              refine Tk.rd 8 rfl fun K hK => ?_
              go_simp
              refine (HE.out _).mono ?_
              rintro e we ⟨rfl, Oe⟩
              have O1 := O0.call Oe
              refine hK.out _ _ O1 (fun hHeld => ?_)
              clear hK K
              try simp (maxSteps := 2000000) only [Act.put, Tk.s6]
              refine Tk.tk 9 ?_ rfl (.inl ⟨by rfl, ?_⟩) ?_
              rotate_left
              · intro w hSw; go_simp; first | done | with_reducible rfl
              try simp (maxSteps := 2000000) only [Act.put, Tk.s6]
              refine wpAnyH_done (by kernel_rfl) ?_ _
              go_wp2_with fail
              go_ret2
              exact FZ.out _ O1
            · have hq2 := str_ne hq
              have FZ := Lib.hid (FN.out hq)
              clear hq FY FN
              go_upto_region 18 with fail
              refine wp_region_held_drew (S := fun W => On wr W) (by kernel_rfl) (On.refl _).drew (fun hHeld => ?_)
              refine Tk.tk 0 ?_ rfl (.inl ⟨by rfl, ?_⟩) ?_
              rotate_left
              · intro w hSw; go_simp; first | done | with_reducible rfl
              try simp (maxSteps := 2000000) only [Act.put, Tk.s6]
              refine Tk.tk 1 ?_ rfl (.inl ⟨by rfl, ?_⟩) ?_
              rotate_left
              · intro w hSw; go_simp; first | done | with_reducible rfl
              try simp (maxSteps := 2000000) only [Act.put, Tk.s6]
              refine Tk.tk 2 ?_ rfl (.inl ⟨by rfl, ?_⟩) ?_
              rotate_left
              · intro w hSw; go_simp; first | done | with_reducible rfl
              try simp (maxSteps := 2000000) only [Act.put, Tk.s6]
              refine Tk.tk 3 ?_ rfl (.inl ⟨by rfl, ?_⟩) ?_
              rotate_left
              · intro w hSw; go_simp; first | done | with_reducible rfl
              try simp (maxSteps := 2000000) only [Act.put, Tk.s6]
              refine Tk.tk 4 ?_ rfl (.inl ⟨by rfl, ?_⟩) ?_
              rotate_left
              · intro w hSw; go_simp; first | done | with_reducible rfl
              try simp (maxSteps := 2000000) only [Act.put, Tk.s6]
              refine Tk.tk 5 ?_ rfl (.inl ⟨by rfl, ?_⟩) ?_
              rotate_left
              · intro w hSw; go_simp; first | done | with_reducible rfl
              try simp (maxSteps := 2000000) only [Act.put, Tk.s6]
              refine Tk.tk 6 ?_ rfl (.inl ⟨by rfl, ?_⟩) ?_
              rotate_left
              · intro w hSw; go_simp; first | done | with_reducible rfl
              try simp (maxSteps := 2000000) only [Act.put, Tk.s6]
              refine Tk.tk 7 ?_ rfl (.inl ⟨by rfl, ?_⟩) ?_
              rotate_left
              · intro w hSw; go_simp; first | done | with_reducible rfl
              try simp (maxSteps := 2000000) only [Act.put, Tk.s6]
              have O0 := (On.refl wr).drew
              generalize wr.drew = wd at *
              refine Tk.rd 8 rfl fun K hK => ?_
              go_simp
              refine (HE.out _).mono ?_
              rintro e we ⟨rfl, Oe⟩
              have O1 := O0.call Oe
              refine hK.out _ _ O1 (fun hHeld => ?_)
              clear hK K
              try simp (maxSteps := 2000000) only [Act.put, Tk.s6]
              refine Tk.tk 9 ?_ rfl (.inl ⟨by rfl, ?_⟩) ?_
              rotate_left
              · intro w hSw; go_simp; first | done | with_reducible rfl
              try simp (maxSteps := 2000000) only [Act.put, Tk.s6]
              refine wpAnyH_done (by kernel_rfl) ?_ _
              go_wp2_with fail
              go_ret2
              exact FZ.out _ O1
end Go.Proofs.YtnadjlejlohgiaaGreatDoor.Lc

/- A file of an archive read back: the specification's LocalGet. -/
namespace Go.Proofs.YtnadjlejlohgiaaGreatDoor.Lc
open Go.RowKit Go.Proofs.YtnadjlejlohgiaaGreatDoor.Mem Go.Proofs.YtnadjlejlohgiaaGreatDoor.Nm Go.Proofs.YtnadjlejlohgiaaGreatDoor.Nb Go.Proofs.YtnadjlejlohgiaaGreatDoor.Cr Go.Proofs.YtnadjlejlohgiaaGreatDoor.Wi
set_option linter.unusedVariables false
set_option linter.unusedSimpArgs false
theorem sread_calls (s : ByteArray) (hs : s.size ≤ 1048576) (w : World) :
    Calls Tryz.prog 34 #[.string s] w (fun e w' => ∃ nm y m d h mi se tx n b, e = .returned (.tuple #[.agg #[.string nm, .int .i64 y, .int .i64 m, .int .i64 d, .int .i64 h, .int .i64 mi, .int .i64 se, .string tx], .int .i64 n, .bool b]) ∧ On w w' ∧ RdIs s ⟨nm, y, m, d, h, mi, se, tx⟩ n b) := by
  by_cases hh : headOk s
  · exact (sread_yes s hs hh w).mono fun e w' ⟨f, n, b, h1, h2, h3⟩ => ⟨f.nm, f.y, f.m, f.d, f.h, f.mi, f.s, f.tx, n, b, h1, h2, h3⟩
  · refine (sread_no s hs hh w).mono ?_
    rintro e w' ⟨rfl, O⟩
    exact ⟨_, _, _, _, _, _, _, _, 0, false, rfl, O, ⟨by rw [no_head hh]; rfl, fun o ho => by rw [no_head hh] at ho; cases ho⟩⟩
end Go.Proofs.YtnadjlejlohgiaaGreatDoor.Lc

/- What a file's bytes tell: its head, its name, its packed text. Nothing is walked here. -/
namespace Go.Proofs.YtnadjlejlohgiaaGreatDoor.Lc
open Go.RowKit Go.Proofs.YtnadjlejlohgiaaGreatDoor.Mem Go.Proofs.YtnadjlejlohgiaaGreatDoor.Nm Go.Proofs.YtnadjlejlohgiaaGreatDoor.Nb Go.Proofs.YtnadjlejlohgiaaGreatDoor.Cr Go.Proofs.YtnadjlejlohgiaaGreatDoor.Wi Go.Proofs.YtnadjlejlohgiaaGreatDoor.De
set_option linter.unusedVariables false
set_option linter.unusedSimpArgs false
theorem localB_is (nm : ByteArray) (y m d h mi s : Int) (tx : ByteArray) : localB nm y m d h mi s tx = (headB nm y m d h mi s tx (howOf tx).1 (howOf tx).2.size ++ nm) ++ (howOf tx).2 := by
  unfold localB
  rw [headB_fields]
theorem headB_size (nm : ByteArray) (y m d h mi s : Int) (tx : ByteArray) (mt pk : Nat) : (headB nm y m d h mi s tx mt pk).size = 30 := by
  rw [headB_fields, ByteArray.size_append, nB_size, fieldsB_size]
theorem howOf_le (tx : ByteArray) : (howOf tx).2.size ≤ tx.size := by
  unfold howOf
  split
  · exact Nat.le_of_lt (by assumption)
  · exact Nat.le_refl _
theorem howOf_mt (tx : ByteArray) : (howOf tx).1 < 65536 := by unfold howOf; split <;> simp
theorem localB_size (nm : ByteArray) (y m d h mi s : Int) (tx : ByteArray) : (localB nm y m d h mi s tx).size = 30 + nm.size + (howOf tx).2.size := by
  rw [localB_is, ByteArray.size_append, ByteArray.size_append, headB_size]
section
variable {nm tx : ByteArray} {y m d h mi s : Int} (r : ByteArray)
theorem ch_local : chars (localB nm y m d h mi s tx ++ r) = chars (headB nm y m d h mi s tx (howOf tx).1 (howOf tx).2.size) ++ (chars nm ++ (chars (howOf tx).2 ++ chars r)) := by
  rw [localB_is]
  simp only [ch_append, List.append_assoc]
theorem local_head : (localB nm y m d h mi s tx ++ r).extract 0 30 = headB nm y m d h mi s tx (howOf tx).1 (howOf tx).2.size := by
  apply chars_ext
  rw [ch_extract, ch_local, List.drop_zero, List.take_left' (by rw [chars_length, headB_size])]
/-- The head's fields. -/
theorem local_fields (ok : okp y m d h mi s) (hn : nm.size < 65536) (ht : tx.size < 4294967296) :
    let t := localB nm y m d h mi s tx ++ r
    numAtB t 0 4 = 67324752 ∧ numAtB t 4 2 = 20 ∧ numAtB t 6 2 = 0 ∧ numAtB t 8 2 = (howOf tx).1 ∧ numAtB t 10 4 = (stampN y m d h mi s).toNat ∧ numAtB t 14 4 = crcOf tx ∧ numAtB t 18 4 = (howOf tx).2.size ∧ numAtB t 22 4 = tx.size ∧ numAtB t 26 2 = nm.size ∧ numAtB t 28 2 = 0 := by
  intro t
  have hs := stampN_bd ok
  have hl := howOf_le tx
  have h1 := (headB_iff (t := headB nm y m d h mi s tx (howOf tx).1 (howOf tx).2.size) (headB_size ..) (howOf_mt tx) (by omega) (by omega) ht hn).1 rfl
  rw [← local_head r] at h1
  simp only [numAtB_head t (a := 0) (n := 4) (by omega), numAtB_head t (a := 4) (n := 2) (by omega), numAtB_head t (a := 6) (n := 2) (by omega), numAtB_head t (a := 8) (n := 2) (by omega), numAtB_head t (a := 10) (n := 4) (by omega), numAtB_head t (a := 14) (n := 4) (by omega), numAtB_head t (a := 18) (n := 4) (by omega), numAtB_head t (a := 22) (n := 4) (by omega), numAtB_head t (a := 26) (n := 2) (by omega), numAtB_head t (a := 28) (n := 2) (by omega), t] at h1 ⊢
  exact h1
theorem local_name : (localB nm y m d h mi s tx ++ r).extract 30 (30 + nm.size) = nm := by
  apply chars_ext
  rw [ch_extract, ch_local, List.drop_left' (by rw [chars_length, headB_size]), show 30 + nm.size - 30 = (chars nm).length from by rw [chars_length]; omega, List.take_left]
theorem local_text : (localB nm y m d h mi s tx ++ r).extract (30 + nm.size) (30 + nm.size + (howOf tx).2.size) = (howOf tx).2 := by
  apply chars_ext
  rw [ch_extract, ch_local, ← List.append_assoc, List.drop_left' (by rw [List.length_append, chars_length, chars_length, headB_size]), show 30 + nm.size + (howOf tx).2.size - (30 + nm.size) = (chars (howOf tx).2).length from by rw [chars_length]; omega, List.take_left]
end
end Go.Proofs.YtnadjlejlohgiaaGreatDoor.Lc

/- An archive as the reference writes it, and how it is read back. Nothing is walked here. -/
namespace Go.Proofs.YtnadjlejlohgiaaGreatDoor.Lc
open Go.RowKit Go.Proofs.YtnadjlejlohgiaaGreatDoor.Mem Go.Proofs.YtnadjlejlohgiaaGreatDoor.Nm Go.Proofs.YtnadjlejlohgiaaGreatDoor.Nb Go.Proofs.YtnadjlejlohgiaaGreatDoor.Cr Go.Proofs.YtnadjlejlohgiaaGreatDoor.Wi Go.Proofs.YtnadjlejlohgiaaGreatDoor.De Go.Proofs.YtnadjlejlohgiaaGreatDoor.En
set_option linter.unusedVariables false
set_option linter.unusedSimpArgs false
def lB (f : Fi) : ByteArray := localB f.nm f.y f.m f.d f.h f.mi f.s f.tx
def fB (f : Fi) : ByteArray := fieldsB f.nm f.y f.m f.d f.h f.mi f.s f.tx (howOf f.tx).1 (howOf f.tx).2.size
/-- Files one behind the other. -/
def outB (L : List Fi) : Nat → ByteArray
  | 0 => ⟨#[]⟩
  | k + 1 => outB L k ++ lB (L.getD k zeroFi)
def centB (f : Fi) (p : Nat) : ByteArray := ((((((((nB 4 33639248 ++ nB 2 20) ++ fB f) ++ nB 2 0) ++ nB 2 0) ++ nB 2 0) ++ nB 4 0) ++ nB 4 p) ++ f.nm)
def hdB (L : List Fi) : Nat → ByteArray
  | 0 => ⟨#[]⟩
  | k + 1 => hdB L k ++ centB (L.getD k zeroFi) (outB L k).size
def sEnd (n hl p : Nat) : ByteArray := (((((((nB 4 101010256 ++ nB 2 0) ++ nB 2 0) ++ nB 2 n) ++ nB 2 n) ++ nB 4 hl) ++ nB 4 p) ++ nB 2 0)
/-- An archive. -/
def putB (L : List Fi) : ByteArray := (outB L L.length ++ hdB L L.length) ++ sEnd L.length (hdB L L.length).size (outB L L.length).size
theorem nB_40 : nB 4 0 = nB 2 0 ++ nB 2 0 := by decide
theorem nB_100 : nB 10 0 = ((nB 2 0 ++ nB 2 0) ++ nB 2 0) ++ nB 4 0 := by decide
theorem sEnd_is (n hl p : Nat) : sEnd n hl p = endB n hl p := by
  unfold sEnd endB
  rw [← nB_m2, nB_40]
  simp only [ByteArray.append_assoc]
theorem how_text {s : ByteArray} (h : s.size ≤ 300) : textOf (howOf s).1 (chars (howOf s).2) = some (chars s) := by
  unfold howOf
  split
  · have e : chars (flateB s) = En.flatePut (chars s) := by
      unfold flateB
      rw [if_pos h]
      exact chars_strB (pack_bytes _ (chars_lt s))
    show textOf 8 (chars (flateB s)) = _
    unfold textOf
    rw [if_neg (by decide), if_pos rfl, e, flatePut_flate (chars_lt s) (by rw [chars_length]; exact h)]
    show (if _ = _ then _ else _) = _
    rw [if_pos rfl]
  · rfl
theorem get_of_num {y m d h mi s : Int} (ok : okp y m d h mi s) : gy (stampN y m d h mi s).toNat = y ∧ gm (stampN y m d h mi s).toNat = m ∧ gd (stampN y m d h mi s).toNat = d ∧ gh (stampN y m d h mi s).toNat = h ∧ gi (stampN y m d h mi s).toNat = mi ∧ gs (stampN y m d h mi s).toNat = s := by
  have hb := stampN_bd ok
  obtain ⟨⟨a1, a2⟩, ⟨b1, b2⟩, ⟨c1, c2⟩, ⟨d1, d2⟩, ⟨e1, e2⟩, ⟨f1, f2⟩, g⟩ := ok
  have c3 := dd_le y m
  rw [Int.tmod_eq_emod_of_nonneg f1] at g
  have hn : (((stampN y m d h mi s).toNat : Nat) : Int) = (y - 1980) * 33554432 + m * 2097152 + d * 65536 + h * 2048 + mi * 32 + s / 2 := by rw [Int.toNat_of_nonneg hb.1]; rfl
  generalize (stampN y m d h mi s).toNat = n at *
  unfold gy gm gd gh gi gs
  omega
/-- A file that was written is read back, whatever stands behind it. -/
theorem local_back {f : Fi} (hk : enOk f = true) (r : ByteArray) : locText (lB f ++ r) = some f.tx ∧ rdLong (lB f ++ r) = (lB f).size ∧ fiOf (lB f ++ r) f.tx = f := by
  obtain ⟨nm, y, m, d, h, mi, s, tx⟩ := f
  have hk' : entryOk nm y m d h mi s tx = true := hk
  obtain ⟨h43, ok, h300⟩ := entryOk_parts hk'
  obtain ⟨f0, f1, f2, f3, f4, f5, f6, f7, f8, f9⟩ := local_fields (nm := nm) (tx := tx) (y := y) (m := m) (d := d) (h := h) (mi := mi) (s := s) r ok (by omega) (by omega)
  have hn := local_name (nm := nm) (tx := tx) (y := y) (m := m) (d := d) (h := h) (mi := mi) (s := s) r
  have ht := local_text (nm := nm) (tx := tx) (y := y) (m := m) (d := d) (h := h) (mi := mi) (s := s) r
  have hs := localB_size nm y m d h mi s tx
  show locText (localB nm y m d h mi s tx ++ r) = some tx ∧ rdLong (localB nm y m d h mi s tx ++ r) = (localB nm y m d h mi s tx).size ∧ fiOf (localB nm y m d h mi s tx ++ r) tx = ⟨nm, y, m, d, h, mi, s, tx⟩
  have hz : (localB nm y m d h mi s tx ++ r).size = (localB nm y m d h mi s tx).size + r.size := ByteArray.size_append
  generalize localB nm y m d h mi s tx ++ r = t at *
  have eN : rdName t = nm := by unfold rdName; rw [f8, hn]
  have eP : rdPk t = (howOf tx).2 := by unfold rdPk; rw [f8, f6, ht]
  have eM : rdNum t = (stampN y m d h mi s).toNat := f4
  obtain ⟨g1, g2, g3, g4, g5, g6⟩ := get_of_num ok
  have hT : textOk t tx := ⟨f5, f7, by rw [eN, eM, g1, g2, g3, g4, g5, g6]; exact hk'⟩
  have hh : headOk t := ⟨by omega, f0, f1, f2, f9, by rw [f8, f6]; omega⟩
  refine ⟨?_, ?_, ?_⟩
  · unfold locText
    rw [if_pos hh, f3, eP, how_text h300]
    show (if textOk t (strB (chars tx)) then _ else _) = _
    rw [strB_chars, if_pos hT]
  · unfold rdLong; rw [f8, f6, hs]
  · unfold fiOf
    rw [eN, eM, g1, g2, g3, g4, g5, g6]
theorem outB_ch (L : List Fi) {i : Nat} : ∀ {j : Nat}, i ≤ j → ∃ r, outB L j = outB L i ++ r
  | 0, h => by obtain rfl : i = 0 := by omega
               exact ⟨⟨#[]⟩, chars_ext (by rw [ch_append]; exact (List.append_nil _).symm)⟩
  | j + 1, h => by
    by_cases e : i = j + 1
    · subst e; exact ⟨⟨#[]⟩, chars_ext (by rw [ch_append]; exact (List.append_nil _).symm)⟩
    · obtain ⟨r, hr⟩ := outB_ch L (i := i) (j := j) (by omega)
      exact ⟨r ++ lB (L.getD j zeroFi), by show outB L j ++ _ = _; rw [hr, ByteArray.append_assoc]⟩
theorem tail_app (a b : ByteArray) : tail (a ++ b) a.size = b := chars_ext (by rw [ch_tail, ch_append, ← chars_length, List.drop_left])
theorem put_at {L : List Fi} {i : Nat} (hi : i < L.length) : ∃ r, tail (putB L) (outB L i).size = lB (L.getD i zeroFi) ++ r := by
  obtain ⟨r, hr⟩ := outB_ch L (i := i + 1) (j := L.length) hi
  refine ⟨(r ++ hdB L L.length) ++ sEnd L.length (hdB L L.length).size (outB L L.length).size, ?_⟩
  have e : putB L = outB L i ++ (lB (L.getD i zeroFi) ++ ((r ++ hdB L L.length) ++ sEnd L.length (hdB L L.length).size (outB L L.length).size)) := by
    unfold putB
    rw [hr]
    show (((outB L i ++ lB (L.getD i zeroFi)) ++ r) ++ _) ++ _ = _
    simp only [ByteArray.append_assoc]
  rw [e, tail_app]
theorem put_pos {L : List Fi} (hL : ∀ f, f ∈ L → enOk f = true) : ∀ {i : Nat}, i ≤ L.length → pos (putB L) i = (outB L i).size
  | 0, _ => rfl
  | i + 1, hi => by
    have ih := put_pos hL (i := i) (by omega)
    obtain ⟨r, hr⟩ := put_at (L := L) (i := i) hi
    have hm : L.getD i zeroFi ∈ L := by rw [List.getD_eq_getElem?_getD, List.getElem?_eq_getElem hi]; exact List.getElem_mem hi
    show pos (putB L) i + rdLong (tail (putB L) (pos (putB L) i)) = (outB L i ++ lB (L.getD i zeroFi)).size
    rw [ih, hr, (local_back (hL _ hm) r).2.1, ByteArray.size_append]
theorem put_file {L : List Fi} (hL : ∀ f, f ∈ L → enOk f = true) {i : Nat} (hi : i < L.length) : (txt (putB L) i).isSome = true ∧ fileAt (putB L) i = L.getD i zeroFi ∧ pc (putB L) i = lB (L.getD i zeroFi) := by
  obtain ⟨r, hr⟩ := put_at (L := L) (i := i) hi
  have hm : L.getD i zeroFi ∈ L := by rw [List.getD_eq_getElem?_getD, List.getElem?_eq_getElem hi]; exact List.getElem_mem hi
  obtain ⟨b1, b2, b3⟩ := local_back (hL _ hm) r
  have hp := put_pos hL (i := i) (Nat.le_of_lt hi)
  have ht : txt (putB L) i = some (L.getD i zeroFi).tx := by unfold txt; rw [hp, hr, b1]
  refine ⟨by rw [ht]; rfl, ?_, ?_⟩
  · unfold fileAt
    rw [ht, hp, hr]
    exact b3
  · unfold pc
    rw [hp, hr, b2]
    apply chars_ext
    rw [ch_extract, ch_append, List.drop_zero, Nat.sub_zero, ← chars_length, List.take_left]
theorem put_good {L : List Fi} (hL : ∀ f, f ∈ L → enOk f = true) : good (putB L) L.length := fun i hi => (put_file hL hi).1
theorem cHead_local {f : Fi} (hk : enOk f = true) (p : Nat) : cHead (lB f) p = centB f p := by
  obtain ⟨nm, y, m, d, h, mi, s, tx⟩ := f
  have hk' : entryOk nm y m d h mi s tx = true := hk
  obtain ⟨h43, ok, h300⟩ := entryOk_parts hk'
  have f8 := (local_fields (nm := nm) (tx := tx) (y := y) (m := m) (d := d) (h := h) (mi := mi) (s := s) ⟨#[]⟩ ok (by omega) (by omega)).2.2.2.2.2.2.2.2.1
  have hn := local_name (nm := nm) (tx := tx) (y := y) (m := m) (d := d) (h := h) (mi := mi) (s := s) ⟨#[]⟩
  have e0 : localB nm y m d h mi s tx ++ ⟨#[]⟩ = localB nm y m d h mi s tx := chars_ext (by rw [ch_append]; exact List.append_nil _)
  rw [e0] at f8 hn
  have e4 : (localB nm y m d h mi s tx).extract 4 30 = fieldsB nm y m d h mi s tx (howOf tx).1 (howOf tx).2.size := by
    apply chars_ext
    rw [ch_extract]
    unfold localB
    rw [ch_append, ch_append, ch_append, List.append_assoc, List.append_assoc, List.drop_left' (by rw [chars_length, nB_size])]
    rw [List.take_left' (by rw [chars_length, fieldsB_size])]
  show cHead (localB nm y m d h mi s tx) p = _
  unfold cHead centB fB
  rw [f8, hn, e4, nB_100, ← nB_m1]
  simp only [ByteArray.append_assoc]
theorem put_hds {L : List Fi} (hL : ∀ f, f ∈ L → enOk f = true) : ∀ {i : Nat}, i ≤ L.length → hdsL (pcs (putB L) L.length) i = hdB L i
  | 0, _ => rfl
  | i + 1, hi => by
    have ih := put_hds hL (i := i) (by omega)
    have hm : L.getD i zeroFi ∈ L := by rw [List.getD_eq_getElem?_getD, List.getElem?_eq_getElem hi]; exact List.getElem_mem hi
    show hdsL _ i ++ cHead ((pcs (putB L) L.length).getD i ⟨#[]⟩) (atL (pcs (putB L) L.length) i) = hdB L i ++ centB (L.getD i zeroFi) (outB L i).size
    rw [ih, pcs_getD hi, atL_pcs (put_good hL) (by omega), put_pos hL (by omega), (put_file hL hi).2.2, cHead_local (hL _ hm)]
theorem put_tail {L : List Fi} (hL : ∀ f, f ∈ L → enOk f = true) : tail (putB L) (pos (putB L) L.length) = closB (pcs (putB L) L.length) := by
  rw [closB_is, pcs_length, atL_pcs (put_good hL) (Nat.le_refl _), put_hds hL (Nat.le_refl _), put_pos hL (Nat.le_refl _)]
  unfold putB
  rw [ByteArray.append_assoc, tail_app, sEnd_is]
end Go.Proofs.YtnadjlejlohgiaaGreatDoor.Lc

/- An archive as it is written, the specification's. (Printed by tools/gen_pt.py.) -/
namespace Go.Proofs.YtnadjlejlohgiaaGreatDoor.Lc
open Go.RowKit Go.Proofs.YtnadjlejlohgiaaGreatDoor.Mem Go.Proofs.YtnadjlejlohgiaaGreatDoor.Nm Go.Proofs.YtnadjlejlohgiaaGreatDoor.Nb Go.Proofs.YtnadjlejlohgiaaGreatDoor.Cr Go.Proofs.YtnadjlejlohgiaaGreatDoor.Wi
set_option linter.unusedVariables false
set_option linter.unusedSimpArgs false
theorem sbcm_calls (w : World) : Calls Tryz.prog 56 #[.int .i64 33639248, .int .i64 4] w (fun e w' => e = .returned (.string (nB 4 33639248)) ∧ On w w') := by
  have h := sb4_calls 33639248 (by decide) w
  rw [show ((33639248 : Nat) : Int) = 33639248 from rfl] at h
  exact h
theorem sbz4_calls (w : World) : Calls Tryz.prog 56 #[.int .i64 0, .int .i64 4] w (fun e w' => e = .returned (.string (nB 4 0)) ∧ On w w') := by
  have h := sb4_calls 0 (by decide) w
  rw [show ((0 : Nat) : Int) = 0 from rfl] at h
  exact h
set_option maxRecDepth 100000 in
set_option maxHeartbeats 4000000 in
theorem scentral_calls (nm : ByteArray) (y m d h mi s : Int) (tx : ByteArray) (p : Nat) (ok : okp y m d h mi s) (hn : nm.size ≤ 1000) (ht : tx.size ≤ 1000) (hp : p ≤ 10000000) (w : World) :
    Calls Tryz.prog 94 #[.agg #[.string nm, .int .i64 y, .int .i64 m, .int .i64 d, .int .i64 h, .int .i64 mi, .int .i64 s, .string tx], .int .i64 p] w (Tells w (.string (centB ⟨nm, y, m, d, h, mi, s, tx⟩ p))) := by
  have HR := Lib.hid (show centB ⟨nm, y, m, d, h, mi, s, tx⟩ p = ((((((((nB 4 33639248 ++ nB 2 20) ++ fieldsB nm y m d h mi s tx (howOf tx).1 (howOf tx).2.size) ++ nB 2 0) ++ nB 2 0) ++ nB 2 0) ++ nB 4 0) ++ nB 4 p) ++ nm) from rfl)
  generalize centB ⟨nm, y, m, d, h, mi, s, tx⟩ p = R at *
  have HF := Lib.hid (fun w => sfields_calls nm y m d h mi s tx ok hn ht w)
  have hfs := fieldsB_size nm y m d h mi s tx (howOf tx).1 (howOf tx).2.size
  generalize fieldsB nm y m d h mi s tx (howOf tx).1 (howOf tx).2.size = fb at *
  have s1 := nB_size 4 33639248
  have s2 := nB_size 2 20
  have s3 := nB_size 2 0
  have s4 := nB_size 4 0
  have s5 := nB_size 4 p
  have HM := Lib.hid (fun w => sbcm_calls w)
  have h20 := Lib.hid (fun w => sb20_calls w)
  have h0 := Lib.hid (fun w => sb0_calls w)
  have h40 := Lib.hid (fun w => sbz4_calls w)
  have hpp := Lib.hid (fun w => sb4_calls p (by omega) w)
  generalize nB 4 33639248 = b1 at *
  generalize nB 2 20 = b2 at *
  generalize nB 2 0 = b3 at *
  generalize nB 4 0 = b4 at *
  generalize nB 4 p = b5 at *
  have z1 : ¬ 9223372036854775807 < 46 + nm.size := by omega
  have z2 : ¬ 9223372036854775807 < 4 + 2 + 26 + 2 + 2 + 2 + 4 + 4 + nm.size := by omega
  have OA := (On.refl w).alloc (.cells #[.string nm, .int .i64 y, .int .i64 m, .int .i64 d, .int .i64 h, .int .i64 mi, .int .i64 s, .string tx] 42)
  have BA := Blk.new w 42 #[.string nm, .int .i64 y, .int .i64 m, .int .i64 d, .int .i64 h, .int .i64 mi, .int .i64 s, .string tx]
  have HCS := Lib.hid (fun W (b : Blk W w.heap.size 42 #[.string nm, .int .i64 y, .int .i64 m, .int .i64 d, .int .i64 h, .int .i64 mi, .int .i64 s, .string tx]) => (⟨(b.cell 0).trans rfl, (b.cell 1).trans rfl, (b.cell 2).trans rfl, (b.cell 3).trans rfl, (b.cell 4).trans rfl, (b.cell 5).trans rfl, (b.cell 6).trans rfl, (b.cell 7).trans rfl⟩ :
    W.cell? ⟨w.heap.size, 0, none⟩ = some (.string nm) ∧ W.cell? ⟨w.heap.size, 1, none⟩ = some (.int .i64 y) ∧ W.cell? ⟨w.heap.size, 2, none⟩ = some (.int .i64 m) ∧ W.cell? ⟨w.heap.size, 3, none⟩ = some (.int .i64 d) ∧ W.cell? ⟨w.heap.size, 4, none⟩ = some (.int .i64 h) ∧ W.cell? ⟨w.heap.size, 5, none⟩ = some (.int .i64 mi) ∧ W.cell? ⟨w.heap.size, 6, none⟩ = some (.int .i64 s) ∧ W.cell? ⟨w.heap.size, 7, none⟩ = some (.string tx)))
  have HB0 := Lib.hid (fun W (O1 : On (w.alloc (.cells #[.string nm, .int .i64 y, .int .i64 m, .int .i64 d, .int .i64 h, .int .i64 mi, .int .i64 s, .string tx] 42)) W) => HCS.out W (BA.call O1.out))
  clear HCS BA
  go_enter Tryz.func94, Tryz.ntmps94
  go_upto_region 1 with fail
  generalize hP : w.heap.size = q at *
  generalize w.alloc (.cells #[.string nm, .int .i64 y, .int .i64 m, .int .i64 d, .int .i64 h, .int .i64 mi, .int .i64 s, .string tx] 42) = wz at *
  have HB := Lib.hid (fun W (O1 : On wz W) => HB0.out W O1)
  refine wp_region_held_drew (S := fun W => On wz W) (by kernel_rfl) (On.refl _).drew (fun hHeld => ?_)
  refine Tk.tk 3 ?_ rfl (.inl ⟨by rfl, ?_⟩) ?_
  rotate_left
  · intro w hSw; obtain ⟨q0, q1, q2, q3, q4, q5, q6, q7⟩ := HB.out w hSw; go_simp; first | done | with_reducible rfl
  try simp only [Act.put, Tk.s3]
  refine Tk.tk 14 ?_ rfl (.inl ⟨by rfl, ?_⟩) ?_
  rotate_left
  · intro w hSw; go_simp; first | done | with_reducible rfl
  try simp only [Act.put, Tk.s3]
  refine Tk.tk 17 ?_ rfl (.inl ⟨by rfl, ?_⟩) ?_
  rotate_left
  · intro w hSw; go_simp; first | done | with_reducible rfl
  try simp only [Act.put, Tk.s3]
  refine Tk.tk 18 ?_ rfl (.inl ⟨by rfl, ?_⟩) ?_
  rotate_left
  · intro w hSw; obtain ⟨q0, q1, q2, q3, q4, q5, q6, q7⟩ := HB.out w hSw; go_simp; first | done | with_reducible rfl
  try simp only [Act.put, Tk.s3]
  have O0 := (On.refl wz).drew
  refine Tk.rd 0 rfl fun K hK => ?_
  go_simp
  refine (HM.out wz.drew).mono ?_
  rintro e w1 ⟨rfl, T1⟩
  have O1 := O0.call T1
  refine hK.out _ _ O1 (fun hHeld => ?_)
  clear hK K
  try simp only [Act.put, Tk.s3]
  refine Tk.rd 1 rfl fun K hK => ?_
  go_simp
  refine (h20.out w1).mono ?_
  rintro e w2 ⟨rfl, T2⟩
  have O2 := O1.call T2
  refine hK.out _ _ O2 (fun hHeld => ?_)
  clear hK K
  try simp only [Act.put, Tk.s3]
  refine Tk.tk 2 ?_ rfl (.inl ⟨by rfl, ?_⟩) ?_
  rotate_left
  · intro w hSw; go_simp; first | done | with_reducible rfl
  try simp only [Act.put, Tk.s3]
  refine Tk.rd 4 rfl fun K hK => ?_
  go_simp
  refine (HF.out w2).mono ?_
  rintro e w3 ⟨rfl, T3⟩
  have O3 := O2.call T3
  refine hK.out _ _ O3 (fun hHeld => ?_)
  clear hK K
  try simp only [Act.put, Tk.s3]
  refine Tk.tk 5 ?_ rfl (.inl ⟨by rfl, ?_⟩) ?_
  rotate_left
  · intro w hSw; go_simp; first | done | with_reducible rfl
  try simp only [Act.put, Tk.s3]
  refine Tk.rd 6 rfl fun K hK => ?_
  go_simp
  refine (h0.out w3).mono ?_
  rintro e w4 ⟨rfl, T4⟩
  have O4 := O3.call T4
  refine hK.out _ _ O4 (fun hHeld => ?_)
  clear hK K
  try simp only [Act.put, Tk.s3]
  refine Tk.tk 7 ?_ rfl (.inl ⟨by rfl, ?_⟩) ?_
  rotate_left
  · intro w hSw; go_simp; first | done | with_reducible rfl
  try simp only [Act.put, Tk.s3]
  refine Tk.rd 8 rfl fun K hK => ?_
  go_simp
  refine (h0.out w4).mono ?_
  rintro e w5 ⟨rfl, T5⟩
  have O5 := O4.call T5
  refine hK.out _ _ O5 (fun hHeld => ?_)
  clear hK K
  try simp only [Act.put, Tk.s3]
  refine Tk.tk 9 ?_ rfl (.inl ⟨by rfl, ?_⟩) ?_
  rotate_left
  · intro w hSw; go_simp; first | done | with_reducible rfl
  try simp only [Act.put, Tk.s3]
  refine Tk.rd 10 rfl fun K hK => ?_
  go_simp
  refine (h0.out w5).mono ?_
  rintro e w6 ⟨rfl, T6⟩
  have O6 := O5.call T6
  refine hK.out _ _ O6 (fun hHeld => ?_)
  clear hK K
  try simp only [Act.put, Tk.s3]
  refine Tk.tk 11 ?_ rfl (.inl ⟨by rfl, ?_⟩) ?_
  rotate_left
  · intro w hSw; go_simp; first | done | with_reducible rfl
  try simp only [Act.put, Tk.s3]
  refine Tk.rd 12 rfl fun K hK => ?_
  go_simp
  refine (h40.out w6).mono ?_
  rintro e w7 ⟨rfl, T7⟩
  have O7 := O6.call T7
  refine hK.out _ _ O7 (fun hHeld => ?_)
  clear hK K
  try simp only [Act.put, Tk.s3]
  refine Tk.tk 13 ?_ rfl (.inl ⟨by rfl, ?_⟩) ?_
  rotate_left
  · intro w hSw; go_simp; first | done | with_reducible rfl
  try simp only [Act.put, Tk.s3]
  refine Tk.rd 15 rfl fun K hK => ?_
  go_simp
  refine (hpp.out w7).mono ?_
  rintro e w8 ⟨rfl, T8⟩
  have O8 := O7.call T8
  refine hK.out _ _ O8 (fun hHeld => ?_)
  clear hK K
  try simp only [Act.put, Tk.s3]
  refine Tk.tk 16 ?_ rfl (.inl ⟨by rfl, ?_⟩) ?_
  rotate_left
  · intro w hSw; go_simp; first | done | with_reducible rfl
  try simp only [Act.put, Tk.s3]
  refine Tk.tk 19 ?_ rfl (.inl ⟨by rfl, ?_⟩) ?_
  rotate_left
  · intro w hSw; go_simp; first | done | with_reducible rfl
  try simp only [Act.put, Tk.s3]
  refine Tk.rd 20 rfl fun K hK => ?_
  go_simp
  refine hK.out _ _ O8 (fun hHeld => ?_)
  clear hK K
  try simp only [Act.put, Tk.s3]
  refine wpAnyH_done (by kernel_rfl) ?_ _
  go_wp2_with fail
  go_ret
  exact ⟨by rw [HR.out]; rfl, OA.call O8⟩
theorem centB_size (f : Fi) (p : Nat) : (centB f p).size = 46 + f.nm.size := by
  unfold centB fB
  simp only [ByteArray.size_append, nB_size, fieldsB_size]
theorem outB_le {L : List Fi} (hL : ∀ f, f ∈ L → enOk f = true) : ∀ {i : Nat}, i ≤ L.length → (outB L i).size ≤ 400 * i
  | 0, _ => Nat.le_refl _
  | i + 1, hi => by
    have ih := outB_le hL (i := i) (by omega)
    have hf := entryOk_parts (hL L[i] (List.getElem_mem _))
    have h1 := howOf_le L[i].tx
    show (outB L i ++ lB (L.getD i zeroFi)).size ≤ _
    rw [List.getD_eq_getElem?_getD, List.getElem?_eq_getElem (by omega), ByteArray.size_append]
    show _ + (localB _ _ _ _ _ _ _ _).size ≤ _
    rw [localB_size]
    show _ + (30 + L[i].nm.size + (howOf L[i].tx).2.size) ≤ _
    omega
theorem hdB_le {L : List Fi} (hL : ∀ f, f ∈ L → enOk f = true) : ∀ {i : Nat}, i ≤ L.length → (hdB L i).size ≤ 100 * i
  | 0, _ => Nat.le_refl _
  | i + 1, hi => by
    have ih := hdB_le hL (i := i) (by omega)
    have hf := entryOk_parts (hL L[i] (List.getElem_mem _))
    show (hdB L i ++ centB (L.getD i zeroFi) _).size ≤ _
    rw [List.getD_eq_getElem?_getD, List.getElem?_eq_getElem (by omega), ByteArray.size_append, centB_size]
    show _ + (46 + L[i].nm.size) ≤ _
    omega
theorem putB_le {L : List Fi} (hL : ∀ f, f ∈ L → enOk f = true) (h6 : L.length ≤ 6) : (putB L).size ≤ 4000 := by
  have h1 := outB_le hL (Nat.le_refl L.length)
  have h2 := hdB_le hL (Nat.le_refl L.length)
  unfold putB
  rw [ByteArray.size_append, ByteArray.size_append, sEnd_is, endB_size]
  omega
set_option maxRecDepth 100000 in
set_option maxHeartbeats 2000000 in
theorem sl7put_calls (g cap : Nat) (L : List Fi) (w : World) (hF : FiAt w g 0 L) (hL : ∀ f, f ∈ L → enOk f = true) (h6 : L.length ≤ 6) :
    Calls Tryz.prog 68 #[.slice (some ⟨g, 0, none⟩) L.length cap] w (Tells w (.string (putB L))) := by
  have HP := Lib.hid (show putB L = (outB L L.length ++ hdB L L.length) ++ endB L.length (hdB L L.length).size (outB L L.length).size by unfold putB; rw [sEnd_is])
  have ho := Lib.hid (fun i (hi : i ≤ L.length) => outB_le hL hi)
  have hh := Lib.hid (fun i (hi : i ≤ L.length) => hdB_le hL hi)
  have HE := Lib.hid (fun w => send_calls L.length (hdB L L.length).size (outB L L.length).size (by omega) (by have := hh.out L.length (Nat.le_refl _); omega) (by have := ho.out L.length (Nat.le_refl _); omega) w)
  have hez := endB_size L.length (hdB L L.length).size (outB L L.length).size
  obtain ⟨n, hn⟩ : ∃ n, L.length = n := ⟨_, rfl⟩
  rw [hn] at HP ho hh HE h6 hez ⊢
  generalize putB L = R at *
  generalize endB n (hdB L n).size (outB L n).size = eb at *
  go_enter Tryz.func68, Tryz.ntmps68
  go_wp2_with fail
  go_loopw [3, 4, 5] (fun u v x wr => ∃ i : Nat, x = .int .i64 i ∧ i ≤ n ∧ u = .string (outB L i) ∧ v = .string (hdB L i) ∧ On w wr) (fun _ _ x _ => n - (intOf x).toNat)
  case atStart => exact ⟨0, rfl, by omega, rfl, rfl, On.refl _⟩
  case round =>
    obtain ⟨i, rfl, hi, rfl, rfl, O⟩ := hrel
    have ho1 := ho.out i hi
    have hh1 := hh.out i hi
    by_cases hlt : i < n
    · have hkl : i < L.length := by omega
      have HFC := Lib.hid (fun W (O1 : On wr W) => ((hF.on O).on O1).cells hkl)
      obtain ⟨q1, q2, q3⟩ := entryOk_parts (hL L[i] (List.getElem_mem hkl))
      have hco : outB L (i + 1) = outB L i ++ localB L[i].nm L[i].y L[i].m L[i].d L[i].h L[i].mi L[i].s L[i].tx := by
        show outB L i ++ lB (L.getD i zeroFi) = _
        rw [List.getD_eq_getElem?_getD, List.getElem?_eq_getElem hkl]; rfl
      have hch : hdB L (i + 1) = hdB L i ++ centB ⟨L[i].nm, L[i].y, L[i].m, L[i].d, L[i].h, L[i].mi, L[i].s, L[i].tx⟩ (outB L i).size := by
        show hdB L i ++ centB (L.getD i zeroFi) _ = _
        rw [List.getD_eq_getElem?_getD, List.getElem?_eq_getElem hkl]; rfl
      have HCE := Lib.hid (fun w => scentral_calls L[i].nm L[i].y L[i].m L[i].d L[i].h L[i].mi L[i].s L[i].tx (outB L i).size q2 (by omega) (by omega) (by omega) w)
      have HLO := Lib.hid (fun w => slocal_calls L[i].nm L[i].y L[i].m L[i].d L[i].h L[i].mi L[i].s L[i].tx q2 (by omega) (by omega) w)
      have zc := centB_size ⟨L[i].nm, L[i].y, L[i].m, L[i].d, L[i].h, L[i].mi, L[i].s, L[i].tx⟩ (outB L i).size
      have zc2 : (centB ⟨L[i].nm, L[i].y, L[i].m, L[i].d, L[i].h, L[i].mi, L[i].s, L[i].tx⟩ (outB L i).size).size ≤ 100 := by rw [zc]; show 46 + L[i].nm.size ≤ 100; omega
      have zl : (localB L[i].nm L[i].y L[i].m L[i].d L[i].h L[i].mi L[i].s L[i].tx).size ≤ 400 := by
        have := howOf_le L[i].tx
        rw [localB_size]; omega
      have HO := Lib.hid hco
      have HH := Lib.hid hch
      simp only [Nat.zero_add] at HFC
      obtain ⟨c0, c1, c2, c3, c4, c5, c6, c7⟩ := HFC.out wr (On.refl _)
      clear hco hch zc
      generalize centB ⟨L[i].nm, L[i].y, L[i].m, L[i].d, L[i].h, L[i].mi, L[i].s, L[i].tx⟩ (outB L i).size = cb at *
      generalize localB L[i].nm L[i].y L[i].m L[i].d L[i].h L[i].mi L[i].s L[i].tx = lb at *
      generalize outB L i = ob at *
      generalize hdB L i = hb at *
      go_wp2_with fail
      refine (HCE.out wr).mono ?_
      rintro e w1 ⟨rfl, O1⟩
      clear c0 c1 c2 c3 c4 c5 c6 c7
      obtain ⟨c0, c1, c2, c3, c4, c5, c6, c7⟩ := HFC.out w1 O1
      go_wp2_with fail
      refine (HLO.out w1).mono ?_
      rintro e w2 ⟨rfl, O2⟩
      go_wp2_with fail
      exact ⟨⟨i + 1, by go_num, by omega, by rw [HO.out], by rw [HH.out], (O.call O1).call O2⟩, by simp [intOf]; omega⟩
    · obtain rfl : i = n := by omega
      generalize outB L i = ob at *
      generalize hdB L i = hb at *
      go_wp2_with fail
      refine (HE.out wr).mono ?_
      rintro e w1 ⟨rfl, O1⟩
      go_wp2_with fail
      go_ret
      exact ⟨by rw [HP.out]; rfl, O.call O1⟩
end Go.Proofs.YtnadjlejlohgiaaGreatDoor.Lc

/- A bent archive tells no name that the archive did not tell. Nothing is walked here. -/
namespace Go.Proofs.YtnadjlejlohgiaaGreatDoor.Lc
open Go.RowKit Go.Proofs.YtnadjlejlohgiaaGreatDoor.Mem Go.Proofs.YtnadjlejlohgiaaGreatDoor.Nm Go.Proofs.YtnadjlejlohgiaaGreatDoor.Nb Go.Proofs.YtnadjlejlohgiaaGreatDoor.Cr Go.Proofs.YtnadjlejlohgiaaGreatDoor.Wi Go.Proofs.YtnadjlejlohgiaaGreatDoor.De
set_option linter.unusedVariables false
set_option linter.unusedSimpArgs false
theorem loc_head {s o : ByteArray} (h : locText s = some o) : headOk s := by
  unfold locText at h
  by_cases hk : headOk s
  · exact hk
  · rw [if_neg hk] at h; cases h
theorem sub_take (l : List Nat) {L a n : Nat} (h : a + n ≤ L) : ((l.take L).drop a).take n = (l.drop a).take n := by
  rw [List.drop_take, List.take_take, Nat.min_eq_left (by omega)]
/-- A file is read out of its own bytes alone. -/
theorem loc_pre {s t o : ByteArray} (h : locText s = some o) (e : (chars t).take (rdLong s) = (chars s).take (rdLong s)) : locText t = some o ∧ rdLong t = rdLong s ∧ rdName t = rdName s := by
  have hk := loc_head h
  obtain ⟨h30, h1, h2, h3, h4, hfit⟩ := hk
  have hL : rdLong s ≤ s.size := hfit
  have hL30 : rdLong s = 30 + numAtB s 26 2 + numAtB s 18 4 := rfl
  have hlen := congrArg List.length e
  rw [List.length_take, List.length_take, chars_length, chars_length] at hlen
  have ht : rdLong s ≤ t.size := by omega
  have Q : ∀ a n, a + n ≤ rdLong s → ((chars t).drop a).take n = ((chars s).drop a).take n := by
    intro a n ha
    rw [← sub_take (chars t) ha, ← sub_take (chars s) ha, e]
  have N : ∀ a n, a + n ≤ rdLong s → numAtB t a n = numAtB s a n := by
    intro a n ha
    rw [numAtB_eq, numAtB_eq]
    unfold numL
    rw [Q a n ha]
  have N26 := N 26 2 (by omega)
  have N18 := N 18 4 (by omega)
  have eL : rdLong t = rdLong s := by unfold rdLong; rw [N26, N18]
  have eN : rdName t = rdName s := by
    apply chars_ext
    unfold rdName
    rw [ch_extract, ch_extract, N26, Q _ _ (by omega)]
  have eP : rdPk t = rdPk s := by
    apply chars_ext
    unfold rdPk
    rw [ch_extract, ch_extract, N26, N18, Q _ _ (by omega)]
  have eM : rdNum t = rdNum s := N 10 4 (by omega)
  have hkt : headOk t := ⟨by omega, by rw [N 0 4 (by omega)]; exact h1, by rw [N 4 2 (by omega)]; exact h2, by rw [N 6 2 (by omega)]; exact h3, by rw [N 28 2 (by omega)]; exact h4, by rw [N26, N18]; omega⟩
  have hT : ∀ x, textOk t x ↔ textOk s x := by
    intro x
    unfold textOk
    rw [N 14 4 (by omega), N 22 4 (by omega), eN, eM]
  refine ⟨?_, eL, eN⟩
  rw [← h]
  unfold locText
  rw [if_pos hkt, if_pos ⟨h30, h1, h2, h3, h4, hfit⟩, N 8 2 (by omega), eP]
  simp only [hT]
theorem pos_mono (s : ByteArray) {i : Nat} : ∀ {k : Nat}, i ≤ k → pos s i ≤ pos s k
  | 0, h => by obtain rfl : i = 0 := by omega
               exact Nat.le_refl _
  | k + 1, h => by
    by_cases e : i = k + 1
    · subst e; exact Nat.le_refl _
    · have := pos_mono s (i := i) (k := k) (by omega)
      show _ ≤ pos s k + _
      omega
/-- Files one behind the other are read out of their own bytes alone. -/
theorem pos_pre {s t : ByteArray} {k : Nat} (h : good s k) (e : (chars t).take (pos s k) = (chars s).take (pos s k)) : ∀ {i : Nat}, i ≤ k → pos t i = pos s i ∧ ∀ j, j < i → (txt t j).isSome = true ∧ (fileAt t j).nm = (fileAt s j).nm
  | 0, _ => ⟨rfl, fun j hj => by omega⟩
  | i + 1, hi => by
    obtain ⟨p, ih⟩ := pos_pre h e (i := i) (by omega)
    obtain ⟨o, ho⟩ := Option.isSome_iff_exists.1 (h i hi)
    have hm : pos s i + rdLong (tail s (pos s i)) ≤ pos s k := pos_mono s (i := i + 1) hi
    have hx : (chars (tail t (pos t i))).take (rdLong (tail s (pos s i))) = (chars (tail s (pos s i))).take (rdLong (tail s (pos s i))) := by
      rw [ch_tail, ch_tail, p, ← sub_take (chars t) hm, ← sub_take (chars s) hm, e]
    obtain ⟨a1, a2, a3⟩ := loc_pre ho hx
    refine ⟨?_, fun j hj => ?_⟩
    · show pos t i + _ = pos s i + _
      rw [a2, p]
    · by_cases hj2 : j < i
      · exact ih j hj2
      · obtain rfl : j = i := by omega
        exact ⟨by unfold txt; rw [a1]; rfl, a3⟩
/-- An archive's list of heads begins with another mark than a file does. -/
theorem mark_other {s : ByteArray} {k : Nat} (h : good s k) (hc : tail s (pos s k) = closB (pcs s k)) : ((chars s).drop (pos s k)).take 4 = numB 4 33639248 ∨ (k = 0 ∧ s.size = 22 ∧ ((chars s).drop (pos s k)).take 4 = numB 4 101010256) := by
  have e := congrArg chars hc
  rw [closB_is, ch_append, ch_tail, pcs_length] at e
  rcases Nat.eq_zero_or_pos k with rfl | hp
  · right
    have e0 : chars (hdsL (pcs s 0) 0) = [] := rfl
    rw [e0, List.nil_append] at e
    refine ⟨rfl, ?_, ?_⟩
    · have := congrArg List.length e
      rw [List.length_drop, chars_length, chars_length, endB_size] at this
      have p0 : pos s 0 = 0 := rfl
      omega
    · rw [e]
      unfold endB
      simp only [ch_append, chars_nB, ← nB_m2, List.append_assoc]
      rw [List.take_left' (numB_length 4 _)]
  · left
    obtain ⟨r, hr⟩ := hds_pre h (i := 1) hp (Nat.le_refl _)
    have e0 : chars (hdsL (pcs s k) 0) = [] := rfl
    rw [hr, ch_hds h hp, e0, List.nil_append, cH] at e
    rw [e]
    simp only [List.append_assoc]
    rw [List.take_left' (numB_length 4 _)]
theorem txt_none_of {t : ByteArray} {k : Nat} {v : Nat} (h : ((chars t).drop (pos t k)).take 4 = numB 4 v) (hv : v < 4294967296) (hne : v ≠ 67324752) : txt t k = none := by
  have hh : ¬ headOk (tail t (pos t k)) := by
    intro hk
    have h0 := hk.2.1
    rw [numAtB_eq, ch_tail, numL, List.drop_zero, h, numOf_numB 4 v hv] at h0
    exact hne h0
  unfold txt locText
  rw [if_neg hh]
theorem txt_none_short {t : ByteArray} {k : Nat} (h : t.size < pos t k + 30) : txt t k = none := by
  have hh : ¬ headOk (tail t (pos t k)) := by
    intro hk
    have h0 := hk.1
    rw [tail_size] at h0
    omega
  unfold txt locText
  rw [if_neg hh]
/-- How a text may be bent. -/
def BentTo (s t : ByteArray) : Prop := (∃ n, chars t = (chars s).take n) ∨ (∃ x, chars t = chars s ++ x) ∨ (∃ q v, q < s.size ∧ chars t = (chars s).take q ++ v :: (chars s).drop (q + 1))
theorem take_bent {l : List Nat} {q v K : Nat} (hl : q < l.length) (h : K ≤ q) : (l.take q ++ v :: l.drop (q + 1)).take K = l.take K := by
  rw [List.take_append_of_le_length (by rw [List.length_take]; omega), List.take_take, Nat.min_eq_left h]
theorem drop_bent {l : List Nat} {q v K : Nat} (hl : q < l.length) (h : q < K) : (l.take q ++ v :: l.drop (q + 1)).drop K = l.drop K := by
  have e : l.take q ++ v :: l.drop (q + 1) = (l.take q ++ [v]) ++ l.drop (q + 1) := by simp
  have z : (l.take q ++ [v]).length = q + 1 := by simp; omega
  rw [e, show K = (l.take q ++ [v]).length + (K - (q + 1)) from by omega, List.drop_append, List.drop_drop, z]
  have e3 : (l.take q ++ [v]).drop (q + 1 + (K - (q + 1))) = [] := List.drop_eq_nil_of_le (by omega)
  rw [e3, List.nil_append]
  congr 1
  omega
theorem endB_parts {n hl p n' hl' p' : Nat} (h : endB n hl p = endB n' hl' p') (a1 : n < 65536) (a2 : n' < 65536) (c1 : p < 4294967296) (c2 : p' < 4294967296) : n = n' ∧ p = p' := by
  have e := congrArg chars h
  unfold endB at e
  simp only [ch_append, chars_nB, ← nB_m2, List.append_assoc] at e
  obtain ⟨_, e⟩ := List.append_inj e (by simp only [numB_length])
  obtain ⟨_, e⟩ := List.append_inj e (by simp only [numB_length])
  obtain ⟨e1, e⟩ := List.append_inj e (by simp only [numB_length])
  obtain ⟨_, e⟩ := List.append_inj e (by simp only [numB_length])
  obtain ⟨_, e⟩ := List.append_inj e (by simp only [numB_length])
  obtain ⟨e2, _⟩ := List.append_inj e (by simp only [numB_length])
  have f1 := congrArg numOf e1
  have f2 := congrArg numOf e2
  rw [numOf_numB 2 n (by omega), numOf_numB 2 n' (by omega)] at f1
  rw [numOf_numB 4 p (by omega), numOf_numB 4 p' (by omega)] at f2
  exact ⟨f1, f2⟩
theorem hL_zero (s : ByteArray) (k : Nat) : hL s k 0 = 0 := rfl
theorem numL_of {l l' : List Nat} {a : Nat} (h : l.drop a = l'.drop a) (n : Nat) : numL l a n = numL l' a n := by unfold numL; rw [h]
/-- The name of a file, out of the list of heads. -/
theorem name_head {s : ByteArray} {k i : Nat} (h : good s k) (hi : i < k) (hf : fineL (chars s) (pos s k + hL s k i) (pos s i)) : chars (fileAt s i).nm = ((chars s).drop (pos s k + hL s k i + 46)).take (numL (chars s) (pos s k + hL s k i + 28) 2) := by
  have e := (fine_to hf).2
  rw [hf.2.2.2.2.1, e]
  show chars (rdName (tail s (pos s i))) = _
  unfold rdName
  rw [ch_extract, numAtB_tail, ch_tail, List.drop_drop, numAtB_eq, show 30 + numL (chars s) (pos s i + 26) 2 - 30 = numL (chars s) (pos s i + 26) 2 from by omega]
set_option maxHeartbeats 1000000 in
theorem names_bent {s t : ByteArray} {k k' : Nat} (hk : k ≤ 6) (hsz : s.size < 4294967296) (hg : good s k) (hc : tail s (pos s k) = closB (pcs s k)) (hz : zipIs t k') (hb : BentTo s t) : ∀ i, i < k' → ∃ j, j < k ∧ (fileAt t i).nm = (fileAt s j).nm := by
  have hg' := hz.2.1
  have hp' := pos_le hg'
  have hp := pos_le hg
  have hm := mark_other hg hc
  -- the files are those of s, as many as there are
  have small : (chars s).take (pos s k) = (chars t).take (pos s k) → k' ≤ k → ∀ i, i < k' → ∃ j, j < k ∧ (fileAt t i).nm = (fileAt s j).nm := by
    intro e hle i hi
    exact ⟨i, by omega, ((pos_pre hg e.symm (Nat.le_refl k)).2 i (by omega)).2⟩
  have le_of : (chars s).take (pos s k) = (chars t).take (pos s k) → txt t k = none → k' ≤ k := by
    intro e hn
    rcases Nat.lt_or_ge k k' with hl | hl
    · have := hg' k hl
      rw [hn] at this; cases this
    · exact hl
  rcases hb with ⟨n, e⟩ | ⟨x, e⟩ | ⟨q, v, hq, e⟩
  · -- cut
    have htl : t.size = min n s.size := by rw [← chars_length, e, List.length_take, chars_length]
    have e2 : ∀ K, K ≤ t.size → (chars s).take K = (chars t).take K := by
      intro K hK
      rw [e, List.take_take, Nat.min_eq_left (by omega)]
    by_cases hkk : k' ≤ k
    · intro i hi
      exact ⟨i, by omega, (((pos_pre hg' (e2 _ hp') (Nat.le_refl k')).2 i hi).2).symm⟩
    · exfalso
      have hgk : good t k := fun i hi => hg' i (by omega)
      have hpk := pos_le hgk
      have pe := (pos_pre hgk (e2 _ hpk) (Nat.le_refl k)).1
      have hh : headOk (tail t (pos t k)) := good_head hg' (by omega)
      have h30 := hh.1
      have h0 := hh.2.1
      rw [tail_size] at h30
      rw [numAtB_eq, ch_tail, numL, List.drop_zero] at h0
      have q4 : ((chars t).drop (pos t k)).take 4 = ((chars s).drop (pos s k)).take 4 := by
        rw [e, ← pe, List.drop_take, List.take_take, Nat.min_eq_left (by omega)]
      rcases hm with hm | ⟨_, _, hm⟩
      · rw [q4, hm, numOf_numB 4 _ (by decide)] at h0; omega
      · rw [q4, hm, numOf_numB 4 _ (by decide)] at h0; omega
  · -- more behind
    have e2 : (chars s).take (pos s k) = (chars t).take (pos s k) := by rw [e, List.take_append_of_le_length (by rw [chars_length]; omega)]
    have pe := (pos_pre hg e2.symm (Nat.le_refl k)).1
    have h22 : pos s k + 22 ≤ s.size := by
      have := congrArg ByteArray.size hc
      rw [tail_size, closB_is, ByteArray.size_append, endB_size] at this
      omega
    have q4 : ((chars t).drop (pos t k)).take 4 = ((chars s).drop (pos s k)).take 4 := by
      rw [e, pe, List.drop_append_of_le_length (by rw [chars_length]; omega), List.take_append_of_le_length (by rw [List.length_drop, chars_length]; omega)]
    refine small e2 (le_of e2 ?_)
    rcases hm with hm | ⟨_, _, hm⟩
    · exact txt_none_of (q4.trans hm) (by decide) (by decide)
    · exact txt_none_of (q4.trans hm) (by decide) (by decide)
  · -- another byte
    have hql : q < (chars s).length := by rw [chars_length]; exact hq
    have hts : t.size = s.size := by
      rw [← chars_length t, ← chars_length s, e, List.length_append, List.length_take, List.length_cons, List.length_drop]; omega
    have hho := heads_of hg hc
    have h22 : s.size = pos s k + hL s k k + 22 := by
      have := congrArg ByteArray.size hho.2
      rw [tail_size, endB_size] at this
      omega
    have hho' := heads_of hg' hz.2.2.2
    have h22' : t.size = pos t k' + hL t k' k' + 22 := by
      have := congrArg ByteArray.size hho'.2
      rw [tail_size, endB_size] at this
      omega
    by_cases hqe : q < pos s k + hL s k k
    · -- the end is the same
      have ee : endB k' (hL t k' k') (pos t k') = endB k (hL s k k) (pos s k) := by
        rw [← hho.2, ← hho'.2]
        apply chars_ext
        rw [ch_tail, ch_tail, show pos t k' + hL t k' k' = pos s k + hL s k k from by omega, e, drop_bent hql hqe]
      have h6 := hz.1
      obtain ⟨rfl, pe⟩ := endB_parts ee (by omega) (by omega) (by omega) (by omega)
      by_cases hqp : pos s k' ≤ q
      · exact small (by rw [e, take_bent hql hqp]) (Nat.le_refl _)
      · -- the heads are the same
        have D : ∀ K, pos s k' ≤ K → (chars t).drop K = (chars s).drop K := fun K hK => by rw [e, drop_bent hql (by omega)]
        have NL : ∀ a n, pos s k' ≤ a → numL (chars t) a n = numL (chars s) a n := fun a n ha => numL_of (D a ha) n
        have HL : ∀ i, i ≤ k' → hL t k' i = hL s k' i := by
          intro i
          induction i with
          | zero => intro _; rw [hL_zero, hL_zero]
          | succ i ih =>
            intro hi
            have ih := ih (by omega)
            have hi2 : i < k' := by omega
            have a1 := hL_succ hg' hi2
            have a2 := hL_succ hg hi2
            have a3 := (fine_to (hho'.1 i hi2)).2
            have a4 := (fine_to (hho.1 i hi2)).2
            rw [ih, pe] at a3
            have a5 := NL (pos s k' + hL s k' i + 28) 2 (by omega)
            rw [a1, a2, ih, ← a3, ← a4, a5]
        intro i hi
        refine ⟨i, hi, chars_ext ?_⟩
        have b1 := name_head hg' hi (hho'.1 i hi)
        have b2 := name_head hg hi (hho.1 i hi)
        have b3 := HL i (Nat.le_of_lt hi)
        have b4 := NL (pos s k' + hL s k' i + 28) 2 (by omega)
        have b5 := D (pos s k' + hL s k' i + 46) (by omega)
        rw [b3, pe, b4, b5] at b1
        rw [b1, b2]
    · -- the files are the same
      have e2 : (chars s).take (pos s k) = (chars t).take (pos s k) := by rw [e, take_bent hql (by omega)]
      have pe := (pos_pre hg e2.symm (Nat.le_refl k)).1
      refine small e2 (le_of e2 ?_)
      rcases hm with hm | ⟨rfl, h22s, _⟩
      · have hk0 : 0 < k := by
          rcases Nat.eq_zero_or_pos k with rfl | h
          · exfalso
            have hh := hho.2
            have e9 := congrArg chars hh
            rw [ch_tail] at e9
            have p0 : pos s 0 + hL s 0 0 = pos s 0 := rfl
            rw [p0] at e9
            rw [e9] at hm
            unfold endB at hm
            simp only [ch_append, chars_nB, ← nB_m2, List.append_assoc] at hm
            rw [List.take_left' (numB_length 4 _)] at hm
            have := congrArg numOf hm
            rw [numOf_numB 4 _ (by decide), numOf_numB 4 _ (by decide)] at this
            omega
          · exact h
        have h46 : 46 ≤ hL s k k := by
          obtain ⟨r, hr⟩ := hds_pre hg (i := 1) hk0 (Nat.le_refl _)
          have h2 := congrArg List.length hr
          rw [List.length_append, chars_length, chars_length] at h2
          have h3 : hL s k k = hL s k 1 + r.length := h2
          have h1 : hL s k 1 = hL s k 0 + (46 + numL (chars s) (pos s 0 + 26) 2) := hL_succ hg (i := 0) hk0
          rw [hL_zero] at h1
          omega
        have q4 : ((chars t).drop (pos t k)).take 4 = ((chars s).drop (pos s k)).take 4 := by
          have hx : (chars t).take (pos s k + 4) = (chars s).take (pos s k + 4) := by rw [e, take_bent hql (by omega)]
          rw [pe, ← sub_take (chars t) (L := pos s k + 4) (Nat.le_refl _), ← sub_take (chars s) (L := pos s k + 4) (Nat.le_refl _), hx]
        exact txt_none_of (q4.trans hm) (by decide) (by decide)
      · exact txt_none_short (by have p0 : pos t 0 = 0 := rfl
                                 omega)
end Go.Proofs.YtnadjlejlohgiaaGreatDoor.Lc

/- The draws of archives: files that are ok, none of them named nobody; an archive, bent. (Printed by tools/gen_dz.py.) -/
namespace Go.Proofs.YtnadjlejlohgiaaGreatDoor.Draw
open Go.RowKit Go.Proofs.YtnadjlejlohgiaaGreatDoor.Mem Go.Proofs.YtnadjlejlohgiaaGreatDoor.Nm Go.Proofs.YtnadjlejlohgiaaGreatDoor.Wi Go.Proofs.YtnadjlejlohgiaaGreatDoor.Lc
set_option linter.unusedVariables false
set_option linter.unusedSimpArgs false
theorem not_empty' {y : ByteArray} (h : 0 < y.size) : y.toList.isEmpty = false := by
  have hl : y.toList.length = y.size := by rw [ByteArray.toList_eq, Array.length_toList]; rfl
  cases hd : y.toList with
  | nil => rw [hd] at hl; simp at hl; omega
  | cons _ _ => rfl
set_option maxRecDepth 100000 in
theorem zbent_calls (g B : Nat) (s : ByteArray) (w : World) (hr : Rd w g B) (hB : B ≤ 10000000) (hs : s.size ≤ 100000) :
    Calls Tryz.prog 42 #[.pointer (some ⟨g, 0, none⟩), .string s] w fun e w' => ∃ t : ByteArray, (BentTo s t ∧ t.size ≤ s.size + 10) ∧ e = .returned (.string t) ∧ Rd w' g (B + 10) ∧ But g w w' := by
  by_cases hz : s = ⟨#[]⟩
  · subst hz
    go_enter Tryz.func42, Tryz.ntmps42
    go_wp2_with fail
    go_ret
    exact ⟨⟨#[]⟩, ⟨.inl ⟨0, rfl⟩, Nat.zero_le _⟩, rfl, hr.le (by omega), But.refl _ _⟩
  have hpos : 0 < s.size := by
    rcases Nat.eq_zero_or_pos s.size with h | h
    · exact absurd (ByteArray.ext (Array.eq_empty_of_size_eq_zero h)) hz
    · exact h
  have hne := not_empty' hpos
  clear hz
  go_enter Tryz.func42, Tryz.ntmps42
  go_wp2_with fail
  refine (pick_calls g B s.size w hr (by omega) (by omega) (by omega)).mono ?_
  rintro e w1 ⟨k, hk, rfl, hr1, T⟩
  go_wp2_with fail
  refine (pick_calls g (B + 1) 5 w1 hr1 (by omega) (by omega) (by omega)).mono ?_
  rintro e w2 ⟨j, hj, rfl, hr2, T2⟩
  replace T := T.trans T2
  have hk1 : (k : Int) ≤ s.size := by omega
  have hk2 : (k : Int) + 1 ≤ s.size := by omega
  have hk3 : (0 : Int) ≤ (k : Int) + 1 := by omega
  have ek : IntKind.i64.wrap ((k : Int) + 1) = (k : Int) + 1 := by rw [IntKind.wrap_i64]; omega
  have s3 : s.size ≤ 200000 := by omega
  by_cases h0 : j = 0
  · subst h0
    go_wp2_with fail
    refine wp_region_held_drew (S := fun W => Kp [g] w2 W) (by kernel_rfl) (Kp.refl _ _).drew (fun hHeld => ?_)
    have OwD := (On.refl w2).drew
    have hrD := hr2.on OwD
    refine Tk.tk 0 ?_ rfl (.inl ⟨by rfl, ?_⟩) ?_
    rotate_left
    · intro w hSw; go_simp; first | done | with_reducible rfl
    try simp only [Act.put, Tk.s3]
    refine Tk.tk 1 ?_ rfl (.inl ⟨by rfl, ?_⟩) ?_
    rotate_left
    · intro w hSw; go_simp; first | done | with_reducible rfl
    try simp only [Act.put, Tk.s3]
    refine Tk.tk 2 ?_ rfl (.inl ⟨by rfl, ?_⟩) ?_
    rotate_left
    · intro w hSw; go_simp; first | done | with_reducible rfl
    try simp only [Act.put, Tk.s3]
    refine Tk.tk 3 ?_ rfl (.inl ⟨by rfl, ?_⟩) ?_
    rotate_left
    · intro w hSw; go_simp; first | done | with_reducible rfl
    try simp only [Act.put, Tk.s3]
    refine Tk.tk 9 ?_ rfl (.inl ⟨by rfl, ?_⟩) ?_
    rotate_left
    · intro w hSw; go_simp; first | done | with_reducible rfl
    try simp only [Act.put, Tk.s3]
    refine Tk.tk 10 ?_ rfl (.inl ⟨by rfl, ?_⟩) ?_
    rotate_left
    · intro w hSw; go_simp; first | done | with_reducible rfl
    try simp only [Act.put, Tk.s3]
    refine Tk.tk 11 ?_ rfl (.inl ⟨by rfl, ?_⟩) ?_
    rotate_left
    · intro w hSw; go_simp; first | done | with_reducible rfl
    try simp only [Act.put, Tk.s3]
    refine Tk.tk 12 ?_ rfl (.inl ⟨by rfl, ?_⟩) ?_
    rotate_left
    · intro w hSw; go_simp; first | done | with_reducible rfl
    try simp only [Act.put, Tk.s3]
    generalize w2.drew = wD at *
    refine Tk.rd 4 rfl fun K hK => ?_
    go_simp
    refine (pick_calls g (B + 2) 256 wD hrD (by omega) (by omega) (by omega)).mono ?_
    rintro e wA ⟨y, hy, rfl, hrA, TA⟩
    have KA : Kp [g] w2 wA := (Kp.of [g] OwD).then TA.kp
    have hu8 : IntKind.u8.wrap (y : Int) = (y : Int) := wr_u8 _ (by omega) (by omega)
    refine hK.out _ _ KA (fun hHeld => ?_)
    clear hK K
    try simp only [Act.put, Tk.s3]
    refine Tk.tk 5 ?_ rfl (.inl ⟨by rfl, ?_⟩) ?_
    rotate_left
    · intro w hSw; go_simp; first | done | with_reducible rfl
    try simp only [Act.put, Tk.s3]
    refine Tk.rd 6 rfl fun K hK => ?_
    go_simp
    have OB := (On.refl wA).alloc (.cells #[.int .u8 (y : Int)] 5)
    have BB := Mk.By1 wA y
    refine hK.out _ _ (KA.then (Kp.of [g] OB)) (fun hHeld => ?_)
    clear hK K
    try simp only [Act.put, Tk.s3]
    have hconv : (convert 28 9 (.slice (some ⟨wA.heap.size, 0, none⟩) 1 1)).run Tryz.prog (wA.alloc (.cells #[.int .u8 (y : Int)] 5)) = .ok (.string (strB [y])) (wA.alloc (.cells #[.int .u8 (y : Int)] 5)) := bytes_conv BB.out
    have hrB := hrA.on OB
    have hus : (strB [y]).size = 1 := strB_size _
    have HUS := Lib.hid hus
    have HUC := Lib.hid (chars_strB (l := [y]) (by intro x hx; simp at hx; omega))
    clear hus
    generalize strB [y] = u at *
    have hu1 : ¬ 9223372036854775807 < min k s.size + u.size := by have := HUS.out; omega
    have hu2 : ¬ 9223372036854775807 < min k s.size + u.size + (s.size - (k + 1)) := by have := HUS.out; omega
    generalize wA.heap.size = bl at *
    generalize wA.alloc (.cells #[.int .u8 (y : Int)] 5) = wB at *
    refine Tk.rd 7 rfl fun K hK => ?_
    go_simp
    refine hK.out _ _ (KA.then (Kp.of [g] OB)) (fun hHeld => ?_)
    clear hK K
    try simp only [Act.put, Tk.s3]
    refine Tk.tk 8 ?_ rfl (.inl ⟨by rfl, ?_⟩) ?_
    rotate_left
    · intro w hSw; go_simp; first | done | with_reducible rfl
    try simp only [Act.put, Tk.s3]
    refine Tk.rd 13 rfl fun K hK => ?_
    go_simp
    refine hK.out _ _ (KA.then (Kp.of [g] OB)) (fun hHeld => ?_)
    clear hK K
    try simp only [Act.put, Tk.s3]
    refine Tk.rd 14 rfl fun K hK => ?_
    go_simp
    refine hK.out _ _ (KA.then (Kp.of [g] OB)) (fun hHeld => ?_)
    clear hK K
    try simp only [Act.put, Tk.s3]
    refine wpAnyH_done (by kernel_rfl) ?_ _
    go_wp2_with fail
    go_ret
    refine ⟨_, ⟨.inr (.inr ⟨k, y, hk, ?_⟩), ?_⟩, rfl, hrB.le (by omega), ((T.trans (But.of OwD)).trans TA).trans (But.of OB)⟩
    · have hkk : ((k : Int) + 1).toNat = k + 1 := by omega
      simp only [ch_append, ch_extract, HUC.out]
      rw [List.drop_zero, List.append_assoc, show (k : Nat) - 0 = k from rfl, List.take_of_length_le (l := (chars s).drop (k + 1)) (by rw [List.length_drop, chars_length]; omega)]
      rfl
    rw [ByteArray.size_append, ByteArray.size_append, HUS.out, ByteArray.size_extract, ByteArray.size_extract]
    simp
    omega
  by_cases h1 : j = 1
  · subst h1
    go_wp2_with fail
    go_ret
    refine ⟨_, ⟨.inl ⟨k, by rw [ch_extract]; rfl⟩, ?_⟩, rfl, hr2.le (by omega), T⟩
    rw [ByteArray.size_extract]
    omega
  by_cases h2 : j = 2
  · subst h2
    go_wp2_with fail
    refine (of_calls g _ w2.heap.size 3 3 _ _ (hr2.on ((On.refl w2).alloc _)) (by omega) (Row.of (Blk.new w2 _ _)) rfl (by omega) (by omega) (by omega) (Nat.ne_of_gt hr2.lt)).mono ?_
    rintro e w4 ⟨v, hv, rfl, hr4, T4⟩
    replace T4 := T.trans ((But.of (g := g) ((On.refl w2).alloc _)).trans T4)
    have hs4 : ∃ s : ByteArray, s.size ≤ 6 ∧ v = .string s := by
      simp at hv
      rcases hv with rfl | rfl | rfl <;> exact ⟨_, by decide, rfl⟩
    obtain ⟨y, hy, rfl⟩ := hs4
    clear hv
    go_wp2_with fail
    go_ret
    exact ⟨_, ⟨.inr (.inl ⟨chars y, by rw [ch_append]⟩), by rw [ByteArray.size_append]; omega⟩, rfl, hr4.le (by omega), T4⟩
  · have k0 : ((j : Int) == 0) = false := by simp; omega
    have k1 : ((j : Int) == 1) = false := by simp; omega
    have k2 : ((j : Int) == 2) = false := by simp; omega
    go_wp2_with fail
    go_ret
    exact ⟨s, ⟨.inr (.inl ⟨[], by rw [List.append_nil]⟩), by omega⟩, rfl, hr2.le (by omega), T⟩
/-- Files that are drawn. -/
structure GoodL (L : List Fi) : Prop where
  ok : ∀ f, f ∈ L → enOk f = true
  nb : ∀ f, f ∈ L → f.nm ≠ nobody
theorem GoodL.nil : GoodL [] := ⟨fun f h => (by cases h), fun f h => (by cases h)⟩
theorem GoodL.add {L : List Fi} (h : GoodL L) {f : Fi} (h1 : enOk f = true) (h2 : f.nm ≠ nobody) : GoodL (L ++ [f]) :=
  ⟨fun x hx => by
    rcases List.mem_append.1 hx with hx | hx
    · exact h.ok x hx
    · obtain rfl : x = f := by simpa using hx
      exact h1, fun x hx => by
    rcases List.mem_append.1 hx with hx | hx
    · exact h.nb x hx
    · obtain rfl : x = f := by simpa using hx
      exact h2⟩
theorem GoodL.small {L : List Fi} (h : GoodL L) : ∀ f, f ∈ L → f.nm.size ≤ 1000 := fun f hf => by
  have := entryOk_parts (h.ok f hf)
  omega
theorem ownBut {base g t size n : Nat} {w w' : World} {v : Value} {xs : List Value} (h : Own base w t size v n xs) (T : But g w w') (hg : g < base) : Own base w' t size v n xs :=
  Own.keep' h fun k cs hk b => T.blk b (by have := h.block k hk; omega)
set_option maxRecDepth 100000 in
theorem sdec_calls (n : Nat) (h : n ≤ 9) (w : World) : Calls Tryz.prog 96 #[.int .i64 n] w (Tells w (.string (strB [48 + n]))) := by
  have BB := Mk.By1 w (48 + n)
  have OB := (On.refl w).alloc (.cells #[.int .u8 ((48 + n : Nat) : Int)] 5)
  have cv := bytes_conv BB.out
  have e8 : IntKind.u8.wrap (48 + (n : Int)) = 48 + (n : Int) := wr_u8 _ (by omega) (by omega)
  rw [show ((48 + n : Nat) : Int) = 48 + (n : Int) from by omega] at cv OB
  simp only [List.length_cons, List.length_nil, Nat.zero_add] at cv
  clear BB
  generalize strB [48 + n] = d at *
  go_enter Tryz.func96, Tryz.ntmps96
  go_wp2_with fail
  go_ret
  exact ⟨rfl, OB⟩
theorem fname_ok {n : Nat} (h : n < 6) : nameOk ((⟨#[102]⟩ : ByteArray) ++ strB [48 + n]).data.toList = true ∧ (⟨#[102]⟩ : ByteArray) ++ strB [48 + n] ≠ nobody := by
  have hd : ((⟨#[102]⟩ : ByteArray) ++ strB [48 + n]).data.toList = [102, UInt8.ofNat (48 + n)] := by
    rw [ByteArray.data_append, Array.toList_append]; rfl
  constructor
  · rw [hd]
    match n, h with
    | 0, _ => decide
    | 1, _ => decide
    | 2, _ => decide
    | 3, _ => decide
    | 4, _ => decide
    | 5, _ => decide
  · intro e
    rw [e] at hd
    have := congrArg List.length hd
    cases this
theorem file_ok {n : Nat} (h : n < 6) {y m d hh mi s : Int} (ok : okp y m d hh mi s) : enOk ⟨(⟨#[102]⟩ : ByteArray) ++ strB [48 + n], y, m, d, hh, mi, s, ⟨#[]⟩⟩ = true := by
  show entryOk _ _ _ _ _ _ _ _ = true
  unfold entryOk
  rw [(fname_ok h).1, decide_eq_true ok]; rfl
theorem ButOwn {g : Nat} {w wr w' : World} {row : Option Nat} (T : But g w wr) (K : wr.grownBy w' row) (hr : ∀ j, row = some j → w.heap.size ≤ j) : But g w w' :=
  ⟨⟨K.os.trans T.out.os, K.tape.trans T.out.tape, K.output.trans T.out.output, Nat.le_trans T.out.size K.size, fun i hi hne => (K.block i (Nat.lt_of_lt_of_le hi T.out.size) (fun e => by have := hr i e.symm; omega)).trans (T.out.block i hi hne)⟩⟩
/-- 's = append(s, u)' of one element onto a row of one's own, where only what the row's block and new ones hold changes. -/
theorem wpList_appB {P : Program} {ops : Array Oper} {rest : List Oper} {o : Oper} {act : Act} {Q : Exit → Act → World → Prop} {wr : World} {e : TypeId} {us : Array Value} (hgd : o.guard = none) (s x : Operand) (t : TypeId)
    (ho : o.op = .call { callee := .builtin .append, args := #[s, x], argTypes := #[t, t] })
    (a : World) (i : TypeInfo) (z : Value) (bytes size : Nat) (ht : P.underlying t = some (.slice e)) (hi : P.info? e = some i) (hz : i.zero = some z)
    (hsize : i.size = size) (hby : i.bytes = bytes) (hzs : z.cells.size = size) (hsz : 0 < size) (hus : us.size = size)
    (v : Value) (n : Nat) (xs : List Value) (hs : act.eval s = v) (hown : Own a.heap.size wr e size v n xs) (hle : a.heap.size ≤ wr.heap.size)
    (hx : act.eval x = .slice (some ⟨wr.heap.size, 0, none⟩) 1 1) (h1 : ∀ u ∈ us.toList, u.oneCell' = true) (h63 : n + 1 ≤ maxLen) (hbytes : (n + 1) * bytes ≤ 140737488355328)
    (h : ∀ v' w', Own a.heap.size w' e size v' (n + 1) (xs ++ us.toList) → wr.grownBy w' v.ownBlock → wpList P ops Q rest (act.put o.dst v') w') :
    wpList P ops Q (o :: rest) act (wr.alloc (.cells us e)) := by
  refine wpList_append_own _ hgd s x t ho a.heap.size e i z size bytes ht hi hz hsize hby hzs hsz v n xs hs (hown.own.alloc _) ⟨wr.heap.size, 0, none⟩ 1 1 us.toList hx (by simp [hus]) ?_ h1 h63 hbytes (by simp; omega) ?_
  · intro j u hu
    have e0 : (⟨wr.heap.size, 0, none⟩ : Addr).add j = ⟨wr.heap.size, j, none⟩ := by unfold Addr.add; simp; omega
    rw [e0, (Blk.new wr e us).cell j]
    simpa using hu
  · intro v' w' hown' hgrow hnil
    exact h v' w' ⟨hown', fun h0 => hown.nn (hnil.1 h0).1⟩ (by
      have ga := World.grownBy_alloc wr (.cells us e) v.ownBlock
      exact ⟨hgrow.os.trans ga.os, hgrow.tape.trans ga.tape, hgrow.output.trans ga.output, Nat.le_trans ga.size hgrow.size, fun i hi hne => (hgrow.block i (Nat.lt_of_lt_of_le hi ga.size) hne).trans (ga.block i hi hne)⟩)
/-- What l11List answers. -/
structure ListOut (g B : Nat) (w : World) (e : Ending) (w' : World) : Prop where mk :: (out : ∃ (gl cap n : Nat) (L : List Fi), e = .returned (.slice (some ⟨gl, 0, none⟩) n cap) ∧ Row w' gl 42 (fcells L) ∧ L.length = n ∧ n ≤ 6 ∧ GoodL L ∧ Rd w' g (B + 1000) ∧ But g w w')
set_option maxRecDepth 100000 in
set_option maxHeartbeats 2000000 in
theorem slist_calls (g B : Nat) (w : World) (hr : Rd w g B) (hB : B ≤ 100000) :
    Calls Tryz.prog 69 #[.pointer (some ⟨g, 0, none⟩)] w (ListOut g B w) := by
  have hgw : g < w.heap.size := hr.lt
  obtain ⟨i0, hi, hz0, hz1, hz2⟩ := info_parts2 entinfo
  have R0 := Own.new (base := w.heap.size) w 42 8 #[] 0 (Nat.zero_le _) rfl (Nat.le_refl _)
  have O0 := (On.refl w).alloc (.cells #[] 42)
  have hr0 := hr.on O0
  have T0 := But.of (g := g) O0
  go_enter Tryz.func69, Tryz.ntmps69
  go_wp2_with fail
  generalize hwa : w.alloc (.cells #[] 42) = wa at *
  clear hwa
  refine (pick_calls g B 5 wa hr0 (by omega) (by omega) (by omega)).mono ?_
  rintro e w1 ⟨k0, hk0, rfl, hr1, T1⟩
  replace R0 := ownBut R0 T1 hgw
  replace T1 := T0.trans T1
  clear T0 O0 hr0
  go_wp2_with fail
  go_loopw [3, 4, 13, 18, 19] (fun ov kv _ _ _ wr => ∃ (k n C : Nat) (L : List Fi), kv = .int .i64 k ∧ k ≤ 4 ∧ Own w.heap.size wr 42 8 ov n (fcells L) ∧ L.length = n ∧ n ≤ 6 ∧ GoodL L ∧ Rd wr g C ∧ C + 60 * k ≤ B + 400 ∧ But g w wr) (fun _ kv _ _ _ _ => (intOf kv).toNat)
  case atStart => exact ⟨k0, 0, B + 1, [], rfl, by omega, R0, rfl, by omega, GoodL.nil, hr1, by omega, T1⟩
  case round =>
    obtain ⟨k, n, C, L, rfl, hk, hown, hL, h6, hG, hr, hC, T⟩ := hrel
    by_cases h0 : k = 0
    · subst h0
      go_wp2_with fail
      refine (pick_calls g C 24 wr hr (by omega) (by omega) (by omega)).mono ?_
      rintro e w2 ⟨j, hj, rfl, hr2, T2⟩
      have hown2 := ownBut hown T2 hgw
      have Tt := T.trans T2
      clear hown
      obtain ⟨gl, cap, rfl, hgl, hrow, hnc, hcm, hlen⟩ := hown2.parts
      by_cases hj0 : j = 0
      · subst hj0
        clear hrow hlen hnc hcm hgl
        go_wp2_with fail
        go_loopw [3, 5] (fun ov kv wr => ∃ (n C' : Nat) (L : List Fi), kv = .int .i64 n ∧ Own w.heap.size wr 42 8 ov n (fcells L) ∧ L.length = n ∧ n ≤ 6 ∧ GoodL L ∧ Rd wr g C' ∧ C' + 10 * (6 - n) ≤ B + 600 ∧ But g w wr) (fun _ kv _ => 6 - (intOf kv).toNat)
        case atStart => exact ⟨n, C + 1, L, rfl, hown2, hL, h6, hG, hr2, by omega, Tt⟩
        case round =>
          clear hr2 hG hL h6 hown2 Tt T2 T hr hC
          obtain ⟨n, C', L, rfl, hown, hL, h6, hG, hr, hC, T⟩ := hrel
          by_cases hlt : n < 6
          · obtain ⟨nmf, hnmf⟩ : ∃ nmf, nmf = (⟨#[102]⟩ : ByteArray) ++ strB [48 + n] := ⟨_, rfl⟩
            have HFN := Lib.hid (fname_ok hlt)
            have HFO := Lib.hid (fun y m d hh mi s ok => file_ok (y := y) (m := m) (d := d) (hh := hh) (mi := mi) (s := s) hlt ok)
            rw [← hnmf] at HFN HFO
            have HNM := Lib.hid hnmf
            have hsz := strB_size [48 + n]
            have HD := Lib.hid (fun w => sdec_calls n (by omega) w)
            clear hnmf
            generalize strB [48 + n] = dg at *
            have hlt' : (n : Int) < 6 := by omega
            go_wp2_with fail
            refine (HD.out wr).mono ?_
            rintro e w3 ⟨rfl, O3⟩
            have hown3 := hown.on O3
            have hr3 := hr.on O3
            have T3 := T.trans (But.of (g := g) O3)
            go_wp2_with fail
            refine (stamp_ok g C' w3 hr3 (by omega)).mono ?_
            rintro e w4 ⟨y, m, d, h, mi, s, rfl, hr4, T4, hok⟩
            unfold stv
            have hown4 := ownBut hown3 T4 hgw
            have Tt4 := T3.trans T4
            rw [← HNM.out]
            have HOK := Lib.hid hok
            clear hok hown hown3 T3 T4 O3 hsz
            obtain ⟨gl4, cap4, rfl, hgl4, hrow4, hnc4, hcm4, hlen4⟩ := hown4.parts
            clear hrow4 hlen4
            go_wp2_with (at_builtin; go_must (refine wpList_appB rfl _ _ 22 rfl w i0 (.agg #[.string ByteArray.empty, .int .i64 0, .int .i64 0, .int .i64 0, .int .i64 0, .int .i64 0, .int .i64 0, .string ByteArray.empty]) 80 8 Tryz.underlying22 hi hz0 hz1 hz2 rfl (by decide) rfl _ _ _ rfl hown4 Tt4.size (by simp [Act.eval]) (by simp [Value.oneCell']) (by unfold maxLen; omega) (by omega) ?_); intro v5 w5 hown5 K5)
            have hr5 : Rd w5 g (C' + 6) := hr4.grow hr4.lt (fun i hi => K5.block i (by have := hr4.lt; omega) (fun e => by
              have e2 : i = gl4 := Option.some.inj e
              have := hr4.lt
              omega))
            have T5 := ButOwn Tt4 K5 (fun j hj => by
              have e2 : gl4 = j := Option.some.inj hj
              omega)
            go_wp2_with fail
            refine ⟨⟨n + 1, C' + 10, L ++ [⟨nmf, y, m, d, h, mi, s, ⟨#[]⟩⟩], by go_num, by rw [fcells_append]; exact hown5, by rw [List.length_append, hL]; rfl, by omega, hG.add (HFO.out y m d h mi s HOK.out) HFN.out.2, hr5.le (by omega), by omega, T5⟩, by simp [intOf]; omega⟩
          · have hlt' : ¬ (n : Int) < 6 := by omega
            obtain ⟨gl, cap, rfl, hgl, hrow, hnc, hcm, hlen⟩ := hown.parts
            go_wp2_with fail
            go_ret
            exact ⟨gl, cap, n, L, rfl, hrow, hL, h6, hG, hr.le (by omega), T⟩
      · have hj1 : ((j : Int) == 0) = false := by simp; omega
        go_wp2_with fail
        go_ret
        exact ⟨gl, cap, n, L, rfl, hrow, hL, h6, hG, hr2.le (by omega), Tt⟩
    · have hpos : (0 : Int) < (k : Int) := by omega
      have ek : IntKind.i64.wrap ((k : Int) - 1) = ((k - 1 : Nat) : Int) := by rw [IntKind.wrap_i64]; omega
      have ek2 : (k : Int) - 1 = ((k - 1 : Nat) : Int) := by omega
      go_wp2_with fail
      refine (entry_nob g C wr hr (by omega)).mono ?_
      rintro e w2 ⟨nm, y, m, d, h, mi, s, tx, rfl, hnm, htx, hr2, T2⟩
      unfold env
      have hown2 := ownBut hown T2 hgw
      have Tt := T.trans T2
      go_wp2_with fail
      refine (sl8add_calls w.heap.size _ L nm y m d h mi s tx w2 Tt.size n hL hown2 h6 hG.small (by omega) (by omega)).mono ?_
      rintro e w3 ⟨v3, n3, L3, c3, rfl, O3, hown3, hL3, hcase⟩
      have hG3 : GoodL L3 ∧ n3 ≤ 6 := by
        rcases hcase with rfl | ⟨rfl, h1, h2⟩
        · exact ⟨hG, by omega⟩
        · refine ⟨hG.add h1 hnm.2, ?_⟩
          rw [List.length_append] at hL3
          have : ([⟨nm, y, m, d, h, mi, s, tx⟩] : List Fi).length = 1 := rfl
          omega
      have hr3 := hr2.on O3
      have Tt3 := Tt.trans (But.of (g := g) O3)
      clear hcase hown2 hown
      go_wp2_with fail
      exact ⟨⟨k - 1, n3, C + 60, L3, rfl, by omega, hown3, hL3, hG3.2, hG3.1, hr3, by omega, Tt3⟩, by simp [intOf]; omega⟩
/-- What l11Zip answers. -/
structure ZipDrawn (g B : Nat) (w : World) (e : Ending) (w' : World) : Prop where mk :: (out : ∃ (L : List Fi), e = .returned (.string (putB L)) ∧ L.length ≤ 6 ∧ GoodL L ∧ Rd w' g (B + 1000) ∧ But g w w')
set_option maxRecDepth 100000 in
theorem szip_calls (g B : Nat) (w : World) (hr : Rd w g B) (hB : B ≤ 100000) : Calls Tryz.prog 43 #[.pointer (some ⟨g, 0, none⟩)] w (ZipDrawn g B w) := by
  go_enter Tryz.func43, Tryz.ntmps43
  go_wp2_with fail
  refine (slist_calls g B w hr hB).mono ?_
  rintro e w1 ⟨gl, cap, n, L, rfl, hrow, hL, h6, hG, hr1, T1⟩
  have HP := Lib.hid (sl7put_calls gl cap L w1 (FiAt.row hrow) hG.ok (by omega))
  rw [hL] at HP
  go_wp2_with fail
  refine HP.out.mono ?_
  rintro e w2 ⟨rfl, O2⟩
  go_wp2_with fail
  go_ret
  exact ⟨L, rfl, by omega, hG, hr1.on O2, T1.trans (But.of O2)⟩
/-- A bent archive of files that are ok. -/
def ZipBent (t : ByteArray) : Prop := t.size ≤ 5000 ∧ ∃ L, GoodL L ∧ L.length ≤ 6 ∧ BentTo (putB L) t
set_option maxRecDepth 100000 in
theorem drawzipget_calls (a0 : Option Addr) (len0 cap0 : Nat) (z0 : List Int) (w : World) (w0 : (a0 = none ∧ len0 = 0 ∧ cap0 = 0 ∧ z0 = []) ∨ ∃ x, a0 = some x ∧ len0 ≤ cap0 ∧ cap0 ≤ maxLen ∧ z0.length = cap0 ∧ (∀ i, i < z0.length → w.cell? (x.add i) = some (.int .u8 (z0.getD i 0))) ∧ ∀ n ∈ z0, (Lit.int .u8 n).wf = true) :
    Calls Tryz.prog 47 #[.slice a0 len0 cap0] w fun e w' => ∃ t : ByteArray, ZipBent t ∧ e = .returned (.string t) ∧ On w w' := by
  go_enter Tryz.func47, Tryz.ntmps47
  go_wp2_with fail
  refine (open_calls a0 len0 cap0 z0 w w0).mono ?_
  rintro e w1 ⟨g, rfl, hr, hg, O⟩
  go_wp2_with fail
  refine (szip_calls g 0 w1 hr (by omega)).mono ?_
  rintro e w2 ⟨L, rfl, h6, hG, hr2, T⟩
  have hz := putB_le hG.ok h6
  have HL := Lib.hid (show ∀ t, BentTo (putB L) t → t.size ≤ (putB L).size + 10 → ZipBent t from fun t ht hs => ⟨by omega, L, hG, h6, ht⟩)
  generalize putB L = s at *
  go_wp2_with fail
  refine (zbent_calls g _ s w2 hr2 (by omega) (by omega)).mono ?_
  rintro e w3 ⟨t, ht, rfl, hr3, T3⟩
  go_wp2_with fail
  go_ret
  exact ⟨t, HL.out t ht.1 ht.2, rfl, (T.trans T3).on O hg⟩
set_option maxRecDepth 100000 in
theorem drawzipnames_calls (a0 : Option Addr) (len0 cap0 : Nat) (z0 : List Int) (w : World) (w0 : (a0 = none ∧ len0 = 0 ∧ cap0 = 0 ∧ z0 = []) ∨ ∃ x, a0 = some x ∧ len0 ≤ cap0 ∧ cap0 ≤ maxLen ∧ z0.length = cap0 ∧ (∀ i, i < z0.length → w.cell? (x.add i) = some (.int .u8 (z0.getD i 0))) ∧ ∀ n ∈ z0, (Lit.int .u8 n).wf = true) :
    Calls Tryz.prog 19 #[.slice a0 len0 cap0] w fun e w' => ∃ t : ByteArray, ZipBent t ∧ e = .returned (.string t) ∧ On w w' := by
  go_enter Tryz.func19, Tryz.ntmps19
  go_wp2_with fail
  refine (drawzipget_calls a0 len0 cap0 z0 w w0).mono ?_
  rintro e w1 ⟨t, ht, rfl, O⟩
  go_wp2_with fail
  go_ret
  exact ⟨t, ht, rfl, O⟩
set_option maxRecDepth 100000 in
theorem drawzipfind_calls (a0 : Option Addr) (len0 cap0 : Nat) (z0 : List Int) (w : World) (w0 : (a0 = none ∧ len0 = 0 ∧ cap0 = 0 ∧ z0 = []) ∨ ∃ x, a0 = some x ∧ len0 ≤ cap0 ∧ cap0 ≤ maxLen ∧ z0.length = cap0 ∧ (∀ i, i < z0.length → w.cell? (x.add i) = some (.int .u8 (z0.getD i 0))) ∧ ∀ n ∈ z0, (Lit.int .u8 n).wf = true) :
    Calls Tryz.prog 14 #[.slice a0 len0 cap0] w fun e w' => ∃ t nm : ByteArray, ZipBent t ∧ nm.size ≤ 20 ∧ e = .returned (.tuple #[.string t, .string nm]) ∧ On w w' := by
  go_enter Tryz.func14, Tryz.ntmps14
  go_wp2_with fail
  refine (open_calls a0 len0 cap0 z0 w w0).mono ?_
  rintro e w1 ⟨g, rfl, hr, hg, O⟩
  go_wp2_with fail
  refine (szip_calls g 0 w1 hr (by omega)).mono ?_
  rintro e w2 ⟨L, rfl, h6, hG, hr2, T⟩
  have hz := putB_le hG.ok h6
  have HL := Lib.hid (show ∀ t, BentTo (putB L) t → t.size ≤ (putB L).size + 10 → ZipBent t from fun t ht hs => ⟨by omega, L, hG, h6, ht⟩)
  generalize putB L = s at *
  go_wp2_with fail
  refine (zbent_calls g _ s w2 hr2 (by omega) (by omega)).mono ?_
  rintro e w3 ⟨t, ht, rfl, hr3, T3⟩
  go_wp2_with fail
  refine (name_calls g _ w3 hr3 (by omega)).mono ?_
  rintro e w4 ⟨nm, hnm, rfl, hr4, T4⟩
  go_wp2_with fail
  go_ret2
  exact ⟨t, nm, HL.out t ht.1 ht.2, hnm, rfl, ((T.trans T3).trans T4).on O hg⟩
end Go.Proofs.YtnadjlejlohgiaaGreatDoor.Draw

