/- Own texts joined: Ep, Zz, Zf, Zk, Zg0, Zg1, Ez5, Ez6, Ez7. -/
import Derived.Deep.DeepCutAuto
import Derived.WalkSpells
import Derived.Deep.QuietTactic
import Derived.BigQuiet
import Derived.Test.YtnadjlejlohgiaaGreatDoorZ0
import Derived.Test.YtnadjlejlohgiaaGreatDoorZ5
import Derived.Test.YtnadjlejlohgiaaGreatDoorZ27
import Derived.Test.YtnadjlejlohgiaaGreatDoorZ32
import Derived.Test.YtnadjlejlohgiaaGreatDoorZ33
import Derived.Test.YtnadjlejlohgiaaGreatDoorZ34
/- Files of an archive that are ok. Nothing is walked here. -/
namespace Go.Proofs.YtnadjlejlohgiaaGreatDoor.Nm
open Go.RowKit Go.Proofs.YtnadjlejlohgiaaGreatDoor.Mem
set_option linter.unusedVariables false
def enOk (f : Fi) : Bool := entryOk f.nm f.y f.m f.d f.h f.mi f.s f.tx
/-- An archive is ok. -/
def EnAt (L : List Fi) (i : Nat) : Prop := ∃ f, L[i]? = some f ∧ enOk f = true
theorem EnAt.iff {L : List Fi} {i : Nat} (h : i < L.length) : EnAt L i ↔ enOk L[i] = true := by
  unfold EnAt
  rw [List.getElem?_eq_getElem h]
  exact ⟨fun ⟨f, hf, hk⟩ => by cases hf; exact hk, fun hk => ⟨_, rfl, hk⟩⟩
def ZipOk (L : List Fi) : Prop := (∀ i, i < L.length → EnAt L i) ∧ Apart L ∧ L.length ≤ 6
end Go.Proofs.YtnadjlejlohgiaaGreatDoor.Nm

/- An archive read back, in plain words: files one behind the other, the list of their heads, the end. Nothing is walked here. -/
namespace Go.Proofs.YtnadjlejlohgiaaGreatDoor.Lc
open Go.RowKit Go.Proofs.YtnadjlejlohgiaaGreatDoor.Mem Go.Proofs.YtnadjlejlohgiaaGreatDoor.Nm Go.Proofs.YtnadjlejlohgiaaGreatDoor.Nb Go.Proofs.YtnadjlejlohgiaaGreatDoor.Cr Go.Proofs.YtnadjlejlohgiaaGreatDoor.Wi Go.Proofs.YtnadjlejlohgiaaGreatDoor.De
set_option linter.unusedVariables false
set_option linter.unusedSimpArgs false
def tail (s : ByteArray) (a : Nat) : ByteArray := s.extract a s.size
theorem tail_size (s : ByteArray) (a : Nat) : (tail s a).size = s.size - a := by unfold tail; rw [ByteArray.size_extract]; omega
theorem ch_tail (s : ByteArray) (a : Nat) : chars (tail s a) = (chars s).drop a := by
  unfold tail
  rw [ch_extract, List.take_of_length_le (by rw [List.length_drop, chars_length]; exact Nat.le_refl _)]
theorem tail_zero (s : ByteArray) : tail s 0 = s := chars_ext (by rw [ch_tail]; rfl)
theorem tail_tail (s : ByteArray) (a b : Nat) : tail (tail s a) b = tail s (a + b) := chars_ext (by rw [ch_tail, ch_tail, ch_tail, List.drop_drop])
/-- The place of the k-th file. -/
def pos (s : ByteArray) : Nat → Nat
  | 0 => 0
  | k + 1 => pos s k + rdLong (tail s (pos s k))
def txt (s : ByteArray) (k : Nat) : Option ByteArray := locText (tail s (pos s k))
def good (s : ByteArray) (k : Nat) : Prop := ∀ i, i < k → (txt s i).isSome = true
def fileAt (s : ByteArray) (i : Nat) : Fi := fiOf (tail s (pos s i)) ((txt s i).getD ⟨#[]⟩)
def files (s : ByteArray) (k : Nat) : List Fi := (List.range k).map (fileAt s)
def pc (s : ByteArray) (i : Nat) : ByteArray := (tail s (pos s i)).extract 0 (rdLong (tail s (pos s i)))
def pcs (s : ByteArray) (k : Nat) : List ByteArray := (List.range k).map (pc s)
theorem files_length (s : ByteArray) (k : Nat) : (files s k).length = k := by unfold files; rw [List.length_map, List.length_range]
theorem pcs_length (s : ByteArray) (k : Nat) : (pcs s k).length = k := by unfold pcs; rw [List.length_map, List.length_range]
theorem files_succ (s : ByteArray) (k : Nat) : files s (k + 1) = files s k ++ [fileAt s k] := by unfold files; rw [List.range_succ, List.map_append]; rfl
theorem pcs_succ (s : ByteArray) (k : Nat) : pcs s (k + 1) = pcs s k ++ [pc s k] := by unfold pcs; rw [List.range_succ, List.map_append]; rfl
theorem nB_m1 : nB 4 33639248 = ⟨#[80, 75, 1, 2]⟩ := by decide
theorem nB_m2 : nB 4 101010256 = ⟨#[80, 75, 5, 6]⟩ := by decide
/-- The archive of k files, all of the text. -/
def zipIs (s : ByteArray) (k : Nat) : Prop := k ≤ 6 ∧ good s k ∧ ZipOk (files s k) ∧ tail s (pos s k) = closB (pcs s k)
theorem good_head {s : ByteArray} {k i : Nat} (h : good s k) (hi : i < k) : headOk (tail s (pos s i)) := by
  have h1 := h i hi
  unfold txt locText at h1
  by_cases hk : headOk (tail s (pos s i))
  · exact hk
  · rw [if_neg hk] at h1; cases h1
theorem pos_le {s : ByteArray} : ∀ {k : Nat}, good s k → pos s k ≤ s.size
  | 0, _ => Nat.zero_le _
  | k + 1, h => by
    have h1 := pos_le (s := s) (k := k) fun i hi => h i (by omega)
    have h2 := (good_head h (Nat.lt_succ_self k)).2.2.2.2.2
    rw [tail_size] at h2
    show pos s k + rdLong _ ≤ _
    unfold rdLong
    omega
theorem pc_size {s : ByteArray} {k i : Nat} (h : good s k) (hi : i < k) : (pc s i).size = rdLong (tail s (pos s i)) := by
  have h2 := (good_head h hi).2.2.2.2.2
  unfold pc
  rw [ByteArray.size_extract]
  unfold rdLong
  omega
theorem pcs_getD {s : ByteArray} {k i : Nat} (hi : i < k) : (pcs s k).getD i ⟨#[]⟩ = pc s i := by
  unfold pcs
  rw [List.getD_eq_getElem?_getD, List.getElem?_map, List.getElem?_range hi]; rfl
theorem pcs_take {s : ByteArray} {k i : Nat} (hi : i ≤ k) : (pcs s k).take i = pcs s i := by
  unfold pcs
  rw [← List.map_take, List.take_range, Nat.min_eq_left hi]
theorem atL_pcs {s : ByteArray} {k : Nat} (h : good s k) : ∀ {i : Nat}, i ≤ k → atL (pcs s k) i = pos s i
  | 0, _ => rfl
  | i + 1, hi => by
    have ih := atL_pcs h (i := i) (by omega)
    unfold atL at ih ⊢
    rw [pcs_take (by omega)] at ih
    rw [pcs_take hi, pcs_succ, List.map_append, List.sum_append, ih, List.map_cons, List.map_nil, List.sum_cons, List.sum_nil, pc_size h (by omega)]
    rfl
theorem sub_sub (l : List Nat) {p L a n : Nat} (h : a + n ≤ L) : (((l.drop p).take L).drop a).take n = (l.drop (p + a)).take n := by
  rw [List.drop_take, List.take_take, List.drop_drop, Nat.min_eq_left (by omega)]
theorem numL_sub (l : List Nat) {p L a n : Nat} (h : a + n ≤ L) : numL ((l.drop p).take L) a n = numL l (p + a) n := by unfold numL; rw [sub_sub l h]
theorem numL_drop (l : List Nat) (p a n : Nat) : numL (l.drop p) a n = numL l (p + a) n := by unfold numL; rw [List.drop_drop]
theorem ch_pc (s : ByteArray) (i : Nat) : chars (pc s i) = ((chars s).drop (pos s i)).take (rdLong (tail s (pos s i))) := by
  unfold pc
  rw [ch_extract, ch_tail]; rfl
theorem numAtB_tail (s : ByteArray) (p a n : Nat) : numAtB (tail s p) a n = numAtB s (p + a) n := by rw [numAtB_eq, numAtB_eq, ch_tail, numL_drop]
/-- A head of the list, as bytes. -/
def cH (l : List Nat) (p : Nat) : List Nat := (numB 4 33639248 ++ numB 2 20) ++ ((l.drop (p + 4)).take 26 ++ ((numB 10 0 ++ numB 4 p) ++ (l.drop (p + 30)).take (numL l (p + 26) 2)))
theorem ch_cHead {s : ByteArray} {k i : Nat} (h : good s k) (hi : i < k) : chars (cHead (pc s i) (pos s i)) = cH (chars s) (pos s i) := by
  have h30 : 30 + numAtB s (pos s i + 26) 2 ≤ rdLong (tail s (pos s i)) := by unfold rdLong; rw [numAtB_tail]; omega
  have e1 : numAtB (pc s i) 26 2 = numAtB s (pos s i + 26) 2 := by rw [numAtB_eq, numAtB_eq, ch_pc, numL_sub _ (by omega)]
  unfold cHead cH
  rw [e1]
  simp only [ch_append, chars_nB, ch_extract, ch_pc, ← nB_m1, List.append_assoc]
  rw [sub_sub _ (by omega), sub_sub _ (by omega), numAtB_eq, show 30 + numL (chars s) (pos s i + 26) 2 - 30 = numL (chars s) (pos s i + 26) 2 from by omega]
/-- The head in the list at H is that of the file at p. -/
def fineL (l : List Nat) (H p : Nat) : Prop :=
  H + 30 ≤ l.length ∧ H + (46 + numL l (H + 28) 2) ≤ l.length ∧ p + 30 + numL l (H + 28) 2 ≤ l.length ∧ (l.drop (H + 6)).take 26 = (l.drop (p + 4)).take 26 ∧ (l.drop (H + 46)).take (numL l (H + 28) 2) = (l.drop (p + 30)).take (numL l (H + 28) 2) ∧
    (l.drop H).take 6 = numB 4 33639248 ++ numB 2 20 ∧ (l.drop (H + 32)).take 14 = numB 10 0 ++ numB 4 p
theorem cut4 (l : List Nat) (H n : Nat) : (l.drop H).take (46 + n) = (l.drop H).take 6 ++ ((l.drop (H + 6)).take 26 ++ ((l.drop (H + 32)).take 14 ++ (l.drop (H + 46)).take n)) := by
  rw [show 46 + n = 6 + (26 + (14 + n)) from by omega, List.take_add, List.take_add, List.take_add, List.drop_drop, List.drop_drop, List.drop_drop]
theorem name_same {l : List Nat} {H p : Nat} (h : (l.drop (H + 6)).take 26 = (l.drop (p + 4)).take 26) : numL l (H + 28) 2 = numL l (p + 26) 2 := by
  have e : numOf ((((l.drop (H + 6)).take 26).drop 22).take 2) = numOf ((((l.drop (p + 4)).take 26).drop 22).take 2) := by rw [h]
  rw [sub_sub _ (by omega), sub_sub _ (by omega)] at e
  exact e
theorem fine_to {l : List Nat} {H p : Nat} (h : fineL l H p) : (l.drop H).take (46 + numL l (p + 26) 2) = cH l p ∧ numL l (H + 28) 2 = numL l (p + 26) 2 := by
  obtain ⟨_, _, _, h4, h5, h6, h7⟩ := h
  have e := name_same h4
  refine ⟨?_, e⟩
  rw [cut4, h6, h4, h7, ← e, h5, e]; rfl
theorem fine_of {l : List Nat} {H p : Nat} (hH : H + (46 + numL l (p + 26) 2) ≤ l.length) (hp : p + 30 + numL l (p + 26) 2 ≤ l.length) (h : (l.drop H).take (46 + numL l (p + 26) 2) = cH l p) : fineL l H p := by
  rw [cut4] at h
  unfold cH at h
  have z1 : ((l.drop H).take 6).length = (numB 4 33639248 ++ numB 2 20).length := by rw [List.length_take, List.length_drop, List.length_append, numB_length, numB_length]; omega
  obtain ⟨a1, h⟩ := List.append_inj h z1
  have z2 : ((l.drop (H + 6)).take 26).length = ((l.drop (p + 4)).take 26).length := by rw [List.length_take, List.length_drop, List.length_take, List.length_drop]; omega
  obtain ⟨a2, h⟩ := List.append_inj h z2
  have z3 : ((l.drop (H + 32)).take 14).length = (numB 10 0 ++ numB 4 p).length := by rw [List.length_take, List.length_drop, List.length_append, numB_length, numB_length]; omega
  obtain ⟨a3, a4⟩ := List.append_inj h z3
  have e := name_same a2
  exact ⟨by omega, by omega, by omega, a2, by rw [e]; exact a4, a1, a3⟩
/-- The heads' bytes. -/
def hL (s : ByteArray) (k i : Nat) : Nat := (hdsL (pcs s k) i).size
theorem ch_hds {s : ByteArray} {k i : Nat} (h : good s k) (hi : i < k) : chars (hdsL (pcs s k) (i + 1)) = chars (hdsL (pcs s k) i) ++ cH (chars s) (pos s i) := by
  show chars (hdsL (pcs s k) i ++ _) = _
  rw [ch_append, pcs_getD hi, atL_pcs h (by omega), ch_cHead h hi]
theorem zfits {s : ByteArray} {k i : Nat} (h : good s k) (hi : i < k) : pos s i + 30 + numL (chars s) (pos s i + 26) 2 ≤ (chars s).length := by
  have h2 := (good_head h hi).2.2.2.2.2
  have h3 := pos_le (k := i) fun j hj => h j (by omega)
  have h4 := (good_head h hi).1
  rw [tail_size] at h2 h4
  rw [numAtB_tail, numAtB_eq] at h2
  rw [chars_length]
  omega
theorem cH_length {s : ByteArray} {k i : Nat} (h : good s k) (hi : i < k) : (cH (chars s) (pos s i)).length = 46 + numL (chars s) (pos s i + 26) 2 := by
  have h1 := zfits h hi
  unfold cH
  simp only [List.length_append, numB_length, List.length_take, List.length_drop]
  omega
theorem hL_succ {s : ByteArray} {k i : Nat} (h : good s k) (hi : i < k) : hL s k (i + 1) = hL s k i + (46 + numL (chars s) (pos s i + 26) 2) := by
  unfold hL
  rw [← chars_length, ch_hds h hi, List.length_append, chars_length, cH_length h hi]
theorem hds_pre {s : ByteArray} {k : Nat} (h : good s k) {i : Nat} : ∀ {j : Nat}, i ≤ j → j ≤ k → ∃ r, chars (hdsL (pcs s k) j) = chars (hdsL (pcs s k) i) ++ r := by
  intro j hij hj
  induction j with
  | zero => obtain rfl : i = 0 := by omega
            exact ⟨[], by rw [List.append_nil]⟩
  | succ j ih =>
    by_cases e : i = j + 1
    · subst e; exact ⟨[], by rw [List.append_nil]⟩
    · obtain ⟨r, hr⟩ := ih (by omega) (by omega)
      exact ⟨r ++ cH (chars s) (pos s j), by rw [ch_hds h (by omega), hr, List.append_assoc]⟩
/-- The reference's look at the list: each head is its file's, and then the end. -/
theorem heads_to {s : ByteArray} {k : Nat} (h : good s k) (hf : ∀ i, i < k → fineL (chars s) (pos s k + hL s k i) (pos s i)) (he : tail s (pos s k + hL s k k) = endB k (hL s k k) (pos s k)) : tail s (pos s k) = closB (pcs s k) := by
  have P : ∀ i, i ≤ k → ((chars s).drop (pos s k)).take (hL s k i) = chars (hdsL (pcs s k) i) := by
    intro i
    induction i with
    | zero => intro _; rfl
    | succ i ih =>
      intro hi
      have f := (fine_to (hf i (by omega))).1
      rw [hL_succ h (by omega), List.take_add, List.drop_drop, ih (by omega), f, ch_hds h (by omega)]
  apply chars_ext
  rw [closB_is, ch_append, ch_tail, pcs_length, atL_pcs h (Nat.le_refl _), ← P k (Nat.le_refl _)]
  have e := congrArg chars he
  rw [ch_tail] at e
  have : (hdsL (pcs s k) k).size = hL s k k := rfl
  rw [this, ← e, ← List.drop_drop, List.take_append_drop]
theorem heads_of {s : ByteArray} {k : Nat} (h : good s k) (hc : tail s (pos s k) = closB (pcs s k)) : (∀ i, i < k → fineL (chars s) (pos s k + hL s k i) (pos s i)) ∧ tail s (pos s k + hL s k k) = endB k (hL s k k) (pos s k) := by
  have e := congrArg chars hc
  rw [closB_is, ch_append, ch_tail, pcs_length, atL_pcs h (Nat.le_refl _)] at e
  have hn := congrArg List.length e
  rw [List.length_append, List.length_drop, chars_length, chars_length, chars_length, endB_size] at hn
  have hk : (hdsL (pcs s k) k).size = hL s k k := rfl
  constructor
  · intro i hi
    obtain ⟨r, hr⟩ := hds_pre h (i := i + 1) (show i + 1 ≤ k from hi) (Nat.le_refl _)
    have hrl := congrArg List.length hr
    rw [List.length_append, chars_length, chars_length, hk, show (hdsL (pcs s k) (i + 1)).size = hL s k (i + 1) from rfl, hL_succ h hi] at hrl
    refine fine_of ?_ (zfits h hi) ?_
    · rw [chars_length]; omega
    · rw [ch_hds h hi] at hr
      rw [hr, List.append_assoc, List.append_assoc] at e
      rw [← List.drop_drop, e, show hL s k i = (chars (hdsL (pcs s k) i)).length from (chars_length _).symm, List.drop_left, ← cH_length h hi, List.take_left]
  · apply chars_ext
    rw [ch_tail, ← List.drop_drop, e, hk, show hL s k k = (chars (hdsL (pcs s k) k)).length from (chars_length _).symm, List.drop_left]
/-- What an archive's end tells: how many files there are. -/
theorem many_of {s : ByteArray} {k : Nat} (hk : k ≤ 6) (h : good s k) (hc : tail s (pos s k) = closB (pcs s k)) : 12 ≤ s.size ∧ numAtB s (s.size - 12) 2 = k := by
  have h1 := (heads_of h hc).2
  have hn := congrArg ByteArray.size h1
  rw [tail_size, endB_size] at hn
  refine ⟨by omega, ?_⟩
  have e : s.size - 12 = pos s k + hL s k k + 10 := by omega
  rw [e, ← numAtB_tail, h1, numAtB_eq]
  have e2 : chars (endB k (hL s k k) (pos s k)) = (numB 4 101010256 ++ (numB 4 0 ++ numB 2 k)) ++ (numB 2 k ++ (numB 4 (hL s k k) ++ (numB 4 (pos s k) ++ numB 2 0))) := by
    unfold endB
    simp only [ch_append, chars_nB, ← nB_m2, List.append_assoc]
  unfold numL
  rw [e2, List.drop_left' (by simp only [List.length_append, numB_length]), List.take_left' (numB_length 2 k), numOf_numB 2 k (by omega)]
/-- Behind an archive's files there is no other. -/
theorem none_of {s : ByteArray} {k : Nat} (h : good s k) (hc : tail s (pos s k) = closB (pcs s k)) : txt s k = none := by
  have hh : ¬ headOk (tail s (pos s k)) := by
    intro hk
    have h0 := hk.2.1
    rw [hc, closB_is, numAtB_eq, ch_append, pcs_length, numL, List.drop_zero] at h0
    rcases Nat.eq_zero_or_pos k with rfl | hp
    · have e : chars (hdsL (pcs s 0) 0) = [] := rfl
      rw [e, List.nil_append] at h0
      have e2 : ∀ a b, (chars (endB 0 a b)).take 4 = numB 4 101010256 := by
        intro a b
        unfold endB
        simp only [ch_append, chars_nB, ← nB_m2, List.append_assoc]
        rw [List.take_left' (numB_length 4 _)]
      rw [e2, numOf_numB 4 _ (by decide)] at h0
      omega
    · obtain ⟨r, hr⟩ := hds_pre h (i := 1) hp (Nat.le_refl _)
      rw [hr, ch_hds h hp] at h0
      have e0 : chars (hdsL (pcs s k) 0) = [] := rfl
      rw [e0, List.nil_append, cH] at h0
      simp only [List.append_assoc] at h0
      rw [List.take_left' (numB_length 4 _), numOf_numB 4 _ (by decide)] at h0
      omega
  unfold txt locText
  rw [if_neg hh]
theorem zipIs_none {s : ByteArray} {k : Nat} (h : zipIs s k) : txt s k = none := none_of h.2.1 h.2.2.2
theorem zipIs_one {s : ByteArray} {j k : Nat} (h : zipIs s j) (hg : good s k) (hk : k = 6 ∨ txt s k = none) : j = k := by
  have h1 := zipIs_none h
  rcases Nat.lt_trichotomy j k with hl | he | hl
  · have := hg j hl
    rw [h1] at this; cases this
  · exact he
  · have h6 := h.1
    rcases hk with rfl | hk
    · omega
    · have := h.2.1 k hl
      rw [hk] at this; cases this
open Classical in
/-- What is read of an archive. -/
noncomputable def zipGot (s : ByteArray) : List Fi × Bool := if h : ∃ k, zipIs s k then (files s (Classical.choose h), true) else ([], false)
theorem zipIs_inj {s : ByteArray} {j k : Nat} (h : zipIs s j) (h2 : zipIs s k) : j = k := zipIs_one h h2.2.1 (.inr (zipIs_none h2))
theorem zipGot_yes {s : ByteArray} {k : Nat} (h : zipIs s k) : zipGot s = (files s k, true) := by
  have hx : ∃ k, zipIs s k := ⟨k, h⟩
  unfold zipGot
  rw [dif_pos hx, zipIs_inj (Classical.choose_spec hx) h]
theorem zipGot_no {s : ByteArray} (h : ¬ ∃ k, zipIs s k) : zipGot s = ([], false) := by unfold zipGot; rw [dif_neg h]
/-- The program's way: as many files as can be read, six at most. -/
theorem zip_impl {s : ByteArray} {k : Nat} (h6 : k ≤ 6) (hg : good s k) (hk : k = 6 ∨ txt s k = none) : (ZipOk (files s k) ∧ tail s (pos s k) = closB (pcs s k) → zipGot s = (files s k, true)) ∧ (¬ (ZipOk (files s k) ∧ tail s (pos s k) = closB (pcs s k)) → zipGot s = ([], false)) :=
  ⟨fun h => zipGot_yes ⟨h6, hg, h.1, h.2⟩, fun h => zipGot_no fun ⟨j, hj⟩ => by
    obtain rfl := zipIs_one hj hg hk
    exact h ⟨hj.2.2.1, hj.2.2.2⟩⟩
/-- The reference's way: as many files as the end tells. -/
theorem zip_spec_yes {s : ByteArray} {k : Nat} (h6 : k ≤ 6) (hg : good s k) (hz : ZipOk (files s k)) (hf : ∀ i, i < k → fineL (chars s) (pos s k + hL s k i) (pos s i)) (he : tail s (pos s k + hL s k k) = endB k (hL s k k) (pos s k)) : zipGot s = (files s k, true) :=
  zipGot_yes ⟨h6, hg, hz, heads_to hg hf he⟩
theorem zip_spec_no {s : ByteArray} {k : Nat} (hm : 12 ≤ s.size → numAtB s (s.size - 12) 2 = k) (h : k ≤ 6 → good s k → ZipOk (files s k) → (∀ i, i < k → fineL (chars s) (pos s k + hL s k i) (pos s i)) → tail s (pos s k + hL s k k) = endB k (hL s k k) (pos s k) → False) : zipGot s = ([], false) := by
  refine zipGot_no fun ⟨j, hj⟩ => ?_
  have h1 := many_of hj.1 hj.2.1 hj.2.2.2
  have e := hm h1.1
  rw [h1.2] at e
  subst e
  have h2 := heads_of hj.2.1 hj.2.2.2
  exact h hj.1 hj.2.1 hj.2.2.1 h2.1 h2.2
end Go.Proofs.YtnadjlejlohgiaaGreatDoor.Lc

/- The look at a head in the list, of texts and of their bytes. Rows of files and of texts side by side. Nothing is walked here. -/
namespace Go.Proofs.YtnadjlejlohgiaaGreatDoor.Lc
open Go.RowKit Go.Proofs.YtnadjlejlohgiaaGreatDoor.Mem Go.Proofs.YtnadjlejlohgiaaGreatDoor.Nm Go.Proofs.YtnadjlejlohgiaaGreatDoor.Nb Go.Proofs.YtnadjlejlohgiaaGreatDoor.Cr Go.Proofs.YtnadjlejlohgiaaGreatDoor.Wi Go.Proofs.YtnadjlejlohgiaaGreatDoor.De
set_option linter.unusedVariables false
set_option linter.unusedSimpArgs false
theorem bytes_iff {a b : ByteArray} : a = b ↔ chars a = chars b := ⟨congrArg chars, chars_ext⟩
theorem fineB_iff (s : ByteArray) (H p : Nat) : fineB s H p ↔ fineL (chars s) H p := by
  unfold fineB fineL
  simp only [bytes_iff, ch_extract, ch_append, chars_nB, numAtB_eq, chars_length]
  generalize numL (chars s) (H + 28) 2 = nm
  rw [show H + 32 - (H + 6) = 26 from by omega, show p + 30 - (p + 4) = 26 from by omega, show H + (46 + nm) - (H + 46) = nm from by omega, show p + 30 + nm - (p + 30) = nm from by omega, show H + 6 - H = 6 from by omega, show H + 46 - (H + 32) = 14 from by omega]
end Go.Proofs.YtnadjlejlohgiaaGreatDoor.Lc

/- The list of heads at an archive's end, and the end: the program's. (Printed by tools/gen_zk.py.) -/
namespace Go.Proofs.YtnadjlejlohgiaaGreatDoor.Lc
open Go.RowKit Go.Proofs.YtnadjlejlohgiaaGreatDoor.Mem Go.Proofs.YtnadjlejlohgiaaGreatDoor.Nm Go.Proofs.YtnadjlejlohgiaaGreatDoor.Nb Go.Proofs.YtnadjlejlohgiaaGreatDoor.Cr
set_option linter.unusedVariables false
set_option linter.unusedSimpArgs false
/-- Texts that lie in a block, one a cell. -/
structure Strs (w : World) (r : Nat) (ls : List ByteArray) : Prop where mk :: (out : ∀ i, i < ls.length → w.cell? ⟨r, i, none⟩ = some (.string (ls.getD i ⟨#[]⟩)))
theorem Strs.on {w w' : World} {r : Nat} {ls : List ByteArray} (h : Strs w r ls) (O : On w w') : Strs w' r ls :=
  ⟨fun i hi => (O.cell (World.block_lt_of_cell? w _ (h.out i hi))).trans (h.out i hi)⟩
theorem num_lt (l : ByteArray) : numAtB l 26 2 < 65536 := by
  have h : numAtB l 26 2 < 256 ^ 2 := by
    unfold numAtB at_
    refine Nat.lt_of_lt_of_le (numOf_lt fun x hx => ?_) (Nat.pow_le_pow_right (by decide) (Nat.le_trans (List.length_take_le _ _) (Nat.le_refl _)))
    obtain ⟨y, _, rfl⟩ := List.mem_map.1 (List.mem_of_mem_drop (List.mem_of_mem_take hx))
    exact y.toNat_lt
  exact h
theorem cHead_size {l : ByteArray} (h : 30 + numAtB l 26 2 ≤ l.size) (p : Nat) : (cHead l p).size = 46 + numAtB l 26 2 := by
  unfold cHead
  simp only [ByteArray.size_append, nB_size, ByteArray.size_extract]
  show 4 + 2 + (min 30 l.size - 4) + 10 + 4 + (min (30 + numAtB l 26 2) l.size - 30) = _
  omega
theorem hds_le {ls : List ByteArray} (hz : ∀ l, l ∈ ls → 30 + numAtB l 26 2 ≤ l.size) : ∀ {k : Nat}, k ≤ ls.length → (hdsL ls k).size ≤ k * 70000
  | 0, _ => Nat.le_refl _
  | k + 1, h => by
    have ih := hds_le hz (k := k) (by omega)
    have hm : ls.getD k ⟨#[]⟩ ∈ ls := by rw [List.getD_eq_getElem?_getD, List.getElem?_eq_getElem (by omega)]; exact List.getElem_mem _
    have h1 := cHead_size (hz _ hm) (atL ls k)
    have h2 := num_lt (ls.getD k ⟨#[]⟩)
    show (hdsL ls k ++ cHead (ls.getD k ⟨#[]⟩) (atL ls k)).size ≤ _
    rw [ByteArray.size_append]
    omega
theorem atL_succ {ls : List ByteArray} {k : Nat} (h : k < ls.length) : atL ls (k + 1) = atL ls k + (ls.getD k ⟨#[]⟩).size := by
  unfold atL
  rw [List.take_succ_eq_append_getElem h, List.map_append, List.sum_append, List.getD_eq_getElem?_getD, List.getElem?_eq_getElem h]
  simp
theorem atL_le {ls : List ByteArray} (hz : ∀ l, l ∈ ls → l.size ≤ 1048576) : ∀ {k : Nat}, k ≤ ls.length → atL ls k ≤ k * 1048576
  | 0, _ => Nat.le_refl _
  | k + 1, h => by
    have ih := atL_le hz (k := k) (by omega)
    have hm : ls.getD k ⟨#[]⟩ ∈ ls := by rw [List.getD_eq_getElem?_getD, List.getElem?_eq_getElem (by omega)]; exact List.getElem_mem _
    have h1 := hz _ hm
    rw [atL_succ (by omega)]
    omega
theorem in010_calls (w : World) : Calls Tryz.prog 64 #[.int .i64 0, .int .i64 10] w (fun e w' => e = .returned (.string (nB 10 0)) ∧ On w w') := by
  have h := inB_calls 0 10 (by decide) (by decide) w
  rw [show ((0 : Nat) : Int) = 0 from rfl, show ((10 : Nat) : Int) = 10 from rfl] at h
  exact h
theorem in04_calls (w : World) : Calls Tryz.prog 64 #[.int .i64 0, .int .i64 4] w (fun e w' => e = .returned (.string (nB 4 0)) ∧ On w w') := by
  have h := in4_calls 0 (by decide) w
  rw [show ((0 : Nat) : Int) = 0 from rfl] at h
  exact h
theorem iat26_calls (s : ByteArray) (hs : s.size ≤ 4294967296) (h : 28 ≤ s.size) (w : World) : Calls Tryz.prog 60 #[.string s, .int .i64 26, .int .i64 2] w (fun e w' => e = .returned (.int .i64 (numAtB s 26 2 : Nat)) ∧ w' = w) := by
  have h := inumat_calls s 26 2 hs h (by decide) w
  rw [show ((26 : Nat) : Int) = 26 from rfl, show ((2 : Nat) : Int) = 2 from rfl] at h
  exact h
set_option maxRecDepth 100000 in
set_option maxHeartbeats 8000000 in
theorem closing_calls (r cap : Nat) (ls : List ByteArray) (w : World) (hs : Strs w r ls) (hn : ls.length ≤ 6) (hz : ∀ l, l ∈ ls → 30 + numAtB l 26 2 ≤ l.size) (hz2 : ∀ l, l ∈ ls → l.size ≤ 1048576) :
    Calls Tryz.prog 38 #[.slice (some ⟨r, 0, none⟩) ls.length cap] w (fun e w' => e = .returned (.string (closB ls)) ∧ On w w') := by
  have HR := Lib.hid (show closB ls = (((((((hdsL ls ls.length ++ ⟨#[80, 75, 5, 6]⟩) ++ nB 4 0) ++ nB 2 ls.length) ++ nB 2 ls.length) ++ nB 4 (hdsL ls ls.length).size) ++ nB 4 (atL ls ls.length)) ++ nB 2 0) from rfl)
  have HHL := Lib.hid (fun k (h : k ≤ ls.length) => hds_le hz h)
  have HAL := Lib.hid (fun k (h : k ≤ ls.length) => atL_le hz2 h)
  have HHS := Lib.hid (fun k => (show hdsL ls (k + 1) = hdsL ls k ++ cHead (ls.getD k ⟨#[]⟩) (atL ls k) from rfl))
  have HAS := Lib.hid (fun k (h : k < ls.length) => atL_succ h)
  have HM := Lib.hid (fun k (h : k < ls.length) => (show ls.getD k ⟨#[]⟩ ∈ ls by rw [List.getD_eq_getElem?_getD, List.getElem?_eq_getElem h]; exact List.getElem_mem _))
  have HZ := Lib.hid (fun k h => hz _ (HM.out k h))
  have HZ2 := Lib.hid (fun k h => hz2 _ (HM.out k h))
  have HS := Lib.hid (fun W (O : On w W) => (hs.on O).out)
  have h0 : hdsL ls 0 = ⟨#[]⟩ := rfl
  have h1 : atL ls 0 = 0 := rfl
  have H0 := Lib.hid h0
  have H1 := Lib.hid h1
  clear h0 h1 hs hz hz2
  generalize closB ls = RES at *
  generalize hlen : ls.length = n at *
  clear hlen
  go_enter Tryz.func38, Tryz.ntmps38
  go_wp2_with fail
  go_loopw [3, 4, 6, 7, 11] (fun hv av lv nv x wr => ∃ k : Nat, x = .int .i64 k ∧ k ≤ n ∧ hv = .string (hdsL ls k) ∧ av = .int .i64 (atL ls k : Nat) ∧ On w wr) (fun _ _ _ _ x _ => n - (intOf x).toNat)
  case atStart => exact ⟨0, rfl, by omega, by rw [H0.out], by rw [H1.out]; rfl, On.refl w⟩
  case round =>
    obtain ⟨k, rfl, hk, rfl, rfl, O⟩ := hrel
    have a1 := HHL.out k hk
    have a2 := HAL.out k hk
    by_cases hlt : k < n
    · have c0 := HS.out _ O k hlt
      have b1 := HZ.out k hlt
      have b2 := HZ2.out k hlt
      have hE := HHS.out k
      have hA := HAS.out k hlt
      unfold cHead at hE
      have hnl := num_lt (ls.getD k ⟨#[]⟩)
      have HN := Lib.hid (fun w => iat26_calls (ls.getD k ⟨#[]⟩) (by omega) (by omega) w)
      have e4 : ((ls.getD k ⟨#[]⟩).extract 4 30).size = 26 := by rw [ByteArray.size_extract]; omega
      have e5 : ((ls.getD k ⟨#[]⟩).extract 30 (30 + numAtB (ls.getD k ⟨#[]⟩) 26 2)).size = numAtB (ls.getD k ⟨#[]⟩) 26 2 := by rw [ByteArray.size_extract]; omega
      have HE := Lib.hid hE
      have HA := Lib.hid hA
      clear hE hA
      generalize hdsL ls k = H at *
      generalize atL ls k = a at *
      generalize ls.getD k ⟨#[]⟩ = l at *
      generalize numAtB l 26 2 = nz at *
      have HA4 := Lib.hid (fun w => in4_calls a (by omega) w)
      have H20 := Lib.hid (fun w => in20_calls w)
      have H10 := Lib.hid (fun w => in010_calls w)
      have s1 := nB_size 2 20
      have s2 := nB_size 10 0
      have s3 := nB_size 4 a
      generalize nB 2 20 = p1 at *
      generalize nB 10 0 = p2 at *
      generalize nB 4 a = p3 at *
      have g1 : (30 : Int) ≤ (l.size : Int) := by omega
      have g2 : (0 : Int) ≤ 30 + (nz : Int) := by omega
      have g3 : 30 + (nz : Int) ≤ (l.size : Int) := by omega
      have g4 : (30 : Int) ≤ 30 + (nz : Int) := by omega
      have g5 : (30 + (nz : Int)).toNat = 30 + nz := by omega
      have g6 : IntKind.i64.wrap (30 + (nz : Int)) = 30 + (nz : Int) := by rw [IntKind.wrap_i64]; omega
      have g7 : IntKind.i64.wrap ((a : Int) + (l.size : Int)) = (a : Int) + (l.size : Int) := by rw [IntKind.wrap_i64]; omega
      generalize hq4 : l.extract 4 30 = x4 at *
      generalize hq5 : l.extract 30 (30 + nz) = x5 at *
      have z1 : ¬ 9223372036854775807 < 46 + nz := by omega
      have z2 : ¬ 9223372036854775807 < H.size + (46 + nz) := by omega
      have z3 : ¬ 9223372036854775807 < 4 + 2 + 26 + 10 + 4 + nz := by omega
      have z4 : ¬ 9223372036854775807 < H.size + (4 + 2 + 26 + 10 + 4 + nz) := by omega
      go_wp2_with fail
      refine (HN.out _).mono ?_
      rintro e w' ⟨rfl, hw⟩
      rw [hw]
      clear hw
      go_upto_region 7 with fail
      refine wp_region_held_drew (S := fun W => On wr W) (by kernel_rfl) (On.refl _).drew (fun hHeld => ?_)
      refine wpAnyH_take (i := 0) (oi := _) (v := ?_) rfl (by kernel_rfl) (by kernel_rfl) (by kernel_rfl) (fun _ _ _ h => h) (Or.inl ⟨by rfl, ?_⟩) (by assumption) ?_
      rotate_left
      · intro w hSw
        go_simp
        first | done | with_reducible rfl
      try simp (maxSteps := 2000000) only [Act.put, List.setIfInBounds_toArray, List.set_cons_zero, List.set_cons_succ, List.getElem_toArray, List.getElem_cons_zero, List.getElem_cons_succ]
      refine wpAnyH_take (i := 3) (oi := _) (v := ?_) rfl (by kernel_rfl) (by kernel_rfl) (by kernel_rfl) (fun _ _ _ h => h) (Or.inl ⟨by rfl, ?_⟩) (by assumption) ?_
      rotate_left
      · intro w hSw
        go_simp
        first | done | with_reducible rfl
      try simp (maxSteps := 2000000) only [Act.put, List.setIfInBounds_toArray, List.set_cons_zero, List.set_cons_succ, List.getElem_toArray, List.getElem_cons_zero, List.getElem_cons_succ]
      refine wpAnyH_take (i := 4) (oi := _) (v := ?_) rfl (by kernel_rfl) (by kernel_rfl) (by kernel_rfl) (fun _ _ _ h => h) (Or.inl ⟨by rfl, ?_⟩) (by assumption) ?_
      rotate_left
      · intro w hSw
        go_simp
        first | done | with_reducible rfl
      try simp (maxSteps := 2000000) only [Act.put, List.setIfInBounds_toArray, List.set_cons_zero, List.set_cons_succ, List.getElem_toArray, List.getElem_cons_zero, List.getElem_cons_succ]
      refine wpAnyH_take (i := 8) (oi := _) (v := ?_) rfl (by kernel_rfl) (by kernel_rfl) (by kernel_rfl) (fun _ _ _ h => h) (Or.inl ⟨by rfl, ?_⟩) (by assumption) ?_
      rotate_left
      · intro w hSw
        go_simp
        first | done | with_reducible rfl
      try simp (maxSteps := 2000000) only [Act.put, List.setIfInBounds_toArray, List.set_cons_zero, List.set_cons_succ, List.getElem_toArray, List.getElem_cons_zero, List.getElem_cons_succ]
      refine wpAnyH_take (i := 11) (oi := _) (v := ?_) rfl (by kernel_rfl) (by kernel_rfl) (by kernel_rfl) (fun _ _ _ h => h) (Or.inl ⟨by rfl, ?_⟩) (by assumption) ?_
      rotate_left
      · intro w hSw
        go_simp
        first | done | with_reducible rfl
      try simp (maxSteps := 2000000) only [Act.put, List.setIfInBounds_toArray, List.set_cons_zero, List.set_cons_succ, List.getElem_toArray, List.getElem_cons_zero, List.getElem_cons_succ]
      refine wpAnyH_take (i := 12) (oi := _) (v := ?_) rfl (by kernel_rfl) (by kernel_rfl) (by kernel_rfl) (fun _ _ _ h => h) (Or.inl ⟨by rfl, ?_⟩) (by assumption) ?_
      rotate_left
      · intro w hSw
        go_simp
        first | done | with_reducible rfl
      try simp (maxSteps := 2000000) only [Act.put, List.setIfInBounds_toArray, List.set_cons_zero, List.set_cons_succ, List.getElem_toArray, List.getElem_cons_zero, List.getElem_cons_succ]
      refine wpAnyH_take (i := 13) (oi := _) (v := ?_) rfl (by kernel_rfl) (by kernel_rfl) (by kernel_rfl) (fun _ _ _ h => h) (Or.inl ⟨by rfl, ?_⟩) (by assumption) ?_
      rotate_left
      · intro w hSw
        go_simp
        first | done | with_reducible rfl
      try simp (maxSteps := 2000000) only [Act.put, List.setIfInBounds_toArray, List.set_cons_zero, List.set_cons_succ, List.getElem_toArray, List.getElem_cons_zero, List.getElem_cons_succ]
      refine wpAnyH_take (i := 14) (oi := _) (v := ?_) rfl (by kernel_rfl) (by kernel_rfl) (by kernel_rfl) (fun _ _ _ h => h) (Or.inl ⟨by rfl, ?_⟩) (by assumption) ?_
      rotate_left
      · intro w hSw
        go_simp
        first | done | with_reducible rfl
      try simp (maxSteps := 2000000) only [Act.put, List.setIfInBounds_toArray, List.set_cons_zero, List.set_cons_succ, List.getElem_toArray, List.getElem_cons_zero, List.getElem_cons_succ]
      have O0 := (On.refl wr).drew
      generalize wr.drew = wd at *
      refine wpAnyH_ready (rs := [1]) (by kernel_rfl) (by simp) ?_
      refine AllReadyH.cons (o := _) rfl (fun K hK => ?_) AllReadyH.nil
      go_simp
      refine (H20.out _).mono ?_
      rintro e vO1 ⟨rfl, TO1⟩
      have O1 := O0.call TO1
      refine hK.out _ _ O1 (fun hHeld => ?_)
      clear hK K
      try simp (maxSteps := 2000000) only [Act.put, List.setIfInBounds_toArray, List.set_cons_zero, List.set_cons_succ, List.getElem_toArray, List.getElem_cons_zero, List.getElem_cons_succ]
      refine wpAnyH_take (i := 2) (oi := _) (v := ?_) rfl (by kernel_rfl) (by kernel_rfl) (by kernel_rfl) (fun _ _ _ h => h) (Or.inl ⟨by rfl, ?_⟩) (by assumption) ?_
      rotate_left
      · intro w hSw
        go_simp
        first | done | with_reducible rfl
      try simp (maxSteps := 2000000) only [Act.put, List.setIfInBounds_toArray, List.set_cons_zero, List.set_cons_succ, List.getElem_toArray, List.getElem_cons_zero, List.getElem_cons_succ]
      refine wpAnyH_take (i := 5) (oi := _) (v := ?_) rfl (by kernel_rfl) (by kernel_rfl) (by kernel_rfl) (fun _ _ _ h => h) (Or.inl ⟨by rfl, ?_⟩) (by assumption) ?_
      rotate_left
      · intro w hSw
        go_simp
        first | done | with_reducible rfl
      try simp (maxSteps := 2000000) only [Act.put, List.setIfInBounds_toArray, List.set_cons_zero, List.set_cons_succ, List.getElem_toArray, List.getElem_cons_zero, List.getElem_cons_succ]
      refine wpAnyH_ready (rs := [6]) (by kernel_rfl) (by simp) ?_
      refine AllReadyH.cons (o := _) rfl (fun K hK => ?_) AllReadyH.nil
      go_simp
      refine (H10.out _).mono ?_
      rintro e vO2 ⟨rfl, TO2⟩
      have O2 := O1.call TO2
      refine hK.out _ _ O2 (fun hHeld => ?_)
      clear hK K
      try simp (maxSteps := 2000000) only [Act.put, List.setIfInBounds_toArray, List.set_cons_zero, List.set_cons_succ, List.getElem_toArray, List.getElem_cons_zero, List.getElem_cons_succ]
      refine wpAnyH_take (i := 7) (oi := _) (v := ?_) rfl (by kernel_rfl) (by kernel_rfl) (by kernel_rfl) (fun _ _ _ h => h) (Or.inl ⟨by rfl, ?_⟩) (by assumption) ?_
      rotate_left
      · intro w hSw
        go_simp
        first | done | with_reducible rfl
      try simp (maxSteps := 2000000) only [Act.put, List.setIfInBounds_toArray, List.set_cons_zero, List.set_cons_succ, List.getElem_toArray, List.getElem_cons_zero, List.getElem_cons_succ]
      refine wpAnyH_ready (rs := [9]) (by kernel_rfl) (by simp) ?_
      refine AllReadyH.cons (o := _) rfl (fun K hK => ?_) AllReadyH.nil
      go_simp
      refine (HA4.out _).mono ?_
      rintro e vO3 ⟨rfl, TO3⟩
      have O3 := O2.call TO3
      refine hK.out _ _ O3 (fun hHeld => ?_)
      clear hK K
      try simp (maxSteps := 2000000) only [Act.put, List.setIfInBounds_toArray, List.set_cons_zero, List.set_cons_succ, List.getElem_toArray, List.getElem_cons_zero, List.getElem_cons_succ]
      refine wpAnyH_take (i := 10) (oi := _) (v := ?_) rfl (by kernel_rfl) (by kernel_rfl) (by kernel_rfl) (fun _ _ _ h => h) (Or.inl ⟨by rfl, ?_⟩) (by assumption) ?_
      rotate_left
      · intro w hSw
        go_simp
        first | done | with_reducible rfl
      try simp (maxSteps := 2000000) only [Act.put, List.setIfInBounds_toArray, List.set_cons_zero, List.set_cons_succ, List.getElem_toArray, List.getElem_cons_zero, List.getElem_cons_succ]
      refine wpAnyH_take (i := 15) (oi := _) (v := ?_) rfl (by kernel_rfl) (by kernel_rfl) (by kernel_rfl) (fun _ _ _ h => h) (Or.inl ⟨by rfl, ?_⟩) (by assumption) ?_
      rotate_left
      · intro w hSw
        go_simp
        first | done | with_reducible rfl
      try simp (maxSteps := 2000000) only [Act.put, List.setIfInBounds_toArray, List.set_cons_zero, List.set_cons_succ, List.getElem_toArray, List.getElem_cons_zero, List.getElem_cons_succ]
      refine wpAnyH_take (i := 16) (oi := _) (v := ?_) rfl (by kernel_rfl) (by kernel_rfl) (by kernel_rfl) (fun _ _ _ h => h) (Or.inl ⟨by rfl, ?_⟩) (by assumption) ?_
      rotate_left
      · intro w hSw
        go_simp
        first | done | with_reducible rfl
      try simp (maxSteps := 2000000) only [Act.put, List.setIfInBounds_toArray, List.set_cons_zero, List.set_cons_succ, List.getElem_toArray, List.getElem_cons_zero, List.getElem_cons_succ]
      refine wpAnyH_ready (rs := [17]) (by kernel_rfl) (by simp) ?_
      refine AllReadyH.cons (o := _) rfl (fun K hK => ?_) AllReadyH.nil
      go_simp
      refine hK.out _ _ O3 (fun hHeld => ?_)
      clear hK K
      try simp (maxSteps := 2000000) only [Act.put, List.setIfInBounds_toArray, List.set_cons_zero, List.set_cons_succ, List.getElem_toArray, List.getElem_cons_zero, List.getElem_cons_succ]
      refine wpAnyH_done (by kernel_rfl) ?_ _
      go_wp2_with fail
      exact ⟨⟨k + 1, by go_num, by omega, by rw [HE.out], by rw [HA.out]; rfl, O.call O3⟩, by simp [intOf]; omega⟩
    · obtain rfl : k = n := by omega
      have HN2 := Lib.hid (fun w => in2_calls k (by omega) w)
      have HZ4 := Lib.hid (fun w => in04_calls w)
      have HZ2' := Lib.hid (fun w => in0_calls w)
      have s1 := nB_size 2 k
      have s2 := nB_size 4 0
      have s3 := nB_size 2 0
      have s4 := nB_size 4 (hdsL ls k).size
      have s5 := nB_size 4 (atL ls k)
      have HL4 := Lib.hid (fun w => in4_calls (hdsL ls k).size (by omega) w)
      have HA4 := Lib.hid (fun w => in4_calls (atL ls k) (by omega) w)
      generalize nB 4 (hdsL ls k).size = y4 at *
      generalize nB 4 (atL ls k) = y5 at *
      generalize hdsL ls k = H at *
      generalize atL ls k = a at *
      generalize nB 2 k = y1 at *
      generalize nB 4 0 = y2 at *
      generalize nB 2 0 = y3 at *
      have z1 : ¬ 9223372036854775807 < H.size + 4 := by omega
      have z2 : ¬ 9223372036854775807 < H.size + 4 + 4 := by omega
      have z3 : ¬ 9223372036854775807 < H.size + 4 + 4 + 2 := by omega
      have z4 : ¬ 9223372036854775807 < H.size + 4 + 4 + 2 + 2 := by omega
      have z5 : ¬ 9223372036854775807 < H.size + 4 + 4 + 2 + 2 + 4 := by omega
      have z6 : ¬ 9223372036854775807 < H.size + 4 + 4 + 2 + 2 + 4 + 4 := by omega
      have z7 : ¬ 9223372036854775807 < H.size + 4 + 4 + 2 + 2 + 4 + 4 + 2 := by omega
      go_wp2_with fail
      refine (HN2.out _).mono ?_
      rintro e w1 ⟨rfl, O1⟩
      go_wp2_with fail
      refine (HZ4.out _).mono ?_
      rintro e w2 ⟨rfl, O2⟩
      go_wp2_with fail
      refine (HL4.out _).mono ?_
      rintro e w3 ⟨rfl, O3⟩
      go_wp2_with fail
      refine (HA4.out _).mono ?_
      rintro e w4 ⟨rfl, O4⟩
      go_wp2_with fail
      refine (HZ2'.out _).mono ?_
      rintro e w5 ⟨rfl, O5⟩
      go_wp2_with fail
      go_ret
      exact ⟨by rw [HR.out]; rfl, O.call (O1.call (O2.call (O3.call (O4.call O5))))⟩
end Go.Proofs.YtnadjlejlohgiaaGreatDoor.Lc

/- The program's reading of an archive, over whatever is read at each place: ZipGet of the program. -/
namespace Go.Proofs.YtnadjlejlohgiaaGreatDoor.Lc
open Go.RowKit Go.Proofs.YtnadjlejlohgiaaGreatDoor.Mem Go.Proofs.YtnadjlejlohgiaaGreatDoor.Nm Go.Proofs.YtnadjlejlohgiaaGreatDoor.Nb Go.Proofs.YtnadjlejlohgiaaGreatDoor.Cr
set_option linter.unusedVariables false
set_option linter.unusedSimpArgs false
theorem entinfo : (Tryz.prog.info? 42).map (fun i => (i.zero, i.size, i.bytes)) = some (some (.agg #[.string ByteArray.empty, .int .i64 0, .int .i64 0, .int .i64 0, .int .i64 0, .int .i64 0, .int .i64 0, .string ByteArray.empty]), 8, 80) := by kernel_rfl
theorem strinfo2 : (Tryz.prog.info? 9).map (fun i => (i.zero, i.size, i.bytes)) = some (some (.string ByteArray.empty), 1, 16) := by kernel_rfl
theorem info_parts2 {t : TypeId} {z : Value} {s b : Nat} (h : (Tryz.prog.info? t).map (fun i => (i.zero, i.size, i.bytes)) = some (some z, s, b)) : ∃ i, Tryz.prog.info? t = some i ∧ i.zero = some z ∧ i.size = s ∧ i.bytes = b := by
  obtain ⟨i, hi, e⟩ := Option.map_eq_some_iff.1 h
  simp only [Prod.mk.injEq] at e
  exact ⟨i, hi, e.1, e.2.1, e.2.2⟩
/-- Rows of unlike elements lie in unlike blocks. -/
theorem row_ne' {w : World} {g1 g2 t1 t2 : Nat} {xs ys : List Value} (h1 : Row w g1 t1 xs) (h2 : Row w g2 t2 ys) (ht : t1 ≠ t2) : g1 ≠ g2 := by
  rintro rfl
  obtain ⟨cs, b1, _⟩ := h1.out
  obtain ⟨ds, b2, _⟩ := h2.out
  have e := b1.out.symm.trans b2.out
  simp at e
  exact ht e.2
/-- A row that a call made itself stays if its block stays. -/
theorem Own.keep' {base t size n : Nat} {w w' : World} {v : Value} {xs : List Value} (h : Own base w t size v n xs) (hk : ∀ g cs, v.ownBlock = some g → Blk w g t cs → Blk w' g t cs) : Own base w' t size v n xs := by
  refine ⟨⟨h.own.1, ?_⟩, h.nn⟩
  rcases h.own.2 with h0 | ⟨g, cap, cur, hv, hb, hh, rest⟩
  · exact .inl h0
  · exact .inr ⟨g, cap, cur, hv, hb, (hk g cur (by rw [hv]; rfl) ⟨hh⟩).out, rest⟩
/-- What is read at each place, in plain words. -/
structure ZRead (tl : Nat → ByteArray) (get : Nat → Option (Fi × Nat)) (fs : Nat → List Fi) (ps : Nat → List ByteArray) : Prop where
  f0 : fs 0 = []
  p0 : ps 0 = []
  plen : ∀ k, (ps k).length = k
  step : ∀ k f n, get k = some (f, n) → fs (k + 1) = fs k ++ [f] ∧ ps (k + 1) = ps k ++ [(tl k).extract 0 n] ∧ n ≤ (tl k).size ∧ tl (k + 1) = (tl k).extract n (tl k).size
  small : ∀ k, (tl k).size ≤ 1048576
  pz : ∀ k, (∀ i, i < k → (get i).isSome = true) → ∀ l, l ∈ ps k → 30 + numAtB l 26 2 ≤ l.size ∧ l.size ≤ 1048576
set_option maxRecDepth 100000 in
set_option maxHeartbeats 8000000 in
theorem izipget_gen (tl : Nat → ByteArray) (get : Nat → Option (Fi × Nat)) (fs : Nat → List Fi) (ps : Nat → List ByteArray) (Z : Nat → Prop) (R : ZRead tl get fs ps) (w : World)
    (HLs : ∀ k f n w', get k = some (f, n) → On w w' → Calls Tryz.prog 36 #[.string (tl k)] w' (Tells w' (.tuple #[.agg #[.string f.nm, .int .i64 f.y, .int .i64 f.m, .int .i64 f.d, .int .i64 f.h, .int .i64 f.mi, .int .i64 f.s, .string f.tx], .int .i64 (n : Nat), .bool true])))
    (HLn : ∀ k w', get k = none → On w w' → Calls Tryz.prog 36 #[.string (tl k)] w' (Tells w' (.tuple #[.agg #[.string ⟨#[]⟩, .int .i64 0, .int .i64 0, .int .i64 0, .int .i64 0, .int .i64 0, .int .i64 0, .string ⟨#[]⟩], .int .i64 0, .bool false])))
    (HZ : ∀ k g cap w', On w w' → (∀ i, i < k → (get i).isSome = true) → FiAt w' g 0 (fs k) → Calls Tryz.prog 37 #[.slice (some ⟨g, 0, none⟩) k cap] w' (fun e w'' => ∃ b : Bool, e = .returned (.bool b) ∧ On w' w'' ∧ (b = true ↔ Z k))) :
    Calls Tryz.prog 10 #[.string (tl 0)] w (fun e w' => ∃ (k : Nat) (v : Value) (b : Bool), k ≤ 6 ∧ (∀ i, i < k → (get i).isSome = true) ∧ (k = 6 ∨ get k = none) ∧ e = .returned (.tuple #[v, .bool b]) ∧ On w w' ∧
      ((b = true ∧ Z k ∧ tl k = closB (ps k) ∧ Own w.heap.size w' 42 8 v k (fcells (fs k))) ∨ (b = false ∧ ¬ (Z k ∧ tl k = closB (ps k)) ∧ Own w.heap.size w' 42 8 v 0 []))) := by
  have HLS := Lib.hid HLs
  have HLN := Lib.hid HLn
  clear HLs HLn
  obtain ⟨i0, hi, hz0, hz1, hz2⟩ := info_parts2 entinfo
  obtain ⟨i1, hj, hy0, hy1, hy2⟩ := info_parts2 strinfo2
  have OA := ((On.refl w).alloc (.cells #[] 42)).alloc (.cells #[] 9)
  have R1 := (Own.new (base := w.heap.size) w 42 8 #[] 0 (Nat.zero_le _) rfl (Nat.le_refl _)).on ((On.refl _).alloc (.cells #[] 9))
  have R2 := Own.new (base := w.heap.size) (w.alloc (.cells #[] 42)) 9 1 #[] 0 (Nat.zero_le _) rfl (by simp)
  go_enter Tryz.func10, Tryz.ntmps10
  go_wp2_with fail
  go_loopw [4, 5, 6, 7, 8, 9] (fun ov lv rv ev nv kv wr => ∃ k : Nat, k ≤ 6 ∧ (∀ i, i < k → (get i).isSome = true) ∧ Own w.heap.size wr 42 8 ov k (fcells (fs k)) ∧ Own w.heap.size wr 9 1 lv k ((ps k).map Value.string) ∧ rv = .string (tl k) ∧ On w wr) (fun ov _ _ _ _ _ _ => match ov with | .slice _ n _ => 6 - n | _ => 0)
  case atStart =>
    refine ⟨0, by omega, fun i hi => by omega, ?_, ?_, rfl, OA⟩
    · rw [R.f0]; exact R1
    · rw [R.p0]; simpa using R2
  case round =>
    obtain ⟨k, hk, hg, hown, hloc, rfl, O⟩ := hrel
    have hownF := hown
    obtain ⟨g1, c1, rfl, hb1, hrow1, hn1, hm1, hl1⟩ := hown.parts
    obtain ⟨g2, c2, rfl, hb2, hrow2, hn2, hm2, hl2⟩ := hloc.parts
    by_cases hlt : k < 6
    · have hlt' : (k : Int) < 6 := by omega
      cases hgk : get k with
      | none =>
        have hend : k = 6 ∨ get k = none := .inr hgk
        have HL := Lib.hid (HLN.out k wr hgk O)
        go_wp2_with fail
        refine HL.out.mono ?_
        rintro e w1 ⟨rfl, O1⟩
        have Ob := (O.call O1).alloc (.cells #[.string ⟨#[]⟩, .int .i64 0, .int .i64 0, .int .i64 0, .int .i64 0, .int .i64 0, .int .i64 0, .string ⟨#[]⟩] 42)
        have h1 := (hrow1.on O1).on ((On.refl w1).alloc (.cells #[.string ⟨#[]⟩, .int .i64 0, .int .i64 0, .int .i64 0, .int .i64 0, .int .i64 0, .int .i64 0, .string ⟨#[]⟩] 42))
        have h2 := (hrow2.on O1).on ((On.refl w1).alloc (.cells #[.string ⟨#[]⟩, .int .i64 0, .int .i64 0, .int .i64 0, .int .i64 0, .int .i64 0, .int .i64 0, .string ⟨#[]⟩] 42))
        replace hownF := (hownF.on O1).on ((On.refl w1).alloc (.cells #[.string ⟨#[]⟩, .int .i64 0, .int .i64 0, .int .i64 0, .int .i64 0, .int .i64 0, .int .i64 0, .string ⟨#[]⟩] 42))
        go_upto_region 10 with fail
        generalize w1.alloc (.cells #[.string ⟨#[]⟩, .int .i64 0, .int .i64 0, .int .i64 0, .int .i64 0, .int .i64 0, .int .i64 0, .string ⟨#[]⟩] 42) = wb at *
        have HZk := Lib.hid (HZ k g1 c1 wb Ob hg (FiAt.row h1))
        have hstr : Strs wb g2 (ps k) := ⟨fun i hi => h2.cell (by
          rw [List.getElem?_map, List.getElem?_eq_getElem hi, List.getD_eq_getElem?_getD, List.getElem?_eq_getElem hi]; rfl)⟩
        have HC := Lib.hid (fun w' (T : On wb w') => closing_calls g2 c2 (ps k) w' (hstr.on T) (by rw [R.plen]; exact hk) (fun l hl => (R.pz k hg l hl).1) (fun l hl => (R.pz k hg l hl).2))
        rw [R.plen] at HC
        go_wp2_with fail
        refine HZk.out.mono ?_
        rintro e wz ⟨b, rfl, Oz, hbz⟩
        cases b with
        | false =>
          have hnz : ¬ Z k := fun q => by have := hbz.2 q; cases this
          go_wp2_with fail
          go_ret2
          exact ⟨k, _, false, hk, hg, hend, rfl, (Ob.call Oz).alloc _, .inr ⟨rfl, fun q => hnz q.1, Own.new wz 42 8 #[] 0 (Nat.zero_le _) rfl (by have := (Ob.call Oz).size; omega)⟩⟩
        | true =>
          have hzk : Z k := hbz.1 rfl
          go_wp2_with fail
          refine (HC.out wz Oz).mono ?_
          rintro e wc ⟨rfl, Oc⟩
          by_cases hq : tl k = closB (ps k)
          · have hq2 : ((tl k).toList == (closB (ps k)).toList) = true := by rw [hq]; exact beq_self_eq_true _
            go_wp2_with fail
            go_ret2
            exact ⟨k, _, true, hk, hg, hend, rfl, (Ob.call Oz).call Oc, .inl ⟨rfl, hzk, hq, (hownF.on Oz).on Oc⟩⟩
          · have hq2 : ((tl k).toList == (closB (ps k)).toList) = false := by
              rw [beq_eq_false_iff_ne, ByteArray.toList_eq, ByteArray.toList_eq]
              intro q
              exact hq (ByteArray.ext (Array.toList_inj.1 q))
            go_wp2_with fail
            go_ret2
            exact ⟨k, _, false, hk, hg, hend, rfl, ((Ob.call Oz).call Oc).alloc _, .inr ⟨rfl, fun q => hq q.2, Own.new wc 42 8 #[] 0 (Nat.zero_le _) rfl (by have := ((Ob.call Oz).call Oc).size; omega)⟩⟩
      | some r =>
        obtain ⟨⟨nm, y, m, d, h, mi, se, tx⟩, n⟩ := r
        have HL := Lib.hid (HLS.out k _ n wr hgk O)
        obtain ⟨st1, st2, st3, st4⟩ := R.step k _ n hgk
        have hsm := R.small k
        have HG := Lib.hid (show ∀ i, i < k + 1 → (get i).isSome = true from fun i hi => by
          by_cases e : i < k
          · exact hg i e
          · obtain rfl : i = k := by omega
            rw [hgk]; rfl)
        clear hgk
        have S1 := Lib.hid st1
        have S2 := Lib.hid st2
        have S4 := Lib.hid st4
        clear st1 st2 st4
        have hng : g1 ≠ g2 := row_ne' hrow1 hrow2 (by decide)
        go_wp2_with fail
        refine HL.out.mono ?_
        rintro e w1 ⟨rfl, O1⟩
        have Ob := (O.call O1).alloc (.cells #[.string nm, .int .i64 y, .int .i64 m, .int .i64 d, .int .i64 h, .int .i64 mi, .int .i64 se, .string tx] 42)
        have BB := Blk.new w1 42 #[.string nm, .int .i64 y, .int .i64 m, .int .i64 d, .int .i64 h, .int .i64 mi, .int .i64 se, .string tx]
        have hownb := (hown.on O1).on ((On.refl w1).alloc (.cells #[.string nm, .int .i64 y, .int .i64 m, .int .i64 d, .int .i64 h, .int .i64 mi, .int .i64 se, .string tx] 42))
        have hlocb := (hloc.on O1).on ((On.refl w1).alloc (.cells #[.string nm, .int .i64 y, .int .i64 m, .int .i64 d, .int .i64 h, .int .i64 mi, .int .i64 se, .string tx] 42))
        go_upto_region 7 with fail
        obtain ⟨q, hq⟩ : ∃ q, q = w1.heap.size := ⟨_, rfl⟩
        rw [← hq] at BB ⊢
        generalize w1.alloc (.cells #[.string nm, .int .i64 y, .int .i64 m, .int .i64 d, .int .i64 h, .int .i64 mi, .int .i64 se, .string tx] 42) = wb at *
        clear hq
        have t0 : wb.cell? ⟨q, 0, none⟩ = some (.string nm) := (BB.cell 0).trans rfl
        have t1 : wb.cell? ⟨q, 1, none⟩ = some (.int .i64 y) := (BB.cell 1).trans rfl
        have t2 : wb.cell? ⟨q, 2, none⟩ = some (.int .i64 m) := (BB.cell 2).trans rfl
        have t3 : wb.cell? ⟨q, 3, none⟩ = some (.int .i64 d) := (BB.cell 3).trans rfl
        have t4 : wb.cell? ⟨q, 4, none⟩ = some (.int .i64 h) := (BB.cell 4).trans rfl
        have t5 : wb.cell? ⟨q, 5, none⟩ = some (.int .i64 mi) := (BB.cell 5).trans rfl
        have t6 : wb.cell? ⟨q, 6, none⟩ = some (.int .i64 se) := (BB.cell 6).trans rfl
        have t7 : wb.cell? ⟨q, 7, none⟩ = some (.string tx) := (BB.cell 7).trans rfl
        go_upto_region 8 with (at_builtin; go_must (refine wpList_app rfl _ _ 22 rfl w i0 (.agg #[.string ByteArray.empty, .int .i64 0, .int .i64 0, .int .i64 0, .int .i64 0, .int .i64 0, .int .i64 0, .string ByteArray.empty]) 80 8 Tryz.underlying22 hi hz0 hz1 hz2 rfl (by decide) rfl _ _ _ rfl hownb Ob (by simp [Act.eval]) (by simp [Value.oneCell']) (by unfold maxLen; omega) (by omega) ?_); intro v3 w3 hown3 O3 hk3)
        have hloc3 := Own.keep' hlocb (fun g cs hg b => hk3 g _ cs b (by
          intro e
          have e2 : some g1 = some g := e
          have e3 : some g2 = some g := hg
          exact hng (Option.some.inj (e2.trans e3.symm))))
        clear t0 t1 t2 t3 t4 t5 t6 t7 BB hownb hlocb hown hloc
        obtain ⟨g3, c3, rfl, hb3, hrow3, hn3, hm3, hl3⟩ := hown3.parts
        obtain ⟨g4, c4, hv4, hb4, hrow4, hn4, hm4, hl4⟩ := hloc3.parts
        have hg4 : g4 = g2 := by simp at hv4; exact hv4.1.symm
        have hng3 : g3 ≠ g2 := by rw [← hg4]; exact row_ne' hrow3 hrow4 (by decide)
        have u1 : (0 : Int) ≤ (n : Int) := by omega
        have u2 : (n : Int) ≤ ((tl k).size : Int) := by omega
        go_upto_region 9 with (at_builtin; go_must (refine wpList_app rfl _ _ 34 rfl w i1 (.string ByteArray.empty) 16 1 Tryz.underlying34 hj hy0 hy1 hy2 rfl (by decide) rfl _ _ _ rfl hloc3 O3 (by simp [Act.eval]) (by simp [Value.oneCell']) (by unfold maxLen; omega) (by omega) ?_); intro v5 w5 hloc5 O5 hk5)
        have hown5 := Own.keep' hown3 (fun g cs hg b => hk5 g _ cs b (by
          intro e
          have e2 : some g2 = some g := e
          have e3 : some g3 = some g := hg
          exact hng3 (Option.some.inj (e3.trans e2.symm))))
        go_wp2_with fail
        refine ⟨⟨k + 1, by omega, HG.out, ?_, ?_, by rw [S4.out], O5⟩, by simp; omega⟩
        · rw [S1.out, fcells_append]
          exact hown5
        · rw [S2.out, List.map_append]
          exact hloc5
    · have hlt' : ¬ (k : Int) < 6 := by omega
      have hend : k = 6 ∨ get k = none := .inl (by omega)
      have HZk := Lib.hid (HZ k g1 c1 wr O hg (FiAt.row hrow1))
      have hstr : Strs wr g2 (ps k) := ⟨fun i hi => hrow2.cell (by
        rw [List.getElem?_map, List.getElem?_eq_getElem hi, List.getD_eq_getElem?_getD, List.getElem?_eq_getElem hi]; rfl)⟩
      have HC := Lib.hid (fun w' (T : On wr w') => closing_calls g2 c2 (ps k) w' (hstr.on T) (by rw [R.plen]; exact hk) (fun l hl => (R.pz k hg l hl).1) (fun l hl => (R.pz k hg l hl).2))
      rw [R.plen] at HC
      go_wp2_with fail
      refine HZk.out.mono ?_
      rintro e wz ⟨b, rfl, Oz, hbz⟩
      cases b with
      | false =>
        have hnz : ¬ Z k := fun q => by have := hbz.2 q; cases this
        go_wp2_with fail
        go_ret2
        exact ⟨k, _, false, hk, hg, hend, rfl, (O.call Oz).alloc _, .inr ⟨rfl, fun q => hnz q.1, Own.new wz 42 8 #[] 0 (Nat.zero_le _) rfl (by have := (O.call Oz).size; omega)⟩⟩
      | true =>
        have hzk : Z k := hbz.1 rfl
        go_wp2_with fail
        refine (HC.out wz Oz).mono ?_
        rintro e wc ⟨rfl, Oc⟩
        by_cases hq : tl k = closB (ps k)
        · have hq2 : ((tl k).toList == (closB (ps k)).toList) = true := by rw [hq]; exact beq_self_eq_true _
          go_wp2_with fail
          go_ret2
          exact ⟨k, _, true, hk, hg, hend, rfl, (O.call Oz).call Oc, .inl ⟨rfl, hzk, hq, (hownF.on Oz).on Oc⟩⟩
        · have hq2 : ((tl k).toList == (closB (ps k)).toList) = false := by
            rw [beq_eq_false_iff_ne, ByteArray.toList_eq, ByteArray.toList_eq]
            intro q
            exact hq (ByteArray.ext (Array.toList_inj.1 q))
          go_wp2_with fail
          go_ret2
          exact ⟨k, _, false, hk, hg, hend, rfl, ((O.call Oz).call Oc).alloc _, .inr ⟨rfl, fun q => hq q.2, Own.new wc 42 8 #[] 0 (Nat.zero_le _) rfl (by have := ((O.call Oz).call Oc).size; omega)⟩⟩
end Go.Proofs.YtnadjlejlohgiaaGreatDoor.Lc

/- The reference's reading of files one behind the other, over whatever is read at each place: l7Get. -/
namespace Go.Proofs.YtnadjlejlohgiaaGreatDoor.Lc
open Go.RowKit Go.Proofs.YtnadjlejlohgiaaGreatDoor.Mem Go.Proofs.YtnadjlejlohgiaaGreatDoor.Nm Go.Proofs.YtnadjlejlohgiaaGreatDoor.Nb Go.Proofs.YtnadjlejlohgiaaGreatDoor.Cr
set_option linter.unusedVariables false
set_option linter.unusedSimpArgs false
/-- What is read at each place of a text, in plain words. -/
structure SRead (s : ByteArray) (pos : Nat → Nat) (get : Nat → Option (Fi × Nat)) (fs : Nat → List Fi) : Prop where
  f0 : fs 0 = []
  p0 : pos 0 = 0
  step : ∀ k f n, get k = some (f, n) → fs (k + 1) = fs k ++ [f] ∧ pos (k + 1) = pos k + n
  le : ∀ k, (∀ i, i < k → (get i).isSome = true) → pos k ≤ s.size
/-- What l7Get answers. -/
def L7Out (w : World) (many : Nat) (pos : Nat → Nat) (get : Nat → Option (Fi × Nat)) (fs : Nat → List Fi) (e : Ending) (w' : World) : Prop := ∃ (k : Nat) (v : Value) (b : Bool), k ≤ many ∧ (∀ i, i < k → (get i).isSome = true) ∧ ((b = true ∧ k = many) ∨ (b = false ∧ get k = none ∧ k < many)) ∧ e = .returned (.tuple #[v, .int .i64 (pos k : Nat), .bool b]) ∧ On w w' ∧
      Own w.heap.size w' 42 8 v k (fcells (fs k))
theorem L7Out.of {w : World} {many : Nat} {pos : Nat → Nat} {get : Nat → Option (Fi × Nat)} {fs : Nat → List Fi} {e : Ending} {w' : World} (h : ∃ (k : Nat) (v : Value) (b : Bool), k ≤ many ∧ (∀ i, i < k → (get i).isSome = true) ∧ ((b = true ∧ k = many) ∨ (b = false ∧ get k = none ∧ k < many)) ∧ e = .returned (.tuple #[v, .int .i64 (pos k : Nat), .bool b]) ∧ On w w' ∧
      Own w.heap.size w' 42 8 v k (fcells (fs k))) : L7Out w many pos get fs e w' := h
theorem res_ttt {P : Program} {fn : Func} {tmps : Array Value} {w : World} {p u v : Tmp} (h : fn.results = #[.tmp p, .tmp u, .tmp v]) :
    (results fn tmps).run P w = .ok (.tuple #[tmps.getD p undef, tmps.getD u undef, tmps.getD v undef]) w := by
  simp [results, h]
set_option maxRecDepth 100000 in
set_option maxHeartbeats 8000000 in
theorem sl7get_gen (s : ByteArray) (hs : s.size ≤ 1048576) (pos : Nat → Nat) (get : Nat → Option (Fi × Nat)) (fs : Nat → List Fi) (R : SRead s pos get fs) (many : Nat) (hm : many ≤ 6) (w : World)
    (HRs : ∀ k f n w', get k = some (f, n) → On w w' → Calls Tryz.prog 34 #[.string (s.extract (pos k) s.size)] w' (Tells w' (.tuple #[.agg #[.string f.nm, .int .i64 f.y, .int .i64 f.m, .int .i64 f.d, .int .i64 f.h, .int .i64 f.mi, .int .i64 f.s, .string f.tx], .int .i64 (n : Nat), .bool true])))
    (HRn : ∀ k w', get k = none → On w w' → Calls Tryz.prog 34 #[.string (s.extract (pos k) s.size)] w' (fun e w'' => ∃ nm y m d h mi se tx n, e = .returned (.tuple #[.agg #[.string nm, .int .i64 y, .int .i64 m, .int .i64 d, .int .i64 h, .int .i64 mi, .int .i64 se, .string tx], .int .i64 n, .bool false]) ∧ On w' w'')) :
    Calls Tryz.prog 31 #[.string s, .int .i64 many] w (L7Out w many pos get fs) := by
  have HLS := Lib.hid HRs
  have HLN := Lib.hid HRn
  clear HRs HRn
  obtain ⟨i0, hi, hz0, hz1, hz2⟩ := info_parts2 entinfo
  have OA := (On.refl w).alloc (.cells #[] 42)
  have R1 := Own.new (base := w.heap.size) w 42 8 #[] 0 (Nat.zero_le _) rfl (Nat.le_refl _)
  have P0 := Lib.hid R.p0
  go_enter Tryz.func31, Tryz.ntmps31
  go_wp2_with fail
  go_loopw [7, 8, 9, 10, 11, 12] (fun ov av iv ev nv kv wr => ∃ k : Nat, k ≤ many ∧ iv = .int .i64 k ∧ av = .int .i64 (pos k : Nat) ∧ (∀ i, i < k → (get i).isSome = true) ∧ Own w.heap.size wr 42 8 ov k (fcells (fs k)) ∧ On w wr) (fun _ _ iv _ _ _ _ => many - (intOf iv).toNat)
  case atStart =>
    refine ⟨0, by omega, rfl, by rw [P0.out]; rfl, fun i hi => by omega, ?_, OA⟩
    rw [R.f0]; exact R1
  case round =>
    obtain ⟨k, hk, rfl, rfl, hg, hown, O⟩ := hrel
    by_cases hlt : k < many
    · have hlt' : (k : Int) < many := by omega
      have hle := R.le k hg
      have v1 : (0 : Int) ≤ (pos k : Int) := by omega
      have v2 : (pos k : Int) ≤ (s.size : Int) := by omega
      cases hgk : get k with
      | none =>
        have HL := Lib.hid (HLN.out k wr hgk O)
        go_wp2_with fail
        refine HL.out.mono ?_
        rintro e w1 ⟨nm, y, m, d, h, mi, se, tx, n, rfl, O1⟩
        have Ob := (O.call O1).alloc (.cells #[.string nm, .int .i64 y, .int .i64 m, .int .i64 d, .int .i64 h, .int .i64 mi, .int .i64 se, .string tx] 42)
        have hownb := (hown.on O1).on ((On.refl w1).alloc (.cells #[.string nm, .int .i64 y, .int .i64 m, .int .i64 d, .int .i64 h, .int .i64 mi, .int .i64 se, .string tx] 42))
        go_wp2_with fail
        refine bodyPost_ret (res_ttt (p := 4) (u := 5) (v := 6) rfl) rfl ?_
        exact L7Out.of ⟨k, _, false, hk, hg, .inr ⟨rfl, hgk, hlt⟩, rfl, Ob, hownb⟩
      | some r =>
        obtain ⟨⟨nm, y, m, d, h, mi, se, tx⟩, n⟩ := r
        have HL := Lib.hid (HLS.out k _ n wr hgk O)
        obtain ⟨st1, st2⟩ := R.step k _ n hgk
        have HG := Lib.hid (show ∀ i, i < k + 1 → (get i).isSome = true from fun i hi => by
          by_cases e : i < k
          · exact hg i e
          · obtain rfl : i = k := by omega
            rw [hgk]; rfl)
        clear hgk
        have hle2 := R.le (k + 1) HG.out
        rw [st2] at hle2
        have S1 := Lib.hid st1
        have S2 := Lib.hid st2
        clear st1 st2
        have e1 : IntKind.i64.wrap ((pos k : Int) + (n : Int)) = (pos k : Int) + (n : Int) := by rw [IntKind.wrap_i64]; omega
        go_wp2_with fail
        refine HL.out.mono ?_
        rintro e w1 ⟨rfl, O1⟩
        have Ob := (O.call O1).alloc (.cells #[.string nm, .int .i64 y, .int .i64 m, .int .i64 d, .int .i64 h, .int .i64 mi, .int .i64 se, .string tx] 42)
        have BB := Blk.new w1 42 #[.string nm, .int .i64 y, .int .i64 m, .int .i64 d, .int .i64 h, .int .i64 mi, .int .i64 se, .string tx]
        have hownb := (hown.on O1).on ((On.refl w1).alloc (.cells #[.string nm, .int .i64 y, .int .i64 m, .int .i64 d, .int .i64 h, .int .i64 mi, .int .i64 se, .string tx] 42))
        go_upto_region 9 with fail
        obtain ⟨q, hq⟩ : ∃ q, q = w1.heap.size := ⟨_, rfl⟩
        rw [← hq] at BB ⊢
        generalize w1.alloc (.cells #[.string nm, .int .i64 y, .int .i64 m, .int .i64 d, .int .i64 h, .int .i64 mi, .int .i64 se, .string tx] 42) = wb at *
        clear hq
        have t0 : wb.cell? ⟨q, 0, none⟩ = some (.string nm) := (BB.cell 0).trans rfl
        have t1 : wb.cell? ⟨q, 1, none⟩ = some (.int .i64 y) := (BB.cell 1).trans rfl
        have t2 : wb.cell? ⟨q, 2, none⟩ = some (.int .i64 m) := (BB.cell 2).trans rfl
        have t3 : wb.cell? ⟨q, 3, none⟩ = some (.int .i64 d) := (BB.cell 3).trans rfl
        have t4 : wb.cell? ⟨q, 4, none⟩ = some (.int .i64 h) := (BB.cell 4).trans rfl
        have t5 : wb.cell? ⟨q, 5, none⟩ = some (.int .i64 mi) := (BB.cell 5).trans rfl
        have t6 : wb.cell? ⟨q, 6, none⟩ = some (.int .i64 se) := (BB.cell 6).trans rfl
        have t7 : wb.cell? ⟨q, 7, none⟩ = some (.string tx) := (BB.cell 7).trans rfl
        obtain ⟨g1, c1, rfl, hb1, hrow1, hn1, hm1, hl1⟩ := hown.parts
        go_upto_region 10 with (at_builtin; go_must (refine wpList_app rfl _ _ 22 rfl w i0 (.agg #[.string ByteArray.empty, .int .i64 0, .int .i64 0, .int .i64 0, .int .i64 0, .int .i64 0, .int .i64 0, .string ByteArray.empty]) 80 8 Tryz.underlying22 hi hz0 hz1 hz2 rfl (by decide) rfl _ _ _ rfl hownb Ob (by simp [Act.eval]) (by simp [Value.oneCell']) (by unfold maxLen; omega) (by omega) ?_); intro v3 w3 hown3 O3 hk3)
        go_wp2_with fail
        refine ⟨⟨k + 1, by omega, by go_num, by rw [S2.out]; rfl, HG.out, ?_, O3⟩, by simp [intOf]; omega⟩
        rw [S1.out, fcells_append]
        exact hown3
    · have hkm : k = many := by omega
      have hlt' : ¬ (k : Int) < many := by omega
      clear hkm
      go_wp2_with fail
      refine bodyPost_ret (res_ttt (p := 4) (u := 5) (v := 6) rfl) rfl ?_
      exact L7Out.of ⟨k, _, true, hk, hg, .inl ⟨rfl, by omega⟩, rfl, O, hown⟩
end Go.Proofs.YtnadjlejlohgiaaGreatDoor.Lc

/- The specification's look at an archive's names. -/
namespace Go.Proofs.YtnadjlejlohgiaaGreatDoor.Nm
open Go.RowKit Go.Proofs.YtnadjlejlohgiaaGreatDoor.Mem
set_option linter.unusedVariables false
set_option linter.unusedSimpArgs false
theorem bsz (a : ByteArray) : a.data.toList.length = a.size := Array.length_toList
theorem under_size {a b : ByteArray} (h : ¬ a.size < b.size) : under a.data.toList b.data.toList = false := by
  unfold under Lib.hasPrefix
  cases hp : (a.data.toList ++ [47]).isPrefixOf b.data.toList with
  | false => rfl
  | true =>
    have := (List.isPrefixOf_iff_prefix.1 hp).length_le
    rw [List.length_append, List.length_singleton, bsz, bsz] at this; omega
theorem under_at {a b : ByteArray} (h : a.size < b.size) : under a.data.toList b.data.toList = (decide (b.data.toList.take a.size = a.data.toList) && decide (b[a.size] = 47)) := by
  have hb : a.size < b.data.toList.length := by rw [bsz]; exact h
  have e1 : b.data.toList[a.size] = b[a.size] := rfl
  have e2 : b.data.toList.take (a.size + 1) = b.data.toList.take a.size ++ [b[a.size]] := by rw [List.take_succ_eq_append_getElem hb, e1]
  unfold under Lib.hasPrefix
  rw [Bool.eq_iff_iff, List.isPrefixOf_iff_prefix, List.prefix_iff_eq_take, List.length_append, List.length_singleton, bsz, e2, Bool.and_eq_true, decide_eq_true_eq, decide_eq_true_eq]
  constructor
  · intro h
    have := List.append_inj h (by rw [List.length_take, bsz, bsz]; omega)
    exact ⟨this.1.symm, by simpa using this.2.symm⟩
  · rintro ⟨h1, h2⟩
    rw [h1, h2]
set_option maxRecDepth 100000 in
theorem sunder_calls (a b : ByteArray) (ha : a.size ≤ 1048576) (hb : b.size ≤ 1048576) (w : World) :
    Calls Tryz.prog 55 #[.string a, .string b] w (fun e w' => e = .returned (.bool (under a.data.toList b.data.toList)) ∧ w' = w) := by
  by_cases h1 : a.size < b.size
  · have HR := Lib.hid (under_at h1)
    generalize under a.data.toList b.data.toList = R at *
    have e0 : ∀ x : UInt8, decide (x = 47) = ((x.toNat : Int) == 47) := fun x => by
      rw [Bool.eq_iff_iff, decide_eq_true_eq, beq_iff_eq]
      constructor
      · rintro rfl; rfl
      · intro h
        have h' : x.toNat = 47 := by omega
        exact UInt8.toNat_inj.1 h'
    rw [e0] at HR
    clear e0
    have e3 : (b.extract 0 a.size).toList = b.data.toList.take a.size := by
      rw [ByteArray.toList_eq, ByteArray.data_extract]; simp
    by_cases h2 : b.data.toList.take a.size = a.data.toList
    · rw [decide_eq_true h2, Bool.true_and] at HR
      have e2 : (b.extract 0 a.size).toList = a.toList := by rw [e3, h2, ByteArray.toList_eq]
      clear e3 h2
      go_enter Tryz.func55, Tryz.ntmps55
      go_wp2_with fail
      go_ret
      exact ⟨by rw [HR.out]; rfl, rfl⟩
    · rw [decide_eq_false h2, Bool.false_and] at HR
      have e2 : ¬ (b.extract 0 a.size).toList = a.toList := by rw [e3, ByteArray.toList_eq]; exact h2
      clear e3 h2
      go_enter Tryz.func55, Tryz.ntmps55
      go_wp2_with fail
      go_ret
      exact ⟨by rw [HR.out]; rfl, rfl⟩
  · have HR := Lib.hid (under_size h1)
    generalize under a.data.toList b.data.toList = R at *
    go_enter Tryz.func55, Tryz.ntmps55
    go_wp2_with fail
    go_ret
    exact ⟨by rw [HR.out]; rfl, rfl⟩
set_option maxRecDepth 100000 in
set_option maxHeartbeats 1000000 in
theorem sat_calls (sp : Option Addr) (cap : Nat) (L : List Fi) (nm : ByteArray) (w : World) (hs : Fs w sp L) (hm : L.length ≤ 1048576) :
    Calls Tryz.prog 45 #[.slice sp L.length cap, .string nm] w (fun e w' => ∃ v : Int, e = .returned (.int .i64 v) ∧ w' = w ∧
      ((v = -1 ∧ ∀ k, k < L.length → nmAt L k ≠ nm.data.toList) ∨ ∃ k : Nat, v = k ∧ k < L.length ∧ nmAt L k = nm.data.toList ∧ ∀ j, j < k → nmAt L j ≠ nm.data.toList)) := by
  generalize hn : L.length = n at *
  go_enter Tryz.func45, Tryz.ntmps45
  go_wp2_with fail
  go_loopw [5] (fun x wr => ∃ k : Nat, x = .int .i64 k ∧ k ≤ n ∧ wr = w ∧ ∀ j, j < k → nmAt L j ≠ nm.data.toList) (fun x _ => n - (intOf x).toNat)
  case atStart => exact ⟨0, rfl, by omega, rfl, fun j h => by omega⟩
  case round =>
    obtain ⟨k, rfl, hk, rfl, H⟩ := hrel
    by_cases hlt : k < n
    · rcases hs.out with hs0 | ⟨g, o, rfl, F⟩
      · rw [hs0] at hn; simp at hn; omega
      · have hkl : k < L.length := by omega
        obtain ⟨c0, _, _, _, _, _, _, _⟩ := F.cells hkl
        have HN := Lib.hid (nmAt_lt hkl)
        generalize L[k].nm = u at *
        rw [← ByteArray.toList_eq u, ← ByteArray.toList_eq nm] at *
        by_cases h1 : u.toList = nm.toList
        · go_wp2_with fail
          go_ret
          exact ⟨_, rfl, rfl, Or.inr ⟨k, rfl, hlt, HN.out.trans (h1.trans (ByteArray.toList_eq nm)), fun j hj => by rw [← ByteArray.toList_eq]; exact H j hj⟩⟩
        · have H2 := Lib.hid h1
          go_wp2_with fail
          · exact absurd (beq_iff_eq.1 (by assumption)) H2.out
          exact ⟨⟨k + 1, by go_num, by omega, trivial, fun j hj => by
            rcases Nat.lt_or_ge j k with hj' | hj'
            · exact H j hj'
            · obtain rfl : j = k := by omega
              rw [HN.out]; exact H2.out⟩, by simp [intOf]; omega⟩
    · obtain rfl : k = n := by omega
      go_wp2_with fail
      go_ret
      exact ⟨_, rfl, rfl, Or.inl ⟨rfl, H⟩⟩
theorem at_eq {L : List Fi} {i n : Nat} {nm : ByteArray} {v : Int} (hi : i < n) (hm : nmAt L i = nm.data.toList)
    (hv : (v = -1 ∧ ∀ k, k < n → nmAt L k ≠ nm.data.toList) ∨ ∃ k : Nat, v = k ∧ k < n ∧ nmAt L k = nm.data.toList ∧ ∀ j, j < k → nmAt L j ≠ nm.data.toList) : v = i ↔ ∀ j, j < i → nmAt L j ≠ nmAt L i := by
  rw [hm]
  rcases hv with ⟨_, h⟩ | ⟨k, rfl, hk, h1, h2⟩
  · exact absurd hm (h i hi)
  · constructor
    · intro e
      obtain rfl : k = i := by omega
      exact h2
    · intro h
      rcases Nat.lt_trichotomy k i with h' | h' | h'
      · exact absurd h1 (h k h')
      · rw [h']
      · exact absurd hm (h2 i h')
set_option maxRecDepth 100000 in
set_option maxHeartbeats 1000000 in
theorem szipok_calls (sp : Option Addr) (cap : Nat) (L : List Fi) (w : World) (hs : Fs w sp L) (hz : Szs L 1048576) (hm : L.length ≤ 1048576) :
    Calls Tryz.prog 32 #[.slice sp L.length cap] w (fun e w' => ∃ b : Bool, e = .returned (.bool b) ∧ On w w' ∧ (b = true ↔ ZipOk L)) := by
  have HNE := Lib.hid (fun (h : ∀ i, i < L.length → EnAt L i ∧ ApartAt L i) => (⟨fun i hi => (h i hi).1, apart_at.1 fun i hi => (h i hi).2⟩ : (∀ i, i < L.length → EnAt L i) ∧ Apart L))
  have HNO := Lib.hid (fun (h : ZipOk L) i (hi : i < L.length) => (⟨h.1 i hi, (apart_at.2 h.2.1) i hi⟩ : EnAt L i ∧ ApartAt L i))
  have HL := Lib.hid (fun (h : ZipOk L) => h.2.2)
  have HMK : RowKit.Hid (((∀ i, i < L.length → EnAt L i) ∧ Apart L) → L.length ≤ 6 → ZipOk L) := Lib.hid (fun h h6 => ⟨h.1, h.2, h6⟩)
  have HSA := Lib.hid (fun w nm (h : Fs w sp L) => sat_calls sp cap L nm w h hm)
  have HZ := Lib.hid hz
  clear hz
  generalize ZipOk L = Z at *
  generalize hn : L.length = n at *
  go_enter Tryz.func32, Tryz.ntmps32
  go_wp2_with fail
  go_loopw [3] (fun x wr => ∃ i : Nat, x = .int .i64 i ∧ i ≤ n ∧ (∀ j, j < i → EnAt L j ∧ ApartAt L j) ∧ On w wr) (fun x _ => n - (intOf x).toNat)
  case atStart => exact ⟨0, rfl, by omega, fun j h1 => by omega, On.refl w⟩
  case round =>
    obtain ⟨i, rfl, hi, H, O⟩ := hrel
    by_cases hlt : i < n
    · rcases hs.out with hs0 | ⟨g, o, rfl, F⟩
      · rw [hs0] at hn; simp at hn; omega
      · have hil : i < L.length := by omega
        have hsw := hs.on O
        obtain ⟨c0, c1, c2, c3, c4, c5, c6, c7⟩ := (F.on O).cells hil
        have HC0 := Lib.hid (fun W (O1 : On wr W) => ((F.on O).on O1).cells hil)
        have hz1 := HZ.out.out _ (List.getElem_mem hil)
        have HC := Lib.hid (fun w => sentry_calls L[i].nm L[i].y L[i].m L[i].d L[i].h L[i].mi L[i].s L[i].tx w (by omega) (by unfold maxLen; omega))
        have HE := Lib.hid (show EnAt L i ↔ entryOk L[i].nm L[i].y L[i].m L[i].d L[i].h L[i].mi L[i].s L[i].tx = true from EnAt.iff hil)
        have HM := Lib.hid (nmAt_lt hil)
        clear hz1
        generalize entryOk L[i].nm L[i].y L[i].m L[i].d L[i].h L[i].mi L[i].s L[i].tx = R at *
        unfold ent at HC
        generalize L[i].nm = nm at *
        generalize L[i].y = y at *
        generalize L[i].m = m at *
        generalize L[i].d = d at *
        generalize L[i].h = h at *
        generalize L[i].mi = mi at *
        generalize L[i].s = s at *
        generalize L[i].tx = tx at *
        go_wp2_with fail
        refine (HC.out wr).mono ?_
        rintro e w1 ⟨rfl, O1⟩
        have O2 := O.call O1
        obtain ⟨x0, _, _, _, _, _, _, _⟩ := HC0.out w1 O1
        clear c0 c1 c2 c3 c4 c5 c6 c7
        cases R with
        | false =>
          go_wp2_with fail
          go_ret
          exact ⟨_, rfl, O2, by simp; intro hz; have := HE.out.1 (HNO.out hz i hlt).1; cases this⟩
        | true =>
          go_wp2_with fail
          refine (HSA.out w1 nm (hs.on O2)).mono ?_
          rintro e w2 ⟨v, rfl, rfl, hv⟩
          by_cases hvi : v = i
          · subst hvi
            have HA := Lib.hid ((at_eq hlt HM.out hv).1 rfl)
            clear hv
            go_wp2_with fail
            go_loopw [4] (fun x wq => ∃ j : Nat, x = .int .i64 j ∧ j ≤ n ∧ (∀ k, k < j → under (nmAt L i) (nmAt L k) = false) ∧ On w wq) (fun x _ => n - (intOf x).toNat)
            case atStart => exact ⟨0, rfl, by omega, fun k h => by omega, O2⟩
            case round =>
              obtain ⟨j, rfl, hj, HU, Oq⟩ := hrel
              by_cases hjn : j < n
              · have hjl : j < L.length := by omega
                obtain ⟨y0, _, _, _, _, _, _, _⟩ := (F.on Oq).cells hjl
                obtain ⟨z0, _, _, _, _, _, _, _⟩ := (F.on Oq).cells hil
                have HM1 := Lib.hid (nmAt_lt hil)
                have HM2 := Lib.hid (nmAt_lt hjl)
                have HSU := Lib.hid (fun w => sunder_calls L[i].nm L[j].nm (HZ.out.out _ (List.getElem_mem hil)).1 (HZ.out.out _ (List.getElem_mem hjl)).1 w)
                rw [← HM1.out, ← HM2.out] at HSU
                generalize L[i].nm = a at *
                generalize L[j].nm = b at *
                have hR := Lib.hid (show under (nmAt L i) (nmAt L j) = under (nmAt L i) (nmAt L j) from rfl)
                have HUJ := Lib.hid (fun (h : under (nmAt L i) (nmAt L j) = false) k (hk : k < j + 1) => show under (nmAt L i) (nmAt L k) = false by
                  rcases Nat.lt_or_ge k j with hk' | hk'
                  · exact HU k hk'
                  · obtain rfl : k = j := by omega
                    exact h)
                have HUT := Lib.hid (fun (h : under (nmAt L i) (nmAt L j) = true) (hz : Z) => show False by
                  have := (HNO.out hz i hlt).2.2 j hjl
                  rw [h] at this; cases this)
                clear hR
                generalize under (nmAt L i) (nmAt L j) = R at *
                cases R with
                | false =>
                  go_wp2_with fail
                  go_quiet (first | (go_at_call 55; exact Calls.quiet_of_same (HSU.out _)))
                  go_wp2_with fail
                  exact ⟨⟨j + 1, by go_num, by omega, HUJ.out trivial, Oq.drewN _⟩, by simp [intOf]; omega⟩
                | true =>
                  go_wp2_with fail
                  go_quiet (first | (go_at_call 55; exact Calls.quiet_of_same (HSU.out _)))
                  go_wp2_with fail
                  go_ret
                  exact ⟨_, rfl, Oq.drewN _, by simp; exact HUT.out trivial⟩
              · obtain rfl : j = n := by omega
                go_wp2_with fail
                exact ⟨⟨i + 1, by go_num, by omega, fun k hk => by
                  rcases Nat.lt_or_ge k i with hk' | hk'
                  · exact H k hk'
                  · obtain rfl : k = i := by omega
                    exact ⟨HE.out.2 trivial, HA.out, fun q hq => HU q (by omega)⟩, Oq⟩, by simp [intOf]; omega⟩
          · have HA := Lib.hid (fun h => hvi ((at_eq hlt HM.out hv).2 h))
            clear hv
            go_wp2_with fail
            go_ret
            exact ⟨_, rfl, O2, by simp; intro hz; exact HA.out (HNO.out hz i hlt).2.1⟩
    · obtain rfl : i = n := by omega
      have H2 := Lib.hid (HNE.out H)
      by_cases h6 : i ≤ 6
      · go_wp2_with fail
        go_ret
        exact ⟨_, rfl, O, by simp; exact ⟨fun _ => HMK.out H2.out h6, fun _ => by omega⟩⟩
      · go_wp2_with fail
        go_ret
        exact ⟨_, rfl, O, by simp; exact ⟨fun h => by omega, fun hz => by have := HL.out hz; omega⟩⟩
end Go.Proofs.YtnadjlejlohgiaaGreatDoor.Nm

/- The program's own look at an archive's names. -/
namespace Go.Proofs.YtnadjlejlohgiaaGreatDoor.Nm
open Go.RowKit Go.Proofs.YtnadjlejlohgiaaGreatDoor.Mem
set_option linter.unusedVariables false
set_option linter.unusedSimpArgs false
def nms (L : List Fi) : List Value := L.map fun f => .string f.nm
set_option maxRecDepth 100000 in
set_option maxHeartbeats 1000000 in
theorem namesof_calls (sp : Option Addr) (cap : Nat) (L : List Fi) (w : World) (hs : Fs w sp L) (hm : L.length ≤ 6) :
    Calls Tryz.prog 46 #[.slice sp L.length cap] w (fun e w' => ∃ v, e = .returned v ∧ Own w.heap.size w' 9 1 v L.length (nms L) ∧ On w w') := by
  generalize hn : L.length = n at *
  go_enter Tryz.func46, Tryz.ntmps46
  go_wp2_with fail
  obtain ⟨i0, hi0, hz0, hz1, hz2⟩ := info_parts strinfo
  go_loopw [3, 9] (fun v x wr => ∃ k : Nat, x = .int .i64 k ∧ k ≤ n ∧ Own w.heap.size wr 9 1 v k (nms (L.take k)) ∧ On w wr) (fun _ x _ => n - (intOf x).toNat)
  case atStart => exact ⟨0, rfl, by omega, Own.new w 9 1 #[] 0 (Nat.zero_le _) rfl (Nat.le_refl _), (On.refl w).alloc _⟩
  case round =>
    obtain ⟨k, rfl, hk, hown, O⟩ := hrel
    obtain ⟨gr, capr, rfl, hgr, hrow, hkc, hcap, hlen⟩ := hown.parts
    by_cases hlt : k < n
    · rcases hs.out with hs0 | ⟨g, o, rfl, F⟩
      · rw [hs0] at hn; simp at hn; omega
      · have hkl : k < L.length := by omega
        obtain ⟨c0, c1, c2, c3, c4, c5, c6, c7⟩ := (F.on O).cells hkl
        have hnm : nms (L.take k) ++ [.string L[k].nm] = nms (L.take (k + 1)) := by
          unfold nms
          rw [List.take_succ_eq_append_getElem hkl, List.map_append]; rfl
        have HNM := Lib.hid hnm
        clear hnm
        generalize L[k].nm = nm at *
        generalize L[k].y = y at *
        generalize L[k].m = m at *
        generalize L[k].d = d at *
        generalize L[k].h = h at *
        generalize L[k].mi = mi at *
        generalize L[k].s = s at *
        generalize L[k].tx = tx at *
        go_upto_region 5 with fail
        have A1 := (On.refl wr).alloc (.cells #[.string nm, .int .i64 y, .int .i64 m, .int .i64 d, .int .i64 h, .int .i64 mi, .int .i64 s, .string tx] 42)
        have B1 := Blk.new wr 42 #[.string nm, .int .i64 y, .int .i64 m, .int .i64 d, .int .i64 h, .int .i64 mi, .int .i64 s, .string tx]
        have O1 := O.call A1
        replace hown := hown.on A1
        have x0 : (wr.alloc (.cells #[.string nm, .int .i64 y, .int .i64 m, .int .i64 d, .int .i64 h, .int .i64 mi, .int .i64 s, .string tx] 42)).cell? ⟨wr.heap.size, 0, none⟩ = some (.string nm) := (B1.cell 0).trans rfl
        clear c0 c1 c2 c3 c4 c5 c6 c7 B1 A1 hrow
        generalize wr.alloc (.cells #[.string nm, .int .i64 y, .int .i64 m, .int .i64 d, .int .i64 h, .int .i64 mi, .int .i64 s, .string tx] 42) = w1 at *
        generalize wr.heap.size = p at *
        go_wp2_with (at_builtin; go_must (refine wpList_app rfl _ _ 34 rfl w i0 (.string ByteArray.empty) 16 1 Tryz.underlying34 hi0 hz0 hz1 hz2 rfl (by decide) rfl _ _ _ rfl hown O1 rfl (by simp [Value.oneCell']) (by unfold maxLen; omega) (by omega) ?_); intro v' w2 hown' O' _)
        go_roundw
        case rel =>
          refine ⟨k + 1, by go_num, by omega, ?_, O'⟩
          rw [← HNM.out]; simpa using hown'
        case measure => simp [intOf]; omega
    · obtain rfl : k = n := by omega
      rw [← hn, List.take_length] at hown
      go_wp2_with fail
      go_ret
      exact ⟨_, rfl, by rw [← hn]; exact hown, O⟩
/-- A row of names. -/
structure Nms (w : World) (r : Nat) (L : List Fi) : Prop where mk :: (out : ∀ i, (h : i < L.length) → w.cell? ⟨r, i, none⟩ = some (.string L[i].nm))
theorem Nms.on {w w' : World} {r : Nat} {L : List Fi} (h : Nms w r L) (O : On w w') : Nms w' r L :=
  ⟨fun i hi => (O.cell (World.block_lt_of_cell? w _ (h.out i hi))).trans (h.out i hi)⟩
theorem Nms.of {w : World} {r t : Nat} {L : List Fi} (h : Row w r t (nms L)) : Nms w r L :=
  ⟨fun i hi => h.cell (by unfold nms; rw [List.getElem?_map, List.getElem?_eq_getElem hi]; rfl)⟩
theorem slash_under (a b : ByteArray) : Lib.hasPrefix a.data.toList (b ++ ⟨#[47]⟩).data.toList = under b.data.toList a.data.toList := by
  unfold under; simp
theorem prefix_calls (a b : ByteArray) (w : World) : Calls Tryz.prog 93 #[.string a, .string (b ++ ⟨#[47]⟩)] w (fun e w' => e = .returned (.bool (under b.data.toList a.data.toList)) ∧ w' = w) := by
  rw [← slash_under]; exact Tryz.strings_HasPrefix _ _ w
set_option maxRecDepth 100000 in
set_option maxHeartbeats 1000000 in
theorem apart_calls (r cap : Nat) (L : List Fi) (w : World) (hs : Nms w r L) (hz : Szs L 1048576) (hm : L.length ≤ 6) (hc : L.length ≤ cap) (hc2 : cap ≤ maxLen) :
    Calls Tryz.prog 63 #[.slice (some ⟨r, 0, none⟩) L.length cap] w (fun e w' => ∃ b : Bool, e = .returned (.bool b) ∧ On w w' ∧ (b = true ↔ Apart L)) := by
  unfold maxLen at hc2
  have HA1 := Lib.hid (fun h => (apart_to (L := L)).1 h)
  have HA2 := Lib.hid (fun h => (apart_to (L := L)).2 h)
  have HZ := Lib.hid hz
  clear hz
  generalize Apart L = Z at *
  generalize hn : L.length = n at *
  go_enter Tryz.func63, Tryz.ntmps63
  go_wp2_with fail
  go_loopw [9] (fun x wr => ∃ i : Nat, x = .int .i64 i ∧ i ≤ n ∧ ApartTo L i ∧ On w wr) (fun x _ => n - (intOf x).toNat)
  case atStart => exact ⟨0, rfl, by omega, fun i j h1 h2 => by omega, On.refl w⟩
  case round =>
    obtain ⟨i, rfl, hi, H, O⟩ := hrel
    by_cases hlt : i < n
    · have hil : i < L.length := by omega
      have c0 := (hs.on O).out i hil
      have hic : i ≤ cap := by omega
      have HAP := Lib.hid (fun (h : ∀ j, j < i → nmAt L i ≠ nmAt L j ∧ under (nmAt L j) (nmAt L i) = false ∧ under (nmAt L i) (nmAt L j) = false) => show ApartTo L (i + 1) from fun p q hp hq => by
        rcases Nat.lt_or_ge p i with hp' | hp'
        · exact H p q hp' hq
        · obtain rfl : p = i := by omega
          exact h q hq)
      have HMI := Lib.hid (nmAt_lt hil)
      have HSI := Lib.hid (HZ.out.out _ (List.getElem_mem hil)).1
      generalize L[i].nm = a at *
      go_wp2_with fail
      go_loopw [18] (fun x wq => ∃ j : Nat, x = .int .i64 j ∧ j ≤ i ∧ (∀ k, k < j → nmAt L i ≠ nmAt L k ∧ under (nmAt L k) (nmAt L i) = false ∧ under (nmAt L i) (nmAt L k) = false) ∧ On w wq) (fun x _ => i - (intOf x).toNat)
      case atStart => exact ⟨0, rfl, by omega, fun k h => by omega, O⟩
      case round =>
        obtain ⟨j, rfl, hj, HU, Oq⟩ := hrel
        by_cases hji : j < i
        · have hjl : j < L.length := by omega
          have d0 := (hs.on Oq).out j hjl
          have HMJ := Lib.hid (nmAt_lt hjl)
          have HSJ := Lib.hid (HZ.out.out _ (List.getElem_mem hjl)).1
          generalize L[j].nm = b at *
          have HZJ := Lib.hid (fun (hz : Z) => HA2.out hz i j (by omega) hji)
          have HUJ := Lib.hid (fun (h : nmAt L i ≠ nmAt L j ∧ under (nmAt L j) (nmAt L i) = false ∧ under (nmAt L i) (nmAt L j) = false) k (hk : k < j + 1) => show nmAt L i ≠ nmAt L k ∧ under (nmAt L k) (nmAt L i) = false ∧ under (nmAt L i) (nmAt L k) = false by
            rcases Nat.lt_or_ge k j with hk' | hk'
            · exact HU k hk'
            · obtain rfl : k = j := by omega
              exact h)
          have HP1 := Lib.hid (fun w => prefix_calls a b w)
          have HP2 := Lib.hid (fun w => prefix_calls b a w)
          rw [← HMI.out, ← HMJ.out] at HP1 HP2
          have sa : a.size + 1 ≤ 9223372036854775807 := by have := HSI.out; omega
          have sb : b.size + 1 ≤ 9223372036854775807 := by have := HSJ.out; omega
          by_cases e1 : a.toList = b.toList
          · have e2 : nmAt L i = nmAt L j := by rw [HMI.out, HMJ.out, ← ByteArray.toList_eq, e1, ByteArray.toList_eq]
            have HX := Lib.hid (fun hz => (HZJ.out hz).1 e2)
            clear e2
            go_wp2_with fail
            go_ret
            exact ⟨_, rfl, Oq, by simp; exact HX.out⟩
          · have e2 : ¬ nmAt L i = nmAt L j := by rw [HMI.out, HMJ.out, ← ByteArray.toList_eq, ← ByteArray.toList_eq]; exact e1
            have E2 := Lib.hid e2
            clear e2
            have E1 := Lib.hid e1
            generalize under (nmAt L j) (nmAt L i) = U1 at *
            generalize under (nmAt L i) (nmAt L j) = U2 at *
            go_wp2_with fail
            refine (HP1.out _).mono ?_
            rintro e w' ⟨rfl, rfl⟩
            cases U1 with
            | true =>
              have HX : RowKit.Hid (Z → False) := Lib.hid (fun hz => by have := (HZJ.out hz).2.1; first | exact this | cases this)
              clear HUJ HZJ
              go_wp2_with fail
              all_goals first
                | exact absurd (beq_iff_eq.1 (by assumption)) E1.out
                | (go_ret; exact ⟨_, rfl, Oq, by simp; exact fun hz => HX.out hz⟩)
            | false =>
              go_wp2_with fail
              refine (HP2.out _).mono ?_
              rintro e w' ⟨rfl, rfl⟩
              cases U2 with
              | true =>
                have HX : RowKit.Hid (Z → False) := Lib.hid (fun hz => by have := (HZJ.out hz).2.2; first | exact this | cases this)
                clear HUJ HZJ
                go_wp2_with fail
                all_goals first
                  | exact absurd (beq_iff_eq.1 (by assumption)) E1.out
                  | (go_ret; exact ⟨_, rfl, Oq, by simp; exact fun hz => HX.out hz⟩)
              | false =>
                have HX := Lib.hid (HUJ.out ⟨E2.out, by first | exact trivial | rfl, by first | exact trivial | rfl⟩)
                clear HUJ HZJ
                go_wp2_with fail
                all_goals first
                  | exact absurd (beq_iff_eq.1 (by assumption)) E1.out
                  | exact ⟨⟨j + 1, by go_num, by omega, HX.out, Oq⟩, by simp [intOf]; omega⟩
        · obtain rfl : j = i := by omega
          go_wp2_with fail
          exact ⟨⟨j + 1, by go_num, by omega, HAP.out HU, Oq⟩, by simp [intOf]; omega⟩
    · obtain rfl : i = n := by omega
      go_wp2_with fail
      go_ret
      exact ⟨_, rfl, O, by simp; exact HA1.out H⟩
end Go.Proofs.YtnadjlejlohgiaaGreatDoor.Nm

/- The program's ZipOk. -/
namespace Go.Proofs.YtnadjlejlohgiaaGreatDoor.Nm
open Go.RowKit Go.Proofs.YtnadjlejlohgiaaGreatDoor.Mem
set_option linter.unusedVariables false
set_option linter.unusedSimpArgs false
set_option maxRecDepth 100000 in
set_option maxHeartbeats 1000000 in
theorem izipok_calls (sp : Option Addr) (cap : Nat) (L : List Fi) (w : World) (hf : Fact w) (hs : Fs w sp L) (hz : Szs L 1048576) (hm : L.length ≤ 1048576) :
    Calls Tryz.prog 37 #[.slice sp L.length cap] w (fun e w' => ∃ b : Bool, e = .returned (.bool b) ∧ On w w' ∧ (b = true ↔ ZipOk L)) := by
  have HNE := Lib.hid (fun (h : ZipOk L) => h.1)
  have HAP := Lib.hid (fun (h : ZipOk L) => h.2.1)
  have HL := Lib.hid (fun (h : ZipOk L) => h.2.2)
  have HMK : RowKit.Hid ((∀ i, i < L.length → EnAt L i) → Apart L → L.length ≤ 6 → ZipOk L) := Lib.hid (fun h h2 h6 => ⟨h, h2, h6⟩)
  have HNM := Lib.hid (fun w (h : Fs w sp L) (h6 : L.length ≤ 6) => namesof_calls sp cap L w h h6)
  have HPA := Lib.hid (fun r cap w (hs : Nms w r L) (hm : L.length ≤ 6) (hc : L.length ≤ cap) (hc2 : cap ≤ maxLen) => apart_calls r cap L w hs hz hm hc hc2)
  have HZ := Lib.hid hz
  clear hz
  generalize ZipOk L = Z at *
  generalize Apart L = A at *
  generalize hn : L.length = n at *
  have HF := Lib.hid hf
  clear hf
  go_enter Tryz.func37, Tryz.ntmps37
  go_wp2_with fail
  go_loopw [7] (fun x wr => ∃ i : Nat, x = .int .i64 i ∧ i ≤ n ∧ (∀ j, j < i → EnAt L j) ∧ On w wr) (fun x _ => n - (intOf x).toNat)
  case atStart => exact ⟨0, rfl, by omega, fun j h1 => by omega, On.refl w⟩
  case round =>
    obtain ⟨i, rfl, hi, H, O⟩ := hrel
    by_cases hlt : i < n
    · rcases hs.out with hs0 | ⟨g, o, rfl, F⟩
      · rw [hs0] at hn; simp at hn; omega
      · have hil : i < L.length := by omega
        obtain ⟨c0, c1, c2, c3, c4, c5, c6, c7⟩ := (F.on O).cells hil
        have hz1 := HZ.out.out _ (List.getElem_mem hil)
        have HC := Lib.hid (fun w hf => ientry_calls L[i].nm L[i].y L[i].m L[i].d L[i].h L[i].mi L[i].s L[i].tx w hf (by omega) (by unfold maxLen; omega))
        have HE := Lib.hid (show EnAt L i ↔ entryOk L[i].nm L[i].y L[i].m L[i].d L[i].h L[i].mi L[i].s L[i].tx = true from EnAt.iff hil)
        clear hz1
        generalize entryOk L[i].nm L[i].y L[i].m L[i].d L[i].h L[i].mi L[i].s L[i].tx = R at *
        unfold ent at HC
        generalize L[i].nm = nm at *
        generalize L[i].y = y at *
        generalize L[i].m = m at *
        generalize L[i].d = d at *
        generalize L[i].h = h at *
        generalize L[i].mi = mi at *
        generalize L[i].s = s at *
        generalize L[i].tx = tx at *
        go_upto_region 4 with fail
        have A1 := (On.refl wr).alloc (.cells #[.string nm, .int .i64 y, .int .i64 m, .int .i64 d, .int .i64 h, .int .i64 mi, .int .i64 s, .string tx] 42)
        have B1 := Blk.new wr 42 #[.string nm, .int .i64 y, .int .i64 m, .int .i64 d, .int .i64 h, .int .i64 mi, .int .i64 s, .string tx]
        have O1 := O.call A1
        have cs := fun W (b : Blk W wr.heap.size 42 #[.string nm, .int .i64 y, .int .i64 m, .int .i64 d, .int .i64 h, .int .i64 mi, .int .i64 s, .string tx]) => (⟨(b.cell 0).trans rfl, (b.cell 1).trans rfl, (b.cell 2).trans rfl, (b.cell 3).trans rfl, (b.cell 4).trans rfl, (b.cell 5).trans rfl, (b.cell 6).trans rfl, (b.cell 7).trans rfl⟩ :
          W.cell? ⟨wr.heap.size, 0, none⟩ = some (.string nm) ∧ W.cell? ⟨wr.heap.size, 1, none⟩ = some (.int .i64 y) ∧ W.cell? ⟨wr.heap.size, 2, none⟩ = some (.int .i64 m) ∧ W.cell? ⟨wr.heap.size, 3, none⟩ = some (.int .i64 d) ∧ W.cell? ⟨wr.heap.size, 4, none⟩ = some (.int .i64 h) ∧ W.cell? ⟨wr.heap.size, 5, none⟩ = some (.int .i64 mi) ∧ W.cell? ⟨wr.heap.size, 6, none⟩ = some (.int .i64 s) ∧ W.cell? ⟨wr.heap.size, 7, none⟩ = some (.string tx))
        obtain ⟨x0, x1, x2, x3, x4, x5, x6, x7⟩ := cs _ B1
        clear c0 c1 c2 c3 c4 c5 c6 c7 cs B1 A1
        generalize wr.alloc (.cells #[.string nm, .int .i64 y, .int .i64 m, .int .i64 d, .int .i64 h, .int .i64 mi, .int .i64 s, .string tx] 42) = w1 at *
        generalize wr.heap.size = p at *
        go_wp2_with fail
        refine (HC.out w1 (HF.out.on HF.out.lt O1)).mono ?_
        rintro e w2 ⟨rfl, O2⟩
        have O3 := O1.call O2
        clear x0 x1 x2 x3 x4 x5 x6 x7
        cases R with
        | false =>
          go_wp2_with fail
          go_ret
          exact ⟨_, rfl, O3, by simp; intro hz; have := HE.out.1 (HNE.out hz i hlt); first | exact this | cases this⟩
        | true =>
          have HEI := Lib.hid (HE.out.2 rfl)
          clear HE
          go_wp2_with fail
          exact ⟨⟨i + 1, by go_num, by omega, fun k hk => by
            rcases Nat.lt_or_ge k i with hk' | hk'
            · exact H k hk'
            · obtain rfl : k = i := by omega
              exact HEI.out, O3⟩, by simp [intOf]; omega⟩
    · obtain rfl : i = n := by omega
      have HH := Lib.hid H
      clear H
      by_cases h6 : i ≤ 6
      · go_wp2_with fail
        refine (HNM.out wr (hs.on O) h6).mono ?_
        rintro e w1 ⟨v, rfl, hown, O1⟩
        obtain ⟨r, capr, rfl, _, hrow, hkc, hcap, hlen⟩ := hown.parts
        have O2 := O.call O1
        clear hlen
        go_wp2_with fail
        refine (HPA.out r capr w1 (Nms.of hrow) h6 hkc hcap).mono ?_
        rintro e w2 ⟨b, rfl, O3, hb⟩
        have HB := Lib.hid hb
        clear hb
        go_wp2_with fail
        go_ret
        exact ⟨b, rfl, O2.call O3, ⟨fun h => HMK.out HH.out (HB.out.1 h) h6, fun hz => HB.out.2 (HAP.out hz)⟩⟩
      · go_wp2_with fail
        go_ret
        refine Or.inl ⟨rfl, O, ?_⟩
        intro hz; have := HL.out hz; omega
end Go.Proofs.YtnadjlejlohgiaaGreatDoor.Nm

