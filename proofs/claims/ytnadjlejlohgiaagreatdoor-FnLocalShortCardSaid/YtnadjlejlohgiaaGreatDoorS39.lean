/- Own texts joined: Zl. -/
import Derived.Test.YtnadjlejlohgiaaGreatDoorS36
import Derived.Test.YtnadjlejlohgiaaGreatDoorS38
/- A file of an archive read back, in plain words: the number of its stamp, its fields as bytes. Nothing is walked here. -/
namespace Go.Proofs.YtnadjlejlohgiaaGreatDoor.Lc
open Go.RowKit Go.Proofs.YtnadjlejlohgiaaGreatDoor.Mem Go.Proofs.YtnadjlejlohgiaaGreatDoor.Nm Go.Proofs.YtnadjlejlohgiaaGreatDoor.Nb Go.Proofs.YtnadjlejlohgiaaGreatDoor.Cr Go.Proofs.YtnadjlejlohgiaaGreatDoor.Wi Go.Proofs.YtnadjlejlohgiaaGreatDoor.De
set_option linter.unusedVariables false
set_option linter.unusedSimpArgs false
theorem parts_total : ∀ l : List UInt8, ((Nm.parts l).map fun p => p.length + 1).sum = l.length + 1
  | [] => rfl
  | b :: t => by
    have ih := parts_total t
    by_cases hb : b = 47
    · simp only [Nm.parts, if_pos hb, List.map_cons, List.sum_cons, ih, List.length_nil, List.length_cons]; omega
    · simp only [Nm.parts, if_neg hb]
      cases h : Nm.parts t with
      | nil => exact absurd h (Nm.parts_ne t)
      | cons p r =>
        rw [h] at ih
        simp only [List.map_cons, List.sum_cons, List.length_cons] at ih ⊢
        omega
theorem sum_le : ∀ (l : List (List UInt8)), (∀ p ∈ l, p.length ≤ 10) → (l.map fun p => p.length + 1).sum ≤ 11 * l.length
  | [], _ => by simp
  | p :: r, h => by
    have ih := sum_le r fun q hq => h q (List.mem_cons_of_mem _ hq)
    have h1 := h p List.mem_cons_self
    simp only [List.map_cons, List.sum_cons, List.length_cons]
    omega
theorem nameOk_size {nm : ByteArray} (h : nameOk nm.data.toList = true) : nm.size ≤ 43 := by
  unfold nameOk at h
  rw [Bool.and_eq_true, decide_eq_true_eq, List.all_eq_true] at h
  have h1 := parts_total nm.data.toList
  have h2 := sum_le (Nm.parts nm.data.toList) fun p hp => by
    have := h.1 p hp
    unfold partOk at this
    simp only [Bool.and_eq_true, decide_eq_true_eq] at this
    omega
  have e : nm.size = nm.data.toList.length := by rw [Array.length_toList]; rfl
  omega
theorem entryOk_parts {nm tx : ByteArray} {y m d h mi s : Int} (hk : entryOk nm y m d h mi s tx = true) : nm.size ≤ 43 ∧ okp y m d h mi s ∧ tx.size ≤ 300 := by
  unfold entryOk at hk
  simp only [Bool.and_eq_true, decide_eq_true_eq] at hk
  exact ⟨nameOk_size hk.1, hk.2.1, hk.2.2⟩
theorem ch_append (a b : ByteArray) : chars (a ++ b) = chars a ++ chars b := by
  unfold chars
  rw [ByteArray.data_append, Array.toList_append, List.map_append]
theorem ch_extract (s : ByteArray) (a b : Nat) : chars (s.extract a b) = ((chars s).drop a).take (b - a) := by
  unfold chars
  rw [Lib.extract_data, List.map_take, List.map_drop]
theorem numB_cons : ∀ (n v : Nat), numB (n + 1) v = v % 256 :: numB n (v / 256) := by
  intro n v
  unfold numB
  rw [List.range_succ_eq_map, List.map_cons, List.map_map, Nat.pow_zero, Nat.div_one]
  congr 1
  refine List.map_congr_left fun i _ => ?_
  show v / 256 ^ (i + 1) % 256 = v / 256 / 256 ^ i % 256
  rw [Nat.div_div_eq_div_mul, Nat.pow_succ, Nat.mul_comm]
theorem numB_numOf : ∀ {l : List Nat}, (∀ x ∈ l, x < 256) → numB l.length (numOf l) = l
  | [], _ => rfl
  | x :: l, h => by
    have h1 := numB_numOf (l := l) fun y hy => h y (List.mem_cons_of_mem _ hy)
    have h2 := h x List.mem_cons_self
    rw [List.length_cons, numB_cons, numOf]
    rw [show (x + 256 * numOf l) % 256 = x from by omega, show (x + 256 * numOf l) / 256 = numOf l from by omega, h1]
theorem numOf_numB : ∀ (n v : Nat), v < 256 ^ n → numOf (numB n v) = v
  | 0, v, h => by simp at h; subst h; rfl
  | n + 1, v, h => by
    rw [Nat.pow_succ] at h
    rw [numB_cons, numOf, numOf_numB n (v / 256) (by omega)]
    omega
/-- The number that a list of bytes has from a place on. -/
def numL (l : List Nat) (a n : Nat) : Nat := numOf ((l.drop a).take n)
theorem numAtB_eq (s : ByteArray) (a n : Nat) : numAtB s a n = numL (chars s) a n := rfl
theorem piece_iff {l : List Nat} (hl : ∀ x ∈ l, x < 256) {a n v : Nat} (h : a + n ≤ l.length) (hv : v < 256 ^ n) : (l.drop a).take n = numB n v ↔ numL l a n = v := by
  constructor
  · intro e
    unfold numL
    rw [e, numOf_numB n v hv]
  · intro e
    rw [← e]
    have h1 := numB_numOf (l := (l.drop a).take n) fun x hx => hl x (List.mem_of_mem_drop (List.mem_of_mem_take hx))
    rw [show ((l.drop a).take n).length = n from by rw [List.length_take, List.length_drop]; omega] at h1
    exact h1.symm
theorem chars_nB (n v : Nat) : chars (nB n v) = numB n v := chars_strB (numB_lt n v)
theorem chars_mark : chars (⟨#[80, 75, 3, 4]⟩ : ByteArray) = numB 4 67324752 := by rw [← nB_mark, chars_nB]
/-- A list cut into pieces. -/
theorem cut_iff {l r : List Nat} {n v : Nat} (hl : n ≤ l.length) : l = numB n v ++ r ↔ l.take n = numB n v ∧ l.drop n = r := by
  constructor
  · intro e
    subst e
    exact ⟨by rw [List.take_left' (numB_length n v)], by rw [List.drop_left' (numB_length n v)]⟩
  · rintro ⟨e1, e2⟩
    rw [← e1, ← e2, List.take_append_drop]
theorem headB_iff {nm tx t : ByteArray} {y m d h mi s : Int} {mt pk : Nat} (ht : t.size = 30) (hmt : mt < 65536) (hst : (stampN y m d h mi s).toNat < 4294967296) (hpk : pk < 4294967296) (htx : tx.size < 4294967296) (hnm : nm.size < 65536) :
    t = headB nm y m d h mi s tx mt pk ↔
      numAtB t 0 4 = 67324752 ∧ numAtB t 4 2 = 20 ∧ numAtB t 6 2 = 0 ∧ numAtB t 8 2 = mt ∧ numAtB t 10 4 = (stampN y m d h mi s).toNat ∧ numAtB t 14 4 = crcOf tx ∧ numAtB t 18 4 = pk ∧ numAtB t 22 4 = tx.size ∧ numAtB t 26 2 = nm.size ∧ numAtB t 28 2 = 0 := by
  have hcr : crcOf tx < 4294967296 := crcC_lt tx
  have hl := chars_lt t
  have hn : (chars t).length = 30 := by rw [chars_length, ht]
  simp only [numAtB_eq]
  unfold headB
  generalize (stampN y m d h mi s).toNat = sn at *
  generalize crcOf tx = cr at *
  generalize tx.size = tn at *
  generalize nm.size = nn at *
  have e : chars (((((((((((⟨#[80, 75, 3, 4]⟩ : ByteArray) ++ nB 2 20) ++ nB 2 0) ++ nB 2 mt) ++ nB 4 sn) ++ nB 4 cr) ++ nB 4 pk) ++ nB 4 tn) ++ nB 2 nn) ++ nB 2 0)) =
      numB 4 67324752 ++ (numB 2 20 ++ (numB 2 0 ++ (numB 2 mt ++ (numB 4 sn ++ (numB 4 cr ++ (numB 4 pk ++ (numB 4 tn ++ (numB 2 nn ++ numB 2 0)))))))) := by
    simp only [ch_append, chars_nB, chars_mark, List.append_assoc]
  have q : t = (((((((((⟨#[80, 75, 3, 4]⟩ ++ nB 2 20) ++ nB 2 0) ++ nB 2 mt) ++ nB 4 sn) ++ nB 4 cr) ++ nB 4 pk) ++ nB 4 tn) ++ nB 2 nn) ++ nB 2 0) ↔ chars t = numB 4 67324752 ++ (numB 2 20 ++ (numB 2 0 ++ (numB 2 mt ++ (numB 4 sn ++ (numB 4 cr ++ (numB 4 pk ++ (numB 4 tn ++ (numB 2 nn ++ numB 2 0)))))))) := by
    rw [← e]
    exact ⟨fun h => congrArg chars h, chars_ext⟩
  refine Iff.trans q ?_
  generalize chars t = l at *
  clear q e ht
  have P := fun (a n v : Nat) (h1 : a + n ≤ 30) (h2 : v < 256 ^ n) => piece_iff hl (a := a) (n := n) (v := v) (by omega) h2
  rw [cut_iff (by omega), cut_iff (by simp only [List.length_drop]; omega), cut_iff (by simp only [List.length_drop]; omega), cut_iff (by simp only [List.length_drop]; omega), cut_iff (by simp only [List.length_drop]; omega), cut_iff (by simp only [List.length_drop]; omega), cut_iff (by simp only [List.length_drop]; omega), cut_iff (by simp only [List.length_drop]; omega), cut_iff (by simp only [List.length_drop]; omega)]
  simp only [List.drop_drop, Nat.reduceAdd]
  have Z : l.drop 28 = numB 2 0 ↔ (l.drop 28).take 2 = numB 2 0 := by rw [List.take_of_length_le (by rw [List.length_drop]; omega)]
  have P0 := P 0 4 67324752 (by omega) (by decide)
  rw [List.drop_zero] at P0
  rw [Z, P0, P 4 2 20 (by omega) (by decide), P 6 2 0 (by omega) (by decide), P 8 2 mt (by omega) (by omega), P 10 4 sn (by omega) (by omega), P 14 4 cr (by omega) (by omega), P 18 4 pk (by omega) (by omega), P 22 4 tn (by omega) (by omega), P 26 2 nn (by omega) (by omega), P 28 2 0 (by omega) (by decide)]
/-- A stamp's numbers out of its number. -/
def gy (n : Nat) : Int := n / 33554432 + 1980
def gm (n : Nat) : Int := n / 2097152 % 16
def gd (n : Nat) : Int := n / 65536 % 32
def gh (n : Nat) : Int := n / 2048 % 32
def gi (n : Nat) : Int := n / 32 % 64
def gs (n : Nat) : Int := n % 32 * 2
/-- What is told of a file in an archive before its text is unpacked. -/
def headOk (s : ByteArray) : Prop := 30 ≤ s.size ∧ numAtB s 0 4 = 67324752 ∧ numAtB s 4 2 = 20 ∧ numAtB s 6 2 = 0 ∧ numAtB s 28 2 = 0 ∧ 30 + numAtB s 26 2 + numAtB s 18 4 ≤ s.size
instance (s : ByteArray) : Decidable (headOk s) := by unfold headOk; infer_instance
def rdName (s : ByteArray) : ByteArray := s.extract 30 (30 + numAtB s 26 2)
def rdNum (s : ByteArray) : Nat := numAtB s 10 4
/-- The file is as its text says. -/
def textOk (s : ByteArray) (o : ByteArray) : Prop := numAtB s 14 4 = crcOf o ∧ numAtB s 22 4 = o.size ∧ entryOk (rdName s) (gy (rdNum s)) (gm (rdNum s)) (gd (rdNum s)) (gh (rdNum s)) (gi (rdNum s)) (gs (rdNum s)) o = true
instance (s o : ByteArray) : Decidable (textOk s o) := by unfold textOk; infer_instance
/-- A number in a text's head. -/
theorem numAtB_head (s : ByteArray) {a n : Nat} (h : a + n ≤ 30) : numAtB (s.extract 0 30) a n = numAtB s a n := by
  rw [numAtB_eq, numAtB_eq, ch_extract, numL, numL, List.drop_zero]
  congr 1
  rw [List.drop_take, List.take_take]
  congr 1
  omega
end Go.Proofs.YtnadjlejlohgiaaGreatDoor.Lc

