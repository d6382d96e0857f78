/- Own texts joined: Zs. -/
import Derived.Test.YtnadjlejlohgiaaGreatDoorS39
/- What a file's bytes tell: its head, its name, its packed text. Nothing is walked here. -/
namespace Go.Proofs.YtnadjlejlohgiaaGreatDoor.Lc
open Go.RowKit Go.Proofs.YtnadjlejlohgiaaGreatDoor.Mem Go.Proofs.YtnadjlejlohgiaaGreatDoor.Nm Go.Proofs.YtnadjlejlohgiaaGreatDoor.Nb Go.Proofs.YtnadjlejlohgiaaGreatDoor.Cr Go.Proofs.YtnadjlejlohgiaaGreatDoor.Wi Go.Proofs.YtnadjlejlohgiaaGreatDoor.De
set_option linter.unusedVariables false
set_option linter.unusedSimpArgs false
theorem localB_is (nm : ByteArray) (y m d h mi s : Int) (tx : ByteArray) : localB nm y m d h mi s tx = (headB nm y m d h mi s tx (howOf tx).1 (howOf tx).2.size ++ nm) ++ (howOf tx).2 := by
  unfold localB
  rw [headB_fields]
theorem headB_size (nm : ByteArray) (y m d h mi s : Int) (tx : ByteArray) (mt pk : Nat) : (headB nm y m d h mi s tx mt pk).size = 30 := by
  rw [headB_fields, ByteArray.size_append, nB_size, fieldsB_size]
theorem howOf_le (tx : ByteArray) : (howOf tx).2.size ≤ tx.size := by
  unfold howOf
  split
  · exact Nat.le_of_lt (by assumption)
  · exact Nat.le_refl _
theorem howOf_mt (tx : ByteArray) : (howOf tx).1 < 65536 := by unfold howOf; split <;> simp
theorem localB_size (nm : ByteArray) (y m d h mi s : Int) (tx : ByteArray) : (localB nm y m d h mi s tx).size = 30 + nm.size + (howOf tx).2.size := by
  rw [localB_is, ByteArray.size_append, ByteArray.size_append, headB_size]
section
variable {nm tx : ByteArray} {y m d h mi s : Int} (r : ByteArray)
theorem ch_local : chars (localB nm y m d h mi s tx ++ r) = chars (headB nm y m d h mi s tx (howOf tx).1 (howOf tx).2.size) ++ (chars nm ++ (chars (howOf tx).2 ++ chars r)) := by
  rw [localB_is]
  simp only [ch_append, List.append_assoc]
theorem local_head : (localB nm y m d h mi s tx ++ r).extract 0 30 = headB nm y m d h mi s tx (howOf tx).1 (howOf tx).2.size := by
  apply chars_ext
  rw [ch_extract, ch_local, List.drop_zero, List.take_left' (by rw [chars_length, headB_size])]
/-- The head's fields. -/
theorem local_fields (ok : okp y m d h mi s) (hn : nm.size < 65536) (ht : tx.size < 4294967296) :
    let t := localB nm y m d h mi s tx ++ r
    numAtB t 0 4 = 67324752 ∧ numAtB t 4 2 = 20 ∧ numAtB t 6 2 = 0 ∧ numAtB t 8 2 = (howOf tx).1 ∧ numAtB t 10 4 = (stampN y m d h mi s).toNat ∧ numAtB t 14 4 = crcOf tx ∧ numAtB t 18 4 = (howOf tx).2.size ∧ numAtB t 22 4 = tx.size ∧ numAtB t 26 2 = nm.size ∧ numAtB t 28 2 = 0 := by
  intro t
  have hs := stampN_bd ok
  have hl := howOf_le tx
  have h1 := (headB_iff (t := headB nm y m d h mi s tx (howOf tx).1 (howOf tx).2.size) (headB_size ..) (howOf_mt tx) (by omega) (by omega) ht hn).1 rfl
  rw [← local_head r] at h1
  simp only [numAtB_head t (a := 0) (n := 4) (by omega), numAtB_head t (a := 4) (n := 2) (by omega), numAtB_head t (a := 6) (n := 2) (by omega), numAtB_head t (a := 8) (n := 2) (by omega), numAtB_head t (a := 10) (n := 4) (by omega), numAtB_head t (a := 14) (n := 4) (by omega), numAtB_head t (a := 18) (n := 4) (by omega), numAtB_head t (a := 22) (n := 4) (by omega), numAtB_head t (a := 26) (n := 2) (by omega), numAtB_head t (a := 28) (n := 2) (by omega), t] at h1 ⊢
  exact h1
theorem local_name : (localB nm y m d h mi s tx ++ r).extract 30 (30 + nm.size) = nm := by
  apply chars_ext
  rw [ch_extract, ch_local, List.drop_left' (by rw [chars_length, headB_size]), show 30 + nm.size - 30 = (chars nm).length from by rw [chars_length]; omega, List.take_left]
end
end Go.Proofs.YtnadjlejlohgiaaGreatDoor.Lc

