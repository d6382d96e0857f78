/- Own texts joined: WToks. -/
import Derived.Test.YtnadjlejlohgiaaGreatDoorW4
import Derived.Test.YtnadjlejlohgiaaGreatDoorW9
import Derived.Test.YtnadjlejlohgiaaGreatDoorW12
import Derived.Test.YtnadjlejlohgiaaGreatDoorW22
/- Tokens as they are written by two codes, in the program. Conditions: the codes have all symbols; sizes. -/
namespace Go.Proofs.YtnadjlejlohgiaaGreatDoor.Wi
open Go.RowKit Go.Proofs.YtnadjlejlohgiaaGreatDoor.Mem Go.Proofs.YtnadjlejlohgiaaGreatDoor.Bt Go.Proofs.YtnadjlejlohgiaaGreatDoor.Cd Go.Proofs.YtnadjlejlohgiaaGreatDoor.De Go.Proofs.YtnadjlejlohgiaaGreatDoor.En Go.Proofs.YtnadjlejlohgiaaGreatDoor.Lz
set_option linter.unusedVariables false
set_option linter.unusedSimpArgs false
theorem IW.lt {w : World} {g r : Nat} {bs : List Bool} (h : IW w g r bs) (hne : bs ≠ []) : r < w.heap.size := by
  obtain ⟨v, hb, hy, _⟩ := h.out
  have : pack bs ≠ [] := by
    intro e
    have := pack_length bs
    rw [e] at this
    have := List.length_pos_iff.2 hne
    simp at *; omega
  obtain ⟨_, _, _, _, R⟩ := hy.parts this
  exact R.lt
theorem SW.glt {w : World} {g r : Nat} {bs : List Bool} (h : SW w g r bs) : g < w.heap.size := by obtain ⟨v, hb, _⟩ := h.out; exact hb.lt
theorem IW.glt {w : World} {g r : Nat} {bs : List Bool} (h : IW w g r bs) : g < w.heap.size := by obtain ⟨v, hb, _⟩ := h.out; exact hb.lt
theorem tok_get {l : List Tok} {k : Nat} (hk : k < l.length) : (tokCells l)[k * 3]? = some (.int .i64 l[k].byte) ∧ (tokCells l)[k * 3 + 1]? = some (.int .i64 l[k].long) ∧ (tokCells l)[k * 3 + 2]? = some (.int .i64 l[k].back) := by
  induction l generalizing k with
  | nil => simp at hk
  | cons t l ih =>
    have e : tokCells (t :: l) = (tokArr t).toList ++ tokCells l := by simp [tokCells]
    rw [e]
    cases k with
    | zero => exact ⟨rfl, rfl, rfl⟩
    | succ k =>
      have h3 : (tokArr t).toList.length = 3 := rfl
      have := ih (k := k) (by simpa using hk)
      refine ⟨?_, ?_, ?_⟩
      · rw [List.getElem?_append_right (by omega), h3, show (k + 1) * 3 - 3 = k * 3 from by omega]; exact this.1
      · rw [List.getElem?_append_right (by omega), h3, show (k + 1) * 3 + 1 - 3 = k * 3 + 1 from by omega]; exact this.2.1
      · rw [List.getElem?_append_right (by omega), h3, show (k + 1) * 3 + 2 - 3 = k * 3 + 2 from by omega]; exact this.2.2
/-- What is written of a token: codes short enough. -/
structure Fine (lit dist : List Nat) (t : Tok) : Prop where
  byte : t.long = 0 → 0 ≤ t.byte ∧ t.byte ≤ 255
  long : t.long ≠ 0 → 3 ≤ t.long ∧ t.long ≤ 60 ∧ 1 ≤ t.back ∧ t.back ≤ 250
theorem fine_of {lit dist : List Nat} {l : List Tok} {out o : List Nat} (h : text out l = some o) : ∀ t ∈ l, Fine lit dist t := fun t ht => by
  obtain ⟨o1, o2, ha⟩ := text_adds l out o h t ht
  refine ⟨fun h0 => ?_, fun h0 => ?_⟩
  · have := add_byte ha h0; exact ⟨this.2.1, this.2.2.1⟩
  · have := add_long ha h0; exact this.2
theorem enc_length (lens : List Nat) (h15 : ∀ x ∈ lens, x ≤ 15) (s : Nat) : (enc lens s).length ≤ 15 := by
  unfold enc; rw [List.length_reverse, bits_length]; exact getD_le h15 s
theorem encTok_le {lit dist : List Nat} {t : Tok} (F : Fine lit dist t) (l15 : ∀ x ∈ lit, x ≤ 15) (d15 : ∀ x ∈ dist, x ≤ 15) : (encTok lit dist t).length ≤ 50 := by
  unfold encTok
  split
  · have := enc_length lit l15 t.byte.toNat; omega
  · rename_i h
    obtain ⟨l3, l60, k1, k250⟩ := F.long h
    obtain ⟨a1, a2, a3, a4⟩ := lad_long t.long.toNat (by omega) (by omega)
    obtain ⟨c1, c2, c3, c4⟩ := lad_back t.back.toNat (by omega) (by omega)
    have := enc_length lit l15 (257 + lad longBase t.long.toNat)
    have := enc_length dist d15 (lad backBase t.back.toNat)
    simp only [List.length_append, bits_length]
    omega
theorem flat_le {lit dist : List Nat} {l : List Tok} (F : ∀ t ∈ l, Fine lit dist t) (l15 : ∀ x ∈ lit, x ≤ 15) (d15 : ∀ x ∈ dist, x ≤ 15) : ∀ k, ((l.take k).flatMap (encTok lit dist)).length ≤ 50 * k := by
  intro k
  induction k with
  | zero => simp
  | succ k ih =>
    by_cases h : k < l.length
    · rw [List.take_succ_eq_append_getElem h, List.flatMap_append, List.length_append]
      have := encTok_le (F _ (List.getElem_mem h)) l15 d15
      simp only [List.flatMap_cons, List.flatMap_nil, List.append_nil]
      omega
    · rw [List.take_of_length_le (by omega)]
      rw [List.take_of_length_le (by omega)] at ih
      omega
theorem Mv.out {g r q r' : Nat} {w w' : World} (M : Mv g r w r' w') (hq : q < w.heap.size) (h : q ∉ [g, r]) : q ∉ [g, r'] := by
  simp only [List.mem_cons, List.not_mem_nil, or_false, not_or] at h ⊢
  rcases M.at_ with e | e <;> omega
theorem not_in {q g r : Nat} (h1 : q ≠ g) (h2 : q ≠ r) : q ∉ [g, r] := by simp [h1, h2]
end Go.Proofs.YtnadjlejlohgiaaGreatDoor.Wi

