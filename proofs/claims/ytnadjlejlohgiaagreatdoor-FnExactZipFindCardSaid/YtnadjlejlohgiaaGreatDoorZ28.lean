/- Own texts joined: WToks, WToksS, Ow. -/
import Derived.WalkKit
import Derived.WalkSpells
import Derived.Deep.QuietTactic
import Derived.BigQuiet
import Derived.Test.YtnadjlejlohgiaaGreatDoorZ5
import Derived.Test.YtnadjlejlohgiaaGreatDoorZ8
import Derived.Test.YtnadjlejlohgiaaGreatDoorZ9
import Derived.Test.YtnadjlejlohgiaaGreatDoorZ11
import Derived.Test.YtnadjlejlohgiaaGreatDoorZ12
import Derived.Test.YtnadjlejlohgiaaGreatDoorZ17
import Derived.Test.YtnadjlejlohgiaaGreatDoorZ27
/- Tokens as they are written by two codes, in the program. Conditions: the codes have all symbols; sizes. -/
namespace Go.Proofs.YtnadjlejlohgiaaGreatDoor.Wi
open Go.RowKit Go.Proofs.YtnadjlejlohgiaaGreatDoor.Mem Go.Proofs.YtnadjlejlohgiaaGreatDoor.Bt Go.Proofs.YtnadjlejlohgiaaGreatDoor.Cd Go.Proofs.YtnadjlejlohgiaaGreatDoor.De Go.Proofs.YtnadjlejlohgiaaGreatDoor.En Go.Proofs.YtnadjlejlohgiaaGreatDoor.Lz
set_option linter.unusedVariables false
set_option linter.unusedSimpArgs false
theorem IW.lt {w : World} {g r : Nat} {bs : List Bool} (h : IW w g r bs) (hne : bs ≠ []) : r < w.heap.size := by
  obtain ⟨v, hb, hy, _⟩ := h.out
  have : pack bs ≠ [] := by
    intro e
    have := pack_length bs
    rw [e] at this
    have := List.length_pos_iff.2 hne
    simp at *; omega
  obtain ⟨_, _, _, _, R⟩ := hy.parts this
  exact R.lt
theorem SW.glt {w : World} {g r : Nat} {bs : List Bool} (h : SW w g r bs) : g < w.heap.size := by obtain ⟨v, hb, _⟩ := h.out; exact hb.lt
theorem IW.glt {w : World} {g r : Nat} {bs : List Bool} (h : IW w g r bs) : g < w.heap.size := by obtain ⟨v, hb, _⟩ := h.out; exact hb.lt
/-- What is written of a token: codes short enough. -/
structure Fine (lit dist : List Nat) (t : Tok) : Prop where
  byte : t.long = 0 → 0 ≤ t.byte ∧ t.byte ≤ 255
  long : t.long ≠ 0 → 3 ≤ t.long ∧ t.long ≤ 60 ∧ 1 ≤ t.back ∧ t.back ≤ 250
theorem fine_of {lit dist : List Nat} {l : List Tok} {out o : List Nat} (h : text out l = some o) : ∀ t ∈ l, Fine lit dist t := fun t ht => by
  obtain ⟨o1, o2, ha⟩ := text_adds l out o h t ht
  refine ⟨fun h0 => ?_, fun h0 => ?_⟩
  · have := add_byte ha h0; exact ⟨this.2.1, this.2.2.1⟩
  · have := add_long ha h0; exact this.2
theorem Mv.out {g r q r' : Nat} {w w' : World} (M : Mv g r w r' w') (hq : q < w.heap.size) (h : q ∉ [g, r]) : q ∉ [g, r'] := by
  simp only [List.mem_cons, List.not_mem_nil, or_false, not_or] at h ⊢
  rcases M.at_ with e | e <;> omega
end Go.Proofs.YtnadjlejlohgiaaGreatDoor.Wi

/- Tokens as they are written by two codes, in the reference. Conditions: the codes have all symbols; sizes. -/
namespace Go.Proofs.YtnadjlejlohgiaaGreatDoor.Wi
open Go.RowKit Go.Proofs.YtnadjlejlohgiaaGreatDoor.Mem Go.Proofs.YtnadjlejlohgiaaGreatDoor.Bt Go.Proofs.YtnadjlejlohgiaaGreatDoor.Cd Go.Proofs.YtnadjlejlohgiaaGreatDoor.De Go.Proofs.YtnadjlejlohgiaaGreatDoor.En Go.Proofs.YtnadjlejlohgiaaGreatDoor.Lz
set_option linter.unusedVariables false
set_option linter.unusedSimpArgs false
theorem SW.lt {w : World} {g r : Nat} {bs : List Bool} (h : SW w g r bs) (hne : 8 ≤ bs.length) : r < w.heap.size := by
  obtain ⟨v, hb, hy, _⟩ := h.out
  have : pack (bs.take (8 * (bs.length / 8))) ≠ [] := by
    intro e
    have := pack_length (bs.take (8 * (bs.length / 8)))
    rw [e, List.length_take] at this
    simp at this; omega
  obtain ⟨_, _, _, _, R⟩ := hy.parts this
  exact R.lt
end Go.Proofs.YtnadjlejlohgiaaGreatDoor.Wi

/- What OwnPut and FlatePut make, as bytes. Nothing of the program is walked here. -/
namespace Go.Proofs.YtnadjlejlohgiaaGreatDoor.Wi
open Go.RowKit Go.Proofs.YtnadjlejlohgiaaGreatDoor.Mem Go.Proofs.YtnadjlejlohgiaaGreatDoor.Bt Go.Proofs.YtnadjlejlohgiaaGreatDoor.Cd Go.Proofs.YtnadjlejlohgiaaGreatDoor.De Go.Proofs.YtnadjlejlohgiaaGreatDoor.En Go.Proofs.YtnadjlejlohgiaaGreatDoor.Lz Go.Proofs.YtnadjlejlohgiaaGreatDoor.Hf
set_option linter.unusedVariables false
set_option linter.unusedSimpArgs false
/-- The shorter; the first, if they are as long. -/
def choose (a b : ByteArray) : ByteArray := if b.size < a.size then b else a
end Go.Proofs.YtnadjlejlohgiaaGreatDoor.Wi

