/- Rows of bytes that are not nil. -/
import Derived.Test.YtpbfhflggicpiaaDoorTx
namespace Go.Proofs.YtpbfhflggicpiaaDoor.Wi
open Go.RowKit Go.Proofs.YtpbfhflggicpiaaDoor.Mem
set_option linter.unusedVariables false
set_option linter.unusedSimpArgs false
/-- A slice that is not nil, of bytes at block r. -/
structure By (w : World) (r cap : Nat) (l : List Nat) : Prop where mk ::
  out : Bytes w r (.slice (some ⟨r, 0, none⟩) l.length cap) l
theorem By.lt {w : World} {r cap : Nat} {l : List Nat} (h : By w r cap l) : r < w.heap.size := by
  rcases h.out.own.2 with ⟨h1, _⟩ | ⟨g, c, cur, hv, _, hh, _⟩
  · cases h1
  · have : g = r := h.out.at_ g (by rw [hv]; rfl)
    subst this
    rcases Nat.lt_or_ge g w.heap.size with h | h
    · exact h
    · rw [Array.getElem?_eq_none h] at hh; cases hh
theorem By.cell {w : World} {r cap : Nat} {l : List Nat} (h : By w r cap l) {i : Nat} (hi : i < l.length) : w.cell? ⟨r, i, none⟩ = some (.int .u8 (l.getD i 0 : Nat)) := by
  obtain ⟨_, _, _, _, R⟩ := h.out.parts (by intro e; rw [e] at hi; simp at hi)
  exact R.cell (u8s_get hi)
theorem By.kp {S : List Nat} {w w' : World} {r cap : Nat} {l : List Nat} (h : By w r cap l) (k : Kp S w w') (hr : r ∉ S) : By w' r cap l := ⟨h.out.kp k hr⟩
theorem By.on {w w' : World} {r cap : Nat} {l : List Nat} (h : By w r cap l) (O : On w w') : By w' r cap l := h.kp (Kp.of [] O) (by simp)
end Go.Proofs.YtpbfhflggicpiaaDoor.Wi
