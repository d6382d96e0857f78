/- Own texts joined: Row. -/
import Derived.Test.YtnadjlejlohgiaaGreatDoorS0
/- Small words on rows (slices) for hand-walked contracts: a row that a call made itself, a row that is only read, one more element, the bytes of a text. -/
namespace Go.Proofs.YtnadjlejlohgiaaGreatDoor.Mem
open Go.RowKit
/-- What a contract tells: it returns v, and what was stays. -/
def Tells (w : World) (v : Value) (e : Ending) (w' : World) : Prop := e = .returned v ∧ On w w'
/-- A row that is only read: its cells lie from the beginning of block g on. -/
structure Row (w : World) (g t : Nat) (xs : List Value) : Prop where mk :: (out : ∃ cs, Blk w g t cs ∧ cs.toList.take xs.length = xs)
theorem Row.lt {w : World} {g t : Nat} {xs : List Value} (h : Row w g t xs) : g < w.heap.size := by
  obtain ⟨cs, hb, _⟩ := h.out
  exact hb.lt
theorem Row.cell {w : World} {g t : Nat} {xs : List Value} (h : Row w g t xs) {i : Nat} {x : Value} (hx : xs[i]? = some x) : w.cell? ⟨g, i, none⟩ = some x := by
  obtain ⟨cs, hb, ht⟩ := h.out
  rw [hb.cell i, ← hx, ← Array.getElem?_toList, ← ht, List.getElem?_take]
  have : i < xs.length := by
    rcases Nat.lt_or_ge i xs.length with hl | hl
    · exact hl
    · rw [List.getElem?_eq_none hl] at hx; cases hx
  rw [if_pos (by simpa [ht] using this)]
theorem Row.frozen {w : World} {g t : Nat} {xs : List Value} (h : Row w g t xs) (i : Nat) : w.frozen? ⟨g, i, none⟩ = false := by
  obtain ⟨cs, hb, _⟩ := h.out
  exact hb.frozen i
theorem Row.on {w w' : World} {g t : Nat} {xs : List Value} (h : Row w g t xs) (O : On w w') : Row w' g t xs := by
  obtain ⟨cs, hb, ht⟩ := h.out
  exact ⟨cs, O.blk hb, ht⟩
theorem Row.head {w : World} {g t : Nat} {xs : List Value} (h : Row w g t xs) (n : Nat) : Row w g t (xs.take n) := by
  obtain ⟨cs, hb, ht⟩ := h.out
  refine ⟨cs, hb, ?_⟩
  rw [List.length_take]
  conv => rhs; rw [← ht, List.take_take]
/-- A row that a call made itself (behind base), not nil: n elements of size cells each. -/
structure Own (base : Nat) (w : World) (t size : Nat) (v : Value) (n : Nat) (xs : List Value) : Prop where
  own : w.ownsRow base t size v n xs
  nn : v ≠ .slice none 0 0
section
variable {base : Nat} {w w' : World} {t size : Nat} {v : Value} {n : Nat} {xs : List Value}
theorem Own.parts (h : Own base w t size v n xs) : ∃ g cap, v = .slice (some ⟨g, 0, none⟩) n cap ∧ base ≤ g ∧ Row w g t xs ∧ n ≤ cap ∧ cap ≤ maxLen ∧ xs.length = n * size := by
  rcases h.own.2 with ⟨h0, _⟩ | ⟨g, cap, cur, hv, hb, hh, h1, h2, h3, h4⟩
  · exact absurd h0 h.nn
  · exact ⟨g, cap, hv, hb, ⟨cur, ⟨hh⟩, by rw [h.own.1]; exact h4⟩, h1, h2, h.own.1⟩
theorem Own.on (h : Own base w t size v n xs) (O : On w w') : Own base w' t size v n xs := ⟨own_on h.own O, h.nn⟩
theorem Own.low {b2 : Nat} (h : Own base w t size v n xs) (hb : b2 ≤ base) : Own b2 w t size v n xs := by
  refine ⟨⟨h.own.1, ?_⟩, h.nn⟩
  rcases h.own.2 with h0 | ⟨g, cap, cur, hv, hb', rest⟩
  · exact .inl h0
  · exact .inr ⟨g, cap, cur, hv, Nat.le_trans hb hb', rest⟩
/-- A literal's row, or an empty one, is one that the call made itself. -/
theorem Own.new (w : World) (t size : Nat) (cs : Array Value) (n : Nat) (hm : n ≤ maxLen) (hs : cs.size = n * size) (hb : base ≤ w.heap.size) : Own base (w.alloc (.cells cs t)) t size (.slice (some ⟨w.heap.size, 0, none⟩) n n) n cs.toList := by
  refine ⟨⟨by simpa using hs, .inr ⟨_, n, cs, rfl, hb, heap_alloc_new w _, Nat.le_refl _, hm, hs, ?_⟩⟩, by simp⟩
  exact List.take_of_length_le (by simp; omega)
theorem Own.block (h : Own base w t size v n xs) : ∀ g, v.ownBlock = some g → base ≤ g := own_base h.own
theorem Row.of {g t : Nat} {cs : Array Value} (h : Blk w g t cs) : Row w g t cs.toList := ⟨cs, h, List.take_of_length_le (Nat.le_refl _)⟩
end
section
variable {P : Program}
/-- s = append(s, u) of an element of 'size' cells onto a row that the call made itself. -/
theorem wpList_app {ops : Array Oper} {rest : List Oper} {o : Oper} {act : Act} {Q : Exit → Act → World → Prop} {wr : World} {e : TypeId} {us : Array Value} (hgd : o.guard = none) (s x : Operand) (t : TypeId)
    (ho : o.op = .call { callee := .builtin .append, args := #[s, x], argTypes := #[t, t] })
    (a : World) (i : TypeInfo) (z : Value) (bytes size : Nat) (ht : P.underlying t = some (.slice e)) (hi : P.info? e = some i) (hz : i.zero = some z)
    (hsize : i.size = size) (hby : i.bytes = bytes) (hzs : z.cells.size = size) (hsz : 0 < size) (hus : us.size = size)
    (v : Value) (n : Nat) (xs : List Value) (hs : act.eval s = v) (hown : Own a.heap.size wr e size v n xs) (O : On a wr)
    (hx : act.eval x = .slice (some ⟨wr.heap.size, 0, none⟩) 1 1) (h1 : ∀ u ∈ us.toList, u.oneCell' = true) (h63 : n + 1 ≤ maxLen) (hbytes : (n + 1) * bytes ≤ 140737488355328)
    (h : ∀ v' w', Own a.heap.size w' e size v' (n + 1) (xs ++ us.toList) → On a w' → (∀ g t' cs, Blk wr g t' cs → v.ownBlock ≠ some g → Blk w' g t' cs) → wpList P ops Q rest (act.put o.dst v') w') :
    wpList P ops Q (o :: rest) act (wr.alloc (.cells us e)) := by
  refine wpList_append_own _ hgd s x t ho a.heap.size e i z size bytes ht hi hz hsize hby hzs hsz v n xs hs (hown.own.alloc _) ⟨wr.heap.size, 0, none⟩ 1 1 us.toList hx (by simp [hus]) ?_ h1 h63 hbytes (by have := O.size; simp; omega) ?_
  · intro j u hu
    have e0 : (⟨wr.heap.size, 0, none⟩ : Addr).add j = ⟨wr.heap.size, j, none⟩ := by unfold Addr.add; simp; omega
    rw [e0, (Blk.new wr e us).cell j]
    simpa using hu
  · intro v' w' hown' hgrow hnil
    exact h v' w' ⟨hown', fun h0 => hown.nn (hnil.1 h0).1⟩ ((O.alloc _).grown hgrow (own_base hown.own)) (fun g t' cs b hg => (b.alloc _).grown hgrow (Ne.symm hg))
end
/-- The texts of a row of strings. -/
def str (l : List UInt8) : Value := .string ⟨l.toArray⟩
theorem str_of (s : ByteArray) : Value.string s = str s.data.toList := by
  unfold str; congr 1
end Go.Proofs.YtnadjlejlohgiaaGreatDoor.Mem

