/- Own texts joined: Nu. -/
import Derived.OwnWalk
import Derived.Lib.Hide
import Derived.Test.YtnadjlejlohgiaaGreatDoorS6
/- Small words on rows of whole numbers: one that a call made, one that is only read, making one. -/
namespace Go.Proofs.YtnadjlejlohgiaaGreatDoor.Mem
open Go.RowKit
set_option linter.unusedVariables false
/-- Numbers as cells. -/
def i64s (l : List Nat) : List Value := l.map fun n : Nat => Value.int .i64 (n : Int)
theorem i64s_length (l : List Nat) : (i64s l).length = l.length := by simp [i64s]
theorem i64s_get {l : List Nat} {i : Nat} (h : i < l.length) : (i64s l)[i]? = some (.int .i64 (l.getD i 0 : Nat)) := by
  unfold i64s; rw [List.getElem?_map, List.getElem?_eq_getElem h, List.getD_eq_getElem?_getD, List.getElem?_eq_getElem h]; rfl
/-- A row that is only read, from a place of its block on. -/
structure RowO (w : World) (g o t : Nat) (xs : List Value) : Prop where mk :: (out : ∃ cs, Blk w g t cs ∧ (cs.toList.drop o).take xs.length = xs)
section
variable {w w' : World} {g o t : Nat} {xs : List Value}
theorem RowO.lt (h : RowO w g o t xs) : g < w.heap.size := by obtain ⟨cs, hb, _⟩ := h.out; exact hb.lt
theorem RowO.cell (h : RowO w g o t xs) {i : Nat} {x : Value} (hx : xs[i]? = some x) : w.cell? ⟨g, o + i, none⟩ = some x := by
  obtain ⟨cs, hb, ht⟩ := h.out
  rw [hb.cell, ← hx, ← Array.getElem?_toList, ← ht, List.getElem?_take, List.getElem?_drop]
  have : i < xs.length := by
    rcases Nat.lt_or_ge i xs.length with hl | hl
    · exact hl
    · rw [List.getElem?_eq_none hl] at hx; cases hx
  rw [if_pos (by simpa [ht] using this)]
theorem RowO.kp {S : List Nat} (h : RowO w g o t xs) (k : Kp S w w') (hg : g ∉ S) : RowO w' g o t xs := by
  obtain ⟨cs, hb, ht⟩ := h.out
  exact ⟨cs, k.blk hb hg, ht⟩
theorem RowO.on (h : RowO w g o t xs) (O : On w w') : RowO w' g o t xs := h.kp (Kp.of [] O) (by simp)
theorem Row.toO (h : Row w g t xs) : RowO w g 0 t xs := by obtain ⟨cs, hb, ht⟩ := h.out; exact ⟨cs, hb, ht⟩
end
/-- A row of numbers at block r that a call made. -/
structure Nums (w : World) (r : Nat) (v : Value) (l : List Nat) : Prop where
  own : w.ownsRow 0 3 1 v l.length (i64s l)
  at_ : ∀ g, v.ownBlock = some g → g = r
section
variable {w w' : World} {r : Nat} {l : List Nat} {n cap : Nat} {v : Value}
theorem Nums.kp {S : List Nat} (h : Nums w r v l) (k : Kp S w w') (hr : r ∉ S) : Nums w' r v l := ⟨k.owns h.own (fun g hg => by rw [h.at_ g hg]; exact hr), h.at_⟩
theorem Nums.on (h : Nums w r v l) (O : On w w') : Nums w' r v l := h.kp (Kp.of [] O) (by simp)
theorem Nums.row (h : Nums w r (.slice (some ⟨r, 0, none⟩) n cap) l) : Row w r 3 (i64s l) ∧ n = l.length ∧ n ≤ cap ∧ cap ≤ maxLen := by
  rcases h.own.2 with ⟨h0, _⟩ | ⟨g, c, cur, hv, _, hh, h1, h2, h3, h4⟩
  · cases h0
  · cases hv
    exact ⟨⟨cur, ⟨hh⟩, by rw [h.own.1]; exact h4⟩, rfl, h1, h2⟩
theorem Nums.slice (h : Nums w r v l) (hn : v ≠ .slice none 0 0) : ∃ cap, v = .slice (some ⟨r, 0, none⟩) l.length cap ∧ l.length ≤ cap ∧ cap ≤ maxLen ∧ Row w r 3 (i64s l) := by
  rcases h.own.2 with ⟨h0, _⟩ | ⟨g, c, cur, hv, _, hh, h1, h2, h3, h4⟩
  · exact absurd h0 hn
  · have : g = r := h.at_ g (by rw [hv]; rfl)
    subst this
    exact ⟨c, hv, h1, h2, ⟨cur, ⟨hh⟩, by rw [h.own.1]; exact h4⟩⟩
theorem Nums.set (h : Nums w r (.slice (some ⟨r, 0, none⟩) n cap) l) (i x : Nat) : Nums (w.setCell ⟨r, i, none⟩ (.int .i64 (x : Int))) r (.slice (some ⟨r, 0, none⟩) n cap) (l.set i x) := by
  have hn := h.row.2.1
  have ho := h.own
  subst hn
  have := ho.stored i (.int .i64 (x : Int))
  refine ⟨?_, h.at_⟩
  have e : (i64s l).set i (.int .i64 (x : Int)) = i64s (l.set i x) := by unfold i64s; rw [List.map_set]
  rw [List.length_set, ← e]
  exact this.1
end
theorem i64info : (Tryz.prog.info? 3).map (fun i => (i.zero, i.size, i.bytes)) = some (some (.int .i64 0), 1, 8) := by kernel_rfl
/-- make([]int, n). -/
theorem wpList_ints {ops : Array Oper} {rest : List Oper} {o : Oper} {a : Act} {Q : Exit → Act → World → Prop} (W : World) (hg : o.guard = none) (l c : Operand) (hop : o.op = Op.makeSlice 98 l c)
    (L C : Int) (n : Nat) (hl : a.eval l = .int .i64 L) (hc : a.eval c = .int .i64 C) (hL : L = (n : Int)) (hC : C = (n : Int)) (hn : n ≤ 1000000)
    (hK : ∀ w1, Nums w1 W.heap.size (.slice (some ⟨W.heap.size, 0, none⟩) n n) (List.replicate n 0) → On W w1 → W.heap.size < w1.heap.size → wpList Tryz.prog ops Q rest (a.put o.dst (.slice (some ⟨W.heap.size, 0, none⟩) n n)) w1) :
    wpList Tryz.prog ops Q (o :: rest) a W := by
  obtain ⟨i0, hi, hz0, hz1, hz2⟩ := info_parts i64info
  refine wpList_make_full W hg l c 98 hop 0 3 i0 (.int .i64 0) 1 Tryz.underlying98 hi hz0 hz1 .i64 .i64 L C n hl hc hL hC (by rw [hz2]; omega) (by unfold maxLen; omega) (Nat.zero_le _) ?_
  intro w1 hown hgr
  have e : (madeCells (Value.int .i64 0).cells (n * 1)).toList = i64s (List.replicate n 0) := by
    rw [show (Value.int .i64 0).cells = #[.int .i64 0] from rfl, toList_madeCells_one, Nat.mul_one]
    unfold i64s; rw [List.map_replicate]; rfl
  rw [e] at hown
  have hlt : W.heap.size < w1.heap.size := by
    rcases hown.2 with ⟨h0, _⟩ | ⟨g, c, cur, hv, _, hh, _⟩
    · cases h0
    · cases hv
      rcases Nat.lt_or_ge W.heap.size w1.heap.size with hl | hl
      · exact hl
      · rw [Array.getElem?_eq_none hl] at hh; cases hh
  exact hK w1 ⟨by rw [List.length_replicate]; exact hown, fun g hg => by simp [Value.ownBlock] at hg; exact hg.symm⟩ ((Kp.grown hgr (S := []) (fun g h => by cases h)).toOn) hlt
/-- What a contract tells that makes numbers: a row of its own, and what was stays. -/
def GivesI (w : World) (l : List Nat) (e : Ending) (w' : World) : Prop := ∃ r cap, e = .returned (.slice (some ⟨r, 0, none⟩) l.length cap) ∧ Nums w' r (.slice (some ⟨r, 0, none⟩) l.length cap) l ∧ w.heap.size ≤ r ∧ r < w'.heap.size ∧ On w w'
end Go.Proofs.YtnadjlejlohgiaaGreatDoor.Mem

