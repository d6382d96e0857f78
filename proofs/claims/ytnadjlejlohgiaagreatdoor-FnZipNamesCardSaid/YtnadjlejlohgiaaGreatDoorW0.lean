/- Own texts joined: Mem, Row, Wn. -/
import Derived.Below
import Derived.Deep.Draws
import Derived.Laws.Rows
import Derived.Laws.OwnMore
import Derived.Deep.AppendLies
import Derived.WalkKit
import Derived.Test.YtnadjlejlohgiaaGreatDoorChecked
/- Small words on memory for hand-walked contracts: a block that is known whole, what lies below a bound is kept, draws. -/
namespace Go.Proofs.YtnadjlejlohgiaaGreatDoor.Mem
open Go.RowKit
/-- Block g is just the cells cs of element type t, none frozen. -/
structure Blk (w : World) (g t : Nat) (cs : Array Value) : Prop where mk :: (out : w.heap[g]? = some (.cells cs t (0, 0)))
section
variable {w w' : World} {g t : Nat} {cs : Array Value}
theorem Blk.lt (h : Blk w g t cs) : g < w.heap.size := by
  rcases Nat.lt_or_ge g w.heap.size with hlt | hge
  · exact hlt
  · have := h.out
    rw [Array.getElem?_eq_none hge] at this
    cases this
theorem Blk.cell (h : Blk w g t cs) (i : Nat) : w.cell? ⟨g, i, none⟩ = cs[i]? := cell_of_row w g i cs t (0, 0) h.out
theorem Blk.frozen (h : Blk w g t cs) (i : Nat) : w.frozen? ⟨g, i, none⟩ = false := by simp [World.frozen?, h.out]
theorem Blk.new (w : World) (t : Nat) (cs : Array Value) : Blk (w.alloc (.cells cs t)) w.heap.size t cs := ⟨heap_alloc_new w _⟩
theorem Blk.drew (h : Blk w g t cs) : Blk w.drew g t cs := ⟨h.out⟩
theorem Blk.drewN (h : Blk w g t cs) (n : Nat) : Blk (w.drewN n) g t cs := ⟨h.out⟩
theorem Blk.alloc (h : Blk w g t cs) (o : Obj) : Blk (w.alloc o) g t cs := ⟨(Below.heap_alloc w o g h.lt).trans h.out⟩
theorem Blk.set (h : Blk w g t cs) (i : Nat) (u : Value) : Blk (w.setCell ⟨g, i, none⟩ u) g t (cs.setIfInBounds i u) := by
  refine ⟨?_⟩
  have := h.out
  simp [World.setCell, Array.getElem?_modify, this]
theorem Blk.far (h : Blk w g t cs) {p : Addr} (hp : g ≠ p.block) (u : Value) : Blk (w.setCell p u) g t cs := ⟨(Below.heap_setCell w p u g hp).trans h.out⟩
theorem Blk.below {B : Nat} (h : Blk w g t cs) (hb : Below B w w') (hg : g < B) : Blk w' g t cs := ⟨(hb.block g hg).trans h.out⟩
theorem Blk.call (h : Blk w g t cs) (hb : Below w.heap.size w w') : Blk w' g t cs := h.below hb h.lt
theorem Blk.grown {row : Option Nat} (h : Blk w g t cs) (hb : w.grownBy w' row) (hg : some g ≠ row) : Blk w' g t cs := ⟨(hb.block g h.lt hg).trans h.out⟩
end
theorem Below.drewN {B : Nat} {a w : World} (h : Below B a w) (n : Nat) : Below B a (w.drewN n) := ⟨h.os, h.tape, h.output, h.size, h.block⟩
theorem Below.call {B : Nat} {a w w' : World} (h : Below B a w) (hB : B ≤ w.heap.size) (k : Below w.heap.size w w') : Below B a w' := Below.trans h (Below.mono k hB)
/-- What the call began with stays; the heap has not shrunk. Kept as one thing. -/
structure On (a w : World) : Prop where mk :: (out : Below a.heap.size a w)
theorem On.refl (a : World) : On a a := ⟨Below.refl _ _⟩
theorem On.size {a w : World} (h : On a w) : a.heap.size ≤ w.heap.size := h.out.size
theorem On.drew {a w : World} (h : On a w) : On a w.drew := ⟨h.out.drew⟩
theorem On.drewN {a w : World} (h : On a w) (n : Nat) : On a (w.drewN n) := ⟨Below.drewN h.out n⟩
theorem On.alloc {a w : World} (h : On a w) (o : Obj) : On a (w.alloc o) := ⟨h.out.alloc h.size o⟩
theorem On.call {a w w' : World} (h : On a w) (k : On w w') : On a w' := ⟨Below.call h.out h.size k.out⟩
theorem On.set {a w : World} (h : On a w) {p : Addr} (hp : a.heap.size ≤ p.block) (u : Value) : On a (w.setCell p u) := ⟨h.out.setCell hp u⟩
theorem On.blk {a w : World} {g t : Nat} {cs : Array Value} (h : On a w) (b : Blk a g t cs) : Blk w g t cs := b.call h.out
theorem On.cell {a w : World} (h : On a w) {p : Addr} (hp : p.block < a.heap.size) : w.cell? p = a.cell? p := h.out.cell hp
theorem On.frozen {a w : World} (h : On a w) {p : Addr} (hp : p.block < a.heap.size) : w.frozen? p = a.frozen? p := h.out.frozen hp
theorem Below.on {a w : World} (h : Below a.heap.size a w) : On a w := ⟨h⟩
section
variable {P : Program} {fn : Func} {tmps : Array Value} {w : World} {g t : Nat} {cs : Array Value} {d : TypeDesc}
/-- A result that lies in a block that is known whole. -/
theorem res_c {p : Tmp} {ty : TypeId} (h : fn.results = #[.cell p ty]) (b : Blk w g t cs) (hp : tmps.getD p undef = .pointer (some ⟨g, 0, none⟩))
    (hu : P.underlying ty = some d) (hd : (match d with | .struct _ | .array _ _ => true | _ => false) = true) (hi : (P.info? ty).map (·.size) = some cs.size) :
    (results fn tmps).run P w = .ok (.agg cs) w := by
  have e : tmps[p]?.getD undef = .pointer (some ⟨g, 0, none⟩) := by simpa using hp
  simp [results, h, e, asAddr, run_loadVar_row w g t ty cs (0, 0) d b.out hu hd hi]
theorem res_ct {p u : Tmp} {ty : TypeId} (h : fn.results = #[.cell p ty, .tmp u]) (b : Blk w g t cs) (hp : tmps.getD p undef = .pointer (some ⟨g, 0, none⟩))
    (hu : P.underlying ty = some d) (hd : (match d with | .struct _ | .array _ _ => true | _ => false) = true) (hi : (P.info? ty).map (·.size) = some cs.size) :
    (results fn tmps).run P w = .ok (.tuple #[.agg cs, tmps.getD u undef]) w := by
  have e : tmps[p]?.getD undef = .pointer (some ⟨g, 0, none⟩) := by simpa using hp
  simp [results, h, e, asAddr, run_loadVar_row w g t ty cs (0, 0) d b.out hu hd hi]
end
theorem own_on {w w' : World} {base : Nat} {e : TypeId} {size n : Nat} {v : Value} {xs : List Value} (h : w.ownsRow base e size v n xs) (O : On w w') : w'.ownsRow base e size v n xs := by
  refine ⟨h.1, ?_⟩
  rcases h.2 with h0 | ⟨g, cap, cur, hv, hb, hh, rest⟩
  · exact .inl h0
  · have hlt : g < w.heap.size := by
      rcases Nat.lt_or_ge g w.heap.size with hlt | hge
      · exact hlt
      · rw [Array.getElem?_eq_none hge] at hh; cases hh
    exact .inr ⟨g, cap, cur, hv, hb, (O.out.block g hlt).trans hh, rest⟩
section
variable {P : Program}
theorem On.grown {a w w' : World} {row : Option Nat} (h : On a w) (hg : w.grownBy w' row) (hr : ∀ g, row = some g → a.heap.size ≤ g) : On a w' := ⟨h.out.grown hg h.size hr⟩
theorem own_base {w : World} {base : Nat} {e : TypeId} {size n : Nat} {v : Value} {xs : List Value} (h : w.ownsRow base e size v n xs) : ∀ g, v.ownBlock = some g → base ≤ g := by
  intro g hg
  rcases h.2 with ⟨rfl, _⟩ | ⟨g', cap, cur, rfl, hb, _⟩
  · simp [Value.ownBlock] at hg
  · have : g' = g := by simpa [Value.ownBlock] using hg
    omega
end
end Go.Proofs.YtnadjlejlohgiaaGreatDoor.Mem

/- Small words on rows (slices) for hand-walked contracts: a row that a call made itself, a row that is only read, one more element, the bytes of a text. -/
namespace Go.Proofs.YtnadjlejlohgiaaGreatDoor.Mem
open Go.RowKit
/-- What a contract tells: it returns v, and what was stays. -/
def Tells (w : World) (v : Value) (e : Ending) (w' : World) : Prop := e = .returned v ∧ On w w'
/-- A row that is only read: its cells lie from the beginning of block g on. -/
structure Row (w : World) (g t : Nat) (xs : List Value) : Prop where mk :: (out : ∃ cs, Blk w g t cs ∧ cs.toList.take xs.length = xs)
theorem Row.lt {w : World} {g t : Nat} {xs : List Value} (h : Row w g t xs) : g < w.heap.size := by
  obtain ⟨cs, hb, _⟩ := h.out
  exact hb.lt
theorem Row.cell {w : World} {g t : Nat} {xs : List Value} (h : Row w g t xs) {i : Nat} {x : Value} (hx : xs[i]? = some x) : w.cell? ⟨g, i, none⟩ = some x := by
  obtain ⟨cs, hb, ht⟩ := h.out
  rw [hb.cell i, ← hx, ← Array.getElem?_toList, ← ht, List.getElem?_take]
  have : i < xs.length := by
    rcases Nat.lt_or_ge i xs.length with hl | hl
    · exact hl
    · rw [List.getElem?_eq_none hl] at hx; cases hx
  rw [if_pos (by simpa [ht] using this)]
theorem Row.frozen {w : World} {g t : Nat} {xs : List Value} (h : Row w g t xs) (i : Nat) : w.frozen? ⟨g, i, none⟩ = false := by
  obtain ⟨cs, hb, _⟩ := h.out
  exact hb.frozen i
theorem Row.on {w w' : World} {g t : Nat} {xs : List Value} (h : Row w g t xs) (O : On w w') : Row w' g t xs := by
  obtain ⟨cs, hb, ht⟩ := h.out
  exact ⟨cs, O.blk hb, ht⟩
theorem Row.head {w : World} {g t : Nat} {xs : List Value} (h : Row w g t xs) (n : Nat) : Row w g t (xs.take n) := by
  obtain ⟨cs, hb, ht⟩ := h.out
  refine ⟨cs, hb, ?_⟩
  rw [List.length_take]
  conv => rhs; rw [← ht, List.take_take]
/-- A row that a call made itself (behind base), not nil: n elements of size cells each. -/
structure Own (base : Nat) (w : World) (t size : Nat) (v : Value) (n : Nat) (xs : List Value) : Prop where
  own : w.ownsRow base t size v n xs
  nn : v ≠ .slice none 0 0
section
variable {base : Nat} {w w' : World} {t size : Nat} {v : Value} {n : Nat} {xs : List Value}
theorem Own.parts (h : Own base w t size v n xs) : ∃ g cap, v = .slice (some ⟨g, 0, none⟩) n cap ∧ base ≤ g ∧ Row w g t xs ∧ n ≤ cap ∧ cap ≤ maxLen ∧ xs.length = n * size := by
  rcases h.own.2 with ⟨h0, _⟩ | ⟨g, cap, cur, hv, hb, hh, h1, h2, h3, h4⟩
  · exact absurd h0 h.nn
  · exact ⟨g, cap, hv, hb, ⟨cur, ⟨hh⟩, by rw [h.own.1]; exact h4⟩, h1, h2, h.own.1⟩
theorem Own.on (h : Own base w t size v n xs) (O : On w w') : Own base w' t size v n xs := ⟨own_on h.own O, h.nn⟩
theorem Own.low {b2 : Nat} (h : Own base w t size v n xs) (hb : b2 ≤ base) : Own b2 w t size v n xs := by
  refine ⟨⟨h.own.1, ?_⟩, h.nn⟩
  rcases h.own.2 with h0 | ⟨g, cap, cur, hv, hb', rest⟩
  · exact .inl h0
  · exact .inr ⟨g, cap, cur, hv, Nat.le_trans hb hb', rest⟩
/-- A literal's row, or an empty one, is one that the call made itself. -/
theorem Own.new (w : World) (t size : Nat) (cs : Array Value) (n : Nat) (hm : n ≤ maxLen) (hs : cs.size = n * size) (hb : base ≤ w.heap.size) : Own base (w.alloc (.cells cs t)) t size (.slice (some ⟨w.heap.size, 0, none⟩) n n) n cs.toList := by
  refine ⟨⟨by simpa using hs, .inr ⟨_, n, cs, rfl, hb, heap_alloc_new w _, Nat.le_refl _, hm, hs, ?_⟩⟩, by simp⟩
  exact List.take_of_length_le (by simp; omega)
theorem Own.block (h : Own base w t size v n xs) : ∀ g, v.ownBlock = some g → base ≤ g := own_base h.own
theorem Row.of {g t : Nat} {cs : Array Value} (h : Blk w g t cs) : Row w g t cs.toList := ⟨cs, h, List.take_of_length_le (Nat.le_refl _)⟩
end
section
variable {P : Program}
/-- s = append(s, u) of an element of 'size' cells onto a row that the call made itself. -/
theorem wpList_app {ops : Array Oper} {rest : List Oper} {o : Oper} {act : Act} {Q : Exit → Act → World → Prop} {wr : World} {e : TypeId} {us : Array Value} (hgd : o.guard = none) (s x : Operand) (t : TypeId)
    (ho : o.op = .call { callee := .builtin .append, args := #[s, x], argTypes := #[t, t] })
    (a : World) (i : TypeInfo) (z : Value) (bytes size : Nat) (ht : P.underlying t = some (.slice e)) (hi : P.info? e = some i) (hz : i.zero = some z)
    (hsize : i.size = size) (hby : i.bytes = bytes) (hzs : z.cells.size = size) (hsz : 0 < size) (hus : us.size = size)
    (v : Value) (n : Nat) (xs : List Value) (hs : act.eval s = v) (hown : Own a.heap.size wr e size v n xs) (O : On a wr)
    (hx : act.eval x = .slice (some ⟨wr.heap.size, 0, none⟩) 1 1) (h1 : ∀ u ∈ us.toList, u.oneCell' = true) (h63 : n + 1 ≤ maxLen) (hbytes : (n + 1) * bytes ≤ 140737488355328)
    (h : ∀ v' w', Own a.heap.size w' e size v' (n + 1) (xs ++ us.toList) → On a w' → (∀ g t' cs, Blk wr g t' cs → v.ownBlock ≠ some g → Blk w' g t' cs) → wpList P ops Q rest (act.put o.dst v') w') :
    wpList P ops Q (o :: rest) act (wr.alloc (.cells us e)) := by
  refine wpList_append_own _ hgd s x t ho a.heap.size e i z size bytes ht hi hz hsize hby hzs hsz v n xs hs (hown.own.alloc _) ⟨wr.heap.size, 0, none⟩ 1 1 us.toList hx (by simp [hus]) ?_ h1 h63 hbytes (by have := O.size; simp; omega) ?_
  · intro j u hu
    have e0 : (⟨wr.heap.size, 0, none⟩ : Addr).add j = ⟨wr.heap.size, j, none⟩ := by unfold Addr.add; simp; omega
    rw [e0, (Blk.new wr e us).cell j]
    simpa using hu
  · intro v' w' hown' hgrow hnil
    exact h v' w' ⟨hown', fun h0 => hown.nn (hnil.1 h0).1⟩ ((O.alloc _).grown hgrow (own_base hown.own)) (fun g t' cs b hg => (b.alloc _).grown hgrow (Ne.symm hg))
end
/-- The texts of a row of strings. -/
def str (l : List UInt8) : Value := .string ⟨l.toArray⟩
theorem str_of (s : ByteArray) : Value.string s = str s.data.toList := by
  unfold str; congr 1
end Go.Proofs.YtnadjlejlohgiaaGreatDoor.Mem

/- Whether a number is within bounds. -/
namespace Go.Proofs.YtnadjlejlohgiaaGreatDoor.Wi
open Go.RowKit Go.Proofs.YtnadjlejlohgiaaGreatDoor.Mem
set_option linter.unusedSimpArgs false
theorem within_same (n l h : Int) (w : World) :
    Calls Tryz.prog 103 #[.int .i64 n, .int .i64 l, .int .i64 h] w (fun e w' => e = .returned (.bool (decide (l ≤ n ∧ n ≤ h))) ∧ w' = w) := by
  by_cases h1 : l ≤ n
  · by_cases h2 : n ≤ h
    · go_enter Tryz.func103, Tryz.ntmps103
      go_wp2_with fail
      go_ret
      exact ⟨by simp [h1, h2], rfl⟩
    · go_enter Tryz.func103, Tryz.ntmps103
      go_wp2_with fail
      go_ret
      exact ⟨by simp [h1, h2], rfl⟩
  · go_enter Tryz.func103, Tryz.ntmps103
    go_wp2_with fail
    go_ret
    exact ⟨by simp; omega, rfl⟩
theorem within_yes {n l h : Int} (w : World) (h1 : l ≤ n) (h2 : n ≤ h) : Calls Tryz.prog 103 #[.int .i64 n, .int .i64 l, .int .i64 h] w (fun e w' => e = .returned (.bool true) ∧ w' = w) := by
  have := within_same n l h w
  rw [decide_eq_true ⟨h1, h2⟩] at this
  exact this
theorem within_no {n l h : Int} (w : World) (h1 : ¬ (l ≤ n ∧ n ≤ h)) : Calls Tryz.prog 103 #[.int .i64 n, .int .i64 l, .int .i64 h] w (fun e w' => e = .returned (.bool false) ∧ w' = w) := by
  have := within_same n l h w
  rw [decide_eq_false h1] at this
  exact this
end Go.Proofs.YtnadjlejlohgiaaGreatDoor.Wi

