/- Own texts joined: Mem, Row, Wr, Or, LaidO, Clo, Nu, WCodes, Wn, Wi, Lo, Mp, Bk, Tx. -/
import Derived.Below
import Derived.Deep.Draws
import Derived.Laws.Rows
import Derived.Laws.OwnMore
import Derived.Deep.AppendLies
import Derived.WalkKit
import Derived.Test.YtncidljdfipigaaDoorChecked
import Derived.Lib.Hide
import Derived.Test.YtncidljdfipigaaDoorRows
import Derived.Lay
import Derived.ChangeSlices
import Derived.ProofKit
import Derived.Deep.DeepHandedRow
import Derived.OwnWalk
import Derived.WalkSpells
import Derived.Laws.BitsLemmas
import Derived.StillTailTactics
import Derived.BigRegion
import Derived.Deep.DeepCutAuto
import Derived.Deep.QuietTactic
import Derived.BigQuiet
import Derived.DeepKeys4
import Derived.Maps.Keyed
import Derived.Maps.Own
import Derived.Carry
import Derived.Laws.BytesArg
import Derived.Test.YtncidljdfipigaaDoorZ0
import Derived.Test.YtncidljdfipigaaDoorZ1
/- Small words on memory for hand-walked contracts: a block that is known whole, what lies below a bound is kept, draws. -/
namespace Go.Proofs.YtncidljdfipigaaDoor.Mem
open Go.RowKit
/-- Block g is just the cells cs of element type t, none frozen. -/
structure Blk (w : World) (g t : Nat) (cs : Array Value) : Prop where mk :: (out : w.heap[g]? = some (.cells cs t (0, 0)))
section
variable {w w' : World} {g t : Nat} {cs : Array Value}
theorem Blk.lt (h : Blk w g t cs) : g < w.heap.size := by
  rcases Nat.lt_or_ge g w.heap.size with hlt | hge
  · exact hlt
  · have := h.out
    rw [Array.getElem?_eq_none hge] at this
    cases this
theorem Blk.cell (h : Blk w g t cs) (i : Nat) : w.cell? ⟨g, i, none⟩ = cs[i]? := cell_of_row w g i cs t (0, 0) h.out
theorem Blk.frozen (h : Blk w g t cs) (i : Nat) : w.frozen? ⟨g, i, none⟩ = false := by simp [World.frozen?, h.out]
theorem Blk.new (w : World) (t : Nat) (cs : Array Value) : Blk (w.alloc (.cells cs t)) w.heap.size t cs := ⟨heap_alloc_new w _⟩
theorem Blk.drew (h : Blk w g t cs) : Blk w.drew g t cs := ⟨h.out⟩
theorem Blk.drewN (h : Blk w g t cs) (n : Nat) : Blk (w.drewN n) g t cs := ⟨h.out⟩
theorem Blk.alloc (h : Blk w g t cs) (o : Obj) : Blk (w.alloc o) g t cs := ⟨(Below.heap_alloc w o g h.lt).trans h.out⟩
theorem Blk.set (h : Blk w g t cs) (i : Nat) (u : Value) : Blk (w.setCell ⟨g, i, none⟩ u) g t (cs.setIfInBounds i u) := by
  refine ⟨?_⟩
  have := h.out
  simp [World.setCell, Array.getElem?_modify, this]
theorem Blk.far (h : Blk w g t cs) {p : Addr} (hp : g ≠ p.block) (u : Value) : Blk (w.setCell p u) g t cs := ⟨(Below.heap_setCell w p u g hp).trans h.out⟩
theorem Blk.below {B : Nat} (h : Blk w g t cs) (hb : Below B w w') (hg : g < B) : Blk w' g t cs := ⟨(hb.block g hg).trans h.out⟩
theorem Blk.call (h : Blk w g t cs) (hb : Below w.heap.size w w') : Blk w' g t cs := h.below hb h.lt
theorem Blk.grown {row : Option Nat} (h : Blk w g t cs) (hb : w.grownBy w' row) (hg : some g ≠ row) : Blk w' g t cs := ⟨(hb.block g h.lt hg).trans h.out⟩
end
theorem Below.drewN {B : Nat} {a w : World} (h : Below B a w) (n : Nat) : Below B a (w.drewN n) := ⟨h.os, h.tape, h.output, h.size, h.block⟩
theorem Below.call {B : Nat} {a w w' : World} (h : Below B a w) (hB : B ≤ w.heap.size) (k : Below w.heap.size w w') : Below B a w' := Below.trans h (Below.mono k hB)
/-- What the call began with stays; the heap has not shrunk. Kept as one thing. -/
structure On (a w : World) : Prop where mk :: (out : Below a.heap.size a w)
theorem On.refl (a : World) : On a a := ⟨Below.refl _ _⟩
theorem On.size {a w : World} (h : On a w) : a.heap.size ≤ w.heap.size := h.out.size
theorem On.drew {a w : World} (h : On a w) : On a w.drew := ⟨h.out.drew⟩
theorem On.drewN {a w : World} (h : On a w) (n : Nat) : On a (w.drewN n) := ⟨Below.drewN h.out n⟩
theorem On.alloc {a w : World} (h : On a w) (o : Obj) : On a (w.alloc o) := ⟨h.out.alloc h.size o⟩
theorem On.call {a w w' : World} (h : On a w) (k : On w w') : On a w' := ⟨Below.call h.out h.size k.out⟩
theorem On.set {a w : World} (h : On a w) {p : Addr} (hp : a.heap.size ≤ p.block) (u : Value) : On a (w.setCell p u) := ⟨h.out.setCell hp u⟩
theorem On.blk {a w : World} {g t : Nat} {cs : Array Value} (h : On a w) (b : Blk a g t cs) : Blk w g t cs := b.call h.out
theorem On.cell {a w : World} (h : On a w) {p : Addr} (hp : p.block < a.heap.size) : w.cell? p = a.cell? p := h.out.cell hp
theorem On.frozen {a w : World} (h : On a w) {p : Addr} (hp : p.block < a.heap.size) : w.frozen? p = a.frozen? p := h.out.frozen hp
theorem Below.on {a w : World} (h : Below a.heap.size a w) : On a w := ⟨h⟩
section
variable {P : Program} {fn : Func} {tmps : Array Value} {w : World} {g t : Nat} {cs : Array Value} {d : TypeDesc}
/-- A result that lies in a block that is known whole. -/
theorem res_c {p : Tmp} {ty : TypeId} (h : fn.results = #[.cell p ty]) (b : Blk w g t cs) (hp : tmps.getD p undef = .pointer (some ⟨g, 0, none⟩))
    (hu : P.underlying ty = some d) (hd : (match d with | .struct _ | .array _ _ => true | _ => false) = true) (hi : (P.info? ty).map (·.size) = some cs.size) :
    (results fn tmps).run P w = .ok (.agg cs) w := by
  have e : tmps[p]?.getD undef = .pointer (some ⟨g, 0, none⟩) := by simpa using hp
  simp [results, h, e, asAddr, run_loadVar_row w g t ty cs (0, 0) d b.out hu hd hi]
theorem res_ct {p u : Tmp} {ty : TypeId} (h : fn.results = #[.cell p ty, .tmp u]) (b : Blk w g t cs) (hp : tmps.getD p undef = .pointer (some ⟨g, 0, none⟩))
    (hu : P.underlying ty = some d) (hd : (match d with | .struct _ | .array _ _ => true | _ => false) = true) (hi : (P.info? ty).map (·.size) = some cs.size) :
    (results fn tmps).run P w = .ok (.tuple #[.agg cs, tmps.getD u undef]) w := by
  have e : tmps[p]?.getD undef = .pointer (some ⟨g, 0, none⟩) := by simpa using hp
  simp [results, h, e, asAddr, run_loadVar_row w g t ty cs (0, 0) d b.out hu hd hi]
end
theorem own_on {w w' : World} {base : Nat} {e : TypeId} {size n : Nat} {v : Value} {xs : List Value} (h : w.ownsRow base e size v n xs) (O : On w w') : w'.ownsRow base e size v n xs := by
  refine ⟨h.1, ?_⟩
  rcases h.2 with h0 | ⟨g, cap, cur, hv, hb, hh, rest⟩
  · exact .inl h0
  · have hlt : g < w.heap.size := by
      rcases Nat.lt_or_ge g w.heap.size with hlt | hge
      · exact hlt
      · rw [Array.getElem?_eq_none hge] at hh; cases hh
    exact .inr ⟨g, cap, cur, hv, hb, (O.out.block g hlt).trans hh, rest⟩
section
variable {P : Program}
theorem On.grown {a w w' : World} {row : Option Nat} (h : On a w) (hg : w.grownBy w' row) (hr : ∀ g, row = some g → a.heap.size ≤ g) : On a w' := ⟨h.out.grown hg h.size hr⟩
theorem own_base {w : World} {base : Nat} {e : TypeId} {size n : Nat} {v : Value} {xs : List Value} (h : w.ownsRow base e size v n xs) : ∀ g, v.ownBlock = some g → base ≤ g := by
  intro g hg
  rcases h.2 with ⟨rfl, _⟩ | ⟨g', cap, cur, rfl, hb, _⟩
  · simp [Value.ownBlock] at hg
  · have : g' = g := by simpa [Value.ownBlock] using hg
    omega
/-- s = append(s, u) onto a row of one-cell elements that the call itself made (or nil). -/
theorem wpList_app1 {ops : Array Oper} {rest : List Oper} {o : Oper} {act : Act} {Q : Exit → Act → World → Prop} {wr : World} {e : TypeId} {u : Value} (hgd : o.guard = none) (s x : Operand) (t : TypeId)
    (ho : o.op = .call { callee := .builtin .append, args := #[s, x], argTypes := #[t, t] })
    (a : World) (i : TypeInfo) (z : Value) (bytes : Nat) (ht : P.underlying t = some (.slice e)) (hi : P.info? e = some i) (hz : i.zero = some z)
    (hsize : i.size = 1) (hby : i.bytes = bytes) (hzs : z.cells.size = 1)
    (v : Value) (n : Nat) (xs : List Value) (hs : act.eval s = v) (hown : wr.ownsRow a.heap.size e 1 v n xs) (O : On a wr)
    (hx : act.eval x = .slice (some ⟨wr.heap.size, 0, none⟩) 1 1) (h1 : u.oneCell' = true) (h63 : n + 1 ≤ maxLen) (hbytes : (n + 1) * bytes ≤ 140737488355328)
    (h : ∀ v' w', w'.ownsRow a.heap.size e 1 v' (n + 1) (xs ++ [u]) → On a w' → (∀ g t' cs, Blk wr g t' cs → v.ownBlock ≠ some g → Blk w' g t' cs) → wpList P ops Q rest (act.put o.dst v') w') :
    wpList P ops Q (o :: rest) act (wr.alloc (.cells #[u] e)) := by
  refine wpList_append_own _ hgd s x t ho a.heap.size e i z 1 bytes ht hi hz hsize hby hzs (by decide) v n xs hs (hown.alloc _) ⟨wr.heap.size, 0, none⟩ 1 1 [u] hx rfl ?_ (fun u' hu => by simp at hu; subst hu; exact h1) h63 hbytes (by have := O.size; simp; omega) ?_
  · intro j u' hu
    match j with
    | 0 =>
      have e0 : (⟨wr.heap.size, 0, none⟩ : Addr).add 0 = ⟨wr.heap.size, 0, none⟩ := by unfold Addr.add; simp
      rw [e0, (Blk.new wr e #[u]).cell 0]
      simpa using hu
    | j + 1 => simp at hu
  · intro v' w' hown' hgrow _
    exact h v' w' hown' ((O.alloc _).grown hgrow (own_base hown)) (fun g t' cs b hg => (b.alloc _).grown hgrow (Ne.symm hg))
end
end Go.Proofs.YtncidljdfipigaaDoor.Mem

/- Small words on rows (slices) for hand-walked contracts: a row that a call made itself, a row that is only read, one more element, the bytes of a text. -/
namespace Go.Proofs.YtncidljdfipigaaDoor.Mem
open Go.RowKit
/-- What a contract tells: it returns v, and what was stays. -/
def Tells (w : World) (v : Value) (e : Ending) (w' : World) : Prop := e = .returned v ∧ On w w'
/-- A row that is only read: its cells lie from the beginning of block g on. -/
structure Row (w : World) (g t : Nat) (xs : List Value) : Prop where mk :: (out : ∃ cs, Blk w g t cs ∧ cs.toList.take xs.length = xs)
theorem Row.lt {w : World} {g t : Nat} {xs : List Value} (h : Row w g t xs) : g < w.heap.size := by
  obtain ⟨cs, hb, _⟩ := h.out
  exact hb.lt
theorem Row.cell {w : World} {g t : Nat} {xs : List Value} (h : Row w g t xs) {i : Nat} {x : Value} (hx : xs[i]? = some x) : w.cell? ⟨g, i, none⟩ = some x := by
  obtain ⟨cs, hb, ht⟩ := h.out
  rw [hb.cell i, ← hx, ← Array.getElem?_toList, ← ht, List.getElem?_take]
  have : i < xs.length := by
    rcases Nat.lt_or_ge i xs.length with hl | hl
    · exact hl
    · rw [List.getElem?_eq_none hl] at hx; cases hx
  rw [if_pos (by simpa [ht] using this)]
theorem Row.frozen {w : World} {g t : Nat} {xs : List Value} (h : Row w g t xs) (i : Nat) : w.frozen? ⟨g, i, none⟩ = false := by
  obtain ⟨cs, hb, _⟩ := h.out
  exact hb.frozen i
theorem Row.on {w w' : World} {g t : Nat} {xs : List Value} (h : Row w g t xs) (O : On w w') : Row w' g t xs := by
  obtain ⟨cs, hb, ht⟩ := h.out
  exact ⟨cs, O.blk hb, ht⟩
theorem Row.head {w : World} {g t : Nat} {xs : List Value} (h : Row w g t xs) (n : Nat) : Row w g t (xs.take n) := by
  obtain ⟨cs, hb, ht⟩ := h.out
  refine ⟨cs, hb, ?_⟩
  rw [List.length_take]
  conv => rhs; rw [← ht, List.take_take]
/-- A row that a call made itself (behind base), not nil: n elements of size cells each. -/
structure Own (base : Nat) (w : World) (t size : Nat) (v : Value) (n : Nat) (xs : List Value) : Prop where
  own : w.ownsRow base t size v n xs
  nn : v ≠ .slice none 0 0
section
variable {base : Nat} {w w' : World} {t size : Nat} {v : Value} {n : Nat} {xs : List Value}
theorem Own.parts (h : Own base w t size v n xs) : ∃ g cap, v = .slice (some ⟨g, 0, none⟩) n cap ∧ base ≤ g ∧ Row w g t xs ∧ n ≤ cap ∧ cap ≤ maxLen ∧ xs.length = n * size := by
  rcases h.own.2 with ⟨h0, _⟩ | ⟨g, cap, cur, hv, hb, hh, h1, h2, h3, h4⟩
  · exact absurd h0 h.nn
  · exact ⟨g, cap, hv, hb, ⟨cur, ⟨hh⟩, by rw [h.own.1]; exact h4⟩, h1, h2, h.own.1⟩
theorem Own.on (h : Own base w t size v n xs) (O : On w w') : Own base w' t size v n xs := ⟨own_on h.own O, h.nn⟩
theorem Own.low {b2 : Nat} (h : Own base w t size v n xs) (hb : b2 ≤ base) : Own b2 w t size v n xs := by
  refine ⟨⟨h.own.1, ?_⟩, h.nn⟩
  rcases h.own.2 with h0 | ⟨g, cap, cur, hv, hb', rest⟩
  · exact .inl h0
  · exact .inr ⟨g, cap, cur, hv, Nat.le_trans hb hb', rest⟩
/-- A literal's row, or an empty one, is one that the call made itself. -/
theorem Own.new (w : World) (t size : Nat) (cs : Array Value) (n : Nat) (hm : n ≤ maxLen) (hs : cs.size = n * size) (hb : base ≤ w.heap.size) : Own base (w.alloc (.cells cs t)) t size (.slice (some ⟨w.heap.size, 0, none⟩) n n) n cs.toList := by
  refine ⟨⟨by simpa using hs, .inr ⟨_, n, cs, rfl, hb, heap_alloc_new w _, Nat.le_refl _, hm, hs, ?_⟩⟩, by simp⟩
  exact List.take_of_length_le (by simp; omega)
theorem Own.block (h : Own base w t size v n xs) : ∀ g, v.ownBlock = some g → base ≤ g := own_base h.own
theorem Row.of {g t : Nat} {cs : Array Value} (h : Blk w g t cs) : Row w g t cs.toList := ⟨cs, h, List.take_of_length_le (Nat.le_refl _)⟩
end
section
variable {P : Program}
/-- s = append(s, u) of an element of 'size' cells onto a row that the call made itself. -/
theorem wpList_app {ops : Array Oper} {rest : List Oper} {o : Oper} {act : Act} {Q : Exit → Act → World → Prop} {wr : World} {e : TypeId} {us : Array Value} (hgd : o.guard = none) (s x : Operand) (t : TypeId)
    (ho : o.op = .call { callee := .builtin .append, args := #[s, x], argTypes := #[t, t] })
    (a : World) (i : TypeInfo) (z : Value) (bytes size : Nat) (ht : P.underlying t = some (.slice e)) (hi : P.info? e = some i) (hz : i.zero = some z)
    (hsize : i.size = size) (hby : i.bytes = bytes) (hzs : z.cells.size = size) (hsz : 0 < size) (hus : us.size = size)
    (v : Value) (n : Nat) (xs : List Value) (hs : act.eval s = v) (hown : Own a.heap.size wr e size v n xs) (O : On a wr)
    (hx : act.eval x = .slice (some ⟨wr.heap.size, 0, none⟩) 1 1) (h1 : ∀ u ∈ us.toList, u.oneCell' = true) (h63 : n + 1 ≤ maxLen) (hbytes : (n + 1) * bytes ≤ 140737488355328)
    (h : ∀ v' w', Own a.heap.size w' e size v' (n + 1) (xs ++ us.toList) → On a w' → (∀ g t' cs, Blk wr g t' cs → v.ownBlock ≠ some g → Blk w' g t' cs) → wpList P ops Q rest (act.put o.dst v') w') :
    wpList P ops Q (o :: rest) act (wr.alloc (.cells us e)) := by
  refine wpList_append_own _ hgd s x t ho a.heap.size e i z size bytes ht hi hz hsize hby hzs hsz v n xs hs (hown.own.alloc _) ⟨wr.heap.size, 0, none⟩ 1 1 us.toList hx (by simp [hus]) ?_ h1 h63 hbytes (by have := O.size; simp; omega) ?_
  · intro j u hu
    have e0 : (⟨wr.heap.size, 0, none⟩ : Addr).add j = ⟨wr.heap.size, j, none⟩ := by unfold Addr.add; simp; omega
    rw [e0, (Blk.new wr e us).cell j]
    simpa using hu
  · intro v' w' hown' hgrow hnil
    exact h v' w' ⟨hown', fun h0 => hown.nn (hnil.1 h0).1⟩ ((O.alloc _).grown hgrow (own_base hown.own)) (fun g t' cs b hg => (b.alloc _).grown hgrow (Ne.symm hg))
end
/-- The texts of a row of strings. -/
def str (l : List UInt8) : Value := .string ⟨l.toArray⟩
theorem str_of (s : ByteArray) : Value.string s = str s.data.toList := by
  unfold str; congr 1
end Go.Proofs.YtncidljdfipigaaDoor.Mem

/- Small words on memory for what is written behind a pointer: what stays but for some blocks, where an append puts a row, a writer of bits. -/
namespace Go.Proofs.YtncidljdfipigaaDoor.Mem
open Go.RowKit Go.Proofs.YtncidljdfipigaaDoor.Bt
set_option linter.unusedVariables false
/-- Everything that was stays, but for blocks of S. -/
structure Kp (S : List Nat) (w w' : World) : Prop where mk :: (os : w'.os = w.os) (tape : w'.tape = w.tape) (output : w'.output = w.output) (size : w.heap.size ≤ w'.heap.size) (block : ∀ k, k < w.heap.size → k ∉ S → w'.heap[k]? = w.heap[k]?)
section
variable {S T : List Nat} {w w' w'' : World}
theorem Kp.refl (S : List Nat) (w : World) : Kp S w w := ⟨rfl, rfl, rfl, Nat.le_refl _, fun _ _ _ => rfl⟩
theorem Kp.trans (h : Kp S w w') (k : Kp T w' w'') (hT : ∀ x ∈ T, x ∈ S ∨ w.heap.size ≤ x) : Kp S w w'' :=
  ⟨k.os.trans h.os, k.tape.trans h.tape, k.output.trans h.output, Nat.le_trans h.size k.size, fun i hi hs => (k.block i (Nat.lt_of_lt_of_le hi h.size) (fun hh => by
    rcases hT i hh with a | a
    · exact hs a
    · omega)).trans (h.block i hi hs)⟩
theorem Kp.then (h : Kp S w w') (k : Kp S w' w'') : Kp S w w'' := h.trans k fun _ hx => .inl hx
theorem Kp.mono (h : Kp S w w') (hs : ∀ x ∈ S, x ∈ T ∨ w.heap.size ≤ x) : Kp T w w' := (Kp.refl T w).trans h hs
theorem Kp.of (S : List Nat) (h : On w w') : Kp S w w' := ⟨h.out.os, h.out.tape, h.out.output, h.out.size, fun i hi _ => h.out.block i hi⟩
theorem Kp.alloc (h : Kp S w w') (o : Obj) : Kp S w (w'.alloc o) := h.then (Kp.of S ((On.refl w').alloc o))
theorem Kp.drew (h : Kp S w w') : Kp S w w'.drew := h.then (Kp.of S ((On.refl w').drew))
theorem Kp.drewN (h : Kp S w w') (n : Nat) : Kp S w (w'.drewN n) := h.then (Kp.of S ((On.refl w').drewN n))
theorem Kp.on (h : Kp S w w') {a : World} (O : On a w) (hs : ∀ x ∈ S, a.heap.size ≤ x) : On a w' :=
  ⟨⟨h.os.trans O.out.os, h.tape.trans O.out.tape, h.output.trans O.out.output, Nat.le_trans O.size h.size, fun i hi => (h.block i (Nat.lt_of_lt_of_le hi O.size) (fun hh => by have := hs i hh; omega)).trans (O.out.block i hi)⟩⟩
theorem Kp.toOn (h : Kp [] w w') : On w w' := h.on (On.refl w) (fun x hx => by cases hx)
theorem Kp.set (h : Kp S w w') {p : Addr} (hp : p.block ∈ S ∨ w.heap.size ≤ p.block) (u : Value) : Kp S w (w'.setCell p u) := by
  refine ⟨h.os, h.tape, h.output, Nat.le_trans h.size ?_, fun i hi hs => (Below.heap_setCell w' p u i (fun e => ?_)).trans (h.block i hi hs)⟩
  · simp [World.setCell]
  · rcases hp with a | a
    · exact hs (e ▸ a)
    · omega
theorem Kp.blk {g t : Nat} {cs : Array Value} (h : Kp S w w') (b : Blk w g t cs) (hg : g ∉ S) : Blk w' g t cs := ⟨(h.block g b.lt hg).trans b.out⟩
theorem Kp.row {g t : Nat} {xs : List Value} (h : Kp S w w') (b : Row w g t xs) (hg : g ∉ S) : Row w' g t xs := by
  obtain ⟨cs, hb, ht⟩ := b.out
  exact ⟨cs, h.blk hb hg, ht⟩
theorem Kp.cell (h : Kp S w w') {p : Addr} (hp : p.block < w.heap.size) (hs : p.block ∉ S) : w'.cell? p = w.cell? p := World.cell?_of_block (h.block _ hp hs)
theorem Kp.owns {base : Nat} {e : TypeId} {size n : Nat} {v : Value} {xs : List Value} (h : Kp S w w') (b : w.ownsRow base e size v n xs) (hg : ∀ g, v.ownBlock = some g → g ∉ S) : w'.ownsRow base e size v n xs := by
  refine ⟨b.1, ?_⟩
  rcases b.2 with h0 | ⟨g, cap, cur, hv, hb, hh, rest⟩
  · exact .inl h0
  · have hlt : g < w.heap.size := by
      rcases Nat.lt_or_ge g w.heap.size with hlt | hge
      · exact hlt
      · rw [Array.getElem?_eq_none hge] at hh; cases hh
    exact .inr ⟨g, cap, cur, hv, hb, (h.block g hlt (hg g (by rw [hv]; rfl))).trans hh, rest⟩
theorem Kp.grown {row : Option Nat} (h : w.grownBy w' row) (hr : ∀ g, row = some g → g ∈ S) : Kp S w w' :=
  ⟨h.os, h.tape, h.output, h.size, fun k hk hs => h.block k hk (fun e => hs (hr k e.symm))⟩
end
section
variable {P : Program}
/-- Where an append puts the row: where it was, or in new memory. -/
theorem run_app_at (w : World) (base : Nat) (t ty e : TypeId) (i : TypeInfo) (z : Value) (size bytes : Nat) (ht : P.underlying t = some (.slice e)) (hi : P.info? e = some i) (hz : i.zero = some z)
    (hsize : i.size = size) (hby : i.bytes = bytes) (hzs : z.cells.size = size) (hsz : 0 < size)
    (v : Value) (n : Nat) (xs : List Value) (hown : w.ownsRow base e size v n xs)
    (a : Addr) (m c : Nat) (news : List Value) (hl : news.length = m * size) (hnews : ∀ j u, news[j]? = some u → w.cell? (a.add j) = some u) (h1 : ∀ u ∈ news, u.oneCell' = true)
    (h63 : n + m ≤ maxLen) (hbytes : (n + m) * bytes ≤ 140737488355328) (hbase : base ≤ w.heap.size) :
    ∃ v' w', (Builtin.append_ #[t, t] ty #[v, .slice (some a) m c]).run P w = .ok v' w' ∧ w'.ownsRow base e size v' (n + m) (xs ++ news) ∧ w.grownBy w' v.ownBlock ∧
      (v' = .slice none 0 0 ↔ v = .slice none 0 0 ∧ m = 0) ∧ ∀ g, v'.ownBlock = some g → v.ownBlock = some g ∨ w.heap.size ≤ g := by
  obtain ⟨v', w', hr, h2, h3, h4⟩ := run_append_own (P := P) w base t ty e i z size bytes ht hi hz hsize hby hzs hsz v n xs hown a m c news hl hnews h1 h63 hbytes hbase
  refine ⟨v', w', hr, h2, h3, h4, fun g' hg' => ?_⟩
  subst hsize
  subst hby
  rcases hown.2 with ⟨rfl, rfl⟩ | ⟨g, cap, cur, rfl, hbg, hg, hnc, hcm, hcs, htake⟩
  · have hx : xs = [] := List.eq_nil_of_length_eq_zero (by simpa using hown.1)
    subst hx
    obtain ⟨v2, w2, hr2, k2, _⟩ := run_append_own (P := P) w w.heap.size t ty e i z i.size i.bytes ht hi hz rfl rfl hzs hsz (.slice none 0 0) 0 [] (World.ownsRow_nil _ _ _ _) a m c news hl hnews h1 h63 hbytes (Nat.le_refl _)
    rw [hr] at hr2
    cases hr2
    exact .inr (own_base k2 g' hg')
  · by_cases hroom : n + m ≤ cap
    · have hfit : n * i.size + news.length ≤ cur.size := by rw [hl, hcs, ← Nat.add_mul]; exact Nat.mul_le_mul_right _ hroom
      have hr2 := run_append_room (P := P) w t ty e i ht hi g n cap cur hg a m c news hl hnews h1 hroom hfit
      rw [hr] at hr2
      cases hr2
      exact .inl hg'
    · have hr2 := run_append_grow (P := P) w t ty e i z ht hi hz ⟨g, 0, none⟩ n cap xs hown.1 (hown.cells (g := g) rfl) a m c news hl hnews (by omega) (by simp only [maxLen] at h63; omega) (growslice_fits (by omega) hbytes)
      rw [hr] at hr2
      cases hr2
      simp only [Value.ownBlock, Option.some.injEq] at hg'
      right; omega
theorem wpList_app_at {ops : Array Oper} {rest : List Oper} {o : Oper} {act : Act} {Q : Exit → Act → World → Prop} {wr : World} {e : TypeId} {us : Array Value} (hgd : o.guard = none) (s x : Operand) (t : TypeId)
    (ho : o.op = .call { callee := .builtin .append, args := #[s, x], argTypes := #[t, t] })
    (i : TypeInfo) (z : Value) (bytes size : Nat) (ht : P.underlying t = some (.slice e)) (hi : P.info? e = some i) (hz : i.zero = some z)
    (hsize : i.size = size) (hby : i.bytes = bytes) (hzs : z.cells.size = size) (hsz : 0 < size) (hus : us.size = size)
    (v : Value) (n : Nat) (xs : List Value) (hs : act.eval s = v) (hown : wr.ownsRow 0 e size v n xs)
    (hx : act.eval x = .slice (some ⟨wr.heap.size, 0, none⟩) 1 1) (h1 : ∀ u ∈ us.toList, u.oneCell' = true) (h63 : n + 1 ≤ maxLen) (hbytes : (n + 1) * bytes ≤ 140737488355328)
    (h : ∀ v' w', w'.ownsRow 0 e size v' (n + 1) (xs ++ us.toList) → wr.grownBy w' v.ownBlock → v' ≠ .slice none 0 0 → (∀ g, v'.ownBlock = some g → v.ownBlock = some g ∨ wr.heap.size ≤ g) → wpList P ops Q rest (act.put o.dst v') w') :
    wpList P ops Q (o :: rest) act (wr.alloc (.cells us e)) := by
  refine wpList_plain hgd fun _ hK => ?_
  have hnews : ∀ j u, us.toList[j]? = some u → (wr.alloc (.cells us e)).cell? ((⟨wr.heap.size, 0, none⟩ : Addr).add j) = some u := by
    intro j u hu
    have e0 : (⟨wr.heap.size, 0, none⟩ : Addr).add j = ⟨wr.heap.size, j, none⟩ := by unfold Addr.add; simp; omega
    rw [e0, (Blk.new wr e us).cell j]
    simpa using hu
  obtain ⟨v', w', hr, h2, h3, h4, h5⟩ := run_app_at (P := P) (wr.alloc (.cells us e)) 0 t o.type e i z size bytes ht hi hz hsize hby hzs hsz v n xs (hown.alloc _) ⟨wr.heap.size, 0, none⟩ 1 1 us.toList (by simp [hus]) hnews h1 h63 hbytes (Nat.zero_le _)
  unfold Oper.wp execOp
  simp only [ho, resolve, invoke, builtin, Sem.run_bind, Sem.run_pure, Result.andThen_ok, List.map_toArray, List.map_cons, List.map_nil, hs, hx, hr]
  have hg0 := World.grownBy_alloc wr (.cells us e) v.ownBlock
  refine hK _ _ (h v' w' h2 ⟨h3.os.trans hg0.os, h3.tape.trans hg0.tape, h3.output.trans hg0.output, Nat.le_trans hg0.size h3.size, fun k hk hn => (h3.block k (Nat.lt_of_lt_of_le hk hg0.size) hn).trans (hg0.block k hk hn)⟩ (fun e0 => by have := (h4.1 e0).2; omega) (fun g hg => ?_))
  rcases h5 g hg with a | a
  · exact .inl a
  · right; have := hg0.size; omega
end
/-- Bytes as cells. -/
def u8s (l : List Nat) : List Value := l.map fun n : Nat => Value.int .u8 (n : Int)
theorem u8s_length (l : List Nat) : (u8s l).length = l.length := by simp [u8s]
theorem u8s_get {l : List Nat} {i : Nat} (h : i < l.length) : (u8s l)[i]? = some (.int .u8 (l.getD i 0 : Nat)) := by
  unfold u8s; rw [List.getElem?_map, List.getElem?_eq_getElem h, List.getD_eq_getElem?_getD, List.getElem?_eq_getElem h]; rfl
/-- A row of bytes at block r (or nil, then r is no matter) of a writer. -/
structure Bytes (w : World) (r : Nat) (v : Value) (l : List Nat) : Prop where
  own : w.ownsRow 0 5 1 v l.length (u8s l)
  at_ : ∀ g, v.ownBlock = some g → g = r
section
variable {w w' : World} {r : Nat} {v : Value} {l : List Nat}
theorem Bytes.parts (h : Bytes w r v l) (hne : l ≠ []) : ∃ cap, v = .slice (some ⟨r, 0, none⟩) l.length cap ∧ l.length ≤ cap ∧ cap ≤ maxLen ∧ Row w r 5 (u8s l) := by
  rcases h.own.2 with ⟨_, h0⟩ | ⟨g, cap, cur, hv, _, hh, h1, h2, h3, h4⟩
  · exact absurd (List.length_eq_zero_iff.1 h0) hne
  · have : g = r := h.at_ g (by rw [hv]; rfl)
    subst this
    exact ⟨cap, hv, h1, h2, ⟨cur, ⟨hh⟩, by rw [h.own.1]; exact h4⟩⟩
theorem Bytes.slice (h : Bytes w r v l) : (v = .slice none 0 0 ∧ l = []) ∨ ∃ cap, v = .slice (some ⟨r, 0, none⟩) l.length cap ∧ l.length ≤ cap ∧ cap ≤ maxLen := by
  rcases h.own.2 with ⟨h1, h0⟩ | ⟨g, cap, cur, hv, _, hh, h1, h2, h3, h4⟩
  · exact .inl ⟨h1, List.length_eq_zero_iff.1 h0⟩
  · have : g = r := h.at_ g (by rw [hv]; rfl)
    subst this
    exact .inr ⟨cap, hv, h1, h2⟩
theorem Bytes.kp {S : List Nat} (h : Bytes w r v l) (k : Kp S w w') (hr : r ∉ S) : Bytes w' r v l := ⟨k.owns h.own (fun g hg => by rw [h.at_ g hg]; exact hr), h.at_⟩
theorem Bytes.set (h : Bytes w r v l) (hne : l ≠ []) (i x : Nat) : Bytes (w.setCell ⟨r, i, none⟩ (.int .u8 (x : Int))) r v (l.set i x) := by
  obtain ⟨cap, hv, _⟩ := h.parts hne
  have ho := h.own
  rw [hv] at ho
  have := ho.stored i (.int .u8 (x : Int))
  refine ⟨?_, h.at_⟩
  rw [hv]
  have e : (u8s l).set i (.int .u8 (x : Int)) = u8s (l.set i x) := by unfold u8s; rw [List.map_set]
  rw [List.length_set, ← e]
  exact this.1
end
/-- A row of bytes after an append. -/
theorem bytes_app {wr w1 : World} {r : Nat} {v v' : Value} {l : List Nat} {x : Nat} (h : Bytes wr r v l)
    (hown : w1.ownsRow 0 5 1 v' (l.length + 1) (u8s l ++ (#[.int .u8 (x : Int)] : Array Value).toList)) (hg : wr.grownBy w1 v.ownBlock) (hne : v' ≠ .slice none 0 0) (hat : ∀ k, v'.ownBlock = some k → v.ownBlock = some k ∨ wr.heap.size ≤ k) :
    ∃ r2 cap, v' = .slice (some ⟨r2, 0, none⟩) (l.length + 1) cap ∧ Bytes w1 r2 v' (l ++ [x]) ∧ (r2 = r ∨ wr.heap.size ≤ r2) ∧ r2 < w1.heap.size ∧ Kp [r] wr w1 ∧ l.length + 1 ≤ cap ∧ cap ≤ maxLen := by
  have e : u8s l ++ (#[.int .u8 (x : Int)] : Array Value).toList = u8s (l ++ [x]) := by unfold u8s; rw [List.map_append]; rfl
  rw [e] at hown
  rcases hown.2 with ⟨h0, _⟩ | ⟨k, cap, cur, hv, _, hh, h1, h2, h3, h4⟩
  · exact absurd h0 hne
  · have hb : v'.ownBlock = some k := by rw [hv]; rfl
    have hk : k = r ∨ wr.heap.size ≤ k := by
      rcases hat k hb with a | a
      · exact .inl (h.at_ k a)
      · exact .inr a
    refine ⟨k, cap, hv, ⟨by simpa using hown, fun j hj => by rw [hb] at hj; cases hj; rfl⟩, hk, ?_, ?_, h1, h2⟩
    · rcases Nat.lt_or_ge k w1.heap.size with hl | hl
      · exact hl
      · rw [Array.getElem?_eq_none hl] at hh; cases hh
    · exact Kp.grown hg (fun j hj => by rw [h.at_ j hj]; simp)
theorem u8info : (Tryd.prog.info? 5).map (fun i => (i.zero, i.size, i.bytes)) = some (some (.int .u8 0), 1, 1) := by kernel_rfl
/-- b = append(b, x): one byte more. -/
theorem wpList_byte {ops : Array Oper} {rest : List Oper} {o : Oper} {act : Act} {Q : Exit → Act → World → Prop} {wr : World} (hgd : o.guard = none) (s y : Operand)
    (ho : o.op = .call { callee := .builtin .append, args := #[s, y], argTypes := #[22, 22] })
    {r : Nat} {v : Value} {l : List Nat} {x : Nat} (hs : act.eval s = v) (hby : Bytes wr r v l) (hx : act.eval y = .slice (some ⟨wr.heap.size, 0, none⟩) 1 1) (hl : l.length ≤ 100000000)
    (h : ∀ r2 cap w1, Bytes w1 r2 (.slice (some ⟨r2, 0, none⟩) (l.length + 1) cap) (l ++ [x]) → (r2 = r ∨ wr.heap.size ≤ r2) → r2 < w1.heap.size → Kp [r] wr w1 → l.length + 1 ≤ cap → cap ≤ maxLen →
      wpList Tryd.prog ops Q rest (act.put o.dst (.slice (some ⟨r2, 0, none⟩) (l.length + 1) cap)) w1) :
    wpList Tryd.prog ops Q (o :: rest) act (wr.alloc (.cells #[.int .u8 (x : Int)] 5)) := by
  obtain ⟨i0, hi, hz0, hz1, hz2⟩ := info_parts u8info
  refine wpList_app_at hgd s y 22 ho i0 (.int .u8 0) 1 1 Tryd.underlying22 hi hz0 hz1 hz2 rfl (by decide) rfl v _ _ hs hby.own hx (by simp [Value.oneCell']) (by unfold maxLen; omega) (by omega) ?_
  intro v' w1 hown' hg' hne' hat'
  obtain ⟨r2, cap2, rfl, hby2, hr2, hrl2, K2, hc1, hc2⟩ := bytes_app hby hown' hg' hne' hat'
  exact h r2 cap2 w1 hby2 hr2 hrl2 K2 hc1 hc2
/-- b = append(b, x) as a step of a region that draws its order. -/
theorem step_byte {ops : Array Oper} {o : Oper} {act : Act} {K : Act → World → Prop} {Q : Exit → Act → World → Prop} {E : Prop} {W : World} (hgd : o.guard = none) (s y : Operand)
    (ho : o.op = .call { callee := .builtin .append, args := #[s, y], argTypes := #[22, 22] })
    {r : Nat} {v : Value} {l : List Nat} {x B : Nat} (hs : act.eval s = v) (hby : Bytes W r v l) (hx : act.eval y = .slice (some ⟨B, 0, none⟩) 1 1) (hB : W.heap[B]? = some (.cells #[.int .u8 (x : Int)] 5 (0, 0))) (hl : l.length ≤ 100000000)
    (h : ∀ r2 cap w1, Bytes w1 r2 (.slice (some ⟨r2, 0, none⟩) (l.length + 1) cap) (l ++ [x]) → (r2 = r ∨ W.heap.size ≤ r2) → r2 < w1.heap.size → Kp [r] W w1 → l.length + 1 ≤ cap → cap ≤ maxLen →
      K (act.put o.dst (.slice (some ⟨r2, 0, none⟩) (l.length + 1) cap)) w1) :
    if Region.wanted o (yielded ops act.tmps) = true then Oper.wp Tryd.prog o act W K Q else E := by
  obtain ⟨i0, hi, hz0, hz1, hz2⟩ := info_parts u8info
  have hw : Region.wanted o (yielded ops act.tmps) = true := by simp [Region.wanted, hgd]
  rw [if_pos hw]
  have hnews : ∀ j u, (#[.int .u8 (x : Int)] : Array Value).toList[j]? = some u → W.cell? ((⟨B, 0, none⟩ : Addr).add j) = some u := by
    intro j u hu
    have e0 : (⟨B, 0, none⟩ : Addr).add j = ⟨B, j, none⟩ := by unfold Addr.add; simp; omega
    rw [e0, (Blk.mk hB).cell j]
    simpa using hu
  obtain ⟨v', w', hr, h2, h3, h4, h5⟩ := run_app_at (P := Tryd.prog) W 0 22 o.type 5 i0 (.int .u8 0) 1 1 Tryd.underlying22 hi hz0 hz1 hz2 rfl (by decide) v _ _ hby.own ⟨B, 0, none⟩ 1 1 (#[.int .u8 (x : Int)] : Array Value).toList rfl hnews (by simp [Value.oneCell']) (by unfold maxLen; omega) (by omega) (Nat.zero_le _)
  obtain ⟨r2, cap2, rfl, hby2, hr2, hrl2, K2, hc1, hc2⟩ := bytes_app hby h2 h3 (fun e0 => by have := (h4.1 e0).2; omega) h5
  unfold Oper.wp execOp
  simp only [ho, resolve, invoke, builtin, Sem.run_bind, Sem.run_pure, Result.andThen_ok, List.map_toArray, List.map_cons, List.map_nil, hs, hx, hr]
  exact h r2 cap2 w' hby2 hr2 hrl2 K2 hc1 hc2
end Go.Proofs.YtncidljdfipigaaDoor.Mem

/- The variable order as it is laid. -/
namespace Go.Proofs.YtncidljdfipigaaDoor.Wi
open Go.RowKit Go.Proofs.YtncidljdfipigaaDoor.Mem Go.Proofs.YtncidljdfipigaaDoor.Bt Go.Proofs.YtncidljdfipigaaDoor.Cd Go.Proofs.YtncidljdfipigaaDoor.De
set_option linter.unusedVariables false
set_option linter.unusedSimpArgs false
/-- The variable order as it is laid. -/
structure Ord (w : World) (x : Addr) : Prop where mk ::
  glob : w.cell? ⟨0, 0, none⟩ = some (.slice (some x) 19 19)
  cells : ∀ i, i < 19 → w.cell? (x.add i) = some (.int .i64 (order.getD i 0 : Nat))
theorem add_block (x : Addr) (i : Nat) : (x.add i).block = x.block := by unfold Addr.add; split <;> rfl
theorem Ord.glt {w : World} {x : Addr} (h : Ord w x) : 0 < w.heap.size := World.block_lt_of_cell? w _ h.glob
theorem Ord.lt {w : World} {x : Addr} (h : Ord w x) : x.block < w.heap.size := by
  have := World.block_lt_of_cell? w _ (h.cells 0 (by omega))
  rwa [add_block] at this
theorem Ord.kp {S : List Nat} {w w' : World} {x : Addr} (h : Ord w x) (k : Kp S w w') (h1 : 0 ∉ S) (h2 : x.block ∉ S) : Ord w' x :=
  ⟨(k.cell h.glt h1).trans h.glob, fun i hi => (k.cell (by rw [add_block]; exact h.lt) (by rw [add_block]; exact h2)).trans (h.cells i hi)⟩
theorem Ord.on {w w' : World} {x : Addr} (h : Ord w x) (O : On w w') : Ord w' x := h.kp (Kp.of [] O) (by simp) (by simp)
theorem Ord.len : order.length = 19 := rfl
theorem order_lt19 : ∀ i, i < 19 → order.getD i 0 < 19 := by decide
end Go.Proofs.YtncidljdfipigaaDoor.Wi

/- The variable order as it is laid: what a row's condition says of it; a world for the rows' witnesses. -/
namespace Go.Proofs.YtncidljdfipigaaDoor.Laid
open Go.RowKit Go.Proofs.YtncidljdfipigaaDoor.Mem
theorem own : ownKnob Tryd.prog.godebug = none := by kernel_rfl
theorem laidOut : laidOutB Tryd.prog = true := by kernel_rfl
def listed : List (String × DataW Unit) := [("loop.example/corbel/impl.order", Rows.laid_loop_example_corbel_impl_order)]
noncomputable def laidWorld (os : Os) : World := World.laidAll Tryd.prog os listed
set_option maxRecDepth 1000000 in
theorem laid_met (os : Os) (args : Array Value) : laidMet Tryd.prog [("loop.example/corbel/impl.order", Rows.laid_loop_example_corbel_impl_order)] ((laidWorld os).forCall (fun _ _ => 0) ⟨#[], args, []⟩).memory :=
  laidMet_laidAll (laid := listed) args (by kernel_rfl) (by kernel_rfl)
theorem facts {W : World} (hl : laidMetH Tryd.prog [("loop.example/corbel/impl.order", Rows.laid_loop_example_corbel_impl_order)] W) : ∃ x, Wi.Ord W x := by
  have h : laidMet Tryd.prog [("loop.example/corbel/impl.order", Rows.laid_loop_example_corbel_impl_order)] W := hl
  obtain ⟨ps, ⟨g, t, cs, fuel, p, q, hg, ht, hv, hd, _, _⟩, _⟩ := h
  obtain rfl : 0 = g := Option.some.inj ((show Tryd.prog.globalNamed "loop.example/corbel/impl.order" = some 0 by kernel_rfl).symm.trans hg)
  obtain rfl : 58 = t := Option.some.inj ((show (Tryd.prog.globals[0]?).map (·.type) = some 58 by kernel_rfl).symm.trans ht)
  rcases ChangeShapes.open_ints Tryd.underlying58 Tryd.underlying3 (by kernel_rfl) hd with ⟨_, h0⟩ | ⟨x, l, c, zs, hcs, _, hlc, _, hz, hx, hcell, _⟩
  · cases h0
  · simp only [if_true] at hz
    have e := congrArg Prod.fst hx
    simp only [Rows.laid_loop_example_corbel_impl_order] at e
    injection e with e1 e2
    have d0 := congrArg List.length e2
    have d1 := congrArg List.length e1
    simp [ChangeShapes.lits] at d0 d1
    have hl19 : l = 19 := by omega
    have hc19 : c = 19 := by omega
    subst hl19; subst hc19
    have hcs' : cs = #[.slice (some x) 19 19] := by rw [← Array.toList_inj, hcs]
    have hzs : ∀ i, i < 19 → zs.getD i 0 = (De.order.getD i 0 : Nat) := by
      intro i hi
      have e3 : (ChangeShapes.lits (H := Unit) .i64 (zs.take 19)).map (fun d => ChangeShapes.numOf (d, [])) = zs.take 19 := by
        simp [ChangeShapes.lits, Function.comp_def, ChangeShapes.numOf]
      rw [← e1] at e3
      have e4 : zs = De.order.map (fun n : Nat => (n : Int)) := by
        rw [← List.take_of_length_le (show zs.length ≤ 19 by omega), ← e3]; rfl
      rw [e4, List.getD_eq_getElem?_getD, List.getD_eq_getElem?_getD, List.getElem?_map]
      rw [List.getElem?_eq_getElem (show i < De.order.length from hi)]; rfl
    refine ⟨x, ?_, fun i hi => ?_⟩
    · simpa [hcs'] using World.var?_cell hg hv 0
    · rw [hcell i (by omega), hzs i hi]
end Go.Proofs.YtncidljdfipigaaDoor.Laid

/- Closed facts of the whole program: its head's words, that it may be entered, how it was made. -/
namespace Go.Proofs.YtncidljdfipigaaDoor.Clo
open Go.RowKit
set_option maxRecDepth 100000
theorem split3 {α : Type} {a b c : α} : ∀ {X : List α}, X.take 3 = [a, b, c] → ∃ r, X = a :: b :: c :: r
  | x :: y :: z :: r, h => by cases h; exact ⟨r, rfl⟩
  | [x, y], h => by cases h
  | [x], h => by cases h
  | [], h => by cases h
theorem main_of (P : Program) (r : List (List Char)) (h : wordsSigns P.initOrder.toList = "harness".toList :: "9499a2aa31b6cc3abe59bf68d71ac79ef09febaaba40f7192b703e7048055941".toList :: "cut".toList :: r) : P.mainIs = some (true, "9499a2aa31b6cc3abe59bf68d71ac79ef09febaaba40f7192b703e7048055941".toList) := by
  unfold Program.mainIs
  rw [h]
  kernel_rfl
theorem behind_of (P : Program) (r : List (List Char)) (h : wordsSigns P.initOrder.toList = "harness".toList :: "9499a2aa31b6cc3abe59bf68d71ac79ef09febaaba40f7192b703e7048055941".toList :: "cut".toList :: r) : behindMainWord (wordsSigns P.initOrder.toList) = "cut".toList :: r := by
  rw [h]
  kernel_rfl
theorem made_of (P : Program) (r : List (List Char)) (h : wordsSigns P.initOrder.toList = "harness".toList :: "9499a2aa31b6cc3abe59bf68d71ac79ef09febaaba40f7192b703e7048055941".toList :: "cut".toList :: r) : P.make = some Make.cut := by
  unfold Program.make
  rw [behind_of P r h]
  kernel_rfl
theorem lifts_of (P : Program) (r : List (List Char)) (h : wordsSigns P.initOrder.toList = "harness".toList :: "9499a2aa31b6cc3abe59bf68d71ac79ef09febaaba40f7192b703e7048055941".toList :: "cut".toList :: r) : P.headLifts = [] := by
  unfold Program.headLifts
  rw [behind_of P r h]
  kernel_rfl
theorem finals_of (P : Program) (r : List (List Char)) (h : wordsSigns P.initOrder.toList = "harness".toList :: "9499a2aa31b6cc3abe59bf68d71ac79ef09febaaba40f7192b703e7048055941".toList :: "cut".toList :: r) : P.liftsFinal = false := by
  unfold Program.liftsFinal
  rw [behind_of P r h, lifts_of P r h]
  kernel_rfl
theorem enter_of (P : Program) (r : List (List Char)) (h : wordsSigns P.initOrder.toList = "harness".toList :: "9499a2aa31b6cc3abe59bf68d71ac79ef09febaaba40f7192b703e7048055941".toList :: "cut".toList :: r) (h1 : P.laysLater = false) (h2 : P.bearsReflect = false) (h3 : P.doorFits [] = true) : P.mayEnter = true := by
  unfold Program.mayEnter
  rw [behind_of P r h, h1, h2]
  show (_ || _ || (_ && P.doorFits [])) = true
  rw [h3]
  kernel_rfl
theorem three : (wordsSigns Tryd.prog.initOrder.toList).take 3 = ["harness".toList, "9499a2aa31b6cc3abe59bf68d71ac79ef09febaaba40f7192b703e7048055941".toList, "cut".toList] := by kernel_rfl
theorem words : ∃ r, wordsSigns Tryd.prog.initOrder.toList = "harness".toList :: "9499a2aa31b6cc3abe59bf68d71ac79ef09febaaba40f7192b703e7048055941".toList :: "cut".toList :: r := split3 three
theorem heard : Tryd.prog.stopsHeard = true := by kernel_rfl
theorem later : Tryd.prog.laysLater = false := by kernel_rfl
theorem bears : Tryd.prog.bearsReflect = false := by kernel_rfl
theorem door : Tryd.prog.doorFits [] = true := by kernel_rfl
theorem enter : Tryd.prog.mayEnter = true := let ⟨r, h⟩ := words; enter_of _ r h later bears door
theorem finals : Tryd.prog.liftsFinal = false := let ⟨r, h⟩ := words; finals_of _ r h
theorem made : Tryd.prog.make = some Make.cut := let ⟨r, h⟩ := words; made_of _ r h
theorem main : Tryd.prog.mainIs = some (true, "9499a2aa31b6cc3abe59bf68d71ac79ef09febaaba40f7192b703e7048055941".toList) := let ⟨r, h⟩ := words; main_of _ r h
end Go.Proofs.YtncidljdfipigaaDoor.Clo

/- Small words on rows of whole numbers: one that a call made, one that is only read, making one. -/
namespace Go.Proofs.YtncidljdfipigaaDoor.Mem
open Go.RowKit
set_option linter.unusedVariables false
/-- Numbers as cells. -/
def i64s (l : List Nat) : List Value := l.map fun n : Nat => Value.int .i64 (n : Int)
theorem i64s_length (l : List Nat) : (i64s l).length = l.length := by simp [i64s]
theorem i64s_get {l : List Nat} {i : Nat} (h : i < l.length) : (i64s l)[i]? = some (.int .i64 (l.getD i 0 : Nat)) := by
  unfold i64s; rw [List.getElem?_map, List.getElem?_eq_getElem h, List.getD_eq_getElem?_getD, List.getElem?_eq_getElem h]; rfl
/-- A row that is only read, from a place of its block on. -/
structure RowO (w : World) (g o t : Nat) (xs : List Value) : Prop where mk :: (out : ∃ cs, Blk w g t cs ∧ (cs.toList.drop o).take xs.length = xs)
section
variable {w w' : World} {g o t : Nat} {xs : List Value}
theorem RowO.lt (h : RowO w g o t xs) : g < w.heap.size := by obtain ⟨cs, hb, _⟩ := h.out; exact hb.lt
theorem RowO.cell (h : RowO w g o t xs) {i : Nat} {x : Value} (hx : xs[i]? = some x) : w.cell? ⟨g, o + i, none⟩ = some x := by
  obtain ⟨cs, hb, ht⟩ := h.out
  rw [hb.cell, ← hx, ← Array.getElem?_toList, ← ht, List.getElem?_take, List.getElem?_drop]
  have : i < xs.length := by
    rcases Nat.lt_or_ge i xs.length with hl | hl
    · exact hl
    · rw [List.getElem?_eq_none hl] at hx; cases hx
  rw [if_pos (by simpa [ht] using this)]
theorem RowO.kp {S : List Nat} (h : RowO w g o t xs) (k : Kp S w w') (hg : g ∉ S) : RowO w' g o t xs := by
  obtain ⟨cs, hb, ht⟩ := h.out
  exact ⟨cs, k.blk hb hg, ht⟩
theorem RowO.on (h : RowO w g o t xs) (O : On w w') : RowO w' g o t xs := h.kp (Kp.of [] O) (by simp)
theorem Row.toO (h : Row w g t xs) : RowO w g 0 t xs := by obtain ⟨cs, hb, ht⟩ := h.out; exact ⟨cs, hb, ht⟩
theorem RowO.toRow (h : RowO w g 0 t xs) : Row w g t xs := by obtain ⟨cs, hb, ht⟩ := h.out; exact ⟨cs, hb, ht⟩
theorem Row.sub (h : Row w g t xs) (a n : Nat) : RowO w g a t ((xs.drop a).take n) := by
  obtain ⟨cs, hb, ht⟩ := h.out
  refine ⟨cs, hb, ?_⟩
  have e : (xs.drop a).take n = (cs.toList.drop a).take (min n (xs.length - a)) := by
    conv => lhs; rw [← ht]
    rw [List.drop_take, List.take_take]
  rw [List.length_take, List.length_drop]
  exact e.symm
end
/-- A row of numbers at block r that a call made. -/
structure Nums (w : World) (r : Nat) (v : Value) (l : List Nat) : Prop where
  own : w.ownsRow 0 3 1 v l.length (i64s l)
  at_ : ∀ g, v.ownBlock = some g → g = r
section
variable {w w' : World} {r : Nat} {l : List Nat} {n cap : Nat} {v : Value}
theorem Nums.kp {S : List Nat} (h : Nums w r v l) (k : Kp S w w') (hr : r ∉ S) : Nums w' r v l := ⟨k.owns h.own (fun g hg => by rw [h.at_ g hg]; exact hr), h.at_⟩
theorem Nums.on (h : Nums w r v l) (O : On w w') : Nums w' r v l := h.kp (Kp.of [] O) (by simp)
theorem Nums.row (h : Nums w r (.slice (some ⟨r, 0, none⟩) n cap) l) : Row w r 3 (i64s l) ∧ n = l.length ∧ n ≤ cap ∧ cap ≤ maxLen := by
  rcases h.own.2 with ⟨h0, _⟩ | ⟨g, c, cur, hv, _, hh, h1, h2, h3, h4⟩
  · cases h0
  · cases hv
    exact ⟨⟨cur, ⟨hh⟩, by rw [h.own.1]; exact h4⟩, rfl, h1, h2⟩
theorem Nums.slice (h : Nums w r v l) (hn : v ≠ .slice none 0 0) : ∃ cap, v = .slice (some ⟨r, 0, none⟩) l.length cap ∧ l.length ≤ cap ∧ cap ≤ maxLen ∧ Row w r 3 (i64s l) := by
  rcases h.own.2 with ⟨h0, _⟩ | ⟨g, c, cur, hv, _, hh, h1, h2, h3, h4⟩
  · exact absurd h0 hn
  · have : g = r := h.at_ g (by rw [hv]; rfl)
    subst this
    exact ⟨c, hv, h1, h2, ⟨cur, ⟨hh⟩, by rw [h.own.1]; exact h4⟩⟩
theorem Nums.set (h : Nums w r (.slice (some ⟨r, 0, none⟩) n cap) l) (i x : Nat) : Nums (w.setCell ⟨r, i, none⟩ (.int .i64 (x : Int))) r (.slice (some ⟨r, 0, none⟩) n cap) (l.set i x) := by
  have hn := h.row.2.1
  have ho := h.own
  subst hn
  have := ho.stored i (.int .i64 (x : Int))
  refine ⟨?_, h.at_⟩
  have e : (i64s l).set i (.int .i64 (x : Int)) = i64s (l.set i x) := by unfold i64s; rw [List.map_set]
  rw [List.length_set, ← e]
  exact this.1
end
theorem i64info : (Tryd.prog.info? 3).map (fun i => (i.zero, i.size, i.bytes)) = some (some (.int .i64 0), 1, 8) := by kernel_rfl
/-- make([]int, n). -/
theorem wpList_ints {ops : Array Oper} {rest : List Oper} {o : Oper} {a : Act} {Q : Exit → Act → World → Prop} (W : World) (hg : o.guard = none) (l c : Operand) (hop : o.op = Op.makeSlice 58 l c)
    (L C : Int) (n : Nat) (hl : a.eval l = .int .i64 L) (hc : a.eval c = .int .i64 C) (hL : L = (n : Int)) (hC : C = (n : Int)) (hn : n ≤ 1000000)
    (hK : ∀ w1, Nums w1 W.heap.size (.slice (some ⟨W.heap.size, 0, none⟩) n n) (List.replicate n 0) → On W w1 → W.heap.size < w1.heap.size → wpList Tryd.prog ops Q rest (a.put o.dst (.slice (some ⟨W.heap.size, 0, none⟩) n n)) w1) :
    wpList Tryd.prog ops Q (o :: rest) a W := by
  obtain ⟨i0, hi, hz0, hz1, hz2⟩ := info_parts i64info
  refine wpList_make_full W hg l c 58 hop 0 3 i0 (.int .i64 0) 1 Tryd.underlying58 hi hz0 hz1 .i64 .i64 L C n hl hc hL hC (by rw [hz2]; omega) (by unfold maxLen; omega) (Nat.zero_le _) ?_
  intro w1 hown hgr
  have e : (madeCells (Value.int .i64 0).cells (n * 1)).toList = i64s (List.replicate n 0) := by
    rw [show (Value.int .i64 0).cells = #[.int .i64 0] from rfl, toList_madeCells_one, Nat.mul_one]
    unfold i64s; rw [List.map_replicate]; rfl
  rw [e] at hown
  have hlt : W.heap.size < w1.heap.size := by
    rcases hown.2 with ⟨h0, _⟩ | ⟨g, c, cur, hv, _, hh, _⟩
    · cases h0
    · cases hv
      rcases Nat.lt_or_ge W.heap.size w1.heap.size with hl | hl
      · exact hl
      · rw [Array.getElem?_eq_none hl] at hh; cases hh
  exact hK w1 ⟨by rw [List.length_replicate]; exact hown, fun g hg => by simp [Value.ownBlock] at hg; exact hg.symm⟩ ((Kp.grown hgr (S := []) (fun g h => by cases h)).toOn) hlt
/-- What a contract tells that makes numbers: a row of its own, and what was stays. -/
def GivesI (w : World) (l : List Nat) (e : Ending) (w' : World) : Prop := ∃ r cap, e = .returned (.slice (some ⟨r, 0, none⟩) l.length cap) ∧ Nums w' r (.slice (some ⟨r, 0, none⟩) l.length cap) l ∧ w.heap.size ≤ r ∧ r < w'.heap.size ∧ On w w'
end Go.Proofs.YtncidljdfipigaaDoor.Mem

/- Codes by their lengths, in both programs: the plain ones. Conditions: sizes. -/
namespace Go.Proofs.YtncidljdfipigaaDoor.Wi
open Go.RowKit Go.Proofs.YtncidljdfipigaaDoor.Mem Go.Proofs.YtncidljdfipigaaDoor.Cd
set_option linter.unusedVariables false
set_option linter.unusedSimpArgs false
/-- The codes as far as they are made: all shorter ones, and those of length l up to symbol k. -/
def outAt (lens : List Nat) (l k : Nat) : List Nat := (List.range lens.length).map fun i => if 1 ≤ lens.getD i 0 ∧ (lens.getD i 0 < l ∨ lens.getD i 0 = l ∧ i < k) then code lens i else 0
theorem outAt_length (lens : List Nat) (l k : Nat) : (outAt lens l k).length = lens.length := by simp [outAt]
theorem outAt_zero (lens : List Nat) : outAt lens 1 0 = List.replicate lens.length 0 := by
  unfold outAt
  apply List.ext_getElem (by simp)
  intro i h1 h2
  simp only [List.getElem_map, List.getElem_range, List.getElem_replicate]
  rw [if_neg (by omega)]
theorem outAt_next (lens : List Nat) (l : Nat) (h : 1 ≤ l) : outAt lens (l + 1) 0 = outAt lens l lens.length := by
  unfold outAt
  apply List.map_congr_left
  intro i hi
  have := List.mem_range.1 hi
  by_cases c : 1 ≤ lens.getD i 0 ∧ (lens.getD i 0 < l + 1 ∨ lens.getD i 0 = l + 1 ∧ i < 0)
  · rw [if_pos c, if_pos (by omega)]
  · rw [if_neg c, if_neg (by omega)]
theorem outAt_end (lens : List Nat) : outAt lens 16 0 = codes lens := by
  unfold outAt codes
  apply List.map_congr_left
  intro i hi
  by_cases c : 1 ≤ lens.getD i 0 ∧ lens.getD i 0 ≤ 15
  · rw [if_pos (by omega)]
  · rw [if_neg (by omega)]
    unfold code
    rw [if_neg c]
theorem outAt_skip (lens : List Nat) (l k : Nat) (h : lens.getD k 0 ≠ l) : outAt lens l (k + 1) = outAt lens l k := by
  unfold outAt
  apply List.map_congr_left
  intro i hi
  by_cases e : i = k
  · subst e
    by_cases c : 1 ≤ lens.getD i 0 ∧ (lens.getD i 0 < l ∨ lens.getD i 0 = l ∧ i < i + 1)
    · rw [if_pos c, if_pos (by omega)]
    · rw [if_neg c, if_neg (by omega)]
  · by_cases c : 1 ≤ lens.getD i 0 ∧ (lens.getD i 0 < l ∨ lens.getD i 0 = l ∧ i < k + 1)
    · rw [if_pos c, if_pos (by omega)]
    · rw [if_neg c, if_neg (by omega)]
theorem outAt_at (lens : List Nat) (l k : Nat) {i : Nat} (h : i < lens.length) : (outAt lens l k)[i]? = some (if 1 ≤ lens.getD i 0 ∧ (lens.getD i 0 < l ∨ lens.getD i 0 = l ∧ i < k) then code lens i else 0) := by
  unfold outAt; rw [List.getElem?_map, List.getElem?_range h]; rfl
theorem outAt_take (lens : List Nat) (l k : Nat) (h : lens.getD k 0 = l) (h1 : 1 ≤ l) (h2 : l ≤ 15) (hk : k < lens.length) : outAt lens l (k + 1) = (outAt lens l k).set k (codeAt lens l k) := by
  apply List.ext_getElem?
  intro i
  rw [List.getElem?_set, outAt_length]
  by_cases hi : i < lens.length
  · rw [outAt_at lens l (k + 1) hi, outAt_at lens l k hi]
    by_cases e : k = i
    · subst e
      rw [if_pos rfl, if_pos hk, if_pos (by omega)]
      unfold code
      rw [h, if_pos ⟨h1, h2⟩]
    · rw [if_neg e]
      by_cases c : 1 ≤ lens.getD i 0 ∧ (lens.getD i 0 < l ∨ lens.getD i 0 = l ∧ i < k + 1)
      · rw [if_pos c, if_pos (by omega)]
      · rw [if_neg c, if_neg (by omega)]
  · rw [List.getElem?_eq_none (by rw [outAt_length]; omega), if_neg (by omega), List.getElem?_eq_none (by rw [outAt_length]; omega)]
theorem first_le (lens : List Nat) : ∀ l, first lens l ≤ 4 ^ l * lens.length
  | 0 => by simp [first]
  | 1 => by simp [first]
  | l + 2 => by
    have ih := first_le lens (l + 1)
    have hc := List.count_le_length (a := l + 1) (l := lens)
    have h1 : 1 ≤ 4 ^ (l + 1) := Nat.pos_of_ne_zero (by simp)
    have h2 : lens.length ≤ 4 ^ (l + 1) * lens.length := Nat.le_mul_of_pos_left _ h1
    have e : 4 ^ (l + 2) * lens.length = 4 * (4 ^ (l + 1) * lens.length) := by rw [Nat.pow_succ (n := 4) (m := l + 1), Nat.mul_comm (4 ^ (l + 1)) 4, Nat.mul_assoc]
    rw [e, first]
    omega
theorem codeAt_le (lens : List Nat) (l k : Nat) (hl : l ≤ 16) (hn : lens.length ≤ 1000) : codeAt lens l k ≤ 8589934592000 := by
  have a := first_le lens l
  have b := count_take_le lens k l
  have c := List.count_le_length (a := l) (l := lens)
  have d : 4 ^ l ≤ 4 ^ 16 := Nat.pow_le_pow_right (by omega) hl
  have e : 4 ^ l * lens.length ≤ 4 ^ 16 * 1000 := Nat.mul_le_mul d hn
  unfold codeAt
  omega
theorem codeAt_step (lens : List Nat) (l k : Nat) (hk : k < lens.length) : codeAt lens l (k + 1) = codeAt lens l k + if lens.getD k 0 = l then 1 else 0 := by
  unfold codeAt
  rw [count_take_succ hk]
  omega
theorem codeAt_next (lens : List Nat) (l : Nat) (h : 1 ≤ l) : codeAt lens (l + 1) 0 = 2 * codeAt lens l lens.length := by
  unfold codeAt
  rw [first_succ lens h]
  simp
set_option maxRecDepth 100000 in
set_option maxHeartbeats 1000000 in
theorem icodes_calls (lens : List Nat) (g o n cap : Nat) (w : World) (hR : RowO w g o 3 (i64s lens)) (hl : lens.length = n) (hn : n ≤ 1000) (hc : n ≤ cap) :
    Calls Tryd.prog 66 #[.slice (some ⟨g, o, none⟩) n cap] w (GivesI w (codes lens)) := by
  have HL := Lib.hid hl
  have hcl : (codes lens).length = n := by rw [codes_length, hl]
  have HC := Lib.hid hcl
  clear hl hcl
  go_enter Tryd.func66, Tryd.ntmps66
  go_wp2_with (at_make; go_must (refine wpList_ints _ rfl _ _ rfl _ _ n rfl rfl rfl rfl (by omega) ?_); intro w1 hN1 O1 hlt1)
  have R1 := hR.on O1
  have hg1 : g < w.heap.size := hR.lt
  rw [← HL.out] at hN1
  rw [← outAt_zero] at hN1
  rw [HL.out] at hN1
  generalize hB : w.heap.size = B at *
  have HB := Lib.hid hB
  clear hB
  go_loopw [4, 5] (fun a b wr => ∃ l : Nat, 1 ≤ l ∧ l ≤ 16 ∧ b = .int .i64 (l : Int) ∧ a = .int .i64 (codeAt lens l 0 : Nat) ∧ Nums wr B (.slice (some ⟨B, 0, none⟩) n n) (outAt lens l 0) ∧ Kp [B] w1 wr) (fun _ b _ => 16 - (intOf b).toNat)
  case atStart => exact ⟨1, by omega, by omega, rfl, rfl, hN1, Kp.refl _ _⟩
  case round =>
    obtain ⟨l, hl1, hl2, rfl, rfl, hN, K⟩ := hrel
    by_cases hlt : l ≤ 15
    · have hlt' : (l : Int) ≤ 15 := by omega
      obtain ⟨wo, hwo⟩ : ∃ wo : World, wo = wr := ⟨_, rfl⟩
      subst hwo
      go_wp2_with fail
      go_loopw [4, 17] (fun a b wr => ∃ k : Nat, k ≤ n ∧ b = .int .i64 (k : Int) ∧ a = .int .i64 (codeAt lens l k : Nat) ∧ Nums wr B (.slice (some ⟨B, 0, none⟩) n n) (outAt lens l k) ∧ Kp [B] w1 wr) (fun _ b _ => n - (intOf b).toNat)
      case atStart => exact ⟨0, by omega, rfl, rfl, hN, K⟩
      case round =>
        obtain ⟨k, hk, rfl, rfl, hN, K⟩ := hrel
        by_cases hkn : k < n
        · have hkl : k < lens.length := by rw [HL.out]; exact hkn
          have c0 : wr.cell? ⟨g, o + k, none⟩ = some (.int .i64 (lens.getD k 0 : Nat)) := (R1.kp K (by simp; omega)).cell (i64s_get hkl)
          obtain ⟨RB, _, _, _⟩ := hN.row
          have cB : wr.cell? ⟨B, k, none⟩ = some (.int .i64 ((outAt lens l k).getD k 0 : Nat)) := RB.cell (i64s_get (by rw [outAt_length]; exact hkl))
          have fB : wr.frozen? ⟨B, k, none⟩ = false := RB.frozen _
          have hst := codeAt_step lens l k hkl
          have hle := codeAt_le lens l k (by omega) (by rw [HL.out]; omega)
          have hsk := outAt_skip lens l k
          have htk := fun h => outAt_take lens l k h hl1 hlt hkl
          generalize hx : lens.getD k 0 = x at *
          generalize codeAt lens l k = c at *
          generalize (outAt lens l k).getD k 0 = y at *
          have HX := Lib.hid hx
          have HSK := Lib.hid hsk
          have HTK := Lib.hid htk
          have HST := Lib.hid hst
          clear hx hsk htk hst
          by_cases hxl : x = l
          · have hb : ((x : Int) == (l : Int)) = true := by simp [hxl]
            have S1 := hN.set k c
            have K1 := K.set (p := ⟨B, k, none⟩) (.inl (by simp)) (.int .i64 (c : Int))
            have h1 := HTK.out hxl
            have h2 := HST.out
            rw [if_pos hxl] at h2
            rw [← h1] at S1
            have H2 := Lib.hid h2
            clear h1 h2
            have hxl' := Lib.hid hxl
            clear hxl
            go_wp2_with fail
            go_roundw
            case rel => exact ⟨k + 1, by omega, by go_num, by rw [H2.out]; go_num, S1, K1⟩
            case measure => simp [intOf]; omega
          · have hb : ((x : Int) == (l : Int)) = false := by simp; omega
            have h1 := HSK.out hxl
            have h2 := HST.out
            rw [if_neg hxl] at h2
            have H1 := Lib.hid h1
            have H2 := Lib.hid h2
            clear h1 h2
            go_wp2_with fail
            go_roundw
            case rel => exact ⟨k + 1, by omega, by go_num, by rw [H2.out]; rfl, by rw [H1.out]; exact hN, K⟩
            case measure => simp [intOf]; omega
        · obtain rfl : k = n := by omega
          have hle := codeAt_le lens l k (by omega) (by rw [HL.out]; omega)
          have hnx := codeAt_next lens l hl1
          have hno := outAt_next lens l hl1
          rw [HL.out] at hnx hno
          have HNX := Lib.hid hnx
          have HNO := Lib.hid hno
          clear hnx hno
          generalize codeAt lens l k = c at *
          go_wp2_with fail
          go_roundw
          case rel => exact ⟨l + 1, by omega, by omega, by go_num, by rw [HNX.out]; go_num, by rw [HNO.out]; exact hN, K⟩
          case measure => simp [intOf]; omega
    · obtain rfl : l = 16 := by omega
      go_wp2_with fail
      go_ret
      rw [outAt_end] at hN
      refine ⟨B, n, by rw [HC.out]; rfl, by rw [HC.out]; exact hN, by rw [HB.out]; exact Nat.le_refl _, Nat.lt_of_lt_of_le hlt1 K.size, ?_⟩
      exact K.on O1 (fun x hx => by simp at hx; rw [HB.out]; omega)
set_option maxRecDepth 100000 in
set_option maxHeartbeats 1000000 in
theorem scodes_calls (lens : List Nat) (g o n cap : Nat) (w : World) (hR : RowO w g o 3 (i64s lens)) (hl : lens.length = n) (hn : n ≤ 1000) (hc : n ≤ cap) :
    Calls Tryd.prog 128 #[.slice (some ⟨g, o, none⟩) n cap] w (GivesI w (codes lens)) := by
  have HL := Lib.hid hl
  have hcl : (codes lens).length = n := by rw [codes_length, hl]
  have HC := Lib.hid hcl
  clear hl hcl
  go_enter Tryd.func128, Tryd.ntmps128
  go_wp2_with (at_make; go_must (refine wpList_ints _ rfl _ _ rfl _ _ n rfl rfl rfl rfl (by omega) ?_); intro w1 hN1 O1 hlt1)
  have R1 := hR.on O1
  have hg1 : g < w.heap.size := hR.lt
  rw [← HL.out] at hN1
  rw [← outAt_zero] at hN1
  rw [HL.out] at hN1
  generalize hB : w.heap.size = B at *
  have HB := Lib.hid hB
  clear hB
  go_loopw [4, 5] (fun a b wr => ∃ l : Nat, 1 ≤ l ∧ l ≤ 16 ∧ b = .int .i64 (l : Int) ∧ a = .int .i64 (codeAt lens l 0 : Nat) ∧ Nums wr B (.slice (some ⟨B, 0, none⟩) n n) (outAt lens l 0) ∧ Kp [B] w1 wr) (fun _ b _ => 16 - (intOf b).toNat)
  case atStart => exact ⟨1, by omega, by omega, rfl, rfl, hN1, Kp.refl _ _⟩
  case round =>
    obtain ⟨l, hl1, hl2, rfl, rfl, hN, K⟩ := hrel
    by_cases hlt : l ≤ 15
    · have hlt' : (l : Int) ≤ 15 := by omega
      obtain ⟨wo, hwo⟩ : ∃ wo : World, wo = wr := ⟨_, rfl⟩
      subst hwo
      go_wp2_with fail
      go_loopw [4, 6] (fun a b wr => ∃ k : Nat, k ≤ n ∧ b = .int .i64 (k : Int) ∧ a = .int .i64 (codeAt lens l k : Nat) ∧ Nums wr B (.slice (some ⟨B, 0, none⟩) n n) (outAt lens l k) ∧ Kp [B] w1 wr) (fun _ b _ => n - (intOf b).toNat)
      case atStart => exact ⟨0, by omega, rfl, rfl, hN, K⟩
      case round =>
        obtain ⟨k, hk, rfl, rfl, hN, K⟩ := hrel
        by_cases hkn : k < n
        · have hkl : k < lens.length := by rw [HL.out]; exact hkn
          have c0 : wr.cell? ⟨g, o + k, none⟩ = some (.int .i64 (lens.getD k 0 : Nat)) := (R1.kp K (by simp; omega)).cell (i64s_get hkl)
          obtain ⟨RB, _, _, _⟩ := hN.row
          have cB : wr.cell? ⟨B, k, none⟩ = some (.int .i64 ((outAt lens l k).getD k 0 : Nat)) := RB.cell (i64s_get (by rw [outAt_length]; exact hkl))
          have fB : wr.frozen? ⟨B, k, none⟩ = false := RB.frozen _
          have hst := codeAt_step lens l k hkl
          have hle := codeAt_le lens l k (by omega) (by rw [HL.out]; omega)
          have hsk := outAt_skip lens l k
          have htk := fun h => outAt_take lens l k h hl1 hlt hkl
          generalize hx : lens.getD k 0 = x at *
          generalize codeAt lens l k = c at *
          generalize (outAt lens l k).getD k 0 = y at *
          have HX := Lib.hid hx
          have HSK := Lib.hid hsk
          have HTK := Lib.hid htk
          have HST := Lib.hid hst
          clear hx hsk htk hst
          by_cases hxl : x = l
          · have hb : ((x : Int) == (l : Int)) = true := by simp [hxl]
            have S1 := hN.set k c
            have K1 := K.set (p := ⟨B, k, none⟩) (.inl (by simp)) (.int .i64 (c : Int))
            have h1 := HTK.out hxl
            have h2 := HST.out
            rw [if_pos hxl] at h2
            rw [← h1] at S1
            have H2 := Lib.hid h2
            clear h1 h2
            have hxl' := Lib.hid hxl
            clear hxl
            go_wp2_with fail
            go_roundw
            case rel => exact ⟨k + 1, by omega, by go_num, by rw [H2.out]; go_num, S1, K1⟩
            case measure => simp [intOf]; omega
          · have hb : ((x : Int) == (l : Int)) = false := by simp; omega
            have h1 := HSK.out hxl
            have h2 := HST.out
            rw [if_neg hxl] at h2
            have H1 := Lib.hid h1
            have H2 := Lib.hid h2
            clear h1 h2
            go_wp2_with fail
            go_roundw
            case rel => exact ⟨k + 1, by omega, by go_num, by rw [H2.out]; rfl, by rw [H1.out]; exact hN, K⟩
            case measure => simp [intOf]; omega
        · obtain rfl : k = n := by omega
          have hle := codeAt_le lens l k (by omega) (by rw [HL.out]; omega)
          have hnx := codeAt_next lens l hl1
          have hno := outAt_next lens l hl1
          rw [HL.out] at hnx hno
          have HNX := Lib.hid hnx
          have HNO := Lib.hid hno
          clear hnx hno
          generalize codeAt lens l k = c at *
          go_wp2_with fail
          go_roundw
          case rel => exact ⟨l + 1, by omega, by omega, by go_num, by rw [HNX.out]; go_num, by rw [HNO.out]; exact hN, K⟩
          case measure => simp [intOf]; omega
    · obtain rfl : l = 16 := by omega
      go_wp2_with fail
      go_ret
      rw [outAt_end] at hN
      refine ⟨B, n, by rw [HC.out]; rfl, by rw [HC.out]; exact hN, by rw [HB.out]; exact Nat.le_refl _, Nat.lt_of_lt_of_le hlt1 K.size, ?_⟩
      exact K.on O1 (fun x hx => by simp at hx; rw [HB.out]; omega)
end Go.Proofs.YtncidljdfipigaaDoor.Wi

/- Whether a number is within bounds. -/
namespace Go.Proofs.YtncidljdfipigaaDoor.Wi
open Go.RowKit Go.Proofs.YtncidljdfipigaaDoor.Mem
set_option linter.unusedSimpArgs false
theorem within_same (n l h : Int) (w : World) :
    Calls Tryd.prog 97 #[.int .i64 n, .int .i64 l, .int .i64 h] w (fun e w' => e = .returned (.bool (decide (l ≤ n ∧ n ≤ h))) ∧ w' = w) := by
  by_cases h1 : l ≤ n
  · by_cases h2 : n ≤ h
    · go_enter Tryd.func97, Tryd.ntmps97
      go_wp2_with fail
      go_ret
      exact ⟨by simp [h1, h2], rfl⟩
    · go_enter Tryd.func97, Tryd.ntmps97
      go_wp2_with fail
      go_ret
      exact ⟨by simp [h1, h2], rfl⟩
  · go_enter Tryd.func97, Tryd.ntmps97
    go_wp2_with fail
    go_ret
    exact ⟨by simp; omega, rfl⟩
theorem within_yes {n l h : Int} (w : World) (h1 : l ≤ n) (h2 : n ≤ h) : Calls Tryd.prog 97 #[.int .i64 n, .int .i64 l, .int .i64 h] w (fun e w' => e = .returned (.bool true) ∧ w' = w) := by
  have := within_same n l h w
  rw [decide_eq_true ⟨h1, h2⟩] at this
  exact this
theorem within_no {n l h : Int} (w : World) (h1 : ¬ (l ≤ n ∧ n ≤ h)) : Calls Tryd.prog 97 #[.int .i64 n, .int .i64 l, .int .i64 h] w (fun e w' => e = .returned (.bool false) ∧ w' = w) := by
  have := within_same n l h w
  rw [decide_eq_false h1] at this
  exact this
end Go.Proofs.YtncidljdfipigaaDoor.Wi

/- The program's writer of bits: what put and even do. Conditions: a writer, sizes. -/
namespace Go.Proofs.YtncidljdfipigaaDoor.Wi
open Go.RowKit Go.Proofs.YtncidljdfipigaaDoor.Mem Go.Proofs.YtncidljdfipigaaDoor.Bt
set_option linter.unusedVariables false
set_option linter.unusedSimpArgs false
/-- The program's writer at block g, its bytes at block r: what bits it holds. -/
structure IW (w : World) (g r : Nat) (bs : List Bool) : Prop where mk :: (out : ∃ v, Blk w g 50 #[v, .int .i64 bs.length] ∧ Bytes w r v (pack bs) ∧ (r ≠ g ∨ v = .slice none 0 0))
/-- What a call on a writer leaves: all but the writer's two blocks. -/
structure Mv (g r : Nat) (w : World) (r' : Nat) (w' : World) : Prop where
  kp : Kp [g, r] w w'
  at_ : r' = r ∨ w.heap.size ≤ r'
  lt : r < w.heap.size → r' < w'.heap.size
theorem mv_kp {g r : Nat} {w w' : World} (k : Kp [g, r] w w') : Mv g r w r w' := ⟨k, .inl rfl, fun h => Nat.lt_of_lt_of_le h k.size⟩
theorem Bytes.kp2 {w w' : World} {g r : Nat} {v : Value} {l : List Nat} (h : Bytes w r v l) (hor : r ≠ g ∨ v = .slice none 0 0) (k : Kp [g] w w') : Bytes w' r v l :=
  ⟨k.owns h.own (fun j hj => by
    rcases hor with e | e
    · rw [h.at_ j hj]; simpa using e
    · rw [e] at hj; simp [Value.ownBlock] at hj), h.at_⟩
/-- A block for the bytes: theirs, or (there are none) none at all. -/
theorem pick {w : World} {g r : Nat} {v : Value} {l : List Nat} (hg : g < w.heap.size) (hb : Bytes w r v l) (h : r ≠ g ∨ v = .slice none 0 0) : ∃ r0, Bytes w r0 v l ∧ r0 ≠ g ∧ (r0 = r ∨ r0 = w.heap.size) := by
  by_cases e : v = .slice none 0 0
  · exact ⟨w.heap.size, ⟨hb.own, fun k hk => by rw [e] at hk; simp [Value.ownBlock] at hk⟩, by omega, .inr rfl⟩
  · rcases h with h | h
    · exact ⟨r, hb, h, .inl rfl⟩
    · exact absurd h e
theorem mv_of {g r r0 r2 : Nat} {w w2 : World} (h : r0 = r ∨ r0 = w.heap.size) (k : Kp [g, r0] w w2) (h2 : r2 = r0 ∨ w.heap.size ≤ r2) (h3 : r2 < w2.heap.size) : Mv g r w r2 w2 := by
  refine ⟨k.mono (fun x hx => ?_), ?_, fun _ => h3⟩
  · simp only [List.mem_cons, List.not_mem_nil, or_false] at hx ⊢
    rcases hx with rfl | rfl
    · exact .inl (.inl rfl)
    · rcases h with rfl | rfl
      · exact .inl (.inr rfl)
      · exact .inr (Nat.le_refl _)
  · rcases h with rfl | rfl <;> rcases h2 with e | e <;> omega
theorem Mv.refl (g r : Nat) (w : World) : Mv g r w r w := mv_kp (Kp.refl _ _)
theorem Mv.trans {g r r1 r2 : Nat} {w w1 w2 : World} (h : Mv g r w r1 w1) (k : Mv g r1 w1 r2 w2) : Mv g r w r2 w2 := by
  refine ⟨h.kp.trans k.kp (fun x hx => ?_), ?_, fun hh => k.lt (h.lt hh)⟩
  · simp only [List.mem_cons, List.not_mem_nil, or_false] at hx ⊢
    rcases hx with rfl | rfl
    · exact .inl (.inl rfl)
    · rcases h.at_ with e | e
      · exact .inl (.inr e)
      · exact .inr e
  · have := h.kp.size
    rcases k.at_ with e | e
    · rw [e]; exact h.at_
    · right; omega
theorem tmod_nat (a b : Nat) : Int.tmod (a : Int) (b : Int) = ((a % b : Nat) : Int) := by rw [Int.tmod_eq_emod_of_nonneg (by omega)]; simp
theorem tdiv_nat (a b : Nat) : Int.tdiv (a : Int) (b : Int) = ((a / b : Nat) : Int) := by rw [Int.tdiv_eq_ediv_of_nonneg (by omega)]; simp
theorem wr_i64 (n : Int) (h₀ : 0 ≤ n) (h₁ : n < 2 ^ 63) : IntKind.i64.wrap n = n := by rw [IntKind.wrap_i64]; omega
theorem wr_u8 (n : Int) (h₀ : 0 ≤ n) (h₁ : n < 2 ^ 8) : IntKind.u8.wrap n = n := by
  have e : IntKind.u8.wrap n = n % 256 := rfl
  rw [e]; omega
theorem and_mask (i : Nat) (hi : i ≤ 63) {x m : Int} (hm : m = 2 ^ i - 1) (h0 : 0 ≤ x) (h1 : x < 9223372036854775808) : Go.bits .and .i64 x m = x % 2 ^ i := by
  subst hm
  exact bits_mask .i64 63 (by decide) wr_i64 i hi x h0 (by omega)
theorem or_comm8 (x y : Int) : Go.bits .or .u8 x y = Go.bits .or .u8 y x := by
  simp only [Go.bits]; rw [BitVec.or_comm]
theorem or_add8 (i : Nat) {x y : Int} (h0 : 0 ≤ x) (hx : x % 2 ^ i = 0) (h1 : x < 256) (y0 : 0 ≤ y) (y1 : y < 2 ^ i) (y2 : y < 256) : Go.bits .or .u8 x y = x + y :=
  bits_join .u8 8 (by decide) wr_u8 i x y h0 hx (by omega) y0 y1 (by omega)
theorem bit_and (num k : Nat) (h : num < 9223372036854775808) : Go.bits .and .i64 ((num : Int) / 2 ^ k) 1 = ((num / 2 ^ k % 2 : Nat) : Int) := by
  have e : ((num : Int) / 2 ^ k) = ((num / 2 ^ k : Nat) : Int) := by simp
  have h2 : num / 2 ^ k ≤ num := Nat.div_le_self _ _
  generalize num / 2 ^ k = y at *
  rw [e, and_mask 1 (by omega) (by decide) (by omega) (by omega)]
  omega
theorem or_bit {x y p : Nat} (hx : x < 2) (hp : p < 8) (hy : y < 2 ^ p) : Go.bits .or .u8 (y : Int) ((2 ^ p * x : Nat) : Int) = ((y + 2 ^ p * x : Nat) : Int) ∧ 2 ^ p * x < 256 ∧ y < 256 := by
  have h1 : 2 ^ p ≤ 2 ^ 7 := Nat.pow_le_pow_right (by omega) (by omega)
  have h2 : 2 ^ p * x ≤ 2 ^ p * 1 := Nat.mul_le_mul_left _ (by omega)
  have e : (2 : Int) ^ p = ((2 ^ p : Nat) : Int) := by simp
  refine ⟨?_, by omega, by omega⟩
  rw [or_comm8, or_add8 p (x := ((2 ^ p * x : Nat) : Int)) (y := (y : Int)) (by omega) (by rw [e, Int.natCast_mul, Int.mul_emod_right]) (by omega) (by omega) (by rw [e]; omega) (by omega)]
  omega
theorem iw_close {W : World} {g r n cap m q x : Nat} {l : List Nat} {bs : List Bool} (B : Blk W g 50 #[.slice (some ⟨r, 0, none⟩) n cap, .int .i64 (m : Int)]) (Y : Bytes W r (.slice (some ⟨r, 0, none⟩) n cap) l) (hne : l ≠ []) (hrg : r ≠ g)
    (hm : bs.length = m + 1) (hp : l.set q x = pack bs) : IW ((W.setCell ⟨r, q, none⟩ (.int .u8 (x : Int))).setCell ⟨g, 1, none⟩ (.int .i64 ((m : Int) + 1))) g r bs := by
  have B1 := ((B.far (p := ⟨r, q, none⟩) (Ne.symm hrg) (.int .u8 (x : Int))).set 1 (.int .i64 ((m : Int) + 1)))
  have Y1 := (Y.set hne q x).kp ((Kp.refl [g] _).set (p := ⟨g, 1, none⟩) (.inl (by simp)) (.int .i64 ((m : Int) + 1))) (by simpa using hrg)
  rw [hp] at Y1
  refine ⟨_, ?_, Y1, .inl hrg⟩
  rw [hm]
  exact B1
set_option maxRecDepth 100000 in
theorem put_calls (g r : Nat) (bs : List Bool) (num n : Nat) (w : World) (hw : IW w g r bs) (hn : n ≤ 16) (hb : bs.length ≤ 100000000) (hnum : num < 9223372036854775808) :
    Calls Tryd.prog 48 #[.pointer (some ⟨g, 0, none⟩), .int .i64 num, .int .i64 n] w fun e w' => ∃ r', e = .returned (.tuple #[]) ∧ IW w' g r' (bs ++ bitsOf num n) ∧ Mv g r w r' w' := by
  go_enter Tryd.func48, Tryd.ntmps48
  go_wp2_with fail
  go_loopw [8] (fun x wr => ∃ (k r' : Nat), x = .int .i64 k ∧ k ≤ n ∧ IW wr g r' (bs ++ bitsOf num k) ∧ Mv g r w r' wr) (fun x _ => n - (intOf x).toNat)
  case atStart => exact ⟨0, r, rfl, by omega, by simpa [bitsOf] using hw, Mv.refl _ _ _⟩
  case round =>
    obtain ⟨k, r', rfl, hk, hw', M⟩ := hrel
    by_cases hlt : k < n
    · have hl : (bs ++ bitsOf num k).length = bs.length + k := by rw [List.length_append, bits_length]
      have hsn : bs ++ bitsOf num (k + 1) = (bs ++ bitsOf num k) ++ [num / 2 ^ k % 2 == 1] := by rw [bits_snoc, List.append_assoc]
      have HSN := Lib.hid hsn
      clear hsn
      generalize bs ++ bitsOf num k = bk at *
      obtain ⟨v, hblk, hby0, hor⟩ := hw'.out
      obtain ⟨r0, hby, hrg, hr0⟩ := pick hblk.lt hby0 hor
      clear hby0 hor
      have c0 : wr.cell? ⟨g, 0, none⟩ = some v := (hblk.cell 0).trans rfl
      have c1 : wr.cell? ⟨g, 1, none⟩ = some (.int .i64 bk.length) := (hblk.cell 1).trans rfl
      have fr : ∀ i, wr.frozen? ⟨g, i, none⟩ = false := hblk.frozen
      have hm : (bk.length : Int) ≤ 200000000 := by omega
      have hm2 : (k : Int) < n := by omega
      generalize hm0 : bk.length = m at *
      have HM := Lib.hid hm0
      have HL := Lib.hid hl
      have hdec : r0 ≠ g → g ∉ [r0] := fun h => by simp; omega
      have HG := Lib.hid (hdec hrg)
      clear hm0 hl hw' hdec
      have hg1 := hblk.lt
      by_cases h8 : m % 8 = 0
      case' pos =>
        have hl0 : (pack bk).length = m / 8 := by rw [pack_length, HM.out]; omega
        have hs0 : ∀ b, b1 (num / 2 ^ k % 2 == 1) = b → (pack bk ++ [0]).set (m / 8) (0 + 2 ^ (m % 8) * b) = pack (bk ++ [num / 2 ^ k % 2 == 1]) := fun b hb => by
          rw [pack_snoc0 bk _ (by rw [HM.out]; exact h8), hb, h8, ← hl0, List.set_append_right _ _ (Nat.le_refl _), Nat.sub_self, Nat.zero_add, Nat.pow_zero, Nat.one_mul]; rfl
        have h00 : (pack bk ++ [0]).getD (m / 8) 0 = 0 := by rw [← hl0, List.getD_eq_getElem?_getD, List.getElem?_append_right (Nat.le_refl _), Nat.sub_self]; rfl
        obtain ⟨y, h0, hsn, hy⟩ : ∃ y, (pack bk ++ [0]).getD (m / 8) 0 = y ∧ (∀ b, b1 (num / 2 ^ k % 2 == 1) = b → (pack bk ++ [0]).set (m / 8) (y + 2 ^ (m % 8) * b) = pack (bk ++ [num / 2 ^ k % 2 == 1])) ∧ y < 2 ^ (m % 8) :=
          ⟨0, h00, hs0, Nat.two_pow_pos _⟩
        have e8 : Int.tmod (m : Int) 8 = 0 := by rw [show (8 : Int) = ((8 : Nat) : Int) from rfl, tmod_nat, h8]; rfl
        have hsz : (pack bk).length ≤ 100000000 := by omega
        have hlq : (pack bk ++ [0]).length = m / 8 + 1 := by rw [List.length_append, List.length_singleton, hl0]
        have HP := Lib.hid hl0
        have HS := Lib.hid hsn
        have H0 := Lib.hid h0
        have HLQ := Lib.hid hlq
        have H8 := Lib.hid h8
        clear hl0 hsn h0 hlq h8 hs0 h00
        go_wp2_with (at_builtin; go_must (refine wpList_byte (x := 0) rfl _ _ rfl rfl hby rfl hsz ?_); intro r2 cap w1 hby2 hr2 hrl2 K2 hc1 hc2; have d0 : w1.cell? ⟨g, 0, none⟩ = some v := ((K2.blk hblk HG.out).cell 0).trans rfl; have d1 : w1.cell? ⟨g, 1, none⟩ = some (.int .i64 m) := ((K2.blk hblk HG.out).cell 1).trans rfl; have dr : ∀ i, w1.frozen? ⟨g, i, none⟩ = false := (K2.blk hblk HG.out).frozen; clear c0 c1 fr)
        have BW := (K2.blk hblk HG.out).set 0 (.slice (some ⟨r2, 0, none⟩) ((pack bk).length + 1) cap)
        have hrg2 : r2 ≠ g := by have := HG.out; simp at this; omega
        have YW := hby2.kp ((Kp.refl [g] w1).set (p := ⟨g, 0, none⟩) (.inl (by simp)) (.slice (some ⟨r2, 0, none⟩) ((pack bk).length + 1) cap)) (by simpa using hrg2)
        have KW := (K2.mono (T := [g, r0]) (fun x hx => .inl (by simp at hx ⊢; exact .inr hx))).set (p := ⟨g, 0, none⟩) (.inl (by simp)) (.slice (some ⟨r2, 0, none⟩) ((pack bk).length + 1) cap)
        have hrW : r2 < (w1.setCell ⟨g, 0, none⟩ (.slice (some ⟨r2, 0, none⟩) ((pack bk).length + 1) cap)).heap.size := by simp [World.setCell]; exact hrl2
        generalize w1.setCell ⟨g, 0, none⟩ (.slice (some ⟨r2, 0, none⟩) ((pack bk).length + 1) cap) = W at *
        rw [HP.out] at YW BW hc1 ⊢
        have M2 : Mv g r w r2 W := M.trans (mv_of hr0 KW hr2 hrW)
        have e6 : Int.tmod (m : Int) 8 = ((m % 8 : Nat) : Int) := tmod_nat m 8
        clear hby hby2 hblk hr2 hrl2 K2 d0 d1 dr e8 hrg M KW hr0
        generalize pack bk ++ [0] = L at *
      case' neg =>
        have hlp : (pack bk).length = m / 8 + 1 := by rw [pack_length, HM.out]; omega
        obtain ⟨hq1, hq2, hq3⟩ := pack_snoc1 bk (num / 2 ^ k % 2 == 1) (by rw [HM.out]; exact h8)
        rw [HM.out] at hq2 hq3
        have hy0 : (pack bk).getD (m / 8) 0 < 2 ^ (m % 8) := by
          rw [hq2]
          refine Nat.lt_of_lt_of_le (val_lt _) (Nat.pow_le_pow_right (by omega) ?_)
          rw [List.length_drop, HM.out]; omega
        obtain ⟨y, h0, hsn, hy⟩ : ∃ y, (pack bk).getD (m / 8) 0 = y ∧ (∀ b, b1 (num / 2 ^ k % 2 == 1) = b → (pack bk).set (m / 8) (y + 2 ^ (m % 8) * b) = pack (bk ++ [num / 2 ^ k % 2 == 1])) ∧ y < 2 ^ (m % 8) :=
          ⟨_, rfl, fun b hb => by rw [hq3, hb], hy0⟩
        obtain ⟨cap, rfl, hc1, hc2, RR⟩ := hby.parts (by intro e; rw [e] at hlp; simp at hlp)
        have hrlt := RR.lt
        clear RR
        rw [hlp] at hblk c0 hby hc1
        have e6 : Int.tmod (m : Int) 8 = ((m % 8 : Nat) : Int) := tmod_nat m 8
        have e8' : (Int.tmod (m : Int) 8 == 0) = false := by rw [e6]; simp; omega
        have H8 := Lib.hid h8
        have HLQ := Lib.hid hlp
        have HS := Lib.hid hsn
        have H0 := Lib.hid h0
        clear hlp hsn h0 hq1 hq2 hq3 h8 hy0
        go_wp2_with fail
        have BW := hblk
        have YW := hby
        have M2 := M.trans (mv_of hr0 (Kp.refl [g, r0] wr) (.inl rfl) hrlt)
        have hrg2 := hrg
        clear hby hblk e8' c0 c1 fr hrg M hr0
        generalize pack bk = L at *
        obtain ⟨r2, hr2⟩ : ∃ r2, r2 = r0 := ⟨_, rfl⟩
        obtain ⟨W, hW⟩ : ∃ W, W = wr := ⟨_, rfl⟩
        subst hr2
        subst hW
      all_goals
        have hne : L ≠ [] := by intro e; have := HLQ.out; rw [e] at this; simp at this
        have RW : Row W r2 5 (u8s L) := by obtain ⟨_, _, _, _, h⟩ := YW.parts hne; exact h
        have k0 : W.cell? ⟨g, 0, none⟩ = some (.slice (some ⟨r2, 0, none⟩) (m / 8 + 1) cap) := (BW.cell 0).trans rfl
        have k1 : W.cell? ⟨g, 1, none⟩ = some (.int .i64 m) := (BW.cell 1).trans rfl
        have k2 : W.cell? ⟨r2, m / 8, none⟩ = some (.int .u8 (y : Int)) := by
          rw [← H0.out]; exact RW.cell (u8s_get (by have := HLQ.out; omega))
        have e3 : IntKind.i64.wrap ((m : Int) / 8) = ((m / 8 : Nat) : Int) := by rw [IntKind.wrap_i64]; omega
        have e4 : (m / 8 : Nat) ≤ 100000000 := by omega
        have e5 : (m % 8 : Nat) < 8 := by omega
        have f0 := bit_and num k hnum
        have f1 : num / 2 ^ k % 2 < 2 := Nat.mod_lt _ (by omega)
        have HF := Lib.hid (HS.out _ (b1_mod (num / 2 ^ k)))
        obtain ⟨f5, f7, f8⟩ := or_bit (p := m % 8) f1 (by omega) hy
        have f3 : IntKind.i64.wrap (((num / 2 ^ k % 2 : Nat) : Int) * 2 ^ (m % 8)) = ((2 ^ (m % 8) * (num / 2 ^ k % 2) : Nat) : Int) := by
          rw [show ((num / 2 ^ k % 2 : Nat) : Int) * 2 ^ (m % 8) = ((2 ^ (m % 8) * (num / 2 ^ k % 2) : Nat) : Int) from by rw [Int.natCast_mul, Int.mul_comm]; simp]
          rw [IntKind.wrap_i64]; omega
        have f4 : IntKind.u8.wrap ((2 ^ (m % 8) * (num / 2 ^ k % 2) : Nat) : Int) = ((2 ^ (m % 8) * (num / 2 ^ k % 2) : Nat) : Int) := wr_u8 _ (by omega) (by omega)
        have f9 : ((m % 8 : Nat) : Int) < 64 := by omega
        have f10 : (0 : Int) ≤ ((m % 8 : Nat) : Int) := by omega
        clear HS
        generalize y + 2 ^ (m % 8) * (num / 2 ^ k % 2) = z at *
        generalize 2 ^ (m % 8) * (num / 2 ^ k % 2) = x at *
        generalize num / 2 ^ k % 2 = b at *
        generalize m % 8 = p at *
        generalize m / 8 = q at *
        have e7 : (q : Int) < (q : Int) + 1 := by omega
        go_still_tail 24, (by kernel_rfl)
        change wpList _ _ _ _ _ W.drew
        have BD := BW.drew
        have YD := YW.kp ((Kp.refl [] W).drew) (by simp)
        have MD := M2.trans (mv_kp (Kp.refl _ W).drew)
        generalize W.drew = W3 at *
        have k3 : W3.cell? ⟨g, 1, none⟩ = some (.int .i64 m) := (BD.cell 1).trans rfl
        have fr3 : ∀ i, W3.frozen? ⟨g, i, none⟩ = false := BD.frozen
        have RD : Row W3 r2 5 (u8s L) := by obtain ⟨_, _, _, _, h⟩ := YD.parts hne; exact h
        have k4 : W3.cell? ⟨r2, q, none⟩ = some (.int .u8 (y : Int)) := by
          rw [← H0.out]; exact RD.cell (u8s_get (by have := HLQ.out; omega))
        have fr4 : W3.frozen? ⟨r2, q, none⟩ = false := RD.frozen _
        clear k0 k1 k2
        go_wp2_with fail
        go_roundw
        case rel =>
          refine ⟨k + 1, r2, by go_num, by omega, ?_, ?_⟩
          · rw [HSN.out]
            exact iw_close BD YD hne hrg2 (by rw [List.length_append, HM.out]; rfl) HF.out
          · refine MD.trans (mv_kp (((Kp.refl _ _).set (.inl (by simp)) _).set (.inl (by simp)) _))
        case measure => simp [intOf]; omega
    · obtain rfl : k = n := by omega
      go_wp2_with fail
      go_end0
      exact ⟨r', rfl, hw', M⟩
set_option maxRecDepth 100000 in
theorem even_calls (g r : Nat) (bs : List Bool) (w : World) (hw : IW w g r bs) (hb : bs.length ≤ 100000000) :
    Calls Tryd.prog 49 #[.pointer (some ⟨g, 0, none⟩)] w fun e w' => e = .returned (.tuple #[]) ∧ IW w' g r (pad bs) ∧ Mv g r w r w' := by
  obtain ⟨v, hblk, hby, hor⟩ := hw.out
  have c1 : w.cell? ⟨g, 1, none⟩ = some (.int .i64 bs.length) := (hblk.cell 1).trans rfl
  have fr : ∀ i, w.frozen? ⟨g, i, none⟩ = false := hblk.frozen
  have hl : (pack bs).length ≤ 100000000 := by rw [pack_length]; omega
  have hp : (pad bs).length = 8 * (pack bs).length := by rw [pad_length, pack_length]
  have HP := Lib.hid hp
  have fin : IW (w.setCell ⟨g, 1, none⟩ (.int .i64 (8 * ((pack bs).length : Int)))) g r (pad bs) := by
    refine ⟨v, ?_, ?_, hor⟩
    · rw [HP.out]
      exact hblk.set 1 _
    · rw [pack_pad]
      refine ⟨((Kp.refl [g] w).set (p := ⟨g, 1, none⟩) (.inl (by simp)) _).owns hby.own (fun k hk => ?_), hby.at_⟩
      rcases hor with h | h
      · rw [hby.at_ k hk]; simpa using h
      · rw [h] at hk; simp [Value.ownBlock] at hk
  have mv : Mv g r w r (w.setCell ⟨g, 1, none⟩ (.int .i64 (8 * ((pack bs).length : Int)))) := mv_kp ((Kp.refl _ _).set (.inl (by simp)) _)
  have FIN := Lib.hid fin
  have hs := hby.slice
  clear hp fin
  rcases hs with ⟨rfl, h0⟩ | ⟨cap, rfl, hc1, hc2⟩
  · have c0 : w.cell? ⟨g, 0, none⟩ = some (.slice none 0 0) := (hblk.cell 0).trans rfl
    rw [h0] at FIN mv
    clear hblk hby h0 hl
    go_enter Tryd.func49, Tryd.ntmps49
    go_wp2_with fail
    go_end0
    exact ⟨rfl, FIN.out, mv⟩
  · have c0 : w.cell? ⟨g, 0, none⟩ = some (.slice (some ⟨r, 0, none⟩) (pack bs).length cap) := (hblk.cell 0).trans rfl
    clear hblk hby
    generalize (pack bs).length = n at *
    go_enter Tryd.func49, Tryd.ntmps49
    go_wp2_with fail
    go_end0
    exact ⟨rfl, FIN.out, mv⟩
end Go.Proofs.YtncidljdfipigaaDoor.Wi

/- What the program's LensOk answers: whether lengths make a code. Conditions: lengths and how many, not too great. -/
namespace Go.Proofs.YtncidljdfipigaaDoor.Wi
open Go.RowKit Go.Proofs.YtncidljdfipigaaDoor.Mem Go.Proofs.YtncidljdfipigaaDoor.Bt Go.Proofs.YtncidljdfipigaaDoor.Cd
set_option linter.unusedVariables false
set_option linter.unusedSimpArgs false
theorem kraft_snoc (l : List Nat) (x : Nat) : kraft (l ++ [x]) = kraft l + if x = 0 then 0 else 2 ^ (15 - x) := by unfold kraft; simp
theorem used_snoc (l : List Nat) (x : Nat) : used (l ++ [x]) = used l + if 0 < x then 1 else 0 := by
  unfold used; rw [List.filter_append]; by_cases h : 0 < x <;> simp [h]
/-- What is known of lengths that have been gone through: a sum, how many, the last. -/
structure Sums (l : List Nat) (a b c : Nat) : Prop where mk ::
  sum : a = kraft l
  many : b = used l
  le : b = 0 → a = 0
  one : b = 1 → 1 ≤ c ∧ c ≤ 15 ∧ a = 2 ^ (15 - c)
theorem Sums.nil : Sums [] 0 0 0 := ⟨rfl, rfl, fun _ => rfl, fun h => by cases h⟩
theorem Sums.zero {l : List Nat} {a b c : Nat} (h : Sums l a b c) : Sums (l ++ [0]) a b c := ⟨by rw [kraft_snoc]; simpa using h.sum, by rw [used_snoc]; simpa using h.many, h.le, h.one⟩
theorem Sums.add {l : List Nat} {a b c x : Nat} (h : Sums l a b c) (h1 : 1 ≤ x) (h2 : x ≤ 15) : Sums (l ++ [x]) (a + 2 ^ (15 - x)) (b + 1) x :=
  ⟨by rw [kraft_snoc, if_neg (by omega), h.sum], by rw [used_snoc, if_pos (by omega), h.many], fun e => by omega, fun e => ⟨h1, h2, by rw [h.le (by omega), Nat.zero_add]⟩⟩
theorem Sums.ok {l : List Nat} {a b c : Nat} (h : Sums l a b c) (hl : l.length ≤ 300) (h15 : ∀ x ∈ l, x ≤ 15) : okLens l = (decide (a = 32768) || (decide (b = 1) && decide (c = 1))) := by
  unfold okLens
  rw [show decide (l.length ≤ 300) = true from by simpa using hl, show l.all (fun x => decide (x ≤ 15)) = true from by simpa using h15, ← h.sum, ← h.many]
  simp only [Bool.true_and]
  congr 1
  by_cases hb : b = 1
  · obtain ⟨o1, o2, o3⟩ := h.one hb
    congr 1
    rw [o3, Bool.eq_iff_iff]
    simp only [decide_eq_true_eq]
    constructor
    · intro e
      rcases Nat.lt_or_ge c 2 with h | h
      · omega
      · have : 2 ^ (15 - c) ≤ 2 ^ 13 := Nat.pow_le_pow_right (by omega) (by omega)
        omega
    · rintro rfl; rfl
  · simp [hb]
theorem ok_bad {l : List Nat} {x : Nat} (h : x ∈ l) (hx : 15 < x) : okLens l = false := by
  unfold okLens
  rw [show l.all (fun x => decide (x ≤ 15)) = false from by rw [List.all_eq_false]; exact ⟨x, h, by simp; omega⟩]
  simp
theorem ok_long {l : List Nat} (h : 300 < l.length) : okLens l = false := by
  unfold okLens
  rw [show decide (l.length ≤ 300) = false from by simp; omega]; simp
theorem kraft_take_le : ∀ (l : List Nat) (k : Nat), kraft (l.take k) ≤ 16384 * k
  | _, 0 => by simp [kraft]
  | [], k + 1 => by simp [kraft]
  | x :: l, k + 1 => by
    have := kraft_take_le l k
    have hp : 2 ^ (15 - x) ≤ 2 ^ 15 := Nat.pow_le_pow_right (by omega) (by omega)
    have hq : x ≠ 0 → 2 ^ (15 - x) ≤ 2 ^ 14 := fun _ => Nat.pow_le_pow_right (by omega) (by omega)
    unfold kraft at this ⊢
    simp only [List.take_succ_cons, List.map_cons, List.sum_cons]
    split
    · omega
    · rename_i h; have := hq h; omega
set_option maxRecDepth 100000 in
theorem lensok_calls (lens : List Nat) (g o n cap : Nat) (w : World) (hl : RowO w g o 3 (i64s lens)) (hn : lens.length = n) (hn2 : n ≤ 1000) (hnc : n ≤ cap) (hx : ∀ x ∈ lens, x ≤ 100000) :
    Calls Tryd.prog 86 #[.slice (some ⟨g, o, none⟩) n cap] w fun e w' => e = .returned (.bool (okLens lens)) ∧ On w w' := by
  have HN := Lib.hid hn
  clear hn
  by_cases h3 : 300 < n
  · have h3' : (300 : Int) < n := by omega
    go_enter Tryd.func86, Tryd.ntmps86
    go_wp2_with fail
    go_ret
    exact ⟨by rw [ok_long (by rw [HN.out]; exact h3)]; rfl, On.refl _⟩
  have h3' : ¬ (300 : Int) < n := by omega
  go_enter Tryd.func86, Tryd.ntmps86
  go_wp2_with fail
  go_loopw [3, 4, 5, 13] (fun a b c x wr => ∃ (k sa sb sc : Nat), x = .int .i64 (k : Int) ∧ k ≤ n ∧ a = .int .i64 (sa : Int) ∧ b = .int .i64 (sb : Int) ∧ c = .int .i64 (sc : Int) ∧ Sums (lens.take k) sa sb sc ∧ sb ≤ k ∧ (∀ y ∈ lens.take k, y ≤ 15) ∧ On w wr) (fun _ _ _ x _ => n - (intOf x).toNat)
  case atStart => exact ⟨0, 0, 0, 0, rfl, by omega, rfl, rfl, rfl, Sums.nil, Nat.le_refl _, by simp, On.refl _⟩
  case round =>
    obtain ⟨k, sa, sb, sc, rfl, hk, rfl, rfl, rfl, S, hb, h15, O⟩ := hrel
    by_cases hlt : k < n
    · have hkl : k < lens.length := by rw [HN.out]; exact hlt
      have c0 := (hl.on O).cell (i64s_get hkl)
      have hmem : lens.getD k 0 ∈ lens := by rw [List.getD_eq_getElem?_getD, List.getElem?_eq_getElem hkl]; exact List.getElem_mem _
      have hx1 := hx _ hmem
      have htk : lens.take (k + 1) = lens.take k ++ [lens.getD k 0] := by rw [List.take_succ_eq_append_getElem hkl, List.getD_eq_getElem?_getD, List.getElem?_eq_getElem hkl]; rfl
      have HTK := Lib.hid htk
      have hkr := kraft_take_le lens k
      rw [← S.sum] at hkr
      have HS := Lib.hid S
      have H15 := Lib.hid h15
      have HM := Lib.hid hmem
      clear htk S h15 hmem
      generalize lens.getD k 0 = x at *
      have hk2 : (k : Int) < n := by omega
      by_cases hx15 : x ≤ 15
      · by_cases h0 : x = 0
        · subst h0
          go_wp2_with fail
          refine (within_yes _ (by omega) (by omega)).mono ?_
          rintro e w2 ⟨rfl, hw⟩
          obtain rfl : wr = w2 := hw.symm
          go_wp2_with fail
          go_roundw
          case rel => exact ⟨k + 1, sa, sb, sc, by go_num, by omega, rfl, rfl, rfl, by rw [HTK.out]; exact HS.out.zero, by omega, by rw [HTK.out]; intro y hy; simp only [List.mem_append, List.mem_singleton] at hy; (rcases hy with hy | rfl; exact H15.out y hy; omega), O⟩
          case measure => simp [intOf]; omega
        · have h1 : 1 ≤ x := by omega
          have hp : 2 ^ (15 - x) ≤ 2 ^ 15 := Nat.pow_le_pow_right (by omega) (by omega)
          have e1 : IntKind.i64.wrap (15 - (x : Int)) = ((15 - x : Nat) : Int) := by rw [IntKind.wrap_i64]; omega
          have e2 : IntKind.i64.wrap ((1 : Int) * 2 ^ (15 - x)) = ((2 ^ (15 - x) : Nat) : Int) := by
            rw [Int.one_mul, show (2 : Int) ^ (15 - x) = ((2 ^ (15 - x) : Nat) : Int) from by simp]; exact wr_i64 _ (Int.natCast_nonneg _) (Int.lt_of_le_of_lt (Int.ofNat_le.2 hp) (by decide))
          have e3 : IntKind.i64.wrap ((2 : Int) ^ (15 - x)) = ((2 ^ (15 - x) : Nat) : Int) := by
            rw [show (2 : Int) ^ (15 - x) = ((2 ^ (15 - x) : Nat) : Int) from by simp]; exact wr_i64 _ (Int.natCast_nonneg _) (Int.lt_of_le_of_lt (Int.ofNat_le.2 hp) (by decide))
          have h63 : ((15 - x : Nat) : Int) < 64 := by omega
          have hx0 : (0 : Int) < (x : Int) := by omega
          have hadd := HS.out.add h1 hx15
          have HA := Lib.hid hadd
          clear hadd
          generalize 2 ^ (15 - x) = z at *
          generalize 15 - x = zz at *
          go_wp2_with fail
          refine (within_yes _ (by omega) (by omega)).mono ?_
          rintro e w2 ⟨rfl, hw⟩
          obtain rfl : wr = w2 := hw.symm
          go_wp2_with fail
          go_roundw
          case rel => exact ⟨k + 1, sa + z, sb + 1, x, by go_num, by omega, by go_num, by go_num, rfl, by rw [HTK.out]; exact HA.out, by omega, by rw [HTK.out]; intro y hy; simp only [List.mem_append, List.mem_singleton] at hy; (rcases hy with hy | rfl; exact H15.out y hy; omega), O⟩
          case measure => simp [intOf]; omega
      · go_wp2_with fail
        refine (within_no _ (by omega)).mono ?_
        rintro e w2 ⟨rfl, hw⟩
        obtain rfl : wr = w2 := hw.symm
        go_wp2_with fail
        go_ret
        exact ⟨by rw [ok_bad HM.out (by omega)]; rfl, O⟩
    · obtain rfl : k = n := by omega
      have htk : lens.take k = lens := List.take_of_length_le (by rw [HN.out]; exact Nat.le_refl _)
      rw [htk] at S h15
      have hok := S.ok (by rw [HN.out]; omega) h15
      have HO := Lib.hid hok
      clear hok htk S h15
      by_cases q1 : sa = 32768
      · have q1' : ((sa : Int) == 32768) = true := by simp; omega
        go_wp2_with fail
        go_ret
        refine ⟨?_, O⟩
        show Ending.returned (.bool _) = _
        rw [HO.out]
        rw [decide_eq_true q1]; rfl
      · have q1' : ((sa : Int) == 32768) = false := by simp; omega
        by_cases q2 : sb = 1
        · have q2' : ((sb : Int) == 1) = true := by simp; omega
          go_wp2_with fail
          go_ret
          refine ⟨?_, O⟩
          show Ending.returned (.bool _) = _
          rw [HO.out]
          rw [decide_eq_false q1, decide_eq_true q2, Bool.false_or, Bool.true_and]
          congr 2
          rw [Bool.eq_iff_iff]; simp; omega
        · have q2' : ((sb : Int) == 1) = false := by simp; omega
          go_wp2_with fail
          go_ret
          refine ⟨?_, O⟩
          show Ending.returned (.bool _) = _
          rw [HO.out]
          rw [decide_eq_false q1, decide_eq_false q2]; rfl
end Go.Proofs.YtncidljdfipigaaDoor.Wi

/- A map from pieces of bits to numbers: how it is filled and looked up. -/
namespace Go.Proofs.YtncidljdfipigaaDoor.Mem
open Go.RowKit Go.Maps
set_option linter.unusedVariables false
set_option linter.unusedSimpArgs false
theorem laid_out : laidOutB Tryd.prog = true := by kernel_rfl
theorem piece_wide : (match Tryd.prog.underlying 117 with | some (.array _ _) | some (.struct _) => true | _ => false) = true := by rw [Tryd.underlying117]
theorem piece_row : (117 : TypeId) < Tryd.prog.types.size := of_decide_eq_true (by kernel_rfl)
set_option maxRecDepth 100000 in
theorem piece_law : WideMaps.KeyLaw Tryd.prog 117 := deep_law_laid laid_out (m := 2) (by omega) piece_row (by kernel_rfl) piece_wide
theorem piece_keyed : Keyed Tryd.prog 117 := Keyed.of_law piece_law
def pc (c l : Nat) : Value := .agg #[.int .i64 (c : Int), .int .i64 (l : Int)]
theorem pc_inj {a b c d : Nat} (h : pc a b = pc c d) : a = c ∧ b = d := by
  unfold pc at h
  simp only [Value.agg.injEq, Array.mk.injEq, List.cons.injEq, Value.int.injEq, true_and, and_true] at h
  omega
theorem pc_key {c l : Nat} (hc : c < 100000) (hl : l < 100000) : ∃ kl, keyOf Tryd.prog 117 (pc c l) = some kl := by
  have w1 : (Lit.int .i64 (c : Int)).wf = true := by simp [Lit.wf, IntKind.min, IntKind.max, IntKind.signed, IntKind.bits]; omega
  have w2 : (Lit.int .i64 (l : Int)).wf = true := by simp [Lit.wf, IntKind.min, IntKind.max, IntKind.signed, IntKind.bits]; omega
  have hk : Tryd.prog.keyType 117 = true := by kernel_rfl
  have hcell : Tryd.prog.cellsOf 117 = 2 := by kernel_rfl
  have hci : Tryd.prog.cellsOf 3 = 1 := by kernel_rfl
  have hf : (pc c l).formed Tryd.prog 117 = true := by simp [pc, Value.formed, Tryd.underlying117, hcell]
  have hr := piece_row
  unfold keyOf
  rw [Tryd.underlying117]
  obtain ⟨m, hm⟩ : ∃ m, Tryd.prog.types.size = m + 1 := Nat.exists_eq_succ_of_ne_zero (Nat.ne_of_gt (Nat.zero_lt_of_lt hr))
  rw [hm]
  simp [hk, hf, Program.keyLits, Tryd.underlying117, Tryd.underlying3, hcell, hci, pc, Value.cells, w1, w2]
  exact hf
/-- The map at block m holds f: for pieces that f knows, their number. -/
structure Book (w : World) (m : Nat) (f : Nat → Nat → Option Nat) : Prop where mk :: (out : ∃ es clock, w.heap[m]? = some (.map es clock) ∧
  (∀ e ∈ es.toList, ∃ c l k : Nat, c < 100000 ∧ l < 100000 ∧ e.key = pc c l ∧ e.val = .int .i64 (k : Int) ∧ f c l = some k) ∧ ∀ c l k, f c l = some k → ∃ e ∈ es.toList, e.key = pc c l)
section
variable {w w' : World} {m : Nat} {f : Nat → Nat → Option Nat}
theorem Book.lt (h : Book w m f) : m < w.heap.size := by
  obtain ⟨es, clock, hb, _⟩ := h.out
  rcases Nat.lt_or_ge m w.heap.size with h | h
  · exact h
  · rw [Array.getElem?_eq_none h] at hb; cases hb
theorem Book.kp {S : List Nat} (h : Book w m f) (k : Kp S w w') (hm : m ∉ S) : Book w' m f := by
  obtain ⟨es, clock, hb, rest⟩ := h.out
  exact ⟨es, clock, (k.block m h.lt hm).trans hb, rest⟩
theorem Book.new (w : World) : Book (w.alloc (.map #[] 0)) w.heap.size (fun _ _ => none) :=
  ⟨#[], 0, Array.getElem?_push_size, fun e he => (by simp at he), fun c l k h => (by cases h)⟩
set_option maxRecDepth 100000 in
theorem Book.find (h : Book w m f) {c l : Nat} (hc : c < 100000) (hl : l < 100000) :
    (Instr.lookup 91 (.map (some m)) (pc c l) true).run Tryd.prog w = .ok (match f c l with | some k => .tuple #[.int .i64 (k : Int), .bool true] | none => .tuple #[.int .i64 0, .bool false]) w := by
  obtain ⟨es, clock, hb, h1, h2⟩ := h.out
  obtain ⟨kl, hk⟩ := pc_key hc hl
  have hz : (zeroValue 3).run Tryd.prog w = .ok (.int .i64 0) w := by kernel_rfl
  have hes : ∀ e ∈ es.toList, ∃ l, keyOf Tryd.prog 117 e.key = some l := fun e he => by
    obtain ⟨c', l', k', hc', hl', e1, _⟩ := h1 e he
    rw [e1]; exact pc_key hc' hl'
  rcases piece_keyed.find w hk es.toList hes with ⟨f1, f2⟩ | ⟨j, e0, f1, f2, f3⟩
  · cases hf : f c l with
    | some k => obtain ⟨e, he, hke⟩ := h2 c l k hf; exact absurd hke (f2 e he)
    | none =>
      generalize (zeroValue 3 : Sem Value) = zv at hz
      simp [Instr.lookup, run_underlying Tryd.underlying91, MapKept.run_getObj_map hb, piece_keyed.check w _ hk, f1, hz, Result.andThen]
  · have hm := List.mem_of_getElem? f2
    obtain ⟨c', l', k', hc', hl', e1, e2, e3⟩ := h1 e0 hm
    obtain ⟨rfl, rfl⟩ := pc_inj (e1.symm.trans f3)
    rw [e3]
    simp [Instr.lookup, run_underlying Tryd.underlying91, MapKept.run_getObj_map hb, piece_keyed.check w _ hk, f1, Result.andThen, e2]
set_option maxRecDepth 100000 in
theorem Book.add (h : Book w m f) {c l k : Nat} (hc : c < 100000) (hl : l < 100000) (hn : f c l = none) :
    ∃ w', (Instr.mapUpdate 91 (.map (some m)) (pc c l) (.int .i64 (k : Int))).run Tryd.prog w = .ok () w' ∧ Book w' m (fun a b => if a = c ∧ b = l then some k else f a b) ∧ Kp [m] w w' := by
  obtain ⟨es, clock, hb, h1, h2⟩ := h.out
  obtain ⟨kl, hk⟩ := pc_key hc hl
  have hes : ∀ e ∈ es.toList, ∃ l, keyOf Tryd.prog 117 e.key = some l := fun e he => by
    obtain ⟨c', l', k', hc', hl', e1, _⟩ := h1 e he
    rw [e1]; exact pc_key hc' hl'
  have hm0 := h.lt
  rcases piece_keyed.find w hk es.toList hes with ⟨f1, f2⟩ | ⟨j, e0, f1, f2, f3⟩
  · refine ⟨ChangeMaps.setBlock w m (.map (es.push ⟨pc c l, .int .i64 (k : Int), clock⟩) (clock + 1)), ?_, ?_, ?_⟩
    · simp [Instr.mapUpdate, run_underlying Tryd.underlying91, MapKept.run_getObj_map hb, piece_keyed.check w false hk, f1, MapKept.run_setObj_map _ hb, Result.andThen, ChangeMaps.setBlock]
    · refine ⟨es.push ⟨pc c l, .int .i64 (k : Int), clock⟩, clock + 1, by simp [ChangeMaps.setBlock, hm0], ?_, ?_⟩
      · intro e he
        simp only [Array.toList_push, List.mem_append, List.mem_singleton] at he
        rcases he with he | rfl
        · obtain ⟨c', l', k', hc', hl', e1, e2, e3⟩ := h1 e he
          refine ⟨c', l', k', hc', hl', e1, e2, ?_⟩
          rw [if_neg (fun hh => ?_)]
          · exact e3
          · rw [hh.1, hh.2, hn] at e3; cases e3
        · exact ⟨c, l, k, hc, hl, rfl, rfl, by rw [if_pos ⟨rfl, rfl⟩]⟩
      · intro a b k' hk'
        by_cases hab : a = c ∧ b = l
        · obtain ⟨rfl, rfl⟩ := hab
          exact ⟨_, by simp only [Array.toList_push, List.mem_append, List.mem_singleton]; exact .inr rfl, rfl⟩
        · rw [if_neg hab] at hk'
          obtain ⟨e, he, h3⟩ := h2 a b k' hk'
          exact ⟨e, by simp only [Array.toList_push, List.mem_append]; exact .inl he, h3⟩
    · refine ⟨rfl, rfl, rfl, by simp [ChangeMaps.setBlock], fun j hj hs => ?_⟩
      simp only [List.mem_singleton] at hs
      simp [ChangeMaps.setBlock, Array.getElem?_setIfInBounds, Ne.symm hs]
  · have hm := List.mem_of_getElem? f2
    obtain ⟨c', l', k', hc', hl', e1, e2, e3⟩ := h1 e0 hm
    obtain ⟨rfl, rfl⟩ := pc_inj (e1.symm.trans f3)
    rw [e3] at hn; cases hn
end
end Go.Proofs.YtncidljdfipigaaDoor.Mem

/- The program's book: symbols by their codes. Conditions: lengths that fit. -/
namespace Go.Proofs.YtncidljdfipigaaDoor.Wi
open Go.RowKit Go.Proofs.YtncidljdfipigaaDoor.Mem Go.Proofs.YtncidljdfipigaaDoor.Bt Go.Proofs.YtncidljdfipigaaDoor.Cd
set_option linter.unusedVariables false
set_option linter.unusedSimpArgs false
/-- What the first n symbols' codes tell. -/
def upto (lens : List Nat) (n : Nat) (c l : Nat) : Option Nat := if 1 ≤ l then (List.range n).find? (fun i => decide (lens.getD i 0 = l ∧ code lens i = c)) else none
theorem upto_zero (lens : List Nat) : upto lens 0 = fun _ _ => none := by
  funext c l; unfold upto; split <;> rfl
theorem upto_skip {lens : List Nat} {n : Nat} (h : lens.getD n 0 = 0) : upto lens (n + 1) = upto lens n := by
  funext c l
  unfold upto
  by_cases hl : 1 ≤ l
  · rw [if_pos hl, if_pos hl, List.range_succ, List.find?_append]
    have : [n].find? (fun i => decide (lens.getD i 0 = l ∧ code lens i = c)) = none := by
      rw [List.find?_eq_none]; intro x hx; simp only [List.mem_singleton] at hx; subst hx; simp only [decide_eq_true_eq, not_and]; omega
    rw [this]; simp
  · rw [if_neg hl, if_neg hl]
theorem upto_none {lens : List Nat} {n : Nat} (hn : n < lens.length) (h1 : 1 ≤ lens.getD n 0) (h2 : lens.getD n 0 ≤ 15) : upto lens n (code lens n) (lens.getD n 0) = none := by
  unfold upto
  rw [if_pos h1, List.find?_eq_none]
  intro i hi
  simp only [List.mem_range] at hi
  simp only [decide_eq_true_eq]
  rintro ⟨e1, e2⟩
  have := code_inj (by omega) hn e1 rfl h1 h2 e2
  omega
theorem upto_step {lens : List Nat} {n : Nat} (hn : n < lens.length) (h1 : 1 ≤ lens.getD n 0) (h2 : lens.getD n 0 ≤ 15) : upto lens (n + 1) = fun a b => if a = code lens n ∧ b = lens.getD n 0 then some n else upto lens n a b := by
  funext a b
  by_cases hab : a = code lens n ∧ b = lens.getD n 0
  · obtain ⟨rfl, rfl⟩ := hab
    rw [if_pos ⟨rfl, rfl⟩]
    have h0 := upto_none hn h1 h2
    unfold upto at h0 ⊢
    rw [if_pos h1] at h0 ⊢
    rw [List.range_succ, List.find?_append, h0]
    simp
  · rw [if_neg hab]
    unfold upto
    by_cases hl : 1 ≤ b
    · rw [if_pos hl, if_pos hl, List.range_succ, List.find?_append]
      have : [n].find? (fun i => decide (lens.getD i 0 = b ∧ code lens i = a)) = none := by
        rw [List.find?_eq_none]; intro x hx; simp only [List.mem_singleton] at hx; subst hx; simp only [decide_eq_true_eq]; rintro ⟨e1, e2⟩; exact hab ⟨e2.symm, e1.symm⟩
      rw [this]; simp
    · rw [if_neg hl, if_neg hl]
theorem upto_all (lens : List Nat) {c l : Nat} (hl : 1 ≤ l) : upto lens lens.length c l = find lens l c := by unfold upto find; rw [if_pos hl]
set_option maxRecDepth 100000 in
theorem book_calls (lens : List Nat) (g o n cap : Nat) (w : World) (hl : RowO w g o 3 (i64s lens)) (hn : lens.length = n) (hn2 : n ≤ 1000) (hnc : n ≤ cap) (h15 : ∀ x ∈ lens, x ≤ 15) (hf : Fits lens) :
    Calls Tryd.prog 87 #[.slice (some ⟨g, o, none⟩) n cap] w fun e w' => ∃ m, e = .returned (.map (some m)) ∧ Book w' m (upto lens n) ∧ w.heap.size ≤ m ∧ On w w' := by
  have HN := Lib.hid hn
  have HF := Lib.hid hf
  have H15 := Lib.hid h15
  clear hn hf h15
  have hmm := @run_makeMap Tryd.prog
  go_enter Tryd.func87, Tryd.ntmps87
  go_wp2_with fail
  have O0 := (On.refl w).alloc (.map #[] 0)
  have B0 := Book.new w
  generalize hm : w.heap.size = m at *
  have HM := Lib.hid hm
  have hmg : m ≠ g := by have := hl.lt; omega
  have HMG := Lib.hid hmg
  clear hm hmm hmg
  generalize w.alloc (.map #[] 0) = w0 at *
  refine (icodes_calls lens g o n cap w0 (hl.on O0) HN.out hn2 hnc).mono ?_
  rintro e w1 ⟨ra, ca, rfl, Na, ha1, ha2, O1⟩
  rw [codes_length, HN.out] at Na ⊢
  have Ra := Na.row.1.toO
  have hnca : n ≤ ca := Na.row.2.2.1
  have hlt := B0.lt
  have hma : RowKit.Hid (m ≠ ra) := Lib.hid (by omega)
  have B1 : RowKit.Hid (Book w1 m (upto lens 0)) := Lib.hid (by rw [upto_zero]; exact B0.kp (Kp.of [] O1) (by simp))
  have hl1 := hl.on (O0.call O1)
  clear Na
  go_wp2_with fail
  go_loopw [10] (fun x wr => ∃ (k : Nat), x = .int .i64 (k : Int) ∧ k ≤ n ∧ Book wr m (upto lens k) ∧ Kp [m] w1 wr) (fun x _ => n - (intOf x).toNat)
  case atStart => exact ⟨0, rfl, by omega, B1.out, Kp.refl _ _⟩
  case round =>
    obtain ⟨k, rfl, hk, B, K⟩ := hrel
    by_cases hlt : k < n
    · have hkl : k < lens.length := by rw [HN.out]; exact hlt
      have Rl := hl1.kp K (by simp; have := HMG.out; omega)
      have Rc := Ra.kp K (by simp; have := hma.out; omega)
      have c0 := Rl.cell (i64s_get hkl)
      have c1 := Rc.cell (i64s_get (l := codes lens) (i := k) (by rw [codes_length]; exact hkl))
      rw [codes_getD lens hkl, Nat.zero_add] at c1
      have h15 := getD_le H15.out k
      have hk2 : (k : Int) < n := by omega
      by_cases h0 : lens.getD k 0 = 0
      · have hs := upto_skip h0
        rw [h0] at c0
        have HS := Lib.hid hs
        clear hs h0 h15
        go_wp2_with fail
        go_roundw
        case rel => exact ⟨k + 1, by go_num, by omega, by rw [HS.out]; exact B, K⟩
        case measure => simp [intOf]; omega
      · have h1 : 1 ≤ lens.getD k 0 := by omega
        have hs := upto_step hkl h1 h15
        have hno := upto_none hkl h1 h15
        have hcl := code_lt HF.out hkl h1 h15
        have hp : 2 ^ lens.getD k 0 ≤ 2 ^ 15 := Nat.pow_le_pow_right (by omega) h15
        obtain ⟨w2, hrun, B2, K2⟩ := B.add (k := k) (show code lens k < 100000 by omega) (show lens.getD k 0 < 100000 by omega) hno
        rw [← hs] at B2
        unfold pc at hrun
        have HB2 := Lib.hid B2
        have h1' : (0 : Int) < (lens.getD k 0 : Nat) := by omega
        clear hs hno hcl hp h0 B B2
        generalize lens.getD k 0 = l at *
        generalize code lens k = c at *
        go_wp2_with fail
        go_roundw
        case rel => exact ⟨k + 1, by go_num, by omega, HB2.out, K.then K2⟩
        case measure => simp [intOf]; omega
    · obtain rfl : k = n := by omega
      go_wp2_with fail
      go_ret
      refine ⟨m, rfl, B, Nat.le_of_eq HM.out, ?_⟩
      exact K.on (O0.call O1) (by simp; exact Nat.le_of_eq HM.out)
end Go.Proofs.YtncidljdfipigaaDoor.Wi

/- Texts as lists of numbers, and how they lie in memory as strings. -/
namespace Go.Proofs.YtncidljdfipigaaDoor.Mem
open Go.RowKit
set_option linter.unusedVariables false
/-- The bytes of a text as numbers; a text of numbers. -/
def chars (s : ByteArray) : List Nat := s.data.toList.map fun b => b.toNat
def strB (l : List Nat) : ByteArray := ⟨(l.map fun n => UInt8.ofNat n).toArray⟩
theorem chars_length (s : ByteArray) : (chars s).length = s.size := by unfold chars; rw [List.length_map, Array.length_toList]; rfl
theorem chars_lt (s : ByteArray) : ∀ x ∈ chars s, x < 256 := by
  intro x hx
  obtain ⟨b, _, rfl⟩ := List.mem_map.1 hx
  exact b.toNat_lt
theorem strB_size (l : List Nat) : (strB l).size = l.length := by simp [strB, ByteArray.size]
theorem strB_chars (s : ByteArray) : strB (chars s) = s := by
  unfold strB chars
  rw [List.map_map]
  have : s.data.toList.map ((fun n : Nat => UInt8.ofNat n) ∘ fun b : UInt8 => b.toNat) = s.data.toList := by
    conv => rhs; rw [← List.map_id s.data.toList]
    exact List.map_congr_left fun b _ => by simp
  rw [this]
theorem chars_strB {l : List Nat} (h : ∀ x ∈ l, x < 256) : chars (strB l) = l := by
  unfold strB chars
  simp only [List.map_map]
  conv => rhs; rw [← List.map_id l]
  refine List.map_congr_left fun b hb => ?_
  have := h b hb
  simp; omega
theorem chars_ext {s t : ByteArray} (h : chars s = chars t) : s = t := by rw [← strB_chars s, ← strB_chars t, h]
theorem strB_inj {a b : List Nat} (ha : ∀ x ∈ a, x < 256) (hb : ∀ x ∈ b, x < 256) (h : strB a = strB b) : a = b := by rw [← chars_strB ha, ← chars_strB hb, h]
theorem strB_append (a b : List Nat) : strB a ++ strB b = strB (a ++ b) := by
  unfold strB
  simp [ByteArray.ext_iff, ByteArray.data_append]
theorem strB_app (a : List Nat) (s : ByteArray) : strB a ++ s = strB (a ++ chars s) := by rw [← strB_append, strB_chars]
theorem strB_nil : strB [] = ⟨#[]⟩ := rfl
theorem chars_at (s : ByteArray) {i : Nat} (h : i < s.size) : (chars s).getD i 0 = s[i].toNat := by
  unfold chars
  rw [List.getD_eq_getElem?_getD, List.getElem?_map, List.getElem?_eq_getElem (by rw [Array.length_toList]; exact h)]; rfl
theorem bytes_conv {w : World} {r : Nat} {v : Value} {l : List Nat} (h : Bytes w r v l) : (convert 22 9 v).run Tryd.prog w = .ok (.string (strB l)) w := by
  have e : (⟨((l.map fun n : Nat => (n : Int)).map fun n : Int => UInt8.ofNat n.toNat).toArray⟩ : ByteArray) = strB l := by
    unfold strB; rw [List.map_map]; rfl
  rcases h.slice with ⟨rfl, rfl⟩ | ⟨cap, rfl, h1, h2⟩
  · exact run_convert_bytes_nil w 22 5 Tryd.underlying22 Tryd.underlying5 0 0 9 Tryd.underlying9
  · rw [← e]
    refine run_convert_bytes_arg w 22 5 Tryd.underlying22 Tryd.underlying5 r 0 l.length cap (l.map fun n : Nat => (n : Int)) (by simp) (fun i hi => ?_) 9 Tryd.underlying9
    have hi' : i < l.length := by simpa using hi
    have hc := h.own.cells (g := r) rfl i (.int .u8 (l.getD i 0 : Nat)) (u8s_get hi')
    have ha : (⟨r, 0, none⟩ : Addr).add i = ⟨r, 0 + i, none⟩ := by unfold Addr.add; split <;> simp_all
    rw [ha] at hc
    rw [hc, List.getD_eq_getElem?_getD, List.getD_eq_getElem?_getD, List.getElem?_map]
    rw [List.getElem?_eq_getElem hi']; rfl
end Go.Proofs.YtncidljdfipigaaDoor.Mem

