/- Own texts joined: Mem, Row, Wr, Or, LaidO, Nm, Shelf, Nm2, NmF, LaidP, OpE. -/
import Derived.Below
import Derived.Deep.Draws
import Derived.Laws.Rows
import Derived.Laws.OwnMore
import Derived.Deep.AppendLies
import Derived.WalkKit
import Derived.Test.YtncidljdfipigaaDoorChecked
import Derived.Lib.Hide
import Derived.Test.YtncidljdfipigaaDoorRows
import Derived.Lay
import Derived.ChangeSlices
import Derived.ProofKit
import Derived.Deep.DeepHandedRow
import Derived.WalkSpells
import Derived.Shelf.Utf8.RuneCount
import Derived.Shelf.Strings.Search1
import Derived.Shelf.Strings.Search2
import Derived.Shelf.Strings.Search3
import Derived.Shelf.Strings.Count
import Derived.Shelf.LaysM
import Derived.Shelf.Strings.Shaped
import Derived.Shelf.Strings.Split
import Derived.Shelf.Strings.SplitShaped
import Derived.Shelf.Unicode.Decode
import Derived.Shelf.Strings.RuneCount
import Derived.Shelf.Strings.Explode
import Derived.Shelf.Unicode.DecodeSlow
import Derived.Shelf.Unicode.DecodeAny
import Derived.Test.YtncidljdfipigaaDoorProg
import Derived.OpenShut
import Derived.ShutString
import Derived.ChangeOld
import Derived.Lib.SmallJoins
import Derived.Deep.Slices
import Derived.Deep.Fields
import Derived.ChangeSame
import Derived.Test.YtncidljdfipigaaDoorZ0
/- Small words on memory for hand-walked contracts: a block that is known whole, what lies below a bound is kept, draws. -/
namespace Go.Proofs.YtncidljdfipigaaDoor.Mem
open Go.RowKit
/-- Block g is just the cells cs of element type t, none frozen. -/
structure Blk (w : World) (g t : Nat) (cs : Array Value) : Prop where mk :: (out : w.heap[g]? = some (.cells cs t (0, 0)))
section
variable {w w' : World} {g t : Nat} {cs : Array Value}
theorem Blk.lt (h : Blk w g t cs) : g < w.heap.size := by
  rcases Nat.lt_or_ge g w.heap.size with hlt | hge
  · exact hlt
  · have := h.out
    rw [Array.getElem?_eq_none hge] at this
    cases this
theorem Blk.cell (h : Blk w g t cs) (i : Nat) : w.cell? ⟨g, i, none⟩ = cs[i]? := cell_of_row w g i cs t (0, 0) h.out
theorem Blk.frozen (h : Blk w g t cs) (i : Nat) : w.frozen? ⟨g, i, none⟩ = false := by simp [World.frozen?, h.out]
theorem Blk.new (w : World) (t : Nat) (cs : Array Value) : Blk (w.alloc (.cells cs t)) w.heap.size t cs := ⟨heap_alloc_new w _⟩
theorem Blk.drew (h : Blk w g t cs) : Blk w.drew g t cs := ⟨h.out⟩
theorem Blk.drewN (h : Blk w g t cs) (n : Nat) : Blk (w.drewN n) g t cs := ⟨h.out⟩
theorem Blk.alloc (h : Blk w g t cs) (o : Obj) : Blk (w.alloc o) g t cs := ⟨(Below.heap_alloc w o g h.lt).trans h.out⟩
theorem Blk.set (h : Blk w g t cs) (i : Nat) (u : Value) : Blk (w.setCell ⟨g, i, none⟩ u) g t (cs.setIfInBounds i u) := by
  refine ⟨?_⟩
  have := h.out
  simp [World.setCell, Array.getElem?_modify, this]
theorem Blk.far (h : Blk w g t cs) {p : Addr} (hp : g ≠ p.block) (u : Value) : Blk (w.setCell p u) g t cs := ⟨(Below.heap_setCell w p u g hp).trans h.out⟩
theorem Blk.below {B : Nat} (h : Blk w g t cs) (hb : Below B w w') (hg : g < B) : Blk w' g t cs := ⟨(hb.block g hg).trans h.out⟩
theorem Blk.call (h : Blk w g t cs) (hb : Below w.heap.size w w') : Blk w' g t cs := h.below hb h.lt
theorem Blk.grown {row : Option Nat} (h : Blk w g t cs) (hb : w.grownBy w' row) (hg : some g ≠ row) : Blk w' g t cs := ⟨(hb.block g h.lt hg).trans h.out⟩
end
theorem Below.drewN {B : Nat} {a w : World} (h : Below B a w) (n : Nat) : Below B a (w.drewN n) := ⟨h.os, h.tape, h.output, h.size, h.block⟩
theorem Below.call {B : Nat} {a w w' : World} (h : Below B a w) (hB : B ≤ w.heap.size) (k : Below w.heap.size w w') : Below B a w' := Below.trans h (Below.mono k hB)
/-- What the call began with stays; the heap has not shrunk. Kept as one thing. -/
structure On (a w : World) : Prop where mk :: (out : Below a.heap.size a w)
theorem On.refl (a : World) : On a a := ⟨Below.refl _ _⟩
theorem On.size {a w : World} (h : On a w) : a.heap.size ≤ w.heap.size := h.out.size
theorem On.drew {a w : World} (h : On a w) : On a w.drew := ⟨h.out.drew⟩
theorem On.drewN {a w : World} (h : On a w) (n : Nat) : On a (w.drewN n) := ⟨Below.drewN h.out n⟩
theorem On.alloc {a w : World} (h : On a w) (o : Obj) : On a (w.alloc o) := ⟨h.out.alloc h.size o⟩
theorem On.call {a w w' : World} (h : On a w) (k : On w w') : On a w' := ⟨Below.call h.out h.size k.out⟩
theorem On.set {a w : World} (h : On a w) {p : Addr} (hp : a.heap.size ≤ p.block) (u : Value) : On a (w.setCell p u) := ⟨h.out.setCell hp u⟩
theorem On.blk {a w : World} {g t : Nat} {cs : Array Value} (h : On a w) (b : Blk a g t cs) : Blk w g t cs := b.call h.out
theorem On.cell {a w : World} (h : On a w) {p : Addr} (hp : p.block < a.heap.size) : w.cell? p = a.cell? p := h.out.cell hp
theorem On.frozen {a w : World} (h : On a w) {p : Addr} (hp : p.block < a.heap.size) : w.frozen? p = a.frozen? p := h.out.frozen hp
theorem Below.on {a w : World} (h : Below a.heap.size a w) : On a w := ⟨h⟩
section
variable {P : Program} {fn : Func} {tmps : Array Value} {w : World} {g t : Nat} {cs : Array Value} {d : TypeDesc}
/-- A result that lies in a block that is known whole. -/
theorem res_c {p : Tmp} {ty : TypeId} (h : fn.results = #[.cell p ty]) (b : Blk w g t cs) (hp : tmps.getD p undef = .pointer (some ⟨g, 0, none⟩))
    (hu : P.underlying ty = some d) (hd : (match d with | .struct _ | .array _ _ => true | _ => false) = true) (hi : (P.info? ty).map (·.size) = some cs.size) :
    (results fn tmps).run P w = .ok (.agg cs) w := by
  have e : tmps[p]?.getD undef = .pointer (some ⟨g, 0, none⟩) := by simpa using hp
  simp [results, h, e, asAddr, run_loadVar_row w g t ty cs (0, 0) d b.out hu hd hi]
theorem res_ct {p u : Tmp} {ty : TypeId} (h : fn.results = #[.cell p ty, .tmp u]) (b : Blk w g t cs) (hp : tmps.getD p undef = .pointer (some ⟨g, 0, none⟩))
    (hu : P.underlying ty = some d) (hd : (match d with | .struct _ | .array _ _ => true | _ => false) = true) (hi : (P.info? ty).map (·.size) = some cs.size) :
    (results fn tmps).run P w = .ok (.tuple #[.agg cs, tmps.getD u undef]) w := by
  have e : tmps[p]?.getD undef = .pointer (some ⟨g, 0, none⟩) := by simpa using hp
  simp [results, h, e, asAddr, run_loadVar_row w g t ty cs (0, 0) d b.out hu hd hi]
end
theorem own_on {w w' : World} {base : Nat} {e : TypeId} {size n : Nat} {v : Value} {xs : List Value} (h : w.ownsRow base e size v n xs) (O : On w w') : w'.ownsRow base e size v n xs := by
  refine ⟨h.1, ?_⟩
  rcases h.2 with h0 | ⟨g, cap, cur, hv, hb, hh, rest⟩
  · exact .inl h0
  · have hlt : g < w.heap.size := by
      rcases Nat.lt_or_ge g w.heap.size with hlt | hge
      · exact hlt
      · rw [Array.getElem?_eq_none hge] at hh; cases hh
    exact .inr ⟨g, cap, cur, hv, hb, (O.out.block g hlt).trans hh, rest⟩
section
variable {P : Program}
theorem On.grown {a w w' : World} {row : Option Nat} (h : On a w) (hg : w.grownBy w' row) (hr : ∀ g, row = some g → a.heap.size ≤ g) : On a w' := ⟨h.out.grown hg h.size hr⟩
theorem own_base {w : World} {base : Nat} {e : TypeId} {size n : Nat} {v : Value} {xs : List Value} (h : w.ownsRow base e size v n xs) : ∀ g, v.ownBlock = some g → base ≤ g := by
  intro g hg
  rcases h.2 with ⟨rfl, _⟩ | ⟨g', cap, cur, rfl, hb, _⟩
  · simp [Value.ownBlock] at hg
  · have : g' = g := by simpa [Value.ownBlock] using hg
    omega
/-- s = append(s, u) onto a row of one-cell elements that the call itself made (or nil). -/
theorem wpList_app1 {ops : Array Oper} {rest : List Oper} {o : Oper} {act : Act} {Q : Exit → Act → World → Prop} {wr : World} {e : TypeId} {u : Value} (hgd : o.guard = none) (s x : Operand) (t : TypeId)
    (ho : o.op = .call { callee := .builtin .append, args := #[s, x], argTypes := #[t, t] })
    (a : World) (i : TypeInfo) (z : Value) (bytes : Nat) (ht : P.underlying t = some (.slice e)) (hi : P.info? e = some i) (hz : i.zero = some z)
    (hsize : i.size = 1) (hby : i.bytes = bytes) (hzs : z.cells.size = 1)
    (v : Value) (n : Nat) (xs : List Value) (hs : act.eval s = v) (hown : wr.ownsRow a.heap.size e 1 v n xs) (O : On a wr)
    (hx : act.eval x = .slice (some ⟨wr.heap.size, 0, none⟩) 1 1) (h1 : u.oneCell' = true) (h63 : n + 1 ≤ maxLen) (hbytes : (n + 1) * bytes ≤ 140737488355328)
    (h : ∀ v' w', w'.ownsRow a.heap.size e 1 v' (n + 1) (xs ++ [u]) → On a w' → (∀ g t' cs, Blk wr g t' cs → v.ownBlock ≠ some g → Blk w' g t' cs) → wpList P ops Q rest (act.put o.dst v') w') :
    wpList P ops Q (o :: rest) act (wr.alloc (.cells #[u] e)) := by
  refine wpList_append_own _ hgd s x t ho a.heap.size e i z 1 bytes ht hi hz hsize hby hzs (by decide) v n xs hs (hown.alloc _) ⟨wr.heap.size, 0, none⟩ 1 1 [u] hx rfl ?_ (fun u' hu => by simp at hu; subst hu; exact h1) h63 hbytes (by have := O.size; simp; omega) ?_
  · intro j u' hu
    match j with
    | 0 =>
      have e0 : (⟨wr.heap.size, 0, none⟩ : Addr).add 0 = ⟨wr.heap.size, 0, none⟩ := by unfold Addr.add; simp
      rw [e0, (Blk.new wr e #[u]).cell 0]
      simpa using hu
    | j + 1 => simp at hu
  · intro v' w' hown' hgrow _
    exact h v' w' hown' ((O.alloc _).grown hgrow (own_base hown)) (fun g t' cs b hg => (b.alloc _).grown hgrow (Ne.symm hg))
end
end Go.Proofs.YtncidljdfipigaaDoor.Mem

/- Small words on rows (slices) for hand-walked contracts: a row that a call made itself, a row that is only read, one more element, the bytes of a text. -/
namespace Go.Proofs.YtncidljdfipigaaDoor.Mem
open Go.RowKit
/-- What a contract tells: it returns v, and what was stays. -/
def Tells (w : World) (v : Value) (e : Ending) (w' : World) : Prop := e = .returned v ∧ On w w'
/-- A row that is only read: its cells lie from the beginning of block g on. -/
structure Row (w : World) (g t : Nat) (xs : List Value) : Prop where mk :: (out : ∃ cs, Blk w g t cs ∧ cs.toList.take xs.length = xs)
theorem Row.lt {w : World} {g t : Nat} {xs : List Value} (h : Row w g t xs) : g < w.heap.size := by
  obtain ⟨cs, hb, _⟩ := h.out
  exact hb.lt
theorem Row.cell {w : World} {g t : Nat} {xs : List Value} (h : Row w g t xs) {i : Nat} {x : Value} (hx : xs[i]? = some x) : w.cell? ⟨g, i, none⟩ = some x := by
  obtain ⟨cs, hb, ht⟩ := h.out
  rw [hb.cell i, ← hx, ← Array.getElem?_toList, ← ht, List.getElem?_take]
  have : i < xs.length := by
    rcases Nat.lt_or_ge i xs.length with hl | hl
    · exact hl
    · rw [List.getElem?_eq_none hl] at hx; cases hx
  rw [if_pos (by simpa [ht] using this)]
theorem Row.frozen {w : World} {g t : Nat} {xs : List Value} (h : Row w g t xs) (i : Nat) : w.frozen? ⟨g, i, none⟩ = false := by
  obtain ⟨cs, hb, _⟩ := h.out
  exact hb.frozen i
theorem Row.on {w w' : World} {g t : Nat} {xs : List Value} (h : Row w g t xs) (O : On w w') : Row w' g t xs := by
  obtain ⟨cs, hb, ht⟩ := h.out
  exact ⟨cs, O.blk hb, ht⟩
theorem Row.head {w : World} {g t : Nat} {xs : List Value} (h : Row w g t xs) (n : Nat) : Row w g t (xs.take n) := by
  obtain ⟨cs, hb, ht⟩ := h.out
  refine ⟨cs, hb, ?_⟩
  rw [List.length_take]
  conv => rhs; rw [← ht, List.take_take]
/-- A row that a call made itself (behind base), not nil: n elements of size cells each. -/
structure Own (base : Nat) (w : World) (t size : Nat) (v : Value) (n : Nat) (xs : List Value) : Prop where
  own : w.ownsRow base t size v n xs
  nn : v ≠ .slice none 0 0
section
variable {base : Nat} {w w' : World} {t size : Nat} {v : Value} {n : Nat} {xs : List Value}
theorem Own.parts (h : Own base w t size v n xs) : ∃ g cap, v = .slice (some ⟨g, 0, none⟩) n cap ∧ base ≤ g ∧ Row w g t xs ∧ n ≤ cap ∧ cap ≤ maxLen ∧ xs.length = n * size := by
  rcases h.own.2 with ⟨h0, _⟩ | ⟨g, cap, cur, hv, hb, hh, h1, h2, h3, h4⟩
  · exact absurd h0 h.nn
  · exact ⟨g, cap, hv, hb, ⟨cur, ⟨hh⟩, by rw [h.own.1]; exact h4⟩, h1, h2, h.own.1⟩
theorem Own.on (h : Own base w t size v n xs) (O : On w w') : Own base w' t size v n xs := ⟨own_on h.own O, h.nn⟩
theorem Own.low {b2 : Nat} (h : Own base w t size v n xs) (hb : b2 ≤ base) : Own b2 w t size v n xs := by
  refine ⟨⟨h.own.1, ?_⟩, h.nn⟩
  rcases h.own.2 with h0 | ⟨g, cap, cur, hv, hb', rest⟩
  · exact .inl h0
  · exact .inr ⟨g, cap, cur, hv, Nat.le_trans hb hb', rest⟩
/-- A literal's row, or an empty one, is one that the call made itself. -/
theorem Own.new (w : World) (t size : Nat) (cs : Array Value) (n : Nat) (hm : n ≤ maxLen) (hs : cs.size = n * size) (hb : base ≤ w.heap.size) : Own base (w.alloc (.cells cs t)) t size (.slice (some ⟨w.heap.size, 0, none⟩) n n) n cs.toList := by
  refine ⟨⟨by simpa using hs, .inr ⟨_, n, cs, rfl, hb, heap_alloc_new w _, Nat.le_refl _, hm, hs, ?_⟩⟩, by simp⟩
  exact List.take_of_length_le (by simp; omega)
theorem Own.block (h : Own base w t size v n xs) : ∀ g, v.ownBlock = some g → base ≤ g := own_base h.own
theorem Row.of {g t : Nat} {cs : Array Value} (h : Blk w g t cs) : Row w g t cs.toList := ⟨cs, h, List.take_of_length_le (Nat.le_refl _)⟩
end
section
variable {P : Program}
/-- s = append(s, u) of an element of 'size' cells onto a row that the call made itself. -/
theorem wpList_app {ops : Array Oper} {rest : List Oper} {o : Oper} {act : Act} {Q : Exit → Act → World → Prop} {wr : World} {e : TypeId} {us : Array Value} (hgd : o.guard = none) (s x : Operand) (t : TypeId)
    (ho : o.op = .call { callee := .builtin .append, args := #[s, x], argTypes := #[t, t] })
    (a : World) (i : TypeInfo) (z : Value) (bytes size : Nat) (ht : P.underlying t = some (.slice e)) (hi : P.info? e = some i) (hz : i.zero = some z)
    (hsize : i.size = size) (hby : i.bytes = bytes) (hzs : z.cells.size = size) (hsz : 0 < size) (hus : us.size = size)
    (v : Value) (n : Nat) (xs : List Value) (hs : act.eval s = v) (hown : Own a.heap.size wr e size v n xs) (O : On a wr)
    (hx : act.eval x = .slice (some ⟨wr.heap.size, 0, none⟩) 1 1) (h1 : ∀ u ∈ us.toList, u.oneCell' = true) (h63 : n + 1 ≤ maxLen) (hbytes : (n + 1) * bytes ≤ 140737488355328)
    (h : ∀ v' w', Own a.heap.size w' e size v' (n + 1) (xs ++ us.toList) → On a w' → (∀ g t' cs, Blk wr g t' cs → v.ownBlock ≠ some g → Blk w' g t' cs) → wpList P ops Q rest (act.put o.dst v') w') :
    wpList P ops Q (o :: rest) act (wr.alloc (.cells us e)) := by
  refine wpList_append_own _ hgd s x t ho a.heap.size e i z size bytes ht hi hz hsize hby hzs hsz v n xs hs (hown.own.alloc _) ⟨wr.heap.size, 0, none⟩ 1 1 us.toList hx (by simp [hus]) ?_ h1 h63 hbytes (by have := O.size; simp; omega) ?_
  · intro j u hu
    have e0 : (⟨wr.heap.size, 0, none⟩ : Addr).add j = ⟨wr.heap.size, j, none⟩ := by unfold Addr.add; simp; omega
    rw [e0, (Blk.new wr e us).cell j]
    simpa using hu
  · intro v' w' hown' hgrow hnil
    exact h v' w' ⟨hown', fun h0 => hown.nn (hnil.1 h0).1⟩ ((O.alloc _).grown hgrow (own_base hown.own)) (fun g t' cs b hg => (b.alloc _).grown hgrow (Ne.symm hg))
end
/-- The texts of a row of strings. -/
def str (l : List UInt8) : Value := .string ⟨l.toArray⟩
theorem str_of (s : ByteArray) : Value.string s = str s.data.toList := by
  unfold str; congr 1
end Go.Proofs.YtncidljdfipigaaDoor.Mem

/- Small words on memory for what is written behind a pointer: what stays but for some blocks, where an append puts a row, a writer of bits. -/
namespace Go.Proofs.YtncidljdfipigaaDoor.Mem
open Go.RowKit Go.Proofs.YtncidljdfipigaaDoor.Bt
set_option linter.unusedVariables false
/-- Everything that was stays, but for blocks of S. -/
structure Kp (S : List Nat) (w w' : World) : Prop where mk :: (os : w'.os = w.os) (tape : w'.tape = w.tape) (output : w'.output = w.output) (size : w.heap.size ≤ w'.heap.size) (block : ∀ k, k < w.heap.size → k ∉ S → w'.heap[k]? = w.heap[k]?)
section
variable {S T : List Nat} {w w' w'' : World}
theorem Kp.refl (S : List Nat) (w : World) : Kp S w w := ⟨rfl, rfl, rfl, Nat.le_refl _, fun _ _ _ => rfl⟩
theorem Kp.trans (h : Kp S w w') (k : Kp T w' w'') (hT : ∀ x ∈ T, x ∈ S ∨ w.heap.size ≤ x) : Kp S w w'' :=
  ⟨k.os.trans h.os, k.tape.trans h.tape, k.output.trans h.output, Nat.le_trans h.size k.size, fun i hi hs => (k.block i (Nat.lt_of_lt_of_le hi h.size) (fun hh => by
    rcases hT i hh with a | a
    · exact hs a
    · omega)).trans (h.block i hi hs)⟩
theorem Kp.then (h : Kp S w w') (k : Kp S w' w'') : Kp S w w'' := h.trans k fun _ hx => .inl hx
theorem Kp.mono (h : Kp S w w') (hs : ∀ x ∈ S, x ∈ T ∨ w.heap.size ≤ x) : Kp T w w' := (Kp.refl T w).trans h hs
theorem Kp.of (S : List Nat) (h : On w w') : Kp S w w' := ⟨h.out.os, h.out.tape, h.out.output, h.out.size, fun i hi _ => h.out.block i hi⟩
theorem Kp.alloc (h : Kp S w w') (o : Obj) : Kp S w (w'.alloc o) := h.then (Kp.of S ((On.refl w').alloc o))
theorem Kp.drew (h : Kp S w w') : Kp S w w'.drew := h.then (Kp.of S ((On.refl w').drew))
theorem Kp.drewN (h : Kp S w w') (n : Nat) : Kp S w (w'.drewN n) := h.then (Kp.of S ((On.refl w').drewN n))
theorem Kp.on (h : Kp S w w') {a : World} (O : On a w) (hs : ∀ x ∈ S, a.heap.size ≤ x) : On a w' :=
  ⟨⟨h.os.trans O.out.os, h.tape.trans O.out.tape, h.output.trans O.out.output, Nat.le_trans O.size h.size, fun i hi => (h.block i (Nat.lt_of_lt_of_le hi O.size) (fun hh => by have := hs i hh; omega)).trans (O.out.block i hi)⟩⟩
theorem Kp.toOn (h : Kp [] w w') : On w w' := h.on (On.refl w) (fun x hx => by cases hx)
theorem Kp.set (h : Kp S w w') {p : Addr} (hp : p.block ∈ S ∨ w.heap.size ≤ p.block) (u : Value) : Kp S w (w'.setCell p u) := by
  refine ⟨h.os, h.tape, h.output, Nat.le_trans h.size ?_, fun i hi hs => (Below.heap_setCell w' p u i (fun e => ?_)).trans (h.block i hi hs)⟩
  · simp [World.setCell]
  · rcases hp with a | a
    · exact hs (e ▸ a)
    · omega
theorem Kp.blk {g t : Nat} {cs : Array Value} (h : Kp S w w') (b : Blk w g t cs) (hg : g ∉ S) : Blk w' g t cs := ⟨(h.block g b.lt hg).trans b.out⟩
theorem Kp.row {g t : Nat} {xs : List Value} (h : Kp S w w') (b : Row w g t xs) (hg : g ∉ S) : Row w' g t xs := by
  obtain ⟨cs, hb, ht⟩ := b.out
  exact ⟨cs, h.blk hb hg, ht⟩
theorem Kp.cell (h : Kp S w w') {p : Addr} (hp : p.block < w.heap.size) (hs : p.block ∉ S) : w'.cell? p = w.cell? p := World.cell?_of_block (h.block _ hp hs)
theorem Kp.owns {base : Nat} {e : TypeId} {size n : Nat} {v : Value} {xs : List Value} (h : Kp S w w') (b : w.ownsRow base e size v n xs) (hg : ∀ g, v.ownBlock = some g → g ∉ S) : w'.ownsRow base e size v n xs := by
  refine ⟨b.1, ?_⟩
  rcases b.2 with h0 | ⟨g, cap, cur, hv, hb, hh, rest⟩
  · exact .inl h0
  · have hlt : g < w.heap.size := by
      rcases Nat.lt_or_ge g w.heap.size with hlt | hge
      · exact hlt
      · rw [Array.getElem?_eq_none hge] at hh; cases hh
    exact .inr ⟨g, cap, cur, hv, hb, (h.block g hlt (hg g (by rw [hv]; rfl))).trans hh, rest⟩
theorem Kp.grown {row : Option Nat} (h : w.grownBy w' row) (hr : ∀ g, row = some g → g ∈ S) : Kp S w w' :=
  ⟨h.os, h.tape, h.output, h.size, fun k hk hs => h.block k hk (fun e => hs (hr k e.symm))⟩
end
section
variable {P : Program}
/-- Where an append puts the row: where it was, or in new memory. -/
theorem run_app_at (w : World) (base : Nat) (t ty e : TypeId) (i : TypeInfo) (z : Value) (size bytes : Nat) (ht : P.underlying t = some (.slice e)) (hi : P.info? e = some i) (hz : i.zero = some z)
    (hsize : i.size = size) (hby : i.bytes = bytes) (hzs : z.cells.size = size) (hsz : 0 < size)
    (v : Value) (n : Nat) (xs : List Value) (hown : w.ownsRow base e size v n xs)
    (a : Addr) (m c : Nat) (news : List Value) (hl : news.length = m * size) (hnews : ∀ j u, news[j]? = some u → w.cell? (a.add j) = some u) (h1 : ∀ u ∈ news, u.oneCell' = true)
    (h63 : n + m ≤ maxLen) (hbytes : (n + m) * bytes ≤ 140737488355328) (hbase : base ≤ w.heap.size) :
    ∃ v' w', (Builtin.append_ #[t, t] ty #[v, .slice (some a) m c]).run P w = .ok v' w' ∧ w'.ownsRow base e size v' (n + m) (xs ++ news) ∧ w.grownBy w' v.ownBlock ∧
      (v' = .slice none 0 0 ↔ v = .slice none 0 0 ∧ m = 0) ∧ ∀ g, v'.ownBlock = some g → v.ownBlock = some g ∨ w.heap.size ≤ g := by
  obtain ⟨v', w', hr, h2, h3, h4⟩ := run_append_own (P := P) w base t ty e i z size bytes ht hi hz hsize hby hzs hsz v n xs hown a m c news hl hnews h1 h63 hbytes hbase
  refine ⟨v', w', hr, h2, h3, h4, fun g' hg' => ?_⟩
  subst hsize
  subst hby
  rcases hown.2 with ⟨rfl, rfl⟩ | ⟨g, cap, cur, rfl, hbg, hg, hnc, hcm, hcs, htake⟩
  · have hx : xs = [] := List.eq_nil_of_length_eq_zero (by simpa using hown.1)
    subst hx
    obtain ⟨v2, w2, hr2, k2, _⟩ := run_append_own (P := P) w w.heap.size t ty e i z i.size i.bytes ht hi hz rfl rfl hzs hsz (.slice none 0 0) 0 [] (World.ownsRow_nil _ _ _ _) a m c news hl hnews h1 h63 hbytes (Nat.le_refl _)
    rw [hr] at hr2
    cases hr2
    exact .inr (own_base k2 g' hg')
  · by_cases hroom : n + m ≤ cap
    · have hfit : n * i.size + news.length ≤ cur.size := by rw [hl, hcs, ← Nat.add_mul]; exact Nat.mul_le_mul_right _ hroom
      have hr2 := run_append_room (P := P) w t ty e i ht hi g n cap cur hg a m c news hl hnews h1 hroom hfit
      rw [hr] at hr2
      cases hr2
      exact .inl hg'
    · have hr2 := run_append_grow (P := P) w t ty e i z ht hi hz ⟨g, 0, none⟩ n cap xs hown.1 (hown.cells (g := g) rfl) a m c news hl hnews (by omega) (by simp only [maxLen] at h63; omega) (growslice_fits (by omega) hbytes)
      rw [hr] at hr2
      cases hr2
      simp only [Value.ownBlock, Option.some.injEq] at hg'
      right; omega
theorem wpList_app_at {ops : Array Oper} {rest : List Oper} {o : Oper} {act : Act} {Q : Exit → Act → World → Prop} {wr : World} {e : TypeId} {us : Array Value} (hgd : o.guard = none) (s x : Operand) (t : TypeId)
    (ho : o.op = .call { callee := .builtin .append, args := #[s, x], argTypes := #[t, t] })
    (i : TypeInfo) (z : Value) (bytes size : Nat) (ht : P.underlying t = some (.slice e)) (hi : P.info? e = some i) (hz : i.zero = some z)
    (hsize : i.size = size) (hby : i.bytes = bytes) (hzs : z.cells.size = size) (hsz : 0 < size) (hus : us.size = size)
    (v : Value) (n : Nat) (xs : List Value) (hs : act.eval s = v) (hown : wr.ownsRow 0 e size v n xs)
    (hx : act.eval x = .slice (some ⟨wr.heap.size, 0, none⟩) 1 1) (h1 : ∀ u ∈ us.toList, u.oneCell' = true) (h63 : n + 1 ≤ maxLen) (hbytes : (n + 1) * bytes ≤ 140737488355328)
    (h : ∀ v' w', w'.ownsRow 0 e size v' (n + 1) (xs ++ us.toList) → wr.grownBy w' v.ownBlock → v' ≠ .slice none 0 0 → (∀ g, v'.ownBlock = some g → v.ownBlock = some g ∨ wr.heap.size ≤ g) → wpList P ops Q rest (act.put o.dst v') w') :
    wpList P ops Q (o :: rest) act (wr.alloc (.cells us e)) := by
  refine wpList_plain hgd fun _ hK => ?_
  have hnews : ∀ j u, us.toList[j]? = some u → (wr.alloc (.cells us e)).cell? ((⟨wr.heap.size, 0, none⟩ : Addr).add j) = some u := by
    intro j u hu
    have e0 : (⟨wr.heap.size, 0, none⟩ : Addr).add j = ⟨wr.heap.size, j, none⟩ := by unfold Addr.add; simp; omega
    rw [e0, (Blk.new wr e us).cell j]
    simpa using hu
  obtain ⟨v', w', hr, h2, h3, h4, h5⟩ := run_app_at (P := P) (wr.alloc (.cells us e)) 0 t o.type e i z size bytes ht hi hz hsize hby hzs hsz v n xs (hown.alloc _) ⟨wr.heap.size, 0, none⟩ 1 1 us.toList (by simp [hus]) hnews h1 h63 hbytes (Nat.zero_le _)
  unfold Oper.wp execOp
  simp only [ho, resolve, invoke, builtin, Sem.run_bind, Sem.run_pure, Result.andThen_ok, List.map_toArray, List.map_cons, List.map_nil, hs, hx, hr]
  have hg0 := World.grownBy_alloc wr (.cells us e) v.ownBlock
  refine hK _ _ (h v' w' h2 ⟨h3.os.trans hg0.os, h3.tape.trans hg0.tape, h3.output.trans hg0.output, Nat.le_trans hg0.size h3.size, fun k hk hn => (h3.block k (Nat.lt_of_lt_of_le hk hg0.size) hn).trans (hg0.block k hk hn)⟩ (fun e0 => by have := (h4.1 e0).2; omega) (fun g hg => ?_))
  rcases h5 g hg with a | a
  · exact .inl a
  · right; have := hg0.size; omega
end
/-- Bytes as cells. -/
def u8s (l : List Nat) : List Value := l.map fun n : Nat => Value.int .u8 (n : Int)
theorem u8s_length (l : List Nat) : (u8s l).length = l.length := by simp [u8s]
theorem u8s_get {l : List Nat} {i : Nat} (h : i < l.length) : (u8s l)[i]? = some (.int .u8 (l.getD i 0 : Nat)) := by
  unfold u8s; rw [List.getElem?_map, List.getElem?_eq_getElem h, List.getD_eq_getElem?_getD, List.getElem?_eq_getElem h]; rfl
/-- A row of bytes at block r (or nil, then r is no matter) of a writer. -/
structure Bytes (w : World) (r : Nat) (v : Value) (l : List Nat) : Prop where
  own : w.ownsRow 0 5 1 v l.length (u8s l)
  at_ : ∀ g, v.ownBlock = some g → g = r
section
variable {w w' : World} {r : Nat} {v : Value} {l : List Nat}
theorem Bytes.parts (h : Bytes w r v l) (hne : l ≠ []) : ∃ cap, v = .slice (some ⟨r, 0, none⟩) l.length cap ∧ l.length ≤ cap ∧ cap ≤ maxLen ∧ Row w r 5 (u8s l) := by
  rcases h.own.2 with ⟨_, h0⟩ | ⟨g, cap, cur, hv, _, hh, h1, h2, h3, h4⟩
  · exact absurd (List.length_eq_zero_iff.1 h0) hne
  · have : g = r := h.at_ g (by rw [hv]; rfl)
    subst this
    exact ⟨cap, hv, h1, h2, ⟨cur, ⟨hh⟩, by rw [h.own.1]; exact h4⟩⟩
theorem Bytes.slice (h : Bytes w r v l) : (v = .slice none 0 0 ∧ l = []) ∨ ∃ cap, v = .slice (some ⟨r, 0, none⟩) l.length cap ∧ l.length ≤ cap ∧ cap ≤ maxLen := by
  rcases h.own.2 with ⟨h1, h0⟩ | ⟨g, cap, cur, hv, _, hh, h1, h2, h3, h4⟩
  · exact .inl ⟨h1, List.length_eq_zero_iff.1 h0⟩
  · have : g = r := h.at_ g (by rw [hv]; rfl)
    subst this
    exact .inr ⟨cap, hv, h1, h2⟩
theorem Bytes.kp {S : List Nat} (h : Bytes w r v l) (k : Kp S w w') (hr : r ∉ S) : Bytes w' r v l := ⟨k.owns h.own (fun g hg => by rw [h.at_ g hg]; exact hr), h.at_⟩
theorem Bytes.set (h : Bytes w r v l) (hne : l ≠ []) (i x : Nat) : Bytes (w.setCell ⟨r, i, none⟩ (.int .u8 (x : Int))) r v (l.set i x) := by
  obtain ⟨cap, hv, _⟩ := h.parts hne
  have ho := h.own
  rw [hv] at ho
  have := ho.stored i (.int .u8 (x : Int))
  refine ⟨?_, h.at_⟩
  rw [hv]
  have e : (u8s l).set i (.int .u8 (x : Int)) = u8s (l.set i x) := by unfold u8s; rw [List.map_set]
  rw [List.length_set, ← e]
  exact this.1
end
/-- A row of bytes after an append. -/
theorem bytes_app {wr w1 : World} {r : Nat} {v v' : Value} {l : List Nat} {x : Nat} (h : Bytes wr r v l)
    (hown : w1.ownsRow 0 5 1 v' (l.length + 1) (u8s l ++ (#[.int .u8 (x : Int)] : Array Value).toList)) (hg : wr.grownBy w1 v.ownBlock) (hne : v' ≠ .slice none 0 0) (hat : ∀ k, v'.ownBlock = some k → v.ownBlock = some k ∨ wr.heap.size ≤ k) :
    ∃ r2 cap, v' = .slice (some ⟨r2, 0, none⟩) (l.length + 1) cap ∧ Bytes w1 r2 v' (l ++ [x]) ∧ (r2 = r ∨ wr.heap.size ≤ r2) ∧ r2 < w1.heap.size ∧ Kp [r] wr w1 ∧ l.length + 1 ≤ cap ∧ cap ≤ maxLen := by
  have e : u8s l ++ (#[.int .u8 (x : Int)] : Array Value).toList = u8s (l ++ [x]) := by unfold u8s; rw [List.map_append]; rfl
  rw [e] at hown
  rcases hown.2 with ⟨h0, _⟩ | ⟨k, cap, cur, hv, _, hh, h1, h2, h3, h4⟩
  · exact absurd h0 hne
  · have hb : v'.ownBlock = some k := by rw [hv]; rfl
    have hk : k = r ∨ wr.heap.size ≤ k := by
      rcases hat k hb with a | a
      · exact .inl (h.at_ k a)
      · exact .inr a
    refine ⟨k, cap, hv, ⟨by simpa using hown, fun j hj => by rw [hb] at hj; cases hj; rfl⟩, hk, ?_, ?_, h1, h2⟩
    · rcases Nat.lt_or_ge k w1.heap.size with hl | hl
      · exact hl
      · rw [Array.getElem?_eq_none hl] at hh; cases hh
    · exact Kp.grown hg (fun j hj => by rw [h.at_ j hj]; simp)
theorem u8info : (Tryd.prog.info? 5).map (fun i => (i.zero, i.size, i.bytes)) = some (some (.int .u8 0), 1, 1) := by kernel_rfl
/-- b = append(b, x): one byte more. -/
theorem wpList_byte {ops : Array Oper} {rest : List Oper} {o : Oper} {act : Act} {Q : Exit → Act → World → Prop} {wr : World} (hgd : o.guard = none) (s y : Operand)
    (ho : o.op = .call { callee := .builtin .append, args := #[s, y], argTypes := #[22, 22] })
    {r : Nat} {v : Value} {l : List Nat} {x : Nat} (hs : act.eval s = v) (hby : Bytes wr r v l) (hx : act.eval y = .slice (some ⟨wr.heap.size, 0, none⟩) 1 1) (hl : l.length ≤ 100000000)
    (h : ∀ r2 cap w1, Bytes w1 r2 (.slice (some ⟨r2, 0, none⟩) (l.length + 1) cap) (l ++ [x]) → (r2 = r ∨ wr.heap.size ≤ r2) → r2 < w1.heap.size → Kp [r] wr w1 → l.length + 1 ≤ cap → cap ≤ maxLen →
      wpList Tryd.prog ops Q rest (act.put o.dst (.slice (some ⟨r2, 0, none⟩) (l.length + 1) cap)) w1) :
    wpList Tryd.prog ops Q (o :: rest) act (wr.alloc (.cells #[.int .u8 (x : Int)] 5)) := by
  obtain ⟨i0, hi, hz0, hz1, hz2⟩ := info_parts u8info
  refine wpList_app_at hgd s y 22 ho i0 (.int .u8 0) 1 1 Tryd.underlying22 hi hz0 hz1 hz2 rfl (by decide) rfl v _ _ hs hby.own hx (by simp [Value.oneCell']) (by unfold maxLen; omega) (by omega) ?_
  intro v' w1 hown' hg' hne' hat'
  obtain ⟨r2, cap2, rfl, hby2, hr2, hrl2, K2, hc1, hc2⟩ := bytes_app hby hown' hg' hne' hat'
  exact h r2 cap2 w1 hby2 hr2 hrl2 K2 hc1 hc2
/-- b = append(b, x) as a step of a region that draws its order. -/
theorem step_byte {ops : Array Oper} {o : Oper} {act : Act} {K : Act → World → Prop} {Q : Exit → Act → World → Prop} {E : Prop} {W : World} (hgd : o.guard = none) (s y : Operand)
    (ho : o.op = .call { callee := .builtin .append, args := #[s, y], argTypes := #[22, 22] })
    {r : Nat} {v : Value} {l : List Nat} {x B : Nat} (hs : act.eval s = v) (hby : Bytes W r v l) (hx : act.eval y = .slice (some ⟨B, 0, none⟩) 1 1) (hB : W.heap[B]? = some (.cells #[.int .u8 (x : Int)] 5 (0, 0))) (hl : l.length ≤ 100000000)
    (h : ∀ r2 cap w1, Bytes w1 r2 (.slice (some ⟨r2, 0, none⟩) (l.length + 1) cap) (l ++ [x]) → (r2 = r ∨ W.heap.size ≤ r2) → r2 < w1.heap.size → Kp [r] W w1 → l.length + 1 ≤ cap → cap ≤ maxLen →
      K (act.put o.dst (.slice (some ⟨r2, 0, none⟩) (l.length + 1) cap)) w1) :
    if Region.wanted o (yielded ops act.tmps) = true then Oper.wp Tryd.prog o act W K Q else E := by
  obtain ⟨i0, hi, hz0, hz1, hz2⟩ := info_parts u8info
  have hw : Region.wanted o (yielded ops act.tmps) = true := by simp [Region.wanted, hgd]
  rw [if_pos hw]
  have hnews : ∀ j u, (#[.int .u8 (x : Int)] : Array Value).toList[j]? = some u → W.cell? ((⟨B, 0, none⟩ : Addr).add j) = some u := by
    intro j u hu
    have e0 : (⟨B, 0, none⟩ : Addr).add j = ⟨B, j, none⟩ := by unfold Addr.add; simp; omega
    rw [e0, (Blk.mk hB).cell j]
    simpa using hu
  obtain ⟨v', w', hr, h2, h3, h4, h5⟩ := run_app_at (P := Tryd.prog) W 0 22 o.type 5 i0 (.int .u8 0) 1 1 Tryd.underlying22 hi hz0 hz1 hz2 rfl (by decide) v _ _ hby.own ⟨B, 0, none⟩ 1 1 (#[.int .u8 (x : Int)] : Array Value).toList rfl hnews (by simp [Value.oneCell']) (by unfold maxLen; omega) (by omega) (Nat.zero_le _)
  obtain ⟨r2, cap2, rfl, hby2, hr2, hrl2, K2, hc1, hc2⟩ := bytes_app hby h2 h3 (fun e0 => by have := (h4.1 e0).2; omega) h5
  unfold Oper.wp execOp
  simp only [ho, resolve, invoke, builtin, Sem.run_bind, Sem.run_pure, Result.andThen_ok, List.map_toArray, List.map_cons, List.map_nil, hs, hx, hr]
  exact h r2 cap2 w' hby2 hr2 hrl2 K2 hc1 hc2
end Go.Proofs.YtncidljdfipigaaDoor.Mem

/- The variable order as it is laid. -/
namespace Go.Proofs.YtncidljdfipigaaDoor.Wi
open Go.RowKit Go.Proofs.YtncidljdfipigaaDoor.Mem Go.Proofs.YtncidljdfipigaaDoor.Bt Go.Proofs.YtncidljdfipigaaDoor.Cd Go.Proofs.YtncidljdfipigaaDoor.De
set_option linter.unusedVariables false
set_option linter.unusedSimpArgs false
/-- The variable order as it is laid. -/
structure Ord (w : World) (x : Addr) : Prop where mk ::
  glob : w.cell? ⟨0, 0, none⟩ = some (.slice (some x) 19 19)
  cells : ∀ i, i < 19 → w.cell? (x.add i) = some (.int .i64 (order.getD i 0 : Nat))
theorem add_block (x : Addr) (i : Nat) : (x.add i).block = x.block := by unfold Addr.add; split <;> rfl
theorem Ord.glt {w : World} {x : Addr} (h : Ord w x) : 0 < w.heap.size := World.block_lt_of_cell? w _ h.glob
theorem Ord.lt {w : World} {x : Addr} (h : Ord w x) : x.block < w.heap.size := by
  have := World.block_lt_of_cell? w _ (h.cells 0 (by omega))
  rwa [add_block] at this
theorem Ord.kp {S : List Nat} {w w' : World} {x : Addr} (h : Ord w x) (k : Kp S w w') (h1 : 0 ∉ S) (h2 : x.block ∉ S) : Ord w' x :=
  ⟨(k.cell h.glt h1).trans h.glob, fun i hi => (k.cell (by rw [add_block]; exact h.lt) (by rw [add_block]; exact h2)).trans (h.cells i hi)⟩
theorem Ord.on {w w' : World} {x : Addr} (h : Ord w x) (O : On w w') : Ord w' x := h.kp (Kp.of [] O) (by simp) (by simp)
theorem Ord.len : order.length = 19 := rfl
theorem order_lt19 : ∀ i, i < 19 → order.getD i 0 < 19 := by decide
end Go.Proofs.YtncidljdfipigaaDoor.Wi

/- The variable order as it is laid: what a row's condition says of it; a world for the rows' witnesses. -/
namespace Go.Proofs.YtncidljdfipigaaDoor.Laid
open Go.RowKit Go.Proofs.YtncidljdfipigaaDoor.Mem
theorem own : ownKnob Tryd.prog.godebug = none := by kernel_rfl
theorem laidOut : laidOutB Tryd.prog = true := by kernel_rfl
def listed : List (String × DataW Unit) := [("loop.example/corbel/impl.order", Rows.laid_loop_example_corbel_impl_order)]
noncomputable def laidWorld (os : Os) : World := World.laidAll Tryd.prog os listed
set_option maxRecDepth 1000000 in
theorem laid_met (os : Os) (args : Array Value) : laidMet Tryd.prog [("loop.example/corbel/impl.order", Rows.laid_loop_example_corbel_impl_order)] ((laidWorld os).forCall (fun _ _ => 0) ⟨#[], args, []⟩).memory :=
  laidMet_laidAll (laid := listed) args (by kernel_rfl) (by kernel_rfl)
theorem facts {W : World} (hl : laidMetH Tryd.prog [("loop.example/corbel/impl.order", Rows.laid_loop_example_corbel_impl_order)] W) : ∃ x, Wi.Ord W x := by
  have h : laidMet Tryd.prog [("loop.example/corbel/impl.order", Rows.laid_loop_example_corbel_impl_order)] W := hl
  obtain ⟨ps, ⟨g, t, cs, fuel, p, q, hg, ht, hv, hd, _, _⟩, _⟩ := h
  obtain rfl : 0 = g := Option.some.inj ((show Tryd.prog.globalNamed "loop.example/corbel/impl.order" = some 0 by kernel_rfl).symm.trans hg)
  obtain rfl : 58 = t := Option.some.inj ((show (Tryd.prog.globals[0]?).map (·.type) = some 58 by kernel_rfl).symm.trans ht)
  rcases ChangeShapes.open_ints Tryd.underlying58 Tryd.underlying3 (by kernel_rfl) hd with ⟨_, h0⟩ | ⟨x, l, c, zs, hcs, _, hlc, _, hz, hx, hcell, _⟩
  · cases h0
  · simp only [if_true] at hz
    have e := congrArg Prod.fst hx
    simp only [Rows.laid_loop_example_corbel_impl_order] at e
    injection e with e1 e2
    have d0 := congrArg List.length e2
    have d1 := congrArg List.length e1
    simp [ChangeShapes.lits] at d0 d1
    have hl19 : l = 19 := by omega
    have hc19 : c = 19 := by omega
    subst hl19; subst hc19
    have hcs' : cs = #[.slice (some x) 19 19] := by rw [← Array.toList_inj, hcs]
    have hzs : ∀ i, i < 19 → zs.getD i 0 = (De.order.getD i 0 : Nat) := by
      intro i hi
      have e3 : (ChangeShapes.lits (H := Unit) .i64 (zs.take 19)).map (fun d => ChangeShapes.numOf (d, [])) = zs.take 19 := by
        simp [ChangeShapes.lits, Function.comp_def, ChangeShapes.numOf]
      rw [← e1] at e3
      have e4 : zs = De.order.map (fun n : Nat => (n : Int)) := by
        rw [← List.take_of_length_le (show zs.length ≤ 19 by omega), ← e3]; rfl
      rw [e4, List.getD_eq_getElem?_getD, List.getD_eq_getElem?_getD, List.getElem?_map]
      rw [List.getElem?_eq_getElem (show i < De.order.length from hi)]; rfl
    refine ⟨x, ?_, fun i hi => ?_⟩
    · simpa [hcs'] using World.var?_cell hg hv 0
    · rw [hcell i (by omega), hzs i hi]
end Go.Proofs.YtncidljdfipigaaDoor.Laid

/- Plain names and the walks of what looks at one: the part of a name, its cut at slashes. No program's condition beyond sizes. -/
namespace Go.Proofs.YtncidljdfipigaaDoor.Nm
open Go.RowKit Go.Proofs.YtncidljdfipigaaDoor.Mem
set_option linter.unusedVariables false
set_option linter.unusedSimpArgs false
theorem within_same (n l h : Int) (w : World) :
    Calls Tryd.prog 97 #[.int .i64 n, .int .i64 l, .int .i64 h] w (fun e w' => e = .returned (.bool (decide (l ≤ n ∧ n ≤ h))) ∧ w' = w) := by
  by_cases h1 : l ≤ n
  · by_cases h2 : n ≤ h
    · go_enter Tryd.func97, Tryd.ntmps97
      go_wp2_with fail
      go_ret
      exact ⟨by simp [h1, h2], rfl⟩
    · go_enter Tryd.func97, Tryd.ntmps97
      go_wp2_with fail
      go_ret
      exact ⟨by simp [h1, h2], rfl⟩
  · go_enter Tryd.func97, Tryd.ntmps97
    go_wp2_with fail
    go_ret
    exact ⟨by simp; omega, rfl⟩
theorem in_same (n l h : Int) (w : World) :
    Calls Tryd.prog 144 #[.int .i64 n, .int .i64 l, .int .i64 h] w (fun e w' => e = .returned (.bool (decide (l ≤ n ∧ n ≤ h))) ∧ w' = w) := by
  by_cases h1 : l ≤ n
  · by_cases h2 : n ≤ h
    · go_enter Tryd.func144, Tryd.ntmps144
      go_wp2_with fail
      go_ret
      exact ⟨by simp [h1, h2], rfl⟩
    · go_enter Tryd.func144, Tryd.ntmps144
      go_wp2_with fail
      go_ret
      exact ⟨by simp [h1, h2], rfl⟩
  · go_enter Tryd.func144, Tryd.ntmps144
    go_wp2_with fail
    go_ret
    exact ⟨by simp; omega, rfl⟩
theorem Tells.of {w : World} {v : Value} {e : Ending} {w' : World} (h : e = .returned v ∧ w' = w) : Tells w v e w' := by
  obtain ⟨rfl, rfl⟩ := h
  exact ⟨rfl, On.refl _⟩
theorem within_calls (n l h : Int) (w : World) :
    Calls Tryd.prog 97 #[.int .i64 n, .int .i64 l, .int .i64 h] w (Tells w (.bool (decide (l ≤ n ∧ n ≤ h)))) := (within_same n l h w).mono fun _ _ h => Tells.of h
theorem in_calls (n l h : Int) (w : World) :
    Calls Tryd.prog 144 #[.int .i64 n, .int .i64 l, .int .i64 h] w (Tells w (.bool (decide (l ≤ n ∧ n ≤ h)))) := (in_same n l h w).mono fun _ _ h => Tells.of h
def okByte (b : UInt8) : Bool := decide (97 ≤ b.toNat ∧ b.toNat ≤ 122) || decide (48 ≤ b.toNat ∧ b.toNat ≤ 57) || decide (b.toNat = 46) || decide (b.toNat = 45) || decide (b.toNat = 95)
def partOk (l : List UInt8) : Bool := l.all okByte && decide (1 ≤ l.length ∧ l.length ≤ 10) && decide (l ≠ [46]) && decide (l ≠ [46, 46])
theorem all_step {s : ByteArray} {k : Nat} (h : (s.data.toList.take k).all okByte = true) (hk : k < s.size) (hb : okByte s[k] = true) : (s.data.toList.take (k + 1)).all okByte = true := by
  have hk' : k < s.data.toList.length := by rw [Array.length_toList]; exact hk
  rw [List.take_succ_eq_append_getElem hk', List.all_append, h]
  rw [show s.data.toList[k] = s[k] from rfl, List.all_cons, hb]; rfl
theorem mem_at {s : ByteArray} {k : Nat} (hk : k < s.size) : s[k] ∈ s.data.toList := by
  have hk' : k < s.data.toList.length := by rw [Array.length_toList]; exact hk
  have : s[k] = s.data.toList[k] := rfl
  rw [this]
  exact List.getElem_mem hk'
set_option maxRecDepth 100000 in
theorem part_calls (s : ByteArray) (hs : s.size < 4294967296) (w : World) :
    Calls Tryd.prog 140 #[.string s] w (Tells w (.bool (partOk s.data.toList))) := by
  go_enter Tryd.func140, Tryd.ntmps140
  go_wp2_with fail
  go_loopw [7] (fun x wr => ∃ k : Nat, k ≤ s.size ∧ x = .int .i64 k ∧ (s.data.toList.take k).all okByte = true ∧ On w wr) (fun x _ => s.size - (intOf x).toNat)
  case atStart => exact ⟨0, by omega, rfl, rfl, On.refl w⟩
  case round =>
    obtain ⟨k, hk, rfl, hall, O⟩ := hrel
    by_cases hlt : k < s.size
    · have hstep := all_step hall hlt
      have hmem := mem_at hlt
      generalize hbb : s[k] = b at *
      go_wp2_with fail
      all_goals first
        | (have hb : okByte b = true := by
            simp only [okByte, Bool.or_eq_true, decide_eq_true_eq]; simp at *; omega
           exact ⟨⟨k + 1, by omega, by go_num, hstep hb, O⟩, by simp [intOf]; omega⟩)
        | (have hb : ¬ okByte b = true := by
            simp only [okByte, Bool.or_eq_true, decide_eq_true_eq]; simp at *; omega
           have hp : partOk s.data.toList = false := by
            unfold partOk
            have : s.data.toList.all okByte = false := by
              rw [Bool.eq_false_iff]; intro h; exact hb (List.all_eq_true.1 h _ hmem)
            rw [this]; rfl
           go_ret
           exact ⟨by rw [hp]; rfl, O⟩)
    · obtain rfl : k = s.size := by omega
      have hall2 : s.data.toList.all okByte = true := by
        rw [List.take_of_length_le (by rw [Array.length_toList]; exact Nat.le_refl _)] at hall; exact hall
      go_wp2_with fail
      refine (within_calls _ _ _ wr).mono ?_
      rintro e w1 ⟨rfl, O1⟩
      replace O := O.call O1
      go_wp2_with fail
      all_goals go_ret
      all_goals refine ⟨?_, O⟩
      all_goals unfold partOk
      all_goals rw [hall2]
      all_goals simp only [ByteArray.toList_eq] at *
      all_goals have hl : s.data.toList.length = s.size := Array.length_toList
      · simp [hl, *]
      · rename_i h1 h2
        have a1 : 1 ≤ s.size := by omega
        have a2 : s.size ≤ 10 := by omega
        by_cases h3 : s.data.toList = [46, 46] <;> simp [hl, a1, a2, h2, h3]
      · simp [hl]; intros; exfalso; omega
end Go.Proofs.YtncidljdfipigaaDoor.Nm

/-
  DERIVED: THE SHELF's CONTRACTS AT THIS DUMP, IN PLAIN WORDS (tools/lay-plain.mjs out of 'TrydShelf.lean', which tools/lay-shelf.mjs wrote): THE SAME DECLARATIONS UNDER THE SAME NAMES: 'import', 'namespace', 'open', 'def', 'theorem' AND NOTHING ELSE: no command of the shelf's: FOR A HAND-IN. Each laying: the table of numbers ('.._ren') and one theorem, a field a fact of the dump's own or the kernel's comparison; each contract: ONE APPLICATION.
-/
namespace Go.Proofs
open Go.Shelf
def Tryd.lays195_ren : Go.Shelf.Ren := ⟨fun | 195 => 161 | n => n, fun | 9 => 9 | 3 => 3 | 0 => 0 | 4 => 4 | n => n, fun | n => n⟩
theorem Tryd.lays195 : Go.Proofs.Lays.n195 Tryd.prog Tryd.lays195_ren := {
  mixed := by kernel_rfl
  f195 := Tryd.func161.trans (congrArg some (by kernel_rfl))
  t0 := Tryd.underlying0
  a0 := Tryd.isAgg0
  z0 := Tryd.sizeOf0
  v0 := Tryd.zeroValue0
  t3 := Tryd.underlying3
  a3 := Tryd.isAgg3
  z3 := Tryd.sizeOf3
  v3 := Tryd.zeroValue3
  t4 := Tryd.underlying4
  a4 := Tryd.isAgg4
  z4 := Tryd.sizeOf4
  v4 := Tryd.zeroValue4
  t9 := Tryd.underlying9
  a9 := Tryd.isAgg9
  z9 := Tryd.sizeOf9
  v9 := Tryd.zeroValue9 }
open Go.RowKit in
/-- unicode/utf8.RuneCountInString: "RuneCountInString is like RuneCount but its input is a string." ("RuneCount returns the number of runes in p. Erroneous and short encodings are treated as single runes of width 1 byte."): EVERY STRING, valid UTF-8 or not: 'Lib.runeCount s' (plain Lean over the model's own 'Utf8.decode'; 'Lib.runeCount_le': at most len(s); 'Lib.runeCount_ascii': on ASCII: len(s)). THE ONE CONDITION: len(s) below 2^63 - 1 (the counter does not wrap): the form's reach pays it. THE WORLD BEHIND THE CALL: ONE BLOCK MORE: the model's iterator over s, at its end: all else as it was. (LAID: no walk: one application.) -/
theorem Tryd.utf8_RuneCountInString (s : ByteArray) (w : World) (hs : s.size < 9223372036854775807) :
    Calls Tryd.prog 161 #[.string s] w fun e w' => e = .returned (.int .i64 (Lib.runeCount s)) ∧ ∃ pos, w' = w.iter s pos := Any.utf8_RuneCountInString Tryd.lays195 s w hs
def Tryd.lays217_ren : Go.Shelf.Ren := ⟨fun | 217 => 166 | 266 => 170 | n => n, fun | 9 => 9 | 5 => 5 | 3 => 3 | n => n, fun | n => n⟩
theorem Tryd.lays217 : Go.Proofs.Lays.n217 Tryd.prog Tryd.lays217_ren := {
  mixed := by kernel_rfl
  f217 := Tryd.func166.trans (congrArg some (by kernel_rfl))
  f266 := Tryd.func170.trans (congrArg some (by kernel_rfl))
  t3 := Tryd.underlying3
  a3 := Tryd.isAgg3
  z3 := Tryd.sizeOf3
  v3 := Tryd.zeroValue3
  t5 := Tryd.underlying5
  a5 := Tryd.isAgg5
  z5 := Tryd.sizeOf5
  v5 := Tryd.zeroValue5
  t9 := Tryd.underlying9
  a9 := Tryd.isAgg9
  z9 := Tryd.sizeOf9
  v9 := Tryd.zeroValue9 }
open Go.RowKit Go.Lib in
/-- internal/stringslite.IndexByte (what strings.IndexByte calls): IT RETURNS 'Lib.indexByte s c'; the world is as it was. (LAID: no walk: one application.) -/
theorem Tryd.stringslite_IndexByte (s : ByteArray) (c : Int) (w : World) :
    Calls Tryd.prog 166 #[.string s, .int .u8 c] w fun e w' => e = .returned (.int .i64 (Lib.indexByte s.data.toList c.toNat.toUInt8)) ∧ w' = w := Any.stringslite_IndexByte Tryd.lays217 s c w
def Tryd.lays224_ren : Go.Shelf.Ren := ⟨fun | 224 => 168 | n => n, fun | 3 => 3 | n => n, fun | n => n⟩
theorem Tryd.lays224 : Go.Proofs.Lays.n224 Tryd.prog Tryd.lays224_ren := {
  mixed := by kernel_rfl
  f224 := Tryd.func168.trans (congrArg some (by kernel_rfl))
  t3 := Tryd.underlying3
  a3 := Tryd.isAgg3
  z3 := Tryd.sizeOf3
  v3 := Tryd.zeroValue3 }
open Go.RowKit Go.Lib in
/-- internal/bytealg.Cutover: "Cutover reports the number of failures of IndexByte we should tolerate before switching over to Index. n is the number of bytes processed so far.": on amd64: (n + 16) / 8. (LAID: no walk: one application.) -/
theorem Tryd.bytealg_Cutover (n : Int) (h0 : 0 ≤ n) (h1 : n < 4611686018427387904) (w : World) :
    Calls Tryd.prog 168 #[.int .i64 n] w fun e w' => e = .returned (.int .i64 ((n + 16) / 8)) ∧ w' = w := Any.bytealg_Cutover Tryd.lays224 n h0 h1 w
def Tryd.lays314_ren : Go.Shelf.Ren := ⟨fun | 314 => 171 | n => n, fun | 9 => 9 | 51 => 127 | 3 => 3 | 4 => 4 | 5 => 5 | 46 => 62 | n => n, fun | n => n⟩
theorem Tryd.lays314 : Go.Proofs.Lays.n314 Tryd.prog Tryd.lays314_ren := {
  mixed := by kernel_rfl
  f314 := Tryd.func171.trans (congrArg some (by kernel_rfl))
  t3 := Tryd.underlying3
  a3 := Tryd.isAgg3
  z3 := Tryd.sizeOf3
  v3 := Tryd.zeroValue3
  t4 := Tryd.underlying4
  a4 := Tryd.isAgg4
  z4 := Tryd.sizeOf4
  v4 := Tryd.zeroValue4
  t5 := Tryd.underlying5
  a5 := Tryd.isAgg5
  z5 := Tryd.sizeOf5
  v5 := Tryd.zeroValue5
  t9 := Tryd.underlying9
  a9 := Tryd.isAgg9
  z9 := Tryd.sizeOf9
  v9 := Tryd.zeroValue9
  t46 := Tryd.underlying62
  a46 := Tryd.isAgg62
  z46 := Tryd.sizeOf62
  v46 := Tryd.zeroValue62
  t51 := Tryd.underlying127
  a51 := Tryd.isAgg127
  z51 := Tryd.sizeOf127
  v51 := Tryd.zeroValue127 }
open Go.RowKit Go.Lib in
/-- hashStr: "returns the hash and the appropriate multiplicative factor for use in Rabin-Karp algorithm": THE HASH OF ALL OF sep, AND 16777619 ^ len(sep), both in uint32. (LAID: no walk: one application.) -/
theorem Tryd.bytealg_hashStr (sep : ByteArray) (hs : sep.size < 4294967281) (w : World) :
    Calls Tryd.prog 171 #[.string sep] w fun e w' => e = .returned (.tuple #[.int .u32 (RK.H sep.data.toList % 4294967296), .int .u32 (16777619 ^ sep.size % 4294967296)]) ∧ w' = w := Any.bytealg_hashStr Tryd.lays314 sep hs w
def Tryd.lays267_ren : Go.Shelf.Ren := ⟨fun | 267 => 169 | 314 => 171 | n => n, fun | 9 => 9 | 3 => 3 | 146 => 150 | 51 => 127 | 4 => 4 | 5 => 5 | 46 => 62 | n => n, fun | n => n⟩
theorem Tryd.lays267 : Go.Proofs.Lays.n267 Tryd.prog Tryd.lays267_ren := {
  mixed := by kernel_rfl
  f267 := Tryd.func169.trans (congrArg some (by kernel_rfl))
  f314 := Tryd.func171.trans (congrArg some (by kernel_rfl))
  t3 := Tryd.underlying3
  a3 := Tryd.isAgg3
  z3 := Tryd.sizeOf3
  v3 := Tryd.zeroValue3
  t4 := Tryd.underlying4
  a4 := Tryd.isAgg4
  z4 := Tryd.sizeOf4
  v4 := Tryd.zeroValue4
  t5 := Tryd.underlying5
  a5 := Tryd.isAgg5
  z5 := Tryd.sizeOf5
  v5 := Tryd.zeroValue5
  t9 := Tryd.underlying9
  a9 := Tryd.isAgg9
  z9 := Tryd.sizeOf9
  v9 := Tryd.zeroValue9
  t46 := Tryd.underlying62
  a46 := Tryd.isAgg62
  z46 := Tryd.sizeOf62
  v46 := Tryd.zeroValue62
  t51 := Tryd.underlying127
  a51 := Tryd.isAgg127
  z51 := Tryd.sizeOf127
  v51 := Tryd.zeroValue127
  t146 := Tryd.underlying150
  a146 := Tryd.isAgg150
  z146 := Tryd.sizeOf150
  v146 := Tryd.zeroValue150 }
open Go.RowKit Go.Lib in
theorem Tryd.bytealg_IndexRabinKarp (s sep : ByteArray) (h1 : 1 ≤ sep.size) (h2 : sep.size ≤ s.size) (hs : s.size < 4294967281) (w : World) :
    Calls Tryd.prog 169 #[.string s, .string sep] w fun e w' => e = .returned (.int .i64 (Lib.index s.data.toList sep.data.toList)) ∧ w' = w := Any.bytealg_IndexRabinKarp Tryd.lays267 s sep h1 h2 hs w
def Tryd.lays219_ren : Go.Shelf.Ren := ⟨fun | 219 => 164 | 217 => 166 | 225 => 167 | 224 => 168 | 267 => 169 | 266 => 170 | 314 => 171 | n => n, fun | 9 => 9 | 3 => 3 | 4 => 4 | 5 => 5 | 46 => 62 | 146 => 150 | 51 => 127 | n => n, fun | 1 => 1 | n => n⟩
theorem Tryd.lays219 : Go.Proofs.Lays.n219 Tryd.prog Tryd.lays219_ren := {
  mixed := by kernel_rfl
  f217 := Tryd.func166.trans (congrArg some (by kernel_rfl))
  f219 := Tryd.func164.trans (congrArg some (by kernel_rfl))
  f224 := Tryd.func168.trans (congrArg some (by kernel_rfl))
  f225 := Tryd.func167.trans (congrArg some (by kernel_rfl))
  f266 := Tryd.func170.trans (congrArg some (by kernel_rfl))
  f267 := Tryd.func169.trans (congrArg some (by kernel_rfl))
  f314 := Tryd.func171.trans (congrArg some (by kernel_rfl))
  t3 := Tryd.underlying3
  a3 := Tryd.isAgg3
  z3 := Tryd.sizeOf3
  v3 := Tryd.zeroValue3
  t4 := Tryd.underlying4
  a4 := Tryd.isAgg4
  z4 := Tryd.sizeOf4
  v4 := Tryd.zeroValue4
  t5 := Tryd.underlying5
  a5 := Tryd.isAgg5
  z5 := Tryd.sizeOf5
  v5 := Tryd.zeroValue5
  t9 := Tryd.underlying9
  a9 := Tryd.isAgg9
  z9 := Tryd.sizeOf9
  v9 := Tryd.zeroValue9
  t46 := Tryd.underlying62
  a46 := Tryd.isAgg62
  z46 := Tryd.sizeOf62
  v46 := Tryd.zeroValue62
  t51 := Tryd.underlying127
  a51 := Tryd.isAgg127
  z51 := Tryd.sizeOf127
  v51 := Tryd.zeroValue127
  t146 := Tryd.underlying150
  a146 := Tryd.isAgg150
  z146 := Tryd.sizeOf150
  v146 := Tryd.zeroValue150
  g1 := by kernel_rfl }
open Go.RowKit Go.Lib in
/-- internal/stringslite.Index (what strings.Index calls) AT A substr OF ONE BYTE c: IT RETURNS 'Lib.indexByte s c'; the world is as it was. (LAID: no walk: one application.) -/
theorem Tryd.stringslite_Index_one (s : ByteArray) (c : UInt8) (w : World) :
    Calls Tryd.prog 164 #[.string s, .string ⟨#[c]⟩] w fun e w' => e = .returned (.int .i64 (Lib.indexByte s.data.toList c)) ∧ w' = w := Any.stringslite_Index_one Tryd.lays219 s c w
open Go.RowKit Go.Lib in
/-- internal/stringslite.Index (what strings.Index calls) AT A substr OF WHATEVER LENGTH: IT RETURNS 'Lib.index s substr'; the world is as it was. 'm': what internal/bytealg.MaxLen holds: whatever. (LAID: no walk: one application.) -/
theorem Tryd.stringslite_Index (s sub : ByteArray) (m : Int) (w : World) (hs : s.size < 4294967281) (hm : w.cell? ⟨1, 0, none⟩ = some (.int .i64 m)) :
    Calls Tryd.prog 164 #[.string s, .string sub] w fun e w' => e = .returned (.int .i64 (Lib.index s.data.toList sub.data.toList)) ∧ w' = w := Any.stringslite_Index Tryd.lays219 s sub m w hs hm
def Tryd.lays143_ren : Go.Shelf.Ren := ⟨fun | 143 => 160 | 219 => 164 | 217 => 166 | 225 => 167 | 224 => 168 | 267 => 169 | 266 => 170 | 314 => 171 | n => n, fun | 9 => 9 | 3 => 3 | 4 => 4 | 5 => 5 | 46 => 62 | 146 => 150 | 51 => 127 | n => n, fun | 1 => 1 | n => n⟩
theorem Tryd.lays143 : Go.Proofs.Lays.n143 Tryd.prog Tryd.lays143_ren := {
  mixed := by kernel_rfl
  f143 := Tryd.func160.trans (congrArg some (by kernel_rfl))
  f217 := Tryd.func166.trans (congrArg some (by kernel_rfl))
  f219 := Tryd.func164.trans (congrArg some (by kernel_rfl))
  f224 := Tryd.func168.trans (congrArg some (by kernel_rfl))
  f225 := Tryd.func167.trans (congrArg some (by kernel_rfl))
  f266 := Tryd.func170.trans (congrArg some (by kernel_rfl))
  f267 := Tryd.func169.trans (congrArg some (by kernel_rfl))
  f314 := Tryd.func171.trans (congrArg some (by kernel_rfl))
  t3 := Tryd.underlying3
  a3 := Tryd.isAgg3
  z3 := Tryd.sizeOf3
  v3 := Tryd.zeroValue3
  t4 := Tryd.underlying4
  a4 := Tryd.isAgg4
  z4 := Tryd.sizeOf4
  v4 := Tryd.zeroValue4
  t5 := Tryd.underlying5
  a5 := Tryd.isAgg5
  z5 := Tryd.sizeOf5
  v5 := Tryd.zeroValue5
  t9 := Tryd.underlying9
  a9 := Tryd.isAgg9
  z9 := Tryd.sizeOf9
  v9 := Tryd.zeroValue9
  t46 := Tryd.underlying62
  a46 := Tryd.isAgg62
  z46 := Tryd.sizeOf62
  v46 := Tryd.zeroValue62
  t51 := Tryd.underlying127
  a51 := Tryd.isAgg127
  z51 := Tryd.sizeOf127
  v51 := Tryd.zeroValue127
  t146 := Tryd.underlying150
  a146 := Tryd.isAgg150
  z146 := Tryd.sizeOf150
  v146 := Tryd.zeroValue150
  g1 := by kernel_rfl }
open Go.RowKit Go.Lib in
/-- strings.Index: "Index returns the index of the first instance of substr in s, or -1 if substr is not present in s.": AT A substr OF ONE BYTE c: IT RETURNS 'Lib.indexByte s c'; the world is as it was. (LAID: no walk: one application.) -/
theorem Tryd.strings_Index_one (s : ByteArray) (c : UInt8) (w : World) :
    Calls Tryd.prog 160 #[.string s, .string ⟨#[c]⟩] w fun e w' => e = .returned (.int .i64 (Lib.indexByte s.data.toList c)) ∧ w' = w := Any.strings_Index_one Tryd.lays143 s c w
open Go.RowKit Go.Lib in
/-- strings.Index: "Index returns the index of the first instance of substr in s, or -1 if substr is not present in s.": IT RETURNS 'Lib.index s substr'; the world is as it was. (LAID: no walk: one application.) -/
theorem Tryd.strings_Index (s sub : ByteArray) (m : Int) (w : World) (hs : s.size < 4294967281) (hm : w.cell? ⟨1, 0, none⟩ = some (.int .i64 m)) :
    Calls Tryd.prog 160 #[.string s, .string sub] w fun e w' => e = .returned (.int .i64 (Lib.index s.data.toList sub.data.toList)) ∧ w' = w := Any.strings_Index Tryd.lays143 s sub m w hs hm
def Tryd.lays138_ren : Go.Shelf.Ren := ⟨fun | 138 => 159 | 195 => 161 | 218 => 163 | 143 => 160 | 219 => 164 | 217 => 166 | 225 => 167 | 224 => 168 | 267 => 169 | 266 => 170 | 314 => 171 | n => n, fun | 9 => 9 | 3 => 3 | 4 => 4 | 5 => 5 | 0 => 0 | 46 => 62 | 146 => 150 | 51 => 127 | n => n, fun | 1 => 1 | n => n⟩
theorem Tryd.lays138 : Go.Proofs.Lays.n138 Tryd.prog Tryd.lays138_ren := {
  mixed := by kernel_rfl
  f138 := Tryd.func159.trans (congrArg some (by kernel_rfl))
  f143 := Tryd.func160.trans (congrArg some (by kernel_rfl))
  f195 := Tryd.func161.trans (congrArg some (by kernel_rfl))
  f217 := Tryd.func166.trans (congrArg some (by kernel_rfl))
  f218 := Tryd.func163.trans (congrArg some (by kernel_rfl))
  f219 := Tryd.func164.trans (congrArg some (by kernel_rfl))
  f224 := Tryd.func168.trans (congrArg some (by kernel_rfl))
  f225 := Tryd.func167.trans (congrArg some (by kernel_rfl))
  f266 := Tryd.func170.trans (congrArg some (by kernel_rfl))
  f267 := Tryd.func169.trans (congrArg some (by kernel_rfl))
  f314 := Tryd.func171.trans (congrArg some (by kernel_rfl))
  t0 := Tryd.underlying0
  a0 := Tryd.isAgg0
  z0 := Tryd.sizeOf0
  v0 := Tryd.zeroValue0
  t3 := Tryd.underlying3
  a3 := Tryd.isAgg3
  z3 := Tryd.sizeOf3
  v3 := Tryd.zeroValue3
  t4 := Tryd.underlying4
  a4 := Tryd.isAgg4
  z4 := Tryd.sizeOf4
  v4 := Tryd.zeroValue4
  t5 := Tryd.underlying5
  a5 := Tryd.isAgg5
  z5 := Tryd.sizeOf5
  v5 := Tryd.zeroValue5
  t9 := Tryd.underlying9
  a9 := Tryd.isAgg9
  z9 := Tryd.sizeOf9
  v9 := Tryd.zeroValue9
  t46 := Tryd.underlying62
  a46 := Tryd.isAgg62
  z46 := Tryd.sizeOf62
  v46 := Tryd.zeroValue62
  t51 := Tryd.underlying127
  a51 := Tryd.isAgg127
  z51 := Tryd.sizeOf127
  v51 := Tryd.zeroValue127
  t146 := Tryd.underlying150
  a146 := Tryd.isAgg150
  z146 := Tryd.sizeOf150
  v146 := Tryd.zeroValue150
  g1 := by kernel_rfl }
open Go.RowKit Go.Lib in
/-- strings.Count AT A substr OF ONE BYTE ('hp'): "Count counts the number of non-overlapping instances of substr in s.": IT RETURNS 'Lib.countByte s (that byte)'; the world is as it was. ✋ NO CONTRACT HERE YET at an empty substr (utf8.RuneCountInString) or at a longer one (a loop over strings.Index). (LAID: no walk: one application.) -/
theorem Tryd.strings_Count_one (s : ByteArray) (c : UInt8) (w : World) :
    Calls Tryd.prog 159 #[.string s, .string ⟨#[c]⟩] w fun e w' => e = .returned (.int .i64 (Lib.countByte s.data.toList c)) ∧ w' = w := Any.strings_Count_one Tryd.lays138 s c w
open Go.RowKit Go.Lib in
/-- strings.Count AT A substr OF TWO BYTES OR MORE: "Count counts the number of non-overlapping instances of substr in s.": IT RETURNS 'Lib.count s substr'; the world is as it was. (LAID: no walk: one application.) -/
theorem Tryd.strings_Count (s sub : ByteArray) (m : Int) (w : World) (hs : s.size < 4294967281) (hm : w.cell? ⟨1, 0, none⟩ = some (.int .i64 m)) (h2 : 2 ≤ sub.size) :
    Calls Tryd.prog 159 #[.string s, .string sub] w fun e w' => e = .returned (.int .i64 (Lib.countB s sub)) ∧ w' = w := Any.strings_Count Tryd.lays138 s sub m w hs hm h2
def Tryd.laysM219_ren : Go.Shelf.Ren := ⟨fun | 219 => 164 | 217 => 166 | 225 => 167 | 224 => 168 | 267 => 169 | 266 => 170 | 314 => 171 | n => n, fun | 9 => 9 | 3 => 3 | 4 => 4 | 5 => 5 | 46 => 62 | 146 => 150 | 51 => 127 | n => n, fun | 1 => 1 | n => n⟩
theorem Tryd.laysM219 : Go.Proofs.LaysM.n219 Tryd.prog Tryd.laysM219_ren := {
  mixed := by kernel_rfl
  f217 := Tryd.func166.trans (congrArg some (by kernel_rfl))
  f219 := Tryd.func164.trans (congrArg some (by kernel_rfl))
  f224 := Tryd.func168.trans (congrArg some (by kernel_rfl))
  f225 := Tryd.func167.trans (congrArg some (by kernel_rfl))
  f266 := Tryd.func170.trans (congrArg some (by kernel_rfl))
  f267 := Tryd.func169.trans (congrArg some (by kernel_rfl))
  f314 := Tryd.func171.trans (congrArg some (by kernel_rfl))
  t3 := Tryd.underlying3
  a3 := Tryd.isAgg3
  z3 := Tryd.sizeOf3
  v3 := Tryd.zeroValue3
  t4 := Tryd.underlying4
  a4 := Tryd.isAgg4
  z4 := Tryd.sizeOf4
  v4 := Tryd.zeroValue4
  t5 := Tryd.underlying5
  a5 := Tryd.isAgg5
  z5 := Tryd.sizeOf5
  v5 := Tryd.zeroValue5
  t9 := Tryd.underlying9
  a9 := Tryd.isAgg9
  z9 := Tryd.sizeOf9
  v9 := Tryd.zeroValue9
  t46 := Tryd.underlying62
  a46 := Tryd.isAgg62
  z46 := Tryd.sizeOf62
  v46 := Tryd.zeroValue62
  t51 := Tryd.underlying127
  a51 := Tryd.isAgg127
  z51 := Tryd.sizeOf127
  v51 := Tryd.zeroValue127
  t146 := Tryd.underlying150
  a146 := Tryd.isAgg150
  z146 := Tryd.sizeOf150
  v146 := Tryd.zeroValue150
  g1 := by kernel_rfl
  i3 := by kernel_rfl
  i4 := by kernel_rfl
  i5 := by kernel_rfl
  i9 := by kernel_rfl
  i46 := by kernel_rfl
  i51 := by kernel_rfl
  i146 := by kernel_rfl
  m1 := by kernel_rfl
  s1_3 := fun w h => Go.Proofs.cell_of_shapedOpen_int (zero := #[.int .i64 0]) (t := 3) h (of_decide_eq_true (by kernel_rfl)) (by kernel_rfl) rfl (by kernel_rfl) (by kernel_rfl) Tryd.underlying3 }
open Go.RowKit Go.Lib in
theorem Tryd.stringslite_Index_shaped (s sub : ByteArray) (w : World) (h : w.ShapedOpen Tryd.prog) (hs : s.size < 4294967281) :
    Calls Tryd.prog 164 #[.string s, .string sub] w fun e w' => e = .returned (.int .i64 (Lib.index s.data.toList sub.data.toList)) ∧ w' = w := Any.stringslite_Index_shaped Tryd.laysM219 s sub w h hs
def Tryd.laysM143_ren : Go.Shelf.Ren := ⟨fun | 143 => 160 | 219 => 164 | 217 => 166 | 225 => 167 | 224 => 168 | 267 => 169 | 266 => 170 | 314 => 171 | n => n, fun | 9 => 9 | 3 => 3 | 4 => 4 | 5 => 5 | 46 => 62 | 146 => 150 | 51 => 127 | n => n, fun | 1 => 1 | n => n⟩
theorem Tryd.laysM143 : Go.Proofs.LaysM.n143 Tryd.prog Tryd.laysM143_ren := {
  mixed := by kernel_rfl
  f143 := Tryd.func160.trans (congrArg some (by kernel_rfl))
  f217 := Tryd.func166.trans (congrArg some (by kernel_rfl))
  f219 := Tryd.func164.trans (congrArg some (by kernel_rfl))
  f224 := Tryd.func168.trans (congrArg some (by kernel_rfl))
  f225 := Tryd.func167.trans (congrArg some (by kernel_rfl))
  f266 := Tryd.func170.trans (congrArg some (by kernel_rfl))
  f267 := Tryd.func169.trans (congrArg some (by kernel_rfl))
  f314 := Tryd.func171.trans (congrArg some (by kernel_rfl))
  t3 := Tryd.underlying3
  a3 := Tryd.isAgg3
  z3 := Tryd.sizeOf3
  v3 := Tryd.zeroValue3
  t4 := Tryd.underlying4
  a4 := Tryd.isAgg4
  z4 := Tryd.sizeOf4
  v4 := Tryd.zeroValue4
  t5 := Tryd.underlying5
  a5 := Tryd.isAgg5
  z5 := Tryd.sizeOf5
  v5 := Tryd.zeroValue5
  t9 := Tryd.underlying9
  a9 := Tryd.isAgg9
  z9 := Tryd.sizeOf9
  v9 := Tryd.zeroValue9
  t46 := Tryd.underlying62
  a46 := Tryd.isAgg62
  z46 := Tryd.sizeOf62
  v46 := Tryd.zeroValue62
  t51 := Tryd.underlying127
  a51 := Tryd.isAgg127
  z51 := Tryd.sizeOf127
  v51 := Tryd.zeroValue127
  t146 := Tryd.underlying150
  a146 := Tryd.isAgg150
  z146 := Tryd.sizeOf150
  v146 := Tryd.zeroValue150
  g1 := by kernel_rfl
  i3 := by kernel_rfl
  i4 := by kernel_rfl
  i5 := by kernel_rfl
  i9 := by kernel_rfl
  i46 := by kernel_rfl
  i51 := by kernel_rfl
  i146 := by kernel_rfl
  m1 := by kernel_rfl
  s1_3 := fun w h => Go.Proofs.cell_of_shapedOpen_int (zero := #[.int .i64 0]) (t := 3) h (of_decide_eq_true (by kernel_rfl)) (by kernel_rfl) rfl (by kernel_rfl) (by kernel_rfl) Tryd.underlying3 }
open Go.RowKit Go.Lib in
theorem Tryd.strings_Index_shaped (s sub : ByteArray) (w : World) (h : w.ShapedOpen Tryd.prog) (hs : s.size < 4294967281) :
    Calls Tryd.prog 160 #[.string s, .string sub] w fun e w' => e = .returned (.int .i64 (Lib.index s.data.toList sub.data.toList)) ∧ w' = w := Any.strings_Index_shaped Tryd.laysM143 s sub w h hs
def Tryd.laysM138_ren : Go.Shelf.Ren := ⟨fun | 138 => 159 | 195 => 161 | 218 => 163 | 143 => 160 | 219 => 164 | 217 => 166 | 225 => 167 | 224 => 168 | 267 => 169 | 266 => 170 | 314 => 171 | n => n, fun | 9 => 9 | 3 => 3 | 4 => 4 | 5 => 5 | 0 => 0 | 46 => 62 | 146 => 150 | 51 => 127 | n => n, fun | 1 => 1 | n => n⟩
theorem Tryd.laysM138 : Go.Proofs.LaysM.n138 Tryd.prog Tryd.laysM138_ren := {
  mixed := by kernel_rfl
  f138 := Tryd.func159.trans (congrArg some (by kernel_rfl))
  f143 := Tryd.func160.trans (congrArg some (by kernel_rfl))
  f195 := Tryd.func161.trans (congrArg some (by kernel_rfl))
  f217 := Tryd.func166.trans (congrArg some (by kernel_rfl))
  f218 := Tryd.func163.trans (congrArg some (by kernel_rfl))
  f219 := Tryd.func164.trans (congrArg some (by kernel_rfl))
  f224 := Tryd.func168.trans (congrArg some (by kernel_rfl))
  f225 := Tryd.func167.trans (congrArg some (by kernel_rfl))
  f266 := Tryd.func170.trans (congrArg some (by kernel_rfl))
  f267 := Tryd.func169.trans (congrArg some (by kernel_rfl))
  f314 := Tryd.func171.trans (congrArg some (by kernel_rfl))
  t0 := Tryd.underlying0
  a0 := Tryd.isAgg0
  z0 := Tryd.sizeOf0
  v0 := Tryd.zeroValue0
  t3 := Tryd.underlying3
  a3 := Tryd.isAgg3
  z3 := Tryd.sizeOf3
  v3 := Tryd.zeroValue3
  t4 := Tryd.underlying4
  a4 := Tryd.isAgg4
  z4 := Tryd.sizeOf4
  v4 := Tryd.zeroValue4
  t5 := Tryd.underlying5
  a5 := Tryd.isAgg5
  z5 := Tryd.sizeOf5
  v5 := Tryd.zeroValue5
  t9 := Tryd.underlying9
  a9 := Tryd.isAgg9
  z9 := Tryd.sizeOf9
  v9 := Tryd.zeroValue9
  t46 := Tryd.underlying62
  a46 := Tryd.isAgg62
  z46 := Tryd.sizeOf62
  v46 := Tryd.zeroValue62
  t51 := Tryd.underlying127
  a51 := Tryd.isAgg127
  z51 := Tryd.sizeOf127
  v51 := Tryd.zeroValue127
  t146 := Tryd.underlying150
  a146 := Tryd.isAgg150
  z146 := Tryd.sizeOf150
  v146 := Tryd.zeroValue150
  g1 := by kernel_rfl
  i0 := by kernel_rfl
  i3 := by kernel_rfl
  i4 := by kernel_rfl
  i5 := by kernel_rfl
  i9 := by kernel_rfl
  i46 := by kernel_rfl
  i51 := by kernel_rfl
  i146 := by kernel_rfl
  m1 := by kernel_rfl
  s1_3 := fun w h => Go.Proofs.cell_of_shapedOpen_int (zero := #[.int .i64 0]) (t := 3) h (of_decide_eq_true (by kernel_rfl)) (by kernel_rfl) rfl (by kernel_rfl) (by kernel_rfl) Tryd.underlying3 }
open Go.RowKit Go.Lib in
theorem Tryd.strings_Count_shaped (s sub : ByteArray) (w : World) (h : w.ShapedOpen Tryd.prog) (hs : s.size < 4294967281) (h2 : 2 ≤ sub.size) :
    Calls Tryd.prog 159 #[.string s, .string sub] w fun e w' => e = .returned (.int .i64 (Lib.countB s sub)) ∧ w' = w := Any.strings_Count_shaped Tryd.laysM138 s sub w h hs h2
open Go.RowKit Go.Lib in
/-- strings.Count at whatever sep that is not empty: the two roads under one statement. (LAID: no walk: one application.) -/
theorem Tryd.strings_Count_any (s sep : ByteArray) (m : Int) (w : World) (hs : s.size < 4294967281) (hm : w.cell? ⟨1, 0, none⟩ = some (.int .i64 m)) (h1 : 1 ≤ sep.size) :
    Calls Tryd.prog 159 #[.string s, .string sep] w fun e w' => e = .returned (.int .i64 (Lib.countB s sep)) ∧ w' = w := Any.strings_Count_any Tryd.lays138 s sep m w hs hm h1
def Tryd.lays221_ren : Go.Shelf.Ren := ⟨fun | 221 => 155 | 268 => 158 | 138 => 159 | 143 => 160 | 195 => 161 | 197 => 162 | 218 => 163 | 219 => 164 | 260 => 165 | 217 => 166 | 225 => 167 | 224 => 168 | 267 => 169 | 266 => 170 | 314 => 171 | n => n, fun | 9 => 9 | 3 => 3 | 31 => 74 | 4 => 4 | 0 => 0 | 105 => 143 | 21 => 21 | 5 => 5 | 46 => 62 | 119 => 146 | 139 => 149 | 138 => 148 | 146 => 150 | 51 => 127 | n => n, fun | 1 => 1 | 3 => 2 | 4 => 3 | n => n⟩
theorem Tryd.lays221 : Go.Proofs.Lays.n221 Tryd.prog Tryd.lays221_ren := {
  mixed := by kernel_rfl
  f138 := Tryd.func159.trans (congrArg some (by kernel_rfl))
  f143 := Tryd.func160.trans (congrArg some (by kernel_rfl))
  f195 := Tryd.func161.trans (congrArg some (by kernel_rfl))
  f197 := Tryd.func162.trans (congrArg some (by kernel_rfl))
  f217 := Tryd.func166.trans (congrArg some (by kernel_rfl))
  f218 := Tryd.func163.trans (congrArg some (by kernel_rfl))
  f219 := Tryd.func164.trans (congrArg some (by kernel_rfl))
  f221 := Tryd.func155.trans (congrArg some (by kernel_rfl))
  f224 := Tryd.func168.trans (congrArg some (by kernel_rfl))
  f225 := Tryd.func167.trans (congrArg some (by kernel_rfl))
  f260 := Tryd.func165.trans (congrArg some (by kernel_rfl))
  f266 := Tryd.func170.trans (congrArg some (by kernel_rfl))
  f267 := Tryd.func169.trans (congrArg some (by kernel_rfl))
  f268 := Tryd.func158.trans (congrArg some (by kernel_rfl))
  f314 := Tryd.func171.trans (congrArg some (by kernel_rfl))
  t0 := Tryd.underlying0
  a0 := Tryd.isAgg0
  z0 := Tryd.sizeOf0
  v0 := Tryd.zeroValue0
  t3 := Tryd.underlying3
  a3 := Tryd.isAgg3
  z3 := Tryd.sizeOf3
  v3 := Tryd.zeroValue3
  t4 := Tryd.underlying4
  a4 := Tryd.isAgg4
  z4 := Tryd.sizeOf4
  v4 := Tryd.zeroValue4
  t5 := Tryd.underlying5
  a5 := Tryd.isAgg5
  z5 := Tryd.sizeOf5
  v5 := Tryd.zeroValue5
  t9 := Tryd.underlying9
  a9 := Tryd.isAgg9
  z9 := Tryd.sizeOf9
  v9 := Tryd.zeroValue9
  t21 := Tryd.underlying21
  a21 := Tryd.isAgg21
  z21 := Tryd.sizeOf21
  v21 := Tryd.zeroValue21
  t31 := Tryd.underlying74
  a31 := Tryd.isAgg74
  z31 := Tryd.sizeOf74
  v31 := Tryd.zeroValue74
  t46 := Tryd.underlying62
  a46 := Tryd.isAgg62
  z46 := Tryd.sizeOf62
  v46 := Tryd.zeroValue62
  t51 := Tryd.underlying127
  a51 := Tryd.isAgg127
  z51 := Tryd.sizeOf127
  v51 := Tryd.zeroValue127
  t105 := Tryd.underlying143
  a105 := Tryd.isAgg143
  z105 := Tryd.sizeOf143
  v105 := Tryd.zeroValue143
  t119 := Tryd.underlying146
  a119 := Tryd.isAgg146
  z119 := Tryd.sizeOf146
  t138 := Tryd.underlying148
  a138 := Tryd.isAgg148
  z138 := Tryd.sizeOf148
  v138 := Tryd.zeroValue148
  t139 := Tryd.underlying149
  a139 := Tryd.isAgg149
  z139 := Tryd.sizeOf149
  v139 := Tryd.zeroValue149
  t146 := Tryd.underlying150
  a146 := Tryd.isAgg150
  z146 := Tryd.sizeOf150
  v146 := Tryd.zeroValue150
  g1 := by kernel_rfl
  g3 := by kernel_rfl
  g4 := by kernel_rfl }
open Go.RowKit Go.Lib in
theorem Tryd.strings_genSplit (s sep : ByteArray) (sv : Nat) (n : Int) (N : Nat) (m : Int) (w : World) (hs : s.size < 4294967281) (hm : w.cell? ⟨1, 0, none⟩ = some (.int .i64 m)) (h1 : 1 ≤ sep.size) (hsv : sv ≤ sep.size) (hn0 : n ≠ 0) (hn63 : n ≤ 9223372036854775807) (hN : (N : Int) = min (if n < 0 then (Lib.countB s sep : Int) + 1 else n) ((s.size : Int) + 1)) :
    Calls Tryd.prog 155 #[.string s, .string sep, .int .i64 sv, .int .i64 n] w fun e w' =>
      e = .returned (.slice (some ⟨w.heap.size, 0, none⟩) (Lib.splitB sep sv (N - 1) s).length N) ∧ w' = w.alloc (.cells (Lib.cellsOf (Lib.splitB sep sv (N - 1) s) N) 9) := Any.strings_genSplit Tryd.lays221 (by kernel_rfl) s sep sv n N m w hs hm h1 hsv hn0 hn63 hN
def Tryd.lays146_ren : Go.Shelf.Ren := ⟨fun | 146 => 139 | 221 => 155 | 268 => 158 | 138 => 159 | 143 => 160 | 195 => 161 | 197 => 162 | 218 => 163 | 219 => 164 | 260 => 165 | 217 => 166 | 225 => 167 | 224 => 168 | 267 => 169 | 266 => 170 | 314 => 171 | n => n, fun | 9 => 9 | 31 => 74 | 3 => 3 | 4 => 4 | 0 => 0 | 105 => 143 | 21 => 21 | 5 => 5 | 46 => 62 | 119 => 146 | 139 => 149 | 138 => 148 | 146 => 150 | 51 => 127 | n => n, fun | 1 => 1 | 3 => 2 | 4 => 3 | n => n⟩
theorem Tryd.lays146 : Go.Proofs.Lays.n146 Tryd.prog Tryd.lays146_ren := {
  mixed := by kernel_rfl
  f138 := Tryd.func159.trans (congrArg some (by kernel_rfl))
  f143 := Tryd.func160.trans (congrArg some (by kernel_rfl))
  f146 := Tryd.func139.trans (congrArg some (by kernel_rfl))
  f195 := Tryd.func161.trans (congrArg some (by kernel_rfl))
  f197 := Tryd.func162.trans (congrArg some (by kernel_rfl))
  f217 := Tryd.func166.trans (congrArg some (by kernel_rfl))
  f218 := Tryd.func163.trans (congrArg some (by kernel_rfl))
  f219 := Tryd.func164.trans (congrArg some (by kernel_rfl))
  f221 := Tryd.func155.trans (congrArg some (by kernel_rfl))
  f224 := Tryd.func168.trans (congrArg some (by kernel_rfl))
  f225 := Tryd.func167.trans (congrArg some (by kernel_rfl))
  f260 := Tryd.func165.trans (congrArg some (by kernel_rfl))
  f266 := Tryd.func170.trans (congrArg some (by kernel_rfl))
  f267 := Tryd.func169.trans (congrArg some (by kernel_rfl))
  f268 := Tryd.func158.trans (congrArg some (by kernel_rfl))
  f314 := Tryd.func171.trans (congrArg some (by kernel_rfl))
  t0 := Tryd.underlying0
  a0 := Tryd.isAgg0
  z0 := Tryd.sizeOf0
  v0 := Tryd.zeroValue0
  t3 := Tryd.underlying3
  a3 := Tryd.isAgg3
  z3 := Tryd.sizeOf3
  v3 := Tryd.zeroValue3
  t4 := Tryd.underlying4
  a4 := Tryd.isAgg4
  z4 := Tryd.sizeOf4
  v4 := Tryd.zeroValue4
  t5 := Tryd.underlying5
  a5 := Tryd.isAgg5
  z5 := Tryd.sizeOf5
  v5 := Tryd.zeroValue5
  t9 := Tryd.underlying9
  a9 := Tryd.isAgg9
  z9 := Tryd.sizeOf9
  v9 := Tryd.zeroValue9
  t21 := Tryd.underlying21
  a21 := Tryd.isAgg21
  z21 := Tryd.sizeOf21
  v21 := Tryd.zeroValue21
  t31 := Tryd.underlying74
  a31 := Tryd.isAgg74
  z31 := Tryd.sizeOf74
  v31 := Tryd.zeroValue74
  t46 := Tryd.underlying62
  a46 := Tryd.isAgg62
  z46 := Tryd.sizeOf62
  v46 := Tryd.zeroValue62
  t51 := Tryd.underlying127
  a51 := Tryd.isAgg127
  z51 := Tryd.sizeOf127
  v51 := Tryd.zeroValue127
  t105 := Tryd.underlying143
  a105 := Tryd.isAgg143
  z105 := Tryd.sizeOf143
  v105 := Tryd.zeroValue143
  t119 := Tryd.underlying146
  a119 := Tryd.isAgg146
  z119 := Tryd.sizeOf146
  t138 := Tryd.underlying148
  a138 := Tryd.isAgg148
  z138 := Tryd.sizeOf148
  v138 := Tryd.zeroValue148
  t139 := Tryd.underlying149
  a139 := Tryd.isAgg149
  z139 := Tryd.sizeOf149
  v139 := Tryd.zeroValue149
  t146 := Tryd.underlying150
  a146 := Tryd.isAgg150
  z146 := Tryd.sizeOf150
  v146 := Tryd.zeroValue150
  g1 := by kernel_rfl
  g3 := by kernel_rfl
  g4 := by kernel_rfl }
open Go.RowKit Go.Lib in
/-- strings.Split. (LAID: no walk: one application.) -/
theorem Tryd.strings_Split (s sep : ByteArray) (m : Int) (w : World) (hs : s.size < 4294967281) (hm : w.cell? ⟨1, 0, none⟩ = some (.int .i64 m)) (h1 : 1 ≤ sep.size) :
    Calls Tryd.prog 139 #[.string s, .string sep] w fun e w' =>
      e = .returned (.slice (some ⟨w.heap.size, 0, none⟩) (Lib.countB s sep + 1) (Lib.countB s sep + 1)) ∧ w' = w.alloc (.cells ((Lib.splitB sep 0 (Lib.countB s sep) s).map Value.string).toArray 9) := Any.strings_Split Tryd.lays146 (by kernel_rfl) s sep m w hs hm h1
def Tryd.laysM146_ren : Go.Shelf.Ren := ⟨fun | 146 => 139 | 221 => 155 | 268 => 158 | 138 => 159 | 143 => 160 | 195 => 161 | 197 => 162 | 218 => 163 | 219 => 164 | 260 => 165 | 217 => 166 | 225 => 167 | 224 => 168 | 267 => 169 | 266 => 170 | 314 => 171 | n => n, fun | 9 => 9 | 31 => 74 | 3 => 3 | 4 => 4 | 0 => 0 | 105 => 143 | 21 => 21 | 5 => 5 | 46 => 62 | 119 => 146 | 139 => 149 | 138 => 148 | 146 => 150 | 51 => 127 | n => n, fun | 1 => 1 | 3 => 2 | 4 => 3 | n => n⟩
theorem Tryd.laysM146 : Go.Proofs.LaysM.n146 Tryd.prog Tryd.laysM146_ren := {
  mixed := by kernel_rfl
  f138 := Tryd.func159.trans (congrArg some (by kernel_rfl))
  f143 := Tryd.func160.trans (congrArg some (by kernel_rfl))
  f146 := Tryd.func139.trans (congrArg some (by kernel_rfl))
  f195 := Tryd.func161.trans (congrArg some (by kernel_rfl))
  f197 := Tryd.func162.trans (congrArg some (by kernel_rfl))
  f217 := Tryd.func166.trans (congrArg some (by kernel_rfl))
  f218 := Tryd.func163.trans (congrArg some (by kernel_rfl))
  f219 := Tryd.func164.trans (congrArg some (by kernel_rfl))
  f221 := Tryd.func155.trans (congrArg some (by kernel_rfl))
  f224 := Tryd.func168.trans (congrArg some (by kernel_rfl))
  f225 := Tryd.func167.trans (congrArg some (by kernel_rfl))
  f260 := Tryd.func165.trans (congrArg some (by kernel_rfl))
  f266 := Tryd.func170.trans (congrArg some (by kernel_rfl))
  f267 := Tryd.func169.trans (congrArg some (by kernel_rfl))
  f268 := Tryd.func158.trans (congrArg some (by kernel_rfl))
  f314 := Tryd.func171.trans (congrArg some (by kernel_rfl))
  t0 := Tryd.underlying0
  a0 := Tryd.isAgg0
  z0 := Tryd.sizeOf0
  v0 := Tryd.zeroValue0
  t3 := Tryd.underlying3
  a3 := Tryd.isAgg3
  z3 := Tryd.sizeOf3
  v3 := Tryd.zeroValue3
  t4 := Tryd.underlying4
  a4 := Tryd.isAgg4
  z4 := Tryd.sizeOf4
  v4 := Tryd.zeroValue4
  t5 := Tryd.underlying5
  a5 := Tryd.isAgg5
  z5 := Tryd.sizeOf5
  v5 := Tryd.zeroValue5
  t9 := Tryd.underlying9
  a9 := Tryd.isAgg9
  z9 := Tryd.sizeOf9
  v9 := Tryd.zeroValue9
  t21 := Tryd.underlying21
  a21 := Tryd.isAgg21
  z21 := Tryd.sizeOf21
  v21 := Tryd.zeroValue21
  t31 := Tryd.underlying74
  a31 := Tryd.isAgg74
  z31 := Tryd.sizeOf74
  v31 := Tryd.zeroValue74
  t46 := Tryd.underlying62
  a46 := Tryd.isAgg62
  z46 := Tryd.sizeOf62
  v46 := Tryd.zeroValue62
  t51 := Tryd.underlying127
  a51 := Tryd.isAgg127
  z51 := Tryd.sizeOf127
  v51 := Tryd.zeroValue127
  t105 := Tryd.underlying143
  a105 := Tryd.isAgg143
  z105 := Tryd.sizeOf143
  v105 := Tryd.zeroValue143
  t119 := Tryd.underlying146
  a119 := Tryd.isAgg146
  z119 := Tryd.sizeOf146
  t138 := Tryd.underlying148
  a138 := Tryd.isAgg148
  z138 := Tryd.sizeOf148
  v138 := Tryd.zeroValue148
  t139 := Tryd.underlying149
  a139 := Tryd.isAgg149
  z139 := Tryd.sizeOf149
  v139 := Tryd.zeroValue149
  t146 := Tryd.underlying150
  a146 := Tryd.isAgg150
  z146 := Tryd.sizeOf150
  v146 := Tryd.zeroValue150
  g1 := by kernel_rfl
  g3 := by kernel_rfl
  g4 := by kernel_rfl
  i0 := by kernel_rfl
  i3 := by kernel_rfl
  i4 := by kernel_rfl
  i5 := by kernel_rfl
  i9 := by kernel_rfl
  i21 := by kernel_rfl
  i31 := by kernel_rfl
  i46 := by kernel_rfl
  i51 := by kernel_rfl
  i105 := by kernel_rfl
  i138 := by kernel_rfl
  i139 := by kernel_rfl
  i146 := by kernel_rfl
  m1 := by kernel_rfl
  s1_3 := fun w h => Go.Proofs.cell_of_shapedOpen_int (zero := #[.int .i64 0]) (t := 3) h (of_decide_eq_true (by kernel_rfl)) (by kernel_rfl) rfl (by kernel_rfl) (by kernel_rfl) Tryd.underlying3
  m3 := by kernel_rfl
  m4 := by kernel_rfl }
open Go.RowKit Go.Lib in
/-- strings.Split, sep not empty. (LAID: no walk: one application.) -/
theorem Tryd.strings_Split_shaped (s sep : ByteArray) (w : World) (h : w.ShapedOpen Tryd.prog) (hs : s.size < 4294967281) (h1 : 1 ≤ sep.size) :
    Calls Tryd.prog 139 #[.string s, .string sep] w fun e w' =>
      e = .returned (.slice (some ⟨w.heap.size, 0, none⟩) (Lib.countB s sep + 1) (Lib.countB s sep + 1)) ∧ w' = w.alloc (.cells ((Lib.splitB sep 0 (Lib.countB s sep) s).map Value.string).toArray 9) := Any.strings_Split_shaped Tryd.laysM146 s sep w h hs h1
def Tryd.lays197_ren : Go.Shelf.Ren := ⟨fun | 197 => 162 | 260 => 165 | n => n, fun | 9 => 9 | 21 => 21 | 3 => 3 | 4 => 4 | 5 => 5 | 105 => 143 | 119 => 146 | 0 => 0 | 46 => 62 | 139 => 149 | 138 => 148 | n => n, fun | 3 => 2 | 4 => 3 | n => n⟩
theorem Tryd.lays197 : Go.Proofs.Lays.n197 Tryd.prog Tryd.lays197_ren := {
  mixed := by kernel_rfl
  f197 := Tryd.func162.trans (congrArg some (by kernel_rfl))
  f260 := Tryd.func165.trans (congrArg some (by kernel_rfl))
  t0 := Tryd.underlying0
  a0 := Tryd.isAgg0
  z0 := Tryd.sizeOf0
  v0 := Tryd.zeroValue0
  t3 := Tryd.underlying3
  a3 := Tryd.isAgg3
  z3 := Tryd.sizeOf3
  v3 := Tryd.zeroValue3
  t4 := Tryd.underlying4
  a4 := Tryd.isAgg4
  z4 := Tryd.sizeOf4
  v4 := Tryd.zeroValue4
  t5 := Tryd.underlying5
  a5 := Tryd.isAgg5
  z5 := Tryd.sizeOf5
  v5 := Tryd.zeroValue5
  t9 := Tryd.underlying9
  a9 := Tryd.isAgg9
  z9 := Tryd.sizeOf9
  v9 := Tryd.zeroValue9
  t21 := Tryd.underlying21
  a21 := Tryd.isAgg21
  z21 := Tryd.sizeOf21
  v21 := Tryd.zeroValue21
  t46 := Tryd.underlying62
  a46 := Tryd.isAgg62
  z46 := Tryd.sizeOf62
  v46 := Tryd.zeroValue62
  t105 := Tryd.underlying143
  a105 := Tryd.isAgg143
  z105 := Tryd.sizeOf143
  v105 := Tryd.zeroValue143
  t119 := Tryd.underlying146
  a119 := Tryd.isAgg146
  z119 := Tryd.sizeOf146
  t138 := Tryd.underlying148
  a138 := Tryd.isAgg148
  z138 := Tryd.sizeOf148
  v138 := Tryd.zeroValue148
  t139 := Tryd.underlying149
  a139 := Tryd.isAgg149
  z139 := Tryd.sizeOf149
  v139 := Tryd.zeroValue149
  g3 := by kernel_rfl
  g4 := by kernel_rfl }
open Go.RowKit Go.Lib in
/-- unicode/utf8.DecodeRuneInString: "DecodeRuneInString is like DecodeRune but its input is a string.": ("DecodeRune unpacks the first UTF-8 encoding in p and returns the rune and its width in bytes."): WHERE s BEGINS WITH AN ASCII BYTE x: (x, 1). (LAID: no walk: one application.) -/
theorem Tryd.utf8_DecodeRuneInString_ascii (s : ByteArray) (x : UInt8) (w : World) (h0 : s.data.toList[0]? = some x) (hx : x.toNat < 128) :
    Calls Tryd.prog 162 #[.string s] w fun e w' => e = .returned (.tuple #[.int .i32 x.toNat, .int .i64 1]) ∧ w' = w := Any.utf8_DecodeRuneInString_ascii Tryd.lays197 s x w h0 hx
open Go.RowKit Go.Lib in
theorem Tryd.utf8_RuneCountInString_ascii (s : ByteArray) (w : World) (hs : s.size < 4294967281) (hascii : ∀ (j : Nat) b, s.data.toList[j]? = some b → b.toNat < 128) :
    Calls Tryd.prog 161 #[.string s] w fun e w' => e = .returned (.int .i64 s.size) ∧ w' = w.iter s s.size := Any.utf8_RuneCountInString_ascii Tryd.lays195 s w hs hascii
def Tryd.lays268_ren : Go.Shelf.Ren := ⟨fun | 268 => 158 | 195 => 161 | 197 => 162 | 260 => 165 | n => n, fun | 9 => 9 | 3 => 3 | 31 => 74 | 4 => 4 | 105 => 143 | 21 => 21 | 0 => 0 | 5 => 5 | 119 => 146 | 46 => 62 | 139 => 149 | 138 => 148 | n => n, fun | 3 => 2 | 4 => 3 | n => n⟩
theorem Tryd.lays268 : Go.Proofs.Lays.n268 Tryd.prog Tryd.lays268_ren := {
  mixed := by kernel_rfl
  f195 := Tryd.func161.trans (congrArg some (by kernel_rfl))
  f197 := Tryd.func162.trans (congrArg some (by kernel_rfl))
  f260 := Tryd.func165.trans (congrArg some (by kernel_rfl))
  f268 := Tryd.func158.trans (congrArg some (by kernel_rfl))
  t0 := Tryd.underlying0
  a0 := Tryd.isAgg0
  z0 := Tryd.sizeOf0
  v0 := Tryd.zeroValue0
  t3 := Tryd.underlying3
  a3 := Tryd.isAgg3
  z3 := Tryd.sizeOf3
  v3 := Tryd.zeroValue3
  t4 := Tryd.underlying4
  a4 := Tryd.isAgg4
  z4 := Tryd.sizeOf4
  v4 := Tryd.zeroValue4
  t5 := Tryd.underlying5
  a5 := Tryd.isAgg5
  z5 := Tryd.sizeOf5
  v5 := Tryd.zeroValue5
  t9 := Tryd.underlying9
  a9 := Tryd.isAgg9
  z9 := Tryd.sizeOf9
  v9 := Tryd.zeroValue9
  t21 := Tryd.underlying21
  a21 := Tryd.isAgg21
  z21 := Tryd.sizeOf21
  v21 := Tryd.zeroValue21
  t31 := Tryd.underlying74
  a31 := Tryd.isAgg74
  z31 := Tryd.sizeOf74
  v31 := Tryd.zeroValue74
  t46 := Tryd.underlying62
  a46 := Tryd.isAgg62
  z46 := Tryd.sizeOf62
  v46 := Tryd.zeroValue62
  t105 := Tryd.underlying143
  a105 := Tryd.isAgg143
  z105 := Tryd.sizeOf143
  v105 := Tryd.zeroValue143
  t119 := Tryd.underlying146
  a119 := Tryd.isAgg146
  z119 := Tryd.sizeOf146
  t138 := Tryd.underlying148
  a138 := Tryd.isAgg148
  z138 := Tryd.sizeOf148
  v138 := Tryd.zeroValue148
  t139 := Tryd.underlying149
  a139 := Tryd.isAgg149
  z139 := Tryd.sizeOf149
  v139 := Tryd.zeroValue149
  g3 := by kernel_rfl
  g4 := by kernel_rfl }
open Go.RowKit Go.Lib in
theorem Tryd.strings_explode_all (s : ByteArray) (n : Int) (w : World) (hn : n < 0) (hs : s.size < 4294967281) (hascii : ∀ (j : Nat) b, s.data.toList[j]? = some b → b.toNat < 128) :
    Calls Tryd.prog 158 #[.string s, .int .i64 n] w fun e w' =>
      e = .returned (.slice (some ⟨(w.iter s s.size).heap.size, 0, none⟩) s.size s.size) ∧ w' = (w.iter s s.size).alloc (.cells ((Lib.charsB s).map Value.string).toArray 9) := Any.strings_explode_all Tryd.lays268 (by kernel_rfl) s n w hn hs hascii
open Go.RowKit Go.Lib in
/-- strings.genSplit at sep == "", n < 0: 'return explode(s, n)'. (LAID: no walk: one application.) -/
theorem Tryd.strings_genSplit_chars (s sep : ByteArray) (sv n : Int) (w : World) (h0 : sep.size = 0) (hn : n < 0) (hs : s.size < 4294967281) (hascii : ∀ (j : Nat) b, s.data.toList[j]? = some b → b.toNat < 128) :
    Calls Tryd.prog 155 #[.string s, .string sep, .int .i64 sv, .int .i64 n] w fun e w' =>
      e = .returned (.slice (some ⟨(w.iter s s.size).heap.size, 0, none⟩) s.size s.size) ∧ w' = (w.iter s s.size).alloc (.cells ((Lib.charsB s).map Value.string).toArray 9) := Any.strings_genSplit_chars Tryd.lays221 (by kernel_rfl) s sep sv n w h0 hn hs hascii
open Go.RowKit Go.Lib in
/-- strings.Split(s, ""), s ASCII: a piece a byte. (LAID: no walk: one application.) -/
theorem Tryd.strings_Split_chars (s sep : ByteArray) (w : World) (h0 : sep.size = 0) (hs : s.size < 4294967281) (hascii : ∀ (j : Nat) b, s.data.toList[j]? = some b → b.toNat < 128) :
    Calls Tryd.prog 139 #[.string s, .string sep] w fun e w' =>
      e = .returned (.slice (some ⟨(w.iter s s.size).heap.size, 0, none⟩) s.size s.size) ∧ w' = (w.iter s s.size).alloc (.cells ((Lib.charsB s).map Value.string).toArray 9) := Any.strings_Split_chars Tryd.lays146 (by kernel_rfl) s sep w h0 hs hascii
def Tryd.lays260_ren : Go.Shelf.Ren := ⟨fun | 260 => 165 | n => n, fun | 9 => 9 | 21 => 21 | 3 => 3 | 4 => 4 | 5 => 5 | 119 => 146 | 0 => 0 | 46 => 62 | 139 => 149 | 138 => 148 | n => n, fun | 3 => 2 | 4 => 3 | n => n⟩
theorem Tryd.lays260 : Go.Proofs.Lays.n260 Tryd.prog Tryd.lays260_ren := {
  mixed := by kernel_rfl
  f260 := Tryd.func165.trans (congrArg some (by kernel_rfl))
  t0 := Tryd.underlying0
  a0 := Tryd.isAgg0
  z0 := Tryd.sizeOf0
  v0 := Tryd.zeroValue0
  t3 := Tryd.underlying3
  a3 := Tryd.isAgg3
  z3 := Tryd.sizeOf3
  v3 := Tryd.zeroValue3
  t4 := Tryd.underlying4
  a4 := Tryd.isAgg4
  z4 := Tryd.sizeOf4
  v4 := Tryd.zeroValue4
  t5 := Tryd.underlying5
  a5 := Tryd.isAgg5
  z5 := Tryd.sizeOf5
  v5 := Tryd.zeroValue5
  t9 := Tryd.underlying9
  a9 := Tryd.isAgg9
  z9 := Tryd.sizeOf9
  v9 := Tryd.zeroValue9
  t21 := Tryd.underlying21
  a21 := Tryd.isAgg21
  z21 := Tryd.sizeOf21
  v21 := Tryd.zeroValue21
  t46 := Tryd.underlying62
  a46 := Tryd.isAgg62
  z46 := Tryd.sizeOf62
  v46 := Tryd.zeroValue62
  t119 := Tryd.underlying146
  a119 := Tryd.isAgg146
  z119 := Tryd.sizeOf146
  t138 := Tryd.underlying148
  a138 := Tryd.isAgg148
  z138 := Tryd.sizeOf148
  v138 := Tryd.zeroValue148
  t139 := Tryd.underlying149
  a139 := Tryd.isAgg149
  z139 := Tryd.sizeOf149
  v139 := Tryd.zeroValue149
  g3 := by kernel_rfl
  g4 := by kernel_rfl }
open Go.RowKit Go.Lib in
theorem Tryd.utf8_decodeRuneInStringSlow (s : ByteArray) (w : World) (hT : Lib.Utf8Tabs 2 3 w) :
    Calls Tryd.prog 165 #[.string s] w fun e w' => e = .returned (.tuple #[.int .i32 (Lib.decodeGo s).1, .int .i64 (Lib.decodeGo s).2]) ∧ Below w.heap.size w w' := Any.utf8_decodeRuneInStringSlow Tryd.lays260 s w hT
open Go.RowKit Go.Lib in
/-- **unicode/utf8.DecodeRuneInString AT EVERY STRING.** (LAID: no walk: one application.) -/
theorem Tryd.utf8_DecodeRuneInString (s : ByteArray) (w : World) (hT : Lib.Utf8Tabs 2 3 w) :
    Calls Tryd.prog 162 #[.string s] w fun e w' => e = .returned (.tuple #[.int .i32 (Lib.decodeGo s).1, .int .i64 (Lib.decodeGo s).2]) ∧ Below w.heap.size w w' := Any.utf8_DecodeRuneInString Tryd.lays197 s w hT
end Go.Proofs

/- Names cut at slashes: both programs' NameOk answer the plain one. Conditions: the size of the text; the cell that holds the library's length (any number). -/
namespace Go.Proofs.YtncidljdfipigaaDoor.Nm
open Go.RowKit Go.Proofs.YtncidljdfipigaaDoor.Mem
set_option linter.unusedVariables false
set_option linter.unusedSimpArgs false
/-- A text cut at slashes. -/
def parts : List UInt8 → List (List UInt8)
  | [] => [[]]
  | b :: t => if b = 47 then [] :: parts t else match parts t with
    | [] => [[b]]
    | p :: r => (b :: p) :: r
theorem parts_ne (l : List UInt8) : parts l ≠ [] := by
  cases l with
  | nil => simp [parts]
  | cons b t => unfold parts; split; · simp
                split <;> simp
theorem parts_slash : ∀ (a b : List UInt8), (47 : UInt8) ∉ a → parts (a ++ 47 :: b) = a :: parts b
  | [], b, _ => by simp [parts]
  | x :: a, b, h => by
    have hx : x ≠ 47 := fun e => h (by simp [e])
    have ih := parts_slash a b (fun e => h (List.mem_cons_of_mem _ e))
    simp only [List.cons_append, parts, if_neg hx, ih]
theorem parts_one : ∀ (a : List UInt8), (47 : UInt8) ∉ a → parts a = [a]
  | [], _ => rfl
  | x :: a, h => by
    have hx : x ≠ 47 := fun e => h (by simp [e])
    have ih := parts_one a (fun e => h (List.mem_cons_of_mem _ e))
    simp only [parts, if_neg hx, ih]
theorem parts_append : ∀ (a b : List UInt8), parts (a ++ 47 :: b) = parts a ++ parts b
  | [], b => by simp [parts]
  | x :: a, b => by
    have ih := parts_append a b
    by_cases hx : x = 47
    · simp only [List.cons_append, parts, if_pos hx, ih, List.cons_append]
    · simp only [List.cons_append, parts, if_neg hx, ih]
      cases h : parts a with
      | nil => exact absurd h (parts_ne a)
      | cons p r => simp
def nameOk (l : List UInt8) : Bool := (parts l).all partOk && decide ((parts l).length ≤ 4)
theorem parts_len (l : List UInt8) : (parts l).length ≤ l.length + 1 := by
  induction l with
  | nil => simp [parts]
  | cons b t ih =>
    unfold parts; split
    · simp; omega
    · split <;> simp_all <;> omega
theorem cut_step {l done : List (List UInt8)} {s : List UInt8} {from_ k : Nat} (hp : l = done ++ parts (s.drop from_)) (hf : from_ ≤ k) (hk : k < s.length) (hno : (47 : UInt8) ∉ (s.take k).drop from_) (hb : s[k] = 47) :
    l = (done ++ [(s.take k).drop from_]) ++ parts (s.drop (k + 1)) := by
  have e : s.drop from_ = (s.take k).drop from_ ++ 47 :: s.drop (k + 1) := by
    have h1 : s.drop k = s[k] :: s.drop (k + 1) := List.drop_eq_getElem_cons hk
    rw [← hb, ← h1]
    conv => lhs; rw [← List.take_append_drop k s, List.drop_append]
    congr 1
    have : from_ - (s.take k).length = 0 := by rw [List.length_take]; omega
    rw [this, List.drop_zero]
  rw [hp, e, parts_slash _ _ hno, List.append_assoc]; rfl
theorem no_step {s : List UInt8} {from_ k : Nat} (hf : from_ ≤ k) (hk : k < s.length) (hno : (47 : UInt8) ∉ (s.take k).drop from_) (hb : s[k] ≠ 47) : (47 : UInt8) ∉ (s.take (k + 1)).drop from_ := by
  rw [List.take_succ_eq_append_getElem hk, List.drop_append]
  intro h
  rcases List.mem_append.1 h with h | h
  · exact hno h
  · have : from_ - (s.take k).length = 0 := by rw [List.length_take]; omega
    rw [this, List.drop_zero] at h
    simp at h
    exact hb h.symm
theorem byte_at {s : ByteArray} {k : Nat} (hk : k < s.size) : ∃ b, s[k] = b ∧ k < s.data.toList.length ∧ ∀ h : k < s.data.toList.length, s.data.toList[k] = b := ⟨_, rfl, by rw [Array.length_toList]; exact hk, fun _ => rfl⟩
theorem toNat_47 {b : UInt8} : b.toNat = 47 ↔ b = 47 := ⟨fun h => UInt8.toNat_inj.1 (by simpa using h), fun h => by subst h; rfl⟩
theorem splitK_one : ∀ s : List UInt8, Lib.splitK [47] 0 (Lib.count s [47]) s = parts s
  | [] => by
    have h : Lib.count [] [(47 : UInt8)] = 0 := by rw [Lib.count_miss (by simp [Lib.index])]
    rw [h]; rfl
  | b :: l => by
    have ih := splitK_one l
    by_cases hb : b = 47
    · subst hb
      have hix : Lib.index (47 :: l) [(47 : UInt8)] = ((0 : Nat) : Int) := by rw [Lib.index]; simp [List.isPrefixOf]
      rw [Lib.count_cons_eq, Nat.add_comm, Lib.splitK, if_neg (by rw [hix]; decide), hix]
      simp only [Int.toNat_natCast, List.length_cons, List.length_nil, Nat.zero_add, List.take_zero, List.drop_succ_cons, List.drop_zero, ih, parts, if_true, Nat.add_zero]
    · have hp : ([(47 : UInt8)] : List UInt8).isPrefixOf (b :: l) = false := by simp [List.isPrefixOf, Ne.symm hb]
      have hix : Lib.index (b :: l) [47] = if Lib.index l [47] == -1 then -1 else Lib.index l [47] + 1 := by rw [Lib.index, hp]; simp
      rw [Lib.count_cons_ne b 47 l hb]
      by_cases hm : Lib.index l [(47 : UInt8)] = -1
      · rw [Lib.count_miss hm] at ih ⊢
        have ih' : [l] = parts l := ih
        simp only [parts, if_neg hb, ← ih']
        rfl
      · have hge := Lib.index_ge l [(47 : UInt8)]
        obtain ⟨j, hj⟩ : ∃ j : Nat, Lib.index l [(47 : UInt8)] = j := ⟨(Lib.index l [(47 : UInt8)]).toNat, by omega⟩
        have hix' : Lib.index (b :: l) [47] = ((j + 1 : Nat) : Int) := by rw [hix, if_neg (fun e => hm (beq_iff_eq.1 e)), hj]; omega
        have hc := Lib.count_hit (by simp) hj
        obtain ⟨k, hk⟩ : ∃ k, Lib.count l [(47 : UInt8)] = k + 1 := ⟨_, by rw [hc, Nat.add_comm]⟩
        rw [hk] at ih ⊢
        rw [Lib.splitK, if_neg (by rw [hj]; simp), hj] at ih
        rw [Lib.splitK, if_neg (by rw [hix']; simp; omega), hix']
        simp only [Int.toNat_natCast, List.length_cons, List.length_nil, Nat.zero_add, Nat.add_zero] at ih ⊢
        simp only [parts, if_neg hb, ← ih, List.take_succ_cons, List.drop_succ_cons]
theorem slash_data : (⟨#[47]⟩ : ByteArray).data.toList = [47] := rfl
theorem split_is (s : ByteArray) : (Lib.splitB ⟨#[47]⟩ 0 (Lib.countB s ⟨#[47]⟩) s).map Value.string = (parts s.data.toList).map str := by
  have h := Lib.splitB_data ⟨#[47]⟩ 0 (Lib.countB s ⟨#[47]⟩) s
  have hc : Lib.countB s ⟨#[47]⟩ = Lib.count s.data.toList [47] := rfl
  rw [hc, slash_data, splitK_one] at h
  rw [hc, ← h, List.map_map]
  refine List.map_congr_left fun x _ => ?_
  exact str_of x
theorem split_len (s : ByteArray) : Lib.countB s ⟨#[47]⟩ + 1 = (parts s.data.toList).length := by
  have h := congrArg List.length (split_is s)
  rw [List.length_map, List.length_map, Lib.splitB_all _ (by decide) 0 _ s rfl] at h
  exact h
theorem strinfo : (Tryd.prog.info? 9).map (fun i => (i.zero, i.size, i.bytes)) = some (some (.string ByteArray.empty), 1, 16) := by kernel_rfl
set_option maxRecDepth 100000 in
theorem cut_calls (s : ByteArray) (hs : s.size < 4294967281) (w : World) :
    Calls Tryd.prog 143 #[.string s, .int .u8 47, .int .i64 (s.size + 1)] w fun e w' => ∃ v, e = .returned v ∧ Own w.heap.size w' 9 1 v (parts s.data.toList).length ((parts s.data.toList).map str) ∧ On w w' := by
  go_enter Tryd.func143, Tryd.ntmps143
  go_wp2_with fail
  obtain ⟨i0, hi, hz0, hz1, hz2⟩ := info_parts strinfo
  have HS := Lib.hid hs
  clear hs
  go_loopw [7, 8, 9] (fun v f x wr => ∃ (k fr : Nat) (done : List (List UInt8)), x = .int .i64 k ∧ f = .int .i64 fr ∧ fr ≤ k ∧ k ≤ s.size ∧ parts s.data.toList = done ++ parts (s.data.toList.drop fr) ∧ (47 : UInt8) ∉ (s.data.toList.take k).drop fr ∧ done.length ≤ k ∧ Own w.heap.size wr 9 1 v done.length (done.map str) ∧ On w wr) (fun _ _ x _ => s.size - (intOf x).toNat)
  case atStart => exact ⟨0, 0, [], rfl, rfl, Nat.le_refl _, Nat.zero_le _, rfl, by simp, Nat.le_refl _, Own.new w 9 1 #[] 0 (Nat.zero_le _) rfl (Nat.le_refl _), (On.refl w).alloc _⟩
  case round =>
    obtain ⟨k, fr, done, rfl, rfl, hfk, hk, hp, hno, hdk, hown, O⟩ := hrel
    obtain ⟨g, cap, rfl, hg, hrow, hn, hcap, hlen⟩ := hown.parts
    by_cases hlt : k < s.size
    · obtain ⟨b, hbb, hk', hat⟩ := byte_at hlt
      have hd : done.length < 4294967281 := by have := HS.out; omega
      have hks : k < 4294967281 := by have := HS.out; omega
      have hd2 : (done.length : Int) < s.size + 1 := by omega
      by_cases hb : b = 47
      · have hx := cut_step hp hfk hk' hno (by rw [hat]; exact hb)
        have ex : Value.string (s.extract fr k) = str ((s.data.toList.take k).drop fr) := by
          rw [str_of, Lib.extract_data, List.drop_take]
        have EX := Lib.hid ex
        have HX := Lib.hid hx
        have HP := Lib.hid hp
        have HN := Lib.hid hno
        have hb1 : ((b.toNat : Int) == 47) = true := by rw [hb]; rfl
        clear hb hat hk' ex hx hp hno
        go_wp2_with (at_builtin; go_must (refine wpList_app rfl _ _ 74 rfl w i0 (.string ByteArray.empty) 16 1 Tryd.underlying74 hi hz0 hz1 hz2 rfl (by decide) rfl _ _ _ rfl hown O rfl (by simp [Value.oneCell']) (by unfold maxLen; omega) (by omega) ?_); intro v' w1 hown' O' _)
        go_roundw
        case rel =>
          refine ⟨k + 1, k + 1, done ++ [(s.data.toList.take k).drop fr], by go_num, by go_num, Nat.le_refl _, hlt, HX.out, by simp, by simp; omega, ?_, O'⟩
          simpa [EX.out] using hown'
        case measure => simp [intOf]; omega
      · have hx := no_step hfk hk' hno (by rw [hat]; exact hb)
        have hb1 : ((b.toNat : Int) == 47) = false := by
          rw [beq_eq_false_iff_ne]; intro h; exact hb (toNat_47.1 (by omega))
        have HX := Lib.hid hx
        have HP := Lib.hid hp
        have HN := Lib.hid hno
        clear hb hat hk' hx hp hno
        go_wp2_with fail
        go_roundw
        case rel =>
          exact ⟨k + 1, fr, done, by go_num, rfl, by omega, by omega, HP.out, HX.out, by omega, hown, O⟩
        case measure => simp [intOf]; omega
    · obtain rfl : k = s.size := by omega
      have hL : s.data.toList.length = s.size := Array.length_toList
      rw [List.take_of_length_le (by omega)] at hno
      rw [parts_one _ hno] at hp
      have hd : done.length < 4294967281 := by have := HS.out; omega
      have ex : Value.string (s.extract fr s.size) = str (s.data.toList.drop fr) := by
        rw [str_of, Lib.extract_to_end]
      have EX := Lib.hid ex
      have HP := Lib.hid hp
      clear ex hp hno
      go_wp2_with (at_builtin; go_must (refine wpList_app rfl _ _ 74 rfl w i0 (.string ByteArray.empty) 16 1 Tryd.underlying74 hi hz0 hz1 hz2 rfl (by decide) rfl _ _ _ rfl hown O rfl (by simp [Value.oneCell']) (by unfold maxLen; omega) (by omega) ?_); intro v' w1 hown' O' _)
      go_ret
      refine ⟨_, rfl, ?_, O'⟩
      rw [HP.out]
      simpa [EX.out] using hown'
theorem part_small {s : List UInt8} {p : List UInt8} (h : p ∈ parts s) : p.length ≤ s.length := by
  induction s generalizing p with
  | nil => simp [parts] at h; simp [h]
  | cons b t ih =>
    unfold parts at h
    split at h
    · rcases List.mem_cons.1 h with rfl | h
      · simp
      · have := ih h; simp; omega
    · split at h
      · simp at h; simp [h]
      · rename_i q r hq
        rcases List.mem_cons.1 h with rfl | h
        · have := ih (p := q) (by rw [hq]; simp); simp; omega
        · have := ih (p := p) (by rw [hq]; simp [h]); simp; omega
set_option maxRecDepth 100000 in
theorem iname_calls (s : ByteArray) (hs : s.size < 4294967281) (m : Int) (w : World) (hm : w.cell? ⟨1, 0, none⟩ = some (.int .i64 m)) :
    Calls Tryd.prog 110 #[.string s] w (Tells w (.bool (nameOk s.data.toList))) := by
  go_enter Tryd.func110, Tryd.ntmps110
  go_wp2_with fail
  refine (Tryd.strings_Split s _ m w hs hm (by decide)).mono ?_
  rintro e w1 ⟨rfl, rfl⟩
  rw [split_is, split_len]
  have hlen := parts_len s.data.toList
  have hall := fun p => part_small (s := s.data.toList) (p := p)
  have hL : s.data.toList.length = s.size := Array.length_toList
  have hnm : nameOk s.data.toList = ((parts s.data.toList).all partOk && decide ((parts s.data.toList).length ≤ 4)) := rfl
  generalize hps : parts s.data.toList = ps at *
  have O := (On.refl w).alloc (.cells (ps.map str).toArray 9)
  have R := Row.of (Blk.new w 9 (ps.map str).toArray)
  have HL := Lib.hid hall
  have HS := Lib.hid hs
  have HM := Lib.hid hnm
  clear hall hs hnm hps
  have hp1 : ps.length < 4294967299 := by have := HS.out; omega
  go_wp2_with fail
  go_loopw [10] (fun x wr => ∃ k : Nat, k ≤ ps.length ∧ x = .int .i64 k ∧ (ps.take k).all partOk = true ∧ Row wr w.heap.size 9 (ps.map str) ∧ On w wr) (fun x _ => ps.length - (intOf x).toNat)
  case atStart => exact ⟨0, by omega, rfl, rfl, R, O⟩
  case round =>
    obtain ⟨k, hk, rfl, hall, R, O⟩ := hrel
    by_cases hlt : k < ps.length
    · have c0 : wr.cell? ⟨w.heap.size, k, none⟩ = some (.string ⟨ps[k].toArray⟩) := R.cell (by simp [hlt, str])
      have hmem : ps[k] ∈ ps := List.getElem_mem hlt
      have hpl := HL.out _ hmem
      have hstep : partOk ps[k] = true → (ps.take (k + 1)).all partOk = true := fun hb => by
        rw [List.take_succ_eq_append_getElem hlt, List.all_append, hall]; simpa using hb
      generalize ps[k] = p at *
      have HT := Lib.hid hstep
      clear hstep
      have hpz : (⟨p.toArray⟩ : ByteArray).size < 4294967296 := by have := HS.out; simp [ByteArray.size]; omega
      have hL2 := Lib.hid hL
      clear hL
      go_wp2_with fail
      refine (part_calls _ hpz wr).mono ?_
      rintro e w1 ⟨rfl, O1⟩
      replace O := O.call O1
      replace R := R.on O1
      have hp2 : partOk (⟨p.toArray⟩ : ByteArray).data.toList = partOk p := by simp
      rw [hp2]
      by_cases hb : partOk p = true
      · rw [hb]
        have hs' := HT.out hb
        have HT' := Lib.hid hs'
        clear hs'
        go_wp2_with fail
        go_roundw
        case rel => exact ⟨k + 1, by omega, by go_num, HT'.out, R, O⟩
        case measure => simp [intOf]; omega
      · have hb' : partOk p = false := by simpa using hb
        rw [hb']
        go_wp2_with fail
        go_ret
        refine ⟨?_, O⟩
        rw [HM.out]
        have : ps.all partOk = false := by
          rw [Bool.eq_false_iff]; intro h; exact hb (List.all_eq_true.1 h _ hmem)
        rw [this]; rfl
    · obtain rfl : k = ps.length := by omega
      have hall2 : ps.all partOk = true := by
        rw [List.take_of_length_le (Nat.le_refl _)] at hall; exact hall
      go_wp2_with fail
      go_ret
      refine ⟨?_, O⟩
      rw [HM.out, hall2]
      simp; omega
theorem ok_cases {b : UInt8} (h : okByte b = true) :
    (97 ≤ (b.toNat : Int) ∧ (b.toNat : Int) ≤ 122) ∨ ((b.toNat : Int) < 97 ∧ 48 ≤ (b.toNat : Int) ∧ (b.toNat : Int) ≤ 57) ∨ ((b.toNat : Int) < 97 ∧ (b.toNat : Int) < 48 ∧ ((b.toNat : Int) == 46) = true) ∨
    ((b.toNat : Int) < 97 ∧ (b.toNat : Int) < 48 ∧ ((b.toNat : Int) == 46) = false ∧ ((b.toNat : Int) == 45) = true) ∨ ((b.toNat : Int) < 97 ∧ 48 ≤ (b.toNat : Int) ∧ 57 < (b.toNat : Int) ∧ ((b.toNat : Int) == 46) = false ∧ ((b.toNat : Int) == 45) = false ∧ ((b.toNat : Int) == 95) = true) := by
  simp only [okByte, Bool.or_eq_true, decide_eq_true_eq] at h
  simp only [beq_iff_eq, beq_eq_false_iff_ne, ne_eq]
  omega
theorem part_eq (q : ByteArray) (h : q.data.toList.all okByte = true) : partOk q.data.toList = (decide (1 ≤ (q.size : Int) ∧ (q.size : Int) ≤ 10) && !(q.toList == [46]) && !(q.toList == [46, 46])) := by
  unfold partOk
  rw [h, ByteArray.toList_eq]
  have hL : q.data.toList.length = q.size := Array.length_toList
  have h1 : decide (1 ≤ q.data.toList.length ∧ q.data.toList.length ≤ 10) = decide (1 ≤ (q.size : Int) ∧ (q.size : Int) ≤ 10) := by
    rw [hL]; exact decide_eq_decide.2 (by omega)
  rw [h1]
  have h2 : ∀ a b : List UInt8, decide (a ≠ b) = !(a == b) := fun a b => by
    by_cases h : a = b <;> simp [h]
  rw [h2, h2]; simp
theorem bad_cases {b : UInt8} (h : ¬ okByte b = true) :
    (decide (97 ≤ (b.toNat : Int)) = true ∧ decide ((b.toNat : Int) ≤ 122) = false ∧ decide (48 ≤ (b.toNat : Int)) = true ∧ decide ((b.toNat : Int) ≤ 57) = false ∧ ((b.toNat : Int) == 46) = false ∧ ((b.toNat : Int) == 45) = false ∧ ((b.toNat : Int) == 95) = false) ∨
    (decide (97 ≤ (b.toNat : Int)) = false ∧ decide (48 ≤ (b.toNat : Int)) = true ∧ decide ((b.toNat : Int) ≤ 57) = false ∧ ((b.toNat : Int) == 46) = false ∧ ((b.toNat : Int) == 45) = false ∧ ((b.toNat : Int) == 95) = false) ∨
    (decide (97 ≤ (b.toNat : Int)) = false ∧ decide (48 ≤ (b.toNat : Int)) = false ∧ ((b.toNat : Int) == 46) = false ∧ ((b.toNat : Int) == 45) = false ∧ ((b.toNat : Int) == 95) = false) := by
  simp only [okByte, Bool.or_eq_true, decide_eq_true_eq] at h
  simp only [beq_iff_eq, beq_eq_false_iff_ne, ne_eq, decide_eq_true_eq, decide_eq_false_iff_not]
  omega
set_option maxRecDepth 100000 in
set_option maxHeartbeats 1000000 in
theorem sname_calls (s : ByteArray) (hs : s.size < 4294967281) (w : World) :
    Calls Tryd.prog 114 #[.string s] w (Tells w (.bool (nameOk s.data.toList))) := by
  go_enter Tryd.func114, Tryd.ntmps114
  go_wp2_with fail
  refine (cut_calls s hs w).mono ?_
  rintro e w1 ⟨v1, rfl, hown, O⟩
  obtain ⟨g, cap, rfl, hg, R, hn, hcap, _⟩ := hown.parts
  have hlen := parts_len s.data.toList
  have hall := fun p => part_small (s := s.data.toList) (p := p)
  have hL : s.data.toList.length = s.size := Array.length_toList
  have hnm : nameOk s.data.toList = ((parts s.data.toList).all partOk && decide ((parts s.data.toList).length ≤ 4)) := rfl
  generalize hps : parts s.data.toList = ps at *
  have HL := Lib.hid hall
  have HS := Lib.hid hs
  have HM := Lib.hid hnm
  clear hall hs hnm hps hown
  have hp1 : ps.length < 4294967299 := by have := HS.out; omega
  go_wp2_with fail
  go_loopw [4] (fun x wr => ∃ k : Nat, k ≤ ps.length ∧ x = .int .i64 k ∧ (ps.take k).all partOk = true ∧ Row wr g 9 (ps.map str) ∧ On w wr) (fun x _ => ps.length - (intOf x).toNat)
  case atStart => exact ⟨0, by omega, rfl, rfl, R, O⟩
  case round =>
    obtain ⟨k, hk, rfl, hall, R, O⟩ := hrel
    by_cases hlt : k < ps.length
    · obtain ⟨q, hq⟩ : ∃ q : ByteArray, ps[k] = q.data.toList := ⟨⟨ps[k].toArray⟩, by simp⟩
      have c0 : wr.cell? ⟨g, k, none⟩ = some (.string q) := R.cell (by rw [str_of, ← hq]; simp [hlt])
      have hmem : ps[k] ∈ ps := List.getElem_mem hlt
      rw [hq] at hmem
      have hpl := HL.out _ hmem
      have hstep : partOk q.data.toList = true → (ps.take (k + 1)).all partOk = true := fun hb => by
        rw [List.take_succ_eq_append_getElem hlt, List.all_append, hall, hq]; simpa using hb
      have HQ := Lib.hid hq
      have HT := Lib.hid hstep
      have HA := Lib.hid hall
      have hqz : q.size < 4294967281 := by have := HS.out; rw [hL] at hpl; rw [show q.size = q.data.toList.length from Array.length_toList.symm]; omega
      have hL2 := Lib.hid hL
      have hPL := Lib.hid hpl
      have hMM := Lib.hid hmem
      clear hstep hq hL hall hpl hmem
      go_wp2_with fail
      go_loopw [6] (fun x w2 => ∃ j : Nat, j ≤ q.size ∧ x = .int .i64 j ∧ (q.data.toList.take j).all okByte = true ∧ w2 = wr) (fun x _ => q.size - (intOf x).toNat)
      case atStart => exact ⟨0, by omega, rfl, rfl, rfl⟩
      case round =>
        obtain ⟨j, hj, rfl, hall, rfl⟩ := hrel
        by_cases hjt : j < q.size
        · have hstep := all_step hall hjt
          have hmem := mem_at hjt
          generalize hbb : q[j] = b at *
          have HA2 := Lib.hid hall
          have HST := Lib.hid hstep
          have HME := Lib.hid hmem
          clear hall hstep hmem
          by_cases hb : okByte b = true
          · rcases ok_cases hb with ⟨h1, h2⟩ | ⟨h1, h2, h3⟩ | ⟨h1, h2, h3⟩ | ⟨h1, h2, h3, h4⟩ | ⟨h1, h2, h3, h4, h5, h6⟩
            all_goals
              have hs1 := Lib.hid (HST.out hb)
              clear hb
              go_wp2_with fail
              go_roundw
              case rel => exact ⟨j + 1, by omega, by go_num, hs1.out, by simp⟩
              case measure => simp [intOf]; omega
          · have hp : nameOk s.data.toList = false := by
              have h1 : q.data.toList.all okByte = false := by
                rw [Bool.eq_false_iff]; intro h; exact hb (List.all_eq_true.1 h _ HME.out)
              have h2 : ps.all partOk = false := by
                rw [Bool.eq_false_iff]; intro h
                have := List.all_eq_true.1 h _ hMM.out
                unfold partOk at this
                rw [h1] at this; exact absurd this (by simp)
              rw [HM.out, h2]; rfl
            have HP := Lib.hid hp
            clear hp
            rcases bad_cases hb with ⟨h1, h2, h3, h4, h5, h6, h7⟩ | ⟨h1, h2, h3, h4, h5, h6⟩ | ⟨h1, h2, h3, h4, h5⟩
            all_goals
              clear hb
              go_wp2_with fail
              go_ret
              exact ⟨by rw [HP.out]; rfl, O⟩
        · obtain rfl : j = q.size := by omega
          have hall2 : q.data.toList.all okByte = true := by
            rw [List.take_of_length_le (by rw [Array.length_toList]; exact Nat.le_refl _)] at hall; exact hall
          have hpo := part_eq q hall2
          have HPO := Lib.hid hpo
          have hfalse : partOk q.data.toList = false → nameOk s.data.toList = false := fun h => by
            have h2 : ps.all partOk = false := by
              rw [Bool.eq_false_iff]; intro h'
              have := List.all_eq_true.1 h' _ hMM.out
              rw [h] at this; exact absurd this (by simp)
            rw [HM.out, h2]; rfl
          have HF := Lib.hid hfalse
          clear hall hall2 hpo hfalse
          go_wp2_with fail
          refine (in_calls _ _ _ _).mono ?_
          rintro e w3 ⟨rfl, O1⟩
          replace O := O.call O1
          replace R := R.on O1
          clear O1
          by_cases hin : 1 ≤ (q.size : Int) ∧ (q.size : Int) ≤ 10
          · rw [decide_eq_true hin]
            have HI := Lib.hid hin
            clear hin
            cases h46 : (q.toList == [46])
            · cases h47 : (q.toList == [46, 46])
              · have hs1 := HT.out (by rw [HPO.out, decide_eq_true HI.out, h46, h47]; rfl)
                have HS1 := Lib.hid hs1
                clear hs1
                go_wp2_with fail
                go_roundw
                case rel => exact ⟨k + 1, by omega, by go_num, HS1.out, R, O⟩
                case measure => simp [intOf]; omega
              · have hf := HF.out (by rw [HPO.out, h47]; simp)
                have HF2 := Lib.hid hf
                clear hf
                go_wp2_with fail
                go_ret
                exact ⟨by rw [HF2.out]; rfl, O⟩
            · have hf := HF.out (by rw [HPO.out, h46]; simp)
              have HF2 := Lib.hid hf
              clear hf
              go_wp2_with fail
              go_ret
              exact ⟨by rw [HF2.out]; rfl, O⟩
          · rw [decide_eq_false hin]
            have hf := HF.out (by rw [HPO.out, decide_eq_false hin]; rfl)
            have HF2 := Lib.hid hf
            clear hf hin
            go_wp2_with fail
            go_ret
            exact ⟨by rw [HF2.out]; rfl, O⟩
    · obtain rfl : k = ps.length := by omega
      have hall2 : ps.all partOk = true := by
        rw [List.take_of_length_le (Nat.le_refl _)] at hall; exact hall
      go_wp2_with fail
      go_ret
      refine ⟨?_, O⟩
      rw [HM.out, hall2]
      simp; omega
end Go.Proofs.YtncidljdfipigaaDoor.Nm

/- The walk of FnExactNameOk: at every text it returns true and keeps what was. The one fact that it takes: the library's cell of a length holds some number. -/
namespace Go.Proofs.YtncidljdfipigaaDoor.Nm
open Go.RowKit Go.Proofs.YtncidljdfipigaaDoor.Mem
set_option linter.unusedVariables false
set_option linter.unusedSimpArgs false
/-- The library's cell of a length holds some number. -/
def Fact (W : World) : Prop := ∃ m, W.cell? ⟨1, 0, none⟩ = some (.int .i64 m)
theorem facts {W : World} {l : List (String × DataW Unit)} (hl : laidMetH Tryd.prog l W) (h : W.ShapedOpen Tryd.prog) : Fact W := Tryd.laysM146.s1_3 W h
theorem Fact.on {w w' : World} (h : Fact w) (hz : 1 < w.heap.size) (O : On w w') : Fact w' := by
  obtain ⟨m, hm⟩ := h
  exact ⟨m, (O.cell hz).trans hm⟩
theorem Fact.lt {w : World} (h : Fact w) : 1 < w.heap.size := by
  obtain ⟨m, hm⟩ := h
  rcases Nat.lt_or_ge 1 w.heap.size with hl | hl
  · exact hl
  · have h2 : w.heap[1]? = none := Array.getElem?_eq_none hl
    simp [World.cell?, h2] at hm
theorem iname_f (s : ByteArray) (hs : s.size < 4294967281) (w : World) (hf : Fact w) : Calls Tryd.prog 110 #[.string s] w (Tells w (.bool (nameOk s.data.toList))) := by
  obtain ⟨m, hm⟩ := hf
  exact iname_calls s hs m w hm
end Go.Proofs.YtncidljdfipigaaDoor.Nm

/- What is laid: the variable order, and the library's cell of a length. -/
namespace Go.Proofs.YtncidljdfipigaaDoor.Laid
open Go.RowKit Go.Proofs.YtncidljdfipigaaDoor.Mem
theorem facts2 {W : World} (hl : laidMetH Tryd.prog [("loop.example/corbel/impl.order", Rows.laid_loop_example_corbel_impl_order)] W) (h : W.ShapedOpen Tryd.prog) : (∃ x, Wi.Ord W x) ∧ Nm.Fact W := ⟨facts hl, Nm.facts hl h⟩
end Go.Proofs.YtncidljdfipigaaDoor.Laid

/- A file that reads as data: its name, its six numbers, its text. -/
namespace Go.Proofs.YtncidljdfipigaaDoor.Nm
open Go.Joins Go.ChangeShapes Go.WideShapes Go.RowKit Go.Deep
set_option linter.unusedVariables false
section
variable {H : Type} {enc : TypeId × Value → H} {w : World} {base : Nat} {spare : Nat → Bool} {held : Bool}
theorem cells_entry : Tryd.prog.cellsOf 40 = 8 := by kernel_rfl
theorem cells_stamp : Tryd.prog.cellsOf 38 = 6 := by kernel_rfl
theorem cells_int : Tryd.prog.cellsOf 3 = 1 := by kernel_rfl
theorem cells_str : Tryd.prog.cellsOf 9 = 1 := by kernel_rfl
theorem fields_entry : ∃ f0 f1 f2 : Field, Tryd.prog.underlying 40 = some (.struct #[f0, f1, f2]) ∧ f0.type = 9 ∧ f0.offset = 0 ∧ f1.type = 38 ∧ f1.offset = 1 ∧ f2.type = 9 ∧ f2.offset = 7 := ⟨_, _, _, Tryd.underlying40, rfl, rfl, rfl, rfl, rfl, rfl⟩
theorem fields_stamp : ∃ f0 f1 f2 f3 f4 f5 : Field, Tryd.prog.underlying 38 = some (.struct #[f0, f1, f2, f3, f4, f5]) ∧ (f0.type = 3 ∧ f0.offset = 0) ∧ (f1.type = 3 ∧ f1.offset = 1) ∧ (f2.type = 3 ∧ f2.offset = 2) ∧ (f3.type = 3 ∧ f3.offset = 3) ∧ (f4.type = 3 ∧ f4.offset = 4) ∧ (f5.type = 3 ∧ f5.offset = 5) :=
  ⟨_, _, _, _, _, _, Tryd.underlying38, ⟨rfl, rfl⟩, ⟨rfl, rfl⟩, ⟨rfl, rfl⟩, ⟨rfl, rfl⟩, ⟨rfl, rfl⟩, ⟨rfl, rfl⟩⟩
set_option maxRecDepth 100000 in
/-- Eight cells that read as a file. -/
theorem cells_are {fuel : Nat} {cs : List Value} {x : DataW H × List MemPlace} (h : DataW.trod enc Tryd.prog w base spare held fuel 40 cs = some x) :
    ∃ (nm : ByteArray) (y m d h' mi s : Int) (tx : ByteArray), cs = [.string nm, .int .i64 y, .int .i64 m, .int .i64 d, .int .i64 h', .int .i64 mi, .int .i64 s, .string tx] ∧ nm.size ≤ maxLen ∧ tx.size ≤ maxLen := by
  obtain ⟨f0, f1, f2, hu, t0, o0, t1, o1, t2, o2⟩ := fields_entry
  obtain ⟨xs, n, _, _, hl, hx, hg⟩ := DataW.trod_struct hu h
  rw [cells_entry] at hl
  have hxl : xs.length = 3 := hx
  have e0 := hg 0 f0 rfl
  have e1 := hg 1 f1 rfl
  have e2 := hg 2 f2 rfl
  rw [t0, o0, cells_str, List.getElem?_eq_getElem (by omega)] at e0
  rw [t1, o1, cells_stamp, List.getElem?_eq_getElem (by omega)] at e1
  rw [t2, o2, cells_str, List.getElem?_eq_getElem (by omega)] at e2
  obtain ⟨nm, hnm, _, hn⟩ := DataW.trod_string Tryd.underlying9 e0
  obtain ⟨tx, htx, _, ht⟩ := DataW.trod_string Tryd.underlying9 e2
  obtain ⟨g0, g1, g2, g3, g4, g5, hu2, ⟨a0, b0⟩, ⟨a1, b1⟩, ⟨a2, b2⟩, ⟨a3, b3⟩, ⟨a4, b4⟩, ⟨a5, b5⟩⟩ := fields_stamp
  obtain ⟨ys, k, _, _, _, hy, hk⟩ := DataW.trod_struct hu2 e1
  have hyl : ys.length = 6 := hy
  have one : ∀ (i : Nat) (f : Field), i < 6 → f.type = 3 → f.offset = i → DataW.trod enc Tryd.prog w base spare held k f.type ((((cs.drop 1).take 6).drop f.offset).take (Tryd.prog.cellsOf f.type)) = ys[i]? → ∃ a : Int, (((cs.drop 1).take 6).drop i).take 1 = [.int .i64 a] := by
    intro i f hi ht ho he
    rw [ht, ho, cells_int, List.getElem?_eq_getElem (by omega)] at he
    obtain ⟨a, ha, _, _⟩ := DataW.trod_int Tryd.underlying3 he
    exact ⟨a, ha⟩
  obtain ⟨v0, q0⟩ := one 0 g0 (by omega) a0 b0 (hk 0 g0 rfl)
  obtain ⟨v1, q1⟩ := one 1 g1 (by omega) a1 b1 (hk 1 g1 rfl)
  obtain ⟨v2, q2⟩ := one 2 g2 (by omega) a2 b2 (hk 2 g2 rfl)
  obtain ⟨v3, q3⟩ := one 3 g3 (by omega) a3 b3 (hk 3 g3 rfl)
  obtain ⟨v4, q4⟩ := one 4 g4 (by omega) a4 b4 (hk 4 g4 rfl)
  obtain ⟨v5, q5⟩ := one 5 g5 (by omega) a5 b5 (hk 5 g5 rfl)
  match cs, hl with
  | [c0, c1, c2, c3, c4, c5, c6, c7], _ =>
    simp at hnm htx q0 q1 q2 q3 q4 q5
    subst hnm htx q0 q1 q2 q3 q4 q5
    exact ⟨nm, v0, v1, v2, v3, v4, v5, tx, rfl, hn, ht⟩
set_option maxRecDepth 100000 in
theorem open_entry {r : Reach} {b0 : Nat} {v : Value} {d : DataW H} {p : List MemPlace} (hv : Value.okWide Tryd.prog w r b0 40 v) (h : DataW.Trod enc Tryd.prog w base spare held 40 v d p) :
    ∃ (nm : ByteArray) (y m d h' mi s : Int) (tx : ByteArray), v = .agg #[.string nm, .int .i64 y, .int .i64 m, .int .i64 d, .int .i64 h', .int .i64 mi, .int .i64 s, .string tx] ∧ nm.size ≤ maxLen ∧ tx.size ≤ maxLen := by
  obtain ⟨f0, f1, f2, hu, _⟩ := fields_entry
  obtain ⟨cs, rfl, hsz⟩ := okWide_struct hu hv
  obtain ⟨fuel, hf⟩ := h
  obtain ⟨nm, y, m, d', h', mi, s, tx, hc, hn, ht⟩ := cells_are hf
  refine ⟨nm, y, m, d', h', mi, s, tx, ?_, hn, ht⟩
  have hc2 : cs.toList = _ := (show (Value.agg cs).cells.toList = cs.toList by simp [Value.cells]).symm.trans hc
  congr 1
  exact Array.toList_inj.1 hc2
end
end Go.Proofs.YtncidljdfipigaaDoor.Nm

