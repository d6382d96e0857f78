/- Own texts joined: Mem. -/
import Derived.Below
import Derived.Deep.Draws
import Derived.Laws.Rows
import Derived.Laws.OwnMore
import Derived.Deep.AppendLies
import Derived.WalkKit
/- Small words on memory for hand-walked contracts: a block that is known whole, what lies below a bound is kept, draws. -/
namespace Go.Proofs.YtnadjlejlohgiaaGreatDoor.Mem
open Go.RowKit
/-- Block g is just the cells cs of element type t, none frozen. -/
structure Blk (w : World) (g t : Nat) (cs : Array Value) : Prop where mk :: (out : w.heap[g]? = some (.cells cs t (0, 0)))
section
variable {w w' : World} {g t : Nat} {cs : Array Value}
theorem Blk.lt (h : Blk w g t cs) : g < w.heap.size := by
  rcases Nat.lt_or_ge g w.heap.size with hlt | hge
  · exact hlt
  · have := h.out
    rw [Array.getElem?_eq_none hge] at this
    cases this
theorem Blk.cell (h : Blk w g t cs) (i : Nat) : w.cell? ⟨g, i, none⟩ = cs[i]? := cell_of_row w g i cs t (0, 0) h.out
theorem Blk.frozen (h : Blk w g t cs) (i : Nat) : w.frozen? ⟨g, i, none⟩ = false := by simp [World.frozen?, h.out]
theorem Blk.new (w : World) (t : Nat) (cs : Array Value) : Blk (w.alloc (.cells cs t)) w.heap.size t cs := ⟨heap_alloc_new w _⟩
theorem Blk.drew (h : Blk w g t cs) : Blk w.drew g t cs := ⟨h.out⟩
theorem Blk.drewN (h : Blk w g t cs) (n : Nat) : Blk (w.drewN n) g t cs := ⟨h.out⟩
theorem Blk.alloc (h : Blk w g t cs) (o : Obj) : Blk (w.alloc o) g t cs := ⟨(Below.heap_alloc w o g h.lt).trans h.out⟩
theorem Blk.set (h : Blk w g t cs) (i : Nat) (u : Value) : Blk (w.setCell ⟨g, i, none⟩ u) g t (cs.setIfInBounds i u) := by
  refine ⟨?_⟩
  have := h.out
  simp [World.setCell, Array.getElem?_modify, this]
theorem Blk.far (h : Blk w g t cs) {p : Addr} (hp : g ≠ p.block) (u : Value) : Blk (w.setCell p u) g t cs := ⟨(Below.heap_setCell w p u g hp).trans h.out⟩
theorem Blk.below {B : Nat} (h : Blk w g t cs) (hb : Below B w w') (hg : g < B) : Blk w' g t cs := ⟨(hb.block g hg).trans h.out⟩
theorem Blk.call (h : Blk w g t cs) (hb : Below w.heap.size w w') : Blk w' g t cs := h.below hb h.lt
theorem Blk.grown {row : Option Nat} (h : Blk w g t cs) (hb : w.grownBy w' row) (hg : some g ≠ row) : Blk w' g t cs := ⟨(hb.block g h.lt hg).trans h.out⟩
end
theorem Below.drewN {B : Nat} {a w : World} (h : Below B a w) (n : Nat) : Below B a (w.drewN n) := ⟨h.os, h.tape, h.output, h.size, h.block⟩
theorem Below.call {B : Nat} {a w w' : World} (h : Below B a w) (hB : B ≤ w.heap.size) (k : Below w.heap.size w w') : Below B a w' := Below.trans h (Below.mono k hB)
/-- What the call began with stays; the heap has not shrunk. Kept as one thing. -/
structure On (a w : World) : Prop where mk :: (out : Below a.heap.size a w)
theorem On.refl (a : World) : On a a := ⟨Below.refl _ _⟩
theorem On.size {a w : World} (h : On a w) : a.heap.size ≤ w.heap.size := h.out.size
theorem On.drew {a w : World} (h : On a w) : On a w.drew := ⟨h.out.drew⟩
theorem On.drewN {a w : World} (h : On a w) (n : Nat) : On a (w.drewN n) := ⟨Below.drewN h.out n⟩
theorem On.alloc {a w : World} (h : On a w) (o : Obj) : On a (w.alloc o) := ⟨h.out.alloc h.size o⟩
theorem On.call {a w w' : World} (h : On a w) (k : On w w') : On a w' := ⟨Below.call h.out h.size k.out⟩
theorem On.set {a w : World} (h : On a w) {p : Addr} (hp : a.heap.size ≤ p.block) (u : Value) : On a (w.setCell p u) := ⟨h.out.setCell hp u⟩
theorem On.blk {a w : World} {g t : Nat} {cs : Array Value} (h : On a w) (b : Blk a g t cs) : Blk w g t cs := b.call h.out
theorem On.cell {a w : World} (h : On a w) {p : Addr} (hp : p.block < a.heap.size) : w.cell? p = a.cell? p := h.out.cell hp
theorem On.frozen {a w : World} (h : On a w) {p : Addr} (hp : p.block < a.heap.size) : w.frozen? p = a.frozen? p := h.out.frozen hp
theorem Below.on {a w : World} (h : Below a.heap.size a w) : On a w := ⟨h⟩
section
variable {P : Program} {fn : Func} {tmps : Array Value} {w : World} {g t : Nat} {cs : Array Value} {d : TypeDesc}
/-- A result that lies in a block that is known whole. -/
theorem res_c {p : Tmp} {ty : TypeId} (h : fn.results = #[.cell p ty]) (b : Blk w g t cs) (hp : tmps.getD p undef = .pointer (some ⟨g, 0, none⟩))
    (hu : P.underlying ty = some d) (hd : (match d with | .struct _ | .array _ _ => true | _ => false) = true) (hi : (P.info? ty).map (·.size) = some cs.size) :
    (results fn tmps).run P w = .ok (.agg cs) w := by
  have e : tmps[p]?.getD undef = .pointer (some ⟨g, 0, none⟩) := by simpa using hp
  simp [results, h, e, asAddr, run_loadVar_row w g t ty cs (0, 0) d b.out hu hd hi]
theorem res_ct {p u : Tmp} {ty : TypeId} (h : fn.results = #[.cell p ty, .tmp u]) (b : Blk w g t cs) (hp : tmps.getD p undef = .pointer (some ⟨g, 0, none⟩))
    (hu : P.underlying ty = some d) (hd : (match d with | .struct _ | .array _ _ => true | _ => false) = true) (hi : (P.info? ty).map (·.size) = some cs.size) :
    (results fn tmps).run P w = .ok (.tuple #[.agg cs, tmps.getD u undef]) w := by
  have e : tmps[p]?.getD undef = .pointer (some ⟨g, 0, none⟩) := by simpa using hp
  simp [results, h, e, asAddr, run_loadVar_row w g t ty cs (0, 0) d b.out hu hd hi]
end
theorem own_on {w w' : World} {base : Nat} {e : TypeId} {size n : Nat} {v : Value} {xs : List Value} (h : w.ownsRow base e size v n xs) (O : On w w') : w'.ownsRow base e size v n xs := by
  refine ⟨h.1, ?_⟩
  rcases h.2 with h0 | ⟨g, cap, cur, hv, hb, hh, rest⟩
  · exact .inl h0
  · have hlt : g < w.heap.size := by
      rcases Nat.lt_or_ge g w.heap.size with hlt | hge
      · exact hlt
      · rw [Array.getElem?_eq_none hge] at hh; cases hh
    exact .inr ⟨g, cap, cur, hv, hb, (O.out.block g hlt).trans hh, rest⟩
section
variable {P : Program}
theorem On.grown {a w w' : World} {row : Option Nat} (h : On a w) (hg : w.grownBy w' row) (hr : ∀ g, row = some g → a.heap.size ≤ g) : On a w' := ⟨h.out.grown hg h.size hr⟩
theorem own_base {w : World} {base : Nat} {e : TypeId} {size n : Nat} {v : Value} {xs : List Value} (h : w.ownsRow base e size v n xs) : ∀ g, v.ownBlock = some g → base ≤ g := by
  intro g hg
  rcases h.2 with ⟨rfl, _⟩ | ⟨g', cap, cur, rfl, hb, _⟩
  · simp [Value.ownBlock] at hg
  · have : g' = g := by simpa [Value.ownBlock] using hg
    omega
end
end Go.Proofs.YtnadjlejlohgiaaGreatDoor.Mem

