/- The variable order as it is laid. -/
import Derived.Test.YtncidljdfipigaaDoorWr
import Derived.Test.YtncidljdfipigaaDoorDe
namespace Go.Proofs.YtncidljdfipigaaDoor.Wi
open Go.RowKit Go.Proofs.YtncidljdfipigaaDoor.Mem Go.Proofs.YtncidljdfipigaaDoor.Bt Go.Proofs.YtncidljdfipigaaDoor.Cd Go.Proofs.YtncidljdfipigaaDoor.De
set_option linter.unusedVariables false
set_option linter.unusedSimpArgs false
/-- The variable order as it is laid. -/
structure Ord (w : World) (x : Addr) : Prop where mk ::
  glob : w.cell? ⟨0, 0, none⟩ = some (.slice (some x) 19 19)
  cells : ∀ i, i < 19 → w.cell? (x.add i) = some (.int .i64 (order.getD i 0 : Nat))
theorem add_block (x : Addr) (i : Nat) : (x.add i).block = x.block := by unfold Addr.add; split <;> rfl
theorem Ord.glt {w : World} {x : Addr} (h : Ord w x) : 0 < w.heap.size := World.block_lt_of_cell? w _ h.glob
theorem Ord.lt {w : World} {x : Addr} (h : Ord w x) : x.block < w.heap.size := by
  have := World.block_lt_of_cell? w _ (h.cells 0 (by omega))
  rwa [add_block] at this
theorem Ord.kp {S : List Nat} {w w' : World} {x : Addr} (h : Ord w x) (k : Kp S w w') (h1 : 0 ∉ S) (h2 : x.block ∉ S) : Ord w' x :=
  ⟨(k.cell h.glt h1).trans h.glob, fun i hi => (k.cell (by rw [add_block]; exact h.lt) (by rw [add_block]; exact h2)).trans (h.cells i hi)⟩
theorem Ord.on {w w' : World} {x : Addr} (h : Ord w x) (O : On w w') : Ord w' x := h.kp (Kp.of [] O) (by simp) (by simp)
theorem Ord.len : order.length = 19 := rfl
theorem order_lt19 : ∀ i, i < 19 → order.getD i 0 < 19 := by decide
end Go.Proofs.YtncidljdfipigaaDoor.Wi
