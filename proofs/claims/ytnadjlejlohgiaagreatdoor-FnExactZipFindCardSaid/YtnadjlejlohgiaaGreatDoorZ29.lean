/- Own texts joined: Hm, Hn. -/
import Derived.Deep.QuietTactic
import Derived.BigQuiet
import Derived.Deep.AppendLies
import Derived.Deep.DeepCutAuto
import Derived.BigRegion
import Derived.Deep.RegionHeld3
import Derived.Test.YtnadjlejlohgiaaGreatDoorZ4
import Derived.Test.YtnadjlejlohgiaaGreatDoorZ8
import Derived.Test.YtnadjlejlohgiaaGreatDoorZ10
import Derived.Test.YtnadjlejlohgiaaGreatDoorZ11
/- Rows of trees (how often, the least symbol, the symbols) in memory; the greatest of numbers; the least of trees. Conditions: rows that are only read. -/
namespace Go.Proofs.YtnadjlejlohgiaaGreatDoor.Wi
open Go.RowKit Go.Proofs.YtnadjlejlohgiaaGreatDoor.Mem Go.Proofs.YtnadjlejlohgiaaGreatDoor.Hf
set_option linter.unusedVariables false
set_option linter.unusedSimpArgs false
/-- A tree, and where its symbols lie: a block, a capacity. -/
abbrev Tr := It × Nat × Nat
end Go.Proofs.YtnadjlejlohgiaaGreatDoor.Wi

/- Lengths by how often symbols come, as the specification makes them: l3Lens. Conditions: numbers, sizes. -/
namespace Go.Proofs.YtnadjlejlohgiaaGreatDoor.Wi
open Go.RowKit Go.Proofs.YtnadjlejlohgiaaGreatDoor.Mem Go.Proofs.YtnadjlejlohgiaaGreatDoor.Hf
set_option linter.unusedVariables false
set_option linter.unusedSimpArgs false
/-- The trees' symbols lie in memory. -/
def Syms (w : World) (base : Nat) (X : List Tr) : Prop := ∀ x ∈ X, RowO w x.2.1 0 3 (i64s x.1.s) ∧ base ≤ x.2.1 ∧ x.1.s.length ≤ x.2.2
theorem Syms.on {w w' : World} {base : Nat} {X : List Tr} (h : Syms w base X) (O : On w w') : Syms w' base X := fun x hx => ⟨(h x hx).1.on O, (h x hx).2⟩
theorem sum_le {α : Type} (f : α → Nat) (m : Nat) : ∀ X : List α, (∀ y ∈ X, f y ≤ m) → (X.map f).sum ≤ X.length * m
  | [], _ => by simp
  | x :: X, h => by
    have := sum_le f m X (fun y hy => h y (List.mem_cons_of_mem _ hy))
    have := h x (List.mem_cons_self ..)
    rw [List.map_cons, List.sum_cons, List.length_cons, Nat.add_mul]
    omega
/-- What is known of trees that a row holds. -/
structure Small (k : Nat) (X : List Tr) : Prop where mk ::
  at_ : ∀ y ∈ X, y.1.f < k ∧ ∀ z ∈ y.1.s, z < k
  sum : (X.map (·.1.c)).sum ≤ 30000000
  many : (X.map (·.1.s.length)).sum ≤ 300
end Go.Proofs.YtnadjlejlohgiaaGreatDoor.Wi

