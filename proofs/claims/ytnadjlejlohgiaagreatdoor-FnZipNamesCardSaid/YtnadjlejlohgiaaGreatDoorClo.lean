/- Closed facts of the whole program: its head's words, that it may be entered, how it was made. -/
import Derived.Test.YtnadjlejlohgiaaGreatDoorChecked
import Derived.Test.YtnadjlejlohgiaaGreatDoorRows
import Derived.ProofKit
namespace Go.Proofs.YtnadjlejlohgiaaGreatDoor.Clo
open Go.RowKit
set_option maxRecDepth 100000
theorem split3 {α : Type} {a b c : α} : ∀ {X : List α}, X.take 3 = [a, b, c] → ∃ r, X = a :: b :: c :: r
  | x :: y :: z :: r, h => by cases h; exact ⟨r, rfl⟩
  | [x, y], h => by cases h
  | [x], h => by cases h
  | [], h => by cases h
theorem main_of (P : Program) (r : List (List Char)) (h : wordsSigns P.initOrder.toList = "harness".toList :: "affb4e8d111960be00a578977fc332ac10354a99905930a09b0142a8246680d7".toList :: "cut".toList :: r) : P.mainIs = some (true, "affb4e8d111960be00a578977fc332ac10354a99905930a09b0142a8246680d7".toList) := by
  unfold Program.mainIs
  rw [h]
  kernel_rfl
theorem behind_of (P : Program) (r : List (List Char)) (h : wordsSigns P.initOrder.toList = "harness".toList :: "affb4e8d111960be00a578977fc332ac10354a99905930a09b0142a8246680d7".toList :: "cut".toList :: r) : behindMainWord (wordsSigns P.initOrder.toList) = "cut".toList :: r := by
  rw [h]
  kernel_rfl
theorem made_of (P : Program) (r : List (List Char)) (h : wordsSigns P.initOrder.toList = "harness".toList :: "affb4e8d111960be00a578977fc332ac10354a99905930a09b0142a8246680d7".toList :: "cut".toList :: r) : P.make = some Make.cut := by
  unfold Program.make
  rw [behind_of P r h]
  kernel_rfl
theorem lifts_of (P : Program) (r : List (List Char)) (h : wordsSigns P.initOrder.toList = "harness".toList :: "affb4e8d111960be00a578977fc332ac10354a99905930a09b0142a8246680d7".toList :: "cut".toList :: r) : P.headLifts = [] := by
  unfold Program.headLifts
  rw [behind_of P r h]
  kernel_rfl
theorem finals_of (P : Program) (r : List (List Char)) (h : wordsSigns P.initOrder.toList = "harness".toList :: "affb4e8d111960be00a578977fc332ac10354a99905930a09b0142a8246680d7".toList :: "cut".toList :: r) : P.liftsFinal = false := by
  unfold Program.liftsFinal
  rw [behind_of P r h, lifts_of P r h]
  kernel_rfl
theorem enter_of (P : Program) (r : List (List Char)) (h : wordsSigns P.initOrder.toList = "harness".toList :: "affb4e8d111960be00a578977fc332ac10354a99905930a09b0142a8246680d7".toList :: "cut".toList :: r) (h1 : P.laysLater = false) (h2 : P.bearsReflect = false) (h3 : P.doorFits [] = true) : P.mayEnter = true := by
  unfold Program.mayEnter
  rw [behind_of P r h, h1, h2]
  show (_ || _ || (_ && P.doorFits [])) = true
  rw [h3]
  kernel_rfl
theorem three : (wordsSigns Tryz.prog.initOrder.toList).take 3 = ["harness".toList, "affb4e8d111960be00a578977fc332ac10354a99905930a09b0142a8246680d7".toList, "cut".toList] := by kernel_rfl
theorem words : ∃ r, wordsSigns Tryz.prog.initOrder.toList = "harness".toList :: "affb4e8d111960be00a578977fc332ac10354a99905930a09b0142a8246680d7".toList :: "cut".toList :: r := split3 three
theorem heard : Tryz.prog.stopsHeard = true := by kernel_rfl
theorem later : Tryz.prog.laysLater = false := by kernel_rfl
theorem bears : Tryz.prog.bearsReflect = false := by kernel_rfl
theorem door : Tryz.prog.doorFits [] = true := by kernel_rfl
theorem enter : Tryz.prog.mayEnter = true := let ⟨r, h⟩ := words; enter_of _ r h later bears door
theorem finals : Tryz.prog.liftsFinal = false := let ⟨r, h⟩ := words; finals_of _ r h
theorem made : Tryz.prog.make = some Make.cut := let ⟨r, h⟩ := words; made_of _ r h
theorem main : Tryz.prog.mainIs = some (true, "affb4e8d111960be00a578977fc332ac10354a99905930a09b0142a8246680d7".toList) := let ⟨r, h⟩ := words; main_of _ r h
end Go.Proofs.YtnadjlejlohgiaaGreatDoor.Clo
