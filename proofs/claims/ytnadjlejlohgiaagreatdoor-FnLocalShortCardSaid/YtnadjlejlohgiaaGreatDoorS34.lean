/- Own texts joined: Lt. -/
import Derived.Test.YtnadjlejlohgiaaGreatDoorS23
import Derived.Test.YtnadjlejlohgiaaGreatDoorS33
/- A packed file's text, and how a text is packed: the specification's. -/
namespace Go.Proofs.YtnadjlejlohgiaaGreatDoor.Lc
open Go.RowKit Go.Proofs.YtnadjlejlohgiaaGreatDoor.Mem Go.Proofs.YtnadjlejlohgiaaGreatDoor.Wi Go.Proofs.YtnadjlejlohgiaaGreatDoor.De
set_option linter.unusedVariables false
set_option linter.unusedSimpArgs false
/-- The text of a file packed in the way m. -/
def textOf (m : Nat) (p : List Nat) : Option (List Nat) :=
  if m = 0 then some p else if m = 8 then (match flate p with | some (o, n) => if n = p.length then some o else none | none => none) else none
/-- What is told of a text. -/
structure TextIs (m : Nat) (s : ByteArray) (tx : ByteArray) (b : Bool) : Prop where
  ok : b = (textOf m (chars s)).isSome
  tx : ∀ o, textOf m (chars s) = some o → tx = strB o
theorem TextIs.zero (s : ByteArray) : TextIs 0 s s true := ⟨by simp [textOf], fun o h => by simp [textOf] at h; rw [← h, strB_chars]⟩
theorem TextIs.none {m : Nat} {s tx : ByteArray} (h : textOf m (chars s) = none) : TextIs m s tx false := ⟨by rw [h]; rfl, fun o ho => by rw [h] at ho; cases ho⟩
theorem TextIs.some {m : Nat} {s : ByteArray} {o : List Nat} (h : textOf m (chars s) = some o) : TextIs m s (strB o) true := ⟨by rw [h]; rfl, fun o' ho => by rw [h] at ho; cases ho; rfl⟩
/-- How a text is packed in a file: packed, if that is shorter. -/
def howOf (s : ByteArray) : Nat × ByteArray := if (flateB s).size < s.size then (8, flateB s) else (0, s)
set_option maxRecDepth 100000 in
theorem show_calls (s : ByteArray) (hs : s.size ≤ 4294967296) (w : World) :
    Calls Tryz.prog 82 #[.string s] w (fun e w' => e = .returned (.tuple #[.int .i64 ((howOf s).1 : Nat), .string (howOf s).2]) ∧ On w w') := by
  have HC := Lib.hid (fun w => sflateput_calls s w)
  by_cases h : (flateB s).size < s.size
  · have HR := Lib.hid (show howOf s = (8, flateB s) from if_pos h)
    generalize howOf s = R at *
    generalize flateB s = t at *
    go_enter Tryz.func82, Tryz.ntmps82
    go_wp2_with fail
    refine (HC.out w).mono ?_
    rintro e w1 ⟨rfl, O1⟩
    go_wp2_with fail
    go_ret2
    exact ⟨by rw [HR.out]; rfl, O1⟩
  · have HR := Lib.hid (show howOf s = (0, s) from if_neg h)
    generalize howOf s = R at *
    generalize flateB s = t at *
    go_enter Tryz.func82, Tryz.ntmps82
    go_wp2_with fail
    refine (HC.out w).mono ?_
    rintro e w1 ⟨rfl, O1⟩
    go_wp2_with fail
    go_ret2
    exact ⟨by rw [HR.out]; rfl, O1⟩
end Go.Proofs.YtnadjlejlohgiaaGreatDoor.Lc

