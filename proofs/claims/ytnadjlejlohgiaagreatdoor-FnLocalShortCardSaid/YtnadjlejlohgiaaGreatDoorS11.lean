/- Own texts joined: Wn. -/
import Derived.Test.YtnadjlejlohgiaaGreatDoorChecked
import Derived.WalkKit
import Derived.Test.YtnadjlejlohgiaaGreatDoorS1
/- Whether a number is within bounds. -/
namespace Go.Proofs.YtnadjlejlohgiaaGreatDoor.Wi
open Go.RowKit Go.Proofs.YtnadjlejlohgiaaGreatDoor.Mem
set_option linter.unusedSimpArgs false
theorem within_same (n l h : Int) (w : World) :
    Calls Tryz.prog 103 #[.int .i64 n, .int .i64 l, .int .i64 h] w (fun e w' => e = .returned (.bool (decide (l ≤ n ∧ n ≤ h))) ∧ w' = w) := by
  by_cases h1 : l ≤ n
  · by_cases h2 : n ≤ h
    · go_enter Tryz.func103, Tryz.ntmps103
      go_wp2_with fail
      go_ret
      exact ⟨by simp [h1, h2], rfl⟩
    · go_enter Tryz.func103, Tryz.ntmps103
      go_wp2_with fail
      go_ret
      exact ⟨by simp [h1, h2], rfl⟩
  · go_enter Tryz.func103, Tryz.ntmps103
    go_wp2_with fail
    go_ret
    exact ⟨by simp; omega, rfl⟩
theorem within_yes {n l h : Int} (w : World) (h1 : l ≤ n) (h2 : n ≤ h) : Calls Tryz.prog 103 #[.int .i64 n, .int .i64 l, .int .i64 h] w (fun e w' => e = .returned (.bool true) ∧ w' = w) := by
  have := within_same n l h w
  rw [decide_eq_true ⟨h1, h2⟩] at this
  exact this
end Go.Proofs.YtnadjlejlohgiaaGreatDoor.Wi

