/- Stamps: both programs' StampOk answer the plain one, at every six numbers. No condition. -/
import Derived.Test.YtpbfhflggicpiaaDoorNm
import Derived.Deep.QuietTactic
import Derived.BigQuiet
namespace Go.Proofs.YtpbfhflggicpiaaDoor.Nm
open Go.RowKit Go.Proofs.YtpbfhflggicpiaaDoor.Mem
set_option linter.unusedVariables false
set_option linter.unusedSimpArgs false
/-- How many days a month has. -/
def dd (y m : Int) : Int := if m = 4 then 30 else if m = 6 then 30 else if m = 9 then 30 else if m = 11 then 30 else if m = 2 then (if Int.tmod y 4 = 0 then (if Int.tmod y 100 = 0 then (if Int.tmod y 400 = 0 then 29 else 28) else 29) else 28) else 31
theorem dd_le (y m : Int) : dd y m ≤ 31 := by unfold dd; repeat' split
                                              all_goals omega
def okp (y m d h mi s : Int) : Prop := (1980 ≤ y ∧ y ≤ 2107) ∧ (1 ≤ m ∧ m ≤ 12) ∧ (1 ≤ d ∧ d ≤ dd y m) ∧ (0 ≤ h ∧ h ≤ 23) ∧ (0 ≤ mi ∧ mi ≤ 59) ∧ (0 ≤ s ∧ s ≤ 58) ∧ Int.tmod s 2 = 0
instance decOkp (y m d h mi s : Int) : Decidable (okp y m d h mi s) := by unfold okp; infer_instance
theorem okp_nn {y m d h mi s : Int} (h0 : okp y m d h mi s) : 0 ≤ s ∧ s ≤ 58 := h0.2.2.2.2.2.1
set_option maxRecDepth 100000 in
theorem idays_calls (y m : Int) (w : World) : Calls Tryd.prog 43 #[.int .i64 y, .int .i64 m] w (fun e w' => e = .returned (.int .i64 (dd y m)) ∧ w' = w) := by
  by_cases h4 : m = 4
  · subst h4
    go_enter Tryd.func43, Tryd.ntmps43
    go_wp2_with fail
    go_ret
    exact ⟨by simp [dd], rfl⟩
  by_cases h6 : m = 6
  · subst h6
    go_enter Tryd.func43, Tryd.ntmps43
    go_wp2_with fail
    go_ret
    exact ⟨by simp [dd], rfl⟩
  by_cases h9 : m = 9
  · subst h9
    go_enter Tryd.func43, Tryd.ntmps43
    go_wp2_with fail
    go_ret
    exact ⟨by simp [dd], rfl⟩
  by_cases h11 : m = 11
  · subst h11
    go_enter Tryd.func43, Tryd.ntmps43
    go_wp2_with fail
    go_ret
    exact ⟨by simp [dd], rfl⟩
  by_cases h2 : m = 2
  · subst h2
    by_cases a : Int.tmod y 4 = 0 <;> by_cases b : Int.tmod y 100 = 0 <;> by_cases c : Int.tmod y 400 = 0
    all_goals
      have HD : RowKit.Hid (dd y 2 = (if Int.tmod y 4 = 0 then (if Int.tmod y 100 = 0 then (if Int.tmod y 400 = 0 then 29 else 28) else 29) else 28)) := Lib.hid (by simp [dd])
      go_enter Tryd.func43, Tryd.ntmps43
      go_wp2_with fail
      all_goals go_ret
      all_goals refine ⟨?_, rfl⟩
      all_goals rw [HD.out]
      all_goals simp [a, b, c]
  · go_enter Tryd.func43, Tryd.ntmps43
    have e4 : (m == 4) = false := by simp [h4]
    have e6 : (m == 6) = false := by simp [h6]
    have e9 : (m == 9) = false := by simp [h9]
    have e11 : (m == 11) = false := by simp [h11]
    have e2 : (m == 2) = false := by simp [h2]
    go_wp2_with fail
    go_ret
    exact ⟨by simp [dd, h4, h6, h9, h11, h2], rfl⟩
set_option maxRecDepth 100000 in
theorem sdays_calls (y m : Int) (w : World) : Calls Tryd.prog 42 #[.int .i64 y, .int .i64 m] w (fun e w' => e = .returned (.int .i64 (dd y m)) ∧ w' = w) := by
  by_cases h4 : m = 4
  · subst h4
    go_enter Tryd.func42, Tryd.ntmps42
    go_wp2_with fail
    go_ret
    exact ⟨by simp [dd], rfl⟩
  by_cases h6 : m = 6
  · subst h6
    go_enter Tryd.func42, Tryd.ntmps42
    go_wp2_with fail
    go_ret
    exact ⟨by simp [dd], rfl⟩
  by_cases h9 : m = 9
  · subst h9
    go_enter Tryd.func42, Tryd.ntmps42
    go_wp2_with fail
    go_ret
    exact ⟨by simp [dd], rfl⟩
  by_cases h11 : m = 11
  · subst h11
    go_enter Tryd.func42, Tryd.ntmps42
    go_wp2_with fail
    go_ret
    exact ⟨by simp [dd], rfl⟩
  by_cases h2 : m = 2
  · subst h2
    by_cases a : Int.tmod y 4 = 0 <;> by_cases b : Int.tmod y 100 = 0 <;> by_cases c : Int.tmod y 400 = 0
    all_goals
      have HD : RowKit.Hid (dd y 2 = (if Int.tmod y 4 = 0 then (if Int.tmod y 100 = 0 then (if Int.tmod y 400 = 0 then 29 else 28) else 29) else 28)) := Lib.hid (by simp [dd])
      go_enter Tryd.func42, Tryd.ntmps42
      go_wp2_with fail
      all_goals go_ret
      all_goals refine ⟨?_, rfl⟩
      all_goals rw [HD.out]
      all_goals simp [a, b, c]
  · go_enter Tryd.func42, Tryd.ntmps42
    have e4 : (m == 4) = false := by simp [h4]
    have e6 : (m == 6) = false := by simp [h6]
    have e9 : (m == 9) = false := by simp [h9]
    have e11 : (m == 11) = false := by simp [h11]
    have e2 : (m == 2) = false := by simp [h2]
    go_wp2_with fail
    go_ret
    exact ⟨by simp [dd, h4, h6, h9, h11, h2], rfl⟩
end Go.Proofs.YtpbfhflggicpiaaDoor.Nm
