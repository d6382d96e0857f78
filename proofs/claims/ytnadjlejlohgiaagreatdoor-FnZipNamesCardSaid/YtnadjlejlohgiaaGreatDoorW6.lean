/- Own texts joined: StI. -/
import Derived.Test.YtnadjlejlohgiaaGreatDoorW5
/- Stamps: StampOk of impl answers the plain one, at every six numbers. No condition. -/
namespace Go.Proofs.YtnadjlejlohgiaaGreatDoor.Nm
open Go.RowKit Go.Proofs.YtnadjlejlohgiaaGreatDoor.Mem
set_option linter.unusedVariables false
set_option linter.unusedSimpArgs false
set_option maxRecDepth 100000 in
set_option maxHeartbeats 4000000 in
theorem iok_calls_0 (y m d h mi s : Int) (w : World)  (e1 : decide (1980 ≤ y ∧ y ≤ 2107) = false) : Calls Tryz.prog 75 #[.agg #[.int .i64 y, .int .i64 m, .int .i64 d, .int .i64 h, .int .i64 mi, .int .i64 s]] w (Tells w (.bool false)) := by
  go_enter Tryz.func75, Tryz.ntmps75
  go_wp2_with fail
  go_quiet (first
    | (go_at_call 103; exact Calls.quiet_of_same (within_same _ _ _ _))
    | (go_at_call 104; exact Calls.quiet_of_same (idays_calls _ _ _)))
  go_wp2_with fail
  go_ret
  exact ⟨by simp, ((On.refl w).alloc _).drewN _⟩
set_option maxRecDepth 100000 in
set_option maxHeartbeats 4000000 in
theorem iok_calls_1 (y m d h mi s : Int) (w : World) (e1 : decide (1980 ≤ y ∧ y ≤ 2107) = true) (e2 : decide (1 ≤ m ∧ m ≤ 12) = false) : Calls Tryz.prog 75 #[.agg #[.int .i64 y, .int .i64 m, .int .i64 d, .int .i64 h, .int .i64 mi, .int .i64 s]] w (Tells w (.bool false)) := by
  go_enter Tryz.func75, Tryz.ntmps75
  go_wp2_with fail
  go_quiet (first
    | (go_at_call 103; exact Calls.quiet_of_same (within_same _ _ _ _))
    | (go_at_call 104; exact Calls.quiet_of_same (idays_calls _ _ _)))
  go_wp2_with fail
  go_ret
  exact ⟨by simp, ((On.refl w).alloc _).drewN _⟩
set_option maxRecDepth 100000 in
set_option maxHeartbeats 4000000 in
theorem iok_calls_2 (y m d h mi s : Int) (w : World) (e1 : decide (1980 ≤ y ∧ y ≤ 2107) = true) (e2 : decide (1 ≤ m ∧ m ≤ 12) = true) (e3 : decide (1 ≤ d ∧ d ≤ dd y m) = false) : Calls Tryz.prog 75 #[.agg #[.int .i64 y, .int .i64 m, .int .i64 d, .int .i64 h, .int .i64 mi, .int .i64 s]] w (Tells w (.bool false)) := by
  go_enter Tryz.func75, Tryz.ntmps75
  go_wp2_with fail
  go_quiet (first
    | (go_at_call 103; exact Calls.quiet_of_same (within_same _ _ _ _))
    | (go_at_call 104; exact Calls.quiet_of_same (idays_calls _ _ _)))
  go_wp2_with fail
  go_ret
  exact ⟨by simp, ((On.refl w).alloc _).drewN _⟩
set_option maxRecDepth 100000 in
set_option maxHeartbeats 4000000 in
theorem iok_calls_3 (y m d h mi s : Int) (w : World) (e1 : decide (1980 ≤ y ∧ y ≤ 2107) = true) (e2 : decide (1 ≤ m ∧ m ≤ 12) = true) (e3 : decide (1 ≤ d ∧ d ≤ dd y m) = true) (e4 : decide (0 ≤ h ∧ h ≤ 23) = false) : Calls Tryz.prog 75 #[.agg #[.int .i64 y, .int .i64 m, .int .i64 d, .int .i64 h, .int .i64 mi, .int .i64 s]] w (Tells w (.bool false)) := by
  go_enter Tryz.func75, Tryz.ntmps75
  go_wp2_with fail
  go_quiet (first
    | (go_at_call 103; exact Calls.quiet_of_same (within_same _ _ _ _))
    | (go_at_call 104; exact Calls.quiet_of_same (idays_calls _ _ _)))
  go_wp2_with fail
  go_ret
  exact ⟨by simp, ((On.refl w).alloc _).drewN _⟩
set_option maxRecDepth 100000 in
set_option maxHeartbeats 4000000 in
theorem iok_calls_4 (y m d h mi s : Int) (w : World) (e1 : decide (1980 ≤ y ∧ y ≤ 2107) = true) (e2 : decide (1 ≤ m ∧ m ≤ 12) = true) (e3 : decide (1 ≤ d ∧ d ≤ dd y m) = true) (e4 : decide (0 ≤ h ∧ h ≤ 23) = true) (e5 : decide (0 ≤ mi ∧ mi ≤ 59) = false) : Calls Tryz.prog 75 #[.agg #[.int .i64 y, .int .i64 m, .int .i64 d, .int .i64 h, .int .i64 mi, .int .i64 s]] w (Tells w (.bool false)) := by
  go_enter Tryz.func75, Tryz.ntmps75
  go_wp2_with fail
  go_quiet (first
    | (go_at_call 103; exact Calls.quiet_of_same (within_same _ _ _ _))
    | (go_at_call 104; exact Calls.quiet_of_same (idays_calls _ _ _)))
  go_wp2_with fail
  go_ret
  exact ⟨by simp, ((On.refl w).alloc _).drewN _⟩
set_option maxRecDepth 100000 in
set_option maxHeartbeats 4000000 in
theorem iok_calls_5 (y m d h mi s : Int) (w : World) (e1 : decide (1980 ≤ y ∧ y ≤ 2107) = true) (e2 : decide (1 ≤ m ∧ m ≤ 12) = true) (e3 : decide (1 ≤ d ∧ d ≤ dd y m) = true) (e4 : decide (0 ≤ h ∧ h ≤ 23) = true) (e5 : decide (0 ≤ mi ∧ mi ≤ 59) = true) (e6 : decide (0 ≤ s ∧ s ≤ 58) = false) : Calls Tryz.prog 75 #[.agg #[.int .i64 y, .int .i64 m, .int .i64 d, .int .i64 h, .int .i64 mi, .int .i64 s]] w (Tells w (.bool false)) := by
  go_enter Tryz.func75, Tryz.ntmps75
  go_wp2_with fail
  go_quiet (first
    | (go_at_call 103; exact Calls.quiet_of_same (within_same _ _ _ _))
    | (go_at_call 104; exact Calls.quiet_of_same (idays_calls _ _ _)))
  go_wp2_with fail
  go_ret
  exact ⟨by simp, ((On.refl w).alloc _).drewN _⟩
set_option maxRecDepth 100000 in
set_option maxHeartbeats 4000000 in
theorem iok_calls_6 (y m d h mi s : Int) (w : World) (e1 : decide (1980 ≤ y ∧ y ≤ 2107) = true) (e2 : decide (1 ≤ m ∧ m ≤ 12) = true) (e3 : decide (1 ≤ d ∧ d ≤ dd y m) = true) (e4 : decide (0 ≤ h ∧ h ≤ 23) = true) (e5 : decide (0 ≤ mi ∧ mi ≤ 59) = true) (e6 : decide (0 ≤ s ∧ s ≤ 58) = true) : Calls Tryz.prog 75 #[.agg #[.int .i64 y, .int .i64 m, .int .i64 d, .int .i64 h, .int .i64 mi, .int .i64 s]] w (Tells w (.bool (Int.tmod s 2 == 0))) := by
  go_enter Tryz.func75, Tryz.ntmps75
  go_wp2_with fail
  go_quiet (first
    | (go_at_call 103; exact Calls.quiet_of_same (within_same _ _ _ _))
    | (go_at_call 104; exact Calls.quiet_of_same (idays_calls _ _ _)))
  go_wp2_with fail
  go_ret
  exact ⟨by simp, ((On.refl w).alloc _).drewN _⟩
theorem iok_calls (y m d h mi s : Int) (w : World) : Calls Tryz.prog 75 #[.agg #[.int .i64 y, .int .i64 m, .int .i64 d, .int .i64 h, .int .i64 mi, .int .i64 s]] w (Tells w (.bool (decide (okp y m d h mi s)))) := by
  by_cases h1 : 1980 ≤ y ∧ y ≤ 2107
  rotate_left
  · have HF : decide (okp y m d h mi s) = false := by rw [decide_eq_false_iff_not]; intro hh; unfold okp at hh; exact h1 hh.1
    rw [HF]
    exact iok_calls_0 y m d h mi s w  (decide_eq_false h1)
  by_cases h2 : 1 ≤ m ∧ m ≤ 12
  rotate_left
  · have HF : decide (okp y m d h mi s) = false := by rw [decide_eq_false_iff_not]; intro hh; unfold okp at hh; exact h2 hh.2.1
    rw [HF]
    exact iok_calls_1 y m d h mi s w (decide_eq_true h1) (decide_eq_false h2)
  by_cases h3 : 1 ≤ d ∧ d ≤ dd y m
  rotate_left
  · have HF : decide (okp y m d h mi s) = false := by rw [decide_eq_false_iff_not]; intro hh; unfold okp at hh; exact h3 hh.2.2.1
    rw [HF]
    exact iok_calls_2 y m d h mi s w (decide_eq_true h1) (decide_eq_true h2) (decide_eq_false h3)
  by_cases h4 : 0 ≤ h ∧ h ≤ 23
  rotate_left
  · have HF : decide (okp y m d h mi s) = false := by rw [decide_eq_false_iff_not]; intro hh; unfold okp at hh; exact h4 hh.2.2.2.1
    rw [HF]
    exact iok_calls_3 y m d h mi s w (decide_eq_true h1) (decide_eq_true h2) (decide_eq_true h3) (decide_eq_false h4)
  by_cases h5 : 0 ≤ mi ∧ mi ≤ 59
  rotate_left
  · have HF : decide (okp y m d h mi s) = false := by rw [decide_eq_false_iff_not]; intro hh; unfold okp at hh; exact h5 hh.2.2.2.2.1
    rw [HF]
    exact iok_calls_4 y m d h mi s w (decide_eq_true h1) (decide_eq_true h2) (decide_eq_true h3) (decide_eq_true h4) (decide_eq_false h5)
  by_cases h6 : 0 ≤ s ∧ s ≤ 58
  rotate_left
  · have HF : decide (okp y m d h mi s) = false := by rw [decide_eq_false_iff_not]; intro hh; unfold okp at hh; exact h6 hh.2.2.2.2.2.1
    rw [HF]
    exact iok_calls_5 y m d h mi s w (decide_eq_true h1) (decide_eq_true h2) (decide_eq_true h3) (decide_eq_true h4) (decide_eq_true h5) (decide_eq_false h6)
  have HT : decide (okp y m d h mi s) = (Int.tmod s 2 == 0) := by
    rw [Bool.eq_iff_iff, decide_eq_true_iff, beq_iff_eq]; exact ⟨fun t => t.2.2.2.2.2.2, fun t => ⟨h1, h2, h3, h4, h5, h6, t⟩⟩
  rw [HT]
  exact iok_calls_6 y m d h mi s w (decide_eq_true h1) (decide_eq_true h2) (decide_eq_true h3) (decide_eq_true h4) (decide_eq_true h5) (decide_eq_true h6)
end Go.Proofs.YtnadjlejlohgiaaGreatDoor.Nm

