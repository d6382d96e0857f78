/- Own texts joined: St, StI, Sn, Tx, Nb, Cr, Wy, Hd, Wi, Ri. -/
import Derived.Deep.QuietTactic
import Derived.BigQuiet
import Derived.Laws.BitsLemmas
import Derived.Deep.DeepCutAuto
import Derived.Laws.BytesArg
import Derived.WalkKit
import Derived.WalkSpells
import Derived.Test.YtncidljdfipigaaDoorChecked
import Derived.Lib.Hide
import Derived.Deep.RegionHeld3
import Derived.StillTailTactics
import Derived.BigRegion
import Derived.Test.YtncidljdfipigaaDoorZ0
import Derived.Test.YtncidljdfipigaaDoorZ2
/- Stamps: both programs' StampOk answer the plain one, at every six numbers. No condition. -/
namespace Go.Proofs.YtncidljdfipigaaDoor.Nm
open Go.RowKit Go.Proofs.YtncidljdfipigaaDoor.Mem
set_option linter.unusedVariables false
set_option linter.unusedSimpArgs false
/-- How many days a month has. -/
def dd (y m : Int) : Int := if m = 4 then 30 else if m = 6 then 30 else if m = 9 then 30 else if m = 11 then 30 else if m = 2 then (if Int.tmod y 4 = 0 then (if Int.tmod y 100 = 0 then (if Int.tmod y 400 = 0 then 29 else 28) else 29) else 28) else 31
theorem dd_le (y m : Int) : dd y m ≤ 31 := by unfold dd; repeat' split
                                              all_goals omega
def okp (y m d h mi s : Int) : Prop := (1980 ≤ y ∧ y ≤ 2107) ∧ (1 ≤ m ∧ m ≤ 12) ∧ (1 ≤ d ∧ d ≤ dd y m) ∧ (0 ≤ h ∧ h ≤ 23) ∧ (0 ≤ mi ∧ mi ≤ 59) ∧ (0 ≤ s ∧ s ≤ 58) ∧ Int.tmod s 2 = 0
instance decOkp (y m d h mi s : Int) : Decidable (okp y m d h mi s) := by unfold okp; infer_instance
theorem okp_nn {y m d h mi s : Int} (h0 : okp y m d h mi s) : 0 ≤ s ∧ s ≤ 58 := h0.2.2.2.2.2.1
set_option maxRecDepth 100000 in
theorem idays_calls (y m : Int) (w : World) : Calls Tryd.prog 141 #[.int .i64 y, .int .i64 m] w (fun e w' => e = .returned (.int .i64 (dd y m)) ∧ w' = w) := by
  by_cases h4 : m = 4
  · subst h4
    go_enter Tryd.func141, Tryd.ntmps141
    go_wp2_with fail
    go_ret
    exact ⟨by simp [dd], rfl⟩
  by_cases h6 : m = 6
  · subst h6
    go_enter Tryd.func141, Tryd.ntmps141
    go_wp2_with fail
    go_ret
    exact ⟨by simp [dd], rfl⟩
  by_cases h9 : m = 9
  · subst h9
    go_enter Tryd.func141, Tryd.ntmps141
    go_wp2_with fail
    go_ret
    exact ⟨by simp [dd], rfl⟩
  by_cases h11 : m = 11
  · subst h11
    go_enter Tryd.func141, Tryd.ntmps141
    go_wp2_with fail
    go_ret
    exact ⟨by simp [dd], rfl⟩
  by_cases h2 : m = 2
  · subst h2
    by_cases a : Int.tmod y 4 = 0 <;> by_cases b : Int.tmod y 100 = 0 <;> by_cases c : Int.tmod y 400 = 0
    all_goals
      have HD : RowKit.Hid (dd y 2 = (if Int.tmod y 4 = 0 then (if Int.tmod y 100 = 0 then (if Int.tmod y 400 = 0 then 29 else 28) else 29) else 28)) := Lib.hid (by simp [dd])
      go_enter Tryd.func141, Tryd.ntmps141
      go_wp2_with fail
      all_goals go_ret
      all_goals refine ⟨?_, rfl⟩
      all_goals rw [HD.out]
      all_goals simp [a, b, c]
  · go_enter Tryd.func141, Tryd.ntmps141
    have e4 : (m == 4) = false := by simp [h4]
    have e6 : (m == 6) = false := by simp [h6]
    have e9 : (m == 9) = false := by simp [h9]
    have e11 : (m == 11) = false := by simp [h11]
    have e2 : (m == 2) = false := by simp [h2]
    go_wp2_with fail
    go_ret
    exact ⟨by simp [dd, h4, h6, h9, h11, h2], rfl⟩
set_option maxRecDepth 100000 in
theorem sdays_calls (y m : Int) (w : World) : Calls Tryd.prog 145 #[.int .i64 y, .int .i64 m] w (fun e w' => e = .returned (.int .i64 (dd y m)) ∧ w' = w) := by
  by_cases h4 : m = 4
  · subst h4
    go_enter Tryd.func145, Tryd.ntmps145
    go_wp2_with fail
    go_ret
    exact ⟨by simp [dd], rfl⟩
  by_cases h6 : m = 6
  · subst h6
    go_enter Tryd.func145, Tryd.ntmps145
    go_wp2_with fail
    go_ret
    exact ⟨by simp [dd], rfl⟩
  by_cases h9 : m = 9
  · subst h9
    go_enter Tryd.func145, Tryd.ntmps145
    go_wp2_with fail
    go_ret
    exact ⟨by simp [dd], rfl⟩
  by_cases h11 : m = 11
  · subst h11
    go_enter Tryd.func145, Tryd.ntmps145
    go_wp2_with fail
    go_ret
    exact ⟨by simp [dd], rfl⟩
  by_cases h2 : m = 2
  · subst h2
    by_cases a : Int.tmod y 4 = 0 <;> by_cases b : Int.tmod y 100 = 0 <;> by_cases c : Int.tmod y 400 = 0
    all_goals
      have HD : RowKit.Hid (dd y 2 = (if Int.tmod y 4 = 0 then (if Int.tmod y 100 = 0 then (if Int.tmod y 400 = 0 then 29 else 28) else 29) else 28)) := Lib.hid (by simp [dd])
      go_enter Tryd.func145, Tryd.ntmps145
      go_wp2_with fail
      all_goals go_ret
      all_goals refine ⟨?_, rfl⟩
      all_goals rw [HD.out]
      all_goals simp [a, b, c]
  · go_enter Tryd.func145, Tryd.ntmps145
    have e4 : (m == 4) = false := by simp [h4]
    have e6 : (m == 6) = false := by simp [h6]
    have e9 : (m == 9) = false := by simp [h9]
    have e11 : (m == 11) = false := by simp [h11]
    have e2 : (m == 2) = false := by simp [h2]
    go_wp2_with fail
    go_ret
    exact ⟨by simp [dd, h4, h6, h9, h11, h2], rfl⟩
end Go.Proofs.YtncidljdfipigaaDoor.Nm

/- Stamps: StampOk of impl answers the plain one, at every six numbers. No condition. -/
namespace Go.Proofs.YtncidljdfipigaaDoor.Nm
open Go.RowKit Go.Proofs.YtncidljdfipigaaDoor.Mem
set_option linter.unusedVariables false
set_option linter.unusedSimpArgs false
set_option maxRecDepth 100000 in
set_option maxHeartbeats 4000000 in
theorem iok_calls_0 (y m d h mi s : Int) (w : World)  (e1 : decide (1980 ≤ y ∧ y ≤ 2107) = false) : Calls Tryd.prog 111 #[.agg #[.int .i64 y, .int .i64 m, .int .i64 d, .int .i64 h, .int .i64 mi, .int .i64 s]] w (Tells w (.bool false)) := by
  go_enter Tryd.func111, Tryd.ntmps111
  go_wp2_with fail
  go_quiet (first
    | (go_at_call 97; exact Calls.quiet_of_same (within_same _ _ _ _))
    | (go_at_call 141; exact Calls.quiet_of_same (idays_calls _ _ _)))
  go_wp2_with fail
  go_ret
  exact ⟨by simp, ((On.refl w).alloc _).drewN _⟩
set_option maxRecDepth 100000 in
set_option maxHeartbeats 4000000 in
theorem iok_calls_1 (y m d h mi s : Int) (w : World) (e1 : decide (1980 ≤ y ∧ y ≤ 2107) = true) (e2 : decide (1 ≤ m ∧ m ≤ 12) = false) : Calls Tryd.prog 111 #[.agg #[.int .i64 y, .int .i64 m, .int .i64 d, .int .i64 h, .int .i64 mi, .int .i64 s]] w (Tells w (.bool false)) := by
  go_enter Tryd.func111, Tryd.ntmps111
  go_wp2_with fail
  go_quiet (first
    | (go_at_call 97; exact Calls.quiet_of_same (within_same _ _ _ _))
    | (go_at_call 141; exact Calls.quiet_of_same (idays_calls _ _ _)))
  go_wp2_with fail
  go_ret
  exact ⟨by simp, ((On.refl w).alloc _).drewN _⟩
set_option maxRecDepth 100000 in
set_option maxHeartbeats 4000000 in
theorem iok_calls_2 (y m d h mi s : Int) (w : World) (e1 : decide (1980 ≤ y ∧ y ≤ 2107) = true) (e2 : decide (1 ≤ m ∧ m ≤ 12) = true) (e3 : decide (1 ≤ d ∧ d ≤ dd y m) = false) : Calls Tryd.prog 111 #[.agg #[.int .i64 y, .int .i64 m, .int .i64 d, .int .i64 h, .int .i64 mi, .int .i64 s]] w (Tells w (.bool false)) := by
  go_enter Tryd.func111, Tryd.ntmps111
  go_wp2_with fail
  go_quiet (first
    | (go_at_call 97; exact Calls.quiet_of_same (within_same _ _ _ _))
    | (go_at_call 141; exact Calls.quiet_of_same (idays_calls _ _ _)))
  go_wp2_with fail
  go_ret
  exact ⟨by simp, ((On.refl w).alloc _).drewN _⟩
set_option maxRecDepth 100000 in
set_option maxHeartbeats 4000000 in
theorem iok_calls_3 (y m d h mi s : Int) (w : World) (e1 : decide (1980 ≤ y ∧ y ≤ 2107) = true) (e2 : decide (1 ≤ m ∧ m ≤ 12) = true) (e3 : decide (1 ≤ d ∧ d ≤ dd y m) = true) (e4 : decide (0 ≤ h ∧ h ≤ 23) = false) : Calls Tryd.prog 111 #[.agg #[.int .i64 y, .int .i64 m, .int .i64 d, .int .i64 h, .int .i64 mi, .int .i64 s]] w (Tells w (.bool false)) := by
  go_enter Tryd.func111, Tryd.ntmps111
  go_wp2_with fail
  go_quiet (first
    | (go_at_call 97; exact Calls.quiet_of_same (within_same _ _ _ _))
    | (go_at_call 141; exact Calls.quiet_of_same (idays_calls _ _ _)))
  go_wp2_with fail
  go_ret
  exact ⟨by simp, ((On.refl w).alloc _).drewN _⟩
set_option maxRecDepth 100000 in
set_option maxHeartbeats 4000000 in
theorem iok_calls_4 (y m d h mi s : Int) (w : World) (e1 : decide (1980 ≤ y ∧ y ≤ 2107) = true) (e2 : decide (1 ≤ m ∧ m ≤ 12) = true) (e3 : decide (1 ≤ d ∧ d ≤ dd y m) = true) (e4 : decide (0 ≤ h ∧ h ≤ 23) = true) (e5 : decide (0 ≤ mi ∧ mi ≤ 59) = false) : Calls Tryd.prog 111 #[.agg #[.int .i64 y, .int .i64 m, .int .i64 d, .int .i64 h, .int .i64 mi, .int .i64 s]] w (Tells w (.bool false)) := by
  go_enter Tryd.func111, Tryd.ntmps111
  go_wp2_with fail
  go_quiet (first
    | (go_at_call 97; exact Calls.quiet_of_same (within_same _ _ _ _))
    | (go_at_call 141; exact Calls.quiet_of_same (idays_calls _ _ _)))
  go_wp2_with fail
  go_ret
  exact ⟨by simp, ((On.refl w).alloc _).drewN _⟩
set_option maxRecDepth 100000 in
set_option maxHeartbeats 4000000 in
theorem iok_calls_5 (y m d h mi s : Int) (w : World) (e1 : decide (1980 ≤ y ∧ y ≤ 2107) = true) (e2 : decide (1 ≤ m ∧ m ≤ 12) = true) (e3 : decide (1 ≤ d ∧ d ≤ dd y m) = true) (e4 : decide (0 ≤ h ∧ h ≤ 23) = true) (e5 : decide (0 ≤ mi ∧ mi ≤ 59) = true) (e6 : decide (0 ≤ s ∧ s ≤ 58) = false) : Calls Tryd.prog 111 #[.agg #[.int .i64 y, .int .i64 m, .int .i64 d, .int .i64 h, .int .i64 mi, .int .i64 s]] w (Tells w (.bool false)) := by
  go_enter Tryd.func111, Tryd.ntmps111
  go_wp2_with fail
  go_quiet (first
    | (go_at_call 97; exact Calls.quiet_of_same (within_same _ _ _ _))
    | (go_at_call 141; exact Calls.quiet_of_same (idays_calls _ _ _)))
  go_wp2_with fail
  go_ret
  exact ⟨by simp, ((On.refl w).alloc _).drewN _⟩
set_option maxRecDepth 100000 in
set_option maxHeartbeats 4000000 in
theorem iok_calls_6 (y m d h mi s : Int) (w : World) (e1 : decide (1980 ≤ y ∧ y ≤ 2107) = true) (e2 : decide (1 ≤ m ∧ m ≤ 12) = true) (e3 : decide (1 ≤ d ∧ d ≤ dd y m) = true) (e4 : decide (0 ≤ h ∧ h ≤ 23) = true) (e5 : decide (0 ≤ mi ∧ mi ≤ 59) = true) (e6 : decide (0 ≤ s ∧ s ≤ 58) = true) : Calls Tryd.prog 111 #[.agg #[.int .i64 y, .int .i64 m, .int .i64 d, .int .i64 h, .int .i64 mi, .int .i64 s]] w (Tells w (.bool (Int.tmod s 2 == 0))) := by
  go_enter Tryd.func111, Tryd.ntmps111
  go_wp2_with fail
  go_quiet (first
    | (go_at_call 97; exact Calls.quiet_of_same (within_same _ _ _ _))
    | (go_at_call 141; exact Calls.quiet_of_same (idays_calls _ _ _)))
  go_wp2_with fail
  go_ret
  exact ⟨by simp, ((On.refl w).alloc _).drewN _⟩
theorem iok_calls (y m d h mi s : Int) (w : World) : Calls Tryd.prog 111 #[.agg #[.int .i64 y, .int .i64 m, .int .i64 d, .int .i64 h, .int .i64 mi, .int .i64 s]] w (Tells w (.bool (decide (okp y m d h mi s)))) := by
  by_cases h1 : 1980 ≤ y ∧ y ≤ 2107
  rotate_left
  · have HF : decide (okp y m d h mi s) = false := by rw [decide_eq_false_iff_not]; intro hh; unfold okp at hh; exact h1 hh.1
    rw [HF]
    exact iok_calls_0 y m d h mi s w  (decide_eq_false h1)
  by_cases h2 : 1 ≤ m ∧ m ≤ 12
  rotate_left
  · have HF : decide (okp y m d h mi s) = false := by rw [decide_eq_false_iff_not]; intro hh; unfold okp at hh; exact h2 hh.2.1
    rw [HF]
    exact iok_calls_1 y m d h mi s w (decide_eq_true h1) (decide_eq_false h2)
  by_cases h3 : 1 ≤ d ∧ d ≤ dd y m
  rotate_left
  · have HF : decide (okp y m d h mi s) = false := by rw [decide_eq_false_iff_not]; intro hh; unfold okp at hh; exact h3 hh.2.2.1
    rw [HF]
    exact iok_calls_2 y m d h mi s w (decide_eq_true h1) (decide_eq_true h2) (decide_eq_false h3)
  by_cases h4 : 0 ≤ h ∧ h ≤ 23
  rotate_left
  · have HF : decide (okp y m d h mi s) = false := by rw [decide_eq_false_iff_not]; intro hh; unfold okp at hh; exact h4 hh.2.2.2.1
    rw [HF]
    exact iok_calls_3 y m d h mi s w (decide_eq_true h1) (decide_eq_true h2) (decide_eq_true h3) (decide_eq_false h4)
  by_cases h5 : 0 ≤ mi ∧ mi ≤ 59
  rotate_left
  · have HF : decide (okp y m d h mi s) = false := by rw [decide_eq_false_iff_not]; intro hh; unfold okp at hh; exact h5 hh.2.2.2.2.1
    rw [HF]
    exact iok_calls_4 y m d h mi s w (decide_eq_true h1) (decide_eq_true h2) (decide_eq_true h3) (decide_eq_true h4) (decide_eq_false h5)
  by_cases h6 : 0 ≤ s ∧ s ≤ 58
  rotate_left
  · have HF : decide (okp y m d h mi s) = false := by rw [decide_eq_false_iff_not]; intro hh; unfold okp at hh; exact h6 hh.2.2.2.2.2.1
    rw [HF]
    exact iok_calls_5 y m d h mi s w (decide_eq_true h1) (decide_eq_true h2) (decide_eq_true h3) (decide_eq_true h4) (decide_eq_true h5) (decide_eq_false h6)
  have HT : decide (okp y m d h mi s) = (Int.tmod s 2 == 0) := by
    rw [Bool.eq_iff_iff, decide_eq_true_iff, beq_iff_eq]; exact ⟨fun t => t.2.2.2.2.2.2, fun t => ⟨h1, h2, h3, h4, h5, h6, t⟩⟩
  rw [HT]
  exact iok_calls_6 y m d h mi s w (decide_eq_true h1) (decide_eq_true h2) (decide_eq_true h3) (decide_eq_true h4) (decide_eq_true h5) (decide_eq_true h6)
end Go.Proofs.YtncidljdfipigaaDoor.Nm

/- Stamps as numbers: both programs' ways to write one that is ok. -/
namespace Go.Proofs.YtncidljdfipigaaDoor.Nm
open Go.RowKit Go.Proofs.YtncidljdfipigaaDoor.Mem
set_option linter.unusedVariables false
set_option linter.unusedSimpArgs false
theorem swr_i64 (n : Int) (h₀ : 0 ≤ n) (h₁ : n < 2 ^ 63) : IntKind.i64.wrap n = n := by rw [IntKind.wrap_i64]; omega
theorem or_add (i : Nat) {x y : Int} (h0 : 0 ≤ x) (hx : x % 2 ^ i = 0) (h1 : x < 9223372036854775808) (y0 : 0 ≤ y) (y1 : y < 2 ^ i) (y2 : y < 9223372036854775808) : Go.bits .or .i64 x y = x + y :=
  bits_join .i64 63 (by decide) swr_i64 i x y h0 hx (by omega) y0 y1 (by omega)
theorem or_comm (x y : Int) : Go.bits .or .i64 x y = Go.bits .or .i64 y x := by
  simp only [Go.bits]; rw [BitVec.or_comm]
theorem or_lo (i : Nat) {x y : Int} (x0 : 0 ≤ x) (x1 : x < 2 ^ i) (x2 : x < 9223372036854775808) (h0 : 0 ≤ y) (hy : y % 2 ^ i = 0) (h1 : y < 9223372036854775808) : Go.bits .or .i64 x y = x + y := by
  rw [or_comm, or_add i h0 hy h1 x0 x1 x2]; omega
/-- A stamp's number. -/
def stampN (y m d h mi s : Int) : Int := (y - 1980) * 33554432 + m * 2097152 + d * 65536 + h * 2048 + mi * 32 + s / 2
theorem stampN_bd {y m d h mi s : Int} (ok : okp y m d h mi s) : 0 ≤ stampN y m d h mi s ∧ stampN y m d h mi s < 4294967296 := by
  obtain ⟨⟨a1, a2⟩, ⟨b1, b2⟩, ⟨c1, c2⟩, ⟨d1, d2⟩, ⟨e1, e2⟩, ⟨f1, f2⟩, g⟩ := ok
  have c3 := dd_le y m
  unfold stampN
  omega
set_option maxRecDepth 100000 in
set_option maxHeartbeats 1000000 in
theorem sput_calls (y m d h mi s : Int) (ok : okp y m d h mi s) (w : World) :
    Calls Tryd.prog 146 #[.agg #[.int .i64 y, .int .i64 m, .int .i64 d, .int .i64 h, .int .i64 mi, .int .i64 s]] w (Tells w (.int .i64 (stampN y m d h mi s))) := by
  obtain ⟨⟨a1, a2⟩, ⟨b1, b2⟩, ⟨c1, c2⟩, ⟨d1, d2⟩, ⟨f1, f2⟩, ⟨g1, g2⟩, g⟩ := ok
  have c3 := dd_le y m
  have OA := (On.refl w).alloc (.cells #[.int .i64 y, .int .i64 m, .int .i64 d, .int .i64 h, .int .i64 mi, .int .i64 s] 32)
  obtain ⟨n1, h1⟩ : ∃ n, n = y - 1980 := ⟨_, rfl⟩
  obtain ⟨n2, h2⟩ : ∃ n, n = n1 * 16 := ⟨_, rfl⟩
  obtain ⟨n3, h3⟩ : ∃ n, n = n2 + m := ⟨_, rfl⟩
  obtain ⟨n4, h4⟩ : ∃ n, n = n3 * 32 := ⟨_, rfl⟩
  obtain ⟨n5, h5⟩ : ∃ n, n = n4 + d := ⟨_, rfl⟩
  obtain ⟨n6, h6⟩ : ∃ n, n = n5 * 32 := ⟨_, rfl⟩
  obtain ⟨n7, h7⟩ : ∃ n, n = n6 + h := ⟨_, rfl⟩
  obtain ⟨n8, h8⟩ : ∃ n, n = n7 * 64 := ⟨_, rfl⟩
  obtain ⟨n9, h9⟩ : ∃ n, n = n8 + mi := ⟨_, rfl⟩
  obtain ⟨n10, h10⟩ : ∃ n, n = n9 * 32 := ⟨_, rfl⟩
  obtain ⟨q, hq⟩ : ∃ n, n = s / 2 := ⟨_, rfl⟩
  obtain ⟨n11, h11⟩ : ∃ n, n = n10 + q := ⟨_, rfl⟩
  have e1 : IntKind.i64.wrap (y - 1980) = n1 := by rw [IntKind.wrap_i64]; omega
  have e2 : IntKind.i64.wrap (n1 * 16) = n2 := by rw [IntKind.wrap_i64]; omega
  have e3 : IntKind.i64.wrap (n2 + m) = n3 := by rw [IntKind.wrap_i64]; omega
  have e4 : IntKind.i64.wrap (n3 * 32) = n4 := by rw [IntKind.wrap_i64]; omega
  have e5 : IntKind.i64.wrap (n4 + d) = n5 := by rw [IntKind.wrap_i64]; omega
  have e6 : IntKind.i64.wrap (n5 * 32) = n6 := by rw [IntKind.wrap_i64]; omega
  have e7 : IntKind.i64.wrap (n6 + h) = n7 := by rw [IntKind.wrap_i64]; omega
  have e8 : IntKind.i64.wrap (n7 * 64) = n8 := by rw [IntKind.wrap_i64]; omega
  have e9 : IntKind.i64.wrap (n8 + mi) = n9 := by rw [IntKind.wrap_i64]; omega
  have e10 : IntKind.i64.wrap (n9 * 32) = n10 := by rw [IntKind.wrap_i64]; omega
  have eq : Int.tdiv s 2 = q := by rw [Int.tdiv_eq_ediv_of_nonneg g1]; omega
  have e11 : IntKind.i64.wrap (n10 + q) = n11 := by rw [IntKind.wrap_i64]; omega
  have e12 : wrap64 q = q := by unfold wrap64; omega
  have e13 : wrap64 (n10 + q) = n11 := by unfold wrap64; omega
  have HN : RowKit.Hid (n11 = stampN y m d h mi s) := Lib.hid (by unfold stampN; omega)
  generalize stampN y m d h mi s = N at *
  clear a1 a2 b1 b2 c1 c2 c3 d1 d2 f1 f2 g1 g2 g h1 h2 h3 h4 h5 h6 h7 h8 h9 h10 h11 hq
  go_enter Tryd.func146, Tryd.ntmps146
  go_wp2_with fail
  go_ret
  exact ⟨by rw [← HN.out]; rfl, OA⟩
set_option maxRecDepth 100000 in
set_option maxHeartbeats 1000000 in
theorem iput_calls (y m d h mi s : Int) (ok : okp y m d h mi s) (w : World) :
    Calls Tryd.prog 109 #[.agg #[.int .i64 y, .int .i64 m, .int .i64 d, .int .i64 h, .int .i64 mi, .int .i64 s]] w (Tells w (.int .i64 (stampN y m d h mi s))) := by
  have HK := Lib.hid (fun w => iok_calls y m d h mi s w)
  rw [decide_eq_true ok] at HK
  obtain ⟨⟨a1, a2⟩, ⟨b1, b2⟩, ⟨c1, c2⟩, ⟨d1, d2⟩, ⟨f1, f2⟩, ⟨g1, g2⟩, g⟩ := ok
  have c3 := dd_le y m
  have OA := (On.refl w).alloc (.cells #[.int .i64 y, .int .i64 m, .int .i64 d, .int .i64 h, .int .i64 mi, .int .i64 s] 32)
  have BA := Blk.new w 32 #[.int .i64 y, .int .i64 m, .int .i64 d, .int .i64 h, .int .i64 mi, .int .i64 s]
  go_enter Tryd.func109, Tryd.ntmps109
  go_wp2_with fail
  generalize hP : w.heap.size = p at *
  generalize w.alloc (.cells #[.int .i64 y, .int .i64 m, .int .i64 d, .int .i64 h, .int .i64 mi, .int .i64 s] 32) = wa at *
  refine (HK.out wa).mono ?_
  rintro e w1 ⟨rfl, O1⟩
  have B1 := BA.call O1.out
  have x0 : w1.cell? ⟨p, 0, none⟩ = some (.int .i64 y) := (B1.cell 0).trans rfl
  have x1 : w1.cell? ⟨p, 1, none⟩ = some (.int .i64 m) := (B1.cell 1).trans rfl
  have x2 : w1.cell? ⟨p, 2, none⟩ = some (.int .i64 d) := (B1.cell 2).trans rfl
  have x3 : w1.cell? ⟨p, 3, none⟩ = some (.int .i64 h) := (B1.cell 3).trans rfl
  have x4 : w1.cell? ⟨p, 4, none⟩ = some (.int .i64 mi) := (B1.cell 4).trans rfl
  have x5 : w1.cell? ⟨p, 5, none⟩ = some (.int .i64 s) := (B1.cell 5).trans rfl
  have HV : RowKit.Hid (Go.bits .or .i64 (Go.bits .or .i64 (Go.bits .or .i64 (Go.bits .or .i64 (Go.bits .or .i64 (s / 2) (mi * 32)) (h * 2048)) (d * 65536)) (m * 2097152)) ((y - 1980) * 33554432) = stampN y m d h mi s) := Lib.hid (by
    rw [or_lo 5 (x := s / 2) (y := mi * 32) (by omega) (by omega) (by omega) (by omega) (by omega) (by omega)]
    rw [or_lo 11 (x := s / 2 + mi * 32) (y := h * 2048) (by omega) (by omega) (by omega) (by omega) (by omega) (by omega)]
    rw [or_lo 16 (x := s / 2 + mi * 32 + h * 2048) (y := d * 65536) (by omega) (by omega) (by omega) (by omega) (by omega) (by omega)]
    rw [or_lo 21 (x := s / 2 + mi * 32 + h * 2048 + d * 65536) (y := m * 2097152) (by omega) (by omega) (by omega) (by omega) (by omega) (by omega)]
    rw [or_lo 25 (x := s / 2 + mi * 32 + h * 2048 + d * 65536 + m * 2097152) (y := (y - 1980) * 33554432) (by omega) (by omega) (by omega) (by omega) (by omega) (by omega)]
    unfold stampN
    omega)
  go_wp2_with fail
  go_ret
  exact ⟨by rw [← HV.out]; rfl, OA.call O1⟩
end Go.Proofs.YtncidljdfipigaaDoor.Nm

/- Texts as lists of numbers, and how they lie in memory as strings. -/
namespace Go.Proofs.YtncidljdfipigaaDoor.Mem
open Go.RowKit
set_option linter.unusedVariables false
/-- The bytes of a text as numbers; a text of numbers. -/
def chars (s : ByteArray) : List Nat := s.data.toList.map fun b => b.toNat
def strB (l : List Nat) : ByteArray := ⟨(l.map fun n => UInt8.ofNat n).toArray⟩
theorem chars_length (s : ByteArray) : (chars s).length = s.size := by unfold chars; rw [List.length_map, Array.length_toList]; rfl
theorem chars_lt (s : ByteArray) : ∀ x ∈ chars s, x < 256 := by
  intro x hx
  obtain ⟨b, _, rfl⟩ := List.mem_map.1 hx
  exact b.toNat_lt
theorem strB_size (l : List Nat) : (strB l).size = l.length := by simp [strB, ByteArray.size]
theorem strB_chars (s : ByteArray) : strB (chars s) = s := by
  unfold strB chars
  rw [List.map_map]
  have : s.data.toList.map ((fun n : Nat => UInt8.ofNat n) ∘ fun b : UInt8 => b.toNat) = s.data.toList := by
    conv => rhs; rw [← List.map_id s.data.toList]
    exact List.map_congr_left fun b _ => by simp
  rw [this]
theorem chars_strB {l : List Nat} (h : ∀ x ∈ l, x < 256) : chars (strB l) = l := by
  unfold strB chars
  simp only [List.map_map]
  conv => rhs; rw [← List.map_id l]
  refine List.map_congr_left fun b hb => ?_
  have := h b hb
  simp; omega
theorem chars_ext {s t : ByteArray} (h : chars s = chars t) : s = t := by rw [← strB_chars s, ← strB_chars t, h]
theorem strB_inj {a b : List Nat} (ha : ∀ x ∈ a, x < 256) (hb : ∀ x ∈ b, x < 256) (h : strB a = strB b) : a = b := by rw [← chars_strB ha, ← chars_strB hb, h]
theorem strB_append (a b : List Nat) : strB a ++ strB b = strB (a ++ b) := by
  unfold strB
  simp [ByteArray.ext_iff, ByteArray.data_append]
theorem strB_app (a : List Nat) (s : ByteArray) : strB a ++ s = strB (a ++ chars s) := by rw [← strB_append, strB_chars]
theorem strB_nil : strB [] = ⟨#[]⟩ := rfl
theorem chars_at (s : ByteArray) {i : Nat} (h : i < s.size) : (chars s).getD i 0 = s[i].toNat := by
  unfold chars
  rw [List.getD_eq_getElem?_getD, List.getElem?_map, List.getElem?_eq_getElem (by rw [Array.length_toList]; exact h)]; rfl
theorem bytes_conv {w : World} {r : Nat} {v : Value} {l : List Nat} (h : Bytes w r v l) : (convert 22 9 v).run Tryd.prog w = .ok (.string (strB l)) w := by
  have e : (⟨((l.map fun n : Nat => (n : Int)).map fun n : Int => UInt8.ofNat n.toNat).toArray⟩ : ByteArray) = strB l := by
    unfold strB; rw [List.map_map]; rfl
  rcases h.slice with ⟨rfl, rfl⟩ | ⟨cap, rfl, h1, h2⟩
  · exact run_convert_bytes_nil w 22 5 Tryd.underlying22 Tryd.underlying5 0 0 9 Tryd.underlying9
  · rw [← e]
    refine run_convert_bytes_arg w 22 5 Tryd.underlying22 Tryd.underlying5 r 0 l.length cap (l.map fun n : Nat => (n : Int)) (by simp) (fun i hi => ?_) 9 Tryd.underlying9
    have hi' : i < l.length := by simpa using hi
    have hc := h.own.cells (g := r) rfl i (.int .u8 (l.getD i 0 : Nat)) (u8s_get hi')
    have ha : (⟨r, 0, none⟩ : Addr).add i = ⟨r, 0 + i, none⟩ := by unfold Addr.add; split <;> simp_all
    rw [ha] at hc
    rw [hc, List.getD_eq_getElem?_getD, List.getD_eq_getElem?_getD, List.getElem?_map]
    rw [List.getElem?_eq_getElem hi']; rfl
end Go.Proofs.YtncidljdfipigaaDoor.Mem

/- Numbers as bytes, the least first: both programs' ways to write one and to read one. -/
namespace Go.Proofs.YtncidljdfipigaaDoor.Nb
open Go.RowKit Go.Proofs.YtncidljdfipigaaDoor.Mem
set_option linter.unusedVariables false
set_option linter.unusedSimpArgs false
/-- A number's bytes. -/
def numB (n v : Nat) : List Nat := (List.range n).map fun i => v / 256 ^ i % 256
theorem numB_length (n v : Nat) : (numB n v).length = n := by unfold numB; rw [List.length_map, List.length_range]
theorem numB_succ (n v : Nat) : numB (n + 1) v = numB n v ++ [v / 256 ^ n % 256] := by
  unfold numB
  rw [List.range_succ, List.map_append]; rfl
theorem numB_lt (n v : Nat) : ∀ x ∈ numB n v, x < 256 := by
  intro x hx
  unfold numB at hx
  obtain ⟨i, _, rfl⟩ := List.mem_map.1 hx
  exact Nat.mod_lt _ (by decide)
theorem div_step (v k : Nat) : v / 256 ^ k / 256 = v / 256 ^ (k + 1) := by rw [Nat.div_div_eq_div_mul, Nat.pow_succ]
/-- What bytes tell. -/
def numOf : List Nat → Nat
  | [] => 0
  | x :: l => x + 256 * numOf l
theorem numOf_lt : ∀ {l : List Nat}, (∀ x ∈ l, x < 256) → numOf l < 256 ^ l.length
  | [], _ => by simp [numOf]
  | x :: l, h => by
    have h1 := numOf_lt (l := l) fun y hy => h y (List.mem_cons_of_mem _ hy)
    have h2 := h x List.mem_cons_self
    rw [numOf, List.length_cons, Nat.pow_succ]
    omega
theorem wr8 (n : Int) (h₀ : 0 ≤ n) (h₁ : n < 256) : IntKind.u8.wrap n = n := by
  have e : IntKind.u8.wrap n = n % 256 := rfl
  rw [e]; omega
theorem bytes_new (w : World) : Bytes (w.alloc (.cells #[] 5)) w.heap.size (.slice (some ⟨w.heap.size, 0, none⟩) 0 0) [] := by
  refine ⟨?_, fun g hg => by simp [Value.ownBlock] at hg; exact hg.symm⟩
  exact World.ownsRow_lit w (base := 0) (e := 5) (size := 1) #[] 0 (Nat.zero_le _) (by unfold maxLen; omega) (by simp)
/-- s = append(s, x), whatever the byte's spelling. -/
theorem wpList_byteI {ops : Array Oper} {rest : List Oper} {o : Oper} {act : Act} {Q : Exit → Act → World → Prop} {wr : World} {xi : Int} (hgd : o.guard = none) (s y : Operand)
    (ho : o.op = .call { callee := .builtin .append, args := #[s, y], argTypes := #[22, 22] })
    {r : Nat} {v : Value} {l : List Nat} (x : Nat) (hxi : xi = (x : Int)) (hs : act.eval s = v) (hby : Bytes wr r v l) (hx : act.eval y = .slice (some ⟨wr.heap.size, 0, none⟩) 1 1) (hl : l.length ≤ 100000000)
    (h : ∀ r2 cap w1, Bytes w1 r2 (.slice (some ⟨r2, 0, none⟩) (l.length + 1) cap) (l ++ [x]) → (r2 = r ∨ wr.heap.size ≤ r2) → r2 < w1.heap.size → Kp [r] wr w1 → l.length + 1 ≤ cap → cap ≤ maxLen →
      wpList Tryd.prog ops Q rest (act.put o.dst (.slice (some ⟨r2, 0, none⟩) (l.length + 1) cap)) w1) :
    wpList Tryd.prog ops Q (o :: rest) act (wr.alloc (.cells #[.int .u8 xi] 5)) := by
  subst hxi
  exact wpList_byte hgd s y ho hs hby hx hl h
set_option maxRecDepth 100000 in
set_option maxHeartbeats 1000000 in
theorem inumber_calls (v n : Nat) (hv : v < 9223372036854775808) (hn : n ≤ 100) (w : World) :
    Calls Tryd.prog 112 #[.int .i64 v, .int .i64 n] w (fun e w' => e = .returned (.string (strB (numB n v))) ∧ On w w') := by
  have O0 := (On.refl w).alloc (.cells #[] 5)
  have B0 := bytes_new w
  have hz : w.heap.size ≤ w.heap.size := Nat.le_refl _
  go_enter Tryd.func112, Tryd.ntmps112
  go_wp2_with fail
  generalize hr0 : w.heap.size = r0 at B0 hz
  go_loopw [0, 5, 8] (fun u o x wr => ∃ (k r cap : Nat), x = .int .i64 k ∧ k ≤ n ∧ u = .int .i64 (v / 256 ^ k : Nat) ∧ o = .slice (some ⟨r, 0, none⟩) k cap ∧ Bytes wr r (.slice (some ⟨r, 0, none⟩) k cap) (numB k v) ∧ On w wr ∧ w.heap.size ≤ r) (fun _ _ x _ => n - (intOf x).toNat)
  case atStart => exact ⟨0, r0, 0, rfl, by omega, by simp, rfl, B0, O0, by omega⟩
  case round =>
    obtain ⟨k, r, cap, rfl, hk, rfl, rfl, hby, O, hr⟩ := hrel
    by_cases hlt : k < n
    · have HV := Lib.hid (div_step v k)
      have HB := Lib.hid (numB_succ k v)
      have hu : v / 256 ^ k < 9223372036854775808 := Nat.lt_of_le_of_lt (Nat.div_le_self _ _) hv
      generalize v / 256 ^ k = u at *
      have e1 : IntKind.u8.wrap ((u : Int) % 256) = ((u % 256 : Nat) : Int) := by rw [wr8 _ (by omega) (by omega)]; rfl
      have hl : (numB k v).length = k := numB_length k v
      have HL := Lib.hid hl
      clear hl
      generalize numB k v = l at *
      go_wp2_with (at_builtin; go_must (refine wpList_byteI rfl _ _ rfl (u % 256) (Int.natCast_emod u 256).symm rfl hby rfl (by rw [HL.out]; omega) ?_); intro r2 cap2 w2 hby2 hr2 hrl2 K2 hc1 hc2)
      exact ⟨⟨k + 1, r2, cap2, by go_num, by omega, by rw [← HV.out]; rfl, by rw [HL.out], by rw [HB.out]; rw [HL.out] at hby2; exact hby2, K2.on O (fun x hx => by simp at hx; omega), by have := O.size; omega⟩, by simp [intOf]; omega⟩
    · obtain rfl : k = n := by omega
      have cv := bytes_conv hby
      go_wp2_with fail
      go_ret
      exact ⟨rfl, O⟩
set_option maxRecDepth 100000 in
set_option maxHeartbeats 1000000 in
theorem sbytes_calls (v n : Nat) (hv : v < 9223372036854775808) (hn : n ≤ 100) (w : World) :
    Calls Tryd.prog 117 #[.int .i64 v, .int .i64 n] w (fun e w' => e = .returned (.string (strB (numB n v))) ∧ On w w') := by
  have O0 := (On.refl w).alloc (.cells #[] 5)
  have B0 := bytes_new w
  have hz : w.heap.size ≤ w.heap.size := Nat.le_refl _
  go_enter Tryd.func117, Tryd.ntmps117
  go_wp2_with fail
  generalize hr0 : w.heap.size = r0 at B0 hz
  go_loopw [0, 5, 6] (fun u o x wr => ∃ (k r cap : Nat), x = .int .i64 k ∧ k ≤ n ∧ u = .int .i64 (v / 256 ^ k : Nat) ∧ o = .slice (some ⟨r, 0, none⟩) k cap ∧ Bytes wr r (.slice (some ⟨r, 0, none⟩) k cap) (numB k v) ∧ On w wr ∧ w.heap.size ≤ r) (fun _ _ x _ => n - (intOf x).toNat)
  case atStart => exact ⟨0, r0, 0, rfl, by omega, by simp, rfl, B0, O0, by omega⟩
  case round =>
    obtain ⟨k, r, cap, rfl, hk, rfl, rfl, hby, O, hr⟩ := hrel
    by_cases hlt : k < n
    · have HV := Lib.hid (div_step v k)
      have HB := Lib.hid (numB_succ k v)
      have hu : v / 256 ^ k < 9223372036854775808 := Nat.lt_of_le_of_lt (Nat.div_le_self _ _) hv
      generalize v / 256 ^ k = u at *
      have e1 : IntKind.u8.wrap ((u : Int) % 256) = ((u % 256 : Nat) : Int) := by rw [wr8 _ (by omega) (by omega)]; rfl
      have hl : (numB k v).length = k := numB_length k v
      have HL := Lib.hid hl
      clear hl
      generalize numB k v = l at *
      go_wp2_with (at_builtin; go_must (refine wpList_byteI rfl _ _ rfl (u % 256) (Int.natCast_emod u 256).symm rfl hby rfl (by rw [HL.out]; omega) ?_); intro r2 cap2 w2 hby2 hr2 hrl2 K2 hc1 hc2)
      exact ⟨⟨k + 1, r2, cap2, by go_num, by omega, by rw [← HV.out]; rfl, by rw [HL.out], by rw [HB.out]; rw [HL.out] at hby2; exact hby2, K2.on O (fun x hx => by simp at hx; omega), by have := O.size; omega⟩, by simp [intOf]; omega⟩
    · obtain rfl : k = n := by omega
      have cv := bytes_conv hby
      go_wp2_with fail
      go_ret
      exact ⟨rfl, O⟩
def at_ (s : ByteArray) (a k n : Nat) : Nat := numOf (((s.data.toList.map UInt8.toNat).drop (a + k)).take (n - k))
theorem at_step (s : ByteArray) {a k n : Nat} (hk : k < n) (h : a + n ≤ s.size) : (256 * at_ s a (k + 1) n + s[a + k].toNat) = at_ s a k n := by
  have hl : a + k < (s.data.toList.map UInt8.toNat).length := by rw [List.length_map, Array.length_toList]; show a + k < s.size; omega
  unfold at_
  rw [List.drop_eq_getElem_cons hl, show n - k = (n - (k + 1)) + 1 from by omega, List.take_succ_cons, numOf, List.getElem_map, show a + k + 1 = a + (k + 1) from by omega, Nat.add_comm]
  rfl
theorem at_lt (s : ByteArray) (a k n : Nat) (h3 : n - k ≤ 3) : at_ s a k n < 16777216 := by
  unfold at_
  refine Nat.lt_of_lt_of_le (numOf_lt fun x hx => ?_) (Nat.le_trans (Nat.pow_le_pow_right (by decide) (List.length_take_le _ _)) (Nat.le_trans (Nat.pow_le_pow_right (by decide) h3) (by decide)))
  obtain ⟨y, _, rfl⟩ := List.mem_map.1 (List.mem_of_mem_drop (List.mem_of_mem_take hx))
  exact y.toNat_lt
/-- The number that a text has from a place on. -/
def numAtB (s : ByteArray) (a n : Nat) : Nat := at_ s a 0 n
theorem at_end (s : ByteArray) (a n : Nat) : at_ s a n n = 0 := by unfold at_; rw [Nat.sub_self]; rfl
set_option maxRecDepth 100000 in
set_option maxHeartbeats 1000000 in
theorem inumat_calls (s : ByteArray) (a n : Nat) (hs : s.size ≤ 4294967296) (h : a + n ≤ s.size) (hn : n ≤ 4) (w : World) :
    Calls Tryd.prog 73 #[.string s, .int .i64 a, .int .i64 n] w (fun e w' => e = .returned (.int .i64 (numAtB s a n : Nat)) ∧ w' = w) := by
  have HE := Lib.hid (at_end s a n)
  have e0 : IntKind.i64.wrap ((n : Int) - 1) = (n : Int) - 1 := by rw [IntKind.wrap_i64]; omega
  unfold numAtB
  go_enter Tryd.func73, Tryd.ntmps73
  go_wp2_with fail
  clear e0
  go_loopw [7, 8] (fun v x wr => ∃ k : Nat, x = .int .i64 ((k : Int) - 1) ∧ k ≤ n ∧ v = .int .i64 (at_ s a k n : Nat) ∧ wr = w) (fun _ x _ => (intOf x + 1).toNat)
  case atStart => exact ⟨n, rfl, Nat.le_refl _, by rw [HE.out]; rfl, rfl⟩
  case round =>
    obtain ⟨k, rfl, hk, rfl, rfl⟩ := hrel
    rcases k with _ | j
    · go_wp2_with fail
      go_ret
      exact ⟨rfl, rfl⟩
    · rw [show ((j + 1 : Nat) : Int) - 1 = (j : Int) from by omega]
      have HS := Lib.hid (at_step s (a := a) (k := j) (n := n) (by omega) h)
      have hlt := at_lt s a (j + 1) n (by omega)
      have hb : s[a + j].toNat < 256 := s[a + j].toNat_lt
      generalize at_ s a (j + 1) n = v at *
      have hj : (a : Int) + (j : Int) < s.size := by omega
      go_wp2_with fail
      exact ⟨⟨j, rfl, by omega, by rw [← HS.out, Int.natCast_add, Int.natCast_mul]; rfl, trivial⟩, by simp [intOf]⟩
set_option maxRecDepth 100000 in
set_option maxHeartbeats 1000000 in
theorem snum_calls (s : ByteArray) (a n : Nat) (hs : s.size ≤ 4294967296) (h : a + n ≤ s.size) (hn : n ≤ 4) (w : World) :
    Calls Tryd.prog 105 #[.string s, .int .i64 a, .int .i64 n] w (fun e w' => e = .returned (.int .i64 (numAtB s a n : Nat)) ∧ w' = w) := by
  have HE := Lib.hid (at_end s a n)
  have e0 : IntKind.i64.wrap ((n : Int) - 1) = (n : Int) - 1 := by rw [IntKind.wrap_i64]; omega
  have e1 : IntKind.i64.wrap ((a : Int) + n) = (a : Int) + n := by rw [IntKind.wrap_i64]; omega
  have e2 : ¬ (s.size : Int) < (a : Int) + n := by omega
  unfold numAtB
  go_enter Tryd.func105, Tryd.ntmps105
  go_wp2_with fail
  clear e0
  go_loopw [7, 8] (fun v x wr => ∃ k : Nat, x = .int .i64 ((k : Int) - 1) ∧ k ≤ n ∧ v = .int .i64 (at_ s a k n : Nat) ∧ wr = w) (fun _ x _ => (intOf x + 1).toNat)
  case atStart => exact ⟨n, rfl, Nat.le_refl _, by rw [HE.out]; rfl, rfl⟩
  case round =>
    obtain ⟨k, rfl, hk, rfl, rfl⟩ := hrel
    rcases k with _ | j
    · go_wp2_with fail
      go_ret
      exact ⟨rfl, rfl⟩
    · rw [show ((j + 1 : Nat) : Int) - 1 = (j : Int) from by omega]
      have HS := Lib.hid (at_step s (a := a) (k := j) (n := n) (by omega) h)
      have hlt := at_lt s a (j + 1) n (by omega)
      have hb : s[a + j].toNat < 256 := s[a + j].toNat_lt
      generalize at_ s a (j + 1) n = v at *
      have hj : (a : Int) + (j : Int) < s.size := by omega
      go_wp2_with fail
      exact ⟨⟨j, rfl, by omega, by rw [← HS.out, Int.natCast_add, Int.natCast_mul]; rfl, trivial⟩, by simp [intOf]⟩
set_option maxRecDepth 100000 in
theorem snum_none (s : ByteArray) (a n : Nat) (hs : s.size ≤ 4294967296) (h : ¬ a + n ≤ s.size) (ha : a ≤ 4294967296) (hn : n ≤ 4) (w : World) :
    Calls Tryd.prog 105 #[.string s, .int .i64 a, .int .i64 n] w (fun e w' => e = .returned (.int .i64 (-1)) ∧ w' = w) := by
  have e1 : IntKind.i64.wrap ((a : Int) + n) = (a : Int) + n := by rw [IntKind.wrap_i64]; omega
  have e2 : (s.size : Int) < (a : Int) + n := by omega
  go_enter Tryd.func105, Tryd.ntmps105
  go_wp2_with fail
  go_ret
  exact ⟨rfl, rfl⟩
end Go.Proofs.YtncidljdfipigaaDoor.Nb

/- The checksum of a text, both programs'. -/
namespace Go.Proofs.YtncidljdfipigaaDoor.Cr
open Go.RowKit Go.Proofs.YtncidljdfipigaaDoor.Mem
set_option linter.unusedVariables false
set_option linter.unusedSimpArgs false
def bitC (c : Nat) : Nat := if c % 2 = 1 then (c / 2) ^^^ 3988292384 else c / 2
def runC : Nat → Nat → Nat
  | 0, c => c
  | k + 1, c => bitC (runC k c)
def stepC (c b : Nat) : Nat := runC 8 (c ^^^ b)
def crcC (l : List Nat) : Nat := l.foldl stepC 4294967295 ^^^ 4294967295
theorem bitC_lt {c : Nat} (h : c < 4294967296) : bitC c < 4294967296 := by
  unfold bitC
  split
  · exact Nat.xor_lt_two_pow (n := 32) (by omega) (by decide)
  · omega
theorem runC_lt {c : Nat} (h : c < 4294967296) : ∀ k, runC k c < 4294967296
  | 0 => h
  | k + 1 => bitC_lt (runC_lt h k)
theorem stepC_lt {c b : Nat} (h : c < 4294967296) (hb : b < 256) : stepC c b < 4294967296 := runC_lt (Nat.xor_lt_two_pow (n := 32) (by omega) (by omega)) _
theorem xor32 {a b : Nat} (ha : a < 4294967296) (hb : b < 4294967296) : Go.bits .xor .u32 (a : Int) (b : Int) = ((a ^^^ b : Nat) : Int) := by
  have hx := Nat.xor_lt_two_pow (n := 32) (x := a) (y := b) (by omega) (by omega)
  have ha' : a % 2 ^ IntKind.u32.bits = a := by show a % 2 ^ 32 = a; omega
  have hb' : b % 2 ^ IntKind.u32.bits = b := by show b % 2 ^ 32 = b; omega
  simp only [Go.bits, BitVec.ofInt_natCast, BitVec.toNat_xor, BitVec.toNat_ofNat, ha', hb']
  rw [IntKind.wrap_u32]
  omega
theorem and1 {a : Nat} (ha : a < 4294967296) : Go.bits .and .u32 (a : Int) 1 = ((a % 2 : Nat) : Int) := by
  have ha' : a % 2 ^ IntKind.u32.bits = a := by show a % 2 ^ 32 = a; omega
  have hb' : 1 % 2 ^ IntKind.u32.bits = 1 := by decide
  rw [show (1 : Int) = ((1 : Nat) : Int) from rfl]
  simp only [Go.bits, BitVec.ofInt_natCast, BitVec.toNat_and, BitVec.toNat_ofNat, ha', hb', Nat.and_one_is_mod]
  rw [IntKind.wrap_u32]
  omega
theorem not32 {a : Nat} (ha : a < 4294967296) : Go.bits .xor .u32 IntKind.u32.max (a : Int) = ((a ^^^ 4294967295 : Nat) : Int) := by
  rw [show IntKind.u32.max = ((4294967295 : Nat) : Int) from by decide, xor32 (by decide) ha, Nat.xor_comm]
theorem bit32 {v : Nat} (hv : v < 4294967296) : Go.bits .xor .u32 ((v : Int) / 2) (3988292384 * ((v : Int) % 2)) = ((bitC v : Nat) : Int) := by
  unfold bitC
  rcases Nat.mod_two_eq_zero_or_one v with h | h
  · rw [if_neg (by omega), show (3988292384 * ((v : Int) % 2)) = ((0 : Nat) : Int) from by omega]
    have := xor32 (a := v / 2) (b := 0) (by omega) (by decide)
    rw [Nat.xor_zero] at this
    exact this
  · rw [if_pos h, show (3988292384 * ((v : Int) % 2)) = ((3988292384 : Nat) : Int) from by omega]
    exact xor32 (a := v / 2) (b := 3988292384) (by omega) (by decide)
set_option maxRecDepth 100000 in
theorem step_calls (c b : Nat) (hc : c < 4294967296) (hb : b < 256) (w : World) :
    Calls Tryd.prog 154 #[.int .u32 c, .int .u8 b] w (fun e w' => e = .returned (.int .u32 (stepC c b : Nat)) ∧ w' = w) := by
  have hx := xor32 hc (b := b) (by omega)
  have hcb : c ^^^ b < 4294967296 := Nat.xor_lt_two_pow (n := 32) (by omega) (by omega)
  unfold stepC
  generalize c ^^^ b = c0 at *
  go_enter Tryd.func154, Tryd.ntmps154
  go_upto_region 2 with fail
  clear hx
  go_wp2_with fail
  go_loopw [0, 5] (fun v x wr => ∃ k : Nat, x = .int .i64 k ∧ k ≤ 8 ∧ v = .int .u32 (runC k c0 : Nat) ∧ wr = w) (fun _ x _ => 8 - (intOf x).toNat)
  case atStart => exact ⟨0, rfl, by omega, rfl, rfl⟩
  case round =>
    obtain ⟨k, rfl, hk, rfl, rfl⟩ := hrel
    have hl := runC_lt hcb k
    have hs : bitC (runC k c0) = runC (k + 1) c0 := rfl
    by_cases hlt : k < 8
    · generalize runC k c0 = v at *
      have HX2 := Lib.hid (show Go.bits .xor .u32 ((v : Int) / 2) 3988292384 = (((v / 2) ^^^ 3988292384 : Nat) : Int) from xor32 (a := v / 2) (b := 3988292384) (by omega) (by omega))
      unfold bitC at hs
      by_cases h1 : v % 2 = 1
      · rw [if_pos h1] at hs
        have HS := Lib.hid hs
        clear hs
        go_wp2_with fail
        exact ⟨⟨k + 1, by go_num, by omega, by rw [HX2.out, HS.out], trivial⟩, by simp [intOf]; omega⟩
      · rw [if_neg h1] at hs
        have HS := Lib.hid hs
        clear hs
        go_wp2_with fail
        exact ⟨⟨k + 1, by go_num, by omega, by rw [← HS.out]; rfl, trivial⟩, by simp [intOf]; omega⟩
    · obtain rfl : k = 8 := by omega
      clear hs
      generalize hv : runC 8 c0 = v at *
      have HV := Lib.hid hv
      clear hv
      go_wp2_with fail
      go_ret
      exact ⟨by rw [HV.out]; rfl, rfl⟩
def crcTo (s : ByteArray) (k : Nat) : Nat := ((s.data.toList.map UInt8.toNat).take k).foldl stepC 4294967295
theorem crcTo_succ (s : ByteArray) {k : Nat} (h : k < s.size) : stepC (crcTo s k) s[k].toNat = crcTo s (k + 1) := by
  have hl : k < (s.data.toList.map UInt8.toNat).length := by rw [List.length_map, Array.length_toList]; exact h
  unfold crcTo
  rw [List.take_succ_eq_append_getElem hl, List.foldl_append, List.getElem_map]
  rfl
theorem crcTo_lt (s : ByteArray) : ∀ k, crcTo s k < 4294967296 := by
  intro k
  unfold crcTo
  have : ∀ (l : List Nat) c, (∀ x ∈ l, x < 256) → c < 4294967296 → l.foldl stepC c < 4294967296 := by
    intro l
    induction l with
    | nil => intro c _ h; exact h
    | cons a l ih => intro c hl h; exact ih _ (fun x hx => hl x (List.mem_cons_of_mem _ hx)) (stepC_lt h (hl a (List.mem_cons_self)))
  refine this _ _ (fun x hx => ?_) (by decide)
  obtain ⟨y, _, rfl⟩ := List.mem_map.1 (List.mem_of_mem_take hx)
  exact y.toNat_lt
theorem crcTo_all (s : ByteArray) : crcTo s s.size ^^^ 4294967295 = crcC (s.data.toList.map UInt8.toNat) := by
  unfold crcTo crcC
  rw [List.take_of_length_le (by rw [List.length_map, Array.length_toList]; exact Nat.le_refl _)]
theorem crcC_lt (s : ByteArray) : crcC (s.data.toList.map UInt8.toNat) < 4294967296 := by
  rw [← crcTo_all]; exact Nat.xor_lt_two_pow (n := 32) (crcTo_lt s _) (by decide)
set_option maxRecDepth 100000 in
theorem more_calls (s : ByteArray) (hs : s.size ≤ 4294967296) (w : World) :
    Calls Tryd.prog 138 #[.int .u32 0, .string s] w (fun e w' => e = .returned (.int .u32 (crcC (s.data.toList.map UInt8.toNat) : Nat)) ∧ w' = w) := by
  have HR := Lib.hid (crcTo_all s)
  generalize crcC (s.data.toList.map UInt8.toNat) = R at *
  have hx0 : Go.bits .xor .u32 0 4294967295 = 4294967295 := by decide
  go_enter Tryd.func138, Tryd.ntmps138
  go_wp2_with fail
  clear hx0
  go_loopw [5, 6] (fun v x wr => ∃ k : Nat, x = .int .i64 k ∧ k ≤ s.size ∧ v = .int .u32 (crcTo s k : Nat) ∧ wr = w) (fun _ x _ => s.size - (intOf x).toNat)
  case atStart => exact ⟨0, rfl, by omega, rfl, rfl⟩
  case round =>
    obtain ⟨k, rfl, hk, rfl, rfl⟩ := hrel
    have hc := crcTo_lt s k
    by_cases hlt : k < s.size
    · have HN := Lib.hid (crcTo_succ s hlt)
      have hb : s[k].toNat < 256 := s[k].toNat_lt
      have HC := Lib.hid (fun w => step_calls (crcTo s k) s[k].toNat hc hb w)
      generalize crcTo s k = v at *
      go_wp2_with fail
      refine (HC.out _).mono ?_
      rintro e w' ⟨rfl, rfl⟩
      go_wp2_with fail
      exact ⟨⟨k + 1, by go_num, by omega, by rw [HN.out], trivial⟩, by simp [intOf]; omega⟩
    · obtain rfl : k = s.size := by omega
      have HX := Lib.hid (xor32 hc (b := 4294967295) (by decide))
      generalize crcTo s s.size = v at *
      go_wp2_with fail
      go_ret
      exact ⟨by rw [← HR.out, ← HX.out]; rfl, rfl⟩
set_option maxRecDepth 100000 in
theorem scrc_calls (s : ByteArray) (hs : s.size ≤ 4294967296) (w : World) :
    Calls Tryd.prog 108 #[.string s] w (fun e w' => e = .returned (.int .i64 (crcC (s.data.toList.map UInt8.toNat) : Nat)) ∧ w' = w) := by
  have hl := crcC_lt s
  have HC := Lib.hid (fun w => more_calls s hs w)
  generalize crcC (s.data.toList.map UInt8.toNat) = R at *
  go_enter Tryd.func108, Tryd.ntmps108
  go_wp2_with fail
  refine (HC.out _).mono ?_
  rintro e w' ⟨rfl, rfl⟩
  go_wp2_with fail
  go_ret
  exact ⟨rfl, rfl⟩
set_option maxRecDepth 100000 in
set_option maxHeartbeats 1000000 in
theorem update_calls (s : ByteArray) (hs : s.size ≤ 4294967296) (w : World) :
    Calls Tryd.prog 142 #[.int .u32 0, .string s] w (fun e w' => e = .returned (.int .u32 (crcC (s.data.toList.map UInt8.toNat) : Nat)) ∧ w' = w) := by
  have HR := Lib.hid (crcTo_all s)
  generalize crcC (s.data.toList.map UInt8.toNat) = R at *
  go_enter Tryd.func142, Tryd.ntmps142
  go_wp2_with fail
  go_loopw [0, 5] (fun v x wr => ∃ k : Nat, x = .int .i64 k ∧ k ≤ s.size ∧ v = .int .u32 (crcTo s k : Nat) ∧ wr = w) (fun _ x _ => s.size - (intOf x).toNat)
  case atStart => exact ⟨0, rfl, by omega, rfl, rfl⟩
  case round =>
    obtain ⟨k, rfl, hk, rfl, rfl⟩ := hrel
    have hc := crcTo_lt s k
    by_cases hlt : k < s.size
    · have HN := Lib.hid (crcTo_succ s hlt)
      have hb : s[k].toNat < 256 := s[k].toNat_lt
      have hx := xor32 hc (b := s[k].toNat) (by omega)
      have hcb : crcTo s k ^^^ s[k].toNat < 4294967296 := Nat.xor_lt_two_pow (n := 32) (by omega) (by omega)
      unfold stepC at HN
      generalize crcTo s k = v at *
      go_wp2_with fail
      clear hx
      generalize v ^^^ s[k].toNat = c0 at *
      go_loopw [0, 20] (fun v x wr' => ∃ i : Nat, x = .int .i64 i ∧ i ≤ 8 ∧ v = .int .u32 (runC i c0 : Nat) ∧ wr' = wr) (fun _ x _ => 8 - (intOf x).toNat)
      case atStart => exact ⟨0, rfl, by omega, rfl, rfl⟩
      case round =>
        obtain ⟨i, rfl, hi, rfl, rfl⟩ := hrel
        have hl := runC_lt hcb i
        have hs : bitC (runC i c0) = runC (i + 1) c0 := rfl
        by_cases hlt : i < 8
        · generalize runC i c0 = v at *
          have HX2 := Lib.hid (bit32 hl)
          have ha := and1 hl
          have HS := Lib.hid hs
          clear hs
          go_wp2_with fail
          exact ⟨⟨i + 1, by go_num, by omega, by rw [HX2.out, HS.out], trivial⟩, by simp [intOf]; omega⟩
        · obtain rfl : i = 8 := by omega
          clear hs
          go_wp2_with fail
          exact ⟨⟨k + 1, by go_num, by omega, by rw [HN.out], trivial⟩, by simp [intOf]; omega⟩
    · obtain rfl : k = s.size := by omega
      have HX := Lib.hid (not32 hc)
      generalize crcTo s s.size = v at *
      go_wp2_with fail
      go_ret
      exact ⟨by rw [← HR.out, ← HX.out]; rfl, rfl⟩
set_option maxRecDepth 100000 in
theorem icrc_calls (s : ByteArray) (hs : s.size ≤ 4294967296) (w : World) :
    Calls Tryd.prog 113 #[.string s] w (fun e w' => e = .returned (.int .i64 (crcC (s.data.toList.map UInt8.toNat) : Nat)) ∧ w' = w) := by
  have hl := crcC_lt s
  have HC := Lib.hid (fun w => update_calls s hs w)
  generalize crcC (s.data.toList.map UInt8.toNat) = R at *
  go_enter Tryd.func113, Tryd.ntmps113
  go_wp2_with fail
  refine (HC.out _).mono ?_
  rintro e w' ⟨rfl, rfl⟩
  go_wp2_with fail
  go_ret
  exact ⟨rfl, rfl⟩
end Go.Proofs.YtncidljdfipigaaDoor.Cr

/- A region that draws its order: what holds of all later worlds may be made stronger. Nothing of the program stands here. -/
namespace Go.Proofs.YtncidljdfipigaaDoor.Wi
open Go.RowKit
set_option linter.unusedVariables false
set_option linter.unusedSimpArgs false
theorem wpAnyH_strong {P : Program} {md : Region.Mode} {ops : Array Oper} {Q : Exit → Act → World → Prop} {S S' : World → Prop} (h : ∀ w, S' w → S w) : ∀ {fuel : Nat} {listed : Array Bool} {a : Act} {w : World}, wpAnyH P md ops Q S' fuel listed a w → wpAnyH P md ops Q S fuel listed a w := by
  intro fuel
  induction fuel with
  | zero => intro _ _ _ H; exact H
  | succ f ih => intro listed a w H; exact ⟨H.1, fun i hi => wpOp_mono (fun a' w' h' => ⟨h _ h'.1, ih h'.2⟩) (H.2 i hi)⟩
end Go.Proofs.YtncidljdfipigaaDoor.Wi

/- The head of a file in an archive, the program's. (Printed by tools/gen_hd.py.) -/
namespace Go.Proofs.YtncidljdfipigaaDoor.Lc
open Go.RowKit Go.Proofs.YtncidljdfipigaaDoor.Mem Go.Proofs.YtncidljdfipigaaDoor.Nm Go.Proofs.YtncidljdfipigaaDoor.Nb Go.Proofs.YtncidljdfipigaaDoor.Cr
set_option linter.unusedVariables false
set_option linter.unusedSimpArgs false
def crcOf (s : ByteArray) : Nat := crcC (s.data.toList.map UInt8.toNat)
def nB (n v : Nat) : ByteArray := strB (numB n v)
theorem nB_size (n v : Nat) : (nB n v).size = n := by unfold nB; rw [strB_size, numB_length]
/-- A file's head: its way, how long it is packed. -/
def headB (nm : ByteArray) (y m d h mi s : Int) (tx : ByteArray) (mt pk : Nat) : ByteArray :=
  (((((((((⟨#[80, 75, 3, 4]⟩ ++ nB 2 20) ++ nB 2 0) ++ nB 2 mt) ++ nB 4 (stampN y m d h mi s).toNat) ++ nB 4 (crcOf tx)) ++ nB 4 pk) ++ nB 4 tx.size) ++ nB 2 nm.size) ++ nB 2 0)
theorem inB_calls (v n : Nat) (hv : v < 9223372036854775808) (hn : n ≤ 100) (w : World) :
    Calls Tryd.prog 112 #[.int .i64 v, .int .i64 n] w (fun e w' => e = .returned (.string (nB n v)) ∧ On w w') := inumber_calls v n hv hn w
theorem in2_calls (v : Nat) (hv : v < 9223372036854775808) (w : World) :
    Calls Tryd.prog 112 #[.int .i64 v, .int .i64 2] w (fun e w' => e = .returned (.string (nB 2 v)) ∧ On w w') := by
  have h := inB_calls v 2 hv (by decide) w
  rw [show ((2 : Nat) : Int) = 2 from rfl] at h
  exact h
theorem in4_calls (v : Nat) (hv : v < 9223372036854775808) (w : World) :
    Calls Tryd.prog 112 #[.int .i64 v, .int .i64 4] w (fun e w' => e = .returned (.string (nB 4 v)) ∧ On w w') := by
  have h := inB_calls v 4 hv (by decide) w
  rw [show ((4 : Nat) : Int) = 4 from rfl] at h
  exact h
theorem in20_calls (w : World) : Calls Tryd.prog 112 #[.int .i64 20, .int .i64 2] w (fun e w' => e = .returned (.string (nB 2 20)) ∧ On w w') := by
  have h := in2_calls 20 (by decide) w
  rw [show ((20 : Nat) : Int) = 20 from rfl] at h
  exact h
theorem in0_calls (w : World) : Calls Tryd.prog 112 #[.int .i64 0, .int .i64 2] w (fun e w' => e = .returned (.string (nB 2 0)) ∧ On w w') := by
  have h := in2_calls 0 (by decide) w
  rw [show ((0 : Nat) : Int) = 0 from rfl] at h
  exact h
set_option maxRecDepth 100000 in
set_option maxHeartbeats 4000000 in
theorem iheadof_calls (nm : ByteArray) (y m d h mi s : Int) (tx : ByteArray) (mt pk : Nat) (ok : okp y m d h mi s) (hn : nm.size ≤ 1000) (ht : tx.size ≤ 1000) (hm : mt ≤ 65535) (hp : pk ≤ 1000000) (w : World) :
    Calls Tryd.prog 76 #[.agg #[.string nm, .int .i64 y, .int .i64 m, .int .i64 d, .int .i64 h, .int .i64 mi, .int .i64 s, .string tx], .int .i64 mt, .int .i64 pk] w (Tells w (.string (headB nm y m d h mi s tx mt pk))) := by
  have HR := Lib.hid (show headB nm y m d h mi s tx mt pk = (((((((((⟨#[80, 75, 3, 4]⟩ ++ nB 2 20) ++ nB 2 0) ++ nB 2 mt) ++ nB 4 (stampN y m d h mi s).toNat) ++ nB 4 (crcOf tx)) ++ nB 4 pk) ++ nB 4 tx.size) ++ nB 2 nm.size) ++ nB 2 0) from rfl)
  generalize headB nm y m d h mi s tx mt pk = R at *
  have hbd := stampN_bd ok
  have HST := Lib.hid (fun w => iput_calls y m d h mi s ok w)
  obtain ⟨sn, hsn⟩ : ∃ sn : Nat, stampN y m d h mi s = (sn : Int) := ⟨(stampN y m d h mi s).toNat, by omega⟩
  rw [hsn] at HST HR hbd
  have hcl := crcC_lt tx
  have HCR := Lib.hid (fun w => icrc_calls tx (by omega) w)
  have HCE := Lib.hid (show crcOf tx = crcC (tx.data.toList.map UInt8.toNat) from rfl)
  rw [← HCE.out] at HCR hcl
  generalize crcOf tx = cr at *
  have hn20 := Lib.hid (fun w => in20_calls w)
  have hn0 := Lib.hid (fun w => in0_calls w)
  have hnm := Lib.hid (fun w => in2_calls mt (by omega) w)
  have hns := Lib.hid (fun w => in4_calls sn (by omega) w)
  have hnc := Lib.hid (fun w => in4_calls cr (by omega) w)
  have hnp := Lib.hid (fun w => in4_calls pk (by omega) w)
  have hnt := Lib.hid (fun w => in4_calls tx.size (by omega) w)
  have hnn := Lib.hid (fun w => in2_calls nm.size (by omega) w)
  have s1 := nB_size 2 20
  have s2 := nB_size 2 0
  have s3 := nB_size 2 mt
  have s4 := nB_size 4 sn
  have s5 := nB_size 4 cr
  have s6 := nB_size 4 pk
  have s7 := nB_size 4 tx.size
  have s8 := nB_size 2 nm.size
  rw [Int.toNat_natCast] at HR
  generalize nB 2 20 = b1 at *
  generalize nB 2 0 = b2 at *
  generalize nB 2 mt = b3 at *
  generalize nB 4 sn = b4 at *
  generalize nB 4 cr = b5 at *
  generalize nB 4 pk = b6 at *
  generalize nB 4 tx.size = b7 at *
  generalize nB 2 nm.size = b8 at *
  clear hsn hbd hcl HCE
  have OA := (On.refl w).alloc (.cells #[.string nm, .int .i64 y, .int .i64 m, .int .i64 d, .int .i64 h, .int .i64 mi, .int .i64 s, .string tx] 34)
  have BA := Blk.new w 34 #[.string nm, .int .i64 y, .int .i64 m, .int .i64 d, .int .i64 h, .int .i64 mi, .int .i64 s, .string tx]
  have HCS := Lib.hid (fun W (b : Blk W w.heap.size 34 #[.string nm, .int .i64 y, .int .i64 m, .int .i64 d, .int .i64 h, .int .i64 mi, .int .i64 s, .string tx]) => (⟨(b.cell 0).trans rfl, (b.cell 1).trans rfl, (b.cell 2).trans rfl, (b.cell 3).trans rfl, (b.cell 4).trans rfl, (b.cell 5).trans rfl, (b.cell 6).trans rfl, (b.cell 7).trans rfl⟩ :
    W.cell? ⟨w.heap.size, 0, none⟩ = some (.string nm) ∧ W.cell? ⟨w.heap.size, 1, none⟩ = some (.int .i64 y) ∧ W.cell? ⟨w.heap.size, 2, none⟩ = some (.int .i64 m) ∧ W.cell? ⟨w.heap.size, 3, none⟩ = some (.int .i64 d) ∧ W.cell? ⟨w.heap.size, 4, none⟩ = some (.int .i64 h) ∧ W.cell? ⟨w.heap.size, 5, none⟩ = some (.int .i64 mi) ∧ W.cell? ⟨w.heap.size, 6, none⟩ = some (.int .i64 s) ∧ W.cell? ⟨w.heap.size, 7, none⟩ = some (.string tx)))
  go_enter Tryd.func76, Tryd.ntmps76
  go_wp2_with fail
  generalize hP : w.heap.size = p at *
  generalize w.alloc (.cells #[.string nm, .int .i64 y, .int .i64 m, .int .i64 d, .int .i64 h, .int .i64 mi, .int .i64 s, .string tx] 34) = wa at *
  have HB := Lib.hid (fun W (O1 : On wa W) => HCS.out W (BA.call O1.out))
  clear HCS BA
  refine wp_region_held_drew (S := fun W => On wa W) (by kernel_rfl) (On.refl _).drew (fun hHeld => ?_)
  refine wpAnyH_take (i := 4) (oi := _) (v := ?_) rfl (by kernel_rfl) (by kernel_rfl) (by kernel_rfl) (fun _ _ _ h => h) (Or.inl ⟨by rfl, ?_⟩) (by assumption) ?_
  rotate_left
  · intro w hSw
    go_simp
    first | done | with_reducible rfl
  try simp only [Act.put, List.setIfInBounds_toArray, List.set_cons_zero, List.set_cons_succ]
  refine wpAnyH_take (i := 7) (oi := _) (v := ?_) rfl (by kernel_rfl) (by kernel_rfl) (by kernel_rfl) (fun _ _ _ h => h) (Or.inl ⟨by rfl, ?_⟩) (by assumption) ?_
  rotate_left
  · intro w hSw
    go_simp
    first | done | with_reducible rfl
  try simp only [Act.put, List.setIfInBounds_toArray, List.set_cons_zero, List.set_cons_succ]
  refine wpAnyH_take (i := 8) (oi := _) (v := ?_) rfl (by kernel_rfl) (by kernel_rfl) (by kernel_rfl) (fun _ _ _ h => h) (Or.inl ⟨by rfl, ?_⟩) (by assumption) ?_
  rotate_left
  · intro w hSw
    obtain ⟨q0, q1, q2, q3, q4, q5, q6, q7⟩ := HB.out w hSw
    go_simp
    first | done | with_reducible rfl
  try simp only [Act.put, List.setIfInBounds_toArray, List.set_cons_zero, List.set_cons_succ]
  refine wpAnyH_take (i := 12) (oi := _) (v := ?_) rfl (by kernel_rfl) (by kernel_rfl) (by kernel_rfl) (fun _ _ _ h => h) (Or.inl ⟨by rfl, ?_⟩) (by assumption) ?_
  rotate_left
  · intro w hSw
    go_simp
    first | done | with_reducible rfl
  try simp only [Act.put, List.setIfInBounds_toArray, List.set_cons_zero, List.set_cons_succ]
  refine wpAnyH_take (i := 13) (oi := _) (v := ?_) rfl (by kernel_rfl) (by kernel_rfl) (by kernel_rfl) (fun _ _ _ h => h) (Or.inl ⟨by rfl, ?_⟩) (by assumption) ?_
  rotate_left
  · intro w hSw
    obtain ⟨q0, q1, q2, q3, q4, q5, q6, q7⟩ := HB.out w hSw
    go_simp
    first | done | with_reducible rfl
  try simp only [Act.put, List.setIfInBounds_toArray, List.set_cons_zero, List.set_cons_succ]
  refine wpAnyH_take (i := 17) (oi := _) (v := ?_) rfl (by kernel_rfl) (by kernel_rfl) (by kernel_rfl) (fun _ _ _ h => h) (Or.inl ⟨by rfl, ?_⟩) (by assumption) ?_
  rotate_left
  · intro w hSw
    go_simp
    first | done | with_reducible rfl
  try simp only [Act.put, List.setIfInBounds_toArray, List.set_cons_zero, List.set_cons_succ]
  refine wpAnyH_take (i := 20) (oi := _) (v := ?_) rfl (by kernel_rfl) (by kernel_rfl) (by kernel_rfl) (fun _ _ _ h => h) (Or.inl ⟨by rfl, ?_⟩) (by assumption) ?_
  rotate_left
  · intro w hSw
    go_simp
    first | done | with_reducible rfl
  try simp only [Act.put, List.setIfInBounds_toArray, List.set_cons_zero, List.set_cons_succ]
  refine wpAnyH_take (i := 21) (oi := _) (v := ?_) rfl (by kernel_rfl) (by kernel_rfl) (by kernel_rfl) (fun _ _ _ h => h) (Or.inl ⟨by rfl, ?_⟩) (by assumption) ?_
  rotate_left
  · intro w hSw
    obtain ⟨q0, q1, q2, q3, q4, q5, q6, q7⟩ := HB.out w hSw
    go_simp
    first | done | with_reducible rfl
  try simp only [Act.put, List.setIfInBounds_toArray, List.set_cons_zero, List.set_cons_succ]
  refine wpAnyH_take (i := 22) (oi := _) (v := ?_) rfl (by kernel_rfl) (by kernel_rfl) (by kernel_rfl) (fun _ _ _ h => h) (Or.inl ⟨by rfl, ?_⟩) (by assumption) ?_
  rotate_left
  · intro w hSw
    go_simp
    first | done | with_reducible rfl
  try simp only [Act.put, List.setIfInBounds_toArray, List.set_cons_zero, List.set_cons_succ]
  refine wpAnyH_take (i := 25) (oi := _) (v := ?_) rfl (by kernel_rfl) (by kernel_rfl) (by kernel_rfl) (fun _ _ _ h => h) (Or.inl ⟨by rfl, ?_⟩) (by assumption) ?_
  rotate_left
  · intro w hSw
    go_simp
    first | done | with_reducible rfl
  try simp only [Act.put, List.setIfInBounds_toArray, List.set_cons_zero, List.set_cons_succ]
  refine wpAnyH_take (i := 26) (oi := _) (v := ?_) rfl (by kernel_rfl) (by kernel_rfl) (by kernel_rfl) (fun _ _ _ h => h) (Or.inl ⟨by rfl, ?_⟩) (by assumption) ?_
  rotate_left
  · intro w hSw
    obtain ⟨q0, q1, q2, q3, q4, q5, q6, q7⟩ := HB.out w hSw
    go_simp
    first | done | with_reducible rfl
  try simp only [Act.put, List.setIfInBounds_toArray, List.set_cons_zero, List.set_cons_succ]
  refine wpAnyH_take (i := 27) (oi := _) (v := ?_) rfl (by kernel_rfl) (by kernel_rfl) (by kernel_rfl) (fun _ _ _ h => h) (Or.inl ⟨by rfl, ?_⟩) (by assumption) ?_
  rotate_left
  · intro w hSw
    go_simp
    first | done | with_reducible rfl
  try simp only [Act.put, List.setIfInBounds_toArray, List.set_cons_zero, List.set_cons_succ]
  have O0 := (On.refl wa).drew
  refine wpAnyH_ready (rs := [0]) (by kernel_rfl) (by simp) ?_
  refine AllReadyH.cons (o := _) rfl (fun K hK => ?_) AllReadyH.nil
  go_simp
  refine (hn20.out wa.drew).mono ?_
  rintro e w1 ⟨rfl, T1⟩
  have O1 := O0.call T1
  refine hK.out _ _ O1 (fun hHeld => ?_)
  clear hK K
  try simp only [Act.put, List.setIfInBounds_toArray, List.set_cons_zero, List.set_cons_succ]
  refine wpAnyH_take (i := 1) (oi := _) (v := ?_) rfl (by kernel_rfl) (by kernel_rfl) (by kernel_rfl) (fun _ _ _ h => h) (Or.inl ⟨by rfl, ?_⟩) (by assumption) ?_
  rotate_left
  · intro w hSw
    go_simp
    first | done | with_reducible rfl
  try simp only [Act.put, List.setIfInBounds_toArray, List.set_cons_zero, List.set_cons_succ]
  refine wpAnyH_ready (rs := [2]) (by kernel_rfl) (by simp) ?_
  refine AllReadyH.cons (o := _) rfl (fun K hK => ?_) AllReadyH.nil
  go_simp
  refine (hn0.out w1).mono ?_
  rintro e w2 ⟨rfl, T2⟩
  have O2 := O1.call T2
  refine hK.out _ _ O2 (fun hHeld => ?_)
  clear hK K
  try simp only [Act.put, List.setIfInBounds_toArray, List.set_cons_zero, List.set_cons_succ]
  refine wpAnyH_take (i := 3) (oi := _) (v := ?_) rfl (by kernel_rfl) (by kernel_rfl) (by kernel_rfl) (fun _ _ _ h => h) (Or.inl ⟨by rfl, ?_⟩) (by assumption) ?_
  rotate_left
  · intro w hSw
    go_simp
    first | done | with_reducible rfl
  try simp only [Act.put, List.setIfInBounds_toArray, List.set_cons_zero, List.set_cons_succ]
  refine wpAnyH_ready (rs := [5]) (by kernel_rfl) (by simp) ?_
  refine AllReadyH.cons (o := _) rfl (fun K hK => ?_) AllReadyH.nil
  go_simp
  refine (hnm.out w2).mono ?_
  rintro e w3 ⟨rfl, T3⟩
  have O3 := O2.call T3
  refine hK.out _ _ O3 (fun hHeld => ?_)
  clear hK K
  try simp only [Act.put, List.setIfInBounds_toArray, List.set_cons_zero, List.set_cons_succ]
  refine wpAnyH_take (i := 6) (oi := _) (v := ?_) rfl (by kernel_rfl) (by kernel_rfl) (by kernel_rfl) (fun _ _ _ h => h) (Or.inl ⟨by rfl, ?_⟩) (by assumption) ?_
  rotate_left
  · intro w hSw
    go_simp
    first | done | with_reducible rfl
  try simp only [Act.put, List.setIfInBounds_toArray, List.set_cons_zero, List.set_cons_succ]
  refine wpAnyH_ready (rs := [9]) (by kernel_rfl) (by simp) ?_
  refine AllReadyH.cons (o := _) rfl (fun K hK => ?_) AllReadyH.nil
  go_simp
  refine (HST.out w3).mono ?_
  rintro e w4 ⟨rfl, T4⟩
  have O4 := O3.call T4
  refine hK.out _ _ O4 (fun hHeld => ?_)
  clear hK K
  try simp only [Act.put, List.setIfInBounds_toArray, List.set_cons_zero, List.set_cons_succ]
  refine wpAnyH_ready (rs := [10]) (by kernel_rfl) (by simp) ?_
  refine AllReadyH.cons (o := _) rfl (fun K hK => ?_) AllReadyH.nil
  go_simp
  refine (hns.out w4).mono ?_
  rintro e w5 ⟨rfl, T5⟩
  have O5 := O4.call T5
  refine hK.out _ _ O5 (fun hHeld => ?_)
  clear hK K
  try simp only [Act.put, List.setIfInBounds_toArray, List.set_cons_zero, List.set_cons_succ]
  refine wpAnyH_take (i := 11) (oi := _) (v := ?_) rfl (by kernel_rfl) (by kernel_rfl) (by kernel_rfl) (fun _ _ _ h => h) (Or.inl ⟨by rfl, ?_⟩) (by assumption) ?_
  rotate_left
  · intro w hSw
    go_simp
    first | done | with_reducible rfl
  try simp only [Act.put, List.setIfInBounds_toArray, List.set_cons_zero, List.set_cons_succ]
  refine wpAnyH_ready (rs := [14]) (by kernel_rfl) (by simp) ?_
  refine AllReadyH.cons (o := _) rfl (fun K hK => ?_) AllReadyH.nil
  go_simp
  refine (HCR.out w5).mono ?_
  rintro e w' ⟨rfl, hw⟩
  rw [hw]
  clear hw
  refine hK.out _ _ O5 (fun hHeld => ?_)
  clear hK K
  try simp only [Act.put, List.setIfInBounds_toArray, List.set_cons_zero, List.set_cons_succ]
  refine wpAnyH_ready (rs := [15]) (by kernel_rfl) (by simp) ?_
  refine AllReadyH.cons (o := _) rfl (fun K hK => ?_) AllReadyH.nil
  go_simp
  refine (hnc.out w5).mono ?_
  rintro e w6 ⟨rfl, T6⟩
  have O6 := O5.call T6
  refine hK.out _ _ O6 (fun hHeld => ?_)
  clear hK K
  try simp only [Act.put, List.setIfInBounds_toArray, List.set_cons_zero, List.set_cons_succ]
  refine wpAnyH_take (i := 16) (oi := _) (v := ?_) rfl (by kernel_rfl) (by kernel_rfl) (by kernel_rfl) (fun _ _ _ h => h) (Or.inl ⟨by rfl, ?_⟩) (by assumption) ?_
  rotate_left
  · intro w hSw
    go_simp
    first | done | with_reducible rfl
  try simp only [Act.put, List.setIfInBounds_toArray, List.set_cons_zero, List.set_cons_succ]
  refine wpAnyH_ready (rs := [18]) (by kernel_rfl) (by simp) ?_
  refine AllReadyH.cons (o := _) rfl (fun K hK => ?_) AllReadyH.nil
  go_simp
  refine (hnp.out w6).mono ?_
  rintro e w7 ⟨rfl, T7⟩
  have O7 := O6.call T7
  refine hK.out _ _ O7 (fun hHeld => ?_)
  clear hK K
  try simp only [Act.put, List.setIfInBounds_toArray, List.set_cons_zero, List.set_cons_succ]
  refine wpAnyH_take (i := 19) (oi := _) (v := ?_) rfl (by kernel_rfl) (by kernel_rfl) (by kernel_rfl) (fun _ _ _ h => h) (Or.inl ⟨by rfl, ?_⟩) (by assumption) ?_
  rotate_left
  · intro w hSw
    go_simp
    first | done | with_reducible rfl
  try simp only [Act.put, List.setIfInBounds_toArray, List.set_cons_zero, List.set_cons_succ]
  refine wpAnyH_ready (rs := [23]) (by kernel_rfl) (by simp) ?_
  refine AllReadyH.cons (o := _) rfl (fun K hK => ?_) AllReadyH.nil
  go_simp
  refine (hnt.out w7).mono ?_
  rintro e w8 ⟨rfl, T8⟩
  have O8 := O7.call T8
  refine hK.out _ _ O8 (fun hHeld => ?_)
  clear hK K
  try simp only [Act.put, List.setIfInBounds_toArray, List.set_cons_zero, List.set_cons_succ]
  refine wpAnyH_take (i := 24) (oi := _) (v := ?_) rfl (by kernel_rfl) (by kernel_rfl) (by kernel_rfl) (fun _ _ _ h => h) (Or.inl ⟨by rfl, ?_⟩) (by assumption) ?_
  rotate_left
  · intro w hSw
    go_simp
    first | done | with_reducible rfl
  try simp only [Act.put, List.setIfInBounds_toArray, List.set_cons_zero, List.set_cons_succ]
  refine wpAnyH_ready (rs := [28]) (by kernel_rfl) (by simp) ?_
  refine AllReadyH.cons (o := _) rfl (fun K hK => ?_) AllReadyH.nil
  go_simp
  refine (hnn.out w8).mono ?_
  rintro e w9 ⟨rfl, T9⟩
  have O9 := O8.call T9
  refine hK.out _ _ O9 (fun hHeld => ?_)
  clear hK K
  try simp only [Act.put, List.setIfInBounds_toArray, List.set_cons_zero, List.set_cons_succ]
  refine wpAnyH_take (i := 29) (oi := _) (v := ?_) rfl (by kernel_rfl) (by kernel_rfl) (by kernel_rfl) (fun _ _ _ h => h) (Or.inl ⟨by rfl, ?_⟩) (by assumption) ?_
  rotate_left
  · intro w hSw
    go_simp
    first | done | with_reducible rfl
  try simp only [Act.put, List.setIfInBounds_toArray, List.set_cons_zero, List.set_cons_succ]
  refine wpAnyH_ready (rs := [30]) (by kernel_rfl) (by simp) ?_
  refine AllReadyH.cons (o := _) rfl (fun K hK => ?_) AllReadyH.nil
  go_simp
  refine (hn0.out w9).mono ?_
  rintro e w10 ⟨rfl, T10⟩
  have O10 := O9.call T10
  refine hK.out _ _ O10 (fun hHeld => ?_)
  clear hK K
  try simp only [Act.put, List.setIfInBounds_toArray, List.set_cons_zero, List.set_cons_succ]
  refine wpAnyH_take (i := 31) (oi := _) (v := ?_) rfl (by kernel_rfl) (by kernel_rfl) (by kernel_rfl) (fun _ _ _ h => h) (Or.inl ⟨by rfl, ?_⟩) (by assumption) ?_
  rotate_left
  · intro w hSw
    go_simp
    first | done | with_reducible rfl
  try simp only [Act.put, List.setIfInBounds_toArray, List.set_cons_zero, List.set_cons_succ]
  refine wpAnyH_ready (rs := [32]) (by kernel_rfl) (by simp) ?_
  refine AllReadyH.cons (o := _) rfl (fun K hK => ?_) AllReadyH.nil
  go_simp
  refine hK.out _ _ O10 (fun hHeld => ?_)
  clear hK K
  try simp only [Act.put, List.setIfInBounds_toArray, List.set_cons_zero, List.set_cons_succ]
  refine wpAnyH_done (by kernel_rfl) ?_ _
  go_wp2_with fail
  go_ret
  exact ⟨by rw [HR.out]; rfl, OA.call O10⟩
end Go.Proofs.YtncidljdfipigaaDoor.Lc

/- The program's writer of bits: what put and even do. Conditions: a writer, sizes. -/
namespace Go.Proofs.YtncidljdfipigaaDoor.Wi
open Go.RowKit Go.Proofs.YtncidljdfipigaaDoor.Mem Go.Proofs.YtncidljdfipigaaDoor.Bt
set_option linter.unusedVariables false
set_option linter.unusedSimpArgs false
/-- The program's writer at block g, its bytes at block r: what bits it holds. -/
structure IW (w : World) (g r : Nat) (bs : List Bool) : Prop where mk :: (out : ∃ v, Blk w g 50 #[v, .int .i64 bs.length] ∧ Bytes w r v (pack bs) ∧ (r ≠ g ∨ v = .slice none 0 0))
/-- What a call on a writer leaves: all but the writer's two blocks. -/
structure Mv (g r : Nat) (w : World) (r' : Nat) (w' : World) : Prop where
  kp : Kp [g, r] w w'
  at_ : r' = r ∨ w.heap.size ≤ r'
  lt : r < w.heap.size → r' < w'.heap.size
theorem mv_kp {g r : Nat} {w w' : World} (k : Kp [g, r] w w') : Mv g r w r w' := ⟨k, .inl rfl, fun h => Nat.lt_of_lt_of_le h k.size⟩
theorem Bytes.kp2 {w w' : World} {g r : Nat} {v : Value} {l : List Nat} (h : Bytes w r v l) (hor : r ≠ g ∨ v = .slice none 0 0) (k : Kp [g] w w') : Bytes w' r v l :=
  ⟨k.owns h.own (fun j hj => by
    rcases hor with e | e
    · rw [h.at_ j hj]; simpa using e
    · rw [e] at hj; simp [Value.ownBlock] at hj), h.at_⟩
/-- A block for the bytes: theirs, or (there are none) none at all. -/
theorem pick {w : World} {g r : Nat} {v : Value} {l : List Nat} (hg : g < w.heap.size) (hb : Bytes w r v l) (h : r ≠ g ∨ v = .slice none 0 0) : ∃ r0, Bytes w r0 v l ∧ r0 ≠ g ∧ (r0 = r ∨ r0 = w.heap.size) := by
  by_cases e : v = .slice none 0 0
  · exact ⟨w.heap.size, ⟨hb.own, fun k hk => by rw [e] at hk; simp [Value.ownBlock] at hk⟩, by omega, .inr rfl⟩
  · rcases h with h | h
    · exact ⟨r, hb, h, .inl rfl⟩
    · exact absurd h e
theorem mv_of {g r r0 r2 : Nat} {w w2 : World} (h : r0 = r ∨ r0 = w.heap.size) (k : Kp [g, r0] w w2) (h2 : r2 = r0 ∨ w.heap.size ≤ r2) (h3 : r2 < w2.heap.size) : Mv g r w r2 w2 := by
  refine ⟨k.mono (fun x hx => ?_), ?_, fun _ => h3⟩
  · simp only [List.mem_cons, List.not_mem_nil, or_false] at hx ⊢
    rcases hx with rfl | rfl
    · exact .inl (.inl rfl)
    · rcases h with rfl | rfl
      · exact .inl (.inr rfl)
      · exact .inr (Nat.le_refl _)
  · rcases h with rfl | rfl <;> rcases h2 with e | e <;> omega
theorem Mv.refl (g r : Nat) (w : World) : Mv g r w r w := mv_kp (Kp.refl _ _)
theorem Mv.trans {g r r1 r2 : Nat} {w w1 w2 : World} (h : Mv g r w r1 w1) (k : Mv g r1 w1 r2 w2) : Mv g r w r2 w2 := by
  refine ⟨h.kp.trans k.kp (fun x hx => ?_), ?_, fun hh => k.lt (h.lt hh)⟩
  · simp only [List.mem_cons, List.not_mem_nil, or_false] at hx ⊢
    rcases hx with rfl | rfl
    · exact .inl (.inl rfl)
    · rcases h.at_ with e | e
      · exact .inl (.inr e)
      · exact .inr e
  · have := h.kp.size
    rcases k.at_ with e | e
    · rw [e]; exact h.at_
    · right; omega
theorem tmod_nat (a b : Nat) : Int.tmod (a : Int) (b : Int) = ((a % b : Nat) : Int) := by rw [Int.tmod_eq_emod_of_nonneg (by omega)]; simp
theorem tdiv_nat (a b : Nat) : Int.tdiv (a : Int) (b : Int) = ((a / b : Nat) : Int) := by rw [Int.tdiv_eq_ediv_of_nonneg (by omega)]; simp
theorem wr_i64 (n : Int) (h₀ : 0 ≤ n) (h₁ : n < 2 ^ 63) : IntKind.i64.wrap n = n := by rw [IntKind.wrap_i64]; omega
theorem wr_u8 (n : Int) (h₀ : 0 ≤ n) (h₁ : n < 2 ^ 8) : IntKind.u8.wrap n = n := by
  have e : IntKind.u8.wrap n = n % 256 := rfl
  rw [e]; omega
theorem and_mask (i : Nat) (hi : i ≤ 63) {x m : Int} (hm : m = 2 ^ i - 1) (h0 : 0 ≤ x) (h1 : x < 9223372036854775808) : Go.bits .and .i64 x m = x % 2 ^ i := by
  subst hm
  exact bits_mask .i64 63 (by decide) wr_i64 i hi x h0 (by omega)
theorem or_comm8 (x y : Int) : Go.bits .or .u8 x y = Go.bits .or .u8 y x := by
  simp only [Go.bits]; rw [BitVec.or_comm]
theorem or_add8 (i : Nat) {x y : Int} (h0 : 0 ≤ x) (hx : x % 2 ^ i = 0) (h1 : x < 256) (y0 : 0 ≤ y) (y1 : y < 2 ^ i) (y2 : y < 256) : Go.bits .or .u8 x y = x + y :=
  bits_join .u8 8 (by decide) wr_u8 i x y h0 hx (by omega) y0 y1 (by omega)
theorem bit_and (num k : Nat) (h : num < 9223372036854775808) : Go.bits .and .i64 ((num : Int) / 2 ^ k) 1 = ((num / 2 ^ k % 2 : Nat) : Int) := by
  have e : ((num : Int) / 2 ^ k) = ((num / 2 ^ k : Nat) : Int) := by simp
  have h2 : num / 2 ^ k ≤ num := Nat.div_le_self _ _
  generalize num / 2 ^ k = y at *
  rw [e, and_mask 1 (by omega) (by decide) (by omega) (by omega)]
  omega
theorem or_bit {x y p : Nat} (hx : x < 2) (hp : p < 8) (hy : y < 2 ^ p) : Go.bits .or .u8 (y : Int) ((2 ^ p * x : Nat) : Int) = ((y + 2 ^ p * x : Nat) : Int) ∧ 2 ^ p * x < 256 ∧ y < 256 := by
  have h1 : 2 ^ p ≤ 2 ^ 7 := Nat.pow_le_pow_right (by omega) (by omega)
  have h2 : 2 ^ p * x ≤ 2 ^ p * 1 := Nat.mul_le_mul_left _ (by omega)
  have e : (2 : Int) ^ p = ((2 ^ p : Nat) : Int) := by simp
  refine ⟨?_, by omega, by omega⟩
  rw [or_comm8, or_add8 p (x := ((2 ^ p * x : Nat) : Int)) (y := (y : Int)) (by omega) (by rw [e, Int.natCast_mul, Int.mul_emod_right]) (by omega) (by omega) (by rw [e]; omega) (by omega)]
  omega
theorem iw_close {W : World} {g r n cap m q x : Nat} {l : List Nat} {bs : List Bool} (B : Blk W g 50 #[.slice (some ⟨r, 0, none⟩) n cap, .int .i64 (m : Int)]) (Y : Bytes W r (.slice (some ⟨r, 0, none⟩) n cap) l) (hne : l ≠ []) (hrg : r ≠ g)
    (hm : bs.length = m + 1) (hp : l.set q x = pack bs) : IW ((W.setCell ⟨r, q, none⟩ (.int .u8 (x : Int))).setCell ⟨g, 1, none⟩ (.int .i64 ((m : Int) + 1))) g r bs := by
  have B1 := ((B.far (p := ⟨r, q, none⟩) (Ne.symm hrg) (.int .u8 (x : Int))).set 1 (.int .i64 ((m : Int) + 1)))
  have Y1 := (Y.set hne q x).kp ((Kp.refl [g] _).set (p := ⟨g, 1, none⟩) (.inl (by simp)) (.int .i64 ((m : Int) + 1))) (by simpa using hrg)
  rw [hp] at Y1
  refine ⟨_, ?_, Y1, .inl hrg⟩
  rw [hm]
  exact B1
set_option maxRecDepth 100000 in
theorem put_calls (g r : Nat) (bs : List Bool) (num n : Nat) (w : World) (hw : IW w g r bs) (hn : n ≤ 16) (hb : bs.length ≤ 100000000) (hnum : num < 9223372036854775808) :
    Calls Tryd.prog 48 #[.pointer (some ⟨g, 0, none⟩), .int .i64 num, .int .i64 n] w fun e w' => ∃ r', e = .returned (.tuple #[]) ∧ IW w' g r' (bs ++ bitsOf num n) ∧ Mv g r w r' w' := by
  go_enter Tryd.func48, Tryd.ntmps48
  go_wp2_with fail
  go_loopw [8] (fun x wr => ∃ (k r' : Nat), x = .int .i64 k ∧ k ≤ n ∧ IW wr g r' (bs ++ bitsOf num k) ∧ Mv g r w r' wr) (fun x _ => n - (intOf x).toNat)
  case atStart => exact ⟨0, r, rfl, by omega, by simpa [bitsOf] using hw, Mv.refl _ _ _⟩
  case round =>
    obtain ⟨k, r', rfl, hk, hw', M⟩ := hrel
    by_cases hlt : k < n
    · have hl : (bs ++ bitsOf num k).length = bs.length + k := by rw [List.length_append, bits_length]
      have hsn : bs ++ bitsOf num (k + 1) = (bs ++ bitsOf num k) ++ [num / 2 ^ k % 2 == 1] := by rw [bits_snoc, List.append_assoc]
      have HSN := Lib.hid hsn
      clear hsn
      generalize bs ++ bitsOf num k = bk at *
      obtain ⟨v, hblk, hby0, hor⟩ := hw'.out
      obtain ⟨r0, hby, hrg, hr0⟩ := pick hblk.lt hby0 hor
      clear hby0 hor
      have c0 : wr.cell? ⟨g, 0, none⟩ = some v := (hblk.cell 0).trans rfl
      have c1 : wr.cell? ⟨g, 1, none⟩ = some (.int .i64 bk.length) := (hblk.cell 1).trans rfl
      have fr : ∀ i, wr.frozen? ⟨g, i, none⟩ = false := hblk.frozen
      have hm : (bk.length : Int) ≤ 200000000 := by omega
      have hm2 : (k : Int) < n := by omega
      generalize hm0 : bk.length = m at *
      have HM := Lib.hid hm0
      have HL := Lib.hid hl
      have hdec : r0 ≠ g → g ∉ [r0] := fun h => by simp; omega
      have HG := Lib.hid (hdec hrg)
      clear hm0 hl hw' hdec
      have hg1 := hblk.lt
      by_cases h8 : m % 8 = 0
      case' pos =>
        have hl0 : (pack bk).length = m / 8 := by rw [pack_length, HM.out]; omega
        have hs0 : ∀ b, b1 (num / 2 ^ k % 2 == 1) = b → (pack bk ++ [0]).set (m / 8) (0 + 2 ^ (m % 8) * b) = pack (bk ++ [num / 2 ^ k % 2 == 1]) := fun b hb => by
          rw [pack_snoc0 bk _ (by rw [HM.out]; exact h8), hb, h8, ← hl0, List.set_append_right _ _ (Nat.le_refl _), Nat.sub_self, Nat.zero_add, Nat.pow_zero, Nat.one_mul]; rfl
        have h00 : (pack bk ++ [0]).getD (m / 8) 0 = 0 := by rw [← hl0, List.getD_eq_getElem?_getD, List.getElem?_append_right (Nat.le_refl _), Nat.sub_self]; rfl
        obtain ⟨y, h0, hsn, hy⟩ : ∃ y, (pack bk ++ [0]).getD (m / 8) 0 = y ∧ (∀ b, b1 (num / 2 ^ k % 2 == 1) = b → (pack bk ++ [0]).set (m / 8) (y + 2 ^ (m % 8) * b) = pack (bk ++ [num / 2 ^ k % 2 == 1])) ∧ y < 2 ^ (m % 8) :=
          ⟨0, h00, hs0, Nat.two_pow_pos _⟩
        have e8 : Int.tmod (m : Int) 8 = 0 := by rw [show (8 : Int) = ((8 : Nat) : Int) from rfl, tmod_nat, h8]; rfl
        have hsz : (pack bk).length ≤ 100000000 := by omega
        have hlq : (pack bk ++ [0]).length = m / 8 + 1 := by rw [List.length_append, List.length_singleton, hl0]
        have HP := Lib.hid hl0
        have HS := Lib.hid hsn
        have H0 := Lib.hid h0
        have HLQ := Lib.hid hlq
        have H8 := Lib.hid h8
        clear hl0 hsn h0 hlq h8 hs0 h00
        go_wp2_with (at_builtin; go_must (refine wpList_byte (x := 0) rfl _ _ rfl rfl hby rfl hsz ?_); intro r2 cap w1 hby2 hr2 hrl2 K2 hc1 hc2; have d0 : w1.cell? ⟨g, 0, none⟩ = some v := ((K2.blk hblk HG.out).cell 0).trans rfl; have d1 : w1.cell? ⟨g, 1, none⟩ = some (.int .i64 m) := ((K2.blk hblk HG.out).cell 1).trans rfl; have dr : ∀ i, w1.frozen? ⟨g, i, none⟩ = false := (K2.blk hblk HG.out).frozen; clear c0 c1 fr)
        have BW := (K2.blk hblk HG.out).set 0 (.slice (some ⟨r2, 0, none⟩) ((pack bk).length + 1) cap)
        have hrg2 : r2 ≠ g := by have := HG.out; simp at this; omega
        have YW := hby2.kp ((Kp.refl [g] w1).set (p := ⟨g, 0, none⟩) (.inl (by simp)) (.slice (some ⟨r2, 0, none⟩) ((pack bk).length + 1) cap)) (by simpa using hrg2)
        have KW := (K2.mono (T := [g, r0]) (fun x hx => .inl (by simp at hx ⊢; exact .inr hx))).set (p := ⟨g, 0, none⟩) (.inl (by simp)) (.slice (some ⟨r2, 0, none⟩) ((pack bk).length + 1) cap)
        have hrW : r2 < (w1.setCell ⟨g, 0, none⟩ (.slice (some ⟨r2, 0, none⟩) ((pack bk).length + 1) cap)).heap.size := by simp [World.setCell]; exact hrl2
        generalize w1.setCell ⟨g, 0, none⟩ (.slice (some ⟨r2, 0, none⟩) ((pack bk).length + 1) cap) = W at *
        rw [HP.out] at YW BW hc1 ⊢
        have M2 : Mv g r w r2 W := M.trans (mv_of hr0 KW hr2 hrW)
        have e6 : Int.tmod (m : Int) 8 = ((m % 8 : Nat) : Int) := tmod_nat m 8
        clear hby hby2 hblk hr2 hrl2 K2 d0 d1 dr e8 hrg M KW hr0
        generalize pack bk ++ [0] = L at *
      case' neg =>
        have hlp : (pack bk).length = m / 8 + 1 := by rw [pack_length, HM.out]; omega
        obtain ⟨hq1, hq2, hq3⟩ := pack_snoc1 bk (num / 2 ^ k % 2 == 1) (by rw [HM.out]; exact h8)
        rw [HM.out] at hq2 hq3
        have hy0 : (pack bk).getD (m / 8) 0 < 2 ^ (m % 8) := by
          rw [hq2]
          refine Nat.lt_of_lt_of_le (val_lt _) (Nat.pow_le_pow_right (by omega) ?_)
          rw [List.length_drop, HM.out]; omega
        obtain ⟨y, h0, hsn, hy⟩ : ∃ y, (pack bk).getD (m / 8) 0 = y ∧ (∀ b, b1 (num / 2 ^ k % 2 == 1) = b → (pack bk).set (m / 8) (y + 2 ^ (m % 8) * b) = pack (bk ++ [num / 2 ^ k % 2 == 1])) ∧ y < 2 ^ (m % 8) :=
          ⟨_, rfl, fun b hb => by rw [hq3, hb], hy0⟩
        obtain ⟨cap, rfl, hc1, hc2, RR⟩ := hby.parts (by intro e; rw [e] at hlp; simp at hlp)
        have hrlt := RR.lt
        clear RR
        rw [hlp] at hblk c0 hby hc1
        have e6 : Int.tmod (m : Int) 8 = ((m % 8 : Nat) : Int) := tmod_nat m 8
        have e8' : (Int.tmod (m : Int) 8 == 0) = false := by rw [e6]; simp; omega
        have H8 := Lib.hid h8
        have HLQ := Lib.hid hlp
        have HS := Lib.hid hsn
        have H0 := Lib.hid h0
        clear hlp hsn h0 hq1 hq2 hq3 h8 hy0
        go_wp2_with fail
        have BW := hblk
        have YW := hby
        have M2 := M.trans (mv_of hr0 (Kp.refl [g, r0] wr) (.inl rfl) hrlt)
        have hrg2 := hrg
        clear hby hblk e8' c0 c1 fr hrg M hr0
        generalize pack bk = L at *
        obtain ⟨r2, hr2⟩ : ∃ r2, r2 = r0 := ⟨_, rfl⟩
        obtain ⟨W, hW⟩ : ∃ W, W = wr := ⟨_, rfl⟩
        subst hr2
        subst hW
      all_goals
        have hne : L ≠ [] := by intro e; have := HLQ.out; rw [e] at this; simp at this
        have RW : Row W r2 5 (u8s L) := by obtain ⟨_, _, _, _, h⟩ := YW.parts hne; exact h
        have k0 : W.cell? ⟨g, 0, none⟩ = some (.slice (some ⟨r2, 0, none⟩) (m / 8 + 1) cap) := (BW.cell 0).trans rfl
        have k1 : W.cell? ⟨g, 1, none⟩ = some (.int .i64 m) := (BW.cell 1).trans rfl
        have k2 : W.cell? ⟨r2, m / 8, none⟩ = some (.int .u8 (y : Int)) := by
          rw [← H0.out]; exact RW.cell (u8s_get (by have := HLQ.out; omega))
        have e3 : IntKind.i64.wrap ((m : Int) / 8) = ((m / 8 : Nat) : Int) := by rw [IntKind.wrap_i64]; omega
        have e4 : (m / 8 : Nat) ≤ 100000000 := by omega
        have e5 : (m % 8 : Nat) < 8 := by omega
        have f0 := bit_and num k hnum
        have f1 : num / 2 ^ k % 2 < 2 := Nat.mod_lt _ (by omega)
        have HF := Lib.hid (HS.out _ (b1_mod (num / 2 ^ k)))
        obtain ⟨f5, f7, f8⟩ := or_bit (p := m % 8) f1 (by omega) hy
        have f3 : IntKind.i64.wrap (((num / 2 ^ k % 2 : Nat) : Int) * 2 ^ (m % 8)) = ((2 ^ (m % 8) * (num / 2 ^ k % 2) : Nat) : Int) := by
          rw [show ((num / 2 ^ k % 2 : Nat) : Int) * 2 ^ (m % 8) = ((2 ^ (m % 8) * (num / 2 ^ k % 2) : Nat) : Int) from by rw [Int.natCast_mul, Int.mul_comm]; simp]
          rw [IntKind.wrap_i64]; omega
        have f4 : IntKind.u8.wrap ((2 ^ (m % 8) * (num / 2 ^ k % 2) : Nat) : Int) = ((2 ^ (m % 8) * (num / 2 ^ k % 2) : Nat) : Int) := wr_u8 _ (by omega) (by omega)
        have f9 : ((m % 8 : Nat) : Int) < 64 := by omega
        have f10 : (0 : Int) ≤ ((m % 8 : Nat) : Int) := by omega
        clear HS
        generalize y + 2 ^ (m % 8) * (num / 2 ^ k % 2) = z at *
        generalize 2 ^ (m % 8) * (num / 2 ^ k % 2) = x at *
        generalize num / 2 ^ k % 2 = b at *
        generalize m % 8 = p at *
        generalize m / 8 = q at *
        have e7 : (q : Int) < (q : Int) + 1 := by omega
        go_still_tail 24, (by kernel_rfl)
        change wpList _ _ _ _ _ W.drew
        have BD := BW.drew
        have YD := YW.kp ((Kp.refl [] W).drew) (by simp)
        have MD := M2.trans (mv_kp (Kp.refl _ W).drew)
        generalize W.drew = W3 at *
        have k3 : W3.cell? ⟨g, 1, none⟩ = some (.int .i64 m) := (BD.cell 1).trans rfl
        have fr3 : ∀ i, W3.frozen? ⟨g, i, none⟩ = false := BD.frozen
        have RD : Row W3 r2 5 (u8s L) := by obtain ⟨_, _, _, _, h⟩ := YD.parts hne; exact h
        have k4 : W3.cell? ⟨r2, q, none⟩ = some (.int .u8 (y : Int)) := by
          rw [← H0.out]; exact RD.cell (u8s_get (by have := HLQ.out; omega))
        have fr4 : W3.frozen? ⟨r2, q, none⟩ = false := RD.frozen _
        clear k0 k1 k2
        go_wp2_with fail
        go_roundw
        case rel =>
          refine ⟨k + 1, r2, by go_num, by omega, ?_, ?_⟩
          · rw [HSN.out]
            exact iw_close BD YD hne hrg2 (by rw [List.length_append, HM.out]; rfl) HF.out
          · refine MD.trans (mv_kp (((Kp.refl _ _).set (.inl (by simp)) _).set (.inl (by simp)) _))
        case measure => simp [intOf]; omega
    · obtain rfl : k = n := by omega
      go_wp2_with fail
      go_end0
      exact ⟨r', rfl, hw', M⟩
set_option maxRecDepth 100000 in
theorem even_calls (g r : Nat) (bs : List Bool) (w : World) (hw : IW w g r bs) (hb : bs.length ≤ 100000000) :
    Calls Tryd.prog 49 #[.pointer (some ⟨g, 0, none⟩)] w fun e w' => e = .returned (.tuple #[]) ∧ IW w' g r (pad bs) ∧ Mv g r w r w' := by
  obtain ⟨v, hblk, hby, hor⟩ := hw.out
  have c1 : w.cell? ⟨g, 1, none⟩ = some (.int .i64 bs.length) := (hblk.cell 1).trans rfl
  have fr : ∀ i, w.frozen? ⟨g, i, none⟩ = false := hblk.frozen
  have hl : (pack bs).length ≤ 100000000 := by rw [pack_length]; omega
  have hp : (pad bs).length = 8 * (pack bs).length := by rw [pad_length, pack_length]
  have HP := Lib.hid hp
  have fin : IW (w.setCell ⟨g, 1, none⟩ (.int .i64 (8 * ((pack bs).length : Int)))) g r (pad bs) := by
    refine ⟨v, ?_, ?_, hor⟩
    · rw [HP.out]
      exact hblk.set 1 _
    · rw [pack_pad]
      refine ⟨((Kp.refl [g] w).set (p := ⟨g, 1, none⟩) (.inl (by simp)) _).owns hby.own (fun k hk => ?_), hby.at_⟩
      rcases hor with h | h
      · rw [hby.at_ k hk]; simpa using h
      · rw [h] at hk; simp [Value.ownBlock] at hk
  have mv : Mv g r w r (w.setCell ⟨g, 1, none⟩ (.int .i64 (8 * ((pack bs).length : Int)))) := mv_kp ((Kp.refl _ _).set (.inl (by simp)) _)
  have FIN := Lib.hid fin
  have hs := hby.slice
  clear hp fin
  rcases hs with ⟨rfl, h0⟩ | ⟨cap, rfl, hc1, hc2⟩
  · have c0 : w.cell? ⟨g, 0, none⟩ = some (.slice none 0 0) := (hblk.cell 0).trans rfl
    rw [h0] at FIN mv
    clear hblk hby h0 hl
    go_enter Tryd.func49, Tryd.ntmps49
    go_wp2_with fail
    go_end0
    exact ⟨rfl, FIN.out, mv⟩
  · have c0 : w.cell? ⟨g, 0, none⟩ = some (.slice (some ⟨r, 0, none⟩) (pack bs).length cap) := (hblk.cell 0).trans rfl
    clear hblk hby
    generalize (pack bs).length = n at *
    go_enter Tryd.func49, Tryd.ntmps49
    go_wp2_with fail
    go_end0
    exact ⟨rfl, FIN.out, mv⟩
end Go.Proofs.YtncidljdfipigaaDoor.Wi

/- The program's reader of bits: what bit, get and even do. Conditions: a reader of a text. -/
namespace Go.Proofs.YtncidljdfipigaaDoor.Wi
open Go.RowKit Go.Proofs.YtncidljdfipigaaDoor.Mem Go.Proofs.YtncidljdfipigaaDoor.Bt
set_option linter.unusedVariables false
set_option linter.unusedSimpArgs false
/-- The bits of a text from a place on. -/
def rest (s : ByteArray) (p : Nat) : List Bool := (unpack (chars s)).drop p
theorem unpack_get : ∀ (l : List Nat) {k : Nat}, k < 8 * l.length → (unpack l)[k]? = some (l.getD (k / 8) 0 / 2 ^ (k % 8) % 2 == 1)
  | [], k, h => by simp at h
  | x :: l, k, h => by
    have e : unpack (x :: l) = bitsOf x 8 ++ unpack l := rfl
    rw [e]
    by_cases h8 : k < 8
    · rw [List.getElem?_append_left (by rw [bits_length]; exact h8), show k / 8 = 0 from by omega, show k % 8 = k from by omega]
      have : ∀ (n m j : Nat), j < n → (bitsOf m n)[j]? = some (m / 2 ^ j % 2 == 1) := by
        intro n
        induction n with
        | zero => intro m j hj; omega
        | succ n ih =>
          intro m j hj
          cases j with
          | zero => simp [bitsOf]
          | succ j => simp only [bitsOf, List.getElem?_cons_succ]; rw [ih (m / 2) j (by omega), Nat.div_div_eq_div_mul, Nat.pow_succ, Nat.mul_comm 2]
      exact this 8 x k h8
    · rw [List.getElem?_append_right (by rw [bits_length]; omega), bits_length, unpack_get l (by simp only [List.length_cons] at h; omega), show k / 8 = (k - 8) / 8 + 1 from by omega, show k % 8 = (k - 8) % 8 from by omega]; rfl
theorem unpack_length : ∀ (l : List Nat), (unpack l).length = 8 * l.length
  | [] => rfl
  | x :: l => by
    have e : unpack (x :: l) = bitsOf x 8 ++ unpack l := rfl
    rw [e, List.length_append, bits_length, unpack_length l, List.length_cons]; omega
theorem rest_length (s : ByteArray) (p : Nat) : (rest s p).length = 8 * s.size - p := by unfold rest; rw [List.length_drop, unpack_length, chars_length]
theorem rest_cons {s : ByteArray} {p : Nat} (h : p < 8 * s.size) : rest s p = ((chars s).getD (p / 8) 0 / 2 ^ (p % 8) % 2 == 1) :: rest s (p + 1) := by
  unfold rest
  have hl : p < (unpack (chars s)).length := by rw [unpack_length, chars_length]; exact h
  have := unpack_get (chars s) (k := p) (by rw [chars_length]; exact h)
  rw [List.getElem?_eq_getElem hl] at this
  rw [List.drop_eq_getElem_cons hl, Option.some.inj this]
theorem rest_end {s : ByteArray} {p : Nat} (h : 8 * s.size ≤ p) : rest s p = [] := List.eq_nil_of_length_eq_zero (by rw [rest_length]; omega)
theorem rest_drop (s : ByteArray) (p n : Nat) : (rest s p).drop n = rest s (p + n) := by unfold rest; rw [List.drop_drop]
/-- The program's reader at block g: the text, where it is, whether it is bad. -/
structure IR (w : World) (g : Nat) (s : ByteArray) (p : Nat) (bad : Bool) : Prop where mk ::
  out : Blk w g 54 #[.string s, .int .i64 (p : Int), .bool bad]
  le : p ≤ 8 * s.size
  sz : s.size ≤ 1000000
/-- The number of n bits from p on, where there are as many. -/
def numAt (s : ByteArray) (p n : Nat) : Nat := val ((rest s p).take n)
theorem IR.kp {w w' : World} {g p : Nat} {s : ByteArray} {b : Bool} {S : List Nat} (h : IR w g s p b) (k : Kp S w w') (hg : g ∉ S) : IR w' g s p b := ⟨k.blk h.out hg, h.le, h.sz⟩
theorem IR.on {w w' : World} {g p : Nat} {s : ByteArray} {b : Bool} (h : IR w g s p b) (O : On w w') : IR w' g s p b := h.kp (Kp.of [] O) (by simp)
theorem numAt_one {s : ByteArray} {p : Nat} (h : p < 8 * s.size) : numAt s p 1 = s[p / 8].toNat / 2 ^ (p % 8) % 2 := by
  unfold numAt
  rw [rest_cons h, chars_at s (by omega : p / 8 < s.size)]
  show b1 _ + 2 * 0 = _
  rw [b1_mod, Nat.mul_zero, Nat.add_zero]
theorem numAt_end {s : ByteArray} {p n : Nat} (h : 8 * s.size ≤ p) : numAt s p n = 0 := by unfold numAt; rw [rest_end h]; simp [val]
theorem numAt_lt (s : ByteArray) (p n : Nat) : numAt s p n < 2 ^ n := Nat.lt_of_lt_of_le (val_lt _) (Nat.pow_le_pow_right (by omega) (by rw [List.length_take]; omega))
theorem numAt_succ (s : ByteArray) (p n : Nat) : numAt s p (n + 1) = numAt s p n + 2 ^ n * numAt s (p + n) 1 := by
  unfold numAt
  by_cases h : p + n < 8 * s.size
  · have hl : n < (rest s p).length := by rw [rest_length]; omega
    rw [List.take_succ_eq_append_getElem hl, val_append, List.length_take, Nat.min_eq_left (by omega)]
    have e : rest s (p + n) = (rest s p)[n] :: rest s (p + n + 1) := by rw [← rest_drop, List.drop_eq_getElem_cons hl, show p + n + 1 = p + (n + 1) from rfl, ← rest_drop s p (n + 1)]
    rw [e]; rfl
  · have h1 : (rest s p).length ≤ n := by rw [rest_length]; omega
    rw [rest_end (s := s) (p := p + n) (by omega), List.take_of_length_le (Nat.le_succ_of_le h1), List.take_of_length_le h1]; simp [val]
set_option maxRecDepth 100000 in
theorem bit_calls (g : Nat) (s : ByteArray) (p : Nat) (b : Bool) (w : World) (hw : IR w g s p b) :
    Calls Tryd.prog 51 #[.pointer (some ⟨g, 0, none⟩)] w fun e w' => e = .returned (.int .i64 (numAt s p 1 : Nat)) ∧ IR w' g s (min (p + 1) (8 * s.size)) (b || decide (8 * s.size < p + 1)) ∧ Kp [g] w w' := by
  obtain ⟨hb, hle, hsz⟩ := hw
  have c0 : w.cell? ⟨g, 0, none⟩ = some (.string s) := (hb.cell 0).trans rfl
  have c1 : w.cell? ⟨g, 1, none⟩ = some (.int .i64 p) := (hb.cell 1).trans rfl
  have c2 : w.cell? ⟨g, 2, none⟩ = some (.bool b) := (hb.cell 2).trans rfl
  have fr : ∀ i, w.frozen? ⟨g, i, none⟩ = false := hb.frozen
  have e0 : IntKind.i64.wrap (8 * (s.size : Int)) = 8 * (s.size : Int) := by rw [IntKind.wrap_i64]; omega
  by_cases h : p < 8 * s.size
  · have hi : (p : Int) < 8 * s.size := by omega
    have hi2 : decide (8 * (s.size : Int) ≤ (p : Int)) = false := by simp; omega
    obtain ⟨q, k, hq, hpq, hpk, hv⟩ : ∃ q k, ∃ hq : q < s.size, p / 8 = q ∧ p % 8 = k ∧ numAt s p 1 = s[q].toNat / 2 ^ k % 2 := ⟨p / 8, p % 8, by omega, rfl, rfl, numAt_one h⟩
    have e1 : IntKind.i64.wrap ((p : Int) / 8) = (q : Int) := by rw [IntKind.wrap_i64]; omega
    have e2 : Int.tmod (p : Int) 8 = (k : Int) := by rw [show (8 : Int) = ((8 : Nat) : Int) from rfl, tmod_nat, hpk]
    have e3 : Int.tdiv (p : Int) 8 = (q : Int) := by rw [show (8 : Int) = ((8 : Nat) : Int) from rfl, tdiv_nat, hpq]
    have hq2 : (q : Int) < s.size := by omega
    have hk2 : (k : Int) < 64 := by omega
    have HV := Lib.hid hv
    clear hv hpq hpk
    go_enter Tryd.func51, Tryd.ntmps51
    go_wp2_with fail
    go_quiet (fail)
    go_wp2_with fail
    go_quiet (fail)
    go_wp2_with fail
    go_ret
    have hx : s[q].toNat < 256 := s[q].toNat_lt
    have ew : wrap64 (s[q].toNat : Int) = (s[q].toNat : Int) := by unfold wrap64; omega
    refine ⟨?_, ⟨?_, Nat.min_le_right _ _, hsz⟩, ?_⟩
    · show Ending.returned (.int .i64 _) = _
      rw [ew, HV.out, bit_and _ _ (by omega)]
    · rw [Nat.min_eq_left (by omega), show decide (8 * s.size < p + 1) = false from by simp; omega, Bool.or_false]
      exact ((hb.drewN _).set 1 (.int .i64 ((p : Int) + 1)))
    · exact ((Kp.refl [g] w).drewN _).set (.inl (by simp)) _
  · have hi : 8 * (s.size : Int) ≤ p := by omega
    go_enter Tryd.func51, Tryd.ntmps51
    go_wp2_with fail
    go_quiet (fail)
    go_wp2_with fail
    go_ret
    refine ⟨by rw [numAt_end (by omega)]; rfl, ⟨?_, Nat.min_le_right _ _, hsz⟩, ?_⟩
    · rw [show min (p + 1) (8 * s.size) = p from by omega, show decide (8 * s.size < p + 1) = true from by simp; omega, Bool.or_true]
      exact ((hb.drewN _).set 2 (.bool true))
    · exact ((Kp.refl [g] w).drewN _).set (.inl (by simp)) _
theorem numAt_min (s : ByteArray) (p n : Nat) : numAt s (min p (8 * s.size)) n = numAt s p n := by
  by_cases h : p ≤ 8 * s.size
  · rw [Nat.min_eq_left h]
  · rw [Nat.min_eq_right (by omega), numAt_end (by omega), numAt_end (by omega)]
theorem or_bit64 {x y k : Nat} (hx : x < 2) (hk : k < 17) (hy : y < 2 ^ k) : Go.bits .or .i64 (y : Int) ((2 ^ k * x : Nat) : Int) = ((y + 2 ^ k * x : Nat) : Int) ∧ IntKind.i64.wrap ((x : Int) * 2 ^ k) = ((2 ^ k * x : Nat) : Int) := by
  have h1 : 2 ^ k ≤ 2 ^ 16 := Nat.pow_le_pow_right (by omega) (by omega)
  have h2 : 2 ^ k * x ≤ 2 ^ k * 1 := Nat.mul_le_mul_left _ (by omega)
  have e : (2 : Int) ^ k = ((2 ^ k : Nat) : Int) := by simp
  have ec : ∀ a b : Int, Go.bits .or .i64 a b = Go.bits .or .i64 b a := fun a b => by simp only [Go.bits]; rw [BitVec.or_comm]
  refine ⟨?_, ?_⟩
  · rw [ec, bits_join .i64 63 (by decide) wr_i64 k ((2 ^ k * x : Nat) : Int) (y : Int) (by omega) (by rw [e, Int.natCast_mul, Int.mul_emod_right]) (by omega) (by omega) (by rw [e]; omega) (by omega)]
    omega
  · rw [e, ← Int.natCast_mul, Nat.mul_comm, IntKind.wrap_i64]; omega
set_option maxRecDepth 100000 in
theorem get_calls (g n : Nat) (s : ByteArray) (p : Nat) (b : Bool) (w : World) (hw : IR w g s p b) (hn : n ≤ 16) :
    Calls Tryd.prog 52 #[.pointer (some ⟨g, 0, none⟩), .int .i64 (n : Int)] w fun e w' => e = .returned (.int .i64 (numAt s p n : Nat)) ∧ IR w' g s (min (p + n) (8 * s.size)) (b || decide (8 * s.size < p + n)) ∧ Kp [g] w w' := by
  go_enter Tryd.func52, Tryd.ntmps52
  go_wp2_with fail
  go_loopw [5, 8] (fun y x wr => ∃ (k : Nat), x = .int .i64 k ∧ k ≤ n ∧ y = .int .i64 (numAt s p k : Nat) ∧ IR wr g s (min (p + k) (8 * s.size)) (b || decide (8 * s.size < p + k)) ∧ Kp [g] w wr) (fun _ x _ => n - (intOf x).toNat)
  case atStart =>
    have hle := hw.le
    refine ⟨0, rfl, by omega, by simp [numAt, val], ?_, Kp.refl _ _⟩
    rw [Nat.add_zero, Nat.min_eq_left hle, show decide (8 * s.size < p) = false from by simp; omega, Bool.or_false]
    exact hw
  case round =>
    obtain ⟨k, rfl, hk, rfl, hr, K⟩ := hrel
    by_cases hlt : k < n
    · have hc := bit_calls g s _ _ wr hr
      rw [numAt_min] at hc
      have hx := numAt_lt s (p + k) 1
      have hy := numAt_lt s p k
      obtain ⟨o1, o2⟩ := or_bit64 (show numAt s (p + k) 1 < 2 from hx) (show k < 17 by omega) hy
      have hs := numAt_succ s p k
      have hk2 : (k : Int) < 64 := by omega
      have hk3 : (k : Int) < n := by omega
      have hy0 : (0 : Int) ≤ k := by omega
      have HS := Lib.hid hs
      have HC := Lib.hid hc
      clear hs hc
      generalize numAt s (p + k) 1 = x at *
      generalize numAt s p k = y at *
      generalize 2 ^ k * x = z at *
      go_wp2_with fail
      refine HC.out.mono ?_
      rintro e w2 ⟨rfl, hr2, K2⟩
      go_wp2_with fail
      go_roundw
      case rel =>
        refine ⟨k + 1, by go_num, by omega, by rw [HS.out, Int.natCast_add], ?_, K.then K2⟩
        have e1 : min (min (p + k) (8 * s.size) + 1) (8 * s.size) = min (p + (k + 1)) (8 * s.size) := by omega
        have e2 : ((b || decide (8 * s.size < p + k)) || decide (8 * s.size < min (p + k) (8 * s.size) + 1)) = (b || decide (8 * s.size < p + (k + 1))) := by
          rw [Bool.or_assoc]; congr 1
          rw [Bool.eq_iff_iff]; simp; omega
        rw [e1, e2] at hr2
        exact hr2
      case measure => simp [intOf]; omega
    · obtain rfl : k = n := by omega
      go_wp2_with fail
      go_ret
      exact ⟨rfl, hr, K⟩
/-- Where the next whole byte begins; whether all ahead of it is noughts. -/
def evenAt (p : Nat) : Nat := (p + 7) / 8 * 8
def padOk (s : ByteArray) (p : Nat) : Bool := ((rest s p).take (evenAt p - p)).all (!·)
set_option maxRecDepth 100000 in
theorem reven_calls (g : Nat) (s : ByteArray) (p : Nat) (b : Bool) (w : World) (hw : IR w g s p b) :
    Calls Tryd.prog 57 #[.pointer (some ⟨g, 0, none⟩)] w fun e w' => e = .returned (.tuple #[]) ∧ IR w' g s (evenAt p) (b || !padOk s p) ∧ Kp [g] w w' := by
  go_enter Tryd.func57, Tryd.ntmps57
  have hle := hw.le
  go_wp2_with fail
  go_loopw [7] (fun _ wr => ∃ (q : Nat), p ≤ q ∧ q ≤ evenAt p ∧ IR wr g s q (b || !(((rest s p).take (q - p)).all (!·))) ∧ Kp [g] w wr) (fun _ wr => match wr.cell? ⟨g, 1, none⟩ with | some x => 8 * s.size - (intOf x).toNat | none => 0)
  case atStart =>
    refine ⟨p, Nat.le_refl _, by unfold evenAt; omega, ?_, Kp.refl _ _⟩
    simpa using hw
  case round =>
    obtain ⟨q, hpq, hq, hr, K⟩ := hrel
    have B := hr.out
    have hql := hr.le
    have c1 : wr.cell? ⟨g, 1, none⟩ = some (.int .i64 q) := (B.cell 1).trans rfl
    have e2 : Int.tmod (q : Int) 8 = ((q % 8 : Nat) : Int) := tmod_nat q 8
    by_cases h8 : q % 8 = 0
    · have hqe : q = evenAt p := by unfold evenAt at *; omega
      rw [h8] at e2
      go_wp2_with fail
      go_end0
      refine ⟨rfl, ?_, K⟩
      unfold padOk
      rw [← hqe]; exact hr
    · have hqn : q + 1 ≤ evenAt p := by unfold evenAt at *; omega
      have hqs : q < 8 * s.size := by omega
      have h8' : ((((q % 8 : Nat) : Int)) == 0) = false := by simp; omega
      have hc := bit_calls g s _ _ wr hr
      have HC := Lib.hid hc
      clear hc
      have hs : ((rest s p).take (q + 1 - p)).all (!·) = (((rest s p).take (q - p)).all (!·) && (numAt s q 1 == 0)) := by
        have hl : q - p < (rest s p).length := by rw [rest_length]; omega
        rw [show q + 1 - p = (q - p) + 1 from by omega, List.take_succ_eq_append_getElem hl, List.all_append]
        have e : rest s q = (rest s p)[q - p] :: rest s (q + 1) := by
          have := rest_drop s p (q - p)
          rw [show p + (q - p) = q from by omega] at this
          have h3 := rest_drop s p (q + 1 - p)
          rw [show p + (q + 1 - p) = q + 1 from by omega] at h3
          rw [← this, ← h3, List.drop_eq_getElem_cons hl, show q - p + 1 = q + 1 - p from by omega]
        unfold numAt
        rw [e]
        cases (rest s p)[q - p] <;> rfl
      have HS := Lib.hid hs
      clear hs
      have hx := numAt_lt s q 1
      obtain ⟨x, hxx⟩ : ∃ x, numAt s q 1 = x := ⟨_, rfl⟩
      rw [hxx] at hx
      have HX := Lib.hid hxx
      clear hxx
      by_cases h0 : x = 0
      case' pos =>
        subst h0
        go_wp2_with fail
        refine HC.out.mono ?_
        rintro e w2 ⟨rfl, hr2, K2⟩
        rw [HX.out]
        go_wp2_with fail
        obtain ⟨w3, hw3⟩ : ∃ w3, w3 = w2 := ⟨_, rfl⟩
        have hr3 : IR w3 g s (q + 1) (b || !(((rest s p).take (q + 1 - p)).all (!·))) := by
          rw [HS.out, HX.out, hw3]
          rw [Nat.min_eq_left (by omega), show decide (8 * s.size < q + 1) = false from by simp; omega, Bool.or_false] at hr2
          simpa using hr2
        have K3 : Kp [g] wr w3 := hw3 ▸ K2
        subst hw3
      case' neg =>
        have hx1 : x = 1 := by omega
        subst hx1
        go_wp2_with fail
        refine HC.out.mono ?_
        rintro e w2 ⟨rfl, hr2, K2⟩
        rw [HX.out]
        have fr : ∀ i, w2.frozen? ⟨g, i, none⟩ = false := hr2.out.frozen
        have d0 : w2.cell? ⟨g, 0, none⟩ = some (.string s) := (hr2.out.cell 0).trans rfl
        have d2 := (hr2.out.cell 2).trans rfl
        go_wp2_with fail
        have hr3 : IR (w2.setCell ⟨g, 2, none⟩ (.bool true)) g s (q + 1) (b || !(((rest s p).take (q + 1 - p)).all (!·))) := by
          rw [HS.out, HX.out]
          rw [Nat.min_eq_left (by omega)] at hr2
          refine ⟨?_, by omega, hr2.sz⟩
          have := hr2.out.set 2 (.bool true)
          simpa using this
        have K3 : Kp [g] wr (w2.setCell ⟨g, 2, none⟩ (.bool true)) := K2.set (.inl (by simp)) _
        generalize w2.setCell ⟨g, 2, none⟩ (.bool true) = w3 at *
      all_goals
        go_roundw
        case rel => exact ⟨q + 1, by omega, hqn, hr3, K.then K3⟩
        case measure =>
          have c3 : w3.cell? ⟨g, 1, none⟩ = some (.int .i64 ((q + 1 : Nat) : Int)) := (hr3.out.cell 1).trans rfl
          rw [c3, c1]
          simp [intOf]; omega
end Go.Proofs.YtncidljdfipigaaDoor.Wi

