/- Own texts joined: Nm, St. -/
import Derived.Test.YtnadjlejlohgiaaGreatDoorChecked
import Derived.Lib.Hide
import Derived.WalkKit
import Derived.WalkSpells
import Derived.Deep.QuietTactic
import Derived.BigQuiet
import Derived.Test.YtnadjlejlohgiaaGreatDoorW0
/- Plain names and the walks of what looks at one: the part of a name, its cut at slashes. No program's condition beyond sizes. -/
namespace Go.Proofs.YtnadjlejlohgiaaGreatDoor.Nm
open Go.RowKit Go.Proofs.YtnadjlejlohgiaaGreatDoor.Mem
set_option linter.unusedVariables false
set_option linter.unusedSimpArgs false
theorem within_same (n l h : Int) (w : World) :
    Calls Tryz.prog 103 #[.int .i64 n, .int .i64 l, .int .i64 h] w (fun e w' => e = .returned (.bool (decide (l ≤ n ∧ n ≤ h))) ∧ w' = w) := by
  by_cases h1 : l ≤ n
  · by_cases h2 : n ≤ h
    · go_enter Tryz.func103, Tryz.ntmps103
      go_wp2_with fail
      go_ret
      exact ⟨by simp [h1, h2], rfl⟩
    · go_enter Tryz.func103, Tryz.ntmps103
      go_wp2_with fail
      go_ret
      exact ⟨by simp [h1, h2], rfl⟩
  · go_enter Tryz.func103, Tryz.ntmps103
    go_wp2_with fail
    go_ret
    exact ⟨by simp; omega, rfl⟩
theorem in_same (n l h : Int) (w : World) :
    Calls Tryz.prog 30 #[.int .i64 n, .int .i64 l, .int .i64 h] w (fun e w' => e = .returned (.bool (decide (l ≤ n ∧ n ≤ h))) ∧ w' = w) := by
  by_cases h1 : l ≤ n
  · by_cases h2 : n ≤ h
    · go_enter Tryz.func30, Tryz.ntmps30
      go_wp2_with fail
      go_ret
      exact ⟨by simp [h1, h2], rfl⟩
    · go_enter Tryz.func30, Tryz.ntmps30
      go_wp2_with fail
      go_ret
      exact ⟨by simp [h1, h2], rfl⟩
  · go_enter Tryz.func30, Tryz.ntmps30
    go_wp2_with fail
    go_ret
    exact ⟨by simp; omega, rfl⟩
theorem Tells.of {w : World} {v : Value} {e : Ending} {w' : World} (h : e = .returned v ∧ w' = w) : Tells w v e w' := by
  obtain ⟨rfl, rfl⟩ := h
  exact ⟨rfl, On.refl _⟩
theorem within_calls (n l h : Int) (w : World) :
    Calls Tryz.prog 103 #[.int .i64 n, .int .i64 l, .int .i64 h] w (Tells w (.bool (decide (l ≤ n ∧ n ≤ h)))) := (within_same n l h w).mono fun _ _ h => Tells.of h
theorem in_calls (n l h : Int) (w : World) :
    Calls Tryz.prog 30 #[.int .i64 n, .int .i64 l, .int .i64 h] w (Tells w (.bool (decide (l ≤ n ∧ n ≤ h)))) := (in_same n l h w).mono fun _ _ h => Tells.of h
def okByte (b : UInt8) : Bool := decide (97 ≤ b.toNat ∧ b.toNat ≤ 122) || decide (48 ≤ b.toNat ∧ b.toNat ≤ 57) || decide (b.toNat = 46) || decide (b.toNat = 45) || decide (b.toNat = 95)
def partOk (l : List UInt8) : Bool := l.all okByte && decide (1 ≤ l.length ∧ l.length ≤ 10) && decide (l ≠ [46]) && decide (l ≠ [46, 46])
theorem all_step {s : ByteArray} {k : Nat} (h : (s.data.toList.take k).all okByte = true) (hk : k < s.size) (hb : okByte s[k] = true) : (s.data.toList.take (k + 1)).all okByte = true := by
  have hk' : k < s.data.toList.length := by rw [Array.length_toList]; exact hk
  rw [List.take_succ_eq_append_getElem hk', List.all_append, h]
  rw [show s.data.toList[k] = s[k] from rfl, List.all_cons, hb]; rfl
theorem mem_at {s : ByteArray} {k : Nat} (hk : k < s.size) : s[k] ∈ s.data.toList := by
  have hk' : k < s.data.toList.length := by rw [Array.length_toList]; exact hk
  have : s[k] = s.data.toList[k] := rfl
  rw [this]
  exact List.getElem_mem hk'
set_option maxRecDepth 100000 in
theorem part_calls (s : ByteArray) (hs : s.size < 4294967296) (w : World) :
    Calls Tryz.prog 102 #[.string s] w (Tells w (.bool (partOk s.data.toList))) := by
  go_enter Tryz.func102, Tryz.ntmps102
  go_wp2_with fail
  go_loopw [7] (fun x wr => ∃ k : Nat, k ≤ s.size ∧ x = .int .i64 k ∧ (s.data.toList.take k).all okByte = true ∧ On w wr) (fun x _ => s.size - (intOf x).toNat)
  case atStart => exact ⟨0, by omega, rfl, rfl, On.refl w⟩
  case round =>
    obtain ⟨k, hk, rfl, hall, O⟩ := hrel
    by_cases hlt : k < s.size
    · have hstep := all_step hall hlt
      have hmem := mem_at hlt
      generalize hbb : s[k] = b at *
      go_wp2_with fail
      all_goals first
        | (have hb : okByte b = true := by
            simp only [okByte, Bool.or_eq_true, decide_eq_true_eq]; simp at *; omega
           exact ⟨⟨k + 1, by omega, by go_num, hstep hb, O⟩, by simp [intOf]; omega⟩)
        | (have hb : ¬ okByte b = true := by
            simp only [okByte, Bool.or_eq_true, decide_eq_true_eq]; simp at *; omega
           have hp : partOk s.data.toList = false := by
            unfold partOk
            have : s.data.toList.all okByte = false := by
              rw [Bool.eq_false_iff]; intro h; exact hb (List.all_eq_true.1 h _ hmem)
            rw [this]; rfl
           go_ret
           exact ⟨by rw [hp]; rfl, O⟩)
    · obtain rfl : k = s.size := by omega
      have hall2 : s.data.toList.all okByte = true := by
        rw [List.take_of_length_le (by rw [Array.length_toList]; exact Nat.le_refl _)] at hall; exact hall
      go_wp2_with fail
      refine (within_calls _ _ _ wr).mono ?_
      rintro e w1 ⟨rfl, O1⟩
      replace O := O.call O1
      go_wp2_with fail
      all_goals go_ret
      all_goals refine ⟨?_, O⟩
      all_goals unfold partOk
      all_goals rw [hall2]
      all_goals simp only [ByteArray.toList_eq] at *
      all_goals have hl : s.data.toList.length = s.size := Array.length_toList
      · simp [hl, *]
      · rename_i h1 h2
        have a1 : 1 ≤ s.size := by omega
        have a2 : s.size ≤ 10 := by omega
        by_cases h3 : s.data.toList = [46, 46] <;> simp [hl, a1, a2, h2, h3]
      · simp [hl]; intros; exfalso; omega
end Go.Proofs.YtnadjlejlohgiaaGreatDoor.Nm

/- Stamps: both programs' StampOk answer the plain one, at every six numbers. No condition. -/
namespace Go.Proofs.YtnadjlejlohgiaaGreatDoor.Nm
open Go.RowKit Go.Proofs.YtnadjlejlohgiaaGreatDoor.Mem
set_option linter.unusedVariables false
set_option linter.unusedSimpArgs false
/-- How many days a month has. -/
def dd (y m : Int) : Int := if m = 4 then 30 else if m = 6 then 30 else if m = 9 then 30 else if m = 11 then 30 else if m = 2 then (if Int.tmod y 4 = 0 then (if Int.tmod y 100 = 0 then (if Int.tmod y 400 = 0 then 29 else 28) else 29) else 28) else 31
theorem dd_le (y m : Int) : dd y m ≤ 31 := by unfold dd; repeat' split
                                              all_goals omega
def okp (y m d h mi s : Int) : Prop := (1980 ≤ y ∧ y ≤ 2107) ∧ (1 ≤ m ∧ m ≤ 12) ∧ (1 ≤ d ∧ d ≤ dd y m) ∧ (0 ≤ h ∧ h ≤ 23) ∧ (0 ≤ mi ∧ mi ≤ 59) ∧ (0 ≤ s ∧ s ≤ 58) ∧ Int.tmod s 2 = 0
instance decOkp (y m d h mi s : Int) : Decidable (okp y m d h mi s) := by unfold okp; infer_instance
set_option maxRecDepth 100000 in
theorem idays_calls (y m : Int) (w : World) : Calls Tryz.prog 104 #[.int .i64 y, .int .i64 m] w (fun e w' => e = .returned (.int .i64 (dd y m)) ∧ w' = w) := by
  by_cases h4 : m = 4
  · subst h4
    go_enter Tryz.func104, Tryz.ntmps104
    go_wp2_with fail
    go_ret
    exact ⟨by simp [dd], rfl⟩
  by_cases h6 : m = 6
  · subst h6
    go_enter Tryz.func104, Tryz.ntmps104
    go_wp2_with fail
    go_ret
    exact ⟨by simp [dd], rfl⟩
  by_cases h9 : m = 9
  · subst h9
    go_enter Tryz.func104, Tryz.ntmps104
    go_wp2_with fail
    go_ret
    exact ⟨by simp [dd], rfl⟩
  by_cases h11 : m = 11
  · subst h11
    go_enter Tryz.func104, Tryz.ntmps104
    go_wp2_with fail
    go_ret
    exact ⟨by simp [dd], rfl⟩
  by_cases h2 : m = 2
  · subst h2
    by_cases a : Int.tmod y 4 = 0 <;> by_cases b : Int.tmod y 100 = 0 <;> by_cases c : Int.tmod y 400 = 0
    all_goals
      have HD : RowKit.Hid (dd y 2 = (if Int.tmod y 4 = 0 then (if Int.tmod y 100 = 0 then (if Int.tmod y 400 = 0 then 29 else 28) else 29) else 28)) := Lib.hid (by simp [dd])
      go_enter Tryz.func104, Tryz.ntmps104
      go_wp2_with fail
      all_goals go_ret
      all_goals refine ⟨?_, rfl⟩
      all_goals rw [HD.out]
      all_goals simp [a, b, c]
  · go_enter Tryz.func104, Tryz.ntmps104
    have e4 : (m == 4) = false := by simp [h4]
    have e6 : (m == 6) = false := by simp [h6]
    have e9 : (m == 9) = false := by simp [h9]
    have e11 : (m == 11) = false := by simp [h11]
    have e2 : (m == 2) = false := by simp [h2]
    go_wp2_with fail
    go_ret
    exact ⟨by simp [dd, h4, h6, h9, h11, h2], rfl⟩
set_option maxRecDepth 100000 in
theorem sdays_calls (y m : Int) (w : World) : Calls Tryz.prog 117 #[.int .i64 y, .int .i64 m] w (fun e w' => e = .returned (.int .i64 (dd y m)) ∧ w' = w) := by
  by_cases h4 : m = 4
  · subst h4
    go_enter Tryz.func117, Tryz.ntmps117
    go_wp2_with fail
    go_ret
    exact ⟨by simp [dd], rfl⟩
  by_cases h6 : m = 6
  · subst h6
    go_enter Tryz.func117, Tryz.ntmps117
    go_wp2_with fail
    go_ret
    exact ⟨by simp [dd], rfl⟩
  by_cases h9 : m = 9
  · subst h9
    go_enter Tryz.func117, Tryz.ntmps117
    go_wp2_with fail
    go_ret
    exact ⟨by simp [dd], rfl⟩
  by_cases h11 : m = 11
  · subst h11
    go_enter Tryz.func117, Tryz.ntmps117
    go_wp2_with fail
    go_ret
    exact ⟨by simp [dd], rfl⟩
  by_cases h2 : m = 2
  · subst h2
    by_cases a : Int.tmod y 4 = 0 <;> by_cases b : Int.tmod y 100 = 0 <;> by_cases c : Int.tmod y 400 = 0
    all_goals
      have HD : RowKit.Hid (dd y 2 = (if Int.tmod y 4 = 0 then (if Int.tmod y 100 = 0 then (if Int.tmod y 400 = 0 then 29 else 28) else 29) else 28)) := Lib.hid (by simp [dd])
      go_enter Tryz.func117, Tryz.ntmps117
      go_wp2_with fail
      all_goals go_ret
      all_goals refine ⟨?_, rfl⟩
      all_goals rw [HD.out]
      all_goals simp [a, b, c]
  · go_enter Tryz.func117, Tryz.ntmps117
    have e4 : (m == 4) = false := by simp [h4]
    have e6 : (m == 6) = false := by simp [h6]
    have e9 : (m == 9) = false := by simp [h9]
    have e11 : (m == 11) = false := by simp [h11]
    have e2 : (m == 2) = false := by simp [h2]
    go_wp2_with fail
    go_ret
    exact ⟨by simp [dd, h4, h6, h9, h11, h2], rfl⟩
end Go.Proofs.YtnadjlejlohgiaaGreatDoor.Nm

