/- Plain names and the walks of what looks at one: the part of a name, its cut at slashes. No program's condition beyond sizes. -/
import Derived.Test.YtpbfhflggicpiaaDoorChecked
import Derived.Test.YtpbfhflggicpiaaDoorRow
import Derived.Lib.Hide
import Derived.WalkKit
import Derived.WalkSpells
namespace Go.Proofs.YtpbfhflggicpiaaDoor.Nm
open Go.RowKit Go.Proofs.YtpbfhflggicpiaaDoor.Mem
set_option linter.unusedVariables false
set_option linter.unusedSimpArgs false
theorem within_same (n l h : Int) (w : World) :
    Calls Tryd.prog 38 #[.int .i64 n, .int .i64 l, .int .i64 h] w (fun e w' => e = .returned (.bool (decide (l ≤ n ∧ n ≤ h))) ∧ w' = w) := by
  by_cases h1 : l ≤ n
  · by_cases h2 : n ≤ h
    · go_enter Tryd.func38, Tryd.ntmps38
      go_wp2_with fail
      go_ret
      exact ⟨by simp [h1, h2], rfl⟩
    · go_enter Tryd.func38, Tryd.ntmps38
      go_wp2_with fail
      go_ret
      exact ⟨by simp [h1, h2], rfl⟩
  · go_enter Tryd.func38, Tryd.ntmps38
    go_wp2_with fail
    go_ret
    exact ⟨by simp; omega, rfl⟩
theorem in_same (n l h : Int) (w : World) :
    Calls Tryd.prog 23 #[.int .i64 n, .int .i64 l, .int .i64 h] w (fun e w' => e = .returned (.bool (decide (l ≤ n ∧ n ≤ h))) ∧ w' = w) := by
  by_cases h1 : l ≤ n
  · by_cases h2 : n ≤ h
    · go_enter Tryd.func23, Tryd.ntmps23
      go_wp2_with fail
      go_ret
      exact ⟨by simp [h1, h2], rfl⟩
    · go_enter Tryd.func23, Tryd.ntmps23
      go_wp2_with fail
      go_ret
      exact ⟨by simp [h1, h2], rfl⟩
  · go_enter Tryd.func23, Tryd.ntmps23
    go_wp2_with fail
    go_ret
    exact ⟨by simp; omega, rfl⟩
theorem Tells.of {w : World} {v : Value} {e : Ending} {w' : World} (h : e = .returned v ∧ w' = w) : Tells w v e w' := by
  obtain ⟨rfl, rfl⟩ := h
  exact ⟨rfl, On.refl _⟩
theorem within_calls (n l h : Int) (w : World) :
    Calls Tryd.prog 38 #[.int .i64 n, .int .i64 l, .int .i64 h] w (Tells w (.bool (decide (l ≤ n ∧ n ≤ h)))) := (within_same n l h w).mono fun _ _ h => Tells.of h
theorem in_calls (n l h : Int) (w : World) :
    Calls Tryd.prog 23 #[.int .i64 n, .int .i64 l, .int .i64 h] w (Tells w (.bool (decide (l ≤ n ∧ n ≤ h)))) := (in_same n l h w).mono fun _ _ h => Tells.of h
def okByte (b : UInt8) : Bool := decide (97 ≤ b.toNat ∧ b.toNat ≤ 122) || decide (48 ≤ b.toNat ∧ b.toNat ≤ 57) || decide (b.toNat = 46) || decide (b.toNat = 45) || decide (b.toNat = 95)
def partOk (l : List UInt8) : Bool := l.all okByte && decide (1 ≤ l.length ∧ l.length ≤ 10) && decide (l ≠ [46]) && decide (l ≠ [46, 46])
theorem all_step {s : ByteArray} {k : Nat} (h : (s.data.toList.take k).all okByte = true) (hk : k < s.size) (hb : okByte s[k] = true) : (s.data.toList.take (k + 1)).all okByte = true := by
  have hk' : k < s.data.toList.length := by rw [Array.length_toList]; exact hk
  rw [List.take_succ_eq_append_getElem hk', List.all_append, h]
  rw [show s.data.toList[k] = s[k] from rfl, List.all_cons, hb]; rfl
theorem mem_at {s : ByteArray} {k : Nat} (hk : k < s.size) : s[k] ∈ s.data.toList := by
  have hk' : k < s.data.toList.length := by rw [Array.length_toList]; exact hk
  have : s[k] = s.data.toList[k] := rfl
  rw [this]
  exact List.getElem_mem hk'
set_option maxRecDepth 100000 in
theorem part_calls (s : ByteArray) (hs : s.size < 4294967296) (w : World) :
    Calls Tryd.prog 25 #[.string s] w (Tells w (.bool (partOk s.data.toList))) := by
  go_enter Tryd.func25, Tryd.ntmps25
  go_wp2_with fail
  go_loopw [7] (fun x wr => ∃ k : Nat, k ≤ s.size ∧ x = .int .i64 k ∧ (s.data.toList.take k).all okByte = true ∧ On w wr) (fun x _ => s.size - (intOf x).toNat)
  case atStart => exact ⟨0, by omega, rfl, rfl, On.refl w⟩
  case round =>
    obtain ⟨k, hk, rfl, hall, O⟩ := hrel
    by_cases hlt : k < s.size
    · have hstep := all_step hall hlt
      have hmem := mem_at hlt
      generalize hbb : s[k] = b at *
      go_wp2_with fail
      all_goals first
        | (have hb : okByte b = true := by
            simp only [okByte, Bool.or_eq_true, decide_eq_true_eq]; simp at *; omega
           exact ⟨⟨k + 1, by omega, by go_num, hstep hb, O⟩, by simp [intOf]; omega⟩)
        | (have hb : ¬ okByte b = true := by
            simp only [okByte, Bool.or_eq_true, decide_eq_true_eq]; simp at *; omega
           have hp : partOk s.data.toList = false := by
            unfold partOk
            have : s.data.toList.all okByte = false := by
              rw [Bool.eq_false_iff]; intro h; exact hb (List.all_eq_true.1 h _ hmem)
            rw [this]; rfl
           go_ret
           exact ⟨by rw [hp]; rfl, O⟩)
    · obtain rfl : k = s.size := by omega
      have hall2 : s.data.toList.all okByte = true := by
        rw [List.take_of_length_le (by rw [Array.length_toList]; exact Nat.le_refl _)] at hall; exact hall
      go_wp2_with fail
      refine (within_calls _ _ _ wr).mono ?_
      rintro e w1 ⟨rfl, O1⟩
      replace O := O.call O1
      go_wp2_with fail
      all_goals go_ret
      all_goals refine ⟨?_, O⟩
      all_goals unfold partOk
      all_goals rw [hall2]
      all_goals simp only [ByteArray.toList_eq] at *
      all_goals have hl : s.data.toList.length = s.size := Array.length_toList
      · simp [hl, *]
      · rename_i h1 h2
        have a1 : 1 ≤ s.size := by omega
        have a2 : s.size ≤ 10 := by omega
        by_cases h3 : s.data.toList = [46, 46] <;> simp [hl, a1, a2, h2, h3]
      · simp [hl]; intros; exfalso; omega
end Go.Proofs.YtpbfhflggicpiaaDoor.Nm
