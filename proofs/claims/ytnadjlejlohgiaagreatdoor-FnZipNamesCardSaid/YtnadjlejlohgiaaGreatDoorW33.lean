/- Own texts joined: Lt. -/
import Derived.Test.YtnadjlejlohgiaaGreatDoorW24
import Derived.Test.YtnadjlejlohgiaaGreatDoorW32
/- A packed file's text, and how a text is packed: the specification's. -/
namespace Go.Proofs.YtnadjlejlohgiaaGreatDoor.Lc
open Go.RowKit Go.Proofs.YtnadjlejlohgiaaGreatDoor.Mem Go.Proofs.YtnadjlejlohgiaaGreatDoor.Wi Go.Proofs.YtnadjlejlohgiaaGreatDoor.De
set_option linter.unusedVariables false
set_option linter.unusedSimpArgs false
/-- The text of a file packed in the way m. -/
def textOf (m : Nat) (p : List Nat) : Option (List Nat) :=
  if m = 0 then some p else if m = 8 then (match flate p with | some (o, n) => if n = p.length then some o else none | none => none) else none
/-- What is told of a text. -/
structure TextIs (m : Nat) (s : ByteArray) (tx : ByteArray) (b : Bool) : Prop where
  ok : b = (textOf m (chars s)).isSome
  tx : ∀ o, textOf m (chars s) = some o → tx = strB o
theorem TextIs.zero (s : ByteArray) : TextIs 0 s s true := ⟨by simp [textOf], fun o h => by simp [textOf] at h; rw [← h, strB_chars]⟩
theorem TextIs.none {m : Nat} {s tx : ByteArray} (h : textOf m (chars s) = none) : TextIs m s tx false := ⟨by rw [h]; rfl, fun o ho => by rw [h] at ho; cases ho⟩
theorem TextIs.some {m : Nat} {s : ByteArray} {o : List Nat} (h : textOf m (chars s) = some o) : TextIs m s (strB o) true := ⟨by rw [h]; rfl, fun o' ho => by rw [h] at ho; cases ho; rfl⟩
set_option maxRecDepth 100000 in
theorem stext_calls (m : Nat) (s : ByteArray) (hs : s.size ≤ 4294967296) (w : World) :
    Calls Tryz.prog 58 #[.int .i64 m, .string s] w (fun e w' => ∃ tx b, e = .returned (.tuple #[.string tx, .bool b]) ∧ On w w' ∧ TextIs m s tx b) := by
  by_cases h0 : m = 0
  · subst h0
    have HT := Lib.hid (TextIs.zero s)
    go_enter Tryz.func58, Tryz.ntmps58
    go_wp2_with fail
    go_ret2
    exact ⟨_, _, rfl, On.refl _, HT.out⟩
  have h0' : ¬ (m : Int) = 0 := by omega
  have hg := sflateget_calls s w
  unfold gotOf at hg
  cases hf : flate (chars s) with
  | none =>
    rw [hf] at hg
    have HT := Lib.hid (fun tx => TextIs.none (m := m) (s := s) (tx := tx) (by unfold textOf; rw [if_neg h0, hf]; split <;> rfl))
    have HG := Lib.hid hg
    clear hg
    go_enter Tryz.func58, Tryz.ntmps58
    go_wp2_with fail
    refine HG.out.mono ?_
    rintro e w1 ⟨rfl, O1⟩
    go_wp2_with fail
    go_ret2
    exact ⟨_, _, rfl, O1, HT.out _⟩
  | some r =>
    obtain ⟨o, n⟩ := r
    rw [hf] at hg
    have HG := Lib.hid hg
    clear hg
    have hlc : (chars s).length = s.size := chars_length s
    by_cases h8 : m = 8
    · subst h8
      by_cases hn : n = s.size
      · have HT := Lib.hid (TextIs.some (m := 8) (s := s) (o := o) (by unfold textOf; rw [if_neg h0, if_pos rfl, hf]; show (if n = (chars s).length then _ else _) = _; rw [if_pos (by omega)]))
        subst hn
        clear hlc hf
        go_enter Tryz.func58, Tryz.ntmps58
        go_wp2_with fail
        refine HG.out.mono ?_
        rintro e w1 ⟨rfl, O1⟩
        go_wp2_with fail
        go_ret2
        exact ⟨_, _, rfl, O1, HT.out⟩
      · have HT := Lib.hid (fun tx => TextIs.none (m := 8) (s := s) (tx := tx) (by unfold textOf; rw [if_neg h0, if_pos rfl, hf]; show (if n = (chars s).length then _ else _) = _; rw [if_neg (by omega)]))
        have hn' : ((n : Int) == s.size) = false := by rw [beq_eq_false_iff_ne]; omega
        clear hlc hf
        go_enter Tryz.func58, Tryz.ntmps58
        go_wp2_with fail
        refine HG.out.mono ?_
        rintro e w1 ⟨rfl, O1⟩
        go_wp2_with fail
        go_ret2
        exact ⟨_, _, rfl, O1, HT.out _⟩
    · have HT := Lib.hid (fun tx => TextIs.none (m := m) (s := s) (tx := tx) (by unfold textOf; rw [if_neg h0, if_neg h8]))
      have h8' : ((m : Int) == 8) = false := by rw [beq_eq_false_iff_ne]; omega
      clear hlc hf
      go_enter Tryz.func58, Tryz.ntmps58
      go_wp2_with fail
      refine HG.out.mono ?_
      rintro e w1 ⟨rfl, O1⟩
      go_wp2_with fail
      go_ret2
      exact ⟨_, _, rfl, O1, HT.out _⟩
/-- How a text is packed in a file: packed, if that is shorter. -/
def howOf (s : ByteArray) : Nat × ByteArray := if (flateB s).size < s.size then (8, flateB s) else (0, s)
set_option maxRecDepth 100000 in
theorem show_calls (s : ByteArray) (hs : s.size ≤ 4294967296) (w : World) :
    Calls Tryz.prog 82 #[.string s] w (fun e w' => e = .returned (.tuple #[.int .i64 ((howOf s).1 : Nat), .string (howOf s).2]) ∧ On w w') := by
  have HC := Lib.hid (fun w => sflateput_calls s w)
  by_cases h : (flateB s).size < s.size
  · have HR := Lib.hid (show howOf s = (8, flateB s) from if_pos h)
    generalize howOf s = R at *
    generalize flateB s = t at *
    go_enter Tryz.func82, Tryz.ntmps82
    go_wp2_with fail
    refine (HC.out w).mono ?_
    rintro e w1 ⟨rfl, O1⟩
    go_wp2_with fail
    go_ret2
    exact ⟨by rw [HR.out]; rfl, O1⟩
  · have HR := Lib.hid (show howOf s = (0, s) from if_neg h)
    generalize howOf s = R at *
    generalize flateB s = t at *
    go_enter Tryz.func82, Tryz.ntmps82
    go_wp2_with fail
    refine (HC.out w).mono ?_
    rintro e w1 ⟨rfl, O1⟩
    go_wp2_with fail
    go_ret2
    exact ⟨by rw [HR.out]; rfl, O1⟩
end Go.Proofs.YtnadjlejlohgiaaGreatDoor.Lc

