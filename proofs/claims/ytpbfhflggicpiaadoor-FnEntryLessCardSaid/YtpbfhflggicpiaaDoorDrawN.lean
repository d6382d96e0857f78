/- The draws of names: some text of at most twenty bytes. -/
import Derived.Test.YtpbfhflggicpiaaDoorDraw
namespace Go.Proofs.YtpbfhflggicpiaaDoor.Draw
open Go.RowKit Go.Proofs.YtpbfhflggicpiaaDoor.Mem
set_option linter.unusedVariables false
set_option linter.unusedSimpArgs false
set_option maxRecDepth 100000 in
theorem name_calls (g B : Nat) (w : World) (hr : Rd w g B) (hB : B ≤ 1000000000) :
    Calls Tryd.prog 41 #[.pointer (some ⟨g, 0, none⟩)] w fun e w' => ∃ s : ByteArray, s.size ≤ 20 ∧ e = .returned (.string s) ∧ Rd w' g (B + 1) ∧ But g w w' := by
  go_enter Tryd.func41, Tryd.ntmps41
  go_wp2_with fail
  refine (of_calls g B w.heap.size 7 7 _ _ (hr.on ((On.refl w).alloc _)) hB (Row.of (Blk.new w _ _)) rfl (by omega) (by omega) (by omega) (Nat.ne_of_gt hr.lt)).mono ?_
  rintro e w1 ⟨v, hv, rfl, hr1, T⟩
  replace T := (But.of (g := g) ((On.refl w).alloc _)).trans T
  have hs : ∃ s : ByteArray, s.size ≤ 20 ∧ v = .string s := by
    simp at hv
    rcases hv with rfl | rfl | rfl | rfl | rfl | rfl | rfl <;> exact ⟨_, by decide, rfl⟩
  obtain ⟨s, hs, rfl⟩ := hs
  clear hv
  go_wp2_with fail
  go_ret
  exact ⟨s, hs, rfl, hr1, T⟩
set_option maxRecDepth 100000 in
theorem anyname_calls (g B : Nat) (w : World) (hr : Rd w g B) (hB : B ≤ 100000000) :
    Calls Tryd.prog 26 #[.pointer (some ⟨g, 0, none⟩)] w fun e w' => ∃ s : ByteArray, s.size ≤ 20 ∧ e = .returned (.string s) ∧ Rd w' g (B + 2) ∧ But g w w' := by
  go_enter Tryd.func26, Tryd.ntmps26
  go_wp2_with fail
  refine (pick_calls g B 6 w hr (by omega) (by omega) (by omega)).mono ?_
  rintro e w1 ⟨k, hk, rfl, hr1, T⟩
  by_cases h0 : k = 0
  · have h0' : ((k : Int) == 0) = true := by simp [h0]
    go_wp2_with fail
    refine (of_calls g (B + 1) w1.heap.size 9 9 _ _ (hr1.on ((On.refl w1).alloc _)) (by omega) (Row.of (Blk.new w1 _ _)) rfl (by omega) (by omega) (by omega) (Nat.ne_of_gt hr1.lt)).mono ?_
    rintro e w2 ⟨v, hv, rfl, hr2, T2⟩
    replace T := T.trans ((But.of (g := g) ((On.refl w1).alloc _)).trans T2)
    have hs : ∃ s : ByteArray, s.size ≤ 20 ∧ v = .string s := by
      simp at hv
      rcases hv with rfl | rfl | rfl | rfl | rfl | rfl | rfl | rfl | rfl <;> exact ⟨_, by decide, rfl⟩
    obtain ⟨s, hs, rfl⟩ := hs
    clear hv
    go_wp2_with fail
    go_ret
    exact ⟨s, hs, rfl, hr2, T⟩
  · have h0' : ((k : Int) == 0) = false := by simp; omega
    go_wp2_with fail
    refine (name_calls g (B + 1) w1 hr1 (by omega)).mono ?_
    rintro e w2 ⟨s, hs, rfl, hr2, T2⟩
    replace T := T.trans T2
    go_wp2_with fail
    go_ret
    exact ⟨s, hs, rfl, hr2, T⟩
set_option maxRecDepth 100000 in
theorem drawname_calls (a0 : Option Addr) (len0 cap0 : Nat) (z0 : List Int) (w : World) (w0 : (a0 = none ∧ len0 = 0 ∧ cap0 = 0 ∧ z0 = []) ∨ ∃ x, a0 = some x ∧ len0 ≤ cap0 ∧ cap0 ≤ maxLen ∧ z0.length = cap0 ∧ (∀ i, i < z0.length → w.cell? (x.add i) = some (.int .u8 (z0.getD i 0))) ∧ ∀ n ∈ z0, (Lit.int .u8 n).wf = true) :
    Calls Tryd.prog 11 #[.slice a0 len0 cap0] w fun e w' => ∃ s : ByteArray, s.size ≤ 20 ∧ e = .returned (.string s) ∧ On w w' := by
  go_enter Tryd.func11, Tryd.ntmps11
  go_wp2_with fail
  refine (open_calls a0 len0 cap0 z0 w w0).mono ?_
  rintro e w1 ⟨g, rfl, hr, hg, O⟩
  go_wp2_with fail
  refine (anyname_calls g 0 w1 hr (by omega)).mono ?_
  rintro e w2 ⟨s, hs, rfl, hr2, T⟩
  go_wp2_with fail
  go_ret
  exact ⟨s, hs, rfl, T.on O hg⟩
end Go.Proofs.YtpbfhflggicpiaaDoor.Draw
