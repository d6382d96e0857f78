/- The walks of FnExactFlateGet, FnExactFlateKind: at every text they return true and keep what was. The one fact that they take: order as it is laid. -/
import Derived.Test.YtncidljdfipigaaDoorSp
namespace Go.Proofs.YtncidljdfipigaaDoor.Wi
open Go.RowKit Go.Proofs.YtncidljdfipigaaDoor.Mem Go.Proofs.YtncidljdfipigaaDoor.Bt Go.Proofs.YtncidljdfipigaaDoor.Cd Go.Proofs.YtncidljdfipigaaDoor.De
set_option linter.unusedVariables false
set_option linter.unusedSimpArgs false
theorem got_cases (s : ByteArray) : ∃ (t : ByteArray) (n : Nat) (b : Bool), gotOf s = .tuple #[.string t, .int .i64 (n : Int), .bool b] := by
  unfold gotOf
  cases flate (chars s) with
  | none => exact ⟨⟨#[]⟩, 0, false, rfl⟩
  | some p => exact ⟨_, _, true, rfl⟩
set_option maxRecDepth 100000 in
theorem law_exget (s : ByteArray) (w : World) (hx : ∃ x, Ord w x) (hs : s.size ≤ 140737488351232) : Calls Tryd.prog 7 #[.string s] w (Tells w (.bool true)) := by
  obtain ⟨x, hO⟩ := hx
  by_cases hb : (1048576 : Int) < s.size
  · go_enter Tryd.func7, Tryd.ntmps7
    go_wp2_with fail
    go_ret
    exact ⟨rfl, On.refl _⟩
  have hb' : ¬ (1048576 : Int) < s.size := hb
  obtain ⟨t, n, b, hg⟩ := got_cases s
  have HG := Lib.hid hg
  clear hg
  have HS := Lib.hid (sflateget_calls s w)
  go_enter Tryd.func7, Tryd.ntmps7
  go_wp2_with fail
  refine HS.out.mono ?_
  rintro e w1 ⟨rfl, O1⟩
  rw [HG.out]
  have HI := Lib.hid (flateget_calls x s w1 (hO.kp (Kp.of [] O1) (by simp) (by simp)))
  go_wp2_with fail
  refine HI.out.mono ?_
  rintro e w2 ⟨rfl, O2⟩
  rw [HG.out]
  go_wp2_with fail
  go_ret
  exact ⟨rfl, O1.call O2⟩
set_option maxRecDepth 100000 in
theorem law_exkind (s : ByteArray) (w : World) (hx : ∃ x, Ord w x) (hs : s.size ≤ 140737488351232) : Calls Tryd.prog 8 #[.string s] w (Tells w (.bool true)) := by
  obtain ⟨x, hO⟩ := hx
  by_cases hb : (1048576 : Int) < s.size
  · go_enter Tryd.func8, Tryd.ntmps8
    go_wp2_with fail
    go_ret
    exact ⟨rfl, On.refl _⟩
  have hb' : ¬ (1048576 : Int) < s.size := hb
  have HS := Lib.hid (sflatekind_calls s w)
  go_enter Tryd.func8, Tryd.ntmps8
  go_wp2_with fail
  refine HS.out.mono ?_
  rintro e w1 ⟨rfl, O1⟩
  have HI := Lib.hid (flatekind_calls x s w1 (hO.kp (Kp.of [] O1) (by simp) (by simp)))
  generalize kindOf (chars s) = k at *
  go_wp2_with fail
  refine HI.out.mono ?_
  rintro e w2 ⟨rfl, O2⟩
  go_wp2_with fail
  go_ret
  exact ⟨rfl, O1.call O2⟩
end Go.Proofs.YtncidljdfipigaaDoor.Wi
