/- The walk of FnExactFixedPut: at every text it returns true and keeps what was. No condition beyond the size that every row has. -/
import Derived.Test.YtncidljdfipigaaWFixed
namespace Go.Proofs.Ytncidljdfipigaa.Wi
open Go.RowKit Go.Proofs.Ytncidljdfipigaa.Mem
set_option linter.unusedVariables false
set_option maxRecDepth 100000 in
theorem law_fixed (s : ByteArray) (w : World) (hs : s.size ≤ 140737488351232) : Calls Try.prog 4 #[.string s] w (Tells w (.bool true)) := by
  by_cases hb : s.size ≤ 1048576
  · clear hs
    go_enter Try.func4, Try.ntmps4
    go_wp2_with fail
    refine (sfixedput_calls s w).mono ?_
    rintro e w1 ⟨rfl, O1⟩
    go_wp2_with fail
    refine (ifixedput_calls s w1).mono ?_
    rintro e w2 ⟨rfl, O2⟩
    go_wp2_with fail
    all_goals go_ret
    all_goals exact ⟨by simp, O1.call O2⟩
  · go_enter Try.func4, Try.ntmps4
    go_wp2_with fail
    go_ret
    exact ⟨rfl, On.refl _⟩
end Go.Proofs.Ytncidljdfipigaa.Wi
