/- The walks of FnExactOwnPut, FnExactFlatePut: at every text they return true and keep what was. The one fact that they take: order as it is laid. -/
import Derived.Test.YtncidljdfipigaaDoorHz
import Derived.Test.YtncidljdfipigaaDoorHt
namespace Go.Proofs.YtncidljdfipigaaDoor.Wi
open Go.RowKit Go.Proofs.YtncidljdfipigaaDoor.Mem Go.Proofs.YtncidljdfipigaaDoor.Bt Go.Proofs.YtncidljdfipigaaDoor.Cd Go.Proofs.YtncidljdfipigaaDoor.De
set_option linter.unusedVariables false
set_option linter.unusedSimpArgs false
set_option maxRecDepth 100000 in
theorem law_exown (s : ByteArray) (w : World) (hx : ∃ x, Ord w x) (hs : s.size ≤ 140737488351232) : Calls Tryd.prog 6 #[.string s] w (Tells w (.bool true)) := by
  obtain ⟨x, hO⟩ := hx
  by_cases hb : (1048576 : Int) < s.size
  · go_enter Tryd.func6, Tryd.ntmps6
    go_wp2_with fail
    go_ret
    exact ⟨rfl, On.refl _⟩
  have hb' : ¬ (1048576 : Int) < s.size := hb
  have HS := Lib.hid (sownput_calls s w)
  have HI := Lib.hid (fun w1 O1 => iownput_calls s x w1 (hO.on O1))
  generalize ownB s = y at *
  go_enter Tryd.func6, Tryd.ntmps6
  go_wp2_with fail
  refine HS.out.mono ?_
  rintro e w1 ⟨rfl, O1⟩
  go_wp2_with fail
  refine (HI.out w1 O1).mono ?_
  rintro e w2 ⟨rfl, O2⟩
  go_wp2_with fail
  go_ret
  exact ⟨rfl, O1.call O2⟩
set_option maxRecDepth 100000 in
theorem law_exfput (s : ByteArray) (w : World) (hx : ∃ x, Ord w x) (hs : s.size ≤ 140737488351232) : Calls Tryd.prog 10 #[.string s] w (Tells w (.bool true)) := by
  obtain ⟨x, hO⟩ := hx
  by_cases hb : (1048576 : Int) < s.size
  · go_enter Tryd.func10, Tryd.ntmps10
    go_wp2_with fail
    go_ret
    exact ⟨rfl, On.refl _⟩
  have hb' : ¬ (1048576 : Int) < s.size := hb
  have HS := Lib.hid (sflateput_calls s w)
  have HI := Lib.hid (fun w1 O1 => iflateput_calls s x w1 (hO.on O1))
  generalize flateB s = y at *
  go_enter Tryd.func10, Tryd.ntmps10
  go_wp2_with fail
  refine HS.out.mono ?_
  rintro e w1 ⟨rfl, O1⟩
  go_wp2_with fail
  refine (HI.out w1 O1).mono ?_
  rintro e w2 ⟨rfl, O2⟩
  go_wp2_with fail
  go_ret
  exact ⟨rfl, O1.call O2⟩
end Go.Proofs.YtncidljdfipigaaDoor.Wi
