/- The walk of FnExactNameOk: at every text it returns true and keeps what was. The one fact that it takes: the library's cell of a length holds some number. -/
import Derived.Test.YtpbfhflggicpiaaDoorNm2
namespace Go.Proofs.YtpbfhflggicpiaaDoor.Nm
open Go.RowKit Go.Proofs.YtpbfhflggicpiaaDoor.Mem
set_option linter.unusedVariables false
set_option linter.unusedSimpArgs false
/-- The library's cell of a length holds some number. -/
def Fact (W : World) : Prop := ∃ m, W.cell? ⟨0, 0, none⟩ = some (.int .i64 m)
theorem facts {W : World} {l : List (String × DataW Unit)} (hl : laidMetH Tryd.prog l W) (h : W.ShapedOpen Tryd.prog) : Fact W := Tryd.laysM146.s1_3 W h
theorem Fact.on {w w' : World} (h : Fact w) (hz : 0 < w.heap.size) (O : On w w') : Fact w' := by
  obtain ⟨m, hm⟩ := h
  exact ⟨m, (O.cell hz).trans hm⟩
theorem Fact.lt {w : World} (h : Fact w) : 0 < w.heap.size := by
  obtain ⟨m, hm⟩ := h
  rcases Nat.lt_or_ge 0 w.heap.size with hl | hl
  · exact hl
  · have h2 : w.heap[0]? = none := Array.getElem?_eq_none hl
    simp [World.cell?, h2] at hm
theorem iname_f (s : ByteArray) (hs : s.size < 4294967281) (w : World) (hf : Fact w) : Calls Tryd.prog 10 #[.string s] w (Tells w (.bool (nameOk s.data.toList))) := by
  obtain ⟨m, hm⟩ := hf
  exact iname_calls s hs m w hm
set_option maxRecDepth 100000 in
theorem law (s : ByteArray) (w : World) (hf : Fact w) (hs : s.size ≤ 140737488351232) : Calls Tryd.prog 3 #[.string s] w (Tells w (.bool true)) := by
  by_cases hb : s.size ≤ 1048576
  · have hs' : s.size < 4294967281 := by omega
    clear hs
    go_enter Tryd.func3, Tryd.ntmps3
    go_wp2_with fail
    refine (sname_calls s hs' w).mono ?_
    rintro e w1 ⟨rfl, O1⟩
    go_wp2_with fail
    refine (iname_f s hs' w1 (hf.on hf.lt O1)).mono ?_
    rintro e w2 ⟨rfl, O2⟩
    go_wp2_with fail
    all_goals go_ret
    all_goals exact ⟨by simp, O1.call O2⟩
  · go_enter Tryd.func3, Tryd.ntmps3
    go_wp2_with fail
    go_ret
    exact ⟨rfl, On.refl _⟩
end Go.Proofs.YtpbfhflggicpiaaDoor.Nm
