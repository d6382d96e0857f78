/- Own texts joined: LaidQ. -/
import Derived.Test.YtncidljdfipigaaDoorZ2
/- What is laid where names are read, too: the variable order, Go's two tables for UTF-8; and the library's cell of a length. -/
namespace Go.Proofs.YtncidljdfipigaaDoor.Laid
open Go.RowKit Go.Proofs.YtncidljdfipigaaDoor.Mem
def listed3 : List (String × DataW Unit) := [("unicode/utf8.acceptRanges", Rows.laid_unicode_utf8_acceptRanges), ("loop.example/corbel/impl.order", Rows.laid_loop_example_corbel_impl_order), ("unicode/utf8.first", Rows.laid_unicode_utf8_first)]
noncomputable def laidWorld3 (os : Os) : World := World.laidAll Tryd.prog os listed3
set_option maxRecDepth 1000000 in
theorem laid_met3 (os : Os) (args : Array Value) : laidMet Tryd.prog [("unicode/utf8.acceptRanges", Rows.laid_unicode_utf8_acceptRanges), ("loop.example/corbel/impl.order", Rows.laid_loop_example_corbel_impl_order), ("unicode/utf8.first", Rows.laid_unicode_utf8_first)] ((laidWorld3 os).forCall (fun _ _ => 0) ⟨#[], args, []⟩).memory :=
  laidMet_laidAll (laid := listed3) args (by kernel_rfl) (by kernel_rfl)
theorem order3 {W : World} (hl : laidMetH Tryd.prog [("unicode/utf8.acceptRanges", Rows.laid_unicode_utf8_acceptRanges), ("loop.example/corbel/impl.order", Rows.laid_loop_example_corbel_impl_order), ("unicode/utf8.first", Rows.laid_unicode_utf8_first)] W) : ∃ x, Wi.Ord W x := by
  have h : laidMet Tryd.prog [("unicode/utf8.acceptRanges", Rows.laid_unicode_utf8_acceptRanges), ("loop.example/corbel/impl.order", Rows.laid_loop_example_corbel_impl_order), ("unicode/utf8.first", Rows.laid_unicode_utf8_first)] W := hl
  obtain ⟨ps, ⟨_, _, _, _, _, _, _, _, _, _, ⟨g, t, cs, fuel, p, q, hg, ht, hv, hd, _, _⟩, _⟩, _⟩ := h
  obtain rfl : 0 = g := Option.some.inj ((show Tryd.prog.globalNamed "loop.example/corbel/impl.order" = some 0 by kernel_rfl).symm.trans hg)
  obtain rfl : 58 = t := Option.some.inj ((show (Tryd.prog.globals[0]?).map (·.type) = some 58 by kernel_rfl).symm.trans ht)
  rcases ChangeShapes.open_ints Tryd.underlying58 Tryd.underlying3 (by kernel_rfl) hd with ⟨_, h0⟩ | ⟨x, l, c, zs, hcs, _, hlc, _, hz, hx, hcell, _⟩
  · cases h0
  · simp only [if_true] at hz
    have e := congrArg Prod.fst hx
    simp only [Rows.laid_loop_example_corbel_impl_order] at e
    injection e with e1 e2
    have d0 := congrArg List.length e2
    have d1 := congrArg List.length e1
    simp [ChangeShapes.lits] at d0 d1
    have hl19 : l = 19 := by omega
    have hc19 : c = 19 := by omega
    subst hl19; subst hc19
    have hcs' : cs = #[.slice (some x) 19 19] := by rw [← Array.toList_inj, hcs]
    have hzs : ∀ i, i < 19 → zs.getD i 0 = (De.order.getD i 0 : Nat) := by
      intro i hi
      have e3 : (ChangeShapes.lits (H := Unit) .i64 (zs.take 19)).map (fun d => ChangeShapes.numOf (d, [])) = zs.take 19 := by
        simp [ChangeShapes.lits, Function.comp_def, ChangeShapes.numOf]
      rw [← e1] at e3
      have e4 : zs = De.order.map (fun n : Nat => (n : Int)) := by
        rw [← List.take_of_length_le (show zs.length ≤ 19 by omega), ← e3]; rfl
      rw [e4, List.getD_eq_getElem?_getD, List.getD_eq_getElem?_getD, List.getElem?_map]
      rw [List.getElem?_eq_getElem (show i < De.order.length from hi)]; rfl
    refine ⟨x, ?_, fun i hi => ?_⟩
    · simpa [hcs'] using World.var?_cell hg hv 0
    · rw [hcell i (by omega), hzs i hi]
theorem facts3 {W : World} (hl : laidMetH Tryd.prog [("unicode/utf8.acceptRanges", Rows.laid_unicode_utf8_acceptRanges), ("loop.example/corbel/impl.order", Rows.laid_loop_example_corbel_impl_order), ("unicode/utf8.first", Rows.laid_unicode_utf8_first)] W) (h : W.ShapedOpen Tryd.prog) : (∃ x, Wi.Ord W x) ∧ Nm.Fact W := ⟨order3 hl, Nm.facts hl h⟩
end Go.Proofs.YtncidljdfipigaaDoor.Laid

