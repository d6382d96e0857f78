/- A file that reads as data: its name, its six numbers, its text. -/
import Derived.Test.YtpbfhflggicpiaaDoorChecked
import Derived.WalkKit
import Derived.ProofKit
import Derived.OpenShut
import Derived.ShutString
import Derived.ChangeOld
import Derived.Lib.SmallJoins
import Derived.Deep.Slices
import Derived.Deep.Fields
import Derived.ChangeSame
namespace Go.Proofs.YtpbfhflggicpiaaDoor.Nm
open Go.Joins Go.ChangeShapes Go.WideShapes Go.RowKit Go.Deep
set_option linter.unusedVariables false
section
variable {H : Type} {enc : TypeId × Value → H} {w : World} {base : Nat} {spare : Nat → Bool} {held : Bool}
theorem cells_entry : Tryd.prog.cellsOf 29 = 8 := by kernel_rfl
theorem cells_stamp : Tryd.prog.cellsOf 27 = 6 := by kernel_rfl
theorem cells_int : Tryd.prog.cellsOf 3 = 1 := by kernel_rfl
theorem cells_str : Tryd.prog.cellsOf 9 = 1 := by kernel_rfl
theorem fields_entry : ∃ f0 f1 f2 : Field, Tryd.prog.underlying 29 = some (.struct #[f0, f1, f2]) ∧ f0.type = 9 ∧ f0.offset = 0 ∧ f1.type = 27 ∧ f1.offset = 1 ∧ f2.type = 9 ∧ f2.offset = 7 := ⟨_, _, _, Tryd.underlying29, rfl, rfl, rfl, rfl, rfl, rfl⟩
theorem fields_stamp : ∃ f0 f1 f2 f3 f4 f5 : Field, Tryd.prog.underlying 27 = some (.struct #[f0, f1, f2, f3, f4, f5]) ∧ (f0.type = 3 ∧ f0.offset = 0) ∧ (f1.type = 3 ∧ f1.offset = 1) ∧ (f2.type = 3 ∧ f2.offset = 2) ∧ (f3.type = 3 ∧ f3.offset = 3) ∧ (f4.type = 3 ∧ f4.offset = 4) ∧ (f5.type = 3 ∧ f5.offset = 5) :=
  ⟨_, _, _, _, _, _, Tryd.underlying27, ⟨rfl, rfl⟩, ⟨rfl, rfl⟩, ⟨rfl, rfl⟩, ⟨rfl, rfl⟩, ⟨rfl, rfl⟩, ⟨rfl, rfl⟩⟩
/-- Eight cells that read as a file. -/
theorem cells_are {fuel : Nat} {cs : List Value} {x : DataW H × List MemPlace} (h : DataW.trod enc Tryd.prog w base spare held fuel 29 cs = some x) :
    ∃ (nm : ByteArray) (y m d h' mi s : Int) (tx : ByteArray), cs = [.string nm, .int .i64 y, .int .i64 m, .int .i64 d, .int .i64 h', .int .i64 mi, .int .i64 s, .string tx] ∧ nm.size ≤ maxLen ∧ tx.size ≤ maxLen := by
  obtain ⟨f0, f1, f2, hu, t0, o0, t1, o1, t2, o2⟩ := fields_entry
  obtain ⟨xs, n, _, _, hl, hx, hg⟩ := DataW.trod_struct hu h
  rw [cells_entry] at hl
  have hxl : xs.length = 3 := hx
  have e0 := hg 0 f0 rfl
  have e1 := hg 1 f1 rfl
  have e2 := hg 2 f2 rfl
  rw [t0, o0, cells_str, List.getElem?_eq_getElem (by omega)] at e0
  rw [t1, o1, cells_stamp, List.getElem?_eq_getElem (by omega)] at e1
  rw [t2, o2, cells_str, List.getElem?_eq_getElem (by omega)] at e2
  obtain ⟨nm, hnm, _, hn⟩ := DataW.trod_string Tryd.underlying9 e0
  obtain ⟨tx, htx, _, ht⟩ := DataW.trod_string Tryd.underlying9 e2
  obtain ⟨g0, g1, g2, g3, g4, g5, hu2, ⟨a0, b0⟩, ⟨a1, b1⟩, ⟨a2, b2⟩, ⟨a3, b3⟩, ⟨a4, b4⟩, ⟨a5, b5⟩⟩ := fields_stamp
  obtain ⟨ys, k, _, _, _, hy, hk⟩ := DataW.trod_struct hu2 e1
  have hyl : ys.length = 6 := hy
  have one : ∀ (i : Nat) (f : Field), i < 6 → f.type = 3 → f.offset = i → DataW.trod enc Tryd.prog w base spare held k f.type ((((cs.drop 1).take 6).drop f.offset).take (Tryd.prog.cellsOf f.type)) = ys[i]? → ∃ a : Int, (((cs.drop 1).take 6).drop i).take 1 = [.int .i64 a] := by
    intro i f hi ht ho he
    rw [ht, ho, cells_int, List.getElem?_eq_getElem (by omega)] at he
    obtain ⟨a, ha, _, _⟩ := DataW.trod_int Tryd.underlying3 he
    exact ⟨a, ha⟩
  obtain ⟨v0, q0⟩ := one 0 g0 (by omega) a0 b0 (hk 0 g0 rfl)
  obtain ⟨v1, q1⟩ := one 1 g1 (by omega) a1 b1 (hk 1 g1 rfl)
  obtain ⟨v2, q2⟩ := one 2 g2 (by omega) a2 b2 (hk 2 g2 rfl)
  obtain ⟨v3, q3⟩ := one 3 g3 (by omega) a3 b3 (hk 3 g3 rfl)
  obtain ⟨v4, q4⟩ := one 4 g4 (by omega) a4 b4 (hk 4 g4 rfl)
  obtain ⟨v5, q5⟩ := one 5 g5 (by omega) a5 b5 (hk 5 g5 rfl)
  match cs, hl with
  | [c0, c1, c2, c3, c4, c5, c6, c7], _ =>
    simp at hnm htx q0 q1 q2 q3 q4 q5
    subst hnm htx q0 q1 q2 q3 q4 q5
    exact ⟨nm, v0, v1, v2, v3, v4, v5, tx, rfl, hn, ht⟩
theorem open_entry {r : Reach} {b0 : Nat} {v : Value} {d : DataW H} {p : List MemPlace} (hv : Value.okWide Tryd.prog w r b0 29 v) (h : DataW.Trod enc Tryd.prog w base spare held 29 v d p) :
    ∃ (nm : ByteArray) (y m d h' mi s : Int) (tx : ByteArray), v = .agg #[.string nm, .int .i64 y, .int .i64 m, .int .i64 d, .int .i64 h', .int .i64 mi, .int .i64 s, .string tx] ∧ nm.size ≤ maxLen ∧ tx.size ≤ maxLen := by
  obtain ⟨f0, f1, f2, hu, _⟩ := fields_entry
  obtain ⟨cs, rfl, hsz⟩ := okWide_struct hu hv
  obtain ⟨fuel, hf⟩ := h
  obtain ⟨nm, y, m, d', h', mi, s, tx, hc, hn, ht⟩ := cells_are hf
  refine ⟨nm, y, m, d', h', mi, s, tx, ?_, hn, ht⟩
  have hc2 : cs.toList = _ := (show (Value.agg cs).cells.toList = cs.toList by simp [Value.cells]).symm.trans hc
  congr 1
  exact Array.toList_inj.1 hc2
end
end Go.Proofs.YtpbfhflggicpiaaDoor.Nm
