/- Own texts joined: Eu, StS, Et, Ez, Zl, Hj. -/
import Derived.Lib.Hide
import Derived.Deep.DeepCutAuto
import Derived.Lib.Strings
import Derived.Test.YtncidljdfipigaaDoorZ1
import Derived.Test.YtncidljdfipigaaDoorZ2
import Derived.Test.YtncidljdfipigaaDoorZ3
import Derived.Test.YtncidljdfipigaaDoorZ9
import Derived.Test.YtncidljdfipigaaDoorZ10
/- A law's file: how many bytes are left, and as the program's own. Conditions: texts that a machine can hold. -/
namespace Go.Proofs.YtncidljdfipigaaDoor.Nm
open Go.RowKit Go.Proofs.YtncidljdfipigaaDoor.Mem
set_option linter.unusedVariables false
set_option linter.unusedSimpArgs false
/-- A file as one value: its name, its stamp's six numbers, its text. -/
def ent (nm : ByteArray) (y m d h mi s : Int) (tx : ByteArray) : Value := .agg #[.string nm, .int .i64 y, .int .i64 m, .int .i64 d, .int .i64 h, .int .i64 mi, .int .i64 s, .string tx]
/-- How many bytes are left behind a file. -/
def leftOf (nm tx : ByteArray) (left : Int) : Int := if left < nm.size then -1 else if left - nm.size < tx.size then -1 else left - nm.size - tx.size
set_option maxRecDepth 100000 in
theorem szentry_calls (nm : ByteArray) (y m d h mi s : Int) (tx : ByteArray) (left : Int) (w : World) (hn : nm.size ≤ maxLen) (ht : tx.size ≤ maxLen) (hl0 : 0 ≤ left) (hl1 : left ≤ 1048576) :
    Calls Tryd.prog 42 #[.agg #[.string nm, .int .i64 y, .int .i64 m, .int .i64 d, .int .i64 h, .int .i64 mi, .int .i64 s, .string tx], .int .i64 left] w (Tells w (.int .i64 (leftOf nm tx left))) := by
  unfold maxLen at hn ht
  have OA := (On.refl w).alloc (.cells #[.string nm, .int .i64 y, .int .i64 m, .int .i64 d, .int .i64 h, .int .i64 mi, .int .i64 s, .string tx] 40)
  by_cases h1 : left < nm.size
  · have HR : RowKit.Hid (leftOf nm tx left = -1) := Lib.hid (by unfold leftOf; rw [if_pos h1])
    have e1 : IntKind.i64.wrap (left - (nm.size : Int)) = left - nm.size := by rw [IntKind.wrap_i64]; omega
    have h1' : left - (nm.size : Int) < 0 := by omega
    go_enter Tryd.func42, Tryd.ntmps42
    go_wp2_with fail
    go_ret
    exact ⟨by rw [HR.out]; rfl, OA⟩
  · have e1 : IntKind.i64.wrap (left - (nm.size : Int)) = left - nm.size := by rw [IntKind.wrap_i64]; omega
    have h1' : ¬ left - (nm.size : Int) < 0 := by omega
    have e2 : IntKind.i64.wrap (left - (nm.size : Int) - (tx.size : Int)) = left - nm.size - tx.size := by rw [IntKind.wrap_i64]; omega
    by_cases h2 : left - nm.size < tx.size
    · have HR : RowKit.Hid (leftOf nm tx left = -1) := Lib.hid (by unfold leftOf; rw [if_neg h1, if_pos h2])
      have h2' : left - (nm.size : Int) - tx.size < 0 := by omega
      go_enter Tryd.func42, Tryd.ntmps42
      go_wp2_with fail
      go_ret
      exact ⟨by rw [HR.out]; rfl, OA⟩
    · have HR : RowKit.Hid (leftOf nm tx left = left - nm.size - tx.size) := Lib.hid (by unfold leftOf; rw [if_neg h1, if_neg h2])
      have h2' : ¬ left - (nm.size : Int) - tx.size < 0 := by omega
      go_enter Tryd.func42, Tryd.ntmps42
      go_wp2_with fail
      go_ret
      exact ⟨by rw [HR.out]; rfl, OA⟩
set_option maxRecDepth 100000 in
set_option maxHeartbeats 2000000 in
theorem tostamp_calls (y m d h mi s : Int) (w : World) :
    Calls Tryd.prog 80 #[.agg #[.int .i64 y, .int .i64 m, .int .i64 d, .int .i64 h, .int .i64 mi, .int .i64 s]] w (Tells w (.agg #[.int .i64 y, .int .i64 m, .int .i64 d, .int .i64 h, .int .i64 mi, .int .i64 s])) := by
  go_enter Tryd.func80, Tryd.ntmps80
  go_upto_region 2 with fail
  have Z1 : (w.alloc (.cells #[.int .i64 y, .int .i64 m, .int .i64 d, .int .i64 h, .int .i64 mi, .int .i64 s] 38)).heap.size = w.heap.size + 1 := Array.size_push _
  have Z2 : ((w.alloc (.cells #[.int .i64 y, .int .i64 m, .int .i64 d, .int .i64 h, .int .i64 mi, .int .i64 s] 38)).alloc (.cells #[.int .i64 0, .int .i64 0, .int .i64 0, .int .i64 0, .int .i64 0, .int .i64 0] 32)).heap.size = w.heap.size + 1 + 1 := by rw [← Z1]; exact Array.size_push _
  have O3 := (((On.refl w).alloc (.cells #[.int .i64 y, .int .i64 m, .int .i64 d, .int .i64 h, .int .i64 mi, .int .i64 s] 38)).alloc (.cells #[.int .i64 0, .int .i64 0, .int .i64 0, .int .i64 0, .int .i64 0, .int .i64 0] 32)).alloc (.cells #[.int .i64 0, .int .i64 0, .int .i64 0, .int .i64 0, .int .i64 0, .int .i64 0] 32)
  have BA := ((Blk.new w 38 #[.int .i64 y, .int .i64 m, .int .i64 d, .int .i64 h, .int .i64 mi, .int .i64 s]).alloc (.cells #[.int .i64 0, .int .i64 0, .int .i64 0, .int .i64 0, .int .i64 0, .int .i64 0] 32)).alloc (.cells #[.int .i64 0, .int .i64 0, .int .i64 0, .int .i64 0, .int .i64 0, .int .i64 0] 32)
  have BR := (Blk.new (w.alloc (.cells #[.int .i64 y, .int .i64 m, .int .i64 d, .int .i64 h, .int .i64 mi, .int .i64 s] 38)) 32 #[.int .i64 0, .int .i64 0, .int .i64 0, .int .i64 0, .int .i64 0, .int .i64 0]).alloc (.cells #[.int .i64 0, .int .i64 0, .int .i64 0, .int .i64 0, .int .i64 0, .int .i64 0] 32)
  have BL := Blk.new ((w.alloc (.cells #[.int .i64 y, .int .i64 m, .int .i64 d, .int .i64 h, .int .i64 mi, .int .i64 s] 38)).alloc (.cells #[.int .i64 0, .int .i64 0, .int .i64 0, .int .i64 0, .int .i64 0, .int .i64 0] 32)) 32 #[.int .i64 0, .int .i64 0, .int .i64 0, .int .i64 0, .int .i64 0, .int .i64 0]
  rw [Z1] at BR
  rw [Z2] at BL
  generalize hA : w.heap.size = A at *
  generalize (((w.alloc (.cells #[.int .i64 y, .int .i64 m, .int .i64 d, .int .i64 h, .int .i64 mi, .int .i64 s] 38)).alloc (.cells #[.int .i64 0, .int .i64 0, .int .i64 0, .int .i64 0, .int .i64 0, .int .i64 0] 32)).alloc (.cells #[.int .i64 0, .int .i64 0, .int .i64 0, .int .i64 0, .int .i64 0, .int .i64 0] 32)) = w0 at *
  clear Z1 Z2
  have n1 : ¬ A = A + 1 := by omega
  have n2 : ¬ A = A + 1 + 1 := by omega
  have n3 : ¬ A + 1 = A + 1 + 1 := by omega
  have a0 : w0.cell? ⟨A, 0, none⟩ = some (.int .i64 y) := (BA.cell 0).trans rfl
  have l0 : w0.cell? ⟨A + 1 + 1, 0, none⟩ = some (.int .i64 0) := (BL.cell 0).trans rfl
  have f0 : w0.frozen? ⟨A + 1 + 1, 0, none⟩ = false := BL.frozen _
  go_upto_region 3 with fail
  replace BA := BA.far (p := ⟨A + 1 + 1, 0, none⟩) (show A ≠ A + 1 + 1 by omega) (.int .i64 y)
  replace BR := BR.far (p := ⟨A + 1 + 1, 0, none⟩) (show A + 1 ≠ A + 1 + 1 by omega) (.int .i64 y)
  replace BL := BL.set 0 (.int .i64 y)
  simp only [List.setIfInBounds_toArray, List.set_cons_zero, List.set_cons_succ] at BL
  replace O3 := O3.set (p := ⟨A + 1 + 1, 0, none⟩) (show w.heap.size ≤ A + 1 + 1 by omega) (.int .i64 y)
  generalize w0.setCell ⟨A + 1 + 1, 0, none⟩ (.int .i64 y) = w1 at *
  clear a0 l0 f0
  have a1 : w1.cell? ⟨A, 1, none⟩ = some (.int .i64 m) := (BA.cell 1).trans rfl
  have l1 : w1.cell? ⟨A + 1 + 1, 1, none⟩ = some (.int .i64 0) := (BL.cell 1).trans rfl
  have f1 : w1.frozen? ⟨A + 1 + 1, 1, none⟩ = false := BL.frozen _
  go_upto_region 4 with fail
  replace BA := BA.far (p := ⟨A + 1 + 1, 1, none⟩) (show A ≠ A + 1 + 1 by omega) (.int .i64 m)
  replace BR := BR.far (p := ⟨A + 1 + 1, 1, none⟩) (show A + 1 ≠ A + 1 + 1 by omega) (.int .i64 m)
  replace BL := BL.set 1 (.int .i64 m)
  simp only [List.setIfInBounds_toArray, List.set_cons_zero, List.set_cons_succ] at BL
  replace O3 := O3.set (p := ⟨A + 1 + 1, 1, none⟩) (show w.heap.size ≤ A + 1 + 1 by omega) (.int .i64 m)
  generalize w1.setCell ⟨A + 1 + 1, 1, none⟩ (.int .i64 m) = w2 at *
  clear a1 l1 f1
  have a2 : w2.cell? ⟨A, 2, none⟩ = some (.int .i64 d) := (BA.cell 2).trans rfl
  have l2 : w2.cell? ⟨A + 1 + 1, 2, none⟩ = some (.int .i64 0) := (BL.cell 2).trans rfl
  have f2 : w2.frozen? ⟨A + 1 + 1, 2, none⟩ = false := BL.frozen _
  go_upto_region 5 with fail
  replace BA := BA.far (p := ⟨A + 1 + 1, 2, none⟩) (show A ≠ A + 1 + 1 by omega) (.int .i64 d)
  replace BR := BR.far (p := ⟨A + 1 + 1, 2, none⟩) (show A + 1 ≠ A + 1 + 1 by omega) (.int .i64 d)
  replace BL := BL.set 2 (.int .i64 d)
  simp only [List.setIfInBounds_toArray, List.set_cons_zero, List.set_cons_succ] at BL
  replace O3 := O3.set (p := ⟨A + 1 + 1, 2, none⟩) (show w.heap.size ≤ A + 1 + 1 by omega) (.int .i64 d)
  generalize w2.setCell ⟨A + 1 + 1, 2, none⟩ (.int .i64 d) = w3 at *
  clear a2 l2 f2
  have a3 : w3.cell? ⟨A, 3, none⟩ = some (.int .i64 h) := (BA.cell 3).trans rfl
  have l3 : w3.cell? ⟨A + 1 + 1, 3, none⟩ = some (.int .i64 0) := (BL.cell 3).trans rfl
  have f3 : w3.frozen? ⟨A + 1 + 1, 3, none⟩ = false := BL.frozen _
  go_upto_region 6 with fail
  replace BA := BA.far (p := ⟨A + 1 + 1, 3, none⟩) (show A ≠ A + 1 + 1 by omega) (.int .i64 h)
  replace BR := BR.far (p := ⟨A + 1 + 1, 3, none⟩) (show A + 1 ≠ A + 1 + 1 by omega) (.int .i64 h)
  replace BL := BL.set 3 (.int .i64 h)
  simp only [List.setIfInBounds_toArray, List.set_cons_zero, List.set_cons_succ] at BL
  replace O3 := O3.set (p := ⟨A + 1 + 1, 3, none⟩) (show w.heap.size ≤ A + 1 + 1 by omega) (.int .i64 h)
  generalize w3.setCell ⟨A + 1 + 1, 3, none⟩ (.int .i64 h) = w4 at *
  clear a3 l3 f3
  have a4 : w4.cell? ⟨A, 4, none⟩ = some (.int .i64 mi) := (BA.cell 4).trans rfl
  have l4 : w4.cell? ⟨A + 1 + 1, 4, none⟩ = some (.int .i64 0) := (BL.cell 4).trans rfl
  have f4 : w4.frozen? ⟨A + 1 + 1, 4, none⟩ = false := BL.frozen _
  go_upto_region 7 with fail
  replace BA := BA.far (p := ⟨A + 1 + 1, 4, none⟩) (show A ≠ A + 1 + 1 by omega) (.int .i64 mi)
  replace BR := BR.far (p := ⟨A + 1 + 1, 4, none⟩) (show A + 1 ≠ A + 1 + 1 by omega) (.int .i64 mi)
  replace BL := BL.set 4 (.int .i64 mi)
  simp only [List.setIfInBounds_toArray, List.set_cons_zero, List.set_cons_succ] at BL
  replace O3 := O3.set (p := ⟨A + 1 + 1, 4, none⟩) (show w.heap.size ≤ A + 1 + 1 by omega) (.int .i64 mi)
  generalize w4.setCell ⟨A + 1 + 1, 4, none⟩ (.int .i64 mi) = w5 at *
  clear a4 l4 f4
  have a5 : w5.cell? ⟨A, 5, none⟩ = some (.int .i64 s) := (BA.cell 5).trans rfl
  have l5 : w5.cell? ⟨A + 1 + 1, 5, none⟩ = some (.int .i64 0) := (BL.cell 5).trans rfl
  have f5 : w5.frozen? ⟨A + 1 + 1, 5, none⟩ = false := BL.frozen _
  go_upto_region 8 with fail
  replace BA := BA.far (p := ⟨A + 1 + 1, 5, none⟩) (show A ≠ A + 1 + 1 by omega) (.int .i64 s)
  replace BR := BR.far (p := ⟨A + 1 + 1, 5, none⟩) (show A + 1 ≠ A + 1 + 1 by omega) (.int .i64 s)
  replace BL := BL.set 5 (.int .i64 s)
  simp only [List.setIfInBounds_toArray, List.set_cons_zero, List.set_cons_succ] at BL
  replace O3 := O3.set (p := ⟨A + 1 + 1, 5, none⟩) (show w.heap.size ≤ A + 1 + 1 by omega) (.int .i64 s)
  generalize w5.setCell ⟨A + 1 + 1, 5, none⟩ (.int .i64 s) = w6 at *
  clear a5 l5 f5
  have l0 : w6.cell? ⟨A + 1 + 1, 0, none⟩ = some (.int .i64 y) := (BL.cell 0).trans rfl
  have r0 : w6.cell? ⟨A + 1, 0, none⟩ = some (.int .i64 0) := (BR.cell 0).trans rfl
  have l1 : w6.cell? ⟨A + 1 + 1, 1, none⟩ = some (.int .i64 m) := (BL.cell 1).trans rfl
  have r1 : w6.cell? ⟨A + 1, 1, none⟩ = some (.int .i64 0) := (BR.cell 1).trans rfl
  have l2 : w6.cell? ⟨A + 1 + 1, 2, none⟩ = some (.int .i64 d) := (BL.cell 2).trans rfl
  have r2 : w6.cell? ⟨A + 1, 2, none⟩ = some (.int .i64 0) := (BR.cell 2).trans rfl
  have l3 : w6.cell? ⟨A + 1 + 1, 3, none⟩ = some (.int .i64 h) := (BL.cell 3).trans rfl
  have r3 : w6.cell? ⟨A + 1, 3, none⟩ = some (.int .i64 0) := (BR.cell 3).trans rfl
  have l4 : w6.cell? ⟨A + 1 + 1, 4, none⟩ = some (.int .i64 mi) := (BL.cell 4).trans rfl
  have r4 : w6.cell? ⟨A + 1, 4, none⟩ = some (.int .i64 0) := (BR.cell 4).trans rfl
  have l5 : w6.cell? ⟨A + 1 + 1, 5, none⟩ = some (.int .i64 s) := (BL.cell 5).trans rfl
  have r5 : w6.cell? ⟨A + 1, 5, none⟩ = some (.int .i64 0) := (BR.cell 5).trans rfl
  have fr : ∀ i, w6.frozen? ⟨A + 1, i, none⟩ = false := BR.frozen
  go_wp2_with fail
  have BF := ((((((BR.set 0 (.int .i64 y)).set 1 (.int .i64 m)).set 2 (.int .i64 d)).set 3 (.int .i64 h)).set 4 (.int .i64 mi)).set 5 (.int .i64 s))
  simp only [List.setIfInBounds_toArray, List.set_cons_zero, List.set_cons_succ] at BF
  have OF := ((((((O3.set (p := ⟨A + 1, 0, none⟩) (show w.heap.size ≤ A + 1 by omega) (.int .i64 y)).set (p := ⟨A + 1, 1, none⟩) (show w.heap.size ≤ A + 1 by omega) (.int .i64 m)).set (p := ⟨A + 1, 2, none⟩) (show w.heap.size ≤ A + 1 by omega) (.int .i64 d)).set (p := ⟨A + 1, 3, none⟩) (show w.heap.size ≤ A + 1 by omega) (.int .i64 h)).set (p := ⟨A + 1, 4, none⟩) (show w.heap.size ≤ A + 1 by omega) (.int .i64 mi)).set (p := ⟨A + 1, 5, none⟩) (show w.heap.size ≤ A + 1 by omega) (.int .i64 s))
  exact bodyPost_ret (v := .agg #[.int .i64 y, .int .i64 m, .int .i64 d, .int .i64 h, .int .i64 mi, .int .i64 s]) (by exact res_c (fn := Tryd.f80) (p := 2) rfl BF rfl Tryd.underlying32 rfl (by kernel_rfl)) rfl ⟨rfl, OF⟩
set_option maxRecDepth 100000 in
set_option maxHeartbeats 2000000 in
theorem toentry_calls (nm : ByteArray) (y m d h mi s : Int) (tx : ByteArray) (w : World) :
    Calls Tryd.prog 44 #[ent nm y m d h mi s tx] w (Tells w (ent nm y m d h mi s tx)) := by
  unfold ent
  go_enter Tryd.func44, Tryd.ntmps44
  go_upto_region 2 with fail
  have Z1 : (w.alloc (.cells #[.string nm, .int .i64 y, .int .i64 m, .int .i64 d, .int .i64 h, .int .i64 mi, .int .i64 s, .string tx] 40)).heap.size = w.heap.size + 1 := Array.size_push _
  have Z2 : ((w.alloc (.cells #[.string nm, .int .i64 y, .int .i64 m, .int .i64 d, .int .i64 h, .int .i64 mi, .int .i64 s, .string tx] 40)).alloc (.cells #[.string ⟨#[]⟩, .int .i64 0, .int .i64 0, .int .i64 0, .int .i64 0, .int .i64 0, .int .i64 0, .string ⟨#[]⟩] 34)).heap.size = w.heap.size + 1 + 1 := by rw [← Z1]; exact Array.size_push _
  have O3 := (((On.refl w).alloc (.cells #[.string nm, .int .i64 y, .int .i64 m, .int .i64 d, .int .i64 h, .int .i64 mi, .int .i64 s, .string tx] 40)).alloc (.cells #[.string ⟨#[]⟩, .int .i64 0, .int .i64 0, .int .i64 0, .int .i64 0, .int .i64 0, .int .i64 0, .string ⟨#[]⟩] 34)).alloc (.cells #[.string ⟨#[]⟩, .int .i64 0, .int .i64 0, .int .i64 0, .int .i64 0, .int .i64 0, .int .i64 0, .string ⟨#[]⟩] 34)
  have BA := ((Blk.new w 40 #[.string nm, .int .i64 y, .int .i64 m, .int .i64 d, .int .i64 h, .int .i64 mi, .int .i64 s, .string tx]).alloc (.cells #[.string ⟨#[]⟩, .int .i64 0, .int .i64 0, .int .i64 0, .int .i64 0, .int .i64 0, .int .i64 0, .string ⟨#[]⟩] 34)).alloc (.cells #[.string ⟨#[]⟩, .int .i64 0, .int .i64 0, .int .i64 0, .int .i64 0, .int .i64 0, .int .i64 0, .string ⟨#[]⟩] 34)
  have BR := (Blk.new (w.alloc (.cells #[.string nm, .int .i64 y, .int .i64 m, .int .i64 d, .int .i64 h, .int .i64 mi, .int .i64 s, .string tx] 40)) 34 #[.string ⟨#[]⟩, .int .i64 0, .int .i64 0, .int .i64 0, .int .i64 0, .int .i64 0, .int .i64 0, .string ⟨#[]⟩]).alloc (.cells #[.string ⟨#[]⟩, .int .i64 0, .int .i64 0, .int .i64 0, .int .i64 0, .int .i64 0, .int .i64 0, .string ⟨#[]⟩] 34)
  have BL := Blk.new ((w.alloc (.cells #[.string nm, .int .i64 y, .int .i64 m, .int .i64 d, .int .i64 h, .int .i64 mi, .int .i64 s, .string tx] 40)).alloc (.cells #[.string ⟨#[]⟩, .int .i64 0, .int .i64 0, .int .i64 0, .int .i64 0, .int .i64 0, .int .i64 0, .string ⟨#[]⟩] 34)) 34 #[.string ⟨#[]⟩, .int .i64 0, .int .i64 0, .int .i64 0, .int .i64 0, .int .i64 0, .int .i64 0, .string ⟨#[]⟩]
  rw [Z1] at BR
  rw [Z2] at BL
  generalize hA : w.heap.size = A at *
  generalize (((w.alloc (.cells #[.string nm, .int .i64 y, .int .i64 m, .int .i64 d, .int .i64 h, .int .i64 mi, .int .i64 s, .string tx] 40)).alloc (.cells #[.string ⟨#[]⟩, .int .i64 0, .int .i64 0, .int .i64 0, .int .i64 0, .int .i64 0, .int .i64 0, .string ⟨#[]⟩] 34)).alloc (.cells #[.string ⟨#[]⟩, .int .i64 0, .int .i64 0, .int .i64 0, .int .i64 0, .int .i64 0, .int .i64 0, .string ⟨#[]⟩] 34)) = w0 at *
  clear Z1 Z2
  have n1 : ¬ A = A + 1 := by omega
  have n2 : ¬ A = A + 1 + 1 := by omega
  have n3 : ¬ A + 1 = A + 1 + 1 := by omega
  have a0 : w0.cell? ⟨A, 0, none⟩ = some (.string nm) := (BA.cell 0).trans rfl
  have l0 : w0.cell? ⟨A + 1 + 1, 0, none⟩ = some (.string ⟨#[]⟩) := (BL.cell 0).trans rfl
  have f0 : w0.frozen? ⟨A + 1 + 1, 0, none⟩ = false := BL.frozen _
  go_upto_region 3 with fail
  replace BA := BA.far (p := ⟨A + 1 + 1, 0, none⟩) (show A ≠ A + 1 + 1 by omega) (.string nm)
  replace BR := BR.far (p := ⟨A + 1 + 1, 0, none⟩) (show A + 1 ≠ A + 1 + 1 by omega) (.string nm)
  replace BL := BL.set 0 (.string nm)
  simp only [List.setIfInBounds_toArray, List.set_cons_zero, List.set_cons_succ] at BL
  replace O3 := O3.set (p := ⟨A + 1 + 1, 0, none⟩) (show w.heap.size ≤ A + 1 + 1 by omega) (.string nm)
  generalize w0.setCell ⟨A + 1 + 1, 0, none⟩ (.string nm) = w1 at *
  clear a0 l0 f0
  have a1 : w1.cell? ⟨A, 1, none⟩ = some (.int .i64 y) := (BA.cell 1).trans rfl
  have a2 : w1.cell? ⟨A, 2, none⟩ = some (.int .i64 m) := (BA.cell 2).trans rfl
  have a3 : w1.cell? ⟨A, 3, none⟩ = some (.int .i64 d) := (BA.cell 3).trans rfl
  have a4 : w1.cell? ⟨A, 4, none⟩ = some (.int .i64 h) := (BA.cell 4).trans rfl
  have a5 : w1.cell? ⟨A, 5, none⟩ = some (.int .i64 mi) := (BA.cell 5).trans rfl
  have a6 : w1.cell? ⟨A, 6, none⟩ = some (.int .i64 s) := (BA.cell 6).trans rfl
  go_wp2_with fail
  refine (tostamp_calls y m d h mi s w1).mono ?_
  rintro e w2 ⟨rfl, O2⟩
  clear a1 a2 a3 a4 a5 a6
  replace BA := BA.call O2.out
  replace BR := BR.call O2.out
  replace BL := BL.call O2.out
  replace O3 := O3.call O2
  have l1 : w2.cell? ⟨A + 1 + 1, 1, none⟩ = some (.int .i64 0) := (BL.cell 1).trans rfl
  have l2 : w2.cell? ⟨A + 1 + 1, 2, none⟩ = some (.int .i64 0) := (BL.cell 2).trans rfl
  have l3 : w2.cell? ⟨A + 1 + 1, 3, none⟩ = some (.int .i64 0) := (BL.cell 3).trans rfl
  have l4 : w2.cell? ⟨A + 1 + 1, 4, none⟩ = some (.int .i64 0) := (BL.cell 4).trans rfl
  have l5 : w2.cell? ⟨A + 1 + 1, 5, none⟩ = some (.int .i64 0) := (BL.cell 5).trans rfl
  have l6 : w2.cell? ⟨A + 1 + 1, 6, none⟩ = some (.int .i64 0) := (BL.cell 6).trans rfl
  have fl : ∀ i, w2.frozen? ⟨A + 1 + 1, i, none⟩ = false := BL.frozen
  go_upto_region 4 with fail
  replace BA := BA.far (p := ⟨A + 1 + 1, 1, none⟩) (show A ≠ A + 1 + 1 by omega) (.int .i64 y)
  replace BR := BR.far (p := ⟨A + 1 + 1, 1, none⟩) (show A + 1 ≠ A + 1 + 1 by omega) (.int .i64 y)
  replace BL := BL.set 1 (.int .i64 y)
  simp only [List.setIfInBounds_toArray, List.set_cons_zero, List.set_cons_succ] at BL
  replace O3 := O3.set (p := ⟨A + 1 + 1, 1, none⟩) (show w.heap.size ≤ A + 1 + 1 by omega) (.int .i64 y)
  replace BA := BA.far (p := ⟨A + 1 + 1, 2, none⟩) (show A ≠ A + 1 + 1 by omega) (.int .i64 m)
  replace BR := BR.far (p := ⟨A + 1 + 1, 2, none⟩) (show A + 1 ≠ A + 1 + 1 by omega) (.int .i64 m)
  replace BL := BL.set 2 (.int .i64 m)
  simp only [List.setIfInBounds_toArray, List.set_cons_zero, List.set_cons_succ] at BL
  replace O3 := O3.set (p := ⟨A + 1 + 1, 2, none⟩) (show w.heap.size ≤ A + 1 + 1 by omega) (.int .i64 m)
  replace BA := BA.far (p := ⟨A + 1 + 1, 3, none⟩) (show A ≠ A + 1 + 1 by omega) (.int .i64 d)
  replace BR := BR.far (p := ⟨A + 1 + 1, 3, none⟩) (show A + 1 ≠ A + 1 + 1 by omega) (.int .i64 d)
  replace BL := BL.set 3 (.int .i64 d)
  simp only [List.setIfInBounds_toArray, List.set_cons_zero, List.set_cons_succ] at BL
  replace O3 := O3.set (p := ⟨A + 1 + 1, 3, none⟩) (show w.heap.size ≤ A + 1 + 1 by omega) (.int .i64 d)
  replace BA := BA.far (p := ⟨A + 1 + 1, 4, none⟩) (show A ≠ A + 1 + 1 by omega) (.int .i64 h)
  replace BR := BR.far (p := ⟨A + 1 + 1, 4, none⟩) (show A + 1 ≠ A + 1 + 1 by omega) (.int .i64 h)
  replace BL := BL.set 4 (.int .i64 h)
  simp only [List.setIfInBounds_toArray, List.set_cons_zero, List.set_cons_succ] at BL
  replace O3 := O3.set (p := ⟨A + 1 + 1, 4, none⟩) (show w.heap.size ≤ A + 1 + 1 by omega) (.int .i64 h)
  replace BA := BA.far (p := ⟨A + 1 + 1, 5, none⟩) (show A ≠ A + 1 + 1 by omega) (.int .i64 mi)
  replace BR := BR.far (p := ⟨A + 1 + 1, 5, none⟩) (show A + 1 ≠ A + 1 + 1 by omega) (.int .i64 mi)
  replace BL := BL.set 5 (.int .i64 mi)
  simp only [List.setIfInBounds_toArray, List.set_cons_zero, List.set_cons_succ] at BL
  replace O3 := O3.set (p := ⟨A + 1 + 1, 5, none⟩) (show w.heap.size ≤ A + 1 + 1 by omega) (.int .i64 mi)
  replace BA := BA.far (p := ⟨A + 1 + 1, 6, none⟩) (show A ≠ A + 1 + 1 by omega) (.int .i64 s)
  replace BR := BR.far (p := ⟨A + 1 + 1, 6, none⟩) (show A + 1 ≠ A + 1 + 1 by omega) (.int .i64 s)
  replace BL := BL.set 6 (.int .i64 s)
  simp only [List.setIfInBounds_toArray, List.set_cons_zero, List.set_cons_succ] at BL
  replace O3 := O3.set (p := ⟨A + 1 + 1, 6, none⟩) (show w.heap.size ≤ A + 1 + 1 by omega) (.int .i64 s)
  generalize ((((((w2.setCell ⟨A + 1 + 1, 1, none⟩ (.int .i64 y)).setCell ⟨A + 1 + 1, 2, none⟩ (.int .i64 m)).setCell ⟨A + 1 + 1, 3, none⟩ (.int .i64 d)).setCell ⟨A + 1 + 1, 4, none⟩ (.int .i64 h)).setCell ⟨A + 1 + 1, 5, none⟩ (.int .i64 mi)).setCell ⟨A + 1 + 1, 6, none⟩ (.int .i64 s)) = w3 at *
  clear l1 l2 l3 l4 l5 l6 fl
  have a7 : w3.cell? ⟨A, 7, none⟩ = some (.string tx) := (BA.cell 7).trans rfl
  have l7 : w3.cell? ⟨A + 1 + 1, 7, none⟩ = some (.string ⟨#[]⟩) := (BL.cell 7).trans rfl
  have f7 : w3.frozen? ⟨A + 1 + 1, 7, none⟩ = false := BL.frozen _
  go_upto_region 5 with fail
  replace BR := BR.far (p := ⟨A + 1 + 1, 7, none⟩) (show A + 1 ≠ A + 1 + 1 by omega) (.string tx)
  replace BL := BL.set 7 (.string tx)
  simp only [List.setIfInBounds_toArray, List.set_cons_zero, List.set_cons_succ] at BL
  replace O3 := O3.set (p := ⟨A + 1 + 1, 7, none⟩) (show w.heap.size ≤ A + 1 + 1 by omega) (.string tx)
  generalize w3.setCell ⟨A + 1 + 1, 7, none⟩ (.string tx) = w4 at *
  clear a7 l7 f7
  have l0 : w4.cell? ⟨A + 1 + 1, 0, none⟩ = some (.string nm) := (BL.cell 0).trans rfl
  have r0 : w4.cell? ⟨A + 1, 0, none⟩ = some (.string ⟨#[]⟩) := (BR.cell 0).trans rfl
  have l1 : w4.cell? ⟨A + 1 + 1, 1, none⟩ = some (.int .i64 y) := (BL.cell 1).trans rfl
  have r1 : w4.cell? ⟨A + 1, 1, none⟩ = some (.int .i64 0) := (BR.cell 1).trans rfl
  have l2 : w4.cell? ⟨A + 1 + 1, 2, none⟩ = some (.int .i64 m) := (BL.cell 2).trans rfl
  have r2 : w4.cell? ⟨A + 1, 2, none⟩ = some (.int .i64 0) := (BR.cell 2).trans rfl
  have l3 : w4.cell? ⟨A + 1 + 1, 3, none⟩ = some (.int .i64 d) := (BL.cell 3).trans rfl
  have r3 : w4.cell? ⟨A + 1, 3, none⟩ = some (.int .i64 0) := (BR.cell 3).trans rfl
  have l4 : w4.cell? ⟨A + 1 + 1, 4, none⟩ = some (.int .i64 h) := (BL.cell 4).trans rfl
  have r4 : w4.cell? ⟨A + 1, 4, none⟩ = some (.int .i64 0) := (BR.cell 4).trans rfl
  have l5 : w4.cell? ⟨A + 1 + 1, 5, none⟩ = some (.int .i64 mi) := (BL.cell 5).trans rfl
  have r5 : w4.cell? ⟨A + 1, 5, none⟩ = some (.int .i64 0) := (BR.cell 5).trans rfl
  have l6 : w4.cell? ⟨A + 1 + 1, 6, none⟩ = some (.int .i64 s) := (BL.cell 6).trans rfl
  have r6 : w4.cell? ⟨A + 1, 6, none⟩ = some (.int .i64 0) := (BR.cell 6).trans rfl
  have l7 : w4.cell? ⟨A + 1 + 1, 7, none⟩ = some (.string tx) := (BL.cell 7).trans rfl
  have r7 : w4.cell? ⟨A + 1, 7, none⟩ = some (.string ⟨#[]⟩) := (BR.cell 7).trans rfl
  have fr : ∀ i, w4.frozen? ⟨A + 1, i, none⟩ = false := BR.frozen
  go_wp2_with fail
  have BF := ((((((((BR.set 0 (.string nm)).set 1 (.int .i64 y)).set 2 (.int .i64 m)).set 3 (.int .i64 d)).set 4 (.int .i64 h)).set 5 (.int .i64 mi)).set 6 (.int .i64 s)).set 7 (.string tx))
  simp only [List.setIfInBounds_toArray, List.set_cons_zero, List.set_cons_succ] at BF
  have OF := ((((((((O3.set (p := ⟨A + 1, 0, none⟩) (show w.heap.size ≤ A + 1 by omega) (.string nm)).set (p := ⟨A + 1, 1, none⟩) (show w.heap.size ≤ A + 1 by omega) (.int .i64 y)).set (p := ⟨A + 1, 2, none⟩) (show w.heap.size ≤ A + 1 by omega) (.int .i64 m)).set (p := ⟨A + 1, 3, none⟩) (show w.heap.size ≤ A + 1 by omega) (.int .i64 d)).set (p := ⟨A + 1, 4, none⟩) (show w.heap.size ≤ A + 1 by omega) (.int .i64 h)).set (p := ⟨A + 1, 5, none⟩) (show w.heap.size ≤ A + 1 by omega) (.int .i64 mi)).set (p := ⟨A + 1, 6, none⟩) (show w.heap.size ≤ A + 1 by omega) (.int .i64 s)).set (p := ⟨A + 1, 7, none⟩) (show w.heap.size ≤ A + 1 by omega) (.string tx))
  exact bodyPost_ret (v := .agg #[.string nm, .int .i64 y, .int .i64 m, .int .i64 d, .int .i64 h, .int .i64 mi, .int .i64 s, .string tx]) (by exact res_c (fn := Tryd.f44) (p := 2) rfl BF rfl Tryd.underlying34 rfl (by kernel_rfl)) rfl ⟨rfl, OF⟩
end Go.Proofs.YtncidljdfipigaaDoor.Nm

/- Stamps: StampOk of spec answers the plain one, at every six numbers. No condition. -/
namespace Go.Proofs.YtncidljdfipigaaDoor.Nm
open Go.RowKit Go.Proofs.YtncidljdfipigaaDoor.Mem
set_option linter.unusedVariables false
set_option linter.unusedSimpArgs false
set_option maxRecDepth 100000 in
set_option maxHeartbeats 4000000 in
theorem sok_calls_0 (y m d h mi s : Int) (w : World)  (e1 : decide (1980 ≤ y ∧ y ≤ 2107) = false) : Calls Tryd.prog 115 #[.agg #[.int .i64 y, .int .i64 m, .int .i64 d, .int .i64 h, .int .i64 mi, .int .i64 s]] w (Tells w (.bool false)) := by
  go_enter Tryd.func115, Tryd.ntmps115
  go_wp2_with fail
  go_quiet (first
    | (go_at_call 144; exact Calls.quiet_of_same (in_same _ _ _ _))
    | (go_at_call 145; exact Calls.quiet_of_same (sdays_calls _ _ _)))
  go_wp2_with fail
  go_ret
  exact ⟨by simp, ((On.refl w).alloc _).drewN _⟩
set_option maxRecDepth 100000 in
set_option maxHeartbeats 4000000 in
theorem sok_calls_1 (y m d h mi s : Int) (w : World) (e1 : decide (1980 ≤ y ∧ y ≤ 2107) = true) (e2 : decide (1 ≤ m ∧ m ≤ 12) = false) : Calls Tryd.prog 115 #[.agg #[.int .i64 y, .int .i64 m, .int .i64 d, .int .i64 h, .int .i64 mi, .int .i64 s]] w (Tells w (.bool false)) := by
  go_enter Tryd.func115, Tryd.ntmps115
  go_wp2_with fail
  go_quiet (first
    | (go_at_call 144; exact Calls.quiet_of_same (in_same _ _ _ _))
    | (go_at_call 145; exact Calls.quiet_of_same (sdays_calls _ _ _)))
  go_wp2_with fail
  go_ret
  exact ⟨by simp, ((On.refl w).alloc _).drewN _⟩
set_option maxRecDepth 100000 in
set_option maxHeartbeats 4000000 in
theorem sok_calls_2 (y m d h mi s : Int) (w : World) (e1 : decide (1980 ≤ y ∧ y ≤ 2107) = true) (e2 : decide (1 ≤ m ∧ m ≤ 12) = true) (e3 : decide (1 ≤ d ∧ d ≤ dd y m) = false) : Calls Tryd.prog 115 #[.agg #[.int .i64 y, .int .i64 m, .int .i64 d, .int .i64 h, .int .i64 mi, .int .i64 s]] w (Tells w (.bool false)) := by
  go_enter Tryd.func115, Tryd.ntmps115
  go_wp2_with fail
  go_quiet (first
    | (go_at_call 144; exact Calls.quiet_of_same (in_same _ _ _ _))
    | (go_at_call 145; exact Calls.quiet_of_same (sdays_calls _ _ _)))
  go_wp2_with fail
  go_ret
  exact ⟨by simp, ((On.refl w).alloc _).drewN _⟩
set_option maxRecDepth 100000 in
set_option maxHeartbeats 4000000 in
theorem sok_calls_3 (y m d h mi s : Int) (w : World) (e1 : decide (1980 ≤ y ∧ y ≤ 2107) = true) (e2 : decide (1 ≤ m ∧ m ≤ 12) = true) (e3 : decide (1 ≤ d ∧ d ≤ dd y m) = true) (e4 : decide (0 ≤ h ∧ h ≤ 23) = false) : Calls Tryd.prog 115 #[.agg #[.int .i64 y, .int .i64 m, .int .i64 d, .int .i64 h, .int .i64 mi, .int .i64 s]] w (Tells w (.bool false)) := by
  go_enter Tryd.func115, Tryd.ntmps115
  go_wp2_with fail
  go_quiet (first
    | (go_at_call 144; exact Calls.quiet_of_same (in_same _ _ _ _))
    | (go_at_call 145; exact Calls.quiet_of_same (sdays_calls _ _ _)))
  go_wp2_with (go_at_call 144; refine (in_same _ _ _ _).mono ?_; rintro e w1 ⟨rfl, rfl⟩)
  go_ret
  exact ⟨by simp, ((On.refl w).alloc _).drewN _⟩
set_option maxRecDepth 100000 in
set_option maxHeartbeats 4000000 in
theorem sok_calls_4 (y m d h mi s : Int) (w : World) (e1 : decide (1980 ≤ y ∧ y ≤ 2107) = true) (e2 : decide (1 ≤ m ∧ m ≤ 12) = true) (e3 : decide (1 ≤ d ∧ d ≤ dd y m) = true) (e4 : decide (0 ≤ h ∧ h ≤ 23) = true) (e5 : decide (0 ≤ mi ∧ mi ≤ 59) = false) : Calls Tryd.prog 115 #[.agg #[.int .i64 y, .int .i64 m, .int .i64 d, .int .i64 h, .int .i64 mi, .int .i64 s]] w (Tells w (.bool false)) := by
  go_enter Tryd.func115, Tryd.ntmps115
  go_wp2_with fail
  go_quiet (first
    | (go_at_call 144; exact Calls.quiet_of_same (in_same _ _ _ _))
    | (go_at_call 145; exact Calls.quiet_of_same (sdays_calls _ _ _)))
  go_wp2_with (go_at_call 144; refine (in_same _ _ _ _).mono ?_; rintro e w1 ⟨rfl, rfl⟩)
  go_ret
  exact ⟨by simp, ((On.refl w).alloc _).drewN _⟩
set_option maxRecDepth 100000 in
set_option maxHeartbeats 4000000 in
theorem sok_calls_5 (y m d h mi s : Int) (w : World) (e1 : decide (1980 ≤ y ∧ y ≤ 2107) = true) (e2 : decide (1 ≤ m ∧ m ≤ 12) = true) (e3 : decide (1 ≤ d ∧ d ≤ dd y m) = true) (e4 : decide (0 ≤ h ∧ h ≤ 23) = true) (e5 : decide (0 ≤ mi ∧ mi ≤ 59) = true) (e6 : decide (0 ≤ s ∧ s ≤ 58) = false) : Calls Tryd.prog 115 #[.agg #[.int .i64 y, .int .i64 m, .int .i64 d, .int .i64 h, .int .i64 mi, .int .i64 s]] w (Tells w (.bool false)) := by
  go_enter Tryd.func115, Tryd.ntmps115
  go_wp2_with fail
  go_quiet (first
    | (go_at_call 144; exact Calls.quiet_of_same (in_same _ _ _ _))
    | (go_at_call 145; exact Calls.quiet_of_same (sdays_calls _ _ _)))
  go_wp2_with (go_at_call 144; refine (in_same _ _ _ _).mono ?_; rintro e w1 ⟨rfl, rfl⟩)
  go_ret
  exact ⟨by simp, ((On.refl w).alloc _).drewN _⟩
set_option maxRecDepth 100000 in
set_option maxHeartbeats 4000000 in
theorem sok_calls_6 (y m d h mi s : Int) (w : World) (e1 : decide (1980 ≤ y ∧ y ≤ 2107) = true) (e2 : decide (1 ≤ m ∧ m ≤ 12) = true) (e3 : decide (1 ≤ d ∧ d ≤ dd y m) = true) (e4 : decide (0 ≤ h ∧ h ≤ 23) = true) (e5 : decide (0 ≤ mi ∧ mi ≤ 59) = true) (e6 : decide (0 ≤ s ∧ s ≤ 58) = true) : Calls Tryd.prog 115 #[.agg #[.int .i64 y, .int .i64 m, .int .i64 d, .int .i64 h, .int .i64 mi, .int .i64 s]] w (Tells w (.bool (Int.tmod s 2 == 0))) := by
  go_enter Tryd.func115, Tryd.ntmps115
  go_wp2_with fail
  go_quiet (first
    | (go_at_call 144; exact Calls.quiet_of_same (in_same _ _ _ _))
    | (go_at_call 145; exact Calls.quiet_of_same (sdays_calls _ _ _)))
  go_wp2_with (go_at_call 144; refine (in_same _ _ _ _).mono ?_; rintro e w1 ⟨rfl, rfl⟩)
  go_ret
  exact ⟨by simp, ((On.refl w).alloc _).drewN _⟩
theorem sok_calls (y m d h mi s : Int) (w : World) : Calls Tryd.prog 115 #[.agg #[.int .i64 y, .int .i64 m, .int .i64 d, .int .i64 h, .int .i64 mi, .int .i64 s]] w (Tells w (.bool (decide (okp y m d h mi s)))) := by
  by_cases h1 : 1980 ≤ y ∧ y ≤ 2107
  rotate_left
  · have HF : decide (okp y m d h mi s) = false := by rw [decide_eq_false_iff_not]; intro hh; unfold okp at hh; exact h1 hh.1
    rw [HF]
    exact sok_calls_0 y m d h mi s w  (decide_eq_false h1)
  by_cases h2 : 1 ≤ m ∧ m ≤ 12
  rotate_left
  · have HF : decide (okp y m d h mi s) = false := by rw [decide_eq_false_iff_not]; intro hh; unfold okp at hh; exact h2 hh.2.1
    rw [HF]
    exact sok_calls_1 y m d h mi s w (decide_eq_true h1) (decide_eq_false h2)
  by_cases h3 : 1 ≤ d ∧ d ≤ dd y m
  rotate_left
  · have HF : decide (okp y m d h mi s) = false := by rw [decide_eq_false_iff_not]; intro hh; unfold okp at hh; exact h3 hh.2.2.1
    rw [HF]
    exact sok_calls_2 y m d h mi s w (decide_eq_true h1) (decide_eq_true h2) (decide_eq_false h3)
  by_cases h4 : 0 ≤ h ∧ h ≤ 23
  rotate_left
  · have HF : decide (okp y m d h mi s) = false := by rw [decide_eq_false_iff_not]; intro hh; unfold okp at hh; exact h4 hh.2.2.2.1
    rw [HF]
    exact sok_calls_3 y m d h mi s w (decide_eq_true h1) (decide_eq_true h2) (decide_eq_true h3) (decide_eq_false h4)
  by_cases h5 : 0 ≤ mi ∧ mi ≤ 59
  rotate_left
  · have HF : decide (okp y m d h mi s) = false := by rw [decide_eq_false_iff_not]; intro hh; unfold okp at hh; exact h5 hh.2.2.2.2.1
    rw [HF]
    exact sok_calls_4 y m d h mi s w (decide_eq_true h1) (decide_eq_true h2) (decide_eq_true h3) (decide_eq_true h4) (decide_eq_false h5)
  by_cases h6 : 0 ≤ s ∧ s ≤ 58
  rotate_left
  · have HF : decide (okp y m d h mi s) = false := by rw [decide_eq_false_iff_not]; intro hh; unfold okp at hh; exact h6 hh.2.2.2.2.2.1
    rw [HF]
    exact sok_calls_5 y m d h mi s w (decide_eq_true h1) (decide_eq_true h2) (decide_eq_true h3) (decide_eq_true h4) (decide_eq_true h5) (decide_eq_false h6)
  have HT : decide (okp y m d h mi s) = (Int.tmod s 2 == 0) := by
    rw [Bool.eq_iff_iff, decide_eq_true_iff, beq_iff_eq]; exact ⟨fun t => t.2.2.2.2.2.2, fun t => ⟨h1, h2, h3, h4, h5, h6, t⟩⟩
  rw [HT]
  exact sok_calls_6 y m d h mi s w (decide_eq_true h1) (decide_eq_true h2) (decide_eq_true h3) (decide_eq_true h4) (decide_eq_true h5) (decide_eq_true h6)
end Go.Proofs.YtncidljdfipigaaDoor.Nm

/- Files: both programs' EntryOk answer the plain one; a law's file as the program's. Conditions: names that are not too long. -/
namespace Go.Proofs.YtncidljdfipigaaDoor.Nm
open Go.RowKit Go.Proofs.YtncidljdfipigaaDoor.Mem
set_option linter.unusedVariables false
set_option linter.unusedSimpArgs false
def entryOk (nm : ByteArray) (y m d h mi s : Int) (tx : ByteArray) : Bool := nameOk nm.data.toList && (decide (okp y m d h mi s) && decide (tx.size ≤ 300))
set_option maxRecDepth 100000 in
theorem ientry_calls (nm : ByteArray) (y m d h mi s : Int) (tx : ByteArray) (w : World) (hf : Fact w) (hn : nm.size < 4294967281) (ht : tx.size ≤ maxLen) :
    Calls Tryd.prog 75 #[ent nm y m d h mi s tx] w (Tells w (.bool (entryOk nm y m d h mi s tx))) := by
  unfold maxLen at ht
  have OA := (On.refl w).alloc (.cells #[.string nm, .int .i64 y, .int .i64 m, .int .i64 d, .int .i64 h, .int .i64 mi, .int .i64 s, .string tx] 34)
  have BA := Blk.new w 34 #[.string nm, .int .i64 y, .int .i64 m, .int .i64 d, .int .i64 h, .int .i64 mi, .int .i64 s, .string tx]
  have HN := Lib.hid (iname_f nm hn _ (hf.on hf.lt OA))
  have HS := Lib.hid (fun w => iok_calls y m d h mi s w)
  have HE := Lib.hid (show entryOk nm y m d h mi s tx = (nameOk nm.data.toList && (decide (okp y m d h mi s) && decide (tx.size ≤ 300))) from rfl)
  generalize entryOk nm y m d h mi s tx = R at *
  generalize decide (okp y m d h mi s) = B at *
  generalize nameOk nm.data.toList = A at *
  unfold ent
  go_enter Tryd.func75, Tryd.ntmps75
  go_wp2_with fail
  generalize hP : w.heap.size = p at *
  generalize w.alloc (.cells #[.string nm, .int .i64 y, .int .i64 m, .int .i64 d, .int .i64 h, .int .i64 mi, .int .i64 s, .string tx] 34) = wa at *
  refine HN.out.mono ?_
  rintro e w1 ⟨rfl, O1⟩
  have B1 := BA.call O1.out
  have c1 : w1.cell? ⟨p, 1, none⟩ = some (.int .i64 y) := (B1.cell 1).trans rfl
  have c2 : w1.cell? ⟨p, 2, none⟩ = some (.int .i64 m) := (B1.cell 2).trans rfl
  have c3 : w1.cell? ⟨p, 3, none⟩ = some (.int .i64 d) := (B1.cell 3).trans rfl
  have c4 : w1.cell? ⟨p, 4, none⟩ = some (.int .i64 h) := (B1.cell 4).trans rfl
  have c5 : w1.cell? ⟨p, 5, none⟩ = some (.int .i64 mi) := (B1.cell 5).trans rfl
  have c6 : w1.cell? ⟨p, 6, none⟩ = some (.int .i64 s) := (B1.cell 6).trans rfl
  have O1t := OA.call O1
  cases A with
  | false =>
    go_wp2_with fail
    go_ret
    exact ⟨by rw [HE.out]; rfl, O1t⟩
  | true =>
    go_wp2_with fail
    refine (HS.out w1).mono ?_
    rintro e w2 ⟨rfl, O2⟩
    have B2 := B1.call O2.out
    have d7 : w2.cell? ⟨p, 7, none⟩ = some (.string tx) := (B2.cell 7).trans rfl
    have O2t := O1t.call O2
    clear c1 c2 c3 c4 c5 c6
    cases B with
    | false =>
      go_wp2_with fail
      go_ret
      exact ⟨by rw [HE.out]; rfl, O2t⟩
    | true =>
      go_wp2_with fail
      go_ret
      exact ⟨by rw [HE.out]; simp; omega, O2t⟩
set_option maxRecDepth 100000 in
theorem sentry_calls (nm : ByteArray) (y m d h mi s : Int) (tx : ByteArray) (w : World) (hn : nm.size < 4294967281) (ht : tx.size ≤ maxLen) :
    Calls Tryd.prog 78 #[ent nm y m d h mi s tx] w (Tells w (.bool (entryOk nm y m d h mi s tx))) := by
  unfold maxLen at ht
  have OA := (On.refl w).alloc (.cells #[.string nm, .int .i64 y, .int .i64 m, .int .i64 d, .int .i64 h, .int .i64 mi, .int .i64 s, .string tx] 34)
  have BA := Blk.new w 34 #[.string nm, .int .i64 y, .int .i64 m, .int .i64 d, .int .i64 h, .int .i64 mi, .int .i64 s, .string tx]
  have HN := Lib.hid (sname_calls nm hn (w.alloc (.cells #[.string nm, .int .i64 y, .int .i64 m, .int .i64 d, .int .i64 h, .int .i64 mi, .int .i64 s, .string tx] 34)))
  have HS := Lib.hid (fun w => sok_calls y m d h mi s w)
  have HE := Lib.hid (show entryOk nm y m d h mi s tx = (nameOk nm.data.toList && (decide (okp y m d h mi s) && decide (tx.size ≤ 300))) from rfl)
  generalize entryOk nm y m d h mi s tx = R at *
  generalize decide (okp y m d h mi s) = B at *
  generalize nameOk nm.data.toList = A at *
  unfold ent
  go_enter Tryd.func78, Tryd.ntmps78
  go_wp2_with fail
  generalize hP : w.heap.size = p at *
  generalize w.alloc (.cells #[.string nm, .int .i64 y, .int .i64 m, .int .i64 d, .int .i64 h, .int .i64 mi, .int .i64 s, .string tx] 34) = wa at *
  refine HN.out.mono ?_
  rintro e w1 ⟨rfl, O1⟩
  have B1 := BA.call O1.out
  have c1 : w1.cell? ⟨p, 1, none⟩ = some (.int .i64 y) := (B1.cell 1).trans rfl
  have c2 : w1.cell? ⟨p, 2, none⟩ = some (.int .i64 m) := (B1.cell 2).trans rfl
  have c3 : w1.cell? ⟨p, 3, none⟩ = some (.int .i64 d) := (B1.cell 3).trans rfl
  have c4 : w1.cell? ⟨p, 4, none⟩ = some (.int .i64 h) := (B1.cell 4).trans rfl
  have c5 : w1.cell? ⟨p, 5, none⟩ = some (.int .i64 mi) := (B1.cell 5).trans rfl
  have c6 : w1.cell? ⟨p, 6, none⟩ = some (.int .i64 s) := (B1.cell 6).trans rfl
  have O1t := OA.call O1
  cases A with
  | false =>
    go_wp2_with fail
    go_ret
    exact ⟨by rw [HE.out]; rfl, O1t⟩
  | true =>
    go_wp2_with fail
    refine (HS.out w1).mono ?_
    rintro e w2 ⟨rfl, O2⟩
    have B2 := B1.call O2.out
    have d7 : w2.cell? ⟨p, 7, none⟩ = some (.string tx) := (B2.cell 7).trans rfl
    have O2t := O1t.call O2
    clear c1 c2 c3 c4 c5 c6
    cases B with
    | false =>
      go_wp2_with fail
      go_ret
      exact ⟨by rw [HE.out]; rfl, O2t⟩
    | true =>
      go_wp2_with fail
      go_ret
      exact ⟨by rw [HE.out]; simp; omega, O2t⟩
end Go.Proofs.YtncidljdfipigaaDoor.Nm

/- Files of an archive: their cells; names apart from each other, as each program looks for it. Nothing of the program is walked here. -/
namespace Go.Proofs.YtncidljdfipigaaDoor.Nm
open Go.RowKit Go.Proofs.YtncidljdfipigaaDoor.Mem
set_option linter.unusedVariables false
/-- A file: its name, its stamp's six numbers, its text. -/
structure Fi where
  nm : ByteArray
  y : Int
  m : Int
  d : Int
  h : Int
  mi : Int
  s : Int
  tx : ByteArray
def fcell (f : Fi) : List Value := [.string f.nm, .int .i64 f.y, .int .i64 f.m, .int .i64 f.d, .int .i64 f.h, .int .i64 f.mi, .int .i64 f.s, .string f.tx]
def fcells (L : List Fi) : List Value := L.flatMap fcell
theorem fcells_cons (f : Fi) (L : List Fi) : fcells (f :: L) = fcell f ++ fcells L := rfl
theorem fcells_append (L M : List Fi) : fcells (L ++ M) = fcells L ++ fcells M := by unfold fcells; rw [List.flatMap_append]
theorem fcells_length (L : List Fi) : (fcells L).length = L.length * 8 := by
  induction L with
  | nil => rfl
  | cons f L ih => rw [fcells_cons, List.length_append, ih, List.length_cons]; show 8 + _ = _; omega
theorem fcells_get : ∀ (L : List Fi) {i : Nat} (h : i < L.length) {j : Nat} {u : Value}, (fcell L[i])[j]? = some u → (fcells L)[i * 8 + j]? = some u
  | f :: L, 0, _, j, u, hu => by
    rw [fcells_cons, List.getElem?_append_left]
    · simpa using hu
    · have := (List.getElem?_eq_some_iff.1 hu).1
      simpa using this
  | f :: L, i + 1, h, j, u, hu => by
    have h8 : (fcell f).length = 8 := rfl
    rw [fcells_cons, List.getElem?_append_right (by rw [h8]; omega), h8, show (i + 1) * 8 + j - 8 = i * 8 + j from by omega]
    exact fcells_get L (by simpa using h) (by simpa using hu)
/-- The cells of files lie in memory, from a place of a block on. -/
structure FiAt (w : World) (g o : Nat) (L : List Fi) : Prop where mk :: (out : ∀ k u, (fcells L)[k]? = some u → w.cell? ⟨g, o + k, none⟩ = some u)
theorem FiAt.on {w w' : World} {g o : Nat} {L : List Fi} (h : FiAt w g o L) (O : On w w') : FiAt w' g o L :=
  ⟨fun k u hu => (O.cell (World.block_lt_of_cell? w _ (h.out k u hu))).trans (h.out k u hu)⟩
theorem FiAt.cells {w : World} {g o : Nat} {L : List Fi} (H : FiAt w g o L) {i : Nat} (hi : i < L.length) :
    w.cell? ⟨g, o + i * 8, none⟩ = some (.string L[i].nm) ∧ w.cell? ⟨g, o + i * 8 + 1, none⟩ = some (.int .i64 L[i].y) ∧ w.cell? ⟨g, o + i * 8 + 2, none⟩ = some (.int .i64 L[i].m) ∧ w.cell? ⟨g, o + i * 8 + 3, none⟩ = some (.int .i64 L[i].d) ∧
    w.cell? ⟨g, o + i * 8 + 4, none⟩ = some (.int .i64 L[i].h) ∧ w.cell? ⟨g, o + i * 8 + 5, none⟩ = some (.int .i64 L[i].mi) ∧ w.cell? ⟨g, o + i * 8 + 6, none⟩ = some (.int .i64 L[i].s) ∧ w.cell? ⟨g, o + i * 8 + 7, none⟩ = some (.string L[i].tx) := by
  have c := fun j u (hu : (fcell L[i])[j]? = some u) => H.out _ _ (fcells_get L hi hu)
  refine ⟨?_, ?_, ?_, ?_, ?_, ?_, ?_, ?_⟩
  · simpa using c 0 _ rfl
  · simpa [Nat.add_assoc] using c 1 _ rfl
  · simpa [Nat.add_assoc] using c 2 _ rfl
  · simpa [Nat.add_assoc] using c 3 _ rfl
  · simpa [Nat.add_assoc] using c 4 _ rfl
  · simpa [Nat.add_assoc] using c 5 _ rfl
  · simpa [Nat.add_assoc] using c 6 _ rfl
  · simpa [Nat.add_assoc] using c 7 _ rfl
theorem FiAt.row {w : World} {g t : Nat} {L : List Fi} (h : Row w g t (fcells L)) : FiAt w g 0 L := ⟨fun k u hu => by rw [Nat.zero_add]; exact h.cell hu⟩
/-- The name of a place. -/
def nmAt (L : List Fi) (i : Nat) : List UInt8 := match L[i]? with | some f => f.nm.data.toList | none => []
theorem nmAt_lt {L : List Fi} {i : Nat} (h : i < L.length) : nmAt L i = L[i].nm.data.toList := by unfold nmAt; rw [List.getElem?_eq_getElem h]
/-- A name within another one, as in a dir. -/
def under (a b : List UInt8) : Bool := Lib.hasPrefix b (a ++ [47])
theorem under_not_self (a : List UInt8) : under a a = false := by
  unfold under Lib.hasPrefix
  cases h : (a ++ [47]).isPrefixOf a with
  | false => rfl
  | true =>
    have := (List.isPrefixOf_iff_prefix.1 h).length_le
    rw [List.length_append, List.length_singleton] at this; omega
/-- All names are apart. -/
def Apart (L : List Fi) : Prop := ∀ i j, i < L.length → j < L.length → i ≠ j → nmAt L i ≠ nmAt L j ∧ under (nmAt L i) (nmAt L j) = false
/-- As the program looks for it: up to k. -/
def ApartTo (L : List Fi) (k : Nat) : Prop := ∀ i j, i < k → j < i → nmAt L i ≠ nmAt L j ∧ under (nmAt L j) (nmAt L i) = false ∧ under (nmAt L i) (nmAt L j) = false
theorem apart_to {L : List Fi} : ApartTo L L.length ↔ Apart L := by
  constructor
  · intro h i j hi hj hne
    rcases Nat.lt_or_gt_of_ne hne with hlt | hgt
    · obtain ⟨a, b, c⟩ := h j i hj hlt
      exact ⟨fun e => a e.symm, b⟩
    · obtain ⟨a, b, c⟩ := h i j hi hgt
      exact ⟨a, c⟩
  · intro h i j hi hj
    have h1 := h i j hi (by omega) (by omega)
    have h2 := h j i (by omega) hi (by omega)
    exact ⟨h1.1, h2.2, h1.2⟩
/-- As the specification looks for it: at place i. -/
def ApartAt (L : List Fi) (i : Nat) : Prop := (∀ j, j < i → nmAt L j ≠ nmAt L i) ∧ ∀ k, k < L.length → under (nmAt L i) (nmAt L k) = false
theorem apart_at {L : List Fi} : (∀ i, i < L.length → ApartAt L i) ↔ Apart L := by
  constructor
  · intro h i j hi hj hne
    refine ⟨?_, (h i hi).2 j hj⟩
    rcases Nat.lt_or_gt_of_ne hne with hlt | hgt
    · exact (h j hj).1 i hlt
    · exact fun e => (h i hi).1 j hgt e.symm
  · intro h i hi
    refine ⟨fun j hj => (h j i (by omega) hi (by omega)).1, fun k hk => ?_⟩
    by_cases e : i = k
    · subst e; exact under_not_self _
    · exact (h i k hi hk e).2
end Go.Proofs.YtncidljdfipigaaDoor.Nm

/- A file of an archive read back, in plain words: the number of its stamp, its fields as bytes. Nothing is walked here. -/
namespace Go.Proofs.YtncidljdfipigaaDoor.Lc
open Go.RowKit Go.Proofs.YtncidljdfipigaaDoor.Mem Go.Proofs.YtncidljdfipigaaDoor.Nm Go.Proofs.YtncidljdfipigaaDoor.Nb Go.Proofs.YtncidljdfipigaaDoor.Cr Go.Proofs.YtncidljdfipigaaDoor.Wi Go.Proofs.YtncidljdfipigaaDoor.De
set_option linter.unusedVariables false
set_option linter.unusedSimpArgs false
theorem parts_total : ∀ l : List UInt8, ((Nm.parts l).map fun p => p.length + 1).sum = l.length + 1
  | [] => rfl
  | b :: t => by
    have ih := parts_total t
    by_cases hb : b = 47
    · simp only [Nm.parts, if_pos hb, List.map_cons, List.sum_cons, ih, List.length_nil, List.length_cons]; omega
    · simp only [Nm.parts, if_neg hb]
      cases h : Nm.parts t with
      | nil => exact absurd h (Nm.parts_ne t)
      | cons p r =>
        rw [h] at ih
        simp only [List.map_cons, List.sum_cons, List.length_cons] at ih ⊢
        omega
theorem sum_le : ∀ (l : List (List UInt8)), (∀ p ∈ l, p.length ≤ 10) → (l.map fun p => p.length + 1).sum ≤ 11 * l.length
  | [], _ => by simp
  | p :: r, h => by
    have ih := sum_le r fun q hq => h q (List.mem_cons_of_mem _ hq)
    have h1 := h p List.mem_cons_self
    simp only [List.map_cons, List.sum_cons, List.length_cons]
    omega
theorem nameOk_size {nm : ByteArray} (h : nameOk nm.data.toList = true) : nm.size ≤ 43 := by
  unfold nameOk at h
  rw [Bool.and_eq_true, decide_eq_true_eq, List.all_eq_true] at h
  have h1 := parts_total nm.data.toList
  have h2 := sum_le (Nm.parts nm.data.toList) fun p hp => by
    have := h.1 p hp
    unfold partOk at this
    simp only [Bool.and_eq_true, decide_eq_true_eq] at this
    omega
  have e : nm.size = nm.data.toList.length := by rw [Array.length_toList]; rfl
  omega
theorem entryOk_parts {nm tx : ByteArray} {y m d h mi s : Int} (hk : entryOk nm y m d h mi s tx = true) : nm.size ≤ 43 ∧ okp y m d h mi s ∧ tx.size ≤ 300 := by
  unfold entryOk at hk
  simp only [Bool.and_eq_true, decide_eq_true_eq] at hk
  exact ⟨nameOk_size hk.1, hk.2.1, hk.2.2⟩
theorem ch_append (a b : ByteArray) : chars (a ++ b) = chars a ++ chars b := by
  unfold chars
  rw [ByteArray.data_append, Array.toList_append, List.map_append]
theorem ch_extract (s : ByteArray) (a b : Nat) : chars (s.extract a b) = ((chars s).drop a).take (b - a) := by
  unfold chars
  rw [Lib.extract_data, List.map_take, List.map_drop]
theorem numB_cons : ∀ (n v : Nat), numB (n + 1) v = v % 256 :: numB n (v / 256) := by
  intro n v
  unfold numB
  rw [List.range_succ_eq_map, List.map_cons, List.map_map, Nat.pow_zero, Nat.div_one]
  congr 1
  refine List.map_congr_left fun i _ => ?_
  show v / 256 ^ (i + 1) % 256 = v / 256 / 256 ^ i % 256
  rw [Nat.div_div_eq_div_mul, Nat.pow_succ, Nat.mul_comm]
theorem numB_numOf : ∀ {l : List Nat}, (∀ x ∈ l, x < 256) → numB l.length (numOf l) = l
  | [], _ => rfl
  | x :: l, h => by
    have h1 := numB_numOf (l := l) fun y hy => h y (List.mem_cons_of_mem _ hy)
    have h2 := h x List.mem_cons_self
    rw [List.length_cons, numB_cons, numOf]
    rw [show (x + 256 * numOf l) % 256 = x from by omega, show (x + 256 * numOf l) / 256 = numOf l from by omega, h1]
theorem numOf_numB : ∀ (n v : Nat), v < 256 ^ n → numOf (numB n v) = v
  | 0, v, h => by simp at h; subst h; rfl
  | n + 1, v, h => by
    rw [Nat.pow_succ] at h
    rw [numB_cons, numOf, numOf_numB n (v / 256) (by omega)]
    omega
/-- The number that a list of bytes has from a place on. -/
def numL (l : List Nat) (a n : Nat) : Nat := numOf ((l.drop a).take n)
theorem numAtB_eq (s : ByteArray) (a n : Nat) : numAtB s a n = numL (chars s) a n := rfl
theorem numL_lt {l : List Nat} (hl : ∀ x ∈ l, x < 256) (a n : Nat) : numL l a n < 256 ^ n :=
  Nat.lt_of_lt_of_le (numOf_lt fun x hx => hl x (List.mem_of_mem_drop (List.mem_of_mem_take hx))) (Nat.pow_le_pow_right (by decide) (List.length_take_le _ _))
theorem numAtB_lt (s : ByteArray) (a n : Nat) : numAtB s a n < 256 ^ n := numL_lt (chars_lt s) a n
theorem piece_iff {l : List Nat} (hl : ∀ x ∈ l, x < 256) {a n v : Nat} (h : a + n ≤ l.length) (hv : v < 256 ^ n) : (l.drop a).take n = numB n v ↔ numL l a n = v := by
  constructor
  · intro e
    unfold numL
    rw [e, numOf_numB n v hv]
  · intro e
    rw [← e]
    have h1 := numB_numOf (l := (l.drop a).take n) fun x hx => hl x (List.mem_of_mem_drop (List.mem_of_mem_take hx))
    rw [show ((l.drop a).take n).length = n from by rw [List.length_take, List.length_drop]; omega] at h1
    exact h1.symm
theorem chars_nB (n v : Nat) : chars (nB n v) = numB n v := chars_strB (numB_lt n v)
theorem chars_mark : chars (⟨#[80, 75, 3, 4]⟩ : ByteArray) = numB 4 67324752 := by rw [← nB_mark, chars_nB]
/-- A list cut into pieces. -/
theorem cut_iff {l r : List Nat} {n v : Nat} (hl : n ≤ l.length) : l = numB n v ++ r ↔ l.take n = numB n v ∧ l.drop n = r := by
  constructor
  · intro e
    subst e
    exact ⟨by rw [List.take_left' (numB_length n v)], by rw [List.drop_left' (numB_length n v)]⟩
  · rintro ⟨e1, e2⟩
    rw [← e1, ← e2, List.take_append_drop]
theorem headB_iff {nm tx t : ByteArray} {y m d h mi s : Int} {mt pk : Nat} (ht : t.size = 30) (hmt : mt < 65536) (hst : (stampN y m d h mi s).toNat < 4294967296) (hpk : pk < 4294967296) (htx : tx.size < 4294967296) (hnm : nm.size < 65536) :
    t = headB nm y m d h mi s tx mt pk ↔
      numAtB t 0 4 = 67324752 ∧ numAtB t 4 2 = 20 ∧ numAtB t 6 2 = 0 ∧ numAtB t 8 2 = mt ∧ numAtB t 10 4 = (stampN y m d h mi s).toNat ∧ numAtB t 14 4 = crcOf tx ∧ numAtB t 18 4 = pk ∧ numAtB t 22 4 = tx.size ∧ numAtB t 26 2 = nm.size ∧ numAtB t 28 2 = 0 := by
  have hcr : crcOf tx < 4294967296 := crcC_lt tx
  have hl := chars_lt t
  have hn : (chars t).length = 30 := by rw [chars_length, ht]
  simp only [numAtB_eq]
  unfold headB
  generalize (stampN y m d h mi s).toNat = sn at *
  generalize crcOf tx = cr at *
  generalize tx.size = tn at *
  generalize nm.size = nn at *
  have e : chars (((((((((((⟨#[80, 75, 3, 4]⟩ : ByteArray) ++ nB 2 20) ++ nB 2 0) ++ nB 2 mt) ++ nB 4 sn) ++ nB 4 cr) ++ nB 4 pk) ++ nB 4 tn) ++ nB 2 nn) ++ nB 2 0)) =
      numB 4 67324752 ++ (numB 2 20 ++ (numB 2 0 ++ (numB 2 mt ++ (numB 4 sn ++ (numB 4 cr ++ (numB 4 pk ++ (numB 4 tn ++ (numB 2 nn ++ numB 2 0)))))))) := by
    simp only [ch_append, chars_nB, chars_mark, List.append_assoc]
  have q : t = (((((((((⟨#[80, 75, 3, 4]⟩ ++ nB 2 20) ++ nB 2 0) ++ nB 2 mt) ++ nB 4 sn) ++ nB 4 cr) ++ nB 4 pk) ++ nB 4 tn) ++ nB 2 nn) ++ nB 2 0) ↔ chars t = numB 4 67324752 ++ (numB 2 20 ++ (numB 2 0 ++ (numB 2 mt ++ (numB 4 sn ++ (numB 4 cr ++ (numB 4 pk ++ (numB 4 tn ++ (numB 2 nn ++ numB 2 0)))))))) := by
    rw [← e]
    exact ⟨fun h => congrArg chars h, chars_ext⟩
  refine Iff.trans q ?_
  generalize chars t = l at *
  clear q e ht
  have P := fun (a n v : Nat) (h1 : a + n ≤ 30) (h2 : v < 256 ^ n) => piece_iff hl (a := a) (n := n) (v := v) (by omega) h2
  rw [cut_iff (by omega), cut_iff (by simp only [List.length_drop]; omega), cut_iff (by simp only [List.length_drop]; omega), cut_iff (by simp only [List.length_drop]; omega), cut_iff (by simp only [List.length_drop]; omega), cut_iff (by simp only [List.length_drop]; omega), cut_iff (by simp only [List.length_drop]; omega), cut_iff (by simp only [List.length_drop]; omega), cut_iff (by simp only [List.length_drop]; omega)]
  simp only [List.drop_drop, Nat.reduceAdd]
  have Z : l.drop 28 = numB 2 0 ↔ (l.drop 28).take 2 = numB 2 0 := by rw [List.take_of_length_le (by rw [List.length_drop]; omega)]
  have P0 := P 0 4 67324752 (by omega) (by decide)
  rw [List.drop_zero] at P0
  rw [Z, P0, P 4 2 20 (by omega) (by decide), P 6 2 0 (by omega) (by decide), P 8 2 mt (by omega) (by omega), P 10 4 sn (by omega) (by omega), P 14 4 cr (by omega) (by omega), P 18 4 pk (by omega) (by omega), P 22 4 tn (by omega) (by omega), P 26 2 nn (by omega) (by omega), P 28 2 0 (by omega) (by decide)]
/-- A stamp's numbers out of its number. -/
def gy (n : Nat) : Int := n / 33554432 + 1980
def gm (n : Nat) : Int := n / 2097152 % 16
def gd (n : Nat) : Int := n / 65536 % 32
def gh (n : Nat) : Int := n / 2048 % 32
def gi (n : Nat) : Int := n / 32 % 64
def gs (n : Nat) : Int := n % 32 * 2
theorem stampN_get (n : Nat) : stampN (gy n) (gm n) (gd n) (gh n) (gi n) (gs n) = n := by
  unfold stampN gy gm gd gh gi gs
  omega
/-- What is told of a file in an archive before its text is unpacked. -/
def headOk (s : ByteArray) : Prop := 30 ≤ s.size ∧ numAtB s 0 4 = 67324752 ∧ numAtB s 4 2 = 20 ∧ numAtB s 6 2 = 0 ∧ numAtB s 28 2 = 0 ∧ 30 + numAtB s 26 2 + numAtB s 18 4 ≤ s.size
instance (s : ByteArray) : Decidable (headOk s) := by unfold headOk; infer_instance
def rdName (s : ByteArray) : ByteArray := s.extract 30 (30 + numAtB s 26 2)
def rdPk (s : ByteArray) : ByteArray := s.extract (30 + numAtB s 26 2) (30 + numAtB s 26 2 + numAtB s 18 4)
def rdNum (s : ByteArray) : Nat := numAtB s 10 4
def rdLong (s : ByteArray) : Nat := 30 + numAtB s 26 2 + numAtB s 18 4
/-- The file is as its text says. -/
def textOk (s : ByteArray) (o : ByteArray) : Prop := numAtB s 14 4 = crcOf o ∧ numAtB s 22 4 = o.size ∧ entryOk (rdName s) (gy (rdNum s)) (gm (rdNum s)) (gd (rdNum s)) (gh (rdNum s)) (gi (rdNum s)) (gs (rdNum s)) o = true
instance (s o : ByteArray) : Decidable (textOk s o) := by unfold textOk; infer_instance
/-- The text of a file that is read, if it is one. -/
def locText (s : ByteArray) : Option ByteArray :=
  if headOk s then (match textOf (numAtB s 8 2) (chars (rdPk s)) with | some o => if textOk s (strB o) then some (strB o) else none | none => none) else none
def fiOf (t o : ByteArray) : Fi := ⟨rdName t, gy (rdNum t), gm (rdNum t), gd (rdNum t), gh (rdNum t), gi (rdNum t), gs (rdNum t), o⟩
def zeroFi : Fi := ⟨⟨#[]⟩, 0, 0, 0, 0, 0, 0, ⟨#[]⟩⟩
/-- What LocalGet answers: a file, how many bytes it takes, whether there is one. -/
def lget (s : ByteArray) : Fi × Nat × Bool := match locText s with | some o => (fiOf s o, rdLong s, true) | none => (zeroFi, 0, false)
def fiV (f : Fi) : Value := .agg #[.string f.nm, .int .i64 f.y, .int .i64 f.m, .int .i64 f.d, .int .i64 f.h, .int .i64 f.mi, .int .i64 f.s, .string f.tx]
def lgetV (s : ByteArray) : Value := .tuple #[fiV (lget s).1, .int .i64 ((lget s).2.1 : Nat), .bool (lget s).2.2]
theorem lget_none {s : ByteArray} (h : locText s = none) : lget s = (zeroFi, 0, false) := by unfold lget; rw [h]
theorem lget_some {s o : ByteArray} (h : locText s = some o) : lget s = (fiOf s o, rdLong s, true) := by unfold lget; rw [h]
theorem rdName_size {s : ByteArray} (h : 30 + numAtB s 26 2 ≤ s.size) : (rdName s).size = numAtB s 26 2 := by
  unfold rdName; rw [ByteArray.size_extract]; omega
theorem rdPk_size {s : ByteArray} (h : 30 + numAtB s 26 2 + numAtB s 18 4 ≤ s.size) : (rdPk s).size = numAtB s 18 4 := by
  unfold rdPk; rw [ByteArray.size_extract]; omega
/-- A number in a text's head. -/
theorem numAtB_head (s : ByteArray) {a n : Nat} (h : a + n ≤ 30) : numAtB (s.extract 0 30) a n = numAtB s a n := by
  rw [numAtB_eq, numAtB_eq, ch_extract, numL, numL, List.drop_zero]
  congr 1
  rw [List.drop_take, List.take_take]
  congr 1
  omega
/-- The program's own look at a head: it is that of the file that was read. -/
theorem head_is {s o : ByteArray} (h30 : 30 ≤ s.size) (hfit : 30 + numAtB s 26 2 + numAtB s 18 4 ≤ s.size) (ho : o.size < 4294967296) :
    headB (rdName s) (gy (rdNum s)) (gm (rdNum s)) (gd (rdNum s)) (gh (rdNum s)) (gi (rdNum s)) (gs (rdNum s)) o (numAtB s 8 2) (numAtB s 18 4) = s.extract 0 30 ↔
      numAtB s 0 4 = 67324752 ∧ numAtB s 4 2 = 20 ∧ numAtB s 6 2 = 0 ∧ numAtB s 28 2 = 0 ∧ numAtB s 14 4 = crcOf o ∧ numAtB s 22 4 = o.size := by
  have hz : (s.extract 0 30).size = 30 := by rw [ByteArray.size_extract]; omega
  have b1 := numAtB_lt s 26 2
  have b2 := numAtB_lt s 18 4
  have b3 := numAtB_lt s 8 2
  have b4 := numAtB_lt s 10 4
  have hnm := rdName_size (s := s) (by omega)
  have hsn : (stampN (gy (rdNum s)) (gm (rdNum s)) (gd (rdNum s)) (gh (rdNum s)) (gi (rdNum s)) (gs (rdNum s))).toNat = numAtB s 10 4 := by rw [stampN_get]; rfl
  rw [eq_comm, headB_iff hz (by omega) (by rw [hsn]; omega) (by omega) ho (by omega), hsn, hnm]
  simp only [numAtB_head s (a := 0) (n := 4) (by omega), numAtB_head s (a := 4) (n := 2) (by omega), numAtB_head s (a := 6) (n := 2) (by omega), numAtB_head s (a := 8) (n := 2) (by omega), numAtB_head s (a := 10) (n := 4) (by omega), numAtB_head s (a := 14) (n := 4) (by omega), numAtB_head s (a := 18) (n := 4) (by omega), numAtB_head s (a := 22) (n := 4) (by omega), numAtB_head s (a := 26) (n := 2) (by omega), numAtB_head s (a := 28) (n := 2) (by omega)]
  constructor
  · rintro ⟨a0, a1, a2, _, _, a3, _, a4, _, a5⟩; exact ⟨a0, a1, a2, a5, a3, a4⟩
  · rintro ⟨a0, a1, a2, a5, a3, a4⟩; exact ⟨a0, a1, a2, trivial, trivial, a3, trivial, a4, trivial, a5⟩
theorem textOf_size {m : Nat} {p o : List Nat} (h : textOf m p = some o) : m = 0 ∨ m = 8 := by
  unfold textOf at h
  by_cases h0 : m = 0
  · exact .inl h0
  · rw [if_neg h0] at h
    by_cases h8 : m = 8
    · exact .inr h8
    · rw [if_neg h8] at h; cases h
end Go.Proofs.YtncidljdfipigaaDoor.Lc

/- The program's heaps in memory, and what takes the least one out. Conditions: rows that are only read; the least symbol stands at the head. -/
namespace Go.Proofs.YtncidljdfipigaaDoor.Wi
open Go.RowKit Go.Proofs.YtncidljdfipigaaDoor.Mem Go.Proofs.YtncidljdfipigaaDoor.Hf
set_option linter.unusedVariables false
set_option linter.unusedSimpArgs false
def hcell (x : Tr) : List Value := [.int .i64 (x.1.c : Int), .slice (some ⟨x.2.1, 0, none⟩) x.1.s.length x.2.2]
def hcells (X : List Tr) : List Value := X.flatMap hcell
theorem hcells_length (X : List Tr) : (hcells X).length = 2 * X.length := by
  induction X with
  | nil => rfl
  | cons x X ih =>
    have e : hcells (x :: X) = hcell x ++ hcells X := rfl
    rw [e, List.length_append, ih, List.length_cons]
    show 2 + _ = _
    omega
theorem hcells_append (X Y : List Tr) : hcells (X ++ Y) = hcells X ++ hcells Y := by unfold hcells; rw [List.flatMap_append]
theorem hcells_get : ∀ (X : List Tr) {i : Nat} (h : i < X.length), (hcells X)[2 * i]? = some (.int .i64 (X[i].1.c : Int)) ∧ (hcells X)[2 * i + 1]? = some (.slice (some ⟨X[i].2.1, 0, none⟩) X[i].1.s.length X[i].2.2)
  | x :: X, 0, _ => ⟨rfl, rfl⟩
  | x :: X, i + 1, h => by
    have e : hcells (x :: X) = hcell x ++ hcells X := rfl
    have h3 : (hcell x).length = 2 := rfl
    obtain ⟨a, b⟩ := hcells_get X (i := i) (by simpa using h)
    rw [e]
    refine ⟨?_, ?_⟩
    · rw [List.getElem?_append_right (by rw [h3]; omega), h3, show 2 * (i + 1) - 2 = 2 * i from by omega]; exact a
    · rw [List.getElem?_append_right (by rw [h3]; omega), h3, show 2 * (i + 1) + 1 - 2 = 2 * i + 1 from by omega]; exact b
theorem hcells_take : ∀ (X : List Tr) (k : Nat), hcells (X.take k) = (hcells X).take (2 * k)
  | _, 0 => by simp [hcells]
  | [], k + 1 => by simp [hcells]
  | x :: X, k + 1 => by
    have e : hcells (x :: X) = hcell x ++ hcells X := rfl
    have e2 : hcells ((x :: X).take (k + 1)) = hcell x ++ hcells (X.take k) := rfl
    have h3 : (hcell x).length = 2 := rfl
    rw [e, e2, hcells_take X k, List.take_append, h3, show 2 * (k + 1) - 2 = 2 * k from by omega, List.take_of_length_le (l := hcell x) (by rw [h3]; omega)]
theorem hcells_drop : ∀ (X : List Tr) (k : Nat), hcells (X.drop k) = (hcells X).drop (2 * k)
  | _, 0 => by simp
  | [], k + 1 => by simp [hcells]
  | x :: X, k + 1 => by
    have e : hcells (x :: X) = hcell x ++ hcells X := rfl
    have h3 : (hcell x).length = 2 := rfl
    rw [List.drop_succ_cons, hcells_drop X k, e, List.drop_append, h3, show 2 * (k + 1) - 2 = 2 * k from by omega, show List.drop (2 * (k + 1)) (hcell x) = [] from List.drop_eq_nil_of_le (by rw [h3]; omega), List.nil_append]
theorem hcells_erase (X : List Tr) (k : Nat) : hcells (X.eraseIdx k) = (hcells X).take (2 * k) ++ (hcells X).drop (2 * (k + 1)) := by
  rw [List.eraseIdx_eq_take_drop_succ, hcells_append, hcells_take, hcells_drop]
theorem hcells_one (X : List Tr) {u : Value} (hu : u ∈ hcells X) : u.oneCell' = true := by
  unfold hcells at hu
  obtain ⟨x, _, hx⟩ := List.mem_flatMap.1 hu
  simp [hcell] at hx
  rcases hx with rfl | rfl <;> rfl
theorem heapinfo : (Tryd.prog.info? 123).map (fun i => (i.zero, i.size, i.bytes)) = some (some (.agg #[.int .i64 0, .slice none 0 0]), 2, 32) := by kernel_rfl
/-- A row of numbers is no row of heaps. -/
theorem rowo_neh {w : World} {g g' o : Nat} {xs ys : List Value} (h : RowO w g o 3 xs) (h' : Row w g' 123 ys) : g ≠ g' := by
  rintro rfl
  obtain ⟨cs, hb, _⟩ := h.out
  obtain ⟨ds, hd, _⟩ := h'.out
  have := hb.out.symm.trans hd.out
  simp at this
/-- What the program's least tells: the least, and the rest. -/
structure LeastOut (w : World) (X : List Tr) (n : Nat) (e : Ending) (w' : World) : Prop where mk ::
  out : ∃ (k : Nat) (x : Tr) (v : Value), least (X.map (·.1)) = k ∧ X[k]? = some x ∧ e = .returned (.tuple #[.agg #[.int .i64 (x.1.c : Int), .slice (some ⟨x.2.1, 0, none⟩) x.1.s.length x.2.2], v]) ∧ Own w.heap.size w' 123 2 v (n - 1) (hcells (X.eraseIdx k)) ∧ On w w'
set_option maxRecDepth 100000 in
set_option maxHeartbeats 2000000 in
theorem ileast_calls (X : List Tr) (g n cap base : Nat) (w : World) (hX : Row w g 123 (hcells X)) (hS : Syms w base X) (hH : ∀ x ∈ X, Headed x.1) (hn : X.length = n) (hn1 : 1 ≤ n) (hn2 : n ≤ 1000) (hnc : n ≤ cap) (hc : ∀ x ∈ X, x.1.c ≤ 100000000 ∧ x.1.f ≤ 1000) :
    Calls Tryd.prog 131 #[.slice (some ⟨g, 0, none⟩) n cap] w (LeastOut w X n) := by
  have HN := Lib.hid hn
  clear hn
  obtain ⟨i2, hi2, hz2, hs2, hb2⟩ := info_parts heapinfo
  have hgw := hX.lt
  have hget : ∀ i, i < n → ∃ c f q m cq, c ≤ 100000000 ∧ f ≤ 1000 ∧ 0 < m ∧ ((X.map (·.1)).getD i dflt).c = c ∧ ((X.map (·.1)).getD i dflt).f = f ∧ (∀ w', On w w' → w'.cell? ⟨g, i * 2, none⟩ = some (.int .i64 (c : Int)) ∧ w'.cell? ⟨g, i * 2 + 1, none⟩ = some (.slice (some ⟨q, 0, none⟩) m cq) ∧ w'.cell? ⟨q, 0, none⟩ = some (.int .i64 (f : Int))) := by
    intro i hi
    have hiX : i < X.length := by rw [HN.out]; exact hi
    obtain ⟨a, b⟩ := hcells_get X hiX
    have hxm := List.getElem_mem hiX
    have hm := hc X[i] hxm
    have hd := hH X[i] hxm
    have hr := (hS X[i] hxm).1
    have e : (X.map (·.1)).getD i dflt = X[i].1 := by rw [List.getD_eq_getElem?_getD, List.getElem?_map, List.getElem?_eq_getElem hiX]; rfl
    refine ⟨X[i].1.c, X[i].1.f, X[i].2.1, X[i].1.s.length, X[i].2.2, hm.1, hm.2, hd.h0, by rw [e], by rw [e], fun w' O => ⟨?_, ?_, ?_⟩⟩
    · rw [Nat.mul_comm i 2]; exact (hX.on O).cell a
    · rw [Nat.mul_comm i 2]; exact (hX.on O).cell b
    · have := (hr.on O).cell (i64s_get hd.h0)
      rw [hd.head] at this
      exact this
  have HNEW1 := Lib.hid (show ∀ k W, On w W → ∀ j u, ((hcells X).take (2 * k))[j]? = some u → W.cell? ((⟨g, 0, none⟩ : Addr).add j) = some u from fun k W O j u hu => by
    have ha : (⟨g, 0, none⟩ : Addr).add j = ⟨g, j, none⟩ := by unfold Addr.add; split <;> simp_all
    rw [ha]
    refine (hX.on O).cell ?_
    rw [List.getElem?_take] at hu
    split at hu
    · exact hu
    · cases hu)
  have HX := Lib.hid hX
  have HGET := Lib.hid hget
  clear hget hc hX hS hH
  obtain ⟨L, hL⟩ : ∃ L, X.map (·.1) = L := ⟨_, rfl⟩
  have hLn : L.length = n := by rw [← hL, List.length_map, HN.out]
  rw [hL] at HGET
  have HLN := Lib.hid hLn
  have HLX := Lib.hid hL
  clear hL hLn
  have hn0 : (0 : Int) < n := by omega
  go_enter Tryd.func131, Tryd.ntmps131
  go_wp2_with fail
  have B0 := Blk.new w 123 #[.int .i64 0, .slice none 0 0]
  have O0 := (On.refl w).alloc (.cells #[.int .i64 0, .slice none 0 0] 123)
  generalize hRB : w.heap.size = R at *
  have HRB := Lib.hid hRB
  clear hRB
  generalize w.alloc (.cells #[.int .i64 0, .slice none 0 0] 123) = w1 at *
  go_loopw [4, 10] (fun a x wr => ∃ (k m : Nat), x = .int .i64 (k : Int) ∧ k ≤ n ∧ a = .int .i64 (m : Int) ∧ m < n ∧ RowKit.Hid (m = leastTo L (k - 1)) ∧ On w1 wr) (fun _ x _ => n - (intOf x).toNat)
  case atStart => exact ⟨0, 0, rfl, by omega, rfl, by omega, Lib.hid rfl, On.refl _⟩
  case round =>
    obtain ⟨k, m, rfl, hk, rfl, hm, HM, O1⟩ := hrel
    have O := O0.call O1
    by_cases hlt : k < n
    · obtain ⟨ck, fk, qk, mk, sk, hck, hfk, hmk, eck, efk, cellk⟩ := HGET.out k hlt
      obtain ⟨cm, fm, qm, mm, sm, hcm, hfm, hmm, ecm, efm, cellm⟩ := HGET.out m hm
      have HT := Lib.hid (show leastTo L k = if less (L.getD k dflt) (L.getD m dflt) then k else m from by
        cases k with
        | zero =>
          have : m = 0 := HM.out
          subst this
          split <;> rfl
        | succ j => rw [leastTo, HM.out]; rfl)
      have HLS := Lib.hid (show less (L.getD k dflt) (L.getD m dflt) = decide (ck < cm ∨ ck = cm ∧ fk < fm) from by unfold less; rw [eck, efk, ecm, efm])
      clear eck efk ecm efm
      obtain ⟨a0, a1, _⟩ := cellk wr O
      have hk2 : (k : Int) < n := by omega
      have hm2 : (m : Int) < n := by omega
      have OA := (On.refl wr).alloc (.cells #[.int .i64 (ck : Int), .slice (some ⟨qk, 0, none⟩) mk sk] 123)
      have BA := Blk.new wr 123 #[.int .i64 (ck : Int), .slice (some ⟨qk, 0, none⟩) mk sk]
      obtain ⟨_, _, k2⟩ := cellk _ (O.call OA)
      obtain ⟨m0, m1, m2⟩ := cellm _ (O.call OA)
      have O1A := O1.call OA
      clear cellk cellm
      go_upto_region 5 with fail
      generalize hPA : wr.heap.size = pa at *
      have HPA := Lib.hid hPA
      clear hPA
      generalize wr.alloc (.cells #[.int .i64 (ck : Int), .slice (some ⟨qk, 0, none⟩) mk sk] 123) = wa at *
      have p0 : wa.cell? ⟨pa, 0, none⟩ = some (.int .i64 (ck : Int)) := (BA.cell 0).trans rfl
      have p1 : wa.cell? ⟨pa, 1, none⟩ = some (.slice (some ⟨qk, 0, none⟩) mk sk) := (BA.cell 1).trans rfl
      have hmk' : (0 : Int) < mk := by omega
      have hmm' : (0 : Int) < mm := by omega
      clear a0 a1 BA
      by_cases h1 : ck < cm
      · have h1' : decide ((ck : Int) < (cm : Int)) = true := by simp; omega
        have h1'' : (ck : Int) < (cm : Int) := by omega
        go_quiet (fail)
        go_wp2_with fail
        go_roundw
        case rel => exact ⟨k + 1, k, by go_num, by omega, rfl, by omega, Lib.hid (by rw [show k + 1 - 1 = k from by omega, HT.out, HLS.out, if_pos (by simp; omega)]), O1A.drewN _⟩
        case measure => simp [intOf]; omega
      · have h1' : decide ((ck : Int) < (cm : Int)) = false := by simp; omega
        by_cases h2 : ck = cm
        · subst h2
          have h2' : ((ck : Int) == (ck : Int)) = true := by simp
          by_cases h3 : fk < fm
          · have h3' : decide ((fk : Int) < (fm : Int)) = true := by simp; omega
            have h3'' : (fk : Int) < (fm : Int) := by omega
            go_quiet (fail)
            go_wp2_with fail
            go_roundw
            case rel => exact ⟨k + 1, k, by go_num, by omega, rfl, by omega, Lib.hid (by rw [show k + 1 - 1 = k from by omega, HT.out, HLS.out, if_pos (by simp; omega)]), O1A.drewN _⟩
            case measure => simp [intOf]; omega
          · have h3' : decide ((fk : Int) < (fm : Int)) = false := by simp; omega
            go_quiet (fail)
            go_wp2_with fail
            go_roundw
            case rel => exact ⟨k + 1, m, by go_num, by omega, rfl, by omega, Lib.hid (by rw [show k + 1 - 1 = k from by omega, HT.out, HLS.out, if_neg (by simp; omega)]), O1A.drewN _⟩
            case measure => simp [intOf]; omega
        · have h2' : ((ck : Int) == (cm : Int)) = false := by simp; omega
          go_quiet (fail)
          go_wp2_with fail
          go_roundw
          case rel => exact ⟨k + 1, m, by go_num, by omega, rfl, by omega, Lib.hid (by rw [show k + 1 - 1 = k from by omega, HT.out, HLS.out, if_neg (by simp; omega)]), O1A.drewN _⟩
          case measure => simp [intOf]; omega
    · have hkn : k = n := by omega
      have hle : m = least L := by unfold least; rw [HM.out, HLN.out, hkn]
      have HLE := Lib.hid hle
      have hk' : ¬ (k : Int) < (n : Int) := by omega
      have hmX : m < X.length := by rw [HN.out]; exact hm
      obtain ⟨ga0, ga1⟩ := hcells_get X hmX
      have r6 := HX.out.on O
      have d0 := r6.cell ga0
      have d1 := r6.cell ga1
      rw [Nat.mul_comm 2 m] at d0 d1
      obtain ⟨xa, hxa⟩ : ∃ xa, X[m] = xa := ⟨_, rfl⟩
      rw [hxa] at d0 d1
      have HXA := Lib.hid (show X[m]? = some xa from by rw [List.getElem?_eq_getElem hmX, hxa])
      have OA := (On.refl wr).alloc (.cells #[.int .i64 (xa.1.c : Int), .slice (some ⟨xa.2.1, 0, none⟩) xa.1.s.length xa.2.2] 123)
      have BA := Blk.new wr 123 #[.int .i64 (xa.1.c : Int), .slice (some ⟨xa.2.1, 0, none⟩) xa.1.s.length xa.2.2]
      have BR := B0.call (O1.call OA).out
      have OwS := O.call OA
      have hRl := B0.lt
      have hz1 := O1.size
      clear hkn hle hxa ga0 ga1 hmX r6 HM HGET
      have hm2 : (m : Int) < n := by omega
      have hkk : (m : Int) ≤ n := by omega
      have hk1 : (m : Int) + 1 ≤ n := by omega
      have hk3 : (m : Int) ≤ cap := by omega
      have hk5 : (n : Int) ≤ cap := by omega
      have hk6 : (0 : Int) ≤ (m : Int) + 1 := by omega
      have ek : IntKind.i64.wrap ((m : Int) + 1) = (m : Int) + 1 := by rw [IntKind.wrap_i64]; omega
      go_upto_region 9 with fail
      generalize hPA : wr.heap.size = pa at *
      have hpR : pa ≠ R := by omega
      have HPA := Lib.hid hPA
      clear hPA
      generalize wr.alloc (.cells #[.int .i64 (xa.1.c : Int), .slice (some ⟨xa.2.1, 0, none⟩) xa.1.s.length xa.2.2] 123) = wS at *
      have HCP := Lib.hid (show ∀ W, Kp [R] wS W → W.cell? ⟨pa, 0, none⟩ = some (.int .i64 (xa.1.c : Int)) ∧ W.cell? ⟨pa, 1, none⟩ = some (.slice (some ⟨xa.2.1, 0, none⟩) xa.1.s.length xa.2.2) from fun W h => ⟨(h.cell BA.lt (by simpa using hpR)).trans ((BA.cell 0).trans rfl), (h.cell BA.lt (by simpa using hpR)).trans ((BA.cell 1).trans rfl)⟩)
      clear d0 d1 BA
      by_cases hck : cap = m + 1
      · subst hck
        have hn1' : n = m + 1 := by omega
        have hnk : (n : Int) ≤ (m : Int) + 1 := by omega
        have hmm1 : (m : Int) ≤ (m : Int) + 1 := by omega
        have HN1 := Lib.hid hn1'
        clear hn1'
        have HNEW2 := Lib.hid (show ∀ W, On w W → ∀ j u, ((hcells X).drop (2 * (m + 1)))[j]? = some u → W.cell? ((⟨g, 0, none⟩ : Addr).add j) = some u from fun W O j u hu => by
          rw [List.drop_eq_nil_of_le (by rw [hcells_length, HN.out]; have := HN1.out; omega)] at hu
          simp at hu)
        have CP0 := fun W h => (HCP.out W h).1
        have CP1 := fun W h => (HCP.out W h).2
        refine wp_region_held_drew (S := fun W => Kp [R] wS W) (by kernel_rfl) (Kp.refl _ _).drew (fun hHeld => ?_)
        have OwD := (On.refl wS).drew
        have OWD := OwS.call OwD
        refine wpAnyH_take (i := 0) (oi := _) (v := ?_) rfl (by kernel_rfl) (by kernel_rfl) (by kernel_rfl) (fun _ _ _ h => h) (Or.inl ⟨by rfl, ?_⟩) (by assumption) ?_
        rotate_left
        · intro w hSw
          go_simp
          first | done | with_reducible rfl
        try simp only [Act.put, List.setIfInBounds_toArray, List.set_cons_zero, List.set_cons_succ]
        refine wpAnyH_take (i := 2) (oi := _) (v := ?_) rfl (by kernel_rfl) (by kernel_rfl) (by kernel_rfl) (fun _ _ _ h => h) (Or.inl ⟨by rfl, ?_⟩) (by assumption) ?_
        rotate_left
        · intro w hSw
          go_simp
          first | done | with_reducible rfl
        try simp only [Act.put, List.setIfInBounds_toArray, List.set_cons_zero, List.set_cons_succ]
        refine wpAnyH_take (i := 3) (oi := _) (v := ?_) rfl (by kernel_rfl) (by kernel_rfl) (by kernel_rfl) (fun _ _ _ h => h) (Or.inl ⟨by rfl, ?_⟩) (by assumption) ?_
        rotate_left
        · intro w hSw
          go_simp
          first | done | with_reducible rfl
        try simp only [Act.put, List.setIfInBounds_toArray, List.set_cons_zero, List.set_cons_succ]
        refine wpAnyH_take (i := 4) (oi := _) (v := ?_) rfl (by kernel_rfl) (by kernel_rfl) (by kernel_rfl) (fun _ _ _ h => h) (Or.inl ⟨by rfl, ?_⟩) (by assumption) ?_
        rotate_left
        · intro w hSw
          go_simp
          first | done | with_reducible rfl
        try simp only [Act.put, List.setIfInBounds_toArray, List.set_cons_zero, List.set_cons_succ]
        refine wpAnyH_take (i := 6) (oi := _) (v := ?_) rfl (by kernel_rfl) (by kernel_rfl) (by kernel_rfl) (fun _ _ _ h => h) (Or.inl ⟨by rfl, ?_⟩) (by assumption) ?_
        rotate_left
        · intro w hSw
          go_simp
          first | done | with_reducible rfl
        try simp only [Act.put, List.setIfInBounds_toArray, List.set_cons_zero, List.set_cons_succ]
        refine wpAnyH_take (i := 7) (oi := _) (v := ?_) rfl (by kernel_rfl) (by kernel_rfl) (by kernel_rfl) (fun _ _ _ h => h) (Or.inl ⟨by rfl, ?_⟩) (by assumption) ?_
        rotate_left
        · intro w hSw
          go_simp
          first | done | with_reducible rfl
        try simp only [Act.put, List.setIfInBounds_toArray, List.set_cons_zero, List.set_cons_succ]
        refine wpAnyH_take (i := 8) (oi := _) (v := ?_) rfl (by kernel_rfl) (by kernel_rfl) (by kernel_rfl) (fun _ _ _ h => h) (Or.inl ⟨by rfl, ?_⟩) (by assumption) ?_
        rotate_left
        · intro w hSw
          go_simp
          first | done | with_reducible rfl
        try simp only [Act.put, List.setIfInBounds_toArray, List.set_cons_zero, List.set_cons_succ]
        refine wpAnyH_take (i := 9) (oi := _) (v := ?_) rfl (by kernel_rfl) (by kernel_rfl) (by kernel_rfl) (fun _ _ _ h => h) (Or.inl ⟨by rfl, ?_⟩) (by assumption) ?_
        rotate_left
        · intro w hSw
          go_simp
          first | done | with_reducible rfl
        try simp only [Act.put, List.setIfInBounds_toArray, List.set_cons_zero, List.set_cons_succ]
        refine wpAnyH_strong (S' := fun W => Kp [R] wS.drew W) (fun W h => Kp.then (Kp.of [R] OwD) h) ?_
        have hHeldN : (fun W => Kp [R] wS.drew W) wS.drew := Kp.refl _ _
        clear CP0 CP1
        have BR := BR.drew
        generalize wS.drew = wD at *
        refine wpAnyH_ready (rs := [1]) (by kernel_rfl) (by simp) ?_
        refine AllReadyH.cons (o := _) rfl (fun K hK => ?_) AllReadyH.nil
        go_simp
        have OA := (On.refl wD).alloc (.cells #[] 123)
        have NA := Own.new (base := w.heap.size) wD 123 2 #[] 0 (Nat.zero_le _) rfl OWD.size
        have OwA := OWD.call OA
        have hzD := OWD.size
        refine hK.out _ _ (Kp.of [R] OA) (fun hHeld => ?_)
        clear hK K
        try simp only [Act.put, List.setIfInBounds_toArray, List.set_cons_zero, List.set_cons_succ]
        generalize hA : wD.heap.size = A at *
        generalize wD.alloc (.cells #[] 123) = wA at *
        refine wpAnyH_ready (rs := [5]) (by kernel_rfl) (by simp) ?_
        refine AllReadyH.cons (o := _) rfl (fun K hK => ?_) AllReadyH.nil
        refine step_append_any rfl _ _ 121 rfl w.heap.size 123 i2 (.agg #[.int .i64 0, .slice none 0 0]) 2 32 Tryd.underlying121 hi2 hz2 hs2 hb2 rfl (by omega) (.slice (some ⟨A, 0, none⟩) 0 0) 0 [] rfl NA.own ⟨g, 0, none⟩ m (m + 1) ((hcells X).take (2 * m)) rfl (by rw [List.length_take, hcells_length, HN.out]; omega) (fun j u hu => HNEW1.out m wA OwA j u hu) (fun u hu => hcells_one _ (List.mem_of_mem_take hu)) (by unfold maxLen; omega) (by omega) OwA.size ?_
        intro v1 w4 hown1 hgr1 hnil1 hob1
        have HOB : (Value.slice (some ⟨A, 0, none⟩) 0 0).ownBlock = some A := rfl
        have hv1 : ∀ y, v1.ownBlock = some y → wD.heap.size ≤ y := fun y hy => by
          rcases hob1 with e | e
          · rw [e, HOB] at hy; cases hy; omega
          · rw [e] at hy; cases hy; exact OA.size
        have Ow1 : On w w4 := OwA.grown hgr1 (fun y hy => by rw [HOB] at hy; cases hy; omega)
        have O4 : On wD w4 := OA.grown hgr1 (fun y hy => by rw [HOB] at hy; cases hy; omega)
        have hnn1 : v1 ≠ .slice none 0 0 := fun e => by cases (hnil1.1 e).1
        show K (Act.put _ (some 58) v1) w4
        refine hK.out _ _ (Kp.of [R] O4) (fun hHeld => ?_)
        clear hK K
        try simp only [Act.put, List.setIfInBounds_toArray, List.set_cons_zero, List.set_cons_succ]
        refine wpAnyH_ready (rs := [10]) (by kernel_rfl) (by simp) ?_
        refine AllReadyH.cons (o := _) rfl (fun K hK => ?_) AllReadyH.nil
        refine step_append_any rfl _ _ 121 rfl w.heap.size 123 i2 (.agg #[.int .i64 0, .slice none 0 0]) 2 32 Tryd.underlying121 hi2 hz2 hs2 hb2 rfl (by omega) v1 (0 + m) _ rfl hown1 ⟨g, 0, none⟩ 0 0 ((hcells X).drop (2 * (m + 1))) rfl (by rw [List.length_drop, hcells_length, HN.out]; have := HN1.out; omega) (fun j u hu => HNEW2.out w4 Ow1 j u hu) (fun u hu => hcells_one _ (List.mem_of_mem_drop hu)) (by unfold maxLen; omega) (by omega) Ow1.size ?_
        intro v2 w5 hown2 hgr2 hnil2 hob2
        have Ow2 : On w w5 := Ow1.grown hgr2 (fun y hy => by have := hv1 y hy; omega)
        have O5 : On wD w5 := O4.grown hgr2 hv1
        have BR5 := BR.call O5.out
        have hRw := HRB.out
        have hv2 : ∀ y, v2.ownBlock = some y → y ≠ R := fun y hy => by
          have := BR.lt
          rcases hob2 with e | e
          · rw [e] at hy; have := hv1 y hy; omega
          · rw [e] at hy; cases hy; have := O4.size; omega
        have hnn2 : v2 ≠ .slice none 0 0 := fun e => hnn1 (hnil2.1 e).1
        show K (Act.put _ (some 63) v2) w5
        refine hK.out _ _ (Kp.of [R] O5) (fun hHeld => ?_)
        clear hK K
        try simp only [Act.put, List.setIfInBounds_toArray, List.set_cons_zero, List.set_cons_succ]
        have ce0 : w5.cell? ⟨R, 0, none⟩ = some (.int .i64 0) := (BR5.cell 0).trans rfl
        have ce1 : w5.cell? ⟨R, 1, none⟩ = some (.slice none 0 0) := (BR5.cell 1).trans rfl
        have fe : ∀ i, w5.frozen? ⟨R, i, none⟩ = false := BR5.frozen
        refine wpAnyH_ready (rs := [11]) (by kernel_rfl) (by simp) ?_
        refine AllReadyH.cons (o := _) rfl (fun K hK => ?_) AllReadyH.nil
        go_simp
        have KS : Kp [R] w5 ((w5.setCell ⟨R, 0, none⟩ (.int .i64 (xa.1.c : Int))).setCell ⟨R, 1, none⟩ (.slice (some ⟨xa.2.1, 0, none⟩) xa.1.s.length xa.2.2)) := ((Kp.refl _ _).set (.inl (by simp)) _).set (.inl (by simp)) _
        have BF := (BR5.set 0 (.int .i64 (xa.1.c : Int))).set 1 (.slice (some ⟨xa.2.1, 0, none⟩) xa.1.s.length xa.2.2)
        refine hK.out _ _ ((Kp.of [R] O5).then KS) (fun hHeld => ?_)
        clear hK K
        try simp only [Act.put, List.setIfInBounds_toArray, List.set_cons_zero, List.set_cons_succ]
        refine wpAnyH_take (i := 12) (oi := _) (v := ?_) rfl (by kernel_rfl) (by kernel_rfl) (by kernel_rfl) (fun _ _ _ h => h) (Or.inl ⟨by rfl, ?_⟩) (by assumption) ?_
        rotate_left
        · intro w hSw
          go_simp
          first | done | with_reducible rfl
        try simp only [Act.put, List.setIfInBounds_toArray, List.set_cons_zero, List.set_cons_succ]
        refine wpAnyH_done (by kernel_rfl) ?_ _
        clear ce0 ce1 fe hHeld hHeldN
        generalize ((w5.setCell ⟨R, 0, none⟩ (.int .i64 (xa.1.c : Int))).setCell ⟨R, 1, none⟩ (.slice (some ⟨xa.2.1, 0, none⟩) xa.1.s.length xa.2.2)) = w6 at *
        go_wp2_with fail
        refine bodyPost_ret (v := .tuple #[.agg #[.int .i64 (xa.1.c : Int), .slice (some ⟨xa.2.1, 0, none⟩) xa.1.s.length xa.2.2], v2]) (by exact res_ct (fn := Tryd.f131) (p := 2) (u := 3) rfl BF rfl Tryd.underlying123 rfl (by kernel_rfl)) rfl ⟨m, xa, v2, by rw [HLX.out]; exact HLE.out.symm, HXA.out, rfl, ⟨KS.owns ?_ (fun y hy => by simpa using hv2 y hy), hnn2⟩, KS.on Ow2 (fun x hx => by simp at hx; omega)⟩
        rw [hcells_erase, show n - 1 = 0 + m + 0 from by have := HN1.out; omega]
        exact hown2
      · have HNEW2 := Lib.hid (show ∀ W, On w W → ∀ j u, ((hcells X).drop (2 * (m + 1)))[j]? = some u → W.cell? ((⟨g, (m + 1) * 2, none⟩ : Addr).add j) = some u from fun W O j u hu => by
          have ha : (⟨g, (m + 1) * 2, none⟩ : Addr).add j = ⟨g, (m + 1) * 2 + j, none⟩ := by unfold Addr.add; split <;> simp_all
          rw [ha]
          refine (HX.out.on O).cell ?_
          rw [List.getElem?_drop] at hu
          rw [Nat.mul_comm (m + 1) 2]; exact hu)
        have CP0 := fun W h => (HCP.out W h).1
        have CP1 := fun W h => (HCP.out W h).2
        refine wp_region_held_drew (S := fun W => Kp [R] wS W) (by kernel_rfl) (Kp.refl _ _).drew (fun hHeld => ?_)
        have OwD := (On.refl wS).drew
        have OWD := OwS.call OwD
        refine wpAnyH_take (i := 0) (oi := _) (v := ?_) rfl (by kernel_rfl) (by kernel_rfl) (by kernel_rfl) (fun _ _ _ h => h) (Or.inl ⟨by rfl, ?_⟩) (by assumption) ?_
        rotate_left
        · intro w hSw
          go_simp
          first | done | with_reducible rfl
        try simp only [Act.put, List.setIfInBounds_toArray, List.set_cons_zero, List.set_cons_succ]
        refine wpAnyH_take (i := 2) (oi := _) (v := ?_) rfl (by kernel_rfl) (by kernel_rfl) (by kernel_rfl) (fun _ _ _ h => h) (Or.inl ⟨by rfl, ?_⟩) (by assumption) ?_
        rotate_left
        · intro w hSw
          go_simp
          first | done | with_reducible rfl
        try simp only [Act.put, List.setIfInBounds_toArray, List.set_cons_zero, List.set_cons_succ]
        refine wpAnyH_take (i := 3) (oi := _) (v := ?_) rfl (by kernel_rfl) (by kernel_rfl) (by kernel_rfl) (fun _ _ _ h => h) (Or.inl ⟨by rfl, ?_⟩) (by assumption) ?_
        rotate_left
        · intro w hSw
          go_simp
          first | done | with_reducible rfl
        try simp only [Act.put, List.setIfInBounds_toArray, List.set_cons_zero, List.set_cons_succ]
        refine wpAnyH_take (i := 4) (oi := _) (v := ?_) rfl (by kernel_rfl) (by kernel_rfl) (by kernel_rfl) (fun _ _ _ h => h) (Or.inl ⟨by rfl, ?_⟩) (by assumption) ?_
        rotate_left
        · intro w hSw
          go_simp
          first | done | with_reducible rfl
        try simp only [Act.put, List.setIfInBounds_toArray, List.set_cons_zero, List.set_cons_succ]
        refine wpAnyH_take (i := 6) (oi := _) (v := ?_) rfl (by kernel_rfl) (by kernel_rfl) (by kernel_rfl) (fun _ _ _ h => h) (Or.inl ⟨by rfl, ?_⟩) (by assumption) ?_
        rotate_left
        · intro w hSw
          go_simp
          first | done | with_reducible rfl
        try simp only [Act.put, List.setIfInBounds_toArray, List.set_cons_zero, List.set_cons_succ]
        refine wpAnyH_take (i := 7) (oi := _) (v := ?_) rfl (by kernel_rfl) (by kernel_rfl) (by kernel_rfl) (fun _ _ _ h => h) (Or.inl ⟨by rfl, ?_⟩) (by assumption) ?_
        rotate_left
        · intro w hSw
          go_simp
          first | done | with_reducible rfl
        try simp only [Act.put, List.setIfInBounds_toArray, List.set_cons_zero, List.set_cons_succ]
        refine wpAnyH_take (i := 8) (oi := _) (v := ?_) rfl (by kernel_rfl) (by kernel_rfl) (by kernel_rfl) (fun _ _ _ h => h) (Or.inl ⟨by rfl, ?_⟩) (by assumption) ?_
        rotate_left
        · intro w hSw
          go_simp
          first | done | with_reducible rfl
        try simp only [Act.put, List.setIfInBounds_toArray, List.set_cons_zero, List.set_cons_succ]
        refine wpAnyH_take (i := 9) (oi := _) (v := ?_) rfl (by kernel_rfl) (by kernel_rfl) (by kernel_rfl) (fun _ _ _ h => h) (Or.inl ⟨by rfl, ?_⟩) (by assumption) ?_
        rotate_left
        · intro w hSw
          go_simp
          first | done | with_reducible rfl
        try simp only [Act.put, List.setIfInBounds_toArray, List.set_cons_zero, List.set_cons_succ]
        refine wpAnyH_strong (S' := fun W => Kp [R] wS.drew W) (fun W h => Kp.then (Kp.of [R] OwD) h) ?_
        have hHeldN : (fun W => Kp [R] wS.drew W) wS.drew := Kp.refl _ _
        clear CP0 CP1
        have BR := BR.drew
        generalize wS.drew = wD at *
        refine wpAnyH_ready (rs := [1]) (by kernel_rfl) (by simp) ?_
        refine AllReadyH.cons (o := _) rfl (fun K hK => ?_) AllReadyH.nil
        go_simp
        have OA := (On.refl wD).alloc (.cells #[] 123)
        have NA := Own.new (base := w.heap.size) wD 123 2 #[] 0 (Nat.zero_le _) rfl OWD.size
        have OwA := OWD.call OA
        have hzD := OWD.size
        refine hK.out _ _ (Kp.of [R] OA) (fun hHeld => ?_)
        clear hK K
        try simp only [Act.put, List.setIfInBounds_toArray, List.set_cons_zero, List.set_cons_succ]
        generalize hA : wD.heap.size = A at *
        generalize wD.alloc (.cells #[] 123) = wA at *
        refine wpAnyH_ready (rs := [5]) (by kernel_rfl) (by simp) ?_
        refine AllReadyH.cons (o := _) rfl (fun K hK => ?_) AllReadyH.nil
        refine step_append_any rfl _ _ 121 rfl w.heap.size 123 i2 (.agg #[.int .i64 0, .slice none 0 0]) 2 32 Tryd.underlying121 hi2 hz2 hs2 hb2 rfl (by omega) (.slice (some ⟨A, 0, none⟩) 0 0) 0 [] rfl NA.own ⟨g, 0, none⟩ m cap ((hcells X).take (2 * m)) rfl (by rw [List.length_take, hcells_length, HN.out]; omega) (fun j u hu => HNEW1.out m wA OwA j u hu) (fun u hu => hcells_one _ (List.mem_of_mem_take hu)) (by unfold maxLen; omega) (by omega) OwA.size ?_
        intro v1 w4 hown1 hgr1 hnil1 hob1
        have HOB : (Value.slice (some ⟨A, 0, none⟩) 0 0).ownBlock = some A := rfl
        have hv1 : ∀ y, v1.ownBlock = some y → wD.heap.size ≤ y := fun y hy => by
          rcases hob1 with e | e
          · rw [e, HOB] at hy; cases hy; omega
          · rw [e] at hy; cases hy; exact OA.size
        have Ow1 : On w w4 := OwA.grown hgr1 (fun y hy => by rw [HOB] at hy; cases hy; omega)
        have O4 : On wD w4 := OA.grown hgr1 (fun y hy => by rw [HOB] at hy; cases hy; omega)
        have hnn1 : v1 ≠ .slice none 0 0 := fun e => by cases (hnil1.1 e).1
        show K (Act.put _ (some 58) v1) w4
        refine hK.out _ _ (Kp.of [R] O4) (fun hHeld => ?_)
        clear hK K
        try simp only [Act.put, List.setIfInBounds_toArray, List.set_cons_zero, List.set_cons_succ]
        refine wpAnyH_ready (rs := [10]) (by kernel_rfl) (by simp) ?_
        refine AllReadyH.cons (o := _) rfl (fun K hK => ?_) AllReadyH.nil
        refine step_append_any rfl _ _ 121 rfl w.heap.size 123 i2 (.agg #[.int .i64 0, .slice none 0 0]) 2 32 Tryd.underlying121 hi2 hz2 hs2 hb2 rfl (by omega) v1 (0 + m) _ rfl hown1 ⟨g, (m + 1) * 2, none⟩ (n - (m + 1)) (cap - (m + 1)) ((hcells X).drop (2 * (m + 1))) rfl (by rw [List.length_drop, hcells_length, HN.out]; omega) (fun j u hu => HNEW2.out w4 Ow1 j u hu) (fun u hu => hcells_one _ (List.mem_of_mem_drop hu)) (by unfold maxLen; omega) (by omega) Ow1.size ?_
        intro v2 w5 hown2 hgr2 hnil2 hob2
        have Ow2 : On w w5 := Ow1.grown hgr2 (fun y hy => by have := hv1 y hy; omega)
        have O5 : On wD w5 := O4.grown hgr2 hv1
        have BR5 := BR.call O5.out
        have hRw := HRB.out
        have hv2 : ∀ y, v2.ownBlock = some y → y ≠ R := fun y hy => by
          have := BR.lt
          rcases hob2 with e | e
          · rw [e] at hy; have := hv1 y hy; omega
          · rw [e] at hy; cases hy; have := O4.size; omega
        have hnn2 : v2 ≠ .slice none 0 0 := fun e => hnn1 (hnil2.1 e).1
        show K (Act.put _ (some 63) v2) w5
        refine hK.out _ _ (Kp.of [R] O5) (fun hHeld => ?_)
        clear hK K
        try simp only [Act.put, List.setIfInBounds_toArray, List.set_cons_zero, List.set_cons_succ]
        have ce0 : w5.cell? ⟨R, 0, none⟩ = some (.int .i64 0) := (BR5.cell 0).trans rfl
        have ce1 : w5.cell? ⟨R, 1, none⟩ = some (.slice none 0 0) := (BR5.cell 1).trans rfl
        have fe : ∀ i, w5.frozen? ⟨R, i, none⟩ = false := BR5.frozen
        refine wpAnyH_ready (rs := [11]) (by kernel_rfl) (by simp) ?_
        refine AllReadyH.cons (o := _) rfl (fun K hK => ?_) AllReadyH.nil
        go_simp
        have KS : Kp [R] w5 ((w5.setCell ⟨R, 0, none⟩ (.int .i64 (xa.1.c : Int))).setCell ⟨R, 1, none⟩ (.slice (some ⟨xa.2.1, 0, none⟩) xa.1.s.length xa.2.2)) := ((Kp.refl _ _).set (.inl (by simp)) _).set (.inl (by simp)) _
        have BF := (BR5.set 0 (.int .i64 (xa.1.c : Int))).set 1 (.slice (some ⟨xa.2.1, 0, none⟩) xa.1.s.length xa.2.2)
        refine hK.out _ _ ((Kp.of [R] O5).then KS) (fun hHeld => ?_)
        clear hK K
        try simp only [Act.put, List.setIfInBounds_toArray, List.set_cons_zero, List.set_cons_succ]
        refine wpAnyH_take (i := 12) (oi := _) (v := ?_) rfl (by kernel_rfl) (by kernel_rfl) (by kernel_rfl) (fun _ _ _ h => h) (Or.inl ⟨by rfl, ?_⟩) (by assumption) ?_
        rotate_left
        · intro w hSw
          go_simp
          first | done | with_reducible rfl
        try simp only [Act.put, List.setIfInBounds_toArray, List.set_cons_zero, List.set_cons_succ]
        refine wpAnyH_done (by kernel_rfl) ?_ _
        clear ce0 ce1 fe hHeld hHeldN
        generalize ((w5.setCell ⟨R, 0, none⟩ (.int .i64 (xa.1.c : Int))).setCell ⟨R, 1, none⟩ (.slice (some ⟨xa.2.1, 0, none⟩) xa.1.s.length xa.2.2)) = w6 at *
        go_wp2_with fail
        refine bodyPost_ret (v := .tuple #[.agg #[.int .i64 (xa.1.c : Int), .slice (some ⟨xa.2.1, 0, none⟩) xa.1.s.length xa.2.2], v2]) (by exact res_ct (fn := Tryd.f131) (p := 2) (u := 3) rfl BF rfl Tryd.underlying123 rfl (by kernel_rfl)) rfl ⟨m, xa, v2, by rw [HLX.out]; exact HLE.out.symm, HXA.out, rfl, ⟨KS.owns ?_ (fun y hy => by simpa using hv2 y hy), hnn2⟩, KS.on Ow2 (fun x hx => by simp at hx; omega)⟩
        rw [hcells_erase, show n - 1 = 0 + m + (n - (m + 1)) from by omega]
        exact hown2
end Go.Proofs.YtncidljdfipigaaDoor.Wi

