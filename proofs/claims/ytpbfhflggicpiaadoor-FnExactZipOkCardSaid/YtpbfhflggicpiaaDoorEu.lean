/- A law's file: how many bytes are left, and as the program's own. Conditions: texts that a machine can hold. -/
import Derived.Test.YtpbfhflggicpiaaDoorNm
import Derived.Lib.Hide
import Derived.Deep.DeepCutAuto
namespace Go.Proofs.YtpbfhflggicpiaaDoor.Nm
open Go.RowKit Go.Proofs.YtpbfhflggicpiaaDoor.Mem
set_option linter.unusedVariables false
set_option linter.unusedSimpArgs false
/-- A file as one value: its name, its stamp's six numbers, its text. -/
def ent (nm : ByteArray) (y m d h mi s : Int) (tx : ByteArray) : Value := .agg #[.string nm, .int .i64 y, .int .i64 m, .int .i64 d, .int .i64 h, .int .i64 mi, .int .i64 s, .string tx]
/-- How many bytes are left behind a file. -/
def leftOf (nm tx : ByteArray) (left : Int) : Int := if left < nm.size then -1 else if left - nm.size < tx.size then -1 else left - nm.size - tx.size
set_option maxRecDepth 100000 in
theorem szentry_calls (nm : ByteArray) (y m d h mi s : Int) (tx : ByteArray) (left : Int) (w : World) (hn : nm.size ≤ maxLen) (ht : tx.size ≤ maxLen) (hl0 : 0 ≤ left) (hl1 : left ≤ 1048576) :
    Calls Tryd.prog 12 #[.agg #[.string nm, .int .i64 y, .int .i64 m, .int .i64 d, .int .i64 h, .int .i64 mi, .int .i64 s, .string tx], .int .i64 left] w (Tells w (.int .i64 (leftOf nm tx left))) := by
  unfold maxLen at hn ht
  have OA := (On.refl w).alloc (.cells #[.string nm, .int .i64 y, .int .i64 m, .int .i64 d, .int .i64 h, .int .i64 mi, .int .i64 s, .string tx] 29)
  by_cases h1 : left < nm.size
  · have HR : RowKit.Hid (leftOf nm tx left = -1) := Lib.hid (by unfold leftOf; rw [if_pos h1])
    have e1 : IntKind.i64.wrap (left - (nm.size : Int)) = left - nm.size := by rw [IntKind.wrap_i64]; omega
    have h1' : left - (nm.size : Int) < 0 := by omega
    go_enter Tryd.func12, Tryd.ntmps12
    go_wp2_with fail
    go_ret
    exact ⟨by rw [HR.out]; rfl, OA⟩
  · have e1 : IntKind.i64.wrap (left - (nm.size : Int)) = left - nm.size := by rw [IntKind.wrap_i64]; omega
    have h1' : ¬ left - (nm.size : Int) < 0 := by omega
    have e2 : IntKind.i64.wrap (left - (nm.size : Int) - (tx.size : Int)) = left - nm.size - tx.size := by rw [IntKind.wrap_i64]; omega
    by_cases h2 : left - nm.size < tx.size
    · have HR : RowKit.Hid (leftOf nm tx left = -1) := Lib.hid (by unfold leftOf; rw [if_neg h1, if_pos h2])
      have h2' : left - (nm.size : Int) - tx.size < 0 := by omega
      go_enter Tryd.func12, Tryd.ntmps12
      go_wp2_with fail
      go_ret
      exact ⟨by rw [HR.out]; rfl, OA⟩
    · have HR : RowKit.Hid (leftOf nm tx left = left - nm.size - tx.size) := Lib.hid (by unfold leftOf; rw [if_neg h1, if_neg h2])
      have h2' : ¬ left - (nm.size : Int) - tx.size < 0 := by omega
      go_enter Tryd.func12, Tryd.ntmps12
      go_wp2_with fail
      go_ret
      exact ⟨by rw [HR.out]; rfl, OA⟩
set_option maxRecDepth 100000 in
set_option maxHeartbeats 2000000 in
theorem tostamp_calls (y m d h mi s : Int) (w : World) :
    Calls Tryd.prog 29 #[.agg #[.int .i64 y, .int .i64 m, .int .i64 d, .int .i64 h, .int .i64 mi, .int .i64 s]] w (Tells w (.agg #[.int .i64 y, .int .i64 m, .int .i64 d, .int .i64 h, .int .i64 mi, .int .i64 s])) := by
  go_enter Tryd.func29, Tryd.ntmps29
  go_upto_region 2 with fail
  have Z1 : (w.alloc (.cells #[.int .i64 y, .int .i64 m, .int .i64 d, .int .i64 h, .int .i64 mi, .int .i64 s] 27)).heap.size = w.heap.size + 1 := Array.size_push _
  have Z2 : ((w.alloc (.cells #[.int .i64 y, .int .i64 m, .int .i64 d, .int .i64 h, .int .i64 mi, .int .i64 s] 27)).alloc (.cells #[.int .i64 0, .int .i64 0, .int .i64 0, .int .i64 0, .int .i64 0, .int .i64 0] 32)).heap.size = w.heap.size + 1 + 1 := by rw [← Z1]; exact Array.size_push _
  have O3 := (((On.refl w).alloc (.cells #[.int .i64 y, .int .i64 m, .int .i64 d, .int .i64 h, .int .i64 mi, .int .i64 s] 27)).alloc (.cells #[.int .i64 0, .int .i64 0, .int .i64 0, .int .i64 0, .int .i64 0, .int .i64 0] 32)).alloc (.cells #[.int .i64 0, .int .i64 0, .int .i64 0, .int .i64 0, .int .i64 0, .int .i64 0] 32)
  have BA := ((Blk.new w 27 #[.int .i64 y, .int .i64 m, .int .i64 d, .int .i64 h, .int .i64 mi, .int .i64 s]).alloc (.cells #[.int .i64 0, .int .i64 0, .int .i64 0, .int .i64 0, .int .i64 0, .int .i64 0] 32)).alloc (.cells #[.int .i64 0, .int .i64 0, .int .i64 0, .int .i64 0, .int .i64 0, .int .i64 0] 32)
  have BR := (Blk.new (w.alloc (.cells #[.int .i64 y, .int .i64 m, .int .i64 d, .int .i64 h, .int .i64 mi, .int .i64 s] 27)) 32 #[.int .i64 0, .int .i64 0, .int .i64 0, .int .i64 0, .int .i64 0, .int .i64 0]).alloc (.cells #[.int .i64 0, .int .i64 0, .int .i64 0, .int .i64 0, .int .i64 0, .int .i64 0] 32)
  have BL := Blk.new ((w.alloc (.cells #[.int .i64 y, .int .i64 m, .int .i64 d, .int .i64 h, .int .i64 mi, .int .i64 s] 27)).alloc (.cells #[.int .i64 0, .int .i64 0, .int .i64 0, .int .i64 0, .int .i64 0, .int .i64 0] 32)) 32 #[.int .i64 0, .int .i64 0, .int .i64 0, .int .i64 0, .int .i64 0, .int .i64 0]
  rw [Z1] at BR
  rw [Z2] at BL
  generalize hA : w.heap.size = A at *
  generalize (((w.alloc (.cells #[.int .i64 y, .int .i64 m, .int .i64 d, .int .i64 h, .int .i64 mi, .int .i64 s] 27)).alloc (.cells #[.int .i64 0, .int .i64 0, .int .i64 0, .int .i64 0, .int .i64 0, .int .i64 0] 32)).alloc (.cells #[.int .i64 0, .int .i64 0, .int .i64 0, .int .i64 0, .int .i64 0, .int .i64 0] 32)) = w0 at *
  clear Z1 Z2
  have n1 : ¬ A = A + 1 := by omega
  have n2 : ¬ A = A + 1 + 1 := by omega
  have n3 : ¬ A + 1 = A + 1 + 1 := by omega
  have a0 : w0.cell? ⟨A, 0, none⟩ = some (.int .i64 y) := (BA.cell 0).trans rfl
  have l0 : w0.cell? ⟨A + 1 + 1, 0, none⟩ = some (.int .i64 0) := (BL.cell 0).trans rfl
  have f0 : w0.frozen? ⟨A + 1 + 1, 0, none⟩ = false := BL.frozen _
  go_upto_region 3 with fail
  replace BA := BA.far (p := ⟨A + 1 + 1, 0, none⟩) (show A ≠ A + 1 + 1 by omega) (.int .i64 y)
  replace BR := BR.far (p := ⟨A + 1 + 1, 0, none⟩) (show A + 1 ≠ A + 1 + 1 by omega) (.int .i64 y)
  replace BL := BL.set 0 (.int .i64 y)
  simp only [List.setIfInBounds_toArray, List.set_cons_zero, List.set_cons_succ] at BL
  replace O3 := O3.set (p := ⟨A + 1 + 1, 0, none⟩) (show w.heap.size ≤ A + 1 + 1 by omega) (.int .i64 y)
  generalize w0.setCell ⟨A + 1 + 1, 0, none⟩ (.int .i64 y) = w1 at *
  clear a0 l0 f0
  have a1 : w1.cell? ⟨A, 1, none⟩ = some (.int .i64 m) := (BA.cell 1).trans rfl
  have l1 : w1.cell? ⟨A + 1 + 1, 1, none⟩ = some (.int .i64 0) := (BL.cell 1).trans rfl
  have f1 : w1.frozen? ⟨A + 1 + 1, 1, none⟩ = false := BL.frozen _
  go_upto_region 4 with fail
  replace BA := BA.far (p := ⟨A + 1 + 1, 1, none⟩) (show A ≠ A + 1 + 1 by omega) (.int .i64 m)
  replace BR := BR.far (p := ⟨A + 1 + 1, 1, none⟩) (show A + 1 ≠ A + 1 + 1 by omega) (.int .i64 m)
  replace BL := BL.set 1 (.int .i64 m)
  simp only [List.setIfInBounds_toArray, List.set_cons_zero, List.set_cons_succ] at BL
  replace O3 := O3.set (p := ⟨A + 1 + 1, 1, none⟩) (show w.heap.size ≤ A + 1 + 1 by omega) (.int .i64 m)
  generalize w1.setCell ⟨A + 1 + 1, 1, none⟩ (.int .i64 m) = w2 at *
  clear a1 l1 f1
  have a2 : w2.cell? ⟨A, 2, none⟩ = some (.int .i64 d) := (BA.cell 2).trans rfl
  have l2 : w2.cell? ⟨A + 1 + 1, 2, none⟩ = some (.int .i64 0) := (BL.cell 2).trans rfl
  have f2 : w2.frozen? ⟨A + 1 + 1, 2, none⟩ = false := BL.frozen _
  go_upto_region 5 with fail
  replace BA := BA.far (p := ⟨A + 1 + 1, 2, none⟩) (show A ≠ A + 1 + 1 by omega) (.int .i64 d)
  replace BR := BR.far (p := ⟨A + 1 + 1, 2, none⟩) (show A + 1 ≠ A + 1 + 1 by omega) (.int .i64 d)
  replace BL := BL.set 2 (.int .i64 d)
  simp only [List.setIfInBounds_toArray, List.set_cons_zero, List.set_cons_succ] at BL
  replace O3 := O3.set (p := ⟨A + 1 + 1, 2, none⟩) (show w.heap.size ≤ A + 1 + 1 by omega) (.int .i64 d)
  generalize w2.setCell ⟨A + 1 + 1, 2, none⟩ (.int .i64 d) = w3 at *
  clear a2 l2 f2
  have a3 : w3.cell? ⟨A, 3, none⟩ = some (.int .i64 h) := (BA.cell 3).trans rfl
  have l3 : w3.cell? ⟨A + 1 + 1, 3, none⟩ = some (.int .i64 0) := (BL.cell 3).trans rfl
  have f3 : w3.frozen? ⟨A + 1 + 1, 3, none⟩ = false := BL.frozen _
  go_upto_region 6 with fail
  replace BA := BA.far (p := ⟨A + 1 + 1, 3, none⟩) (show A ≠ A + 1 + 1 by omega) (.int .i64 h)
  replace BR := BR.far (p := ⟨A + 1 + 1, 3, none⟩) (show A + 1 ≠ A + 1 + 1 by omega) (.int .i64 h)
  replace BL := BL.set 3 (.int .i64 h)
  simp only [List.setIfInBounds_toArray, List.set_cons_zero, List.set_cons_succ] at BL
  replace O3 := O3.set (p := ⟨A + 1 + 1, 3, none⟩) (show w.heap.size ≤ A + 1 + 1 by omega) (.int .i64 h)
  generalize w3.setCell ⟨A + 1 + 1, 3, none⟩ (.int .i64 h) = w4 at *
  clear a3 l3 f3
  have a4 : w4.cell? ⟨A, 4, none⟩ = some (.int .i64 mi) := (BA.cell 4).trans rfl
  have l4 : w4.cell? ⟨A + 1 + 1, 4, none⟩ = some (.int .i64 0) := (BL.cell 4).trans rfl
  have f4 : w4.frozen? ⟨A + 1 + 1, 4, none⟩ = false := BL.frozen _
  go_upto_region 7 with fail
  replace BA := BA.far (p := ⟨A + 1 + 1, 4, none⟩) (show A ≠ A + 1 + 1 by omega) (.int .i64 mi)
  replace BR := BR.far (p := ⟨A + 1 + 1, 4, none⟩) (show A + 1 ≠ A + 1 + 1 by omega) (.int .i64 mi)
  replace BL := BL.set 4 (.int .i64 mi)
  simp only [List.setIfInBounds_toArray, List.set_cons_zero, List.set_cons_succ] at BL
  replace O3 := O3.set (p := ⟨A + 1 + 1, 4, none⟩) (show w.heap.size ≤ A + 1 + 1 by omega) (.int .i64 mi)
  generalize w4.setCell ⟨A + 1 + 1, 4, none⟩ (.int .i64 mi) = w5 at *
  clear a4 l4 f4
  have a5 : w5.cell? ⟨A, 5, none⟩ = some (.int .i64 s) := (BA.cell 5).trans rfl
  have l5 : w5.cell? ⟨A + 1 + 1, 5, none⟩ = some (.int .i64 0) := (BL.cell 5).trans rfl
  have f5 : w5.frozen? ⟨A + 1 + 1, 5, none⟩ = false := BL.frozen _
  go_upto_region 8 with fail
  replace BA := BA.far (p := ⟨A + 1 + 1, 5, none⟩) (show A ≠ A + 1 + 1 by omega) (.int .i64 s)
  replace BR := BR.far (p := ⟨A + 1 + 1, 5, none⟩) (show A + 1 ≠ A + 1 + 1 by omega) (.int .i64 s)
  replace BL := BL.set 5 (.int .i64 s)
  simp only [List.setIfInBounds_toArray, List.set_cons_zero, List.set_cons_succ] at BL
  replace O3 := O3.set (p := ⟨A + 1 + 1, 5, none⟩) (show w.heap.size ≤ A + 1 + 1 by omega) (.int .i64 s)
  generalize w5.setCell ⟨A + 1 + 1, 5, none⟩ (.int .i64 s) = w6 at *
  clear a5 l5 f5
  have l0 : w6.cell? ⟨A + 1 + 1, 0, none⟩ = some (.int .i64 y) := (BL.cell 0).trans rfl
  have r0 : w6.cell? ⟨A + 1, 0, none⟩ = some (.int .i64 0) := (BR.cell 0).trans rfl
  have l1 : w6.cell? ⟨A + 1 + 1, 1, none⟩ = some (.int .i64 m) := (BL.cell 1).trans rfl
  have r1 : w6.cell? ⟨A + 1, 1, none⟩ = some (.int .i64 0) := (BR.cell 1).trans rfl
  have l2 : w6.cell? ⟨A + 1 + 1, 2, none⟩ = some (.int .i64 d) := (BL.cell 2).trans rfl
  have r2 : w6.cell? ⟨A + 1, 2, none⟩ = some (.int .i64 0) := (BR.cell 2).trans rfl
  have l3 : w6.cell? ⟨A + 1 + 1, 3, none⟩ = some (.int .i64 h) := (BL.cell 3).trans rfl
  have r3 : w6.cell? ⟨A + 1, 3, none⟩ = some (.int .i64 0) := (BR.cell 3).trans rfl
  have l4 : w6.cell? ⟨A + 1 + 1, 4, none⟩ = some (.int .i64 mi) := (BL.cell 4).trans rfl
  have r4 : w6.cell? ⟨A + 1, 4, none⟩ = some (.int .i64 0) := (BR.cell 4).trans rfl
  have l5 : w6.cell? ⟨A + 1 + 1, 5, none⟩ = some (.int .i64 s) := (BL.cell 5).trans rfl
  have r5 : w6.cell? ⟨A + 1, 5, none⟩ = some (.int .i64 0) := (BR.cell 5).trans rfl
  have fr : ∀ i, w6.frozen? ⟨A + 1, i, none⟩ = false := BR.frozen
  go_wp2_with fail
  have BF := ((((((BR.set 0 (.int .i64 y)).set 1 (.int .i64 m)).set 2 (.int .i64 d)).set 3 (.int .i64 h)).set 4 (.int .i64 mi)).set 5 (.int .i64 s))
  simp only [List.setIfInBounds_toArray, List.set_cons_zero, List.set_cons_succ] at BF
  have OF := ((((((O3.set (p := ⟨A + 1, 0, none⟩) (show w.heap.size ≤ A + 1 by omega) (.int .i64 y)).set (p := ⟨A + 1, 1, none⟩) (show w.heap.size ≤ A + 1 by omega) (.int .i64 m)).set (p := ⟨A + 1, 2, none⟩) (show w.heap.size ≤ A + 1 by omega) (.int .i64 d)).set (p := ⟨A + 1, 3, none⟩) (show w.heap.size ≤ A + 1 by omega) (.int .i64 h)).set (p := ⟨A + 1, 4, none⟩) (show w.heap.size ≤ A + 1 by omega) (.int .i64 mi)).set (p := ⟨A + 1, 5, none⟩) (show w.heap.size ≤ A + 1 by omega) (.int .i64 s))
  exact bodyPost_ret (v := .agg #[.int .i64 y, .int .i64 m, .int .i64 d, .int .i64 h, .int .i64 mi, .int .i64 s]) (by exact res_c (fn := Tryd.f29) (p := 2) rfl BF rfl Tryd.underlying32 rfl (by kernel_rfl)) rfl ⟨rfl, OF⟩
set_option maxRecDepth 100000 in
set_option maxHeartbeats 2000000 in
theorem toentry_calls (nm : ByteArray) (y m d h mi s : Int) (tx : ByteArray) (w : World) :
    Calls Tryd.prog 14 #[ent nm y m d h mi s tx] w (Tells w (ent nm y m d h mi s tx)) := by
  unfold ent
  go_enter Tryd.func14, Tryd.ntmps14
  go_upto_region 2 with fail
  have Z1 : (w.alloc (.cells #[.string nm, .int .i64 y, .int .i64 m, .int .i64 d, .int .i64 h, .int .i64 mi, .int .i64 s, .string tx] 29)).heap.size = w.heap.size + 1 := Array.size_push _
  have Z2 : ((w.alloc (.cells #[.string nm, .int .i64 y, .int .i64 m, .int .i64 d, .int .i64 h, .int .i64 mi, .int .i64 s, .string tx] 29)).alloc (.cells #[.string ⟨#[]⟩, .int .i64 0, .int .i64 0, .int .i64 0, .int .i64 0, .int .i64 0, .int .i64 0, .string ⟨#[]⟩] 34)).heap.size = w.heap.size + 1 + 1 := by rw [← Z1]; exact Array.size_push _
  have O3 := (((On.refl w).alloc (.cells #[.string nm, .int .i64 y, .int .i64 m, .int .i64 d, .int .i64 h, .int .i64 mi, .int .i64 s, .string tx] 29)).alloc (.cells #[.string ⟨#[]⟩, .int .i64 0, .int .i64 0, .int .i64 0, .int .i64 0, .int .i64 0, .int .i64 0, .string ⟨#[]⟩] 34)).alloc (.cells #[.string ⟨#[]⟩, .int .i64 0, .int .i64 0, .int .i64 0, .int .i64 0, .int .i64 0, .int .i64 0, .string ⟨#[]⟩] 34)
  have BA := ((Blk.new w 29 #[.string nm, .int .i64 y, .int .i64 m, .int .i64 d, .int .i64 h, .int .i64 mi, .int .i64 s, .string tx]).alloc (.cells #[.string ⟨#[]⟩, .int .i64 0, .int .i64 0, .int .i64 0, .int .i64 0, .int .i64 0, .int .i64 0, .string ⟨#[]⟩] 34)).alloc (.cells #[.string ⟨#[]⟩, .int .i64 0, .int .i64 0, .int .i64 0, .int .i64 0, .int .i64 0, .int .i64 0, .string ⟨#[]⟩] 34)
  have BR := (Blk.new (w.alloc (.cells #[.string nm, .int .i64 y, .int .i64 m, .int .i64 d, .int .i64 h, .int .i64 mi, .int .i64 s, .string tx] 29)) 34 #[.string ⟨#[]⟩, .int .i64 0, .int .i64 0, .int .i64 0, .int .i64 0, .int .i64 0, .int .i64 0, .string ⟨#[]⟩]).alloc (.cells #[.string ⟨#[]⟩, .int .i64 0, .int .i64 0, .int .i64 0, .int .i64 0, .int .i64 0, .int .i64 0, .string ⟨#[]⟩] 34)
  have BL := Blk.new ((w.alloc (.cells #[.string nm, .int .i64 y, .int .i64 m, .int .i64 d, .int .i64 h, .int .i64 mi, .int .i64 s, .string tx] 29)).alloc (.cells #[.string ⟨#[]⟩, .int .i64 0, .int .i64 0, .int .i64 0, .int .i64 0, .int .i64 0, .int .i64 0, .string ⟨#[]⟩] 34)) 34 #[.string ⟨#[]⟩, .int .i64 0, .int .i64 0, .int .i64 0, .int .i64 0, .int .i64 0, .int .i64 0, .string ⟨#[]⟩]
  rw [Z1] at BR
  rw [Z2] at BL
  generalize hA : w.heap.size = A at *
  generalize (((w.alloc (.cells #[.string nm, .int .i64 y, .int .i64 m, .int .i64 d, .int .i64 h, .int .i64 mi, .int .i64 s, .string tx] 29)).alloc (.cells #[.string ⟨#[]⟩, .int .i64 0, .int .i64 0, .int .i64 0, .int .i64 0, .int .i64 0, .int .i64 0, .string ⟨#[]⟩] 34)).alloc (.cells #[.string ⟨#[]⟩, .int .i64 0, .int .i64 0, .int .i64 0, .int .i64 0, .int .i64 0, .int .i64 0, .string ⟨#[]⟩] 34)) = w0 at *
  clear Z1 Z2
  have n1 : ¬ A = A + 1 := by omega
  have n2 : ¬ A = A + 1 + 1 := by omega
  have n3 : ¬ A + 1 = A + 1 + 1 := by omega
  have a0 : w0.cell? ⟨A, 0, none⟩ = some (.string nm) := (BA.cell 0).trans rfl
  have l0 : w0.cell? ⟨A + 1 + 1, 0, none⟩ = some (.string ⟨#[]⟩) := (BL.cell 0).trans rfl
  have f0 : w0.frozen? ⟨A + 1 + 1, 0, none⟩ = false := BL.frozen _
  go_upto_region 3 with fail
  replace BA := BA.far (p := ⟨A + 1 + 1, 0, none⟩) (show A ≠ A + 1 + 1 by omega) (.string nm)
  replace BR := BR.far (p := ⟨A + 1 + 1, 0, none⟩) (show A + 1 ≠ A + 1 + 1 by omega) (.string nm)
  replace BL := BL.set 0 (.string nm)
  simp only [List.setIfInBounds_toArray, List.set_cons_zero, List.set_cons_succ] at BL
  replace O3 := O3.set (p := ⟨A + 1 + 1, 0, none⟩) (show w.heap.size ≤ A + 1 + 1 by omega) (.string nm)
  generalize w0.setCell ⟨A + 1 + 1, 0, none⟩ (.string nm) = w1 at *
  clear a0 l0 f0
  have a1 : w1.cell? ⟨A, 1, none⟩ = some (.int .i64 y) := (BA.cell 1).trans rfl
  have a2 : w1.cell? ⟨A, 2, none⟩ = some (.int .i64 m) := (BA.cell 2).trans rfl
  have a3 : w1.cell? ⟨A, 3, none⟩ = some (.int .i64 d) := (BA.cell 3).trans rfl
  have a4 : w1.cell? ⟨A, 4, none⟩ = some (.int .i64 h) := (BA.cell 4).trans rfl
  have a5 : w1.cell? ⟨A, 5, none⟩ = some (.int .i64 mi) := (BA.cell 5).trans rfl
  have a6 : w1.cell? ⟨A, 6, none⟩ = some (.int .i64 s) := (BA.cell 6).trans rfl
  go_wp2_with fail
  refine (tostamp_calls y m d h mi s w1).mono ?_
  rintro e w2 ⟨rfl, O2⟩
  clear a1 a2 a3 a4 a5 a6
  replace BA := BA.call O2.out
  replace BR := BR.call O2.out
  replace BL := BL.call O2.out
  replace O3 := O3.call O2
  have l1 : w2.cell? ⟨A + 1 + 1, 1, none⟩ = some (.int .i64 0) := (BL.cell 1).trans rfl
  have l2 : w2.cell? ⟨A + 1 + 1, 2, none⟩ = some (.int .i64 0) := (BL.cell 2).trans rfl
  have l3 : w2.cell? ⟨A + 1 + 1, 3, none⟩ = some (.int .i64 0) := (BL.cell 3).trans rfl
  have l4 : w2.cell? ⟨A + 1 + 1, 4, none⟩ = some (.int .i64 0) := (BL.cell 4).trans rfl
  have l5 : w2.cell? ⟨A + 1 + 1, 5, none⟩ = some (.int .i64 0) := (BL.cell 5).trans rfl
  have l6 : w2.cell? ⟨A + 1 + 1, 6, none⟩ = some (.int .i64 0) := (BL.cell 6).trans rfl
  have fl : ∀ i, w2.frozen? ⟨A + 1 + 1, i, none⟩ = false := BL.frozen
  go_upto_region 4 with fail
  replace BA := BA.far (p := ⟨A + 1 + 1, 1, none⟩) (show A ≠ A + 1 + 1 by omega) (.int .i64 y)
  replace BR := BR.far (p := ⟨A + 1 + 1, 1, none⟩) (show A + 1 ≠ A + 1 + 1 by omega) (.int .i64 y)
  replace BL := BL.set 1 (.int .i64 y)
  simp only [List.setIfInBounds_toArray, List.set_cons_zero, List.set_cons_succ] at BL
  replace O3 := O3.set (p := ⟨A + 1 + 1, 1, none⟩) (show w.heap.size ≤ A + 1 + 1 by omega) (.int .i64 y)
  replace BA := BA.far (p := ⟨A + 1 + 1, 2, none⟩) (show A ≠ A + 1 + 1 by omega) (.int .i64 m)
  replace BR := BR.far (p := ⟨A + 1 + 1, 2, none⟩) (show A + 1 ≠ A + 1 + 1 by omega) (.int .i64 m)
  replace BL := BL.set 2 (.int .i64 m)
  simp only [List.setIfInBounds_toArray, List.set_cons_zero, List.set_cons_succ] at BL
  replace O3 := O3.set (p := ⟨A + 1 + 1, 2, none⟩) (show w.heap.size ≤ A + 1 + 1 by omega) (.int .i64 m)
  replace BA := BA.far (p := ⟨A + 1 + 1, 3, none⟩) (show A ≠ A + 1 + 1 by omega) (.int .i64 d)
  replace BR := BR.far (p := ⟨A + 1 + 1, 3, none⟩) (show A + 1 ≠ A + 1 + 1 by omega) (.int .i64 d)
  replace BL := BL.set 3 (.int .i64 d)
  simp only [List.setIfInBounds_toArray, List.set_cons_zero, List.set_cons_succ] at BL
  replace O3 := O3.set (p := ⟨A + 1 + 1, 3, none⟩) (show w.heap.size ≤ A + 1 + 1 by omega) (.int .i64 d)
  replace BA := BA.far (p := ⟨A + 1 + 1, 4, none⟩) (show A ≠ A + 1 + 1 by omega) (.int .i64 h)
  replace BR := BR.far (p := ⟨A + 1 + 1, 4, none⟩) (show A + 1 ≠ A + 1 + 1 by omega) (.int .i64 h)
  replace BL := BL.set 4 (.int .i64 h)
  simp only [List.setIfInBounds_toArray, List.set_cons_zero, List.set_cons_succ] at BL
  replace O3 := O3.set (p := ⟨A + 1 + 1, 4, none⟩) (show w.heap.size ≤ A + 1 + 1 by omega) (.int .i64 h)
  replace BA := BA.far (p := ⟨A + 1 + 1, 5, none⟩) (show A ≠ A + 1 + 1 by omega) (.int .i64 mi)
  replace BR := BR.far (p := ⟨A + 1 + 1, 5, none⟩) (show A + 1 ≠ A + 1 + 1 by omega) (.int .i64 mi)
  replace BL := BL.set 5 (.int .i64 mi)
  simp only [List.setIfInBounds_toArray, List.set_cons_zero, List.set_cons_succ] at BL
  replace O3 := O3.set (p := ⟨A + 1 + 1, 5, none⟩) (show w.heap.size ≤ A + 1 + 1 by omega) (.int .i64 mi)
  replace BA := BA.far (p := ⟨A + 1 + 1, 6, none⟩) (show A ≠ A + 1 + 1 by omega) (.int .i64 s)
  replace BR := BR.far (p := ⟨A + 1 + 1, 6, none⟩) (show A + 1 ≠ A + 1 + 1 by omega) (.int .i64 s)
  replace BL := BL.set 6 (.int .i64 s)
  simp only [List.setIfInBounds_toArray, List.set_cons_zero, List.set_cons_succ] at BL
  replace O3 := O3.set (p := ⟨A + 1 + 1, 6, none⟩) (show w.heap.size ≤ A + 1 + 1 by omega) (.int .i64 s)
  generalize ((((((w2.setCell ⟨A + 1 + 1, 1, none⟩ (.int .i64 y)).setCell ⟨A + 1 + 1, 2, none⟩ (.int .i64 m)).setCell ⟨A + 1 + 1, 3, none⟩ (.int .i64 d)).setCell ⟨A + 1 + 1, 4, none⟩ (.int .i64 h)).setCell ⟨A + 1 + 1, 5, none⟩ (.int .i64 mi)).setCell ⟨A + 1 + 1, 6, none⟩ (.int .i64 s)) = w3 at *
  clear l1 l2 l3 l4 l5 l6 fl
  have a7 : w3.cell? ⟨A, 7, none⟩ = some (.string tx) := (BA.cell 7).trans rfl
  have l7 : w3.cell? ⟨A + 1 + 1, 7, none⟩ = some (.string ⟨#[]⟩) := (BL.cell 7).trans rfl
  have f7 : w3.frozen? ⟨A + 1 + 1, 7, none⟩ = false := BL.frozen _
  go_upto_region 5 with fail
  replace BR := BR.far (p := ⟨A + 1 + 1, 7, none⟩) (show A + 1 ≠ A + 1 + 1 by omega) (.string tx)
  replace BL := BL.set 7 (.string tx)
  simp only [List.setIfInBounds_toArray, List.set_cons_zero, List.set_cons_succ] at BL
  replace O3 := O3.set (p := ⟨A + 1 + 1, 7, none⟩) (show w.heap.size ≤ A + 1 + 1 by omega) (.string tx)
  generalize w3.setCell ⟨A + 1 + 1, 7, none⟩ (.string tx) = w4 at *
  clear a7 l7 f7
  have l0 : w4.cell? ⟨A + 1 + 1, 0, none⟩ = some (.string nm) := (BL.cell 0).trans rfl
  have r0 : w4.cell? ⟨A + 1, 0, none⟩ = some (.string ⟨#[]⟩) := (BR.cell 0).trans rfl
  have l1 : w4.cell? ⟨A + 1 + 1, 1, none⟩ = some (.int .i64 y) := (BL.cell 1).trans rfl
  have r1 : w4.cell? ⟨A + 1, 1, none⟩ = some (.int .i64 0) := (BR.cell 1).trans rfl
  have l2 : w4.cell? ⟨A + 1 + 1, 2, none⟩ = some (.int .i64 m) := (BL.cell 2).trans rfl
  have r2 : w4.cell? ⟨A + 1, 2, none⟩ = some (.int .i64 0) := (BR.cell 2).trans rfl
  have l3 : w4.cell? ⟨A + 1 + 1, 3, none⟩ = some (.int .i64 d) := (BL.cell 3).trans rfl
  have r3 : w4.cell? ⟨A + 1, 3, none⟩ = some (.int .i64 0) := (BR.cell 3).trans rfl
  have l4 : w4.cell? ⟨A + 1 + 1, 4, none⟩ = some (.int .i64 h) := (BL.cell 4).trans rfl
  have r4 : w4.cell? ⟨A + 1, 4, none⟩ = some (.int .i64 0) := (BR.cell 4).trans rfl
  have l5 : w4.cell? ⟨A + 1 + 1, 5, none⟩ = some (.int .i64 mi) := (BL.cell 5).trans rfl
  have r5 : w4.cell? ⟨A + 1, 5, none⟩ = some (.int .i64 0) := (BR.cell 5).trans rfl
  have l6 : w4.cell? ⟨A + 1 + 1, 6, none⟩ = some (.int .i64 s) := (BL.cell 6).trans rfl
  have r6 : w4.cell? ⟨A + 1, 6, none⟩ = some (.int .i64 0) := (BR.cell 6).trans rfl
  have l7 : w4.cell? ⟨A + 1 + 1, 7, none⟩ = some (.string tx) := (BL.cell 7).trans rfl
  have r7 : w4.cell? ⟨A + 1, 7, none⟩ = some (.string ⟨#[]⟩) := (BR.cell 7).trans rfl
  have fr : ∀ i, w4.frozen? ⟨A + 1, i, none⟩ = false := BR.frozen
  go_wp2_with fail
  have BF := ((((((((BR.set 0 (.string nm)).set 1 (.int .i64 y)).set 2 (.int .i64 m)).set 3 (.int .i64 d)).set 4 (.int .i64 h)).set 5 (.int .i64 mi)).set 6 (.int .i64 s)).set 7 (.string tx))
  simp only [List.setIfInBounds_toArray, List.set_cons_zero, List.set_cons_succ] at BF
  have OF := ((((((((O3.set (p := ⟨A + 1, 0, none⟩) (show w.heap.size ≤ A + 1 by omega) (.string nm)).set (p := ⟨A + 1, 1, none⟩) (show w.heap.size ≤ A + 1 by omega) (.int .i64 y)).set (p := ⟨A + 1, 2, none⟩) (show w.heap.size ≤ A + 1 by omega) (.int .i64 m)).set (p := ⟨A + 1, 3, none⟩) (show w.heap.size ≤ A + 1 by omega) (.int .i64 d)).set (p := ⟨A + 1, 4, none⟩) (show w.heap.size ≤ A + 1 by omega) (.int .i64 h)).set (p := ⟨A + 1, 5, none⟩) (show w.heap.size ≤ A + 1 by omega) (.int .i64 mi)).set (p := ⟨A + 1, 6, none⟩) (show w.heap.size ≤ A + 1 by omega) (.int .i64 s)).set (p := ⟨A + 1, 7, none⟩) (show w.heap.size ≤ A + 1 by omega) (.string tx))
  exact bodyPost_ret (v := .agg #[.string nm, .int .i64 y, .int .i64 m, .int .i64 d, .int .i64 h, .int .i64 mi, .int .i64 s, .string tx]) (by exact res_c (fn := Tryd.f14) (p := 2) rfl BF rfl Tryd.underlying34 rfl (by kernel_rfl)) rfl ⟨rfl, OF⟩
end Go.Proofs.YtpbfhflggicpiaaDoor.Nm
