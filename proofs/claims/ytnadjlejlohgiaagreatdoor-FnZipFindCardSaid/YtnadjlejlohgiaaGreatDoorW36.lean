/- Own texts joined: Et. -/
import Derived.Lib.Hide
import Derived.Test.YtnadjlejlohgiaaGreatDoorW6
import Derived.Test.YtnadjlejlohgiaaGreatDoorW35
/- Files: both programs' EntryOk answer the plain one; a law's file as the program's. Conditions: names that are not too long. -/
namespace Go.Proofs.YtnadjlejlohgiaaGreatDoor.Nm
open Go.RowKit Go.Proofs.YtnadjlejlohgiaaGreatDoor.Mem
set_option linter.unusedVariables false
set_option linter.unusedSimpArgs false
def entryOk (nm : ByteArray) (y m d h mi s : Int) (tx : ByteArray) : Bool := nameOk nm.data.toList && (decide (okp y m d h mi s) && decide (tx.size ≤ 300))
set_option maxRecDepth 100000 in
theorem ientry_calls (nm : ByteArray) (y m d h mi s : Int) (tx : ByteArray) (w : World) (hf : Fact w) (hn : nm.size < 4294967281) (ht : tx.size ≤ maxLen) :
    Calls Tryz.prog 49 #[ent nm y m d h mi s tx] w (Tells w (.bool (entryOk nm y m d h mi s tx))) := by
  unfold maxLen at ht
  have OA := (On.refl w).alloc (.cells #[.string nm, .int .i64 y, .int .i64 m, .int .i64 d, .int .i64 h, .int .i64 mi, .int .i64 s, .string tx] 42)
  have BA := Blk.new w 42 #[.string nm, .int .i64 y, .int .i64 m, .int .i64 d, .int .i64 h, .int .i64 mi, .int .i64 s, .string tx]
  have HN := Lib.hid (iname_f nm hn _ (hf.on hf.lt OA))
  have HS := Lib.hid (fun w => iok_calls y m d h mi s w)
  have HE := Lib.hid (show entryOk nm y m d h mi s tx = (nameOk nm.data.toList && (decide (okp y m d h mi s) && decide (tx.size ≤ 300))) from rfl)
  generalize entryOk nm y m d h mi s tx = R at *
  generalize decide (okp y m d h mi s) = B at *
  generalize nameOk nm.data.toList = A at *
  unfold ent
  go_enter Tryz.func49, Tryz.ntmps49
  go_wp2_with fail
  generalize hP : w.heap.size = p at *
  generalize w.alloc (.cells #[.string nm, .int .i64 y, .int .i64 m, .int .i64 d, .int .i64 h, .int .i64 mi, .int .i64 s, .string tx] 42) = wa at *
  refine HN.out.mono ?_
  rintro e w1 ⟨rfl, O1⟩
  have B1 := BA.call O1.out
  have c1 : w1.cell? ⟨p, 1, none⟩ = some (.int .i64 y) := (B1.cell 1).trans rfl
  have c2 : w1.cell? ⟨p, 2, none⟩ = some (.int .i64 m) := (B1.cell 2).trans rfl
  have c3 : w1.cell? ⟨p, 3, none⟩ = some (.int .i64 d) := (B1.cell 3).trans rfl
  have c4 : w1.cell? ⟨p, 4, none⟩ = some (.int .i64 h) := (B1.cell 4).trans rfl
  have c5 : w1.cell? ⟨p, 5, none⟩ = some (.int .i64 mi) := (B1.cell 5).trans rfl
  have c6 : w1.cell? ⟨p, 6, none⟩ = some (.int .i64 s) := (B1.cell 6).trans rfl
  have O1t := OA.call O1
  cases A with
  | false =>
    go_wp2_with fail
    go_ret
    exact ⟨by rw [HE.out]; rfl, O1t⟩
  | true =>
    go_wp2_with fail
    refine (HS.out w1).mono ?_
    rintro e w2 ⟨rfl, O2⟩
    have B2 := B1.call O2.out
    have d7 : w2.cell? ⟨p, 7, none⟩ = some (.string tx) := (B2.cell 7).trans rfl
    have O2t := O1t.call O2
    clear c1 c2 c3 c4 c5 c6
    cases B with
    | false =>
      go_wp2_with fail
      go_ret
      exact ⟨by rw [HE.out]; rfl, O2t⟩
    | true =>
      go_wp2_with fail
      go_ret
      exact ⟨by rw [HE.out]; simp; omega, O2t⟩
set_option maxRecDepth 100000 in
theorem sentry_calls (nm : ByteArray) (y m d h mi s : Int) (tx : ByteArray) (w : World) (hn : nm.size < 4294967281) (ht : tx.size ≤ maxLen) :
    Calls Tryz.prog 52 #[ent nm y m d h mi s tx] w (Tells w (.bool (entryOk nm y m d h mi s tx))) := by
  unfold maxLen at ht
  have OA := (On.refl w).alloc (.cells #[.string nm, .int .i64 y, .int .i64 m, .int .i64 d, .int .i64 h, .int .i64 mi, .int .i64 s, .string tx] 42)
  have BA := Blk.new w 42 #[.string nm, .int .i64 y, .int .i64 m, .int .i64 d, .int .i64 h, .int .i64 mi, .int .i64 s, .string tx]
  have HN := Lib.hid (sname_calls nm hn (w.alloc (.cells #[.string nm, .int .i64 y, .int .i64 m, .int .i64 d, .int .i64 h, .int .i64 mi, .int .i64 s, .string tx] 42)))
  have HS := Lib.hid (fun w => sok_calls y m d h mi s w)
  have HE := Lib.hid (show entryOk nm y m d h mi s tx = (nameOk nm.data.toList && (decide (okp y m d h mi s) && decide (tx.size ≤ 300))) from rfl)
  generalize entryOk nm y m d h mi s tx = R at *
  generalize decide (okp y m d h mi s) = B at *
  generalize nameOk nm.data.toList = A at *
  unfold ent
  go_enter Tryz.func52, Tryz.ntmps52
  go_wp2_with fail
  generalize hP : w.heap.size = p at *
  generalize w.alloc (.cells #[.string nm, .int .i64 y, .int .i64 m, .int .i64 d, .int .i64 h, .int .i64 mi, .int .i64 s, .string tx] 42) = wa at *
  refine HN.out.mono ?_
  rintro e w1 ⟨rfl, O1⟩
  have B1 := BA.call O1.out
  have c1 : w1.cell? ⟨p, 1, none⟩ = some (.int .i64 y) := (B1.cell 1).trans rfl
  have c2 : w1.cell? ⟨p, 2, none⟩ = some (.int .i64 m) := (B1.cell 2).trans rfl
  have c3 : w1.cell? ⟨p, 3, none⟩ = some (.int .i64 d) := (B1.cell 3).trans rfl
  have c4 : w1.cell? ⟨p, 4, none⟩ = some (.int .i64 h) := (B1.cell 4).trans rfl
  have c5 : w1.cell? ⟨p, 5, none⟩ = some (.int .i64 mi) := (B1.cell 5).trans rfl
  have c6 : w1.cell? ⟨p, 6, none⟩ = some (.int .i64 s) := (B1.cell 6).trans rfl
  have O1t := OA.call O1
  cases A with
  | false =>
    go_wp2_with fail
    go_ret
    exact ⟨by rw [HE.out]; rfl, O1t⟩
  | true =>
    go_wp2_with fail
    refine (HS.out w1).mono ?_
    rintro e w2 ⟨rfl, O2⟩
    have B2 := B1.call O2.out
    have d7 : w2.cell? ⟨p, 7, none⟩ = some (.string tx) := (B2.cell 7).trans rfl
    have O2t := O1t.call O2
    clear c1 c2 c3 c4 c5 c6
    cases B with
    | false =>
      go_wp2_with fail
      go_ret
      exact ⟨by rw [HE.out]; rfl, O2t⟩
    | true =>
      go_wp2_with fail
      go_ret
      exact ⟨by rw [HE.out]; simp; omega, O2t⟩
end Go.Proofs.YtnadjlejlohgiaaGreatDoor.Nm

