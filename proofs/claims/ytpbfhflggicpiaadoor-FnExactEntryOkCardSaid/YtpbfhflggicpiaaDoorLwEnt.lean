/- The walk of FnExactEntryOk: at every file it returns true and keeps what was. The one fact that it takes: the library's cell of a length holds some number. -/
import Derived.Test.YtpbfhflggicpiaaDoorEt
namespace Go.Proofs.YtpbfhflggicpiaaDoor.Nm
open Go.RowKit Go.Proofs.YtpbfhflggicpiaaDoor.Mem
set_option linter.unusedVariables false
set_option linter.unusedSimpArgs false
theorem leftOf_nn {nm tx : ByteArray} (h : 0 ≤ leftOf nm tx 1048576) : nm.size ≤ 1048576 ∧ tx.size ≤ 1048576 := by
  unfold leftOf at h
  split at h
  · omega
  · split at h
    · omega
    · omega
set_option maxRecDepth 100000 in
set_option maxHeartbeats 1000000 in
theorem law_entryok (nm : ByteArray) (y m d h mi s : Int) (tx : ByteArray) (w : World) (hf : Fact w) (hn : nm.size ≤ maxLen) (ht : tx.size ≤ maxLen) :
    Calls Tryd.prog 6 #[ent nm y m d h mi s tx] w (Tells w (.bool true)) := by
  have HSZ := Lib.hid (fun w => szentry_calls nm y m d h mi s tx 1048576 w hn ht (by omega) (by omega))
  have HNN := Lib.hid (leftOf_nn (nm := nm) (tx := tx))
  have hto := fun w => toentry_calls nm y m d h mi s tx w
  have hsp := fun w hn => sentry_calls nm y m d h mi s tx w hn ht
  have him := fun w hf hn => ientry_calls nm y m d h mi s tx w hf hn ht
  unfold ent at hto hsp him ⊢
  have HTO := Lib.hid hto
  have HSP := Lib.hid hsp
  have HIM := Lib.hid him
  generalize entryOk nm y m d h mi s tx = R at *
  clear hto hsp him hn ht
  have OA := (On.refl w).alloc (.cells #[.string nm, .int .i64 y, .int .i64 m, .int .i64 d, .int .i64 h, .int .i64 mi, .int .i64 s, .string tx] 29)
  have BA := Blk.new w 29 #[.string nm, .int .i64 y, .int .i64 m, .int .i64 d, .int .i64 h, .int .i64 mi, .int .i64 s, .string tx]
  go_enter Tryd.func6, Tryd.ntmps6
  go_wp2_with fail
  generalize hP : w.heap.size = p at *
  generalize w.alloc (.cells #[.string nm, .int .i64 y, .int .i64 m, .int .i64 d, .int .i64 h, .int .i64 mi, .int .i64 s, .string tx] 29) = wa at *
  refine (HSZ.out wa).mono ?_
  rintro e w1 ⟨rfl, O1⟩
  have O1t := OA.call O1
  by_cases h0 : leftOf nm tx 1048576 < 0
  · generalize leftOf nm tx 1048576 = l at *
    go_wp2_with fail
    go_ret
    exact ⟨rfl, O1t⟩
  · obtain ⟨hn1, ht1⟩ := HNN.out (by omega)
    have hn2 : nm.size < 4294967281 := by omega
    generalize leftOf nm tx 1048576 = l at *
    have B1 := BA.call O1.out
    have HB := Lib.hid (show ∀ W, On w1 W → Blk W p 29 #[.string nm, .int .i64 y, .int .i64 m, .int .i64 d, .int .i64 h, .int .i64 mi, .int .i64 s, .string tx] from fun W O => B1.call O.out)
    have cs := fun W (b : Blk W p 29 #[.string nm, .int .i64 y, .int .i64 m, .int .i64 d, .int .i64 h, .int .i64 mi, .int .i64 s, .string tx]) => (⟨(b.cell 0).trans rfl, (b.cell 1).trans rfl, (b.cell 2).trans rfl, (b.cell 3).trans rfl, (b.cell 4).trans rfl, (b.cell 5).trans rfl, (b.cell 6).trans rfl, (b.cell 7).trans rfl⟩ :
      W.cell? ⟨p, 0, none⟩ = some (.string nm) ∧ W.cell? ⟨p, 1, none⟩ = some (.int .i64 y) ∧ W.cell? ⟨p, 2, none⟩ = some (.int .i64 m) ∧ W.cell? ⟨p, 3, none⟩ = some (.int .i64 d) ∧ W.cell? ⟨p, 4, none⟩ = some (.int .i64 h) ∧ W.cell? ⟨p, 5, none⟩ = some (.int .i64 mi) ∧ W.cell? ⟨p, 6, none⟩ = some (.int .i64 s) ∧ W.cell? ⟨p, 7, none⟩ = some (.string tx))
    have HCS := Lib.hid cs
    clear cs B1 BA
    obtain ⟨x0, x1, x2, x3, x4, x5, x6, x7⟩ := HCS.out w1 (HB.out w1 (On.refl _))
    go_wp2_with fail
    refine (HTO.out w1).mono ?_
    rintro e w2 ⟨rfl, O2⟩
    clear x0 x1 x2 x3 x4 x5 x6 x7
    go_wp2_with fail
    refine (HSP.out w2 hn2).mono ?_
    rintro e w3 ⟨rfl, O3⟩
    have O23 := O2.call O3
    obtain ⟨x0, x1, x2, x3, x4, x5, x6, x7⟩ := HCS.out w3 (HB.out w3 O23)
    go_wp2_with fail
    refine (HTO.out w3).mono ?_
    rintro e w4 ⟨rfl, O4⟩
    have O24 := O23.call O4
    clear x0 x1 x2 x3 x4 x5 x6 x7
    go_wp2_with fail
    refine (HIM.out w4 (hf.on hf.lt (O1t.call O24)) hn2).mono ?_
    rintro e w5 ⟨rfl, O5⟩
    have O25 := O24.call O5
    cases R
    all_goals
      go_wp2_with fail
      go_ret
      exact ⟨rfl, O1t.call O25⟩
end Go.Proofs.YtpbfhflggicpiaaDoor.Nm
