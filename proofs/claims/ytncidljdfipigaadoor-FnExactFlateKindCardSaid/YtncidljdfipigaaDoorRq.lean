/- The program's reader at a part packed by both codes that is bad already, or whose lengths are not ok. -/
import Derived.Test.YtncidljdfipigaaDoorLo
import Derived.Test.YtncidljdfipigaaDoorRs
import Derived.Test.YtncidljdfipigaaDoorRt
namespace Go.Proofs.YtncidljdfipigaaDoor.Wi
open Go.RowKit Go.Proofs.YtncidljdfipigaaDoor.Mem Go.Proofs.YtncidljdfipigaaDoor.Bt Go.Proofs.YtncidljdfipigaaDoor.Cd Go.Proofs.YtncidljdfipigaaDoor.De
set_option linter.unusedVariables false
set_option linter.unusedSimpArgs false
theorem rpacked_bad (g : Nat) (s : ByteArray) (p : Nat) (v1 v2 v3 : Value) (w : World) (hw : IR w g s p true) :
    Calls Tryd.prog 55 #[.pointer (some ⟨g, 0, none⟩), v1, v2, v3] w fun e w' => e = .returned v1 ∧ IR w' g s p true ∧ Kp [g] w w' := by
  have c2 := (hw.out.cell 2).trans rfl
  have fr : ∀ i, w.frozen? ⟨g, i, none⟩ = false := hw.out.frozen
  go_enter Tryd.func55, Tryd.ntmps55
  go_wp2_with fail
  go_ret
  exact ⟨rfl, ⟨hw.out.set 2 (.bool true), hw.le, hw.sz⟩, (Kp.refl _ _).set (.inl (by simp)) _⟩
theorem rpacked_not (g gl ol nl cl gd od nd cd : Nat) (s : ByteArray) (p : Nat) (lit dist : List Nat) (v1 : Value) (w : World) (hw : IR w g s p false)
    (hl : RowO w gl ol 3 (i64s lit)) (hd : RowO w gd od 3 (i64s dist)) (hnl : lit.length = nl) (hnd : dist.length = nd) (hnlc : nl ≤ cl) (hndc : nd ≤ cd)
    (hl15 : ∀ x ∈ lit, x ≤ 100000) (hd15 : ∀ x ∈ dist, x ≤ 100000) (hlen : nl ≤ 1000) (hlen2 : nd ≤ 1000) (hok : ¬ (okLens lit = true ∧ okLens dist = true)) :
    Calls Tryd.prog 55 #[.pointer (some ⟨g, 0, none⟩), v1, .slice (some ⟨gl, ol, none⟩) nl cl, .slice (some ⟨gd, od, none⟩) nd cd] w fun e w' => e = .returned v1 ∧ IR w' g s p true ∧ Kp [g] w w' := by
  have HNL := Lib.hid hnl
  have HND := Lib.hid hnd
  have HXL := Lib.hid hl15
  have HXD := Lib.hid hd15
  have HOK := Lib.hid hok
  have c2 := (hw.out.cell 2).trans rfl
  clear hnl hnd hl15 hd15 hok
  have step : ∀ w2, On w w2 → w2.cell? ⟨g, 2, none⟩ = some (.bool false) ∧ (∀ i, w2.frozen? ⟨g, i, none⟩ = false) := fun w2 O => ⟨((hw.on O).out.cell 2).trans rfl, (hw.on O).out.frozen⟩
  have HST := Lib.hid step
  clear step
  by_cases hokl : okLens lit = true
  · have hokd : okLens dist = false := by
      cases h : okLens dist with
      | true => exact absurd ⟨hokl, h⟩ HOK.out
      | false => rfl
    have HOL := Lib.hid hokl
    have HOD := Lib.hid hokd
    clear hokl hokd
    go_enter Tryd.func55, Tryd.ntmps55
    go_wp2_with fail
    refine (lensok_calls lit gl ol nl cl w hl HNL.out (by omega) hnlc HXL.out).mono ?_
    rintro e w1 ⟨rfl, O1⟩
    rw [HOL.out]
    go_wp2_with fail
    refine (lensok_calls dist gd od nd cd w1 (hd.on O1) HND.out (by omega) hndc HXD.out).mono ?_
    rintro e w2 ⟨rfl, O2⟩
    rw [HOD.out]
    obtain ⟨d2, fr⟩ := HST.out w2 (O1.call O2)
    have hw2 := hw.on (O1.call O2)
    go_wp2_with fail
    go_ret
    exact ⟨rfl, ⟨hw2.out.set 2 (.bool true), hw.le, hw.sz⟩, ((Kp.of [g] (O1.call O2))).set (.inl (by simp)) _⟩
  · have hokl' : okLens lit = false := by simpa using hokl
    have HOL := Lib.hid hokl'
    clear hokl hokl'
    go_enter Tryd.func55, Tryd.ntmps55
    go_wp2_with fail
    refine (lensok_calls lit gl ol nl cl w hl HNL.out (by omega) hnlc HXL.out).mono ?_
    rintro e w1 ⟨rfl, O1⟩
    rw [HOL.out]
    obtain ⟨d2, fr⟩ := HST.out w1 O1
    have hw1 := hw.on O1
    go_wp2_with fail
    go_ret
    exact ⟨rfl, ⟨hw1.out.set 2 (.bool true), hw.le, hw.sz⟩, ((Kp.of [g] O1)).set (.inl (by simp)) _⟩
end Go.Proofs.YtncidljdfipigaaDoor.Wi
