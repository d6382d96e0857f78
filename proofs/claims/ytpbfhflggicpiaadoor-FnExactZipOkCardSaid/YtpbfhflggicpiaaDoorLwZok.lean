/- The walk of FnExactZipOk: at every row of files it returns true and keeps what was. The one fact that it takes: the library's cell of a length holds some number. -/
import Derived.Test.YtpbfhflggicpiaaDoorEz4
import Derived.Test.YtpbfhflggicpiaaDoorEz7
namespace Go.Proofs.YtpbfhflggicpiaaDoor.Nm
open Go.RowKit Go.Proofs.YtpbfhflggicpiaaDoor.Mem
set_option linter.unusedVariables false
set_option linter.unusedSimpArgs false
set_option maxRecDepth 100000 in
set_option maxHeartbeats 1000000 in
theorem law_zipok (sp : Option Addr) (cap : Nat) (L : List Fi) (w : World) (hf : Fact w) (hs : Fs w sp L) (hz : Szs L maxLen) (hm : L.length ≤ maxLen) :
    Calls Tryd.prog 8 #[.slice sp L.length cap] w (Tells w (.bool true)) := by
  have HS := Lib.hid hs
  have HSZ := Lib.hid (szentrys_calls sp cap L w hs hz hm)
  have HTO := Lib.hid (fun w (h : Fs w sp L) hm => toentrys_calls sp cap L w h hm)
  have HSP := Lib.hid (fun sp' cap' w (h : Fs w sp' L) hz hm => szipok_calls sp' cap' L w h hz hm)
  have HIM := Lib.hid (fun sp' cap' w hf (h : Fs w sp' L) hz hm => izipok_calls sp' cap' L w hf h hz hm)
  have HEQ := Lib.hid (fun sp1 sp2 cap1 cap2 w (h1 : Fs w sp1 L) (h2 : Fs w sp2 L) hm => eqentrys_calls sp1 sp2 cap1 cap2 L w h1 h2 hm)
  clear hs hz hm
  generalize ZipOk L = Z at *
  go_enter Tryd.func8, Tryd.ntmps8
  go_wp2_with fail
  refine HSZ.out.mono ?_
  rintro e w1 ⟨v, rfl, O1, hv⟩
  by_cases h0 : v < 0
  · clear hv
    go_wp2_with fail
    go_ret
    exact ⟨rfl, O1⟩
  obtain ⟨hm, hz⟩ := hv (by omega)
  have HM := Lib.hid hm
  have HZ := Lib.hid hz
  clear hv hm hz
  go_wp2_with fail
  refine (HTO.out w1 (HS.out.on O1) HM.out).mono ?_
  rintro e w2 ⟨s1, rfl, O2, F1⟩
  have O2t := O1.call O2
  go_wp2_with fail
  refine (HSP.out s1 _ w2 F1 HZ.out HM.out).mono ?_
  rintro e w3 ⟨b1, rfl, O3, hb1⟩
  have O3t := O2t.call O3
  go_wp2_with fail
  refine (HTO.out w3 (HS.out.on O3t) HM.out).mono ?_
  rintro e w4 ⟨s2, rfl, O4, F2⟩
  have O4t := O3t.call O4
  go_wp2_with fail
  refine (HIM.out s2 _ w4 (hf.on hf.lt O4t) F2 HZ.out HM.out).mono ?_
  rintro e w5 ⟨b2, rfl, O5, hb2⟩
  have O5t := O4t.call O5
  have hbb : b1 = b2 := by rw [Bool.eq_iff_iff, hb1, hb2]
  subst hbb
  clear hb1 hb2
  go_wp2_with fail
  refine (HTO.out w5 (HS.out.on O5t) HM.out).mono ?_
  rintro e w6 ⟨s3, rfl, O6, F3⟩
  have O6t := O5t.call O6
  go_wp2_with fail
  refine (HEQ.out s2 s3 _ _ w6 ((F2.on O5).on O6) F3 HM.out).mono ?_
  rintro e w7 ⟨rfl, O7⟩
  go_wp2_with fail
  go_ret
  exact ⟨rfl, O6t.call O7⟩
end Go.Proofs.YtpbfhflggicpiaaDoor.Nm
