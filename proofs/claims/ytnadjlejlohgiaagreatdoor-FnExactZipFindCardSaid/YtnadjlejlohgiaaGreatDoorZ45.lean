/- Own texts joined: LwZe. -/
import Derived.Test.YtnadjlejlohgiaaGreatDoorZ34
import Derived.Test.YtnadjlejlohgiaaGreatDoorZ44
/- The walks of FnExactZipGet, FnExactZipFind, FnExactZipNames: at every input each returns true and keeps what was. The facts that they take: the variable order as it is laid; the library's cell of a length holds some number. -/
namespace Go.Proofs.YtnadjlejlohgiaaGreatDoor.Lc
open Go.RowKit Go.Proofs.YtnadjlejlohgiaaGreatDoor.Mem Go.Proofs.YtnadjlejlohgiaaGreatDoor.Nm Go.Proofs.YtnadjlejlohgiaaGreatDoor.Wi Go.Proofs.YtnadjlejlohgiaaGreatDoor.Mk Go.Proofs.YtnadjlejlohgiaaGreatDoor.Draw
set_option linter.unusedVariables false
set_option linter.unusedSimpArgs false
set_option maxRecDepth 100000 in
theorem law_zipfind (s nm : ByteArray) (w : World) (hF : (∃ x, Ord w x) ∧ Fact w) (hs : s.size ≤ 140737488351232) (hn : nm.size ≤ 140737488351232) : Calls Tryz.prog 7 #[.string s, .string nm] w (Tells w (.bool true)) := by
  obtain ⟨⟨x, hO⟩, hf⟩ := hF
  by_cases hb : (1048576 : Int) < s.size
  · go_enter Tryz.func7, Tryz.ntmps7
    go_wp2_with fail
    go_ret
    exact ⟨rfl, On.refl _⟩
  by_cases hc : (1048576 : Int) < nm.size
  · go_enter Tryz.func7, Tryz.ntmps7
    go_wp2_with fail
    go_ret
    exact ⟨rfl, On.refl _⟩
  have hsz : s.size ≤ 1048576 := by omega
  have HS := Lib.hid (szfind_calls s nm hsz w)
  have HI := Lib.hid (fun w1 O1 => izfind_calls s nm x hsz w1 (hO.on O1) (hf.on hf.lt O1))
  generalize zipFind s nm = r at *
  obtain ⟨tx, b⟩ := r
  simp only at HS HI
  have hbb : (b != b) = false := by cases b <;> rfl
  go_enter Tryz.func7, Tryz.ntmps7
  go_wp2_with fail
  refine HS.out.mono ?_
  rintro e w1 ⟨rfl, O1⟩
  go_wp2_with fail
  refine (HI.out w1 O1).mono ?_
  rintro e w2 ⟨rfl, O2⟩
  go_wp2_with fail
  go_ret
  exact ⟨rfl, O1.call O2⟩
set_option maxRecDepth 100000 in
set_option maxHeartbeats 1000000 in
theorem law_zipget (s : ByteArray) (w : World) (hF : (∃ x, Ord w x) ∧ Fact w) (hs : s.size ≤ 140737488351232) : Calls Tryz.prog 3 #[.string s] w (Tells w (.bool true)) := by
  obtain ⟨⟨x, hO⟩, hf⟩ := hF
  by_cases hb : (1048576 : Int) < s.size
  · go_enter Tryz.func3, Tryz.ntmps3
    go_wp2_with fail
    go_ret
    exact ⟨rfl, On.refl _⟩
  have hsz : s.size ≤ 1048576 := by omega
  have HS := Lib.hid (szipget_calls s hsz w)
  have HI := Lib.hid (fun w1 (O1 : On w w1) => izipget_calls s x hsz w1 (hO.on O1) (hf.on hf.lt O1))
  have h6 := zipGot_few s
  generalize zipGot s = r at *
  obtain ⟨L, b⟩ := r
  simp only at h6
  obtain ⟨n, hn0⟩ : ∃ n, L.length = n := ⟨_, rfl⟩
  have HE := Lib.hid (fun g g' c c' w h h' => eqentrys_calls (some ⟨g, 0, none⟩) (some ⟨g', 0, none⟩) c c' L w h h' (by omega))
  rw [hn0] at h6 HE
  have HFL := Lib.hid (show (fcells L).length = n * 8 by rw [fcells_length, hn0])
  have hbb : (b != b) = false := by cases b <;> rfl
  have HS2 := Lib.hid (HS.out.mono fun _ _ h => h.row hn0)
  have HI2 := Lib.hid (fun w1 O1 => (HI.out w1 O1).mono fun _ _ h => h.row hn0)
  clear HS HI hs hO hf
  go_enter Tryz.func3, Tryz.ntmps3
  go_wp2_with fail
  refine HS2.out.mono ?_
  rintro e w1 ⟨g1, c1, rfl, O1, hb1, R1, hc1, hm1⟩
  have hR1lt := R1.lt
  go_wp2_with fail
  refine (HI2.out w1 O1).mono ?_
  rintro e w2 ⟨g2, c2, rfl, O2, hb2, R2, hc2, hm2⟩
  replace R1 := R1.on O2
  have Oa := O1.call O2
  go_wp2_with fail
  refine (HE.out g2 g1 c2 c1 w2 ⟨.inr ⟨g2, 0, rfl, FiAt.row R2⟩⟩ ⟨.inr ⟨g1, 0, rfl, FiAt.row R1⟩⟩).mono ?_
  rintro e w3 ⟨rfl, O3⟩
  replace R1 := R1.on O3
  replace R2 := R2.on O3
  replace Oa := Oa.call O3
  have hg21 : g1 < g2 := by
    have := hR1lt
    omega
  go_wp2_with fail
  have HMK := Lib.hid (markents_calls g2 42 c2 n w3 h6 (MkE.of R2 HFL.out))
  have HHE := Lib.hid (fun w (h : MkE w g2 42 (n * 8) (n * 8)) => heldents_calls g2 42 c2 n w h6 h)
  obtain ⟨q, hq⟩ : ∃ q, 1 + n * 8 = q := ⟨_, rfl⟩
  rw [hq] at HMK HHE
  clear hq
  refine HMK.out.mono ?_
  rintro e w4 ⟨rfl, T4, M4⟩
  replace R1 := T4.row R1 (by omega)
  replace Oa := T4.on Oa (by have := O1.size; omega)
  have hq0 : ¬ (q : Int) < 0 := by omega
  go_wp2_with fail
  refine (HHE.out w4 M4).mono ?_
  rintro e w5 ⟨rfl, O5⟩
  replace R1 := R1.on O5
  replace M4 := M4.on O5
  replace Oa := Oa.call O5
  go_wp2_with fail
  refine (HI2.out w5 Oa).mono ?_
  rintro e w6 ⟨g3, c3, rfl, O6, hb3, R3, hc3, hm3⟩
  replace R1 := R1.on O6
  replace M4 := M4.on O6
  replace Oa := Oa.call O6
  go_wp2_with fail
  refine (HE.out g3 g1 c3 c1 w6 ⟨.inr ⟨g3, 0, rfl, FiAt.row R3⟩⟩ ⟨.inr ⟨g1, 0, rfl, FiAt.row R1⟩⟩).mono ?_
  rintro e w7 ⟨rfl, O7⟩
  replace M4 := M4.on O7
  replace Oa := Oa.call O7
  go_wp2_with fail
  refine (HHE.out w7 M4).mono ?_
  rintro e w8 ⟨rfl, O8⟩
  go_wp2_with fail
  go_ret
  exact ⟨rfl, Oa.call O8⟩
set_option maxRecDepth 100000 in
set_option maxHeartbeats 1000000 in
theorem law_zipnames (s : ByteArray) (w : World) (hF : (∃ x, Ord w x) ∧ Fact w) (hs : s.size ≤ 140737488351232) : Calls Tryz.prog 8 #[.string s] w (Tells w (.bool true)) := by
  obtain ⟨⟨x, hO⟩, hf⟩ := hF
  by_cases hb : (1048576 : Int) < s.size
  · go_enter Tryz.func8, Tryz.ntmps8
    go_wp2_with fail
    go_ret
    exact ⟨rfl, On.refl _⟩
  have hsz : s.size ≤ 1048576 := by omega
  have HS := Lib.hid (sznames_calls s hsz w)
  have HI := Lib.hid (fun w1 (O1 : On w w1) => iznames_calls s x hsz w1 (hO.on O1) (hf.on hf.lt O1))
  have h6 := zipGot_few s
  generalize zipGot s = r at *
  obtain ⟨L, b⟩ := r
  simp only at h6
  obtain ⟨xs, hxs⟩ : ∃ xs : List ByteArray, xs = L.map Fi.nm := ⟨_, rfl⟩
  have hnm : nms L = xs.map Value.string := by rw [hxs, List.map_map]; rfl
  obtain ⟨n, hn0⟩ : ∃ n, L.length = n := ⟨_, rfl⟩
  have hxl : xs.length = n := by rw [hxs, List.length_map, hn0]
  simp only [hn0, hnm] at HS HI
  rw [hn0] at h6
  have HE := Lib.hid (fun g g' c c' w h h' => eqstrs_calls g g' 9 9 c c' n xs w h6 hxl h h')
  have HXL := Lib.hid (show (xs.map Value.string).length = n by rw [List.length_map, hxl])
  clear hxl hnm hn0 hxs hs hO hf
  go_enter Tryz.func8, Tryz.ntmps8
  go_wp2_with fail
  refine HS.out.mono ?_
  rintro e w1 ⟨v1, rfl, hown1, O1⟩
  obtain ⟨g1, c1, rfl, hb1, R1, hc1, hm1, _⟩ := hown1.parts
  have hR1lt := R1.lt
  clear hown1
  go_wp2_with fail
  refine (HI.out w1 O1).mono ?_
  rintro e w2 ⟨v2, rfl, hown2, O2⟩
  obtain ⟨g2, c2, rfl, hb2, R2, hc2, hm2, _⟩ := hown2.parts
  clear hown2
  replace R1 := R1.on O2
  have Oa := O1.call O2
  go_wp2_with fail
  refine (HE.out g2 g1 c2 c1 w2 R2 R1).mono ?_
  rintro e w3 ⟨rfl, O3⟩
  replace R1 := R1.on O3
  replace R2 := R2.on O3
  replace Oa := Oa.call O3
  have hg21 : g1 < g2 := by omega
  go_wp2_with fail
  have HMK := Lib.hid (markstrs_calls g2 9 c2 n w3 h6 (MkS.of R2 HXL.out))
  have HHE := Lib.hid (fun w (h : MkS w g2 9 n n) => heldstrs_calls g2 9 c2 n w h6 h)
  obtain ⟨q, hq⟩ : ∃ q, 1 + n = q := ⟨_, rfl⟩
  rw [hq] at HMK HHE
  clear hq
  refine HMK.out.mono ?_
  rintro e w4 ⟨rfl, T4, M4⟩
  replace R1 := T4.row R1 (by omega)
  replace Oa := T4.on Oa (by have := O1.size; omega)
  have hq0 : ¬ (q : Int) < 0 := by omega
  go_wp2_with fail
  refine (HHE.out w4 M4).mono ?_
  rintro e w5 ⟨rfl, O5⟩
  replace R1 := R1.on O5
  replace M4 := M4.on O5
  replace Oa := Oa.call O5
  go_wp2_with fail
  refine (HI.out w5 Oa).mono ?_
  rintro e w6 ⟨v6, rfl, hown6, O6⟩
  obtain ⟨g3, c3, rfl, hb3, R3, hc3, hm3, _⟩ := hown6.parts
  clear hown6
  replace R1 := R1.on O6
  replace M4 := M4.on O6
  replace Oa := Oa.call O6
  go_wp2_with fail
  refine (HE.out g3 g1 c3 c1 w6 R3 R1).mono ?_
  rintro e w7 ⟨rfl, O7⟩
  replace M4 := M4.on O7
  replace Oa := Oa.call O7
  go_wp2_with fail
  refine (HHE.out w7 M4).mono ?_
  rintro e w8 ⟨rfl, O8⟩
  go_wp2_with fail
  go_ret
  exact ⟨rfl, Oa.call O8⟩
end Go.Proofs.YtnadjlejlohgiaaGreatDoor.Lc

