/- Own texts joined: Zn. -/
import Derived.Test.YtnadjlejlohgiaaGreatDoorZ43
/- Names of an archive, and what is found in it, of the program and of the specification. -/
namespace Go.Proofs.YtnadjlejlohgiaaGreatDoor.Lc
open Go.RowKit Go.Proofs.YtnadjlejlohgiaaGreatDoor.Mem Go.Proofs.YtnadjlejlohgiaaGreatDoor.Nm Go.Proofs.YtnadjlejlohgiaaGreatDoor.Nb Go.Proofs.YtnadjlejlohgiaaGreatDoor.Cr Go.Proofs.YtnadjlejlohgiaaGreatDoor.Wi
set_option linter.unusedVariables false
set_option linter.unusedSimpArgs false
theorem zipGot_few (s : ByteArray) : (zipGot s).1.length ≤ 6 := by
  by_cases h : ∃ k, zipIs s k
  · obtain ⟨k, hk⟩ := h
    rw [zipGot_yes hk, files_length]
    exact hk.1
  · rw [zipGot_no h]
    exact Nat.zero_le _
/-- What is found of a name. -/
def findF (L : List Fi) (nm : ByteArray) : ByteArray × Bool := match L.find? (fun f => decide (f.nm.data.toList = nm.data.toList)) with | some f => (f.tx, true) | none => (⟨#[]⟩, false)
theorem findF_at {L : List Fi} {nm : ByteArray} {k : Nat} (hk : k < L.length) (h1 : L[k].nm.data.toList = nm.data.toList) (h2 : ∀ j, j < k → nmAt L j ≠ nm.data.toList) : findF L nm = (L[k].tx, true) := by
  have e : L.find? (fun f => decide (f.nm.data.toList = nm.data.toList)) = some L[k] := by
    rw [List.find?_eq_some_iff_getElem]
    refine ⟨by simpa using h1, k, hk, rfl, fun j hj => ?_⟩
    have h3 := h2 j hj
    rw [nmAt_lt (by omega)] at h3
    simpa using h3
  unfold findF
  rw [e]
theorem findF_no {L : List Fi} {nm : ByteArray} (h : ∀ j, j < L.length → nmAt L j ≠ nm.data.toList) : findF L nm = (⟨#[]⟩, false) := by
  have e : L.find? (fun f => decide (f.nm.data.toList = nm.data.toList)) = none := by
    rw [List.find?_eq_none]
    intro f hf
    obtain ⟨i, hi, rfl⟩ := List.mem_iff_getElem.1 hf
    have h3 := h i hi
    rw [nmAt_lt hi] at h3
    simpa using h3
  unfold findF
  rw [e]
/-- What is found in an archive. -/
noncomputable def zipFind (s nm : ByteArray) : ByteArray × Bool := findF (zipGot s).1 nm
/-- What ZipGet answers, its row opened. -/
structure ZipRow (w : World) (L : List Fi) (n : Nat) (b : Bool) (e : Ending) (w' : World) : Prop where mk :: (out : ∃ g cap, e = .returned (.tuple #[.slice (some ⟨g, 0, none⟩) n cap, .bool b]) ∧ On w w' ∧ w.heap.size ≤ g ∧ Row w' g 42 (fcells L) ∧ n ≤ cap ∧ cap ≤ maxLen)
theorem ZipTells.row {w w' : World} {L : List Fi} {b : Bool} {n : Nat} {e : Ending} (hn : L.length = n) (h : ZipTells w (L, b) e w') : ZipRow w L n b e w' := by
  obtain ⟨v, rfl, O, hown⟩ := h.out
  obtain ⟨g, cap, rfl, hb, hrow, hc, hm, _⟩ := hown.parts
  subst hn
  exact ⟨g, cap, rfl, O, hb, hrow, hc, hm⟩
set_option maxRecDepth 100000 in
theorem iznames_calls (s : ByteArray) (x : Addr) (hs : s.size ≤ 1048576) (w : World) (hO : Ord w x) (hf : Fact w) :
    Calls Tryz.prog 18 #[.string s] w (fun e w' => ∃ v, e = .returned v ∧ Own w.heap.size w' 9 1 v (zipGot s).1.length (nms (zipGot s).1) ∧ On w w') := by
  have HZ := Lib.hid (izipget_calls s x hs w hO hf)
  have h6 := zipGot_few s
  generalize zipGot s = r at *
  obtain ⟨L, b⟩ := r
  have HN := Lib.hid (fun sp cap w h => namesof_calls sp cap L w h h6)
  clear h6 hO hf
  go_enter Tryz.func18, Tryz.ntmps18
  go_wp2_with fail
  refine HZ.out.mono ?_
  rintro e w1 ⟨v, rfl, O1, hown⟩
  obtain ⟨g, cap, rfl, hb, hrow, hn, hm, hl⟩ := hown.parts
  go_wp2_with fail
  refine (HN.out (some ⟨g, 0, none⟩) cap w1 ⟨.inr ⟨g, 0, rfl, FiAt.row hrow⟩⟩).mono ?_
  rintro e w2 ⟨v2, rfl, hown2, O2⟩
  go_wp2_with fail
  go_ret
  exact ⟨v2, rfl, hown2.low O1.size, O1.call O2⟩
set_option maxRecDepth 100000 in
set_option maxHeartbeats 1000000 in
theorem sznames_calls (s : ByteArray) (hs : s.size ≤ 1048576) (w : World) :
    Calls Tryz.prog 21 #[.string s] w (fun e w' => ∃ v, e = .returned v ∧ Own w.heap.size w' 9 1 v (zipGot s).1.length (nms (zipGot s).1) ∧ On w w') := by
  have HZ := Lib.hid (fun w => szipget_calls s hs w)
  have h6 := zipGot_few s
  generalize zipGot s = r at *
  obtain ⟨L, b⟩ := r
  simp only at h6 HZ ⊢
  generalize hn : L.length = n at *
  have R1 := Own.new (base := w.heap.size) w 9 1 #[] 0 (Nat.zero_le _) rfl (Nat.le_refl _)
  have OA := (On.refl w).alloc (.cells #[] 9)
  go_enter Tryz.func21, Tryz.ntmps21
  obtain ⟨i0, hi0, hz0, hz1, hz2⟩ := info_parts strinfo
  go_wp2_with fail
  refine (HZ.out _).mono ?_
  rintro e w1 ⟨v, rfl, O1, hownF⟩
  rw [hn] at hownF
  obtain ⟨g, cap, rfl, hb, hrowF, hnc, hm, hl⟩ := hownF.parts
  replace R1 := R1.on O1
  replace OA := OA.call O1
  clear hownF O1
  go_wp2_with fail
  go_loopw [3, 6] (fun v x wr => ∃ k : Nat, x = .int .i64 k ∧ k ≤ n ∧ Own w.heap.size wr 9 1 v k (nms (L.take k)) ∧ On w wr ∧ Row wr g 42 (fcells L)) (fun _ x _ => n - (intOf x).toNat)
  case atStart => exact ⟨0, rfl, by omega, R1, OA, hrowF⟩
  case round =>
    obtain ⟨k, rfl, hk, hown, O, hF⟩ := hrel
    have F := FiAt.row hF
    obtain ⟨gr, capr, rfl, hgr, hrow, hkc, hcap, hlen⟩ := hown.parts
    by_cases hlt : k < n
    · have hkl : k < L.length := by omega
      obtain ⟨c0, c1, c2, c3, c4, c5, c6, c7⟩ := F.cells hkl
      have hnm : nms (L.take k) ++ [.string L[k].nm] = nms (L.take (k + 1)) := by
        unfold nms
        rw [List.take_succ_eq_append_getElem hkl, List.map_append]; rfl
      have HNM := Lib.hid hnm
      clear hnm c1 c2 c3 c4 c5 c6 c7
      generalize L[k].nm = nm at *
      have hng := row_ne' hF hrow (by decide)
      clear hrow
      simp only [Nat.zero_add] at c0
      go_wp2_with (at_builtin; go_must (refine wpList_app rfl _ _ 34 rfl w i0 (.string ByteArray.empty) 16 1 Tryz.underlying34 hi0 hz0 hz1 hz2 rfl (by decide) rfl _ _ _ rfl hown O rfl (by simp [Value.oneCell']) (by unfold maxLen; omega) (by omega) ?_); intro v' w2 hown' O' hkeep)
      go_wp2_with fail
      refine ⟨⟨k + 1, by go_num, by omega, by rw [← HNM.out]; simpa using hown', O', ?_⟩, by simp [intOf]; omega⟩
      obtain ⟨cs, hb, ht⟩ := hF.out
      exact ⟨cs, hkeep g _ cs hb (by
        intro e
        have e2 : some gr = some g := e
        exact hng (Option.some.inj e2).symm), ht⟩
    · obtain rfl : k = n := by omega
      rw [← hn, List.take_length] at hown
      go_wp2_with fail
      go_ret
      exact ⟨_, rfl, by rw [← hn]; exact hown, O⟩
set_option maxRecDepth 100000 in
set_option maxHeartbeats 1000000 in
theorem izfind_calls (s nm : ByteArray) (x : Addr) (hs : s.size ≤ 1048576) (w : World) (hO : Ord w x) (hf : Fact w) :
    Calls Tryz.prog 15 #[.string s, .string nm] w (Tells w (.tuple #[.string (zipFind s nm).1, .bool (zipFind s nm).2])) := by
  have HZ := Lib.hid (izipget_calls s x hs w hO hf)
  have h6 := zipGot_few s
  unfold zipFind
  generalize zipGot s = r at *
  obtain ⟨L, b⟩ := r
  simp only at h6 ⊢
  clear hO hf
  obtain ⟨n, hn0⟩ : ∃ n, L.length = n := ⟨_, rfl⟩
  have HAT := Lib.hid (fun k (hk : k < n) (h1 : (L[k]'(by omega)).nm.data.toList = nm.data.toList) (h2 : ∀ j, j < k → nmAt L j ≠ nm.data.toList) => findF_at (by omega) h1 h2)
  have HNO := Lib.hid (fun (h : ∀ j, j < n → nmAt L j ≠ nm.data.toList) => findF_no (L := L) (nm := nm) fun j hj => h j (by omega))
  rw [hn0] at h6
  generalize findF L nm = fr at *
  go_enter Tryz.func15, Tryz.ntmps15
  go_wp2_with fail
  refine (HZ.out.mono fun _ _ h => h.row hn0).mono ?_
  rintro e w1 ⟨g, cap, rfl, O1, hb, hrow, hn, hm⟩
  have F := FiAt.row hrow
  go_wp2_with fail
  go_loopw [9, 17] (fun _ x wr => ∃ k : Nat, x = .int .i64 k ∧ k ≤ n ∧ On w1 wr ∧ ∀ j, j < k → nmAt L j ≠ nm.data.toList) (fun _ x _ => n - (intOf x).toNat)
  case atStart => exact ⟨0, rfl, by omega, On.refl _, fun j hj => by omega⟩
  case round =>
    obtain ⟨k, rfl, hk, O, H⟩ := hrel
    by_cases hlt : k < n
    · have hkl : k < L.length := by omega
      obtain ⟨c0, c1, c2, c3, c4, c5, c6, c7⟩ := (F.on O).cells hkl
      simp only [Nat.zero_add] at c0 c1 c2 c3 c4 c5 c6 c7
      have HN := Lib.hid (nmAt_lt hkl)
      have HA := Lib.hid (fun h1 h2 => HAT.out k hlt h1 h2)
      generalize L[k].nm = u at *
      generalize L[k].y = y at *
      generalize L[k].m = m at *
      generalize L[k].d = d at *
      generalize L[k].h = h at *
      generalize L[k].mi = mi at *
      generalize L[k].s = se at *
      generalize L[k].tx = tx at *
      rw [← ByteArray.toList_eq u] at HN HA
      rw [← ByteArray.toList_eq nm] at HA H
      go_upto_region 5 with fail
      have A1 := (On.refl wr).alloc (.cells #[.string u, .int .i64 y, .int .i64 m, .int .i64 d, .int .i64 h, .int .i64 mi, .int .i64 se, .string tx] 42)
      have B1 := Blk.new wr 42 #[.string u, .int .i64 y, .int .i64 m, .int .i64 d, .int .i64 h, .int .i64 mi, .int .i64 se, .string tx]
      have x0 : (wr.alloc (.cells #[.string u, .int .i64 y, .int .i64 m, .int .i64 d, .int .i64 h, .int .i64 mi, .int .i64 se, .string tx] 42)).cell? ⟨wr.heap.size, 0, none⟩ = some (.string u) := (B1.cell 0).trans rfl
      have x7 : (wr.alloc (.cells #[.string u, .int .i64 y, .int .i64 m, .int .i64 d, .int .i64 h, .int .i64 mi, .int .i64 se, .string tx] 42)).cell? ⟨wr.heap.size, 7, none⟩ = some (.string tx) := (B1.cell 7).trans rfl
      clear c0 c1 c2 c3 c4 c5 c6 c7 B1
      generalize wr.alloc (.cells #[.string u, .int .i64 y, .int .i64 m, .int .i64 d, .int .i64 h, .int .i64 mi, .int .i64 se, .string tx] 42) = wb at *
      generalize wr.heap.size = p at *
      by_cases h1 : u.toList = nm.toList
      · have HR := Lib.hid (HA.out h1 H)
        go_wp2_with fail
        go_ret2
        exact ⟨by rw [HR.out]; rfl, O1.call (O.call A1)⟩
      · have H2 := Lib.hid h1
        go_wp2_with fail
        · exact absurd (beq_iff_eq.1 (by assumption)) H2.out
        exact ⟨⟨k + 1, by go_num, by omega, O.call A1, fun j hj => by
          rcases Nat.lt_or_ge j k with hj' | hj'
          · rw [← ByteArray.toList_eq nm]; exact H j hj'
          · obtain rfl : j = k := by omega
            rw [HN.out, ← ByteArray.toList_eq nm]; exact H2.out⟩, by simp [intOf]; omega⟩
    · obtain rfl : k = n := by omega
      go_wp2_with fail
      go_ret2
      exact ⟨by rw [HNO.out H]; rfl, O1.call O⟩
set_option maxRecDepth 100000 in
set_option maxHeartbeats 1000000 in
theorem szfind_calls (s nm : ByteArray) (hs : s.size ≤ 1048576) (w : World) :
    Calls Tryz.prog 16 #[.string s, .string nm] w (Tells w (.tuple #[.string (zipFind s nm).1, .bool (zipFind s nm).2])) := by
  have HZ := Lib.hid (szipget_calls s hs w)
  have h6 := zipGot_few s
  unfold zipFind
  generalize zipGot s = r at *
  obtain ⟨L, b⟩ := r
  simp only at h6 ⊢
  have HSA := Lib.hid (fun sp cap w h => sat_calls sp cap L nm w h (by omega))
  obtain ⟨n, hn0⟩ : ∃ n, L.length = n := ⟨_, rfl⟩
  have HAT := Lib.hid (fun k (hk : k < n) (h1 : (L[k]'(by omega)).nm.data.toList = nm.data.toList) (h2 : ∀ j, j < k → nmAt L j ≠ nm.data.toList) => findF_at (by omega) h1 h2)
  have HNO := Lib.hid (fun (h : ∀ j, j < n → nmAt L j ≠ nm.data.toList) => findF_no (L := L) (nm := nm) fun j hj => h j (by omega))
  rw [hn0] at HSA h6
  generalize findF L nm = fr at *
  go_enter Tryz.func16, Tryz.ntmps16
  go_wp2_with fail
  refine (HZ.out.mono fun _ _ h => h.row hn0).mono ?_
  rintro e w1 ⟨g, cap, rfl, O1, hb, hrow, hn, hm⟩
  have F := FiAt.row hrow
  go_wp2_with fail
  refine (HSA.out (some ⟨g, 0, none⟩) cap w1 ⟨.inr ⟨g, 0, rfl, F⟩⟩).mono ?_
  rintro e w2 ⟨v, rfl, hw, hv⟩
  rw [hw]
  clear hw
  rcases hv with ⟨rfl, hno⟩ | ⟨k, rfl, hk, h1, h2⟩
  · have HR := Lib.hid (HNO.out hno)
    clear hno
    go_wp2_with fail
    go_ret2
    exact ⟨by rw [HR.out]; rfl, O1⟩
  · have hkl : k < L.length := by omega
    obtain ⟨_, _, _, _, _, _, _, c7⟩ := F.cells hkl
    simp only [Nat.zero_add] at c7
    rw [nmAt_lt hkl] at h1
    have HR := Lib.hid (HAT.out k hk h1 h2)
    generalize L[k].tx = tx at *
    clear h1 h2
    go_wp2_with fail
    go_ret2
    exact ⟨by rw [HR.out]; rfl, O1⟩
end Go.Proofs.YtnadjlejlohgiaaGreatDoor.Lc

