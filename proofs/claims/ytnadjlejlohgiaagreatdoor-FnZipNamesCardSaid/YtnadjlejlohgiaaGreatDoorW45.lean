/- Own texts joined: Zi, Zn, LwZf. -/
import Derived.Deep.QuietTactic
import Derived.BigQuiet
import Derived.Test.YtnadjlejlohgiaaGreatDoorW17
import Derived.Test.YtnadjlejlohgiaaGreatDoorW38
import Derived.Test.YtnadjlejlohgiaaGreatDoorW42
import Derived.Test.YtnadjlejlohgiaaGreatDoorW44
/- What is read at each place of an archive, joined: ZipGet of the program and of the specification both answer zipGot. -/
namespace Go.Proofs.YtnadjlejlohgiaaGreatDoor.Lc
open Go.RowKit Go.Proofs.YtnadjlejlohgiaaGreatDoor.Mem Go.Proofs.YtnadjlejlohgiaaGreatDoor.Nm Go.Proofs.YtnadjlejlohgiaaGreatDoor.Nb Go.Proofs.YtnadjlejlohgiaaGreatDoor.Cr Go.Proofs.YtnadjlejlohgiaaGreatDoor.Wi
set_option linter.unusedVariables false
set_option linter.unusedSimpArgs false
/-- The file at a place, and how long it is. -/
def getA (s : ByteArray) (k : Nat) : Option (Fi × Nat) := (txt s k).map fun o => (fiOf (tail s (pos s k)) o, rdLong (tail s (pos s k)))
theorem getA_some {s : ByteArray} {k n : Nat} {f : Fi} (h : getA s k = some (f, n)) : ∃ o, txt s k = some o ∧ f = fiOf (tail s (pos s k)) o ∧ n = rdLong (tail s (pos s k)) := by
  obtain ⟨o, ho, e⟩ := Option.map_eq_some_iff.1 h
  simp only [Prod.mk.injEq] at e
  exact ⟨o, ho, e.1.symm, e.2.symm⟩
theorem getA_none {s : ByteArray} {k : Nat} (h : getA s k = none) : txt s k = none := Option.map_eq_none_iff.1 h
theorem get_good {s : ByteArray} {k : Nat} : (∀ i, i < k → (getA s i).isSome = true) ↔ good s k := by
  unfold good getA
  simp only [Option.isSome_map]
theorem txt_head {s : ByteArray} {k : Nat} {o : ByteArray} (h : txt s k = some o) : headOk (tail s (pos s k)) := by
  unfold txt locText at h
  by_cases hk : headOk (tail s (pos s k))
  · exact hk
  · rw [if_neg hk] at h; cases h
theorem loc_ok {t o : ByteArray} (h : locText t = some o) : textOk t o := by
  unfold locText at h
  split at h
  · split at h
    · split at h
      · rename_i hk
        obtain rfl := Option.some.inj h
        exact hk
      · cases h
    · cases h
  · cases h
theorem zread (s : ByteArray) (hs : s.size ≤ 1048576) : ZRead (fun k => tail s (pos s k)) (getA s) (files s) (pcs s) where
  f0 := rfl
  p0 := rfl
  plen := pcs_length s
  step := by
    intro k f n h
    obtain ⟨o, ho, rfl, rfl⟩ := getA_some h
    have hh := (txt_head ho).2.2.2.2.2
    refine ⟨?_, ?_, hh, ?_⟩
    · rw [files_succ]; unfold fileAt; rw [ho]; rfl
    · rw [pcs_succ]; rfl
    · show tail s (pos s k + rdLong _) = _
      rw [← tail_tail]; rfl
  small := fun k => by rw [tail_size]; omega
  pz := by
    intro k hg l hl
    have h := get_good.1 hg
    unfold pcs at hl
    obtain ⟨i, hi, rfl⟩ := List.mem_map.1 hl
    have hik := List.mem_range.1 hi
    have hz := pc_size h hik
    have h30 : 30 + numAtB s (pos s i + 26) 2 ≤ rdLong (tail s (pos s i)) := by unfold rdLong; rw [numAtB_tail]; omega
    have e1 : numAtB (pc s i) 26 2 = numAtB s (pos s i + 26) 2 := by rw [numAtB_eq, numAtB_eq, ch_pc, numL_sub _ (by omega)]
    have h2 := (good_head h hik).2.2.2.2.2
    rw [tail_size] at h2
    refine ⟨by rw [e1, hz]; exact h30, ?_⟩
    rw [hz]
    unfold rdLong
    omega
theorem sread (s : ByteArray) : SRead s (pos s) (getA s) (files s) where
  f0 := rfl
  p0 := rfl
  step := by
    intro k f n h
    obtain ⟨o, ho, rfl, rfl⟩ := getA_some h
    refine ⟨?_, rfl⟩
    rw [files_succ]; unfold fileAt; rw [ho]; rfl
  le := fun k h => pos_le (get_good.1 h)
theorem pos_ge (s : ByteArray) : ∀ k, 30 * k ≤ pos s k
  | 0 => Nat.zero_le _
  | k + 1 => by
    have := pos_ge s k
    show 30 * (k + 1) ≤ pos s k + rdLong _
    unfold rdLong
    omega
theorem files_few {s : ByteArray} {k : Nat} (h : good s k) (hs : s.size ≤ 1048576) : (files s k).length ≤ 1048576 := by
  have h1 := pos_ge s k
  have h2 := pos_le h
  rw [files_length]
  omega
theorem files_parts {s : ByteArray} {k : Nat} (h : good s k) {f : Fi} (hf : f ∈ files s k) : enOk f = true := by
  unfold files at hf
  obtain ⟨i, hi, rfl⟩ := List.mem_map.1 hf
  obtain ⟨o, ho⟩ := Option.isSome_iff_exists.1 (h i (List.mem_range.1 hi))
  have h2 := (loc_ok (show locText (tail s (pos s i)) = some o from ho)).2.2
  unfold fileAt
  rw [ho]
  exact h2
theorem szs_files {s : ByteArray} {k : Nat} (h : good s k) : Szs (files s k) 1048576 := ⟨fun f hf => by
  have h3 := entryOk_parts (files_parts h hf)
  exact ⟨by omega, by omega⟩⟩
/-- What ZipGet answers. -/
structure ZipTells (w : World) (r : List Fi × Bool) (e : Ending) (w' : World) : Prop where mk :: (out : ∃ v, e = .returned (.tuple #[v, .bool r.2]) ∧ On w w' ∧ Own w.heap.size w' 42 8 v r.1.length (fcells r.1))
theorem izipget_calls (s : ByteArray) (x : Addr) (hs : s.size ≤ 1048576) (w : World) (hO : Ord w x) (hf : Fact w) :
    Calls Tryz.prog 10 #[.string s] w (ZipTells w (zipGot s)) := by
  have h0 : tail s (pos s 0) = s := tail_zero s
  have H := izipget_gen (fun k => tail s (pos s k)) (getA s) (files s) (pcs s) (fun k => ZipOk (files s k)) (zread s hs) w (fun k f n w' h O => by
      obtain ⟨o, ho, rfl, rfl⟩ := getA_some h
      have hl := ilget_calls (tail s (pos s k)) x (by rw [tail_size]; omega) w' (hO.on O) (hf.on hf.lt O)
      unfold lgetV at hl
      rw [lget_some (show locText (tail s (pos s k)) = some o from ho)] at hl
      exact hl)
    (fun k w' h O => by
      have hl := ilget_calls (tail s (pos s k)) x (by rw [tail_size]; omega) w' (hO.on O) (hf.on hf.lt O)
      unfold lgetV at hl
      rw [lget_none (show locText (tail s (pos s k)) = none from getA_none h)] at hl
      exact hl)
    (fun k g cap w' O hg hfi => by
      have hgd := get_good.1 hg
      have h := izipok_calls (some ⟨g, 0, none⟩) cap (files s k) w' (hf.on hf.lt O) ⟨.inr ⟨g, 0, rfl, hfi⟩⟩ (szs_files hgd) (files_few hgd hs)
      rw [files_length] at h
      exact h)
  rw [h0] at H
  refine H.mono ?_
  rintro e w' ⟨k, v, b, h6, hg, hend, rfl, O, hcase⟩
  have hgood := get_good.1 hg
  obtain ⟨hy, hn⟩ := zip_impl h6 hgood (hend.imp id fun h => getA_none h)
  rcases hcase with ⟨rfl, hz, hc, hown⟩ | ⟨rfl, hno, hown⟩
  · rw [hy ⟨hz, hc⟩]
    exact ⟨v, rfl, O, by rw [files_length]; exact hown⟩
  · rw [hn hno]
    exact ⟨v, rfl, O, hown⟩
def manyZ (s : ByteArray) : Int := if 12 ≤ s.size then (numAtB s (s.size - 12) 2 : Nat) else -1
theorem manyZ_bd (s : ByteArray) : -1 ≤ manyZ s ∧ manyZ s ≤ 65535 := by
  unfold manyZ
  have := numAtB_lt s (s.size - 12) 2
  split <;> omega
theorem snum_neg (s : ByteArray) (a : Int) (n : Int) (ha : a < 0) (w : World) :
    Calls Tryz.prog 29 #[.string s, .int .i64 a, .int .i64 n] w (fun e w' => e = .returned (.int .i64 (-1)) ∧ w' = w) := by
  go_enter Tryz.func29, Tryz.ntmps29
  go_wp2_with fail
  go_ret
  exact ⟨rfl, rfl⟩
theorem smany_num (s : ByteArray) (hs : s.size ≤ 1048576) (w : World) : Calls Tryz.prog 29 #[.string s, .int .i64 ((s.size : Int) - 12), .int .i64 2] w (fun e w'' => e = .returned (.int .i64 (manyZ s)) ∧ w'' = w) := by
  unfold manyZ
  by_cases h : 12 ≤ s.size
  · rw [if_pos h]
    have hc := snum_calls s (s.size - 12) 2 (by omega) (by omega) (by decide) w
    rw [show ((s.size - 12 : Nat) : Int) = (s.size : Int) - 12 from by omega] at hc
    exact hc
  · rw [if_neg h]
    exact snum_neg s _ 2 (by omega) w
/-- The place of a head in the list, as the reference goes. -/
def hpA (s : ByteArray) (k : Nat) : Nat → Nat
  | 0 => pos s k
  | i + 1 => hpA s k i + (46 + numAtB s (hpA s k i + 28) 2)
theorem hpA_succ {s : ByteArray} {k i : Nat} (h : good s k) (hi : i < k) (e : hpA s k i = pos s k + hL s k i) (f : fineL (chars s) (pos s k + hL s k i) (pos s i)) : hpA s k (i + 1) = pos s k + hL s k (i + 1) := by
  have e2 := (fine_to f).2
  show hpA s k i + (46 + numAtB s (hpA s k i + 28) 2) = _
  rw [e, numAtB_eq, e2, hL_succ h hi]
  omega
theorem hpA_is {s : ByteArray} {k : Nat} (h : good s k) : ∀ {i : Nat}, i ≤ k → (∀ j, j < i → fineB s (hpA s k j) (pos s j)) → hpA s k i = pos s k + hL s k i
  | 0, _, _ => rfl
  | i + 1, hi, hf => by
    have ih := hpA_is h (i := i) (by omega) fun j hj => hf j (by omega)
    have f := (fineB_iff _ _ _).1 (hf i (Nat.lt_succ_self i))
    rw [ih] at f
    exact hpA_succ h (by omega) ih f
theorem hpA_of {s : ByteArray} {k : Nat} (h : good s k) (hf : ∀ i, i < k → fineL (chars s) (pos s k + hL s k i) (pos s i)) : ∀ {i : Nat}, i ≤ k → hpA s k i = pos s k + hL s k i
  | 0, _ => rfl
  | i + 1, hi => hpA_succ h (by omega) (hpA_of h hf (i := i) (by omega)) (hf i (by omega))
theorem sread_some (s : ByteArray) (hs : s.size ≤ 1048576) {k n : Nat} {f : Fi} (h : getA s k = some (f, n)) (w : World) : Calls Tryz.prog 34 #[.string (s.extract (pos s k) s.size)] w (Tells w (.tuple #[.agg #[.string f.nm, .int .i64 f.y, .int .i64 f.m, .int .i64 f.d, .int .i64 f.h, .int .i64 f.mi, .int .i64 f.s, .string f.tx], .int .i64 (n : Nat), .bool true])) := by
  obtain ⟨o, ho, rfl, rfl⟩ := getA_some h
  refine (sread_calls (tail s (pos s k)) (by rw [tail_size]; omega) w).mono ?_
  rintro e w' ⟨nm, y, m, d, h, mi, se, tx, n, b, rfl, O, hr⟩
  have hl : locText (tail s (pos s k)) = some o := ho
  have hb := hr.ok
  rw [hl] at hb
  obtain ⟨hf, hn⟩ := hr.got o hl
  have hb' : b = true := hb
  subst hb'
  subst hn
  rw [← hf]
  exact ⟨rfl, O⟩
theorem sread_none (s : ByteArray) (hs : s.size ≤ 1048576) {k : Nat} (hg : getA s k = none) (w : World) : Calls Tryz.prog 34 #[.string (s.extract (pos s k) s.size)] w (fun e w'' => ∃ nm y m d h mi se tx n, e = .returned (.tuple #[.agg #[.string nm, .int .i64 y, .int .i64 m, .int .i64 d, .int .i64 h, .int .i64 mi, .int .i64 se, .string tx], .int .i64 n, .bool false]) ∧ On w w'') := by
  refine (sread_calls (tail s (pos s k)) (by rw [tail_size]; omega) w).mono ?_
  rintro e w' ⟨nm, y, m, d, h, mi, se, tx, n, b, rfl, O, hr⟩
  have hl : locText (tail s (pos s k)) = none := getA_none hg
  have hb := hr.ok
  rw [hl] at hb
  have hb' : b = false := hb
  subst hb'
  exact ⟨nm, y, m, d, h, mi, se, tx, n, rfl, O⟩
theorem szipget_calls (s : ByteArray) (hs : s.size ≤ 1048576) (w : World) : Calls Tryz.prog 9 #[.string s] w (ZipTells w (zipGot s)) := by
  have H := szipget_gen s hs (manyZ s) (manyZ_bd s) (pos s) (hpA s) (getA s) (files s) (fun k => ZipOk (files s k)) (sread s) w (fun _ => rfl) (fun _ _ => rfl) (fun w' => smany_num s hs w') (fun w' => sin_same (manyZ s) 0 6 w')
    (fun k f n w' h _ => sread_some s hs h w')
    (fun many w' hm O => sl7get_gen s hs (pos s) (getA s) (files s) (sread s) many hm w' (fun k f n w'' h _ => sread_some s hs h w'') (fun k w'' h _ => sread_none s hs h w''))
    (fun k g cap w' O hg hfi => by
      have hgd := get_good.1 hg
      have h := szipok_calls (some ⟨g, 0, none⟩) cap (files s k) w' ⟨.inr ⟨g, 0, rfl, hfi⟩⟩ (szs_files hgd) (files_few hgd hs)
      rw [files_length] at h
      exact h)
  refine H.mono ?_
  rintro e w' ⟨v, b, rfl, O, hcase⟩
  rcases hcase with ⟨rfl, k, hm, h6, hg, hz, hf, he, hown⟩ | ⟨rfl, hown, hno⟩
  · have hgd := get_good.1 hg
    have hk := hpA_is hgd (Nat.le_refl k) hf
    rw [hk, Nat.add_sub_cancel_left] at he
    rw [zip_spec_yes h6 hgd hz (fun i hi => by
      have e := hpA_is hgd (i := i) (by omega) fun j hj => hf j (by omega)
      rw [← e]
      exact (fineB_iff _ _ _).1 (hf i hi)) he]
    exact ⟨v, rfl, O, by rw [files_length]; exact hown⟩
  · have hz : zipGot s = ([], false) := by
      by_cases h12 : 12 ≤ s.size
      · refine zip_spec_no (k := numAtB s (s.size - 12) 2) (fun _ => rfl) (fun h6 hgd hz hf he => ?_)
        have e := fun i (hi : i ≤ numAtB s (s.size - 12) 2) => hpA_of hgd hf hi
        refine hno _ (by unfold manyZ; rw [if_pos h12]) h6 (get_good.2 hgd) hz (fun i hi => ?_) ?_
        · rw [e i (by omega)]
          exact (fineB_iff _ _ _).2 (hf i hi)
        · rw [e _ (Nat.le_refl _), Nat.add_sub_cancel_left]
          exact he
      · exact zip_spec_no (k := 7) (fun h => absurd h h12) (fun h6 => by omega)
    rw [hz]
    exact ⟨v, rfl, O, hown⟩
end Go.Proofs.YtnadjlejlohgiaaGreatDoor.Lc

/- Names of an archive, and what is found in it, of the program and of the specification. -/
namespace Go.Proofs.YtnadjlejlohgiaaGreatDoor.Lc
open Go.RowKit Go.Proofs.YtnadjlejlohgiaaGreatDoor.Mem Go.Proofs.YtnadjlejlohgiaaGreatDoor.Nm Go.Proofs.YtnadjlejlohgiaaGreatDoor.Nb Go.Proofs.YtnadjlejlohgiaaGreatDoor.Cr Go.Proofs.YtnadjlejlohgiaaGreatDoor.Wi
set_option linter.unusedVariables false
set_option linter.unusedSimpArgs false
theorem zipGot_few (s : ByteArray) : (zipGot s).1.length ≤ 6 := by
  by_cases h : ∃ k, zipIs s k
  · obtain ⟨k, hk⟩ := h
    rw [zipGot_yes hk, files_length]
    exact hk.1
  · rw [zipGot_no h]
    exact Nat.zero_le _
/-- What is found of a name. -/
def findF (L : List Fi) (nm : ByteArray) : ByteArray × Bool := match L.find? (fun f => decide (f.nm.data.toList = nm.data.toList)) with | some f => (f.tx, true) | none => (⟨#[]⟩, false)
theorem findF_at {L : List Fi} {nm : ByteArray} {k : Nat} (hk : k < L.length) (h1 : L[k].nm.data.toList = nm.data.toList) (h2 : ∀ j, j < k → nmAt L j ≠ nm.data.toList) : findF L nm = (L[k].tx, true) := by
  have e : L.find? (fun f => decide (f.nm.data.toList = nm.data.toList)) = some L[k] := by
    rw [List.find?_eq_some_iff_getElem]
    refine ⟨by simpa using h1, k, hk, rfl, fun j hj => ?_⟩
    have h3 := h2 j hj
    rw [nmAt_lt (by omega)] at h3
    simpa using h3
  unfold findF
  rw [e]
theorem findF_no {L : List Fi} {nm : ByteArray} (h : ∀ j, j < L.length → nmAt L j ≠ nm.data.toList) : findF L nm = (⟨#[]⟩, false) := by
  have e : L.find? (fun f => decide (f.nm.data.toList = nm.data.toList)) = none := by
    rw [List.find?_eq_none]
    intro f hf
    obtain ⟨i, hi, rfl⟩ := List.mem_iff_getElem.1 hf
    have h3 := h i hi
    rw [nmAt_lt hi] at h3
    simpa using h3
  unfold findF
  rw [e]
/-- What is found in an archive. -/
noncomputable def zipFind (s nm : ByteArray) : ByteArray × Bool := findF (zipGot s).1 nm
/-- What ZipGet answers, its row opened. -/
structure ZipRow (w : World) (L : List Fi) (n : Nat) (b : Bool) (e : Ending) (w' : World) : Prop where mk :: (out : ∃ g cap, e = .returned (.tuple #[.slice (some ⟨g, 0, none⟩) n cap, .bool b]) ∧ On w w' ∧ w.heap.size ≤ g ∧ Row w' g 42 (fcells L) ∧ n ≤ cap ∧ cap ≤ maxLen)
theorem ZipTells.row {w w' : World} {L : List Fi} {b : Bool} {n : Nat} {e : Ending} (hn : L.length = n) (h : ZipTells w (L, b) e w') : ZipRow w L n b e w' := by
  obtain ⟨v, rfl, O, hown⟩ := h.out
  obtain ⟨g, cap, rfl, hb, hrow, hc, hm, _⟩ := hown.parts
  subst hn
  exact ⟨g, cap, rfl, O, hb, hrow, hc, hm⟩
set_option maxRecDepth 100000 in
theorem iznames_calls (s : ByteArray) (x : Addr) (hs : s.size ≤ 1048576) (w : World) (hO : Ord w x) (hf : Fact w) :
    Calls Tryz.prog 18 #[.string s] w (fun e w' => ∃ v, e = .returned v ∧ Own w.heap.size w' 9 1 v (zipGot s).1.length (nms (zipGot s).1) ∧ On w w') := by
  have HZ := Lib.hid (izipget_calls s x hs w hO hf)
  have h6 := zipGot_few s
  generalize zipGot s = r at *
  obtain ⟨L, b⟩ := r
  have HN := Lib.hid (fun sp cap w h => namesof_calls sp cap L w h h6)
  clear h6 hO hf
  go_enter Tryz.func18, Tryz.ntmps18
  go_wp2_with fail
  refine HZ.out.mono ?_
  rintro e w1 ⟨v, rfl, O1, hown⟩
  obtain ⟨g, cap, rfl, hb, hrow, hn, hm, hl⟩ := hown.parts
  go_wp2_with fail
  refine (HN.out (some ⟨g, 0, none⟩) cap w1 ⟨.inr ⟨g, 0, rfl, FiAt.row hrow⟩⟩).mono ?_
  rintro e w2 ⟨v2, rfl, hown2, O2⟩
  go_wp2_with fail
  go_ret
  exact ⟨v2, rfl, hown2.low O1.size, O1.call O2⟩
set_option maxRecDepth 100000 in
set_option maxHeartbeats 1000000 in
theorem sznames_calls (s : ByteArray) (hs : s.size ≤ 1048576) (w : World) :
    Calls Tryz.prog 21 #[.string s] w (fun e w' => ∃ v, e = .returned v ∧ Own w.heap.size w' 9 1 v (zipGot s).1.length (nms (zipGot s).1) ∧ On w w') := by
  have HZ := Lib.hid (fun w => szipget_calls s hs w)
  have h6 := zipGot_few s
  generalize zipGot s = r at *
  obtain ⟨L, b⟩ := r
  simp only at h6 HZ ⊢
  generalize hn : L.length = n at *
  have R1 := Own.new (base := w.heap.size) w 9 1 #[] 0 (Nat.zero_le _) rfl (Nat.le_refl _)
  have OA := (On.refl w).alloc (.cells #[] 9)
  go_enter Tryz.func21, Tryz.ntmps21
  obtain ⟨i0, hi0, hz0, hz1, hz2⟩ := info_parts strinfo
  go_wp2_with fail
  refine (HZ.out _).mono ?_
  rintro e w1 ⟨v, rfl, O1, hownF⟩
  rw [hn] at hownF
  obtain ⟨g, cap, rfl, hb, hrowF, hnc, hm, hl⟩ := hownF.parts
  replace R1 := R1.on O1
  replace OA := OA.call O1
  clear hownF O1
  go_wp2_with fail
  go_loopw [3, 6] (fun v x wr => ∃ k : Nat, x = .int .i64 k ∧ k ≤ n ∧ Own w.heap.size wr 9 1 v k (nms (L.take k)) ∧ On w wr ∧ Row wr g 42 (fcells L)) (fun _ x _ => n - (intOf x).toNat)
  case atStart => exact ⟨0, rfl, by omega, R1, OA, hrowF⟩
  case round =>
    obtain ⟨k, rfl, hk, hown, O, hF⟩ := hrel
    have F := FiAt.row hF
    obtain ⟨gr, capr, rfl, hgr, hrow, hkc, hcap, hlen⟩ := hown.parts
    by_cases hlt : k < n
    · have hkl : k < L.length := by omega
      obtain ⟨c0, c1, c2, c3, c4, c5, c6, c7⟩ := F.cells hkl
      have hnm : nms (L.take k) ++ [.string L[k].nm] = nms (L.take (k + 1)) := by
        unfold nms
        rw [List.take_succ_eq_append_getElem hkl, List.map_append]; rfl
      have HNM := Lib.hid hnm
      clear hnm c1 c2 c3 c4 c5 c6 c7
      generalize L[k].nm = nm at *
      have hng := row_ne' hF hrow (by decide)
      clear hrow
      simp only [Nat.zero_add] at c0
      go_wp2_with (at_builtin; go_must (refine wpList_app rfl _ _ 34 rfl w i0 (.string ByteArray.empty) 16 1 Tryz.underlying34 hi0 hz0 hz1 hz2 rfl (by decide) rfl _ _ _ rfl hown O rfl (by simp [Value.oneCell']) (by unfold maxLen; omega) (by omega) ?_); intro v' w2 hown' O' hkeep)
      go_wp2_with fail
      refine ⟨⟨k + 1, by go_num, by omega, by rw [← HNM.out]; simpa using hown', O', ?_⟩, by simp [intOf]; omega⟩
      obtain ⟨cs, hb, ht⟩ := hF.out
      exact ⟨cs, hkeep g _ cs hb (by
        intro e
        have e2 : some gr = some g := e
        exact hng (Option.some.inj e2).symm), ht⟩
    · obtain rfl : k = n := by omega
      rw [← hn, List.take_length] at hown
      go_wp2_with fail
      go_ret
      exact ⟨_, rfl, by rw [← hn]; exact hown, O⟩
set_option maxRecDepth 100000 in
set_option maxHeartbeats 1000000 in
theorem izfind_calls (s nm : ByteArray) (x : Addr) (hs : s.size ≤ 1048576) (w : World) (hO : Ord w x) (hf : Fact w) :
    Calls Tryz.prog 15 #[.string s, .string nm] w (Tells w (.tuple #[.string (zipFind s nm).1, .bool (zipFind s nm).2])) := by
  have HZ := Lib.hid (izipget_calls s x hs w hO hf)
  have h6 := zipGot_few s
  unfold zipFind
  generalize zipGot s = r at *
  obtain ⟨L, b⟩ := r
  simp only at h6 ⊢
  clear hO hf
  obtain ⟨n, hn0⟩ : ∃ n, L.length = n := ⟨_, rfl⟩
  have HAT := Lib.hid (fun k (hk : k < n) (h1 : (L[k]'(by omega)).nm.data.toList = nm.data.toList) (h2 : ∀ j, j < k → nmAt L j ≠ nm.data.toList) => findF_at (by omega) h1 h2)
  have HNO := Lib.hid (fun (h : ∀ j, j < n → nmAt L j ≠ nm.data.toList) => findF_no (L := L) (nm := nm) fun j hj => h j (by omega))
  rw [hn0] at h6
  generalize findF L nm = fr at *
  go_enter Tryz.func15, Tryz.ntmps15
  go_wp2_with fail
  refine (HZ.out.mono fun _ _ h => h.row hn0).mono ?_
  rintro e w1 ⟨g, cap, rfl, O1, hb, hrow, hn, hm⟩
  have F := FiAt.row hrow
  go_wp2_with fail
  go_loopw [9, 17] (fun _ x wr => ∃ k : Nat, x = .int .i64 k ∧ k ≤ n ∧ On w1 wr ∧ ∀ j, j < k → nmAt L j ≠ nm.data.toList) (fun _ x _ => n - (intOf x).toNat)
  case atStart => exact ⟨0, rfl, by omega, On.refl _, fun j hj => by omega⟩
  case round =>
    obtain ⟨k, rfl, hk, O, H⟩ := hrel
    by_cases hlt : k < n
    · have hkl : k < L.length := by omega
      obtain ⟨c0, c1, c2, c3, c4, c5, c6, c7⟩ := (F.on O).cells hkl
      simp only [Nat.zero_add] at c0 c1 c2 c3 c4 c5 c6 c7
      have HN := Lib.hid (nmAt_lt hkl)
      have HA := Lib.hid (fun h1 h2 => HAT.out k hlt h1 h2)
      generalize L[k].nm = u at *
      generalize L[k].y = y at *
      generalize L[k].m = m at *
      generalize L[k].d = d at *
      generalize L[k].h = h at *
      generalize L[k].mi = mi at *
      generalize L[k].s = se at *
      generalize L[k].tx = tx at *
      rw [← ByteArray.toList_eq u] at HN HA
      rw [← ByteArray.toList_eq nm] at HA H
      go_upto_region 5 with fail
      have A1 := (On.refl wr).alloc (.cells #[.string u, .int .i64 y, .int .i64 m, .int .i64 d, .int .i64 h, .int .i64 mi, .int .i64 se, .string tx] 42)
      have B1 := Blk.new wr 42 #[.string u, .int .i64 y, .int .i64 m, .int .i64 d, .int .i64 h, .int .i64 mi, .int .i64 se, .string tx]
      have x0 : (wr.alloc (.cells #[.string u, .int .i64 y, .int .i64 m, .int .i64 d, .int .i64 h, .int .i64 mi, .int .i64 se, .string tx] 42)).cell? ⟨wr.heap.size, 0, none⟩ = some (.string u) := (B1.cell 0).trans rfl
      have x7 : (wr.alloc (.cells #[.string u, .int .i64 y, .int .i64 m, .int .i64 d, .int .i64 h, .int .i64 mi, .int .i64 se, .string tx] 42)).cell? ⟨wr.heap.size, 7, none⟩ = some (.string tx) := (B1.cell 7).trans rfl
      clear c0 c1 c2 c3 c4 c5 c6 c7 B1
      generalize wr.alloc (.cells #[.string u, .int .i64 y, .int .i64 m, .int .i64 d, .int .i64 h, .int .i64 mi, .int .i64 se, .string tx] 42) = wb at *
      generalize wr.heap.size = p at *
      by_cases h1 : u.toList = nm.toList
      · have HR := Lib.hid (HA.out h1 H)
        go_wp2_with fail
        go_ret2
        exact ⟨by rw [HR.out]; rfl, O1.call (O.call A1)⟩
      · have H2 := Lib.hid h1
        go_wp2_with fail
        · exact absurd (beq_iff_eq.1 (by assumption)) H2.out
        exact ⟨⟨k + 1, by go_num, by omega, O.call A1, fun j hj => by
          rcases Nat.lt_or_ge j k with hj' | hj'
          · rw [← ByteArray.toList_eq nm]; exact H j hj'
          · obtain rfl : j = k := by omega
            rw [HN.out, ← ByteArray.toList_eq nm]; exact H2.out⟩, by simp [intOf]; omega⟩
    · obtain rfl : k = n := by omega
      go_wp2_with fail
      go_ret2
      exact ⟨by rw [HNO.out H]; rfl, O1.call O⟩
set_option maxRecDepth 100000 in
set_option maxHeartbeats 1000000 in
theorem szfind_calls (s nm : ByteArray) (hs : s.size ≤ 1048576) (w : World) :
    Calls Tryz.prog 16 #[.string s, .string nm] w (Tells w (.tuple #[.string (zipFind s nm).1, .bool (zipFind s nm).2])) := by
  have HZ := Lib.hid (szipget_calls s hs w)
  have h6 := zipGot_few s
  unfold zipFind
  generalize zipGot s = r at *
  obtain ⟨L, b⟩ := r
  simp only at h6 ⊢
  have HSA := Lib.hid (fun sp cap w h => sat_calls sp cap L nm w h (by omega))
  obtain ⟨n, hn0⟩ : ∃ n, L.length = n := ⟨_, rfl⟩
  have HAT := Lib.hid (fun k (hk : k < n) (h1 : (L[k]'(by omega)).nm.data.toList = nm.data.toList) (h2 : ∀ j, j < k → nmAt L j ≠ nm.data.toList) => findF_at (by omega) h1 h2)
  have HNO := Lib.hid (fun (h : ∀ j, j < n → nmAt L j ≠ nm.data.toList) => findF_no (L := L) (nm := nm) fun j hj => h j (by omega))
  rw [hn0] at HSA h6
  generalize findF L nm = fr at *
  go_enter Tryz.func16, Tryz.ntmps16
  go_wp2_with fail
  refine (HZ.out.mono fun _ _ h => h.row hn0).mono ?_
  rintro e w1 ⟨g, cap, rfl, O1, hb, hrow, hn, hm⟩
  have F := FiAt.row hrow
  go_wp2_with fail
  refine (HSA.out (some ⟨g, 0, none⟩) cap w1 ⟨.inr ⟨g, 0, rfl, F⟩⟩).mono ?_
  rintro e w2 ⟨v, rfl, hw, hv⟩
  rw [hw]
  clear hw
  rcases hv with ⟨rfl, hno⟩ | ⟨k, rfl, hk, h1, h2⟩
  · have HR := Lib.hid (HNO.out hno)
    clear hno
    go_wp2_with fail
    go_ret2
    exact ⟨by rw [HR.out]; rfl, O1⟩
  · have hkl : k < L.length := by omega
    obtain ⟨_, _, _, _, _, _, _, c7⟩ := F.cells hkl
    simp only [Nat.zero_add] at c7
    rw [nmAt_lt hkl] at h1
    have HR := Lib.hid (HAT.out k hk h1 h2)
    generalize L[k].tx = tx at *
    clear h1 h2
    go_wp2_with fail
    go_ret2
    exact ⟨by rw [HR.out]; rfl, O1⟩
end Go.Proofs.YtnadjlejlohgiaaGreatDoor.Lc

/- The walks of FnZipFind and FnZipNames: at every input each returns true and keeps what was. The facts that they take: the variable order as it is laid; the library's cell of a length holds some number. -/
namespace Go.Proofs.YtnadjlejlohgiaaGreatDoor.Lc
open Go.RowKit Go.Proofs.YtnadjlejlohgiaaGreatDoor.Mem Go.Proofs.YtnadjlejlohgiaaGreatDoor.Nm Go.Proofs.YtnadjlejlohgiaaGreatDoor.Wi Go.Proofs.YtnadjlejlohgiaaGreatDoor.Mk Go.Proofs.YtnadjlejlohgiaaGreatDoor.Draw
set_option linter.unusedVariables false
set_option linter.unusedSimpArgs false
/-- A name stands in a row. -/
def hasB (xs : List ByteArray) (nm : ByteArray) : Bool := xs.any fun x => decide (x.toList = nm.toList)
theorem hasB_yes {xs : List ByteArray} {nm : ByteArray} {i : Nat} (hi : i < xs.length) (h : xs[i].toList = nm.toList) : hasB xs nm = true := List.any_eq_true.2 ⟨xs[i], List.getElem_mem hi, decide_eq_true h⟩
theorem hasB_no {xs : List ByteArray} {nm : ByteArray} (h : ∀ i, (hi : i < xs.length) → xs[i].toList ≠ nm.toList) : hasB xs nm = false := by
  refine List.any_eq_false.2 fun x hx => ?_
  obtain ⟨i, hi, rfl⟩ := List.mem_iff_getElem.1 hx
  have := h i hi
  simpa using this
set_option maxRecDepth 100000 in
theorem cbhas_calls (g t cap n : Nat) (xs : List ByteArray) (nm : ByteArray) (w : World) (hn : n ≤ 6) (hx : xs.length = n) (h : Row w g t (xs.map Value.string)) :
    Calls Tryz.prog 17 #[.slice (some ⟨g, 0, none⟩) n cap, .string nm] w (fun e w' => e = .returned (.bool (hasB xs nm)) ∧ w' = w) := by
  have HY := Lib.hid (fun i (hi : i < n) (h : (xs[i]'(by omega)).toList = nm.toList) => hasB_yes (xs := xs) (nm := nm) (by omega) h)
  have HN := Lib.hid (fun (h : ∀ i, (hi : i < n) → (xs[i]'(by omega)).toList ≠ nm.toList) => hasB_no (xs := xs) (nm := nm) fun i hi => h i (by omega))
  generalize hasB xs nm = R at *
  go_enter Tryz.func17, Tryz.ntmps17
  go_wp2_with fail
  go_loopw [5] (fun iv wr => ∃ i : Nat, i ≤ n ∧ iv = .int .i64 i ∧ wr = w ∧ ∀ j, (hj : j < i) → ∀ hj2 : j < xs.length, xs[j].toList ≠ nm.toList) (fun iv _ => n - (intOf iv).toNat)
  case atStart => exact ⟨0, by omega, rfl, rfl, fun j hj => by omega⟩
  case round =>
    obtain ⟨i, hi, rfl, rfl, H⟩ := hrel
    by_cases hlt : i < n
    · have hil : i < xs.length := by omega
      have hc : (xs.map Value.string)[i]? = some (.string xs[i]) := by rw [List.getElem?_map, List.getElem?_eq_getElem hil]; rfl
      have q0 := h.cell hc
      have HY1 := Lib.hid (HY.out i hlt)
      have HM := Lib.hid (show ∀ j, (hj : j < i + 1) → xs[i].toList ≠ nm.toList → ∀ hj2 : j < xs.length, xs[j].toList ≠ nm.toList from fun j hj hne hj2 => by
        rcases Nat.lt_or_ge j i with h1 | h1
        · exact H j h1 hj2
        · obtain rfl : j = i := by omega
          exact hne)
      clear hc
      generalize xs[i] = m at *
      by_cases h1 : m.toList = nm.toList
      · have hR := HY1.out h1
        subst hR
        go_wp2_with fail
        go_ret
        exact ⟨rfl, rfl⟩
      · have h1' : (m.toList == nm.toList) = false := beq_eq_false_iff_ne.2 h1
        have HM2 := Lib.hid (fun j hj => HM.out j hj h1)
        clear h1
        go_wp2_with fail
        exact ⟨⟨i + 1, by omega, by go_num, trivial, HM2.out⟩, by simp [intOf]; omega⟩
    · obtain rfl : i = n := by omega
      have hR := HN.out (fun j hj => H j hj (by omega))
      subst hR
      go_wp2_with fail
      go_ret
      exact ⟨rfl, rfl⟩
/-- What is found is told by the names. -/
theorem findF_has (L : List Fi) (nm : ByteArray) : (findF L nm).2 = hasB (L.map Fi.nm) nm ∧ ((findF L nm).2 = true ∨ (findF L nm).1 = ⟨#[]⟩) := by
  unfold findF
  cases hf : L.find? (fun f => decide (f.nm.data.toList = nm.data.toList)) with
  | none =>
    refine ⟨?_, .inr rfl⟩
    rw [List.find?_eq_none] at hf
    symm
    refine hasB_no fun i hi => ?_
    rw [List.length_map] at hi
    have := hf L[i] (List.getElem_mem hi)
    rw [List.getElem_map, ByteArray.toList_eq, ByteArray.toList_eq]
    simpa using this
  | some f =>
    refine ⟨?_, .inl rfl⟩
    obtain ⟨h1, i, hi, rfl, _⟩ := List.find?_eq_some_iff_getElem.1 hf
    symm
    refine hasB_yes (i := i) (by rw [List.length_map]; exact hi) ?_
    rw [List.getElem_map, ByteArray.toList_eq, ByteArray.toList_eq]
    simpa using h1
theorem zipFind_has (s nm : ByteArray) : (zipFind s nm).2 = hasB ((zipGot s).1.map Fi.nm) nm ∧ ((zipFind s nm).2 = true ∨ (zipFind s nm).1 = ⟨#[]⟩) := findF_has _ _
/-- Each file of an archive is found by its name. -/
theorem got_find {s : ByteArray} {L : List Fi} {b : Bool} (h : zipGot s = (L, b)) {i : Nat} (hi : i < L.length) : zipFind s L[i].nm = (L[i].tx, true) := by
  have hA : Apart L := by
    by_cases hx : ∃ k, zipIs s k
    · obtain ⟨k, hk⟩ := hx
      rw [zipGot_yes hk] at h
      obtain ⟨rfl, _⟩ := Prod.mk.inj h
      exact hk.2.2.1.2.1
    · rw [zipGot_no hx] at h
      obtain ⟨rfl, _⟩ := Prod.mk.inj h
      cases hi
  unfold zipFind
  rw [h]
  refine findF_at hi rfl fun j hj => ?_
  have := (hA j i (by omega) hi (by omega)).1
  rwa [nmAt_lt hi] at this
theorem got_empty {s : ByteArray} {L : List Fi} {b : Bool} (h : zipGot s = (L, b)) : b = true ∨ L.length = 0 := by
  by_cases hx : ∃ k, zipIs s k
  · obtain ⟨k, hk⟩ := hx
    rw [zipGot_yes hk] at h
    obtain ⟨_, rfl⟩ := Prod.mk.inj h
    exact .inl rfl
  · rw [zipGot_no hx] at h
    obtain ⟨rfl, _⟩ := Prod.mk.inj h
    exact .inr rfl
/-- Nobody is found in a bent archive that was drawn. -/
theorem got_nobody {t : ByteArray} (h : ZipBent t) : zipFind t nobody = (⟨#[]⟩, false) := by
  obtain ⟨hs, L, hG, h6, hb⟩ := h
  unfold zipFind
  by_cases hx : ∃ k, zipIs t k
  · obtain ⟨k', hk⟩ := hx
    rw [zipGot_yes hk]
    have hN := names_bent h6 (by have := putB_le hG.ok h6; omega) (put_good hG.ok) (put_tail hG.ok) hk hb
    refine findF_no fun j hj => ?_
    have hj : j < (files t k').length := hj
    rw [nmAt_lt hj]
    rw [files_length] at hj
    obtain ⟨i, hi, e⟩ := hN j hj
    rw [(put_file hG.ok hi).2.1, List.getD_eq_getElem?_getD, List.getElem?_eq_getElem hi] at e
    have hne := hG.nb L[i] (List.getElem_mem hi)
    intro e2
    apply hne
    have e4 : (files t k')[j]? = some (fileAt t j) := by unfold files; rw [List.getElem?_map, List.getElem?_range hj]; rfl
    have e3 : (files t k')[j] = fileAt t j := Option.some.inj ((List.getElem?_eq_getElem (by rw [files_length]; exact hj)).symm.trans e4)
    rw [e3, e] at e2
    exact ByteArray.ext (Array.toList_inj.1 e2)
  · rw [zipGot_no hx]; rfl
set_option maxRecDepth 100000 in
set_option maxHeartbeats 1000000 in
theorem law_find (a0 : Option Addr) (len0 cap0 : Nat) (z0 : List Int) (w : World) (hF : (∃ x, Ord w x) ∧ Fact w) (w0 : (a0 = none ∧ len0 = 0 ∧ cap0 = 0 ∧ z0 = []) ∨ ∃ x, a0 = some x ∧ len0 ≤ cap0 ∧ cap0 ≤ maxLen ∧ z0.length = cap0 ∧ (∀ i, i < z0.length → w.cell? (x.add i) = some (.int .u8 (z0.getD i 0))) ∧ ∀ n ∈ z0, (Lit.int .u8 n).wf = true) :
    Calls Tryz.prog 4 #[.slice a0 len0 cap0] w (Tells w (.bool true)) := by
  obtain ⟨⟨x, hO⟩, hf⟩ := hF
  by_cases hb : (1048576 : Int) < len0
  · go_enter Tryz.func4, Tryz.ntmps4
    go_wp2_with fail
    go_ret
    exact ⟨rfl, On.refl _⟩
  have hb' : (len0 : Int) ≤ 1048576 := by omega
  go_enter Tryz.func4, Tryz.ntmps4
  go_wp2_with fail
  refine (drawzipfind_calls a0 len0 cap0 z0 w w0).mono ?_
  rintro e w1 ⟨s, nm, hsb, hnm, rfl, O1⟩
  have hsz : s.size ≤ 1048576 := by have := hsb.1; omega
  have HI := Lib.hid (fun w1 (O1 : On w w1) => izfind_calls s nm x hsz w1 (hO.on O1) (hf.on hf.lt O1))
  have HS := Lib.hid (fun w => szfind_calls s nm hsz w)
  have HN := Lib.hid (fun w1 (O1 : On w w1) => iznames_calls s x hsz w1 (hO.on O1) (hf.on hf.lt O1))
  have h6 := zipGot_few s
  obtain ⟨hh, he⟩ := zipFind_has s nm
  clear hO hf hb hb' hsb hsz
  generalize zipFind s nm = r at *
  obtain ⟨tx, b⟩ := r
  generalize zipGot s = r2 at *
  obtain ⟨L, ok⟩ := r2
  simp only at HI HS HN h6 hh he
  obtain ⟨xs, hxs⟩ : ∃ xs : List ByteArray, xs = L.map Fi.nm := ⟨_, rfl⟩
  have hnms : nms L = xs.map Value.string := by rw [hxs, List.map_map]; rfl
  obtain ⟨n, hn0⟩ : ∃ n, L.length = n := ⟨_, rfl⟩
  have hxl : xs.length = n := by rw [hxs, List.length_map, hn0]
  rw [← hxs] at hh
  simp only [hn0, hnms] at HN
  rw [hn0] at h6
  have HC := Lib.hid (fun g c w h => cbhas_calls g 9 c n xs nm w h6 hxl h)
  rw [← hh] at HC
  clear hh hxl hnms hn0 hxs
  go_wp2_with fail
  refine (HI.out w1 O1).mono ?_
  rintro e w2 ⟨rfl, O2⟩
  have Ot := O1.call O2
  go_wp2_with fail
  refine (HS.out w2).mono ?_
  rintro e w3 ⟨rfl, O3⟩
  replace Ot := Ot.call O3
  have hbb : (b != b) = false := by cases b <;> rfl
  have hb2 : (b == b) = true := by cases b <;> rfl
  go_wp2_with fail
  refine (HN.out w3 Ot).mono ?_
  rintro e w4 ⟨v, rfl, hown, O4⟩
  replace Ot := Ot.call O4
  obtain ⟨g, c, rfl, hbg, hrow, hc, hm, _⟩ := hown.parts
  clear hown
  go_wp2_with fail
  refine (HC.out g c w4 hrow).mono ?_
  rintro e w5 ⟨rfl, hw⟩
  rw [hw]
  clear hw
  cases b with
  | true =>
    go_wp2_with fail
    go_ret
    exact ⟨rfl, Ot⟩
  | false =>
    have htx : tx = ⟨#[]⟩ := he.elim (fun h => (by cases h)) id
    subst htx
    go_wp2_with fail
    go_ret
    exact ⟨rfl, Ot⟩
set_option maxRecDepth 100000 in
set_option maxHeartbeats 1000000 in
theorem law_names (a0 : Option Addr) (len0 cap0 : Nat) (z0 : List Int) (w : World) (hF : (∃ x, Ord w x) ∧ Fact w) (w0 : (a0 = none ∧ len0 = 0 ∧ cap0 = 0 ∧ z0 = []) ∨ ∃ x, a0 = some x ∧ len0 ≤ cap0 ∧ cap0 ≤ maxLen ∧ z0.length = cap0 ∧ (∀ i, i < z0.length → w.cell? (x.add i) = some (.int .u8 (z0.getD i 0))) ∧ ∀ n ∈ z0, (Lit.int .u8 n).wf = true) :
    Calls Tryz.prog 5 #[.slice a0 len0 cap0] w (Tells w (.bool true)) := by
  obtain ⟨⟨x, hO⟩, hf⟩ := hF
  by_cases hb : (1048576 : Int) < len0
  · go_enter Tryz.func5, Tryz.ntmps5
    go_wp2_with fail
    go_ret
    exact ⟨rfl, On.refl _⟩
  have hb' : (len0 : Int) ≤ 1048576 := by omega
  go_enter Tryz.func5, Tryz.ntmps5
  go_wp2_with fail
  refine (drawzipnames_calls a0 len0 cap0 z0 w w0).mono ?_
  rintro e w1 ⟨s, hsb, rfl, O1⟩
  have hsz : s.size ≤ 1048576 := by have := hsb.1; omega
  have HI := Lib.hid (fun w1 (O1 : On w w1) => izipget_calls s x hsz w1 (hO.on O1) (hf.on hf.lt O1))
  have HN := Lib.hid (fun w1 (O1 : On w w1) => iznames_calls s x hsz w1 (hO.on O1) (hf.on hf.lt O1))
  have HS := Lib.hid (fun w => sznames_calls s hsz w)
  have HFD := fun nm w1 (O1 : On w w1) => izfind_calls s nm x hsz w1 (hO.on O1) (hf.on hf.lt O1)
  have HNB := HFD nobody
  rw [got_nobody hsb] at HNB
  have HNO := Lib.hid HNB
  have h6 := zipGot_few s
  obtain ⟨L, b, hLb⟩ : ∃ L b, zipGot s = (L, b) := ⟨_, _, rfl⟩
  have hE := got_empty hLb
  have HFI := Lib.hid (fun i (hi : i < L.length) w1 (O1 : On w w1) => (show Calls Tryz.prog 15 #[.string s, .string L[i].nm] w1 (Tells w1 (.tuple #[.string L[i].tx, .bool true])) from by
    have h := HFD L[i].nm w1 O1
    rw [got_find hLb hi] at h
    exact h))
  rw [hLb] at HI HN HS h6
  simp only at HI HN HS h6
  clear HNB HFD hO hf hb hb' hsb hsz hLb
  obtain ⟨xs, hxs⟩ : ∃ xs : List ByteArray, xs = L.map Fi.nm := ⟨_, rfl⟩
  have hnms : nms L = xs.map Value.string := by rw [hxs, List.map_map]; rfl
  obtain ⟨n, hn0⟩ : ∃ n, L.length = n := ⟨_, rfl⟩
  have hxl : xs.length = n := by rw [hxs, List.length_map, hn0]
  have hxi : ∀ i, (hi : i < L.length) → (xs.map Value.string)[i]? = some (.string L[i].nm) := fun i hi => by
    rw [hxs, List.map_map, List.getElem?_map, List.getElem?_eq_getElem hi]; rfl
  have HXI := Lib.hid hxi
  simp only [hn0, hnms] at HN HS
  rw [hn0] at h6 hE
  have HC := Lib.hid (fun g g' c c' w h h' => cbtexts_calls g g' 9 9 c c' n xs w h6 hxl h h')
  have HI2 := Lib.hid (fun w1 O1 => (HI.out w1 O1).mono fun _ _ h => h.row hn0)
  clear hxi hxl hnms hxs HI
  go_wp2_with fail
  refine (HN.out w1 O1).mono ?_
  rintro e w2 ⟨v2, rfl, hown2, O2⟩
  obtain ⟨g2, c2, rfl, hb2, R2, hc2, hm2, _⟩ := hown2.parts
  clear hown2
  have Ot := O1.call O2
  go_wp2_with fail
  refine (HS.out w2).mono ?_
  rintro e w3 ⟨v3, rfl, hown3, O3⟩
  obtain ⟨g3, c3, rfl, hb3, R3, hc3, hm3, _⟩ := hown3.parts
  clear hown3
  replace Ot := Ot.call O3
  replace R2 := R2.on O3
  go_wp2_with fail
  refine (HC.out g2 g3 c2 c3 w3 R2 R3).mono ?_
  rintro e w4 ⟨rfl, O4⟩
  replace Ot := Ot.call O4
  replace R2 := R2.on O4
  clear R3
  go_wp2_with fail
  refine (HI2.out w4 Ot).mono ?_
  rintro e w5 ⟨g5, c5, rfl, O5, hb5, R5, hc5, hm5⟩
  replace Ot := Ot.call O5
  replace R2 := R2.on O5
  go_wp2_with fail
  go_loopw [7, 8, 9] (fun iv _ _ wr => ∃ i : Nat, i ≤ n ∧ iv = .int .i64 i ∧ On w5 wr) (fun iv _ _ _ => n - (intOf iv).toNat)
  case atStart => exact ⟨0, by omega, rfl, On.refl _⟩
  case round =>
    obtain ⟨i, hi, rfl, O⟩ := hrel
    by_cases hlt : i < n
    · have hkl : i < L.length := by omega
      have HF1 := Lib.hid (fun w1 O1 => HFI.out i hkl w1 O1)
      have q0 := (R2.on O).cell (HXI.out i hkl)
      have HQ := Lib.hid (fun W (O1 : On wr W) => ((R2.on O).on O1).cell (HXI.out i hkl))
      have HQ5 := Lib.hid (fun W (O1 : On wr W) => ((FiAt.row R5).on (O.call O1)).cells hkl)
      simp only [Nat.zero_add] at HQ5
      generalize L[i].nm = u at *
      generalize L[i].tx = tx at *
      go_wp2_with fail
      refine (HF1.out wr (Ot.call O)).mono ?_
      rintro e w6 ⟨rfl, O6⟩
      replace q0 := HQ.out w6 O6
      obtain ⟨p0, _, _, _, _, _, _, p7⟩ := HQ5.out w6 O6
      have htx : (tx.toList != tx.toList) = false := by simp
      have hnu : (u.toList != u.toList) = false := by simp
      go_upto_region 12 with fail
      go_quiet (fail)
      go_wp2_with fail
      exact ⟨⟨i + 1, by omega, by go_num, (O.call O6).call ((On.refl w6).drewN _)⟩, by simp [intOf]; omega⟩
    · obtain rfl : i = n := by omega
      go_wp2_with fail
      refine (HNO.out wr (Ot.call O)).mono ?_
      rintro e w6 ⟨rfl, O6⟩
      rcases hE with rfl | rfl
      · go_wp2_with fail
        go_ret
        exact ⟨rfl, (Ot.call O).call O6⟩
      · cases b
        · go_wp2_with fail
          go_ret
          exact ⟨rfl, (Ot.call O).call O6⟩
        · go_wp2_with fail
          go_ret
          exact ⟨rfl, (Ot.call O).call O6⟩
end Go.Proofs.YtnadjlejlohgiaaGreatDoor.Lc

