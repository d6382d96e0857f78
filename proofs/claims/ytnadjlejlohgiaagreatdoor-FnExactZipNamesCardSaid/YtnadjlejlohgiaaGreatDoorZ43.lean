/- Own texts joined: Zi. -/
import Derived.Test.YtnadjlejlohgiaaGreatDoorZ22
import Derived.Test.YtnadjlejlohgiaaGreatDoorZ35
import Derived.Test.YtnadjlejlohgiaaGreatDoorZ40
import Derived.Test.YtnadjlejlohgiaaGreatDoorZ42
/- What is read at each place of an archive, joined: ZipGet of the program and of the specification both answer zipGot. -/
namespace Go.Proofs.YtnadjlejlohgiaaGreatDoor.Lc
open Go.RowKit Go.Proofs.YtnadjlejlohgiaaGreatDoor.Mem Go.Proofs.YtnadjlejlohgiaaGreatDoor.Nm Go.Proofs.YtnadjlejlohgiaaGreatDoor.Nb Go.Proofs.YtnadjlejlohgiaaGreatDoor.Cr Go.Proofs.YtnadjlejlohgiaaGreatDoor.Wi
set_option linter.unusedVariables false
set_option linter.unusedSimpArgs false
/-- The file at a place, and how long it is. -/
def getA (s : ByteArray) (k : Nat) : Option (Fi × Nat) := (txt s k).map fun o => (fiOf (tail s (pos s k)) o, rdLong (tail s (pos s k)))
theorem getA_some {s : ByteArray} {k n : Nat} {f : Fi} (h : getA s k = some (f, n)) : ∃ o, txt s k = some o ∧ f = fiOf (tail s (pos s k)) o ∧ n = rdLong (tail s (pos s k)) := by
  obtain ⟨o, ho, e⟩ := Option.map_eq_some_iff.1 h
  simp only [Prod.mk.injEq] at e
  exact ⟨o, ho, e.1.symm, e.2.symm⟩
theorem getA_none {s : ByteArray} {k : Nat} (h : getA s k = none) : txt s k = none := Option.map_eq_none_iff.1 h
theorem get_good {s : ByteArray} {k : Nat} : (∀ i, i < k → (getA s i).isSome = true) ↔ good s k := by
  unfold good getA
  simp only [Option.isSome_map]
theorem txt_head {s : ByteArray} {k : Nat} {o : ByteArray} (h : txt s k = some o) : headOk (tail s (pos s k)) := by
  unfold txt locText at h
  by_cases hk : headOk (tail s (pos s k))
  · exact hk
  · rw [if_neg hk] at h; cases h
theorem loc_ok {t o : ByteArray} (h : locText t = some o) : textOk t o := by
  unfold locText at h
  split at h
  · split at h
    · split at h
      · rename_i hk
        obtain rfl := Option.some.inj h
        exact hk
      · cases h
    · cases h
  · cases h
theorem zread (s : ByteArray) (hs : s.size ≤ 1048576) : ZRead (fun k => tail s (pos s k)) (getA s) (files s) (pcs s) where
  f0 := rfl
  p0 := rfl
  plen := pcs_length s
  step := by
    intro k f n h
    obtain ⟨o, ho, rfl, rfl⟩ := getA_some h
    have hh := (txt_head ho).2.2.2.2.2
    refine ⟨?_, ?_, hh, ?_⟩
    · rw [files_succ]; unfold fileAt; rw [ho]; rfl
    · rw [pcs_succ]; rfl
    · show tail s (pos s k + rdLong _) = _
      rw [← tail_tail]; rfl
  small := fun k => by rw [tail_size]; omega
  pz := by
    intro k hg l hl
    have h := get_good.1 hg
    unfold pcs at hl
    obtain ⟨i, hi, rfl⟩ := List.mem_map.1 hl
    have hik := List.mem_range.1 hi
    have hz := pc_size h hik
    have h30 : 30 + numAtB s (pos s i + 26) 2 ≤ rdLong (tail s (pos s i)) := by unfold rdLong; rw [numAtB_tail]; omega
    have e1 : numAtB (pc s i) 26 2 = numAtB s (pos s i + 26) 2 := by rw [numAtB_eq, numAtB_eq, ch_pc, numL_sub _ (by omega)]
    have h2 := (good_head h hik).2.2.2.2.2
    rw [tail_size] at h2
    refine ⟨by rw [e1, hz]; exact h30, ?_⟩
    rw [hz]
    unfold rdLong
    omega
theorem sread (s : ByteArray) : SRead s (pos s) (getA s) (files s) where
  f0 := rfl
  p0 := rfl
  step := by
    intro k f n h
    obtain ⟨o, ho, rfl, rfl⟩ := getA_some h
    refine ⟨?_, rfl⟩
    rw [files_succ]; unfold fileAt; rw [ho]; rfl
  le := fun k h => pos_le (get_good.1 h)
theorem pos_ge (s : ByteArray) : ∀ k, 30 * k ≤ pos s k
  | 0 => Nat.zero_le _
  | k + 1 => by
    have := pos_ge s k
    show 30 * (k + 1) ≤ pos s k + rdLong _
    unfold rdLong
    omega
theorem files_few {s : ByteArray} {k : Nat} (h : good s k) (hs : s.size ≤ 1048576) : (files s k).length ≤ 1048576 := by
  have h1 := pos_ge s k
  have h2 := pos_le h
  rw [files_length]
  omega
theorem files_parts {s : ByteArray} {k : Nat} (h : good s k) {f : Fi} (hf : f ∈ files s k) : enOk f = true := by
  unfold files at hf
  obtain ⟨i, hi, rfl⟩ := List.mem_map.1 hf
  obtain ⟨o, ho⟩ := Option.isSome_iff_exists.1 (h i (List.mem_range.1 hi))
  have h2 := (loc_ok (show locText (tail s (pos s i)) = some o from ho)).2.2
  unfold fileAt
  rw [ho]
  exact h2
theorem szs_files {s : ByteArray} {k : Nat} (h : good s k) : Szs (files s k) 1048576 := ⟨fun f hf => by
  have h3 := entryOk_parts (files_parts h hf)
  exact ⟨by omega, by omega⟩⟩
/-- What ZipGet answers. -/
structure ZipTells (w : World) (r : List Fi × Bool) (e : Ending) (w' : World) : Prop where mk :: (out : ∃ v, e = .returned (.tuple #[v, .bool r.2]) ∧ On w w' ∧ Own w.heap.size w' 42 8 v r.1.length (fcells r.1))
theorem izipget_calls (s : ByteArray) (x : Addr) (hs : s.size ≤ 1048576) (w : World) (hO : Ord w x) (hf : Fact w) :
    Calls Tryz.prog 10 #[.string s] w (ZipTells w (zipGot s)) := by
  have h0 : tail s (pos s 0) = s := tail_zero s
  have H := izipget_gen (fun k => tail s (pos s k)) (getA s) (files s) (pcs s) (fun k => ZipOk (files s k)) (zread s hs) w (fun k f n w' h O => by
      obtain ⟨o, ho, rfl, rfl⟩ := getA_some h
      have hl := ilget_calls (tail s (pos s k)) x (by rw [tail_size]; omega) w' (hO.on O) (hf.on hf.lt O)
      unfold lgetV at hl
      rw [lget_some (show locText (tail s (pos s k)) = some o from ho)] at hl
      exact hl)
    (fun k w' h O => by
      have hl := ilget_calls (tail s (pos s k)) x (by rw [tail_size]; omega) w' (hO.on O) (hf.on hf.lt O)
      unfold lgetV at hl
      rw [lget_none (show locText (tail s (pos s k)) = none from getA_none h)] at hl
      exact hl)
    (fun k g cap w' O hg hfi => by
      have hgd := get_good.1 hg
      have h := izipok_calls (some ⟨g, 0, none⟩) cap (files s k) w' (hf.on hf.lt O) ⟨.inr ⟨g, 0, rfl, hfi⟩⟩ (szs_files hgd) (files_few hgd hs)
      rw [files_length] at h
      exact h)
  rw [h0] at H
  refine H.mono ?_
  rintro e w' ⟨k, v, b, h6, hg, hend, rfl, O, hcase⟩
  have hgood := get_good.1 hg
  obtain ⟨hy, hn⟩ := zip_impl h6 hgood (hend.imp id fun h => getA_none h)
  rcases hcase with ⟨rfl, hz, hc, hown⟩ | ⟨rfl, hno, hown⟩
  · rw [hy ⟨hz, hc⟩]
    exact ⟨v, rfl, O, by rw [files_length]; exact hown⟩
  · rw [hn hno]
    exact ⟨v, rfl, O, hown⟩
def manyZ (s : ByteArray) : Int := if 12 ≤ s.size then (numAtB s (s.size - 12) 2 : Nat) else -1
theorem manyZ_bd (s : ByteArray) : -1 ≤ manyZ s ∧ manyZ s ≤ 65535 := by
  unfold manyZ
  have := numAtB_lt s (s.size - 12) 2
  split <;> omega
theorem snum_neg (s : ByteArray) (a : Int) (n : Int) (ha : a < 0) (w : World) :
    Calls Tryz.prog 29 #[.string s, .int .i64 a, .int .i64 n] w (fun e w' => e = .returned (.int .i64 (-1)) ∧ w' = w) := by
  go_enter Tryz.func29, Tryz.ntmps29
  go_wp2_with fail
  go_ret
  exact ⟨rfl, rfl⟩
theorem smany_num (s : ByteArray) (hs : s.size ≤ 1048576) (w : World) : Calls Tryz.prog 29 #[.string s, .int .i64 ((s.size : Int) - 12), .int .i64 2] w (fun e w'' => e = .returned (.int .i64 (manyZ s)) ∧ w'' = w) := by
  unfold manyZ
  by_cases h : 12 ≤ s.size
  · rw [if_pos h]
    have hc := snum_calls s (s.size - 12) 2 (by omega) (by omega) (by decide) w
    rw [show ((s.size - 12 : Nat) : Int) = (s.size : Int) - 12 from by omega] at hc
    exact hc
  · rw [if_neg h]
    exact snum_neg s _ 2 (by omega) w
/-- The place of a head in the list, as the reference goes. -/
def hpA (s : ByteArray) (k : Nat) : Nat → Nat
  | 0 => pos s k
  | i + 1 => hpA s k i + (46 + numAtB s (hpA s k i + 28) 2)
theorem hpA_succ {s : ByteArray} {k i : Nat} (h : good s k) (hi : i < k) (e : hpA s k i = pos s k + hL s k i) (f : fineL (chars s) (pos s k + hL s k i) (pos s i)) : hpA s k (i + 1) = pos s k + hL s k (i + 1) := by
  have e2 := (fine_to f).2
  show hpA s k i + (46 + numAtB s (hpA s k i + 28) 2) = _
  rw [e, numAtB_eq, e2, hL_succ h hi]
  omega
theorem hpA_is {s : ByteArray} {k : Nat} (h : good s k) : ∀ {i : Nat}, i ≤ k → (∀ j, j < i → fineB s (hpA s k j) (pos s j)) → hpA s k i = pos s k + hL s k i
  | 0, _, _ => rfl
  | i + 1, hi, hf => by
    have ih := hpA_is h (i := i) (by omega) fun j hj => hf j (by omega)
    have f := (fineB_iff _ _ _).1 (hf i (Nat.lt_succ_self i))
    rw [ih] at f
    exact hpA_succ h (by omega) ih f
theorem hpA_of {s : ByteArray} {k : Nat} (h : good s k) (hf : ∀ i, i < k → fineL (chars s) (pos s k + hL s k i) (pos s i)) : ∀ {i : Nat}, i ≤ k → hpA s k i = pos s k + hL s k i
  | 0, _ => rfl
  | i + 1, hi => hpA_succ h (by omega) (hpA_of h hf (i := i) (by omega)) (hf i (by omega))
theorem sread_some (s : ByteArray) (hs : s.size ≤ 1048576) {k n : Nat} {f : Fi} (h : getA s k = some (f, n)) (w : World) : Calls Tryz.prog 34 #[.string (s.extract (pos s k) s.size)] w (Tells w (.tuple #[.agg #[.string f.nm, .int .i64 f.y, .int .i64 f.m, .int .i64 f.d, .int .i64 f.h, .int .i64 f.mi, .int .i64 f.s, .string f.tx], .int .i64 (n : Nat), .bool true])) := by
  obtain ⟨o, ho, rfl, rfl⟩ := getA_some h
  refine (sread_calls (tail s (pos s k)) (by rw [tail_size]; omega) w).mono ?_
  rintro e w' ⟨nm, y, m, d, h, mi, se, tx, n, b, rfl, O, hr⟩
  have hl : locText (tail s (pos s k)) = some o := ho
  have hb := hr.ok
  rw [hl] at hb
  obtain ⟨hf, hn⟩ := hr.got o hl
  have hb' : b = true := hb
  subst hb'
  subst hn
  rw [← hf]
  exact ⟨rfl, O⟩
theorem sread_none (s : ByteArray) (hs : s.size ≤ 1048576) {k : Nat} (hg : getA s k = none) (w : World) : Calls Tryz.prog 34 #[.string (s.extract (pos s k) s.size)] w (fun e w'' => ∃ nm y m d h mi se tx n, e = .returned (.tuple #[.agg #[.string nm, .int .i64 y, .int .i64 m, .int .i64 d, .int .i64 h, .int .i64 mi, .int .i64 se, .string tx], .int .i64 n, .bool false]) ∧ On w w'') := by
  refine (sread_calls (tail s (pos s k)) (by rw [tail_size]; omega) w).mono ?_
  rintro e w' ⟨nm, y, m, d, h, mi, se, tx, n, b, rfl, O, hr⟩
  have hl : locText (tail s (pos s k)) = none := getA_none hg
  have hb := hr.ok
  rw [hl] at hb
  have hb' : b = false := hb
  subst hb'
  exact ⟨nm, y, m, d, h, mi, se, tx, n, rfl, O⟩
theorem szipget_calls (s : ByteArray) (hs : s.size ≤ 1048576) (w : World) : Calls Tryz.prog 9 #[.string s] w (ZipTells w (zipGot s)) := by
  have H := szipget_gen s hs (manyZ s) (manyZ_bd s) (pos s) (hpA s) (getA s) (files s) (fun k => ZipOk (files s k)) (sread s) w (fun _ => rfl) (fun _ _ => rfl) (fun w' => smany_num s hs w') (fun w' => sin_same (manyZ s) 0 6 w')
    (fun k f n w' h _ => sread_some s hs h w')
    (fun many w' hm O => sl7get_gen s hs (pos s) (getA s) (files s) (sread s) many hm w' (fun k f n w'' h _ => sread_some s hs h w'') (fun k w'' h _ => sread_none s hs h w''))
    (fun k g cap w' O hg hfi => by
      have hgd := get_good.1 hg
      have h := szipok_calls (some ⟨g, 0, none⟩) cap (files s k) w' ⟨.inr ⟨g, 0, rfl, hfi⟩⟩ (szs_files hgd) (files_few hgd hs)
      rw [files_length] at h
      exact h)
  refine H.mono ?_
  rintro e w' ⟨v, b, rfl, O, hcase⟩
  rcases hcase with ⟨rfl, k, hm, h6, hg, hz, hf, he, hown⟩ | ⟨rfl, hown, hno⟩
  · have hgd := get_good.1 hg
    have hk := hpA_is hgd (Nat.le_refl k) hf
    rw [hk, Nat.add_sub_cancel_left] at he
    rw [zip_spec_yes h6 hgd hz (fun i hi => by
      have e := hpA_is hgd (i := i) (by omega) fun j hj => hf j (by omega)
      rw [← e]
      exact (fineB_iff _ _ _).1 (hf i hi)) he]
    exact ⟨v, rfl, O, by rw [files_length]; exact hown⟩
  · have hz : zipGot s = ([], false) := by
      by_cases h12 : 12 ≤ s.size
      · refine zip_spec_no (k := numAtB s (s.size - 12) 2) (fun _ => rfl) (fun h6 hgd hz hf he => ?_)
        have e := fun i (hi : i ≤ numAtB s (s.size - 12) 2) => hpA_of hgd hf hi
        refine hno _ (by unfold manyZ; rw [if_pos h12]) h6 (get_good.2 hgd) hz (fun i hi => ?_) ?_
        · rw [e i (by omega)]
          exact (fineB_iff _ _ _).2 (hf i hi)
        · rw [e _ (Nat.le_refl _), Nat.add_sub_cancel_left]
          exact he
      · exact zip_spec_no (k := 7) (fun h => absurd h h12) (fun h6 => by omega)
    rw [hz]
    exact ⟨v, rfl, O, hown⟩
end Go.Proofs.YtnadjlejlohgiaaGreatDoor.Lc

