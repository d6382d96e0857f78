/- Own texts joined: Lg0. -/
import Derived.Deep.QuietTactic
import Derived.BigQuiet
import Derived.Test.YtnadjlejlohgiaaGreatDoorW4
import Derived.Test.YtnadjlejlohgiaaGreatDoorW23
import Derived.Test.YtnadjlejlohgiaaGreatDoorW41
/- A file of an archive read back: the program's LocalGet. Conditions: the variable order as it is laid; the library's cell of a length. (Printed by tools/gen_lg.py.) -/
namespace Go.Proofs.YtnadjlejlohgiaaGreatDoor.Lc
open Go.RowKit Go.Proofs.YtnadjlejlohgiaaGreatDoor.Mem Go.Proofs.YtnadjlejlohgiaaGreatDoor.Nm Go.Proofs.YtnadjlejlohgiaaGreatDoor.Nb Go.Proofs.YtnadjlejlohgiaaGreatDoor.Cr Go.Proofs.YtnadjlejlohgiaaGreatDoor.Wi
set_option linter.unusedVariables false
set_option linter.unusedSimpArgs false
theorem i8_calls (s : ByteArray) (hs : s.size ≤ 4294967296) (h : 10 ≤ s.size) (w : World) : Calls Tryz.prog 60 #[.string s, .int .i64 8, .int .i64 2] w (fun e w' => e = .returned (.int .i64 (numAtB s 8 2 : Nat)) ∧ w' = w) := by
  have h := inumat_calls s 8 2 hs h (by decide) w
  rw [show ((8 : Nat) : Int) = 8 from rfl, show ((2 : Nat) : Int) = 2 from rfl] at h
  exact h
theorem i18_calls (s : ByteArray) (hs : s.size ≤ 4294967296) (h : 22 ≤ s.size) (w : World) : Calls Tryz.prog 60 #[.string s, .int .i64 18, .int .i64 4] w (fun e w' => e = .returned (.int .i64 (numAtB s 18 4 : Nat)) ∧ w' = w) := by
  have h := inumat_calls s 18 4 hs h (by decide) w
  rw [show ((18 : Nat) : Int) = 18 from rfl, show ((4 : Nat) : Int) = 4 from rfl] at h
  exact h
theorem i26_calls (s : ByteArray) (hs : s.size ≤ 4294967296) (h : 28 ≤ s.size) (w : World) : Calls Tryz.prog 60 #[.string s, .int .i64 26, .int .i64 2] w (fun e w' => e = .returned (.int .i64 (numAtB s 26 2 : Nat)) ∧ w' = w) := by
  have h := inumat_calls s 26 2 hs h (by decide) w
  rw [show ((26 : Nat) : Int) = 26 from rfl, show ((2 : Nat) : Int) = 2 from rfl] at h
  exact h
theorem i10_calls (s : ByteArray) (hs : s.size ≤ 4294967296) (h : 14 ≤ s.size) (w : World) : Calls Tryz.prog 60 #[.string s, .int .i64 10, .int .i64 4] w (fun e w' => e = .returned (.int .i64 (numAtB s 10 4 : Nat)) ∧ w' = w) := by
  have h := inumat_calls s 10 4 hs h (by decide) w
  rw [show ((10 : Nat) : Int) = 10 from rfl, show ((4 : Nat) : Int) = 4 from rfl] at h
  exact h
/-- What the program asks of a text ahead of the unpacking. -/
def fits (s : ByteArray) : Prop := 30 ≤ s.size ∧ 30 + numAtB s 26 2 + numAtB s 18 4 ≤ s.size
theorem no_fits {s : ByteArray} (h : ¬ fits s) : locText s = none := no_head fun hh => h ⟨hh.1, hh.2.2.2.2.2⟩
/-- The stamp that is read; of no stamp: all zero. -/
def stY (n : Nat) : Int := if okp (gy n) (gm n) (gd n) (gh n) (gi n) (gs n) then gy n else 0
def stM (n : Nat) : Int := if okp (gy n) (gm n) (gd n) (gh n) (gi n) (gs n) then gm n else 0
def stD (n : Nat) : Int := if okp (gy n) (gm n) (gd n) (gh n) (gi n) (gs n) then gd n else 0
def stH (n : Nat) : Int := if okp (gy n) (gm n) (gd n) (gh n) (gi n) (gs n) then gh n else 0
def stI' (n : Nat) : Int := if okp (gy n) (gm n) (gd n) (gh n) (gi n) (gs n) then gi n else 0
def stS' (n : Nat) : Int := if okp (gy n) (gm n) (gd n) (gh n) (gi n) (gs n) then gs n else 0
theorem iget_calls (n : Nat) (h1 : n < 4294967296) (w : World) : Calls Tryz.prog 61 #[.int .i64 n] w (fun e w' => ∃ b : Bool, e = .returned (.tuple #[.agg #[.int .i64 (stY n), .int .i64 (stM n), .int .i64 (stD n), .int .i64 (stH n), .int .i64 (stI' n), .int .i64 (stS' n)], .bool b]) ∧ On w w') := by
  unfold stY stM stD stH stI' stS'
  by_cases ok : okp (gy n) (gm n) (gd n) (gh n) (gi n) (gs n)
  · simp only [if_pos ok]
    exact (iget_yes n h1 ok w).mono fun e w' h => ⟨true, h⟩
  · simp only [if_neg ok]
    exact (iget_no n h1 ok w).mono fun e w' h => ⟨false, h⟩
theorem entry_st (nm tx : ByteArray) (n : Nat) : entryOk nm (stY n) (stM n) (stD n) (stH n) (stI' n) (stS' n) tx = entryOk nm (gy n) (gm n) (gd n) (gh n) (gi n) (gs n) tx := by
  unfold stY stM stD stH stI' stS'
  by_cases ok : okp (gy n) (gm n) (gd n) (gh n) (gi n) (gs n)
  · simp only [if_pos ok]
  · simp only [if_neg ok]
    have h0 : ¬ okp 0 0 0 0 0 0 := fun h => by have := h.1.1; omega
    unfold entryOk
    rw [decide_eq_false ok, decide_eq_false h0]
theorem st_ok {nm tx : ByteArray} {n : Nat} (h : entryOk nm (gy n) (gm n) (gd n) (gh n) (gi n) (gs n) tx = true) : okp (gy n) (gm n) (gd n) (gh n) (gi n) (gs n) ∧ stY n = gy n ∧ stM n = gm n ∧ stD n = gd n ∧ stH n = gh n ∧ stI' n = gi n ∧ stS' n = gs n := by
  have ok := (entryOk_parts h).2.1
  unfold stY stM stD stH stI' stS'
  simp only [if_pos ok, and_self, and_true]
  exact ok
/-- The file is one: what the program looks at, and what the reference looks at. -/
theorem loc_of {s tx : ByteArray} {o : List Nat} (htx : strB o = tx) (hf : fits s) (hn : s.size ≤ 1048576) (ht : textOf (numAtB s 8 2) (chars (rdPk s)) = some o) (he : entryOk (rdName s) (gy (rdNum s)) (gm (rdNum s)) (gd (rdNum s)) (gh (rdNum s)) (gi (rdNum s)) (gs (rdNum s)) tx = true) :
    (headB (rdName s) (gy (rdNum s)) (gm (rdNum s)) (gd (rdNum s)) (gh (rdNum s)) (gi (rdNum s)) (gs (rdNum s)) tx (numAtB s 8 2) (numAtB s 18 4) = s.extract 0 30 → locText s = some tx) ∧
    (headB (rdName s) (gy (rdNum s)) (gm (rdNum s)) (gd (rdNum s)) (gh (rdNum s)) (gi (rdNum s)) (gs (rdNum s)) tx (numAtB s 8 2) (numAtB s 18 4) ≠ s.extract 0 30 → locText s = none) := by
  have h3 := (entryOk_parts he).2.2
  have hi := head_is (s := s) (o := tx) hf.1 hf.2 (by omega)
  constructor
  · intro h
    obtain ⟨a0, a1, a2, a3, a4, a5⟩ := hi.1 h
    unfold locText
    rw [if_pos ⟨hf.1, a0, a1, a2, a3, hf.2⟩, ht]
    show (if textOk s (strB o) then _ else _) = _
    rw [htx, if_pos ⟨a4, a5, he⟩]
  · intro h
    by_cases hh : headOk s
    · have hT : ¬ textOk s tx := fun hT => h (hi.2 ⟨hh.2.1, hh.2.2.1, hh.2.2.2.1, hh.2.2.2.2.1, hT.1, hT.2.1⟩)
      unfold locText
      rw [if_pos hh, ht]
      show (if textOk s (strB o) then _ else _) = _
      rw [htx, if_neg hT]
    · exact no_head hh
theorem loc_not {s tx : ByteArray} {o : List Nat} (htx : strB o = tx) (ht : textOf (numAtB s 8 2) (chars (rdPk s)) = some o) (he : entryOk (rdName s) (gy (rdNum s)) (gm (rdNum s)) (gd (rdNum s)) (gh (rdNum s)) (gi (rdNum s)) (gs (rdNum s)) tx = false) : locText s = none := by
  unfold locText
  by_cases hh : headOk s
  · have hT : ¬ textOk s tx := fun hT => by rw [hT.2.2] at he; cases he
    rw [if_pos hh, ht]
    show (if textOk s (strB o) then _ else _) = _
    rw [htx, if_neg hT]
  · rw [if_neg hh]
theorem loc_bad {s : ByteArray} (ht : textOf (numAtB s 8 2) (chars (rdPk s)) = none) : locText s = none := by
  unfold locText
  by_cases hh : headOk s
  · rw [if_pos hh, ht]
  · rw [if_neg hh]
theorem text_other {m : Nat} (h0 : m ≠ 0) (h8 : m ≠ 8) (p : List Nat) : textOf m p = none := by unfold textOf; rw [if_neg h0, if_neg h8]
theorem text_none {p : List Nat} (h : De.flate p = none) : textOf 8 p = none := by unfold textOf; rw [if_neg (by decide), if_pos rfl, h]
theorem text_some {p o : List Nat} {n : Nat} (h : De.flate p = some (o, n)) : textOf 8 p = if n = p.length then some o else none := by unfold textOf; rw [if_neg (by decide), if_pos rfl, h]

theorem rest_name (s : ByteArray) (h : 30 ≤ s.size) (hf : 30 + numAtB s 26 2 + numAtB s 18 4 ≤ s.size) : (s.extract 30 s.size).size + 30 = s.size ∧ (s.extract 30 s.size).extract 0 (numAtB s 26 2) = rdName s ∧ (s.extract 30 s.size).extract (numAtB s 26 2) (numAtB s 26 2 + numAtB s 18 4) = rdPk s := by
  have ht : chars (s.extract 30 s.size) = (chars s).drop 30 := by rw [ch_extract, List.take_of_length_le (by rw [List.length_drop, chars_length]; exact Nat.le_refl _)]
  have hx : ∀ a b, chars ((s.extract 30 s.size).extract a b) = (((chars s).drop 30).drop a).take (b - a) := fun a b => by rw [ch_extract (s.extract 30 s.size), ht]
  refine ⟨?_, ?_, ?_⟩
  · rw [ByteArray.size_extract]; omega
  · apply chars_ext
    unfold rdName
    rw [hx, ch_extract, List.drop_zero]
    congr 1
    omega
  · apply chars_ext
    unfold rdPk
    rw [hx, ch_extract, List.drop_drop]
    congr 1
    omega
set_option maxRecDepth 100000 in
set_option maxHeartbeats 2000000 in
theorem ilget_short (s : ByteArray) (hs : s.size < 30) (w : World) : Calls Tryz.prog 36 #[.string s] w (Tells w (lgetV s)) := by
  have HV : RowKit.Hid (lgetV s = .tuple #[.agg zero8, .int .i64 0, .bool false]) := Lib.hid (by unfold lgetV; rw [lget_none (no_fits fun h => by have := h.1; omega)]; rfl)
  have hs' : (s.size : Int) < 30 := by omega
  go_enter Tryz.func36, Tryz.ntmps36
  have BR := Blk.new w 42 zero8
  have OA := (On.refl w).alloc (.cells zero8 42)
  go_upto_region 1 with fail
  generalize hP : w.heap.size = p at *
  generalize w.alloc (.cells zero8 42) = wa at *
  obtain ⟨r0, r1, r2, r3, r4, r5, r6, r7⟩ := cells8 BR
  have fr : ∀ i, wa.frozen? ⟨p, i, none⟩ = false := BR.frozen
  go_wp2_with fail
  have BF := set8 BR (.string ⟨#[]⟩) (.int .i64 0) (.int .i64 0) (.int .i64 0) (.int .i64 0) (.int .i64 0) (.int .i64 0) (.string ⟨#[]⟩)
  refine bodyPost_ret (v := .tuple #[.agg zero8, .int .i64 0, .bool false]) (by exact res_ctt (fn := Tryz.f36) (p := 2) (u := 3) (v := 4) rfl BF rfl Tryz.underlying42 rfl (by kernel_rfl)) rfl ⟨by rw [HV.out], ?_⟩
  repeat (first | with_reducible exact OA | refine On.set ?_ (show w.heap.size ≤ p by omega) _)
set_option maxRecDepth 100000 in
set_option maxHeartbeats 4000000 in
theorem ilget_unfit (s : ByteArray) (hs : s.size ≤ 1048576) (h30 : 30 ≤ s.size) (hn : ¬ 30 + numAtB s 26 2 + numAtB s 18 4 ≤ s.size) (w : World) : Calls Tryz.prog 36 #[.string s] w (Tells w (lgetV s)) := by
  have HV : RowKit.Hid (lgetV s = .tuple #[.agg zero8, .int .i64 0, .bool false]) := Lib.hid (by unfold lgetV; rw [lget_none (no_fits fun h => hn h.2)]; rfl)
  have h30' : ¬ (s.size : Int) < 30 := by omega
  have Z8 := Lib.hid (fun w => i8_calls s (by omega) (by omega) w)
  have Z18 := Lib.hid (fun w => i18_calls s (by omega) (by omega) w)
  have Z26 := Lib.hid (fun w => i26_calls s (by omega) (by omega) w)
  have b26 := numAtB_lt s 26 2
  have b18 := numAtB_lt s 18 4
  have hR : (s.extract 30 s.size).size + 30 = s.size := by rw [ByteArray.size_extract]; omega
  generalize numAtB s 8 2 = M at *
  generalize numAtB s 26 2 = a26 at *
  generalize numAtB s 18 4 = a18 at *
  have g0 : (30 : Int) ≤ (s.size : Int) := by omega
  go_enter Tryz.func36, Tryz.ntmps36
  have BR := Blk.new w 42 zero8
  have OA := (On.refl w).alloc (.cells zero8 42)
  go_upto_region 1 with fail
  generalize hP : w.heap.size = p at *
  generalize w.alloc (.cells zero8 42) = wa at *
  obtain ⟨r0, r1, r2, r3, r4, r5, r6, r7⟩ := cells8 BR
  have fr : ∀ i, wa.frozen? ⟨p, i, none⟩ = false := BR.frozen
  go_wp2_with fail
  refine (Z8.out _).mono ?_
  rintro e w' ⟨rfl, hw⟩
  rw [hw]
  clear hw
  go_wp2_with fail
  refine (Z18.out _).mono ?_
  rintro e w' ⟨rfl, hw⟩
  rw [hw]
  clear hw
  go_wp2_with fail
  refine (Z26.out _).mono ?_
  rintro e w' ⟨rfl, hw⟩
  rw [hw]
  clear hw
  go_upto_region 5 with fail
  generalize s.extract 30 s.size = R at *
  by_cases hl : R.size < a26
  · have hl' : (R.size : Int) < a26 := by omega
    go_wp2_with fail
    have BF := set8 BR (.string ⟨#[]⟩) (.int .i64 0) (.int .i64 0) (.int .i64 0) (.int .i64 0) (.int .i64 0) (.int .i64 0) (.string ⟨#[]⟩)
    refine bodyPost_ret (v := .tuple #[.agg zero8, .int .i64 0, .bool false]) (by exact res_ctt (fn := Tryz.f36) (p := 2) (u := 3) (v := 4) rfl BF rfl Tryz.underlying42 rfl (by kernel_rfl)) rfl ⟨by rw [HV.out], ?_⟩
    repeat (first | with_reducible exact OA | refine On.set ?_ (show w.heap.size ≤ p by omega) _)
  · have hl' : ¬ (R.size : Int) < a26 := by omega
    have e3 : IntKind.i64.wrap ((R.size : Int) - a26) = (R.size : Int) - a26 := by rw [IntKind.wrap_i64]; omega
    have hl2 : (R.size : Int) - a26 < a18 := by omega
    go_wp2_with fail
    have BF := set8 BR (.string ⟨#[]⟩) (.int .i64 0) (.int .i64 0) (.int .i64 0) (.int .i64 0) (.int .i64 0) (.int .i64 0) (.string ⟨#[]⟩)
    refine bodyPost_ret (v := .tuple #[.agg zero8, .int .i64 0, .bool false]) (by exact res_ctt (fn := Tryz.f36) (p := 2) (u := 3) (v := 4) rfl BF rfl Tryz.underlying42 rfl (by kernel_rfl)) rfl ⟨by rw [HV.out], ?_⟩
    repeat (first | with_reducible exact OA | refine On.set ?_ (show w.heap.size ≤ p by omega) _)
set_option maxRecDepth 100000 in
set_option maxHeartbeats 4000000 in
theorem ilget_other (s : ByteArray) (x : Addr) (hs : s.size ≤ 1048576) (h30 : 30 ≤ s.size) (hn : 30 + numAtB s 26 2 + numAtB s 18 4 ≤ s.size) (w : World) (m0 : numAtB s 8 2 ≠ 0) (m8 : numAtB s 8 2 ≠ 8) : Calls Tryz.prog 36 #[.string s] w (Tells w (lgetV s)) := by
  have HV : RowKit.Hid (lgetV s = .tuple #[.agg zero8, .int .i64 0, .bool false]) := Lib.hid (by unfold lgetV; rw [lget_none (loc_bad (text_other m0 m8 _))]; rfl)
  have hfit : fits s := ⟨h30, hn⟩
  have h30' : ¬ (s.size : Int) < 30 := by omega
  have Z8 := Lib.hid (fun w => i8_calls s (by omega) (by omega) w)
  have Z18 := Lib.hid (fun w => i18_calls s (by omega) (by omega) w)
  have Z26 := Lib.hid (fun w => i26_calls s (by omega) (by omega) w)
  have Z10 := Lib.hid (fun w => i10_calls s (by omega) (by omega) w)
  have b8 := numAtB_lt s 8 2
  have b26 := numAtB_lt s 26 2
  have b18 := numAtB_lt s 18 4
  have b10 := numAtB_lt s 10 4
  obtain ⟨hR, e1, e2⟩ := rest_name s h30 hn
  have hns := rdName_size (s := s) (by omega)
  have hps := rdPk_size (s := s) (by omega)
  have HG := Lib.hid (fun w => iget_calls (numAtB s 10 4) (by omega) w)
  generalize numAtB s 8 2 = M at *
  have c1 : ((M : Int) == 0) = false := by rw [beq_eq_false_iff_ne]; omega
  have c2 : ((M : Int) == 8) = false := by rw [beq_eq_false_iff_ne]; omega
  have c3 : ¬ (M : Int) = 0 := by omega
  have c4 : ¬ (M : Int) = 8 := by omega
  clear hns hps hfit m0 m8
  generalize numAtB s 10 4 = N at *
  generalize numAtB s 26 2 = a26 at *
  generalize numAtB s 18 4 = a18 at *
  generalize rdName s = nm at *
  generalize rdPk s = pk at *
  generalize stY N = y0 at *
  generalize stM N = m0 at *
  generalize stD N = d0 at *
  generalize stH N = h0 at *
  generalize stI' N = mi0 at *
  generalize stS' N = s0 at *
  have g0 : (30 : Int) ≤ (s.size : Int) := by omega
  go_enter Tryz.func36, Tryz.ntmps36
  have BR := Blk.new w 42 zero8
  have OA := (On.refl w).alloc (.cells zero8 42)
  go_upto_region 1 with fail
  generalize hP : w.heap.size = p at *
  generalize w.alloc (.cells zero8 42) = wa at *
  go_wp2_with fail
  refine (Z8.out _).mono ?_
  rintro e w' ⟨rfl, hw⟩
  rw [hw]
  clear hw
  go_wp2_with fail
  refine (Z18.out _).mono ?_
  rintro e w' ⟨rfl, hw⟩
  rw [hw]
  clear hw
  go_wp2_with fail
  refine (Z26.out _).mono ?_
  rintro e w' ⟨rfl, hw⟩
  rw [hw]
  clear hw
  go_upto_region 5 with fail
  generalize s.extract 30 s.size = R at *
  have hl' : ¬ (R.size : Int) < a26 := by omega
  have e3 : IntKind.i64.wrap ((R.size : Int) - a26) = (R.size : Int) - a26 := by rw [IntKind.wrap_i64]; omega
  have hl2 : ¬ (R.size : Int) - a26 < a18 := by omega
  have e4 : IntKind.i64.wrap ((a26 : Int) + a18) = (a26 : Int) + a18 := by rw [IntKind.wrap_i64]; omega
  have q1 : (0 : Int) ≤ (a26 : Int) := by omega
  have q2 : (a26 : Int) ≤ (R.size : Int) := by omega
  have q3 : (0 : Int) ≤ (a26 : Int) + a18 := by omega
  have q4 : (a26 : Int) + a18 ≤ (R.size : Int) := by omega
  have q5 : (a26 : Int) ≤ (a26 : Int) + a18 := by omega
  have q6 : ((a26 : Int) + a18).toNat = a26 + a18 := by omega
  go_upto_region 7 with fail
  refine wp_region_held_drew (S := fun W => On wa W) (by kernel_rfl) (On.refl _).drew (fun hHeld => ?_)
  refine Tk.tk 0 ?_ rfl (.inl ⟨by rfl, ?_⟩) ?_
  rotate_left
  · intro w hSw; go_simp; first | done | with_reducible rfl
  try simp (maxSteps := 2000000) only [Act.put, Tk.s6]
  refine Tk.tk 1 ?_ rfl (.inl ⟨by rfl, ?_⟩) ?_
  rotate_left
  · intro w hSw; go_simp; first | done | with_reducible rfl
  try simp (maxSteps := 2000000) only [Act.put, Tk.s6]
  refine Tk.tk 2 ?_ rfl (.inl ⟨by rfl, ?_⟩) ?_
  rotate_left
  · intro w hSw; go_simp; first | done | with_reducible rfl
  try simp (maxSteps := 2000000) only [Act.put, Tk.s6]
  refine Tk.tk 3 ?_ rfl (.inl ⟨by rfl, ?_⟩) ?_
  rotate_left
  · intro w hSw; go_simp; first | done | with_reducible rfl
  try simp (maxSteps := 2000000) only [Act.put, Tk.s6]
  refine Tk.tk 4 ?_ rfl (.inl ⟨by rfl, ?_⟩) ?_
  rotate_left
  · intro w hSw; go_simp; first | done | with_reducible rfl
  try simp (maxSteps := 2000000) only [Act.put, Tk.s6]
  refine Tk.tk 5 ?_ rfl (.inl ⟨by rfl, ?_⟩) ?_
  rotate_left
  · intro w hSw; go_simp; first | done | with_reducible rfl
  try simp (maxSteps := 2000000) only [Act.put, Tk.s6]
  refine Tk.tk 6 ?_ rfl (.inl ⟨by rfl, ?_⟩) ?_
  rotate_left
  · intro w hSw; go_simp; first | done | with_reducible rfl
  try simp (maxSteps := 2000000) only [Act.put, Tk.s6]
  refine Tk.tk 7 ?_ rfl (.inl ⟨by rfl, ?_⟩) ?_
  rotate_left
  · intro w hSw; go_simp; first | done | with_reducible rfl
  try simp (maxSteps := 2000000) only [Act.put, Tk.s6]
  refine Tk.tk 8 ?_ rfl (.inl ⟨by rfl, ?_⟩) ?_
  rotate_left
  · intro w hSw; go_simp; first | done | with_reducible rfl
  try simp (maxSteps := 2000000) only [Act.put, Tk.s6]
  refine Tk.tk 9 ?_ rfl (.inl ⟨by rfl, ?_⟩) ?_
  rotate_left
  · intro w hSw; go_simp; first | done | with_reducible rfl
  try simp (maxSteps := 2000000) only [Act.put, Tk.s6]
  have O0 := (On.refl wa).drew
  generalize wa.drew = wd at *
  refine Tk.rd 10 rfl fun K hK => ?_
  go_simp
  have O1 := O0.alloc (.cells zero8 42)
  have BT := Blk.new wd 42 zero8
  obtain ⟨g, htb⟩ : ∃ g, g = wd.heap.size := ⟨_, rfl⟩
  have hg : wa.heap.size ≤ g := by have := O0.size; omega
  rw [← htb] at BT ⊢
  generalize wd.alloc (.cells zero8 42) = wT at *
  clear htb
  refine hK.out _ _ O1 (fun hHeld => ?_)
  clear hK K
  try simp (maxSteps := 2000000) only [Act.put, Tk.s6]
  obtain ⟨t0, t1, t2, t3, t4, t5, t6, t7⟩ := cells8 BT
  have ft : ∀ i, wT.frozen? ⟨g, i, none⟩ = false := BT.frozen
  refine Tk.rd 11 rfl fun K hK => ?_
  go_simp
  have BS := set8 BT (.string nm) (.int .i64 0) (.int .i64 0) (.int .i64 0) (.int .i64 0) (.int .i64 0) (.int .i64 0) (.string pk)
  have OS : On wa _ := ((((((((O1.set (p := ⟨g, 0, none⟩) hg (.string nm)).set (p := ⟨g, 1, none⟩) hg (.int .i64 0)).set (p := ⟨g, 2, none⟩) hg (.int .i64 0)).set (p := ⟨g, 3, none⟩) hg (.int .i64 0)).set (p := ⟨g, 4, none⟩) hg (.int .i64 0)).set (p := ⟨g, 5, none⟩) hg (.int .i64 0)).set (p := ⟨g, 6, none⟩) hg (.int .i64 0)).set (p := ⟨g, 7, none⟩) hg (.string pk))
  refine hK.out _ _ OS (fun hHeld => ?_)
  clear hK K
  try simp (maxSteps := 2000000) only [Act.put, Tk.s6]
  clear t0 t1 t2 t3 t4 t5 t6 t7 ft
  generalize ((((((((wT.setCell ⟨g, 0, none⟩ (.string nm)).setCell ⟨g, 1, none⟩ (.int .i64 0)).setCell ⟨g, 2, none⟩ (.int .i64 0)).setCell ⟨g, 3, none⟩ (.int .i64 0)).setCell ⟨g, 4, none⟩ (.int .i64 0)).setCell ⟨g, 5, none⟩ (.int .i64 0)).setCell ⟨g, 6, none⟩ (.int .i64 0)).setCell ⟨g, 7, none⟩ (.string pk)) = w7 at *
  refine wpAnyH_done (by kernel_rfl) ?_ _
  go_wp2_with fail
  refine (Z10.out _).mono ?_
  rintro e w' ⟨rfl, hw⟩
  rw [hw]
  clear hw
  go_wp2_with fail
  refine (HG.out _).mono ?_
  rintro e w8 ⟨sb, rfl, Og⟩
  have O8 := OS.call Og
  have B8 := Og.blk BS
  obtain ⟨t0, t1, t2, t3, t4, t5, t6, t7⟩ := cells8 B8
  have ft : ∀ i, w8.frozen? ⟨g, i, none⟩ = false := B8.frozen
  go_upto_region 9 with fail
  have B9 := ((((((B8.set 1 (.int .i64 y0)).set 2 (.int .i64 m0)).set 3 (.int .i64 d0)).set 4 (.int .i64 h0)).set 5 (.int .i64 mi0)).set 6 (.int .i64 s0))
  simp only [List.setIfInBounds_toArray, List.set_cons_zero, List.set_cons_succ] at B9
  have O9 : On wa _ := (((((O8.set (p := ⟨g, 1, none⟩) hg (.int .i64 y0)).set (p := ⟨g, 2, none⟩) hg (.int .i64 m0)).set (p := ⟨g, 3, none⟩) hg (.int .i64 d0)).set (p := ⟨g, 4, none⟩) hg (.int .i64 h0)).set (p := ⟨g, 5, none⟩) hg (.int .i64 mi0)).set (p := ⟨g, 6, none⟩) hg (.int .i64 s0)
  clear t0 t1 t2 t3 t4 t5 t6 t7 ft
  generalize ((((((w8.setCell ⟨g, 1, none⟩ (.int .i64 y0)).setCell ⟨g, 2, none⟩ (.int .i64 m0)).setCell ⟨g, 3, none⟩ (.int .i64 d0)).setCell ⟨g, 4, none⟩ (.int .i64 h0)).setCell ⟨g, 5, none⟩ (.int .i64 mi0)).setCell ⟨g, 6, none⟩ (.int .i64 s0)) = w9 at *
  have BR9 := O9.blk BR
  have Ow9 := OA.call O9
  have hpw : w.heap.size ≤ p := by omega
  have hpg : p ≠ g := by have := BR.lt; omega
  have hgw : w.heap.size ≤ g := by have := OA.size; omega
  clear OS Og O8 B8 BS O1 O0 OA BR O9
  obtain ⟨r0, r1, r2, r3, r4, r5, r6, r7⟩ := cells8 BR9
  have fr : ∀ i, w9.frozen? ⟨p, i, none⟩ = false := BR9.frozen
  go_wp2_with fail
  have BF := set8 BR9 (.string ⟨#[]⟩) (.int .i64 0) (.int .i64 0) (.int .i64 0) (.int .i64 0) (.int .i64 0) (.int .i64 0) (.string ⟨#[]⟩)
  refine bodyPost_ret (v := .tuple #[.agg zero8, .int .i64 0, .bool false]) (by exact res_ctt (fn := Tryz.f36) (p := 2) (u := 3) (v := 4) rfl BF rfl Tryz.underlying42 rfl (by kernel_rfl)) rfl ⟨by rw [HV.out], ?_⟩
  repeat (first | with_reducible exact Ow9 | refine On.set ?_ (show w.heap.size ≤ p by omega) _)
theorem lg_no {s tx : ByteArray} {o : List Nat} (htx : strB o = tx) (ht : textOf (numAtB s 8 2) (chars (rdPk s)) = some o) (he : entryOk (rdName s) (stY (rdNum s)) (stM (rdNum s)) (stD (rdNum s)) (stH (rdNum s)) (stI' (rdNum s)) (stS' (rdNum s)) tx = false) : lgetV s = .tuple #[.agg zero8, .int .i64 0, .bool false] := by
  rw [entry_st] at he
  unfold lgetV
  rw [lget_none (loc_not htx ht he)]; rfl
theorem lg_yes {s tx : ByteArray} {o : List Nat} (htx : strB o = tx) (hf : fits s) (hn : s.size ≤ 1048576) (ht : textOf (numAtB s 8 2) (chars (rdPk s)) = some o) (he : entryOk (rdName s) (stY (rdNum s)) (stM (rdNum s)) (stD (rdNum s)) (stH (rdNum s)) (stI' (rdNum s)) (stS' (rdNum s)) tx = true) :
    okp (stY (rdNum s)) (stM (rdNum s)) (stD (rdNum s)) (stH (rdNum s)) (stI' (rdNum s)) (stS' (rdNum s)) ∧
    (headB (rdName s) (stY (rdNum s)) (stM (rdNum s)) (stD (rdNum s)) (stH (rdNum s)) (stI' (rdNum s)) (stS' (rdNum s)) tx (numAtB s 8 2) (numAtB s 18 4) = s.extract 0 30 → lgetV s = .tuple #[.agg #[.string (rdName s), .int .i64 (stY (rdNum s)), .int .i64 (stM (rdNum s)), .int .i64 (stD (rdNum s)), .int .i64 (stH (rdNum s)), .int .i64 (stI' (rdNum s)), .int .i64 (stS' (rdNum s)), .string tx], .int .i64 ((30 + numAtB s 26 2 + numAtB s 18 4 : Nat) : Int), .bool true]) ∧
    (headB (rdName s) (stY (rdNum s)) (stM (rdNum s)) (stD (rdNum s)) (stH (rdNum s)) (stI' (rdNum s)) (stS' (rdNum s)) tx (numAtB s 8 2) (numAtB s 18 4) ≠ s.extract 0 30 → lgetV s = .tuple #[.agg zero8, .int .i64 0, .bool false]) ∧ (rdName s).size ≤ 43 ∧ tx.size ≤ 300 := by
  rw [entry_st] at he
  obtain ⟨ok, a1, a2, a3, a4, a5, a6⟩ := st_ok he
  have hp := entryOk_parts he
  have hl := loc_of htx hf hn ht he
  rw [a1, a2, a3, a4, a5, a6]
  refine ⟨ok, fun h => ?_, fun h => ?_, hp.1, hp.2.2⟩
  · unfold lgetV
    rw [lget_some (hl.1 h)]; rfl
  · unfold lgetV
    rw [lget_none (hl.2 h)]; rfl
theorem lg_bad {s : ByteArray} (ht : textOf (numAtB s 8 2) (chars (rdPk s)) = none) : lgetV s = .tuple #[.agg zero8, .int .i64 0, .bool false] := by
  unfold lgetV
  rw [lget_none (loc_bad ht)]; rfl
end Go.Proofs.YtnadjlejlohgiaaGreatDoor.Lc

