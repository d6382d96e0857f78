/- Own texts joined: Lr. -/
import Derived.Deep.DeepCutAuto
import Derived.Test.YtnadjlejlohgiaaGreatDoorZ30
import Derived.Test.YtnadjlejlohgiaaGreatDoorZ37
/- A file of an archive read back: the specification's. (Printed by tools/gen_lr.py.) -/
namespace Go.Proofs.YtnadjlejlohgiaaGreatDoor.Lc
open Go.RowKit Go.Proofs.YtnadjlejlohgiaaGreatDoor.Mem Go.Proofs.YtnadjlejlohgiaaGreatDoor.Nm Go.Proofs.YtnadjlejlohgiaaGreatDoor.Nb Go.Proofs.YtnadjlejlohgiaaGreatDoor.Cr Go.Proofs.YtnadjlejlohgiaaGreatDoor.Wi
set_option linter.unusedVariables false
set_option linter.unusedSimpArgs false
section
variable {P : Program} {fn : Func} {tmps : Array Value} {w : World} {g t : Nat} {cs : Array Value} {d : TypeDesc}
theorem res_ctt {p u v : Tmp} {ty : TypeId} (h : fn.results = #[.cell p ty, .tmp u, .tmp v]) (b : Blk w g t cs) (hp : tmps.getD p undef = .pointer (some ⟨g, 0, none⟩))
    (hu : P.underlying ty = some d) (hd : (match d with | .struct _ | .array _ _ => true | _ => false) = true) (hi : (P.info? ty).map (·.size) = some cs.size) :
    (results fn tmps).run P w = .ok (.tuple #[.agg cs, tmps.getD u undef, tmps.getD v undef]) w := by
  have e : tmps[p]?.getD undef = .pointer (some ⟨g, 0, none⟩) := by simpa using hp
  simp [results, h, e, asAddr, run_loadVar_row w g t ty cs (0, 0) d b.out hu hd hi]
end
abbrev zero8 : Array Value := #[.string ⟨#[]⟩, .int .i64 0, .int .i64 0, .int .i64 0, .int .i64 0, .int .i64 0, .int .i64 0, .string ⟨#[]⟩]
theorem set8 {w : World} {g t : Nat} {x0 x1 x2 x3 x4 x5 x6 x7 : Value} (B : Blk w g t #[x0, x1, x2, x3, x4, x5, x6, x7]) (a b c d e f h i : Value) :
    Blk ((((((((w.setCell ⟨g, 0, none⟩ a).setCell ⟨g, 1, none⟩ b).setCell ⟨g, 2, none⟩ c).setCell ⟨g, 3, none⟩ d).setCell ⟨g, 4, none⟩ e).setCell ⟨g, 5, none⟩ f).setCell ⟨g, 6, none⟩ h).setCell ⟨g, 7, none⟩ i) g t #[a, b, c, d, e, f, h, i] := by
  have q := (((((((B.set 0 a).set 1 b).set 2 c).set 3 d).set 4 e).set 5 f).set 6 h).set 7 i
  simpa using q
theorem cells8 {w : World} {g t : Nat} {x0 x1 x2 x3 x4 x5 x6 x7 : Value} (b : Blk w g t #[x0, x1, x2, x3, x4, x5, x6, x7]) :
    w.cell? ⟨g, 0, none⟩ = some x0 ∧ w.cell? ⟨g, 1, none⟩ = some x1 ∧ w.cell? ⟨g, 2, none⟩ = some x2 ∧ w.cell? ⟨g, 3, none⟩ = some x3 ∧ w.cell? ⟨g, 4, none⟩ = some x4 ∧ w.cell? ⟨g, 5, none⟩ = some x5 ∧ w.cell? ⟨g, 6, none⟩ = some x6 ∧ w.cell? ⟨g, 7, none⟩ = some x7 :=
  ⟨(b.cell 0).trans rfl, (b.cell 1).trans rfl, (b.cell 2).trans rfl, (b.cell 3).trans rfl, (b.cell 4).trans rfl, (b.cell 5).trans rfl, (b.cell 6).trans rfl, (b.cell 7).trans rfl⟩
theorem sget6 (n : Nat) : (n : Int) / 32 / 64 / 32 / 32 / 16 + 1980 = gy n ∧ (n : Int) / 32 / 64 / 32 / 32 % 16 = gm n ∧ (n : Int) / 32 / 64 / 32 % 32 = gd n ∧ (n : Int) / 32 / 64 % 32 = gh n ∧ (n : Int) / 32 % 64 = gi n ∧ 2 * ((n : Int) % 32) = gs n := by
  unfold gy gm gd gh gi gs; omega
set_option maxRecDepth 100000 in
set_option maxHeartbeats 1000000 in
theorem sget_calls (n : Nat) (h1 : n < 4294967296) (w : World) :
    Calls Tryz.prog 57 #[.int .i64 n] w (Tells w (.agg #[.int .i64 (gy n), .int .i64 (gm n), .int .i64 (gd n), .int .i64 (gh n), .int .i64 (gi n), .int .i64 (gs n)])) := by
  obtain ⟨f1, f2, f3, f4, f5, f6⟩ := sget6 n
  rw [← f1, ← f2, ← f3, ← f4, ← f5, ← f6]
  clear f1 f2 f3 f4 f5 f6
  have h0 : (0 : Int) ≤ n := by omega
  have h2 : (n : Int) ≤ 4294967295 := by omega
  generalize (n : Int) = n at *
  go_enter Tryz.func57, Tryz.ntmps57
  go_wp2
  refine bodyPost_ret (v := .agg #[.int .i64 (n / 32 / 64 / 32 / 32 / 16 + 1980), .int .i64 (n / 32 / 64 / 32 / 32 % 16), .int .i64 (n / 32 / 64 / 32 % 32), .int .i64 (n / 32 / 64 % 32), .int .i64 (n / 32 % 64), .int .i64 (2 * (n % 32))]) (by simp [results, Tryz.results57, go_sem]) rfl ⟨rfl, ?_⟩
  repeat (first | with_reducible exact On.refl _ | refine On.set ?_ (by simp) _ | refine On.alloc ?_ _)
/-- The number of so many bytes at a place; -1 if they are not there. -/
def numZ (s : ByteArray) (a n : Nat) : Int := if a + n ≤ s.size then (numAtB s a n : Nat) else -1
theorem snumz_calls (s : ByteArray) (a n : Nat) (hs : s.size ≤ 4294967296) (ha : a ≤ 4294967296) (hn : n ≤ 4) (w : World) :
    Calls Tryz.prog 29 #[.string s, .int .i64 a, .int .i64 n] w (fun e w' => e = .returned (.int .i64 (numZ s a n)) ∧ w' = w) := by
  unfold numZ
  by_cases h : a + n ≤ s.size
  · rw [if_pos h]; exact snum_calls s a n hs h hn w
  · rw [if_neg h]; exact snum_none s a n hs h ha hn w
theorem z0_calls (s : ByteArray) (hs : s.size ≤ 4294967296) (w : World) : Calls Tryz.prog 29 #[.string s, .int .i64 0, .int .i64 4] w (fun e w' => e = .returned (.int .i64 (numZ s 0 4)) ∧ w' = w) := by
  have h := snumz_calls s 0 4 hs (by decide) (by decide) w
  rw [show ((0 : Nat) : Int) = 0 from rfl, show ((4 : Nat) : Int) = 4 from rfl] at h
  exact h
theorem z4_calls (s : ByteArray) (hs : s.size ≤ 4294967296) (w : World) : Calls Tryz.prog 29 #[.string s, .int .i64 4, .int .i64 2] w (fun e w' => e = .returned (.int .i64 (numZ s 4 2)) ∧ w' = w) := by
  have h := snumz_calls s 4 2 hs (by decide) (by decide) w
  rw [show ((4 : Nat) : Int) = 4 from rfl, show ((2 : Nat) : Int) = 2 from rfl] at h
  exact h
theorem z6_calls (s : ByteArray) (hs : s.size ≤ 4294967296) (w : World) : Calls Tryz.prog 29 #[.string s, .int .i64 6, .int .i64 2] w (fun e w' => e = .returned (.int .i64 (numZ s 6 2)) ∧ w' = w) := by
  have h := snumz_calls s 6 2 hs (by decide) (by decide) w
  rw [show ((6 : Nat) : Int) = 6 from rfl, show ((2 : Nat) : Int) = 2 from rfl] at h
  exact h
theorem z8_calls (s : ByteArray) (hs : s.size ≤ 4294967296) (w : World) : Calls Tryz.prog 29 #[.string s, .int .i64 8, .int .i64 2] w (fun e w' => e = .returned (.int .i64 (numZ s 8 2)) ∧ w' = w) := by
  have h := snumz_calls s 8 2 hs (by decide) (by decide) w
  rw [show ((8 : Nat) : Int) = 8 from rfl, show ((2 : Nat) : Int) = 2 from rfl] at h
  exact h
theorem z10_calls (s : ByteArray) (hs : s.size ≤ 4294967296) (w : World) : Calls Tryz.prog 29 #[.string s, .int .i64 10, .int .i64 4] w (fun e w' => e = .returned (.int .i64 (numZ s 10 4)) ∧ w' = w) := by
  have h := snumz_calls s 10 4 hs (by decide) (by decide) w
  rw [show ((10 : Nat) : Int) = 10 from rfl, show ((4 : Nat) : Int) = 4 from rfl] at h
  exact h
theorem z14_calls (s : ByteArray) (hs : s.size ≤ 4294967296) (w : World) : Calls Tryz.prog 29 #[.string s, .int .i64 14, .int .i64 4] w (fun e w' => e = .returned (.int .i64 (numZ s 14 4)) ∧ w' = w) := by
  have h := snumz_calls s 14 4 hs (by decide) (by decide) w
  rw [show ((14 : Nat) : Int) = 14 from rfl, show ((4 : Nat) : Int) = 4 from rfl] at h
  exact h
theorem z18_calls (s : ByteArray) (hs : s.size ≤ 4294967296) (w : World) : Calls Tryz.prog 29 #[.string s, .int .i64 18, .int .i64 4] w (fun e w' => e = .returned (.int .i64 (numZ s 18 4)) ∧ w' = w) := by
  have h := snumz_calls s 18 4 hs (by decide) (by decide) w
  rw [show ((18 : Nat) : Int) = 18 from rfl, show ((4 : Nat) : Int) = 4 from rfl] at h
  exact h
theorem z22_calls (s : ByteArray) (hs : s.size ≤ 4294967296) (w : World) : Calls Tryz.prog 29 #[.string s, .int .i64 22, .int .i64 4] w (fun e w' => e = .returned (.int .i64 (numZ s 22 4)) ∧ w' = w) := by
  have h := snumz_calls s 22 4 hs (by decide) (by decide) w
  rw [show ((22 : Nat) : Int) = 22 from rfl, show ((4 : Nat) : Int) = 4 from rfl] at h
  exact h
theorem z26_calls (s : ByteArray) (hs : s.size ≤ 4294967296) (w : World) : Calls Tryz.prog 29 #[.string s, .int .i64 26, .int .i64 2] w (fun e w' => e = .returned (.int .i64 (numZ s 26 2)) ∧ w' = w) := by
  have h := snumz_calls s 26 2 hs (by decide) (by decide) w
  rw [show ((26 : Nat) : Int) = 26 from rfl, show ((2 : Nat) : Int) = 2 from rfl] at h
  exact h
theorem z28_calls (s : ByteArray) (hs : s.size ≤ 4294967296) (w : World) : Calls Tryz.prog 29 #[.string s, .int .i64 28, .int .i64 2] w (fun e w' => e = .returned (.int .i64 (numZ s 28 2)) ∧ w' = w) := by
  have h := snumz_calls s 28 2 hs (by decide) (by decide) w
  rw [show ((28 : Nat) : Int) = 28 from rfl, show ((2 : Nat) : Int) = 2 from rfl] at h
  exact h
/-- What is told of a file that was read, or of none. -/
structure RdIs (s : ByteArray) (f : Fi) (n : Int) (b : Bool) : Prop where
  ok : b = (locText s).isSome
  got : ∀ o, locText s = some o → f = fiOf s o ∧ n = (rdLong s : Nat)
theorem no_head {s : ByteArray} (h : ¬ headOk s) : locText s = none := by unfold locText; rw [if_neg h]
theorem numZ_bd (s : ByteArray) (a n : Nat) (hn : n ≤ 4) : -1 ≤ numZ s a n ∧ numZ s a n ≤ 4294967295 := by
  unfold numZ
  have h1 := numAtB_lt s a n
  have h2 : 256 ^ n ≤ 256 ^ 4 := Nat.pow_le_pow_right (by decide) hn
  split <;> omega
theorem numZ_in {s : ByteArray} {a n : Nat} (h : a + n ≤ s.size) : numZ s a n = (numAtB s a n : Nat) := by unfold numZ; rw [if_pos h]
theorem head_arms {s : ByteArray} (h : ¬ headOk s) : numZ s 0 4 ≠ 67324752 ∨ (numZ s 0 4 = 67324752 ∧ numZ s 4 2 ≠ 20) ∨ (numZ s 0 4 = 67324752 ∧ numZ s 4 2 = 20 ∧ numZ s 6 2 ≠ 0) ∨ (numZ s 0 4 = 67324752 ∧ numZ s 4 2 = 20 ∧ numZ s 6 2 = 0 ∧ numZ s 28 2 ≠ 0) ∨
    (numZ s 0 4 = 67324752 ∧ numZ s 4 2 = 20 ∧ numZ s 6 2 = 0 ∧ numZ s 28 2 = 0 ∧ ¬ numZ s 26 2 < 0 ∧ ¬ numZ s 18 4 < 0 ∧ (s.size : Int) < 30 + numZ s 26 2 + numZ s 18 4) := by
  by_cases h30 : 30 ≤ s.size
  · rw [numZ_in (s := s) (a := 0) (n := 4) (by omega), numZ_in (s := s) (a := 4) (n := 2) (by omega), numZ_in (s := s) (a := 6) (n := 2) (by omega), numZ_in (s := s) (a := 28) (n := 2) (by omega), numZ_in (s := s) (a := 26) (n := 2) (by omega), numZ_in (s := s) (a := 18) (n := 4) (by omega)]
    by_cases h0 : numAtB s 0 4 = 67324752
    · by_cases h4 : numAtB s 4 2 = 20
      · by_cases h6 : numAtB s 6 2 = 0
        · by_cases h28 : numAtB s 28 2 = 0
          · have : ¬ 30 + numAtB s 26 2 + numAtB s 18 4 ≤ s.size := fun hf => h ⟨h30, h0, h4, h6, h28, hf⟩
            omega
          · omega
        · omega
      · omega
    · omega
  · have e : numZ s 28 2 = -1 := by unfold numZ; rw [if_neg (by omega)]
    omega
set_option maxRecDepth 100000 in
set_option maxHeartbeats 4000000 in
theorem sread_no (s : ByteArray) (hs : s.size ≤ 1048576) (hh : ¬ headOk s) (w : World) :
    Calls Tryz.prog 34 #[.string s] w (Tells w (.tuple #[.agg zero8, .int .i64 0, .bool false])) := by
  have Z26 := Lib.hid (fun w => z26_calls s (by omega) w)
  have Z18 := Lib.hid (fun w => z18_calls s (by omega) w)
  have Z0 := Lib.hid (fun w => z0_calls s (by omega) w)
  have Z4 := Lib.hid (fun w => z4_calls s (by omega) w)
  have Z6 := Lib.hid (fun w => z6_calls s (by omega) w)
  have Z28 := Lib.hid (fun w => z28_calls s (by omega) w)
  have b26 := numZ_bd s 26 2 (by decide)
  have b18 := numZ_bd s 18 4 (by decide)
  have arms := head_arms hh
  clear hh
  generalize numZ s 26 2 = v26 at *
  generalize numZ s 18 4 = v18 at *
  generalize numZ s 0 4 = v0 at *
  generalize numZ s 4 2 = v4 at *
  generalize numZ s 6 2 = v6 at *
  generalize numZ s 28 2 = v28 at *
  obtain ⟨b26a, b26b⟩ := b26
  obtain ⟨b18a, b18b⟩ := b18
  rcases arms with a | ⟨rfl, a⟩ | ⟨rfl, rfl, a⟩ | ⟨rfl, rfl, rfl, a⟩ | ⟨rfl, rfl, rfl, rfl, n26, n18, a⟩
  · have a2 : (v0 == 67324752) = false := by simpa using a
    go_enter Tryz.func34, Tryz.ntmps34
    have BR := Blk.new w 42 zero8
    have OA := (On.refl w).alloc (.cells zero8 42)
    go_upto_region 1 with fail
    generalize hP : w.heap.size = p at *
    generalize w.alloc (.cells zero8 42) = wa at *
    obtain ⟨r0, r1, r2, r3, r4, r5, r6, r7⟩ := cells8 BR
    have fr : ∀ i, wa.frozen? ⟨p, i, none⟩ = false := BR.frozen
    go_wp2_with fail
    refine (Z26.out _).mono ?_
    rintro e w' ⟨rfl, hw⟩
    rw [hw]
    clear hw
    go_wp2_with fail
    refine (Z18.out _).mono ?_
    rintro e w' ⟨rfl, hw⟩
    rw [hw]
    clear hw
    go_wp2_with fail
    refine (Z0.out _).mono ?_
    rintro e w' ⟨rfl, hw⟩
    rw [hw]
    clear hw
    go_wp2_with fail
    have BF := set8 BR (.string ⟨#[]⟩) (.int .i64 0) (.int .i64 0) (.int .i64 0) (.int .i64 0) (.int .i64 0) (.int .i64 0) (.string ⟨#[]⟩)
    refine bodyPost_ret (v := .tuple #[.agg zero8, .int .i64 0, .bool false]) (by exact res_ctt (fn := Tryz.f34) (p := 2) (u := 3) (v := 4) rfl BF rfl Tryz.underlying42 rfl (by kernel_rfl)) rfl ⟨rfl, ?_⟩
    repeat (first | with_reducible exact OA | refine On.set ?_ (show w.heap.size ≤ p by omega) _)
  · have a2 : (v4 == 20) = false := by simpa using a
    go_enter Tryz.func34, Tryz.ntmps34
    have BR := Blk.new w 42 zero8
    have OA := (On.refl w).alloc (.cells zero8 42)
    go_upto_region 1 with fail
    generalize hP : w.heap.size = p at *
    generalize w.alloc (.cells zero8 42) = wa at *
    obtain ⟨r0, r1, r2, r3, r4, r5, r6, r7⟩ := cells8 BR
    have fr : ∀ i, wa.frozen? ⟨p, i, none⟩ = false := BR.frozen
    go_wp2_with fail
    refine (Z26.out _).mono ?_
    rintro e w' ⟨rfl, hw⟩
    rw [hw]
    clear hw
    go_wp2_with fail
    refine (Z18.out _).mono ?_
    rintro e w' ⟨rfl, hw⟩
    rw [hw]
    clear hw
    go_wp2_with fail
    refine (Z0.out _).mono ?_
    rintro e w' ⟨rfl, hw⟩
    rw [hw]
    clear hw
    go_wp2_with fail
    refine (Z4.out _).mono ?_
    rintro e w' ⟨rfl, hw⟩
    rw [hw]
    clear hw
    go_wp2_with fail
    have BF := set8 BR (.string ⟨#[]⟩) (.int .i64 0) (.int .i64 0) (.int .i64 0) (.int .i64 0) (.int .i64 0) (.int .i64 0) (.string ⟨#[]⟩)
    refine bodyPost_ret (v := .tuple #[.agg zero8, .int .i64 0, .bool false]) (by exact res_ctt (fn := Tryz.f34) (p := 2) (u := 3) (v := 4) rfl BF rfl Tryz.underlying42 rfl (by kernel_rfl)) rfl ⟨rfl, ?_⟩
    repeat (first | with_reducible exact OA | refine On.set ?_ (show w.heap.size ≤ p by omega) _)
  · have a2 : (v6 == 0) = false := by simpa using a
    go_enter Tryz.func34, Tryz.ntmps34
    have BR := Blk.new w 42 zero8
    have OA := (On.refl w).alloc (.cells zero8 42)
    go_upto_region 1 with fail
    generalize hP : w.heap.size = p at *
    generalize w.alloc (.cells zero8 42) = wa at *
    obtain ⟨r0, r1, r2, r3, r4, r5, r6, r7⟩ := cells8 BR
    have fr : ∀ i, wa.frozen? ⟨p, i, none⟩ = false := BR.frozen
    go_wp2_with fail
    refine (Z26.out _).mono ?_
    rintro e w' ⟨rfl, hw⟩
    rw [hw]
    clear hw
    go_wp2_with fail
    refine (Z18.out _).mono ?_
    rintro e w' ⟨rfl, hw⟩
    rw [hw]
    clear hw
    go_wp2_with fail
    refine (Z0.out _).mono ?_
    rintro e w' ⟨rfl, hw⟩
    rw [hw]
    clear hw
    go_wp2_with fail
    refine (Z4.out _).mono ?_
    rintro e w' ⟨rfl, hw⟩
    rw [hw]
    clear hw
    go_wp2_with fail
    refine (Z6.out _).mono ?_
    rintro e w' ⟨rfl, hw⟩
    rw [hw]
    clear hw
    go_wp2_with fail
    have BF := set8 BR (.string ⟨#[]⟩) (.int .i64 0) (.int .i64 0) (.int .i64 0) (.int .i64 0) (.int .i64 0) (.int .i64 0) (.string ⟨#[]⟩)
    refine bodyPost_ret (v := .tuple #[.agg zero8, .int .i64 0, .bool false]) (by exact res_ctt (fn := Tryz.f34) (p := 2) (u := 3) (v := 4) rfl BF rfl Tryz.underlying42 rfl (by kernel_rfl)) rfl ⟨rfl, ?_⟩
    repeat (first | with_reducible exact OA | refine On.set ?_ (show w.heap.size ≤ p by omega) _)
  · have a2 : (v28 == 0) = false := by simpa using a
    go_enter Tryz.func34, Tryz.ntmps34
    have BR := Blk.new w 42 zero8
    have OA := (On.refl w).alloc (.cells zero8 42)
    go_upto_region 1 with fail
    generalize hP : w.heap.size = p at *
    generalize w.alloc (.cells zero8 42) = wa at *
    obtain ⟨r0, r1, r2, r3, r4, r5, r6, r7⟩ := cells8 BR
    have fr : ∀ i, wa.frozen? ⟨p, i, none⟩ = false := BR.frozen
    go_wp2_with fail
    refine (Z26.out _).mono ?_
    rintro e w' ⟨rfl, hw⟩
    rw [hw]
    clear hw
    go_wp2_with fail
    refine (Z18.out _).mono ?_
    rintro e w' ⟨rfl, hw⟩
    rw [hw]
    clear hw
    go_wp2_with fail
    refine (Z0.out _).mono ?_
    rintro e w' ⟨rfl, hw⟩
    rw [hw]
    clear hw
    go_wp2_with fail
    refine (Z4.out _).mono ?_
    rintro e w' ⟨rfl, hw⟩
    rw [hw]
    clear hw
    go_wp2_with fail
    refine (Z6.out _).mono ?_
    rintro e w' ⟨rfl, hw⟩
    rw [hw]
    clear hw
    go_wp2_with fail
    refine (Z28.out _).mono ?_
    rintro e w' ⟨rfl, hw⟩
    rw [hw]
    clear hw
    go_wp2_with fail
    have BF := set8 BR (.string ⟨#[]⟩) (.int .i64 0) (.int .i64 0) (.int .i64 0) (.int .i64 0) (.int .i64 0) (.int .i64 0) (.string ⟨#[]⟩)
    refine bodyPost_ret (v := .tuple #[.agg zero8, .int .i64 0, .bool false]) (by exact res_ctt (fn := Tryz.f34) (p := 2) (u := 3) (v := 4) rfl BF rfl Tryz.underlying42 rfl (by kernel_rfl)) rfl ⟨rfl, ?_⟩
    repeat (first | with_reducible exact OA | refine On.set ?_ (show w.heap.size ≤ p by omega) _)
  · have e1 : IntKind.i64.wrap (30 + v26) = 30 + v26 := by rw [IntKind.wrap_i64]; omega
    have e2 : IntKind.i64.wrap (30 + v26 + v18) = 30 + v26 + v18 := by rw [IntKind.wrap_i64]; omega
    go_enter Tryz.func34, Tryz.ntmps34
    have BR := Blk.new w 42 zero8
    have OA := (On.refl w).alloc (.cells zero8 42)
    go_upto_region 1 with fail
    generalize hP : w.heap.size = p at *
    generalize w.alloc (.cells zero8 42) = wa at *
    obtain ⟨r0, r1, r2, r3, r4, r5, r6, r7⟩ := cells8 BR
    have fr : ∀ i, wa.frozen? ⟨p, i, none⟩ = false := BR.frozen
    go_wp2_with fail
    refine (Z26.out _).mono ?_
    rintro e w' ⟨rfl, hw⟩
    rw [hw]
    clear hw
    go_wp2_with fail
    refine (Z18.out _).mono ?_
    rintro e w' ⟨rfl, hw⟩
    rw [hw]
    clear hw
    go_wp2_with fail
    refine (Z0.out _).mono ?_
    rintro e w' ⟨rfl, hw⟩
    rw [hw]
    clear hw
    go_wp2_with fail
    refine (Z4.out _).mono ?_
    rintro e w' ⟨rfl, hw⟩
    rw [hw]
    clear hw
    go_wp2_with fail
    refine (Z6.out _).mono ?_
    rintro e w' ⟨rfl, hw⟩
    rw [hw]
    clear hw
    go_wp2_with fail
    refine (Z28.out _).mono ?_
    rintro e w' ⟨rfl, hw⟩
    rw [hw]
    clear hw
    go_wp2_with fail
    have BF := set8 BR (.string ⟨#[]⟩) (.int .i64 0) (.int .i64 0) (.int .i64 0) (.int .i64 0) (.int .i64 0) (.int .i64 0) (.string ⟨#[]⟩)
    refine bodyPost_ret (v := .tuple #[.agg zero8, .int .i64 0, .bool false]) (by exact res_ctt (fn := Tryz.f34) (p := 2) (u := 3) (v := 4) rfl BF rfl Tryz.underlying42 rfl (by kernel_rfl)) rfl ⟨rfl, ?_⟩
    repeat (first | with_reducible exact OA | refine On.set ?_ (show w.heap.size ≤ p by omega) _)
end Go.Proofs.YtnadjlejlohgiaaGreatDoor.Lc

