/- Own texts joined: Sq. -/
import Derived.Test.YtnadjlejlohgiaaGreatDoorZ33
/- A stamp out of its number, the program's. -/
namespace Go.Proofs.YtnadjlejlohgiaaGreatDoor.Lc
open Go.RowKit Go.Proofs.YtnadjlejlohgiaaGreatDoor.Mem Go.Proofs.YtnadjlejlohgiaaGreatDoor.Nm Go.Proofs.YtnadjlejlohgiaaGreatDoor.Nb Go.Proofs.YtnadjlejlohgiaaGreatDoor.Cr Go.Proofs.YtnadjlejlohgiaaGreatDoor.Wi
set_option linter.unusedVariables false
set_option linter.unusedSimpArgs false
theorem and_mask (i : Nat) (hi : i ≤ 63) {x m : Int} (hm : m = 2 ^ i - 1) (h0 : 0 ≤ x) (h1 : x < 9223372036854775808) : Go.bits .and .i64 x m = x % 2 ^ i := by
  subst hm
  exact bits_mask .i64 63 (by decide) swr_i64 i hi x h0 (by omega)
theorem masks (n : Nat) (h1 : n < 4294967296) : Go.bits .and .i64 ((n : Int) / 33554432) 127 = (n : Int) / 33554432 ∧ Go.bits .and .i64 ((n : Int) / 2097152) 15 = gm n ∧ Go.bits .and .i64 ((n : Int) / 65536) 31 = gd n ∧ Go.bits .and .i64 ((n : Int) / 2048) 31 = gh n ∧ Go.bits .and .i64 ((n : Int) / 32) 63 = gi n ∧ Go.bits .and .i64 (n : Int) 31 = (n : Int) % 32 := by
  unfold gm gd gh gi
  rw [and_mask 7 (by decide) (by decide) (by omega) (by omega), and_mask 4 (by decide) (by decide) (by omega) (by omega), and_mask (x := (n : Int) / 65536) 5 (by decide) (by decide) (by omega) (by omega), and_mask (x := (n : Int) / 2048) 5 (by decide) (by decide) (by omega) (by omega), and_mask 6 (by decide) (by decide) (by omega) (by omega), and_mask (x := (n : Int)) 5 (by decide) (by decide) (by omega) (by omega)]
  simp only [show ((2:Int) ^ 7) = 128 from rfl, show ((2:Int) ^ 4) = 16 from rfl, show ((2:Int) ^ 5) = 32 from rfl, show ((2:Int) ^ 6) = 64 from rfl]
  refine ⟨?_, trivial, trivial, trivial, trivial, trivial⟩
  omega
set_option maxRecDepth 100000 in
set_option maxHeartbeats 1000000 in
theorem iputno_calls (y m d h mi s : Int) (ok : ¬ okp y m d h mi s) (w : World) :
    Calls Tryz.prog 79 #[.agg #[.int .i64 y, .int .i64 m, .int .i64 d, .int .i64 h, .int .i64 mi, .int .i64 s]] w (Tells w (.int .i64 (-1))) := by
  have HK := Lib.hid (fun w => iok_calls y m d h mi s w)
  rw [decide_eq_false ok] at HK
  clear ok
  have OA := (On.refl w).alloc (.cells #[.int .i64 y, .int .i64 m, .int .i64 d, .int .i64 h, .int .i64 mi, .int .i64 s] 40)
  go_enter Tryz.func79, Tryz.ntmps79
  go_wp2_with fail
  generalize w.alloc (.cells #[.int .i64 y, .int .i64 m, .int .i64 d, .int .i64 h, .int .i64 mi, .int .i64 s] 40) = wa at *
  refine (HK.out wa).mono ?_
  rintro e w1 ⟨rfl, O1⟩
  go_wp2_with fail
  go_ret
  exact ⟨rfl, OA.call O1⟩
abbrev zero6 : Array Value := #[.int .i64 0, .int .i64 0, .int .i64 0, .int .i64 0, .int .i64 0, .int .i64 0]
theorem set6 {w : World} {g t : Nat} {x0 x1 x2 x3 x4 x5 : Value} (B : Blk w g t #[x0, x1, x2, x3, x4, x5]) (a b c d e f : Value) :
    Blk ((((((w.setCell ⟨g, 0, none⟩ a).setCell ⟨g, 1, none⟩ b).setCell ⟨g, 2, none⟩ c).setCell ⟨g, 3, none⟩ d).setCell ⟨g, 4, none⟩ e).setCell ⟨g, 5, none⟩ f) g t #[a, b, c, d, e, f] := by
  have h := (((((B.set 0 a).set 1 b).set 2 c).set 3 d).set 4 e).set 5 f
  simpa using h
set_option maxRecDepth 100000 in
set_option maxHeartbeats 800000 in
theorem iget_no (n : Nat) (h1 : n < 4294967296) (ok : ¬ okp (gy n) (gm n) (gd n) (gh n) (gi n) (gs n)) (w : World) : Calls Tryz.prog 61 #[.int .i64 n] w (Tells w (.tuple #[.agg zero6, .bool false])) := by
  obtain ⟨m1, m2, m3, m4, m5, m6⟩ := masks n h1
  have m7 : IntKind.i64.wrap ((n : Int) % 32 * 2) = gs n := by unfold gs; rw [IntKind.wrap_i64]; omega
  have m8 : IntKind.i64.wrap (1980 + (n : Int) / 33554432) = gy n := by unfold gy; rw [IntKind.wrap_i64]; omega
  have HH := Lib.hid (fun w => iputno_calls (gy n) (gm n) (gd n) (gh n) (gi n) (gs n) ok w)
  clear ok
  generalize gy n = y at *
  generalize gm n = mo at *
  generalize gd n = d at *
  generalize gh n = h at *
  generalize gi n = mi at *
  generalize gs n = s at *
  go_enter Tryz.func61, Tryz.ntmps61
  have B := Blk.new w 40 zero6
  go_wp2_with fail
  replace B := B.alloc (.cells #[.int .i64 y, .int .i64 mo, .int .i64 d, .int .i64 h, .int .i64 mi, .int .i64 s] 40)
  have O := ((On.refl w).alloc (.cells zero6 40)).alloc (.cells #[.int .i64 y, .int .i64 mo, .int .i64 d, .int .i64 h, .int .i64 mi, .int .i64 s] 40)
  refine (HH.out _).mono ?_
  rintro e w3 ⟨rfl, O3⟩
  replace B := B.call O3.out
  replace O := O.call O3
  have hr' : ((-1 : Int) != (n : Int)) = true := by simp
  have c0 : w3.cell? ⟨w.heap.size, 0, none⟩ = some (.int .i64 0) := (B.cell 0).trans rfl
  have c1 : w3.cell? ⟨w.heap.size, 1, none⟩ = some (.int .i64 0) := (B.cell 1).trans rfl
  have c2 : w3.cell? ⟨w.heap.size, 2, none⟩ = some (.int .i64 0) := (B.cell 2).trans rfl
  have c3 : w3.cell? ⟨w.heap.size, 3, none⟩ = some (.int .i64 0) := (B.cell 3).trans rfl
  have c4 : w3.cell? ⟨w.heap.size, 4, none⟩ = some (.int .i64 0) := (B.cell 4).trans rfl
  have c5 : w3.cell? ⟨w.heap.size, 5, none⟩ = some (.int .i64 0) := (B.cell 5).trans rfl
  have fr : ∀ i, w3.frozen? ⟨w.heap.size, i, none⟩ = false := B.frozen
  go_wp2_with fail
  have B' := set6 B (.int .i64 0) (.int .i64 0) (.int .i64 0) (.int .i64 0) (.int .i64 0) (.int .i64 0)
  refine bodyPost_ret (v := .tuple #[.agg zero6, .bool false]) (by exact res_ct (fn := Tryz.f61) (p := 2) (u := 3) rfl B' rfl Tryz.underlying40 rfl (by kernel_rfl)) rfl ⟨rfl, ?_⟩
  repeat (first | with_reducible exact O | refine On.set ?_ (Nat.le_refl _) _)
set_option maxRecDepth 100000 in
set_option maxHeartbeats 800000 in
theorem iget_yes (n : Nat) (h1 : n < 4294967296) (ok : okp (gy n) (gm n) (gd n) (gh n) (gi n) (gs n)) (w : World) : Calls Tryz.prog 61 #[.int .i64 n] w (Tells w (.tuple #[.agg #[.int .i64 (gy n), .int .i64 (gm n), .int .i64 (gd n), .int .i64 (gh n), .int .i64 (gi n), .int .i64 (gs n)], .bool true])) := by
  obtain ⟨m1, m2, m3, m4, m5, m6⟩ := masks n h1
  have m7 : IntKind.i64.wrap ((n : Int) % 32 * 2) = gs n := by unfold gs; rw [IntKind.wrap_i64]; omega
  have m8 : IntKind.i64.wrap (1980 + (n : Int) / 33554432) = gy n := by unfold gy; rw [IntKind.wrap_i64]; omega
  have HH := Lib.hid (fun w => iput_calls (gy n) (gm n) (gd n) (gh n) (gi n) (gs n) ok w)
  rw [stampN_get] at HH
  clear ok
  generalize gy n = y at *
  generalize gm n = mo at *
  generalize gd n = d at *
  generalize gh n = h at *
  generalize gi n = mi at *
  generalize gs n = s at *
  go_enter Tryz.func61, Tryz.ntmps61
  have B := Blk.new w 40 zero6
  go_wp2_with fail
  replace B := B.alloc (.cells #[.int .i64 y, .int .i64 mo, .int .i64 d, .int .i64 h, .int .i64 mi, .int .i64 s] 40)
  have D := Blk.new (w.alloc (.cells zero6 40)) 40 #[.int .i64 y, .int .i64 mo, .int .i64 d, .int .i64 h, .int .i64 mi, .int .i64 s]
  have O := ((On.refl w).alloc (.cells zero6 40)).alloc (.cells #[.int .i64 y, .int .i64 mo, .int .i64 d, .int .i64 h, .int .i64 mi, .int .i64 s] 40)
  rw [show (w.alloc (.cells zero6 40)).heap.size = w.heap.size + 1 from by simp] at D
  refine (HH.out _).mono ?_
  rintro e w3 ⟨rfl, O3⟩
  replace B := B.call O3.out
  replace D := D.call O3.out
  replace O := O.call O3
  have c0 : w3.cell? ⟨w.heap.size, 0, none⟩ = some (.int .i64 0) := (B.cell 0).trans rfl
  have c1 : w3.cell? ⟨w.heap.size, 1, none⟩ = some (.int .i64 0) := (B.cell 1).trans rfl
  have c2 : w3.cell? ⟨w.heap.size, 2, none⟩ = some (.int .i64 0) := (B.cell 2).trans rfl
  have c3 : w3.cell? ⟨w.heap.size, 3, none⟩ = some (.int .i64 0) := (B.cell 3).trans rfl
  have c4 : w3.cell? ⟨w.heap.size, 4, none⟩ = some (.int .i64 0) := (B.cell 4).trans rfl
  have c5 : w3.cell? ⟨w.heap.size, 5, none⟩ = some (.int .i64 0) := (B.cell 5).trans rfl
  have fr : ∀ i, w3.frozen? ⟨w.heap.size, i, none⟩ = false := B.frozen
  have d0 : w3.cell? ⟨w.heap.size + 1, 0, none⟩ = some (.int .i64 y) := (D.cell 0).trans rfl
  have d1 : w3.cell? ⟨w.heap.size + 1, 1, none⟩ = some (.int .i64 mo) := (D.cell 1).trans rfl
  have d2 : w3.cell? ⟨w.heap.size + 1, 2, none⟩ = some (.int .i64 d) := (D.cell 2).trans rfl
  have d3 : w3.cell? ⟨w.heap.size + 1, 3, none⟩ = some (.int .i64 h) := (D.cell 3).trans rfl
  have d4 : w3.cell? ⟨w.heap.size + 1, 4, none⟩ = some (.int .i64 mi) := (D.cell 4).trans rfl
  have d5 : w3.cell? ⟨w.heap.size + 1, 5, none⟩ = some (.int .i64 s) := (D.cell 5).trans rfl
  go_wp2_with fail
  have B' := set6 B (.int .i64 y) (.int .i64 mo) (.int .i64 d) (.int .i64 h) (.int .i64 mi) (.int .i64 s)
  refine bodyPost_ret (v := .tuple #[.agg #[.int .i64 y, .int .i64 mo, .int .i64 d, .int .i64 h, .int .i64 mi, .int .i64 s], .bool true]) (by exact res_ct (fn := Tryz.f61) (p := 2) (u := 3) rfl B' rfl Tryz.underlying40 rfl (by kernel_rfl)) rfl ⟨rfl, ?_⟩
  repeat (first | with_reducible exact O | refine On.set ?_ (Nat.le_refl _) _)
end Go.Proofs.YtnadjlejlohgiaaGreatDoor.Lc

