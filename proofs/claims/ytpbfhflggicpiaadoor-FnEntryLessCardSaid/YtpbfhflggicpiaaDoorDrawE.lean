/- The draws of files: some name, some six numbers, some text, not long ones. -/
import Derived.Test.YtpbfhflggicpiaaDoorDrawT
import Derived.Test.YtpbfhflggicpiaaDoorDrawN
import Derived.Deep.DeepCutAuto
import Derived.Lib.Hide
namespace Go.Proofs.YtpbfhflggicpiaaDoor.Draw
open Go.RowKit Go.Proofs.YtpbfhflggicpiaaDoor.Mem Go.Proofs.YtpbfhflggicpiaaDoor.Wi
set_option linter.unusedVariables false
set_option linter.unusedSimpArgs false
/-- Six numbers, eight cells. -/
def stv (y m d h mi s : Int) : Array Value := #[.int .i64 y, .int .i64 m, .int .i64 d, .int .i64 h, .int .i64 mi, .int .i64 s]
def env (nm : ByteArray) (y m d h mi s : Int) (tx : ByteArray) : Array Value := #[.string nm, .int .i64 y, .int .i64 m, .int .i64 d, .int .i64 h, .int .i64 mi, .int .i64 s, .string tx]
theorem ints_of {xs : List Value} {v : Value} (h : v ∈ xs) (hx : ∀ v ∈ xs, ∃ n : Int, v = .int .i64 n) : ∃ n : Int, v = .int .i64 n := hx v h
theorem But.setB {g : Nat} {w w' : World} (h : But g w w') {p : Addr} (hp : w.heap.size ≤ p.block) (u : Value) : But g w (w'.setCell p u) := But.ofKp (h.kp.set (.inr hp) u)
theorem Rd.set {w : World} {g B : Nat} (h : Rd w g B) {p : Addr} (hp : g < p.block) (u : Value) : Rd (w.setCell p u) g B := h.kp ((Kp.refl [p.block] w).set (.inl (by simp)) u) (fun y hy => by simp at hy; omega)
set_option maxRecDepth 100000 in
set_option maxHeartbeats 1000000 in
theorem stamp_calls (g B : Nat) (w : World) (hr : Rd w g B) (hB : B ≤ 100000000) :
    Calls Tryd.prog 52 #[.pointer (some ⟨g, 0, none⟩)] w fun e w' => ∃ y m d h mi s : Int, e = .returned (.agg (stv y m d h mi s)) ∧ Rd w' g (B + 6) ∧ But g w w' := by
  go_enter Tryd.func52, Tryd.ntmps52
  go_upto_region 1 with fail
  have B0 := Blk.new w 32 #[.int .i64 0, .int .i64 0, .int .i64 0, .int .i64 0, .int .i64 0, .int .i64 0]
  have O0 := (On.refl w).alloc (.cells #[.int .i64 0, .int .i64 0, .int .i64 0, .int .i64 0, .int .i64 0, .int .i64 0] 32)
  have hr0 := hr.on O0
  have T0 := But.of (g := g) O0
  generalize hR : w.heap.size = R at *
  have hgR : g ≠ R := by have := hr.lt; omega
  have hRw : w.heap.size ≤ R := by omega
  generalize w.alloc (.cells #[.int .i64 0, .int .i64 0, .int .i64 0, .int .i64 0, .int .i64 0, .int .i64 0] 32) = w0 at *
  go_wp2_with fail
  refine (one_calls g B w0.heap.size 4 4 _ _ (hr0.on ((On.refl w0).alloc _)) (by omega) (Row.of (Blk.new w0 _ _)) rfl (by omega) (by omega) (by omega) (Nat.ne_of_gt hr0.lt)).mono ?_
  rintro e w1 ⟨v, hv, rfl, hr1, T1⟩
  have B1 := T1.blk (B0.alloc _) (Ne.symm hgR)
  replace T1 := T0.trans ((But.of (g := g) ((On.refl w0).alloc _)).trans T1)
  obtain ⟨y, hy, rfl⟩ : ∃ y : Int, (y = 1980 ∨ y = 2000 ∨ y = 2024 ∨ y = 2107) ∧ v = .int .i64 y := by
    simp at hv
    rcases hv with rfl | rfl | rfl | rfl <;> exact ⟨_, by simp, rfl⟩
  clear hv hy
  go_wp2_with fail
  refine (pick_calls g (B + 1) 12 w1 hr1 (by omega) (by omega) (by omega)).mono ?_
  rintro e w2 ⟨m, hm, rfl, hr2, T2⟩
  have B2 := T2.blk B1 (Ne.symm hgR)
  replace T2 := T1.trans T2
  have em : IntKind.i64.wrap (1 + (m : Int)) = 1 + (m : Int) := by rw [IntKind.wrap_i64]; omega
  go_wp2_with fail
  refine (pick_calls g (B + 2) 28 w2 hr2 (by omega) (by omega) (by omega)).mono ?_
  rintro e w3 ⟨d, hd, rfl, hr3, T3⟩
  have B3 := T3.blk B2 (Ne.symm hgR)
  replace T3 := T2.trans T3
  have ed : IntKind.i64.wrap (1 + (d : Int)) = 1 + (d : Int) := by rw [IntKind.wrap_i64]; omega
  go_wp2_with fail
  refine (pick_calls g (B + 3) 24 w3 hr3 (by omega) (by omega) (by omega)).mono ?_
  rintro e w4 ⟨h, hh, rfl, hr4, T4⟩
  have B4 := T4.blk B3 (Ne.symm hgR)
  replace T4 := T3.trans T4
  go_wp2_with fail
  refine (pick_calls g (B + 4) 60 w4 hr4 (by omega) (by omega) (by omega)).mono ?_
  rintro e w5 ⟨mi, hmi, rfl, hr5, T5⟩
  have B5 := T5.blk B4 (Ne.symm hgR)
  replace T5 := T4.trans T5
  go_wp2_with fail
  refine (pick_calls g (B + 5) 30 w5 hr5 (by omega) (by omega) (by omega)).mono ?_
  rintro e w6 ⟨s, hs, rfl, hr6, T6⟩
  have B6 := T6.blk B5 (Ne.symm hgR)
  replace T6 := T5.trans T6
  have es : IntKind.i64.wrap (2 * (s : Int)) = 2 * (s : Int) := by rw [IntKind.wrap_i64]; omega
  have r0 : w6.cell? ⟨R, 0, none⟩ = some (.int .i64 0) := (B6.cell 0).trans rfl
  have r1 : w6.cell? ⟨R, 1, none⟩ = some (.int .i64 0) := (B6.cell 1).trans rfl
  have r2 : w6.cell? ⟨R, 2, none⟩ = some (.int .i64 0) := (B6.cell 2).trans rfl
  have r3 : w6.cell? ⟨R, 3, none⟩ = some (.int .i64 0) := (B6.cell 3).trans rfl
  have r4 : w6.cell? ⟨R, 4, none⟩ = some (.int .i64 0) := (B6.cell 4).trans rfl
  have r5 : w6.cell? ⟨R, 5, none⟩ = some (.int .i64 0) := (B6.cell 5).trans rfl
  have fr : ∀ i, w6.frozen? ⟨R, i, none⟩ = false := B6.frozen
  go_wp2_with fail
  have BF := ((((((B6.set 0 (.int .i64 y)).set 1 (.int .i64 (1 + (m : Int)))).set 2 (.int .i64 (1 + (d : Int)))).set 3 (.int .i64 (h : Int))).set 4 (.int .i64 (mi : Int))).set 5 (.int .i64 (2 * (s : Int))))
  have TF := ((((((T6.setB (p := ⟨R, 0, none⟩) hRw (.int .i64 y)).setB (p := ⟨R, 1, none⟩) hRw (.int .i64 (1 + (m : Int)))).setB (p := ⟨R, 2, none⟩) hRw (.int .i64 (1 + (d : Int)))).setB (p := ⟨R, 3, none⟩) hRw (.int .i64 (h : Int))).setB (p := ⟨R, 4, none⟩) hRw (.int .i64 (mi : Int))).setB (p := ⟨R, 5, none⟩) hRw (.int .i64 (2 * (s : Int))))
  have HF := ((((((hr6.set (p := ⟨R, 0, none⟩) (show g < R by have := hr.lt; omega) (.int .i64 y)).set (p := ⟨R, 1, none⟩) (show g < R by have := hr.lt; omega) (.int .i64 (1 + (m : Int)))).set (p := ⟨R, 2, none⟩) (show g < R by have := hr.lt; omega) (.int .i64 (1 + (d : Int)))).set (p := ⟨R, 3, none⟩) (show g < R by have := hr.lt; omega) (.int .i64 (h : Int))).set (p := ⟨R, 4, none⟩) (show g < R by have := hr.lt; omega) (.int .i64 (mi : Int))).set (p := ⟨R, 5, none⟩) (show g < R by have := hr.lt; omega) (.int .i64 (2 * (s : Int))))
  simp only [List.setIfInBounds_toArray, List.set_cons_zero, List.set_cons_succ] at BF
  exact bodyPost_ret (v := .agg (stv y (1 + (m : Int)) (1 + (d : Int)) (h : Int) (mi : Int) (2 * (s : Int)))) (by exact res_c (fn := Tryd.f52) (p := 2) rfl BF rfl Tryd.underlying32 rfl (by kernel_rfl)) rfl ⟨y, (1 + (m : Int)), (1 + (d : Int)), (h : Int), (mi : Int), (2 * (s : Int)), rfl, HF.le (by omega), TF⟩
set_option maxRecDepth 100000 in
set_option maxHeartbeats 2000000 in
theorem anystamp_calls (g B : Nat) (w : World) (hr : Rd w g B) (hB : B ≤ 10000000) :
    Calls Tryd.prog 45 #[.pointer (some ⟨g, 0, none⟩)] w fun e w' => ∃ y m d h mi s : Int, e = .returned (.agg (stv y m d h mi s)) ∧ Rd w' g (B + 10) ∧ But g w w' := by
  go_enter Tryd.func45, Tryd.ntmps45
  go_upto_region 1 with fail
  have B0 := Blk.new w 32 #[.int .i64 0, .int .i64 0, .int .i64 0, .int .i64 0, .int .i64 0, .int .i64 0]
  have O0 := (On.refl w).alloc (.cells #[.int .i64 0, .int .i64 0, .int .i64 0, .int .i64 0, .int .i64 0, .int .i64 0] 32)
  have hr0 := hr.on O0
  have T0 := But.of (g := g) O0
  generalize hR : w.heap.size = R at *
  have hgR : g ≠ R := by have := hr.lt; omega
  have hRw : w.heap.size ≤ R := by omega
  generalize w.alloc (.cells #[.int .i64 0, .int .i64 0, .int .i64 0, .int .i64 0, .int .i64 0, .int .i64 0] 32) = w0 at *
  have hgRl : g < R := by have := hr.lt; omega
  go_wp2_with fail
  refine (stamp_calls g B w0 hr0 (by omega)).mono ?_
  rintro e w1 ⟨y, m, d, h, mi, s, rfl, hr1, T1⟩
  unfold stv
  have B1 := T1.blk B0 (Ne.symm hgR)
  replace T1 := T0.trans T1
  have O1 := (On.refl w1).alloc (.cells #[.int .i64 y, .int .i64 m, .int .i64 d, .int .i64 h, .int .i64 mi, .int .i64 s] 32)
  have L1 := Blk.new w1 32 #[.int .i64 y, .int .i64 m, .int .i64 d, .int .i64 h, .int .i64 mi, .int .i64 s]
  have hz1 := T1.size
  have hB1l := B1.lt
  go_wp2_with fail
  generalize hL : w1.heap.size = L at *
  have hgL : g < L := by have := hr1.lt; omega
  have hLR : R ≠ L := by omega
  have hLw : w.heap.size ≤ L := by omega
  have hr2 := hr1.on O1
  have B2 := B1.alloc (.cells #[.int .i64 y, .int .i64 m, .int .i64 d, .int .i64 h, .int .i64 mi, .int .i64 s] 32)
  have T2 := T1.trans (But.of (g := g) O1)
  generalize w1.alloc (.cells #[.int .i64 y, .int .i64 m, .int .i64 d, .int .i64 h, .int .i64 mi, .int .i64 s] 32) = w2 at *
  refine (pick_calls g (B + 6) 10 w2 hr2 (by omega) (by omega) (by omega)).mono ?_
  rintro e w3 ⟨k, hk, rfl, hr3, T3⟩
  have B3 := T3.blk B2 (Ne.symm hgR)
  have L3 := T3.blk L1 (by omega)
  replace T3 := T2.trans T3
  by_cases h0 : k = 0
  · subst h0
    go_wp2_with fail
    refine (one_calls g (B + 7) w3.heap.size 5 5 _ _ (hr3.on ((On.refl w3).alloc _)) (by omega) (Row.of (Blk.new w3 _ _)) rfl (by omega) (by omega) (by omega) (Nat.ne_of_gt hr3.lt)).mono ?_
    rintro e w4 ⟨v, hv, rfl, hr4, T4⟩
    have B4 := T4.blk (B3.alloc _) (Ne.symm hgR)
    have L4 := T4.blk (L3.alloc _) (by omega)
    replace T4 := T3.trans ((But.of (g := g) ((On.refl w3).alloc _)).trans T4)
    obtain ⟨z, rfl⟩ : ∃ z : Int, v = .int .i64 z := by
      simp at hv
      rcases hv with rfl | rfl | rfl | rfl | rfl <;> exact ⟨_, rfl⟩
    clear hv
    have c0 : w4.cell? ⟨L, 2, none⟩ = some (.int .i64 d) := (L4.cell 2).trans rfl
    have fl : w4.frozen? ⟨L, 2, none⟩ = false := L4.frozen _
    go_upto_region 11 with fail
    replace B4 := B4.far (p := ⟨L, 2, none⟩) hLR (.int .i64 z)
    replace L4 := L4.set 2 (.int .i64 z)
    simp only [List.setIfInBounds_toArray, List.set_cons_zero, List.set_cons_succ] at L4
    replace T4 := T4.setB (p := ⟨L, 2, none⟩) hLw (.int .i64 z)
    replace hr4 := hr4.set (p := ⟨L, 2, none⟩) hgL (.int .i64 z)
    generalize w4.setCell ⟨L, 2, none⟩ (.int .i64 z) = w5 at *
    clear c0 fl
    have l0 : w5.cell? ⟨L, 0, none⟩ = some (.int .i64 y) := (L4.cell 0).trans rfl
    have l1 : w5.cell? ⟨L, 1, none⟩ = some (.int .i64 m) := (L4.cell 1).trans rfl
    have l2 : w5.cell? ⟨L, 2, none⟩ = some (.int .i64 z) := (L4.cell 2).trans rfl
    have l3 : w5.cell? ⟨L, 3, none⟩ = some (.int .i64 h) := (L4.cell 3).trans rfl
    have l4 : w5.cell? ⟨L, 4, none⟩ = some (.int .i64 mi) := (L4.cell 4).trans rfl
    have l5 : w5.cell? ⟨L, 5, none⟩ = some (.int .i64 s) := (L4.cell 5).trans rfl
    have r0 : w5.cell? ⟨R, 0, none⟩ = some (.int .i64 0) := (B4.cell 0).trans rfl
    have r1 : w5.cell? ⟨R, 1, none⟩ = some (.int .i64 0) := (B4.cell 1).trans rfl
    have r2 : w5.cell? ⟨R, 2, none⟩ = some (.int .i64 0) := (B4.cell 2).trans rfl
    have r3 : w5.cell? ⟨R, 3, none⟩ = some (.int .i64 0) := (B4.cell 3).trans rfl
    have r4 : w5.cell? ⟨R, 4, none⟩ = some (.int .i64 0) := (B4.cell 4).trans rfl
    have r5 : w5.cell? ⟨R, 5, none⟩ = some (.int .i64 0) := (B4.cell 5).trans rfl
    have fr : ∀ i, w5.frozen? ⟨R, i, none⟩ = false := B4.frozen
    go_wp2_with fail
    have BF := ((((((B4.set 0 (.int .i64 y)).set 1 (.int .i64 m)).set 2 (.int .i64 z)).set 3 (.int .i64 h)).set 4 (.int .i64 mi)).set 5 (.int .i64 s))
    have TF := ((((((T4.setB (p := ⟨R, 0, none⟩) hRw (.int .i64 y)).setB (p := ⟨R, 1, none⟩) hRw (.int .i64 m)).setB (p := ⟨R, 2, none⟩) hRw (.int .i64 z)).setB (p := ⟨R, 3, none⟩) hRw (.int .i64 h)).setB (p := ⟨R, 4, none⟩) hRw (.int .i64 mi)).setB (p := ⟨R, 5, none⟩) hRw (.int .i64 s))
    have HF := ((((((hr4.set (p := ⟨R, 0, none⟩) hgRl (.int .i64 y)).set (p := ⟨R, 1, none⟩) hgRl (.int .i64 m)).set (p := ⟨R, 2, none⟩) hgRl (.int .i64 z)).set (p := ⟨R, 3, none⟩) hgRl (.int .i64 h)).set (p := ⟨R, 4, none⟩) hgRl (.int .i64 mi)).set (p := ⟨R, 5, none⟩) hgRl (.int .i64 s))
    simp only [List.setIfInBounds_toArray, List.set_cons_zero, List.set_cons_succ] at BF
    exact bodyPost_ret (v := .agg #[.int .i64 y, .int .i64 m, .int .i64 z, .int .i64 h, .int .i64 mi, .int .i64 s]) (by exact res_c (fn := Tryd.f45) (p := 2) rfl BF rfl Tryd.underlying32 rfl (by kernel_rfl)) rfl ⟨y, m, z, h, mi, s, rfl, HF.le (by omega), TF⟩
  by_cases h1 : k = 1
  · subst h1
    go_wp2_with fail
    refine (one_calls g (B + 7) w3.heap.size 4 4 _ _ (hr3.on ((On.refl w3).alloc _)) (by omega) (Row.of (Blk.new w3 _ _)) rfl (by omega) (by omega) (by omega) (Nat.ne_of_gt hr3.lt)).mono ?_
    rintro e w4 ⟨v, hv, rfl, hr4, T4⟩
    have B4 := T4.blk (B3.alloc _) (Ne.symm hgR)
    have L4 := T4.blk (L3.alloc _) (by omega)
    replace T4 := T3.trans ((But.of (g := g) ((On.refl w3).alloc _)).trans T4)
    obtain ⟨z, rfl⟩ : ∃ z : Int, v = .int .i64 z := by
      simp at hv
      rcases hv with rfl | rfl | rfl | rfl <;> exact ⟨_, rfl⟩
    clear hv
    have c0 : w4.cell? ⟨L, 0, none⟩ = some (.int .i64 y) := (L4.cell 0).trans rfl
    have fl : w4.frozen? ⟨L, 0, none⟩ = false := L4.frozen _
    go_upto_region 11 with fail
    replace B4 := B4.far (p := ⟨L, 0, none⟩) hLR (.int .i64 z)
    replace L4 := L4.set 0 (.int .i64 z)
    simp only [List.setIfInBounds_toArray, List.set_cons_zero, List.set_cons_succ] at L4
    replace T4 := T4.setB (p := ⟨L, 0, none⟩) hLw (.int .i64 z)
    replace hr4 := hr4.set (p := ⟨L, 0, none⟩) hgL (.int .i64 z)
    generalize w4.setCell ⟨L, 0, none⟩ (.int .i64 z) = w5 at *
    clear c0 fl
    have l0 : w5.cell? ⟨L, 0, none⟩ = some (.int .i64 z) := (L4.cell 0).trans rfl
    have l1 : w5.cell? ⟨L, 1, none⟩ = some (.int .i64 m) := (L4.cell 1).trans rfl
    have l2 : w5.cell? ⟨L, 2, none⟩ = some (.int .i64 d) := (L4.cell 2).trans rfl
    have l3 : w5.cell? ⟨L, 3, none⟩ = some (.int .i64 h) := (L4.cell 3).trans rfl
    have l4 : w5.cell? ⟨L, 4, none⟩ = some (.int .i64 mi) := (L4.cell 4).trans rfl
    have l5 : w5.cell? ⟨L, 5, none⟩ = some (.int .i64 s) := (L4.cell 5).trans rfl
    have r0 : w5.cell? ⟨R, 0, none⟩ = some (.int .i64 0) := (B4.cell 0).trans rfl
    have r1 : w5.cell? ⟨R, 1, none⟩ = some (.int .i64 0) := (B4.cell 1).trans rfl
    have r2 : w5.cell? ⟨R, 2, none⟩ = some (.int .i64 0) := (B4.cell 2).trans rfl
    have r3 : w5.cell? ⟨R, 3, none⟩ = some (.int .i64 0) := (B4.cell 3).trans rfl
    have r4 : w5.cell? ⟨R, 4, none⟩ = some (.int .i64 0) := (B4.cell 4).trans rfl
    have r5 : w5.cell? ⟨R, 5, none⟩ = some (.int .i64 0) := (B4.cell 5).trans rfl
    have fr : ∀ i, w5.frozen? ⟨R, i, none⟩ = false := B4.frozen
    go_wp2_with fail
    have BF := ((((((B4.set 0 (.int .i64 z)).set 1 (.int .i64 m)).set 2 (.int .i64 d)).set 3 (.int .i64 h)).set 4 (.int .i64 mi)).set 5 (.int .i64 s))
    have TF := ((((((T4.setB (p := ⟨R, 0, none⟩) hRw (.int .i64 z)).setB (p := ⟨R, 1, none⟩) hRw (.int .i64 m)).setB (p := ⟨R, 2, none⟩) hRw (.int .i64 d)).setB (p := ⟨R, 3, none⟩) hRw (.int .i64 h)).setB (p := ⟨R, 4, none⟩) hRw (.int .i64 mi)).setB (p := ⟨R, 5, none⟩) hRw (.int .i64 s))
    have HF := ((((((hr4.set (p := ⟨R, 0, none⟩) hgRl (.int .i64 z)).set (p := ⟨R, 1, none⟩) hgRl (.int .i64 m)).set (p := ⟨R, 2, none⟩) hgRl (.int .i64 d)).set (p := ⟨R, 3, none⟩) hgRl (.int .i64 h)).set (p := ⟨R, 4, none⟩) hgRl (.int .i64 mi)).set (p := ⟨R, 5, none⟩) hgRl (.int .i64 s))
    simp only [List.setIfInBounds_toArray, List.set_cons_zero, List.set_cons_succ] at BF
    exact bodyPost_ret (v := .agg #[.int .i64 z, .int .i64 m, .int .i64 d, .int .i64 h, .int .i64 mi, .int .i64 s]) (by exact res_c (fn := Tryd.f45) (p := 2) rfl BF rfl Tryd.underlying32 rfl (by kernel_rfl)) rfl ⟨z, m, d, h, mi, s, rfl, HF.le (by omega), TF⟩
  by_cases h2 : k = 2
  · subst h2
    go_wp2_with fail
    refine (one_calls g (B + 7) w3.heap.size 4 4 _ _ (hr3.on ((On.refl w3).alloc _)) (by omega) (Row.of (Blk.new w3 _ _)) rfl (by omega) (by omega) (by omega) (Nat.ne_of_gt hr3.lt)).mono ?_
    rintro e w4 ⟨v, hv, rfl, hr4, T4⟩
    have B4 := T4.blk (B3.alloc _) (Ne.symm hgR)
    have L4 := T4.blk (L3.alloc _) (by omega)
    replace T4 := T3.trans ((But.of (g := g) ((On.refl w3).alloc _)).trans T4)
    obtain ⟨z, rfl⟩ : ∃ z : Int, v = .int .i64 z := by
      simp at hv
      rcases hv with rfl | rfl | rfl | rfl <;> exact ⟨_, rfl⟩
    clear hv
    have c0 : w4.cell? ⟨L, 5, none⟩ = some (.int .i64 s) := (L4.cell 5).trans rfl
    have fl : w4.frozen? ⟨L, 5, none⟩ = false := L4.frozen _
    go_upto_region 11 with fail
    replace B4 := B4.far (p := ⟨L, 5, none⟩) hLR (.int .i64 z)
    replace L4 := L4.set 5 (.int .i64 z)
    simp only [List.setIfInBounds_toArray, List.set_cons_zero, List.set_cons_succ] at L4
    replace T4 := T4.setB (p := ⟨L, 5, none⟩) hLw (.int .i64 z)
    replace hr4 := hr4.set (p := ⟨L, 5, none⟩) hgL (.int .i64 z)
    generalize w4.setCell ⟨L, 5, none⟩ (.int .i64 z) = w5 at *
    clear c0 fl
    have l0 : w5.cell? ⟨L, 0, none⟩ = some (.int .i64 y) := (L4.cell 0).trans rfl
    have l1 : w5.cell? ⟨L, 1, none⟩ = some (.int .i64 m) := (L4.cell 1).trans rfl
    have l2 : w5.cell? ⟨L, 2, none⟩ = some (.int .i64 d) := (L4.cell 2).trans rfl
    have l3 : w5.cell? ⟨L, 3, none⟩ = some (.int .i64 h) := (L4.cell 3).trans rfl
    have l4 : w5.cell? ⟨L, 4, none⟩ = some (.int .i64 mi) := (L4.cell 4).trans rfl
    have l5 : w5.cell? ⟨L, 5, none⟩ = some (.int .i64 z) := (L4.cell 5).trans rfl
    have r0 : w5.cell? ⟨R, 0, none⟩ = some (.int .i64 0) := (B4.cell 0).trans rfl
    have r1 : w5.cell? ⟨R, 1, none⟩ = some (.int .i64 0) := (B4.cell 1).trans rfl
    have r2 : w5.cell? ⟨R, 2, none⟩ = some (.int .i64 0) := (B4.cell 2).trans rfl
    have r3 : w5.cell? ⟨R, 3, none⟩ = some (.int .i64 0) := (B4.cell 3).trans rfl
    have r4 : w5.cell? ⟨R, 4, none⟩ = some (.int .i64 0) := (B4.cell 4).trans rfl
    have r5 : w5.cell? ⟨R, 5, none⟩ = some (.int .i64 0) := (B4.cell 5).trans rfl
    have fr : ∀ i, w5.frozen? ⟨R, i, none⟩ = false := B4.frozen
    go_wp2_with fail
    have BF := ((((((B4.set 0 (.int .i64 y)).set 1 (.int .i64 m)).set 2 (.int .i64 d)).set 3 (.int .i64 h)).set 4 (.int .i64 mi)).set 5 (.int .i64 z))
    have TF := ((((((T4.setB (p := ⟨R, 0, none⟩) hRw (.int .i64 y)).setB (p := ⟨R, 1, none⟩) hRw (.int .i64 m)).setB (p := ⟨R, 2, none⟩) hRw (.int .i64 d)).setB (p := ⟨R, 3, none⟩) hRw (.int .i64 h)).setB (p := ⟨R, 4, none⟩) hRw (.int .i64 mi)).setB (p := ⟨R, 5, none⟩) hRw (.int .i64 z))
    have HF := ((((((hr4.set (p := ⟨R, 0, none⟩) hgRl (.int .i64 y)).set (p := ⟨R, 1, none⟩) hgRl (.int .i64 m)).set (p := ⟨R, 2, none⟩) hgRl (.int .i64 d)).set (p := ⟨R, 3, none⟩) hgRl (.int .i64 h)).set (p := ⟨R, 4, none⟩) hgRl (.int .i64 mi)).set (p := ⟨R, 5, none⟩) hgRl (.int .i64 z))
    simp only [List.setIfInBounds_toArray, List.set_cons_zero, List.set_cons_succ] at BF
    exact bodyPost_ret (v := .agg #[.int .i64 y, .int .i64 m, .int .i64 d, .int .i64 h, .int .i64 mi, .int .i64 z]) (by exact res_c (fn := Tryd.f45) (p := 2) rfl BF rfl Tryd.underlying32 rfl (by kernel_rfl)) rfl ⟨y, m, d, h, mi, z, rfl, HF.le (by omega), TF⟩
  by_cases h3 : k = 3
  · subst h3
    go_wp2_with fail
    refine (one_calls g (B + 7) w3.heap.size 3 3 _ _ (hr3.on ((On.refl w3).alloc _)) (by omega) (Row.of (Blk.new w3 _ _)) rfl (by omega) (by omega) (by omega) (Nat.ne_of_gt hr3.lt)).mono ?_
    rintro e w4 ⟨v, hv, rfl, hr4, T4⟩
    have B4 := T4.blk (B3.alloc _) (Ne.symm hgR)
    have L4 := T4.blk (L3.alloc _) (by omega)
    replace T4 := T3.trans ((But.of (g := g) ((On.refl w3).alloc _)).trans T4)
    obtain ⟨z, rfl⟩ : ∃ z : Int, v = .int .i64 z := by
      simp at hv
      rcases hv with rfl | rfl | rfl <;> exact ⟨_, rfl⟩
    clear hv
    have c0 : w4.cell? ⟨L, 1, none⟩ = some (.int .i64 m) := (L4.cell 1).trans rfl
    have fl : w4.frozen? ⟨L, 1, none⟩ = false := L4.frozen _
    go_upto_region 11 with fail
    replace B4 := B4.far (p := ⟨L, 1, none⟩) hLR (.int .i64 z)
    replace L4 := L4.set 1 (.int .i64 z)
    simp only [List.setIfInBounds_toArray, List.set_cons_zero, List.set_cons_succ] at L4
    replace T4 := T4.setB (p := ⟨L, 1, none⟩) hLw (.int .i64 z)
    replace hr4 := hr4.set (p := ⟨L, 1, none⟩) hgL (.int .i64 z)
    generalize w4.setCell ⟨L, 1, none⟩ (.int .i64 z) = w5 at *
    clear c0 fl
    have l0 : w5.cell? ⟨L, 0, none⟩ = some (.int .i64 y) := (L4.cell 0).trans rfl
    have l1 : w5.cell? ⟨L, 1, none⟩ = some (.int .i64 z) := (L4.cell 1).trans rfl
    have l2 : w5.cell? ⟨L, 2, none⟩ = some (.int .i64 d) := (L4.cell 2).trans rfl
    have l3 : w5.cell? ⟨L, 3, none⟩ = some (.int .i64 h) := (L4.cell 3).trans rfl
    have l4 : w5.cell? ⟨L, 4, none⟩ = some (.int .i64 mi) := (L4.cell 4).trans rfl
    have l5 : w5.cell? ⟨L, 5, none⟩ = some (.int .i64 s) := (L4.cell 5).trans rfl
    have r0 : w5.cell? ⟨R, 0, none⟩ = some (.int .i64 0) := (B4.cell 0).trans rfl
    have r1 : w5.cell? ⟨R, 1, none⟩ = some (.int .i64 0) := (B4.cell 1).trans rfl
    have r2 : w5.cell? ⟨R, 2, none⟩ = some (.int .i64 0) := (B4.cell 2).trans rfl
    have r3 : w5.cell? ⟨R, 3, none⟩ = some (.int .i64 0) := (B4.cell 3).trans rfl
    have r4 : w5.cell? ⟨R, 4, none⟩ = some (.int .i64 0) := (B4.cell 4).trans rfl
    have r5 : w5.cell? ⟨R, 5, none⟩ = some (.int .i64 0) := (B4.cell 5).trans rfl
    have fr : ∀ i, w5.frozen? ⟨R, i, none⟩ = false := B4.frozen
    go_wp2_with fail
    have BF := ((((((B4.set 0 (.int .i64 y)).set 1 (.int .i64 z)).set 2 (.int .i64 d)).set 3 (.int .i64 h)).set 4 (.int .i64 mi)).set 5 (.int .i64 s))
    have TF := ((((((T4.setB (p := ⟨R, 0, none⟩) hRw (.int .i64 y)).setB (p := ⟨R, 1, none⟩) hRw (.int .i64 z)).setB (p := ⟨R, 2, none⟩) hRw (.int .i64 d)).setB (p := ⟨R, 3, none⟩) hRw (.int .i64 h)).setB (p := ⟨R, 4, none⟩) hRw (.int .i64 mi)).setB (p := ⟨R, 5, none⟩) hRw (.int .i64 s))
    have HF := ((((((hr4.set (p := ⟨R, 0, none⟩) hgRl (.int .i64 y)).set (p := ⟨R, 1, none⟩) hgRl (.int .i64 z)).set (p := ⟨R, 2, none⟩) hgRl (.int .i64 d)).set (p := ⟨R, 3, none⟩) hgRl (.int .i64 h)).set (p := ⟨R, 4, none⟩) hgRl (.int .i64 mi)).set (p := ⟨R, 5, none⟩) hgRl (.int .i64 s))
    simp only [List.setIfInBounds_toArray, List.set_cons_zero, List.set_cons_succ] at BF
    exact bodyPost_ret (v := .agg #[.int .i64 y, .int .i64 z, .int .i64 d, .int .i64 h, .int .i64 mi, .int .i64 s]) (by exact res_c (fn := Tryd.f45) (p := 2) rfl BF rfl Tryd.underlying32 rfl (by kernel_rfl)) rfl ⟨y, z, d, h, mi, s, rfl, HF.le (by omega), TF⟩
  have k0 : ((k : Int) == 0) = false := by simp; omega
  have k1 : ((k : Int) == 1) = false := by simp; omega
  have k2 : ((k : Int) == 2) = false := by simp; omega
  have k3 : ((k : Int) == 3) = false := by simp; omega
  go_upto_region 11 with fail
  have l0 : w3.cell? ⟨L, 0, none⟩ = some (.int .i64 y) := (L3.cell 0).trans rfl
  have l1 : w3.cell? ⟨L, 1, none⟩ = some (.int .i64 m) := (L3.cell 1).trans rfl
  have l2 : w3.cell? ⟨L, 2, none⟩ = some (.int .i64 d) := (L3.cell 2).trans rfl
  have l3 : w3.cell? ⟨L, 3, none⟩ = some (.int .i64 h) := (L3.cell 3).trans rfl
  have l4 : w3.cell? ⟨L, 4, none⟩ = some (.int .i64 mi) := (L3.cell 4).trans rfl
  have l5 : w3.cell? ⟨L, 5, none⟩ = some (.int .i64 s) := (L3.cell 5).trans rfl
  have r0 : w3.cell? ⟨R, 0, none⟩ = some (.int .i64 0) := (B3.cell 0).trans rfl
  have r1 : w3.cell? ⟨R, 1, none⟩ = some (.int .i64 0) := (B3.cell 1).trans rfl
  have r2 : w3.cell? ⟨R, 2, none⟩ = some (.int .i64 0) := (B3.cell 2).trans rfl
  have r3 : w3.cell? ⟨R, 3, none⟩ = some (.int .i64 0) := (B3.cell 3).trans rfl
  have r4 : w3.cell? ⟨R, 4, none⟩ = some (.int .i64 0) := (B3.cell 4).trans rfl
  have r5 : w3.cell? ⟨R, 5, none⟩ = some (.int .i64 0) := (B3.cell 5).trans rfl
  have fr : ∀ i, w3.frozen? ⟨R, i, none⟩ = false := B3.frozen
  go_wp2_with fail
  have BF := ((((((B3.set 0 (.int .i64 y)).set 1 (.int .i64 m)).set 2 (.int .i64 d)).set 3 (.int .i64 h)).set 4 (.int .i64 mi)).set 5 (.int .i64 s))
  have TF := ((((((T3.setB (p := ⟨R, 0, none⟩) hRw (.int .i64 y)).setB (p := ⟨R, 1, none⟩) hRw (.int .i64 m)).setB (p := ⟨R, 2, none⟩) hRw (.int .i64 d)).setB (p := ⟨R, 3, none⟩) hRw (.int .i64 h)).setB (p := ⟨R, 4, none⟩) hRw (.int .i64 mi)).setB (p := ⟨R, 5, none⟩) hRw (.int .i64 s))
  have HF := ((((((hr3.set (p := ⟨R, 0, none⟩) hgRl (.int .i64 y)).set (p := ⟨R, 1, none⟩) hgRl (.int .i64 m)).set (p := ⟨R, 2, none⟩) hgRl (.int .i64 d)).set (p := ⟨R, 3, none⟩) hgRl (.int .i64 h)).set (p := ⟨R, 4, none⟩) hgRl (.int .i64 mi)).set (p := ⟨R, 5, none⟩) hgRl (.int .i64 s))
  simp only [List.setIfInBounds_toArray, List.set_cons_zero, List.set_cons_succ] at BF
  exact bodyPost_ret (v := .agg #[.int .i64 y, .int .i64 m, .int .i64 d, .int .i64 h, .int .i64 mi, .int .i64 s]) (by exact res_c (fn := Tryd.f45) (p := 2) rfl BF rfl Tryd.underlying32 rfl (by kernel_rfl)) rfl ⟨y, m, d, h, mi, s, rfl, HF.le (by omega), TF⟩
set_option maxRecDepth 100000 in
set_option maxHeartbeats 2000000 in
theorem entry_calls (g B : Nat) (w : World) (hr : Rd w g B) (hB : B ≤ 10000000) :
    Calls Tryd.prog 44 #[.pointer (some ⟨g, 0, none⟩)] w fun e w' => ∃ (nm : ByteArray) (y m d h mi s : Int) (tx : ByteArray), e = .returned (.agg (env nm y m d h mi s tx)) ∧ nm.size ≤ 20 ∧ tx.size ≤ 300 ∧ Rd w' g (B + 60) ∧ But g w w' := by
  go_enter Tryd.func44, Tryd.ntmps44
  go_upto_region 1 with fail
  have B0 := Blk.new w 34 #[.string ⟨#[]⟩, .int .i64 0, .int .i64 0, .int .i64 0, .int .i64 0, .int .i64 0, .int .i64 0, .string ⟨#[]⟩]
  have O0 := (On.refl w).alloc (.cells #[.string ⟨#[]⟩, .int .i64 0, .int .i64 0, .int .i64 0, .int .i64 0, .int .i64 0, .int .i64 0, .string ⟨#[]⟩] 34)
  have hr0 := hr.on O0
  have T0 := But.of (g := g) O0
  generalize hR : w.heap.size = R at *
  have hgR : g ≠ R := by have := hr.lt; omega
  have hRw : w.heap.size ≤ R := by omega
  generalize w.alloc (.cells #[.string ⟨#[]⟩, .int .i64 0, .int .i64 0, .int .i64 0, .int .i64 0, .int .i64 0, .int .i64 0, .string ⟨#[]⟩] 34) = w0 at *
  have hgRl : g < R := by have := hr.lt; omega
  go_wp2_with fail
  refine (name_calls g B w0 hr0 (by omega)).mono ?_
  rintro e w1 ⟨nm, hnm, rfl, hr1, T1⟩
  have B1 := T1.blk B0 (Ne.symm hgR)
  replace T1 := T0.trans T1
  go_wp2_with fail
  refine (stamp_calls g (B + 1) w1 hr1 (by omega)).mono ?_
  rintro e w2 ⟨y, m, d, h, mi, s, rfl, hr2, T2⟩
  unfold stv
  have B2 := T2.blk B1 (Ne.symm hgR)
  replace T2 := T1.trans T2
  go_wp2_with fail
  refine (text_calls g (B + 7) w2 hr2 (by omega)).mono ?_
  rintro e w3 ⟨tx, htx, rfl, hr3, T3⟩
  have B3 := T3.blk B2 (Ne.symm hgR)
  replace T3 := T2.trans T3
  have r0 : w3.cell? ⟨R, 0, none⟩ = some (.string ⟨#[]⟩) := (B3.cell 0).trans rfl
  have r1 : w3.cell? ⟨R, 1, none⟩ = some (.int .i64 0) := (B3.cell 1).trans rfl
  have r2 : w3.cell? ⟨R, 2, none⟩ = some (.int .i64 0) := (B3.cell 2).trans rfl
  have r3 : w3.cell? ⟨R, 3, none⟩ = some (.int .i64 0) := (B3.cell 3).trans rfl
  have r4 : w3.cell? ⟨R, 4, none⟩ = some (.int .i64 0) := (B3.cell 4).trans rfl
  have r5 : w3.cell? ⟨R, 5, none⟩ = some (.int .i64 0) := (B3.cell 5).trans rfl
  have r6 : w3.cell? ⟨R, 6, none⟩ = some (.int .i64 0) := (B3.cell 6).trans rfl
  have r7 : w3.cell? ⟨R, 7, none⟩ = some (.string ⟨#[]⟩) := (B3.cell 7).trans rfl
  have fr : ∀ i, w3.frozen? ⟨R, i, none⟩ = false := B3.frozen
  go_wp2_with fail
  have BF := ((((((((B3.set 0 (.string nm)).set 1 (.int .i64 y)).set 2 (.int .i64 m)).set 3 (.int .i64 d)).set 4 (.int .i64 h)).set 5 (.int .i64 mi)).set 6 (.int .i64 s)).set 7 (.string tx))
  have TF := ((((((((T3.setB (p := ⟨R, 0, none⟩) hRw (.string nm)).setB (p := ⟨R, 1, none⟩) hRw (.int .i64 y)).setB (p := ⟨R, 2, none⟩) hRw (.int .i64 m)).setB (p := ⟨R, 3, none⟩) hRw (.int .i64 d)).setB (p := ⟨R, 4, none⟩) hRw (.int .i64 h)).setB (p := ⟨R, 5, none⟩) hRw (.int .i64 mi)).setB (p := ⟨R, 6, none⟩) hRw (.int .i64 s)).setB (p := ⟨R, 7, none⟩) hRw (.string tx))
  have HF := ((((((((hr3.set (p := ⟨R, 0, none⟩) hgRl (.string nm)).set (p := ⟨R, 1, none⟩) hgRl (.int .i64 y)).set (p := ⟨R, 2, none⟩) hgRl (.int .i64 m)).set (p := ⟨R, 3, none⟩) hgRl (.int .i64 d)).set (p := ⟨R, 4, none⟩) hgRl (.int .i64 h)).set (p := ⟨R, 5, none⟩) hgRl (.int .i64 mi)).set (p := ⟨R, 6, none⟩) hgRl (.int .i64 s)).set (p := ⟨R, 7, none⟩) hgRl (.string tx))
  simp only [List.setIfInBounds_toArray, List.set_cons_zero, List.set_cons_succ] at BF
  exact bodyPost_ret (v := .agg #[.string nm, .int .i64 y, .int .i64 m, .int .i64 d, .int .i64 h, .int .i64 mi, .int .i64 s, .string tx]) (by exact res_c (fn := Tryd.f44) (p := 2) rfl BF rfl Tryd.underlying34 rfl (by kernel_rfl)) rfl ⟨nm, y, m, d, h, mi, s, tx, rfl, hnm, htx, HF.le (by omega), TF⟩
set_option maxRecDepth 100000 in
set_option maxHeartbeats 2000000 in
theorem anyentry_calls (g B : Nat) (w : World) (hr : Rd w g B) (hB : B ≤ 1000000) :
    Calls Tryd.prog 31 #[.pointer (some ⟨g, 0, none⟩)] w fun e w' => ∃ (nm : ByteArray) (y m d h mi s : Int) (tx : ByteArray), e = .returned (.agg (env nm y m d h mi s tx)) ∧ nm.size ≤ 20 ∧ tx.size ≤ 1000000 ∧ Rd w' g (B + 200) ∧ But g w w' := by
  go_enter Tryd.func31, Tryd.ntmps31
  go_upto_region 1 with fail
  have B0 := Blk.new w 34 #[.string ⟨#[]⟩, .int .i64 0, .int .i64 0, .int .i64 0, .int .i64 0, .int .i64 0, .int .i64 0, .string ⟨#[]⟩]
  have O0 := (On.refl w).alloc (.cells #[.string ⟨#[]⟩, .int .i64 0, .int .i64 0, .int .i64 0, .int .i64 0, .int .i64 0, .int .i64 0, .string ⟨#[]⟩] 34)
  have hr0 := hr.on O0
  have T0 := But.of (g := g) O0
  generalize hR : w.heap.size = R at *
  have hgR : g ≠ R := by have := hr.lt; omega
  have hRw : w.heap.size ≤ R := by omega
  generalize w.alloc (.cells #[.string ⟨#[]⟩, .int .i64 0, .int .i64 0, .int .i64 0, .int .i64 0, .int .i64 0, .int .i64 0, .string ⟨#[]⟩] 34) = w0 at *
  have hgRl : g < R := by have := hr.lt; omega
  go_wp2_with fail
  refine (entry_calls g B w0 hr0 (by omega)).mono ?_
  rintro e w1 ⟨nm, y, m, d, h, mi, s, tx, rfl, hnm, htx, hr1, T1⟩
  unfold env
  have B1 := T1.blk B0 (Ne.symm hgR)
  replace T1 := T0.trans T1
  have O1 := (On.refl w1).alloc (.cells #[.string nm, .int .i64 y, .int .i64 m, .int .i64 d, .int .i64 h, .int .i64 mi, .int .i64 s, .string tx] 34)
  have L1 := Blk.new w1 34 #[.string nm, .int .i64 y, .int .i64 m, .int .i64 d, .int .i64 h, .int .i64 mi, .int .i64 s, .string tx]
  have hz1 := T1.size
  have hB1l := B1.lt
  go_wp2_with fail
  generalize hL : w1.heap.size = L at *
  have hgL : g < L := by have := hr1.lt; omega
  have hLR : R ≠ L := by omega
  have hLw : w.heap.size ≤ L := by omega
  have hr2 := hr1.on O1
  have B2 := B1.alloc (.cells #[.string nm, .int .i64 y, .int .i64 m, .int .i64 d, .int .i64 h, .int .i64 mi, .int .i64 s, .string tx] 34)
  have T2 := T1.trans (But.of (g := g) O1)
  generalize w1.alloc (.cells #[.string nm, .int .i64 y, .int .i64 m, .int .i64 d, .int .i64 h, .int .i64 mi, .int .i64 s, .string tx] 34) = w2 at *
  refine (pick_calls g (B + 60) 10 w2 hr2 (by omega) (by omega) (by omega)).mono ?_
  rintro e w3 ⟨k, hk, rfl, hr3, T3⟩
  have B3 := T3.blk B2 (Ne.symm hgR)
  have L3 := T3.blk L1 (by omega)
  replace T3 := T2.trans T3
  by_cases h0 : k = 0
  · subst h0
    go_wp2_with fail
    refine (anyname_calls g (B + 61) w3 hr3 (by omega)).mono ?_
    rintro e w4 ⟨nz, hnz, rfl, hr4, T4⟩
    have B4 := T4.blk B3 (Ne.symm hgR)
    have L4 := T4.blk L3 (by omega)
    replace T4 := T3.trans T4
    have c0 : w4.cell? ⟨L, 0, none⟩ = some (.string nm) := (L4.cell 0).trans rfl
    have fl : ∀ i, w4.frozen? ⟨L, i, none⟩ = false := L4.frozen
    go_upto_region 9 with fail
    replace B4 := B4.far (p := ⟨L, 0, none⟩) hLR (.string nz)
    replace L4 := L4.set 0 (.string nz)
    replace T4 := T4.setB (p := ⟨L, 0, none⟩) hLw (.string nz)
    replace hr4 := hr4.set (p := ⟨L, 0, none⟩) hgL (.string nz)
    simp only [List.setIfInBounds_toArray, List.set_cons_zero, List.set_cons_succ] at L4
    generalize (w4.setCell ⟨L, 0, none⟩ (.string nz)) = w5 at *
    clear fl c0
    have l0 : w5.cell? ⟨L, 0, none⟩ = some (.string nz) := (L4.cell 0).trans rfl
    have l1 : w5.cell? ⟨L, 1, none⟩ = some (.int .i64 y) := (L4.cell 1).trans rfl
    have l2 : w5.cell? ⟨L, 2, none⟩ = some (.int .i64 m) := (L4.cell 2).trans rfl
    have l3 : w5.cell? ⟨L, 3, none⟩ = some (.int .i64 d) := (L4.cell 3).trans rfl
    have l4 : w5.cell? ⟨L, 4, none⟩ = some (.int .i64 h) := (L4.cell 4).trans rfl
    have l5 : w5.cell? ⟨L, 5, none⟩ = some (.int .i64 mi) := (L4.cell 5).trans rfl
    have l6 : w5.cell? ⟨L, 6, none⟩ = some (.int .i64 s) := (L4.cell 6).trans rfl
    have l7 : w5.cell? ⟨L, 7, none⟩ = some (.string tx) := (L4.cell 7).trans rfl
    have r0 : w5.cell? ⟨R, 0, none⟩ = some (.string ⟨#[]⟩) := (B4.cell 0).trans rfl
    have r1 : w5.cell? ⟨R, 1, none⟩ = some (.int .i64 0) := (B4.cell 1).trans rfl
    have r2 : w5.cell? ⟨R, 2, none⟩ = some (.int .i64 0) := (B4.cell 2).trans rfl
    have r3 : w5.cell? ⟨R, 3, none⟩ = some (.int .i64 0) := (B4.cell 3).trans rfl
    have r4 : w5.cell? ⟨R, 4, none⟩ = some (.int .i64 0) := (B4.cell 4).trans rfl
    have r5 : w5.cell? ⟨R, 5, none⟩ = some (.int .i64 0) := (B4.cell 5).trans rfl
    have r6 : w5.cell? ⟨R, 6, none⟩ = some (.int .i64 0) := (B4.cell 6).trans rfl
    have r7 : w5.cell? ⟨R, 7, none⟩ = some (.string ⟨#[]⟩) := (B4.cell 7).trans rfl
    have fr : ∀ i, w5.frozen? ⟨R, i, none⟩ = false := B4.frozen
    go_wp2_with fail
    have BF := ((((((((B4.set 0 (.string nz)).set 1 (.int .i64 y)).set 2 (.int .i64 m)).set 3 (.int .i64 d)).set 4 (.int .i64 h)).set 5 (.int .i64 mi)).set 6 (.int .i64 s)).set 7 (.string tx))
    have TF := ((((((((T4.setB (p := ⟨R, 0, none⟩) hRw (.string nz)).setB (p := ⟨R, 1, none⟩) hRw (.int .i64 y)).setB (p := ⟨R, 2, none⟩) hRw (.int .i64 m)).setB (p := ⟨R, 3, none⟩) hRw (.int .i64 d)).setB (p := ⟨R, 4, none⟩) hRw (.int .i64 h)).setB (p := ⟨R, 5, none⟩) hRw (.int .i64 mi)).setB (p := ⟨R, 6, none⟩) hRw (.int .i64 s)).setB (p := ⟨R, 7, none⟩) hRw (.string tx))
    have HF := ((((((((hr4.set (p := ⟨R, 0, none⟩) hgRl (.string nz)).set (p := ⟨R, 1, none⟩) hgRl (.int .i64 y)).set (p := ⟨R, 2, none⟩) hgRl (.int .i64 m)).set (p := ⟨R, 3, none⟩) hgRl (.int .i64 d)).set (p := ⟨R, 4, none⟩) hgRl (.int .i64 h)).set (p := ⟨R, 5, none⟩) hgRl (.int .i64 mi)).set (p := ⟨R, 6, none⟩) hgRl (.int .i64 s)).set (p := ⟨R, 7, none⟩) hgRl (.string tx))
    simp only [List.setIfInBounds_toArray, List.set_cons_zero, List.set_cons_succ] at BF
    exact bodyPost_ret (v := .agg #[.string nz, .int .i64 y, .int .i64 m, .int .i64 d, .int .i64 h, .int .i64 mi, .int .i64 s, .string tx]) (by exact res_c (fn := Tryd.f31) (p := 2) rfl BF rfl Tryd.underlying34 rfl (by kernel_rfl)) rfl ⟨nz, y, m, d, h, mi, s, tx, rfl, hnz, by omega, HF.le (by omega), TF⟩
  by_cases h1 : k = 1
  · subst h1
    go_wp2_with fail
    refine (anystamp_calls g (B + 61) w3 hr3 (by omega)).mono ?_
    rintro e w4 ⟨y', m', d', h', mi', s', rfl, hr4, T4⟩
    unfold stv
    have B4 := T4.blk B3 (Ne.symm hgR)
    have L4 := T4.blk L3 (by omega)
    replace T4 := T3.trans T4
    have c1 : w4.cell? ⟨L, 1, none⟩ = some (.int .i64 y) := (L4.cell 1).trans rfl
    have c2 : w4.cell? ⟨L, 2, none⟩ = some (.int .i64 m) := (L4.cell 2).trans rfl
    have c3 : w4.cell? ⟨L, 3, none⟩ = some (.int .i64 d) := (L4.cell 3).trans rfl
    have c4 : w4.cell? ⟨L, 4, none⟩ = some (.int .i64 h) := (L4.cell 4).trans rfl
    have c5 : w4.cell? ⟨L, 5, none⟩ = some (.int .i64 mi) := (L4.cell 5).trans rfl
    have c6 : w4.cell? ⟨L, 6, none⟩ = some (.int .i64 s) := (L4.cell 6).trans rfl
    have fl : ∀ i, w4.frozen? ⟨L, i, none⟩ = false := L4.frozen
    go_upto_region 9 with fail
    replace B4 := B4.far (p := ⟨L, 1, none⟩) hLR (.int .i64 y')
    replace L4 := L4.set 1 (.int .i64 y')
    replace T4 := T4.setB (p := ⟨L, 1, none⟩) hLw (.int .i64 y')
    replace hr4 := hr4.set (p := ⟨L, 1, none⟩) hgL (.int .i64 y')
    replace B4 := B4.far (p := ⟨L, 2, none⟩) hLR (.int .i64 m')
    replace L4 := L4.set 2 (.int .i64 m')
    replace T4 := T4.setB (p := ⟨L, 2, none⟩) hLw (.int .i64 m')
    replace hr4 := hr4.set (p := ⟨L, 2, none⟩) hgL (.int .i64 m')
    replace B4 := B4.far (p := ⟨L, 3, none⟩) hLR (.int .i64 d')
    replace L4 := L4.set 3 (.int .i64 d')
    replace T4 := T4.setB (p := ⟨L, 3, none⟩) hLw (.int .i64 d')
    replace hr4 := hr4.set (p := ⟨L, 3, none⟩) hgL (.int .i64 d')
    replace B4 := B4.far (p := ⟨L, 4, none⟩) hLR (.int .i64 h')
    replace L4 := L4.set 4 (.int .i64 h')
    replace T4 := T4.setB (p := ⟨L, 4, none⟩) hLw (.int .i64 h')
    replace hr4 := hr4.set (p := ⟨L, 4, none⟩) hgL (.int .i64 h')
    replace B4 := B4.far (p := ⟨L, 5, none⟩) hLR (.int .i64 mi')
    replace L4 := L4.set 5 (.int .i64 mi')
    replace T4 := T4.setB (p := ⟨L, 5, none⟩) hLw (.int .i64 mi')
    replace hr4 := hr4.set (p := ⟨L, 5, none⟩) hgL (.int .i64 mi')
    replace B4 := B4.far (p := ⟨L, 6, none⟩) hLR (.int .i64 s')
    replace L4 := L4.set 6 (.int .i64 s')
    replace T4 := T4.setB (p := ⟨L, 6, none⟩) hLw (.int .i64 s')
    replace hr4 := hr4.set (p := ⟨L, 6, none⟩) hgL (.int .i64 s')
    simp only [List.setIfInBounds_toArray, List.set_cons_zero, List.set_cons_succ] at L4
    generalize ((((((w4.setCell ⟨L, 1, none⟩ (.int .i64 y')).setCell ⟨L, 2, none⟩ (.int .i64 m')).setCell ⟨L, 3, none⟩ (.int .i64 d')).setCell ⟨L, 4, none⟩ (.int .i64 h')).setCell ⟨L, 5, none⟩ (.int .i64 mi')).setCell ⟨L, 6, none⟩ (.int .i64 s')) = w5 at *
    clear fl c1 c2 c3 c4 c5 c6
    have l0 : w5.cell? ⟨L, 0, none⟩ = some (.string nm) := (L4.cell 0).trans rfl
    have l1 : w5.cell? ⟨L, 1, none⟩ = some (.int .i64 y') := (L4.cell 1).trans rfl
    have l2 : w5.cell? ⟨L, 2, none⟩ = some (.int .i64 m') := (L4.cell 2).trans rfl
    have l3 : w5.cell? ⟨L, 3, none⟩ = some (.int .i64 d') := (L4.cell 3).trans rfl
    have l4 : w5.cell? ⟨L, 4, none⟩ = some (.int .i64 h') := (L4.cell 4).trans rfl
    have l5 : w5.cell? ⟨L, 5, none⟩ = some (.int .i64 mi') := (L4.cell 5).trans rfl
    have l6 : w5.cell? ⟨L, 6, none⟩ = some (.int .i64 s') := (L4.cell 6).trans rfl
    have l7 : w5.cell? ⟨L, 7, none⟩ = some (.string tx) := (L4.cell 7).trans rfl
    have r0 : w5.cell? ⟨R, 0, none⟩ = some (.string ⟨#[]⟩) := (B4.cell 0).trans rfl
    have r1 : w5.cell? ⟨R, 1, none⟩ = some (.int .i64 0) := (B4.cell 1).trans rfl
    have r2 : w5.cell? ⟨R, 2, none⟩ = some (.int .i64 0) := (B4.cell 2).trans rfl
    have r3 : w5.cell? ⟨R, 3, none⟩ = some (.int .i64 0) := (B4.cell 3).trans rfl
    have r4 : w5.cell? ⟨R, 4, none⟩ = some (.int .i64 0) := (B4.cell 4).trans rfl
    have r5 : w5.cell? ⟨R, 5, none⟩ = some (.int .i64 0) := (B4.cell 5).trans rfl
    have r6 : w5.cell? ⟨R, 6, none⟩ = some (.int .i64 0) := (B4.cell 6).trans rfl
    have r7 : w5.cell? ⟨R, 7, none⟩ = some (.string ⟨#[]⟩) := (B4.cell 7).trans rfl
    have fr : ∀ i, w5.frozen? ⟨R, i, none⟩ = false := B4.frozen
    go_wp2_with fail
    have BF := ((((((((B4.set 0 (.string nm)).set 1 (.int .i64 y')).set 2 (.int .i64 m')).set 3 (.int .i64 d')).set 4 (.int .i64 h')).set 5 (.int .i64 mi')).set 6 (.int .i64 s')).set 7 (.string tx))
    have TF := ((((((((T4.setB (p := ⟨R, 0, none⟩) hRw (.string nm)).setB (p := ⟨R, 1, none⟩) hRw (.int .i64 y')).setB (p := ⟨R, 2, none⟩) hRw (.int .i64 m')).setB (p := ⟨R, 3, none⟩) hRw (.int .i64 d')).setB (p := ⟨R, 4, none⟩) hRw (.int .i64 h')).setB (p := ⟨R, 5, none⟩) hRw (.int .i64 mi')).setB (p := ⟨R, 6, none⟩) hRw (.int .i64 s')).setB (p := ⟨R, 7, none⟩) hRw (.string tx))
    have HF := ((((((((hr4.set (p := ⟨R, 0, none⟩) hgRl (.string nm)).set (p := ⟨R, 1, none⟩) hgRl (.int .i64 y')).set (p := ⟨R, 2, none⟩) hgRl (.int .i64 m')).set (p := ⟨R, 3, none⟩) hgRl (.int .i64 d')).set (p := ⟨R, 4, none⟩) hgRl (.int .i64 h')).set (p := ⟨R, 5, none⟩) hgRl (.int .i64 mi')).set (p := ⟨R, 6, none⟩) hgRl (.int .i64 s')).set (p := ⟨R, 7, none⟩) hgRl (.string tx))
    simp only [List.setIfInBounds_toArray, List.set_cons_zero, List.set_cons_succ] at BF
    exact bodyPost_ret (v := .agg #[.string nm, .int .i64 y', .int .i64 m', .int .i64 d', .int .i64 h', .int .i64 mi', .int .i64 s', .string tx]) (by exact res_c (fn := Tryd.f31) (p := 2) rfl BF rfl Tryd.underlying34 rfl (by kernel_rfl)) rfl ⟨nm, y', m', d', h', mi', s', tx, rfl, hnm, by omega, HF.le (by omega), TF⟩
  by_cases h2 : k = 2
  · subst h2
    go_wp2_with fail
    refine (anytext_calls g (B + 61) w3 hr3 (by omega)).mono ?_
    rintro e w4 ⟨tz, htz, rfl, hr4, T4⟩
    have B4 := T4.blk B3 (Ne.symm hgR)
    have L4 := T4.blk L3 (by omega)
    replace T4 := T3.trans T4
    have c7 : w4.cell? ⟨L, 7, none⟩ = some (.string tx) := (L4.cell 7).trans rfl
    have fl : ∀ i, w4.frozen? ⟨L, i, none⟩ = false := L4.frozen
    go_upto_region 9 with fail
    replace B4 := B4.far (p := ⟨L, 7, none⟩) hLR (.string tz)
    replace L4 := L4.set 7 (.string tz)
    replace T4 := T4.setB (p := ⟨L, 7, none⟩) hLw (.string tz)
    replace hr4 := hr4.set (p := ⟨L, 7, none⟩) hgL (.string tz)
    simp only [List.setIfInBounds_toArray, List.set_cons_zero, List.set_cons_succ] at L4
    generalize (w4.setCell ⟨L, 7, none⟩ (.string tz)) = w5 at *
    clear fl c7
    have l0 : w5.cell? ⟨L, 0, none⟩ = some (.string nm) := (L4.cell 0).trans rfl
    have l1 : w5.cell? ⟨L, 1, none⟩ = some (.int .i64 y) := (L4.cell 1).trans rfl
    have l2 : w5.cell? ⟨L, 2, none⟩ = some (.int .i64 m) := (L4.cell 2).trans rfl
    have l3 : w5.cell? ⟨L, 3, none⟩ = some (.int .i64 d) := (L4.cell 3).trans rfl
    have l4 : w5.cell? ⟨L, 4, none⟩ = some (.int .i64 h) := (L4.cell 4).trans rfl
    have l5 : w5.cell? ⟨L, 5, none⟩ = some (.int .i64 mi) := (L4.cell 5).trans rfl
    have l6 : w5.cell? ⟨L, 6, none⟩ = some (.int .i64 s) := (L4.cell 6).trans rfl
    have l7 : w5.cell? ⟨L, 7, none⟩ = some (.string tz) := (L4.cell 7).trans rfl
    have r0 : w5.cell? ⟨R, 0, none⟩ = some (.string ⟨#[]⟩) := (B4.cell 0).trans rfl
    have r1 : w5.cell? ⟨R, 1, none⟩ = some (.int .i64 0) := (B4.cell 1).trans rfl
    have r2 : w5.cell? ⟨R, 2, none⟩ = some (.int .i64 0) := (B4.cell 2).trans rfl
    have r3 : w5.cell? ⟨R, 3, none⟩ = some (.int .i64 0) := (B4.cell 3).trans rfl
    have r4 : w5.cell? ⟨R, 4, none⟩ = some (.int .i64 0) := (B4.cell 4).trans rfl
    have r5 : w5.cell? ⟨R, 5, none⟩ = some (.int .i64 0) := (B4.cell 5).trans rfl
    have r6 : w5.cell? ⟨R, 6, none⟩ = some (.int .i64 0) := (B4.cell 6).trans rfl
    have r7 : w5.cell? ⟨R, 7, none⟩ = some (.string ⟨#[]⟩) := (B4.cell 7).trans rfl
    have fr : ∀ i, w5.frozen? ⟨R, i, none⟩ = false := B4.frozen
    go_wp2_with fail
    have BF := ((((((((B4.set 0 (.string nm)).set 1 (.int .i64 y)).set 2 (.int .i64 m)).set 3 (.int .i64 d)).set 4 (.int .i64 h)).set 5 (.int .i64 mi)).set 6 (.int .i64 s)).set 7 (.string tz))
    have TF := ((((((((T4.setB (p := ⟨R, 0, none⟩) hRw (.string nm)).setB (p := ⟨R, 1, none⟩) hRw (.int .i64 y)).setB (p := ⟨R, 2, none⟩) hRw (.int .i64 m)).setB (p := ⟨R, 3, none⟩) hRw (.int .i64 d)).setB (p := ⟨R, 4, none⟩) hRw (.int .i64 h)).setB (p := ⟨R, 5, none⟩) hRw (.int .i64 mi)).setB (p := ⟨R, 6, none⟩) hRw (.int .i64 s)).setB (p := ⟨R, 7, none⟩) hRw (.string tz))
    have HF := ((((((((hr4.set (p := ⟨R, 0, none⟩) hgRl (.string nm)).set (p := ⟨R, 1, none⟩) hgRl (.int .i64 y)).set (p := ⟨R, 2, none⟩) hgRl (.int .i64 m)).set (p := ⟨R, 3, none⟩) hgRl (.int .i64 d)).set (p := ⟨R, 4, none⟩) hgRl (.int .i64 h)).set (p := ⟨R, 5, none⟩) hgRl (.int .i64 mi)).set (p := ⟨R, 6, none⟩) hgRl (.int .i64 s)).set (p := ⟨R, 7, none⟩) hgRl (.string tz))
    simp only [List.setIfInBounds_toArray, List.set_cons_zero, List.set_cons_succ] at BF
    exact bodyPost_ret (v := .agg #[.string nm, .int .i64 y, .int .i64 m, .int .i64 d, .int .i64 h, .int .i64 mi, .int .i64 s, .string tz]) (by exact res_c (fn := Tryd.f31) (p := 2) rfl BF rfl Tryd.underlying34 rfl (by kernel_rfl)) rfl ⟨nm, y, m, d, h, mi, s, tz, rfl, hnm, htz, HF.le (by omega), TF⟩
  have k0 : ((k : Int) == 0) = false := by simp; omega
  have k1 : ((k : Int) == 1) = false := by simp; omega
  have k2 : ((k : Int) == 2) = false := by simp; omega
  go_upto_region 9 with fail
  have l0 : w3.cell? ⟨L, 0, none⟩ = some (.string nm) := (L3.cell 0).trans rfl
  have l1 : w3.cell? ⟨L, 1, none⟩ = some (.int .i64 y) := (L3.cell 1).trans rfl
  have l2 : w3.cell? ⟨L, 2, none⟩ = some (.int .i64 m) := (L3.cell 2).trans rfl
  have l3 : w3.cell? ⟨L, 3, none⟩ = some (.int .i64 d) := (L3.cell 3).trans rfl
  have l4 : w3.cell? ⟨L, 4, none⟩ = some (.int .i64 h) := (L3.cell 4).trans rfl
  have l5 : w3.cell? ⟨L, 5, none⟩ = some (.int .i64 mi) := (L3.cell 5).trans rfl
  have l6 : w3.cell? ⟨L, 6, none⟩ = some (.int .i64 s) := (L3.cell 6).trans rfl
  have l7 : w3.cell? ⟨L, 7, none⟩ = some (.string tx) := (L3.cell 7).trans rfl
  have r0 : w3.cell? ⟨R, 0, none⟩ = some (.string ⟨#[]⟩) := (B3.cell 0).trans rfl
  have r1 : w3.cell? ⟨R, 1, none⟩ = some (.int .i64 0) := (B3.cell 1).trans rfl
  have r2 : w3.cell? ⟨R, 2, none⟩ = some (.int .i64 0) := (B3.cell 2).trans rfl
  have r3 : w3.cell? ⟨R, 3, none⟩ = some (.int .i64 0) := (B3.cell 3).trans rfl
  have r4 : w3.cell? ⟨R, 4, none⟩ = some (.int .i64 0) := (B3.cell 4).trans rfl
  have r5 : w3.cell? ⟨R, 5, none⟩ = some (.int .i64 0) := (B3.cell 5).trans rfl
  have r6 : w3.cell? ⟨R, 6, none⟩ = some (.int .i64 0) := (B3.cell 6).trans rfl
  have r7 : w3.cell? ⟨R, 7, none⟩ = some (.string ⟨#[]⟩) := (B3.cell 7).trans rfl
  have fr : ∀ i, w3.frozen? ⟨R, i, none⟩ = false := B3.frozen
  go_wp2_with fail
  have BF := ((((((((B3.set 0 (.string nm)).set 1 (.int .i64 y)).set 2 (.int .i64 m)).set 3 (.int .i64 d)).set 4 (.int .i64 h)).set 5 (.int .i64 mi)).set 6 (.int .i64 s)).set 7 (.string tx))
  have TF := ((((((((T3.setB (p := ⟨R, 0, none⟩) hRw (.string nm)).setB (p := ⟨R, 1, none⟩) hRw (.int .i64 y)).setB (p := ⟨R, 2, none⟩) hRw (.int .i64 m)).setB (p := ⟨R, 3, none⟩) hRw (.int .i64 d)).setB (p := ⟨R, 4, none⟩) hRw (.int .i64 h)).setB (p := ⟨R, 5, none⟩) hRw (.int .i64 mi)).setB (p := ⟨R, 6, none⟩) hRw (.int .i64 s)).setB (p := ⟨R, 7, none⟩) hRw (.string tx))
  have HF := ((((((((hr3.set (p := ⟨R, 0, none⟩) hgRl (.string nm)).set (p := ⟨R, 1, none⟩) hgRl (.int .i64 y)).set (p := ⟨R, 2, none⟩) hgRl (.int .i64 m)).set (p := ⟨R, 3, none⟩) hgRl (.int .i64 d)).set (p := ⟨R, 4, none⟩) hgRl (.int .i64 h)).set (p := ⟨R, 5, none⟩) hgRl (.int .i64 mi)).set (p := ⟨R, 6, none⟩) hgRl (.int .i64 s)).set (p := ⟨R, 7, none⟩) hgRl (.string tx))
  simp only [List.setIfInBounds_toArray, List.set_cons_zero, List.set_cons_succ] at BF
  exact bodyPost_ret (v := .agg #[.string nm, .int .i64 y, .int .i64 m, .int .i64 d, .int .i64 h, .int .i64 mi, .int .i64 s, .string tx]) (by exact res_c (fn := Tryd.f31) (p := 2) rfl BF rfl Tryd.underlying34 rfl (by kernel_rfl)) rfl ⟨nm, y, m, d, h, mi, s, tx, rfl, hnm, by omega, HF.le (by omega), TF⟩
set_option maxRecDepth 100000 in
set_option maxHeartbeats 2000000 in
theorem drawentryok_calls (a0 : Option Addr) (len0 cap0 : Nat) (z0 : List Int) (w : World) (w0 : (a0 = none ∧ len0 = 0 ∧ cap0 = 0 ∧ z0 = []) ∨ ∃ x, a0 = some x ∧ len0 ≤ cap0 ∧ cap0 ≤ maxLen ∧ z0.length = cap0 ∧ (∀ i, i < z0.length → w.cell? (x.add i) = some (.int .u8 (z0.getD i 0))) ∧ ∀ n ∈ z0, (Lit.int .u8 n).wf = true) :
    Calls Tryd.prog 16 #[.slice a0 len0 cap0] w fun e w' => ∃ (nm : ByteArray) (y m d h mi s : Int) (tx : ByteArray), e = .returned (.agg (env nm y m d h mi s tx)) ∧ nm.size ≤ 20 ∧ tx.size ≤ 1000000 ∧ On w w' := by
  go_enter Tryd.func16, Tryd.ntmps16
  go_upto_region 1 with fail
  have B0 := Blk.new w 34 #[.string ⟨#[]⟩, .int .i64 0, .int .i64 0, .int .i64 0, .int .i64 0, .int .i64 0, .int .i64 0, .string ⟨#[]⟩]
  have O0 := (On.refl w).alloc (.cells #[.string ⟨#[]⟩, .int .i64 0, .int .i64 0, .int .i64 0, .int .i64 0, .int .i64 0, .int .i64 0, .string ⟨#[]⟩] 34)
  have w1 : (a0 = none ∧ len0 = 0 ∧ cap0 = 0 ∧ z0 = []) ∨ ∃ x, a0 = some x ∧ len0 ≤ cap0 ∧ cap0 ≤ maxLen ∧ z0.length = cap0 ∧ (∀ i, i < z0.length → (w.alloc (.cells #[.string ⟨#[]⟩, .int .i64 0, .int .i64 0, .int .i64 0, .int .i64 0, .int .i64 0, .int .i64 0, .string ⟨#[]⟩] 34)).cell? (x.add i) = some (.int .u8 (z0.getD i 0))) ∧ ∀ n ∈ z0, (Lit.int .u8 n).wf = true := by
    rcases w0 with h | ⟨x, h1, h2, h3, h4, h5, h6⟩
    · exact .inl h
    · exact .inr ⟨x, h1, h2, h3, h4, fun i hi => (O0.cell (World.block_lt_of_cell? w _ (h5 i hi))).trans (h5 i hi), h6⟩
  have HW1 := Lib.hid w1
  clear w0 w1
  generalize hR : w.heap.size = R at *
  have hRw : w.heap.size ≤ R := by omega
  generalize w.alloc (.cells #[.string ⟨#[]⟩, .int .i64 0, .int .i64 0, .int .i64 0, .int .i64 0, .int .i64 0, .int .i64 0, .string ⟨#[]⟩] 34) = w0 at *
  go_wp2_with fail
  refine (open_calls a0 len0 cap0 z0 w0 HW1.out).mono ?_
  rintro e w1 ⟨g, rfl, hr, hg, O⟩
  have hg2 : R < g := by have := B0.lt; omega
  have B1 := B0.call O.out
  go_wp2_with fail
  refine (anyentry_calls g 0 w1 hr (by omega)).mono ?_
  rintro e w2 ⟨nm, y, m, d, h, mi, s, tx, rfl, hnm, htx, hr2, T⟩
  unfold env
  have B2 := T.blk B1 (by omega)
  have OW := T.on (O0.call O) (by omega)
  have r0 : w2.cell? ⟨R, 0, none⟩ = some (.string ⟨#[]⟩) := (B2.cell 0).trans rfl
  have r1 : w2.cell? ⟨R, 1, none⟩ = some (.int .i64 0) := (B2.cell 1).trans rfl
  have r2 : w2.cell? ⟨R, 2, none⟩ = some (.int .i64 0) := (B2.cell 2).trans rfl
  have r3 : w2.cell? ⟨R, 3, none⟩ = some (.int .i64 0) := (B2.cell 3).trans rfl
  have r4 : w2.cell? ⟨R, 4, none⟩ = some (.int .i64 0) := (B2.cell 4).trans rfl
  have r5 : w2.cell? ⟨R, 5, none⟩ = some (.int .i64 0) := (B2.cell 5).trans rfl
  have r6 : w2.cell? ⟨R, 6, none⟩ = some (.int .i64 0) := (B2.cell 6).trans rfl
  have r7 : w2.cell? ⟨R, 7, none⟩ = some (.string ⟨#[]⟩) := (B2.cell 7).trans rfl
  have fr : ∀ i, w2.frozen? ⟨R, i, none⟩ = false := B2.frozen
  go_wp2_with fail
  have BF := ((((((((B2.set 0 (.string nm)).set 1 (.int .i64 y)).set 2 (.int .i64 m)).set 3 (.int .i64 d)).set 4 (.int .i64 h)).set 5 (.int .i64 mi)).set 6 (.int .i64 s)).set 7 (.string tx))
  have OF := ((((((((OW.set (p := ⟨R, 0, none⟩) hRw (.string nm)).set (p := ⟨R, 1, none⟩) hRw (.int .i64 y)).set (p := ⟨R, 2, none⟩) hRw (.int .i64 m)).set (p := ⟨R, 3, none⟩) hRw (.int .i64 d)).set (p := ⟨R, 4, none⟩) hRw (.int .i64 h)).set (p := ⟨R, 5, none⟩) hRw (.int .i64 mi)).set (p := ⟨R, 6, none⟩) hRw (.int .i64 s)).set (p := ⟨R, 7, none⟩) hRw (.string tx))
  simp only [List.setIfInBounds_toArray, List.set_cons_zero, List.set_cons_succ] at BF
  exact bodyPost_ret (v := .agg #[.string nm, .int .i64 y, .int .i64 m, .int .i64 d, .int .i64 h, .int .i64 mi, .int .i64 s, .string tx]) (by exact res_c (fn := Tryd.f16) (p := 2) rfl BF rfl Tryd.underlying34 rfl (by kernel_rfl)) rfl ⟨nm, y, m, d, h, mi, s, tx, rfl, hnm, htx, OF⟩
end Go.Proofs.YtpbfhflggicpiaaDoor.Draw
