/- Own texts joined: WCode. -/
import Derived.Deep.QuietTactic
import Derived.BigQuiet
import Derived.Deep.RegionHeld3
import Derived.Test.YtnadjlejlohgiaaGreatDoorS7
import Derived.Test.YtnadjlejlohgiaaGreatDoorS9
import Derived.Test.YtnadjlejlohgiaaGreatDoorS11
import Derived.Test.YtnadjlejlohgiaaGreatDoorS13
/- A symbol's code as it is written, in both programs. Conditions: the code fits its length; sizes. -/
namespace Go.Proofs.YtnadjlejlohgiaaGreatDoor.Wi
open Go.RowKit Go.Proofs.YtnadjlejlohgiaaGreatDoor.Mem Go.Proofs.YtnadjlejlohgiaaGreatDoor.Bt Go.Proofs.YtnadjlejlohgiaaGreatDoor.Cd
set_option linter.unusedVariables false
set_option linter.unusedSimpArgs false
/-- A number of so many bits, turned. -/
def turn (num n : Nat) : Nat := val (bitsOf num n).reverse
theorem turn_succ (num n : Nat) : turn num (n + 1) = 2 * turn num n + num / 2 ^ n % 2 := by
  unfold turn
  rw [bits_snoc, List.reverse_append]
  simp only [List.reverse_cons, List.reverse_nil, List.nil_append, List.singleton_append, val, b1_mod]
  omega
theorem turn_bits (num n : Nat) : bitsOf (turn num n) n = (bitsOf num n).reverse := by
  have := bits_val (bitsOf num n).reverse
  rw [List.length_reverse, bits_length] at this
  exact this
theorem turn_lt (num n : Nat) : turn num n < 2 ^ n := by
  have := val_lt (bitsOf num n).reverse
  rw [List.length_reverse, bits_length] at this
  exact this
theorem turn_small {num n : Nat} (h : n ≤ 16) : turn num n < 65537 := by
  have := turn_lt num n
  have := pow_le h
  omega
set_option maxRecDepth 100000 in
theorem piece_calls (num n : Nat) (hn : n ≤ 16) (hnum : num < 2 ^ n) (w : World) : Calls Tryz.prog 141 #[.agg #[.int .i64 num, .int .i64 n]] w (Tells w (.bool true)) := by
  have h2 := pow_le hn
  have h3 : IntKind.i64.wrap ((2 : Int) ^ n) = ((2 ^ n : Nat) : Int) := by
    rw [show (2 : Int) ^ n = ((2 ^ n : Nat) : Int) from by simp, IntKind.wrap_i64]; omega
  have h4 : IntKind.i64.wrap (((2 ^ n : Nat) : Int) - 1) = ((2 ^ n : Nat) : Int) - 1 := by rw [IntKind.wrap_i64]; omega
  have h5 : (n : Int) < 64 := by omega
  generalize 2 ^ n = P at *
  have y1 : (0 : Int) ≤ num := by omega
  have y2 : (num : Int) ≤ (P : Int) - 1 := by omega
  have y3 : (0 : Int) ≤ n := by omega
  have y4 : (n : Int) ≤ 16 := by omega
  go_enter Tryz.func141, Tryz.ntmps141
  go_wp2_with fail
  go_quiet ((go_at_call 103; exact Calls.quiet_of_same (within_yes _ (by omega) (by omega))))
  go_wp2_with fail
  go_ret
  exact ⟨rfl, ((On.refl w).alloc _).drewN _⟩
set_option maxRecDepth 100000 in
theorem turn_calls (num n : Nat) (hn : n ≤ 16) (hnum : num < 2 ^ n) (w : World) : Calls Tryz.prog 131 #[.int .i64 num, .int .i64 n] w (Tells w (.int .i64 (turn num n : Nat))) := by
  have hnum2 : num < 9223372036854775808 := by have := pow_le hn; omega
  have hp := fun w => piece_calls num n hn hnum w
  have HPC := Lib.hid hp
  clear hp
  go_enter Tryz.func131, Tryz.ntmps131
  go_wp2_with fail
  refine (HPC.out w).mono ?_
  rintro e w1 ⟨rfl, O1⟩
  go_wp2_with fail
  go_loop [5, 13] (fun a x => ∃ k : Nat, k ≤ n ∧ x = .int .i64 (k : Int) ∧ a = .int .i64 (turn num k : Nat)) (fun _ x => n - (intOf x).toNat)
  case atStart => exact ⟨0, by omega, rfl, rfl⟩
  case round =>
    obtain ⟨k, hk, rfl, rfl⟩ := hrel
    by_cases hlt : k < n
    · have f0 := bit_and num k hnum2
      have f1 : num / 2 ^ k % 2 < 2 := Nat.mod_lt _ (by omega)
      have f2 := turn_succ num k
      have f3 := turn_small (num := num) (show k ≤ 16 by omega)
      have f4 : (k : Int) < 64 := by omega
      generalize turn num k = T at *
      generalize num / 2 ^ k % 2 = b at *
      have F2 := Lib.hid f2
      clear f2
      go_wp2_with fail
      go_round
      case rel => exact ⟨k + 1, by omega, by go_num, by rw [F2.out]; go_num⟩
      case measure => simp [intOf]; omega
    · obtain rfl : k = n := by omega
      go_wp2_with fail
      go_ret
      exact ⟨rfl, O1⟩
set_option maxRecDepth 100000 in
theorem sturn_same (num n : Nat) (hn : n ≤ 16) (hnum : num < 9223372036854775808) (w : World) : Calls Tryz.prog 188 #[.int .i64 num, .int .i64 n] w (fun e w' => e = .returned (.int .i64 (turn num n : Nat)) ∧ w' = w) := by
  go_enter Tryz.func188, Tryz.ntmps188
  go_wp2_with fail
  go_loop [0, 5, 6] (fun y a x => ∃ (k nk T : Nat), k ≤ n ∧ x = .int .i64 (k : Int) ∧ RowKit.Hid (T = turn num k) ∧ RowKit.Hid (nk = num / 2 ^ k) ∧ nk ≤ num ∧ T < 65537 ∧ a = .int .i64 (T : Int) ∧ y = .int .i64 (nk : Int)) (fun _ _ x => n - (intOf x).toNat)
  case atStart => exact ⟨0, num, 0, by omega, rfl, Lib.hid rfl, Lib.hid (by simp), Nat.le_refl _, by omega, rfl, rfl⟩
  case round =>
    obtain ⟨k, nk, T, hk, rfl, hT, hnk, hle, hT2, rfl, rfl⟩ := hrel
    by_cases hlt : k < n
    · have f1 : nk % 2 < 2 := Nat.mod_lt _ (by omega)
      have f2 := turn_succ num k
      rw [← hT.out, ← hnk.out] at f2
      have F2 := Lib.hid f2
      have f4 : nk / 2 = num / 2 ^ (k + 1) := by rw [Nat.pow_succ, ← Nat.div_div_eq_div_mul, ← hnk.out]
      have F4 := Lib.hid f4
      have f5 := turn_small (num := num) (show k + 1 ≤ 16 by omega)
      rw [f2] at f5
      clear f2 f4
      go_wp2_with fail
      go_round
      case rel => exact ⟨k + 1, nk / 2, 2 * T + nk % 2, by omega, by go_num, Lib.hid F2.out.symm, F4, by omega, f5, by go_num, by go_num⟩
      case measure => simp [intOf]; omega
    · obtain rfl : k = n := by omega
      go_wp2_with fail
      go_ret
      exact ⟨ret_i (by rw [hT.out]), rfl⟩
theorem IW.kp {S : List Nat} {w w' : World} {g r : Nat} {bs : List Bool} (h : IW w g r bs) (k : Kp S w w') (hg : g ∉ S) (hr : r ∉ S) : IW w' g r bs := by
  obtain ⟨v, hb, hy, ho⟩ := h.out
  exact ⟨v, k.blk hb hg, hy.kp k hr, ho⟩
theorem IW.on {w w' : World} {g r : Nat} {bs : List Bool} (h : IW w g r bs) (O : On w w') : IW w' g r bs := h.kp (Kp.of [] O) (by simp) (by simp)
theorem SW.kp {S : List Nat} {w w' : World} {g r : Nat} {bs : List Bool} (h : SW w g r bs) (k : Kp S w w') (hg : g ∉ S) (hr : r ∉ S) : SW w' g r bs := by
  obtain ⟨v, hb, hy, ho⟩ := h.out
  exact ⟨v, k.blk hb hg, hy.kp k hr, ho⟩
theorem SW.on {w w' : World} {g r : Nat} {bs : List Bool} (h : SW w g r bs) (O : On w w') : SW w' g r bs := h.kp (Kp.of [] O) (by simp) (by simp)
theorem mv_on {w w' : World} (g r : Nat) (O : On w w') : Mv g r w r w' := mv_kp (Kp.of _ O)
set_option maxRecDepth 100000 in
set_option maxHeartbeats 1000000 in
theorem code_calls (g r : Nat) (bs : List Bool) (lens : List Nat) (gl ol nl cl ga na ca s : Nat) (w : World) (hw : IW w g r bs) (hb : bs.length ≤ 90000000)
    (hl : RowO w gl ol 3 (i64s lens)) (ha : RowO w ga 0 3 (i64s (codes lens))) (hnl : lens.length = nl) (hna : na = nl) (hs : s < lens.length) (h16 : lens.getD s 0 ≤ 15) (hc : code lens s < 2 ^ lens.getD s 0)
    (fl : gl ∉ [g, r]) (fa : ga ∉ [g, r]) :
    Calls Tryz.prog 115 #[.pointer (some ⟨g, 0, none⟩), .slice (some ⟨gl, ol, none⟩) nl cl, .slice (some ⟨ga, 0, none⟩) na ca, .int .i64 s] w fun e w' => ∃ r', e = .returned (.tuple #[]) ∧ IW w' g r' (bs ++ enc lens s) ∧ Mv g r w r' w' := by
  subst hna
  have c0 : w.cell? ⟨ga, s, none⟩ = some (.int .i64 (code lens s : Nat)) := by
    have := ha.cell (i64s_get (show s < (codes lens).length by rw [codes_length]; exact hs))
    rw [codes_getD _ hs, Nat.zero_add] at this
    exact this
  have c1 : w.cell? ⟨gl, ol + s, none⟩ = some (.int .i64 (lens.getD s 0 : Nat)) := hl.cell (i64s_get hs)
  have hs1 : (s : Int) < na := by omega
  have hs0 : (0 : Int) ≤ s := by omega
  have ht := fun w => turn_calls (code lens s) (lens.getD s 0) (by omega) hc w
  have hp := fun r w hw => put_calls g r bs (turn (code lens s) (lens.getD s 0)) (lens.getD s 0) w hw (by omega) (by omega) (by have := turn_small (num := code lens s) (show lens.getD s 0 ≤ 16 by omega); omega)
  have he : enc lens s = bitsOf (turn (code lens s) (lens.getD s 0)) (lens.getD s 0) := by rw [turn_bits]; rfl
  rw [← he] at hp
  have HT := Lib.hid ht
  have HP := Lib.hid hp
  clear ht hp he hl ha hnl hs h16 hc
  generalize turn (code lens s) (lens.getD s 0) = T at *
  generalize code lens s = c at *
  generalize lens.getD s 0 = l at *
  have O0 := (On.refl w).drew
  have HW := Lib.hid hw
  have FA := Lib.hid fa
  have FL := Lib.hid fl
  clear hw fa fl
  go_enter Tryz.func115, Tryz.ntmps115
  go_wp2_with fail
  go_region_held3 (fun w' => w'.cell? ⟨ga, s, none⟩ = some (.int .i64 (c : Int)) ∧ w'.cell? ⟨gl, ol + s, none⟩ = some (.int .i64 (l : Int)))
    (first | go_keep | exact ⟨x0, x1⟩ | exact ⟨y0, y1⟩)
    (first
      | (go_at_call 131; refine (HT.out _).mono ?_; rintro e w1 ⟨rfl, O1⟩; have x0 : w1.cell? ⟨ga, s, none⟩ = some (.int .i64 (c : Int)) := ((O0.call O1).cell (World.block_lt_of_cell? w _ c0)).trans c0; have x1 : w1.cell? ⟨gl, ol + s, none⟩ = some (.int .i64 (l : Int)) := ((O0.call O1).cell (World.block_lt_of_cell? w _ c1)).trans c1)
      | (go_at_call 105; refine (HP.out r _ (HW.out.on (O0.call O1))).mono ?_; rintro e w2 ⟨r2, rfl, hw2, M2⟩; have y0 : w2.cell? ⟨ga, s, none⟩ = some (.int .i64 (c : Int)) := (M2.kp.cell (World.block_lt_of_cell? w1 _ x0) FA.out).trans x0; have y1 : w2.cell? ⟨gl, ol + s, none⟩ = some (.int .i64 (l : Int)) := (M2.kp.cell (World.block_lt_of_cell? w1 _ x1) FL.out).trans x1))
  go_wp2_with fail
  go_end0
  exact ⟨r2, rfl, hw2, (mv_on g r (O0.call O1)).trans M2⟩
set_option maxRecDepth 100000 in
theorem spiece_calls (lens : List Nat) (gl ol nl cl ga na ca s : Nat) (w : World)
    (hl : RowO w gl ol 3 (i64s lens)) (ha : RowO w ga 0 3 (i64s (codes lens))) (hnl : lens.length = nl) (hna : na = nl) (hs : s < lens.length) (h16 : lens.getD s 0 ≤ 15) (hc : code lens s < 2 ^ lens.getD s 0) :
    Calls Tryz.prog 182 #[.slice (some ⟨gl, ol, none⟩) nl cl, .slice (some ⟨ga, 0, none⟩) na ca, .int .i64 s] w fun e w' => e = .returned (.agg #[.int .i64 (turn (code lens s) (lens.getD s 0) : Nat), .int .i64 (lens.getD s 0 : Nat)]) ∧ On w w' := by
  subst hna
  have c0 : w.cell? ⟨ga, s, none⟩ = some (.int .i64 (code lens s : Nat)) := by
    have := ha.cell (i64s_get (show s < (codes lens).length by rw [codes_length]; exact hs))
    rw [codes_getD _ hs, Nat.zero_add] at this
    exact this
  have c1 : w.cell? ⟨gl, ol + s, none⟩ = some (.int .i64 (lens.getD s 0 : Nat)) := hl.cell (i64s_get hs)
  have hs1 : (s : Int) < na := by omega
  have hs0 : (0 : Int) ≤ s := by omega
  have hp := pow_le (show lens.getD s 0 ≤ 16 by omega)
  have ht := fun w => sturn_same (code lens s) (lens.getD s 0) (by omega) (by omega) w
  have HT := Lib.hid ht
  have B0 := World.block_lt_of_cell? w _ c0
  have B1 := World.block_lt_of_cell? w _ c1
  clear ht hl ha hnl hs h16 hc hp
  generalize turn (code lens s) (lens.getD s 0) = T at *
  generalize code lens s = c at *
  generalize lens.getD s 0 = l at *
  go_enter Tryz.func182, Tryz.ntmps182
  go_wp2_with fail
  have d0 : (w.alloc (.cells #[.int .i64 0, .int .i64 0] 142)).cell? ⟨ga, s, none⟩ = some (.int .i64 (c : Int)) := (((On.refl w).alloc _).cell B0).trans c0
  have d1 : (w.alloc (.cells #[.int .i64 0, .int .i64 0] 142)).cell? ⟨gl, ol + s, none⟩ = some (.int .i64 (l : Int)) := (((On.refl w).alloc _).cell B1).trans c1
  have BB := Blk.new w 142 #[.int .i64 0, .int .i64 0]
  have OO := (On.refl w).alloc (.cells #[.int .i64 0, .int .i64 0] 142)
  generalize hB : w.heap.size = B at *
  have HB := Lib.hid hB
  clear hB
  generalize w.alloc (.cells #[.int .i64 0, .int .i64 0] 142) = W at *
  go_still_tail 13, (by kernel_rfl)
  still_call (HT.out _)
  repeat still_step
  refine wpStill_nil ?_
  change wpList _ _ _ _ _ W.drew
  have BD := BB.drew
  have OD := OO.drew
  have hbs : w.heap.size ≤ B := by rw [HB.out]; exact Nat.le_refl _
  clear d0 d1 BB OO
  generalize W.drew = W2 at *
  have e0 : W2.cell? ⟨B, 0, none⟩ = some (.int .i64 0) := (BD.cell 0).trans rfl
  have e1 : W2.cell? ⟨B, 1, none⟩ = some (.int .i64 0) := (BD.cell 1).trans rfl
  have ef : ∀ i, W2.frozen? ⟨B, i, none⟩ = false := BD.frozen
  go_wp2_with fail
  have BF := (BD.set 0 (.int .i64 (T : Int))).set 1 (.int .i64 (l : Int))
  exact bodyPost_ret (v := .agg #[.int .i64 (T : Int), .int .i64 (l : Int)]) (by exact res_c (fn := Tryz.f182) (p := 6) rfl BF rfl Tryz.underlying142 rfl (by kernel_rfl)) rfl ⟨rfl, (OD.set hbs _).set hbs _⟩
set_option maxRecDepth 100000 in
theorem sym_calls (g r : Nat) (bs : List Bool) (lens : List Nat) (gl ol nl cl ga na ca s : Nat) (w : World) (hw : SW w g r bs) (hb : bs.length ≤ 90000000)
    (hl : RowO w gl ol 3 (i64s lens)) (ha : RowO w ga 0 3 (i64s (codes lens))) (hnl : lens.length = nl) (hna : na = nl) (hs : s < lens.length) (h16 : lens.getD s 0 ≤ 15) (hc : code lens s < 2 ^ lens.getD s 0) :
    Calls Tryz.prog 166 #[.pointer (some ⟨g, 0, none⟩), .slice (some ⟨gl, ol, none⟩) nl cl, .slice (some ⟨ga, 0, none⟩) na ca, .int .i64 s] w fun e w' => ∃ r', e = .returned (.tuple #[]) ∧ SW w' g r' (bs ++ enc lens s) ∧ Mv g r w r' w' := by
  subst hna
  have hp := fun r w hw => sput_calls g r bs (turn (code lens s) (lens.getD s 0)) (lens.getD s 0) w hw (by omega) (by omega) (by have := turn_small (num := code lens s) (show lens.getD s 0 ≤ 16 by omega); omega)
  have he : enc lens s = bitsOf (turn (code lens s) (lens.getD s 0)) (lens.getD s 0) := by rw [turn_bits]; rfl
  rw [← he] at hp
  have HP := Lib.hid hp
  have hpc := spiece_calls lens gl ol na cl ga na ca s w hl ha hnl rfl hs h16 hc
  have HPC := Lib.hid hpc
  clear hp he hl ha hnl hs h16 hc hpc
  generalize turn (code lens s) (lens.getD s 0) = T at *
  generalize lens.getD s 0 = l at *
  have HW := Lib.hid hw
  clear hw
  go_enter Tryz.func166, Tryz.ntmps166
  go_wp2_with fail
  refine HPC.out.mono ?_
  rintro e w1 ⟨rfl, O1⟩
  go_wp2_with fail
  refine (HP.out r _ (HW.out.on (O1.alloc _))).mono ?_
  rintro e w2 ⟨r2, rfl, hw2, M2⟩
  go_wp2_with fail
  go_end0
  exact ⟨r2, rfl, hw2, (mv_on g r (O1.alloc _)).trans M2⟩
end Go.Proofs.YtnadjlejlohgiaaGreatDoor.Wi

