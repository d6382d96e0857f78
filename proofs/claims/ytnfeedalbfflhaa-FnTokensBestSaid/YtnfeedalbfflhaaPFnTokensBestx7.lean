-- PRINTED BY print.sh 35421559b90ae4d0a3588c463048766b98c2df88dd9212a6774a882060cdf62d: not written by this session
import Derived.Test.YtnfeedalbfflhaaPFnTokensBestx0
import Derived.Test.YtnfeedalbfflhaaPFnTokensBestx1
import Derived.Test.YtnfeedalbfflhaaPFnTokensBestx2
import Derived.Test.YtnfeedalbfflhaaPFnTokensBestx4
import Derived.Test.YtnfeedalbfflhaaPFnTokensBestx6
namespace Go.Proofs.Ytnfeedalbfflhaa.PFnTokensBest
open Go.RowKit Go.Proofs.YtnfeedalbfflhaaW.PrintWords Go.Proofs.YtnfeedalbfflhaaW.PrintLast Go.Proofs.YtnfeedalbfflhaaW.PrintMore
attribute [local go_sem] max2_int min2_int max_two min_two max_three min_three max_four min_four   -- for this text's walks alone
set_option linter.unusedVariables false
set_option linter.unusedSimpArgs false

/-! ### laws_FnTokensBest: function 13 -/
mutual
def laws_FnTokensBest.j0 : Nat → ByteArray → Bool → ByteArray → Bool → Bool → Option (Bool)
  | 0, _, _, _, _, _ => none
  | k + 1, x4, x5, x6, x7, x40 => if x40 = true then (if (x5 == x7) = true then (some (x4.toList == x6.toList)) else (some false)) else ((impl_TokensOf.f k x4).bind fun t252 => (laws_FnTokensBest.l0 k x4 t252 0 0))
def laws_FnTokensBest.l0 : Nat → ByteArray → List (S37) → Int → Int → Option (Bool)
  | 0, _, _, _, _ => none
  | k + 1, x4, x8, x9, x10 => if x10 < (x8.length : Int) then (if 0 ≤ x10 then (laws_FnTokensBest.l1 k x4 x8 x9 x10 1 ((rd_T37 x8 x10).f0) ((rd_T37 x8 x10).f1) ((rd_T37 x8 x10).f2)) else (none)) else (some (x9 == (x4.size : Int)))
def laws_FnTokensBest.l1 : Nat → ByteArray → List (S37) → Int → Int → Int → Int → Int → Int → Option (Bool)
  | 0, _, _, _, _, _, _, _, _ => none
  | k + 1, x4, x8, x9, x10, x12, x257000, x257001, x257002 => if x12 ≤ x9 then (laws_FnTokensBest.j3 k x4 x8 x9 x10 x12 (decide (x12 ≤ 250)) x257000 x257001 x257002) else (laws_FnTokensBest.j3 k x4 x8 x9 x10 x12 false x257000 x257001 x257002)
def laws_FnTokensBest.j3 : Nat → ByteArray → List (S37) → Int → Int → Int → Bool → Int → Int → Int → Option (Bool)
  | 0, _, _, _, _, _, _, _, _, _ => none
  | k + 1, x4, x8, x9, x10, x12, x67, x257000, x257001, x257002 => if x67 = true then (laws_FnTokensBest.l2 k x4 x8 x9 x10 x12 0 x257000 x257001 x257002) else (if x257001 = 0 then (laws_FnTokensBest.l0 k x4 x8 (wrap64 (x9 + 1)) (wrap64 (x10 + 1))) else (laws_FnTokensBest.l0 k x4 x8 (wrap64 (x9 + x257001)) (wrap64 (x10 + 1))))
def laws_FnTokensBest.l2 : Nat → ByteArray → List (S37) → Int → Int → Int → Int → Int → Int → Int → Option (Bool)
  | 0, _, _, _, _, _, _, _, _, _ => none
  | k + 1, x4, x8, x9, x10, x12, x13, x257000, x257001, x257002 => if (wrap64 (x9 + x13)) < (x4.size : Int) then (if x13 < 60 then (if 0 ≤ (wrap64 (x9 + x13)) then (if 0 ≤ (wrap64 ((wrap64 (x9 + x13)) - x12)) then (if (wrap64 ((wrap64 (x9 + x13)) - x12)) < (x4.size : Int) then (if (bt x4 (wrap64 (x9 + x13))) = (bt x4 (wrap64 ((wrap64 (x9 + x13)) - x12))) then (laws_FnTokensBest.l2 k x4 x8 x9 x10 x12 (wrap64 (x13 + 1)) x257000 x257001 x257002) else (if x13 ≥ 3 then (if x13 > x257001 then (some false) else (if x13 = x257001 then (if x12 < x257002 then (some false) else (laws_FnTokensBest.l1 k x4 x8 x9 x10 (wrap64 (x12 + 1)) x257000 x257001 x257002)) else (laws_FnTokensBest.l1 k x4 x8 x9 x10 (wrap64 (x12 + 1)) x257000 x257001 x257002))) else (laws_FnTokensBest.l1 k x4 x8 x9 x10 (wrap64 (x12 + 1)) x257000 x257001 x257002))) else (none)) else (none)) else (none)) else (if x13 ≥ 3 then (if x13 > x257001 then (some false) else (if x13 = x257001 then (if x12 < x257002 then (some false) else (laws_FnTokensBest.l1 k x4 x8 x9 x10 (wrap64 (x12 + 1)) x257000 x257001 x257002)) else (laws_FnTokensBest.l1 k x4 x8 x9 x10 (wrap64 (x12 + 1)) x257000 x257001 x257002))) else (laws_FnTokensBest.l1 k x4 x8 x9 x10 (wrap64 (x12 + 1)) x257000 x257001 x257002))) else (if x13 ≥ 3 then (if x13 > x257001 then (some false) else (if x13 = x257001 then (if x12 < x257002 then (some false) else (laws_FnTokensBest.l1 k x4 x8 x9 x10 (wrap64 (x12 + 1)) x257000 x257001 x257002)) else (laws_FnTokensBest.l1 k x4 x8 x9 x10 (wrap64 (x12 + 1)) x257000 x257001 x257002))) else (laws_FnTokensBest.l1 k x4 x8 x9 x10 (wrap64 (x12 + 1)) x257000 x257001 x257002))
end
def laws_FnTokensBest.f (k : Nat) (l0 : List Int) : Option (Bool) := if (l0.length : Int) > 1048576 then (some true) else ((spec_DrawTokensText.f k l0).bind fun t245 => ((impl_TokensText.f k t245).bind fun bt248 => ((spec_TokensText.f k t245).bind fun bt250 => (if (bt248.2 != bt250.2) = true then (laws_FnTokensBest.j0 k bt248.1 bt248.2 bt250.1 bt250.2 true) else (if bt248.1.toList = bt250.1.toList then (laws_FnTokensBest.j0 k bt248.1 bt248.2 bt250.1 bt250.2 (!bt248.2)) else (laws_FnTokensBest.j0 k bt248.1 bt248.2 bt250.1 bt250.2 true))))))
theorem laws_FnTokensBest.mono_l : ∀ k, (∀ y0 y1 y2 y3 y4, LeO (laws_FnTokensBest.j0 k y0 y1 y2 y3 y4) (laws_FnTokensBest.j0 (k + 1) y0 y1 y2 y3 y4)) ∧ (∀ y0 y1 y2 y3, LeO (laws_FnTokensBest.l0 k y0 y1 y2 y3) (laws_FnTokensBest.l0 (k + 1) y0 y1 y2 y3)) ∧ (∀ y0 y1 y2 y3 y4 y5 y6 y7, LeO (laws_FnTokensBest.l1 k y0 y1 y2 y3 y4 y5 y6 y7) (laws_FnTokensBest.l1 (k + 1) y0 y1 y2 y3 y4 y5 y6 y7)) ∧ (∀ y0 y1 y2 y3 y4 y5 y6 y7 y8, LeO (laws_FnTokensBest.j3 k y0 y1 y2 y3 y4 y5 y6 y7 y8) (laws_FnTokensBest.j3 (k + 1) y0 y1 y2 y3 y4 y5 y6 y7 y8)) ∧ (∀ y0 y1 y2 y3 y4 y5 y6 y7 y8, LeO (laws_FnTokensBest.l2 k y0 y1 y2 y3 y4 y5 y6 y7 y8) (laws_FnTokensBest.l2 (k + 1) y0 y1 y2 y3 y4 y5 y6 y7 y8))
  | 0 => ⟨fun _ _ _ _ _ r h => by simp [laws_FnTokensBest.j0] at h, fun _ _ _ _ r h => by simp [laws_FnTokensBest.l0] at h, fun _ _ _ _ _ _ _ _ r h => by simp [laws_FnTokensBest.l1] at h, fun _ _ _ _ _ _ _ _ _ r h => by simp [laws_FnTokensBest.j3] at h, fun _ _ _ _ _ _ _ _ _ r h => by simp [laws_FnTokensBest.l2] at h⟩
  | k + 1 => by
    obtain ⟨ih0, ih1, ih2, ih3, ih4⟩ := laws_FnTokensBest.mono_l k
    refine ⟨?_, ?_, ?_, ?_, ?_⟩
    · intro y0 y1 y2 y3 y4
      unfold laws_FnTokensBest.j0
      repeat' first
      | (with_reducible exact ih0 _ _ _ _ _)
      | (with_reducible exact ih1 _ _ _ _)
      | (with_reducible exact ih2 _ _ _ _ _ _ _ _)
      | (with_reducible exact ih3 _ _ _ _ _ _ _ _ _)
      | (with_reducible exact ih4 _ _ _ _ _ _ _ _ _)
      | (with_reducible exact impl_TokensOf.mono _ _)
      | (with_reducible exact impl_TokensText.mono _ _)
      | (with_reducible exact spec_DrawTokensText.mono _ _)
      | (with_reducible exact spec_TokensText.mono _ _)
      | (with_reducible exact LeO.refl _)
      | (with_reducible exact LeO.none _)
      | (with_reducible refine LeO.ite ?_ ?_)
      | (with_reducible refine LeO.bind ?_ (fun _ => ?_))
      | exact ih0 _ _ _ _ _
      | exact ih1 _ _ _ _
      | exact ih2 _ _ _ _ _ _ _ _
      | exact ih3 _ _ _ _ _ _ _ _ _
      | exact ih4 _ _ _ _ _ _ _ _ _
      | exact impl_TokensOf.mono _ _
      | exact impl_TokensText.mono _ _
      | exact spec_DrawTokensText.mono _ _
      | exact spec_TokensText.mono _ _
      | exact LeO.none _
      | refine LeO.ite ?_ ?_
      | refine LeO.bind ?_ (fun _ => ?_)
    · intro y0 y1 y2 y3
      unfold laws_FnTokensBest.l0
      repeat' first
      | (with_reducible exact ih0 _ _ _ _ _)
      | (with_reducible exact ih1 _ _ _ _)
      | (with_reducible exact ih2 _ _ _ _ _ _ _ _)
      | (with_reducible exact ih3 _ _ _ _ _ _ _ _ _)
      | (with_reducible exact ih4 _ _ _ _ _ _ _ _ _)
      | (with_reducible exact impl_TokensOf.mono _ _)
      | (with_reducible exact impl_TokensText.mono _ _)
      | (with_reducible exact spec_DrawTokensText.mono _ _)
      | (with_reducible exact spec_TokensText.mono _ _)
      | (with_reducible exact LeO.refl _)
      | (with_reducible exact LeO.none _)
      | (with_reducible refine LeO.ite ?_ ?_)
      | (with_reducible refine LeO.bind ?_ (fun _ => ?_))
      | exact ih0 _ _ _ _ _
      | exact ih1 _ _ _ _
      | exact ih2 _ _ _ _ _ _ _ _
      | exact ih3 _ _ _ _ _ _ _ _ _
      | exact ih4 _ _ _ _ _ _ _ _ _
      | exact impl_TokensOf.mono _ _
      | exact impl_TokensText.mono _ _
      | exact spec_DrawTokensText.mono _ _
      | exact spec_TokensText.mono _ _
      | exact LeO.none _
      | refine LeO.ite ?_ ?_
      | refine LeO.bind ?_ (fun _ => ?_)
    · intro y0 y1 y2 y3 y4 y5 y6 y7
      unfold laws_FnTokensBest.l1
      repeat' first
      | (with_reducible exact ih0 _ _ _ _ _)
      | (with_reducible exact ih1 _ _ _ _)
      | (with_reducible exact ih2 _ _ _ _ _ _ _ _)
      | (with_reducible exact ih3 _ _ _ _ _ _ _ _ _)
      | (with_reducible exact ih4 _ _ _ _ _ _ _ _ _)
      | (with_reducible exact impl_TokensOf.mono _ _)
      | (with_reducible exact impl_TokensText.mono _ _)
      | (with_reducible exact spec_DrawTokensText.mono _ _)
      | (with_reducible exact spec_TokensText.mono _ _)
      | (with_reducible exact LeO.refl _)
      | (with_reducible exact LeO.none _)
      | (with_reducible refine LeO.ite ?_ ?_)
      | (with_reducible refine LeO.bind ?_ (fun _ => ?_))
      | exact ih0 _ _ _ _ _
      | exact ih1 _ _ _ _
      | exact ih2 _ _ _ _ _ _ _ _
      | exact ih3 _ _ _ _ _ _ _ _ _
      | exact ih4 _ _ _ _ _ _ _ _ _
      | exact impl_TokensOf.mono _ _
      | exact impl_TokensText.mono _ _
      | exact spec_DrawTokensText.mono _ _
      | exact spec_TokensText.mono _ _
      | exact LeO.none _
      | refine LeO.ite ?_ ?_
      | refine LeO.bind ?_ (fun _ => ?_)
    · intro y0 y1 y2 y3 y4 y5 y6 y7 y8
      unfold laws_FnTokensBest.j3
      repeat' first
      | (with_reducible exact ih0 _ _ _ _ _)
      | (with_reducible exact ih1 _ _ _ _)
      | (with_reducible exact ih2 _ _ _ _ _ _ _ _)
      | (with_reducible exact ih3 _ _ _ _ _ _ _ _ _)
      | (with_reducible exact ih4 _ _ _ _ _ _ _ _ _)
      | (with_reducible exact impl_TokensOf.mono _ _)
      | (with_reducible exact impl_TokensText.mono _ _)
      | (with_reducible exact spec_DrawTokensText.mono _ _)
      | (with_reducible exact spec_TokensText.mono _ _)
      | (with_reducible exact LeO.refl _)
      | (with_reducible exact LeO.none _)
      | (with_reducible refine LeO.ite ?_ ?_)
      | (with_reducible refine LeO.bind ?_ (fun _ => ?_))
      | exact ih0 _ _ _ _ _
      | exact ih1 _ _ _ _
      | exact ih2 _ _ _ _ _ _ _ _
      | exact ih3 _ _ _ _ _ _ _ _ _
      | exact ih4 _ _ _ _ _ _ _ _ _
      | exact impl_TokensOf.mono _ _
      | exact impl_TokensText.mono _ _
      | exact spec_DrawTokensText.mono _ _
      | exact spec_TokensText.mono _ _
      | exact LeO.none _
      | refine LeO.ite ?_ ?_
      | refine LeO.bind ?_ (fun _ => ?_)
    · intro y0 y1 y2 y3 y4 y5 y6 y7 y8
      unfold laws_FnTokensBest.l2
      repeat' first
      | (with_reducible exact ih0 _ _ _ _ _)
      | (with_reducible exact ih1 _ _ _ _)
      | (with_reducible exact ih2 _ _ _ _ _ _ _ _)
      | (with_reducible exact ih3 _ _ _ _ _ _ _ _ _)
      | (with_reducible exact ih4 _ _ _ _ _ _ _ _ _)
      | (with_reducible exact impl_TokensOf.mono _ _)
      | (with_reducible exact impl_TokensText.mono _ _)
      | (with_reducible exact spec_DrawTokensText.mono _ _)
      | (with_reducible exact spec_TokensText.mono _ _)
      | (with_reducible exact LeO.refl _)
      | (with_reducible exact LeO.none _)
      | (with_reducible refine LeO.ite ?_ ?_)
      | (with_reducible refine LeO.bind ?_ (fun _ => ?_))
      | exact ih0 _ _ _ _ _
      | exact ih1 _ _ _ _
      | exact ih2 _ _ _ _ _ _ _ _
      | exact ih3 _ _ _ _ _ _ _ _ _
      | exact ih4 _ _ _ _ _ _ _ _ _
      | exact impl_TokensOf.mono _ _
      | exact impl_TokensText.mono _ _
      | exact spec_DrawTokensText.mono _ _
      | exact spec_TokensText.mono _ _
      | exact LeO.none _
      | refine LeO.ite ?_ ?_
      | refine LeO.bind ?_ (fun _ => ?_)
theorem laws_FnTokensBest.mono : ∀ a0 k, LeO (laws_FnTokensBest.f k a0) (laws_FnTokensBest.f (k + 1) a0) := by
  intro a0 k
  obtain ⟨ih0, ih1, ih2, ih3, ih4⟩ := laws_FnTokensBest.mono_l k
  unfold laws_FnTokensBest.f
  repeat' first
      | (with_reducible exact ih0 _ _ _ _ _)
      | (with_reducible exact ih1 _ _ _ _)
      | (with_reducible exact ih2 _ _ _ _ _ _ _ _)
      | (with_reducible exact ih3 _ _ _ _ _ _ _ _ _)
      | (with_reducible exact ih4 _ _ _ _ _ _ _ _ _)
      | (with_reducible exact impl_TokensOf.mono _ _)
      | (with_reducible exact impl_TokensText.mono _ _)
      | (with_reducible exact spec_DrawTokensText.mono _ _)
      | (with_reducible exact spec_TokensText.mono _ _)
      | (with_reducible exact LeO.refl _)
      | (with_reducible exact LeO.none _)
      | (with_reducible refine LeO.ite ?_ ?_)
      | (with_reducible refine LeO.bind ?_ (fun _ => ?_))
      | exact ih0 _ _ _ _ _
      | exact ih1 _ _ _ _
      | exact ih2 _ _ _ _ _ _ _ _
      | exact ih3 _ _ _ _ _ _ _ _ _
      | exact ih4 _ _ _ _ _ _ _ _ _
      | exact impl_TokensOf.mono _ _
      | exact impl_TokensText.mono _ _
      | exact spec_DrawTokensText.mono _ _
      | exact spec_TokensText.mono _ _
      | exact LeO.none _
      | refine LeO.ite ?_ ?_
      | refine LeO.bind ?_ (fun _ => ?_)
set_option maxHeartbeats 8000000 in
set_option maxRecDepth 100000 in
theorem laws_FnTokensBest.calls (k : Nat) (A0 : Option Addr) (c0 : Nat) (l0 : List Int) (r : Bool) (w : World) (hr0 : Kd.C (Kd.int .u8) w A0 l0.length l0) (hc0 : l0.length ≤ c0) (h : laws_FnTokensBest.f k l0 = some r) :
    Calls Try.prog 13 #[.slice A0 l0.length c0] w fun e w' => e = .returned (.bool r) ∧ Below w.heap.size w w' := by
  have hu37 := Try.underlying37
  have HR0 := Aside0.mk hr0
  have HC0 := Aside0.mk hc0
  clear hr0 hc0
  have HB := Aside0.mk (Below.refl w.heap.size w)
  have H : (if (l0.length : Int) > 1048576 then (some true) else ((spec_DrawTokensText.f k l0).bind fun t245 => ((impl_TokensText.f k t245).bind fun bt248 => ((spec_TokensText.f k t245).bind fun bt250 => (if (bt248.2 != bt250.2) = true then (laws_FnTokensBest.j0 k bt248.1 bt248.2 bt250.1 bt250.2 true) else (if bt248.1.toList = bt250.1.toList then (laws_FnTokensBest.j0 k bt248.1 bt248.2 bt250.1 bt250.2 (!bt248.2)) else (laws_FnTokensBest.j0 k bt248.1 bt248.2 bt250.1 bt250.2 true))))))) = some r := h
  clear h
  by_cases c2 : (l0.length : Int) > 1048576
  · rw [if_pos c2] at H
    have c2b0 : decide (1048576 < (l0.length : Int)) = true := decide_eq_true c2
    have c2b1 : decide (1048576 < l0.length) = true := decide_eq_true (by omega)
    clear c2
    obtain rfl := Option.some.inj H
    go_enter Try.func13, Try.ntmps13
    go_wp2
    repeat (go_quiet (fail); try go_wp2)
    go_ret
    exact ⟨by first | rfl | (simp [errW_none, errW_some] <;> rfl) | (simp [*, errW_none, errW_some] <;> rfl), by repeat (first | (with_reducible first | exact HB.out | apply below_alloc | apply pw_below_drewN | apply below_drew1) | exact HB.out)⟩
  · rw [if_neg c2] at H
    have c2b0 : decide (1048576 < (l0.length : Int)) = false := decide_eq_false c2
    have c2b1 : decide (1048576 < l0.length) = false := decide_eq_false (by omega)
    clear c2
    replace H := Option.bind_eq_some_iff.mp H
    obtain ⟨t245, A30, H⟩ := H
    replace H : ((impl_TokensText.f k t245).bind fun bt248 => ((spec_TokensText.f k t245).bind fun bt250 => (if (bt248.2 != bt250.2) = true then (laws_FnTokensBest.j0 k bt248.1 bt248.2 bt250.1 bt250.2 true) else (if bt248.1.toList = bt250.1.toList then (laws_FnTokensBest.j0 k bt248.1 bt248.2 bt250.1 bt250.2 (!bt248.2)) else (laws_FnTokensBest.j0 k bt248.1 bt248.2 bt250.1 bt250.2 true))))) = some r := H
    have A3 := Aside0.mk A30
    clear A30
    replace H := Option.bind_eq_some_iff.mp H
    obtain ⟨⟨t248, t249⟩, A40, H⟩ := H
    replace H : ((spec_TokensText.f k t245).bind fun bt250 => (if (t249 != bt250.2) = true then (laws_FnTokensBest.j0 k t248 t249 bt250.1 bt250.2 true) else (if t248.toList = bt250.1.toList then (laws_FnTokensBest.j0 k t248 t249 bt250.1 bt250.2 (!t249)) else (laws_FnTokensBest.j0 k t248 t249 bt250.1 bt250.2 true)))) = some r := H
    have A4 := Aside0.mk A40
    clear A40
    replace H := Option.bind_eq_some_iff.mp H
    obtain ⟨⟨t250, t251⟩, A50, H⟩ := H
    replace H : (if (t249 != t251) = true then (laws_FnTokensBest.j0 k t248 t249 t250 t251 true) else (if t248.toList = t250.toList then (laws_FnTokensBest.j0 k t248 t249 t250 t251 (!t249)) else (laws_FnTokensBest.j0 k t248 t249 t250 t251 true))) = some r := H
    have A5 := Aside0.mk A50
    clear A50
    have HC6 := Aside0.mk H
    clear H
    go_enter Try.func13, Try.ntmps13
    go_upto_region 6 with (first | (go_at_call 29; (with_reducible refine (spec_DrawTokensText.calls k _ _ l0 t245 _ ?side1 ?side2 A3.out).mono ?_); (case side1 => repeat (first | exact HR0.out | (with_reducible refine Kd.C_alloc ?_ _) | (with_reducible refine Kd.C_drewN ?_ _) | (with_reducible refine Kd.C_drew ?_))); (case side2 => exact HC0.out); rintro e w7 ⟨v246, rfl, ho0, hb⟩; have n0_ := Aside0.mk (Kd.Q_lower ho0 (below_size (by repeat (first | (with_reducible first | exact HB.out | apply below_alloc | apply pw_below_drewN | apply below_drew1) | exact HB.out)))); have n1_ := Aside0.mk (below_step (by repeat (first | (with_reducible first | exact HB.out | apply below_alloc | apply pw_below_drewN | apply below_drew1) | exact HB.out)) hb); clear HB; have HO247 := n0_; have HB := n1_; clear n0_ n1_; (try clear hb); (try clear hb2); (try clear hk); (try clear hi); (try clear ho0); obtain ⟨Ao8, co8, eo8, _⟩ := Kd.Q_slice HO247.out; subst eo8) | (go_at_call 27; (with_reducible refine (impl_TokensText.calls k _ _ t245 t248 t249 _ ?side1 ?side2 A4.out).mono ?_); (case side1 => repeat (first | exact (Kd.Q_reads' HO247.out).2.2 | (with_reducible refine Kd.C_alloc ?_ _) | (with_reducible refine Kd.C_drewN ?_ _) | (with_reducible refine Kd.C_drew ?_))); (case side2 => exact (Kd.Q_reads' HO247.out).2.1); rintro e w9 ⟨rfl, hb⟩; have n0_ := Aside0.mk (Kd.Q_below (by (with_reducible repeat (first | apply Kd.Q_alloc | apply Kd.Q_drewN | apply Kd.Q_drew)); exact HO247.out) hb); have n1_ := Aside0.mk (below_step (by repeat (first | (with_reducible first | exact HB.out | apply below_alloc | apply pw_below_drewN | apply below_drew1) | exact HB.out)) hb); clear HO247; clear HB; have HO247 := n0_; have HB := n1_; clear n0_ n1_; (try clear hb); (try clear hb2); (try clear hk); (try clear hi)) | (go_at_call 28; (with_reducible refine (spec_TokensText.calls k _ _ t245 t250 t251 _ ?side1 ?side2 A5.out).mono ?_); (case side1 => repeat (first | exact (Kd.Q_reads' HO247.out).2.2 | (with_reducible refine Kd.C_alloc ?_ _) | (with_reducible refine Kd.C_drewN ?_ _) | (with_reducible refine Kd.C_drew ?_))); (case side2 => exact (Kd.Q_reads' HO247.out).2.1); rintro e w10 ⟨rfl, hb⟩; have n0_ := Aside0.mk (Kd.Q_below (by (with_reducible repeat (first | apply Kd.Q_alloc | apply Kd.Q_drewN | apply Kd.Q_drew)); exact HO247.out) hb); have n1_ := Aside0.mk (below_step (by repeat (first | (with_reducible first | exact HB.out | apply below_alloc | apply pw_below_drewN | apply below_drew1) | exact HB.out)) hb); clear HO247; clear HB; have HO247 := n0_; have HB := n1_; clear n0_ n1_; (try clear hb); (try clear hb2); (try clear hk); (try clear hi)))
    repeat (go_quiet (first | (go_at_call 29; (with_reducible refine (spec_DrawTokensText.calls k _ _ l0 t245 _ ?side1 ?side2 A3.out).mono ?_); (case side1 => repeat (first | exact HR0.out | (with_reducible refine Kd.C_alloc ?_ _) | (with_reducible refine Kd.C_drewN ?_ _) | (with_reducible refine Kd.C_drew ?_))); (case side2 => exact HC0.out); rintro e w7 ⟨v246, rfl, ho0, hb⟩; have n0_ := Aside0.mk (Kd.Q_lower ho0 (below_size (by repeat (first | (with_reducible first | exact HB.out | apply below_alloc | apply pw_below_drewN | apply below_drew1) | exact HB.out)))); have n1_ := Aside0.mk (below_step (by repeat (first | (with_reducible first | exact HB.out | apply below_alloc | apply pw_below_drewN | apply below_drew1) | exact HB.out)) hb); clear HB; have HO247 := n0_; have HB := n1_; clear n0_ n1_; (try clear hb); (try clear hb2); (try clear hk); (try clear hi); (try clear ho0); obtain ⟨Ao8, co8, eo8, _⟩ := Kd.Q_slice HO247.out; subst eo8) | (go_at_call 27; (with_reducible refine (impl_TokensText.calls k _ _ t245 t248 t249 _ ?side1 ?side2 A4.out).mono ?_); (case side1 => repeat (first | exact (Kd.Q_reads' HO247.out).2.2 | (with_reducible refine Kd.C_alloc ?_ _) | (with_reducible refine Kd.C_drewN ?_ _) | (with_reducible refine Kd.C_drew ?_))); (case side2 => exact (Kd.Q_reads' HO247.out).2.1); rintro e w9 ⟨rfl, hb⟩; have n0_ := Aside0.mk (Kd.Q_below (by (with_reducible repeat (first | apply Kd.Q_alloc | apply Kd.Q_drewN | apply Kd.Q_drew)); exact HO247.out) hb); have n1_ := Aside0.mk (below_step (by repeat (first | (with_reducible first | exact HB.out | apply below_alloc | apply pw_below_drewN | apply below_drew1) | exact HB.out)) hb); clear HO247; clear HB; have HO247 := n0_; have HB := n1_; clear n0_ n1_; (try clear hb); (try clear hb2); (try clear hk); (try clear hi)) | (go_at_call 28; (with_reducible refine (spec_TokensText.calls k _ _ t245 t250 t251 _ ?side1 ?side2 A5.out).mono ?_); (case side1 => repeat (first | exact (Kd.Q_reads' HO247.out).2.2 | (with_reducible refine Kd.C_alloc ?_ _) | (with_reducible refine Kd.C_drewN ?_ _) | (with_reducible refine Kd.C_drew ?_))); (case side2 => exact (Kd.Q_reads' HO247.out).2.1); rintro e w10 ⟨rfl, hb⟩; have n0_ := Aside0.mk (Kd.Q_below (by (with_reducible repeat (first | apply Kd.Q_alloc | apply Kd.Q_drewN | apply Kd.Q_drew)); exact HO247.out) hb); have n1_ := Aside0.mk (below_step (by repeat (first | (with_reducible first | exact HB.out | apply below_alloc | apply pw_below_drewN | apply below_drew1) | exact HB.out)) hb); clear HO247; clear HB; have HO247 := n0_; have HB := n1_; clear n0_ n1_; (try clear hb); (try clear hb2); (try clear hk); (try clear hi))); go_upto_region 6 with (first | (go_at_call 29; (with_reducible refine (spec_DrawTokensText.calls k _ _ l0 t245 _ ?side1 ?side2 A3.out).mono ?_); (case side1 => repeat (first | exact HR0.out | (with_reducible refine Kd.C_alloc ?_ _) | (with_reducible refine Kd.C_drewN ?_ _) | (with_reducible refine Kd.C_drew ?_))); (case side2 => exact HC0.out); rintro e w7 ⟨v246, rfl, ho0, hb⟩; have n0_ := Aside0.mk (Kd.Q_lower ho0 (below_size (by repeat (first | (with_reducible first | exact HB.out | apply below_alloc | apply pw_below_drewN | apply below_drew1) | exact HB.out)))); have n1_ := Aside0.mk (below_step (by repeat (first | (with_reducible first | exact HB.out | apply below_alloc | apply pw_below_drewN | apply below_drew1) | exact HB.out)) hb); clear HB; have HO247 := n0_; have HB := n1_; clear n0_ n1_; (try clear hb); (try clear hb2); (try clear hk); (try clear hi); (try clear ho0); obtain ⟨Ao8, co8, eo8, _⟩ := Kd.Q_slice HO247.out; subst eo8) | (go_at_call 27; (with_reducible refine (impl_TokensText.calls k _ _ t245 t248 t249 _ ?side1 ?side2 A4.out).mono ?_); (case side1 => repeat (first | exact (Kd.Q_reads' HO247.out).2.2 | (with_reducible refine Kd.C_alloc ?_ _) | (with_reducible refine Kd.C_drewN ?_ _) | (with_reducible refine Kd.C_drew ?_))); (case side2 => exact (Kd.Q_reads' HO247.out).2.1); rintro e w9 ⟨rfl, hb⟩; have n0_ := Aside0.mk (Kd.Q_below (by (with_reducible repeat (first | apply Kd.Q_alloc | apply Kd.Q_drewN | apply Kd.Q_drew)); exact HO247.out) hb); have n1_ := Aside0.mk (below_step (by repeat (first | (with_reducible first | exact HB.out | apply below_alloc | apply pw_below_drewN | apply below_drew1) | exact HB.out)) hb); clear HO247; clear HB; have HO247 := n0_; have HB := n1_; clear n0_ n1_; (try clear hb); (try clear hb2); (try clear hk); (try clear hi)) | (go_at_call 28; (with_reducible refine (spec_TokensText.calls k _ _ t245 t250 t251 _ ?side1 ?side2 A5.out).mono ?_); (case side1 => repeat (first | exact (Kd.Q_reads' HO247.out).2.2 | (with_reducible refine Kd.C_alloc ?_ _) | (with_reducible refine Kd.C_drewN ?_ _) | (with_reducible refine Kd.C_drew ?_))); (case side2 => exact (Kd.Q_reads' HO247.out).2.1); rintro e w10 ⟨rfl, hb⟩; have n0_ := Aside0.mk (Kd.Q_below (by (with_reducible repeat (first | apply Kd.Q_alloc | apply Kd.Q_drewN | apply Kd.Q_drew)); exact HO247.out) hb); have n1_ := Aside0.mk (below_step (by repeat (first | (with_reducible first | exact HB.out | apply below_alloc | apply pw_below_drewN | apply below_drew1) | exact HB.out)) hb); clear HO247; clear HB; have HO247 := n0_; have HB := n1_; clear n0_ n1_; (try clear hb); (try clear hb2); (try clear hk); (try clear hi))))
    (try simp only [Act.put, List.setIfInBounds_toArray, List.set_cons_zero, List.set_cons_succ])
    go_cut [40] (fun v40 wc => ∃ (kq : Nat) (x40_5 : Bool), v40 = .bool x40_5 ∧ Aside0 (laws_FnTokensBest.j0 kq t248 t249 t250 t251 x40_5 = some r) ∧ Aside0 (kq ≤ k) ∧ Aside0 (Below w.heap.size w wc))
    case first =>
      have H := HC6.out
      clear HC6
      by_cases c11 : (t249 != t251) = true
      · rw [if_pos c11] at H
        have c11b0 : (t249 != t251) = true := c11
        (try (have c11b1 : decide (t249 = t251) = false := by simpa using c11))
        (try (have c11b2 : (t249 == t251) = false := by simpa using c11))
        (try (have c11b3 : ¬ (t249 = t251) := by simpa using c11))
        clear c11
        (first | rw [c11b0] | (simp only [i64_w, i32_w]; rw [c11b0]) | skip)
        have H' := Aside0.mk H
        clear H
        go_wp2
        repeat (go_quiet (fail); try go_wp2)
        go_meet
        case rel => exact ⟨_, (true), (by first | rfl | (simp; done) | (simp [*]; done)), H', ⟨by first | omega | exact Nat.le_refl _⟩, ⟨by repeat (first | (with_reducible first | exact HB.out | apply below_alloc | apply pw_below_drewN | apply below_drew1) | exact HB.out)⟩⟩
      · rw [if_neg c11] at H
        have c11b0 : (t249 != t251) = false := by simpa using c11
        (try (have c11b1 : decide (t249 = t251) = true := by simpa using c11))
        (try (have c11b2 : (t249 == t251) = true := by simpa using c11))
        clear c11
        (first | rw [c11b0] | (simp only [i64_w, i32_w]; rw [c11b0]) | skip)
        by_cases c12 : t248.toList = t250.toList
        · rw [if_pos c12] at H
          have c12b0 : (t248.toList == t250.toList) = true := beq_iff_eq.mpr c12
          have c12b1 : (t248.toList != t250.toList) = false := bne_eq_false_iff_eq.mpr c12
          clear c12
          have H' := Aside0.mk H
          clear H
          go_wp2
          repeat (go_quiet (fail); try go_wp2)
          go_meet
          case rel => exact ⟨_, (!t249), (by first | rfl | (simp; done) | (simp [*]; done)), H', ⟨by first | omega | exact Nat.le_refl _⟩, ⟨by repeat (first | (with_reducible first | exact HB.out | apply below_alloc | apply pw_below_drewN | apply below_drew1) | exact HB.out)⟩⟩
        · rw [if_neg c12] at H
          have c12b0 : (t248.toList == t250.toList) = false := beq_eq_false_iff_ne.mpr c12
          have c12b1 : (t248.toList != t250.toList) = true := bne_iff_ne.mpr c12
          have H' := Aside0.mk H
          clear H
          go_wp2
          repeat (go_quiet (fail); try go_wp2)
          go_meet
          case rel => exact ⟨_, (true), (by first | rfl | (simp; done) | (simp [*]; done)), H', ⟨by first | omega | exact Nat.le_refl _⟩, ⟨by repeat (first | (with_reducible first | exact HB.out | apply below_alloc | apply pw_below_drewN | apply below_drew1) | exact HB.out)⟩⟩
    case rest =>
      clear HC6
      try clear c1
      try clear c2
      try clear c2b0
      try clear c2b1
      try clear p2
      try clear c11
      try clear c11b0
      try clear c11b1
      try clear c11b2
      try clear c12
      try clear c12b0
      try clear c12b1
      obtain ⟨kq, x40_5, rfl, HA, HJ5, HB⟩ := hcut
      cases kq with
      | zero => exact absurd HA.out (by simp [laws_FnTokensBest.j0])
      | succ kj5 =>
        have H := HA.out
        clear HA
        simp only [laws_FnTokensBest.j0] at H
        by_cases c13 : x40_5 = true
        · subst c13
          have H1 : (if (t249 == t251) = true then (some (t248.toList == t250.toList)) else (some false)) = some r := by rw [if_pos rfl] at H; exact H
          clear H
          have H := H1
          clear H1
          by_cases c14 : (t249 == t251) = true
          · rw [if_pos c14] at H
            have c14b0 : (t249 == t251) = true := c14
            (try (have c14b1 : decide (t249 = t251) = true := by simpa using c14))
            (try (have c14b2 : (t249 == t251) = true := by simpa using c14))
            clear c14
            obtain rfl := Option.some.inj H
            go_wp2
            repeat (go_quiet (fail); try go_wp2)
            go_ret
            exact ⟨by first | rfl | (simp [errW_none, errW_some] <;> rfl) | (simp [*, errW_none, errW_some] <;> rfl), by repeat (first | (with_reducible first | exact HB.out | apply below_alloc | apply pw_below_drewN | apply below_drew1) | exact HB.out)⟩
          · rw [if_neg c14] at H
            have c14b0 : (t249 == t251) = false := by simpa using c14
            (try (have c14b1 : decide (t249 = t251) = false := by simpa using c14))
            (try (have c14b2 : (t249 == t251) = false := by simpa using c14))
            (try (have c14b3 : ¬ (t249 = t251) := by simpa using c14))
            clear c14
            obtain rfl := Option.some.inj H
            go_wp2
            repeat (go_quiet (fail); try go_wp2)
            go_ret
            exact ⟨by first | rfl | (simp [errW_none, errW_some] <;> rfl) | (simp [*, errW_none, errW_some] <;> rfl), by repeat (first | (with_reducible first | exact HB.out | apply below_alloc | apply pw_below_drewN | apply below_drew1) | exact HB.out)⟩
        · replace c13 := Bool.eq_false_iff.mpr c13
          subst c13
          have H1 : ((impl_TokensOf.f kj5 t248).bind fun t252 => (laws_FnTokensBest.l0 kj5 t248 t252 0 0)) = some r := by rw [if_neg (show ¬ (false = true) by decide)] at H; exact H
          clear H
          have H := H1
          clear H1
          replace H := Option.bind_eq_some_iff.mp H
          obtain ⟨t252, A150, H⟩ := H
          replace H : (laws_FnTokensBest.l0 kj5 t248 t252 0 0) = some r := H
          have A15 := Aside0.mk A150
          clear A150
          have H' := Aside0.mk H
          clear H
          go_wp2_with (first | (go_at_call 14; (with_reducible refine (impl_TokensOf.calls kj5 t248 t252 _ A15.out).mono ?_); rintro e w16 ⟨v253, rfl, ho0, hb⟩; have n0_ := Aside0.mk (Kd.R_lower ho0 (below_size (by repeat (first | (with_reducible first | exact HB.out | apply below_alloc | apply pw_below_drewN | apply below_drew1) | exact HB.out)))); have n1_ := Aside0.mk (below_step (by repeat (first | (with_reducible first | exact HB.out | apply below_alloc | apply pw_below_drewN | apply below_drew1) | exact HB.out)) hb); clear HB; have HO254 := n0_; have HB := n1_; clear n0_ n1_; (try clear hb); (try clear hb2); (try clear hk); (try clear hi); (try clear ho0)))
          repeat (go_quiet (first | (go_at_call 14; (with_reducible refine (impl_TokensOf.calls kj5 t248 t252 _ A15.out).mono ?_); rintro e w16 ⟨v253, rfl, ho0, hb⟩; have n0_ := Aside0.mk (Kd.R_lower ho0 (below_size (by repeat (first | (with_reducible first | exact HB.out | apply below_alloc | apply pw_below_drewN | apply below_drew1) | exact HB.out)))); have n1_ := Aside0.mk (below_step (by repeat (first | (with_reducible first | exact HB.out | apply below_alloc | apply pw_below_drewN | apply below_drew1) | exact HB.out)) hb); clear HB; have HO254 := n0_; have HB := n1_; clear n0_ n1_; (try clear hb); (try clear hb2); (try clear hk); (try clear hi); (try clear ho0))); try go_wp2_with (first | (go_at_call 14; (with_reducible refine (impl_TokensOf.calls kj5 t248 t252 _ A15.out).mono ?_); rintro e w16 ⟨v253, rfl, ho0, hb⟩; have n0_ := Aside0.mk (Kd.R_lower ho0 (below_size (by repeat (first | (with_reducible first | exact HB.out | apply below_alloc | apply pw_below_drewN | apply below_drew1) | exact HB.out)))); have n1_ := Aside0.mk (below_step (by repeat (first | (with_reducible first | exact HB.out | apply below_alloc | apply pw_below_drewN | apply below_drew1) | exact HB.out)) hb); clear HB; have HO254 := n0_; have HB := n1_; clear n0_ n1_; (try clear hb); (try clear hb2); (try clear hk); (try clear hi); (try clear ho0))))
          go_loopg [9, 10] kj5 (fun kq v9 v10 w' => ∃ (x9_2 : Int) (x10_2 : Int), v9 = .int .i64 x9_2 ∧ v10 = .int .i64 x10_2 ∧ Aside0 (laws_FnTokensBest.l0 kq t248 t252 x9_2 x10_2 = some r) ∧ Aside0 (kq ≤ kj5) ∧ Aside0 (Kd.R k37 37 w' w.heap.size (fun _ => True) v253 t252) ∧ Aside0 (Below w.heap.size w w'))
          case atStart => exact ⟨(0), (0), (by first | rfl | (simp; done) | (simp [*]; done)), (by first | rfl | (simp; done) | (simp [*]; done)), H', ⟨Nat.le_refl _⟩, ⟨by (with_reducible repeat (first | apply Kd.R_alloc | apply Kd.R_drewN | apply Kd.R_drew)); exact HO254.out⟩, ⟨by repeat (first | (with_reducible first | exact HB.out | apply below_alloc | apply pw_below_drewN | apply below_drew1) | exact HB.out)⟩⟩
          case round =>
            clear H'
            try clear c1
            try clear c2
            try clear c2b0
            try clear c2b1
            try clear p2
            try clear c11
            try clear c11b0
            try clear c11b1
            try clear c11b2
            try clear c12
            try clear c12b0
            try clear c12b1
            try clear c13
            try clear c14
            try clear c14b0
            try clear c14b1
            try clear c14b2
            try clear p2
            obtain ⟨x9_2, x10_2, rfl, rfl, HA, HK2, HO_8, HB⟩ := hrel
            cases gk with
            | zero => exact absurd HA.out (by simp [laws_FnTokensBest.l0])
            | succ k2 =>
              have H := HA.out
              clear HA
              simp only [laws_FnTokensBest.l0] at H
              by_cases c17 : x10_2 < (t252.length : Int)
              · rw [if_pos c17] at H
                have c17b0 : decide (x10_2 < (t252.length : Int)) = true := decide_eq_true c17
                clear c17
                by_cases c18 : 0 ≤ x10_2
                · rw [if_pos c18] at H
                  have c18b0 : decide (0 ≤ x10_2) = true := decide_eq_true c18
                  clear c18
                  have H' := Aside0.mk H
                  clear H
                  obtain ⟨Ao19, co19, eo19⟩ := Kd.R_slice HO_8.out
                  subst eo19
                  have p255 : 0 ≤ (x10_2 : Int) := of_decide_eq_true (by first | (with_reducible assumption) | assumption)
                  have q255 : x10_2 < (t252.length : Int) := of_decide_eq_true (by first | (with_reducible assumption) | assumption)
                  obtain ⟨ad255, e255, hx255_0, hx255_1, hx255_2⟩ := at_T37 (Kd.R_reads' HO_8.out).2.2 x10_2 p255 q255
                  cases e255
                  replace p255 := eq_true p255
                  replace q255 := eq_true q255
                  go_wp2_with (first | ((with_reducible refine gate_dst (N := 11) rfl ?_); refine box_event ?hg (N := 11) ?hd (cs := #[.int .i64 0, .int .i64 0, .int .i64 0]) (t := 37) ?hr ?_; (case hd => rfl); (case hg => rfl); (case hr => first | (go_simp; done) | (go_simp; rfl)); intro gb256 hg w20 hbox hb; have n0_ := Aside0.mk (Kd.R_below (Kd.R_elderB (by (with_reducible repeat (first | apply Kd.R_alloc | apply Kd.R_drewN | apply Kd.R_drew)); exact HO_8.out) gb256 (Nat.le_of_eq hg.symm)) hb); have n1_ := Aside0.mk (below_step (by repeat (first | (with_reducible first | exact HB.out | apply below_alloc | apply pw_below_drewN | apply below_drew1) | exact HB.out)) hb); have n2_ := Aside0.mk (hbox); have n3_ := Aside0.mk ((by rw [hg]; exact (below_size (by repeat (first | (with_reducible first | exact HB.out | apply below_alloc | apply pw_below_drewN | apply below_drew1) | exact HB.out))) : w.heap.size ≤ gb256)); have n4_ := Aside0.mk ((by rw [hg]; exact (below_size (by repeat (first | (with_reducible first | exact HB.out | apply below_alloc | apply pw_below_drewN | apply below_drew1) | exact HB.out))) : w.heap.size ≤ gb256)); clear HO_8; clear HB; have HO_8 := n0_; have HB := n1_; have BK256 := n2_; have GW256 := n3_; have GE256 := n4_; clear n0_ n1_ n2_ n3_ n4_; clear hb hbox hg; have hcz21_0 : w20.cell? ⟨gb256, 0, none⟩ = some (.int .i64 0) := (blk_cell BK256.out 0).trans rfl; have hcz21_1 : w20.cell? ⟨gb256, 1, none⟩ = some (.int .i64 0) := (blk_cell BK256.out 1).trans rfl; have hcz21_2 : w20.cell? ⟨gb256, 2, none⟩ = some (.int .i64 0) := (blk_cell BK256.out 2).trans rfl; have hfz21_0 := blk_frozen BK256.out 0; have hfz21_1 := blk_frozen BK256.out 1; have hfz21_2 := blk_frozen BK256.out 2))
                  repeat (go_quiet (first | ((with_reducible refine gate_dst (N := 11) rfl ?_); refine box_event ?hg (N := 11) ?hd (cs := #[.int .i64 0, .int .i64 0, .int .i64 0]) (t := 37) ?hr ?_; (case hd => rfl); (case hg => rfl); (case hr => first | (go_simp; done) | (go_simp; rfl)); intro gb256 hg w20 hbox hb; have n0_ := Aside0.mk (Kd.R_below (Kd.R_elderB (by (with_reducible repeat (first | apply Kd.R_alloc | apply Kd.R_drewN | apply Kd.R_drew)); exact HO_8.out) gb256 (Nat.le_of_eq hg.symm)) hb); have n1_ := Aside0.mk (below_step (by repeat (first | (with_reducible first | exact HB.out | apply below_alloc | apply pw_below_drewN | apply below_drew1) | exact HB.out)) hb); have n2_ := Aside0.mk (hbox); have n3_ := Aside0.mk ((by rw [hg]; exact (below_size (by repeat (first | (with_reducible first | exact HB.out | apply below_alloc | apply pw_below_drewN | apply below_drew1) | exact HB.out))) : w.heap.size ≤ gb256)); have n4_ := Aside0.mk ((by rw [hg]; exact (below_size (by repeat (first | (with_reducible first | exact HB.out | apply below_alloc | apply pw_below_drewN | apply below_drew1) | exact HB.out))) : w.heap.size ≤ gb256)); clear HO_8; clear HB; have HO_8 := n0_; have HB := n1_; have BK256 := n2_; have GW256 := n3_; have GE256 := n4_; clear n0_ n1_ n2_ n3_ n4_; clear hb hbox hg; have hcz21_0 : w20.cell? ⟨gb256, 0, none⟩ = some (.int .i64 0) := (blk_cell BK256.out 0).trans rfl; have hcz21_1 : w20.cell? ⟨gb256, 1, none⟩ = some (.int .i64 0) := (blk_cell BK256.out 1).trans rfl; have hcz21_2 : w20.cell? ⟨gb256, 2, none⟩ = some (.int .i64 0) := (blk_cell BK256.out 2).trans rfl; have hfz21_0 := blk_frozen BK256.out 0; have hfz21_1 := blk_frozen BK256.out 1; have hfz21_2 := blk_frozen BK256.out 2)); try go_wp2_with (first | ((with_reducible refine gate_dst (N := 11) rfl ?_); refine box_event ?hg (N := 11) ?hd (cs := #[.int .i64 0, .int .i64 0, .int .i64 0]) (t := 37) ?hr ?_; (case hd => rfl); (case hg => rfl); (case hr => first | (go_simp; done) | (go_simp; rfl)); intro gb256 hg w20 hbox hb; have n0_ := Aside0.mk (Kd.R_below (Kd.R_elderB (by (with_reducible repeat (first | apply Kd.R_alloc | apply Kd.R_drewN | apply Kd.R_drew)); exact HO_8.out) gb256 (Nat.le_of_eq hg.symm)) hb); have n1_ := Aside0.mk (below_step (by repeat (first | (with_reducible first | exact HB.out | apply below_alloc | apply pw_below_drewN | apply below_drew1) | exact HB.out)) hb); have n2_ := Aside0.mk (hbox); have n3_ := Aside0.mk ((by rw [hg]; exact (below_size (by repeat (first | (with_reducible first | exact HB.out | apply below_alloc | apply pw_below_drewN | apply below_drew1) | exact HB.out))) : w.heap.size ≤ gb256)); have n4_ := Aside0.mk ((by rw [hg]; exact (below_size (by repeat (first | (with_reducible first | exact HB.out | apply below_alloc | apply pw_below_drewN | apply below_drew1) | exact HB.out))) : w.heap.size ≤ gb256)); clear HO_8; clear HB; have HO_8 := n0_; have HB := n1_; have BK256 := n2_; have GW256 := n3_; have GE256 := n4_; clear n0_ n1_ n2_ n3_ n4_; clear hb hbox hg; have hcz21_0 : w20.cell? ⟨gb256, 0, none⟩ = some (.int .i64 0) := (blk_cell BK256.out 0).trans rfl; have hcz21_1 : w20.cell? ⟨gb256, 1, none⟩ = some (.int .i64 0) := (blk_cell BK256.out 1).trans rfl; have hcz21_2 : w20.cell? ⟨gb256, 2, none⟩ = some (.int .i64 0) := (blk_cell BK256.out 2).trans rfl; have hfz21_0 := blk_frozen BK256.out 0; have hfz21_1 := blk_frozen BK256.out 1; have hfz21_2 := blk_frozen BK256.out 2)))
                  go_loopg [12] k2 (fun kq v12 w' => ∃ (x12_3 : Int), v12 = .int .i64 x12_3 ∧ Aside0 (laws_FnTokensBest.l1 kq t248 t252 x9_2 x10_2 x12_3 ((rd_T37 t252 x10_2).f0) ((rd_T37 t252 x10_2).f1) ((rd_T37 t252 x10_2).f2) = some r) ∧ Aside0 (kq ≤ k2) ∧ Aside0 (Kd.R k37 37 w' w.heap.size (fun k_ => k_ ≠ gb256) (.slice (some ad255) t252.length co19) t252) ∧ Aside0 (w'.heap[gb256]? = some (.cells #[.int .i64 ((rd_T37 t252 x10_2).f0), .int .i64 ((rd_T37 t252 x10_2).f1), .int .i64 ((rd_T37 t252 x10_2).f2)] 37 (0, 0))) ∧ Aside0 (Below w.heap.size w w'))
                  case atStart => exact ⟨(1), (by first | rfl | (simp; done) | (simp [*]; done)), H', ⟨Nat.le_refl _⟩, ⟨by (with_reducible repeat (first | apply Kd.R_alloc | apply Kd.R_drewN | apply Kd.R_drew)); exact Kd.R_mono (Kd.R_far (p := ⟨gb256, 2, none⟩) (Kd.R_far (p := ⟨gb256, 1, none⟩) (Kd.R_far (p := ⟨gb256, 0, none⟩) (Kd.R_mono HO_8.out (fun k_ hk => (⟨hk, hk.2⟩ : _ ∧ k_ ≠ gb256))) (fun _ hk => hk.2) (.int .i64 ((rd_T37 t252 x10_2).f0))) (fun _ hk => hk.2) (.int .i64 ((rd_T37 t252 x10_2).f1))) (fun _ hk => hk.2) (.int .i64 ((rd_T37 t252 x10_2).f2))) (fun _ hk => hk.1.2)⟩, ⟨by (with_reducible repeat (first | refine blk_drewN ?_ _ | refine blk_drew ?_ | refine blk_alloc ?_ _)); refine blk_put (cs := #[.int .i64 ((rd_T37 t252 x10_2).f0), .int .i64 ((rd_T37 t252 x10_2).f1), .int .i64 0]) ?_ 2 _ rfl; (with_reducible repeat (first | refine blk_drewN ?_ _ | refine blk_drew ?_ | refine blk_alloc ?_ _)); refine blk_put (cs := #[.int .i64 ((rd_T37 t252 x10_2).f0), .int .i64 0, .int .i64 0]) ?_ 1 _ rfl; (with_reducible repeat (first | refine blk_drewN ?_ _ | refine blk_drew ?_ | refine blk_alloc ?_ _)); refine blk_put (cs := #[.int .i64 0, .int .i64 0, .int .i64 0]) ?_ 0 _ rfl; (with_reducible repeat (first | refine blk_drewN ?_ _ | refine blk_drew ?_ | refine blk_alloc ?_ _)); exact BK256.out⟩, ⟨by repeat (first | (with_reducible first | exact HB.out | apply below_alloc | apply pw_below_drewN | apply below_drew1 | refine below_set ?_ GE256.out) | exact HB.out)⟩⟩
                  case round =>
                    clear H'
                    try clear c1
                    try clear c2
                    try clear c2b0
                    try clear c2b1
                    try clear p2
                    try clear q2
                    try clear hx2
                    try clear c11
                    try clear c11b0
                    try clear c11b1
                    try clear c11b2
                    try clear c12
                    try clear c12b0
                    try clear c12b1
                    try clear c13
                    try clear c14
                    try clear c14b0
                    try clear c14b1
                    try clear c14b2
                    try clear c17
                    try clear c17b0
                    try clear c18
                    try clear c18b0
                    try clear hcz21_0
                    try clear hcz21_1
                    try clear hcz21_2
                    try clear hfz21_0
                    try clear hfz21_1
                    try clear hfz21_2
                    try clear hx255_0
                    try clear hx255_1
                    try clear hx255_2
                    try clear p2
                    try clear p255
                    try clear q255
                    obtain ⟨x12_3, rfl, HA, HK3, HO_8, BK256, HB⟩ := hrel
                    cases gk with
                    | zero => exact absurd HA.out (by simp [laws_FnTokensBest.l1])
                    | succ k3 =>
                      have H := HA.out
                      clear HA
                      simp only [laws_FnTokensBest.l1] at H
                      have HC22 := Aside0.mk H
                      clear H
                      go_upto_region 15 with (fail)
                      repeat (go_quiet (fail); go_upto_region 15 with (fail))
                      go_cut [67] (fun v67 wc => ∃ (kq : Nat) (x67_21 : Bool), v67 = .bool x67_21 ∧ Aside0 (laws_FnTokensBest.j3 kq t248 t252 x9_2 x10_2 x12_3 x67_21 ((rd_T37 t252 x10_2).f0) ((rd_T37 t252 x10_2).f1) ((rd_T37 t252 x10_2).f2) = some r) ∧ Aside0 (kq ≤ k3) ∧ Aside0 (Kd.R k37 37 wc w.heap.size (fun k_ => k_ ≠ gb256) (.slice (some ad255) t252.length co19) t252) ∧ Aside0 (wc.heap[gb256]? = some (.cells #[.int .i64 ((rd_T37 t252 x10_2).f0), .int .i64 ((rd_T37 t252 x10_2).f1), .int .i64 ((rd_T37 t252 x10_2).f2)] 37 (0, 0))) ∧ Aside0 (Below w.heap.size w wc))
                      case first =>
                        have H := HC22.out
                        clear HC22
                        by_cases c23 : x12_3 ≤ x9_2
                        · rw [if_pos c23] at H
                          have c23b0 : decide (x12_3 ≤ x9_2) = true := decide_eq_true c23
                          clear c23
                          (first | rw [c23b0] | (simp only [i64_w, i32_w]; rw [c23b0]) | skip)
                          have H' := Aside0.mk H
                          clear H
                          go_wp2
                          repeat (go_quiet (fail); try go_wp2)
                          go_meet
                          case rel => exact ⟨_, (decide (x12_3 ≤ 250)), (by first | rfl | (simp; done) | (simp [*]; done)), H', ⟨by have := HJ5.out; have := HK2.out; have := HK3.out; first | omega | exact Nat.le_refl _⟩, ⟨by (with_reducible repeat (first | apply Kd.R_alloc | apply Kd.R_drewN | apply Kd.R_drew)); exact HO_8.out⟩, ⟨by (with_reducible repeat (first | refine blk_drewN ?_ _ | refine blk_drew ?_ | refine blk_alloc ?_ _)); exact BK256.out⟩, ⟨by repeat (first | (with_reducible first | exact HB.out | apply below_alloc | apply pw_below_drewN | apply below_drew1 | refine below_set ?_ GE256.out) | exact HB.out)⟩⟩
                        · rw [if_neg c23] at H
                          have c23b0 : decide (x12_3 ≤ x9_2) = false := decide_eq_false c23
                          clear c23
                          (first | rw [c23b0] | (simp only [i64_w, i32_w]; rw [c23b0]) | skip)
                          have H' := Aside0.mk H
                          clear H
                          go_wp2
                          repeat (go_quiet (fail); try go_wp2)
                          go_meet
                          case rel => exact ⟨_, (false), (by first | rfl | (simp; done) | (simp [*]; done)), H', ⟨by have := HJ5.out; have := HK2.out; have := HK3.out; first | omega | exact Nat.le_refl _⟩, ⟨by (with_reducible repeat (first | apply Kd.R_alloc | apply Kd.R_drewN | apply Kd.R_drew)); exact HO_8.out⟩, ⟨by (with_reducible repeat (first | refine blk_drewN ?_ _ | refine blk_drew ?_ | refine blk_alloc ?_ _)); exact BK256.out⟩, ⟨by repeat (first | (with_reducible first | exact HB.out | apply below_alloc | apply pw_below_drewN | apply below_drew1 | refine below_set ?_ GE256.out) | exact HB.out)⟩⟩
                      case rest =>
                        clear HC22
                        try clear c1
                        try clear c2
                        try clear c2b0
                        try clear c2b1
                        try clear p2
                        try clear q2
                        try clear hx2
                        try clear c11
                        try clear c11b0
                        try clear c11b1
                        try clear c11b2
                        try clear c12
                        try clear c12b0
                        try clear c12b1
                        try clear c13
                        try clear c14
                        try clear c14b0
                        try clear c14b1
                        try clear c14b2
                        try clear c17
                        try clear c17b0
                        try clear c18
                        try clear c18b0
                        try clear c23
                        try clear c23b0
                        try clear hcz21_0
                        try clear hcz21_1
                        try clear hcz21_2
                        try clear hfz21_0
                        try clear hfz21_1
                        try clear hfz21_2
                        try clear hx255_0
                        try clear hx255_1
                        try clear hx255_2
                        try clear p2
                        try clear p255
                        try clear q2
                        try clear q255
                        obtain ⟨kq, x67_21, rfl, HA, HJ21, HO_8, BK256, HB⟩ := hcut
                        cases kq with
                        | zero => exact absurd HA.out (by simp [laws_FnTokensBest.j3])
                        | succ kj21 =>
                          have H := HA.out
                          clear HA
                          simp only [laws_FnTokensBest.j3] at H
                          by_cases c24 : x67_21 = true
                          · subst c24
                            have H1 : (laws_FnTokensBest.l2 kj21 t248 t252 x9_2 x10_2 x12_3 0 ((rd_T37 t252 x10_2).f0) ((rd_T37 t252 x10_2).f1) ((rd_T37 t252 x10_2).f2)) = some r := by rw [if_pos rfl] at H; exact H
                            clear H
                            have H := H1
                            clear H1
                            have H' := Aside0.mk H
                            clear H
                            go_wp2
                            repeat (go_quiet (fail); try go_wp2)
                            go_loopg [13] kj21 (fun kq v13 w' => ∃ (x13_5 : Int), v13 = .int .i64 x13_5 ∧ Aside0 (laws_FnTokensBest.l2 kq t248 t252 x9_2 x10_2 x12_3 x13_5 ((rd_T37 t252 x10_2).f0) ((rd_T37 t252 x10_2).f1) ((rd_T37 t252 x10_2).f2) = some r) ∧ Aside0 (kq ≤ kj21) ∧ Aside0 (Kd.R k37 37 w' w.heap.size (fun k_ => k_ ≠ gb256) (.slice (some ad255) t252.length co19) t252) ∧ Aside0 (w'.heap[gb256]? = some (.cells #[.int .i64 ((rd_T37 t252 x10_2).f0), .int .i64 ((rd_T37 t252 x10_2).f1), .int .i64 ((rd_T37 t252 x10_2).f2)] 37 (0, 0))) ∧ Aside0 (Below w.heap.size w w'))
                            case atStart => exact ⟨(0), (by first | rfl | (simp; done) | (simp [*]; done)), H', ⟨Nat.le_refl _⟩, ⟨by (with_reducible repeat (first | apply Kd.R_alloc | apply Kd.R_drewN | apply Kd.R_drew)); exact HO_8.out⟩, ⟨by (with_reducible repeat (first | refine blk_drewN ?_ _ | refine blk_drew ?_ | refine blk_alloc ?_ _)); exact BK256.out⟩, ⟨by repeat (first | (with_reducible first | exact HB.out | apply below_alloc | apply pw_below_drewN | apply below_drew1 | refine below_set ?_ GE256.out) | exact HB.out)⟩⟩
                            case round =>
                              clear H'
                              try clear c1
                              try clear c2
                              try clear c2b0
                              try clear c2b1
                              try clear p2
                              try clear q2
                              try clear hx2
                              try clear c11
                              try clear c11b0
                              try clear c11b1
                              try clear c11b2
                              try clear c12
                              try clear c12b0
                              try clear c12b1
                              try clear c13
                              try clear c14
                              try clear c14b0
                              try clear c14b1
                              try clear c14b2
                              try clear c17
                              try clear c17b0
                              try clear c18
                              try clear c18b0
                              try clear c23
                              try clear c23b0
                              try clear c24
                              try clear hcz21_0
                              try clear hcz21_1
                              try clear hcz21_2
                              try clear hfz21_0
                              try clear hfz21_1
                              try clear hfz21_2
                              try clear hx255_0
                              try clear hx255_1
                              try clear hx255_2
                              try clear p2
                              try clear p255
                              try clear q2
                              try clear q255
                              obtain ⟨x13_5, rfl, HA, HK5, HO_8, BK256, HB⟩ := hrel
                              cases gk with
                              | zero => exact absurd HA.out (by simp [laws_FnTokensBest.l2])
                              | succ k5 =>
                                have H := HA.out
                                clear HA
                                simp only [laws_FnTokensBest.l2] at H
                                by_cases c25 : (wrap64 (x9_2 + x13_5)) < (t248.size : Int)
                                · rw [if_pos c25] at H
                                  have c25b0 : decide ((wrap64 (x9_2 + x13_5)) < (t248.size : Int)) = true := decide_eq_true c25
                                  clear c25
                                  by_cases c26 : x13_5 < 60
                                  · rw [if_pos c26] at H
                                    have c26b0 : decide (x13_5 < 60) = true := decide_eq_true c26
                                    clear c26
                                    obtain ⟨ji27, hji27⟩ : ∃ j_ : Int, (wrap64 (x9_2 + x13_5)) = j_ := ⟨_, rfl⟩
                                    replace H : (if 0 ≤ (ji27) then (if 0 ≤ (wrap64 ((ji27) - x12_3)) then (if (wrap64 ((ji27) - x12_3)) < (t248.size : Int) then (if (bt t248 (ji27)) = (bt t248 (wrap64 ((ji27) - x12_3))) then (laws_FnTokensBest.l2 k5 t248 t252 x9_2 x10_2 x12_3 (wrap64 (x13_5 + 1)) ((rd_T37 t252 x10_2).f0) ((rd_T37 t252 x10_2).f1) ((rd_T37 t252 x10_2).f2)) else (if x13_5 ≥ 3 then (if x13_5 > ((rd_T37 t252 x10_2).f1) then (some false) else (if x13_5 = ((rd_T37 t252 x10_2).f1) then (if x12_3 < ((rd_T37 t252 x10_2).f2) then (some false) else (laws_FnTokensBest.l1 k5 t248 t252 x9_2 x10_2 (wrap64 (x12_3 + 1)) ((rd_T37 t252 x10_2).f0) ((rd_T37 t252 x10_2).f1) ((rd_T37 t252 x10_2).f2))) else (laws_FnTokensBest.l1 k5 t248 t252 x9_2 x10_2 (wrap64 (x12_3 + 1)) ((rd_T37 t252 x10_2).f0) ((rd_T37 t252 x10_2).f1) ((rd_T37 t252 x10_2).f2)))) else (laws_FnTokensBest.l1 k5 t248 t252 x9_2 x10_2 (wrap64 (x12_3 + 1)) ((rd_T37 t252 x10_2).f0) ((rd_T37 t252 x10_2).f1) ((rd_T37 t252 x10_2).f2)))) else (none)) else (none)) else (none)) = some r := by first | (rw [hji27] at H; exact H) | (simp only [hji27] at H ⊢; exact H)
                                    (try rw [hji27] at c25b0)
                                    have hji27w : (IntKind.i64.wrap (x9_2 + x13_5)) = ji27 := (i64_w _).trans hji27
                                    by_cases c28 : 0 ≤ (ji27)
                                    · rw [if_pos c28] at H
                                      have c28b0 : decide (0 ≤ (ji27)) = true := decide_eq_true c28
                                      clear c28
                                      obtain ⟨ji30, hji30⟩ : ∃ j_ : Int, (wrap64 ((ji27) - x12_3)) = j_ := ⟨_, rfl⟩
                                      replace H : (if 0 ≤ (ji30) then (if (ji30) < (t248.size : Int) then (if (bt t248 (ji27)) = (bt t248 (ji30)) then (laws_FnTokensBest.l2 k5 t248 t252 x9_2 x10_2 x12_3 (wrap64 (x13_5 + 1)) ((rd_T37 t252 x10_2).f0) ((rd_T37 t252 x10_2).f1) ((rd_T37 t252 x10_2).f2)) else (if x13_5 ≥ 3 then (if x13_5 > ((rd_T37 t252 x10_2).f1) then (some false) else (if x13_5 = ((rd_T37 t252 x10_2).f1) then (if x12_3 < ((rd_T37 t252 x10_2).f2) then (some false) else (laws_FnTokensBest.l1 k5 t248 t252 x9_2 x10_2 (wrap64 (x12_3 + 1)) ((rd_T37 t252 x10_2).f0) ((rd_T37 t252 x10_2).f1) ((rd_T37 t252 x10_2).f2))) else (laws_FnTokensBest.l1 k5 t248 t252 x9_2 x10_2 (wrap64 (x12_3 + 1)) ((rd_T37 t252 x10_2).f0) ((rd_T37 t252 x10_2).f1) ((rd_T37 t252 x10_2).f2)))) else (laws_FnTokensBest.l1 k5 t248 t252 x9_2 x10_2 (wrap64 (x12_3 + 1)) ((rd_T37 t252 x10_2).f0) ((rd_T37 t252 x10_2).f1) ((rd_T37 t252 x10_2).f2)))) else (none)) else (none)) = some r := by first | (rw [hji30] at H; exact H) | (simp only [hji30] at H ⊢; exact H)
                                      have hji30w : (IntKind.i64.wrap ((ji27) - x12_3)) = ji30 := (i64_w _).trans hji30
                                      by_cases c31 : 0 ≤ (ji30)
                                      · rw [if_pos c31] at H
                                        have c31b0 : decide (0 ≤ (ji30)) = true := decide_eq_true c31
                                        clear c31
                                        by_cases c32 : (ji30) < (t248.size : Int)
                                        · rw [if_pos c32] at H
                                          have c32b0 : decide ((ji30) < (t248.size : Int)) = true := decide_eq_true c32
                                          clear c32
                                          by_cases c34 : (bt t248 (ji27)) = (bt t248 (ji30))
                                          · rw [if_pos c34] at H
                                            have c34b0 : ((bt t248 (ji27)) == (bt t248 (ji30))) = true := beq_iff_eq.mpr c34
                                            have c34b1 : ((bt t248 (ji27)) != (bt t248 (ji30))) = false := bne_eq_false_iff_eq.mpr c34
                                            clear c34
                                            have H' := Aside0.mk H
                                            clear H
                                            have p29 : 0 ≤ ((ji27) : Int) := of_decide_eq_true (by first | (with_reducible assumption) | assumption)
                                            have q29 : (ji27) < (t248.size : Int) := of_decide_eq_true (by first | (with_reducible assumption) | assumption)
                                            have hx29 := bt_at t248 (ji27)
                                            replace p29 := eq_true p29
                                            replace q29 := eq_true q29
                                            have p33 : 0 ≤ ((ji30) : Int) := of_decide_eq_true (by first | (with_reducible assumption) | assumption)
                                            have q33 : (ji30) < (t248.size : Int) := of_decide_eq_true (by first | (with_reducible assumption) | assumption)
                                            have hx33 := bt_at t248 (ji30)
                                            replace p33 := eq_true p33
                                            replace q33 := eq_true q33
                                            go_wp2
                                            repeat (go_quiet (fail); try go_wp2)
                                            go_roundg k5
                                            case measure => have := HJ5.out; have := HK2.out; have := HK3.out; have := HJ21.out; have := HK5.out; omega
                                            case rel => exact ⟨(wrap64 (x13_5 + 1)), (by first | rfl | (simp; done) | (simp [*]; done)), H', ⟨by have := HJ5.out; have := HK2.out; have := HK3.out; have := HJ21.out; have := HK5.out; omega⟩, ⟨by (with_reducible repeat (first | apply Kd.R_alloc | apply Kd.R_drewN | apply Kd.R_drew)); exact HO_8.out⟩, ⟨by (with_reducible repeat (first | refine blk_drewN ?_ _ | refine blk_drew ?_ | refine blk_alloc ?_ _)); exact BK256.out⟩, ⟨by repeat (first | (with_reducible first | exact HB.out | apply below_alloc | apply pw_below_drewN | apply below_drew1 | refine below_set ?_ GE256.out) | exact HB.out)⟩⟩
                                          · rw [if_neg c34] at H
                                            have c34b0 : ((bt t248 (ji27)) == (bt t248 (ji30))) = false := beq_eq_false_iff_ne.mpr c34
                                            have c34b1 : ((bt t248 (ji27)) != (bt t248 (ji30))) = true := bne_iff_ne.mpr c34
                                            by_cases c35 : x13_5 ≥ 3
                                            · rw [if_pos c35] at H
                                              have c35b0 : decide (3 ≤ x13_5) = true := decide_eq_true c35
                                              clear c35
                                              by_cases c36 : x13_5 > ((rd_T37 t252 x10_2).f1)
                                              · rw [if_pos c36] at H
                                                have c36b0 : decide (((rd_T37 t252 x10_2).f1) < x13_5) = true := decide_eq_true c36
                                                clear c36
                                                obtain rfl := Option.some.inj H
                                                have p29 : 0 ≤ ((ji27) : Int) := of_decide_eq_true (by first | (with_reducible assumption) | assumption)
                                                have q29 : (ji27) < (t248.size : Int) := of_decide_eq_true (by first | (with_reducible assumption) | assumption)
                                                have hx29 := bt_at t248 (ji27)
                                                replace p29 := eq_true p29
                                                replace q29 := eq_true q29
                                                have p33 : 0 ≤ ((ji30) : Int) := of_decide_eq_true (by first | (with_reducible assumption) | assumption)
                                                have q33 : (ji30) < (t248.size : Int) := of_decide_eq_true (by first | (with_reducible assumption) | assumption)
                                                have hx33 := bt_at t248 (ji30)
                                                replace p33 := eq_true p33
                                                replace q33 := eq_true q33
                                                have hcz37_0 : wr.cell? ⟨gb256, 0, none⟩ = some (.int .i64 ((rd_T37 t252 x10_2).f0)) := (blk_cell BK256.out 0).trans rfl
                                                have hcz37_1 : wr.cell? ⟨gb256, 1, none⟩ = some (.int .i64 ((rd_T37 t252 x10_2).f1)) := (blk_cell BK256.out 1).trans rfl
                                                have hcz37_2 : wr.cell? ⟨gb256, 2, none⟩ = some (.int .i64 ((rd_T37 t252 x10_2).f2)) := (blk_cell BK256.out 2).trans rfl
                                                have hfz37_0 := blk_frozen BK256.out 0
                                                have hfz37_1 := blk_frozen BK256.out 1
                                                have hfz37_2 := blk_frozen BK256.out 2
                                                go_wp2
                                                repeat (go_quiet (fail); try go_wp2)
                                                go_ret
                                                exact ⟨by first | rfl | (simp [errW_none, errW_some] <;> rfl) | (simp only [← hji27, ← hji30]; first | rfl | (simp [errW_none, errW_some] <;> rfl)) | (simp [*, errW_none, errW_some] <;> rfl), by repeat (first | (with_reducible first | exact HB.out | apply below_alloc | apply pw_below_drewN | apply below_drew1 | refine below_set ?_ GE256.out) | exact HB.out)⟩
                                              · rw [if_neg c36] at H
                                                have c36b0 : decide (((rd_T37 t252 x10_2).f1) < x13_5) = false := decide_eq_false c36
                                                clear c36
                                                by_cases c38 : x13_5 = ((rd_T37 t252 x10_2).f1)
                                                · rw [if_pos c38] at H
                                                  have c38b0 : (x13_5 == ((rd_T37 t252 x10_2).f1)) = true := beq_iff_eq.mpr c38
                                                  have c38b1 : (x13_5 != ((rd_T37 t252 x10_2).f1)) = false := bne_eq_false_iff_eq.mpr c38
                                                  clear c38
                                                  by_cases c39 : x12_3 < ((rd_T37 t252 x10_2).f2)
                                                  · rw [if_pos c39] at H
                                                    have c39b0 : decide (x12_3 < ((rd_T37 t252 x10_2).f2)) = true := decide_eq_true c39
                                                    clear c39
                                                    obtain rfl := Option.some.inj H
                                                    have p29 : 0 ≤ ((ji27) : Int) := of_decide_eq_true (by first | (with_reducible assumption) | assumption)
                                                    have q29 : (ji27) < (t248.size : Int) := of_decide_eq_true (by first | (with_reducible assumption) | assumption)
                                                    have hx29 := bt_at t248 (ji27)
                                                    replace p29 := eq_true p29
                                                    replace q29 := eq_true q29
                                                    have p33 : 0 ≤ ((ji30) : Int) := of_decide_eq_true (by first | (with_reducible assumption) | assumption)
                                                    have q33 : (ji30) < (t248.size : Int) := of_decide_eq_true (by first | (with_reducible assumption) | assumption)
                                                    have hx33 := bt_at t248 (ji30)
                                                    replace p33 := eq_true p33
                                                    replace q33 := eq_true q33
                                                    have hcz40_0 : wr.cell? ⟨gb256, 0, none⟩ = some (.int .i64 ((rd_T37 t252 x10_2).f0)) := (blk_cell BK256.out 0).trans rfl
                                                    have hcz40_1 : wr.cell? ⟨gb256, 1, none⟩ = some (.int .i64 ((rd_T37 t252 x10_2).f1)) := (blk_cell BK256.out 1).trans rfl
                                                    have hcz40_2 : wr.cell? ⟨gb256, 2, none⟩ = some (.int .i64 ((rd_T37 t252 x10_2).f2)) := (blk_cell BK256.out 2).trans rfl
                                                    have hfz40_0 := blk_frozen BK256.out 0
                                                    have hfz40_1 := blk_frozen BK256.out 1
                                                    have hfz40_2 := blk_frozen BK256.out 2
                                                    go_wp2
                                                    repeat (go_quiet (fail); try go_wp2)
                                                    go_ret
                                                    exact ⟨by first | rfl | (simp [errW_none, errW_some] <;> rfl) | (simp only [← hji27, ← hji30]; first | rfl | (simp [errW_none, errW_some] <;> rfl)) | (simp [*, errW_none, errW_some] <;> rfl), by repeat (first | (with_reducible first | exact HB.out | apply below_alloc | apply pw_below_drewN | apply below_drew1 | refine below_set ?_ GE256.out) | exact HB.out)⟩
                                                  · rw [if_neg c39] at H
                                                    have c39b0 : decide (x12_3 < ((rd_T37 t252 x10_2).f2)) = false := decide_eq_false c39
                                                    clear c39
                                                    have H' := Aside0.mk H
                                                    clear H
                                                    have p29 : 0 ≤ ((ji27) : Int) := of_decide_eq_true (by first | (with_reducible assumption) | assumption)
                                                    have q29 : (ji27) < (t248.size : Int) := of_decide_eq_true (by first | (with_reducible assumption) | assumption)
                                                    have hx29 := bt_at t248 (ji27)
                                                    replace p29 := eq_true p29
                                                    replace q29 := eq_true q29
                                                    have p33 : 0 ≤ ((ji30) : Int) := of_decide_eq_true (by first | (with_reducible assumption) | assumption)
                                                    have q33 : (ji30) < (t248.size : Int) := of_decide_eq_true (by first | (with_reducible assumption) | assumption)
                                                    have hx33 := bt_at t248 (ji30)
                                                    replace p33 := eq_true p33
                                                    replace q33 := eq_true q33
                                                    have hcz41_0 : wr.cell? ⟨gb256, 0, none⟩ = some (.int .i64 ((rd_T37 t252 x10_2).f0)) := (blk_cell BK256.out 0).trans rfl
                                                    have hcz41_1 : wr.cell? ⟨gb256, 1, none⟩ = some (.int .i64 ((rd_T37 t252 x10_2).f1)) := (blk_cell BK256.out 1).trans rfl
                                                    have hcz41_2 : wr.cell? ⟨gb256, 2, none⟩ = some (.int .i64 ((rd_T37 t252 x10_2).f2)) := (blk_cell BK256.out 2).trans rfl
                                                    have hfz41_0 := blk_frozen BK256.out 0
                                                    have hfz41_1 := blk_frozen BK256.out 1
                                                    have hfz41_2 := blk_frozen BK256.out 2
                                                    go_wp2
                                                    repeat (go_quiet (fail); try go_wp2)
                                                    go_roundg k5
                                                    case measure => have := HJ5.out; have := HK2.out; have := HK3.out; have := HJ21.out; have := HK5.out; omega
                                                    case rel => exact ⟨(wrap64 (x12_3 + 1)), (by first | rfl | (simp; done) | (simp [*]; done)), H', ⟨by have := HJ5.out; have := HK2.out; have := HK3.out; have := HJ21.out; have := HK5.out; omega⟩, ⟨by (with_reducible repeat (first | apply Kd.R_alloc | apply Kd.R_drewN | apply Kd.R_drew)); exact HO_8.out⟩, ⟨by (with_reducible repeat (first | refine blk_drewN ?_ _ | refine blk_drew ?_ | refine blk_alloc ?_ _)); exact BK256.out⟩, ⟨by repeat (first | (with_reducible first | exact HB.out | apply below_alloc | apply pw_below_drewN | apply below_drew1 | refine below_set ?_ GE256.out) | exact HB.out)⟩⟩
                                                · rw [if_neg c38] at H
                                                  have c38b0 : (x13_5 == ((rd_T37 t252 x10_2).f1)) = false := beq_eq_false_iff_ne.mpr c38
                                                  have c38b1 : (x13_5 != ((rd_T37 t252 x10_2).f1)) = true := bne_iff_ne.mpr c38
                                                  have H' := Aside0.mk H
                                                  clear H
                                                  have p29 : 0 ≤ ((ji27) : Int) := of_decide_eq_true (by first | (with_reducible assumption) | assumption)
                                                  have q29 : (ji27) < (t248.size : Int) := of_decide_eq_true (by first | (with_reducible assumption) | assumption)
                                                  have hx29 := bt_at t248 (ji27)
                                                  replace p29 := eq_true p29
                                                  replace q29 := eq_true q29
                                                  have p33 : 0 ≤ ((ji30) : Int) := of_decide_eq_true (by first | (with_reducible assumption) | assumption)
                                                  have q33 : (ji30) < (t248.size : Int) := of_decide_eq_true (by first | (with_reducible assumption) | assumption)
                                                  have hx33 := bt_at t248 (ji30)
                                                  replace p33 := eq_true p33
                                                  replace q33 := eq_true q33
                                                  have hcz42_0 : wr.cell? ⟨gb256, 0, none⟩ = some (.int .i64 ((rd_T37 t252 x10_2).f0)) := (blk_cell BK256.out 0).trans rfl
                                                  have hcz42_1 : wr.cell? ⟨gb256, 1, none⟩ = some (.int .i64 ((rd_T37 t252 x10_2).f1)) := (blk_cell BK256.out 1).trans rfl
                                                  have hcz42_2 : wr.cell? ⟨gb256, 2, none⟩ = some (.int .i64 ((rd_T37 t252 x10_2).f2)) := (blk_cell BK256.out 2).trans rfl
                                                  have hfz42_0 := blk_frozen BK256.out 0
                                                  have hfz42_1 := blk_frozen BK256.out 1
                                                  have hfz42_2 := blk_frozen BK256.out 2
                                                  go_wp2
                                                  repeat (go_quiet (fail); try go_wp2)
                                                  go_roundg k5
                                                  case measure => have := HJ5.out; have := HK2.out; have := HK3.out; have := HJ21.out; have := HK5.out; omega
                                                  case rel => exact ⟨(wrap64 (x12_3 + 1)), (by first | rfl | (simp; done) | (simp [*]; done)), H', ⟨by have := HJ5.out; have := HK2.out; have := HK3.out; have := HJ21.out; have := HK5.out; omega⟩, ⟨by (with_reducible repeat (first | apply Kd.R_alloc | apply Kd.R_drewN | apply Kd.R_drew)); exact HO_8.out⟩, ⟨by (with_reducible repeat (first | refine blk_drewN ?_ _ | refine blk_drew ?_ | refine blk_alloc ?_ _)); exact BK256.out⟩, ⟨by repeat (first | (with_reducible first | exact HB.out | apply below_alloc | apply pw_below_drewN | apply below_drew1 | refine below_set ?_ GE256.out) | exact HB.out)⟩⟩
                                            · rw [if_neg c35] at H
                                              have c35b0 : decide (3 ≤ x13_5) = false := decide_eq_false c35
                                              clear c35
                                              have H' := Aside0.mk H
                                              clear H
                                              have p29 : 0 ≤ ((ji27) : Int) := of_decide_eq_true (by first | (with_reducible assumption) | assumption)
                                              have q29 : (ji27) < (t248.size : Int) := of_decide_eq_true (by first | (with_reducible assumption) | assumption)
                                              have hx29 := bt_at t248 (ji27)
                                              replace p29 := eq_true p29
                                              replace q29 := eq_true q29
                                              have p33 : 0 ≤ ((ji30) : Int) := of_decide_eq_true (by first | (with_reducible assumption) | assumption)
                                              have q33 : (ji30) < (t248.size : Int) := of_decide_eq_true (by first | (with_reducible assumption) | assumption)
                                              have hx33 := bt_at t248 (ji30)
                                              replace p33 := eq_true p33
                                              replace q33 := eq_true q33
                                              go_wp2
                                              repeat (go_quiet (fail); try go_wp2)
                                              go_roundg k5
                                              case measure => have := HJ5.out; have := HK2.out; have := HK3.out; have := HJ21.out; have := HK5.out; omega
                                              case rel => exact ⟨(wrap64 (x12_3 + 1)), (by first | rfl | (simp; done) | (simp [*]; done)), H', ⟨by have := HJ5.out; have := HK2.out; have := HK3.out; have := HJ21.out; have := HK5.out; omega⟩, ⟨by (with_reducible repeat (first | apply Kd.R_alloc | apply Kd.R_drewN | apply Kd.R_drew)); exact HO_8.out⟩, ⟨by (with_reducible repeat (first | refine blk_drewN ?_ _ | refine blk_drew ?_ | refine blk_alloc ?_ _)); exact BK256.out⟩, ⟨by repeat (first | (with_reducible first | exact HB.out | apply below_alloc | apply pw_below_drewN | apply below_drew1 | refine below_set ?_ GE256.out) | exact HB.out)⟩⟩
                                        · rw [if_neg c32] at H
                                          exact absurd H (by simp)
                                      · rw [if_neg c31] at H
                                        exact absurd H (by simp)
                                    · rw [if_neg c28] at H
                                      exact absurd H (by simp)
                                  · rw [if_neg c26] at H
                                    have c26b0 : decide (x13_5 < 60) = false := decide_eq_false c26
                                    clear c26
                                    by_cases c43 : x13_5 ≥ 3
                                    · rw [if_pos c43] at H
                                      have c43b0 : decide (3 ≤ x13_5) = true := decide_eq_true c43
                                      clear c43
                                      by_cases c44 : x13_5 > ((rd_T37 t252 x10_2).f1)
                                      · rw [if_pos c44] at H
                                        have c44b0 : decide (((rd_T37 t252 x10_2).f1) < x13_5) = true := decide_eq_true c44
                                        clear c44
                                        obtain rfl := Option.some.inj H
                                        have hcz45_0 : wr.cell? ⟨gb256, 0, none⟩ = some (.int .i64 ((rd_T37 t252 x10_2).f0)) := (blk_cell BK256.out 0).trans rfl
                                        have hcz45_1 : wr.cell? ⟨gb256, 1, none⟩ = some (.int .i64 ((rd_T37 t252 x10_2).f1)) := (blk_cell BK256.out 1).trans rfl
                                        have hcz45_2 : wr.cell? ⟨gb256, 2, none⟩ = some (.int .i64 ((rd_T37 t252 x10_2).f2)) := (blk_cell BK256.out 2).trans rfl
                                        have hfz45_0 := blk_frozen BK256.out 0
                                        have hfz45_1 := blk_frozen BK256.out 1
                                        have hfz45_2 := blk_frozen BK256.out 2
                                        go_wp2
                                        repeat (go_quiet (fail); try go_wp2)
                                        go_ret
                                        exact ⟨by first | rfl | (simp [errW_none, errW_some] <;> rfl) | (simp [*, errW_none, errW_some] <;> rfl), by repeat (first | (with_reducible first | exact HB.out | apply below_alloc | apply pw_below_drewN | apply below_drew1 | refine below_set ?_ GE256.out) | exact HB.out)⟩
                                      · rw [if_neg c44] at H
                                        have c44b0 : decide (((rd_T37 t252 x10_2).f1) < x13_5) = false := decide_eq_false c44
                                        clear c44
                                        by_cases c46 : x13_5 = ((rd_T37 t252 x10_2).f1)
                                        · rw [if_pos c46] at H
                                          have c46b0 : (x13_5 == ((rd_T37 t252 x10_2).f1)) = true := beq_iff_eq.mpr c46
                                          have c46b1 : (x13_5 != ((rd_T37 t252 x10_2).f1)) = false := bne_eq_false_iff_eq.mpr c46
                                          clear c46
                                          by_cases c47 : x12_3 < ((rd_T37 t252 x10_2).f2)
                                          · rw [if_pos c47] at H
                                            have c47b0 : decide (x12_3 < ((rd_T37 t252 x10_2).f2)) = true := decide_eq_true c47
                                            clear c47
                                            obtain rfl := Option.some.inj H
                                            have hcz48_0 : wr.cell? ⟨gb256, 0, none⟩ = some (.int .i64 ((rd_T37 t252 x10_2).f0)) := (blk_cell BK256.out 0).trans rfl
                                            have hcz48_1 : wr.cell? ⟨gb256, 1, none⟩ = some (.int .i64 ((rd_T37 t252 x10_2).f1)) := (blk_cell BK256.out 1).trans rfl
                                            have hcz48_2 : wr.cell? ⟨gb256, 2, none⟩ = some (.int .i64 ((rd_T37 t252 x10_2).f2)) := (blk_cell BK256.out 2).trans rfl
                                            have hfz48_0 := blk_frozen BK256.out 0
                                            have hfz48_1 := blk_frozen BK256.out 1
                                            have hfz48_2 := blk_frozen BK256.out 2
                                            go_wp2
                                            repeat (go_quiet (fail); try go_wp2)
                                            go_ret
                                            exact ⟨by first | rfl | (simp [errW_none, errW_some] <;> rfl) | (simp [*, errW_none, errW_some] <;> rfl), by repeat (first | (with_reducible first | exact HB.out | apply below_alloc | apply pw_below_drewN | apply below_drew1 | refine below_set ?_ GE256.out) | exact HB.out)⟩
                                          · rw [if_neg c47] at H
                                            have c47b0 : decide (x12_3 < ((rd_T37 t252 x10_2).f2)) = false := decide_eq_false c47
                                            clear c47
                                            have H' := Aside0.mk H
                                            clear H
                                            have hcz49_0 : wr.cell? ⟨gb256, 0, none⟩ = some (.int .i64 ((rd_T37 t252 x10_2).f0)) := (blk_cell BK256.out 0).trans rfl
                                            have hcz49_1 : wr.cell? ⟨gb256, 1, none⟩ = some (.int .i64 ((rd_T37 t252 x10_2).f1)) := (blk_cell BK256.out 1).trans rfl
                                            have hcz49_2 : wr.cell? ⟨gb256, 2, none⟩ = some (.int .i64 ((rd_T37 t252 x10_2).f2)) := (blk_cell BK256.out 2).trans rfl
                                            have hfz49_0 := blk_frozen BK256.out 0
                                            have hfz49_1 := blk_frozen BK256.out 1
                                            have hfz49_2 := blk_frozen BK256.out 2
                                            go_wp2
                                            repeat (go_quiet (fail); try go_wp2)
                                            go_roundg k5
                                            case measure => have := HJ5.out; have := HK2.out; have := HK3.out; have := HJ21.out; have := HK5.out; omega
                                            case rel => exact ⟨(wrap64 (x12_3 + 1)), (by first | rfl | (simp; done) | (simp [*]; done)), H', ⟨by have := HJ5.out; have := HK2.out; have := HK3.out; have := HJ21.out; have := HK5.out; omega⟩, ⟨by (with_reducible repeat (first | apply Kd.R_alloc | apply Kd.R_drewN | apply Kd.R_drew)); exact HO_8.out⟩, ⟨by (with_reducible repeat (first | refine blk_drewN ?_ _ | refine blk_drew ?_ | refine blk_alloc ?_ _)); exact BK256.out⟩, ⟨by repeat (first | (with_reducible first | exact HB.out | apply below_alloc | apply pw_below_drewN | apply below_drew1 | refine below_set ?_ GE256.out) | exact HB.out)⟩⟩
                                        · rw [if_neg c46] at H
                                          have c46b0 : (x13_5 == ((rd_T37 t252 x10_2).f1)) = false := beq_eq_false_iff_ne.mpr c46
                                          have c46b1 : (x13_5 != ((rd_T37 t252 x10_2).f1)) = true := bne_iff_ne.mpr c46
                                          have H' := Aside0.mk H
                                          clear H
                                          have hcz50_0 : wr.cell? ⟨gb256, 0, none⟩ = some (.int .i64 ((rd_T37 t252 x10_2).f0)) := (blk_cell BK256.out 0).trans rfl
                                          have hcz50_1 : wr.cell? ⟨gb256, 1, none⟩ = some (.int .i64 ((rd_T37 t252 x10_2).f1)) := (blk_cell BK256.out 1).trans rfl
                                          have hcz50_2 : wr.cell? ⟨gb256, 2, none⟩ = some (.int .i64 ((rd_T37 t252 x10_2).f2)) := (blk_cell BK256.out 2).trans rfl
                                          have hfz50_0 := blk_frozen BK256.out 0
                                          have hfz50_1 := blk_frozen BK256.out 1
                                          have hfz50_2 := blk_frozen BK256.out 2
                                          go_wp2
                                          repeat (go_quiet (fail); try go_wp2)
                                          go_roundg k5
                                          case measure => have := HJ5.out; have := HK2.out; have := HK3.out; have := HJ21.out; have := HK5.out; omega
                                          case rel => exact ⟨(wrap64 (x12_3 + 1)), (by first | rfl | (simp; done) | (simp [*]; done)), H', ⟨by have := HJ5.out; have := HK2.out; have := HK3.out; have := HJ21.out; have := HK5.out; omega⟩, ⟨by (with_reducible repeat (first | apply Kd.R_alloc | apply Kd.R_drewN | apply Kd.R_drew)); exact HO_8.out⟩, ⟨by (with_reducible repeat (first | refine blk_drewN ?_ _ | refine blk_drew ?_ | refine blk_alloc ?_ _)); exact BK256.out⟩, ⟨by repeat (first | (with_reducible first | exact HB.out | apply below_alloc | apply pw_below_drewN | apply below_drew1 | refine below_set ?_ GE256.out) | exact HB.out)⟩⟩
                                    · rw [if_neg c43] at H
                                      have c43b0 : decide (3 ≤ x13_5) = false := decide_eq_false c43
                                      clear c43
                                      have H' := Aside0.mk H
                                      clear H
                                      go_wp2
                                      repeat (go_quiet (fail); try go_wp2)
                                      go_roundg k5
                                      case measure => have := HJ5.out; have := HK2.out; have := HK3.out; have := HJ21.out; have := HK5.out; omega
                                      case rel => exact ⟨(wrap64 (x12_3 + 1)), (by first | rfl | (simp; done) | (simp [*]; done)), H', ⟨by have := HJ5.out; have := HK2.out; have := HK3.out; have := HJ21.out; have := HK5.out; omega⟩, ⟨by (with_reducible repeat (first | apply Kd.R_alloc | apply Kd.R_drewN | apply Kd.R_drew)); exact HO_8.out⟩, ⟨by (with_reducible repeat (first | refine blk_drewN ?_ _ | refine blk_drew ?_ | refine blk_alloc ?_ _)); exact BK256.out⟩, ⟨by repeat (first | (with_reducible first | exact HB.out | apply below_alloc | apply pw_below_drewN | apply below_drew1 | refine below_set ?_ GE256.out) | exact HB.out)⟩⟩
                                · rw [if_neg c25] at H
                                  have c25b0 : decide ((wrap64 (x9_2 + x13_5)) < (t248.size : Int)) = false := decide_eq_false c25
                                  clear c25
                                  by_cases c51 : x13_5 ≥ 3
                                  · rw [if_pos c51] at H
                                    have c51b0 : decide (3 ≤ x13_5) = true := decide_eq_true c51
                                    clear c51
                                    by_cases c52 : x13_5 > ((rd_T37 t252 x10_2).f1)
                                    · rw [if_pos c52] at H
                                      have c52b0 : decide (((rd_T37 t252 x10_2).f1) < x13_5) = true := decide_eq_true c52
                                      clear c52
                                      obtain rfl := Option.some.inj H
                                      have hcz53_0 : wr.cell? ⟨gb256, 0, none⟩ = some (.int .i64 ((rd_T37 t252 x10_2).f0)) := (blk_cell BK256.out 0).trans rfl
                                      have hcz53_1 : wr.cell? ⟨gb256, 1, none⟩ = some (.int .i64 ((rd_T37 t252 x10_2).f1)) := (blk_cell BK256.out 1).trans rfl
                                      have hcz53_2 : wr.cell? ⟨gb256, 2, none⟩ = some (.int .i64 ((rd_T37 t252 x10_2).f2)) := (blk_cell BK256.out 2).trans rfl
                                      have hfz53_0 := blk_frozen BK256.out 0
                                      have hfz53_1 := blk_frozen BK256.out 1
                                      have hfz53_2 := blk_frozen BK256.out 2
                                      go_wp2
                                      repeat (go_quiet (fail); try go_wp2)
                                      go_ret
                                      exact ⟨by first | rfl | (simp [errW_none, errW_some] <;> rfl) | (simp [*, errW_none, errW_some] <;> rfl), by repeat (first | (with_reducible first | exact HB.out | apply below_alloc | apply pw_below_drewN | apply below_drew1 | refine below_set ?_ GE256.out) | exact HB.out)⟩
                                    · rw [if_neg c52] at H
                                      have c52b0 : decide (((rd_T37 t252 x10_2).f1) < x13_5) = false := decide_eq_false c52
                                      clear c52
                                      by_cases c54 : x13_5 = ((rd_T37 t252 x10_2).f1)
                                      · rw [if_pos c54] at H
                                        have c54b0 : (x13_5 == ((rd_T37 t252 x10_2).f1)) = true := beq_iff_eq.mpr c54
                                        have c54b1 : (x13_5 != ((rd_T37 t252 x10_2).f1)) = false := bne_eq_false_iff_eq.mpr c54
                                        clear c54
                                        by_cases c55 : x12_3 < ((rd_T37 t252 x10_2).f2)
                                        · rw [if_pos c55] at H
                                          have c55b0 : decide (x12_3 < ((rd_T37 t252 x10_2).f2)) = true := decide_eq_true c55
                                          clear c55
                                          obtain rfl := Option.some.inj H
                                          have hcz56_0 : wr.cell? ⟨gb256, 0, none⟩ = some (.int .i64 ((rd_T37 t252 x10_2).f0)) := (blk_cell BK256.out 0).trans rfl
                                          have hcz56_1 : wr.cell? ⟨gb256, 1, none⟩ = some (.int .i64 ((rd_T37 t252 x10_2).f1)) := (blk_cell BK256.out 1).trans rfl
                                          have hcz56_2 : wr.cell? ⟨gb256, 2, none⟩ = some (.int .i64 ((rd_T37 t252 x10_2).f2)) := (blk_cell BK256.out 2).trans rfl
                                          have hfz56_0 := blk_frozen BK256.out 0
                                          have hfz56_1 := blk_frozen BK256.out 1
                                          have hfz56_2 := blk_frozen BK256.out 2
                                          go_wp2
                                          repeat (go_quiet (fail); try go_wp2)
                                          go_ret
                                          exact ⟨by first | rfl | (simp [errW_none, errW_some] <;> rfl) | (simp [*, errW_none, errW_some] <;> rfl), by repeat (first | (with_reducible first | exact HB.out | apply below_alloc | apply pw_below_drewN | apply below_drew1 | refine below_set ?_ GE256.out) | exact HB.out)⟩
                                        · rw [if_neg c55] at H
                                          have c55b0 : decide (x12_3 < ((rd_T37 t252 x10_2).f2)) = false := decide_eq_false c55
                                          clear c55
                                          have H' := Aside0.mk H
                                          clear H
                                          have hcz57_0 : wr.cell? ⟨gb256, 0, none⟩ = some (.int .i64 ((rd_T37 t252 x10_2).f0)) := (blk_cell BK256.out 0).trans rfl
                                          have hcz57_1 : wr.cell? ⟨gb256, 1, none⟩ = some (.int .i64 ((rd_T37 t252 x10_2).f1)) := (blk_cell BK256.out 1).trans rfl
                                          have hcz57_2 : wr.cell? ⟨gb256, 2, none⟩ = some (.int .i64 ((rd_T37 t252 x10_2).f2)) := (blk_cell BK256.out 2).trans rfl
                                          have hfz57_0 := blk_frozen BK256.out 0
                                          have hfz57_1 := blk_frozen BK256.out 1
                                          have hfz57_2 := blk_frozen BK256.out 2
                                          go_wp2
                                          repeat (go_quiet (fail); try go_wp2)
                                          go_roundg k5
                                          case measure => have := HJ5.out; have := HK2.out; have := HK3.out; have := HJ21.out; have := HK5.out; omega
                                          case rel => exact ⟨(wrap64 (x12_3 + 1)), (by first | rfl | (simp; done) | (simp [*]; done)), H', ⟨by have := HJ5.out; have := HK2.out; have := HK3.out; have := HJ21.out; have := HK5.out; omega⟩, ⟨by (with_reducible repeat (first | apply Kd.R_alloc | apply Kd.R_drewN | apply Kd.R_drew)); exact HO_8.out⟩, ⟨by (with_reducible repeat (first | refine blk_drewN ?_ _ | refine blk_drew ?_ | refine blk_alloc ?_ _)); exact BK256.out⟩, ⟨by repeat (first | (with_reducible first | exact HB.out | apply below_alloc | apply pw_below_drewN | apply below_drew1 | refine below_set ?_ GE256.out) | exact HB.out)⟩⟩
                                      · rw [if_neg c54] at H
                                        have c54b0 : (x13_5 == ((rd_T37 t252 x10_2).f1)) = false := beq_eq_false_iff_ne.mpr c54
                                        have c54b1 : (x13_5 != ((rd_T37 t252 x10_2).f1)) = true := bne_iff_ne.mpr c54
                                        have H' := Aside0.mk H
                                        clear H
                                        have hcz58_0 : wr.cell? ⟨gb256, 0, none⟩ = some (.int .i64 ((rd_T37 t252 x10_2).f0)) := (blk_cell BK256.out 0).trans rfl
                                        have hcz58_1 : wr.cell? ⟨gb256, 1, none⟩ = some (.int .i64 ((rd_T37 t252 x10_2).f1)) := (blk_cell BK256.out 1).trans rfl
                                        have hcz58_2 : wr.cell? ⟨gb256, 2, none⟩ = some (.int .i64 ((rd_T37 t252 x10_2).f2)) := (blk_cell BK256.out 2).trans rfl
                                        have hfz58_0 := blk_frozen BK256.out 0
                                        have hfz58_1 := blk_frozen BK256.out 1
                                        have hfz58_2 := blk_frozen BK256.out 2
                                        go_wp2
                                        repeat (go_quiet (fail); try go_wp2)
                                        go_roundg k5
                                        case measure => have := HJ5.out; have := HK2.out; have := HK3.out; have := HJ21.out; have := HK5.out; omega
                                        case rel => exact ⟨(wrap64 (x12_3 + 1)), (by first | rfl | (simp; done) | (simp [*]; done)), H', ⟨by have := HJ5.out; have := HK2.out; have := HK3.out; have := HJ21.out; have := HK5.out; omega⟩, ⟨by (with_reducible repeat (first | apply Kd.R_alloc | apply Kd.R_drewN | apply Kd.R_drew)); exact HO_8.out⟩, ⟨by (with_reducible repeat (first | refine blk_drewN ?_ _ | refine blk_drew ?_ | refine blk_alloc ?_ _)); exact BK256.out⟩, ⟨by repeat (first | (with_reducible first | exact HB.out | apply below_alloc | apply pw_below_drewN | apply below_drew1 | refine below_set ?_ GE256.out) | exact HB.out)⟩⟩
                                  · rw [if_neg c51] at H
                                    have c51b0 : decide (3 ≤ x13_5) = false := decide_eq_false c51
                                    clear c51
                                    have H' := Aside0.mk H
                                    clear H
                                    go_wp2
                                    repeat (go_quiet (fail); try go_wp2)
                                    go_roundg k5
                                    case measure => have := HJ5.out; have := HK2.out; have := HK3.out; have := HJ21.out; have := HK5.out; omega
                                    case rel => exact ⟨(wrap64 (x12_3 + 1)), (by first | rfl | (simp; done) | (simp [*]; done)), H', ⟨by have := HJ5.out; have := HK2.out; have := HK3.out; have := HJ21.out; have := HK5.out; omega⟩, ⟨by (with_reducible repeat (first | apply Kd.R_alloc | apply Kd.R_drewN | apply Kd.R_drew)); exact HO_8.out⟩, ⟨by (with_reducible repeat (first | refine blk_drewN ?_ _ | refine blk_drew ?_ | refine blk_alloc ?_ _)); exact BK256.out⟩, ⟨by repeat (first | (with_reducible first | exact HB.out | apply below_alloc | apply pw_below_drewN | apply below_drew1 | refine below_set ?_ GE256.out) | exact HB.out)⟩⟩
                          · replace c24 := Bool.eq_false_iff.mpr c24
                            subst c24
                            have H1 : (if ((rd_T37 t252 x10_2).f1) = 0 then (laws_FnTokensBest.l0 kj21 t248 t252 (wrap64 (x9_2 + 1)) (wrap64 (x10_2 + 1))) else (laws_FnTokensBest.l0 kj21 t248 t252 (wrap64 (x9_2 + ((rd_T37 t252 x10_2).f1))) (wrap64 (x10_2 + 1)))) = some r := by rw [if_neg (show ¬ (false = true) by decide)] at H; exact H
                            clear H
                            have H := H1
                            clear H1
                            by_cases c59 : ((rd_T37 t252 x10_2).f1) = 0
                            · rw [if_pos c59] at H
                              have c59b0 : (((rd_T37 t252 x10_2).f1) == 0) = true := beq_iff_eq.mpr c59
                              have c59b1 : (((rd_T37 t252 x10_2).f1) != 0) = false := bne_eq_false_iff_eq.mpr c59
                              clear c59
                              have H' := Aside0.mk H
                              clear H
                              have hcz60_0 : wc.cell? ⟨gb256, 0, none⟩ = some (.int .i64 ((rd_T37 t252 x10_2).f0)) := (blk_cell BK256.out 0).trans rfl
                              have hcz60_1 : wc.cell? ⟨gb256, 1, none⟩ = some (.int .i64 ((rd_T37 t252 x10_2).f1)) := (blk_cell BK256.out 1).trans rfl
                              have hcz60_2 : wc.cell? ⟨gb256, 2, none⟩ = some (.int .i64 ((rd_T37 t252 x10_2).f2)) := (blk_cell BK256.out 2).trans rfl
                              have hfz60_0 := blk_frozen BK256.out 0
                              have hfz60_1 := blk_frozen BK256.out 1
                              have hfz60_2 := blk_frozen BK256.out 2
                              go_wp2
                              repeat (go_quiet (fail); try go_wp2)
                              go_roundg kj21
                              case measure => have := HJ5.out; have := HK2.out; have := HK3.out; have := HJ21.out; omega
                              case rel => exact ⟨(wrap64 (x9_2 + 1)), (wrap64 (x10_2 + 1)), (by first | rfl | (simp; done) | (simp [*]; done)), (by first | rfl | (simp; done) | (simp [*]; done)), H', ⟨by have := HJ5.out; have := HK2.out; have := HK3.out; have := HJ21.out; omega⟩, ⟨by (with_reducible repeat (first | apply Kd.R_alloc | apply Kd.R_drewN | apply Kd.R_drew)); exact Kd.R_mono HO_8.out (fun _ hk => trivial)⟩, ⟨by repeat (first | (with_reducible first | exact HB.out | apply below_alloc | apply pw_below_drewN | apply below_drew1 | refine below_set ?_ GE256.out) | exact HB.out)⟩⟩
                            · rw [if_neg c59] at H
                              have c59b0 : (((rd_T37 t252 x10_2).f1) == 0) = false := beq_eq_false_iff_ne.mpr c59
                              have c59b1 : (((rd_T37 t252 x10_2).f1) != 0) = true := bne_iff_ne.mpr c59
                              have H' := Aside0.mk H
                              clear H
                              have hcz61_0 : wc.cell? ⟨gb256, 0, none⟩ = some (.int .i64 ((rd_T37 t252 x10_2).f0)) := (blk_cell BK256.out 0).trans rfl
                              have hcz61_1 : wc.cell? ⟨gb256, 1, none⟩ = some (.int .i64 ((rd_T37 t252 x10_2).f1)) := (blk_cell BK256.out 1).trans rfl
                              have hcz61_2 : wc.cell? ⟨gb256, 2, none⟩ = some (.int .i64 ((rd_T37 t252 x10_2).f2)) := (blk_cell BK256.out 2).trans rfl
                              have hfz61_0 := blk_frozen BK256.out 0
                              have hfz61_1 := blk_frozen BK256.out 1
                              have hfz61_2 := blk_frozen BK256.out 2
                              go_wp2
                              repeat (go_quiet (fail); try go_wp2)
                              go_roundg kj21
                              case measure => have := HJ5.out; have := HK2.out; have := HK3.out; have := HJ21.out; omega
                              case rel => exact ⟨(wrap64 (x9_2 + ((rd_T37 t252 x10_2).f1))), (wrap64 (x10_2 + 1)), (by first | rfl | (simp; done) | (simp [*]; done)), (by first | rfl | (simp; done) | (simp [*]; done)), H', ⟨by have := HJ5.out; have := HK2.out; have := HK3.out; have := HJ21.out; omega⟩, ⟨by (with_reducible repeat (first | apply Kd.R_alloc | apply Kd.R_drewN | apply Kd.R_drew)); exact Kd.R_mono HO_8.out (fun _ hk => trivial)⟩, ⟨by repeat (first | (with_reducible first | exact HB.out | apply below_alloc | apply pw_below_drewN | apply below_drew1 | refine below_set ?_ GE256.out) | exact HB.out)⟩⟩
                · rw [if_neg c18] at H
                  exact absurd H (by simp)
              · rw [if_neg c17] at H
                have c17b0 : decide (x10_2 < (t252.length : Int)) = false := decide_eq_false c17
                clear c17
                obtain rfl := Option.some.inj H
                obtain ⟨Ao62, co62, eo62⟩ := Kd.R_slice HO_8.out
                subst eo62
                go_wp2
                repeat (go_quiet (fail); try go_wp2)
                go_ret
                exact ⟨by first | rfl | (simp [errW_none, errW_some] <;> rfl) | (simp [*, errW_none, errW_some] <;> rfl), by repeat (first | (with_reducible first | exact HB.out | apply below_alloc | apply pw_below_drewN | apply below_drew1) | exact HB.out)⟩

/-- THE ONE PURE STATEMENT of laws_FnTokensBest: yours. -/
def laws_FnTokensBest.Pure : Prop := ∀ (l0 : List Int), l0.length ≤ maxLen → l0.length * 1 ≤ 140737488351232 → (∀ x ∈ l0, (Lit.int .u8 x).wf = true) → ∃ k, laws_FnTokensBest.f k l0 = some true
theorem laws_FnTokensBest.walk (P : laws_FnTokensBest.Pure) (a0 : Option Addr) (len0 cap0 : Nat) (z0 : List Int) (w : World) (w0 : (a0 = none ∧ len0 = 0 ∧ cap0 = 0 ∧ z0 = []) ∨ ∃ x, a0 = some x ∧ len0 ≤ cap0 ∧ cap0 ≤ maxLen ∧ z0.length = cap0 ∧ (∀ i, i < z0.length → w.cell? (x.add i) = some (.int .u8 (z0.getD i 0))) ∧ ∀ n ∈ z0, (Lit.int .u8 n).wf = true) (y0 : len0 * 1 ≤ 140737488351232) :
    Calls Try.prog 13 #[.slice a0 len0 cap0] w fun e w' => e = .returned (.bool true) ∧ Below w.heap.size w w' := by
  obtain ⟨l0, rfl, hr0, hm0, hw0, hc0⟩ := ReadsInt.ofRowC w0
  obtain ⟨k, h⟩ := P l0 hm0 y0 hw0
  refine (laws_FnTokensBest.calls k _ _ l0 true w (Kd.C_of_reads (d := (0 : Int)) (h1 := fun _ => rfl) hr0) hc0 h).mono ?_
  rintro e w' ⟨rfl, hd⟩
  exact ⟨rfl, hd⟩

end Go.Proofs.Ytnfeedalbfflhaa.PFnTokensBest
