/- The walk of the law FnStampDays: at every input it returns true and keeps what was. No condition beyond the sizes that every row has. -/
import Derived.Test.YtmkhhpnagmkgeaaPFnStampDaysx1
import Derived.Test.YtmkhhpnagmkgeaaPFnStampDaysx2
import Derived.Test.YtmkhhpnagmkgeaaPFnStampDaysx3
import Derived.Laws.BitsLemmas
import Derived.Test.YtmkhhpnagmkgeaaMem
import Derived.Lib.Hide
namespace Go.Proofs.Ytmkhhpnagmkgeaa.StampDays
open Go.RowKit Go.Proofs.Ytmkhhpnagmkgeaa.Mem Go.Proofs.Ytmkhhpnagmkgeaa.PFnStampDays Go.Proofs.YtmkhhpnagmkgeaaW.PrintWords Go.Proofs.YtmkhhpnagmkgeaaW.PrintLast Go.Proofs.YtmkhhpnagmkgeaaW.PrintMore
set_option linter.unusedVariables false
theorem w64 {x : Int} (h1 : -9223372036854775808 ≤ x) (h2 : x < 9223372036854775808) : wrap64 x = x := by unfold wrap64; omega
theorem wr_i64 (n : Int) (h₀ : 0 ≤ n) (h₁ : n < 2 ^ 63) : IntKind.i64.wrap n = n := by rw [IntKind.wrap_i64]; omega
theorem and_mask (i : Nat) (hi : i ≤ 63) {x m : Int} (hm : m = 2 ^ i - 1) (h0 : 0 ≤ x) (h1 : x < 9223372036854775808) : Go.bits .and .i64 x m = x % 2 ^ i := by
  subst hm
  exact bits_mask .i64 63 (by decide) wr_i64 i hi x h0 (by omega)
theorem or_add (i : Nat) {x y : Int} (h0 : 0 ≤ x) (hx : x % 2 ^ i = 0) (h1 : x < 9223372036854775808) (y0 : 0 ≤ y) (y1 : y < 2 ^ i) (y2 : y < 9223372036854775808) : Go.bits .or .i64 x y = x + y :=
  bits_join .i64 63 (by decide) wr_i64 i x y h0 hx (by omega) y0 y1 (by omega)
theorem or_comm (x y : Int) : Go.bits .or .i64 x y = Go.bits .or .i64 y x := by
  simp only [Go.bits]; rw [BitVec.or_comm]
theorem or_lo (i : Nat) {x y : Int} (x0 : 0 ≤ x) (x1 : x < 2 ^ i) (x2 : x < 9223372036854775808) (h0 : 0 ≤ y) (hy : y % 2 ^ i = 0) (h1 : y < 9223372036854775808) : Go.bits .or .i64 x y = x + y := by
  rw [or_comm, or_add i h0 hy h1 x0 x1 x2]; omega
def dd (y m : Int) : Int := if m = 4 then 30 else if m = 6 then 30 else if m = 9 then 30 else if m = 11 then 30 else if m = 2 then (if Int.tmod y 4 = 0 then (if Int.tmod y 100 = 0 then (if Int.tmod y 400 = 0 then 29 else 28) else 29) else 28) else 31
theorem days_eq (k : Nat) (y m : Int) : spec_l6Days.f (k + 1) y m = some (dd y m) := by
  unfold spec_l6Days.f dd
  simp only [spec_l6Days.j0]
  by_cases h4 : m = 4
  · subst h4; simp
  by_cases h6 : m = 6
  · subst h6; simp
  by_cases h9 : m = 9
  · subst h9; simp
  by_cases h11 : m = 11
  · subst h11; simp
  have e : (m == 11) = false := by simp [h11]
  simp only [h4, h6, h9, h11, e, if_false]
  by_cases h2 : m = 2
  · simp only [h2, if_true]
    by_cases a : Int.tmod y 4 = 0 <;> by_cases b : Int.tmod y 100 = 0 <;> by_cases c : Int.tmod y 400 = 0 <;> simp [a, b, c]
  · simp [h2]
theorem dd_le (y m : Int) : dd y m ≤ 31 := by unfold dd; repeat' split
                                              all_goals omega
theorem in_eq (a b c : Int) : spec_l1In.f a b c = some (decide (b ≤ a ∧ a ≤ c)) := by
  unfold spec_l1In.f
  by_cases h : a ≥ b
  · have h' : b ≤ a := h
    rw [if_pos h]; simp [h']
  · have h' : ¬ b ≤ a := h
    rw [if_neg h]; simp [h']
def okp (y m d h mi s : Int) : Prop := (1980 ≤ y ∧ y ≤ 2107) ∧ (1 ≤ m ∧ m ≤ 12) ∧ (1 ≤ d ∧ d ≤ dd y m) ∧ (0 ≤ h ∧ h ≤ 23) ∧ (0 ≤ mi ∧ mi ≤ 59) ∧ (0 ≤ s ∧ s ≤ 58) ∧ Int.tmod s 2 = 0
instance decOkp (y m d h mi s : Int) : Decidable (okp y m d h mi s) := by unfold okp; infer_instance
theorem sok_eq (k : Nat) (y m d h mi s : Int) : spec_StampOk.f (k + 1) y m d h mi s = some (decide (okp y m d h mi s)) := by
  unfold spec_StampOk.f okp
  simp only [in_eq, days_eq, Option.bind_some, decide_eq_true_eq]
  by_cases h1 : 1980 ≤ y ∧ y ≤ 2107
  rotate_left
  · rw [if_neg h1]; simp [h1]
  by_cases h2 : 1 ≤ m ∧ m ≤ 12
  rotate_left
  · rw [if_pos h1, if_neg h2]; simp [h2]
  by_cases h3 : 1 ≤ d ∧ d ≤ dd y m
  rotate_left
  · rw [if_pos h1, if_pos h2, if_neg h3]; simp [h3]
  by_cases h4 : 0 ≤ h ∧ h ≤ 23
  rotate_left
  · rw [if_pos h1, if_pos h2, if_pos h3, if_neg h4]; simp [h4]
  by_cases h5 : 0 ≤ mi ∧ mi ≤ 59
  rotate_left
  · rw [if_pos h1, if_pos h2, if_pos h3, if_pos h4, if_neg h5]; simp [h5]
  by_cases h6 : 0 ≤ s ∧ s ≤ 58
  rotate_left
  · rw [if_pos h1, if_pos h2, if_pos h3, if_pos h4, if_pos h5, if_neg h6]; simp [h6]
  rw [if_pos h1, if_pos h2, if_pos h3, if_pos h4, if_pos h5, if_pos h6]
  have e : (Int.tmod s 2 == 0) = decide (Int.tmod s 2 = 0) := by rw [Bool.eq_iff_iff]; simp
  rw [e]
  congr 1
  exact decide_eq_decide.2 ⟨fun t => ⟨h1, h2, h3, h4, h5, h6, t⟩, fun t => t.2.2.2.2.2.2⟩
theorem iok_eq (k : Nat) (y m d h mi s : Int) : impl_StampOk.f (k + 1) y m d h mi s = some (decide (okp y m d h mi s)) :=
  (show impl_StampOk.f (k + 1) y m d h mi s = spec_StampOk.f (k + 1) y m d h mi s from rfl).trans (sok_eq k y m d h mi s)

def cnt (D : Int) (k : Nat) : Int := if (k : Int) ≤ 1 then 0 else if (k : Int) ≤ D + 1 then (k : Int) - 1 else D
theorem cnt_yes {D : Int} {k : Nat} (h1 : 1 ≤ (k : Int)) (h2 : (k : Int) ≤ D) : cnt D (k + 1) = cnt D k + 1 := by
  unfold cnt
  repeat' split
  all_goals omega
theorem cnt_no {D : Int} {k : Nat} (hD : 1 ≤ D) (h : ¬ (1 ≤ (k : Int) ∧ (k : Int) ≤ D)) : cnt D (k + 1) = cnt D k := by
  unfold cnt
  repeat' split
  all_goals omega
theorem cnt_bd {D : Int} {k : Nat} (h0 : 0 ≤ D) (h : D ≤ 31) : 0 ≤ cnt D k ∧ cnt D k ≤ 31 := by
  unfold cnt
  repeat' split
  all_goals omega
def Told (w : World) (v : Value) (e : Ending) (w' : World) : Prop := e = .returned v ∧ On w w'
set_option maxRecDepth 100000 in
set_option maxHeartbeats 4000000 in
theorem law_ok (A0 : Option Addr) (c0 : Nat) (l0 : List Int) (w : World) (hr0 : Kd.C (Kd.int .u8) w A0 l0.length l0) (hc0 : l0.length ≤ c0) (hlen : (l0.length : Int) ≤ 1048576) (y m d h mi s : Int) (hd : spec_DrawStampOk.f 2 l0 = some (y, m, d, h, mi, s)) (ok : okp y m d h mi s) :
    Calls Try.prog 5 #[.slice A0 l0.length c0] w (Told w (.bool true)) := by
  have HD := Lib.hid hd
  have HI := Lib.hid (iok_eq 0 y m d h mi s)
  have HS := Lib.hid (sok_eq 0 y m d h mi s)
  have OK := Lib.hid (show decide (okp y m d h mi s) = true from by simpa using ok)
  have HOK := Lib.hid ok
  clear hd ok
  have HR := Lib.hid hr0
  clear hr0
  go_enter Try.func5, Try.ntmps5
  go_wp2_with fail
  refine (spec_DrawStampOk.calls 2 _ _ _ _ _ _ _ _ _ _ HR.out hc0 HD.out).mono ?_
  rintro e w1 ⟨rfl, hb⟩
  have O := (Below.on hb).alloc (.cells #[.int .i64 y, .int .i64 m, .int .i64 d, .int .i64 h, .int .i64 mi, .int .i64 s] 25)
  have B := Blk.new w1 25 #[.int .i64 y, .int .i64 m, .int .i64 d, .int .i64 h, .int .i64 mi, .int .i64 s]
  have Hg : Hid (w.heap.size ≤ w1.heap.size) := Lib.hid hb.size
  clear hb
  go_wp2_with fail
  refine (impl_StampOk.calls 1 _ _ _ _ _ _ _ _ HI.out).mono ?_
  rintro e w2 ⟨rfl, hb⟩
  replace O := O.call (Below.on hb)
  replace B := B.call hb
  clear hb
  rw [OK.out]
  have c0 : w2.cell? ⟨w1.heap.size, 0, none⟩ = some _ := (B.cell 0).trans rfl
  have c1 : w2.cell? ⟨w1.heap.size, 1, none⟩ = some _ := (B.cell 1).trans rfl
  have c2 : w2.cell? ⟨w1.heap.size, 2, none⟩ = some _ := (B.cell 2).trans rfl
  have c3 : w2.cell? ⟨w1.heap.size, 3, none⟩ = some _ := (B.cell 3).trans rfl
  have c4 : w2.cell? ⟨w1.heap.size, 4, none⟩ = some _ := (B.cell 4).trans rfl
  have c5 : w2.cell? ⟨w1.heap.size, 5, none⟩ = some _ := (B.cell 5).trans rfl
  go_wp2_with fail
  refine (spec_StampOk.calls 1 _ _ _ _ _ _ _ _ HS.out).mono ?_
  rintro e w3 ⟨rfl, hb⟩
  replace O := O.call (Below.on hb)
  replace B := B.call hb
  clear hb c0 c1 c2 c3 c4 c5
  rw [OK.out]
  go_wp2_with fail
  have hD := dd_le y m
  have hd1 : 1 ≤ dd y m := by have := HOK.out.2.2.1; omega
  generalize hDD : dd y m = D at *
  have HDD := Lib.hid hDD
  clear hDD
  go_loopw [5, 6] (fun c x wr => ∃ k : Nat, k ≤ 41 ∧ x = .int .i64 k ∧ c = .int .i64 (cnt D k) ∧ Blk wr w1.heap.size 25 #[.int .i64 y, .int .i64 m, .int .i64 d, .int .i64 h, .int .i64 mi, .int .i64 s] ∧ On w wr) (fun _ x _ => 41 - (intOf x).toNat)
  case atStart => exact ⟨0, by omega, rfl, rfl, B, O⟩
  case round =>
    obtain ⟨k, hk, rfl, rfl, B, O⟩ := hrel
    have cb := cnt_bd (D := D) (k := k) (by omega) hD
    by_cases hlt : k < 41
    · have c0 : wr.cell? ⟨w1.heap.size, 0, none⟩ = some _ := (B.cell 0).trans rfl
      have c1 : wr.cell? ⟨w1.heap.size, 1, none⟩ = some _ := (B.cell 1).trans rfl
      have c2 : wr.cell? ⟨w1.heap.size, 2, none⟩ = some _ := (B.cell 2).trans rfl
      have c3 : wr.cell? ⟨w1.heap.size, 3, none⟩ = some _ := (B.cell 3).trans rfl
      have c4 : wr.cell? ⟨w1.heap.size, 4, none⟩ = some _ := (B.cell 4).trans rfl
      have c5 : wr.cell? ⟨w1.heap.size, 5, none⟩ = some _ := (B.cell 5).trans rfl
      have lt := B.lt
      have h40 : (k : Int) ≤ 40 := by omega
      by_cases hv : 1 ≤ (k : Int) ∧ (k : Int) ≤ D
      · have hv1 : okp y m k h mi s := by
          have o := HOK.out
          exact ⟨o.1, o.2.1, ⟨hv.1, by rw [HDD.out]; exact hv.2⟩, o.2.2.2⟩
        have HI := Lib.hid (iok_eq 0 y m k h mi s)
        have OK := Lib.hid (show decide (okp y m k h mi s) = true from by simpa using hv1)
        have HC := Lib.hid (cnt_yes hv.1 hv.2)
        clear hv1 hv
        go_wp2_with fail
        refine (impl_StampOk.calls 1 _ _ _ _ _ _ _ _ HI.out).mono ?_
        rintro e w4 ⟨rfl, hb⟩
        rw [OK.out]
        replace B := (B.alloc _).call hb
        replace O := (O.alloc _).call (Below.on hb)
        clear hb c0 c1 c2 c3 c4 c5
        go_wp2_with fail
        go_roundw
        case rel => exact ⟨k + 1, by omega, by go_num, by rw [HC.out], B, O⟩
        case measure => simp [intOf]; omega
      · have hv1 : ¬ okp y m k h mi s := fun o => hv (by rw [← HDD.out]; exact o.2.2.1)
        have HI := Lib.hid (iok_eq 0 y m k h mi s)
        have OK := Lib.hid (show decide (okp y m k h mi s) = false from by simpa using hv1)
        have HC := Lib.hid (cnt_no hd1 hv)
        clear hv1 hv
        go_wp2_with fail
        refine (impl_StampOk.calls 1 _ _ _ _ _ _ _ _ HI.out).mono ?_
        rintro e w4 ⟨rfl, hb⟩
        rw [OK.out]
        replace B := (B.alloc _).call hb
        replace O := (O.alloc _).call (Below.on hb)
        clear hb c0 c1 c2 c3 c4 c5
        go_wp2_with fail
        go_roundw
        case rel => exact ⟨k + 1, by omega, by go_num, by rw [HC.out], B, O⟩
        case measure => simp [intOf]; omega
    · obtain rfl : k = 41 := by omega
      have hcn : cnt D 41 = D := by unfold cnt; rw [if_neg (by omega), if_neg (by omega)]
      rw [hcn]
      clear hcn cb
      have hy : 0 ≤ y := by have := HOK.out.1; omega
      have hy2 : y ≤ 2107 := by have := HOK.out.1; omega
      have c0 : wr.cell? ⟨w1.heap.size, 0, none⟩ = some _ := (B.cell 0).trans rfl
      have c1 : wr.cell? ⟨w1.heap.size, 1, none⟩ = some _ := (B.cell 1).trans rfl
      have t4 : Int.tmod y 4 = y % 4 := Int.tmod_eq_emod_of_nonneg (by omega)
      have t100 : Int.tmod y 100 = y % 100 := Int.tmod_eq_emod_of_nonneg (by omega)
      have t400 : Int.tmod y 400 = y % 400 := Int.tmod_eq_emod_of_nonneg (by omega)
      have hDm := HDD.out
      unfold dd at hDm
      rw [t4, t100, t400] at hDm
      clear t4 t100 t400 HDD HOK HI HS HD HR Hg
      by_cases m2 : m = 2
      · subst m2
        by_cases a4 : y % 4 = 0
        · have b4 : (y % 4 == 0) = true := by simpa using a4
          by_cases a100 : y % 100 = 0
          · have b100 : (y % 100 != 0) = false := by simpa using a100
            by_cases a400 : y % 400 = 0
            · have b400 : (y % 400 == 0) = true := by simpa using a400
              obtain rfl : D = 29 := by simpa [a4, a100, a400] using hDm.symm
              clear hDm a4 a100 a400
              go_wp2_with fail
              go_ret
              exact ⟨by first | rfl | simp, O⟩
            · have b400 : (y % 400 == 0) = false := by simpa using a400
              obtain rfl : D = 28 := by simpa [a4, a100, a400] using hDm.symm
              clear hDm a4 a100 a400
              go_wp2_with fail
              go_ret
              exact ⟨by first | rfl | simp, O⟩
          · have b100 : (y % 100 != 0) = true := by simpa using a100
            have a400 : ¬ y % 400 = 0 := by omega
            have b400 : (y % 400 == 0) = false := by simpa using a400
            obtain rfl : D = 29 := by simpa [a4, a100, a400] using hDm.symm
            clear hDm a4 a100 a400
            go_wp2_with fail
            go_ret
            exact ⟨by first | rfl | simp, O⟩
        · have b4 : (y % 4 == 0) = false := by simpa using a4
          have a400 : ¬ y % 400 = 0 := by omega
          have b400 : (y % 400 == 0) = false := by simpa using a400
          obtain rfl : D = 28 := by simpa [a4, a400] using hDm.symm
          clear hDm a4 a400
          go_wp2_with fail
          go_ret
          exact ⟨by first | rfl | simp, O⟩
      by_cases m4 : m = 4
      · subst m4
        by_cases a4 : y % 4 = 0
        · have b4 : (y % 4 == 0) = true := by simpa using a4
          by_cases a100 : y % 100 = 0
          · have b100 : (y % 100 != 0) = false := by simpa using a100
            by_cases a400 : y % 400 = 0
            · have b400 : (y % 400 == 0) = true := by simpa using a400
              obtain rfl : D = 30 := by simpa [a4, a100, a400] using hDm.symm
              clear hDm a4 a100 a400
              go_wp2_with fail
              go_ret
              exact ⟨by first | rfl | simp, O⟩
            · have b400 : (y % 400 == 0) = false := by simpa using a400
              obtain rfl : D = 30 := by simpa [a4, a100, a400] using hDm.symm
              clear hDm a4 a100 a400
              go_wp2_with fail
              go_ret
              exact ⟨by first | rfl | simp, O⟩
          · have b100 : (y % 100 != 0) = true := by simpa using a100
            have a400 : ¬ y % 400 = 0 := by omega
            have b400 : (y % 400 == 0) = false := by simpa using a400
            obtain rfl : D = 30 := by simpa [a4, a100, a400] using hDm.symm
            clear hDm a4 a100 a400
            go_wp2_with fail
            go_ret
            exact ⟨by first | rfl | simp, O⟩
        · have b4 : (y % 4 == 0) = false := by simpa using a4
          have a400 : ¬ y % 400 = 0 := by omega
          have b400 : (y % 400 == 0) = false := by simpa using a400
          obtain rfl : D = 30 := by simpa [a4, a400] using hDm.symm
          clear hDm a4 a400
          go_wp2_with fail
          go_ret
          exact ⟨by first | rfl | simp, O⟩
      by_cases m6 : m = 6
      · subst m6
        by_cases a4 : y % 4 = 0
        · have b4 : (y % 4 == 0) = true := by simpa using a4
          by_cases a100 : y % 100 = 0
          · have b100 : (y % 100 != 0) = false := by simpa using a100
            by_cases a400 : y % 400 = 0
            · have b400 : (y % 400 == 0) = true := by simpa using a400
              obtain rfl : D = 30 := by simpa [a4, a100, a400] using hDm.symm
              clear hDm a4 a100 a400
              go_wp2_with fail
              go_ret
              exact ⟨by first | rfl | simp, O⟩
            · have b400 : (y % 400 == 0) = false := by simpa using a400
              obtain rfl : D = 30 := by simpa [a4, a100, a400] using hDm.symm
              clear hDm a4 a100 a400
              go_wp2_with fail
              go_ret
              exact ⟨by first | rfl | simp, O⟩
          · have b100 : (y % 100 != 0) = true := by simpa using a100
            have a400 : ¬ y % 400 = 0 := by omega
            have b400 : (y % 400 == 0) = false := by simpa using a400
            obtain rfl : D = 30 := by simpa [a4, a100, a400] using hDm.symm
            clear hDm a4 a100 a400
            go_wp2_with fail
            go_ret
            exact ⟨by first | rfl | simp, O⟩
        · have b4 : (y % 4 == 0) = false := by simpa using a4
          have a400 : ¬ y % 400 = 0 := by omega
          have b400 : (y % 400 == 0) = false := by simpa using a400
          obtain rfl : D = 30 := by simpa [a4, a400] using hDm.symm
          clear hDm a4 a400
          go_wp2_with fail
          go_ret
          exact ⟨by first | rfl | simp, O⟩
      by_cases m9 : m = 9
      · subst m9
        by_cases a4 : y % 4 = 0
        · have b4 : (y % 4 == 0) = true := by simpa using a4
          by_cases a100 : y % 100 = 0
          · have b100 : (y % 100 != 0) = false := by simpa using a100
            by_cases a400 : y % 400 = 0
            · have b400 : (y % 400 == 0) = true := by simpa using a400
              obtain rfl : D = 30 := by simpa [a4, a100, a400] using hDm.symm
              clear hDm a4 a100 a400
              go_wp2_with fail
              go_ret
              exact ⟨by first | rfl | simp, O⟩
            · have b400 : (y % 400 == 0) = false := by simpa using a400
              obtain rfl : D = 30 := by simpa [a4, a100, a400] using hDm.symm
              clear hDm a4 a100 a400
              go_wp2_with fail
              go_ret
              exact ⟨by first | rfl | simp, O⟩
          · have b100 : (y % 100 != 0) = true := by simpa using a100
            have a400 : ¬ y % 400 = 0 := by omega
            have b400 : (y % 400 == 0) = false := by simpa using a400
            obtain rfl : D = 30 := by simpa [a4, a100, a400] using hDm.symm
            clear hDm a4 a100 a400
            go_wp2_with fail
            go_ret
            exact ⟨by first | rfl | simp, O⟩
        · have b4 : (y % 4 == 0) = false := by simpa using a4
          have a400 : ¬ y % 400 = 0 := by omega
          have b400 : (y % 400 == 0) = false := by simpa using a400
          obtain rfl : D = 30 := by simpa [a4, a400] using hDm.symm
          clear hDm a4 a400
          go_wp2_with fail
          go_ret
          exact ⟨by first | rfl | simp, O⟩
      by_cases m11 : m = 11
      · subst m11
        by_cases a4 : y % 4 = 0
        · have b4 : (y % 4 == 0) = true := by simpa using a4
          by_cases a100 : y % 100 = 0
          · have b100 : (y % 100 != 0) = false := by simpa using a100
            by_cases a400 : y % 400 = 0
            · have b400 : (y % 400 == 0) = true := by simpa using a400
              obtain rfl : D = 30 := by simpa [a4, a100, a400] using hDm.symm
              clear hDm a4 a100 a400
              go_wp2_with fail
              go_ret
              exact ⟨by first | rfl | simp, O⟩
            · have b400 : (y % 400 == 0) = false := by simpa using a400
              obtain rfl : D = 30 := by simpa [a4, a100, a400] using hDm.symm
              clear hDm a4 a100 a400
              go_wp2_with fail
              go_ret
              exact ⟨by first | rfl | simp, O⟩
          · have b100 : (y % 100 != 0) = true := by simpa using a100
            have a400 : ¬ y % 400 = 0 := by omega
            have b400 : (y % 400 == 0) = false := by simpa using a400
            obtain rfl : D = 30 := by simpa [a4, a100, a400] using hDm.symm
            clear hDm a4 a100 a400
            go_wp2_with fail
            go_ret
            exact ⟨by first | rfl | simp, O⟩
        · have b4 : (y % 4 == 0) = false := by simpa using a4
          have a400 : ¬ y % 400 = 0 := by omega
          have b400 : (y % 400 == 0) = false := by simpa using a400
          obtain rfl : D = 30 := by simpa [a4, a400] using hDm.symm
          clear hDm a4 a400
          go_wp2_with fail
          go_ret
          exact ⟨by first | rfl | simp, O⟩
      by_cases a4 : y % 4 = 0
      · have b4 : (y % 4 == 0) = true := by simpa using a4
        by_cases a100 : y % 100 = 0
        · have b100 : (y % 100 != 0) = false := by simpa using a100
          by_cases a400 : y % 400 = 0
          · have b400 : (y % 400 == 0) = true := by simpa using a400
            obtain rfl : D = 31 := by simpa [m2, m4, m6, m9, m11] using hDm.symm
            have n2 : (m == 2) = false := by simpa using m2
            have n4 : (m == 4) = false := by simpa using m4
            have n6 : (m == 6) = false := by simpa using m6
            have n9 : (m == 9) = false := by simpa using m9
            have n11 : (m == 11) = false := by simpa using m11
            clear hDm m2 m4 m6 m9 m11 a4 a100 a400
            go_wp2_with fail
            go_ret
            exact ⟨by first | rfl | simp, O⟩
          · have b400 : (y % 400 == 0) = false := by simpa using a400
            obtain rfl : D = 31 := by simpa [m2, m4, m6, m9, m11] using hDm.symm
            have n2 : (m == 2) = false := by simpa using m2
            have n4 : (m == 4) = false := by simpa using m4
            have n6 : (m == 6) = false := by simpa using m6
            have n9 : (m == 9) = false := by simpa using m9
            have n11 : (m == 11) = false := by simpa using m11
            clear hDm m2 m4 m6 m9 m11 a4 a100 a400
            go_wp2_with fail
            go_ret
            exact ⟨by first | rfl | simp, O⟩
        · have b100 : (y % 100 != 0) = true := by simpa using a100
          have a400 : ¬ y % 400 = 0 := by omega
          have b400 : (y % 400 == 0) = false := by simpa using a400
          obtain rfl : D = 31 := by simpa [m2, m4, m6, m9, m11] using hDm.symm
          have n2 : (m == 2) = false := by simpa using m2
          have n4 : (m == 4) = false := by simpa using m4
          have n6 : (m == 6) = false := by simpa using m6
          have n9 : (m == 9) = false := by simpa using m9
          have n11 : (m == 11) = false := by simpa using m11
          clear hDm m2 m4 m6 m9 m11 a4 a100 a400
          go_wp2_with fail
          go_ret
          exact ⟨by first | rfl | simp, O⟩
      · have b4 : (y % 4 == 0) = false := by simpa using a4
        have a400 : ¬ y % 400 = 0 := by omega
        have b400 : (y % 400 == 0) = false := by simpa using a400
        obtain rfl : D = 31 := by simpa [m2, m4, m6, m9, m11] using hDm.symm
        have n2 : (m == 2) = false := by simpa using m2
        have n4 : (m == 4) = false := by simpa using m4
        have n6 : (m == 6) = false := by simpa using m6
        have n9 : (m == 9) = false := by simpa using m9
        have n11 : (m == 11) = false := by simpa using m11
        clear hDm m2 m4 m6 m9 m11 a4 a400
        go_wp2_with fail
        go_ret
        exact ⟨by first | rfl | simp, O⟩

set_option maxRecDepth 100000 in
set_option maxHeartbeats 1000000 in
theorem law_no (A0 : Option Addr) (c0 : Nat) (l0 : List Int) (w : World) (hr0 : Kd.C (Kd.int .u8) w A0 l0.length l0) (hc0 : l0.length ≤ c0) (hlen : (l0.length : Int) ≤ 1048576) (y m d h mi s : Int) (hd : spec_DrawStampOk.f 2 l0 = some (y, m, d, h, mi, s)) (ok : ¬ okp y m d h mi s) :
    Calls Try.prog 5 #[.slice A0 l0.length c0] w (Told w (.bool true)) := by
  have HD := Lib.hid hd
  have HI := Lib.hid (iok_eq 0 y m d h mi s)
  have HS := Lib.hid (sok_eq 0 y m d h mi s)
  have OK := Lib.hid (show decide (okp y m d h mi s) = false from by simpa using ok)
  clear hd ok
  have HR := Lib.hid hr0
  clear hr0
  go_enter Try.func5, Try.ntmps5
  go_wp2_with fail
  refine (spec_DrawStampOk.calls 2 _ _ _ _ _ _ _ _ _ _ HR.out hc0 HD.out).mono ?_
  rintro e w1 ⟨rfl, hb⟩
  have O := (Below.on hb).alloc (.cells #[.int .i64 y, .int .i64 m, .int .i64 d, .int .i64 h, .int .i64 mi, .int .i64 s] 25)
  have B := Blk.new w1 25 #[.int .i64 y, .int .i64 m, .int .i64 d, .int .i64 h, .int .i64 mi, .int .i64 s]
  clear hb
  go_wp2_with fail
  refine (impl_StampOk.calls 1 _ _ _ _ _ _ _ _ HI.out).mono ?_
  rintro e w2 ⟨rfl, hb⟩
  replace O := O.call (Below.on hb)
  replace B := B.call hb
  clear hb
  rw [OK.out]
  have c0 : w2.cell? ⟨w1.heap.size, 0, none⟩ = some _ := (B.cell 0).trans rfl
  have c1 : w2.cell? ⟨w1.heap.size, 1, none⟩ = some _ := (B.cell 1).trans rfl
  have c2 : w2.cell? ⟨w1.heap.size, 2, none⟩ = some _ := (B.cell 2).trans rfl
  have c3 : w2.cell? ⟨w1.heap.size, 3, none⟩ = some _ := (B.cell 3).trans rfl
  have c4 : w2.cell? ⟨w1.heap.size, 4, none⟩ = some _ := (B.cell 4).trans rfl
  have c5 : w2.cell? ⟨w1.heap.size, 5, none⟩ = some _ := (B.cell 5).trans rfl
  go_wp2_with fail
  refine (spec_StampOk.calls 1 _ _ _ _ _ _ _ _ HS.out).mono ?_
  rintro e w3 ⟨rfl, hb⟩
  replace O := O.call (Below.on hb)
  replace B := B.call hb
  clear hb c0 c1 c2 c3 c4 c5
  rw [OK.out]
  have c0 : w3.cell? ⟨w1.heap.size, 0, none⟩ = some _ := (B.cell 0).trans rfl
  have c1 : w3.cell? ⟨w1.heap.size, 1, none⟩ = some _ := (B.cell 1).trans rfl
  have c2 : w3.cell? ⟨w1.heap.size, 2, none⟩ = some _ := (B.cell 2).trans rfl
  have c3 : w3.cell? ⟨w1.heap.size, 3, none⟩ = some _ := (B.cell 3).trans rfl
  have c4 : w3.cell? ⟨w1.heap.size, 4, none⟩ = some _ := (B.cell 4).trans rfl
  have c5 : w3.cell? ⟨w1.heap.size, 5, none⟩ = some _ := (B.cell 5).trans rfl
  go_wp2_with fail
  refine (spec_StampOk.calls 1 _ _ _ _ _ _ _ _ HS.out).mono ?_
  rintro e w4 ⟨rfl, hb⟩
  replace O := O.call (Below.on hb)
  rw [OK.out]
  go_wp2_with fail
  go_ret
  exact ⟨rfl, O⟩
set_option maxRecDepth 100000 in
set_option maxHeartbeats 1000000 in
theorem law_long (A0 : Option Addr) (c0 n : Nat) (w : World) (hlen : ¬ ((n : Int) ≤ 1048576)) :
    Calls Try.prog 5 #[.slice A0 n c0] w (Told w (.bool true)) := by
  have h : (1048576 : Int) < n := by omega
  clear hlen
  go_enter Try.func5, Try.ntmps5
  go_wp2_with fail
  go_ret
  exact ⟨rfl, On.refl _⟩
def byteOk (b : List Int) : Prop := b.length ≤ 2000 ∧ ∀ x ∈ b, 0 ≤ x ∧ x ≤ 255
theorem rd_bd {b : List Int} (hb : byteOk b) (i : Int) : 0 ≤ rd b i ∧ rd b i ≤ 255 := by
  unfold rd
  by_cases h : i.toNat < b.length
  · rw [List.getD_eq_getElem?_getD, List.getElem?_eq_getElem h]; exact hb.2 _ (List.getElem_mem h)
  · rw [List.getD_eq_getElem?_getD, List.getElem?_eq_none (by omega)]; decide
theorem xor_nn {x y : Int} (x0 : 0 ≤ x) (x1 : x < 9223372036854775808) (y0 : 0 ≤ y) (y1 : y < 9223372036854775808) : 0 ≤ Go.bits .xor .i64 x y := by
  obtain ⟨a, rfl⟩ := Int.eq_ofNat_of_zero_le x0
  obtain ⟨b, rfl⟩ := Int.eq_ofNat_of_zero_le y0
  have ha : a < 2 ^ 63 := by omega
  have hb : b < 2 ^ 63 := by omega
  have hx := Nat.xor_lt_two_pow ha hb
  have ha' : a % 2 ^ IntKind.i64.bits = a := by show a % 2 ^ 64 = a; omega
  have hb' : b % 2 ^ IntKind.i64.bits = b := by show b % 2 ^ 64 = b; omega
  simp only [Go.bits, BitVec.ofInt_natCast, BitVec.toNat_xor, BitVec.toNat_ofNat, ha', hb']
  rw [wr_i64 _ (by omega) (by omega)]
  omega
theorem pick_tells {b : List Int} (hb : byteOk b) {p : Int} (p0 : 0 ≤ p) (p1 : p ≤ 1000000000) {n : Int} (n1 : 1 ≤ n) : ∃ r, 0 ≤ r ∧ r < n ∧ ∀ k, spec_l1Rd_pick.f (k + 1) b p n = some (r, p + 1) := by
  unfold spec_l1Rd_pick.f
  simp only [show ¬ n < 1 from by omega, if_false]
  rw [w64 (x := p + 1) (by omega) (by omega)]
  simp only [spec_l1Rd_pick.j0]
  have e1 : wrap64 (p + 1 - 1) = p := by rw [w64 (by omega) (by omega)]; omega
  rw [e1]
  have hl := hb.1
  by_cases h0 : (b.length : Int) = 0
  · refine ⟨0, by omega, by omega, fun k => ?_⟩
    rw [show ((b.length : Int) == 0) = true from by simp [h0]]
    rfl
  rw [show ((b.length : Int) == 0) = false from beq_eq_false_iff_ne.2 h0]
  by_cases h1 : p < (b.length : Int)
  · have hr := rd_bd hb p
    refine ⟨Int.tmod (wrap64 (rd b p)) n, ?_, ?_, fun k => ?_⟩
    · rw [w64 (by omega) (by omega)]; rw [Int.tmod_eq_emod_of_nonneg hr.1]; exact Int.emod_nonneg _ (by omega)
    · rw [w64 (by omega) (by omega)]; rw [Int.tmod_eq_emod_of_nonneg hr.1]; exact Int.emod_lt_of_pos _ (by omega)
    · rw [if_neg (by decide), if_pos h1, if_pos p0, if_neg (by omega)]
  · have e2 : wrap64 (p * 7) = p * 7 := w64 (by omega) (by omega)
    have e3 : wrap64 (p * 7 + 3) = p * 7 + 3 := w64 (by omega) (by omega)
    rw [e2, e3, Int.tmod_eq_emod_of_nonneg p0, Int.tmod_eq_emod_of_nonneg (a := p * 7 + 3) (by omega)]
    have hi1 := Int.emod_nonneg p (b := (b.length : Int)) h0
    have hi2 := Int.emod_lt_of_pos p (b := (b.length : Int)) (by omega)
    have hj1 := Int.emod_nonneg (p * 7 + 3) (b := (b.length : Int)) h0
    have hj2 := Int.emod_lt_of_pos (p * 7 + 3) (b := (b.length : Int)) (by omega)
    have hr := rd_bd hb (p % (b.length : Int))
    have hs := rd_bd hb ((p * 7 + 3) % (b.length : Int))
    have hq0 : 0 ≤ Int.tdiv p (b.length : Int) := by rw [Int.tdiv_eq_ediv_of_nonneg p0]; exact Int.ediv_nonneg p0 (by omega)
    have hq1 : Int.tdiv p (b.length : Int) ≤ p := by rw [Int.tdiv_eq_ediv_of_nonneg p0]; exact Int.ediv_le_self _ p0
    generalize Int.tdiv p (b.length : Int) = q at *
    generalize rd b (p % (b.length : Int)) = u at *
    generalize rd b ((p * 7 + 3) % (b.length : Int)) = v at *
    rw [w64 (x := u) (by omega) (by omega), w64 (x := v) (by omega) (by omega), w64 (x := u * 131) (by omega) (by omega), w64 (x := v * 1117) (by omega) (by omega), w64 (x := p * 29) (by omega) (by omega), w64 (x := q) (by omega) (by omega), w64 (x := q * 53) (by omega) (by omega), w64 (x := u * 131 + v * 1117) (by omega) (by omega), w64 (x := u * 131 + v * 1117 + p * 29) (by omega) (by omega), w64 (x := u * 131 + v * 1117 + p * 29 + q * 53) (by omega) (by omega)]
    have x0 : 0 ≤ u * 131 + v * 1117 + p * 29 + q * 53 := by omega
    have x1 : u * 131 + v * 1117 + p * 29 + q * 53 ≤ 1000000000000 := by omega
    generalize u * 131 + v * 1117 + p * 29 + q * 53 = X at *
    rw [Int.tdiv_eq_ediv_of_nonneg x0, w64 (x := X / 64) (by omega) (by omega)]
    have hz := xor_nn (x := X) (y := X / 64) (by omega) (by omega) (by omega) (by omega)
    generalize Go.bits .xor .i64 X (X / 64) = Z at *
    refine ⟨Int.tmod Z n, ?_, ?_, fun k => ?_⟩
    · rw [Int.tmod_eq_emod_of_nonneg hz]; exact Int.emod_nonneg _ (by omega)
    · rw [Int.tmod_eq_emod_of_nonneg hz]; exact Int.emod_lt_of_pos _ (by omega)
    · rw [if_neg (by decide), if_neg h1, if_neg h0, if_pos hi1, if_pos hi2, if_pos hj1, if_pos hj2, if_neg (by omega)]
theorem open_tells {l : List Int} (hl : ∀ x ∈ l, (Lit.int .u8 x).wf = true) : ∃ b, byteOk b ∧ spec_l1Open.f l = some (b, 0) := by
  have hb : ∀ x ∈ l, 0 ≤ x ∧ x ≤ 255 := fun x hx => by simpa [Lit.wf, IntKind.min, IntKind.max, IntKind.signed, IntKind.bits] using hl x hx
  unfold spec_l1Open.f
  by_cases h : (l.length : Int) > 2000
  · rw [if_pos h, if_pos (by omega)]
    exact ⟨_, ⟨by rw [List.length_take]; omega, fun x hx => hb x (List.mem_of_mem_take hx)⟩, rfl⟩
  · rw [if_neg h]
    exact ⟨_, ⟨by omega, hb⟩, rfl⟩
theorem one_tells {b : List Int} (hb : byteOk b) {p : Int} (p0 : 0 ≤ p) (p1 : p ≤ 1000000000) {l : List Int} (hl : l ≠ []) : ∃ x, x ∈ l ∧ ∀ k, spec_l1Rd_one.f (k + 1) b p l = some (x, p + 1) := by
  have hlen : 1 ≤ (l.length : Int) := by have := List.length_pos_iff.2 hl; omega
  obtain ⟨r, r0, r1, hr⟩ := pick_tells hb p0 p1 hlen
  refine ⟨rd l r, ?_, fun k => ?_⟩
  · unfold rd
    rw [List.getD_eq_getElem?_getD, List.getElem?_eq_getElem (by omega)]; exact List.getElem_mem _
  · unfold spec_l1Rd_one.f
    rw [hr]
    simp only [Option.bind_some]
    rw [if_pos r0, if_pos r1]
theorem stamp_tells {b : List Int} (hb : byteOk b) {p : Int} (p0 : 0 ≤ p) (p1 : p ≤ 1000000) : ∃ y m d h mi s, ∀ k, spec_l11Stamp.f (k + 1) b p = some (y, m, d, h, mi, s, p + 6) := by
  obtain ⟨x1, _, h1⟩ := one_tells hb p0 (by omega) (l := [1980, 2000, 2024, 2107]) (by simp)
  obtain ⟨x2, _, _, h2⟩ := pick_tells hb (p := p + 1) (by omega) (by omega) (n := 12) (by omega)
  obtain ⟨x3, _, _, h3⟩ := pick_tells hb (p := p + 1 + 1) (by omega) (by omega) (n := 28) (by omega)
  obtain ⟨x4, _, _, h4⟩ := pick_tells hb (p := p + 1 + 1 + 1) (by omega) (by omega) (n := 24) (by omega)
  obtain ⟨x5, _, _, h5⟩ := pick_tells hb (p := p + 1 + 1 + 1 + 1) (by omega) (by omega) (n := 60) (by omega)
  obtain ⟨x6, _, _, h6⟩ := pick_tells hb (p := p + 1 + 1 + 1 + 1 + 1) (by omega) (by omega) (n := 30) (by omega)
  refine ⟨x1, wrap64 (1 + x2), wrap64 (1 + x3), x4, x5, wrap64 (2 * x6), fun k => ?_⟩
  unfold spec_l11Stamp.f
  rw [h1]; simp only [Option.bind_some]
  rw [h2]; simp only [Option.bind_some]
  rw [h3]; simp only [Option.bind_some]
  rw [h4]; simp only [Option.bind_some]
  rw [h5]; simp only [Option.bind_some]
  rw [h6]; simp only [Option.bind_some]
  congr 1; simp only [Prod.mk.injEq, true_and]; omega
theorem anystamp_tells {b : List Int} (hb : byteOk b) {p : Int} (p0 : 0 ≤ p) (p1 : p ≤ 100000) : ∃ y m d h mi s q, (p ≤ q ∧ q ≤ p + 10) ∧ ∀ k, spec_l11AnyStamp.f (k + 1) b p = some (y, m, d, h, mi, s, q) := by
  obtain ⟨y, m, d, h, mi, s, hs⟩ := stamp_tells hb p0 (by omega)
  obtain ⟨r, _, _, hr⟩ := pick_tells hb (p := p + 6) (by omega) (by omega) (n := 10) (by omega)
  obtain ⟨o0, _, ho0⟩ := one_tells hb (p := p + 6 + 1) (by omega) (by omega) (l := [0, 29, 30, 31, 32]) (by simp)
  obtain ⟨o1, _, ho1⟩ := one_tells hb (p := p + 6 + 1) (by omega) (by omega) (l := [1979, 2100, 2108, 1900]) (by simp)
  obtain ⟨o2, _, ho2⟩ := one_tells hb (p := p + 6 + 1) (by omega) (by omega) (l := [1, 59, 60, -2]) (by simp)
  obtain ⟨o3, _, ho3⟩ := one_tells hb (p := p + 6 + 1) (by omega) (by omega) (l := [0, 2, 13]) (by simp)
  unfold spec_l11AnyStamp.f
  by_cases c0 : r = 0
  · refine ⟨y, m, o0, h, mi, s, p + 6 + 1 + 1, by omega, fun k => ?_⟩
    rw [hs]; simp only [Option.bind_some]; rw [hr]; simp only [Option.bind_some]; rw [if_pos c0, ho0]; rfl
  by_cases c1 : r = 1
  · refine ⟨o1, m, d, h, mi, s, p + 6 + 1 + 1, by omega, fun k => ?_⟩
    rw [hs]; simp only [Option.bind_some]; rw [hr]; simp only [Option.bind_some]; rw [if_neg c0, if_pos c1, ho1]; rfl
  by_cases c2 : r = 2
  · refine ⟨y, m, d, h, mi, o2, p + 6 + 1 + 1, by omega, fun k => ?_⟩
    rw [hs]; simp only [Option.bind_some]; rw [hr]; simp only [Option.bind_some]; rw [if_neg c0, if_neg c1, if_pos c2, ho2]; rfl
  by_cases c3 : r = 3
  · refine ⟨y, o3, d, h, mi, s, p + 6 + 1 + 1, by omega, fun k => ?_⟩
    rw [hs]; simp only [Option.bind_some]; rw [hr]; simp only [Option.bind_some]; rw [if_neg c0, if_neg c1, if_neg c2, if_pos c3, ho3]; rfl
  · refine ⟨y, m, d, h, mi, s, p + 6 + 1, by omega, fun k => ?_⟩
    rw [hs]; simp only [Option.bind_some]; rw [hr]; simp only [Option.bind_some]; rw [if_neg c0, if_neg c1, if_neg c2, if_neg c3]
theorem draw_tells {l : List Int} (hl : ∀ x ∈ l, (Lit.int .u8 x).wf = true) : ∃ y m d h mi s, ∀ k, spec_DrawStampOk.f (k + 1) l = some (y, m, d, h, mi, s) := by
  obtain ⟨b, hb, ho⟩ := open_tells hl
  obtain ⟨y, m, d, h, mi, s, q, _, hs⟩ := anystamp_tells hb (p := 0) (by omega) (by omega)
  refine ⟨y, m, d, h, mi, s, fun k => ?_⟩
  unfold spec_DrawStampOk.f
  rw [ho]; simp only [Option.bind_some]
  rw [hs]; simp only [Option.bind_some]

theorem law_walk (a0 : Option Addr) (len0 cap0 : Nat) (z0 : List Int) (w : World) (w0 : (a0 = none ∧ len0 = 0 ∧ cap0 = 0 ∧ z0 = []) ∨ ∃ x, a0 = some x ∧ len0 ≤ cap0 ∧ cap0 ≤ maxLen ∧ z0.length = cap0 ∧ (∀ i, i < z0.length → w.cell? (x.add i) = some (.int .u8 (z0.getD i 0))) ∧ ∀ n ∈ z0, (Lit.int .u8 n).wf = true) (y0 : len0 * 1 ≤ 140737488351232) :
    Calls Try.prog 5 #[.slice a0 len0 cap0] w fun e w' => e = .returned (.bool true) ∧ Below w.heap.size w w' := by
  obtain ⟨l0, rfl, hr0, hm0, hw0, hc0⟩ := ReadsInt.ofRowC w0
  have hr := Kd.C_of_reads (d := (0 : Int)) (h1 := fun _ => rfl) hr0
  have fin : Calls Try.prog 5 #[.slice a0 l0.length cap0] w (Told w (.bool true)) := by
    by_cases hlen : (l0.length : Int) ≤ 1048576
    · obtain ⟨y, m, d, h, mi, s, hd⟩ := draw_tells hw0
      by_cases ok : okp y m d h mi s
      · exact law_ok a0 cap0 l0 w hr hc0 hlen y m d h mi s (hd 1) ok
      · exact law_no a0 cap0 l0 w hr hc0 hlen y m d h mi s (hd 1) ok
    · exact law_long a0 cap0 _ w hlen
  exact fin.mono fun _ _ h => ⟨h.1, h.2.out⟩
end Go.Proofs.Ytmkhhpnagmkgeaa.StampDays
