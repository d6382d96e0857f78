/- Own texts joined: WCodes, Bk. -/
import Derived.WalkKit
import Derived.WalkSpells
import Derived.Deep.DeepCutAuto
import Derived.Deep.QuietTactic
import Derived.BigQuiet
import Derived.Carry
import Derived.Test.YtnadjlejlohgiaaGreatDoorZ4
import Derived.Test.YtnadjlejlohgiaaGreatDoorZ7
import Derived.Test.YtnadjlejlohgiaaGreatDoorZ8
/- Codes by their lengths, in both programs: the plain ones. Conditions: sizes. -/
namespace Go.Proofs.YtnadjlejlohgiaaGreatDoor.Wi
open Go.RowKit Go.Proofs.YtnadjlejlohgiaaGreatDoor.Mem Go.Proofs.YtnadjlejlohgiaaGreatDoor.Cd
set_option linter.unusedVariables false
set_option linter.unusedSimpArgs false
/-- The codes as far as they are made: all shorter ones, and those of length l up to symbol k. -/
def outAt (lens : List Nat) (l k : Nat) : List Nat := (List.range lens.length).map fun i => if 1 ≤ lens.getD i 0 ∧ (lens.getD i 0 < l ∨ lens.getD i 0 = l ∧ i < k) then code lens i else 0
theorem outAt_length (lens : List Nat) (l k : Nat) : (outAt lens l k).length = lens.length := by simp [outAt]
theorem outAt_zero (lens : List Nat) : outAt lens 1 0 = List.replicate lens.length 0 := by
  unfold outAt
  apply List.ext_getElem (by simp)
  intro i h1 h2
  simp only [List.getElem_map, List.getElem_range, List.getElem_replicate]
  rw [if_neg (by omega)]
theorem outAt_next (lens : List Nat) (l : Nat) (h : 1 ≤ l) : outAt lens (l + 1) 0 = outAt lens l lens.length := by
  unfold outAt
  apply List.map_congr_left
  intro i hi
  have := List.mem_range.1 hi
  by_cases c : 1 ≤ lens.getD i 0 ∧ (lens.getD i 0 < l + 1 ∨ lens.getD i 0 = l + 1 ∧ i < 0)
  · rw [if_pos c, if_pos (by omega)]
  · rw [if_neg c, if_neg (by omega)]
theorem outAt_end (lens : List Nat) : outAt lens 16 0 = codes lens := by
  unfold outAt codes
  apply List.map_congr_left
  intro i hi
  by_cases c : 1 ≤ lens.getD i 0 ∧ lens.getD i 0 ≤ 15
  · rw [if_pos (by omega)]
  · rw [if_neg (by omega)]
    unfold code
    rw [if_neg c]
theorem outAt_skip (lens : List Nat) (l k : Nat) (h : lens.getD k 0 ≠ l) : outAt lens l (k + 1) = outAt lens l k := by
  unfold outAt
  apply List.map_congr_left
  intro i hi
  by_cases e : i = k
  · subst e
    by_cases c : 1 ≤ lens.getD i 0 ∧ (lens.getD i 0 < l ∨ lens.getD i 0 = l ∧ i < i + 1)
    · rw [if_pos c, if_pos (by omega)]
    · rw [if_neg c, if_neg (by omega)]
  · by_cases c : 1 ≤ lens.getD i 0 ∧ (lens.getD i 0 < l ∨ lens.getD i 0 = l ∧ i < k + 1)
    · rw [if_pos c, if_pos (by omega)]
    · rw [if_neg c, if_neg (by omega)]
theorem outAt_at (lens : List Nat) (l k : Nat) {i : Nat} (h : i < lens.length) : (outAt lens l k)[i]? = some (if 1 ≤ lens.getD i 0 ∧ (lens.getD i 0 < l ∨ lens.getD i 0 = l ∧ i < k) then code lens i else 0) := by
  unfold outAt; rw [List.getElem?_map, List.getElem?_range h]; rfl
theorem outAt_take (lens : List Nat) (l k : Nat) (h : lens.getD k 0 = l) (h1 : 1 ≤ l) (h2 : l ≤ 15) (hk : k < lens.length) : outAt lens l (k + 1) = (outAt lens l k).set k (codeAt lens l k) := by
  apply List.ext_getElem?
  intro i
  rw [List.getElem?_set, outAt_length]
  by_cases hi : i < lens.length
  · rw [outAt_at lens l (k + 1) hi, outAt_at lens l k hi]
    by_cases e : k = i
    · subst e
      rw [if_pos rfl, if_pos hk, if_pos (by omega)]
      unfold code
      rw [h, if_pos ⟨h1, h2⟩]
    · rw [if_neg e]
      by_cases c : 1 ≤ lens.getD i 0 ∧ (lens.getD i 0 < l ∨ lens.getD i 0 = l ∧ i < k + 1)
      · rw [if_pos c, if_pos (by omega)]
      · rw [if_neg c, if_neg (by omega)]
  · rw [List.getElem?_eq_none (by rw [outAt_length]; omega), if_neg (by omega), List.getElem?_eq_none (by rw [outAt_length]; omega)]
theorem first_le (lens : List Nat) : ∀ l, first lens l ≤ 4 ^ l * lens.length
  | 0 => by simp [first]
  | 1 => by simp [first]
  | l + 2 => by
    have ih := first_le lens (l + 1)
    have hc := List.count_le_length (a := l + 1) (l := lens)
    have h1 : 1 ≤ 4 ^ (l + 1) := Nat.pos_of_ne_zero (by simp)
    have h2 : lens.length ≤ 4 ^ (l + 1) * lens.length := Nat.le_mul_of_pos_left _ h1
    have e : 4 ^ (l + 2) * lens.length = 4 * (4 ^ (l + 1) * lens.length) := by rw [Nat.pow_succ (n := 4) (m := l + 1), Nat.mul_comm (4 ^ (l + 1)) 4, Nat.mul_assoc]
    rw [e, first]
    omega
theorem codeAt_le (lens : List Nat) (l k : Nat) (hl : l ≤ 16) (hn : lens.length ≤ 1000) : codeAt lens l k ≤ 8589934592000 := by
  have a := first_le lens l
  have b := count_take_le lens k l
  have c := List.count_le_length (a := l) (l := lens)
  have d : 4 ^ l ≤ 4 ^ 16 := Nat.pow_le_pow_right (by omega) hl
  have e : 4 ^ l * lens.length ≤ 4 ^ 16 * 1000 := Nat.mul_le_mul d hn
  unfold codeAt
  omega
theorem codeAt_step (lens : List Nat) (l k : Nat) (hk : k < lens.length) : codeAt lens l (k + 1) = codeAt lens l k + if lens.getD k 0 = l then 1 else 0 := by
  unfold codeAt
  rw [count_take_succ hk]
  omega
theorem codeAt_next (lens : List Nat) (l : Nat) (h : 1 ≤ l) : codeAt lens (l + 1) 0 = 2 * codeAt lens l lens.length := by
  unfold codeAt
  rw [first_succ lens h]
  simp
set_option maxRecDepth 100000 in
set_option maxHeartbeats 1000000 in
theorem icodes_calls (lens : List Nat) (g o n cap : Nat) (w : World) (hR : RowO w g o 3 (i64s lens)) (hl : lens.length = n) (hn : n ≤ 1000) (hc : n ≤ cap) :
    Calls Tryz.prog 114 #[.slice (some ⟨g, o, none⟩) n cap] w (GivesI w (codes lens)) := by
  have HL := Lib.hid hl
  have hcl : (codes lens).length = n := by rw [codes_length, hl]
  have HC := Lib.hid hcl
  clear hl hcl
  go_enter Tryz.func114, Tryz.ntmps114
  go_wp2_with (at_make; go_must (refine wpList_ints _ rfl _ _ rfl _ _ n rfl rfl rfl rfl (by omega) ?_); intro w1 hN1 O1 hlt1)
  have R1 := hR.on O1
  have hg1 : g < w.heap.size := hR.lt
  rw [← HL.out] at hN1
  rw [← outAt_zero] at hN1
  rw [HL.out] at hN1
  generalize hB : w.heap.size = B at *
  have HB := Lib.hid hB
  clear hB
  go_loopw [4, 5] (fun a b wr => ∃ l : Nat, 1 ≤ l ∧ l ≤ 16 ∧ b = .int .i64 (l : Int) ∧ a = .int .i64 (codeAt lens l 0 : Nat) ∧ Nums wr B (.slice (some ⟨B, 0, none⟩) n n) (outAt lens l 0) ∧ Kp [B] w1 wr) (fun _ b _ => 16 - (intOf b).toNat)
  case atStart => exact ⟨1, by omega, by omega, rfl, rfl, hN1, Kp.refl _ _⟩
  case round =>
    obtain ⟨l, hl1, hl2, rfl, rfl, hN, K⟩ := hrel
    by_cases hlt : l ≤ 15
    · have hlt' : (l : Int) ≤ 15 := by omega
      obtain ⟨wo, hwo⟩ : ∃ wo : World, wo = wr := ⟨_, rfl⟩
      subst hwo
      go_wp2_with fail
      go_loopw [4, 17] (fun a b wr => ∃ k : Nat, k ≤ n ∧ b = .int .i64 (k : Int) ∧ a = .int .i64 (codeAt lens l k : Nat) ∧ Nums wr B (.slice (some ⟨B, 0, none⟩) n n) (outAt lens l k) ∧ Kp [B] w1 wr) (fun _ b _ => n - (intOf b).toNat)
      case atStart => exact ⟨0, by omega, rfl, rfl, hN, K⟩
      case round =>
        obtain ⟨k, hk, rfl, rfl, hN, K⟩ := hrel
        by_cases hkn : k < n
        · have hkl : k < lens.length := by rw [HL.out]; exact hkn
          have c0 : wr.cell? ⟨g, o + k, none⟩ = some (.int .i64 (lens.getD k 0 : Nat)) := (R1.kp K (by simp; omega)).cell (i64s_get hkl)
          obtain ⟨RB, _, _, _⟩ := hN.row
          have cB : wr.cell? ⟨B, k, none⟩ = some (.int .i64 ((outAt lens l k).getD k 0 : Nat)) := RB.cell (i64s_get (by rw [outAt_length]; exact hkl))
          have fB : wr.frozen? ⟨B, k, none⟩ = false := RB.frozen _
          have hst := codeAt_step lens l k hkl
          have hle := codeAt_le lens l k (by omega) (by rw [HL.out]; omega)
          have hsk := outAt_skip lens l k
          have htk := fun h => outAt_take lens l k h hl1 hlt hkl
          generalize hx : lens.getD k 0 = x at *
          generalize codeAt lens l k = c at *
          generalize (outAt lens l k).getD k 0 = y at *
          have HX := Lib.hid hx
          have HSK := Lib.hid hsk
          have HTK := Lib.hid htk
          have HST := Lib.hid hst
          clear hx hsk htk hst
          by_cases hxl : x = l
          · have hb : ((x : Int) == (l : Int)) = true := by simp [hxl]
            have S1 := hN.set k c
            have K1 := K.set (p := ⟨B, k, none⟩) (.inl (by simp)) (.int .i64 (c : Int))
            have h1 := HTK.out hxl
            have h2 := HST.out
            rw [if_pos hxl] at h2
            rw [← h1] at S1
            have H2 := Lib.hid h2
            clear h1 h2
            have hxl' := Lib.hid hxl
            clear hxl
            go_wp2_with fail
            go_roundw
            case rel => exact ⟨k + 1, by omega, by go_num, by rw [H2.out]; go_num, S1, K1⟩
            case measure => simp [intOf]; omega
          · have hb : ((x : Int) == (l : Int)) = false := by simp; omega
            have h1 := HSK.out hxl
            have h2 := HST.out
            rw [if_neg hxl] at h2
            have H1 := Lib.hid h1
            have H2 := Lib.hid h2
            clear h1 h2
            go_wp2_with fail
            go_roundw
            case rel => exact ⟨k + 1, by omega, by go_num, by rw [H2.out]; rfl, by rw [H1.out]; exact hN, K⟩
            case measure => simp [intOf]; omega
        · obtain rfl : k = n := by omega
          have hle := codeAt_le lens l k (by omega) (by rw [HL.out]; omega)
          have hnx := codeAt_next lens l hl1
          have hno := outAt_next lens l hl1
          rw [HL.out] at hnx hno
          have HNX := Lib.hid hnx
          have HNO := Lib.hid hno
          clear hnx hno
          generalize codeAt lens l k = c at *
          go_wp2_with fail
          go_roundw
          case rel => exact ⟨l + 1, by omega, by omega, by go_num, by rw [HNX.out]; go_num, by rw [HNO.out]; exact hN, K⟩
          case measure => simp [intOf]; omega
    · obtain rfl : l = 16 := by omega
      go_wp2_with fail
      go_ret
      rw [outAt_end] at hN
      refine ⟨B, n, by rw [HC.out]; rfl, by rw [HC.out]; exact hN, by rw [HB.out]; exact Nat.le_refl _, Nat.lt_of_lt_of_le hlt1 K.size, ?_⟩
      exact K.on O1 (fun x hx => by simp at hx; rw [HB.out]; omega)
set_option maxRecDepth 100000 in
set_option maxHeartbeats 1000000 in
theorem scodes_calls (lens : List Nat) (g o n cap : Nat) (w : World) (hR : RowO w g o 3 (i64s lens)) (hl : lens.length = n) (hn : n ≤ 1000) (hc : n ≤ cap) :
    Calls Tryz.prog 162 #[.slice (some ⟨g, o, none⟩) n cap] w (GivesI w (codes lens)) := by
  have HL := Lib.hid hl
  have hcl : (codes lens).length = n := by rw [codes_length, hl]
  have HC := Lib.hid hcl
  clear hl hcl
  go_enter Tryz.func162, Tryz.ntmps162
  go_wp2_with (at_make; go_must (refine wpList_ints _ rfl _ _ rfl _ _ n rfl rfl rfl rfl (by omega) ?_); intro w1 hN1 O1 hlt1)
  have R1 := hR.on O1
  have hg1 : g < w.heap.size := hR.lt
  rw [← HL.out] at hN1
  rw [← outAt_zero] at hN1
  rw [HL.out] at hN1
  generalize hB : w.heap.size = B at *
  have HB := Lib.hid hB
  clear hB
  go_loopw [4, 5] (fun a b wr => ∃ l : Nat, 1 ≤ l ∧ l ≤ 16 ∧ b = .int .i64 (l : Int) ∧ a = .int .i64 (codeAt lens l 0 : Nat) ∧ Nums wr B (.slice (some ⟨B, 0, none⟩) n n) (outAt lens l 0) ∧ Kp [B] w1 wr) (fun _ b _ => 16 - (intOf b).toNat)
  case atStart => exact ⟨1, by omega, by omega, rfl, rfl, hN1, Kp.refl _ _⟩
  case round =>
    obtain ⟨l, hl1, hl2, rfl, rfl, hN, K⟩ := hrel
    by_cases hlt : l ≤ 15
    · have hlt' : (l : Int) ≤ 15 := by omega
      obtain ⟨wo, hwo⟩ : ∃ wo : World, wo = wr := ⟨_, rfl⟩
      subst hwo
      go_wp2_with fail
      go_loopw [4, 6] (fun a b wr => ∃ k : Nat, k ≤ n ∧ b = .int .i64 (k : Int) ∧ a = .int .i64 (codeAt lens l k : Nat) ∧ Nums wr B (.slice (some ⟨B, 0, none⟩) n n) (outAt lens l k) ∧ Kp [B] w1 wr) (fun _ b _ => n - (intOf b).toNat)
      case atStart => exact ⟨0, by omega, rfl, rfl, hN, K⟩
      case round =>
        obtain ⟨k, hk, rfl, rfl, hN, K⟩ := hrel
        by_cases hkn : k < n
        · have hkl : k < lens.length := by rw [HL.out]; exact hkn
          have c0 : wr.cell? ⟨g, o + k, none⟩ = some (.int .i64 (lens.getD k 0 : Nat)) := (R1.kp K (by simp; omega)).cell (i64s_get hkl)
          obtain ⟨RB, _, _, _⟩ := hN.row
          have cB : wr.cell? ⟨B, k, none⟩ = some (.int .i64 ((outAt lens l k).getD k 0 : Nat)) := RB.cell (i64s_get (by rw [outAt_length]; exact hkl))
          have fB : wr.frozen? ⟨B, k, none⟩ = false := RB.frozen _
          have hst := codeAt_step lens l k hkl
          have hle := codeAt_le lens l k (by omega) (by rw [HL.out]; omega)
          have hsk := outAt_skip lens l k
          have htk := fun h => outAt_take lens l k h hl1 hlt hkl
          generalize hx : lens.getD k 0 = x at *
          generalize codeAt lens l k = c at *
          generalize (outAt lens l k).getD k 0 = y at *
          have HX := Lib.hid hx
          have HSK := Lib.hid hsk
          have HTK := Lib.hid htk
          have HST := Lib.hid hst
          clear hx hsk htk hst
          by_cases hxl : x = l
          · have hb : ((x : Int) == (l : Int)) = true := by simp [hxl]
            have S1 := hN.set k c
            have K1 := K.set (p := ⟨B, k, none⟩) (.inl (by simp)) (.int .i64 (c : Int))
            have h1 := HTK.out hxl
            have h2 := HST.out
            rw [if_pos hxl] at h2
            rw [← h1] at S1
            have H2 := Lib.hid h2
            clear h1 h2
            have hxl' := Lib.hid hxl
            clear hxl
            go_wp2_with fail
            go_roundw
            case rel => exact ⟨k + 1, by omega, by go_num, by rw [H2.out]; go_num, S1, K1⟩
            case measure => simp [intOf]; omega
          · have hb : ((x : Int) == (l : Int)) = false := by simp; omega
            have h1 := HSK.out hxl
            have h2 := HST.out
            rw [if_neg hxl] at h2
            have H1 := Lib.hid h1
            have H2 := Lib.hid h2
            clear h1 h2
            go_wp2_with fail
            go_roundw
            case rel => exact ⟨k + 1, by omega, by go_num, by rw [H2.out]; rfl, by rw [H1.out]; exact hN, K⟩
            case measure => simp [intOf]; omega
        · obtain rfl : k = n := by omega
          have hle := codeAt_le lens l k (by omega) (by rw [HL.out]; omega)
          have hnx := codeAt_next lens l hl1
          have hno := outAt_next lens l hl1
          rw [HL.out] at hnx hno
          have HNX := Lib.hid hnx
          have HNO := Lib.hid hno
          clear hnx hno
          generalize codeAt lens l k = c at *
          go_wp2_with fail
          go_roundw
          case rel => exact ⟨l + 1, by omega, by omega, by go_num, by rw [HNX.out]; go_num, by rw [HNO.out]; exact hN, K⟩
          case measure => simp [intOf]; omega
    · obtain rfl : l = 16 := by omega
      go_wp2_with fail
      go_ret
      rw [outAt_end] at hN
      refine ⟨B, n, by rw [HC.out]; rfl, by rw [HC.out]; exact hN, by rw [HB.out]; exact Nat.le_refl _, Nat.lt_of_lt_of_le hlt1 K.size, ?_⟩
      exact K.on O1 (fun x hx => by simp at hx; rw [HB.out]; omega)
end Go.Proofs.YtnadjlejlohgiaaGreatDoor.Wi

/- The program's book: symbols by their codes. Conditions: lengths that fit. -/
namespace Go.Proofs.YtnadjlejlohgiaaGreatDoor.Wi
open Go.RowKit Go.Proofs.YtnadjlejlohgiaaGreatDoor.Mem Go.Proofs.YtnadjlejlohgiaaGreatDoor.Bt Go.Proofs.YtnadjlejlohgiaaGreatDoor.Cd
set_option linter.unusedVariables false
set_option linter.unusedSimpArgs false
/-- What the first n symbols' codes tell. -/
def upto (lens : List Nat) (n : Nat) (c l : Nat) : Option Nat := if 1 ≤ l then (List.range n).find? (fun i => decide (lens.getD i 0 = l ∧ code lens i = c)) else none
theorem upto_zero (lens : List Nat) : upto lens 0 = fun _ _ => none := by
  funext c l; unfold upto; split <;> rfl
theorem upto_skip {lens : List Nat} {n : Nat} (h : lens.getD n 0 = 0) : upto lens (n + 1) = upto lens n := by
  funext c l
  unfold upto
  by_cases hl : 1 ≤ l
  · rw [if_pos hl, if_pos hl, List.range_succ, List.find?_append]
    have : [n].find? (fun i => decide (lens.getD i 0 = l ∧ code lens i = c)) = none := by
      rw [List.find?_eq_none]; intro x hx; simp only [List.mem_singleton] at hx; subst hx; simp only [decide_eq_true_eq, not_and]; omega
    rw [this]; simp
  · rw [if_neg hl, if_neg hl]
theorem upto_none {lens : List Nat} {n : Nat} (hn : n < lens.length) (h1 : 1 ≤ lens.getD n 0) (h2 : lens.getD n 0 ≤ 15) : upto lens n (code lens n) (lens.getD n 0) = none := by
  unfold upto
  rw [if_pos h1, List.find?_eq_none]
  intro i hi
  simp only [List.mem_range] at hi
  simp only [decide_eq_true_eq]
  rintro ⟨e1, e2⟩
  have := code_inj (by omega) hn e1 rfl h1 h2 e2
  omega
theorem upto_step {lens : List Nat} {n : Nat} (hn : n < lens.length) (h1 : 1 ≤ lens.getD n 0) (h2 : lens.getD n 0 ≤ 15) : upto lens (n + 1) = fun a b => if a = code lens n ∧ b = lens.getD n 0 then some n else upto lens n a b := by
  funext a b
  by_cases hab : a = code lens n ∧ b = lens.getD n 0
  · obtain ⟨rfl, rfl⟩ := hab
    rw [if_pos ⟨rfl, rfl⟩]
    have h0 := upto_none hn h1 h2
    unfold upto at h0 ⊢
    rw [if_pos h1] at h0 ⊢
    rw [List.range_succ, List.find?_append, h0]
    simp
  · rw [if_neg hab]
    unfold upto
    by_cases hl : 1 ≤ b
    · rw [if_pos hl, if_pos hl, List.range_succ, List.find?_append]
      have : [n].find? (fun i => decide (lens.getD i 0 = b ∧ code lens i = a)) = none := by
        rw [List.find?_eq_none]; intro x hx; simp only [List.mem_singleton] at hx; subst hx; simp only [decide_eq_true_eq]; rintro ⟨e1, e2⟩; exact hab ⟨e2.symm, e1.symm⟩
      rw [this]; simp
    · rw [if_neg hl, if_neg hl]
theorem upto_all (lens : List Nat) {c l : Nat} (hl : 1 ≤ l) : upto lens lens.length c l = find lens l c := by unfold upto find; rw [if_pos hl]
set_option maxRecDepth 100000 in
theorem book_calls (lens : List Nat) (g o n cap : Nat) (w : World) (hl : RowO w g o 3 (i64s lens)) (hn : lens.length = n) (hn2 : n ≤ 1000) (hnc : n ≤ cap) (h15 : ∀ x ∈ lens, x ≤ 15) (hf : Fits lens) :
    Calls Tryz.prog 123 #[.slice (some ⟨g, o, none⟩) n cap] w fun e w' => ∃ m, e = .returned (.map (some m)) ∧ Book w' m (upto lens n) ∧ w.heap.size ≤ m ∧ On w w' := by
  have HN := Lib.hid hn
  have HF := Lib.hid hf
  have H15 := Lib.hid h15
  clear hn hf h15
  have hmm := @run_makeMap Tryz.prog
  go_enter Tryz.func123, Tryz.ntmps123
  go_wp2_with fail
  have O0 := (On.refl w).alloc (.map #[] 0)
  have B0 := Book.new w
  generalize hm : w.heap.size = m at *
  have HM := Lib.hid hm
  have hmg : m ≠ g := by have := hl.lt; omega
  have HMG := Lib.hid hmg
  clear hm hmm hmg
  generalize w.alloc (.map #[] 0) = w0 at *
  refine (icodes_calls lens g o n cap w0 (hl.on O0) HN.out hn2 hnc).mono ?_
  rintro e w1 ⟨ra, ca, rfl, Na, ha1, ha2, O1⟩
  rw [codes_length, HN.out] at Na ⊢
  have Ra := Na.row.1.toO
  have hnca : n ≤ ca := Na.row.2.2.1
  have hlt := B0.lt
  have hma : RowKit.Hid (m ≠ ra) := Lib.hid (by omega)
  have B1 : RowKit.Hid (Book w1 m (upto lens 0)) := Lib.hid (by rw [upto_zero]; exact B0.kp (Kp.of [] O1) (by simp))
  have hl1 := hl.on (O0.call O1)
  clear Na
  go_wp2_with fail
  go_loopw [10] (fun x wr => ∃ (k : Nat), x = .int .i64 (k : Int) ∧ k ≤ n ∧ Book wr m (upto lens k) ∧ Kp [m] w1 wr) (fun x _ => n - (intOf x).toNat)
  case atStart => exact ⟨0, rfl, by omega, B1.out, Kp.refl _ _⟩
  case round =>
    obtain ⟨k, rfl, hk, B, K⟩ := hrel
    by_cases hlt : k < n
    · have hkl : k < lens.length := by rw [HN.out]; exact hlt
      have Rl := hl1.kp K (by simp; have := HMG.out; omega)
      have Rc := Ra.kp K (by simp; have := hma.out; omega)
      have c0 := Rl.cell (i64s_get hkl)
      have c1 := Rc.cell (i64s_get (l := codes lens) (i := k) (by rw [codes_length]; exact hkl))
      rw [codes_getD lens hkl, Nat.zero_add] at c1
      have h15 := getD_le H15.out k
      have hk2 : (k : Int) < n := by omega
      by_cases h0 : lens.getD k 0 = 0
      · have hs := upto_skip h0
        rw [h0] at c0
        have HS := Lib.hid hs
        clear hs h0 h15
        go_wp2_with fail
        go_roundw
        case rel => exact ⟨k + 1, by go_num, by omega, by rw [HS.out]; exact B, K⟩
        case measure => simp [intOf]; omega
      · have h1 : 1 ≤ lens.getD k 0 := by omega
        have hs := upto_step hkl h1 h15
        have hno := upto_none hkl h1 h15
        have hcl := code_lt HF.out hkl h1 h15
        have hp : 2 ^ lens.getD k 0 ≤ 2 ^ 15 := Nat.pow_le_pow_right (by omega) h15
        obtain ⟨w2, hrun, B2, K2⟩ := B.add (k := k) (show code lens k < 100000 by omega) (show lens.getD k 0 < 100000 by omega) hno
        rw [← hs] at B2
        unfold pc at hrun
        have HB2 := Lib.hid B2
        have h1' : (0 : Int) < (lens.getD k 0 : Nat) := by omega
        clear hs hno hcl hp h0 B B2
        generalize lens.getD k 0 = l at *
        generalize code lens k = c at *
        go_wp2_with fail
        go_roundw
        case rel => exact ⟨k + 1, by go_num, by omega, HB2.out, K.then K2⟩
        case measure => simp [intOf]; omega
    · obtain rfl : k = n := by omega
      go_wp2_with fail
      go_ret
      refine ⟨m, rfl, B, Nat.le_of_eq HM.out, ?_⟩
      exact K.on (O0.call O1) (by simp; exact Nat.le_of_eq HM.out)
end Go.Proofs.YtnadjlejlohgiaaGreatDoor.Wi

