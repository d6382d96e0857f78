/- Codes by their lengths, in both programs: the plain ones. Conditions: sizes. -/
import Derived.Test.YtncidljdfipigaaDoorNu
import Derived.Test.YtncidljdfipigaaDoorCd
import Derived.WalkKit
import Derived.WalkSpells
namespace Go.Proofs.YtncidljdfipigaaDoor.Wi
open Go.RowKit Go.Proofs.YtncidljdfipigaaDoor.Mem Go.Proofs.YtncidljdfipigaaDoor.Cd
set_option linter.unusedVariables false
set_option linter.unusedSimpArgs false
/-- The codes as far as they are made: all shorter ones, and those of length l up to symbol k. -/
def outAt (lens : List Nat) (l k : Nat) : List Nat := (List.range lens.length).map fun i => if 1 ≤ lens.getD i 0 ∧ (lens.getD i 0 < l ∨ lens.getD i 0 = l ∧ i < k) then code lens i else 0
theorem outAt_length (lens : List Nat) (l k : Nat) : (outAt lens l k).length = lens.length := by simp [outAt]
theorem outAt_zero (lens : List Nat) : outAt lens 1 0 = List.replicate lens.length 0 := by
  unfold outAt
  apply List.ext_getElem (by simp)
  intro i h1 h2
  simp only [List.getElem_map, List.getElem_range, List.getElem_replicate]
  rw [if_neg (by omega)]
theorem outAt_next (lens : List Nat) (l : Nat) (h : 1 ≤ l) : outAt lens (l + 1) 0 = outAt lens l lens.length := by
  unfold outAt
  apply List.map_congr_left
  intro i hi
  have := List.mem_range.1 hi
  by_cases c : 1 ≤ lens.getD i 0 ∧ (lens.getD i 0 < l + 1 ∨ lens.getD i 0 = l + 1 ∧ i < 0)
  · rw [if_pos c, if_pos (by omega)]
  · rw [if_neg c, if_neg (by omega)]
theorem outAt_end (lens : List Nat) : outAt lens 16 0 = codes lens := by
  unfold outAt codes
  apply List.map_congr_left
  intro i hi
  by_cases c : 1 ≤ lens.getD i 0 ∧ lens.getD i 0 ≤ 15
  · rw [if_pos (by omega)]
  · rw [if_neg (by omega)]
    unfold code
    rw [if_neg c]
theorem outAt_skip (lens : List Nat) (l k : Nat) (h : lens.getD k 0 ≠ l) : outAt lens l (k + 1) = outAt lens l k := by
  unfold outAt
  apply List.map_congr_left
  intro i hi
  by_cases e : i = k
  · subst e
    by_cases c : 1 ≤ lens.getD i 0 ∧ (lens.getD i 0 < l ∨ lens.getD i 0 = l ∧ i < i + 1)
    · rw [if_pos c, if_pos (by omega)]
    · rw [if_neg c, if_neg (by omega)]
  · by_cases c : 1 ≤ lens.getD i 0 ∧ (lens.getD i 0 < l ∨ lens.getD i 0 = l ∧ i < k + 1)
    · rw [if_pos c, if_pos (by omega)]
    · rw [if_neg c, if_neg (by omega)]
theorem outAt_at (lens : List Nat) (l k : Nat) {i : Nat} (h : i < lens.length) : (outAt lens l k)[i]? = some (if 1 ≤ lens.getD i 0 ∧ (lens.getD i 0 < l ∨ lens.getD i 0 = l ∧ i < k) then code lens i else 0) := by
  unfold outAt; rw [List.getElem?_map, List.getElem?_range h]; rfl
theorem outAt_take (lens : List Nat) (l k : Nat) (h : lens.getD k 0 = l) (h1 : 1 ≤ l) (h2 : l ≤ 15) (hk : k < lens.length) : outAt lens l (k + 1) = (outAt lens l k).set k (codeAt lens l k) := by
  apply List.ext_getElem?
  intro i
  rw [List.getElem?_set, outAt_length]
  by_cases hi : i < lens.length
  · rw [outAt_at lens l (k + 1) hi, outAt_at lens l k hi]
    by_cases e : k = i
    · subst e
      rw [if_pos rfl, if_pos hk, if_pos (by omega)]
      unfold code
      rw [h, if_pos ⟨h1, h2⟩]
    · rw [if_neg e]
      by_cases c : 1 ≤ lens.getD i 0 ∧ (lens.getD i 0 < l ∨ lens.getD i 0 = l ∧ i < k + 1)
      · rw [if_pos c, if_pos (by omega)]
      · rw [if_neg c, if_neg (by omega)]
  · rw [List.getElem?_eq_none (by rw [outAt_length]; omega), if_neg (by omega), List.getElem?_eq_none (by rw [outAt_length]; omega)]
theorem first_le (lens : List Nat) : ∀ l, first lens l ≤ 4 ^ l * lens.length
  | 0 => by simp [first]
  | 1 => by simp [first]
  | l + 2 => by
    have ih := first_le lens (l + 1)
    have hc := List.count_le_length (a := l + 1) (l := lens)
    have h1 : 1 ≤ 4 ^ (l + 1) := Nat.pos_of_ne_zero (by simp)
    have h2 : lens.length ≤ 4 ^ (l + 1) * lens.length := Nat.le_mul_of_pos_left _ h1
    have e : 4 ^ (l + 2) * lens.length = 4 * (4 ^ (l + 1) * lens.length) := by rw [Nat.pow_succ (n := 4) (m := l + 1), Nat.mul_comm (4 ^ (l + 1)) 4, Nat.mul_assoc]
    rw [e, first]
    omega
theorem codeAt_le (lens : List Nat) (l k : Nat) (hl : l ≤ 16) (hn : lens.length ≤ 1000) : codeAt lens l k ≤ 8589934592000 := by
  have a := first_le lens l
  have b := count_take_le lens k l
  have c := List.count_le_length (a := l) (l := lens)
  have d : 4 ^ l ≤ 4 ^ 16 := Nat.pow_le_pow_right (by omega) hl
  have e : 4 ^ l * lens.length ≤ 4 ^ 16 * 1000 := Nat.mul_le_mul d hn
  unfold codeAt
  omega
theorem codeAt_step (lens : List Nat) (l k : Nat) (hk : k < lens.length) : codeAt lens l (k + 1) = codeAt lens l k + if lens.getD k 0 = l then 1 else 0 := by
  unfold codeAt
  rw [count_take_succ hk]
  omega
theorem codeAt_next (lens : List Nat) (l : Nat) (h : 1 ≤ l) : codeAt lens (l + 1) 0 = 2 * codeAt lens l lens.length := by
  unfold codeAt
  rw [first_succ lens h]
  simp
set_option maxRecDepth 100000 in
set_option maxHeartbeats 1000000 in
theorem icodes_calls (lens : List Nat) (g o n cap : Nat) (w : World) (hR : RowO w g o 3 (i64s lens)) (hl : lens.length = n) (hn : n ≤ 1000) (hc : n ≤ cap) :
    Calls Tryd.prog 66 #[.slice (some ⟨g, o, none⟩) n cap] w (GivesI w (codes lens)) := by
  have HL := Lib.hid hl
  have hcl : (codes lens).length = n := by rw [codes_length, hl]
  have HC := Lib.hid hcl
  clear hl hcl
  go_enter Tryd.func66, Tryd.ntmps66
  go_wp2_with (at_make; go_must (refine wpList_ints _ rfl _ _ rfl _ _ n rfl rfl rfl rfl (by omega) ?_); intro w1 hN1 O1 hlt1)
  have R1 := hR.on O1
  have hg1 : g < w.heap.size := hR.lt
  rw [← HL.out] at hN1
  rw [← outAt_zero] at hN1
  rw [HL.out] at hN1
  generalize hB : w.heap.size = B at *
  have HB := Lib.hid hB
  clear hB
  go_loopw [4, 5] (fun a b wr => ∃ l : Nat, 1 ≤ l ∧ l ≤ 16 ∧ b = .int .i64 (l : Int) ∧ a = .int .i64 (codeAt lens l 0 : Nat) ∧ Nums wr B (.slice (some ⟨B, 0, none⟩) n n) (outAt lens l 0) ∧ Kp [B] w1 wr) (fun _ b _ => 16 - (intOf b).toNat)
  case atStart => exact ⟨1, by omega, by omega, rfl, rfl, hN1, Kp.refl _ _⟩
  case round =>
    obtain ⟨l, hl1, hl2, rfl, rfl, hN, K⟩ := hrel
    by_cases hlt : l ≤ 15
    · have hlt' : (l : Int) ≤ 15 := by omega
      obtain ⟨wo, hwo⟩ : ∃ wo : World, wo = wr := ⟨_, rfl⟩
      subst hwo
      go_wp2_with fail
      go_loopw [4, 17] (fun a b wr => ∃ k : Nat, k ≤ n ∧ b = .int .i64 (k : Int) ∧ a = .int .i64 (codeAt lens l k : Nat) ∧ Nums wr B (.slice (some ⟨B, 0, none⟩) n n) (outAt lens l k) ∧ Kp [B] w1 wr) (fun _ b _ => n - (intOf b).toNat)
      case atStart => exact ⟨0, by omega, rfl, rfl, hN, K⟩
      case round =>
        obtain ⟨k, hk, rfl, rfl, hN, K⟩ := hrel
        by_cases hkn : k < n
        · have hkl : k < lens.length := by rw [HL.out]; exact hkn
          have c0 : wr.cell? ⟨g, o + k, none⟩ = some (.int .i64 (lens.getD k 0 : Nat)) := (R1.kp K (by simp; omega)).cell (i64s_get hkl)
          obtain ⟨RB, _, _, _⟩ := hN.row
          have cB : wr.cell? ⟨B, k, none⟩ = some (.int .i64 ((outAt lens l k).getD k 0 : Nat)) := RB.cell (i64s_get (by rw [outAt_length]; exact hkl))
          have fB : wr.frozen? ⟨B, k, none⟩ = false := RB.frozen _
          have hst := codeAt_step lens l k hkl
          have hle := codeAt_le lens l k (by omega) (by rw [HL.out]; omega)
          have hsk := outAt_skip lens l k
          have htk := fun h => outAt_take lens l k h hl1 hlt hkl
          generalize hx : lens.getD k 0 = x at *
          generalize codeAt lens l k = c at *
          generalize (outAt lens l k).getD k 0 = y at *
          have HX := Lib.hid hx
          have HSK := Lib.hid hsk
          have HTK := Lib.hid htk
          have HST := Lib.hid hst
          clear hx hsk htk hst
          by_cases hxl : x = l
          · have hb : ((x : Int) == (l : Int)) = true := by simp [hxl]
            have S1 := hN.set k c
            have K1 := K.set (p := ⟨B, k, none⟩) (.inl (by simp)) (.int .i64 (c : Int))
            have h1 := HTK.out hxl
            have h2 := HST.out
            rw [if_pos hxl] at h2
            rw [← h1] at S1
            have H2 := Lib.hid h2
            clear h1 h2
            have hxl' := Lib.hid hxl
            clear hxl
            go_wp2_with fail
            go_roundw
            case rel => exact ⟨k + 1, by omega, by go_num, by rw [H2.out]; go_num, S1, K1⟩
            case measure => simp [intOf]; omega
          · have hb : ((x : Int) == (l : Int)) = false := by simp; omega
            have h1 := HSK.out hxl
            have h2 := HST.out
            rw [if_neg hxl] at h2
            have H1 := Lib.hid h1
            have H2 := Lib.hid h2
            clear h1 h2
            go_wp2_with fail
            go_roundw
            case rel => exact ⟨k + 1, by omega, by go_num, by rw [H2.out]; rfl, by rw [H1.out]; exact hN, K⟩
            case measure => simp [intOf]; omega
        · obtain rfl : k = n := by omega
          have hle := codeAt_le lens l k (by omega) (by rw [HL.out]; omega)
          have hnx := codeAt_next lens l hl1
          have hno := outAt_next lens l hl1
          rw [HL.out] at hnx hno
          have HNX := Lib.hid hnx
          have HNO := Lib.hid hno
          clear hnx hno
          generalize codeAt lens l k = c at *
          go_wp2_with fail
          go_roundw
          case rel => exact ⟨l + 1, by omega, by omega, by go_num, by rw [HNX.out]; go_num, by rw [HNO.out]; exact hN, K⟩
          case measure => simp [intOf]; omega
    · obtain rfl : l = 16 := by omega
      go_wp2_with fail
      go_ret
      rw [outAt_end] at hN
      refine ⟨B, n, by rw [HC.out]; rfl, by rw [HC.out]; exact hN, by rw [HB.out]; exact Nat.le_refl _, Nat.lt_of_lt_of_le hlt1 K.size, ?_⟩
      exact K.on O1 (fun x hx => by simp at hx; rw [HB.out]; omega)
set_option maxRecDepth 100000 in
set_option maxHeartbeats 1000000 in
theorem scodes_calls (lens : List Nat) (g o n cap : Nat) (w : World) (hR : RowO w g o 3 (i64s lens)) (hl : lens.length = n) (hn : n ≤ 1000) (hc : n ≤ cap) :
    Calls Tryd.prog 128 #[.slice (some ⟨g, o, none⟩) n cap] w (GivesI w (codes lens)) := by
  have HL := Lib.hid hl
  have hcl : (codes lens).length = n := by rw [codes_length, hl]
  have HC := Lib.hid hcl
  clear hl hcl
  go_enter Tryd.func128, Tryd.ntmps128
  go_wp2_with (at_make; go_must (refine wpList_ints _ rfl _ _ rfl _ _ n rfl rfl rfl rfl (by omega) ?_); intro w1 hN1 O1 hlt1)
  have R1 := hR.on O1
  have hg1 : g < w.heap.size := hR.lt
  rw [← HL.out] at hN1
  rw [← outAt_zero] at hN1
  rw [HL.out] at hN1
  generalize hB : w.heap.size = B at *
  have HB := Lib.hid hB
  clear hB
  go_loopw [4, 5] (fun a b wr => ∃ l : Nat, 1 ≤ l ∧ l ≤ 16 ∧ b = .int .i64 (l : Int) ∧ a = .int .i64 (codeAt lens l 0 : Nat) ∧ Nums wr B (.slice (some ⟨B, 0, none⟩) n n) (outAt lens l 0) ∧ Kp [B] w1 wr) (fun _ b _ => 16 - (intOf b).toNat)
  case atStart => exact ⟨1, by omega, by omega, rfl, rfl, hN1, Kp.refl _ _⟩
  case round =>
    obtain ⟨l, hl1, hl2, rfl, rfl, hN, K⟩ := hrel
    by_cases hlt : l ≤ 15
    · have hlt' : (l : Int) ≤ 15 := by omega
      obtain ⟨wo, hwo⟩ : ∃ wo : World, wo = wr := ⟨_, rfl⟩
      subst hwo
      go_wp2_with fail
      go_loopw [4, 6] (fun a b wr => ∃ k : Nat, k ≤ n ∧ b = .int .i64 (k : Int) ∧ a = .int .i64 (codeAt lens l k : Nat) ∧ Nums wr B (.slice (some ⟨B, 0, none⟩) n n) (outAt lens l k) ∧ Kp [B] w1 wr) (fun _ b _ => n - (intOf b).toNat)
      case atStart => exact ⟨0, by omega, rfl, rfl, hN, K⟩
      case round =>
        obtain ⟨k, hk, rfl, rfl, hN, K⟩ := hrel
        by_cases hkn : k < n
        · have hkl : k < lens.length := by rw [HL.out]; exact hkn
          have c0 : wr.cell? ⟨g, o + k, none⟩ = some (.int .i64 (lens.getD k 0 : Nat)) := (R1.kp K (by simp; omega)).cell (i64s_get hkl)
          obtain ⟨RB, _, _, _⟩ := hN.row
          have cB : wr.cell? ⟨B, k, none⟩ = some (.int .i64 ((outAt lens l k).getD k 0 : Nat)) := RB.cell (i64s_get (by rw [outAt_length]; exact hkl))
          have fB : wr.frozen? ⟨B, k, none⟩ = false := RB.frozen _
          have hst := codeAt_step lens l k hkl
          have hle := codeAt_le lens l k (by omega) (by rw [HL.out]; omega)
          have hsk := outAt_skip lens l k
          have htk := fun h => outAt_take lens l k h hl1 hlt hkl
          generalize hx : lens.getD k 0 = x at *
          generalize codeAt lens l k = c at *
          generalize (outAt lens l k).getD k 0 = y at *
          have HX := Lib.hid hx
          have HSK := Lib.hid hsk
          have HTK := Lib.hid htk
          have HST := Lib.hid hst
          clear hx hsk htk hst
          by_cases hxl : x = l
          · have hb : ((x : Int) == (l : Int)) = true := by simp [hxl]
            have S1 := hN.set k c
            have K1 := K.set (p := ⟨B, k, none⟩) (.inl (by simp)) (.int .i64 (c : Int))
            have h1 := HTK.out hxl
            have h2 := HST.out
            rw [if_pos hxl] at h2
            rw [← h1] at S1
            have H2 := Lib.hid h2
            clear h1 h2
            have hxl' := Lib.hid hxl
            clear hxl
            go_wp2_with fail
            go_roundw
            case rel => exact ⟨k + 1, by omega, by go_num, by rw [H2.out]; go_num, S1, K1⟩
            case measure => simp [intOf]; omega
          · have hb : ((x : Int) == (l : Int)) = false := by simp; omega
            have h1 := HSK.out hxl
            have h2 := HST.out
            rw [if_neg hxl] at h2
            have H1 := Lib.hid h1
            have H2 := Lib.hid h2
            clear h1 h2
            go_wp2_with fail
            go_roundw
            case rel => exact ⟨k + 1, by omega, by go_num, by rw [H2.out]; rfl, by rw [H1.out]; exact hN, K⟩
            case measure => simp [intOf]; omega
        · obtain rfl : k = n := by omega
          have hle := codeAt_le lens l k (by omega) (by rw [HL.out]; omega)
          have hnx := codeAt_next lens l hl1
          have hno := outAt_next lens l hl1
          rw [HL.out] at hnx hno
          have HNX := Lib.hid hnx
          have HNO := Lib.hid hno
          clear hnx hno
          generalize codeAt lens l k = c at *
          go_wp2_with fail
          go_roundw
          case rel => exact ⟨l + 1, by omega, by omega, by go_num, by rw [HNX.out]; go_num, by rw [HNO.out]; exact hN, K⟩
          case measure => simp [intOf]; omega
    · obtain rfl : l = 16 := by omega
      go_wp2_with fail
      go_ret
      rw [outAt_end] at hN
      refine ⟨B, n, by rw [HC.out]; rfl, by rw [HC.out]; exact hN, by rw [HB.out]; exact Nat.le_refl _, Nat.lt_of_lt_of_le hlt1 K.size, ?_⟩
      exact K.on O1 (fun x hx => by simp at hx; rw [HB.out]; omega)
end Go.Proofs.YtncidljdfipigaaDoor.Wi
