/- Own texts joined: Tx, WCodes, WTok. -/
import Derived.Laws.BytesArg
import Derived.WalkKit
import Derived.WalkSpells
import Derived.Deep.QuietTactic
import Derived.BigQuiet
import Derived.Test.YtnadjlejlohgiaaGreatDoorS6
import Derived.Test.YtnadjlejlohgiaaGreatDoorS7
import Derived.Test.YtnadjlejlohgiaaGreatDoorS8
import Derived.Test.YtnadjlejlohgiaaGreatDoorS9
/- Texts as lists of numbers, and how they lie in memory as strings. -/
namespace Go.Proofs.YtnadjlejlohgiaaGreatDoor.Mem
open Go.RowKit
set_option linter.unusedVariables false
/-- The bytes of a text as numbers; a text of numbers. -/
def chars (s : ByteArray) : List Nat := s.data.toList.map fun b => b.toNat
def strB (l : List Nat) : ByteArray := ⟨(l.map fun n => UInt8.ofNat n).toArray⟩
theorem chars_length (s : ByteArray) : (chars s).length = s.size := by unfold chars; rw [List.length_map, Array.length_toList]; rfl
theorem chars_lt (s : ByteArray) : ∀ x ∈ chars s, x < 256 := by
  intro x hx
  obtain ⟨b, _, rfl⟩ := List.mem_map.1 hx
  exact b.toNat_lt
theorem strB_size (l : List Nat) : (strB l).size = l.length := by simp [strB, ByteArray.size]
theorem strB_chars (s : ByteArray) : strB (chars s) = s := by
  unfold strB chars
  rw [List.map_map]
  have : s.data.toList.map ((fun n : Nat => UInt8.ofNat n) ∘ fun b : UInt8 => b.toNat) = s.data.toList := by
    conv => rhs; rw [← List.map_id s.data.toList]
    exact List.map_congr_left fun b _ => by simp
  rw [this]
theorem chars_strB {l : List Nat} (h : ∀ x ∈ l, x < 256) : chars (strB l) = l := by
  unfold strB chars
  simp only [List.map_map]
  conv => rhs; rw [← List.map_id l]
  refine List.map_congr_left fun b hb => ?_
  have := h b hb
  simp; omega
theorem chars_ext {s t : ByteArray} (h : chars s = chars t) : s = t := by rw [← strB_chars s, ← strB_chars t, h]
theorem strB_append (a b : List Nat) : strB a ++ strB b = strB (a ++ b) := by
  unfold strB
  simp [ByteArray.ext_iff, ByteArray.data_append]
theorem strB_app (a : List Nat) (s : ByteArray) : strB a ++ s = strB (a ++ chars s) := by rw [← strB_append, strB_chars]
theorem chars_at (s : ByteArray) {i : Nat} (h : i < s.size) : (chars s).getD i 0 = s[i].toNat := by
  unfold chars
  rw [List.getD_eq_getElem?_getD, List.getElem?_map, List.getElem?_eq_getElem (by rw [Array.length_toList]; exact h)]; rfl
theorem bytes_conv {w : World} {r : Nat} {v : Value} {l : List Nat} (h : Bytes w r v l) : (convert 28 9 v).run Tryz.prog w = .ok (.string (strB l)) w := by
  have e : (⟨((l.map fun n : Nat => (n : Int)).map fun n : Int => UInt8.ofNat n.toNat).toArray⟩ : ByteArray) = strB l := by
    unfold strB; rw [List.map_map]; rfl
  rcases h.slice with ⟨rfl, rfl⟩ | ⟨cap, rfl, h1, h2⟩
  · exact run_convert_bytes_nil w 28 5 Tryz.underlying28 Tryz.underlying5 0 0 9 Tryz.underlying9
  · rw [← e]
    refine run_convert_bytes_arg w 28 5 Tryz.underlying28 Tryz.underlying5 r 0 l.length cap (l.map fun n : Nat => (n : Int)) (by simp) (fun i hi => ?_) 9 Tryz.underlying9
    have hi' : i < l.length := by simpa using hi
    have hc := h.own.cells (g := r) rfl i (.int .u8 (l.getD i 0 : Nat)) (u8s_get hi')
    have ha : (⟨r, 0, none⟩ : Addr).add i = ⟨r, 0 + i, none⟩ := by unfold Addr.add; split <;> simp_all
    rw [ha] at hc
    rw [hc, List.getD_eq_getElem?_getD, List.getD_eq_getElem?_getD, List.getElem?_map]
    rw [List.getElem?_eq_getElem hi']; rfl
end Go.Proofs.YtnadjlejlohgiaaGreatDoor.Mem

/- Codes by their lengths, in both programs: the plain ones. Conditions: sizes. -/
namespace Go.Proofs.YtnadjlejlohgiaaGreatDoor.Wi
open Go.RowKit Go.Proofs.YtnadjlejlohgiaaGreatDoor.Mem Go.Proofs.YtnadjlejlohgiaaGreatDoor.Cd
set_option linter.unusedVariables false
set_option linter.unusedSimpArgs false
/-- The codes as far as they are made: all shorter ones, and those of length l up to symbol k. -/
def outAt (lens : List Nat) (l k : Nat) : List Nat := (List.range lens.length).map fun i => if 1 ≤ lens.getD i 0 ∧ (lens.getD i 0 < l ∨ lens.getD i 0 = l ∧ i < k) then code lens i else 0
theorem outAt_length (lens : List Nat) (l k : Nat) : (outAt lens l k).length = lens.length := by simp [outAt]
theorem outAt_zero (lens : List Nat) : outAt lens 1 0 = List.replicate lens.length 0 := by
  unfold outAt
  apply List.ext_getElem (by simp)
  intro i h1 h2
  simp only [List.getElem_map, List.getElem_range, List.getElem_replicate]
  rw [if_neg (by omega)]
theorem outAt_next (lens : List Nat) (l : Nat) (h : 1 ≤ l) : outAt lens (l + 1) 0 = outAt lens l lens.length := by
  unfold outAt
  apply List.map_congr_left
  intro i hi
  have := List.mem_range.1 hi
  by_cases c : 1 ≤ lens.getD i 0 ∧ (lens.getD i 0 < l + 1 ∨ lens.getD i 0 = l + 1 ∧ i < 0)
  · rw [if_pos c, if_pos (by omega)]
  · rw [if_neg c, if_neg (by omega)]
theorem outAt_end (lens : List Nat) : outAt lens 16 0 = codes lens := by
  unfold outAt codes
  apply List.map_congr_left
  intro i hi
  by_cases c : 1 ≤ lens.getD i 0 ∧ lens.getD i 0 ≤ 15
  · rw [if_pos (by omega)]
  · rw [if_neg (by omega)]
    unfold code
    rw [if_neg c]
theorem outAt_skip (lens : List Nat) (l k : Nat) (h : lens.getD k 0 ≠ l) : outAt lens l (k + 1) = outAt lens l k := by
  unfold outAt
  apply List.map_congr_left
  intro i hi
  by_cases e : i = k
  · subst e
    by_cases c : 1 ≤ lens.getD i 0 ∧ (lens.getD i 0 < l ∨ lens.getD i 0 = l ∧ i < i + 1)
    · rw [if_pos c, if_pos (by omega)]
    · rw [if_neg c, if_neg (by omega)]
  · by_cases c : 1 ≤ lens.getD i 0 ∧ (lens.getD i 0 < l ∨ lens.getD i 0 = l ∧ i < k + 1)
    · rw [if_pos c, if_pos (by omega)]
    · rw [if_neg c, if_neg (by omega)]
theorem outAt_at (lens : List Nat) (l k : Nat) {i : Nat} (h : i < lens.length) : (outAt lens l k)[i]? = some (if 1 ≤ lens.getD i 0 ∧ (lens.getD i 0 < l ∨ lens.getD i 0 = l ∧ i < k) then code lens i else 0) := by
  unfold outAt; rw [List.getElem?_map, List.getElem?_range h]; rfl
theorem outAt_take (lens : List Nat) (l k : Nat) (h : lens.getD k 0 = l) (h1 : 1 ≤ l) (h2 : l ≤ 15) (hk : k < lens.length) : outAt lens l (k + 1) = (outAt lens l k).set k (codeAt lens l k) := by
  apply List.ext_getElem?
  intro i
  rw [List.getElem?_set, outAt_length]
  by_cases hi : i < lens.length
  · rw [outAt_at lens l (k + 1) hi, outAt_at lens l k hi]
    by_cases e : k = i
    · subst e
      rw [if_pos rfl, if_pos hk, if_pos (by omega)]
      unfold code
      rw [h, if_pos ⟨h1, h2⟩]
    · rw [if_neg e]
      by_cases c : 1 ≤ lens.getD i 0 ∧ (lens.getD i 0 < l ∨ lens.getD i 0 = l ∧ i < k + 1)
      · rw [if_pos c, if_pos (by omega)]
      · rw [if_neg c, if_neg (by omega)]
  · rw [List.getElem?_eq_none (by rw [outAt_length]; omega), if_neg (by omega), List.getElem?_eq_none (by rw [outAt_length]; omega)]
theorem first_le (lens : List Nat) : ∀ l, first lens l ≤ 4 ^ l * lens.length
  | 0 => by simp [first]
  | 1 => by simp [first]
  | l + 2 => by
    have ih := first_le lens (l + 1)
    have hc := List.count_le_length (a := l + 1) (l := lens)
    have h1 : 1 ≤ 4 ^ (l + 1) := Nat.pos_of_ne_zero (by simp)
    have h2 : lens.length ≤ 4 ^ (l + 1) * lens.length := Nat.le_mul_of_pos_left _ h1
    have e : 4 ^ (l + 2) * lens.length = 4 * (4 ^ (l + 1) * lens.length) := by rw [Nat.pow_succ (n := 4) (m := l + 1), Nat.mul_comm (4 ^ (l + 1)) 4, Nat.mul_assoc]
    rw [e, first]
    omega
theorem codeAt_le (lens : List Nat) (l k : Nat) (hl : l ≤ 16) (hn : lens.length ≤ 1000) : codeAt lens l k ≤ 8589934592000 := by
  have a := first_le lens l
  have b := count_take_le lens k l
  have c := List.count_le_length (a := l) (l := lens)
  have d : 4 ^ l ≤ 4 ^ 16 := Nat.pow_le_pow_right (by omega) hl
  have e : 4 ^ l * lens.length ≤ 4 ^ 16 * 1000 := Nat.mul_le_mul d hn
  unfold codeAt
  omega
theorem codeAt_step (lens : List Nat) (l k : Nat) (hk : k < lens.length) : codeAt lens l (k + 1) = codeAt lens l k + if lens.getD k 0 = l then 1 else 0 := by
  unfold codeAt
  rw [count_take_succ hk]
  omega
theorem codeAt_next (lens : List Nat) (l : Nat) (h : 1 ≤ l) : codeAt lens (l + 1) 0 = 2 * codeAt lens l lens.length := by
  unfold codeAt
  rw [first_succ lens h]
  simp
set_option maxRecDepth 100000 in
set_option maxHeartbeats 1000000 in
theorem icodes_calls (lens : List Nat) (g o n cap : Nat) (w : World) (hR : RowO w g o 3 (i64s lens)) (hl : lens.length = n) (hn : n ≤ 1000) (hc : n ≤ cap) :
    Calls Tryz.prog 114 #[.slice (some ⟨g, o, none⟩) n cap] w (GivesI w (codes lens)) := by
  have HL := Lib.hid hl
  have hcl : (codes lens).length = n := by rw [codes_length, hl]
  have HC := Lib.hid hcl
  clear hl hcl
  go_enter Tryz.func114, Tryz.ntmps114
  go_wp2_with (at_make; go_must (refine wpList_ints _ rfl _ _ rfl _ _ n rfl rfl rfl rfl (by omega) ?_); intro w1 hN1 O1 hlt1)
  have R1 := hR.on O1
  have hg1 : g < w.heap.size := hR.lt
  rw [← HL.out] at hN1
  rw [← outAt_zero] at hN1
  rw [HL.out] at hN1
  generalize hB : w.heap.size = B at *
  have HB := Lib.hid hB
  clear hB
  go_loopw [4, 5] (fun a b wr => ∃ l : Nat, 1 ≤ l ∧ l ≤ 16 ∧ b = .int .i64 (l : Int) ∧ a = .int .i64 (codeAt lens l 0 : Nat) ∧ Nums wr B (.slice (some ⟨B, 0, none⟩) n n) (outAt lens l 0) ∧ Kp [B] w1 wr) (fun _ b _ => 16 - (intOf b).toNat)
  case atStart => exact ⟨1, by omega, by omega, rfl, rfl, hN1, Kp.refl _ _⟩
  case round =>
    obtain ⟨l, hl1, hl2, rfl, rfl, hN, K⟩ := hrel
    by_cases hlt : l ≤ 15
    · have hlt' : (l : Int) ≤ 15 := by omega
      obtain ⟨wo, hwo⟩ : ∃ wo : World, wo = wr := ⟨_, rfl⟩
      subst hwo
      go_wp2_with fail
      go_loopw [4, 17] (fun a b wr => ∃ k : Nat, k ≤ n ∧ b = .int .i64 (k : Int) ∧ a = .int .i64 (codeAt lens l k : Nat) ∧ Nums wr B (.slice (some ⟨B, 0, none⟩) n n) (outAt lens l k) ∧ Kp [B] w1 wr) (fun _ b _ => n - (intOf b).toNat)
      case atStart => exact ⟨0, by omega, rfl, rfl, hN, K⟩
      case round =>
        obtain ⟨k, hk, rfl, rfl, hN, K⟩ := hrel
        by_cases hkn : k < n
        · have hkl : k < lens.length := by rw [HL.out]; exact hkn
          have c0 : wr.cell? ⟨g, o + k, none⟩ = some (.int .i64 (lens.getD k 0 : Nat)) := (R1.kp K (by simp; omega)).cell (i64s_get hkl)
          obtain ⟨RB, _, _, _⟩ := hN.row
          have cB : wr.cell? ⟨B, k, none⟩ = some (.int .i64 ((outAt lens l k).getD k 0 : Nat)) := RB.cell (i64s_get (by rw [outAt_length]; exact hkl))
          have fB : wr.frozen? ⟨B, k, none⟩ = false := RB.frozen _
          have hst := codeAt_step lens l k hkl
          have hle := codeAt_le lens l k (by omega) (by rw [HL.out]; omega)
          have hsk := outAt_skip lens l k
          have htk := fun h => outAt_take lens l k h hl1 hlt hkl
          generalize hx : lens.getD k 0 = x at *
          generalize codeAt lens l k = c at *
          generalize (outAt lens l k).getD k 0 = y at *
          have HX := Lib.hid hx
          have HSK := Lib.hid hsk
          have HTK := Lib.hid htk
          have HST := Lib.hid hst
          clear hx hsk htk hst
          by_cases hxl : x = l
          · have hb : ((x : Int) == (l : Int)) = true := by simp [hxl]
            have S1 := hN.set k c
            have K1 := K.set (p := ⟨B, k, none⟩) (.inl (by simp)) (.int .i64 (c : Int))
            have h1 := HTK.out hxl
            have h2 := HST.out
            rw [if_pos hxl] at h2
            rw [← h1] at S1
            have H2 := Lib.hid h2
            clear h1 h2
            have hxl' := Lib.hid hxl
            clear hxl
            go_wp2_with fail
            go_roundw
            case rel => exact ⟨k + 1, by omega, by go_num, by rw [H2.out]; go_num, S1, K1⟩
            case measure => simp [intOf]; omega
          · have hb : ((x : Int) == (l : Int)) = false := by simp; omega
            have h1 := HSK.out hxl
            have h2 := HST.out
            rw [if_neg hxl] at h2
            have H1 := Lib.hid h1
            have H2 := Lib.hid h2
            clear h1 h2
            go_wp2_with fail
            go_roundw
            case rel => exact ⟨k + 1, by omega, by go_num, by rw [H2.out]; rfl, by rw [H1.out]; exact hN, K⟩
            case measure => simp [intOf]; omega
        · obtain rfl : k = n := by omega
          have hle := codeAt_le lens l k (by omega) (by rw [HL.out]; omega)
          have hnx := codeAt_next lens l hl1
          have hno := outAt_next lens l hl1
          rw [HL.out] at hnx hno
          have HNX := Lib.hid hnx
          have HNO := Lib.hid hno
          clear hnx hno
          generalize codeAt lens l k = c at *
          go_wp2_with fail
          go_roundw
          case rel => exact ⟨l + 1, by omega, by omega, by go_num, by rw [HNX.out]; go_num, by rw [HNO.out]; exact hN, K⟩
          case measure => simp [intOf]; omega
    · obtain rfl : l = 16 := by omega
      go_wp2_with fail
      go_ret
      rw [outAt_end] at hN
      refine ⟨B, n, by rw [HC.out]; rfl, by rw [HC.out]; exact hN, by rw [HB.out]; exact Nat.le_refl _, Nat.lt_of_lt_of_le hlt1 K.size, ?_⟩
      exact K.on O1 (fun x hx => by simp at hx; rw [HB.out]; omega)
set_option maxRecDepth 100000 in
set_option maxHeartbeats 1000000 in
theorem scodes_calls (lens : List Nat) (g o n cap : Nat) (w : World) (hR : RowO w g o 3 (i64s lens)) (hl : lens.length = n) (hn : n ≤ 1000) (hc : n ≤ cap) :
    Calls Tryz.prog 162 #[.slice (some ⟨g, o, none⟩) n cap] w (GivesI w (codes lens)) := by
  have HL := Lib.hid hl
  have hcl : (codes lens).length = n := by rw [codes_length, hl]
  have HC := Lib.hid hcl
  clear hl hcl
  go_enter Tryz.func162, Tryz.ntmps162
  go_wp2_with (at_make; go_must (refine wpList_ints _ rfl _ _ rfl _ _ n rfl rfl rfl rfl (by omega) ?_); intro w1 hN1 O1 hlt1)
  have R1 := hR.on O1
  have hg1 : g < w.heap.size := hR.lt
  rw [← HL.out] at hN1
  rw [← outAt_zero] at hN1
  rw [HL.out] at hN1
  generalize hB : w.heap.size = B at *
  have HB := Lib.hid hB
  clear hB
  go_loopw [4, 5] (fun a b wr => ∃ l : Nat, 1 ≤ l ∧ l ≤ 16 ∧ b = .int .i64 (l : Int) ∧ a = .int .i64 (codeAt lens l 0 : Nat) ∧ Nums wr B (.slice (some ⟨B, 0, none⟩) n n) (outAt lens l 0) ∧ Kp [B] w1 wr) (fun _ b _ => 16 - (intOf b).toNat)
  case atStart => exact ⟨1, by omega, by omega, rfl, rfl, hN1, Kp.refl _ _⟩
  case round =>
    obtain ⟨l, hl1, hl2, rfl, rfl, hN, K⟩ := hrel
    by_cases hlt : l ≤ 15
    · have hlt' : (l : Int) ≤ 15 := by omega
      obtain ⟨wo, hwo⟩ : ∃ wo : World, wo = wr := ⟨_, rfl⟩
      subst hwo
      go_wp2_with fail
      go_loopw [4, 6] (fun a b wr => ∃ k : Nat, k ≤ n ∧ b = .int .i64 (k : Int) ∧ a = .int .i64 (codeAt lens l k : Nat) ∧ Nums wr B (.slice (some ⟨B, 0, none⟩) n n) (outAt lens l k) ∧ Kp [B] w1 wr) (fun _ b _ => n - (intOf b).toNat)
      case atStart => exact ⟨0, by omega, rfl, rfl, hN, K⟩
      case round =>
        obtain ⟨k, hk, rfl, rfl, hN, K⟩ := hrel
        by_cases hkn : k < n
        · have hkl : k < lens.length := by rw [HL.out]; exact hkn
          have c0 : wr.cell? ⟨g, o + k, none⟩ = some (.int .i64 (lens.getD k 0 : Nat)) := (R1.kp K (by simp; omega)).cell (i64s_get hkl)
          obtain ⟨RB, _, _, _⟩ := hN.row
          have cB : wr.cell? ⟨B, k, none⟩ = some (.int .i64 ((outAt lens l k).getD k 0 : Nat)) := RB.cell (i64s_get (by rw [outAt_length]; exact hkl))
          have fB : wr.frozen? ⟨B, k, none⟩ = false := RB.frozen _
          have hst := codeAt_step lens l k hkl
          have hle := codeAt_le lens l k (by omega) (by rw [HL.out]; omega)
          have hsk := outAt_skip lens l k
          have htk := fun h => outAt_take lens l k h hl1 hlt hkl
          generalize hx : lens.getD k 0 = x at *
          generalize codeAt lens l k = c at *
          generalize (outAt lens l k).getD k 0 = y at *
          have HX := Lib.hid hx
          have HSK := Lib.hid hsk
          have HTK := Lib.hid htk
          have HST := Lib.hid hst
          clear hx hsk htk hst
          by_cases hxl : x = l
          · have hb : ((x : Int) == (l : Int)) = true := by simp [hxl]
            have S1 := hN.set k c
            have K1 := K.set (p := ⟨B, k, none⟩) (.inl (by simp)) (.int .i64 (c : Int))
            have h1 := HTK.out hxl
            have h2 := HST.out
            rw [if_pos hxl] at h2
            rw [← h1] at S1
            have H2 := Lib.hid h2
            clear h1 h2
            have hxl' := Lib.hid hxl
            clear hxl
            go_wp2_with fail
            go_roundw
            case rel => exact ⟨k + 1, by omega, by go_num, by rw [H2.out]; go_num, S1, K1⟩
            case measure => simp [intOf]; omega
          · have hb : ((x : Int) == (l : Int)) = false := by simp; omega
            have h1 := HSK.out hxl
            have h2 := HST.out
            rw [if_neg hxl] at h2
            have H1 := Lib.hid h1
            have H2 := Lib.hid h2
            clear h1 h2
            go_wp2_with fail
            go_roundw
            case rel => exact ⟨k + 1, by omega, by go_num, by rw [H2.out]; rfl, by rw [H1.out]; exact hN, K⟩
            case measure => simp [intOf]; omega
        · obtain rfl : k = n := by omega
          have hle := codeAt_le lens l k (by omega) (by rw [HL.out]; omega)
          have hnx := codeAt_next lens l hl1
          have hno := outAt_next lens l hl1
          rw [HL.out] at hnx hno
          have HNX := Lib.hid hnx
          have HNO := Lib.hid hno
          clear hnx hno
          generalize codeAt lens l k = c at *
          go_wp2_with fail
          go_roundw
          case rel => exact ⟨l + 1, by omega, by omega, by go_num, by rw [HNX.out]; go_num, by rw [HNO.out]; exact hN, K⟩
          case measure => simp [intOf]; omega
    · obtain rfl : l = 16 := by omega
      go_wp2_with fail
      go_ret
      rw [outAt_end] at hN
      refine ⟨B, n, by rw [HC.out]; rfl, by rw [HC.out]; exact hN, by rw [HB.out]; exact Nat.le_refl _, Nat.lt_of_lt_of_le hlt1 K.size, ?_⟩
      exact K.on O1 (fun x hx => by simp at hx; rw [HB.out]; omega)
end Go.Proofs.YtnadjlejlohgiaaGreatDoor.Wi

/- Tokens of a text, in both programs: the plain ones. Conditions: sizes. -/
namespace Go.Proofs.YtnadjlejlohgiaaGreatDoor.Wi
open Go.RowKit Go.Proofs.YtnadjlejlohgiaaGreatDoor.Mem Go.Proofs.YtnadjlejlohgiaaGreatDoor.Lz
set_option linter.unusedVariables false
set_option linter.unusedSimpArgs false
def tokArr (t : Tok) : Array Value := #[.int .i64 t.byte, .int .i64 t.long, .int .i64 t.back]
def tokCells (l : List Tok) : List Value := l.flatMap fun t => (tokArr t).toList
theorem tokCells_snoc (l : List Tok) (t : Tok) : tokCells (l ++ [t]) = tokCells l ++ (tokArr t).toList := by simp [tokCells]
/-- What the program holds behind j distances. -/
def held (t : List Nat) (a j : Nat) : Tok := if 3 ≤ (best t a j).1 then ⟨0, ((best t a j).1 : Nat), ((best t a j).2 : Nat)⟩ else ⟨(t.getD a 0 : Nat), 0, 0⟩
theorem held_step (t : List Nat) (a j : Nat) : held t a (j + 1) = if 3 ≤ mlen t a (j + 1) ∧ (held t a j).long < (mlen t a (j + 1) : Nat) then ⟨0, ((mlen t a (j + 1) : Nat) : Int), ((j + 1 : Nat) : Int)⟩ else held t a j := by
  by_cases hn : mlen t a (j + 1) > (best t a j).1
  · have e : best t a (j + 1) = (mlen t a (j + 1), j + 1) := by simp only [best]; rw [if_pos hn]
    unfold held
    rw [e]
    dsimp only
    by_cases h3 : 3 ≤ (best t a j).1
    · rw [if_pos h3, if_pos (by omega)]
      dsimp only
      rw [if_pos (by omega)]
    · rw [if_neg h3]
      dsimp only
      by_cases h : 3 ≤ mlen t a (j + 1)
      · rw [if_pos h, if_pos (by omega)]
      · rw [if_neg h, if_neg (by omega)]
  · have e : best t a (j + 1) = best t a j := by simp only [best]; rw [if_neg hn]
    unfold held
    rw [e]
    by_cases h3 : 3 ≤ (best t a j).1
    · rw [if_pos h3]
      dsimp only
      rw [if_neg (by omega)]
    · rw [if_neg h3]
      dsimp only
      rw [if_neg (by omega)]
theorem held_long (t : List Nat) (a j : Nat) : ∃ L : Nat, (held t a j).long = (L : Int) ∧ L ≤ 60 := by
  have := best_le_60 t a j
  unfold held
  split
  · exact ⟨_, rfl, this⟩
  · exact ⟨0, rfl, by omega⟩
theorem held_form (t : List Nat) (a j : Nat) : ∃ (x : Int) (L : Nat) (z : Int), held t a j = ⟨x, L, z⟩ ∧ L ≤ 60 := by
  obtain ⟨L, h1, h2⟩ := held_long t a j
  exact ⟨(held t a j).byte, L, (held t a j).back, by rw [← h1], h2⟩
theorem toks_step (t : List Nat) (a : Nat) (ha : a < t.length) : toks t (t.length - a) a = held t a (min 250 a) :: toks t (t.length - (a + max ((held t a (min 250 a)).long).toNat 1)) (a + max ((held t a (min 250 a)).long).toNat 1) ∧ a + max ((held t a (min 250 a)).long).toNat 1 ≤ t.length := by
  obtain ⟨f, hf⟩ : ∃ f, t.length - a = f + 1 := ⟨t.length - a - 1, by omega⟩
  have hb := best_le t a (min 250 a)
  rw [hf]
  simp only [toks]
  rw [if_pos ha]
  unfold held
  by_cases h : (best t a (min 250 a)).1 < 3
  · rw [if_pos h, if_neg (by omega)]
    simp only
    rw [show (Int.toNat 0) = 0 from rfl, show max 0 1 = 1 from rfl, show t.length - (a + 1) = f from by omega]
    exact ⟨rfl, by omega⟩
  · rw [if_neg h, if_pos (by omega)]
    simp only [Int.toNat_natCast]
    rw [show max (best t a (min 250 a)).1 1 = (best t a (min 250 a)).1 from by omega]
    exact ⟨by rw [toks_more t f (t.length - (a + (best t a (min 250 a)).1)) _ (by omega) (by omega)], by omega⟩
theorem toks_end (t : List Nat) (a : Nat) (ha : t.length ≤ a) : toks t (t.length - a) a = [] := by
  rw [show t.length - a = 0 from by omega]; rfl
theorem run_step {t : List Nat} {a back n : Nat} (hn : n + run t (a + n) (a + n - back) (60 - n) = mlen t a back) (h1 : 1 ≤ back) (h2 : back ≤ a) (hc : n < 60 ∧ a + n < t.length ∧ t[a + n]? = t[a + n - back]?) :
    n + 1 + run t (a + (n + 1)) (a + (n + 1) - back) (60 - (n + 1)) = mlen t a back := by
  obtain ⟨f, hf⟩ : ∃ f, 60 - n = f + 1 := ⟨60 - n - 1, by omega⟩
  rw [hf] at hn
  simp only [run] at hn
  rw [if_pos hc.2] at hn
  rw [show 60 - (n + 1) = f from by omega, show a + (n + 1) = a + n + 1 from by omega, show a + n + 1 - back = a + n - back + 1 from by omega]
  omega
theorem run_stop {t : List Nat} {a back n : Nat} (hn : n + run t (a + n) (a + n - back) (60 - n) = mlen t a back) (hc : ¬ (n < 60 ∧ a + n < t.length ∧ t[a + n]? = t[a + n - back]?)) : n = mlen t a back := by
  by_cases h60 : n < 60
  · obtain ⟨f, hf⟩ : ∃ f, 60 - n = f + 1 := ⟨60 - n - 1, by omega⟩
    rw [hf] at hn
    simp only [run] at hn
    rw [if_neg (fun h => hc ⟨h60, h⟩)] at hn
    omega
  · rw [show 60 - n = 0 from by omega] at hn
    simp only [run] at hn
    omega
theorem tokinfo : (Tryz.prog.info? 117).map (fun i => (i.zero, i.size, i.bytes)) = some (some (.agg #[.int .i64 0, .int .i64 0, .int .i64 0]), 3, 24) := by kernel_rfl
/-- What a contract tells that makes tokens. -/
def GivesT (w : World) (l : List Tok) (e : Ending) (w' : World) : Prop := ∃ r cap, e = .returned (.slice (some ⟨r, 0, none⟩) l.length cap) ∧ Row w' r 117 (tokCells l) ∧ l.length ≤ cap ∧ cap ≤ maxLen ∧ w.heap.size ≤ r ∧ On w w'
def toksOf (s : ByteArray) : List Tok := if s.size ≤ 300 then tokens (chars s) else []
set_option maxRecDepth 100000 in
set_option maxHeartbeats 1000000 in
theorem itoks_calls (s : ByteArray) (w : World) : Calls Tryz.prog 108 #[.string s] w (GivesT w (toksOf s)) := by
  by_cases hs : s.size ≤ 300
  · have hs' : (s.size : Int) ≤ 300 := by omega
    have ht : toksOf s = tokens (chars s) := by unfold toksOf; rw [if_pos hs]
    have HT := Lib.hid ht
    have htl : (chars s).length = s.size := chars_length s
    have hat : ∀ i (h : i < s.size), (chars s)[i]? = some s[i].toNat := fun i h => by
      have := chars_at s h
      rw [List.getD_eq_getElem?_getD, List.getElem?_eq_getElem (by rw [htl]; exact h)] at this
      rw [List.getElem?_eq_getElem (by rw [htl]; exact h)]
      exact congrArg some this
    have h0 : tokens (chars s) = [] ++ toks (chars s) ((chars s).length - 0) 0 := rfl
    generalize chars s = t at *
    have HTL := Lib.hid htl
    have HAT := Lib.hid hat
    have H0 := Lib.hid h0
    clear ht htl hat h0
    go_enter Tryz.func108, Tryz.ntmps108
    go_wp2_with fail
    go_loopw [3, 4] (fun v x wr => ∃ (a : Nat) (done : List Tok), x = .int .i64 (a : Int) ∧ a ≤ s.size ∧ done.length ≤ a ∧ RowKit.Hid (tokens t = done ++ toks t (t.length - a) a) ∧ Own w.heap.size wr 117 3 v done.length (tokCells done) ∧ On w wr) (fun _ x _ => s.size - (intOf x).toNat)
    case atStart => exact ⟨0, [], rfl, by omega, by simp, H0, Own.new w 117 3 #[] 0 (Nat.zero_le _) rfl (Nat.le_refl _), (On.refl w).alloc _⟩
    case round =>
      obtain ⟨a, done, rfl, ha, hd, hT, hown, O⟩ := hrel
      by_cases hlt : a < s.size
      · obtain ⟨b, hbb⟩ : ∃ b, s[a] = b := ⟨_, rfl⟩
        have hbt : t.getD a 0 = b.toNat := by rw [List.getD_eq_getElem?_getD, HAT.out a hlt, hbb]; rfl
        have HBT := Lib.hid hbt
        obtain ⟨wo, hwo⟩ : ∃ wo : World, wo = wr := ⟨_, rfl⟩
        subst hwo
        have hb256 : (b.toNat : Int) < 256 := by have := b.toNat_lt; omega
        have hh0 : held t a 0 = ⟨(b.toNat : Int), 0, 0⟩ := by rw [← hbt]; rfl
        have HH0 := Lib.hid hh0
        clear hbt hh0
        go_wp2_with fail
        have BB := Blk.new wo 117 #[.int .i64 (b.toNat : Int), .int .i64 0, .int .i64 0]
        have OB := (On.refl wo).alloc (.cells #[.int .i64 (b.toNat : Int), .int .i64 0, .int .i64 0] 117)
        generalize hB : wo.heap.size = B at *
        generalize wo.alloc (.cells #[.int .i64 (b.toNat : Int), .int .i64 0, .int .i64 0] 117) = w1 at *
        have HB := Lib.hid hB
        clear hB
        have hmn : (if (a : Int) < 250 then (a : Int) else 250) = ((min 250 a : Nat) : Int) := by split <;> omega
        have hm1 : min 250 a ≤ 250 := by omega
        have hm2 : min 250 a ≤ a := by omega
        have hts := toks_step t a (by rw [HTL.out]; exact hlt)
        have HTS := Lib.hid hts
        clear hts
        generalize min 250 a = m at *
        go_loopw [6] (fun x wr => ∃ j : Nat, x = .int .i64 ((j : Int) + 1) ∧ j ≤ m ∧ Blk wr B 117 (tokArr (held t a j)) ∧ Kp [B] w1 wr) (fun x _ => 251 - (intOf x).toNat)
        case atStart => exact ⟨0, rfl, by omega, by rw [HH0.out]; exact BB, Kp.refl _ _⟩
        case round =>
          obtain ⟨j, rfl, hj, hblk, K⟩ := hrel
          have hst := held_step t a j
          by_cases hjl : j < m
          · have hj1 : (j : Int) + 1 ≤ m := by omega
            have hj2 : (j : Int) + 1 ≤ a := by omega
            obtain ⟨wp, hwp⟩ : ∃ wp : World, wp = wr := ⟨_, rfl⟩
            subst hwp
            obtain ⟨x0, L, z0, hd2, hL⟩ := held_form t a j
            rw [hd2] at hblk hst
            have HST := Lib.hid hst
            clear hst hd2
            go_wp2_with fail
            go_loopw [7] (fun x wr => ∃ n : Nat, x = .int .i64 (n : Int) ∧ n ≤ 60 ∧ RowKit.Hid (n + run t (a + n) (a + n - (j + 1)) (60 - n) = mlen t a (j + 1)) ∧ On wp wr) (fun x _ => 60 - (intOf x).toNat)
            case atStart => exact ⟨0, rfl, by omega, Lib.hid (by simp [mlen]), On.refl _⟩
            case round =>
              obtain ⟨n, rfl, hn, hrun, O3⟩ := hrel
              have q1 : IntKind.i64.wrap ((a : Int) + (n : Int)) = ((a + n : Nat) : Int) := by rw [IntKind.wrap_i64]; omega
              have q2 : IntKind.i64.wrap (((a + n : Nat) : Int) - ((j : Int) + 1)) = ((a + n - (j + 1) : Nat) : Int) := by rw [IntKind.wrap_i64]; omega
              have hq : a + n - (j + 1) < a + n := by omega
              have hq2 : a + n ≤ 400 := by omega
              have hcont : n < 60 ∧ a + n < t.length ∧ t[a + n]? = t[a + n - (j + 1)]? ∨ ¬ (n < 60 ∧ a + n < t.length ∧ t[a + n]? = t[a + n - (j + 1)]?) := Classical.em _
              have hgo := run_step hrun.out (by omega) (by omega)
              have hend := run_stop hrun.out
              generalize hp : a + n = p at hcont hend q1 q2 hq hq2
              generalize hpq : p - (j + 1) = q at hcont hend q2 hq
              rw [hp, hpq] at hgo
              have HP := Lib.hid hp
              have HPQ := Lib.hid hpq
              have HGO := Lib.hid hgo
              have HEND := Lib.hid hend
              clear hp hpq hgo hend hrun
              rcases hcont with hc | hc
              · have hx2 := Lib.hid (HGO.out hc)
                have hc1 : (n : Int) < 60 := by have := hc.1; omega
                have hps : p < s.size := by have := hc.2.1; rw [HTL.out] at this; exact this
                have hqs : q < s.size := by omega
                have hxy : s[p] = s[q] := by
                  have := hc.2.2
                  rw [HAT.out p hps, HAT.out q hqs] at this
                  exact UInt8.toNat_inj.1 (Option.some.inj this)
                have hps' : (p : Int) < s.size := by omega
                have hqs' : (q : Int) < s.size := by omega
                have hb : (((s[p]).toNat : Int) == ((s[q]).toNat : Int)) = true := by rw [hxy]; simp
                clear hc hxy
                generalize hx : s[p] = x at *
                generalize hy : s[q] = y at *
                go_wp2_with fail
                go_quiet (fail)
                go_wp2_with fail
                exact ⟨⟨n + 1, by go_num, by omega, hx2, O3.drewN _⟩, by simp [intOf]; omega⟩
              · have hx2 := HEND.out hc
                have hstop : decide ((n : Int) < 60) = false ∨ (decide ((n : Int) < 60) = true ∧ decide (p < s.size) = false) ∨
                    (decide ((n : Int) < 60) = true ∧ decide (p < s.size) = true ∧ decide (q < s.size) = true ∧ ∃ (hp : p < s.size) (hq : q < s.size), (((s[p]).toNat : Int) == ((s[q]).toNat : Int)) = false) := by
                  by_cases h1 : n < 60
                  · by_cases h2 : p < s.size
                    · refine .inr (.inr ⟨by simp; omega, by simp; omega, by simp; omega, h2, by omega, ?_⟩)
                      rw [beq_eq_false_iff_ne]
                      intro e
                      apply hc
                      refine ⟨h1, by rw [HTL.out]; exact h2, ?_⟩
                      rw [HAT.out p h2, HAT.out q (by omega)]
                      congr 1; omega
                    · exact .inr (.inl ⟨by simp; omega, by simp; omega⟩)
                  · exact .inl (by simp; omega)
                have b1 := O3.blk hblk
                have KK := K.then (Kp.of [B] O3)
                have c1 : wr.cell? ⟨B, 1, none⟩ = some (.int .i64 (L : Int)) := (b1.cell 1).trans rfl
                have cf : ∀ i, wr.frozen? ⟨B, i, none⟩ = false := b1.frozen
                have c0 : wr.cell? ⟨B, 0, none⟩ = some (.int .i64 x0) := (b1.cell 0).trans rfl
                have c2 : wr.cell? ⟨B, 2, none⟩ = some (.int .i64 z0) := (b1.cell 2).trans rfl
                have HX2 := Lib.hid hx2
                clear hc hx2
                rcases hstop with h | ⟨h1, h2⟩ | ⟨h1, h2, h3, hp, hq, h4⟩
                · go_wp2_with fail
                  go_quiet (fail)
                  by_cases h3 : 3 ≤ n
                  · have h3' : (3 : Int) ≤ n := by omega
                    by_cases hLn : L < n
                    · have hLn' : (L : Int) < n := by omega
                      go_wp2_with fail
                      refine ⟨⟨j + 1, by go_num, by omega, ?_, ?_⟩, by simp [intOf]; omega⟩
                      · rw [HST.out, ← HX2.out, if_pos ⟨h3, hLn'⟩]
                        exact (((b1.drewN nq).set 0 _).set 1 _).set 2 _
                      · exact (((KK.drewN nq).set (.inl (by simp)) _).set (.inl (by simp)) _).set (.inl (by simp)) _
                    · have hLn' : ¬ (L : Int) < n := by omega
                      go_wp2_with fail
                      refine ⟨⟨j + 1, by go_num, by omega, ?_, KK.drewN nq⟩, by simp [intOf]; omega⟩
                      rw [HST.out, ← HX2.out, if_neg (fun h => hLn' h.2)]
                      exact b1.drewN nq
                  · have h3' : ¬ (3 : Int) ≤ n := by omega
                    go_wp2_with fail
                    refine ⟨⟨j + 1, by go_num, by omega, ?_, KK.drewN nq⟩, by simp [intOf]; omega⟩
                    rw [HST.out, ← HX2.out, if_neg (fun h => h3 h.1)]
                    exact b1.drewN nq
                · go_wp2_with fail
                  go_quiet (fail)
                  by_cases h3 : 3 ≤ n
                  · have h3' : (3 : Int) ≤ n := by omega
                    by_cases hLn : L < n
                    · have hLn' : (L : Int) < n := by omega
                      go_wp2_with fail
                      refine ⟨⟨j + 1, by go_num, by omega, ?_, ?_⟩, by simp [intOf]; omega⟩
                      · rw [HST.out, ← HX2.out, if_pos ⟨h3, hLn'⟩]
                        exact (((b1.drewN nq).set 0 _).set 1 _).set 2 _
                      · exact (((KK.drewN nq).set (.inl (by simp)) _).set (.inl (by simp)) _).set (.inl (by simp)) _
                    · have hLn' : ¬ (L : Int) < n := by omega
                      go_wp2_with fail
                      refine ⟨⟨j + 1, by go_num, by omega, ?_, KK.drewN nq⟩, by simp [intOf]; omega⟩
                      rw [HST.out, ← HX2.out, if_neg (fun h => hLn' h.2)]
                      exact b1.drewN nq
                  · have h3' : ¬ (3 : Int) ≤ n := by omega
                    go_wp2_with fail
                    refine ⟨⟨j + 1, by go_num, by omega, ?_, KK.drewN nq⟩, by simp [intOf]; omega⟩
                    rw [HST.out, ← HX2.out, if_neg (fun h => h3 h.1)]
                    exact b1.drewN nq
                · generalize hx : s[p] = x at *
                  generalize hy : s[q] = y at *
                  go_wp2_with fail
                  go_quiet (fail)
                  by_cases h3 : 3 ≤ n
                  · have h3' : (3 : Int) ≤ n := by omega
                    by_cases hLn : L < n
                    · have hLn' : (L : Int) < n := by omega
                      go_wp2_with fail
                      refine ⟨⟨j + 1, by go_num, by omega, ?_, ?_⟩, by simp [intOf]; omega⟩
                      · rw [HST.out, ← HX2.out, if_pos ⟨h3, hLn'⟩]
                        exact (((b1.drewN nq).set 0 _).set 1 _).set 2 _
                      · exact (((KK.drewN nq).set (.inl (by simp)) _).set (.inl (by simp)) _).set (.inl (by simp)) _
                    · have hLn' : ¬ (L : Int) < n := by omega
                      go_wp2_with fail
                      refine ⟨⟨j + 1, by go_num, by omega, ?_, KK.drewN nq⟩, by simp [intOf]; omega⟩
                      rw [HST.out, ← HX2.out, if_neg (fun h => hLn' h.2)]
                      exact b1.drewN nq
                  · have h3' : ¬ (3 : Int) ≤ n := by omega
                    go_wp2_with fail
                    refine ⟨⟨j + 1, by go_num, by omega, ?_, KK.drewN nq⟩, by simp [intOf]; omega⟩
                    rw [HST.out, ← HX2.out, if_neg (fun h => h3 h.1)]
                    exact b1.drewN nq
          · obtain rfl : j = m := by omega
            obtain ⟨x0, L, z0, hd2, hL⟩ := held_form t a j
            have HD := Lib.hid hd2
            rw [hd2] at hblk
            have c0 : wr.cell? ⟨B, 0, none⟩ = some (.int .i64 x0) := (hblk.cell 0).trans rfl
            have c1 : wr.cell? ⟨B, 1, none⟩ = some (.int .i64 (L : Int)) := (hblk.cell 1).trans rfl
            have c2 : wr.cell? ⟨B, 2, none⟩ = some (.int .i64 z0) := (hblk.cell 2).trans rfl
            have hne : ∀ k, u3.ownBlock = some k → k ≠ B := fun k hk => by have := (hown.own.lt k hk).2; rw [← HB.out]; omega
            have hown2 : Own w.heap.size wr 117 3 u3 done.length (tokCells done) := ⟨K.owns (own_on hown.own OB) (fun k hk => by simpa using hne k hk), hown.nn⟩
            have O2 : On w wr := K.on (O.call OB) (fun x hx => by simp at hx; rw [hx, ← HB.out]; exact O.size)
            have hneB : u3.ownBlock ≠ some B := fun h => hne B h rfl
            have HNB := Lib.hid hneB
            obtain ⟨i0, hi, hz0, hz1, hz2⟩ := info_parts tokinfo
            have hmx : (if (L : Int) < 1 then (1 : Int) else L) = ((max L 1 : Nat) : Int) := by split <;> omega
            have hdl : done.length ≤ 300 := by omega
            clear hd2 hst hne hown hneB hjl
            go_wp2_with (at_builtin; go_must (refine wpList_app rfl _ _ 114 rfl w i0 (.agg #[.int .i64 0, .int .i64 0, .int .i64 0]) 24 3 Tryz.underlying114 hi hz0 hz1 hz2 rfl (by decide) rfl _ _ _ rfl hown2 O2 rfl (by simp [Value.oneCell']) (by unfold maxLen; omega) (by omega) ?_); intro v' w2 hown' O' hk; have b2 := hk B _ _ hblk HNB.out; have d1 : w2.cell? ⟨B, 1, none⟩ = some (.int .i64 (L : Int)) := (b2.cell 1).trans rfl)
            obtain ⟨ht1, ht2⟩ := HTS.out
            have hTl := hT.out
            rw [HD.out] at ht1 ht2
            simp only [Int.toNat_natCast] at ht1 ht2
            go_roundw
            case rel =>
              refine ⟨a + max L 1, done ++ [⟨x0, (L : Int), z0⟩], by go_num, by rw [HTL.out] at ht2; exact ht2, by rw [List.length_append, List.length_singleton]; omega, Lib.hid (by rw [hTl, ht1, List.append_assoc]; rfl), ?_, O'⟩
              rw [List.length_append, List.length_singleton, tokCells_snoc]
              exact hown'
            case measure => simp [intOf]; omega
      · obtain rfl : a = s.size := by omega
        have hT2 := hT.out
        rw [toks_end t _ (by rw [HTL.out]; exact Nat.le_refl _), List.append_nil] at hT2
        have HT2 := Lib.hid hT2
        obtain ⟨g, cap, rfl, hg, R, hn1, hcap, hlen⟩ := hown.parts
        clear hT2
        go_wp2_with fail
        go_ret
        refine ⟨g, cap, ?_, ?_, ?_, hcap, hg, O⟩
        · rw [HT.out, HT2.out]; rfl
        · rw [HT.out, HT2.out]; exact R
        · rw [HT.out, HT2.out]; exact hn1
  · have hs' : (300 : Int) < s.size := by omega
    have ht : toksOf s = [] := by unfold toksOf; rw [if_neg hs]
    have HT := Lib.hid ht
    clear ht
    go_enter Tryz.func108, Tryz.ntmps108
    go_wp2_with fail
    go_ret
    exact ⟨w.heap.size, 0, by rw [HT.out]; rfl, by rw [HT.out]; exact Row.of (Blk.new w 117 #[]), by rw [HT.out]; exact Nat.le_refl _, Nat.zero_le _, Nat.le_refl _, (On.refl w).alloc _⟩
end Go.Proofs.YtnadjlejlohgiaaGreatDoor.Wi

