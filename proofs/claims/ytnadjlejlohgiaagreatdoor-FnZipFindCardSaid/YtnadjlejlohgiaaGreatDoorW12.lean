/- Own texts joined: WCodes, Mp, Bk. -/
import Derived.WalkKit
import Derived.WalkSpells
import Derived.Test.YtnadjlejlohgiaaGreatDoorChecked
import Derived.DeepKeys4
import Derived.Maps.Keyed
import Derived.Maps.Own
import Derived.Lib.Hide
import Derived.Deep.DeepCutAuto
import Derived.Deep.QuietTactic
import Derived.BigQuiet
import Derived.Carry
import Derived.Test.YtnadjlejlohgiaaGreatDoorW1
import Derived.Test.YtnadjlejlohgiaaGreatDoorW2
/- Codes by their lengths, in both programs: the plain ones. Conditions: sizes. -/
namespace Go.Proofs.YtnadjlejlohgiaaGreatDoor.Wi
open Go.RowKit Go.Proofs.YtnadjlejlohgiaaGreatDoor.Mem Go.Proofs.YtnadjlejlohgiaaGreatDoor.Cd
set_option linter.unusedVariables false
set_option linter.unusedSimpArgs false
/-- The codes as far as they are made: all shorter ones, and those of length l up to symbol k. -/
def outAt (lens : List Nat) (l k : Nat) : List Nat := (List.range lens.length).map fun i => if 1 ≤ lens.getD i 0 ∧ (lens.getD i 0 < l ∨ lens.getD i 0 = l ∧ i < k) then code lens i else 0
theorem outAt_length (lens : List Nat) (l k : Nat) : (outAt lens l k).length = lens.length := by simp [outAt]
theorem outAt_zero (lens : List Nat) : outAt lens 1 0 = List.replicate lens.length 0 := by
  unfold outAt
  apply List.ext_getElem (by simp)
  intro i h1 h2
  simp only [List.getElem_map, List.getElem_range, List.getElem_replicate]
  rw [if_neg (by omega)]
theorem outAt_next (lens : List Nat) (l : Nat) (h : 1 ≤ l) : outAt lens (l + 1) 0 = outAt lens l lens.length := by
  unfold outAt
  apply List.map_congr_left
  intro i hi
  have := List.mem_range.1 hi
  by_cases c : 1 ≤ lens.getD i 0 ∧ (lens.getD i 0 < l + 1 ∨ lens.getD i 0 = l + 1 ∧ i < 0)
  · rw [if_pos c, if_pos (by omega)]
  · rw [if_neg c, if_neg (by omega)]
theorem outAt_end (lens : List Nat) : outAt lens 16 0 = codes lens := by
  unfold outAt codes
  apply List.map_congr_left
  intro i hi
  by_cases c : 1 ≤ lens.getD i 0 ∧ lens.getD i 0 ≤ 15
  · rw [if_pos (by omega)]
  · rw [if_neg (by omega)]
    unfold code
    rw [if_neg c]
theorem outAt_skip (lens : List Nat) (l k : Nat) (h : lens.getD k 0 ≠ l) : outAt lens l (k + 1) = outAt lens l k := by
  unfold outAt
  apply List.map_congr_left
  intro i hi
  by_cases e : i = k
  · subst e
    by_cases c : 1 ≤ lens.getD i 0 ∧ (lens.getD i 0 < l ∨ lens.getD i 0 = l ∧ i < i + 1)
    · rw [if_pos c, if_pos (by omega)]
    · rw [if_neg c, if_neg (by omega)]
  · by_cases c : 1 ≤ lens.getD i 0 ∧ (lens.getD i 0 < l ∨ lens.getD i 0 = l ∧ i < k + 1)
    · rw [if_pos c, if_pos (by omega)]
    · rw [if_neg c, if_neg (by omega)]
theorem outAt_at (lens : List Nat) (l k : Nat) {i : Nat} (h : i < lens.length) : (outAt lens l k)[i]? = some (if 1 ≤ lens.getD i 0 ∧ (lens.getD i 0 < l ∨ lens.getD i 0 = l ∧ i < k) then code lens i else 0) := by
  unfold outAt; rw [List.getElem?_map, List.getElem?_range h]; rfl
theorem outAt_take (lens : List Nat) (l k : Nat) (h : lens.getD k 0 = l) (h1 : 1 ≤ l) (h2 : l ≤ 15) (hk : k < lens.length) : outAt lens l (k + 1) = (outAt lens l k).set k (codeAt lens l k) := by
  apply List.ext_getElem?
  intro i
  rw [List.getElem?_set, outAt_length]
  by_cases hi : i < lens.length
  · rw [outAt_at lens l (k + 1) hi, outAt_at lens l k hi]
    by_cases e : k = i
    · subst e
      rw [if_pos rfl, if_pos hk, if_pos (by omega)]
      unfold code
      rw [h, if_pos ⟨h1, h2⟩]
    · rw [if_neg e]
      by_cases c : 1 ≤ lens.getD i 0 ∧ (lens.getD i 0 < l ∨ lens.getD i 0 = l ∧ i < k + 1)
      · rw [if_pos c, if_pos (by omega)]
      · rw [if_neg c, if_neg (by omega)]
  · rw [List.getElem?_eq_none (by rw [outAt_length]; omega), if_neg (by omega), List.getElem?_eq_none (by rw [outAt_length]; omega)]
theorem first_le (lens : List Nat) : ∀ l, first lens l ≤ 4 ^ l * lens.length
  | 0 => by simp [first]
  | 1 => by simp [first]
  | l + 2 => by
    have ih := first_le lens (l + 1)
    have hc := List.count_le_length (a := l + 1) (l := lens)
    have h1 : 1 ≤ 4 ^ (l + 1) := Nat.pos_of_ne_zero (by simp)
    have h2 : lens.length ≤ 4 ^ (l + 1) * lens.length := Nat.le_mul_of_pos_left _ h1
    have e : 4 ^ (l + 2) * lens.length = 4 * (4 ^ (l + 1) * lens.length) := by rw [Nat.pow_succ (n := 4) (m := l + 1), Nat.mul_comm (4 ^ (l + 1)) 4, Nat.mul_assoc]
    rw [e, first]
    omega
theorem codeAt_le (lens : List Nat) (l k : Nat) (hl : l ≤ 16) (hn : lens.length ≤ 1000) : codeAt lens l k ≤ 8589934592000 := by
  have a := first_le lens l
  have b := count_take_le lens k l
  have c := List.count_le_length (a := l) (l := lens)
  have d : 4 ^ l ≤ 4 ^ 16 := Nat.pow_le_pow_right (by omega) hl
  have e : 4 ^ l * lens.length ≤ 4 ^ 16 * 1000 := Nat.mul_le_mul d hn
  unfold codeAt
  omega
theorem codeAt_step (lens : List Nat) (l k : Nat) (hk : k < lens.length) : codeAt lens l (k + 1) = codeAt lens l k + if lens.getD k 0 = l then 1 else 0 := by
  unfold codeAt
  rw [count_take_succ hk]
  omega
theorem codeAt_next (lens : List Nat) (l : Nat) (h : 1 ≤ l) : codeAt lens (l + 1) 0 = 2 * codeAt lens l lens.length := by
  unfold codeAt
  rw [first_succ lens h]
  simp
set_option maxRecDepth 100000 in
set_option maxHeartbeats 1000000 in
theorem icodes_calls (lens : List Nat) (g o n cap : Nat) (w : World) (hR : RowO w g o 3 (i64s lens)) (hl : lens.length = n) (hn : n ≤ 1000) (hc : n ≤ cap) :
    Calls Tryz.prog 114 #[.slice (some ⟨g, o, none⟩) n cap] w (GivesI w (codes lens)) := by
  have HL := Lib.hid hl
  have hcl : (codes lens).length = n := by rw [codes_length, hl]
  have HC := Lib.hid hcl
  clear hl hcl
  go_enter Tryz.func114, Tryz.ntmps114
  go_wp2_with (at_make; go_must (refine wpList_ints _ rfl _ _ rfl _ _ n rfl rfl rfl rfl (by omega) ?_); intro w1 hN1 O1 hlt1)
  have R1 := hR.on O1
  have hg1 : g < w.heap.size := hR.lt
  rw [← HL.out] at hN1
  rw [← outAt_zero] at hN1
  rw [HL.out] at hN1
  generalize hB : w.heap.size = B at *
  have HB := Lib.hid hB
  clear hB
  go_loopw [4, 5] (fun a b wr => ∃ l : Nat, 1 ≤ l ∧ l ≤ 16 ∧ b = .int .i64 (l : Int) ∧ a = .int .i64 (codeAt lens l 0 : Nat) ∧ Nums wr B (.slice (some ⟨B, 0, none⟩) n n) (outAt lens l 0) ∧ Kp [B] w1 wr) (fun _ b _ => 16 - (intOf b).toNat)
  case atStart => exact ⟨1, by omega, by omega, rfl, rfl, hN1, Kp.refl _ _⟩
  case round =>
    obtain ⟨l, hl1, hl2, rfl, rfl, hN, K⟩ := hrel
    by_cases hlt : l ≤ 15
    · have hlt' : (l : Int) ≤ 15 := by omega
      obtain ⟨wo, hwo⟩ : ∃ wo : World, wo = wr := ⟨_, rfl⟩
      subst hwo
      go_wp2_with fail
      go_loopw [4, 17] (fun a b wr => ∃ k : Nat, k ≤ n ∧ b = .int .i64 (k : Int) ∧ a = .int .i64 (codeAt lens l k : Nat) ∧ Nums wr B (.slice (some ⟨B, 0, none⟩) n n) (outAt lens l k) ∧ Kp [B] w1 wr) (fun _ b _ => n - (intOf b).toNat)
      case atStart => exact ⟨0, by omega, rfl, rfl, hN, K⟩
      case round =>
        obtain ⟨k, hk, rfl, rfl, hN, K⟩ := hrel
        by_cases hkn : k < n
        · have hkl : k < lens.length := by rw [HL.out]; exact hkn
          have c0 : wr.cell? ⟨g, o + k, none⟩ = some (.int .i64 (lens.getD k 0 : Nat)) := (R1.kp K (by simp; omega)).cell (i64s_get hkl)
          obtain ⟨RB, _, _, _⟩ := hN.row
          have cB : wr.cell? ⟨B, k, none⟩ = some (.int .i64 ((outAt lens l k).getD k 0 : Nat)) := RB.cell (i64s_get (by rw [outAt_length]; exact hkl))
          have fB : wr.frozen? ⟨B, k, none⟩ = false := RB.frozen _
          have hst := codeAt_step lens l k hkl
          have hle := codeAt_le lens l k (by omega) (by rw [HL.out]; omega)
          have hsk := outAt_skip lens l k
          have htk := fun h => outAt_take lens l k h hl1 hlt hkl
          generalize hx : lens.getD k 0 = x at *
          generalize codeAt lens l k = c at *
          generalize (outAt lens l k).getD k 0 = y at *
          have HX := Lib.hid hx
          have HSK := Lib.hid hsk
          have HTK := Lib.hid htk
          have HST := Lib.hid hst
          clear hx hsk htk hst
          by_cases hxl : x = l
          · have hb : ((x : Int) == (l : Int)) = true := by simp [hxl]
            have S1 := hN.set k c
            have K1 := K.set (p := ⟨B, k, none⟩) (.inl (by simp)) (.int .i64 (c : Int))
            have h1 := HTK.out hxl
            have h2 := HST.out
            rw [if_pos hxl] at h2
            rw [← h1] at S1
            have H2 := Lib.hid h2
            clear h1 h2
            have hxl' := Lib.hid hxl
            clear hxl
            go_wp2_with fail
            go_roundw
            case rel => exact ⟨k + 1, by omega, by go_num, by rw [H2.out]; go_num, S1, K1⟩
            case measure => simp [intOf]; omega
          · have hb : ((x : Int) == (l : Int)) = false := by simp; omega
            have h1 := HSK.out hxl
            have h2 := HST.out
            rw [if_neg hxl] at h2
            have H1 := Lib.hid h1
            have H2 := Lib.hid h2
            clear h1 h2
            go_wp2_with fail
            go_roundw
            case rel => exact ⟨k + 1, by omega, by go_num, by rw [H2.out]; rfl, by rw [H1.out]; exact hN, K⟩
            case measure => simp [intOf]; omega
        · obtain rfl : k = n := by omega
          have hle := codeAt_le lens l k (by omega) (by rw [HL.out]; omega)
          have hnx := codeAt_next lens l hl1
          have hno := outAt_next lens l hl1
          rw [HL.out] at hnx hno
          have HNX := Lib.hid hnx
          have HNO := Lib.hid hno
          clear hnx hno
          generalize codeAt lens l k = c at *
          go_wp2_with fail
          go_roundw
          case rel => exact ⟨l + 1, by omega, by omega, by go_num, by rw [HNX.out]; go_num, by rw [HNO.out]; exact hN, K⟩
          case measure => simp [intOf]; omega
    · obtain rfl : l = 16 := by omega
      go_wp2_with fail
      go_ret
      rw [outAt_end] at hN
      refine ⟨B, n, by rw [HC.out]; rfl, by rw [HC.out]; exact hN, by rw [HB.out]; exact Nat.le_refl _, Nat.lt_of_lt_of_le hlt1 K.size, ?_⟩
      exact K.on O1 (fun x hx => by simp at hx; rw [HB.out]; omega)
set_option maxRecDepth 100000 in
set_option maxHeartbeats 1000000 in
theorem scodes_calls (lens : List Nat) (g o n cap : Nat) (w : World) (hR : RowO w g o 3 (i64s lens)) (hl : lens.length = n) (hn : n ≤ 1000) (hc : n ≤ cap) :
    Calls Tryz.prog 162 #[.slice (some ⟨g, o, none⟩) n cap] w (GivesI w (codes lens)) := by
  have HL := Lib.hid hl
  have hcl : (codes lens).length = n := by rw [codes_length, hl]
  have HC := Lib.hid hcl
  clear hl hcl
  go_enter Tryz.func162, Tryz.ntmps162
  go_wp2_with (at_make; go_must (refine wpList_ints _ rfl _ _ rfl _ _ n rfl rfl rfl rfl (by omega) ?_); intro w1 hN1 O1 hlt1)
  have R1 := hR.on O1
  have hg1 : g < w.heap.size := hR.lt
  rw [← HL.out] at hN1
  rw [← outAt_zero] at hN1
  rw [HL.out] at hN1
  generalize hB : w.heap.size = B at *
  have HB := Lib.hid hB
  clear hB
  go_loopw [4, 5] (fun a b wr => ∃ l : Nat, 1 ≤ l ∧ l ≤ 16 ∧ b = .int .i64 (l : Int) ∧ a = .int .i64 (codeAt lens l 0 : Nat) ∧ Nums wr B (.slice (some ⟨B, 0, none⟩) n n) (outAt lens l 0) ∧ Kp [B] w1 wr) (fun _ b _ => 16 - (intOf b).toNat)
  case atStart => exact ⟨1, by omega, by omega, rfl, rfl, hN1, Kp.refl _ _⟩
  case round =>
    obtain ⟨l, hl1, hl2, rfl, rfl, hN, K⟩ := hrel
    by_cases hlt : l ≤ 15
    · have hlt' : (l : Int) ≤ 15 := by omega
      obtain ⟨wo, hwo⟩ : ∃ wo : World, wo = wr := ⟨_, rfl⟩
      subst hwo
      go_wp2_with fail
      go_loopw [4, 6] (fun a b wr => ∃ k : Nat, k ≤ n ∧ b = .int .i64 (k : Int) ∧ a = .int .i64 (codeAt lens l k : Nat) ∧ Nums wr B (.slice (some ⟨B, 0, none⟩) n n) (outAt lens l k) ∧ Kp [B] w1 wr) (fun _ b _ => n - (intOf b).toNat)
      case atStart => exact ⟨0, by omega, rfl, rfl, hN, K⟩
      case round =>
        obtain ⟨k, hk, rfl, rfl, hN, K⟩ := hrel
        by_cases hkn : k < n
        · have hkl : k < lens.length := by rw [HL.out]; exact hkn
          have c0 : wr.cell? ⟨g, o + k, none⟩ = some (.int .i64 (lens.getD k 0 : Nat)) := (R1.kp K (by simp; omega)).cell (i64s_get hkl)
          obtain ⟨RB, _, _, _⟩ := hN.row
          have cB : wr.cell? ⟨B, k, none⟩ = some (.int .i64 ((outAt lens l k).getD k 0 : Nat)) := RB.cell (i64s_get (by rw [outAt_length]; exact hkl))
          have fB : wr.frozen? ⟨B, k, none⟩ = false := RB.frozen _
          have hst := codeAt_step lens l k hkl
          have hle := codeAt_le lens l k (by omega) (by rw [HL.out]; omega)
          have hsk := outAt_skip lens l k
          have htk := fun h => outAt_take lens l k h hl1 hlt hkl
          generalize hx : lens.getD k 0 = x at *
          generalize codeAt lens l k = c at *
          generalize (outAt lens l k).getD k 0 = y at *
          have HX := Lib.hid hx
          have HSK := Lib.hid hsk
          have HTK := Lib.hid htk
          have HST := Lib.hid hst
          clear hx hsk htk hst
          by_cases hxl : x = l
          · have hb : ((x : Int) == (l : Int)) = true := by simp [hxl]
            have S1 := hN.set k c
            have K1 := K.set (p := ⟨B, k, none⟩) (.inl (by simp)) (.int .i64 (c : Int))
            have h1 := HTK.out hxl
            have h2 := HST.out
            rw [if_pos hxl] at h2
            rw [← h1] at S1
            have H2 := Lib.hid h2
            clear h1 h2
            have hxl' := Lib.hid hxl
            clear hxl
            go_wp2_with fail
            go_roundw
            case rel => exact ⟨k + 1, by omega, by go_num, by rw [H2.out]; go_num, S1, K1⟩
            case measure => simp [intOf]; omega
          · have hb : ((x : Int) == (l : Int)) = false := by simp; omega
            have h1 := HSK.out hxl
            have h2 := HST.out
            rw [if_neg hxl] at h2
            have H1 := Lib.hid h1
            have H2 := Lib.hid h2
            clear h1 h2
            go_wp2_with fail
            go_roundw
            case rel => exact ⟨k + 1, by omega, by go_num, by rw [H2.out]; rfl, by rw [H1.out]; exact hN, K⟩
            case measure => simp [intOf]; omega
        · obtain rfl : k = n := by omega
          have hle := codeAt_le lens l k (by omega) (by rw [HL.out]; omega)
          have hnx := codeAt_next lens l hl1
          have hno := outAt_next lens l hl1
          rw [HL.out] at hnx hno
          have HNX := Lib.hid hnx
          have HNO := Lib.hid hno
          clear hnx hno
          generalize codeAt lens l k = c at *
          go_wp2_with fail
          go_roundw
          case rel => exact ⟨l + 1, by omega, by omega, by go_num, by rw [HNX.out]; go_num, by rw [HNO.out]; exact hN, K⟩
          case measure => simp [intOf]; omega
    · obtain rfl : l = 16 := by omega
      go_wp2_with fail
      go_ret
      rw [outAt_end] at hN
      refine ⟨B, n, by rw [HC.out]; rfl, by rw [HC.out]; exact hN, by rw [HB.out]; exact Nat.le_refl _, Nat.lt_of_lt_of_le hlt1 K.size, ?_⟩
      exact K.on O1 (fun x hx => by simp at hx; rw [HB.out]; omega)
end Go.Proofs.YtnadjlejlohgiaaGreatDoor.Wi

/- A map from pieces of bits to numbers: how it is filled and looked up. -/
namespace Go.Proofs.YtnadjlejlohgiaaGreatDoor.Mem
open Go.RowKit Go.Maps
set_option linter.unusedVariables false
set_option linter.unusedSimpArgs false
theorem laid_out : laidOutB Tryz.prog = true := by kernel_rfl
theorem piece_wide : (match Tryz.prog.underlying 142 with | some (.array _ _) | some (.struct _) => true | _ => false) = true := by rw [Tryz.underlying142]
theorem piece_row : (142 : TypeId) < Tryz.prog.types.size := of_decide_eq_true (by kernel_rfl)
set_option maxRecDepth 100000 in
theorem piece_law : WideMaps.KeyLaw Tryz.prog 142 := deep_law_laid laid_out (m := 2) (by omega) piece_row (by kernel_rfl) piece_wide
theorem piece_keyed : Keyed Tryz.prog 142 := Keyed.of_law piece_law
def pc (c l : Nat) : Value := .agg #[.int .i64 (c : Int), .int .i64 (l : Int)]
theorem pc_inj {a b c d : Nat} (h : pc a b = pc c d) : a = c ∧ b = d := by
  unfold pc at h
  simp only [Value.agg.injEq, Array.mk.injEq, List.cons.injEq, Value.int.injEq, true_and, and_true] at h
  omega
theorem pc_key {c l : Nat} (hc : c < 100000) (hl : l < 100000) : ∃ kl, keyOf Tryz.prog 142 (pc c l) = some kl := by
  have w1 : (Lit.int .i64 (c : Int)).wf = true := by simp [Lit.wf, IntKind.min, IntKind.max, IntKind.signed, IntKind.bits]; omega
  have w2 : (Lit.int .i64 (l : Int)).wf = true := by simp [Lit.wf, IntKind.min, IntKind.max, IntKind.signed, IntKind.bits]; omega
  have hk : Tryz.prog.keyType 142 = true := by kernel_rfl
  have hcell : Tryz.prog.cellsOf 142 = 2 := by kernel_rfl
  have hci : Tryz.prog.cellsOf 3 = 1 := by kernel_rfl
  have hf : (pc c l).formed Tryz.prog 142 = true := by simp [pc, Value.formed, Tryz.underlying142, hcell]
  have hr := piece_row
  unfold keyOf
  rw [Tryz.underlying142]
  obtain ⟨m, hm⟩ : ∃ m, Tryz.prog.types.size = m + 1 := Nat.exists_eq_succ_of_ne_zero (Nat.ne_of_gt (Nat.zero_lt_of_lt hr))
  rw [hm]
  simp [hk, hf, Program.keyLits, Tryz.underlying142, Tryz.underlying3, hcell, hci, pc, Value.cells, w1, w2]
  exact hf
/-- The map at block m holds f: for pieces that f knows, their number. -/
structure Book (w : World) (m : Nat) (f : Nat → Nat → Option Nat) : Prop where mk :: (out : ∃ es clock, w.heap[m]? = some (.map es clock) ∧
  (∀ e ∈ es.toList, ∃ c l k : Nat, c < 100000 ∧ l < 100000 ∧ e.key = pc c l ∧ e.val = .int .i64 (k : Int) ∧ f c l = some k) ∧ ∀ c l k, f c l = some k → ∃ e ∈ es.toList, e.key = pc c l)
section
variable {w w' : World} {m : Nat} {f : Nat → Nat → Option Nat}
theorem Book.lt (h : Book w m f) : m < w.heap.size := by
  obtain ⟨es, clock, hb, _⟩ := h.out
  rcases Nat.lt_or_ge m w.heap.size with h | h
  · exact h
  · rw [Array.getElem?_eq_none h] at hb; cases hb
theorem Book.kp {S : List Nat} (h : Book w m f) (k : Kp S w w') (hm : m ∉ S) : Book w' m f := by
  obtain ⟨es, clock, hb, rest⟩ := h.out
  exact ⟨es, clock, (k.block m h.lt hm).trans hb, rest⟩
theorem Book.new (w : World) : Book (w.alloc (.map #[] 0)) w.heap.size (fun _ _ => none) :=
  ⟨#[], 0, Array.getElem?_push_size, fun e he => (by simp at he), fun c l k h => (by cases h)⟩
set_option maxRecDepth 100000 in
theorem Book.find (h : Book w m f) {c l : Nat} (hc : c < 100000) (hl : l < 100000) :
    (Instr.lookup 128 (.map (some m)) (pc c l) true).run Tryz.prog w = .ok (match f c l with | some k => .tuple #[.int .i64 (k : Int), .bool true] | none => .tuple #[.int .i64 0, .bool false]) w := by
  obtain ⟨es, clock, hb, h1, h2⟩ := h.out
  obtain ⟨kl, hk⟩ := pc_key hc hl
  have hz : (zeroValue 3).run Tryz.prog w = .ok (.int .i64 0) w := by kernel_rfl
  have hes : ∀ e ∈ es.toList, ∃ l, keyOf Tryz.prog 142 e.key = some l := fun e he => by
    obtain ⟨c', l', k', hc', hl', e1, _⟩ := h1 e he
    rw [e1]; exact pc_key hc' hl'
  rcases piece_keyed.find w hk es.toList hes with ⟨f1, f2⟩ | ⟨j, e0, f1, f2, f3⟩
  · cases hf : f c l with
    | some k => obtain ⟨e, he, hke⟩ := h2 c l k hf; exact absurd hke (f2 e he)
    | none =>
      generalize (zeroValue 3 : Sem Value) = zv at hz
      simp [Instr.lookup, run_underlying Tryz.underlying128, MapKept.run_getObj_map hb, piece_keyed.check w _ hk, f1, hz, Result.andThen]
  · have hm := List.mem_of_getElem? f2
    obtain ⟨c', l', k', hc', hl', e1, e2, e3⟩ := h1 e0 hm
    obtain ⟨rfl, rfl⟩ := pc_inj (e1.symm.trans f3)
    rw [e3]
    simp [Instr.lookup, run_underlying Tryz.underlying128, MapKept.run_getObj_map hb, piece_keyed.check w _ hk, f1, Result.andThen, e2]
set_option maxRecDepth 100000 in
theorem Book.add (h : Book w m f) {c l k : Nat} (hc : c < 100000) (hl : l < 100000) (hn : f c l = none) :
    ∃ w', (Instr.mapUpdate 128 (.map (some m)) (pc c l) (.int .i64 (k : Int))).run Tryz.prog w = .ok () w' ∧ Book w' m (fun a b => if a = c ∧ b = l then some k else f a b) ∧ Kp [m] w w' := by
  obtain ⟨es, clock, hb, h1, h2⟩ := h.out
  obtain ⟨kl, hk⟩ := pc_key hc hl
  have hes : ∀ e ∈ es.toList, ∃ l, keyOf Tryz.prog 142 e.key = some l := fun e he => by
    obtain ⟨c', l', k', hc', hl', e1, _⟩ := h1 e he
    rw [e1]; exact pc_key hc' hl'
  have hm0 := h.lt
  rcases piece_keyed.find w hk es.toList hes with ⟨f1, f2⟩ | ⟨j, e0, f1, f2, f3⟩
  · refine ⟨ChangeMaps.setBlock w m (.map (es.push ⟨pc c l, .int .i64 (k : Int), clock⟩) (clock + 1)), ?_, ?_, ?_⟩
    · simp [Instr.mapUpdate, run_underlying Tryz.underlying128, MapKept.run_getObj_map hb, piece_keyed.check w false hk, f1, MapKept.run_setObj_map _ hb, Result.andThen, ChangeMaps.setBlock]
    · refine ⟨es.push ⟨pc c l, .int .i64 (k : Int), clock⟩, clock + 1, by simp [ChangeMaps.setBlock, hm0], ?_, ?_⟩
      · intro e he
        simp only [Array.toList_push, List.mem_append, List.mem_singleton] at he
        rcases he with he | rfl
        · obtain ⟨c', l', k', hc', hl', e1, e2, e3⟩ := h1 e he
          refine ⟨c', l', k', hc', hl', e1, e2, ?_⟩
          rw [if_neg (fun hh => ?_)]
          · exact e3
          · rw [hh.1, hh.2, hn] at e3; cases e3
        · exact ⟨c, l, k, hc, hl, rfl, rfl, by rw [if_pos ⟨rfl, rfl⟩]⟩
      · intro a b k' hk'
        by_cases hab : a = c ∧ b = l
        · obtain ⟨rfl, rfl⟩ := hab
          exact ⟨_, by simp only [Array.toList_push, List.mem_append, List.mem_singleton]; exact .inr rfl, rfl⟩
        · rw [if_neg hab] at hk'
          obtain ⟨e, he, h3⟩ := h2 a b k' hk'
          exact ⟨e, by simp only [Array.toList_push, List.mem_append]; exact .inl he, h3⟩
    · refine ⟨rfl, rfl, rfl, by simp [ChangeMaps.setBlock], fun j hj hs => ?_⟩
      simp only [List.mem_singleton] at hs
      simp [ChangeMaps.setBlock, Array.getElem?_setIfInBounds, Ne.symm hs]
  · have hm := List.mem_of_getElem? f2
    obtain ⟨c', l', k', hc', hl', e1, e2, e3⟩ := h1 e0 hm
    obtain ⟨rfl, rfl⟩ := pc_inj (e1.symm.trans f3)
    rw [e3] at hn; cases hn
end
end Go.Proofs.YtnadjlejlohgiaaGreatDoor.Mem

/- The program's book: symbols by their codes. Conditions: lengths that fit. -/
namespace Go.Proofs.YtnadjlejlohgiaaGreatDoor.Wi
open Go.RowKit Go.Proofs.YtnadjlejlohgiaaGreatDoor.Mem Go.Proofs.YtnadjlejlohgiaaGreatDoor.Bt Go.Proofs.YtnadjlejlohgiaaGreatDoor.Cd
set_option linter.unusedVariables false
set_option linter.unusedSimpArgs false
/-- What the first n symbols' codes tell. -/
def upto (lens : List Nat) (n : Nat) (c l : Nat) : Option Nat := if 1 ≤ l then (List.range n).find? (fun i => decide (lens.getD i 0 = l ∧ code lens i = c)) else none
theorem upto_zero (lens : List Nat) : upto lens 0 = fun _ _ => none := by
  funext c l; unfold upto; split <;> rfl
theorem upto_skip {lens : List Nat} {n : Nat} (h : lens.getD n 0 = 0) : upto lens (n + 1) = upto lens n := by
  funext c l
  unfold upto
  by_cases hl : 1 ≤ l
  · rw [if_pos hl, if_pos hl, List.range_succ, List.find?_append]
    have : [n].find? (fun i => decide (lens.getD i 0 = l ∧ code lens i = c)) = none := by
      rw [List.find?_eq_none]; intro x hx; simp only [List.mem_singleton] at hx; subst hx; simp only [decide_eq_true_eq, not_and]; omega
    rw [this]; simp
  · rw [if_neg hl, if_neg hl]
theorem upto_none {lens : List Nat} {n : Nat} (hn : n < lens.length) (h1 : 1 ≤ lens.getD n 0) (h2 : lens.getD n 0 ≤ 15) : upto lens n (code lens n) (lens.getD n 0) = none := by
  unfold upto
  rw [if_pos h1, List.find?_eq_none]
  intro i hi
  simp only [List.mem_range] at hi
  simp only [decide_eq_true_eq]
  rintro ⟨e1, e2⟩
  have := code_inj (by omega) hn e1 rfl h1 h2 e2
  omega
theorem upto_step {lens : List Nat} {n : Nat} (hn : n < lens.length) (h1 : 1 ≤ lens.getD n 0) (h2 : lens.getD n 0 ≤ 15) : upto lens (n + 1) = fun a b => if a = code lens n ∧ b = lens.getD n 0 then some n else upto lens n a b := by
  funext a b
  by_cases hab : a = code lens n ∧ b = lens.getD n 0
  · obtain ⟨rfl, rfl⟩ := hab
    rw [if_pos ⟨rfl, rfl⟩]
    have h0 := upto_none hn h1 h2
    unfold upto at h0 ⊢
    rw [if_pos h1] at h0 ⊢
    rw [List.range_succ, List.find?_append, h0]
    simp
  · rw [if_neg hab]
    unfold upto
    by_cases hl : 1 ≤ b
    · rw [if_pos hl, if_pos hl, List.range_succ, List.find?_append]
      have : [n].find? (fun i => decide (lens.getD i 0 = b ∧ code lens i = a)) = none := by
        rw [List.find?_eq_none]; intro x hx; simp only [List.mem_singleton] at hx; subst hx; simp only [decide_eq_true_eq]; rintro ⟨e1, e2⟩; exact hab ⟨e2.symm, e1.symm⟩
      rw [this]; simp
    · rw [if_neg hl, if_neg hl]
theorem upto_all (lens : List Nat) {c l : Nat} (hl : 1 ≤ l) : upto lens lens.length c l = find lens l c := by unfold upto find; rw [if_pos hl]
set_option maxRecDepth 100000 in
theorem book_calls (lens : List Nat) (g o n cap : Nat) (w : World) (hl : RowO w g o 3 (i64s lens)) (hn : lens.length = n) (hn2 : n ≤ 1000) (hnc : n ≤ cap) (h15 : ∀ x ∈ lens, x ≤ 15) (hf : Fits lens) :
    Calls Tryz.prog 123 #[.slice (some ⟨g, o, none⟩) n cap] w fun e w' => ∃ m, e = .returned (.map (some m)) ∧ Book w' m (upto lens n) ∧ w.heap.size ≤ m ∧ On w w' := by
  have HN := Lib.hid hn
  have HF := Lib.hid hf
  have H15 := Lib.hid h15
  clear hn hf h15
  have hmm := @run_makeMap Tryz.prog
  go_enter Tryz.func123, Tryz.ntmps123
  go_wp2_with fail
  have O0 := (On.refl w).alloc (.map #[] 0)
  have B0 := Book.new w
  generalize hm : w.heap.size = m at *
  have HM := Lib.hid hm
  have hmg : m ≠ g := by have := hl.lt; omega
  have HMG := Lib.hid hmg
  clear hm hmm hmg
  generalize w.alloc (.map #[] 0) = w0 at *
  refine (icodes_calls lens g o n cap w0 (hl.on O0) HN.out hn2 hnc).mono ?_
  rintro e w1 ⟨ra, ca, rfl, Na, ha1, ha2, O1⟩
  rw [codes_length, HN.out] at Na ⊢
  have Ra := Na.row.1.toO
  have hnca : n ≤ ca := Na.row.2.2.1
  have hlt := B0.lt
  have hma : RowKit.Hid (m ≠ ra) := Lib.hid (by omega)
  have B1 : RowKit.Hid (Book w1 m (upto lens 0)) := Lib.hid (by rw [upto_zero]; exact B0.kp (Kp.of [] O1) (by simp))
  have hl1 := hl.on (O0.call O1)
  clear Na
  go_wp2_with fail
  go_loopw [10] (fun x wr => ∃ (k : Nat), x = .int .i64 (k : Int) ∧ k ≤ n ∧ Book wr m (upto lens k) ∧ Kp [m] w1 wr) (fun x _ => n - (intOf x).toNat)
  case atStart => exact ⟨0, rfl, by omega, B1.out, Kp.refl _ _⟩
  case round =>
    obtain ⟨k, rfl, hk, B, K⟩ := hrel
    by_cases hlt : k < n
    · have hkl : k < lens.length := by rw [HN.out]; exact hlt
      have Rl := hl1.kp K (by simp; have := HMG.out; omega)
      have Rc := Ra.kp K (by simp; have := hma.out; omega)
      have c0 := Rl.cell (i64s_get hkl)
      have c1 := Rc.cell (i64s_get (l := codes lens) (i := k) (by rw [codes_length]; exact hkl))
      rw [codes_getD lens hkl, Nat.zero_add] at c1
      have h15 := getD_le H15.out k
      have hk2 : (k : Int) < n := by omega
      by_cases h0 : lens.getD k 0 = 0
      · have hs := upto_skip h0
        rw [h0] at c0
        have HS := Lib.hid hs
        clear hs h0 h15
        go_wp2_with fail
        go_roundw
        case rel => exact ⟨k + 1, by go_num, by omega, by rw [HS.out]; exact B, K⟩
        case measure => simp [intOf]; omega
      · have h1 : 1 ≤ lens.getD k 0 := by omega
        have hs := upto_step hkl h1 h15
        have hno := upto_none hkl h1 h15
        have hcl := code_lt HF.out hkl h1 h15
        have hp : 2 ^ lens.getD k 0 ≤ 2 ^ 15 := Nat.pow_le_pow_right (by omega) h15
        obtain ⟨w2, hrun, B2, K2⟩ := B.add (k := k) (show code lens k < 100000 by omega) (show lens.getD k 0 < 100000 by omega) hno
        rw [← hs] at B2
        unfold pc at hrun
        have HB2 := Lib.hid B2
        have h1' : (0 : Int) < (lens.getD k 0 : Nat) := by omega
        clear hs hno hcl hp h0 B B2
        generalize lens.getD k 0 = l at *
        generalize code lens k = c at *
        go_wp2_with fail
        go_roundw
        case rel => exact ⟨k + 1, by go_num, by omega, HB2.out, K.then K2⟩
        case measure => simp [intOf]; omega
    · obtain rfl : k = n := by omega
      go_wp2_with fail
      go_ret
      refine ⟨m, rfl, B, Nat.le_of_eq HM.out, ?_⟩
      exact K.on (O0.call O1) (by simp; exact Nat.le_of_eq HM.out)
end Go.Proofs.YtnadjlejlohgiaaGreatDoor.Wi

