/- Own texts joined: Lo, So, Sa. -/
import Derived.Deep.DeepCutAuto
import Derived.Deep.QuietTactic
import Derived.BigQuiet
import Derived.Test.YtnadjlejlohgiaaGreatDoorW0
import Derived.Test.YtnadjlejlohgiaaGreatDoorW2
import Derived.Test.YtnadjlejlohgiaaGreatDoorW8
import Derived.Test.YtnadjlejlohgiaaGreatDoorW11
import Derived.Test.YtnadjlejlohgiaaGreatDoorW12
/- What the program's LensOk answers: whether lengths make a code. Conditions: lengths and how many, not too great. -/
namespace Go.Proofs.YtnadjlejlohgiaaGreatDoor.Wi
open Go.RowKit Go.Proofs.YtnadjlejlohgiaaGreatDoor.Mem Go.Proofs.YtnadjlejlohgiaaGreatDoor.Bt Go.Proofs.YtnadjlejlohgiaaGreatDoor.Cd
set_option linter.unusedVariables false
set_option linter.unusedSimpArgs false
theorem kraft_snoc (l : List Nat) (x : Nat) : kraft (l ++ [x]) = kraft l + if x = 0 then 0 else 2 ^ (15 - x) := by unfold kraft; simp
theorem used_snoc (l : List Nat) (x : Nat) : used (l ++ [x]) = used l + if 0 < x then 1 else 0 := by
  unfold used; rw [List.filter_append]; by_cases h : 0 < x <;> simp [h]
/-- What is known of lengths that have been gone through: a sum, how many, the last. -/
structure Sums (l : List Nat) (a b c : Nat) : Prop where mk ::
  sum : a = kraft l
  many : b = used l
  le : b = 0 → a = 0
  one : b = 1 → 1 ≤ c ∧ c ≤ 15 ∧ a = 2 ^ (15 - c)
theorem Sums.nil : Sums [] 0 0 0 := ⟨rfl, rfl, fun _ => rfl, fun h => by cases h⟩
theorem Sums.zero {l : List Nat} {a b c : Nat} (h : Sums l a b c) : Sums (l ++ [0]) a b c := ⟨by rw [kraft_snoc]; simpa using h.sum, by rw [used_snoc]; simpa using h.many, h.le, h.one⟩
theorem Sums.add {l : List Nat} {a b c x : Nat} (h : Sums l a b c) (h1 : 1 ≤ x) (h2 : x ≤ 15) : Sums (l ++ [x]) (a + 2 ^ (15 - x)) (b + 1) x :=
  ⟨by rw [kraft_snoc, if_neg (by omega), h.sum], by rw [used_snoc, if_pos (by omega), h.many], fun e => by omega, fun e => ⟨h1, h2, by rw [h.le (by omega), Nat.zero_add]⟩⟩
theorem Sums.ok {l : List Nat} {a b c : Nat} (h : Sums l a b c) (hl : l.length ≤ 300) (h15 : ∀ x ∈ l, x ≤ 15) : okLens l = (decide (a = 32768) || (decide (b = 1) && decide (c = 1))) := by
  unfold okLens
  rw [show decide (l.length ≤ 300) = true from by simpa using hl, show l.all (fun x => decide (x ≤ 15)) = true from by simpa using h15, ← h.sum, ← h.many]
  simp only [Bool.true_and]
  congr 1
  by_cases hb : b = 1
  · obtain ⟨o1, o2, o3⟩ := h.one hb
    congr 1
    rw [o3, Bool.eq_iff_iff]
    simp only [decide_eq_true_eq]
    constructor
    · intro e
      rcases Nat.lt_or_ge c 2 with h | h
      · omega
      · have : 2 ^ (15 - c) ≤ 2 ^ 13 := Nat.pow_le_pow_right (by omega) (by omega)
        omega
    · rintro rfl; rfl
  · simp [hb]
theorem ok_bad {l : List Nat} {x : Nat} (h : x ∈ l) (hx : 15 < x) : okLens l = false := by
  unfold okLens
  rw [show l.all (fun x => decide (x ≤ 15)) = false from by rw [List.all_eq_false]; exact ⟨x, h, by simp; omega⟩]
  simp
theorem ok_long {l : List Nat} (h : 300 < l.length) : okLens l = false := by
  unfold okLens
  rw [show decide (l.length ≤ 300) = false from by simp; omega]; simp
theorem kraft_take_le : ∀ (l : List Nat) (k : Nat), kraft (l.take k) ≤ 16384 * k
  | _, 0 => by simp [kraft]
  | [], k + 1 => by simp [kraft]
  | x :: l, k + 1 => by
    have := kraft_take_le l k
    have hp : 2 ^ (15 - x) ≤ 2 ^ 15 := Nat.pow_le_pow_right (by omega) (by omega)
    have hq : x ≠ 0 → 2 ^ (15 - x) ≤ 2 ^ 14 := fun _ => Nat.pow_le_pow_right (by omega) (by omega)
    unfold kraft at this ⊢
    simp only [List.take_succ_cons, List.map_cons, List.sum_cons]
    split
    · omega
    · rename_i h; have := hq h; omega
set_option maxRecDepth 100000 in
theorem lensok_calls (lens : List Nat) (g o n cap : Nat) (w : World) (hl : RowO w g o 3 (i64s lens)) (hn : lens.length = n) (hn2 : n ≤ 1000) (hnc : n ≤ cap) (hx : ∀ x ∈ lens, x ≤ 100000) :
    Calls Tryz.prog 122 #[.slice (some ⟨g, o, none⟩) n cap] w fun e w' => e = .returned (.bool (okLens lens)) ∧ On w w' := by
  have HN := Lib.hid hn
  clear hn
  by_cases h3 : 300 < n
  · have h3' : (300 : Int) < n := by omega
    go_enter Tryz.func122, Tryz.ntmps122
    go_wp2_with fail
    go_ret
    exact ⟨by rw [ok_long (by rw [HN.out]; exact h3)]; rfl, On.refl _⟩
  have h3' : ¬ (300 : Int) < n := by omega
  go_enter Tryz.func122, Tryz.ntmps122
  go_wp2_with fail
  go_loopw [3, 4, 5, 13] (fun a b c x wr => ∃ (k sa sb sc : Nat), x = .int .i64 (k : Int) ∧ k ≤ n ∧ a = .int .i64 (sa : Int) ∧ b = .int .i64 (sb : Int) ∧ c = .int .i64 (sc : Int) ∧ Sums (lens.take k) sa sb sc ∧ sb ≤ k ∧ (∀ y ∈ lens.take k, y ≤ 15) ∧ On w wr) (fun _ _ _ x _ => n - (intOf x).toNat)
  case atStart => exact ⟨0, 0, 0, 0, rfl, by omega, rfl, rfl, rfl, Sums.nil, Nat.le_refl _, by simp, On.refl _⟩
  case round =>
    obtain ⟨k, sa, sb, sc, rfl, hk, rfl, rfl, rfl, S, hb, h15, O⟩ := hrel
    by_cases hlt : k < n
    · have hkl : k < lens.length := by rw [HN.out]; exact hlt
      have c0 := (hl.on O).cell (i64s_get hkl)
      have hmem : lens.getD k 0 ∈ lens := by rw [List.getD_eq_getElem?_getD, List.getElem?_eq_getElem hkl]; exact List.getElem_mem _
      have hx1 := hx _ hmem
      have htk : lens.take (k + 1) = lens.take k ++ [lens.getD k 0] := by rw [List.take_succ_eq_append_getElem hkl, List.getD_eq_getElem?_getD, List.getElem?_eq_getElem hkl]; rfl
      have HTK := Lib.hid htk
      have hkr := kraft_take_le lens k
      rw [← S.sum] at hkr
      have HS := Lib.hid S
      have H15 := Lib.hid h15
      have HM := Lib.hid hmem
      clear htk S h15 hmem
      generalize lens.getD k 0 = x at *
      have hk2 : (k : Int) < n := by omega
      by_cases hx15 : x ≤ 15
      · by_cases h0 : x = 0
        · subst h0
          go_wp2_with fail
          refine (within_yes _ (by omega) (by omega)).mono ?_
          rintro e w2 ⟨rfl, hw⟩
          obtain rfl : wr = w2 := hw.symm
          go_wp2_with fail
          go_roundw
          case rel => exact ⟨k + 1, sa, sb, sc, by go_num, by omega, rfl, rfl, rfl, by rw [HTK.out]; exact HS.out.zero, by omega, by rw [HTK.out]; intro y hy; simp only [List.mem_append, List.mem_singleton] at hy; (rcases hy with hy | rfl; exact H15.out y hy; omega), O⟩
          case measure => simp [intOf]; omega
        · have h1 : 1 ≤ x := by omega
          have hp : 2 ^ (15 - x) ≤ 2 ^ 15 := Nat.pow_le_pow_right (by omega) (by omega)
          have e1 : IntKind.i64.wrap (15 - (x : Int)) = ((15 - x : Nat) : Int) := by rw [IntKind.wrap_i64]; omega
          have e2 : IntKind.i64.wrap ((1 : Int) * 2 ^ (15 - x)) = ((2 ^ (15 - x) : Nat) : Int) := by
            rw [Int.one_mul, show (2 : Int) ^ (15 - x) = ((2 ^ (15 - x) : Nat) : Int) from by simp]; exact wr_i64 _ (Int.natCast_nonneg _) (Int.lt_of_le_of_lt (Int.ofNat_le.2 hp) (by decide))
          have e3 : IntKind.i64.wrap ((2 : Int) ^ (15 - x)) = ((2 ^ (15 - x) : Nat) : Int) := by
            rw [show (2 : Int) ^ (15 - x) = ((2 ^ (15 - x) : Nat) : Int) from by simp]; exact wr_i64 _ (Int.natCast_nonneg _) (Int.lt_of_le_of_lt (Int.ofNat_le.2 hp) (by decide))
          have h63 : ((15 - x : Nat) : Int) < 64 := by omega
          have hx0 : (0 : Int) < (x : Int) := by omega
          have hadd := HS.out.add h1 hx15
          have HA := Lib.hid hadd
          clear hadd
          generalize 2 ^ (15 - x) = z at *
          generalize 15 - x = zz at *
          go_wp2_with fail
          refine (within_yes _ (by omega) (by omega)).mono ?_
          rintro e w2 ⟨rfl, hw⟩
          obtain rfl : wr = w2 := hw.symm
          go_wp2_with fail
          go_roundw
          case rel => exact ⟨k + 1, sa + z, sb + 1, x, by go_num, by omega, by go_num, by go_num, rfl, by rw [HTK.out]; exact HA.out, by omega, by rw [HTK.out]; intro y hy; simp only [List.mem_append, List.mem_singleton] at hy; (rcases hy with hy | rfl; exact H15.out y hy; omega), O⟩
          case measure => simp [intOf]; omega
      · go_wp2_with fail
        refine (within_no _ (by omega)).mono ?_
        rintro e w2 ⟨rfl, hw⟩
        obtain rfl : wr = w2 := hw.symm
        go_wp2_with fail
        go_ret
        exact ⟨by rw [ok_bad HM.out (by omega)]; rfl, O⟩
    · obtain rfl : k = n := by omega
      have htk : lens.take k = lens := List.take_of_length_le (by rw [HN.out]; exact Nat.le_refl _)
      rw [htk] at S h15
      have hok := S.ok (by rw [HN.out]; omega) h15
      have HO := Lib.hid hok
      clear hok htk S h15
      by_cases q1 : sa = 32768
      · have q1' : ((sa : Int) == 32768) = true := by simp; omega
        go_wp2_with fail
        go_ret
        refine ⟨?_, O⟩
        show Ending.returned (.bool _) = _
        rw [HO.out]
        rw [decide_eq_true q1]; rfl
      · have q1' : ((sa : Int) == 32768) = false := by simp; omega
        by_cases q2 : sb = 1
        · have q2' : ((sb : Int) == 1) = true := by simp; omega
          go_wp2_with fail
          go_ret
          refine ⟨?_, O⟩
          show Ending.returned (.bool _) = _
          rw [HO.out]
          rw [decide_eq_false q1, decide_eq_true q2, Bool.false_or, Bool.true_and]
          congr 2
          rw [Bool.eq_iff_iff]; simp; omega
        · have q2' : ((sb : Int) == 1) = false := by simp; omega
          go_wp2_with fail
          go_ret
          refine ⟨?_, O⟩
          show Ending.returned (.bool _) = _
          rw [HO.out]
          rw [decide_eq_false q1, decide_eq_false q2]; rfl
end Go.Proofs.YtnadjlejlohgiaaGreatDoor.Wi

/- What the specification's LensOk answers: whether lengths make a code. Conditions: lengths and how many, not too great. -/
namespace Go.Proofs.YtnadjlejlohgiaaGreatDoor.Wi
open Go.RowKit Go.Proofs.YtnadjlejlohgiaaGreatDoor.Mem Go.Proofs.YtnadjlejlohgiaaGreatDoor.Bt Go.Proofs.YtnadjlejlohgiaaGreatDoor.Cd
set_option linter.unusedVariables false
set_option linter.unusedSimpArgs false
theorem sin_same (n l h : Int) (w : World) :
    Calls Tryz.prog 30 #[.int .i64 n, .int .i64 l, .int .i64 h] w (fun e w' => e = .returned (.bool (decide (l ≤ n ∧ n ≤ h))) ∧ w' = w) := by
  by_cases h1 : l ≤ n
  · by_cases h2 : n ≤ h
    · go_enter Tryz.func30, Tryz.ntmps30
      go_wp2_with fail
      go_ret
      exact ⟨by simp [h1, h2], rfl⟩
    · go_enter Tryz.func30, Tryz.ntmps30
      go_wp2_with fail
      go_ret
      exact ⟨by simp [h1, h2], rfl⟩
  · go_enter Tryz.func30, Tryz.ntmps30
    go_wp2_with fail
    go_ret
    exact ⟨by simp; omega, rfl⟩
theorem sin_yes {n l h : Int} (w : World) (h1 : l ≤ n) (h2 : n ≤ h) : Calls Tryz.prog 30 #[.int .i64 n, .int .i64 l, .int .i64 h] w (fun e w' => e = .returned (.bool true) ∧ w' = w) := by
  have := sin_same n l h w
  rw [decide_eq_true ⟨h1, h2⟩] at this
  exact this
theorem sin_no {n l h : Int} (w : World) (h1 : ¬ (l ≤ n ∧ n ≤ h)) : Calls Tryz.prog 30 #[.int .i64 n, .int .i64 l, .int .i64 h] w (fun e w' => e = .returned (.bool false) ∧ w' = w) := by
  have := sin_same n l h w
  rw [decide_eq_false h1] at this
  exact this
set_option maxRecDepth 100000 in
theorem sused_calls (lens : List Nat) (g o n cap : Nat) (w : World) (hl : RowO w g o 3 (i64s lens)) (hn : lens.length = n) (hn2 : n ≤ 1000) (hnc : n ≤ cap) :
    Calls Tryz.prog 169 #[.slice (some ⟨g, o, none⟩) n cap] w fun e w' => e = .returned (.int .i64 (used lens : Nat)) ∧ On w w' := by
  have HN := Lib.hid hn
  clear hn
  go_enter Tryz.func169, Tryz.ntmps169
  go_wp2_with fail
  go_loopw [3, 4] (fun a x wr => ∃ (k : Nat), x = .int .i64 (k : Int) ∧ k ≤ n ∧ a = .int .i64 (used (lens.take k) : Nat) ∧ used (lens.take k) ≤ k ∧ On w wr) (fun _ x _ => n - (intOf x).toNat)
  case atStart => exact ⟨0, rfl, by omega, rfl, Nat.le_refl _, On.refl _⟩
  case round =>
    obtain ⟨k, rfl, hk, rfl, hu, O⟩ := hrel
    by_cases hlt : k < n
    · have hkl : k < lens.length := by rw [HN.out]; exact hlt
      have c0 := (hl.on O).cell (i64s_get hkl)
      have htk : lens.take (k + 1) = lens.take k ++ [lens.getD k 0] := by rw [List.take_succ_eq_append_getElem hkl, List.getD_eq_getElem?_getD, List.getElem?_eq_getElem hkl]; rfl
      have hus : used (lens.take (k + 1)) = used (lens.take k) + if 0 < lens.getD k 0 then 1 else 0 := by rw [htk, used_snoc]
      have HU := Lib.hid hus
      clear htk hus
      generalize lens.getD k 0 = x at *
      generalize used (lens.take k) = u at *
      have hk2 : (k : Int) < n := by omega
      by_cases h0 : 0 < x
      · have h0' : (0 : Int) < x := by omega
        go_wp2_with fail
        go_roundw
        case rel => exact ⟨k + 1, by go_num, by omega, by rw [HU.out, if_pos h0]; go_num, by rw [HU.out, if_pos h0]; omega, O⟩
        case measure => simp [intOf]; omega
      · have h0' : ¬ (0 : Int) < x := by omega
        go_wp2_with fail
        go_roundw
        case rel => exact ⟨k + 1, by go_num, by omega, by rw [HU.out, if_neg h0]; go_num, by rw [HU.out, if_neg h0]; omega, O⟩
        case measure => simp [intOf]; omega
    · obtain rfl : k = n := by omega
      have htk : lens.take k = lens := List.take_of_length_le (by rw [HN.out]; exact Nat.le_refl _)
      rw [htk] at *
      go_wp2_with fail
      go_ret
      exact ⟨rfl, O⟩
theorem okLens_is {l : List Nat} (h15 : ∀ x ∈ l, x ≤ 15) : okLens l = (decide (l.length ≤ 300) && (decide (kraft l = 32768) || (decide (used l = 1) && decide (kraft l = 16384)))) := by
  unfold okLens
  rw [show l.all (fun x => decide (x ≤ 15)) = true from by simpa using h15]
  simp only [Bool.and_true]
set_option maxRecDepth 100000 in
set_option maxHeartbeats 4000000 in
theorem slensok_calls (lens : List Nat) (g o n cap : Nat) (w : World) (hl : RowO w g o 3 (i64s lens)) (hn : lens.length = n) (hn2 : n ≤ 1000) (hnc : n ≤ cap) (hx : ∀ x ∈ lens, x ≤ 100000) :
    Calls Tryz.prog 175 #[.slice (some ⟨g, o, none⟩) n cap] w fun e w' => e = .returned (.bool (okLens lens)) ∧ On w w' := by
  have HN := Lib.hid hn
  clear hn
  go_enter Tryz.func175, Tryz.ntmps175
  go_wp2_with fail
  go_loopw [3, 4] (fun a x wr => ∃ (k sa : Nat), x = .int .i64 (k : Int) ∧ k ≤ n ∧ a = .int .i64 (sa : Int) ∧ sa = kraft (lens.take k) ∧ (∀ y ∈ lens.take k, y ≤ 15) ∧ On w wr) (fun _ x _ => n - (intOf x).toNat)
  case atStart => exact ⟨0, 0, rfl, by omega, rfl, rfl, by simp, On.refl _⟩
  case round =>
    obtain ⟨k, sa, rfl, hk, rfl, S, h15, O⟩ := hrel
    by_cases hlt : k < n
    · have hkl : k < lens.length := by rw [HN.out]; exact hlt
      have c0 := (hl.on O).cell (i64s_get hkl)
      have hmem : lens.getD k 0 ∈ lens := by rw [List.getD_eq_getElem?_getD, List.getElem?_eq_getElem hkl]; exact List.getElem_mem _
      have hx1 := hx _ hmem
      have htk : lens.take (k + 1) = lens.take k ++ [lens.getD k 0] := by rw [List.take_succ_eq_append_getElem hkl, List.getD_eq_getElem?_getD, List.getElem?_eq_getElem hkl]; rfl
      have HTK := Lib.hid htk
      have hkr := kraft_take_le lens k
      rw [← S] at hkr
      have HS := Lib.hid S
      have H15 := Lib.hid h15
      have HM := Lib.hid hmem
      clear htk S h15 hmem
      generalize lens.getD k 0 = x at *
      have hk2 : (k : Int) < n := by omega
      by_cases hx15 : x ≤ 15
      · have h15n : ∀ y ∈ lens.take (k + 1), y ≤ 15 := by rw [HTK.out]; intro y hy; simp only [List.mem_append, List.mem_singleton] at hy; (rcases hy with hy | rfl; exact H15.out y hy; omega)
        have H15N := Lib.hid h15n
        clear h15n
        by_cases h0 : x = 0
        · subst h0
          go_wp2_with fail
          refine (sin_yes _ (by omega) (by omega)).mono ?_
          rintro e w2 ⟨rfl, hw⟩
          obtain rfl : wr = w2 := hw.symm
          go_wp2_with fail
          go_roundw
          case rel => exact ⟨k + 1, sa, by go_num, by omega, rfl, by rw [HTK.out, kraft_snoc, HS.out]; rfl, H15N.out, O⟩
          case measure => simp [intOf]; omega
        · have hp : 2 ^ (15 - x) ≤ 2 ^ 15 := Nat.pow_le_pow_right (by omega) (by omega)
          have e1 : IntKind.i64.wrap (15 - (x : Int)) = ((15 - x : Nat) : Int) := by rw [IntKind.wrap_i64]; omega
          have hx0 : (0 : Int) < (x : Int) := by omega
          have hks : kraft (lens.take (k + 1)) = sa + 2 ^ (15 - x) := by rw [HTK.out, kraft_snoc, if_neg h0, HS.out]
          have HK := Lib.hid hks
          clear hks
          obtain ⟨z, hz⟩ : ∃ z, 2 ^ (15 - x) = z := ⟨_, rfl⟩
          rw [hz] at hp HK
          have hzz : 15 - x ≤ 40 := by omega
          generalize 15 - x = zz at *
          have HZ := Lib.hid hz
          clear hz
          go_wp2_with fail
          refine (sin_yes _ (by omega) (by omega)).mono ?_
          rintro e w2 ⟨rfl, hw⟩
          obtain rfl : wr = w2 := hw.symm
          go_wp2_with fail
          refine (pow_same zz z HZ hzz wr).mono ?_
          rintro e w2 ⟨rfl, hw⟩
          obtain rfl : wr = w2 := hw.symm
          go_wp2_with fail
          go_roundw
          case rel => exact ⟨k + 1, sa + z, by go_num, by omega, by go_num, HK.out.symm, H15N.out, O⟩
          case measure => simp [intOf]; omega
      · go_wp2_with fail
        refine (sin_no _ (by omega)).mono ?_
        rintro e w2 ⟨rfl, hw⟩
        obtain rfl : wr = w2 := hw.symm
        go_wp2_with fail
        go_ret
        exact ⟨by rw [ok_bad HM.out (by omega)]; rfl, O⟩
    · obtain rfl : k = n := by omega
      have htk : lens.take k = lens := List.take_of_length_le (by rw [HN.out]; exact Nat.le_refl _)
      rw [htk] at S h15
      have hok := okLens_is h15
      rw [HN.out, ← S] at hok
      have HO := Lib.hid hok
      clear hok htk S h15
      have hu := Lib.hid (sused_calls lens g o k cap wr (hl.on O) HN.out (by omega) hnc)
      generalize used lens = u at *
      have s1 : ((sa : Int) == 32768) = decide (sa = 32768) := by rw [Bool.eq_iff_iff]; simp; omega
      have s2 : ((sa : Int) == 16384) = decide (sa = 16384) := by rw [Bool.eq_iff_iff]; simp; omega
      have s3 : ((u : Int) == 1) = decide (u = 1) := by rw [Bool.eq_iff_iff]; simp; omega
      have s4 : decide ((k : Int) ≤ 300) = decide (k ≤ 300) := by rw [Bool.eq_iff_iff]; simp; omega
      generalize decide (sa = 32768) = b1 at *
      generalize decide (sa = 16384) = b2 at *
      have P14 : ∀ w', Calls Tryz.prog 161 #[.int .i64 14] w' (fun e w'' => e = .returned (.int .i64 16384) ∧ w'' = w') := fun w' => pow_same 14 16384 (Lib.hid rfl) (by omega) w'
      have P15 : ∀ w', Calls Tryz.prog 161 #[.int .i64 15] w' (fun e w'' => e = .returned (.int .i64 32768) ∧ w'' = w') := fun w' => pow_same 15 32768 (Lib.hid rfl) (by omega) w'
      have HP14 := Lib.hid P14
      have HP15 := Lib.hid P15
      clear P14 P15
      generalize hb3 : decide (u = 1) = b3 at *
      generalize hb4 : decide (k ≤ 300) = b4 at *
      clear hb3 hb4
      cases b3
      · cases b4
        · cases b1 <;> cases b2
          all_goals
            go_wp2_with fail
            refine hu.out.mono ?_
            rintro e w2 ⟨rfl, O2⟩
            replace O2 := O.call O2
            go_wp2_with fail
            go_ret
            exact ⟨by rw [HO.out]; rfl, O2⟩
        · cases b1 <;> cases b2
          all_goals
            go_wp2_with fail
            refine hu.out.mono ?_
            rintro e w2 ⟨rfl, O2⟩
            replace O2 := O.call O2
            go_wp2_with fail
            refine (HP15.out w2).mono ?_
            rintro e w3 ⟨rfl, hw⟩
            obtain rfl : w2 = w3 := hw.symm
            go_wp2_with fail
            go_ret
            exact ⟨by rw [HO.out]; rfl, O2⟩
      · cases b4
        · cases b1 <;> cases b2
          all_goals
            go_wp2_with fail
            refine hu.out.mono ?_
            rintro e w2 ⟨rfl, O2⟩
            replace O2 := O.call O2
            go_wp2_with fail
            refine (HP14.out w2).mono ?_
            rintro e w3 ⟨rfl, hw⟩
            obtain rfl : w2 = w3 := hw.symm
            go_wp2_with fail
            go_ret
            exact ⟨by rw [HO.out]; rfl, O2⟩
        · cases b1 <;> cases b2
          all_goals
            go_wp2_with fail
            refine hu.out.mono ?_
            rintro e w2 ⟨rfl, O2⟩
            replace O2 := O.call O2
            go_wp2_with fail
            refine (HP14.out w2).mono ?_
            rintro e w3 ⟨rfl, hw⟩
            obtain rfl : w2 = w3 := hw.symm
            go_wp2_with fail
            refine (HP15.out w2).mono ?_
            rintro e w3 ⟨rfl, hw⟩
            obtain rfl : w2 = w3 := hw.symm
            go_wp2_with fail
            go_ret
            exact ⟨by rw [HO.out]; rfl, O2⟩
end Go.Proofs.YtnadjlejlohgiaaGreatDoor.Wi

/- The specification adds to bytes what a token tells that leads back. Conditions: a row of bytes, sizes. -/
namespace Go.Proofs.YtnadjlejlohgiaaGreatDoor.Wi
open Go.RowKit Go.Proofs.YtnadjlejlohgiaaGreatDoor.Mem Go.Proofs.YtnadjlejlohgiaaGreatDoor.Bt Go.Proofs.YtnadjlejlohgiaaGreatDoor.Lz
set_option linter.unusedVariables false
set_option linter.unusedSimpArgs false
set_option maxRecDepth 100000 in
set_option maxHeartbeats 2000000 in
theorem sadd_calls (r cap n L B : Nat) (l : List Nat) (w : World) (hb : By w r cap l) (hn : l.length = n) (hn2 : n ≤ 1000) (hL : 1 ≤ L) (hL2 : L ≤ 100000) (hB2 : B ≤ 100000) :
    Calls Tryz.prog 185 #[.slice (some ⟨r, 0, none⟩) n cap, .agg #[.int .i64 0, .int .i64 (L : Int), .int .i64 (B : Int)]] w fun e w' =>
      (backOk n L B ∧ ∃ r' cap', e = .returned (.tuple #[.slice (some ⟨r', 0, none⟩) (n + L) cap', .bool true]) ∧ By w' r' cap' (copy l B L) ∧ Mb r w r' w') ∨
      (¬ backOk n L B ∧ e = .returned (.tuple #[.slice (some ⟨r, 0, none⟩) n cap, .bool false]) ∧ On w w') := by
  have HN := Lib.hid hn
  clear hn
  have hL0 : ((L : Int) == 0) = false := by simp; omega
  have BA := Blk.new w 117 #[.int .i64 0, .int .i64 (L : Int), .int .i64 (B : Int)]
  have OA := (On.refl w).alloc (.cells #[.int .i64 0, .int .i64 (L : Int), .int .i64 (B : Int)] 117)
  have hrl := hb.lt
  by_cases h1 : 3 ≤ L ∧ L ≤ 60
  · by_cases h2 : 1 ≤ B ∧ B ≤ 250
    · by_cases h3 : B ≤ n
      · have h3' : ¬ (n : Int) < (B : Int) := by omega
        have h3'' : decide ((n : Int) < (B : Int)) = false := by simp; omega
        have h3n : decide (n < B) = false := by simp; omega
        have hok : backOk n L B := by unfold backOk; omega
        go_enter Tryz.func185, Tryz.ntmps185
        go_wp2_with fail
        refine (sin_yes _ (by omega) (by omega)).mono ?_
        rintro e w2 ⟨rfl, hw⟩
        obtain rfl : _ = w2 := hw.symm
        go_wp2_with fail
        refine (sin_yes _ (by omega) (by omega)).mono ?_
        rintro e w2 ⟨rfl, hw⟩
        obtain rfl : _ = w2 := hw.symm
        have hz : w.heap.size ≠ r := by omega
        have hb1 := hb.on OA
        have hml : ∀ k, (copy l B k).length = n + k := fun k => by rw [copy_length, HN.out]
        have HML := Lib.hid hml
        have c1 : (w.alloc (.cells #[.int .i64 0, .int .i64 (L : Int), .int .i64 (B : Int)] 117)).cell? ⟨w.heap.size, 1, none⟩ = some (.int .i64 (L : Int)) := (BA.cell 1).trans rfl
        have c2 : (w.alloc (.cells #[.int .i64 0, .int .i64 (L : Int), .int .i64 (B : Int)] 117)).cell? ⟨w.heap.size, 2, none⟩ = some (.int .i64 (B : Int)) := (BA.cell 2).trans rfl
        have hbs := BA.lt
        have HOK := Lib.hid hok
        clear hml hok
        generalize w.heap.size = tb at *
        generalize w.alloc (.cells #[.int .i64 0, .int .i64 (L : Int), .int .i64 (B : Int)] 117) = w1 at *
        go_wp2_with fail
        go_loopw [0, 6] (fun o x wr => ∃ (k r' cap' : Nat), x = .int .i64 (k : Int) ∧ k ≤ L ∧ o = .slice (some ⟨r', 0, none⟩) (n + k) cap' ∧ By wr r' cap' (copy l B k) ∧ Mb r w1 r' wr) (fun _ x _ => L - (intOf x).toNat)
        case atStart => exact ⟨0, r, cap, rfl, by omega, rfl, hb1, Mb.refl _ _⟩
        case round =>
          obtain ⟨k, r', cap', rfl, hk, rfl, hB, M⟩ := hrel
          have BT := M.kp.blk BA (by simp; exact hz)
          have d1 : wr.cell? ⟨tb, 1, none⟩ = some (.int .i64 (L : Int)) := (BT.cell 1).trans rfl
          by_cases hlt : k < L
          · have hlen := HML.out k
            have hr' : tb ≠ r' := by rcases M.at_ with e | e <;> omega
            have d2 : wr.cell? ⟨tb, 2, none⟩ = some (.int .i64 (B : Int)) := (BT.cell 2).trans rfl
            have hbk := HOK.out
            unfold backOk at hbk
            have hi : n + k - B < (copy l B k).length := by rw [hlen]; omega
            have hcell := hB.cell hi
            have hst : copy l B (k + 1) = copy l B k ++ [(copy l B k).getD (n + k - B) 0] := by rw [copy, hlen]
            have hby : Bytes wr r' (.slice (some ⟨r', 0, none⟩) (n + k) cap') (copy l B k) := by have := hB.out; rw [hlen] at this; exact this
            have HST := Lib.hid hst
            have HLEN := Lib.hid hlen
            have hk2 : (k : Int) < L := by omega
            clear hst hlen hi hbk
            generalize copy l B k = lk at *
            generalize lk.getD (n + k - B) 0 = x at *
            obtain ⟨m, hm⟩ : ∃ m, n + k = m := ⟨_, rfl⟩
            have e1 : IntKind.i64.wrap ((m : Int) - (B : Int)) = ((m - B : Nat) : Int) := by have := HOK.out; unfold backOk at this; rw [IntKind.wrap_i64]; omega
            have e2 : ((m - B : Nat) : Int) < m := by have := HOK.out; unfold backOk at this; omega
            rw [hm] at hcell hby ⊢
            have HM := Lib.hid hm
            have hmle : m ≤ 101000 := by omega
            clear hm
            generalize m - B = mb at *
            go_wp2_with (at_builtin; go_must (refine wpList_byte (x := x) rfl _ _ rfl rfl hby rfl (by rw [HLEN.out, HM.out]; omega) ?_); intro r2 cap2 w2 hby2 hr2 hrl2 K2 hc1 hc2)
            go_roundw
            case rel =>
              refine ⟨k + 1, r2, cap2, by go_num, by omega, ?_, ?_, ?_⟩
              · rw [HLEN.out]; rfl
              · rw [HST.out]
                refine ⟨?_⟩
                rw [List.length_append]
                exact hby2
              · exact M.trans ⟨K2, hr2⟩
            case measure => simp [intOf]; omega
          · obtain rfl : k = L := by omega
            go_wp2_with fail
            go_ret2
            refine .inl ⟨HOK.out, r', cap', rfl, hB, ?_⟩
            refine ⟨(Kp.of [r] OA).then M.kp, ?_⟩
            have := OA.size
            rcases M.at_ with e | e <;> omega
      · have h3' : (n : Int) < (B : Int) := by omega
        go_enter Tryz.func185, Tryz.ntmps185
        go_wp2_with fail
        refine (sin_yes _ (by omega) (by omega)).mono ?_
        rintro e w2 ⟨rfl, hw⟩
        obtain rfl : _ = w2 := hw.symm
        go_wp2_with fail
        refine (sin_yes _ (by omega) (by omega)).mono ?_
        rintro e w2 ⟨rfl, hw⟩
        obtain rfl : _ = w2 := hw.symm
        go_wp2_with fail
        go_ret2
        exact .inr ⟨fun h => by unfold backOk at h; omega, rfl, OA⟩
    · go_enter Tryz.func185, Tryz.ntmps185
      go_wp2_with fail
      refine (sin_yes _ (by omega) (by omega)).mono ?_
      rintro e w2 ⟨rfl, hw⟩
      obtain rfl : _ = w2 := hw.symm
      go_wp2_with fail
      refine (sin_no _ (by omega)).mono ?_
      rintro e w2 ⟨rfl, hw⟩
      obtain rfl : _ = w2 := hw.symm
      go_wp2_with fail
      go_ret2
      exact .inr ⟨fun h => by unfold backOk at h; omega, rfl, OA⟩
  · go_enter Tryz.func185, Tryz.ntmps185
    go_wp2_with fail
    refine (sin_no _ (by omega)).mono ?_
    rintro e w2 ⟨rfl, hw⟩
    obtain rfl : _ = w2 := hw.symm
    go_wp2_with fail
    go_ret2
    exact .inr ⟨fun h => by unfold backOk at h; omega, rfl, OA⟩
end Go.Proofs.YtnadjlejlohgiaaGreatDoor.Wi

