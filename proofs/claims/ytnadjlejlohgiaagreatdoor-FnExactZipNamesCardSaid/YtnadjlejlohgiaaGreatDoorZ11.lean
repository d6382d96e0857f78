/- Own texts joined: Wy, Lo. -/
import Derived.Deep.RegionHeld3
import Derived.WalkKit
import Derived.Deep.DeepCutAuto
import Derived.Deep.QuietTactic
import Derived.BigQuiet
import Derived.Test.YtnadjlejlohgiaaGreatDoorZ5
import Derived.Test.YtnadjlejlohgiaaGreatDoorZ6
import Derived.Test.YtnadjlejlohgiaaGreatDoorZ9
import Derived.Test.YtnadjlejlohgiaaGreatDoorZ10
/- A region that draws its order: what holds of all later worlds may be made stronger. Nothing of the program stands here. -/
namespace Go.Proofs.YtnadjlejlohgiaaGreatDoor.Wi
open Go.RowKit
set_option linter.unusedVariables false
set_option linter.unusedSimpArgs false
theorem wpAnyH_strong {P : Program} {md : Region.Mode} {ops : Array Oper} {Q : Exit → Act → World → Prop} {S S' : World → Prop} (h : ∀ w, S' w → S w) : ∀ {fuel : Nat} {listed : Array Bool} {a : Act} {w : World}, wpAnyH P md ops Q S' fuel listed a w → wpAnyH P md ops Q S fuel listed a w := by
  intro fuel
  induction fuel with
  | zero => intro _ _ _ H; exact H
  | succ f ih => intro listed a w H; exact ⟨H.1, fun i hi => wpOp_mono (fun a' w' h' => ⟨h _ h'.1, ih h'.2⟩) (H.2 i hi)⟩
end Go.Proofs.YtnadjlejlohgiaaGreatDoor.Wi

/- What the program's LensOk answers: whether lengths make a code. Conditions: lengths and how many, not too great. -/
namespace Go.Proofs.YtnadjlejlohgiaaGreatDoor.Wi
open Go.RowKit Go.Proofs.YtnadjlejlohgiaaGreatDoor.Mem Go.Proofs.YtnadjlejlohgiaaGreatDoor.Bt Go.Proofs.YtnadjlejlohgiaaGreatDoor.Cd
set_option linter.unusedVariables false
set_option linter.unusedSimpArgs false
theorem kraft_snoc (l : List Nat) (x : Nat) : kraft (l ++ [x]) = kraft l + if x = 0 then 0 else 2 ^ (15 - x) := by unfold kraft; simp
theorem used_snoc (l : List Nat) (x : Nat) : used (l ++ [x]) = used l + if 0 < x then 1 else 0 := by
  unfold used; rw [List.filter_append]; by_cases h : 0 < x <;> simp [h]
/-- What is known of lengths that have been gone through: a sum, how many, the last. -/
structure Sums (l : List Nat) (a b c : Nat) : Prop where mk ::
  sum : a = kraft l
  many : b = used l
  le : b = 0 → a = 0
  one : b = 1 → 1 ≤ c ∧ c ≤ 15 ∧ a = 2 ^ (15 - c)
theorem Sums.nil : Sums [] 0 0 0 := ⟨rfl, rfl, fun _ => rfl, fun h => by cases h⟩
theorem Sums.zero {l : List Nat} {a b c : Nat} (h : Sums l a b c) : Sums (l ++ [0]) a b c := ⟨by rw [kraft_snoc]; simpa using h.sum, by rw [used_snoc]; simpa using h.many, h.le, h.one⟩
theorem Sums.add {l : List Nat} {a b c x : Nat} (h : Sums l a b c) (h1 : 1 ≤ x) (h2 : x ≤ 15) : Sums (l ++ [x]) (a + 2 ^ (15 - x)) (b + 1) x :=
  ⟨by rw [kraft_snoc, if_neg (by omega), h.sum], by rw [used_snoc, if_pos (by omega), h.many], fun e => by omega, fun e => ⟨h1, h2, by rw [h.le (by omega), Nat.zero_add]⟩⟩
theorem Sums.ok {l : List Nat} {a b c : Nat} (h : Sums l a b c) (hl : l.length ≤ 300) (h15 : ∀ x ∈ l, x ≤ 15) : okLens l = (decide (a = 32768) || (decide (b = 1) && decide (c = 1))) := by
  unfold okLens
  rw [show decide (l.length ≤ 300) = true from by simpa using hl, show l.all (fun x => decide (x ≤ 15)) = true from by simpa using h15, ← h.sum, ← h.many]
  simp only [Bool.true_and]
  congr 1
  by_cases hb : b = 1
  · obtain ⟨o1, o2, o3⟩ := h.one hb
    congr 1
    rw [o3, Bool.eq_iff_iff]
    simp only [decide_eq_true_eq]
    constructor
    · intro e
      rcases Nat.lt_or_ge c 2 with h | h
      · omega
      · have : 2 ^ (15 - c) ≤ 2 ^ 13 := Nat.pow_le_pow_right (by omega) (by omega)
        omega
    · rintro rfl; rfl
  · simp [hb]
theorem ok_bad {l : List Nat} {x : Nat} (h : x ∈ l) (hx : 15 < x) : okLens l = false := by
  unfold okLens
  rw [show l.all (fun x => decide (x ≤ 15)) = false from by rw [List.all_eq_false]; exact ⟨x, h, by simp; omega⟩]
  simp
theorem ok_long {l : List Nat} (h : 300 < l.length) : okLens l = false := by
  unfold okLens
  rw [show decide (l.length ≤ 300) = false from by simp; omega]; simp
theorem kraft_take_le : ∀ (l : List Nat) (k : Nat), kraft (l.take k) ≤ 16384 * k
  | _, 0 => by simp [kraft]
  | [], k + 1 => by simp [kraft]
  | x :: l, k + 1 => by
    have := kraft_take_le l k
    have hp : 2 ^ (15 - x) ≤ 2 ^ 15 := Nat.pow_le_pow_right (by omega) (by omega)
    have hq : x ≠ 0 → 2 ^ (15 - x) ≤ 2 ^ 14 := fun _ => Nat.pow_le_pow_right (by omega) (by omega)
    unfold kraft at this ⊢
    simp only [List.take_succ_cons, List.map_cons, List.sum_cons]
    split
    · omega
    · rename_i h; have := hq h; omega
set_option maxRecDepth 100000 in
theorem lensok_calls (lens : List Nat) (g o n cap : Nat) (w : World) (hl : RowO w g o 3 (i64s lens)) (hn : lens.length = n) (hn2 : n ≤ 1000) (hnc : n ≤ cap) (hx : ∀ x ∈ lens, x ≤ 100000) :
    Calls Tryz.prog 122 #[.slice (some ⟨g, o, none⟩) n cap] w fun e w' => e = .returned (.bool (okLens lens)) ∧ On w w' := by
  have HN := Lib.hid hn
  clear hn
  by_cases h3 : 300 < n
  · have h3' : (300 : Int) < n := by omega
    go_enter Tryz.func122, Tryz.ntmps122
    go_wp2_with fail
    go_ret
    exact ⟨by rw [ok_long (by rw [HN.out]; exact h3)]; rfl, On.refl _⟩
  have h3' : ¬ (300 : Int) < n := by omega
  go_enter Tryz.func122, Tryz.ntmps122
  go_wp2_with fail
  go_loopw [3, 4, 5, 13] (fun a b c x wr => ∃ (k sa sb sc : Nat), x = .int .i64 (k : Int) ∧ k ≤ n ∧ a = .int .i64 (sa : Int) ∧ b = .int .i64 (sb : Int) ∧ c = .int .i64 (sc : Int) ∧ Sums (lens.take k) sa sb sc ∧ sb ≤ k ∧ (∀ y ∈ lens.take k, y ≤ 15) ∧ On w wr) (fun _ _ _ x _ => n - (intOf x).toNat)
  case atStart => exact ⟨0, 0, 0, 0, rfl, by omega, rfl, rfl, rfl, Sums.nil, Nat.le_refl _, by simp, On.refl _⟩
  case round =>
    obtain ⟨k, sa, sb, sc, rfl, hk, rfl, rfl, rfl, S, hb, h15, O⟩ := hrel
    by_cases hlt : k < n
    · have hkl : k < lens.length := by rw [HN.out]; exact hlt
      have c0 := (hl.on O).cell (i64s_get hkl)
      have hmem : lens.getD k 0 ∈ lens := by rw [List.getD_eq_getElem?_getD, List.getElem?_eq_getElem hkl]; exact List.getElem_mem _
      have hx1 := hx _ hmem
      have htk : lens.take (k + 1) = lens.take k ++ [lens.getD k 0] := by rw [List.take_succ_eq_append_getElem hkl, List.getD_eq_getElem?_getD, List.getElem?_eq_getElem hkl]; rfl
      have HTK := Lib.hid htk
      have hkr := kraft_take_le lens k
      rw [← S.sum] at hkr
      have HS := Lib.hid S
      have H15 := Lib.hid h15
      have HM := Lib.hid hmem
      clear htk S h15 hmem
      generalize lens.getD k 0 = x at *
      have hk2 : (k : Int) < n := by omega
      by_cases hx15 : x ≤ 15
      · by_cases h0 : x = 0
        · subst h0
          go_wp2_with fail
          refine (within_yes _ (by omega) (by omega)).mono ?_
          rintro e w2 ⟨rfl, hw⟩
          obtain rfl : wr = w2 := hw.symm
          go_wp2_with fail
          go_roundw
          case rel => exact ⟨k + 1, sa, sb, sc, by go_num, by omega, rfl, rfl, rfl, by rw [HTK.out]; exact HS.out.zero, by omega, by rw [HTK.out]; intro y hy; simp only [List.mem_append, List.mem_singleton] at hy; (rcases hy with hy | rfl; exact H15.out y hy; omega), O⟩
          case measure => simp [intOf]; omega
        · have h1 : 1 ≤ x := by omega
          have hp : 2 ^ (15 - x) ≤ 2 ^ 15 := Nat.pow_le_pow_right (by omega) (by omega)
          have e1 : IntKind.i64.wrap (15 - (x : Int)) = ((15 - x : Nat) : Int) := by rw [IntKind.wrap_i64]; omega
          have e2 : IntKind.i64.wrap ((1 : Int) * 2 ^ (15 - x)) = ((2 ^ (15 - x) : Nat) : Int) := by
            rw [Int.one_mul, show (2 : Int) ^ (15 - x) = ((2 ^ (15 - x) : Nat) : Int) from by simp]; exact wr_i64 _ (Int.natCast_nonneg _) (Int.lt_of_le_of_lt (Int.ofNat_le.2 hp) (by decide))
          have e3 : IntKind.i64.wrap ((2 : Int) ^ (15 - x)) = ((2 ^ (15 - x) : Nat) : Int) := by
            rw [show (2 : Int) ^ (15 - x) = ((2 ^ (15 - x) : Nat) : Int) from by simp]; exact wr_i64 _ (Int.natCast_nonneg _) (Int.lt_of_le_of_lt (Int.ofNat_le.2 hp) (by decide))
          have h63 : ((15 - x : Nat) : Int) < 64 := by omega
          have hx0 : (0 : Int) < (x : Int) := by omega
          have hadd := HS.out.add h1 hx15
          have HA := Lib.hid hadd
          clear hadd
          generalize 2 ^ (15 - x) = z at *
          generalize 15 - x = zz at *
          go_wp2_with fail
          refine (within_yes _ (by omega) (by omega)).mono ?_
          rintro e w2 ⟨rfl, hw⟩
          obtain rfl : wr = w2 := hw.symm
          go_wp2_with fail
          go_roundw
          case rel => exact ⟨k + 1, sa + z, sb + 1, x, by go_num, by omega, by go_num, by go_num, rfl, by rw [HTK.out]; exact HA.out, by omega, by rw [HTK.out]; intro y hy; simp only [List.mem_append, List.mem_singleton] at hy; (rcases hy with hy | rfl; exact H15.out y hy; omega), O⟩
          case measure => simp [intOf]; omega
      · go_wp2_with fail
        refine (within_no _ (by omega)).mono ?_
        rintro e w2 ⟨rfl, hw⟩
        obtain rfl : wr = w2 := hw.symm
        go_wp2_with fail
        go_ret
        exact ⟨by rw [ok_bad HM.out (by omega)]; rfl, O⟩
    · obtain rfl : k = n := by omega
      have htk : lens.take k = lens := List.take_of_length_le (by rw [HN.out]; exact Nat.le_refl _)
      rw [htk] at S h15
      have hok := S.ok (by rw [HN.out]; omega) h15
      have HO := Lib.hid hok
      clear hok htk S h15
      by_cases q1 : sa = 32768
      · have q1' : ((sa : Int) == 32768) = true := by simp; omega
        go_wp2_with fail
        go_ret
        refine ⟨?_, O⟩
        show Ending.returned (.bool _) = _
        rw [HO.out]
        rw [decide_eq_true q1]; rfl
      · have q1' : ((sa : Int) == 32768) = false := by simp; omega
        by_cases q2 : sb = 1
        · have q2' : ((sb : Int) == 1) = true := by simp; omega
          go_wp2_with fail
          go_ret
          refine ⟨?_, O⟩
          show Ending.returned (.bool _) = _
          rw [HO.out]
          rw [decide_eq_false q1, decide_eq_true q2, Bool.false_or, Bool.true_and]
          congr 2
          rw [Bool.eq_iff_iff]; simp; omega
        · have q2' : ((sb : Int) == 1) = false := by simp; omega
          go_wp2_with fail
          go_ret
          refine ⟨?_, O⟩
          show Ending.returned (.bool _) = _
          rw [HO.out]
          rw [decide_eq_false q1, decide_eq_false q2]; rfl
end Go.Proofs.YtnadjlejlohgiaaGreatDoor.Wi

