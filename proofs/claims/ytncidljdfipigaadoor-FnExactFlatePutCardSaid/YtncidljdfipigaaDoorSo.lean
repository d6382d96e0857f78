/- What the specification's LensOk answers: whether lengths make a code. Conditions: lengths and how many, not too great. -/
import Derived.Test.YtncidljdfipigaaDoorLo
import Derived.Test.YtncidljdfipigaaDoorWs
namespace Go.Proofs.YtncidljdfipigaaDoor.Wi
open Go.RowKit Go.Proofs.YtncidljdfipigaaDoor.Mem Go.Proofs.YtncidljdfipigaaDoor.Bt Go.Proofs.YtncidljdfipigaaDoor.Cd
set_option linter.unusedVariables false
set_option linter.unusedSimpArgs false
theorem sin_same (n l h : Int) (w : World) :
    Calls Tryd.prog 144 #[.int .i64 n, .int .i64 l, .int .i64 h] w (fun e w' => e = .returned (.bool (decide (l ≤ n ∧ n ≤ h))) ∧ w' = w) := by
  by_cases h1 : l ≤ n
  · by_cases h2 : n ≤ h
    · go_enter Tryd.func144, Tryd.ntmps144
      go_wp2_with fail
      go_ret
      exact ⟨by simp [h1, h2], rfl⟩
    · go_enter Tryd.func144, Tryd.ntmps144
      go_wp2_with fail
      go_ret
      exact ⟨by simp [h1, h2], rfl⟩
  · go_enter Tryd.func144, Tryd.ntmps144
    go_wp2_with fail
    go_ret
    exact ⟨by simp; omega, rfl⟩
theorem sin_yes {n l h : Int} (w : World) (h1 : l ≤ n) (h2 : n ≤ h) : Calls Tryd.prog 144 #[.int .i64 n, .int .i64 l, .int .i64 h] w (fun e w' => e = .returned (.bool true) ∧ w' = w) := by
  have := sin_same n l h w
  rw [decide_eq_true ⟨h1, h2⟩] at this
  exact this
theorem sin_no {n l h : Int} (w : World) (h1 : ¬ (l ≤ n ∧ n ≤ h)) : Calls Tryd.prog 144 #[.int .i64 n, .int .i64 l, .int .i64 h] w (fun e w' => e = .returned (.bool false) ∧ w' = w) := by
  have := sin_same n l h w
  rw [decide_eq_false h1] at this
  exact this
set_option maxRecDepth 100000 in
theorem sused_calls (lens : List Nat) (g o n cap : Nat) (w : World) (hl : RowO w g o 3 (i64s lens)) (hn : lens.length = n) (hn2 : n ≤ 1000) (hnc : n ≤ cap) :
    Calls Tryd.prog 125 #[.slice (some ⟨g, o, none⟩) n cap] w fun e w' => e = .returned (.int .i64 (used lens : Nat)) ∧ On w w' := by
  have HN := Lib.hid hn
  clear hn
  go_enter Tryd.func125, Tryd.ntmps125
  go_wp2_with fail
  go_loopw [3, 4] (fun a x wr => ∃ (k : Nat), x = .int .i64 (k : Int) ∧ k ≤ n ∧ a = .int .i64 (used (lens.take k) : Nat) ∧ used (lens.take k) ≤ k ∧ On w wr) (fun _ x _ => n - (intOf x).toNat)
  case atStart => exact ⟨0, rfl, by omega, rfl, Nat.le_refl _, On.refl _⟩
  case round =>
    obtain ⟨k, rfl, hk, rfl, hu, O⟩ := hrel
    by_cases hlt : k < n
    · have hkl : k < lens.length := by rw [HN.out]; exact hlt
      have c0 := (hl.on O).cell (i64s_get hkl)
      have htk : lens.take (k + 1) = lens.take k ++ [lens.getD k 0] := by rw [List.take_succ_eq_append_getElem hkl, List.getD_eq_getElem?_getD, List.getElem?_eq_getElem hkl]; rfl
      have hus : used (lens.take (k + 1)) = used (lens.take k) + if 0 < lens.getD k 0 then 1 else 0 := by rw [htk, used_snoc]
      have HU := Lib.hid hus
      clear htk hus
      generalize lens.getD k 0 = x at *
      generalize used (lens.take k) = u at *
      have hk2 : (k : Int) < n := by omega
      by_cases h0 : 0 < x
      · have h0' : (0 : Int) < x := by omega
        go_wp2_with fail
        go_roundw
        case rel => exact ⟨k + 1, by go_num, by omega, by rw [HU.out, if_pos h0]; go_num, by rw [HU.out, if_pos h0]; omega, O⟩
        case measure => simp [intOf]; omega
      · have h0' : ¬ (0 : Int) < x := by omega
        go_wp2_with fail
        go_roundw
        case rel => exact ⟨k + 1, by go_num, by omega, by rw [HU.out, if_neg h0]; go_num, by rw [HU.out, if_neg h0]; omega, O⟩
        case measure => simp [intOf]; omega
    · obtain rfl : k = n := by omega
      have htk : lens.take k = lens := List.take_of_length_le (by rw [HN.out]; exact Nat.le_refl _)
      rw [htk] at *
      go_wp2_with fail
      go_ret
      exact ⟨rfl, O⟩
theorem okLens_is {l : List Nat} (h15 : ∀ x ∈ l, x ≤ 15) : okLens l = (decide (l.length ≤ 300) && (decide (kraft l = 32768) || (decide (used l = 1) && decide (kraft l = 16384)))) := by
  unfold okLens
  rw [show l.all (fun x => decide (x ≤ 15)) = true from by simpa using h15]
  simp only [Bool.and_true]
set_option maxRecDepth 100000 in
set_option maxHeartbeats 4000000 in
theorem slensok_calls (lens : List Nat) (g o n cap : Nat) (w : World) (hl : RowO w g o 3 (i64s lens)) (hn : lens.length = n) (hn2 : n ≤ 1000) (hnc : n ≤ cap) (hx : ∀ x ∈ lens, x ≤ 100000) :
    Calls Tryd.prog 152 #[.slice (some ⟨g, o, none⟩) n cap] w fun e w' => e = .returned (.bool (okLens lens)) ∧ On w w' := by
  have HN := Lib.hid hn
  clear hn
  go_enter Tryd.func152, Tryd.ntmps152
  go_wp2_with fail
  go_loopw [3, 4] (fun a x wr => ∃ (k sa : Nat), x = .int .i64 (k : Int) ∧ k ≤ n ∧ a = .int .i64 (sa : Int) ∧ sa = kraft (lens.take k) ∧ (∀ y ∈ lens.take k, y ≤ 15) ∧ On w wr) (fun _ x _ => n - (intOf x).toNat)
  case atStart => exact ⟨0, 0, rfl, by omega, rfl, rfl, by simp, On.refl _⟩
  case round =>
    obtain ⟨k, sa, rfl, hk, rfl, S, h15, O⟩ := hrel
    by_cases hlt : k < n
    · have hkl : k < lens.length := by rw [HN.out]; exact hlt
      have c0 := (hl.on O).cell (i64s_get hkl)
      have hmem : lens.getD k 0 ∈ lens := by rw [List.getD_eq_getElem?_getD, List.getElem?_eq_getElem hkl]; exact List.getElem_mem _
      have hx1 := hx _ hmem
      have htk : lens.take (k + 1) = lens.take k ++ [lens.getD k 0] := by rw [List.take_succ_eq_append_getElem hkl, List.getD_eq_getElem?_getD, List.getElem?_eq_getElem hkl]; rfl
      have HTK := Lib.hid htk
      have hkr := kraft_take_le lens k
      rw [← S] at hkr
      have HS := Lib.hid S
      have H15 := Lib.hid h15
      have HM := Lib.hid hmem
      clear htk S h15 hmem
      generalize lens.getD k 0 = x at *
      have hk2 : (k : Int) < n := by omega
      by_cases hx15 : x ≤ 15
      · have h15n : ∀ y ∈ lens.take (k + 1), y ≤ 15 := by rw [HTK.out]; intro y hy; simp only [List.mem_append, List.mem_singleton] at hy; (rcases hy with hy | rfl; exact H15.out y hy; omega)
        have H15N := Lib.hid h15n
        clear h15n
        by_cases h0 : x = 0
        · subst h0
          go_wp2_with fail
          refine (sin_yes _ (by omega) (by omega)).mono ?_
          rintro e w2 ⟨rfl, hw⟩
          obtain rfl : wr = w2 := hw.symm
          go_wp2_with fail
          go_roundw
          case rel => exact ⟨k + 1, sa, by go_num, by omega, rfl, by rw [HTK.out, kraft_snoc, HS.out]; rfl, H15N.out, O⟩
          case measure => simp [intOf]; omega
        · have hp : 2 ^ (15 - x) ≤ 2 ^ 15 := Nat.pow_le_pow_right (by omega) (by omega)
          have e1 : IntKind.i64.wrap (15 - (x : Int)) = ((15 - x : Nat) : Int) := by rw [IntKind.wrap_i64]; omega
          have hx0 : (0 : Int) < (x : Int) := by omega
          have hks : kraft (lens.take (k + 1)) = sa + 2 ^ (15 - x) := by rw [HTK.out, kraft_snoc, if_neg h0, HS.out]
          have HK := Lib.hid hks
          clear hks
          obtain ⟨z, hz⟩ : ∃ z, 2 ^ (15 - x) = z := ⟨_, rfl⟩
          rw [hz] at hp HK
          have hzz : 15 - x ≤ 40 := by omega
          generalize 15 - x = zz at *
          have HZ := Lib.hid hz
          clear hz
          go_wp2_with fail
          refine (sin_yes _ (by omega) (by omega)).mono ?_
          rintro e w2 ⟨rfl, hw⟩
          obtain rfl : wr = w2 := hw.symm
          go_wp2_with fail
          refine (pow_same zz z HZ hzz wr).mono ?_
          rintro e w2 ⟨rfl, hw⟩
          obtain rfl : wr = w2 := hw.symm
          go_wp2_with fail
          go_roundw
          case rel => exact ⟨k + 1, sa + z, by go_num, by omega, by go_num, HK.out.symm, H15N.out, O⟩
          case measure => simp [intOf]; omega
      · go_wp2_with fail
        refine (sin_no _ (by omega)).mono ?_
        rintro e w2 ⟨rfl, hw⟩
        obtain rfl : wr = w2 := hw.symm
        go_wp2_with fail
        go_ret
        exact ⟨by rw [ok_bad HM.out (by omega)]; rfl, O⟩
    · obtain rfl : k = n := by omega
      have htk : lens.take k = lens := List.take_of_length_le (by rw [HN.out]; exact Nat.le_refl _)
      rw [htk] at S h15
      have hok := okLens_is h15
      rw [HN.out, ← S] at hok
      have HO := Lib.hid hok
      clear hok htk S h15
      have hu := Lib.hid (sused_calls lens g o k cap wr (hl.on O) HN.out (by omega) hnc)
      generalize used lens = u at *
      have s1 : ((sa : Int) == 32768) = decide (sa = 32768) := by rw [Bool.eq_iff_iff]; simp; omega
      have s2 : ((sa : Int) == 16384) = decide (sa = 16384) := by rw [Bool.eq_iff_iff]; simp; omega
      have s3 : ((u : Int) == 1) = decide (u = 1) := by rw [Bool.eq_iff_iff]; simp; omega
      have s4 : decide ((k : Int) ≤ 300) = decide (k ≤ 300) := by rw [Bool.eq_iff_iff]; simp; omega
      generalize decide (sa = 32768) = b1 at *
      generalize decide (sa = 16384) = b2 at *
      have P14 : ∀ w', Calls Tryd.prog 119 #[.int .i64 14] w' (fun e w'' => e = .returned (.int .i64 16384) ∧ w'' = w') := fun w' => pow_same 14 16384 (Lib.hid rfl) (by omega) w'
      have P15 : ∀ w', Calls Tryd.prog 119 #[.int .i64 15] w' (fun e w'' => e = .returned (.int .i64 32768) ∧ w'' = w') := fun w' => pow_same 15 32768 (Lib.hid rfl) (by omega) w'
      have HP14 := Lib.hid P14
      have HP15 := Lib.hid P15
      clear P14 P15
      generalize hb3 : decide (u = 1) = b3 at *
      generalize hb4 : decide (k ≤ 300) = b4 at *
      clear hb3 hb4
      cases b3
      · cases b4
        · cases b1 <;> cases b2
          all_goals
            go_wp2_with fail
            refine hu.out.mono ?_
            rintro e w2 ⟨rfl, O2⟩
            replace O2 := O.call O2
            go_wp2_with fail
            go_ret
            exact ⟨by rw [HO.out]; rfl, O2⟩
        · cases b1 <;> cases b2
          all_goals
            go_wp2_with fail
            refine hu.out.mono ?_
            rintro e w2 ⟨rfl, O2⟩
            replace O2 := O.call O2
            go_wp2_with fail
            refine (HP15.out w2).mono ?_
            rintro e w3 ⟨rfl, hw⟩
            obtain rfl : w2 = w3 := hw.symm
            go_wp2_with fail
            go_ret
            exact ⟨by rw [HO.out]; rfl, O2⟩
      · cases b4
        · cases b1 <;> cases b2
          all_goals
            go_wp2_with fail
            refine hu.out.mono ?_
            rintro e w2 ⟨rfl, O2⟩
            replace O2 := O.call O2
            go_wp2_with fail
            refine (HP14.out w2).mono ?_
            rintro e w3 ⟨rfl, hw⟩
            obtain rfl : w2 = w3 := hw.symm
            go_wp2_with fail
            go_ret
            exact ⟨by rw [HO.out]; rfl, O2⟩
        · cases b1 <;> cases b2
          all_goals
            go_wp2_with fail
            refine hu.out.mono ?_
            rintro e w2 ⟨rfl, O2⟩
            replace O2 := O.call O2
            go_wp2_with fail
            refine (HP14.out w2).mono ?_
            rintro e w3 ⟨rfl, hw⟩
            obtain rfl : w2 = w3 := hw.symm
            go_wp2_with fail
            refine (HP15.out w2).mono ?_
            rintro e w3 ⟨rfl, hw⟩
            obtain rfl : w2 = w3 := hw.symm
            go_wp2_with fail
            go_ret
            exact ⟨by rw [HO.out]; rfl, O2⟩
end Go.Proofs.YtncidljdfipigaaDoor.Wi
