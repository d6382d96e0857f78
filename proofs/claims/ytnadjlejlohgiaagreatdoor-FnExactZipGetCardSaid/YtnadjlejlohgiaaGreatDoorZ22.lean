/- Own texts joined: So, Sa. -/
import Derived.Test.YtnadjlejlohgiaaGreatDoorZ10
import Derived.Test.YtnadjlejlohgiaaGreatDoorZ11
import Derived.Test.YtnadjlejlohgiaaGreatDoorZ13
/- What the specification's LensOk answers: whether lengths make a code. Conditions: lengths and how many, not too great. -/
namespace Go.Proofs.YtnadjlejlohgiaaGreatDoor.Wi
open Go.RowKit Go.Proofs.YtnadjlejlohgiaaGreatDoor.Mem Go.Proofs.YtnadjlejlohgiaaGreatDoor.Bt Go.Proofs.YtnadjlejlohgiaaGreatDoor.Cd
set_option linter.unusedVariables false
set_option linter.unusedSimpArgs false
theorem sin_same (n l h : Int) (w : World) :
    Calls Tryz.prog 30 #[.int .i64 n, .int .i64 l, .int .i64 h] w (fun e w' => e = .returned (.bool (decide (l ≤ n ∧ n ≤ h))) ∧ w' = w) := by
  by_cases h1 : l ≤ n
  · by_cases h2 : n ≤ h
    · go_enter Tryz.func30, Tryz.ntmps30
      go_wp2_with fail
      go_ret
      exact ⟨by simp [h1, h2], rfl⟩
    · go_enter Tryz.func30, Tryz.ntmps30
      go_wp2_with fail
      go_ret
      exact ⟨by simp [h1, h2], rfl⟩
  · go_enter Tryz.func30, Tryz.ntmps30
    go_wp2_with fail
    go_ret
    exact ⟨by simp; omega, rfl⟩
theorem sin_yes {n l h : Int} (w : World) (h1 : l ≤ n) (h2 : n ≤ h) : Calls Tryz.prog 30 #[.int .i64 n, .int .i64 l, .int .i64 h] w (fun e w' => e = .returned (.bool true) ∧ w' = w) := by
  have := sin_same n l h w
  rw [decide_eq_true ⟨h1, h2⟩] at this
  exact this
theorem sin_no {n l h : Int} (w : World) (h1 : ¬ (l ≤ n ∧ n ≤ h)) : Calls Tryz.prog 30 #[.int .i64 n, .int .i64 l, .int .i64 h] w (fun e w' => e = .returned (.bool false) ∧ w' = w) := by
  have := sin_same n l h w
  rw [decide_eq_false h1] at this
  exact this
set_option maxRecDepth 100000 in
theorem sused_calls (lens : List Nat) (g o n cap : Nat) (w : World) (hl : RowO w g o 3 (i64s lens)) (hn : lens.length = n) (hn2 : n ≤ 1000) (hnc : n ≤ cap) :
    Calls Tryz.prog 169 #[.slice (some ⟨g, o, none⟩) n cap] w fun e w' => e = .returned (.int .i64 (used lens : Nat)) ∧ On w w' := by
  have HN := Lib.hid hn
  clear hn
  go_enter Tryz.func169, Tryz.ntmps169
  go_wp2_with fail
  go_loopw [3, 4] (fun a x wr => ∃ (k : Nat), x = .int .i64 (k : Int) ∧ k ≤ n ∧ a = .int .i64 (used (lens.take k) : Nat) ∧ used (lens.take k) ≤ k ∧ On w wr) (fun _ x _ => n - (intOf x).toNat)
  case atStart => exact ⟨0, rfl, by omega, rfl, Nat.le_refl _, On.refl _⟩
  case round =>
    obtain ⟨k, rfl, hk, rfl, hu, O⟩ := hrel
    by_cases hlt : k < n
    · have hkl : k < lens.length := by rw [HN.out]; exact hlt
      have c0 := (hl.on O).cell (i64s_get hkl)
      have htk : lens.take (k + 1) = lens.take k ++ [lens.getD k 0] := by rw [List.take_succ_eq_append_getElem hkl, List.getD_eq_getElem?_getD, List.getElem?_eq_getElem hkl]; rfl
      have hus : used (lens.take (k + 1)) = used (lens.take k) + if 0 < lens.getD k 0 then 1 else 0 := by rw [htk, used_snoc]
      have HU := Lib.hid hus
      clear htk hus
      generalize lens.getD k 0 = x at *
      generalize used (lens.take k) = u at *
      have hk2 : (k : Int) < n := by omega
      by_cases h0 : 0 < x
      · have h0' : (0 : Int) < x := by omega
        go_wp2_with fail
        go_roundw
        case rel => exact ⟨k + 1, by go_num, by omega, by rw [HU.out, if_pos h0]; go_num, by rw [HU.out, if_pos h0]; omega, O⟩
        case measure => simp [intOf]; omega
      · have h0' : ¬ (0 : Int) < x := by omega
        go_wp2_with fail
        go_roundw
        case rel => exact ⟨k + 1, by go_num, by omega, by rw [HU.out, if_neg h0]; go_num, by rw [HU.out, if_neg h0]; omega, O⟩
        case measure => simp [intOf]; omega
    · obtain rfl : k = n := by omega
      have htk : lens.take k = lens := List.take_of_length_le (by rw [HN.out]; exact Nat.le_refl _)
      rw [htk] at *
      go_wp2_with fail
      go_ret
      exact ⟨rfl, O⟩
theorem okLens_is {l : List Nat} (h15 : ∀ x ∈ l, x ≤ 15) : okLens l = (decide (l.length ≤ 300) && (decide (kraft l = 32768) || (decide (used l = 1) && decide (kraft l = 16384)))) := by
  unfold okLens
  rw [show l.all (fun x => decide (x ≤ 15)) = true from by simpa using h15]
  simp only [Bool.and_true]
set_option maxRecDepth 100000 in
set_option maxHeartbeats 4000000 in
theorem slensok_calls (lens : List Nat) (g o n cap : Nat) (w : World) (hl : RowO w g o 3 (i64s lens)) (hn : lens.length = n) (hn2 : n ≤ 1000) (hnc : n ≤ cap) (hx : ∀ x ∈ lens, x ≤ 100000) :
    Calls Tryz.prog 175 #[.slice (some ⟨g, o, none⟩) n cap] w fun e w' => e = .returned (.bool (okLens lens)) ∧ On w w' := by
  have HN := Lib.hid hn
  clear hn
  go_enter Tryz.func175, Tryz.ntmps175
  go_wp2_with fail
  go_loopw [3, 4] (fun a x wr => ∃ (k sa : Nat), x = .int .i64 (k : Int) ∧ k ≤ n ∧ a = .int .i64 (sa : Int) ∧ sa = kraft (lens.take k) ∧ (∀ y ∈ lens.take k, y ≤ 15) ∧ On w wr) (fun _ x _ => n - (intOf x).toNat)
  case atStart => exact ⟨0, 0, rfl, by omega, rfl, rfl, by simp, On.refl _⟩
  case round =>
    obtain ⟨k, sa, rfl, hk, rfl, S, h15, O⟩ := hrel
    by_cases hlt : k < n
    · have hkl : k < lens.length := by rw [HN.out]; exact hlt
      have c0 := (hl.on O).cell (i64s_get hkl)
      have hmem : lens.getD k 0 ∈ lens := by rw [List.getD_eq_getElem?_getD, List.getElem?_eq_getElem hkl]; exact List.getElem_mem _
      have hx1 := hx _ hmem
      have htk : lens.take (k + 1) = lens.take k ++ [lens.getD k 0] := by rw [List.take_succ_eq_append_getElem hkl, List.getD_eq_getElem?_getD, List.getElem?_eq_getElem hkl]; rfl
      have HTK := Lib.hid htk
      have hkr := kraft_take_le lens k
      rw [← S] at hkr
      have HS := Lib.hid S
      have H15 := Lib.hid h15
      have HM := Lib.hid hmem
      clear htk S h15 hmem
      generalize lens.getD k 0 = x at *
      have hk2 : (k : Int) < n := by omega
      by_cases hx15 : x ≤ 15
      · have h15n : ∀ y ∈ lens.take (k + 1), y ≤ 15 := by rw [HTK.out]; intro y hy; simp only [List.mem_append, List.mem_singleton] at hy; (rcases hy with hy | rfl; exact H15.out y hy; omega)
        have H15N := Lib.hid h15n
        clear h15n
        by_cases h0 : x = 0
        · subst h0
          go_wp2_with fail
          refine (sin_yes _ (by omega) (by omega)).mono ?_
          rintro e w2 ⟨rfl, hw⟩
          obtain rfl : wr = w2 := hw.symm
          go_wp2_with fail
          go_roundw
          case rel => exact ⟨k + 1, sa, by go_num, by omega, rfl, by rw [HTK.out, kraft_snoc, HS.out]; rfl, H15N.out, O⟩
          case measure => simp [intOf]; omega
        · have hp : 2 ^ (15 - x) ≤ 2 ^ 15 := Nat.pow_le_pow_right (by omega) (by omega)
          have e1 : IntKind.i64.wrap (15 - (x : Int)) = ((15 - x : Nat) : Int) := by rw [IntKind.wrap_i64]; omega
          have hx0 : (0 : Int) < (x : Int) := by omega
          have hks : kraft (lens.take (k + 1)) = sa + 2 ^ (15 - x) := by rw [HTK.out, kraft_snoc, if_neg h0, HS.out]
          have HK := Lib.hid hks
          clear hks
          obtain ⟨z, hz⟩ : ∃ z, 2 ^ (15 - x) = z := ⟨_, rfl⟩
          rw [hz] at hp HK
          have hzz : 15 - x ≤ 40 := by omega
          generalize 15 - x = zz at *
          have HZ := Lib.hid hz
          clear hz
          go_wp2_with fail
          refine (sin_yes _ (by omega) (by omega)).mono ?_
          rintro e w2 ⟨rfl, hw⟩
          obtain rfl : wr = w2 := hw.symm
          go_wp2_with fail
          refine (pow_same zz z HZ hzz wr).mono ?_
          rintro e w2 ⟨rfl, hw⟩
          obtain rfl : wr = w2 := hw.symm
          go_wp2_with fail
          go_roundw
          case rel => exact ⟨k + 1, sa + z, by go_num, by omega, by go_num, HK.out.symm, H15N.out, O⟩
          case measure => simp [intOf]; omega
      · go_wp2_with fail
        refine (sin_no _ (by omega)).mono ?_
        rintro e w2 ⟨rfl, hw⟩
        obtain rfl : wr = w2 := hw.symm
        go_wp2_with fail
        go_ret
        exact ⟨by rw [ok_bad HM.out (by omega)]; rfl, O⟩
    · obtain rfl : k = n := by omega
      have htk : lens.take k = lens := List.take_of_length_le (by rw [HN.out]; exact Nat.le_refl _)
      rw [htk] at S h15
      have hok := okLens_is h15
      rw [HN.out, ← S] at hok
      have HO := Lib.hid hok
      clear hok htk S h15
      have hu := Lib.hid (sused_calls lens g o k cap wr (hl.on O) HN.out (by omega) hnc)
      generalize used lens = u at *
      have s1 : ((sa : Int) == 32768) = decide (sa = 32768) := by rw [Bool.eq_iff_iff]; simp; omega
      have s2 : ((sa : Int) == 16384) = decide (sa = 16384) := by rw [Bool.eq_iff_iff]; simp; omega
      have s3 : ((u : Int) == 1) = decide (u = 1) := by rw [Bool.eq_iff_iff]; simp; omega
      have s4 : decide ((k : Int) ≤ 300) = decide (k ≤ 300) := by rw [Bool.eq_iff_iff]; simp; omega
      generalize decide (sa = 32768) = b1 at *
      generalize decide (sa = 16384) = b2 at *
      have P14 : ∀ w', Calls Tryz.prog 161 #[.int .i64 14] w' (fun e w'' => e = .returned (.int .i64 16384) ∧ w'' = w') := fun w' => pow_same 14 16384 (Lib.hid rfl) (by omega) w'
      have P15 : ∀ w', Calls Tryz.prog 161 #[.int .i64 15] w' (fun e w'' => e = .returned (.int .i64 32768) ∧ w'' = w') := fun w' => pow_same 15 32768 (Lib.hid rfl) (by omega) w'
      have HP14 := Lib.hid P14
      have HP15 := Lib.hid P15
      clear P14 P15
      generalize hb3 : decide (u = 1) = b3 at *
      generalize hb4 : decide (k ≤ 300) = b4 at *
      clear hb3 hb4
      cases b3
      · cases b4
        · cases b1 <;> cases b2
          all_goals
            go_wp2_with fail
            refine hu.out.mono ?_
            rintro e w2 ⟨rfl, O2⟩
            replace O2 := O.call O2
            go_wp2_with fail
            go_ret
            exact ⟨by rw [HO.out]; rfl, O2⟩
        · cases b1 <;> cases b2
          all_goals
            go_wp2_with fail
            refine hu.out.mono ?_
            rintro e w2 ⟨rfl, O2⟩
            replace O2 := O.call O2
            go_wp2_with fail
            refine (HP15.out w2).mono ?_
            rintro e w3 ⟨rfl, hw⟩
            obtain rfl : w2 = w3 := hw.symm
            go_wp2_with fail
            go_ret
            exact ⟨by rw [HO.out]; rfl, O2⟩
      · cases b4
        · cases b1 <;> cases b2
          all_goals
            go_wp2_with fail
            refine hu.out.mono ?_
            rintro e w2 ⟨rfl, O2⟩
            replace O2 := O.call O2
            go_wp2_with fail
            refine (HP14.out w2).mono ?_
            rintro e w3 ⟨rfl, hw⟩
            obtain rfl : w2 = w3 := hw.symm
            go_wp2_with fail
            go_ret
            exact ⟨by rw [HO.out]; rfl, O2⟩
        · cases b1 <;> cases b2
          all_goals
            go_wp2_with fail
            refine hu.out.mono ?_
            rintro e w2 ⟨rfl, O2⟩
            replace O2 := O.call O2
            go_wp2_with fail
            refine (HP14.out w2).mono ?_
            rintro e w3 ⟨rfl, hw⟩
            obtain rfl : w2 = w3 := hw.symm
            go_wp2_with fail
            refine (HP15.out w2).mono ?_
            rintro e w3 ⟨rfl, hw⟩
            obtain rfl : w2 = w3 := hw.symm
            go_wp2_with fail
            go_ret
            exact ⟨by rw [HO.out]; rfl, O2⟩
end Go.Proofs.YtnadjlejlohgiaaGreatDoor.Wi

/- The specification adds to bytes what a token tells that leads back. Conditions: a row of bytes, sizes. -/
namespace Go.Proofs.YtnadjlejlohgiaaGreatDoor.Wi
open Go.RowKit Go.Proofs.YtnadjlejlohgiaaGreatDoor.Mem Go.Proofs.YtnadjlejlohgiaaGreatDoor.Bt Go.Proofs.YtnadjlejlohgiaaGreatDoor.Lz
set_option linter.unusedVariables false
set_option linter.unusedSimpArgs false
set_option maxRecDepth 100000 in
set_option maxHeartbeats 2000000 in
theorem sadd_calls (r cap n L B : Nat) (l : List Nat) (w : World) (hb : By w r cap l) (hn : l.length = n) (hn2 : n ≤ 1000) (hL : 1 ≤ L) (hL2 : L ≤ 100000) (hB2 : B ≤ 100000) :
    Calls Tryz.prog 185 #[.slice (some ⟨r, 0, none⟩) n cap, .agg #[.int .i64 0, .int .i64 (L : Int), .int .i64 (B : Int)]] w fun e w' =>
      (backOk n L B ∧ ∃ r' cap', e = .returned (.tuple #[.slice (some ⟨r', 0, none⟩) (n + L) cap', .bool true]) ∧ By w' r' cap' (copy l B L) ∧ Mb r w r' w') ∨
      (¬ backOk n L B ∧ e = .returned (.tuple #[.slice (some ⟨r, 0, none⟩) n cap, .bool false]) ∧ On w w') := by
  have HN := Lib.hid hn
  clear hn
  have hL0 : ((L : Int) == 0) = false := by simp; omega
  have BA := Blk.new w 117 #[.int .i64 0, .int .i64 (L : Int), .int .i64 (B : Int)]
  have OA := (On.refl w).alloc (.cells #[.int .i64 0, .int .i64 (L : Int), .int .i64 (B : Int)] 117)
  have hrl := hb.lt
  by_cases h1 : 3 ≤ L ∧ L ≤ 60
  · by_cases h2 : 1 ≤ B ∧ B ≤ 250
    · by_cases h3 : B ≤ n
      · have h3' : ¬ (n : Int) < (B : Int) := by omega
        have h3'' : decide ((n : Int) < (B : Int)) = false := by simp; omega
        have h3n : decide (n < B) = false := by simp; omega
        have hok : backOk n L B := by unfold backOk; omega
        go_enter Tryz.func185, Tryz.ntmps185
        go_wp2_with fail
        refine (sin_yes _ (by omega) (by omega)).mono ?_
        rintro e w2 ⟨rfl, hw⟩
        obtain rfl : _ = w2 := hw.symm
        go_wp2_with fail
        refine (sin_yes _ (by omega) (by omega)).mono ?_
        rintro e w2 ⟨rfl, hw⟩
        obtain rfl : _ = w2 := hw.symm
        have hz : w.heap.size ≠ r := by omega
        have hb1 := hb.on OA
        have hml : ∀ k, (copy l B k).length = n + k := fun k => by rw [copy_length, HN.out]
        have HML := Lib.hid hml
        have c1 : (w.alloc (.cells #[.int .i64 0, .int .i64 (L : Int), .int .i64 (B : Int)] 117)).cell? ⟨w.heap.size, 1, none⟩ = some (.int .i64 (L : Int)) := (BA.cell 1).trans rfl
        have c2 : (w.alloc (.cells #[.int .i64 0, .int .i64 (L : Int), .int .i64 (B : Int)] 117)).cell? ⟨w.heap.size, 2, none⟩ = some (.int .i64 (B : Int)) := (BA.cell 2).trans rfl
        have hbs := BA.lt
        have HOK := Lib.hid hok
        clear hml hok
        generalize w.heap.size = tb at *
        generalize w.alloc (.cells #[.int .i64 0, .int .i64 (L : Int), .int .i64 (B : Int)] 117) = w1 at *
        go_wp2_with fail
        go_loopw [0, 6] (fun o x wr => ∃ (k r' cap' : Nat), x = .int .i64 (k : Int) ∧ k ≤ L ∧ o = .slice (some ⟨r', 0, none⟩) (n + k) cap' ∧ By wr r' cap' (copy l B k) ∧ Mb r w1 r' wr) (fun _ x _ => L - (intOf x).toNat)
        case atStart => exact ⟨0, r, cap, rfl, by omega, rfl, hb1, Mb.refl _ _⟩
        case round =>
          obtain ⟨k, r', cap', rfl, hk, rfl, hB, M⟩ := hrel
          have BT := M.kp.blk BA (by simp; exact hz)
          have d1 : wr.cell? ⟨tb, 1, none⟩ = some (.int .i64 (L : Int)) := (BT.cell 1).trans rfl
          by_cases hlt : k < L
          · have hlen := HML.out k
            have hr' : tb ≠ r' := by rcases M.at_ with e | e <;> omega
            have d2 : wr.cell? ⟨tb, 2, none⟩ = some (.int .i64 (B : Int)) := (BT.cell 2).trans rfl
            have hbk := HOK.out
            unfold backOk at hbk
            have hi : n + k - B < (copy l B k).length := by rw [hlen]; omega
            have hcell := hB.cell hi
            have hst : copy l B (k + 1) = copy l B k ++ [(copy l B k).getD (n + k - B) 0] := by rw [copy, hlen]
            have hby : Bytes wr r' (.slice (some ⟨r', 0, none⟩) (n + k) cap') (copy l B k) := by have := hB.out; rw [hlen] at this; exact this
            have HST := Lib.hid hst
            have HLEN := Lib.hid hlen
            have hk2 : (k : Int) < L := by omega
            clear hst hlen hi hbk
            generalize copy l B k = lk at *
            generalize lk.getD (n + k - B) 0 = x at *
            obtain ⟨m, hm⟩ : ∃ m, n + k = m := ⟨_, rfl⟩
            have e1 : IntKind.i64.wrap ((m : Int) - (B : Int)) = ((m - B : Nat) : Int) := by have := HOK.out; unfold backOk at this; rw [IntKind.wrap_i64]; omega
            have e2 : ((m - B : Nat) : Int) < m := by have := HOK.out; unfold backOk at this; omega
            rw [hm] at hcell hby ⊢
            have HM := Lib.hid hm
            have hmle : m ≤ 101000 := by omega
            clear hm
            generalize m - B = mb at *
            go_wp2_with (at_builtin; go_must (refine wpList_byte (x := x) rfl _ _ rfl rfl hby rfl (by rw [HLEN.out, HM.out]; omega) ?_); intro r2 cap2 w2 hby2 hr2 hrl2 K2 hc1 hc2)
            go_roundw
            case rel =>
              refine ⟨k + 1, r2, cap2, by go_num, by omega, ?_, ?_, ?_⟩
              · rw [HLEN.out]; rfl
              · rw [HST.out]
                refine ⟨?_⟩
                rw [List.length_append]
                exact hby2
              · exact M.trans ⟨K2, hr2⟩
            case measure => simp [intOf]; omega
          · obtain rfl : k = L := by omega
            go_wp2_with fail
            go_ret2
            refine .inl ⟨HOK.out, r', cap', rfl, hB, ?_⟩
            refine ⟨(Kp.of [r] OA).then M.kp, ?_⟩
            have := OA.size
            rcases M.at_ with e | e <;> omega
      · have h3' : (n : Int) < (B : Int) := by omega
        go_enter Tryz.func185, Tryz.ntmps185
        go_wp2_with fail
        refine (sin_yes _ (by omega) (by omega)).mono ?_
        rintro e w2 ⟨rfl, hw⟩
        obtain rfl : _ = w2 := hw.symm
        go_wp2_with fail
        refine (sin_yes _ (by omega) (by omega)).mono ?_
        rintro e w2 ⟨rfl, hw⟩
        obtain rfl : _ = w2 := hw.symm
        go_wp2_with fail
        go_ret2
        exact .inr ⟨fun h => by unfold backOk at h; omega, rfl, OA⟩
    · go_enter Tryz.func185, Tryz.ntmps185
      go_wp2_with fail
      refine (sin_yes _ (by omega) (by omega)).mono ?_
      rintro e w2 ⟨rfl, hw⟩
      obtain rfl : _ = w2 := hw.symm
      go_wp2_with fail
      refine (sin_no _ (by omega)).mono ?_
      rintro e w2 ⟨rfl, hw⟩
      obtain rfl : _ = w2 := hw.symm
      go_wp2_with fail
      go_ret2
      exact .inr ⟨fun h => by unfold backOk at h; omega, rfl, OA⟩
  · go_enter Tryz.func185, Tryz.ntmps185
    go_wp2_with fail
    refine (sin_no _ (by omega)).mono ?_
    rintro e w2 ⟨rfl, hw⟩
    obtain rfl : _ = w2 := hw.symm
    go_wp2_with fail
    go_ret2
    exact .inr ⟨fun h => by unfold backOk at h; omega, rfl, OA⟩
end Go.Proofs.YtnadjlejlohgiaaGreatDoor.Wi

