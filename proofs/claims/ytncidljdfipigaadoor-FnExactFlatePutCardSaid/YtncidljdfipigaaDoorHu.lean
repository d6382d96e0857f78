/- Lengths that are kept short, as the program makes them: LensOf, trimmed. Conditions: numbers, sizes, not too many symbols. -/
import Derived.Test.YtncidljdfipigaaDoorHk
import Derived.Test.YtncidljdfipigaaDoorWn
import Derived.Test.YtncidljdfipigaaDoorEn2
namespace Go.Proofs.YtncidljdfipigaaDoor.Wi
open Go.RowKit Go.Proofs.YtncidljdfipigaaDoor.Mem Go.Proofs.YtncidljdfipigaaDoor.Hf
set_option linter.unusedVariables false
set_option linter.unusedSimpArgs false
open Go.Proofs.YtncidljdfipigaaDoor.Cd in
theorem used_take {c : List Nat} {k : Nat} (h : k < c.length) : used (c.take (k + 1)) = used (c.take k) + if 0 < c.getD k 0 then 1 else 0 := by
  rw [List.take_succ_eq_append_getElem h, En.used_append, List.getD_eq_getElem?_getD, List.getElem?_eq_getElem h]
  by_cases h0 : 0 < c[k]
  · rw [show (some c[k]).getD 0 = c[k] from rfl, if_pos h0]; unfold used; rw [List.filter_cons, if_pos (by simpa using h0)]; rfl
  · rw [show (some c[k]).getD 0 = c[k] from rfl, if_neg h0]; unfold used; rw [List.filter_cons, if_neg (by simpa using h0)]; rfl
theorem i64s_take (c : List Nat) (k : Nat) : i64s (c.take k) = (i64s c).take k := by unfold i64s; rw [List.map_take]
set_option maxRecDepth 100000 in
set_option maxHeartbeats 1000000 in
open Go.Proofs.YtncidljdfipigaaDoor.Cd in
theorem ilensof_calls (counts : List Nat) (g o n cap most : Nat) (w : World) (hR : RowO w g o 3 (i64s counts)) (hn : counts.length = n) (hn2 : n ≤ 300) (hnc : n ≤ cap) (hx : ∀ x ∈ counts, x ≤ 100000)
    (hm1 : 1 ≤ most) (hm2 : most ≤ 15) (hp : ∃ k, 0 < counts.getD k 0) (hl : n < fib (most + 3)) (hu1 : 1 ≤ used counts) (hu2 : used counts ≤ 2 ^ (most - 1)) :
    Calls Tryd.prog 65 #[.slice (some ⟨g, o, none⟩) n cap, .int .i64 (most : Int)] w (GivesI w (fit most counts)) := by
  have HN := Lib.hid hn
  have HP := Lib.hid hp
  have HL := Lib.hid hl
  have HX := Lib.hid hx
  have hn' : ¬ (300 : Int) < (n : Int) := by omega
  have hn'' : decide ((300 : Int) < (n : Int)) = false := by simpa using hn'
  have hm1' : (1 : Int) ≤ most := by omega
  have hm2' : (most : Int) ≤ 15 := by omega
  obtain ⟨i1, hi1, hj0, hj1, hj2⟩ := info_parts i64info
  clear hn hp hl hx
  go_enter Tryd.func65, Tryd.ntmps65
  go_wp2_with fail
  refine (within_yes w hm1' hm2').mono ?_
  rintro e w' ⟨rfl, rfl⟩
  go_wp2_with fail
  have NC := Own.new (base := w'.heap.size) w' 3 1 #[] 0 (Nat.zero_le _) rfl (Nat.le_refl _)
  have OC := (On.refl w').alloc (.cells #[] 3)
  have RC := hR.on OC
  go_loopw [5, 6, 26] (fun v m x wr => ∃ (k u : Nat), x = .int .i64 (k : Int) ∧ k ≤ n ∧ Own w'.heap.size wr 3 1 v k (i64s (counts.take k)) ∧ m = .int .i64 (u : Int) ∧ u ≤ k ∧ RowKit.Hid (u = used (counts.take k)) ∧ On w' wr) (fun _ _ x _ => n - (intOf x).toNat)
  case atStart => exact ⟨0, 0, rfl, by omega, NC, rfl, by omega, Lib.hid rfl, OC⟩
  case round =>
    obtain ⟨k, u, rfl, hk, hO, rfl, huk, HU, O⟩ := hrel
    by_cases hlt : k < n
    · have hkl : k < counts.length := by rw [HN.out]; exact hlt
      have c0 := (hR.on O).cell (i64s_get hkl)
      have hx1 := Cd.getD_le HX.out k
      have HUT := Lib.hid (used_take hkl)
      have ht : i64s (counts.take (k + 1)) = i64s (counts.take k) ++ (#[Value.int .i64 (counts.getD k 0 : Nat)] : Array Value).toList := by
        rw [List.take_succ_eq_append_getElem hkl, i64s_append, List.getD_eq_getElem?_getD, List.getElem?_eq_getElem hkl]; rfl
      have HTK := Lib.hid ht
      generalize counts.getD k 0 = x at *
      have hk2 : (k : Int) < n := by omega
      have hx0 : (0 : Int) ≤ x := by omega
      have hx2 : (x : Int) ≤ 100000 := by omega
      have hO' := hO
      clear ht
      by_cases h0 : 0 < x
      case' pos =>
        have h0' : (0 : Int) < x := by omega
        have HU1 : RowKit.Hid (u + 1 = used (counts.take (k + 1))) := Lib.hid (by rw [HUT.out, if_pos h0, HU.out])
        obtain ⟨u1, hu1'⟩ : ∃ u1, u + 1 = u1 := ⟨_, rfl⟩
        have eu : (u : Int) + 1 = (u1 : Int) := by omega
        have hu1k : u1 ≤ k + 1 := by omega
        rw [hu1'] at HU1
        have HEU := Lib.hid eu
        clear h0 hu1' eu
      case' neg =>
        have h0' : ¬ (0 : Int) < x := by omega
        have HU1 : RowKit.Hid (u = used (counts.take (k + 1))) := Lib.hid (by rw [HUT.out, if_neg h0, Nat.add_zero, HU.out])
        obtain ⟨u1, hu1'⟩ : ∃ u1, u = u1 := ⟨_, rfl⟩
        have eu : (u : Int) = (u1 : Int) := by omega
        have hu1k : u1 ≤ k + 1 := by omega
        rw [hu1'] at HU1
        have HEU := Lib.hid eu
        clear h0 hu1' eu
      all_goals
        go_wp2_with fail
        refine (within_yes wr hx0 hx2).mono ?_
        rintro e w1 ⟨rfl, rfl⟩
        go_wp2_with (at_builtin; go_must (refine wpList_app rfl _ _ 58 rfl w' i1 (.int .i64 0) 8 1 Tryd.underlying58 hi1 hj0 hj1 hj2 rfl (by decide) rfl _ _ _ rfl hO O rfl (by simp [Value.oneCell']) (by unfold maxLen; omega) (by omega) ?_); intro v2 w2 hown2 O2 _)
        go_roundw
        case rel => exact ⟨k + 1, u1, by go_num, by omega, by rw [HTK.out]; exact hown2, by rw [← HEU.out], hu1k, HU1, O2⟩
        case measure => simp [intOf]; omega
    · obtain rfl : k = n := by omega
      have e0 : counts.take k = counts := List.take_of_length_le (by rw [HN.out]; exact Nat.le_refl _)
      rw [e0] at hO HU
      obtain ⟨r1, cap1, hv1, N1, hb1, hr1⟩ := own_nums hO HN.out
      subst hv1
      have hc1 := N1.row.2.2.1
      rw [← HU.out] at hu1 hu2
      have hu1' : (1 : Int) ≤ u := by omega
      obtain ⟨q, hq⟩ : ∃ q, most - 1 = q := ⟨_, rfl⟩
      rw [hq] at hu2
      have eq1 : (most : Int) - 1 = (q : Int) := by omega
      have hq64 : (q : Int) < 64 := by omega
      have hq0 : (0 : Int) ≤ q := by omega
      have hp16 : 2 ^ q ≤ 2 ^ 16 := Nat.pow_le_pow_right (by omega) (by omega)
      have h3 : IntKind.i64.wrap ((2 : Int) ^ q) = ((2 ^ q : Nat) : Int) := by
        rw [show (2 : Int) ^ q = ((2 ^ q : Nat) : Int) from by simp, IntKind.wrap_i64]; omega
      generalize 2 ^ q = P at *
      have hu2' : (u : Int) ≤ P := by omega
      clear e0 hq
      have kk' : ¬ (k : Int) < (k : Int) := by omega
      go_wp2_with fail
      refine (within_yes wr hu1' hu2').mono ?_
      rintro e w1 ⟨rfl, rfl⟩
      go_wp2_with fail
      go_loopw [9] (fun v w2 => ∃ (c : List Nat), Nums w2 r1 (.slice (some ⟨r1, 0, none⟩) k cap1) c ∧ RowKit.Hid (fit most c = fit most counts) ∧ RowKit.Hid (c.length = k) ∧ RowKit.Hid (∀ x ∈ c, x ≤ 100000) ∧ RowKit.Hid (∃ k, 0 < c.getD k 0) ∧ Kp [r1] w1 w2) (fun _ w2 => rowSum w2 r1 k)
      case atStart => exact ⟨counts, N1, Lib.hid rfl, HN, HX, HP, Kp.refl _ _⟩
      case round =>
        obtain ⟨c, N3, HF, HC, HXc, HPc, K⟩ := hrel
        have hsm := lensOf_small HPc.out HXc.out (by rw [HC.out]; exact hn2)
        have HSM := Lib.hid hsm
        have hfs := Lib.hid (fit_step hm1 HPc.out (show c.length < fib (most + 3) by rw [HC.out]; exact HL.out))
        have hid := Lib.hid (idepths_calls c r1 0 k cap1 wr N3.row.1.toO HC.out hn2 hc1 HXc.out)
        clear hsm
        go_wp2_with fail
        refine hid.out.mono ?_
        rintro e w3 ⟨r2, cap2, rfl, N2, hb2, hr2, O2⟩
        have hl2 : (lensOf c).length = k := (lensOf_length c).trans HC.out
        rw [hl2] at N2 ⊢
        have HL2 := Lib.hid hl2
        clear hl2 hid
        go_wp2_with fail
        go_loopw [10, 54] (fun a x w4 => ∃ (j t : Nat), x = .int .i64 (j : Int) ∧ j ≤ k ∧ a = .int .i64 (t : Int) ∧ RowKit.Hid (t = topTo (lensOf c) j) ∧ w4 = w3) (fun _ x _ => k - (intOf x).toNat)
        case atStart => exact ⟨0, 0, rfl, by omega, rfl, Lib.hid rfl, rfl⟩
        case round =>
          obtain ⟨j, t, rfl, hj, rfl, HT, rfl⟩ := hrel
          by_cases hjk : j < k
          · have hjl : j < (lensOf c).length := by rw [HL2.out]; exact hjk
            have d0 := N2.row.1.cell (i64s_get hjl)
            have HTS := Lib.hid (show topTo (lensOf c) (j + 1) = max t ((lensOf c).getD j 0) from by rw [topTo, HT.out])
            have hy := Cd.getD_le HSM.out j
            generalize (lensOf c).getD j 0 = y at *
            have hjk' : (j : Int) < k := by omega
            by_cases h0 : t < y
            · have h0' : (t : Int) < y := by omega
              go_wp2_with fail
              go_roundw
              case rel => exact ⟨j + 1, y, by go_num, by omega, rfl, Lib.hid (by rw [HTS.out]; omega), trivial⟩
              case measure => simp [intOf]; omega
            · have h0' : ¬ (t : Int) < y := by omega
              go_wp2_with fail
              go_roundw
              case rel => exact ⟨j + 1, t, by go_num, by omega, rfl, Lib.hid (by rw [HTS.out]; omega), trivial⟩
              case measure => simp [intOf]; omega
          · have hjk2 : j = k := by omega
            have hjk' : ¬ (j : Int) < (k : Int) := by omega
            have HTP : RowKit.Hid (top (lensOf c) = t) := Lib.hid (by unfold top; rw [HL2.out, HT.out, hjk2])
            clear hjk2
            by_cases ht : t ≤ most
            · have ht' : (t : Int) ≤ (most : Int) := by omega
              have hres : fit most counts = lensOf c := by rw [← HF.out, hfs.out, if_pos (by rw [HTP.out]; exact ht)]
              have HR := Lib.hid hres
              clear hres
              go_wp2_with fail
              go_ret
              exact ⟨r2, cap2, by rw [HR.out, HL2.out]; rfl, by rw [HR.out, HL2.out]; exact N2, by have := O.size; have := K.size; omega, hr2, (K.then (Kp.of _ O2)).on O (fun x hx => by simp at hx; omega)⟩
            · have ht' : ¬ (t : Int) ≤ (most : Int) := by omega
              have N5 := N3.on O2
              go_wp2_with fail
              go_loopw [68] (fun x w4 => ∃ (i : Nat), x = .int .i64 (i : Int) ∧ i ≤ k ∧ Nums w4 r1 (.slice (some ⟨r1, 0, none⟩) k cap1) (halfTo c i) ∧ Kp [r1] wr w4) (fun x _ => k - (intOf x).toNat)
              case atStart => exact ⟨0, rfl, by omega, by unfold halfTo; rw [List.take_zero, List.nil_append, List.drop_zero]; exact N5, Kp.refl _ _⟩
              case round =>
                obtain ⟨i, rfl, hi, N6, K6⟩ := hrel
                by_cases hik : i < k
                · have hil : i < c.length := by rw [HC.out]; exact hik
                  have hik' : (i : Int) < (k : Int) := by omega
                  have c0 := N6.row.1.cell (i64s_get (show i < (halfTo c i).length by rw [halfTo_length (Nat.le_of_lt hil)]; exact hil))
                  rw [halfTo_get hil] at c0
                  have hs := halfTo_set hil
                  have hxk : c.getD i 0 ≤ 100000 := Cd.getD_le HXc.out i
                  have HS := Lib.hid hs
                  have fe : ∀ j, wr.frozen? ⟨r1, j, none⟩ = false := N6.row.1.frozen
                  clear hs
                  generalize c.getD i 0 = x at *
                  have e1 : ((x : Int) + 1) / 2 = (((x + 1) / 2 : Nat) : Int) := by omega
                  have NS := N6.set i ((x + 1) / 2)
                  rw [HS.out] at NS
                  have KS := K6.set (p := ⟨r1, i, none⟩) (.inl (by simp)) (.int .i64 (((x + 1) / 2 : Nat) : Int))
                  rw [← e1] at NS KS
                  clear e1
                  go_wp2_with fail
                  go_roundw
                  case rel => exact ⟨i + 1, by go_num, by omega, NS, KS⟩
                  case measure => simp [intOf]; omega
                · have hik2 : i = k := by omega
                  have hik' : ¬ (i : Int) < (k : Int) := by omega
                  have hh : halfTo c i = halve c := by rw [hik2, ← HC.out]; exact halfTo_all c
                  rw [hh] at N6
                  have hlh : (halve c).length = k := (halve_length c).trans HC.out
                  have HLH := Lib.hid hlh
                  clear hh hlh hik2
                  have Kt := (K.then (Kp.of _ O2)).then K6
                  have hm := rowSum_of N6.row.1 HLH.out
                  have hm0 := rowSum_of N3.row.1 HC.out
                  have hsl := halve_less hm1 HPc.out (show c.length < fib (most + 3) by rw [HC.out]; exact HL.out) (by rw [HTP.out]; omega)
                  have HM := Lib.hid hm
                  have HM0 := Lib.hid hm0
                  have HSL := Lib.hid hsl
                  clear hm hm0 hsl
                  go_wp2_with fail
                  go_roundw
                  case rel => exact ⟨halve c, N6, Lib.hid (by rw [← HF.out, hfs.out, if_neg (by rw [HTP.out]; exact ht)]), HLH, Lib.hid (halve_le HXc.out), Lib.hid (halve_pos HPc.out), Kt⟩
                  case measure => rw [HM.out, HM0.out]; exact HSL.out
open Go.Proofs.YtncidljdfipigaaDoor.En in
set_option maxRecDepth 100000 in
theorem itrim_calls (lens : List Nat) (g n cap least : Nat) (w : World) (hR : RowO w g 0 3 (i64s lens)) (hn : lens.length = n) (hn2 : n ≤ 1000) (hnc : n ≤ cap) (hl : least ≤ 1000) :
    Calls Tryd.prog 64 #[.slice (some ⟨g, 0, none⟩) n cap, .int .i64 (least : Int)] w fun e w' => e = .returned (.slice (some ⟨g, 0, none⟩) (trimTo lens least n) cap) ∧ w' = w := by
  have HN := Lib.hid hn
  clear hn
  go_enter Tryd.func64, Tryd.ntmps64
  go_wp2_with fail
  go_loop [5] (fun x => ∃ (k : Nat), x = .int .i64 (k : Int) ∧ k ≤ n ∧ RowKit.Hid (trimTo lens least k = trimTo lens least n)) (fun x => (intOf x).toNat)
  case atStart => exact ⟨n, rfl, Nat.le_refl _, Lib.hid rfl⟩
  case round =>
    obtain ⟨k, rfl, hk, HT⟩ := hrel
    by_cases h1 : least < k
    · obtain ⟨j, rfl⟩ : ∃ j, k = j + 1 := ⟨k - 1, by omega⟩
      have h1' : decide ((least : Int) < ((j + 1 : Nat) : Int)) = true := by simp; omega
      have c0 := hR.cell (i64s_get (show j < lens.length by rw [HN.out]; omega))
      rw [Nat.zero_add] at c0
      have hj : (j : Int) < n := by omega
      have e1 : ((j + 1 : Nat) : Int) - 1 = (j : Int) := by omega
      have hstep := Lib.hid (show trimTo lens least (j + 1) = if least < j + 1 ∧ lens.getD j 0 = 0 then trimTo lens least j else j + 1 from rfl)
      generalize lens.getD j 0 = x at *
      by_cases h0 : x = 0
      · have h0' : ((x : Int) == 0) = true := by simp; omega
        have HS : RowKit.Hid (trimTo lens least j = trimTo lens least n) := Lib.hid (by rw [← HT.out, hstep.out, if_pos ⟨h1, h0⟩])
        clear h0
        go_wp2_with fail
        go_round
        case rel => exact ⟨j, by go_num, by omega, HS⟩
        case measure => simp [intOf]
      · have h0' : ((x : Int) == 0) = false := by simpa using h0
        have HS : RowKit.Hid (j + 1 = trimTo lens least n) := Lib.hid (by rw [← HT.out, hstep.out, if_neg (fun h => h0 h.2)])
        clear h0
        go_wp2_with fail
        go_ret
        exact ⟨by rw [← HS.out]; rfl, rfl⟩
    · have h1' : decide ((least : Int) < (k : Int)) = false := by simp; omega
      have HS : RowKit.Hid (k = trimTo lens least n) := Lib.hid (by
        rw [← HT.out]
        cases k with
        | zero => rfl
        | succ j => rw [trimTo, if_neg (fun h => h1 h.1)])
      go_wp2_with fail
      go_ret
      exact ⟨by rw [← HS.out]; rfl, rfl⟩
end Go.Proofs.YtncidljdfipigaaDoor.Wi
