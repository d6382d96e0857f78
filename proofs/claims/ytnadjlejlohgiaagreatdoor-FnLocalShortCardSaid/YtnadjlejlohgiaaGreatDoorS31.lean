/- Own texts joined: Hr. -/
import Derived.Test.YtnadjlejlohgiaaGreatDoorS30
/- Lengths written by a code of their own, as the specification does it. Conditions: lengths of two codes; sizes. -/
namespace Go.Proofs.YtnadjlejlohgiaaGreatDoor.Wi
open Go.RowKit Go.Proofs.YtnadjlejlohgiaaGreatDoor.Mem Go.Proofs.YtnadjlejlohgiaaGreatDoor.Bt Go.Proofs.YtnadjlejlohgiaaGreatDoor.Cd Go.Proofs.YtnadjlejlohgiaaGreatDoor.De Go.Proofs.YtnadjlejlohgiaaGreatDoor.En Go.Proofs.YtnadjlejlohgiaaGreatDoor.Lz Go.Proofs.YtnadjlejlohgiaaGreatDoor.Hf
set_option linter.unusedVariables false
set_option linter.unusedSimpArgs false
theorem order_lt' : ∀ i, i < 19 → order.getD i 0 < 19 := by decide
theorem sord_calls (w : World) : Calls Tryz.prog 172 #[] w fun e w' => ∃ r, e = .returned (.slice (some ⟨r, 0, none⟩) 19 19) ∧ RowO w' r 0 3 (i64s order) ∧ w.heap.size ≤ r ∧ On w w' := by
  go_enter Tryz.func172, Tryz.ntmps172
  go_wp2_with fail
  go_ret
  exact ⟨w.heap.size, rfl, (Row.of (Blk.new w 3 _)).toO, Nat.le_refl _, (On.refl w).alloc _⟩
set_option maxRecDepth 100000 in
set_option maxHeartbeats 1000000 in
theorem sputlens_calls (g r gl nl cl gd nd cd : Nat) (bs : List Bool) (lit dist : List Nat) (w : World) (hw : SW w g r bs) (hr : r < w.heap.size) (hb : bs.length ≤ 1000) (hl : RowO w gl 0 3 (i64s lit)) (hd : RowO w gd 0 3 (i64s dist))
    (hnl : lit.length = nl) (hnd : dist.length = nd) (l1 : 257 ≤ nl) (l2 : nl ≤ 286) (d1 : 1 ≤ nd) (d2 : nd ≤ 30) (hnlc : nl ≤ cl) (hndc : nd ≤ cd) (l15 : ∀ x ∈ lit, x ≤ 15) (d15 : ∀ x ∈ dist, x ≤ 15) :
    Calls Tryz.prog 151 #[.pointer (some ⟨g, 0, none⟩), .slice (some ⟨gl, 0, none⟩) nl cl, .slice (some ⟨gd, 0, none⟩) nd cd] w fun e w' => ∃ r', e = .returned (.tuple #[]) ∧ SW w' g r' (bs ++ headBits lit dist) ∧ Mv g r w r' w' := by
  obtain ⟨N, hN⟩ : ∃ N, nl + nd = N := ⟨_, rfl⟩
  obtain ⟨all, hall⟩ : ∃ all, lit ++ dist = all := ⟨_, rfl⟩
  have hal : all.length = N := by rw [← hall, List.length_append]; omega
  have ha15 : ∀ x ∈ all, x ≤ 15 := by
    intro x hx
    rw [← hall] at hx
    rcases List.mem_append.1 hx with h | h
    · exact l15 x h
    · exact d15 x h
  have hane : all ≠ [] := by intro e; rw [e] at hal; simp at hal; omega
  have hM := ownMeta_ok ha15 hane
  have hMp := meta_pos ha15 hane
  have hgl := hw.glt
  have HW := Lib.hid hw
  have HN := Lib.hid hN
  have HALL := Lib.hid hall
  have HAL := Lib.hid hal
  have HA15 := Lib.hid ha15
  have HM := Lib.hid hM
  have HMP := Lib.hid hMp
  have HNL := Lib.hid hnl
  have HND := Lib.hid hnd
  have hN3 : N ≤ 316 := by omega
  have hN0 : 258 ≤ N := by omega
  obtain ⟨na, hna⟩ : ∃ na, nl - 257 = na := ⟨_, rfl⟩
  obtain ⟨nb, hnb⟩ : ∃ nb, nd - 1 = nb := ⟨_, rfl⟩
  have ea : (nl : Int) - 257 = (na : Int) := by omega
  have eb : (nd : Int) - 1 = (nb : Int) := by omega
  have hna2 : na ≤ 29 := by omega
  have hnb2 : nb ≤ 29 := by omega
  have HNA := Lib.hid hna
  have HNB := Lib.hid hnb
  have HEA := Lib.hid ea
  have HEB := Lib.hid eb
  have hq0 : 0 + nl = nl := Nat.zero_add nl
  have HQ0 := Lib.hid hq0
  clear hw hN hall hal ha15 hM hMp hnl hnd hane l15 d15 hna hnb ea eb hq0
  have NE := Own.new (base := w.heap.size) w 3 1 #[] 0 (Nat.zero_le _) rfl (Nat.le_refl _)
  have OE := (On.refl w).alloc (.cells #[] 3)
  have REl := hl.on OE
  go_enter Tryz.func151, Tryz.ntmps151
  go_upto_region 1 with (at_builtin; first | ((refine wpList_adds rfl _ _ rfl w (xs := []) (l := lit) (q := nl) rfl NE OE rfl REl HNL.out HQ0.out (by omega) ?_); intro v1 w1 hown1 O1 _; rw [List.nil_append] at hown1; have REd := hd.on O1) | ((refine wpList_adds rfl _ _ rfl w (xs := lit) (l := dist) (q := N) rfl hown1 O1 rfl REd HND.out HN.out (by omega) ?_); intro v2 w2 hown2 O2 _))
  rw [HALL.out] at hown2
  obtain ⟨A, cA, rfl, NA, hA, hAl⟩ := own_nums hown2 HAL.out
  have hcA := NA.row.2.2.1
  clear NE OE REl hown1 O1 REd hown2
  go_upto_region 2 with (at_make; go_must (refine wpList_ints _ rfl _ _ rfl _ _ 19 rfl rfl rfl rfl (by omega) ?_); intro w3 N3 O3 hlt3)
  obtain ⟨C, hC⟩ : ∃ C, w2.heap.size = C := ⟨_, rfl⟩
  rw [hC] at N3 hlt3 ⊢
  have hz2 := O2.size
  have O23 := O2.call O3
  have NA3 := NA.on O3
  clear NA
  go_wp2_with fail
  go_loopw [8] (fun x wr => ∃ (k : Nat), x = .int .i64 (k : Int) ∧ k ≤ N ∧ Nums wr C (.slice (some ⟨C, 0, none⟩) 19 19) (bump (List.replicate 19 0) (all.take k)) ∧ Kp [C] w3 wr) (fun x _ => N - (intOf x).toNat)
  case atStart => exact ⟨0, rfl, by omega, by rw [List.take_zero]; exact N3, Kp.refl _ _⟩
  case round =>
    obtain ⟨k, rfl, hk, NC, K⟩ := hrel
    clear N3
    by_cases hlt : k < N
    · have hkl : k < all.length := by rw [HAL.out]; exact hlt
      have c0 := (K.row NA3.row.1 (by simp; omega)).cell (i64s_get hkl)
      have hx15 := Cd.getD_le HA15.out k
      have hst := cntM_succ hkl
      generalize all.getD k 0 = x at *
      have hln : (bump (List.replicate 19 0) (all.take k)).length = 19 := by rw [bump_length, List.length_replicate]
      have d0 := NC.row.1.cell (i64s_get (show x < (bump (List.replicate 19 0) (all.take k)).length by rw [hln]; omega))
      have hv := Cd.getD_le (cntM_le all k) x
      generalize (bump (List.replicate 19 0) (all.take k)).getD x 0 = v at *
      have fC : ∀ i, wr.frozen? ⟨C, i, none⟩ = false := NC.row.1.frozen
      have e1 : IntKind.i64.wrap ((v : Int) + 1) = ((v + 1 : Nat) : Int) := by rw [IntKind.wrap_i64]; omega
      have HST := Lib.hid hst
      have hx19 : (x : Int) < 19 := by omega
      have hx0 : (0 : Int) ≤ (x : Int) := by omega
      have hkN : (k : Int) < (N : Int) := by omega
      clear hst hln
      go_wp2_with fail
      go_region
      go_wp2_with fail
      go_roundw
      case rel =>
        have D := (On.refl wr).drew
        have S := (NC.on D).set x (v + 1)
        rw [← HST.out] at S
        exact ⟨k + 1, by go_num, by omega, S, K.drew.set (.inl (by simp)) _⟩
      case measure => simp [intOf]; omega
    · obtain rfl : k = N := by omega
      have e0 : all.take k = all := List.take_of_length_le (by rw [HAL.out]; exact Nat.le_refl _)
      rw [e0] at NC
      have hln : (bump (List.replicate 19 0) all).length = 19 := by rw [bump_length, List.length_replicate]
      have hle : ∀ x ∈ bump (List.replicate 19 0) all, x ≤ 100000 := fun x hx => by
        have := cntM_le all k
        rw [e0] at this
        have := this x hx
        omega
      have hfc := Lib.hid (sfit_calls (bump (List.replicate 19 0) all) C 0 19 19 7 wr NC.row.1.toO hln (by omega) (Nat.le_refl _) hle (by omega) (by omega) HMP.out (by rw [show 7 + 3 = 10 from rfl, fib10]; omega))
      clear hln hle e0
      go_wp2_with fail
      refine hfc.out.mono ?_
      rintro e w4 ⟨rM, cM, rfl, NM, hM1, hM2, O4⟩
      have em : fit 7 (bump (List.replicate 19 0) all) = ownMeta all := rfl
      rw [em] at NM ⊢
      rw [HM.out.len] at NM ⊢
      have hcM := NM.row.2.2.1
      have HM2 : RowKit.Hid (Meta all (ownMeta all)) := HM
      obtain ⟨m, hm⟩ : ∃ m, ownMeta all = m := ⟨_, rfl⟩
      rw [hm] at NM HM2
      have HMM := Lib.hid hm
      clear em hm hfc HM
      go_wp2_with fail
      refine (scodes_calls m rM 0 19 cM w4 NM.row.1.toO HM2.out.len (by omega) hcM).mono ?_
      rintro e w5 ⟨rK, cK, rfl, NK, hK1, hK2, O5⟩
      rw [codes_length, HM2.out.len] at NK ⊢
      have hcK := NK.row.2.2.1
      have O45 := O4.call O5
      have O5t : On w w5 := (K.on O23 (fun x hx => by simp at hx; omega)).call O45
      have RM : RowO w5 rM 0 3 (i64s m) := (NM.on O5).row.1.toO
      have RK : RowO w5 rK 0 3 (i64s (codes m)) := NK.row.1.toO
      have RA : RowO w5 A 0 3 (i64s all) := ((K.row NA3.row.1 (by simp; omega)).on O45).toO
      have hzk := K.size
      have hz4 := O4.size
      have hz3 := O3.size
      have FM : RowKit.Hid (rM ∉ [g, r]) := Lib.hid (not_in (by omega) (by omega))
      have FK : RowKit.Hid (rK ∉ [g, r]) := Lib.hid (not_in (by omega) (by omega))
      have FA : RowKit.Hid (A ∉ [g, r]) := Lib.hid (not_in (by omega) (by omega))
      have hw5 := HW.out.on O5t
      have hp1 := Lib.hid (sput_calls g r bs na 5 w5 hw5 (by omega) (by omega) (by omega))
      have ea := HEA.out
      clear hw5 NM NK NC NA3
      go_wp2_with fail
      refine hp1.out.mono ?_
      rintro e w6 ⟨r6, rfl, hw6, M6⟩
      have hp2 := Lib.hid (sput_calls g r6 _ nb 5 w6 hw6 (by omega) (by rw [List.length_append, bits_length]; omega) (by omega))
      have eb := HEB.out
      clear hw6 hp1 ea
      go_wp2_with fail
      refine hp2.out.mono ?_
      rintro e w7 ⟨r7, rfl, hw7, M7⟩
      have hp3 := Lib.hid (sput_calls g r7 _ 15 4 w7 hw7 (by omega) (by rw [List.length_append, List.length_append, bits_length, bits_length]; omega) (by omega))
      clear hw7 hp2 eb
      go_wp2_with fail
      refine hp3.out.mono ?_
      rintro e w8 ⟨r8, rfl, hw8, M8⟩
      have M58 := (M6.trans M7).trans M8
      obtain ⟨b3, hb3⟩ : ∃ b3, bs ++ bitsOf na 5 ++ bitsOf nb 5 ++ bitsOf 15 4 = b3 := ⟨_, rfl⟩
      have hl3 : b3.length = bs.length + 14 := by rw [← hb3]; simp only [List.length_append, bits_length]
      rw [hb3] at hw8
      have HB3 := Lib.hid hb3
      have HL3 := Lib.hid hl3
      have HW8 := Lib.hid hw8
      clear hb3 hl3 hw8 hp3 M6 M7 M8
      have hr5 : r < w5.heap.size := Nat.lt_of_lt_of_le hr O5t.size
      go_wp2_with fail
      go_loopw [11] (fun x wr => ∃ (k r' : Nat), x = .int .i64 (k : Int) ∧ k ≤ 19 ∧ SW wr g r' (b3 ++ (order.take k).flatMap fun j => bitsOf (m.getD j 0) 3) ∧ Mv g r w5 r' wr) (fun x _ => 19 - (intOf x).toNat)
      case atStart => exact ⟨0, r8, rfl, by omega, by rw [List.take_zero]; simpa using HW8.out, M58⟩
      case round =>
        obtain ⟨k2, r9, rfl, hk2, hw9, M9⟩ := hrel
        clear M58
        by_cases hlt2 : k2 < 19
        · have hko : k2 < order.length := hlt2
          have hk2' : (k2 : Int) < 19 := by omega
          have hco := fun W r3 (R : RowO W r3 0 3 (i64s order)) => R.cell (i64s_get hko)
          have hol := order_lt' k2 hlt2
          have hfs := flat_succ (fun j => bitsOf (m.getD j 0) 3) hko
          generalize hx : order.getD k2 0 = o at *
          have hcm := fun W (R : RowO W rM 0 3 (i64s m)) => R.cell (i64s_get (show o < m.length by rw [HM2.out.len]; exact hol))
          have hx7 := Cd.getD_le HM2.out.le o
          have hfl : ((order.take k2).flatMap fun j => bitsOf (m.getD j 0) 3).length ≤ 19 * 3 := by
            have := flat_len (order.take k2) (fun j => bitsOf (m.getD j 0) 3) (m := 3) (fun x => by rw [bits_length]; exact Nat.le_refl _)
            rw [List.length_take] at this
            have h2 : min k2 order.length * 3 ≤ 19 * 3 := Nat.mul_le_mul_right _ (Nat.le_trans (Nat.min_le_left _ _) hk2)
            omega
          have hbl : (b3 ++ (order.take k2).flatMap fun j => bitsOf (m.getD j 0) 3).length ≤ 3000 := by
            rw [List.length_append, HL3.out]; omega
          have hfs2 : b3 ++ (order.take (k2 + 1)).flatMap (fun j => bitsOf (m.getD j 0) 3) = (b3 ++ (order.take k2).flatMap fun j => bitsOf (m.getD j 0) 3) ++ bitsOf (m.getD o 0) 3 := by rw [hfs, List.append_assoc]
          generalize (b3 ++ (order.take k2).flatMap fun j => bitsOf (m.getD j 0) 3) = bk at *
          generalize m.getD o 0 = y at *
          simp only [Nat.zero_add] at hco hcm
          have HCO := Lib.hid hco
          have HCM := Lib.hid hcm
          have HFS := Lib.hid hfs2
          have HW9 := Lib.hid hw9
          have ho0 : (0 : Int) ≤ (o : Int) := by omega
          have ho19 : (o : Int) < 19 := by omega
          clear hco hcm hfs hfs2 hx hfl hw9
          go_wp2_with fail
          refine (sord_calls wr).mono ?_
          rintro e w10 ⟨ro, rfl, Ro, hro, O10⟩
          have c0 := HCO.out w10 ro Ro
          have RM10 := ((RM.kp M9.kp FM.out).on O10)
          have c1 := HCM.out w10 RM10
          have hp := Lib.hid (sput_calls g r9 bk y 3 w10 (HW9.out.on O10) (by omega) (by omega) (by omega))
          go_wp2_with fail
          refine hp.out.mono ?_
          rintro e w11 ⟨r11, rfl, hw11, M11⟩
          go_wp2_with fail
          go_roundw
          case rel => exact ⟨k2 + 1, r11, by go_num, by omega, by rw [HFS.out]; exact hw11, M9.trans ((mv_on g r9 O10).trans M11)⟩
          case measure => simp [intOf]; omega
        · have hk19 : k2 = 19 := by omega
          have hk19' : ¬ (k2 : Int) < 19 := by omega
          have e0 : order.take k2 = order := by rw [hk19]; rfl
          rw [e0] at hw9
          clear hk19
          have hfl : (order.flatMap fun j => bitsOf (m.getD j 0) 3).length ≤ 19 * 3 := flat_len order _ (fun x => by rw [bits_length]; exact Nat.le_refl _)
          obtain ⟨b4, hb4⟩ : ∃ b4, b3 ++ (order.flatMap fun j => bitsOf (m.getD j 0) 3) = b4 := ⟨_, rfl⟩
          have hl4 : b4.length ≤ 2000 := by rw [← hb4, List.length_append, HL3.out]; omega
          rw [hb4] at hw9
          have HB4 := Lib.hid hb4
          have HW9 := Lib.hid hw9
          clear e0 hfl hb4 hw9
          go_wp2_with fail
          go_loopw [12] (fun x wr => ∃ (j r' : Nat), x = .int .i64 (j : Int) ∧ j ≤ k ∧ SW wr g r' (b4 ++ (all.take j).flatMap (enc m)) ∧ Mv g r w5 r' wr) (fun x _ => k - (intOf x).toNat)
          case atStart => exact ⟨0, r9, rfl, by omega, by rw [List.take_zero]; simpa using HW9.out, M9⟩
          case round =>
            obtain ⟨j, r12, rfl, hj, hw12, M12⟩ := hrel
            clear M9
            by_cases hltj : j < k
            · have hjl : j < all.length := by rw [HAL.out]; exact hltj
              have hj' : (j : Int) < (k : Int) := by omega
              have c0 := (RA.kp M12.kp FA.out).cell (i64s_get hjl)
              rw [Nat.zero_add] at c0
              have hfs := flat_succ (enc m) hjl
              have hmem : all.getD j 0 ∈ all := by rw [List.getD_eq_getElem?_getD, List.getElem?_eq_getElem hjl]; exact List.getElem_mem _
              have hx15 := HA15.out _ hmem
              have hpos := HM2.out.pos _ hmem
              generalize all.getD j 0 = s at *
              have hfl : ((all.take j).flatMap (enc m)).length ≤ 316 * 15 := by
                have := flat_len (all.take j) (enc m) (m := 15) (enc_length m (fun x hx => by have := HM2.out.le x hx; omega))
                rw [List.length_take] at this
                have h2 : min j all.length * 15 ≤ 316 * 15 := Nat.mul_le_mul_right _ (Nat.le_trans (Nat.min_le_left _ _) (by omega))
                omega
              have hbl : (b4 ++ (all.take j).flatMap (enc m)).length ≤ 10000 := by rw [List.length_append]; omega
              have hfs2 : b4 ++ (all.take (j + 1)).flatMap (enc m) = (b4 ++ (all.take j).flatMap (enc m)) ++ enc m s := by rw [hfs, List.append_assoc]
              generalize (b4 ++ (all.take j).flatMap (enc m)) = bk at *
              have HFS := Lib.hid hfs2
              have hsm : s < m.length := by rw [HM2.out.len]; omega
              have h7 : m.getD s 0 ≤ 15 := by have := Cd.getD_le HM2.out.le s; omega
              have hc := Lib.hid (sym_calls g r12 bk m rM 0 19 cM rK 19 cK s wr hw12 (by omega) (RM.kp M12.kp FM.out) (RK.kp M12.kp FK.out) HM2.out.len rfl hsm h7 (code_lt (ok_fits HM2.out.ok) hsm hpos h7))
              clear hmem hfs hfs2 hfl hw12 hpos hsm h7
              go_wp2_with fail
              refine hc.out.mono ?_
              rintro e w13 ⟨r13, rfl, hw13, M13⟩
              go_wp2_with fail
              go_roundw
              case rel => exact ⟨j + 1, r13, by go_num, by omega, by rw [HFS.out]; exact hw13, M12.trans M13⟩
              case measure => simp [intOf]; omega
            · obtain rfl : j = k := by omega
              have e0 : all.take j = all := List.take_of_length_le (by rw [HAL.out]; exact Nat.le_refl _)
              rw [e0] at hw12
              have hfin : bs ++ headBits lit dist = b4 ++ all.flatMap (enc m) := by
                rw [← HB4.out, ← HB3.out]
                unfold headBits
                rw [HALL.out, HMM.out, HNL.out, HND.out, HNA.out, HNB.out]
                simp only [List.append_assoc]
              have HFIN := Lib.hid hfin
              have HW12 := Lib.hid hw12
              clear hfin e0 hw12
              go_wp2_with fail
              go_end0
              exact ⟨r12, rfl, by rw [HFIN.out]; exact HW12.out, (mv_on g r O5t).trans M12⟩
end Go.Proofs.YtnadjlejlohgiaaGreatDoor.Wi

