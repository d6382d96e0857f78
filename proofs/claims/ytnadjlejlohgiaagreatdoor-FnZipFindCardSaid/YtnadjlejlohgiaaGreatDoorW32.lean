/- Own texts joined: Hr, Ht. -/
import Derived.Test.YtnadjlejlohgiaaGreatDoorW30
import Derived.Test.YtnadjlejlohgiaaGreatDoorW31
/- Lengths written by a code of their own, as the specification does it. Conditions: lengths of two codes; sizes. -/
namespace Go.Proofs.YtnadjlejlohgiaaGreatDoor.Wi
open Go.RowKit Go.Proofs.YtnadjlejlohgiaaGreatDoor.Mem Go.Proofs.YtnadjlejlohgiaaGreatDoor.Bt Go.Proofs.YtnadjlejlohgiaaGreatDoor.Cd Go.Proofs.YtnadjlejlohgiaaGreatDoor.De Go.Proofs.YtnadjlejlohgiaaGreatDoor.En Go.Proofs.YtnadjlejlohgiaaGreatDoor.Lz Go.Proofs.YtnadjlejlohgiaaGreatDoor.Hf
set_option linter.unusedVariables false
set_option linter.unusedSimpArgs false
theorem order_lt' : ∀ i, i < 19 → order.getD i 0 < 19 := by decide
theorem sord_calls (w : World) : Calls Tryz.prog 172 #[] w fun e w' => ∃ r, e = .returned (.slice (some ⟨r, 0, none⟩) 19 19) ∧ RowO w' r 0 3 (i64s order) ∧ w.heap.size ≤ r ∧ On w w' := by
  go_enter Tryz.func172, Tryz.ntmps172
  go_wp2_with fail
  go_ret
  exact ⟨w.heap.size, rfl, (Row.of (Blk.new w 3 _)).toO, Nat.le_refl _, (On.refl w).alloc _⟩
set_option maxRecDepth 100000 in
set_option maxHeartbeats 1000000 in
theorem sputlens_calls (g r gl nl cl gd nd cd : Nat) (bs : List Bool) (lit dist : List Nat) (w : World) (hw : SW w g r bs) (hr : r < w.heap.size) (hb : bs.length ≤ 1000) (hl : RowO w gl 0 3 (i64s lit)) (hd : RowO w gd 0 3 (i64s dist))
    (hnl : lit.length = nl) (hnd : dist.length = nd) (l1 : 257 ≤ nl) (l2 : nl ≤ 286) (d1 : 1 ≤ nd) (d2 : nd ≤ 30) (hnlc : nl ≤ cl) (hndc : nd ≤ cd) (l15 : ∀ x ∈ lit, x ≤ 15) (d15 : ∀ x ∈ dist, x ≤ 15) :
    Calls Tryz.prog 151 #[.pointer (some ⟨g, 0, none⟩), .slice (some ⟨gl, 0, none⟩) nl cl, .slice (some ⟨gd, 0, none⟩) nd cd] w fun e w' => ∃ r', e = .returned (.tuple #[]) ∧ SW w' g r' (bs ++ headBits lit dist) ∧ Mv g r w r' w' := by
  obtain ⟨N, hN⟩ : ∃ N, nl + nd = N := ⟨_, rfl⟩
  obtain ⟨all, hall⟩ : ∃ all, lit ++ dist = all := ⟨_, rfl⟩
  have hal : all.length = N := by rw [← hall, List.length_append]; omega
  have ha15 : ∀ x ∈ all, x ≤ 15 := by
    intro x hx
    rw [← hall] at hx
    rcases List.mem_append.1 hx with h | h
    · exact l15 x h
    · exact d15 x h
  have hane : all ≠ [] := by intro e; rw [e] at hal; simp at hal; omega
  have hM := ownMeta_ok ha15 hane
  have hMp := meta_pos ha15 hane
  have hgl := hw.glt
  have HW := Lib.hid hw
  have HN := Lib.hid hN
  have HALL := Lib.hid hall
  have HAL := Lib.hid hal
  have HA15 := Lib.hid ha15
  have HM := Lib.hid hM
  have HMP := Lib.hid hMp
  have HNL := Lib.hid hnl
  have HND := Lib.hid hnd
  have hN3 : N ≤ 316 := by omega
  have hN0 : 258 ≤ N := by omega
  obtain ⟨na, hna⟩ : ∃ na, nl - 257 = na := ⟨_, rfl⟩
  obtain ⟨nb, hnb⟩ : ∃ nb, nd - 1 = nb := ⟨_, rfl⟩
  have ea : (nl : Int) - 257 = (na : Int) := by omega
  have eb : (nd : Int) - 1 = (nb : Int) := by omega
  have hna2 : na ≤ 29 := by omega
  have hnb2 : nb ≤ 29 := by omega
  have HNA := Lib.hid hna
  have HNB := Lib.hid hnb
  have HEA := Lib.hid ea
  have HEB := Lib.hid eb
  have hq0 : 0 + nl = nl := Nat.zero_add nl
  have HQ0 := Lib.hid hq0
  clear hw hN hall hal ha15 hM hMp hnl hnd hane l15 d15 hna hnb ea eb hq0
  have NE := Own.new (base := w.heap.size) w 3 1 #[] 0 (Nat.zero_le _) rfl (Nat.le_refl _)
  have OE := (On.refl w).alloc (.cells #[] 3)
  have REl := hl.on OE
  go_enter Tryz.func151, Tryz.ntmps151
  go_upto_region 1 with (at_builtin; first | ((refine wpList_adds rfl _ _ rfl w (xs := []) (l := lit) (q := nl) rfl NE OE rfl REl HNL.out HQ0.out (by omega) ?_); intro v1 w1 hown1 O1 _; rw [List.nil_append] at hown1; have REd := hd.on O1) | ((refine wpList_adds rfl _ _ rfl w (xs := lit) (l := dist) (q := N) rfl hown1 O1 rfl REd HND.out HN.out (by omega) ?_); intro v2 w2 hown2 O2 _))
  rw [HALL.out] at hown2
  obtain ⟨A, cA, rfl, NA, hA, hAl⟩ := own_nums hown2 HAL.out
  have hcA := NA.row.2.2.1
  clear NE OE REl hown1 O1 REd hown2
  go_upto_region 2 with (at_make; go_must (refine wpList_ints _ rfl _ _ rfl _ _ 19 rfl rfl rfl rfl (by omega) ?_); intro w3 N3 O3 hlt3)
  obtain ⟨C, hC⟩ : ∃ C, w2.heap.size = C := ⟨_, rfl⟩
  rw [hC] at N3 hlt3 ⊢
  have hz2 := O2.size
  have O23 := O2.call O3
  have NA3 := NA.on O3
  clear NA
  go_wp2_with fail
  go_loopw [8] (fun x wr => ∃ (k : Nat), x = .int .i64 (k : Int) ∧ k ≤ N ∧ Nums wr C (.slice (some ⟨C, 0, none⟩) 19 19) (bump (List.replicate 19 0) (all.take k)) ∧ Kp [C] w3 wr) (fun x _ => N - (intOf x).toNat)
  case atStart => exact ⟨0, rfl, by omega, by rw [List.take_zero]; exact N3, Kp.refl _ _⟩
  case round =>
    obtain ⟨k, rfl, hk, NC, K⟩ := hrel
    clear N3
    by_cases hlt : k < N
    · have hkl : k < all.length := by rw [HAL.out]; exact hlt
      have c0 := (K.row NA3.row.1 (by simp; omega)).cell (i64s_get hkl)
      have hx15 := Cd.getD_le HA15.out k
      have hst := cntM_succ hkl
      generalize all.getD k 0 = x at *
      have hln : (bump (List.replicate 19 0) (all.take k)).length = 19 := by rw [bump_length, List.length_replicate]
      have d0 := NC.row.1.cell (i64s_get (show x < (bump (List.replicate 19 0) (all.take k)).length by rw [hln]; omega))
      have hv := Cd.getD_le (cntM_le all k) x
      generalize (bump (List.replicate 19 0) (all.take k)).getD x 0 = v at *
      have fC : ∀ i, wr.frozen? ⟨C, i, none⟩ = false := NC.row.1.frozen
      have e1 : IntKind.i64.wrap ((v : Int) + 1) = ((v + 1 : Nat) : Int) := by rw [IntKind.wrap_i64]; omega
      have HST := Lib.hid hst
      have hx19 : (x : Int) < 19 := by omega
      have hx0 : (0 : Int) ≤ (x : Int) := by omega
      have hkN : (k : Int) < (N : Int) := by omega
      clear hst hln
      go_wp2_with fail
      go_region
      go_wp2_with fail
      go_roundw
      case rel =>
        have D := (On.refl wr).drew
        have S := (NC.on D).set x (v + 1)
        rw [← HST.out] at S
        exact ⟨k + 1, by go_num, by omega, S, K.drew.set (.inl (by simp)) _⟩
      case measure => simp [intOf]; omega
    · obtain rfl : k = N := by omega
      have e0 : all.take k = all := List.take_of_length_le (by rw [HAL.out]; exact Nat.le_refl _)
      rw [e0] at NC
      have hln : (bump (List.replicate 19 0) all).length = 19 := by rw [bump_length, List.length_replicate]
      have hle : ∀ x ∈ bump (List.replicate 19 0) all, x ≤ 100000 := fun x hx => by
        have := cntM_le all k
        rw [e0] at this
        have := this x hx
        omega
      have hfc := Lib.hid (sfit_calls (bump (List.replicate 19 0) all) C 0 19 19 7 wr NC.row.1.toO hln (by omega) (Nat.le_refl _) hle (by omega) (by omega) HMP.out (by rw [show 7 + 3 = 10 from rfl, fib10]; omega))
      clear hln hle e0
      go_wp2_with fail
      refine hfc.out.mono ?_
      rintro e w4 ⟨rM, cM, rfl, NM, hM1, hM2, O4⟩
      have em : fit 7 (bump (List.replicate 19 0) all) = ownMeta all := rfl
      rw [em] at NM ⊢
      rw [HM.out.len] at NM ⊢
      have hcM := NM.row.2.2.1
      have HM2 : RowKit.Hid (Meta all (ownMeta all)) := HM
      obtain ⟨m, hm⟩ : ∃ m, ownMeta all = m := ⟨_, rfl⟩
      rw [hm] at NM HM2
      have HMM := Lib.hid hm
      clear em hm hfc HM
      go_wp2_with fail
      refine (scodes_calls m rM 0 19 cM w4 NM.row.1.toO HM2.out.len (by omega) hcM).mono ?_
      rintro e w5 ⟨rK, cK, rfl, NK, hK1, hK2, O5⟩
      rw [codes_length, HM2.out.len] at NK ⊢
      have hcK := NK.row.2.2.1
      have O45 := O4.call O5
      have O5t : On w w5 := (K.on O23 (fun x hx => by simp at hx; omega)).call O45
      have RM : RowO w5 rM 0 3 (i64s m) := (NM.on O5).row.1.toO
      have RK : RowO w5 rK 0 3 (i64s (codes m)) := NK.row.1.toO
      have RA : RowO w5 A 0 3 (i64s all) := ((K.row NA3.row.1 (by simp; omega)).on O45).toO
      have hzk := K.size
      have hz4 := O4.size
      have hz3 := O3.size
      have FM : RowKit.Hid (rM ∉ [g, r]) := Lib.hid (not_in (by omega) (by omega))
      have FK : RowKit.Hid (rK ∉ [g, r]) := Lib.hid (not_in (by omega) (by omega))
      have FA : RowKit.Hid (A ∉ [g, r]) := Lib.hid (not_in (by omega) (by omega))
      have hw5 := HW.out.on O5t
      have hp1 := Lib.hid (sput_calls g r bs na 5 w5 hw5 (by omega) (by omega) (by omega))
      have ea := HEA.out
      clear hw5 NM NK NC NA3
      go_wp2_with fail
      refine hp1.out.mono ?_
      rintro e w6 ⟨r6, rfl, hw6, M6⟩
      have hp2 := Lib.hid (sput_calls g r6 _ nb 5 w6 hw6 (by omega) (by rw [List.length_append, bits_length]; omega) (by omega))
      have eb := HEB.out
      clear hw6 hp1 ea
      go_wp2_with fail
      refine hp2.out.mono ?_
      rintro e w7 ⟨r7, rfl, hw7, M7⟩
      have hp3 := Lib.hid (sput_calls g r7 _ 15 4 w7 hw7 (by omega) (by rw [List.length_append, List.length_append, bits_length, bits_length]; omega) (by omega))
      clear hw7 hp2 eb
      go_wp2_with fail
      refine hp3.out.mono ?_
      rintro e w8 ⟨r8, rfl, hw8, M8⟩
      have M58 := (M6.trans M7).trans M8
      obtain ⟨b3, hb3⟩ : ∃ b3, bs ++ bitsOf na 5 ++ bitsOf nb 5 ++ bitsOf 15 4 = b3 := ⟨_, rfl⟩
      have hl3 : b3.length = bs.length + 14 := by rw [← hb3]; simp only [List.length_append, bits_length]
      rw [hb3] at hw8
      have HB3 := Lib.hid hb3
      have HL3 := Lib.hid hl3
      have HW8 := Lib.hid hw8
      clear hb3 hl3 hw8 hp3 M6 M7 M8
      have hr5 : r < w5.heap.size := Nat.lt_of_lt_of_le hr O5t.size
      go_wp2_with fail
      go_loopw [11] (fun x wr => ∃ (k r' : Nat), x = .int .i64 (k : Int) ∧ k ≤ 19 ∧ SW wr g r' (b3 ++ (order.take k).flatMap fun j => bitsOf (m.getD j 0) 3) ∧ Mv g r w5 r' wr) (fun x _ => 19 - (intOf x).toNat)
      case atStart => exact ⟨0, r8, rfl, by omega, by rw [List.take_zero]; simpa using HW8.out, M58⟩
      case round =>
        obtain ⟨k2, r9, rfl, hk2, hw9, M9⟩ := hrel
        clear M58
        by_cases hlt2 : k2 < 19
        · have hko : k2 < order.length := hlt2
          have hk2' : (k2 : Int) < 19 := by omega
          have hco := fun W r3 (R : RowO W r3 0 3 (i64s order)) => R.cell (i64s_get hko)
          have hol := order_lt' k2 hlt2
          have hfs := flat_succ (fun j => bitsOf (m.getD j 0) 3) hko
          generalize hx : order.getD k2 0 = o at *
          have hcm := fun W (R : RowO W rM 0 3 (i64s m)) => R.cell (i64s_get (show o < m.length by rw [HM2.out.len]; exact hol))
          have hx7 := Cd.getD_le HM2.out.le o
          have hfl : ((order.take k2).flatMap fun j => bitsOf (m.getD j 0) 3).length ≤ 19 * 3 := by
            have := flat_len (order.take k2) (fun j => bitsOf (m.getD j 0) 3) (m := 3) (fun x => by rw [bits_length]; exact Nat.le_refl _)
            rw [List.length_take] at this
            have h2 : min k2 order.length * 3 ≤ 19 * 3 := Nat.mul_le_mul_right _ (Nat.le_trans (Nat.min_le_left _ _) hk2)
            omega
          have hbl : (b3 ++ (order.take k2).flatMap fun j => bitsOf (m.getD j 0) 3).length ≤ 3000 := by
            rw [List.length_append, HL3.out]; omega
          have hfs2 : b3 ++ (order.take (k2 + 1)).flatMap (fun j => bitsOf (m.getD j 0) 3) = (b3 ++ (order.take k2).flatMap fun j => bitsOf (m.getD j 0) 3) ++ bitsOf (m.getD o 0) 3 := by rw [hfs, List.append_assoc]
          generalize (b3 ++ (order.take k2).flatMap fun j => bitsOf (m.getD j 0) 3) = bk at *
          generalize m.getD o 0 = y at *
          simp only [Nat.zero_add] at hco hcm
          have HCO := Lib.hid hco
          have HCM := Lib.hid hcm
          have HFS := Lib.hid hfs2
          have HW9 := Lib.hid hw9
          have ho0 : (0 : Int) ≤ (o : Int) := by omega
          have ho19 : (o : Int) < 19 := by omega
          clear hco hcm hfs hfs2 hx hfl hw9
          go_wp2_with fail
          refine (sord_calls wr).mono ?_
          rintro e w10 ⟨ro, rfl, Ro, hro, O10⟩
          have c0 := HCO.out w10 ro Ro
          have RM10 := ((RM.kp M9.kp FM.out).on O10)
          have c1 := HCM.out w10 RM10
          have hp := Lib.hid (sput_calls g r9 bk y 3 w10 (HW9.out.on O10) (by omega) (by omega) (by omega))
          go_wp2_with fail
          refine hp.out.mono ?_
          rintro e w11 ⟨r11, rfl, hw11, M11⟩
          go_wp2_with fail
          go_roundw
          case rel => exact ⟨k2 + 1, r11, by go_num, by omega, by rw [HFS.out]; exact hw11, M9.trans ((mv_on g r9 O10).trans M11)⟩
          case measure => simp [intOf]; omega
        · have hk19 : k2 = 19 := by omega
          have hk19' : ¬ (k2 : Int) < 19 := by omega
          have e0 : order.take k2 = order := by rw [hk19]; rfl
          rw [e0] at hw9
          clear hk19
          have hfl : (order.flatMap fun j => bitsOf (m.getD j 0) 3).length ≤ 19 * 3 := flat_len order _ (fun x => by rw [bits_length]; exact Nat.le_refl _)
          obtain ⟨b4, hb4⟩ : ∃ b4, b3 ++ (order.flatMap fun j => bitsOf (m.getD j 0) 3) = b4 := ⟨_, rfl⟩
          have hl4 : b4.length ≤ 2000 := by rw [← hb4, List.length_append, HL3.out]; omega
          rw [hb4] at hw9
          have HB4 := Lib.hid hb4
          have HW9 := Lib.hid hw9
          clear e0 hfl hb4 hw9
          go_wp2_with fail
          go_loopw [12] (fun x wr => ∃ (j r' : Nat), x = .int .i64 (j : Int) ∧ j ≤ k ∧ SW wr g r' (b4 ++ (all.take j).flatMap (enc m)) ∧ Mv g r w5 r' wr) (fun x _ => k - (intOf x).toNat)
          case atStart => exact ⟨0, r9, rfl, by omega, by rw [List.take_zero]; simpa using HW9.out, M9⟩
          case round =>
            obtain ⟨j, r12, rfl, hj, hw12, M12⟩ := hrel
            clear M9
            by_cases hltj : j < k
            · have hjl : j < all.length := by rw [HAL.out]; exact hltj
              have hj' : (j : Int) < (k : Int) := by omega
              have c0 := (RA.kp M12.kp FA.out).cell (i64s_get hjl)
              rw [Nat.zero_add] at c0
              have hfs := flat_succ (enc m) hjl
              have hmem : all.getD j 0 ∈ all := by rw [List.getD_eq_getElem?_getD, List.getElem?_eq_getElem hjl]; exact List.getElem_mem _
              have hx15 := HA15.out _ hmem
              have hpos := HM2.out.pos _ hmem
              generalize all.getD j 0 = s at *
              have hfl : ((all.take j).flatMap (enc m)).length ≤ 316 * 15 := by
                have := flat_len (all.take j) (enc m) (m := 15) (enc_length m (fun x hx => by have := HM2.out.le x hx; omega))
                rw [List.length_take] at this
                have h2 : min j all.length * 15 ≤ 316 * 15 := Nat.mul_le_mul_right _ (Nat.le_trans (Nat.min_le_left _ _) (by omega))
                omega
              have hbl : (b4 ++ (all.take j).flatMap (enc m)).length ≤ 10000 := by rw [List.length_append]; omega
              have hfs2 : b4 ++ (all.take (j + 1)).flatMap (enc m) = (b4 ++ (all.take j).flatMap (enc m)) ++ enc m s := by rw [hfs, List.append_assoc]
              generalize (b4 ++ (all.take j).flatMap (enc m)) = bk at *
              have HFS := Lib.hid hfs2
              have hsm : s < m.length := by rw [HM2.out.len]; omega
              have h7 : m.getD s 0 ≤ 15 := by have := Cd.getD_le HM2.out.le s; omega
              have hc := Lib.hid (sym_calls g r12 bk m rM 0 19 cM rK 19 cK s wr hw12 (by omega) (RM.kp M12.kp FM.out) (RK.kp M12.kp FK.out) HM2.out.len rfl hsm h7 (code_lt (ok_fits HM2.out.ok) hsm hpos h7))
              clear hmem hfs hfs2 hfl hw12 hpos hsm h7
              go_wp2_with fail
              refine hc.out.mono ?_
              rintro e w13 ⟨r13, rfl, hw13, M13⟩
              go_wp2_with fail
              go_roundw
              case rel => exact ⟨j + 1, r13, by go_num, by omega, by rw [HFS.out]; exact hw13, M12.trans M13⟩
              case measure => simp [intOf]; omega
            · obtain rfl : j = k := by omega
              have e0 : all.take j = all := List.take_of_length_le (by rw [HAL.out]; exact Nat.le_refl _)
              rw [e0] at hw12
              have hfin : bs ++ headBits lit dist = b4 ++ all.flatMap (enc m) := by
                rw [← HB4.out, ← HB3.out]
                unfold headBits
                rw [HALL.out, HMM.out, HNL.out, HND.out, HNA.out, HNB.out]
                simp only [List.append_assoc]
              have HFIN := Lib.hid hfin
              have HW12 := Lib.hid hw12
              clear hfin e0 hw12
              go_wp2_with fail
              go_end0
              exact ⟨r12, rfl, by rw [HFIN.out]; exact HW12.out, (mv_on g r O5t).trans M12⟩
end Go.Proofs.YtnadjlejlohgiaaGreatDoor.Wi

/- What OwnPut and FlatePut of the specification do. Conditions: none. -/
namespace Go.Proofs.YtnadjlejlohgiaaGreatDoor.Wi
open Go.RowKit Go.Proofs.YtnadjlejlohgiaaGreatDoor.Mem Go.Proofs.YtnadjlejlohgiaaGreatDoor.Bt Go.Proofs.YtnadjlejlohgiaaGreatDoor.Cd Go.Proofs.YtnadjlejlohgiaaGreatDoor.De Go.Proofs.YtnadjlejlohgiaaGreatDoor.En Go.Proofs.YtnadjlejlohgiaaGreatDoor.Lz Go.Proofs.YtnadjlejlohgiaaGreatDoor.Hf
set_option linter.unusedVariables false
set_option linter.unusedSimpArgs false
set_option maxRecDepth 100000 in
set_option maxHeartbeats 1000000 in
theorem sown_calls (s : ByteArray) (h : s.size ≤ 300) (w : World) :
    Calls Tryz.prog 134 #[.string s] w (Tells w (.string (strB (En.ownPut (chars s))))) := by
  have htx := text_chars h
  have htl := tokens_size h
  have HR : RowKit.Hid (strB (En.ownPut (chars s)) = strB (pack (pad (ownBits (chars s))))) := Lib.hid (by rw [pack_pad]; rfl)
  have HOB : RowKit.Hid (ownBits (chars s) = bitsOf 1 1 ++ bitsOf 2 2 ++ headBits (ownLit (tokens (chars s))) (ownDist (tokens (chars s))) ++ encToks (ownLit (tokens (chars s))) (ownDist (tokens (chars s))) (tokens (chars s))) := Lib.hid rfl
  have HTX := Lib.hid htx
  clear htx
  go_enter Tryz.func134, Tryz.ntmps134
  go_wp2_with fail
  refine (stoks_calls s h w).mono ?_
  rintro e w1 ⟨q, cq, rfl, Rq, hq1, hq2, hq3, O1⟩
  obtain ⟨l, hl⟩ : ∃ l, tokens (chars s) = l := ⟨_, rfl⟩
  rw [hl] at HTX HOB Rq hq1 htl ⊢
  have HF := Lib.hid (fine_of (lit := []) (dist := []) HTX.out)
  have H2 := Lib.hid (own_has HTX.out)
  have HFB := Lib.hid (fitB HTX.out)
  have HDL := Lib.hid (ownDist_length HTX.out)
  have HBP := Lib.hid (cntB_pos HTX.out)
  obtain ⟨n, hn⟩ : ∃ n, l.length = n := ⟨_, rfl⟩
  rw [hn] at hq1 htl ⊢
  have HNN := Lib.hid hn
  clear hn hl
  go_wp2_with fail
  refine (scounts_calls l q n cq w1 Rq HNN.out (by omega) hq1 HF.out).mono ?_
  rintro e w2 ⟨ra, ca, rb, cb, rfl, Na, Nb, ha, hb, O2⟩
  have hca := Na.row.2.2.1
  have hcb := Nb.row.2.2.1
  have hz1 := O1.size
  go_wp2_with fail
  refine (sfit_calls (cntL l) ra 0 286 ca 15 w2 Na.row.1.toO (cntL_length l) (by omega) hca (fun x hx => by have := cntL_le l x hx; have := HNN.out; omega) (by omega) (by omega) ⟨256, cntL_last l⟩ (by rw [show 15 + 3 = 18 from rfl, fib18]; omega)).mono ?_
  rintro e w3 ⟨rc, cc, rfl, Nc, hc, hc2, O3⟩
  have hLl : (fit 15 (cntL l)).length = 286 := (fitL l).1.len.trans (cntL_length l)
  rw [hLl] at Nc ⊢
  have hcc := Nc.row.2.2.1
  have HLl := Lib.hid hLl
  clear hLl
  go_wp2_with fail
  refine (slast_calls (fit 15 (cntL l)) rc 286 cc 257 w3 Nc.row.1.toO HLl.out (by omega) hcc (by omega)).mono ?_
  rintro e w3b ⟨rfl, rfl⟩
  have hol : trimTo (fit 15 (cntL l)) 257 286 = (ownLit l).length := by unfold ownLit; rw [trim_length, HLl.out]
  rw [hol]
  have Rl : RowO w3b rc 0 3 (i64s (ownLit l)) := by
    have e : ownLit l = (fit 15 (cntL l)).take (trimTo (fit 15 (cntL l)) 257 286) := by unfold ownLit trim; rw [HLl.out]
    rw [e, show i64s ((fit 15 (cntL l)).take (trimTo (fit 15 (cntL l)) 257 286)) = (i64s (fit 15 (cntL l))).take (trimTo (fit 15 (cntL l)) 257 286) from by unfold i64s; rw [List.map_take]]
    exact (Nc.row.1.head _).toO
  have hln := ownLit_length l
  have HL15 := Lib.hid (trim_le (least := 257) (fitL l).2)
  obtain ⟨nl, hnl⟩ : ∃ nl, (ownLit l).length = nl := ⟨_, rfl⟩
  rw [hnl] at hln ⊢
  have HNL := Lib.hid hnl
  clear hol hnl
  go_wp2_with fail
  refine (sfit_calls (cntB l) rb 0 30 cb 15 w3b (Nb.on O3).row.1.toO (cntB_length l) (by omega) hcb (fun x hx => by have := cntB_le HF.out x hx; have := HNN.out; omega) (by omega) (by omega) HBP.out (by rw [show 15 + 3 = 18 from rfl, fib18]; omega)).mono ?_
  rintro e w4 ⟨rd, cd, rfl, Nd, hd, hd2, O4⟩
  have hBl : (fit 15 (cntB l)).length = 30 := HFB.out.1.len.trans (cntB_length l)
  rw [hBl] at Nd ⊢
  have hcd := Nd.row.2.2.1
  have HBl := Lib.hid hBl
  clear hBl
  go_wp2_with fail
  refine (slast_calls (fit 15 (cntB l)) rd 30 cd 1 w4 Nd.row.1.toO HBl.out (by omega) hcd (by omega)).mono ?_
  rintro e w4b ⟨rfl, rfl⟩
  have hod : trimTo (fit 15 (cntB l)) 1 30 = (ownDist l).length := by unfold ownDist; rw [trim_length, HBl.out]
  rw [hod]
  have Rd : RowO w4b rd 0 3 (i64s (ownDist l)) := by
    have e : ownDist l = (fit 15 (cntB l)).take (trimTo (fit 15 (cntB l)) 1 30) := by unfold ownDist trim; rw [HBl.out]
    rw [e, show i64s ((fit 15 (cntB l)).take (trimTo (fit 15 (cntB l)) 1 30)) = (i64s (fit 15 (cntB l))).take (trimTo (fit 15 (cntB l)) 1 30) from by unfold i64s; rw [List.map_take]]
    exact (Nd.row.1.head _).toO
  have hdn := HDL.out
  have HD15 := Lib.hid (trim_le (least := 1) HFB.out.2)
  obtain ⟨nd, hnd⟩ : ∃ nd, (ownDist l).length = nd := ⟨_, rfl⟩
  rw [hnd] at hdn ⊢
  have HND := Lib.hid hnd
  have Rl4 := Rl.on O4
  have Rq4 := Rq.on (O2.call (O3.call O4))
  have Ot4 := O1.call (O2.call (O3.call O4))
  have hrcl := Rl4.lt
  have hrdl := Rd.lt
  have hrql := Rq4.lt
  have HHL := Lib.hid (head_length (ownLit l) (ownDist l) (by rw [List.length_append, HNL.out, hnd]; omega) (fun x hx => by
    rcases List.mem_append.1 hx with h | h
    · exact HL15.out x h
    · exact HD15.out x h) (by intro e; have := congrArg List.length e; rw [List.length_append, HNL.out] at this; simp at this; omega))
  have HET := Lib.hid (show (encToks (ownLit l) (ownDist l) l).length ≤ 20000 by
    have h1 := flat_le (lit := ownLit l) (dist := ownDist l) (fine_of HTX.out) HL15.out HD15.out l.length
    rw [List.take_length] at h1
    have h2 := enc_length (ownLit l) HL15.out 256
    unfold encToks
    rw [List.length_append]
    have := HNN.out
    omega)
  clear hod hnd Nd Nc Rl Na Nb
  go_wp2_with fail
  refine (sput_calls _ _ [] 1 1 _ (sw_new w4b) (by omega) (by simp) (by omega)).mono ?_
  rintro e w5 ⟨r5, rfl, hw5, M5⟩
  have OA := (On.refl w4b).alloc (.cells #[.slice none 0 0, .int .i64 0, .int .i64 0] 153)
  have hr0 : w4b.heap.size < (w4b.alloc (.cells #[.slice none 0 0, .int .i64 0, .int .i64 0] 153)).heap.size := (Blk.new w4b _ _).lt
  have hr5 := M5.lt hr0
  obtain ⟨O5, hb5⟩ := M5.on OA (Nat.le_refl _) (Nat.le_refl _)
  go_wp2_with fail
  refine (sput_calls _ _ _ 2 2 w5 hw5 (by omega) (by simp [bitsOf]) (by omega)).mono ?_
  rintro e w6 ⟨r6, rfl, hw6, M6⟩
  have hr6 := M6.lt hr5
  obtain ⟨O6, hb6⟩ := M6.on O5 (Nat.le_refl _) hb5
  have hpl := Lib.hid (sputlens_calls w4b.heap.size r6 rc nl cc rd nd cd _ (ownLit l) (ownDist l) w6 hw6 hr6 (by simp [bitsOf]) (Rl4.on O6) (Rd.on O6) HNL.out HND.out hln.1 hln.2 hdn.1 hdn.2 (by omega) (by omega) HL15.out HD15.out)
  go_wp2_with fail
  refine hpl.out.mono ?_
  rintro e w7 ⟨r7, rfl, hw7, M7⟩
  have hr7 := M7.lt hr6
  obtain ⟨O7, hb7⟩ := M7.on O6 (Nat.le_refl _) hb6
  have hpt := Lib.hid (stokens_calls w4b.heap.size r7 q n cq rc 0 nl cc rd 0 nd cd _ l (ownLit l) (ownDist l) w7 hw7 hr7 (by have := HHL.out; simp only [List.length_append, bits_length, List.length_nil]; omega) (Rq4.on O7) (Rl4.on O7) (Rd.on O7) HNN.out (by omega) hq1 HNL.out HND.out (by omega) (by omega) (by omega) (by omega)
    H2.out (fine_of HTX.out) (not_in (by omega) (by omega)) (not_in (by omega) (by omega)) (not_in (by omega) (by omega)))
  clear hpl hw5 hw6 hw7
  go_wp2_with fail
  refine hpt.out.mono ?_
  rintro e w8 ⟨r8, rfl, hw8, M8⟩
  obtain ⟨O8, hb8⟩ := M8.on O7 (Nat.le_refl _) hb7
  have hw9 : SW w8 w4b.heap.size r8 (ownBits (chars s)) := by rw [HOB.out]; exact hw8
  have hbl : (ownBits (chars s)).length ≤ 100000 := by
    rw [HOB.out]
    have := HHL.out
    have := HET.out
    simp only [List.length_append, bits_length]
    omega
  have hwh := Lib.hid (whole_calls w4b.heap.size r8 (ownBits (chars s)) w8 hw9 (by omega))
  clear hpt hw8 hw9 hbl
  go_wp2_with fail
  refine hwh.out.mono ?_
  rintro e w9 ⟨r9, rfl, hw9, M9⟩
  obtain ⟨O9, hb9⟩ := M9.on O8 (Nat.le_refl _) hb8
  obtain ⟨v, c0, hconv⟩ := hw9.text (by rw [pad_length]; omega)
  have Ot := Ot4.call O9
  clear hw9
  go_wp2_with fail
  go_ret
  exact ⟨by rw [HR.out]; rfl, Ot⟩
set_option maxRecDepth 100000 in
theorem sflateput_calls (s : ByteArray) (w : World) :
    Calls Tryz.prog 118 #[.string s] w (Tells w (.string (flateB s))) := by
  by_cases h : s.size ≤ 300
  · have h' : (s.size : Int) ≤ 300 := by omega
    have HR : RowKit.Hid (flateB s = pickTo (strB (En.store (chars s))) (strB (En.fixed (chars s))) (strB (En.ownPut (chars s))) 2) := Lib.hid (by unfold flateB; rw [if_pos h]; exact flate_pick s h)
    have HS := Lib.hid (fun w => sstore_calls s w h)
    have HK := Lib.hid (fun w => sknown_calls s h w)
    have HO := Lib.hid (fun w => sown_calls s h w)
    generalize strB (En.store (chars s)) = x at *
    generalize strB (En.fixed (chars s)) = y at *
    generalize strB (En.ownPut (chars s)) = z at *
    go_enter Tryz.func118, Tryz.ntmps118
    go_wp2_with fail
    refine (HS.out w).mono ?_
    rintro e w1 ⟨rfl, O1⟩
    go_wp2_with fail
    refine (HK.out w1).mono ?_
    rintro e w2 ⟨rfl, O2⟩
    go_wp2_with fail
    refine (HO.out w2).mono ?_
    rintro e w3 ⟨rfl, O3⟩
    go_wp2_with fail
    have BB := Blk.new w3 9 #[.string y, .string z]
    have O4 := (O1.call (O2.call O3)).alloc (.cells #[.string y, .string z] 9)
    generalize hB : w3.heap.size = B at *
    generalize w3.alloc (.cells #[.string y, .string z] 9) = w4 at *
    go_loop [3, 5] (fun o i => ∃ k : Nat, k ≤ 2 ∧ i = .int .i64 (k : Int) ∧ o = .string (pickTo x y z k)) (fun _ i => 2 - (intOf i).toNat)
    case atStart => exact ⟨0, by omega, rfl, rfl⟩
    case round =>
      obtain ⟨k, hk, rfl, rfl⟩ := hrel
      by_cases hlt : k < 2
      · obtain ⟨v, c0, hv⟩ : ∃ v, w4.cell? ⟨B, k, none⟩ = some (.string v) ∧ pickTo x y z (k + 1) = choose (pickTo x y z k) v := by
          rcases (show k = 0 ∨ k = 1 by omega) with rfl | rfl
          · exact ⟨y, (BB.cell 0).trans rfl, rfl⟩
          · exact ⟨z, (BB.cell 1).trans rfl, rfl⟩
        have HV := Lib.hid hv
        clear hv
        have hlt' : (k : Int) < 2 := by omega
        generalize pickTo x y z k = p at *
        by_cases hs : v.size < p.size
        · have hs' : (v.size : Int) < (p.size : Int) := by omega
          have HC : RowKit.Hid (pickTo x y z (k + 1) = v) := Lib.hid (by rw [HV.out]; unfold choose; rw [if_pos hs])
          go_wp2_with fail
          go_round
          case rel => exact ⟨k + 1, by omega, by go_num, by rw [HC.out]⟩
          case measure => simp [intOf]; omega
        · have hs' : ¬ (v.size : Int) < (p.size : Int) := by omega
          have HC : RowKit.Hid (pickTo x y z (k + 1) = p) := Lib.hid (by rw [HV.out]; unfold choose; rw [if_neg hs])
          go_wp2_with fail
          go_round
          case rel => exact ⟨k + 1, by omega, by go_num, by rw [HC.out]⟩
          case measure => simp [intOf]; omega
      · obtain rfl : k = 2 := by omega
        go_wp2_with fail
        go_ret
        exact ⟨by rw [HR.out]; rfl, O4⟩
  · have h' : (300 : Int) < s.size := by omega
    have HR : RowKit.Hid (flateB s = ⟨#[]⟩) := Lib.hid (by unfold flateB; rw [if_neg h])
    go_enter Tryz.func118, Tryz.ntmps118
    go_wp2_with fail
    go_ret
    exact ⟨by rw [HR.out]; rfl, On.refl _⟩
end Go.Proofs.YtnadjlejlohgiaaGreatDoor.Wi

