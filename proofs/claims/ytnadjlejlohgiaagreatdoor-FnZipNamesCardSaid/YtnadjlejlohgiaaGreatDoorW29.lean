/- Own texts joined: WToksS. -/
import Derived.Test.YtnadjlejlohgiaaGreatDoorW4
import Derived.Test.YtnadjlejlohgiaaGreatDoorW26
/- Tokens as they are written by two codes, in the reference. Conditions: the codes have all symbols; sizes. -/
namespace Go.Proofs.YtnadjlejlohgiaaGreatDoor.Wi
open Go.RowKit Go.Proofs.YtnadjlejlohgiaaGreatDoor.Mem Go.Proofs.YtnadjlejlohgiaaGreatDoor.Bt Go.Proofs.YtnadjlejlohgiaaGreatDoor.Cd Go.Proofs.YtnadjlejlohgiaaGreatDoor.De Go.Proofs.YtnadjlejlohgiaaGreatDoor.En Go.Proofs.YtnadjlejlohgiaaGreatDoor.Lz
set_option linter.unusedVariables false
set_option linter.unusedSimpArgs false
theorem SW.lt {w : World} {g r : Nat} {bs : List Bool} (h : SW w g r bs) (hne : 8 ≤ bs.length) : r < w.heap.size := by
  obtain ⟨v, hb, hy, _⟩ := h.out
  have : pack (bs.take (8 * (bs.length / 8))) ≠ [] := by
    intro e
    have := pack_length (bs.take (8 * (bs.length / 8)))
    rw [e, List.length_take] at this
    simp at this; omega
  obtain ⟨_, _, _, _, R⟩ := hy.parts this
  exact R.lt
set_option maxRecDepth 100000 in
set_option maxHeartbeats 2000000 in
theorem stokens_calls (g r q n cap gl ol nl cl gd od nd cd : Nat) (bs : List Bool) (l : List Tok) (lit dist : List Nat) (w : World) (hw : SW w g r bs) (hr : r < w.heap.size) (hb : bs.length ≤ 100000)
    (hq : Row w q 117 (tokCells l)) (hl : RowO w gl ol 3 (i64s lit)) (hd : RowO w gd od 3 (i64s dist)) (hn : l.length = n) (hn2 : n ≤ 1000) (hnc : n ≤ cap) (hnl : lit.length = nl) (hnd : dist.length = nd) (hnlc : nl ≤ cl) (hndc : nd ≤ cd)
    (hnl2 : nl ≤ 1000) (hnd2 : nd ≤ 1000) (H : Has lit dist l) (F : ∀ t ∈ l, Fine lit dist t) (fq : q ∉ [g, r]) (fl : gl ∉ [g, r]) (fd : gd ∉ [g, r]) :
    Calls Tryz.prog 144 #[.pointer (some ⟨g, 0, none⟩), .slice (some ⟨q, 0, none⟩) n cap, .slice (some ⟨gl, ol, none⟩) nl cl, .slice (some ⟨gd, od, none⟩) nd cd] w fun e w' => ∃ r', e = .returned (.tuple #[]) ∧ SW w' g r' (bs ++ encToks lit dist l) ∧ Mv g r w r' w' := by
  have HN := Lib.hid hn
  have HNL := Lib.hid hnl
  have HND := Lib.hid hnd
  have HF := Lib.hid F
  have HH := Lib.hid H
  have HW := Lib.hid hw
  have hg := hw.glt
  have FQ := Lib.hid fq
  have FL := Lib.hid fl
  have FD := Lib.hid fd
  clear hn hnl hnd F H hw fq fl fd
  go_enter Tryz.func144, Tryz.ntmps144
  go_wp2_with fail
  refine (scodes_calls lit gl ol nl cl w hl HNL.out hnl2 hnlc).mono ?_
  rintro e w1 ⟨ra, ca, rfl, Na, ha1, ha2, O1⟩
  rw [codes_length, HNL.out] at Na ⊢
  go_wp2_with fail
  refine (scodes_calls dist gd od nd cd w1 (hd.on O1) HND.out hnd2 hndc).mono ?_
  rintro e w2 ⟨rb, cb, rfl, Nb, hb1, hb2, O2⟩
  rw [codes_length, HND.out] at Nb ⊢
  go_wp2_with fail
  refine (slong_calls w2).mono ?_
  rintro e w3 ⟨rc, cc, rfl, Nc, hc1, hc2, O3⟩
  go_wp2_with fail
  refine (sbase_calls longBits rc 0 28 cc 3 w3 (Nc.row.1.toO) rfl (by omega) (Nc.row.2.2.1) (by decide) (by omega)).mono ?_
  rintro e w4 ⟨re, ce, rfl, Ne, he1, he2, O4⟩
  go_wp2_with fail
  refine (sback_calls w4).mono ?_
  rintro e w5 ⟨rf, cf, rfl, Nf, hf1, hf2, O5⟩
  go_wp2_with fail
  refine (sbase_calls backBits rf 0 30 cf 1 w5 (Nf.row.1.toO) rfl (by omega) (Nf.row.2.2.1) (by decide) (by omega)).mono ?_
  rintro e w6 ⟨rh, ch, rfl, Nh, hh1, hh2, O6⟩
  have O56 := O5.call O6
  have O46 := O4.call O56
  have O36 := O3.call O46
  have O26 := O2.call O36
  have OW := O1.call O26
  have Ra := (Na.on O26).row.1.toO
  have Rb := (Nb.on O36).row.1.toO
  have Re : RowO w6 re 0 3 (i64s longBase) := (Ne.on O56).row.1.toO
  have Rh : RowO w6 rh 0 3 (i64s backBase) := Nh.row.1.toO
  have hq2 := hq.on OW
  have hl2 := hl.on OW
  have hd2 := hd.on OW
  have hz1 := O1.size
  have hz2 := O2.size
  have hz3 := O3.size
  have hz4 := O4.size
  have hz5 := O5.size
  have hw2 : RowKit.Hid (SW w6 g r bs) := Lib.hid (HW.out.on OW)
  have FA : RowKit.Hid (ra ∉ [g, r]) := Lib.hid (not_in (by omega) (by omega))
  have FB : RowKit.Hid (rb ∉ [g, r]) := Lib.hid (not_in (by omega) (by omega))
  have FE : RowKit.Hid (re ∉ [g, r]) := Lib.hid (not_in (by omega) (by omega))
  have FH : RowKit.Hid (rh ∉ [g, r]) := Lib.hid (not_in (by omega) (by omega))
  have hce : 28 ≤ ce := Ne.row.2.2.1
  have hch : 30 ≤ ch := Nh.row.2.2.1
  rw [show (base 3 longBits).length = 28 from rfl, show (base 1 backBits).length = 30 from rfl]
  clear Na Nb Nc Ne Nf Nh
  go_wp2_with fail
  go_loopw [12] (fun x wr => ∃ (k r' : Nat), x = .int .i64 (k : Int) ∧ k ≤ n ∧ SW wr g r' (bs ++ (l.take k).flatMap (encTok lit dist)) ∧ Mv g r w6 r' wr) (fun x _ => n - (intOf x).toNat)
  case atStart => exact ⟨0, r, rfl, by omega, by simpa using hw2.out, Mv.refl _ _ _⟩
  case round =>
    obtain ⟨k, r', rfl, hk, hwr, M⟩ := hrel
    have hr6 := Nat.lt_of_lt_of_le hr OW.size
    by_cases hlt : k < n
    · have hkl : k < l.length := by rw [HN.out]; exact hlt
      obtain ⟨t0, t1, t2⟩ := tok_get hkl
      have hstep : (l.take (k + 1)).flatMap (encTok lit dist) = (l.take k).flatMap (encTok lit dist) ++ encTok lit dist l[k] := by
        rw [List.take_succ_eq_append_getElem hkl, List.flatMap_append]; simp
      have Ft := HF.out _ (List.getElem_mem hkl)
      have Hby := HH.out.byte _ (List.getElem_mem hkl)
      have Hlo := HH.out.long _ (List.getElem_mem hkl)
      have Hba := HH.out.back _ (List.getElem_mem hkl)
      have hfl := flat_le HF.out HH.out.l15 HH.out.d15 k
      have R := M.kp.row hq2 FQ.out
      have c0 := R.cell t0
      have c1 := R.cell t1
      have c2 := R.cell t2
      have hbl : (bs ++ (l.take k).flatMap (encTok lit dist)).length ≤ 200000 := by rw [List.length_append]; omega
      have hst2 : bs ++ (l.take (k + 1)).flatMap (encTok lit dist) = (bs ++ (l.take k).flatMap (encTok lit dist)) ++ encTok lit dist l[k] := by rw [hstep, List.append_assoc]
      generalize l[k] = t at *
      generalize bs ++ (l.take k).flatMap (encTok lit dist) = bk at *
      have HST := Lib.hid hst2
      clear t0 t1 t2 hstep hst2
      obtain ⟨tb, tl, tk⟩ := t
      simp only at c0 c1 c2 Ft Hby Hlo Hba
      by_cases h0 : tl = 0
      · subst h0
        have hbyte := Ft.byte rfl
        obtain ⟨b, rfl⟩ := Int.eq_ofNat_of_zero_le hbyte.1
        have Hb1 := Hby rfl
        have hbn : ((b : Int)).toNat = b := by omega
        simp only [Int.ofNat_eq_natCast, hbn] at Hb1
        have hlt1 := lt_of_getD Hb1
        have hcl := code_lt HH.out.fl hlt1 Hb1 (getD_le HH.out.l15 b)
        have hen : encTok lit dist ⟨(b : Int), 0, tk⟩ = enc lit b := by unfold encTok; rw [if_pos rfl]; rfl
        have HEN := Lib.hid hen
        have h15 := getD_le HH.out.l15 b
        have OA := (On.refl wr).alloc (.cells #[.int .i64 (b : Int), .int .i64 0, .int .i64 tk] 117)
        have hc := sym_calls g r' bk lit gl ol nl cl ra nl ca b _ (hwr.on OA) (by omega) ((hl2.kp M.kp FL.out).on OA) ((Ra.kp M.kp FA.out).on OA) HNL.out rfl hlt1 h15 hcl
        have HC := Lib.hid hc
        clear hen hc hbn Ft Hby Hlo Hba
        go_wp2_with fail
        refine HC.out.mono ?_
        rintro e w3 ⟨r3, rfl, hw3, M3⟩
        go_wp2_with fail
        refine ⟨⟨k + 1, r3, by go_num, by omega, ?_, M.trans ((mv_on g r' OA).trans M3)⟩, by simp [intOf]; omega⟩
        rw [HST.out, HEN.out]
        exact hw3
      · obtain ⟨l3, l60, k1, k250⟩ := Ft.long h0
        simp only at l3 l60 k1 k250
        have Hl1 := Hlo h0
        have Hb1 := Hba h0
        obtain ⟨tln, rfl⟩ := Int.eq_ofNat_of_zero_le (show 0 ≤ tl by omega)
        obtain ⟨tkn, rfl⟩ := Int.eq_ofNat_of_zero_le (show 0 ≤ tk by omega)
        have h0' : ((tln : Int) == 0) = false := by simp; omega
        have hen : encTok lit dist ⟨tb, (tln : Int), (tkn : Int)⟩ = enc lit (257 + lad longBase tln) ++ (bitsOf (tln - longBase.getD (lad longBase tln) 0) (longBits.getD (lad longBase tln) 0) ++ (enc dist (lad backBase tkn) ++ bitsOf (tkn - backBase.getD (lad backBase tkn) 0) (backBits.getD (lad backBase tkn) 0))) := by
          unfold encTok; rw [if_neg (by simp; omega)]; rfl
        have HEN := Lib.hid hen
        simp only [Int.ofNat_eq_natCast, Int.toNat_natCast] at *
        obtain ⟨a1, a2, a3, a4⟩ := lad_long tln (by omega) (by omega)
        obtain ⟨b1, b2, b3, b4⟩ := lad_back tkn (by omega) (by omega)
        clear hen Ft Hby Hlo Hba
        have OA := (On.refl wr).alloc (.cells #[.int .i64 tb, .int .i64 (tln : Int), .int .i64 (tkn : Int)] 117)
        have BA := Blk.new wr 117 #[.int .i64 tb, .int .i64 (tln : Int), .int .i64 (tkn : Int)]
        have hg1 := hwr.glt
        have hr1 := M.lt hr6
        have hwa := hwr.on OA
        have HWA := Lib.hid hwa
        have MA := M.trans (mv_on g r' OA)
        have ReA := (Re.kp M.kp FE.out).on OA
        have RhA := (Rh.kp M.kp FH.out).on OA
        have hsL := fun W (R : RowO W re 0 3 (i64s longBase)) => ssym_calls longBase re 28 ce tln W R (by decide) (by omega) hce (by omega) (by show 3 ≤ tln; omega) long_rising (by omega)
        have hsB := fun W (R : RowO W rh 0 3 (i64s backBase)) => ssym_calls backBase rh 30 ch tkn W R (by decide) (by omega) hch (by omega) (by show 1 ≤ tkn; omega) back_rising (by omega)
        have hcL := fun W r3 (R : RowO W r3 0 3 (i64s longBase)) => R.cell (i64s_get (show lad longBase tln < longBase.length from a1))
        have hcLb := fun W r3 (R : RowO W r3 0 3 (i64s longBits)) => R.cell (i64s_get (show lad longBase tln < longBits.length from a1))
        have hcB := fun W r3 (R : RowO W r3 0 3 (i64s backBase)) => R.cell (i64s_get (show lad backBase tkn < backBase.length from b1))
        have hcBb := fun W r3 (R : RowO W r3 0 3 (i64s backBits)) => R.cell (i64s_get (show lad backBase tkn < backBits.length from b1))
        simp only [Nat.zero_add] at hcL hcLb hcB hcBb
        have hl1 := lt_of_getD Hl1
        have hd1 := lt_of_getD Hb1
        have hco1 := code_lt HH.out.fl hl1 Hl1 (getD_le HH.out.l15 _)
        have hco2 := code_lt HH.out.fd hd1 Hb1 (getD_le HH.out.d15 _)
        have h15a := getD_le HH.out.l15 (257 + lad longBase tln)
        have h15b := getD_le HH.out.d15 (lad backBase tkn)
        have HSL := Lib.hid hsL
        have HSB := Lib.hid hsB
        have HCL := Lib.hid hcL
        have HCLB := Lib.hid hcLb
        have HCB := Lib.hid hcB
        have HCBB := Lib.hid hcBb
        clear hsL hsB hcL hcLb hcB hcBb
        go_wp2_with fail
        generalize hB : wr.heap.size = B at *
        have HB := Lib.hid hB
        clear hB
        generalize wr.alloc (.cells #[.int .i64 tb, .int .i64 (tln : Int), .int .i64 (tkn : Int)] 117) = wa at *
        have hBw : B < wa.heap.size := BA.lt
        have FBB : RowKit.Hid (B ∉ [g, r']) := Lib.hid (not_in (by omega) (by omega))
        generalize lad longBase tln = kl at *
        generalize lad backBase tkn = kb at *
        generalize longBase.getD kl 0 = xl at *
        generalize longBits.getD kl 0 = yl at *
        generalize backBase.getD kb 0 = xb at *
        generalize backBits.getD kb 0 = yb at *
        generalize hdl : tln - xl = dl at *
        generalize hdb : tkn - xb = db at *
        have wl : IntKind.i64.wrap ((tln : Int) - (xl : Int)) = (dl : Int) := by rw [IntKind.wrap_i64]; omega
        have wb : IntKind.i64.wrap ((tkn : Int) - (xb : Int)) = (db : Int) := by rw [IntKind.wrap_i64]; omega
        have hdl2 : dl ≤ 60 := by omega
        have hdb2 : db ≤ 250 := by omega
        have HDLL := Lib.hid hdl
        have HDBB := Lib.hid hdb
        clear hdl hdb hwa hwr
        refine (HSL.out wa ReA).mono ?_
        rintro e w5 ⟨rfl, O5⟩
        have OB := O5
        have M5 := MA.trans (mv_on g r' O5)
        have hw5 := HWA.out.on O5
        have B5 := BA.call O5.out
        have hc := sym_calls g r' bk lit gl ol nl cl ra nl ca (257 + kl) w5 hw5 (by omega) (hl2.kp M5.kp FL.out) (Ra.kp M5.kp FA.out) HNL.out rfl hl1 h15a hco1
        rw [show (((257 + kl : Nat) : Int)) = 257 + (kl : Int) from by omega] at hc
        have HC := Lib.hid hc
        clear hc
        go_wp2_with fail
        refine HC.out.mono ?_
        rintro e w7 ⟨r7, rfl, hw7, M7⟩
        have M8 := M5.trans M7
        have B7 : Blk w7 B 117 #[.int .i64 tb, .int .i64 (tln : Int), .int .i64 (tkn : Int)] := M7.kp.blk B5 FBB.out
        have FB7 : RowKit.Hid (B ∉ [g, r7]) := Lib.hid (M7.out B5.lt FBB.out)
        have e1 : w7.cell? ⟨B, 1, none⟩ = some (.int .i64 (tln : Int)) := (B7.cell 1).trans rfl
        have e3 : w7.cell? ⟨re, kl, none⟩ = some (.int .i64 (xl : Int)) := HCL.out w7 re (Re.kp M8.kp FE.out)
        have hel := enc_length lit HH.out.l15 (257 + kl)
        have hbb : (bk ++ enc lit (257 + kl)).length ≤ 300000 := by rw [List.length_append]; omega
        have hp1 := fun W h => sput_calls g r7 (bk ++ enc lit (257 + kl)) dl yl W h (by omega) (by omega) (by omega)
        have HW7 := Lib.hid hw7
        have HP1 := Lib.hid hp1
        have hgS := hw7.glt
        have hrS := M8.lt (Nat.lt_of_lt_of_le hr OW.size)
        clear hp1 hw7 hel
        generalize hbk2 : bk ++ enc lit (257 + kl) = bk2 at *
        have HBK2 := Lib.hid hbk2
        clear hbk2
        have hkl : (kl : Int) < 28 := by omega
        have hkb : (kb : Int) < 30 := by omega
        have fre : re ∉ [g, r7] := M8.out Re.lt FE.out
        have FRE := Lib.hid fre
        clear fre
        go_upto_region 12 with fail
        go_cut [14] (fun s12 wx => ∃ r4, RowKit.Hid (SW wx g r4 (bk2 ++ bitsOf dl yl)) ∧ Mv g r7 w7 r4 wx)
        case first =>
          have kz : ((kl : Nat) : Int) < 28 := by omega
          have kz2 : ((kl : Nat) : Int) < ((longBits.length : Nat) : Int) := by rw [show longBits.length = 28 from rfl]; omega
          have CE : ∀ W, Kp [g, r7] w7 W → W.cell? ⟨B, 1, none⟩ = some (.int .i64 (tln : Int)) := fun W h => (h.cell B7.lt FB7.out).trans e1
          have CT : ∀ W, Kp [g, r7] w7 W → W.cell? ⟨re, kl, none⟩ = some (.int .i64 (xl : Int)) := fun W h => (h.cell (World.block_lt_of_cell? w7 _ e3) FRE.out).trans e3
          refine wp_region_held_drew (S := fun W => Kp [g, r7] w7 W) (by kernel_rfl) (Kp.refl _ _).drew (fun hHeld => ?_)
          refine Tk.tk 0 ?_ rfl (.inl ⟨by rfl, ?_⟩) ?_
          rotate_left
          · intro w hSw; go_simp; first | done | with_reducible rfl
          try simp only [Act.put, Tk.s3]
          refine Tk.tk 1 ?_ rfl (.inl ⟨by rfl, ?_⟩) ?_
          rotate_left
          · intro w hSw; go_simp; first | done | with_reducible rfl
          try simp only [Act.put, Tk.s3]
          refine Tk.tk 2 ?_ rfl (.inl ⟨by rfl, ?_⟩) ?_
          rotate_left
          · intro w hSw; go_simp; first | done | with_reducible rfl
          try simp only [Act.put, Tk.s3]
          refine Tk.tk 3 ?_ rfl (.inl ⟨by rfl, ?_⟩) ?_
          rotate_left
          · intro w hSw; go_simp; first | done | with_reducible rfl
          try simp only [Act.put, Tk.s3]
          refine Tk.tk 4 ?_ rfl (.inl ⟨by rfl, ?_⟩) ?_
          rotate_left
          · intro w hSw; go_simp; first | done | with_reducible rfl
          try simp only [Act.put, Tk.s3]
          refine Tk.tk 5 ?_ rfl (.inl ⟨by rfl, ?_⟩) ?_
          rotate_left
          · intro w hSw; go_simp; first | done | with_reducible rfl
          try simp only [Act.put, Tk.s3]
          refine Tk.tk 6 ?_ rfl (.inl ⟨by rfl, ?_⟩) ?_
          rotate_left
          · intro w hSw; go_simp; first | done | with_reducible rfl
          try simp only [Act.put, Tk.s3]
          refine Tk.tk 7 ?_ rfl (.inl ⟨by rfl, ?_⟩) ?_
          rotate_left
          · intro w hSw; go_simp; first | done | with_reducible rfl
          try simp only [Act.put, Tk.s3]
          refine Tk.tk 9 ?_ rfl (.inl ⟨by rfl, ?_⟩) ?_
          rotate_left
          · intro w hSw; go_simp; first | done | with_reducible rfl
          try simp only [Act.put, Tk.s3]
          refine Tk.rd 8 rfl fun K hK => ?_
          go_simp
          refine (slong_calls _).mono ?_
          rintro e wA ⟨rf, cf, rfl, Nf, hf1, hf2, O8⟩
          have KA := hHeld.then (Kp.of [g, r7] O8)
          have CA : ∀ W, Kp [g, r7] wA W → W.cell? ⟨rf, kl, none⟩ = some (.int .i64 (yl : Int)) := fun W h => (h.cell hf2 (show rf ∉ [g, r7] from not_in (by have := hHeld.size; omega) (by have := hHeld.size; omega))).trans (HCLB.out wA rf Nf.row.1.toO)
          refine hK.out _ _ KA (fun hHeld => ?_)
          clear hK K
          try simp only [Act.put, Tk.s3]
          refine wpAnyH_strong (S' := fun W => Kp [g, r7] wA W) (fun W h => KA.then h) ?_
          have hHeld2 : (fun W => Kp [g, r7] wA W) wA := Kp.refl _ _
          refine Tk.tk 10 ?_ rfl (.inl ⟨by rfl, ?_⟩) ?_
          rotate_left
          · intro w hSw; go_simp; first | done | with_reducible rfl
          try simp only [Act.put, Tk.s3]
          refine Tk.tk 11 ?_ rfl (.inl ⟨by rfl, ?_⟩) ?_
          rotate_left
          · intro w hSw; go_simp; first | done | with_reducible rfl
          try simp only [Act.put, Tk.s3]
          refine Tk.rd 12 rfl fun K hK => ?_
          go_simp
          refine (HP1.out _ (HW7.out.on ((On.refl w7).drew.call O8))).mono ?_
          rintro e w9 ⟨r9, rfl, hw9, M9⟩
          refine hK.out _ _ M9.kp (fun hHeld => ?_)
          clear hK K
          try simp only [Act.put, Tk.s3]
          refine wpAnyH_done (by kernel_rfl) ?_ _
          have OO := (On.refl w7).drew.call O8
          go_wp2_with fail
          go_meet
          exact ⟨r9, Lib.hid hw9, (mv_on g r7 OO).trans M9⟩
        case rest =>
          obtain ⟨r4, HW4, M4⟩ := hcut
          have M9 := M8.trans M4
          have B9 : Blk wc B 117 #[.int .i64 tb, .int .i64 (tln : Int), .int .i64 (tkn : Int)] := M4.kp.blk B7 FB7.out
          have FB9 : RowKit.Hid (B ∉ [g, r4]) := Lib.hid (M4.out B7.lt FB7.out)
          have g2 : wc.cell? ⟨B, 2, none⟩ = some (.int .i64 (tkn : Int)) := (B9.cell 2).trans rfl
          have Rh9 := Rh.kp M9.kp FH.out
          go_wp2_with fail
          refine (HSB.out wc Rh9).mono ?_
          rintro e w10 ⟨rfl, O10⟩
          have M10 := M9.trans (mv_on g r4 O10)
          have hw10 := HW4.out.on O10
          have B10 := B9.call O10.out
          have hbb3 : (bk2 ++ bitsOf dl yl).length ≤ 400000 := by rw [List.length_append, bits_length]; omega
          have hc := sym_calls g r4 (bk2 ++ bitsOf dl yl) dist gd od nd cd rb nd cb kb w10 hw10 (by omega) (hd2.kp M10.kp FD.out) (Rb.kp M10.kp FB.out) HND.out rfl hd1 h15b hco2
          have HC2 := Lib.hid hc
          clear hc
          go_wp2_with fail
          refine HC2.out.mono ?_
          rintro e w11 ⟨r11, rfl, hw11, M11⟩
          have M12 := M10.trans M11
          have B11 : Blk w11 B 117 #[.int .i64 tb, .int .i64 (tln : Int), .int .i64 (tkn : Int)] := M11.kp.blk B10 FB9.out
          have FB11 : RowKit.Hid (B ∉ [g, r11]) := Lib.hid (M11.out B10.lt FB9.out)
          have i2 : w11.cell? ⟨B, 2, none⟩ = some (.int .i64 (tkn : Int)) := (B11.cell 2).trans rfl
          have i3 : w11.cell? ⟨rh, kb, none⟩ = some (.int .i64 (xb : Int)) := HCB.out w11 rh (Rh.kp M12.kp FH.out)
          have hel := enc_length dist HH.out.d15 kb
          have hbb4 : (bk2 ++ bitsOf dl yl ++ enc dist kb).length ≤ 500000 := by rw [List.length_append]; omega
          have hp2 := fun W h => sput_calls g r11 (bk2 ++ bitsOf dl yl ++ enc dist kb) db yb W h (by omega) (by omega) (by omega)
          have HW11 := Lib.hid hw11
          have HP2 := Lib.hid hp2
          have hgS := hw11.glt
          have hrS := M12.lt (Nat.lt_of_lt_of_le hr OW.size)
          clear hp2 hw11 hel
          generalize hbk3 : bk2 ++ bitsOf dl yl ++ enc dist kb = bk3 at *
          have HBK3 := Lib.hid hbk3
          clear hbk3
          have frh : rh ∉ [g, r11] := M12.out Rh.lt FH.out
          have FRH := Lib.hid frh
          clear frh
          go_upto_region 15 with fail
          have kz : ((kb : Nat) : Int) < 30 := by omega
          have kz2 : ((kb : Nat) : Int) < ((backBits.length : Nat) : Int) := by rw [show backBits.length = 30 from rfl]; omega
          have CE : ∀ W, Kp [g, r11] w11 W → W.cell? ⟨B, 2, none⟩ = some (.int .i64 (tkn : Int)) := fun W h => (h.cell B11.lt FB11.out).trans i2
          have CT : ∀ W, Kp [g, r11] w11 W → W.cell? ⟨rh, kb, none⟩ = some (.int .i64 (xb : Int)) := fun W h => (h.cell (World.block_lt_of_cell? w11 _ i3) FRH.out).trans i3
          refine wp_region_held_drew (S := fun W => Kp [g, r11] w11 W) (by kernel_rfl) (Kp.refl _ _).drew (fun hHeld => ?_)
          refine Tk.tk 0 ?_ rfl (.inl ⟨by rfl, ?_⟩) ?_
          rotate_left
          · intro w hSw; go_simp; first | done | with_reducible rfl
          try simp only [Act.put, Tk.s3]
          refine Tk.tk 1 ?_ rfl (.inl ⟨by rfl, ?_⟩) ?_
          rotate_left
          · intro w hSw; go_simp; first | done | with_reducible rfl
          try simp only [Act.put, Tk.s3]
          refine Tk.tk 2 ?_ rfl (.inl ⟨by rfl, ?_⟩) ?_
          rotate_left
          · intro w hSw; go_simp; first | done | with_reducible rfl
          try simp only [Act.put, Tk.s3]
          refine Tk.tk 3 ?_ rfl (.inl ⟨by rfl, ?_⟩) ?_
          rotate_left
          · intro w hSw; go_simp; first | done | with_reducible rfl
          try simp only [Act.put, Tk.s3]
          refine Tk.tk 4 ?_ rfl (.inl ⟨by rfl, ?_⟩) ?_
          rotate_left
          · intro w hSw; go_simp; first | done | with_reducible rfl
          try simp only [Act.put, Tk.s3]
          refine Tk.tk 5 ?_ rfl (.inl ⟨by rfl, ?_⟩) ?_
          rotate_left
          · intro w hSw; go_simp; first | done | with_reducible rfl
          try simp only [Act.put, Tk.s3]
          refine Tk.tk 6 ?_ rfl (.inl ⟨by rfl, ?_⟩) ?_
          rotate_left
          · intro w hSw; go_simp; first | done | with_reducible rfl
          try simp only [Act.put, Tk.s3]
          refine Tk.tk 7 ?_ rfl (.inl ⟨by rfl, ?_⟩) ?_
          rotate_left
          · intro w hSw; go_simp; first | done | with_reducible rfl
          try simp only [Act.put, Tk.s3]
          refine Tk.tk 9 ?_ rfl (.inl ⟨by rfl, ?_⟩) ?_
          rotate_left
          · intro w hSw; go_simp; first | done | with_reducible rfl
          try simp only [Act.put, Tk.s3]
          refine Tk.rd 8 rfl fun K hK => ?_
          go_simp
          refine (sback_calls _).mono ?_
          rintro e wA ⟨rf, cf, rfl, Nf, hf1, hf2, O8⟩
          have KA := hHeld.then (Kp.of [g, r11] O8)
          have CA : ∀ W, Kp [g, r11] wA W → W.cell? ⟨rf, kb, none⟩ = some (.int .i64 (yb : Int)) := fun W h => (h.cell hf2 (show rf ∉ [g, r11] from not_in (by have := hHeld.size; omega) (by have := hHeld.size; omega))).trans (HCBB.out wA rf Nf.row.1.toO)
          refine hK.out _ _ KA (fun hHeld => ?_)
          clear hK K
          try simp only [Act.put, Tk.s3]
          refine wpAnyH_strong (S' := fun W => Kp [g, r11] wA W) (fun W h => KA.then h) ?_
          have hHeld2 : (fun W => Kp [g, r11] wA W) wA := Kp.refl _ _
          refine Tk.tk 10 ?_ rfl (.inl ⟨by rfl, ?_⟩) ?_
          rotate_left
          · intro w hSw; go_simp; first | done | with_reducible rfl
          try simp only [Act.put, Tk.s3]
          refine Tk.tk 11 ?_ rfl (.inl ⟨by rfl, ?_⟩) ?_
          rotate_left
          · intro w hSw; go_simp; first | done | with_reducible rfl
          try simp only [Act.put, Tk.s3]
          refine Tk.rd 12 rfl fun K hK => ?_
          go_simp
          refine (HP2.out _ (HW11.out.on ((On.refl w11).drew.call O8))).mono ?_
          rintro e w9 ⟨r9, rfl, hw9, M9⟩
          refine hK.out _ _ M9.kp (fun hHeld => ?_)
          clear hK K
          try simp only [Act.put, Tk.s3]
          refine wpAnyH_done (by kernel_rfl) ?_ _
          have OO := (On.refl w11).drew.call O8
          go_wp2_with fail
          refine ⟨⟨k + 1, r9, by go_num, by omega, ?_, M12.trans ((mv_on g r11 OO).trans M9)⟩, by simp [intOf]; omega⟩
          rw [HST.out, HEN.out, ← List.append_assoc, ← List.append_assoc, ← List.append_assoc, HBK2.out, HBK3.out]
          exact hw9
    · obtain rfl : k = n := by omega
      have hfl := flat_le HF.out HH.out.l15 HH.out.d15 k
      have htk : l.take k = l := List.take_of_length_le (by rw [HN.out]; exact Nat.le_refl _)
      rw [htk] at hwr hfl
      have hbl : (bs ++ l.flatMap (encTok lit dist)).length ≤ 200000 := by rw [List.length_append]; omega
      have h256 := lt_of_getD HH.out.last
      have hco := code_lt HH.out.fl h256 HH.out.last (getD_le HH.out.l15 _)
      have hc := sym_calls g r' _ lit gl ol nl cl ra nl ca 256 wr hwr (by omega) (hl2.kp M.kp FL.out) (Ra.kp M.kp FA.out) HNL.out rfl h256 (getD_le HH.out.l15 _) hco
      have HC := Lib.hid hc
      clear hc htk hwr
      go_wp2_with fail
      refine HC.out.mono ?_
      rintro e w7 ⟨r7, rfl, hw7, M7⟩
      go_wp2_with fail
      go_end0
      refine ⟨r7, rfl, ?_, (mv_on g r OW).trans (M.trans M7)⟩
      unfold encToks
      rw [← List.append_assoc]
      exact hw7
end Go.Proofs.YtnadjlejlohgiaaGreatDoor.Wi

