/- Own texts joined: Hq, Hr, WTokS, WStore, WFixed, Ow, Ht, Lt, He, Hg. -/
import Derived.Test.YtncidljdfipigaaDoorZ0
import Derived.Test.YtncidljdfipigaaDoorZ1
import Derived.Test.YtncidljdfipigaaDoorZ3
import Derived.Test.YtncidljdfipigaaDoorZ4
import Derived.Test.YtncidljdfipigaaDoorZ5
import Derived.Test.YtncidljdfipigaaDoorZ8
import Derived.Test.YtncidljdfipigaaDoorZ9
/- How often symbols come, and lengths written by a code of their own, as the specification does it. Conditions: tokens that make a text; sizes. -/
namespace Go.Proofs.YtncidljdfipigaaDoor.Wi
open Go.RowKit Go.Proofs.YtncidljdfipigaaDoor.Mem Go.Proofs.YtncidljdfipigaaDoor.Bt Go.Proofs.YtncidljdfipigaaDoor.Cd Go.Proofs.YtncidljdfipigaaDoor.De Go.Proofs.YtncidljdfipigaaDoor.En Go.Proofs.YtncidljdfipigaaDoor.Lz Go.Proofs.YtncidljdfipigaaDoor.Hf
set_option linter.unusedVariables false
set_option linter.unusedSimpArgs false
/-- What a contract tells that counts symbols. -/
structure Cnts (w : World) (l : List Tok) (e : Ending) (w' : World) : Prop where mk ::
  out : ∃ ra ca rb cb, e = .returned (.tuple #[.slice (some ⟨ra, 0, none⟩) 286 ca, .slice (some ⟨rb, 0, none⟩) 30 cb]) ∧ Nums w' ra (.slice (some ⟨ra, 0, none⟩) 286 ca) (cntL l) ∧ Nums w' rb (.slice (some ⟨rb, 0, none⟩) 30 cb) (cntB l) ∧ w.heap.size ≤ ra ∧ w.heap.size ≤ rb ∧ On w w'
set_option maxRecDepth 100000 in
set_option maxHeartbeats 1000000 in
theorem scounts_calls (l : List Tok) (q n cap : Nat) (w : World) (hq : Row w q 67 (tokCells l)) (hn : l.length = n) (hn2 : n ≤ 1000) (hnc : n ≤ cap) (F : ∀ t ∈ l, Fine [] [] t) :
    Calls Tryd.prog 91 #[.slice (some ⟨q, 0, none⟩) n cap] w (Cnts w l) := by
  have HN := Lib.hid hn
  have HF := Lib.hid F
  have hql := hq.lt
  clear hn F
  go_enter Tryd.func91, Tryd.ntmps91
  go_upto_region 2 with (at_make; go_must (refine wpList_ints _ rfl _ _ rfl _ _ 286 rfl rfl rfl rfl (by omega) ?_); intro w1 N1 O1 hlt1)
  go_upto_region 3 with (at_make; go_must (refine wpList_ints _ rfl _ _ rfl _ _ 30 rfl rfl rfl rfl (by omega) ?_); intro w2 N2 O2 hlt2)
  generalize hA : w.heap.size = A at *
  generalize hB : w1.heap.size = B at *
  go_wp2_with fail
  refine (slong_calls w2).mono ?_
  rintro e w3 ⟨rc, cc, rfl, Nc, hc1, hc2, O3⟩
  go_wp2_with fail
  refine (sbase_calls longBits rc 0 28 cc 3 w3 (Nc.row.1.toO) rfl (by omega) (Nc.row.2.2.1) (by decide) (by omega)).mono ?_
  rintro e w4 ⟨re, ce, rfl, Ne, he1, he2, O4⟩
  go_wp2_with fail
  refine (sback_calls w4).mono ?_
  rintro e w5 ⟨rf, cf, rfl, Nf, hf1, hf2, O5⟩
  go_wp2_with fail
  refine (sbase_calls backBits rf 0 30 cf 1 w5 (Nf.row.1.toO) rfl (by omega) (Nf.row.2.2.1) (by decide) (by omega)).mono ?_
  rintro e w6 ⟨rh, ch, rfl, Nh, hh1, hh2, O6⟩
  have O56 := O5.call O6
  have O46 := O4.call O56
  have O36 := O3.call O46
  have O26 := O2.call O36
  have OW := O1.call O26
  have Re : RowO w6 re 0 3 (i64s longBase) := (Ne.on O56).row.1.toO
  have Rh : RowO w6 rh 0 3 (i64s backBase) := Nh.row.1.toO
  have hq6 := hq.on OW
  have hz1 := O1.size
  have hz2 := O2.size
  have hz3 := O3.size
  have hz4 := O4.size
  have hz5 := O5.size
  have hce : 28 ≤ ce := Ne.row.2.2.1
  have hch : 30 ≤ ch := Nh.row.2.2.1
  rw [show (base 3 longBits).length = 28 from rfl, show (base 1 backBits).length = 30 from rfl]
  have NA := N1.on O26
  have NB := N2.on O36
  have ca0 := NA.row.1.cell (i64s_get (show 256 < (List.replicate 286 0).length by rw [List.length_replicate]; omega))
  have fa0 : w6.frozen? ⟨A, 256, none⟩ = false := NA.row.1.frozen _
  have NAs := NA.set 256 1
  rw [← cntLTo_zero l] at NAs
  have K0 : Kp [A, B] w6 (w6.setCell ⟨A, 256, none⟩ (.int .i64 ((1 : Nat) : Int))) := (Kp.refl _ _).set (.inl (by simp)) _
  have NBs := NB.kp ((Kp.refl [A] w6).set (p := ⟨A, 256, none⟩) (.inl (by simp)) (.int .i64 ((1 : Nat) : Int))) (by simp; omega)
  rw [← cntBTo_zero l] at NBs
  clear Nc Ne Nf Nh N1 N2 NA NB
  go_wp2_with fail
  go_loopw [8] (fun x wr => ∃ (k : Nat), x = .int .i64 (k : Int) ∧ k ≤ n ∧ Nums wr A (.slice (some ⟨A, 0, none⟩) 286 286) (cntLTo l k) ∧ Nums wr B (.slice (some ⟨B, 0, none⟩) 30 30) (cntBTo l k) ∧ Kp [A, B] w6 wr) (fun x _ => n - (intOf x).toNat)
  case atStart => exact ⟨0, rfl, by omega, NAs, NBs, K0⟩
  case round =>
    obtain ⟨k, rfl, hk, NA, NB, K⟩ := hrel
    clear NAs NBs K0 ca0 fa0
    by_cases hlt : k < n
    · have hkl : k < l.length := by rw [HN.out]; exact hlt
      obtain ⟨t0, t1, t2⟩ := tok_get hkl
      have Ft := HF.out _ (List.getElem_mem hkl)
      have R := K.row hq6 (by simp; omega)
      have c0 := R.cell t0
      have c1 := R.cell t1
      have c2 := R.cell t2
      have hLs := cntLTo_succ hkl
      have hBl := cntBTo_long hkl
      have hBb := cntBTo_byte hkl
      have hsl := symL_lt Ft
      have hlL := cntLTo_length l k
      have hlB := cntBTo_length l k
      have hbL := cntLTo_le l k
      have hbB := cntBTo_le l k
      generalize l[k] = t at *
      obtain ⟨tb, tl, tk⟩ := t
      simp only at c0 c1 c2 hLs hBl hBb
      clear t0 t1 t2
      have fA : ∀ i, wr.frozen? ⟨A, i, none⟩ = false := NA.row.1.frozen
      have fB : ∀ i, wr.frozen? ⟨B, i, none⟩ = false := NB.row.1.frozen
      by_cases h0 : tl = 0
      · subst h0
        have hbyte := Ft.byte rfl
        obtain ⟨b, hb⟩ := Int.eq_ofNat_of_zero_le hbyte.1
        simp only at hb
        subst hb
        have hsy : symL ⟨(b : Int), 0, tk⟩ = b := by unfold symL; rw [if_pos rfl]; rfl
        have hB1 := hBb rfl
        clear hBb
        simp only [Int.ofNat_eq_natCast] at *
        rw [hsy] at hLs hsl
        have d0 := NA.row.1.cell (i64s_get (show b < (cntLTo l k).length by rw [hlL]; exact hsl))
        have hv := Cd.getD_le hbL b
        generalize (cntLTo l k).getD b 0 = v at *
        have HLs := Lib.hid hLs
        have HB1 := Lib.hid hB1
        have hb286 : (b : Int) < 286 := by omega
        have hb0 : (0 : Int) ≤ (b : Int) := by omega
        have e1 : IntKind.i64.wrap ((v : Int) + 1) = ((v + 1 : Nat) : Int) := by rw [IntKind.wrap_i64]; omega
        clear hsy hLs hB1 hBl hlL hlB hbL hbB hsl Ft hbyte
        go_wp2_with fail
        go_region
        go_wp2_with fail
        go_roundw
        case rel =>
          have D := (On.refl wr).drew
          have S := (NA.on D).set b (v + 1)
          rw [← HLs.out] at S
          refine ⟨k + 1, by go_num, by omega, S, ?_, K.drew.set (.inl (by simp)) _⟩
          rw [HB1.out]
          exact (NB.on D).kp ((Kp.refl [A] _).set (p := ⟨A, b, none⟩) (.inl (by simp)) _) (by simp; omega)
        case measure => simp [intOf]; omega
      · obtain ⟨l3, l60, k1, k250⟩ := Ft.long h0
        simp only at l3 l60 k1 k250
        obtain ⟨tln, rfl⟩ := Int.eq_ofNat_of_zero_le (show 0 ≤ tl by omega)
        obtain ⟨tkn, rfl⟩ := Int.eq_ofNat_of_zero_le (show 0 ≤ tk by omega)
        have hsy : symL ⟨tb, (tln : Int), (tkn : Int)⟩ = 257 + lad longBase tln := by unfold symL; rw [if_neg (by simp; omega)]; rfl
        simp only [Int.ofNat_eq_natCast, Int.toNat_natCast] at *
        have h0' : ((tln : Int) == 0) = false := by simp; omega
        rw [hsy] at hLs hsl
        have hB1 := hBl h0
        obtain ⟨a1, a2, a3, a4⟩ := lad_long tln (by omega) (by omega)
        obtain ⟨b1, b2, b3, b4⟩ := lad_back tkn (by omega) (by omega)
        have hsL := fun W (R : RowO W re 0 3 (i64s longBase)) => ssym_calls longBase re 28 ce tln W R (by decide) (by omega) hce (by omega) (by show 3 ≤ tln; omega) long_rising (by omega)
        have hsB := fun W (R : RowO W rh 0 3 (i64s backBase)) => ssym_calls backBase rh 30 ch tkn W R (by decide) (by omega) hch (by omega) (by show 1 ≤ tkn; omega) back_rising (by omega)
        have hcL : ∀ W, Nums W A (.slice (some ⟨A, 0, none⟩) 286 286) (cntLTo l k) → _ := fun W h => h.row.1.cell (i64s_get (show 257 + lad longBase tln < (cntLTo l k).length by rw [hlL]; exact hsl))
        have hcB : ∀ W, Nums W B (.slice (some ⟨B, 0, none⟩) 30 30) (cntBTo l k) → _ := fun W h => h.row.1.cell (i64s_get (show lad backBase tkn < (cntBTo l k).length by rw [hlB]; exact b1))
        have hvL := Cd.getD_le hbL (257 + lad longBase tln)
        have hvB := Cd.getD_le hbB (lad backBase tkn)
        generalize lad longBase tln = kl at *
        generalize lad backBase tkn = kb at *
        generalize (cntLTo l k).getD (257 + kl) 0 = vl at *
        generalize (cntBTo l k).getD kb 0 = vb at *
        have HSL := Lib.hid hsL
        have HSB := Lib.hid hsB
        have HCL := Lib.hid hcL
        have HCB := Lib.hid hcB
        have HLs := Lib.hid hLs
        have HB1 := Lib.hid hB1
        have ReA := Re.kp K (by simp; omega)
        have RhA := fun W (h : Kp [A, B] w6 W) => Rh.kp h (by simp; omega)
        have HRH := Lib.hid RhA
        have HC2 := Lib.hid (show ∀ W, Kp [A, B] w6 W → W.cell? ⟨q, k * 3 + 2, none⟩ = some (.int .i64 (tkn : Int)) from fun W h => (K.cell (p := ⟨q, k * 3 + 2, none⟩) (by exact hq6.lt) (by simp; omega)).symm.trans c2 ▸ h.cell (p := ⟨q, k * 3 + 2, none⟩) (by exact hq6.lt) (by simp; omega))
        clear hsL hsB hcL hcB hsy hLs hB1 hBl hBb hlL hlB hbL hbB Ft hsl RhA
        go_wp2_with fail
        refine (HSL.out wr ReA).mono ?_
        rintro e w7 ⟨rfl, O7⟩
        have NA7 := NA.on O7
        have NB7 := NB.on O7
        have K7 := K.then (Kp.of _ O7)
        have dA := HCL.out w7 NA7
        have fA7 : w7.frozen? ⟨A, 257 + kl, none⟩ = false := NA7.row.1.frozen _
        have S := NA7.set (257 + kl) (vl + 1)
        rw [← HLs.out] at S
        have NB8 := NB7.kp ((Kp.refl [A] _).set (p := ⟨A, 257 + kl, none⟩) (.inl (by simp)) (.int .i64 ((vl + 1 : Nat) : Int))) (by simp; omega)
        have K8 := K7.set (p := ⟨A, 257 + kl, none⟩) (.inl (by simp)) (.int .i64 ((vl + 1 : Nat) : Int))
        have c2' := HC2.out _ K8
        rw [show ((vl + 1 : Nat) : Int) = (vl : Int) + 1 from by omega] at S NB8 K8 c2'
        clear NA7 NB7 K7 c0 c1 c2 fA fB
        go_wp2_with fail
        have RhA := HRH.out _ K8
        generalize w7.setCell ⟨A, 257 + kl, none⟩ (.int .i64 ((vl : Int) + 1)) = w8 at *
        refine (HSB.out w8 RhA).mono ?_
        rintro e w9 ⟨rfl, O9⟩
        have NA9 := S.on O9
        have NB9 := NB8.on O9
        have K9 := K8.then (Kp.of _ O9)
        have dB := HCB.out w9 NB9
        have fB9 : w9.frozen? ⟨B, kb, none⟩ = false := NB9.row.1.frozen _
        have S2 := NB9.set kb (vb + 1)
        rw [← HB1.out] at S2
        have NA10 := NA9.kp ((Kp.refl [B] _).set (p := ⟨B, kb, none⟩) (.inl (by simp)) (.int .i64 ((vb + 1 : Nat) : Int))) (by simp; omega)
        have K10 := K9.set (p := ⟨B, kb, none⟩) (.inl (by simp)) (.int .i64 ((vb + 1 : Nat) : Int))
        rw [show ((vb + 1 : Nat) : Int) = (vb : Int) + 1 from by omega] at S2 NA10 K10
        have hkb' : (kb : Int) < 30 := by omega
        clear NA9 NB9 K9 S NB8 K8 c2'
        go_wp2_with fail
        go_roundw
        case rel => exact ⟨k + 1, by go_num, by omega, NA10, S2, K10⟩
        case measure => simp [intOf]; omega
    · obtain rfl : k = n := by omega
      have hCB := cntB_is HF.out
      have hCL := cntLTo_all l
      rw [HN.out] at hCB hCL
      rw [hCL] at NA
      have hlB := cntBTo_length l k
      have hus := Lib.hid (sused_calls (cntBTo l k) B 0 30 30 wr NB.row.1.toO hlB (by omega) (Nat.le_refl _))
      generalize hcb : cntBTo l k = cb at *
      obtain ⟨us, hus2⟩ : ∃ us, used cb = us := ⟨_, rfl⟩
      rw [hus2] at hus hCB
      have HCB := Lib.hid hCB
      have hAB : A ≠ B := by omega
      have hAs : w.heap.size ≤ A := by omega
      have hBs : w.heap.size ≤ B := by omega
      have OWt := OW
      have hz6 := O26.size
      clear hCB hCL hcb hus2
      go_wp2_with fail
      refine hus.out.mono ?_
      rintro e w7 ⟨rfl, O7⟩
      have K7 := K.then (Kp.of _ O7)
      have NA7 := NA.on O7
      have NB7 := NB.on O7
      have O8 : On w w7 := K7.on OWt (fun x hx => by simp at hx; omega)
      by_cases h0 : us = 0
      · have h0' : ((us : Int) == 0) = true := by simp; omega
        have d0 := NB7.row.1.cell (i64s_get (show 0 < cb.length by rw [hlB]; omega))
        have fB7 : w7.frozen? ⟨B, 0, none⟩ = false := NB7.row.1.frozen _
        have S := NB7.set 0 1
        have NA8 := NA7.kp ((Kp.refl [B] _).set (p := ⟨B, 0, none⟩) (.inl (by simp)) (.int .i64 ((1 : Nat) : Int))) (by simpa using hAB)
        have O9 := O8.set (p := ⟨B, 0, none⟩) hBs (.int .i64 ((1 : Nat) : Int))
        have HC : RowKit.Hid (cntB l = cb.set 0 1) := Lib.hid (by rw [HCB.out, if_pos h0])
        rw [← HC.out] at S
        clear h0 hlB NB7 NA7 hus
        go_wp2_with fail
        go_ret2
        exact ⟨A, 286, B, 30, rfl, NA8, S, hAs, hBs, O9⟩
      · have h0' : ((us : Int) == 0) = false := by simpa using h0
        have HC : RowKit.Hid (cntB l = cb) := Lib.hid (by rw [HCB.out, if_neg h0])
        rw [← HC.out] at NB7
        clear h0 hlB hus
        go_wp2_with fail
        go_ret2
        exact ⟨A, 286, B, 30, rfl, NA7, NB7, hAs, hBs, O8⟩
end Go.Proofs.YtncidljdfipigaaDoor.Wi

/- Lengths written by a code of their own, as the specification does it. Conditions: lengths of two codes; sizes. -/
namespace Go.Proofs.YtncidljdfipigaaDoor.Wi
open Go.RowKit Go.Proofs.YtncidljdfipigaaDoor.Mem Go.Proofs.YtncidljdfipigaaDoor.Bt Go.Proofs.YtncidljdfipigaaDoor.Cd Go.Proofs.YtncidljdfipigaaDoor.De Go.Proofs.YtncidljdfipigaaDoor.En Go.Proofs.YtncidljdfipigaaDoor.Lz Go.Proofs.YtncidljdfipigaaDoor.Hf
set_option linter.unusedVariables false
set_option linter.unusedSimpArgs false
theorem order_lt' : ∀ i, i < 19 → order.getD i 0 < 19 := by decide
theorem sord_calls (w : World) : Calls Tryd.prog 129 #[] w fun e w' => ∃ r, e = .returned (.slice (some ⟨r, 0, none⟩) 19 19) ∧ RowO w' r 0 3 (i64s order) ∧ w.heap.size ≤ r ∧ On w w' := by
  go_enter Tryd.func129, Tryd.ntmps129
  go_wp2_with fail
  go_ret
  exact ⟨w.heap.size, rfl, (Row.of (Blk.new w 3 _)).toO, Nat.le_refl _, (On.refl w).alloc _⟩
set_option maxRecDepth 100000 in
set_option maxHeartbeats 1000000 in
theorem sputlens_calls (g r gl nl cl gd nd cd : Nat) (bs : List Bool) (lit dist : List Nat) (w : World) (hw : SW w g r bs) (hr : r < w.heap.size) (hb : bs.length ≤ 1000) (hl : RowO w gl 0 3 (i64s lit)) (hd : RowO w gd 0 3 (i64s dist))
    (hnl : lit.length = nl) (hnd : dist.length = nd) (l1 : 257 ≤ nl) (l2 : nl ≤ 286) (d1 : 1 ≤ nd) (d2 : nd ≤ 30) (hnlc : nl ≤ cl) (hndc : nd ≤ cd) (l15 : ∀ x ∈ lit, x ≤ 15) (d15 : ∀ x ∈ dist, x ≤ 15) :
    Calls Tryd.prog 94 #[.pointer (some ⟨g, 0, none⟩), .slice (some ⟨gl, 0, none⟩) nl cl, .slice (some ⟨gd, 0, none⟩) nd cd] w fun e w' => ∃ r', e = .returned (.tuple #[]) ∧ SW w' g r' (bs ++ headBits lit dist) ∧ Mv g r w r' w' := by
  obtain ⟨N, hN⟩ : ∃ N, nl + nd = N := ⟨_, rfl⟩
  obtain ⟨all, hall⟩ : ∃ all, lit ++ dist = all := ⟨_, rfl⟩
  have hal : all.length = N := by rw [← hall, List.length_append]; omega
  have ha15 : ∀ x ∈ all, x ≤ 15 := by
    intro x hx
    rw [← hall] at hx
    rcases List.mem_append.1 hx with h | h
    · exact l15 x h
    · exact d15 x h
  have hane : all ≠ [] := by intro e; rw [e] at hal; simp at hal; omega
  have hM := ownMeta_ok ha15 hane
  have hMp := meta_pos ha15 hane
  have hgl := hw.glt
  have HW := Lib.hid hw
  have HN := Lib.hid hN
  have HALL := Lib.hid hall
  have HAL := Lib.hid hal
  have HA15 := Lib.hid ha15
  have HM := Lib.hid hM
  have HMP := Lib.hid hMp
  have HNL := Lib.hid hnl
  have HND := Lib.hid hnd
  have hN3 : N ≤ 316 := by omega
  have hN0 : 258 ≤ N := by omega
  obtain ⟨na, hna⟩ : ∃ na, nl - 257 = na := ⟨_, rfl⟩
  obtain ⟨nb, hnb⟩ : ∃ nb, nd - 1 = nb := ⟨_, rfl⟩
  have ea : (nl : Int) - 257 = (na : Int) := by omega
  have eb : (nd : Int) - 1 = (nb : Int) := by omega
  have hna2 : na ≤ 29 := by omega
  have hnb2 : nb ≤ 29 := by omega
  have HNA := Lib.hid hna
  have HNB := Lib.hid hnb
  have HEA := Lib.hid ea
  have HEB := Lib.hid eb
  have hq0 : 0 + nl = nl := Nat.zero_add nl
  have HQ0 := Lib.hid hq0
  clear hw hN hall hal ha15 hM hMp hnl hnd hane l15 d15 hna hnb ea eb hq0
  have NE := Own.new (base := w.heap.size) w 3 1 #[] 0 (Nat.zero_le _) rfl (Nat.le_refl _)
  have OE := (On.refl w).alloc (.cells #[] 3)
  have REl := hl.on OE
  go_enter Tryd.func94, Tryd.ntmps94
  go_upto_region 1 with (at_builtin; first | ((refine wpList_adds rfl _ _ rfl w (xs := []) (l := lit) (q := nl) rfl NE OE rfl REl HNL.out HQ0.out (by omega) ?_); intro v1 w1 hown1 O1 _; rw [List.nil_append] at hown1; have REd := hd.on O1) | ((refine wpList_adds rfl _ _ rfl w (xs := lit) (l := dist) (q := N) rfl hown1 O1 rfl REd HND.out HN.out (by omega) ?_); intro v2 w2 hown2 O2 _))
  rw [HALL.out] at hown2
  obtain ⟨A, cA, rfl, NA, hA, hAl⟩ := own_nums hown2 HAL.out
  have hcA := NA.row.2.2.1
  clear NE OE REl hown1 O1 REd hown2
  go_upto_region 2 with (at_make; go_must (refine wpList_ints _ rfl _ _ rfl _ _ 19 rfl rfl rfl rfl (by omega) ?_); intro w3 N3 O3 hlt3)
  obtain ⟨C, hC⟩ : ∃ C, w2.heap.size = C := ⟨_, rfl⟩
  rw [hC] at N3 hlt3 ⊢
  have hz2 := O2.size
  have O23 := O2.call O3
  have NA3 := NA.on O3
  clear NA
  go_wp2_with fail
  go_loopw [8] (fun x wr => ∃ (k : Nat), x = .int .i64 (k : Int) ∧ k ≤ N ∧ Nums wr C (.slice (some ⟨C, 0, none⟩) 19 19) (bump (List.replicate 19 0) (all.take k)) ∧ Kp [C] w3 wr) (fun x _ => N - (intOf x).toNat)
  case atStart => exact ⟨0, rfl, by omega, by rw [List.take_zero]; exact N3, Kp.refl _ _⟩
  case round =>
    obtain ⟨k, rfl, hk, NC, K⟩ := hrel
    clear N3
    by_cases hlt : k < N
    · have hkl : k < all.length := by rw [HAL.out]; exact hlt
      have c0 := (K.row NA3.row.1 (by simp; omega)).cell (i64s_get hkl)
      have hx15 := Cd.getD_le HA15.out k
      have hst := cntM_succ hkl
      generalize all.getD k 0 = x at *
      have hln : (bump (List.replicate 19 0) (all.take k)).length = 19 := by rw [bump_length, List.length_replicate]
      have d0 := NC.row.1.cell (i64s_get (show x < (bump (List.replicate 19 0) (all.take k)).length by rw [hln]; omega))
      have hv := Cd.getD_le (cntM_le all k) x
      generalize (bump (List.replicate 19 0) (all.take k)).getD x 0 = v at *
      have fC : ∀ i, wr.frozen? ⟨C, i, none⟩ = false := NC.row.1.frozen
      have e1 : IntKind.i64.wrap ((v : Int) + 1) = ((v + 1 : Nat) : Int) := by rw [IntKind.wrap_i64]; omega
      have HST := Lib.hid hst
      have hx19 : (x : Int) < 19 := by omega
      have hx0 : (0 : Int) ≤ (x : Int) := by omega
      have hkN : (k : Int) < (N : Int) := by omega
      clear hst hln
      go_wp2_with fail
      go_region
      go_wp2_with fail
      go_roundw
      case rel =>
        have D := (On.refl wr).drew
        have S := (NC.on D).set x (v + 1)
        rw [← HST.out] at S
        exact ⟨k + 1, by go_num, by omega, S, K.drew.set (.inl (by simp)) _⟩
      case measure => simp [intOf]; omega
    · obtain rfl : k = N := by omega
      have e0 : all.take k = all := List.take_of_length_le (by rw [HAL.out]; exact Nat.le_refl _)
      rw [e0] at NC
      have hln : (bump (List.replicate 19 0) all).length = 19 := by rw [bump_length, List.length_replicate]
      have hle : ∀ x ∈ bump (List.replicate 19 0) all, x ≤ 100000 := fun x hx => by
        have := cntM_le all k
        rw [e0] at this
        have := this x hx
        omega
      have hfc := Lib.hid (sfit_calls (bump (List.replicate 19 0) all) C 0 19 19 7 wr NC.row.1.toO hln (by omega) (Nat.le_refl _) hle (by omega) (by omega) HMP.out (by rw [show 7 + 3 = 10 from rfl, fib10]; omega))
      clear hln hle e0
      go_wp2_with fail
      refine hfc.out.mono ?_
      rintro e w4 ⟨rM, cM, rfl, NM, hM1, hM2, O4⟩
      have em : fit 7 (bump (List.replicate 19 0) all) = ownMeta all := rfl
      rw [em] at NM ⊢
      rw [HM.out.len] at NM ⊢
      have hcM := NM.row.2.2.1
      have HM2 : RowKit.Hid (Meta all (ownMeta all)) := HM
      obtain ⟨m, hm⟩ : ∃ m, ownMeta all = m := ⟨_, rfl⟩
      rw [hm] at NM HM2
      have HMM := Lib.hid hm
      clear em hm hfc HM
      go_wp2_with fail
      refine (scodes_calls m rM 0 19 cM w4 NM.row.1.toO HM2.out.len (by omega) hcM).mono ?_
      rintro e w5 ⟨rK, cK, rfl, NK, hK1, hK2, O5⟩
      rw [codes_length, HM2.out.len] at NK ⊢
      have hcK := NK.row.2.2.1
      have O45 := O4.call O5
      have O5t : On w w5 := (K.on O23 (fun x hx => by simp at hx; omega)).call O45
      have RM : RowO w5 rM 0 3 (i64s m) := (NM.on O5).row.1.toO
      have RK : RowO w5 rK 0 3 (i64s (codes m)) := NK.row.1.toO
      have RA : RowO w5 A 0 3 (i64s all) := ((K.row NA3.row.1 (by simp; omega)).on O45).toO
      have hzk := K.size
      have hz4 := O4.size
      have hz3 := O3.size
      have FM : RowKit.Hid (rM ∉ [g, r]) := Lib.hid (not_in (by omega) (by omega))
      have FK : RowKit.Hid (rK ∉ [g, r]) := Lib.hid (not_in (by omega) (by omega))
      have FA : RowKit.Hid (A ∉ [g, r]) := Lib.hid (not_in (by omega) (by omega))
      have hw5 := HW.out.on O5t
      have hp1 := Lib.hid (sput_calls g r bs na 5 w5 hw5 (by omega) (by omega) (by omega))
      have ea := HEA.out
      clear hw5 NM NK NC NA3
      go_wp2_with fail
      refine hp1.out.mono ?_
      rintro e w6 ⟨r6, rfl, hw6, M6⟩
      have hp2 := Lib.hid (sput_calls g r6 _ nb 5 w6 hw6 (by omega) (by rw [List.length_append, bits_length]; omega) (by omega))
      have eb := HEB.out
      clear hw6 hp1 ea
      go_wp2_with fail
      refine hp2.out.mono ?_
      rintro e w7 ⟨r7, rfl, hw7, M7⟩
      have hp3 := Lib.hid (sput_calls g r7 _ 15 4 w7 hw7 (by omega) (by rw [List.length_append, List.length_append, bits_length, bits_length]; omega) (by omega))
      clear hw7 hp2 eb
      go_wp2_with fail
      refine hp3.out.mono ?_
      rintro e w8 ⟨r8, rfl, hw8, M8⟩
      have M58 := (M6.trans M7).trans M8
      obtain ⟨b3, hb3⟩ : ∃ b3, bs ++ bitsOf na 5 ++ bitsOf nb 5 ++ bitsOf 15 4 = b3 := ⟨_, rfl⟩
      have hl3 : b3.length = bs.length + 14 := by rw [← hb3]; simp only [List.length_append, bits_length]
      rw [hb3] at hw8
      have HB3 := Lib.hid hb3
      have HL3 := Lib.hid hl3
      have HW8 := Lib.hid hw8
      clear hb3 hl3 hw8 hp3 M6 M7 M8
      have hr5 : r < w5.heap.size := Nat.lt_of_lt_of_le hr O5t.size
      go_wp2_with fail
      go_loopw [11] (fun x wr => ∃ (k r' : Nat), x = .int .i64 (k : Int) ∧ k ≤ 19 ∧ SW wr g r' (b3 ++ (order.take k).flatMap fun j => bitsOf (m.getD j 0) 3) ∧ Mv g r w5 r' wr) (fun x _ => 19 - (intOf x).toNat)
      case atStart => exact ⟨0, r8, rfl, by omega, by rw [List.take_zero]; simpa using HW8.out, M58⟩
      case round =>
        obtain ⟨k2, r9, rfl, hk2, hw9, M9⟩ := hrel
        clear M58
        by_cases hlt2 : k2 < 19
        · have hko : k2 < order.length := hlt2
          have hk2' : (k2 : Int) < 19 := by omega
          have hco := fun W r3 (R : RowO W r3 0 3 (i64s order)) => R.cell (i64s_get hko)
          have hol := order_lt' k2 hlt2
          have hfs := flat_succ (fun j => bitsOf (m.getD j 0) 3) hko
          generalize hx : order.getD k2 0 = o at *
          have hcm := fun W (R : RowO W rM 0 3 (i64s m)) => R.cell (i64s_get (show o < m.length by rw [HM2.out.len]; exact hol))
          have hx7 := Cd.getD_le HM2.out.le o
          have hfl : ((order.take k2).flatMap fun j => bitsOf (m.getD j 0) 3).length ≤ 19 * 3 := by
            have := flat_len (order.take k2) (fun j => bitsOf (m.getD j 0) 3) (m := 3) (fun x => by rw [bits_length]; exact Nat.le_refl _)
            rw [List.length_take] at this
            have h2 : min k2 order.length * 3 ≤ 19 * 3 := Nat.mul_le_mul_right _ (Nat.le_trans (Nat.min_le_left _ _) hk2)
            omega
          have hbl : (b3 ++ (order.take k2).flatMap fun j => bitsOf (m.getD j 0) 3).length ≤ 3000 := by
            rw [List.length_append, HL3.out]; omega
          have hfs2 : b3 ++ (order.take (k2 + 1)).flatMap (fun j => bitsOf (m.getD j 0) 3) = (b3 ++ (order.take k2).flatMap fun j => bitsOf (m.getD j 0) 3) ++ bitsOf (m.getD o 0) 3 := by rw [hfs, List.append_assoc]
          generalize (b3 ++ (order.take k2).flatMap fun j => bitsOf (m.getD j 0) 3) = bk at *
          generalize m.getD o 0 = y at *
          simp only [Nat.zero_add] at hco hcm
          have HCO := Lib.hid hco
          have HCM := Lib.hid hcm
          have HFS := Lib.hid hfs2
          have HW9 := Lib.hid hw9
          have ho0 : (0 : Int) ≤ (o : Int) := by omega
          have ho19 : (o : Int) < 19 := by omega
          clear hco hcm hfs hfs2 hx hfl hw9
          go_wp2_with fail
          refine (sord_calls wr).mono ?_
          rintro e w10 ⟨ro, rfl, Ro, hro, O10⟩
          have c0 := HCO.out w10 ro Ro
          have RM10 := ((RM.kp M9.kp FM.out).on O10)
          have c1 := HCM.out w10 RM10
          have hp := Lib.hid (sput_calls g r9 bk y 3 w10 (HW9.out.on O10) (by omega) (by omega) (by omega))
          go_wp2_with fail
          refine hp.out.mono ?_
          rintro e w11 ⟨r11, rfl, hw11, M11⟩
          go_wp2_with fail
          go_roundw
          case rel => exact ⟨k2 + 1, r11, by go_num, by omega, by rw [HFS.out]; exact hw11, M9.trans ((mv_on g r9 O10).trans M11)⟩
          case measure => simp [intOf]; omega
        · have hk19 : k2 = 19 := by omega
          have hk19' : ¬ (k2 : Int) < 19 := by omega
          have e0 : order.take k2 = order := by rw [hk19]; rfl
          rw [e0] at hw9
          clear hk19
          have hfl : (order.flatMap fun j => bitsOf (m.getD j 0) 3).length ≤ 19 * 3 := flat_len order _ (fun x => by rw [bits_length]; exact Nat.le_refl _)
          obtain ⟨b4, hb4⟩ : ∃ b4, b3 ++ (order.flatMap fun j => bitsOf (m.getD j 0) 3) = b4 := ⟨_, rfl⟩
          have hl4 : b4.length ≤ 2000 := by rw [← hb4, List.length_append, HL3.out]; omega
          rw [hb4] at hw9
          have HB4 := Lib.hid hb4
          have HW9 := Lib.hid hw9
          clear e0 hfl hb4 hw9
          go_wp2_with fail
          go_loopw [12] (fun x wr => ∃ (j r' : Nat), x = .int .i64 (j : Int) ∧ j ≤ k ∧ SW wr g r' (b4 ++ (all.take j).flatMap (enc m)) ∧ Mv g r w5 r' wr) (fun x _ => k - (intOf x).toNat)
          case atStart => exact ⟨0, r9, rfl, by omega, by rw [List.take_zero]; simpa using HW9.out, M9⟩
          case round =>
            obtain ⟨j, r12, rfl, hj, hw12, M12⟩ := hrel
            clear M9
            by_cases hltj : j < k
            · have hjl : j < all.length := by rw [HAL.out]; exact hltj
              have hj' : (j : Int) < (k : Int) := by omega
              have c0 := (RA.kp M12.kp FA.out).cell (i64s_get hjl)
              rw [Nat.zero_add] at c0
              have hfs := flat_succ (enc m) hjl
              have hmem : all.getD j 0 ∈ all := by rw [List.getD_eq_getElem?_getD, List.getElem?_eq_getElem hjl]; exact List.getElem_mem _
              have hx15 := HA15.out _ hmem
              have hpos := HM2.out.pos _ hmem
              generalize all.getD j 0 = s at *
              have hfl : ((all.take j).flatMap (enc m)).length ≤ 316 * 15 := by
                have := flat_len (all.take j) (enc m) (m := 15) (enc_length m (fun x hx => by have := HM2.out.le x hx; omega))
                rw [List.length_take] at this
                have h2 : min j all.length * 15 ≤ 316 * 15 := Nat.mul_le_mul_right _ (Nat.le_trans (Nat.min_le_left _ _) (by omega))
                omega
              have hbl : (b4 ++ (all.take j).flatMap (enc m)).length ≤ 10000 := by rw [List.length_append]; omega
              have hfs2 : b4 ++ (all.take (j + 1)).flatMap (enc m) = (b4 ++ (all.take j).flatMap (enc m)) ++ enc m s := by rw [hfs, List.append_assoc]
              generalize (b4 ++ (all.take j).flatMap (enc m)) = bk at *
              have HFS := Lib.hid hfs2
              have hsm : s < m.length := by rw [HM2.out.len]; omega
              have h7 : m.getD s 0 ≤ 15 := by have := Cd.getD_le HM2.out.le s; omega
              have hc := Lib.hid (sym_calls g r12 bk m rM 0 19 cM rK 19 cK s wr hw12 (by omega) (RM.kp M12.kp FM.out) (RK.kp M12.kp FK.out) HM2.out.len rfl hsm h7 (code_lt (ok_fits HM2.out.ok) hsm hpos h7))
              clear hmem hfs hfs2 hfl hw12 hpos hsm h7
              go_wp2_with fail
              refine hc.out.mono ?_
              rintro e w13 ⟨r13, rfl, hw13, M13⟩
              go_wp2_with fail
              go_roundw
              case rel => exact ⟨j + 1, r13, by go_num, by omega, by rw [HFS.out]; exact hw13, M12.trans M13⟩
              case measure => simp [intOf]; omega
            · obtain rfl : j = k := by omega
              have e0 : all.take j = all := List.take_of_length_le (by rw [HAL.out]; exact Nat.le_refl _)
              rw [e0] at hw12
              have hfin : bs ++ headBits lit dist = b4 ++ all.flatMap (enc m) := by
                rw [← HB4.out, ← HB3.out]
                unfold headBits
                rw [HALL.out, HMM.out, HNL.out, HND.out, HNA.out, HNB.out]
                simp only [List.append_assoc]
              have HFIN := Lib.hid hfin
              have HW12 := Lib.hid hw12
              clear hfin e0 hw12
              go_wp2_with fail
              go_end0
              exact ⟨r12, rfl, by rw [HFIN.out]; exact HW12.out, (mv_on g r O5t).trans M12⟩
end Go.Proofs.YtncidljdfipigaaDoor.Wi

/- Tokens of a text, in the reference: the plain ones. Conditions: sizes. -/
namespace Go.Proofs.YtncidljdfipigaaDoor.Wi
open Go.RowKit Go.Proofs.YtncidljdfipigaaDoor.Mem Go.Proofs.YtncidljdfipigaaDoor.Lz
set_option linter.unusedVariables false
set_option linter.unusedSimpArgs false
theorem at_all (s : ByteArray) : ∀ i (h : i < s.size), (chars s)[i]? = some s[i].toNat := fun i h => by
  have := chars_at s h
  rw [List.getD_eq_getElem?_getD, List.getElem?_eq_getElem (by rw [chars_length]; exact h)] at this
  rw [List.getElem?_eq_getElem (by rw [chars_length]; exact h)]
  exact congrArg some this
set_option maxRecDepth 100000 in
set_option maxHeartbeats 1000000 in
theorem again_calls (s : ByteArray) (hs : s.size ≤ 300) (a k : Nat) (hk : 1 ≤ k) (hka : k ≤ a) (ha : a < s.size) (w : World) : Calls Tryd.prog 120 #[.string s, .int .i64 a, .int .i64 k] w (Tells w (.int .i64 (mlen (chars s) a k : Nat))) := by
  have htl : (chars s).length = s.size := chars_length s
  have hat := at_all s
  generalize chars s = t at *
  have HTL := Lib.hid htl
  have HAT := Lib.hid hat
  clear htl hat
  go_enter Tryd.func120, Tryd.ntmps120
  go_wp2_with fail
  go_loopw [7] (fun x wr => ∃ n : Nat, x = .int .i64 (n : Int) ∧ n ≤ 60 ∧ RowKit.Hid (n + run t (a + n) (a + n - k) (60 - n) = mlen t a k) ∧ On w wr) (fun x _ => 60 - (intOf x).toNat)
  case atStart => exact ⟨0, rfl, by omega, Lib.hid (by simp [mlen]), On.refl _⟩
  case round =>
    obtain ⟨n, rfl, hn, hrun, O3⟩ := hrel
    have q1 : IntKind.i64.wrap ((a : Int) + (n : Int)) = ((a + n : Nat) : Int) := by rw [IntKind.wrap_i64]; omega
    have q2 : IntKind.i64.wrap (((a + n : Nat) : Int) - (k : Int)) = ((a + n - k : Nat) : Int) := by rw [IntKind.wrap_i64]; omega
    have hq : a + n - k < a + n := by omega
    have hq2 : a + n ≤ 400 := by omega
    have hcont : n < 60 ∧ a + n < t.length ∧ t[a + n]? = t[a + n - k]? ∨ ¬ (n < 60 ∧ a + n < t.length ∧ t[a + n]? = t[a + n - k]?) := Classical.em _
    have hgo := run_step hrun.out hk hka
    have hend := run_stop hrun.out
    generalize hp : a + n = p at hcont hend q1 q2 hq hq2
    generalize hpq : p - k = q at hcont hend q2 hq
    rw [hp, hpq] at hgo
    have HP := Lib.hid hp
    have HPQ := Lib.hid hpq
    have HGO := Lib.hid hgo
    have HEND := Lib.hid hend
    clear hp hpq hgo hend hrun
    rcases hcont with hc | hc
    · have hx2 := Lib.hid (HGO.out hc)
      have hc1 : (n : Int) < 60 := by have := hc.1; omega
      have hps : p < s.size := by have := hc.2.1; rw [HTL.out] at this; exact this
      have hqs : q < s.size := by omega
      have hxy : s[p] = s[q] := by
        have := hc.2.2
        rw [HAT.out p hps, HAT.out q hqs] at this
        exact UInt8.toNat_inj.1 (Option.some.inj this)
      have hps' : (p : Int) < s.size := by omega
      have hqs' : (q : Int) < s.size := by omega
      have hb : (((s[p]).toNat : Int) == ((s[q]).toNat : Int)) = true := by rw [hxy]; simp
      clear hc hxy
      generalize hx : s[p] = x at *
      generalize hy : s[q] = y at *
      go_wp2_with fail
      go_quiet (fail)
      go_wp2_with fail
      exact ⟨⟨n + 1, by go_num, by omega, hx2, O3.drewN _⟩, by simp [intOf]; omega⟩
    · have hx2 := HEND.out hc
      have hstop : decide (p < s.size) = false ∨ (decide (p < s.size) = true ∧ decide ((n : Int) < 60) = false) ∨
          (decide ((n : Int) < 60) = true ∧ decide (p < s.size) = true ∧ decide (q < s.size) = true ∧ ∃ (hp : p < s.size) (hq : q < s.size), (((s[p]).toNat : Int) == ((s[q]).toNat : Int)) = false) := by
        by_cases h2 : p < s.size
        · by_cases h1 : n < 60
          · refine .inr (.inr ⟨by simp; omega, by simp; omega, by simp; omega, h2, by omega, ?_⟩)
            rw [beq_eq_false_iff_ne]
            intro e
            apply hc
            refine ⟨h1, by rw [HTL.out]; exact h2, ?_⟩
            rw [HAT.out p h2, HAT.out q (by omega)]
            congr 1; omega
          · exact .inr (.inl ⟨by simp; omega, by simp; omega⟩)
        · exact .inl (by simp; omega)
      have HX2 := Lib.hid hx2
      clear hc hx2
      rcases hstop with h | ⟨h1, h2⟩ | ⟨h1, h2, h3, hp, hq, h4⟩
      · go_wp2_with fail
        go_quiet (fail)
        go_wp2_with fail
        go_ret
        exact ⟨by rw [← HX2.out]; rfl, O3.drewN _⟩
      · go_wp2_with fail
        go_quiet (fail)
        go_wp2_with fail
        go_ret
        exact ⟨by rw [← HX2.out]; rfl, O3.drewN _⟩
      · generalize hx : s[p] = x at *
        generalize hy : s[q] = y at *
        go_wp2_with fail
        go_quiet (fail)
        go_wp2_with fail
        go_ret
        exact ⟨by rw [← HX2.out]; rfl, O3.drewN _⟩
theorem best_step (t : List Nat) (a j : Nat) : best t a (j + 1) = if (best t a j).1 < mlen t a (j + 1) then (mlen t a (j + 1), j + 1) else best t a j := rfl
set_option maxRecDepth 100000 in
set_option maxHeartbeats 2000000 in
theorem stoks_calls (s : ByteArray) (hs : s.size ≤ 300) (w : World) : Calls Tryd.prog 90 #[.string s] w (GivesT w (tokens (chars s))) := by
  have htl : (chars s).length = s.size := chars_length s
  have hat := at_all s
  have h0 : tokens (chars s) = [] ++ toks (chars s) ((chars s).length - 0) 0 := rfl
  have hag := fun a k h1 h2 h3 w => again_calls s hs a k h1 h2 h3 w
  generalize chars s = t at *
  have HTL := Lib.hid htl
  have HAT := Lib.hid hat
  have H0 := Lib.hid h0
  have HAG := Lib.hid hag
  clear htl hat h0 hag
  go_enter Tryd.func90, Tryd.ntmps90
  go_wp2_with fail
  go_loopw [3, 4] (fun v x wr => ∃ (a : Nat) (done : List Tok), x = .int .i64 (a : Int) ∧ a ≤ s.size ∧ done.length ≤ a ∧ RowKit.Hid (tokens t = done ++ toks t (t.length - a) a) ∧ Own w.heap.size wr 67 3 v done.length (tokCells done) ∧ On w wr) (fun _ x _ => s.size - (intOf x).toNat)
  case atStart => exact ⟨0, [], rfl, by omega, by simp, H0, Own.new w 67 3 #[] 0 (Nat.zero_le _) rfl (Nat.le_refl _), (On.refl w).alloc _⟩
  case round =>
    obtain ⟨a, done, rfl, ha, hd, hT, hown, O⟩ := hrel
    by_cases hlt : a < s.size
    · obtain ⟨wo, hwo⟩ : ∃ wo : World, wo = wr := ⟨_, rfl⟩
      subst hwo
      have hts := toks_step t a (by rw [HTL.out]; exact hlt)
      have hhe : held t a (min 250 a) = if 3 ≤ (best t a (min 250 a)).1 then ⟨0, ((best t a (min 250 a)).1 : Nat), ((best t a (min 250 a)).2 : Nat)⟩ else ⟨(t.getD a 0 : Nat), 0, 0⟩ := rfl
      have HTS := Lib.hid hts
      have HHE := Lib.hid hhe
      have hm1 : min 250 a ≤ 250 := by omega
      have hm2 : min 250 a ≤ a := by omega
      have hm3 : min 250 a = 250 ∨ min 250 a = a := by omega
      clear hts hhe
      generalize min 250 a = m at *
      go_wp2_with fail
      go_loopw [5, 6, 7] (fun l f x wr => ∃ j : Nat, x = .int .i64 ((j : Int) + 1) ∧ j ≤ m ∧ l = .int .i64 ((best t a j).1 : Nat) ∧ f = .int .i64 ((best t a j).2 : Nat) ∧ On wo wr) (fun _ _ x _ => 251 - (intOf x).toNat)
      case atStart => exact ⟨0, rfl, by omega, rfl, rfl, On.refl _⟩
      case round =>
        obtain ⟨j, rfl, hj, rfl, rfl, O2⟩ := hrel
        have hle := best_le_60 t a j
        by_cases hjl : j < m
        · have hj1 : (j : Int) + 1 ≤ 250 := by omega
          have hj2 : (j : Int) + 1 ≤ a := by omega
          have hst := best_step t a j
          have hml := mlen_le t a (j + 1)
          have hc := HAG.out a (j + 1) (by omega) (by omega) hlt
          have HC := Lib.hid hc
          have HST := Lib.hid hst
          clear hst hc
          generalize best t a j = bj at *
          obtain ⟨L, F⟩ := bj
          simp only at hle HST
          generalize mlen t a (j + 1) = M at *
          go_wp2_with fail
          have hc2 := HC.out wr
          rw [show (((j + 1 : Nat) : Int)) = (j : Int) + 1 from by omega] at hc2
          refine hc2.mono ?_
          rintro e w3 ⟨rfl, O3⟩
          by_cases hLM : L < M
          · have hLM' : (L : Int) < M := by omega
            go_wp2_with fail
            refine ⟨⟨j + 1, by go_num, by omega, ?_, ?_, O2.call O3⟩, by simp [intOf]; omega⟩
            · rw [HST.out, if_pos hLM]
            · rw [HST.out, if_pos hLM]; go_num
          · have hLM' : ¬ (L : Int) < M := by omega
            go_wp2_with fail
            refine ⟨⟨j + 1, by go_num, by omega, ?_, ?_, O2.call O3⟩, by simp [intOf]; omega⟩
            · rw [HST.out, if_neg hLM]
            · rw [HST.out, if_neg hLM]
        · obtain rfl : j = m := by omega
          have hstop : decide ((j : Int) + 1 ≤ 250) = false ∨ (decide ((j : Int) + 1 ≤ 250) = true ∧ decide ((j : Int) + 1 ≤ (a : Int)) = false) := by
            by_cases h : (j : Int) + 1 ≤ 250
            · exact .inr ⟨by simpa using h, by simp; omega⟩
            · exact .inl (by simpa using h)
          have hown2 := hown.on O2
          have O4 := O.call O2
          obtain ⟨i0, hi, hz0, hz1, hz2⟩ := info_parts tokinfo
          have hdl : done.length ≤ 300 := by omega
          have hHT := HTS.out
          rw [HHE.out] at hHT
          have HHT := Lib.hid hHT
          clear hHT hown
          generalize best t a j = bj at *
          obtain ⟨L, F⟩ := bj
          simp only at hle HHT
          obtain ⟨b, hbb⟩ : ∃ b, s[a] = b := ⟨_, rfl⟩
          have hbt : t.getD a 0 = b.toNat := by rw [List.getD_eq_getElem?_getD, HAT.out a hlt, hbb]; rfl
          have HBT := Lib.hid hbt
          have hb256 : (b.toNat : Int) < 256 := by have := b.toNat_lt; omega
          clear hbt
          by_cases h3 : 3 ≤ L
          · have h3' : ¬ (L : Int) < 3 := by omega
            have hHT := HHT.out
            rw [if_pos h3] at hHT
            simp only [Int.toNat_natCast] at hHT
            rw [show max L 1 = L from by omega] at hHT
            have HHT2 := Lib.hid hHT
            clear HHT hHT
            rcases hstop with h | ⟨h, h'⟩
            all_goals
              go_wp2_with (at_builtin; go_must (refine wpList_app rfl _ _ 64 rfl w i0 (.agg #[.int .i64 0, .int .i64 0, .int .i64 0]) 24 3 Tryd.underlying64 hi hz0 hz1 hz2 rfl (by decide) rfl _ _ _ rfl hown2 O4 rfl (by simp [Value.oneCell']) (by unfold maxLen; omega) (by omega) ?_); intro v' w2 hown' O' hk)
              go_roundw
              case rel =>
                obtain ⟨e1, e2⟩ := HHT2.out
                refine ⟨a + L, done ++ [⟨0, (L : Int), (F : Int)⟩], by go_num, by rw [HTL.out] at e2; exact e2, by rw [List.length_append, List.length_singleton]; omega, Lib.hid (by rw [hT.out, e1, List.append_assoc]; rfl), ?_, O'⟩
                rw [List.length_append, List.length_singleton, tokCells_snoc]
                exact hown'
              case measure => simp [intOf]; omega
          · have h3' : (L : Int) < 3 := by omega
            have hHT := HHT.out
            rw [if_neg h3] at hHT
            simp only at hHT
            rw [show max (Int.toNat 0) 1 = 1 from rfl, HBT.out] at hHT
            have HHT2 := Lib.hid hHT
            clear HHT hHT
            rcases hstop with h | ⟨h, h'⟩
            all_goals
              go_wp2_with (at_builtin; go_must (refine wpList_app rfl _ _ 64 rfl w i0 (.agg #[.int .i64 0, .int .i64 0, .int .i64 0]) 24 3 Tryd.underlying64 hi hz0 hz1 hz2 rfl (by decide) rfl _ _ _ rfl hown2 O4 rfl (by simp [Value.oneCell']) (by unfold maxLen; omega) (by omega) ?_); intro v' w2 hown' O' hk)
              go_roundw
              case rel =>
                obtain ⟨e1, e2⟩ := HHT2.out
                refine ⟨a + 1, done ++ [⟨(b.toNat : Int), 0, 0⟩], by go_num, by rw [HTL.out] at e2; exact e2, by rw [List.length_append, List.length_singleton]; omega, Lib.hid (by rw [hT.out, e1, List.append_assoc]; rfl), ?_, O'⟩
                rw [List.length_append, List.length_singleton, tokCells_snoc]
                exact hown'
              case measure => simp [intOf]; omega
    · obtain rfl : a = s.size := by omega
      have hT2 := hT.out
      rw [toks_end t _ (by rw [HTL.out]; exact Nat.le_refl _), List.append_nil] at hT2
      have HT2 := Lib.hid hT2
      obtain ⟨g, cap, rfl, hg, R, hn1, hcap, hlen⟩ := hown.parts
      clear hT2
      go_wp2_with fail
      go_ret
      refine ⟨g, cap, ?_, ?_, ?_, hcap, hg, O⟩
      · rw [HT2.out]; rfl
      · rw [HT2.out]; exact R
      · rw [HT2.out]; exact hn1
end Go.Proofs.YtncidljdfipigaaDoor.Wi

/- What StorePut does, in both programs: the plain packing of a text as it is. Conditions: sizes. -/
namespace Go.Proofs.YtncidljdfipigaaDoor.Wi
open Go.RowKit Go.Proofs.YtncidljdfipigaaDoor.Mem Go.Proofs.YtncidljdfipigaaDoor.Bt
set_option linter.unusedVariables false
set_option linter.unusedSimpArgs false
def storeB (s : ByteArray) : ByteArray := if s.size ≤ 300 then strB (En.store (chars s)) else ⟨#[]⟩
theorem iw_new (w : World) : IW (w.alloc (.cells #[.slice none 0 0, .int .i64 0] 50)) w.heap.size w.heap.size [] :=
  ⟨.slice none 0 0, Blk.new w _ _, ⟨World.ownsRow_nil _ _ _ _, fun k hk => by simp [Value.ownBlock] at hk⟩, .inr rfl⟩
theorem sw_new (w : World) : SW (w.alloc (.cells #[.slice none 0 0, .int .i64 0, .int .i64 0] 88)) w.heap.size w.heap.size [] :=
  ⟨.slice none 0 0, Blk.new w _ _, ⟨World.ownsRow_nil _ _ _ _, fun k hk => by simp [Value.ownBlock] at hk⟩, .inr rfl⟩
/-- What a writer that a call made itself leaves. -/
theorem Mv.on {g r r' : Nat} {a w w' : World} (h : Mv g r w r' w') (O : On a w) (hg : a.heap.size ≤ g) (hr : a.heap.size ≤ r) : On a w' ∧ a.heap.size ≤ r' := by
  refine ⟨h.kp.on O (fun x hx => ?_), ?_⟩
  · simp only [List.mem_cons, List.not_mem_nil, or_false] at hx
    rcases hx with rfl | rfl <;> assumption
  · have := O.size
    rcases h.at_ with e | e <;> omega
theorem IW.text {w : World} {g r : Nat} {bs : List Bool} (h : IW w g r bs) : ∃ v, w.cell? ⟨g, 0, none⟩ = some v ∧ (convert 22 9 v).run Tryd.prog w = .ok (.string (strB (pack bs))) w := by
  obtain ⟨v, hb, hy, _⟩ := h.out
  exact ⟨v, (hb.cell 0).trans rfl, bytes_conv hy⟩
theorem SW.text {w : World} {g r : Nat} {bs : List Bool} (h : SW w g r bs) (h8 : bs.length % 8 = 0) : ∃ v, w.cell? ⟨g, 0, none⟩ = some v ∧ (convert 22 9 v).run Tryd.prog w = .ok (.string (strB (pack bs))) w := by
  obtain ⟨v, hb, hy, _⟩ := h.out
  rw [show 8 * (bs.length / 8) = bs.length from by omega, List.take_length] at hy
  exact ⟨v, (hb.cell 0).trans rfl, bytes_conv hy⟩
theorem Bt.lenn (n num : Nat) : (bitsOf num n).length = n := bits_length n num
theorem store_text (s : ByteArray) : strB (pack (En.storeBits s.size)) ++ s = strB (En.store (chars s)) := by
  rw [strB_app]; unfold En.store; rw [chars_length]
theorem store_bits8 (n : Nat) : (En.storeBits n).length % 8 = 0 := by rw [En.storeBits_length]
set_option maxRecDepth 100000 in
theorem istore_calls (s : ByteArray) (w : World) :
    Calls Tryd.prog 22 #[.string s] w (Tells w (.string (storeB s))) := by
  by_cases h : s.size ≤ 300
  · have h' : (s.size : Int) ≤ 300 := by omega
    have HR : RowKit.Hid (storeB s = strB (pack (En.storeBits s.size)) ++ s) := Lib.hid (by unfold storeB; rw [if_pos h, store_text])
    go_enter Tryd.func22, Tryd.ntmps22
    go_wp2_with fail
    refine (put_calls _ _ [] 1 3 _ (iw_new w) (by omega) (by simp) (by omega)).mono ?_
    rintro e w1 ⟨r1, rfl, hw1, M1⟩
    obtain ⟨O1, hr1⟩ := M1.on ((On.refl w).alloc _) (Nat.le_refl _) (Nat.le_refl _)
    go_wp2_with fail
    refine (even_calls _ _ _ w1 hw1 (by simp [bitsOf])).mono ?_
    rintro e w2 ⟨rfl, hw2, M2⟩
    obtain ⟨O2, hr2⟩ := M2.on O1 (Nat.le_refl _) hr1
    go_wp2_with fail
    refine (put_calls _ _ _ s.size 16 w2 hw2 (by omega) (by rw [pad_length]; simp [bitsOf]) (by omega)).mono ?_
    rintro e w3 ⟨r3, rfl, hw3, M3⟩
    obtain ⟨O3, hr3⟩ := M3.on O2 (Nat.le_refl _) hr2
    go_wp2_with fail
    rw [show (65535 : Int) - (s.size : Int) = ((65535 - s.size : Nat) : Int) from by omega]
    refine (put_calls _ _ _ (65535 - s.size) 16 w3 hw3 (by omega) (by rw [List.length_append, pad_length, bits_length]; simp [bitsOf]) (by omega)).mono ?_
    rintro e w4 ⟨r4, rfl, hw4, M4⟩
    obtain ⟨O4, hr4⟩ := M4.on O3 (Nat.le_refl _) hr3
    have hw5 : IW w4 w.heap.size r4 (En.storeBits s.size) := hw4
    obtain ⟨v, c0, hconv⟩ := hw5.text
    have hcat : ¬ (9223372036854775807 < (strB (pack (En.storeBits s.size))).size + s.size) := by rw [strB_size, pack_length, En.storeBits_length]; omega
    clear hw1 hw2 hw3 hw4 hw5
    go_wp2_with fail
    go_ret
    exact ⟨by rw [HR.out]; rfl, O4⟩
  · have h' : (300 : Int) < s.size := by omega
    have HR : RowKit.Hid (storeB s = ⟨#[]⟩) := Lib.hid (by unfold storeB; rw [if_neg h])
    go_enter Tryd.func22, Tryd.ntmps22
    go_wp2_with fail
    go_ret
    exact ⟨by rw [HR.out]; rfl, On.refl _⟩
set_option maxRecDepth 100000 in
theorem sstore_calls (s : ByteArray) (w : World) (h : s.size ≤ 300) :
    Calls Tryd.prog 50 #[.string s] w (Tells w (.string (strB (En.store (chars s))))) := by
  have h' : (s.size : Int) ≤ 300 := by omega
  have HR : RowKit.Hid (strB (En.store (chars s)) = strB (pack (En.storeBits s.size)) ++ s) := Lib.hid (by rw [store_text])
  go_enter Tryd.func50, Tryd.ntmps50
  go_wp2_with fail
  refine (sput_calls _ _ [] 1 1 _ (sw_new w) (by omega) (by simp) (by omega)).mono ?_
  rintro e w1 ⟨r1, rfl, hw1, M1⟩
  obtain ⟨O1, hr1⟩ := M1.on ((On.refl w).alloc _) (Nat.le_refl _) (Nat.le_refl _)
  go_wp2_with fail
  refine (sput_calls _ _ _ 0 2 w1 hw1 (by omega) (by simp [bitsOf]) (by omega)).mono ?_
  rintro e w2 ⟨r2, rfl, hw2, M2⟩
  obtain ⟨O2, hr2⟩ := M2.on O1 (Nat.le_refl _) hr1
  have hw2' : SW w2 w.heap.size r2 (bitsOf 1 3) := hw2
  go_wp2_with fail
  refine (whole_calls _ _ _ w2 hw2' (by simp [bitsOf])).mono ?_
  rintro e w3 ⟨r3, rfl, hw3, M3⟩
  obtain ⟨O3, hr3⟩ := M3.on O2 (Nat.le_refl _) hr2
  go_wp2_with fail
  refine (sput_calls _ _ _ s.size 16 w3 hw3 (by omega) (by rw [pad_length]; simp [bitsOf]) (by omega)).mono ?_
  rintro e w4 ⟨r4, rfl, hw4, M4⟩
  obtain ⟨O4, hr4⟩ := M4.on O3 (Nat.le_refl _) hr3
  go_wp2_with fail
  rw [show (65535 : Int) - (s.size : Int) = ((65535 - s.size : Nat) : Int) from by omega]
  refine (sput_calls _ _ _ (65535 - s.size) 16 w4 hw4 (by omega) (by rw [List.length_append, pad_length, bits_length]; simp [bitsOf]) (by omega)).mono ?_
  rintro e w5 ⟨r5, rfl, hw5, M5⟩
  obtain ⟨O5, hr5⟩ := M5.on O4 (Nat.le_refl _) hr4
  have hw6 : SW w5 w.heap.size r5 (En.storeBits s.size) := hw5
  obtain ⟨v, c0, hconv⟩ := hw6.text (store_bits8 _)
  have hcat : ¬ (9223372036854775807 < (strB (pack (En.storeBits s.size))).size + s.size) := by rw [strB_size, pack_length, En.storeBits_length]; omega
  clear hw1 hw2 hw3 hw4 hw5 hw6 hw2'
  go_wp2_with fail
  go_ret
  exact ⟨by rw [HR.out]; rfl, O5⟩
set_option maxRecDepth 100000 in
theorem sput_store_calls (s : ByteArray) (w : World) :
    Calls Tryd.prog 23 #[.string s] w (Tells w (.string (storeB s))) := by
  by_cases h : s.size ≤ 300
  · have h' : (s.size : Int) ≤ 300 := by omega
    have HR : RowKit.Hid (storeB s = strB (En.store (chars s))) := Lib.hid (by unfold storeB; rw [if_pos h])
    go_enter Tryd.func23, Tryd.ntmps23
    go_wp2_with fail
    refine (sstore_calls s w h).mono ?_
    rintro e w1 ⟨rfl, O1⟩
    go_wp2_with fail
    go_ret
    exact ⟨by rw [HR.out]; rfl, O1⟩
  · have h' : (300 : Int) < s.size := by omega
    have HR : RowKit.Hid (storeB s = ⟨#[]⟩) := Lib.hid (by unfold storeB; rw [if_neg h])
    go_enter Tryd.func23, Tryd.ntmps23
    go_wp2_with fail
    go_ret
    exact ⟨by rw [HR.out]; rfl, On.refl _⟩
end Go.Proofs.YtncidljdfipigaaDoor.Wi

/- What FixedPut does, in both programs: the plain packing by codes that all know. -/
namespace Go.Proofs.YtncidljdfipigaaDoor.Wi
open Go.RowKit Go.Proofs.YtncidljdfipigaaDoor.Mem Go.Proofs.YtncidljdfipigaaDoor.Bt Go.Proofs.YtncidljdfipigaaDoor.Cd Go.Proofs.YtncidljdfipigaaDoor.De Go.Proofs.YtncidljdfipigaaDoor.En Go.Proofs.YtncidljdfipigaaDoor.Lz
set_option linter.unusedVariables false
set_option linter.unusedSimpArgs false
def fixedB (s : ByteArray) : ByteArray := if s.size ≤ 300 then strB (En.fixed (chars s)) else ⟨#[]⟩
theorem text_chars {s : ByteArray} (h : s.size ≤ 300) : text [] (tokens (chars s)) = some (chars s) := text_tokens (chars_lt s) (by rw [chars_length]; exact h)
theorem tokens_size {s : ByteArray} (h : s.size ≤ 300) : (tokens (chars s)).length ≤ 300 := by
  have := tokens_length (chars s)
  rw [chars_length] at this; omega
set_option maxRecDepth 100000 in
theorem ifixedput_calls (s : ByteArray) (w : World) :
    Calls Tryd.prog 26 #[.string s] w (Tells w (.string (fixedB s))) := by
  by_cases h : s.size ≤ 300
  · have h' : (s.size : Int) ≤ 300 := by omega
    have htx := text_chars h
    have htl := tokens_size h
    have hto : toksOf s = tokens (chars s) := by unfold toksOf; rw [if_pos h]
    have HR : RowKit.Hid (fixedB s = strB (pack (fixBits (chars s)))) := Lib.hid (by unfold fixedB; rw [if_pos h]; rfl)
    have HTX := Lib.hid htx
    have HTO := Lib.hid hto
    clear htx hto
    go_enter Tryd.func26, Tryd.ntmps26
    go_wp2_with fail
    refine (put_calls _ _ [] 1 1 _ (iw_new w) (by omega) (by simp) (by omega)).mono ?_
    rintro e w1 ⟨r1, rfl, hw1, M1⟩
    have hr0 : w.heap.size < (w.alloc (.cells #[.slice none 0 0, .int .i64 0] 50)).heap.size := (Blk.new w _ _).lt
    have hr1 := M1.lt hr0
    obtain ⟨O1, hb1⟩ := M1.on ((On.refl w).alloc _) (Nat.le_refl _) (Nat.le_refl _)
    go_wp2_with fail
    refine (put_calls _ _ _ 1 2 w1 hw1 (by omega) (by simp [bitsOf]) (by omega)).mono ?_
    rintro e w2 ⟨r2, rfl, hw2, M2⟩
    have hr2 := M2.lt hr1
    obtain ⟨O2, hb2⟩ := M2.on O1 (Nat.le_refl _) hb1
    go_wp2_with fail
    refine (ifixed_calls w2).mono ?_
    rintro e w3 ⟨ra, rb, rfl, Ra, Rb, ha, hb, O3⟩
    have hz3 := O3.size
    have hg2 := hw2.glt
    go_wp2_with fail
    refine (itoks_calls s w3).mono ?_
    rintro e w4 ⟨q, cq, rfl, Rq, hq1, hq2, hq3, O4⟩
    rw [HTO.out] at Rq hq1 ⊢
    have O34 := O3.call O4
    generalize hn : (tokens (chars s)).length = n at *
    have HNN := Lib.hid hn
    clear hn
    have hc := itokens_calls w.heap.size r2 q n cq ra 0 288 288 rb 0 32 32 _ (tokens (chars s)) fixLit fixDist w4 (hw2.on O34) (by simp [bitsOf]) (by simp [bitsOf]) Rq (Ra.on O4) (Rb.on O4) HNN.out (by omega) hq1 fixLit_length fixDist_length (by omega) (by omega) (by omega) (by omega)
      (fixed_has HTX.out) (fine_of HTX.out) (not_in (by omega) (by omega)) (not_in (by omega) (by omega)) (not_in (by omega) (by omega))
    have HC := Lib.hid hc
    clear hc
    go_wp2_with fail
    refine HC.out.mono ?_
    rintro e w5 ⟨r5, rfl, hw5, M5⟩
    obtain ⟨O5, hb5⟩ := M5.on (O2.call O34) (Nat.le_refl _) hb2
    have hw6 : IW w5 w.heap.size r5 (fixBits (chars s)) := hw5
    obtain ⟨v, c0, hconv⟩ := hw6.text
    clear hw1 hw2 hw5 hw6
    go_wp2_with fail
    go_ret
    exact ⟨by rw [HR.out]; rfl, O5⟩
  · have h' : (300 : Int) < s.size := by omega
    have HR : RowKit.Hid (fixedB s = ⟨#[]⟩) := Lib.hid (by unfold fixedB; rw [if_neg h])
    go_enter Tryd.func26, Tryd.ntmps26
    go_wp2_with fail
    go_ret
    exact ⟨by rw [HR.out]; rfl, On.refl _⟩
set_option maxRecDepth 100000 in
theorem sknown_calls (s : ByteArray) (h : s.size ≤ 300) (w : World) :
    Calls Tryd.prog 69 #[.string s] w (Tells w (.string (strB (En.fixed (chars s))))) := by
  have htx := text_chars h
  have htl := tokens_size h
  have HR : RowKit.Hid (strB (En.fixed (chars s)) = strB (pack (pad (fixBits (chars s))))) := Lib.hid (by rw [pack_pad]; rfl)
  have HTX := Lib.hid htx
  clear htx
  go_enter Tryd.func69, Tryd.ntmps69
  go_wp2_with fail
  refine (sput_calls _ _ [] 1 1 _ (sw_new w) (by omega) (by simp) (by omega)).mono ?_
  rintro e w1 ⟨r1, rfl, hw1, M1⟩
  have hr0 : w.heap.size < (w.alloc (.cells #[.slice none 0 0, .int .i64 0, .int .i64 0] 88)).heap.size := (Blk.new w _ _).lt
  have hr1 := M1.lt hr0
  obtain ⟨O1, hb1⟩ := M1.on ((On.refl w).alloc _) (Nat.le_refl _) (Nat.le_refl _)
  go_wp2_with fail
  refine (sput_calls _ _ _ 1 2 w1 hw1 (by omega) (by simp [bitsOf]) (by omega)).mono ?_
  rintro e w2 ⟨r2, rfl, hw2, M2⟩
  have hr2 := M2.lt hr1
  obtain ⟨O2, hb2⟩ := M2.on O1 (Nat.le_refl _) hb1
  have hg2 := hw2.glt
  go_wp2_with fail
  refine (stoks_calls s h w2).mono ?_
  rintro e w3 ⟨q, cq, rfl, Rq, hq1, hq2, hq3, O3⟩
  generalize hn : (tokens (chars s)).length = n at *
  have HNN := Lib.hid hn
  clear hn
  have hz3 := O3.size
  go_wp2_with fail
  refine (sfixed_calls w3).mono ?_
  rintro e w4 ⟨ra, ca, rfl, Na, ha1, ha2, O4⟩
  have hz4 := O4.size
  go_wp2_with fail
  refine (sfives_calls w4).mono ?_
  rintro e w5 ⟨rb, cb, rfl, Nb, hb3, hb4, O5⟩
  have O45 := O4.call O5
  have O35 := O3.call O45
  have hz5 := O35.size
  have hca : 288 ≤ ca := by have := Na.row.2.2.1; rw [fixLit_length] at this; exact this
  have hcb : 32 ≤ cb := by have := Nb.row.2.2.1; rw [fixDist_length] at this; exact this
  have hc := stokens_calls w.heap.size r2 q n cq ra 0 288 ca rb 0 32 cb _ (tokens (chars s)) fixLit fixDist w5 (hw2.on O35) (by omega) (by simp [bitsOf]) (Rq.on O45) ((Na.on O5).row.1.toO) (Nb.row.1.toO) HNN.out (by omega) hq1 fixLit_length fixDist_length hca hcb (by omega) (by omega)
    (fixed_has HTX.out) (fine_of HTX.out) (not_in (by omega) (by omega)) (not_in (by omega) (by omega)) (not_in (by omega) (by omega))
  have HC := Lib.hid hc
  clear hc
  rw [show fixLit.length = 288 from fixLit_length, show fixDist.length = 32 from fixDist_length]
  go_wp2_with fail
  refine HC.out.mono ?_
  rintro e w6 ⟨r6, rfl, hw6, M6⟩
  obtain ⟨O6, hb6⟩ := M6.on (O2.call O35) (Nat.le_refl _) hb2
  have hw7 : SW w6 w.heap.size r6 (fixBits (chars s)) := hw6
  have hfb := (fixBits_length (chars_lt s) (by rw [chars_length]; exact h)).2.1
  rw [chars_length] at hfb
  have hwh := whole_calls w.heap.size r6 (fixBits (chars s)) w6 hw7 (by omega)
  have HWH := Lib.hid hwh
  clear hwh hfb
  go_wp2_with fail
  refine HWH.out.mono ?_
  rintro e w8 ⟨r8, rfl, hw8, M8⟩
  obtain ⟨O8, hb8⟩ := M8.on O6 (Nat.le_refl _) hb6
  obtain ⟨v, c0, hconv⟩ := hw8.text (by rw [pad_length]; omega)
  clear hw1 hw2 hw6 hw7 hw8
  go_wp2_with fail
  go_ret
  exact ⟨by rw [HR.out]; rfl, O8⟩
set_option maxRecDepth 100000 in
theorem sfixedput_calls (s : ByteArray) (w : World) :
    Calls Tryd.prog 32 #[.string s] w (Tells w (.string (fixedB s))) := by
  by_cases h : s.size ≤ 300
  · have h' : (s.size : Int) ≤ 300 := by omega
    have HR : RowKit.Hid (fixedB s = strB (En.fixed (chars s))) := Lib.hid (by unfold fixedB; rw [if_pos h])
    go_enter Tryd.func32, Tryd.ntmps32
    go_wp2_with fail
    refine (sknown_calls s h w).mono ?_
    rintro e w1 ⟨rfl, O1⟩
    go_wp2_with fail
    go_ret
    exact ⟨by rw [HR.out]; rfl, O1⟩
  · have h' : (300 : Int) < s.size := by omega
    have HR : RowKit.Hid (fixedB s = ⟨#[]⟩) := Lib.hid (by unfold fixedB; rw [if_neg h])
    go_enter Tryd.func32, Tryd.ntmps32
    go_wp2_with fail
    go_ret
    exact ⟨by rw [HR.out]; rfl, On.refl _⟩
end Go.Proofs.YtncidljdfipigaaDoor.Wi

/- What OwnPut and FlatePut make, as bytes. Nothing of the program is walked here. -/
namespace Go.Proofs.YtncidljdfipigaaDoor.Wi
open Go.RowKit Go.Proofs.YtncidljdfipigaaDoor.Mem Go.Proofs.YtncidljdfipigaaDoor.Bt Go.Proofs.YtncidljdfipigaaDoor.Cd Go.Proofs.YtncidljdfipigaaDoor.De Go.Proofs.YtncidljdfipigaaDoor.En Go.Proofs.YtncidljdfipigaaDoor.Lz Go.Proofs.YtncidljdfipigaaDoor.Hf
set_option linter.unusedVariables false
set_option linter.unusedSimpArgs false
def ownB (s : ByteArray) : ByteArray := if s.size ≤ 300 then strB (En.ownPut (chars s)) else ⟨#[]⟩
def flateB (s : ByteArray) : ByteArray := if s.size ≤ 300 then strB (En.flatePut (chars s)) else ⟨#[]⟩
/-- The shorter; the first, if they are as long. -/
def choose (a b : ByteArray) : ByteArray := if b.size < a.size then b else a
def pickTo (x y z : ByteArray) : Nat → ByteArray
  | 0 => x
  | 1 => choose x y
  | _ => choose (choose x y) z
theorem flate_pick (s : ByteArray) (h : s.size ≤ 300) : strB (En.flatePut (chars s)) = choose (choose (strB (En.store (chars s))) (strB (En.fixed (chars s)))) (strB (En.ownPut (chars s))) := by
  unfold choose En.flatePut
  by_cases h1 : (En.fixed (chars s)).length < (En.store (chars s)).length
  · by_cases h2 : (En.ownPut (chars s)).length < (En.fixed (chars s)).length
    · simp [strB_size, h1, h2]
    · simp [strB_size, h1, h2]
  · by_cases h2 : (En.ownPut (chars s)).length < (En.store (chars s)).length
    · simp [strB_size, h1, h2]
    · simp [strB_size, h1, h2]
theorem cntL_le (l : List Tok) : ∀ x ∈ cntL l, x ≤ 1 + l.length := by rw [← cntLTo_all]; exact cntLTo_le l _
theorem cntB_le {l : List Tok} (F : ∀ t ∈ l, Fine [] [] t) : ∀ x ∈ cntB l, x ≤ 1 + l.length := by
  intro x hx
  rw [cntB_is F] at hx
  split at hx
  · rcases List.mem_or_eq_of_mem_set hx with h | h
    · have := cntBTo_le l _ x h; omega
    · omega
  · have := cntBTo_le l _ x hx; omega
theorem trim_le {lens : List Nat} {m least : Nat} (h : ∀ x ∈ lens, x ≤ m) : ∀ x ∈ trim lens least, x ≤ m := fun x hx => h x (List.mem_of_mem_take hx)
theorem head_length (lit dist : List Nat) (hn : (lit ++ dist).length ≤ 316) (h15 : ∀ x ∈ lit ++ dist, x ≤ 15) (hne : lit ++ dist ≠ []) : (headBits lit dist).length ≤ 6000 := by
  have hM := ownMeta_ok h15 hne
  have h1 : (order.flatMap fun k => bitsOf ((ownMeta (lit ++ dist)).getD k 0) 3).length ≤ 19 * 3 := flat_len order _ (fun x => by rw [bits_length]; exact Nat.le_refl _)
  have h2 := flat_len (lit ++ dist) (enc (ownMeta (lit ++ dist))) (m := 15) (enc_length _ (fun x hx => by have := hM.le x hx; omega))
  have h3 : (lit ++ dist).length * 15 ≤ 316 * 15 := Nat.mul_le_mul_right _ hn
  unfold headBits
  simp only [List.length_append, bits_length] at *
  omega
end Go.Proofs.YtncidljdfipigaaDoor.Wi

/- What OwnPut and FlatePut of the specification do. Conditions: none. -/
namespace Go.Proofs.YtncidljdfipigaaDoor.Wi
open Go.RowKit Go.Proofs.YtncidljdfipigaaDoor.Mem Go.Proofs.YtncidljdfipigaaDoor.Bt Go.Proofs.YtncidljdfipigaaDoor.Cd Go.Proofs.YtncidljdfipigaaDoor.De Go.Proofs.YtncidljdfipigaaDoor.En Go.Proofs.YtncidljdfipigaaDoor.Lz Go.Proofs.YtncidljdfipigaaDoor.Hf
set_option linter.unusedVariables false
set_option linter.unusedSimpArgs false
set_option maxRecDepth 100000 in
set_option maxHeartbeats 1000000 in
theorem sown_calls (s : ByteArray) (h : s.size ≤ 300) (w : World) :
    Calls Tryd.prog 60 #[.string s] w (Tells w (.string (strB (En.ownPut (chars s))))) := by
  have htx := text_chars h
  have htl := tokens_size h
  have HR : RowKit.Hid (strB (En.ownPut (chars s)) = strB (pack (pad (ownBits (chars s))))) := Lib.hid (by rw [pack_pad]; rfl)
  have HOB : RowKit.Hid (ownBits (chars s) = bitsOf 1 1 ++ bitsOf 2 2 ++ headBits (ownLit (tokens (chars s))) (ownDist (tokens (chars s))) ++ encToks (ownLit (tokens (chars s))) (ownDist (tokens (chars s))) (tokens (chars s))) := Lib.hid rfl
  have HTX := Lib.hid htx
  clear htx
  go_enter Tryd.func60, Tryd.ntmps60
  go_wp2_with fail
  refine (stoks_calls s h w).mono ?_
  rintro e w1 ⟨q, cq, rfl, Rq, hq1, hq2, hq3, O1⟩
  obtain ⟨l, hl⟩ : ∃ l, tokens (chars s) = l := ⟨_, rfl⟩
  rw [hl] at HTX HOB Rq hq1 htl ⊢
  have HF := Lib.hid (fine_of (lit := []) (dist := []) HTX.out)
  have H2 := Lib.hid (own_has HTX.out)
  have HFB := Lib.hid (fitB HTX.out)
  have HDL := Lib.hid (ownDist_length HTX.out)
  have HBP := Lib.hid (cntB_pos HTX.out)
  obtain ⟨n, hn⟩ : ∃ n, l.length = n := ⟨_, rfl⟩
  rw [hn] at hq1 htl ⊢
  have HNN := Lib.hid hn
  clear hn hl
  go_wp2_with fail
  refine (scounts_calls l q n cq w1 Rq HNN.out (by omega) hq1 HF.out).mono ?_
  rintro e w2 ⟨ra, ca, rb, cb, rfl, Na, Nb, ha, hb, O2⟩
  have hca := Na.row.2.2.1
  have hcb := Nb.row.2.2.1
  have hz1 := O1.size
  go_wp2_with fail
  refine (sfit_calls (cntL l) ra 0 286 ca 15 w2 Na.row.1.toO (cntL_length l) (by omega) hca (fun x hx => by have := cntL_le l x hx; have := HNN.out; omega) (by omega) (by omega) ⟨256, cntL_last l⟩ (by rw [show 15 + 3 = 18 from rfl, fib18]; omega)).mono ?_
  rintro e w3 ⟨rc, cc, rfl, Nc, hc, hc2, O3⟩
  have hLl : (fit 15 (cntL l)).length = 286 := (fitL l).1.len.trans (cntL_length l)
  rw [hLl] at Nc ⊢
  have hcc := Nc.row.2.2.1
  have HLl := Lib.hid hLl
  clear hLl
  go_wp2_with fail
  refine (slast_calls (fit 15 (cntL l)) rc 286 cc 257 w3 Nc.row.1.toO HLl.out (by omega) hcc (by omega)).mono ?_
  rintro e w3b ⟨rfl, rfl⟩
  have hol : trimTo (fit 15 (cntL l)) 257 286 = (ownLit l).length := by unfold ownLit; rw [trim_length, HLl.out]
  rw [hol]
  have Rl : RowO w3b rc 0 3 (i64s (ownLit l)) := by
    have e : ownLit l = (fit 15 (cntL l)).take (trimTo (fit 15 (cntL l)) 257 286) := by unfold ownLit trim; rw [HLl.out]
    rw [e, show i64s ((fit 15 (cntL l)).take (trimTo (fit 15 (cntL l)) 257 286)) = (i64s (fit 15 (cntL l))).take (trimTo (fit 15 (cntL l)) 257 286) from by unfold i64s; rw [List.map_take]]
    exact (Nc.row.1.head _).toO
  have hln := ownLit_length l
  have HL15 := Lib.hid (trim_le (least := 257) (fitL l).2)
  obtain ⟨nl, hnl⟩ : ∃ nl, (ownLit l).length = nl := ⟨_, rfl⟩
  rw [hnl] at hln ⊢
  have HNL := Lib.hid hnl
  clear hol hnl
  go_wp2_with fail
  refine (sfit_calls (cntB l) rb 0 30 cb 15 w3b (Nb.on O3).row.1.toO (cntB_length l) (by omega) hcb (fun x hx => by have := cntB_le HF.out x hx; have := HNN.out; omega) (by omega) (by omega) HBP.out (by rw [show 15 + 3 = 18 from rfl, fib18]; omega)).mono ?_
  rintro e w4 ⟨rd, cd, rfl, Nd, hd, hd2, O4⟩
  have hBl : (fit 15 (cntB l)).length = 30 := HFB.out.1.len.trans (cntB_length l)
  rw [hBl] at Nd ⊢
  have hcd := Nd.row.2.2.1
  have HBl := Lib.hid hBl
  clear hBl
  go_wp2_with fail
  refine (slast_calls (fit 15 (cntB l)) rd 30 cd 1 w4 Nd.row.1.toO HBl.out (by omega) hcd (by omega)).mono ?_
  rintro e w4b ⟨rfl, rfl⟩
  have hod : trimTo (fit 15 (cntB l)) 1 30 = (ownDist l).length := by unfold ownDist; rw [trim_length, HBl.out]
  rw [hod]
  have Rd : RowO w4b rd 0 3 (i64s (ownDist l)) := by
    have e : ownDist l = (fit 15 (cntB l)).take (trimTo (fit 15 (cntB l)) 1 30) := by unfold ownDist trim; rw [HBl.out]
    rw [e, show i64s ((fit 15 (cntB l)).take (trimTo (fit 15 (cntB l)) 1 30)) = (i64s (fit 15 (cntB l))).take (trimTo (fit 15 (cntB l)) 1 30) from by unfold i64s; rw [List.map_take]]
    exact (Nd.row.1.head _).toO
  have hdn := HDL.out
  have HD15 := Lib.hid (trim_le (least := 1) HFB.out.2)
  obtain ⟨nd, hnd⟩ : ∃ nd, (ownDist l).length = nd := ⟨_, rfl⟩
  rw [hnd] at hdn ⊢
  have HND := Lib.hid hnd
  have Rl4 := Rl.on O4
  have Rq4 := Rq.on (O2.call (O3.call O4))
  have Ot4 := O1.call (O2.call (O3.call O4))
  have hrcl := Rl4.lt
  have hrdl := Rd.lt
  have hrql := Rq4.lt
  have HHL := Lib.hid (head_length (ownLit l) (ownDist l) (by rw [List.length_append, HNL.out, hnd]; omega) (fun x hx => by
    rcases List.mem_append.1 hx with h | h
    · exact HL15.out x h
    · exact HD15.out x h) (by intro e; have := congrArg List.length e; rw [List.length_append, HNL.out] at this; simp at this; omega))
  have HET := Lib.hid (show (encToks (ownLit l) (ownDist l) l).length ≤ 20000 by
    have h1 := flat_le (lit := ownLit l) (dist := ownDist l) (fine_of HTX.out) HL15.out HD15.out l.length
    rw [List.take_length] at h1
    have h2 := enc_length (ownLit l) HL15.out 256
    unfold encToks
    rw [List.length_append]
    have := HNN.out
    omega)
  clear hod hnd Nd Nc Rl Na Nb
  go_wp2_with fail
  refine (sput_calls _ _ [] 1 1 _ (sw_new w4b) (by omega) (by simp) (by omega)).mono ?_
  rintro e w5 ⟨r5, rfl, hw5, M5⟩
  have OA := (On.refl w4b).alloc (.cells #[.slice none 0 0, .int .i64 0, .int .i64 0] 88)
  have hr0 : w4b.heap.size < (w4b.alloc (.cells #[.slice none 0 0, .int .i64 0, .int .i64 0] 88)).heap.size := (Blk.new w4b _ _).lt
  have hr5 := M5.lt hr0
  obtain ⟨O5, hb5⟩ := M5.on OA (Nat.le_refl _) (Nat.le_refl _)
  go_wp2_with fail
  refine (sput_calls _ _ _ 2 2 w5 hw5 (by omega) (by simp [bitsOf]) (by omega)).mono ?_
  rintro e w6 ⟨r6, rfl, hw6, M6⟩
  have hr6 := M6.lt hr5
  obtain ⟨O6, hb6⟩ := M6.on O5 (Nat.le_refl _) hb5
  have hpl := Lib.hid (sputlens_calls w4b.heap.size r6 rc nl cc rd nd cd _ (ownLit l) (ownDist l) w6 hw6 hr6 (by simp [bitsOf]) (Rl4.on O6) (Rd.on O6) HNL.out HND.out hln.1 hln.2 hdn.1 hdn.2 (by omega) (by omega) HL15.out HD15.out)
  go_wp2_with fail
  refine hpl.out.mono ?_
  rintro e w7 ⟨r7, rfl, hw7, M7⟩
  have hr7 := M7.lt hr6
  obtain ⟨O7, hb7⟩ := M7.on O6 (Nat.le_refl _) hb6
  have hpt := Lib.hid (stokens_calls w4b.heap.size r7 q n cq rc 0 nl cc rd 0 nd cd _ l (ownLit l) (ownDist l) w7 hw7 hr7 (by have := HHL.out; simp only [List.length_append, bits_length, List.length_nil]; omega) (Rq4.on O7) (Rl4.on O7) (Rd.on O7) HNN.out (by omega) hq1 HNL.out HND.out (by omega) (by omega) (by omega) (by omega)
    H2.out (fine_of HTX.out) (not_in (by omega) (by omega)) (not_in (by omega) (by omega)) (not_in (by omega) (by omega)))
  clear hpl hw5 hw6 hw7
  go_wp2_with fail
  refine hpt.out.mono ?_
  rintro e w8 ⟨r8, rfl, hw8, M8⟩
  obtain ⟨O8, hb8⟩ := M8.on O7 (Nat.le_refl _) hb7
  have hw9 : SW w8 w4b.heap.size r8 (ownBits (chars s)) := by rw [HOB.out]; exact hw8
  have hbl : (ownBits (chars s)).length ≤ 100000 := by
    rw [HOB.out]
    have := HHL.out
    have := HET.out
    simp only [List.length_append, bits_length]
    omega
  have hwh := Lib.hid (whole_calls w4b.heap.size r8 (ownBits (chars s)) w8 hw9 (by omega))
  clear hpt hw8 hw9 hbl
  go_wp2_with fail
  refine hwh.out.mono ?_
  rintro e w9 ⟨r9, rfl, hw9, M9⟩
  obtain ⟨O9, hb9⟩ := M9.on O8 (Nat.le_refl _) hb8
  obtain ⟨v, c0, hconv⟩ := hw9.text (by rw [pad_length]; omega)
  have Ot := Ot4.call O9
  clear hw9
  go_wp2_with fail
  go_ret
  exact ⟨by rw [HR.out]; rfl, Ot⟩
set_option maxRecDepth 100000 in
theorem sownput_calls (s : ByteArray) (w : World) :
    Calls Tryd.prog 27 #[.string s] w (Tells w (.string (ownB s))) := by
  by_cases h : s.size ≤ 300
  · have h' : (s.size : Int) ≤ 300 := by omega
    have HR : RowKit.Hid (ownB s = strB (En.ownPut (chars s))) := Lib.hid (by unfold ownB; rw [if_pos h])
    go_enter Tryd.func27, Tryd.ntmps27
    go_wp2_with fail
    refine (sown_calls s h w).mono ?_
    rintro e w1 ⟨rfl, O1⟩
    go_wp2_with fail
    go_ret
    exact ⟨by rw [HR.out]; rfl, O1⟩
  · have h' : (300 : Int) < s.size := by omega
    have HR : RowKit.Hid (ownB s = ⟨#[]⟩) := Lib.hid (by unfold ownB; rw [if_neg h])
    go_enter Tryd.func27, Tryd.ntmps27
    go_wp2_with fail
    go_ret
    exact ⟨by rw [HR.out]; rfl, On.refl _⟩
set_option maxRecDepth 100000 in
theorem sflateput_calls (s : ByteArray) (w : World) :
    Calls Tryd.prog 33 #[.string s] w (Tells w (.string (flateB s))) := by
  by_cases h : s.size ≤ 300
  · have h' : (s.size : Int) ≤ 300 := by omega
    have HR : RowKit.Hid (flateB s = pickTo (strB (En.store (chars s))) (strB (En.fixed (chars s))) (strB (En.ownPut (chars s))) 2) := Lib.hid (by unfold flateB; rw [if_pos h]; exact flate_pick s h)
    have HS := Lib.hid (fun w => sstore_calls s w h)
    have HK := Lib.hid (fun w => sknown_calls s h w)
    have HO := Lib.hid (fun w => sown_calls s h w)
    generalize strB (En.store (chars s)) = x at *
    generalize strB (En.fixed (chars s)) = y at *
    generalize strB (En.ownPut (chars s)) = z at *
    go_enter Tryd.func33, Tryd.ntmps33
    go_wp2_with fail
    refine (HS.out w).mono ?_
    rintro e w1 ⟨rfl, O1⟩
    go_wp2_with fail
    refine (HK.out w1).mono ?_
    rintro e w2 ⟨rfl, O2⟩
    go_wp2_with fail
    refine (HO.out w2).mono ?_
    rintro e w3 ⟨rfl, O3⟩
    go_wp2_with fail
    have BB := Blk.new w3 9 #[.string y, .string z]
    have O4 := (O1.call (O2.call O3)).alloc (.cells #[.string y, .string z] 9)
    generalize hB : w3.heap.size = B at *
    generalize w3.alloc (.cells #[.string y, .string z] 9) = w4 at *
    go_loop [3, 5] (fun o i => ∃ k : Nat, k ≤ 2 ∧ i = .int .i64 (k : Int) ∧ o = .string (pickTo x y z k)) (fun _ i => 2 - (intOf i).toNat)
    case atStart => exact ⟨0, by omega, rfl, rfl⟩
    case round =>
      obtain ⟨k, hk, rfl, rfl⟩ := hrel
      by_cases hlt : k < 2
      · obtain ⟨v, c0, hv⟩ : ∃ v, w4.cell? ⟨B, k, none⟩ = some (.string v) ∧ pickTo x y z (k + 1) = choose (pickTo x y z k) v := by
          rcases (show k = 0 ∨ k = 1 by omega) with rfl | rfl
          · exact ⟨y, (BB.cell 0).trans rfl, rfl⟩
          · exact ⟨z, (BB.cell 1).trans rfl, rfl⟩
        have HV := Lib.hid hv
        clear hv
        have hlt' : (k : Int) < 2 := by omega
        generalize pickTo x y z k = p at *
        by_cases hs : v.size < p.size
        · have hs' : (v.size : Int) < (p.size : Int) := by omega
          have HC : RowKit.Hid (pickTo x y z (k + 1) = v) := Lib.hid (by rw [HV.out]; unfold choose; rw [if_pos hs])
          go_wp2_with fail
          go_round
          case rel => exact ⟨k + 1, by omega, by go_num, by rw [HC.out]⟩
          case measure => simp [intOf]; omega
        · have hs' : ¬ (v.size : Int) < (p.size : Int) := by omega
          have HC : RowKit.Hid (pickTo x y z (k + 1) = p) := Lib.hid (by rw [HV.out]; unfold choose; rw [if_neg hs])
          go_wp2_with fail
          go_round
          case rel => exact ⟨k + 1, by omega, by go_num, by rw [HC.out]⟩
          case measure => simp [intOf]; omega
      · obtain rfl : k = 2 := by omega
        go_wp2_with fail
        go_ret
        exact ⟨by rw [HR.out]; rfl, O4⟩
  · have h' : (300 : Int) < s.size := by omega
    have HR : RowKit.Hid (flateB s = ⟨#[]⟩) := Lib.hid (by unfold flateB; rw [if_neg h])
    go_enter Tryd.func33, Tryd.ntmps33
    go_wp2_with fail
    go_ret
    exact ⟨by rw [HR.out]; rfl, On.refl _⟩
end Go.Proofs.YtncidljdfipigaaDoor.Wi

/- A packed file's text, and how a text is packed: the specification's. -/
namespace Go.Proofs.YtncidljdfipigaaDoor.Lc
open Go.RowKit Go.Proofs.YtncidljdfipigaaDoor.Mem Go.Proofs.YtncidljdfipigaaDoor.Wi Go.Proofs.YtncidljdfipigaaDoor.De
set_option linter.unusedVariables false
set_option linter.unusedSimpArgs false
/-- The text of a file packed in the way m. -/
def textOf (m : Nat) (p : List Nat) : Option (List Nat) :=
  if m = 0 then some p else if m = 8 then (match flate p with | some (o, n) => if n = p.length then some o else none | none => none) else none
/-- What is told of a text. -/
structure TextIs (m : Nat) (s : ByteArray) (tx : ByteArray) (b : Bool) : Prop where
  ok : b = (textOf m (chars s)).isSome
  tx : ∀ o, textOf m (chars s) = some o → tx = strB o
theorem TextIs.zero (s : ByteArray) : TextIs 0 s s true := ⟨by simp [textOf], fun o h => by simp [textOf] at h; rw [← h, strB_chars]⟩
theorem TextIs.none {m : Nat} {s tx : ByteArray} (h : textOf m (chars s) = none) : TextIs m s tx false := ⟨by rw [h]; rfl, fun o ho => by rw [h] at ho; cases ho⟩
theorem TextIs.some {m : Nat} {s : ByteArray} {o : List Nat} (h : textOf m (chars s) = some o) : TextIs m s (strB o) true := ⟨by rw [h]; rfl, fun o' ho => by rw [h] at ho; cases ho; rfl⟩
set_option maxRecDepth 100000 in
theorem stext_calls (m : Nat) (s : ByteArray) (hs : s.size ≤ 4294967296) (w : World) :
    Calls Tryd.prog 107 #[.int .i64 m, .string s] w (fun e w' => ∃ tx b, e = .returned (.tuple #[.string tx, .bool b]) ∧ On w w' ∧ TextIs m s tx b) := by
  by_cases h0 : m = 0
  · subst h0
    have HT := Lib.hid (TextIs.zero s)
    go_enter Tryd.func107, Tryd.ntmps107
    go_wp2_with fail
    go_ret2
    exact ⟨_, _, rfl, On.refl _, HT.out⟩
  have h0' : ¬ (m : Int) = 0 := by omega
  have hg := sflateget_calls s w
  unfold gotOf at hg
  cases hf : flate (chars s) with
  | none =>
    rw [hf] at hg
    have HT := Lib.hid (fun tx => TextIs.none (m := m) (s := s) (tx := tx) (by unfold textOf; rw [if_neg h0, hf]; split <;> rfl))
    have HG := Lib.hid hg
    clear hg
    go_enter Tryd.func107, Tryd.ntmps107
    go_wp2_with fail
    refine HG.out.mono ?_
    rintro e w1 ⟨rfl, O1⟩
    go_wp2_with fail
    go_ret2
    exact ⟨_, _, rfl, O1, HT.out _⟩
  | some r =>
    obtain ⟨o, n⟩ := r
    rw [hf] at hg
    have HG := Lib.hid hg
    clear hg
    have hlc : (chars s).length = s.size := chars_length s
    by_cases h8 : m = 8
    · subst h8
      by_cases hn : n = s.size
      · have HT := Lib.hid (TextIs.some (m := 8) (s := s) (o := o) (by unfold textOf; rw [if_neg h0, if_pos rfl, hf]; show (if n = (chars s).length then _ else _) = _; rw [if_pos (by omega)]))
        subst hn
        clear hlc hf
        go_enter Tryd.func107, Tryd.ntmps107
        go_wp2_with fail
        refine HG.out.mono ?_
        rintro e w1 ⟨rfl, O1⟩
        go_wp2_with fail
        go_ret2
        exact ⟨_, _, rfl, O1, HT.out⟩
      · have HT := Lib.hid (fun tx => TextIs.none (m := 8) (s := s) (tx := tx) (by unfold textOf; rw [if_neg h0, if_pos rfl, hf]; show (if n = (chars s).length then _ else _) = _; rw [if_neg (by omega)]))
        have hn' : ((n : Int) == s.size) = false := by rw [beq_eq_false_iff_ne]; omega
        clear hlc hf
        go_enter Tryd.func107, Tryd.ntmps107
        go_wp2_with fail
        refine HG.out.mono ?_
        rintro e w1 ⟨rfl, O1⟩
        go_wp2_with fail
        go_ret2
        exact ⟨_, _, rfl, O1, HT.out _⟩
    · have HT := Lib.hid (fun tx => TextIs.none (m := m) (s := s) (tx := tx) (by unfold textOf; rw [if_neg h0, if_neg h8]))
      have h8' : ((m : Int) == 8) = false := by rw [beq_eq_false_iff_ne]; omega
      clear hlc hf
      go_enter Tryd.func107, Tryd.ntmps107
      go_wp2_with fail
      refine HG.out.mono ?_
      rintro e w1 ⟨rfl, O1⟩
      go_wp2_with fail
      go_ret2
      exact ⟨_, _, rfl, O1, HT.out _⟩
/-- How a text is packed in a file: packed, if that is shorter. -/
def howOf (s : ByteArray) : Nat × ByteArray := if (flateB s).size < s.size then (8, flateB s) else (0, s)
set_option maxRecDepth 100000 in
theorem show_calls (s : ByteArray) (hs : s.size ≤ 4294967296) (w : World) :
    Calls Tryd.prog 116 #[.string s] w (fun e w' => e = .returned (.tuple #[.int .i64 ((howOf s).1 : Nat), .string (howOf s).2]) ∧ On w w') := by
  have HC := Lib.hid (fun w => sflateput_calls s w)
  by_cases h : (flateB s).size < s.size
  · have HR := Lib.hid (show howOf s = (8, flateB s) from if_pos h)
    generalize howOf s = R at *
    generalize flateB s = t at *
    go_enter Tryd.func116, Tryd.ntmps116
    go_wp2_with fail
    refine (HC.out w).mono ?_
    rintro e w1 ⟨rfl, O1⟩
    go_wp2_with fail
    go_ret2
    exact ⟨by rw [HR.out]; rfl, O1⟩
  · have HR := Lib.hid (show howOf s = (0, s) from if_neg h)
    generalize howOf s = R at *
    generalize flateB s = t at *
    go_enter Tryd.func116, Tryd.ntmps116
    go_wp2_with fail
    refine (HC.out w).mono ?_
    rintro e w1 ⟨rfl, O1⟩
    go_wp2_with fail
    go_ret2
    exact ⟨by rw [HR.out]; rfl, O1⟩
end Go.Proofs.YtncidljdfipigaaDoor.Lc

/- The fields of a file in an archive, the specification's. (Printed by tools/gen_he.py.) -/
namespace Go.Proofs.YtncidljdfipigaaDoor.Lc
open Go.RowKit Go.Proofs.YtncidljdfipigaaDoor.Mem Go.Proofs.YtncidljdfipigaaDoor.Nm Go.Proofs.YtncidljdfipigaaDoor.Nb Go.Proofs.YtncidljdfipigaaDoor.Cr Go.Proofs.YtncidljdfipigaaDoor.Wi
set_option linter.unusedVariables false
set_option linter.unusedSimpArgs false
theorem sb2_calls (v : Nat) (hv : v < 9223372036854775808) (w : World) :
    Calls Tryd.prog 117 #[.int .i64 v, .int .i64 2] w (fun e w' => e = .returned (.string (nB 2 v)) ∧ On w w') := by
  have h := sbytes_calls v 2 hv (by decide) w
  rw [show ((2 : Nat) : Int) = 2 from rfl] at h
  exact h
theorem sb4_calls (v : Nat) (hv : v < 9223372036854775808) (w : World) :
    Calls Tryd.prog 117 #[.int .i64 v, .int .i64 4] w (fun e w' => e = .returned (.string (nB 4 v)) ∧ On w w') := by
  have h := sbytes_calls v 4 hv (by decide) w
  rw [show ((4 : Nat) : Int) = 4 from rfl] at h
  exact h
theorem sb20_calls (w : World) : Calls Tryd.prog 117 #[.int .i64 20, .int .i64 2] w (fun e w' => e = .returned (.string (nB 2 20)) ∧ On w w') := by
  have h := sb2_calls 20 (by decide) w
  rw [show ((20 : Nat) : Int) = 20 from rfl] at h
  exact h
theorem sb0_calls (w : World) : Calls Tryd.prog 117 #[.int .i64 0, .int .i64 2] w (fun e w' => e = .returned (.string (nB 2 0)) ∧ On w w') := by
  have h := sb2_calls 0 (by decide) w
  rw [show ((0 : Nat) : Int) = 0 from rfl] at h
  exact h
/-- The fields of a file that is packed in the way mt, pk bytes long. -/
def fieldsB (nm : ByteArray) (y m d h mi s : Int) (tx : ByteArray) (mt pk : Nat) : ByteArray :=
  ((((((((nB 2 20 ++ nB 2 0) ++ nB 2 mt) ++ nB 4 (stampN y m d h mi s).toNat) ++ nB 4 (crcOf tx)) ++ nB 4 pk) ++ nB 4 tx.size) ++ nB 2 nm.size) ++ nB 2 0)
set_option maxRecDepth 100000 in
set_option maxHeartbeats 4000000 in
theorem sfields_calls (nm : ByteArray) (y m d h mi s : Int) (tx : ByteArray) (ok : okp y m d h mi s) (hn : nm.size ≤ 1000) (ht : tx.size ≤ 1000) (w : World) :
    Calls Tryd.prog 118 #[.agg #[.string nm, .int .i64 y, .int .i64 m, .int .i64 d, .int .i64 h, .int .i64 mi, .int .i64 s, .string tx]] w (Tells w (.string (fieldsB nm y m d h mi s tx (howOf tx).1 (howOf tx).2.size))) := by
  have hmt : (howOf tx).1 ≤ 8 := by unfold howOf; split <;> simp
  have hpk : (howOf tx).2.size ≤ 1000 := by unfold howOf; split <;> simp <;> omega
  have HW := Lib.hid (fun w => show_calls tx (by omega) w)
  generalize howOf tx = hw at *
  obtain ⟨mt, pt⟩ := hw
  have hmt : mt ≤ 8 := hmt
  have hpk : pt.size ≤ 1000 := hpk
  have HR := Lib.hid (show fieldsB nm y m d h mi s tx mt pt.size = ((((((((nB 2 20 ++ nB 2 0) ++ nB 2 mt) ++ nB 4 (stampN y m d h mi s).toNat) ++ nB 4 (crcOf tx)) ++ nB 4 pt.size) ++ nB 4 tx.size) ++ nB 2 nm.size) ++ nB 2 0) from rfl)
  show Calls Tryd.prog 118 #[.agg #[.string nm, .int .i64 y, .int .i64 m, .int .i64 d, .int .i64 h, .int .i64 mi, .int .i64 s, .string tx]] w (Tells w (.string (fieldsB nm y m d h mi s tx mt pt.size)))
  generalize fieldsB nm y m d h mi s tx mt pt.size = R at *
  have hbd := stampN_bd ok
  have HST := Lib.hid (fun w => sput_calls y m d h mi s ok w)
  obtain ⟨sn, hsn⟩ : ∃ sn : Nat, stampN y m d h mi s = (sn : Int) := ⟨(stampN y m d h mi s).toNat, by omega⟩
  rw [hsn] at HST HR hbd
  have hcl := crcC_lt tx
  have HCR := Lib.hid (fun w => scrc_calls tx (by omega) w)
  have HCE := Lib.hid (show crcOf tx = crcC (tx.data.toList.map UInt8.toNat) from rfl)
  rw [← HCE.out] at HCR hcl
  generalize crcOf tx = cr at *
  have hn20 := Lib.hid (fun w => sb20_calls w)
  have hn0 := Lib.hid (fun w => sb0_calls w)
  have hnm := Lib.hid (fun w => sb2_calls mt (by omega) w)
  have hns := Lib.hid (fun w => sb4_calls sn (by omega) w)
  have hnc := Lib.hid (fun w => sb4_calls cr (by omega) w)
  have hnp := Lib.hid (fun w => sb4_calls pt.size (by omega) w)
  have hnt := Lib.hid (fun w => sb4_calls tx.size (by omega) w)
  have hnn := Lib.hid (fun w => sb2_calls nm.size (by omega) w)
  have s1 := nB_size 2 20
  have s2 := nB_size 2 0
  have s3 := nB_size 2 mt
  have s4 := nB_size 4 sn
  have s5 := nB_size 4 cr
  have s6 := nB_size 4 pt.size
  have s7 := nB_size 4 tx.size
  have s8 := nB_size 2 nm.size
  rw [Int.toNat_natCast] at HR
  generalize nB 2 20 = b1 at *
  generalize nB 2 0 = b2 at *
  generalize nB 2 mt = b3 at *
  generalize nB 4 sn = b4 at *
  generalize nB 4 cr = b5 at *
  generalize nB 4 pt.size = b6 at *
  generalize nB 4 tx.size = b7 at *
  generalize nB 2 nm.size = b8 at *
  clear hsn hbd hcl HCE
  have OA := (On.refl w).alloc (.cells #[.string nm, .int .i64 y, .int .i64 m, .int .i64 d, .int .i64 h, .int .i64 mi, .int .i64 s, .string tx] 34)
  have BA := Blk.new w 34 #[.string nm, .int .i64 y, .int .i64 m, .int .i64 d, .int .i64 h, .int .i64 mi, .int .i64 s, .string tx]
  have HCS := Lib.hid (fun W (b : Blk W w.heap.size 34 #[.string nm, .int .i64 y, .int .i64 m, .int .i64 d, .int .i64 h, .int .i64 mi, .int .i64 s, .string tx]) => (⟨(b.cell 0).trans rfl, (b.cell 1).trans rfl, (b.cell 2).trans rfl, (b.cell 3).trans rfl, (b.cell 4).trans rfl, (b.cell 5).trans rfl, (b.cell 6).trans rfl, (b.cell 7).trans rfl⟩ :
    W.cell? ⟨w.heap.size, 0, none⟩ = some (.string nm) ∧ W.cell? ⟨w.heap.size, 1, none⟩ = some (.int .i64 y) ∧ W.cell? ⟨w.heap.size, 2, none⟩ = some (.int .i64 m) ∧ W.cell? ⟨w.heap.size, 3, none⟩ = some (.int .i64 d) ∧ W.cell? ⟨w.heap.size, 4, none⟩ = some (.int .i64 h) ∧ W.cell? ⟨w.heap.size, 5, none⟩ = some (.int .i64 mi) ∧ W.cell? ⟨w.heap.size, 6, none⟩ = some (.int .i64 s) ∧ W.cell? ⟨w.heap.size, 7, none⟩ = some (.string tx)))
  have HB0 := Lib.hid (fun W (O1 : On (w.alloc (.cells #[.string nm, .int .i64 y, .int .i64 m, .int .i64 d, .int .i64 h, .int .i64 mi, .int .i64 s, .string tx] 34)) W) => HCS.out W (BA.call O1.out))
  clear HCS BA
  go_enter Tryd.func118, Tryd.ntmps118
  go_upto_region 1 with fail
  generalize hP : w.heap.size = p at *
  generalize w.alloc (.cells #[.string nm, .int .i64 y, .int .i64 m, .int .i64 d, .int .i64 h, .int .i64 mi, .int .i64 s, .string tx] 34) = wz at *
  obtain ⟨x0, x1, x2, x3, x4, x5, x6, x7⟩ := HB0.out wz (On.refl _)
  go_wp2_with fail
  refine (HW.out wz).mono ?_
  rintro e wa ⟨rfl, Oz⟩
  clear x0 x1 x2 x3 x4 x5 x6 x7
  replace OA := OA.call Oz
  have HB := Lib.hid (fun W (O1 : On wa W) => HB0.out W (Oz.call O1))
  go_wp2_with fail
  refine wp_region_held_drew (S := fun W => On wa W) (by kernel_rfl) (On.refl _).drew (fun hHeld => ?_)
  refine wpAnyH_take (i := 3) (oi := _) (v := ?_) rfl (by kernel_rfl) (by kernel_rfl) (by kernel_rfl) (fun _ _ _ h => h) (Or.inl ⟨by rfl, ?_⟩) (by assumption) ?_
  rotate_left
  · intro w hSw
    go_simp
    first | done | with_reducible rfl
  try simp only [Act.put, List.setIfInBounds_toArray, List.set_cons_zero, List.set_cons_succ]
  refine wpAnyH_take (i := 6) (oi := _) (v := ?_) rfl (by kernel_rfl) (by kernel_rfl) (by kernel_rfl) (fun _ _ _ h => h) (Or.inl ⟨by rfl, ?_⟩) (by assumption) ?_
  rotate_left
  · intro w hSw
    go_simp
    first | done | with_reducible rfl
  try simp only [Act.put, List.setIfInBounds_toArray, List.set_cons_zero, List.set_cons_succ]
  refine wpAnyH_take (i := 7) (oi := _) (v := ?_) rfl (by kernel_rfl) (by kernel_rfl) (by kernel_rfl) (fun _ _ _ h => h) (Or.inl ⟨by rfl, ?_⟩) (by assumption) ?_
  rotate_left
  · intro w hSw
    obtain ⟨q0, q1, q2, q3, q4, q5, q6, q7⟩ := HB.out w hSw
    go_simp
    first | done | with_reducible rfl
  try simp only [Act.put, List.setIfInBounds_toArray, List.set_cons_zero, List.set_cons_succ]
  have O0 := (On.refl wa).drew
  refine wpAnyH_ready (rs := [0]) (by kernel_rfl) (by simp) ?_
  refine AllReadyH.cons (o := _) rfl (fun K hK => ?_) AllReadyH.nil
  go_simp
  refine (hn20.out wa.drew).mono ?_
  rintro e w1 ⟨rfl, T1⟩
  have O1 := O0.call T1
  refine hK.out _ _ O1 (fun hHeld => ?_)
  clear hK K
  try simp only [Act.put, List.setIfInBounds_toArray, List.set_cons_zero, List.set_cons_succ]
  refine wpAnyH_ready (rs := [1]) (by kernel_rfl) (by simp) ?_
  refine AllReadyH.cons (o := _) rfl (fun K hK => ?_) AllReadyH.nil
  go_simp
  refine (hn0.out w1).mono ?_
  rintro e w2 ⟨rfl, T2⟩
  have O2 := O1.call T2
  refine hK.out _ _ O2 (fun hHeld => ?_)
  clear hK K
  try simp only [Act.put, List.setIfInBounds_toArray, List.set_cons_zero, List.set_cons_succ]
  refine wpAnyH_take (i := 2) (oi := _) (v := ?_) rfl (by kernel_rfl) (by kernel_rfl) (by kernel_rfl) (fun _ _ _ h => h) (Or.inl ⟨by rfl, ?_⟩) (by assumption) ?_
  rotate_left
  · intro w hSw
    go_simp
    first | done | with_reducible rfl
  try simp only [Act.put, List.setIfInBounds_toArray, List.set_cons_zero, List.set_cons_succ]
  refine wpAnyH_ready (rs := [4]) (by kernel_rfl) (by simp) ?_
  refine AllReadyH.cons (o := _) rfl (fun K hK => ?_) AllReadyH.nil
  go_simp
  refine (hnm.out w2).mono ?_
  rintro e w3 ⟨rfl, T3⟩
  have O3 := O2.call T3
  refine hK.out _ _ O3 (fun hHeld => ?_)
  clear hK K
  try simp only [Act.put, List.setIfInBounds_toArray, List.set_cons_zero, List.set_cons_succ]
  refine wpAnyH_take (i := 5) (oi := _) (v := ?_) rfl (by kernel_rfl) (by kernel_rfl) (by kernel_rfl) (fun _ _ _ h => h) (Or.inl ⟨by rfl, ?_⟩) (by assumption) ?_
  rotate_left
  · intro w hSw
    go_simp
    first | done | with_reducible rfl
  try simp only [Act.put, List.setIfInBounds_toArray, List.set_cons_zero, List.set_cons_succ]
  refine wpAnyH_ready (rs := [8]) (by kernel_rfl) (by simp) ?_
  refine AllReadyH.cons (o := _) rfl (fun K hK => ?_) AllReadyH.nil
  go_simp
  refine (HST.out w3).mono ?_
  rintro e w4 ⟨rfl, T4⟩
  have O4 := O3.call T4
  refine hK.out _ _ O4 (fun hHeld => ?_)
  clear hK K
  try simp only [Act.put, List.setIfInBounds_toArray, List.set_cons_zero, List.set_cons_succ]
  refine wpAnyH_ready (rs := [9]) (by kernel_rfl) (by simp) ?_
  refine AllReadyH.cons (o := _) rfl (fun K hK => ?_) AllReadyH.nil
  go_simp
  refine (hns.out w4).mono ?_
  rintro e w5 ⟨rfl, T5⟩
  have O5 := O4.call T5
  refine hK.out _ _ O5 (fun hHeld => ?_)
  clear hK K
  try simp only [Act.put, List.setIfInBounds_toArray, List.set_cons_zero, List.set_cons_succ]
  refine wpAnyH_take (i := 10) (oi := _) (v := ?_) rfl (by kernel_rfl) (by kernel_rfl) (by kernel_rfl) (fun _ _ _ h => h) (Or.inl ⟨by rfl, ?_⟩) (by assumption) ?_
  rotate_left
  · intro w hSw
    go_simp
    first | done | with_reducible rfl
  try simp only [Act.put, List.setIfInBounds_toArray, List.set_cons_zero, List.set_cons_succ]
  refine wpAnyH_ready (rs := [11]) (by kernel_rfl) (by simp) ?_
  refine AllReadyH.cons (o := _) rfl (fun K hK => ?_) AllReadyH.nil
  go_simp
  refine hK.out _ _ O5 (fun hHeld => ?_)
  clear hK K
  try simp only [Act.put, List.setIfInBounds_toArray, List.set_cons_zero, List.set_cons_succ]
  refine wpAnyH_done (by kernel_rfl) ?_ _
  go_wp2_with fail
  replace OA := OA.call O5
  replace HB := Lib.hid (fun W (O1 : On w5 W) => HB.out W (O5.call O1))
  clear hHeld
  refine wp_region_held_drew (S := fun W => On w5 W) (by kernel_rfl) (On.refl _).drew (fun hHeld => ?_)
  refine wpAnyH_take (i := 0) (oi := _) (v := ?_) rfl (by kernel_rfl) (by kernel_rfl) (by kernel_rfl) (fun _ _ _ h => h) (Or.inl ⟨by rfl, ?_⟩) (by assumption) ?_
  rotate_left
  · intro w hSw
    go_simp
    first | done | with_reducible rfl
  try simp only [Act.put, List.setIfInBounds_toArray, List.set_cons_zero, List.set_cons_succ]
  refine wpAnyH_take (i := 1) (oi := _) (v := ?_) rfl (by kernel_rfl) (by kernel_rfl) (by kernel_rfl) (fun _ _ _ h => h) (Or.inl ⟨by rfl, ?_⟩) (by assumption) ?_
  rotate_left
  · intro w hSw
    go_simp
    first | done | with_reducible rfl
  try simp only [Act.put, List.setIfInBounds_toArray, List.set_cons_zero, List.set_cons_succ]
  refine wpAnyH_take (i := 2) (oi := _) (v := ?_) rfl (by kernel_rfl) (by kernel_rfl) (by kernel_rfl) (fun _ _ _ h => h) (Or.inl ⟨by rfl, ?_⟩) (by assumption) ?_
  rotate_left
  · intro w hSw
    obtain ⟨q0, q1, q2, q3, q4, q5, q6, q7⟩ := HB.out w hSw
    go_simp
    first | done | with_reducible rfl
  try simp only [Act.put, List.setIfInBounds_toArray, List.set_cons_zero, List.set_cons_succ]
  refine wpAnyH_take (i := 6) (oi := _) (v := ?_) rfl (by kernel_rfl) (by kernel_rfl) (by kernel_rfl) (fun _ _ _ h => h) (Or.inl ⟨by rfl, ?_⟩) (by assumption) ?_
  rotate_left
  · intro w hSw
    go_simp
    first | done | with_reducible rfl
  try simp only [Act.put, List.setIfInBounds_toArray, List.set_cons_zero, List.set_cons_succ]
  refine wpAnyH_take (i := 7) (oi := _) (v := ?_) rfl (by kernel_rfl) (by kernel_rfl) (by kernel_rfl) (fun _ _ _ h => h) (Or.inl ⟨by rfl, ?_⟩) (by assumption) ?_
  rotate_left
  · intro w hSw
    go_simp
    first | done | with_reducible rfl
  try simp only [Act.put, List.setIfInBounds_toArray, List.set_cons_zero, List.set_cons_succ]
  refine wpAnyH_take (i := 10) (oi := _) (v := ?_) rfl (by kernel_rfl) (by kernel_rfl) (by kernel_rfl) (fun _ _ _ h => h) (Or.inl ⟨by rfl, ?_⟩) (by assumption) ?_
  rotate_left
  · intro w hSw
    go_simp
    first | done | with_reducible rfl
  try simp only [Act.put, List.setIfInBounds_toArray, List.set_cons_zero, List.set_cons_succ]
  refine wpAnyH_take (i := 11) (oi := _) (v := ?_) rfl (by kernel_rfl) (by kernel_rfl) (by kernel_rfl) (fun _ _ _ h => h) (Or.inl ⟨by rfl, ?_⟩) (by assumption) ?_
  rotate_left
  · intro w hSw
    obtain ⟨q0, q1, q2, q3, q4, q5, q6, q7⟩ := HB.out w hSw
    go_simp
    first | done | with_reducible rfl
  try simp only [Act.put, List.setIfInBounds_toArray, List.set_cons_zero, List.set_cons_succ]
  refine wpAnyH_take (i := 12) (oi := _) (v := ?_) rfl (by kernel_rfl) (by kernel_rfl) (by kernel_rfl) (fun _ _ _ h => h) (Or.inl ⟨by rfl, ?_⟩) (by assumption) ?_
  rotate_left
  · intro w hSw
    go_simp
    first | done | with_reducible rfl
  try simp only [Act.put, List.setIfInBounds_toArray, List.set_cons_zero, List.set_cons_succ]
  replace O5 := (On.refl w5).drew
  refine wpAnyH_ready (rs := [3]) (by kernel_rfl) (by simp) ?_
  refine AllReadyH.cons (o := _) rfl (fun K hK => ?_) AllReadyH.nil
  go_simp
  refine (HCR.out w5.drew).mono ?_
  rintro e w' ⟨rfl, hw⟩
  rw [hw]
  clear hw
  refine hK.out _ _ O5 (fun hHeld => ?_)
  clear hK K
  try simp only [Act.put, List.setIfInBounds_toArray, List.set_cons_zero, List.set_cons_succ]
  refine wpAnyH_ready (rs := [4]) (by kernel_rfl) (by simp) ?_
  refine AllReadyH.cons (o := _) rfl (fun K hK => ?_) AllReadyH.nil
  go_simp
  refine (hnc.out w5.drew).mono ?_
  rintro e w6 ⟨rfl, T6⟩
  have O6 := O5.call T6
  refine hK.out _ _ O6 (fun hHeld => ?_)
  clear hK K
  try simp only [Act.put, List.setIfInBounds_toArray, List.set_cons_zero, List.set_cons_succ]
  refine wpAnyH_take (i := 5) (oi := _) (v := ?_) rfl (by kernel_rfl) (by kernel_rfl) (by kernel_rfl) (fun _ _ _ h => h) (Or.inl ⟨by rfl, ?_⟩) (by assumption) ?_
  rotate_left
  · intro w hSw
    go_simp
    first | done | with_reducible rfl
  try simp only [Act.put, List.setIfInBounds_toArray, List.set_cons_zero, List.set_cons_succ]
  refine wpAnyH_ready (rs := [8]) (by kernel_rfl) (by simp) ?_
  refine AllReadyH.cons (o := _) rfl (fun K hK => ?_) AllReadyH.nil
  go_simp
  refine (hnp.out w6).mono ?_
  rintro e w7 ⟨rfl, T7⟩
  have O7 := O6.call T7
  refine hK.out _ _ O7 (fun hHeld => ?_)
  clear hK K
  try simp only [Act.put, List.setIfInBounds_toArray, List.set_cons_zero, List.set_cons_succ]
  refine wpAnyH_take (i := 9) (oi := _) (v := ?_) rfl (by kernel_rfl) (by kernel_rfl) (by kernel_rfl) (fun _ _ _ h => h) (Or.inl ⟨by rfl, ?_⟩) (by assumption) ?_
  rotate_left
  · intro w hSw
    go_simp
    first | done | with_reducible rfl
  try simp only [Act.put, List.setIfInBounds_toArray, List.set_cons_zero, List.set_cons_succ]
  refine wpAnyH_ready (rs := [13]) (by kernel_rfl) (by simp) ?_
  refine AllReadyH.cons (o := _) rfl (fun K hK => ?_) AllReadyH.nil
  go_simp
  refine (hnt.out w7).mono ?_
  rintro e w8 ⟨rfl, T8⟩
  have O8 := O7.call T8
  refine hK.out _ _ O8 (fun hHeld => ?_)
  clear hK K
  try simp only [Act.put, List.setIfInBounds_toArray, List.set_cons_zero, List.set_cons_succ]
  refine wpAnyH_take (i := 14) (oi := _) (v := ?_) rfl (by kernel_rfl) (by kernel_rfl) (by kernel_rfl) (fun _ _ _ h => h) (Or.inl ⟨by rfl, ?_⟩) (by assumption) ?_
  rotate_left
  · intro w hSw
    go_simp
    first | done | with_reducible rfl
  try simp only [Act.put, List.setIfInBounds_toArray, List.set_cons_zero, List.set_cons_succ]
  refine wpAnyH_ready (rs := [15]) (by kernel_rfl) (by simp) ?_
  refine AllReadyH.cons (o := _) rfl (fun K hK => ?_) AllReadyH.nil
  go_simp
  refine hK.out _ _ O8 (fun hHeld => ?_)
  clear hK K
  try simp only [Act.put, List.setIfInBounds_toArray, List.set_cons_zero, List.set_cons_succ]
  refine wpAnyH_done (by kernel_rfl) ?_ _
  obtain ⟨x0, x1, x2, x3, x4, x5, x6, x7⟩ := HB.out w8 O8
  go_wp2_with fail
  replace OA := OA.call O8
  refine (hnn.out w8).mono ?_
  rintro e w' ⟨rfl, Ta⟩
  clear x0 x1 x2 x3 x4 x5 x6 x7
  replace OA := OA.call Ta
  go_wp2_with fail
  refine (hn0.out w').mono ?_
  rintro e w'' ⟨rfl, Tb⟩
  replace OA := OA.call Tb
  go_wp2_with fail
  go_ret
  exact ⟨by rw [HR.out]; rfl, OA⟩
end Go.Proofs.YtncidljdfipigaaDoor.Lc

/- A file as it lies in an archive, the specification's. (Printed by tools/gen_hg.py.) -/
namespace Go.Proofs.YtncidljdfipigaaDoor.Lc
open Go.RowKit Go.Proofs.YtncidljdfipigaaDoor.Mem Go.Proofs.YtncidljdfipigaaDoor.Nm Go.Proofs.YtncidljdfipigaaDoor.Nb Go.Proofs.YtncidljdfipigaaDoor.Cr Go.Proofs.YtncidljdfipigaaDoor.Wi
set_option linter.unusedVariables false
set_option linter.unusedSimpArgs false
theorem sbpk_calls (w : World) : Calls Tryd.prog 117 #[.int .i64 67324752, .int .i64 4] w (fun e w' => e = .returned (.string (nB 4 67324752)) ∧ On w w') := by
  have h := sb4_calls 67324752 (by decide) w
  rw [show ((67324752 : Nat) : Int) = 67324752 from rfl] at h
  exact h
theorem nB_mark : nB 4 67324752 = ⟨#[80, 75, 3, 4]⟩ := by decide
theorem fieldsB_size (nm : ByteArray) (y m d h mi s : Int) (tx : ByteArray) (mt pk : Nat) : (fieldsB nm y m d h mi s tx mt pk).size = 26 := by
  unfold fieldsB
  simp only [ByteArray.size_append, nB_size]
/-- A file in an archive. -/
def localB (nm : ByteArray) (y m d h mi s : Int) (tx : ByteArray) : ByteArray :=
  (((nB 4 67324752 ++ fieldsB nm y m d h mi s tx (howOf tx).1 (howOf tx).2.size) ++ nm) ++ (howOf tx).2)
theorem headB_fields (nm : ByteArray) (y m d h mi s : Int) (tx : ByteArray) (mt pk : Nat) : headB nm y m d h mi s tx mt pk = nB 4 67324752 ++ fieldsB nm y m d h mi s tx mt pk := by
  unfold headB fieldsB
  rw [nB_mark]
  simp only [ByteArray.append_assoc]
set_option maxRecDepth 100000 in
set_option maxHeartbeats 4000000 in
theorem slocal_calls (nm : ByteArray) (y m d h mi s : Int) (tx : ByteArray) (ok : okp y m d h mi s) (hn : nm.size ≤ 1000) (ht : tx.size ≤ 1000) (w : World) :
    Calls Tryd.prog 79 #[.agg #[.string nm, .int .i64 y, .int .i64 m, .int .i64 d, .int .i64 h, .int .i64 mi, .int .i64 s, .string tx]] w (Tells w (.string (localB nm y m d h mi s tx))) := by
  have hpk : (howOf tx).2.size ≤ 1000 := by unfold howOf; split <;> simp <;> omega
  have HR := Lib.hid (show localB nm y m d h mi s tx = (((nB 4 67324752 ++ fieldsB nm y m d h mi s tx (howOf tx).1 (howOf tx).2.size) ++ nm) ++ (howOf tx).2) from rfl)
  generalize localB nm y m d h mi s tx = R at *
  have HF := Lib.hid (fun w => sfields_calls nm y m d h mi s tx ok hn ht w)
  have HW := Lib.hid (fun w => show_calls tx (by omega) w)
  have hfs := fieldsB_size nm y m d h mi s tx (howOf tx).1 (howOf tx).2.size
  generalize fieldsB nm y m d h mi s tx (howOf tx).1 (howOf tx).2.size = fb at *
  generalize howOf tx = hw at *
  obtain ⟨mt, pt⟩ := hw
  have hpk2 : pt.size ≤ 1000 := hpk
  have hs1 := nB_size 4 67324752
  have HM := Lib.hid (fun w => sbpk_calls w)
  generalize nB 4 67324752 = mk at *
  have z1 : ¬ 9223372036854775807 < 30 + nm.size := by omega
  have z2 : ¬ 9223372036854775807 < 30 + nm.size + pt.size := by omega
  have z3 : ¬ 9223372036854775807 < 4 + 26 + nm.size := by omega
  have z4 : ¬ 9223372036854775807 < 4 + 26 + nm.size + pt.size := by omega
  have OA := (On.refl w).alloc (.cells #[.string nm, .int .i64 y, .int .i64 m, .int .i64 d, .int .i64 h, .int .i64 mi, .int .i64 s, .string tx] 34)
  have BA := Blk.new w 34 #[.string nm, .int .i64 y, .int .i64 m, .int .i64 d, .int .i64 h, .int .i64 mi, .int .i64 s, .string tx]
  have HCS := Lib.hid (fun W (b : Blk W w.heap.size 34 #[.string nm, .int .i64 y, .int .i64 m, .int .i64 d, .int .i64 h, .int .i64 mi, .int .i64 s, .string tx]) => (⟨(b.cell 0).trans rfl, (b.cell 1).trans rfl, (b.cell 2).trans rfl, (b.cell 3).trans rfl, (b.cell 4).trans rfl, (b.cell 5).trans rfl, (b.cell 6).trans rfl, (b.cell 7).trans rfl⟩ :
    W.cell? ⟨w.heap.size, 0, none⟩ = some (.string nm) ∧ W.cell? ⟨w.heap.size, 1, none⟩ = some (.int .i64 y) ∧ W.cell? ⟨w.heap.size, 2, none⟩ = some (.int .i64 m) ∧ W.cell? ⟨w.heap.size, 3, none⟩ = some (.int .i64 d) ∧ W.cell? ⟨w.heap.size, 4, none⟩ = some (.int .i64 h) ∧ W.cell? ⟨w.heap.size, 5, none⟩ = some (.int .i64 mi) ∧ W.cell? ⟨w.heap.size, 6, none⟩ = some (.int .i64 s) ∧ W.cell? ⟨w.heap.size, 7, none⟩ = some (.string tx)))
  have HB0 := Lib.hid (fun W (O1 : On (w.alloc (.cells #[.string nm, .int .i64 y, .int .i64 m, .int .i64 d, .int .i64 h, .int .i64 mi, .int .i64 s, .string tx] 34)) W) => HCS.out W (BA.call O1.out))
  clear HCS BA
  go_enter Tryd.func79, Tryd.ntmps79
  go_upto_region 1 with fail
  generalize hP : w.heap.size = p at *
  generalize w.alloc (.cells #[.string nm, .int .i64 y, .int .i64 m, .int .i64 d, .int .i64 h, .int .i64 mi, .int .i64 s, .string tx] 34) = wz at *
  obtain ⟨x0, x1, x2, x3, x4, x5, x6, x7⟩ := HB0.out wz (On.refl _)
  go_wp2_with fail
  refine (HW.out wz).mono ?_
  rintro e wa ⟨rfl, Oz⟩
  clear x0 x1 x2 x3 x4 x5 x6 x7
  replace OA := OA.call Oz
  have HB := Lib.hid (fun W (O1 : On wa W) => HB0.out W (Oz.call O1))
  go_wp2_with fail
  refine wp_region_held_drew (S := fun W => On wa W) (by kernel_rfl) (On.refl _).drew (fun hHeld => ?_)
  refine wpAnyH_take (i := 1) (oi := _) (v := ?_) rfl (by kernel_rfl) (by kernel_rfl) (by kernel_rfl) (fun _ _ _ h => h) (Or.inl ⟨by rfl, ?_⟩) (by assumption) ?_
  rotate_left
  · intro w hSw
    obtain ⟨q0, q1, q2, q3, q4, q5, q6, q7⟩ := HB.out w hSw
    go_simp
    first | done | with_reducible rfl
  try simp only [Act.put, List.setIfInBounds_toArray, List.set_cons_zero, List.set_cons_succ]
  refine wpAnyH_take (i := 4) (oi := _) (v := ?_) rfl (by kernel_rfl) (by kernel_rfl) (by kernel_rfl) (fun _ _ _ h => h) (Or.inl ⟨by rfl, ?_⟩) (by assumption) ?_
  rotate_left
  · intro w hSw
    go_simp
    first | done | with_reducible rfl
  try simp only [Act.put, List.setIfInBounds_toArray, List.set_cons_zero, List.set_cons_succ]
  refine wpAnyH_take (i := 5) (oi := _) (v := ?_) rfl (by kernel_rfl) (by kernel_rfl) (by kernel_rfl) (fun _ _ _ h => h) (Or.inl ⟨by rfl, ?_⟩) (by assumption) ?_
  rotate_left
  · intro w hSw
    obtain ⟨q0, q1, q2, q3, q4, q5, q6, q7⟩ := HB.out w hSw
    go_simp
    first | done | with_reducible rfl
  try simp only [Act.put, List.setIfInBounds_toArray, List.set_cons_zero, List.set_cons_succ]
  refine wpAnyH_take (i := 7) (oi := _) (v := ?_) rfl (by kernel_rfl) (by kernel_rfl) (by kernel_rfl) (fun _ _ _ h => h) (Or.inl ⟨by rfl, ?_⟩) (by assumption) ?_
  rotate_left
  · intro w hSw
    go_simp
    first | done | with_reducible rfl
  try simp only [Act.put, List.setIfInBounds_toArray, List.set_cons_zero, List.set_cons_succ]
  have O0 := (On.refl wa).drew
  refine wpAnyH_ready (rs := [0]) (by kernel_rfl) (by simp) ?_
  refine AllReadyH.cons (o := _) rfl (fun K hK => ?_) AllReadyH.nil
  go_simp
  refine (HM.out wa.drew).mono ?_
  rintro e w1 ⟨rfl, T1⟩
  have O1 := O0.call T1
  refine hK.out _ _ O1 (fun hHeld => ?_)
  clear hK K
  try simp only [Act.put, List.setIfInBounds_toArray, List.set_cons_zero, List.set_cons_succ]
  refine wpAnyH_ready (rs := [2]) (by kernel_rfl) (by simp) ?_
  refine AllReadyH.cons (o := _) rfl (fun K hK => ?_) AllReadyH.nil
  go_simp
  refine (HF.out w1).mono ?_
  rintro e w2 ⟨rfl, T2⟩
  have O2 := O1.call T2
  refine hK.out _ _ O2 (fun hHeld => ?_)
  clear hK K
  try simp only [Act.put, List.setIfInBounds_toArray, List.set_cons_zero, List.set_cons_succ]
  refine wpAnyH_take (i := 3) (oi := _) (v := ?_) rfl (by kernel_rfl) (by kernel_rfl) (by kernel_rfl) (fun _ _ _ h => h) (Or.inl ⟨by rfl, ?_⟩) (by assumption) ?_
  rotate_left
  · intro w hSw
    go_simp
    first | done | with_reducible rfl
  try simp only [Act.put, List.setIfInBounds_toArray, List.set_cons_zero, List.set_cons_succ]
  refine wpAnyH_take (i := 6) (oi := _) (v := ?_) rfl (by kernel_rfl) (by kernel_rfl) (by kernel_rfl) (fun _ _ _ h => h) (Or.inl ⟨by rfl, ?_⟩) (by assumption) ?_
  rotate_left
  · intro w hSw
    go_simp
    first | done | with_reducible rfl
  try simp only [Act.put, List.setIfInBounds_toArray, List.set_cons_zero, List.set_cons_succ]
  refine wpAnyH_take (i := 8) (oi := _) (v := ?_) rfl (by kernel_rfl) (by kernel_rfl) (by kernel_rfl) (fun _ _ _ h => h) (Or.inl ⟨by rfl, ?_⟩) (by assumption) ?_
  rotate_left
  · intro w hSw
    go_simp
    first | done | with_reducible rfl
  try simp only [Act.put, List.setIfInBounds_toArray, List.set_cons_zero, List.set_cons_succ]
  refine wpAnyH_ready (rs := [9]) (by kernel_rfl) (by simp) ?_
  refine AllReadyH.cons (o := _) rfl (fun K hK => ?_) AllReadyH.nil
  go_simp
  refine hK.out _ _ O2 (fun hHeld => ?_)
  clear hK K
  try simp only [Act.put, List.setIfInBounds_toArray, List.set_cons_zero, List.set_cons_succ]
  refine wpAnyH_done (by kernel_rfl) ?_ _
  go_wp2_with fail
  go_ret
  exact ⟨by rw [HR.out]; rfl, OA.call O2⟩
end Go.Proofs.YtncidljdfipigaaDoor.Lc

