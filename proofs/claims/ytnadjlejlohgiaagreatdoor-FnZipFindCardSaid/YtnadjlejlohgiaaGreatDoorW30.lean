/- Own texts joined: Hq. -/
import Derived.Test.YtnadjlejlohgiaaGreatDoorW17
import Derived.Test.YtnadjlejlohgiaaGreatDoorW27
import Derived.Test.YtnadjlejlohgiaaGreatDoorW28
import Derived.Test.YtnadjlejlohgiaaGreatDoorW29
/- How often symbols come, and lengths written by a code of their own, as the specification does it. Conditions: tokens that make a text; sizes. -/
namespace Go.Proofs.YtnadjlejlohgiaaGreatDoor.Wi
open Go.RowKit Go.Proofs.YtnadjlejlohgiaaGreatDoor.Mem Go.Proofs.YtnadjlejlohgiaaGreatDoor.Bt Go.Proofs.YtnadjlejlohgiaaGreatDoor.Cd Go.Proofs.YtnadjlejlohgiaaGreatDoor.De Go.Proofs.YtnadjlejlohgiaaGreatDoor.En Go.Proofs.YtnadjlejlohgiaaGreatDoor.Lz Go.Proofs.YtnadjlejlohgiaaGreatDoor.Hf
set_option linter.unusedVariables false
set_option linter.unusedSimpArgs false
/-- What a contract tells that counts symbols. -/
structure Cnts (w : World) (l : List Tok) (e : Ending) (w' : World) : Prop where mk ::
  out : ∃ ra ca rb cb, e = .returned (.tuple #[.slice (some ⟨ra, 0, none⟩) 286 ca, .slice (some ⟨rb, 0, none⟩) 30 cb]) ∧ Nums w' ra (.slice (some ⟨ra, 0, none⟩) 286 ca) (cntL l) ∧ Nums w' rb (.slice (some ⟨rb, 0, none⟩) 30 cb) (cntB l) ∧ w.heap.size ≤ ra ∧ w.heap.size ≤ rb ∧ On w w'
set_option maxRecDepth 100000 in
set_option maxHeartbeats 1000000 in
theorem scounts_calls (l : List Tok) (q n cap : Nat) (w : World) (hq : Row w q 117 (tokCells l)) (hn : l.length = n) (hn2 : n ≤ 1000) (hnc : n ≤ cap) (F : ∀ t ∈ l, Fine [] [] t) :
    Calls Tryz.prog 148 #[.slice (some ⟨q, 0, none⟩) n cap] w (Cnts w l) := by
  have HN := Lib.hid hn
  have HF := Lib.hid F
  have hql := hq.lt
  clear hn F
  go_enter Tryz.func148, Tryz.ntmps148
  go_upto_region 2 with (at_make; go_must (refine wpList_ints _ rfl _ _ rfl _ _ 286 rfl rfl rfl rfl (by omega) ?_); intro w1 N1 O1 hlt1)
  go_upto_region 3 with (at_make; go_must (refine wpList_ints _ rfl _ _ rfl _ _ 30 rfl rfl rfl rfl (by omega) ?_); intro w2 N2 O2 hlt2)
  generalize hA : w.heap.size = A at *
  generalize hB : w1.heap.size = B at *
  go_wp2_with fail
  refine (slong_calls w2).mono ?_
  rintro e w3 ⟨rc, cc, rfl, Nc, hc1, hc2, O3⟩
  go_wp2_with fail
  refine (sbase_calls longBits rc 0 28 cc 3 w3 (Nc.row.1.toO) rfl (by omega) (Nc.row.2.2.1) (by decide) (by omega)).mono ?_
  rintro e w4 ⟨re, ce, rfl, Ne, he1, he2, O4⟩
  go_wp2_with fail
  refine (sback_calls w4).mono ?_
  rintro e w5 ⟨rf, cf, rfl, Nf, hf1, hf2, O5⟩
  go_wp2_with fail
  refine (sbase_calls backBits rf 0 30 cf 1 w5 (Nf.row.1.toO) rfl (by omega) (Nf.row.2.2.1) (by decide) (by omega)).mono ?_
  rintro e w6 ⟨rh, ch, rfl, Nh, hh1, hh2, O6⟩
  have O56 := O5.call O6
  have O46 := O4.call O56
  have O36 := O3.call O46
  have O26 := O2.call O36
  have OW := O1.call O26
  have Re : RowO w6 re 0 3 (i64s longBase) := (Ne.on O56).row.1.toO
  have Rh : RowO w6 rh 0 3 (i64s backBase) := Nh.row.1.toO
  have hq6 := hq.on OW
  have hz1 := O1.size
  have hz2 := O2.size
  have hz3 := O3.size
  have hz4 := O4.size
  have hz5 := O5.size
  have hce : 28 ≤ ce := Ne.row.2.2.1
  have hch : 30 ≤ ch := Nh.row.2.2.1
  rw [show (base 3 longBits).length = 28 from rfl, show (base 1 backBits).length = 30 from rfl]
  have NA := N1.on O26
  have NB := N2.on O36
  have ca0 := NA.row.1.cell (i64s_get (show 256 < (List.replicate 286 0).length by rw [List.length_replicate]; omega))
  have fa0 : w6.frozen? ⟨A, 256, none⟩ = false := NA.row.1.frozen _
  have NAs := NA.set 256 1
  rw [← cntLTo_zero l] at NAs
  have K0 : Kp [A, B] w6 (w6.setCell ⟨A, 256, none⟩ (.int .i64 ((1 : Nat) : Int))) := (Kp.refl _ _).set (.inl (by simp)) _
  have NBs := NB.kp ((Kp.refl [A] w6).set (p := ⟨A, 256, none⟩) (.inl (by simp)) (.int .i64 ((1 : Nat) : Int))) (by simp; omega)
  rw [← cntBTo_zero l] at NBs
  clear Nc Ne Nf Nh N1 N2 NA NB
  go_wp2_with fail
  go_loopw [8] (fun x wr => ∃ (k : Nat), x = .int .i64 (k : Int) ∧ k ≤ n ∧ Nums wr A (.slice (some ⟨A, 0, none⟩) 286 286) (cntLTo l k) ∧ Nums wr B (.slice (some ⟨B, 0, none⟩) 30 30) (cntBTo l k) ∧ Kp [A, B] w6 wr) (fun x _ => n - (intOf x).toNat)
  case atStart => exact ⟨0, rfl, by omega, NAs, NBs, K0⟩
  case round =>
    obtain ⟨k, rfl, hk, NA, NB, K⟩ := hrel
    clear NAs NBs K0 ca0 fa0
    by_cases hlt : k < n
    · have hkl : k < l.length := by rw [HN.out]; exact hlt
      obtain ⟨t0, t1, t2⟩ := tok_get hkl
      have Ft := HF.out _ (List.getElem_mem hkl)
      have R := K.row hq6 (by simp; omega)
      have c0 := R.cell t0
      have c1 := R.cell t1
      have c2 := R.cell t2
      have hLs := cntLTo_succ hkl
      have hBl := cntBTo_long hkl
      have hBb := cntBTo_byte hkl
      have hsl := symL_lt Ft
      have hlL := cntLTo_length l k
      have hlB := cntBTo_length l k
      have hbL := cntLTo_le l k
      have hbB := cntBTo_le l k
      generalize l[k] = t at *
      obtain ⟨tb, tl, tk⟩ := t
      simp only at c0 c1 c2 hLs hBl hBb
      clear t0 t1 t2
      have fA : ∀ i, wr.frozen? ⟨A, i, none⟩ = false := NA.row.1.frozen
      have fB : ∀ i, wr.frozen? ⟨B, i, none⟩ = false := NB.row.1.frozen
      by_cases h0 : tl = 0
      · subst h0
        have hbyte := Ft.byte rfl
        obtain ⟨b, hb⟩ := Int.eq_ofNat_of_zero_le hbyte.1
        simp only at hb
        subst hb
        have hsy : symL ⟨(b : Int), 0, tk⟩ = b := by unfold symL; rw [if_pos rfl]; rfl
        have hB1 := hBb rfl
        clear hBb
        simp only [Int.ofNat_eq_natCast] at *
        rw [hsy] at hLs hsl
        have d0 := NA.row.1.cell (i64s_get (show b < (cntLTo l k).length by rw [hlL]; exact hsl))
        have hv := Cd.getD_le hbL b
        generalize (cntLTo l k).getD b 0 = v at *
        have HLs := Lib.hid hLs
        have HB1 := Lib.hid hB1
        have hb286 : (b : Int) < 286 := by omega
        have hb0 : (0 : Int) ≤ (b : Int) := by omega
        have e1 : IntKind.i64.wrap ((v : Int) + 1) = ((v + 1 : Nat) : Int) := by rw [IntKind.wrap_i64]; omega
        clear hsy hLs hB1 hBl hlL hlB hbL hbB hsl Ft hbyte
        go_wp2_with fail
        go_region
        go_wp2_with fail
        go_roundw
        case rel =>
          have D := (On.refl wr).drew
          have S := (NA.on D).set b (v + 1)
          rw [← HLs.out] at S
          refine ⟨k + 1, by go_num, by omega, S, ?_, K.drew.set (.inl (by simp)) _⟩
          rw [HB1.out]
          exact (NB.on D).kp ((Kp.refl [A] _).set (p := ⟨A, b, none⟩) (.inl (by simp)) _) (by simp; omega)
        case measure => simp [intOf]; omega
      · obtain ⟨l3, l60, k1, k250⟩ := Ft.long h0
        simp only at l3 l60 k1 k250
        obtain ⟨tln, rfl⟩ := Int.eq_ofNat_of_zero_le (show 0 ≤ tl by omega)
        obtain ⟨tkn, rfl⟩ := Int.eq_ofNat_of_zero_le (show 0 ≤ tk by omega)
        have hsy : symL ⟨tb, (tln : Int), (tkn : Int)⟩ = 257 + lad longBase tln := by unfold symL; rw [if_neg (by simp; omega)]; rfl
        simp only [Int.ofNat_eq_natCast, Int.toNat_natCast] at *
        have h0' : ((tln : Int) == 0) = false := by simp; omega
        rw [hsy] at hLs hsl
        have hB1 := hBl h0
        obtain ⟨a1, a2, a3, a4⟩ := lad_long tln (by omega) (by omega)
        obtain ⟨b1, b2, b3, b4⟩ := lad_back tkn (by omega) (by omega)
        have hsL := fun W (R : RowO W re 0 3 (i64s longBase)) => ssym_calls longBase re 28 ce tln W R (by decide) (by omega) hce (by omega) (by show 3 ≤ tln; omega) long_rising (by omega)
        have hsB := fun W (R : RowO W rh 0 3 (i64s backBase)) => ssym_calls backBase rh 30 ch tkn W R (by decide) (by omega) hch (by omega) (by show 1 ≤ tkn; omega) back_rising (by omega)
        have hcL : ∀ W, Nums W A (.slice (some ⟨A, 0, none⟩) 286 286) (cntLTo l k) → _ := fun W h => h.row.1.cell (i64s_get (show 257 + lad longBase tln < (cntLTo l k).length by rw [hlL]; exact hsl))
        have hcB : ∀ W, Nums W B (.slice (some ⟨B, 0, none⟩) 30 30) (cntBTo l k) → _ := fun W h => h.row.1.cell (i64s_get (show lad backBase tkn < (cntBTo l k).length by rw [hlB]; exact b1))
        have hvL := Cd.getD_le hbL (257 + lad longBase tln)
        have hvB := Cd.getD_le hbB (lad backBase tkn)
        generalize lad longBase tln = kl at *
        generalize lad backBase tkn = kb at *
        generalize (cntLTo l k).getD (257 + kl) 0 = vl at *
        generalize (cntBTo l k).getD kb 0 = vb at *
        have HSL := Lib.hid hsL
        have HSB := Lib.hid hsB
        have HCL := Lib.hid hcL
        have HCB := Lib.hid hcB
        have HLs := Lib.hid hLs
        have HB1 := Lib.hid hB1
        have ReA := Re.kp K (by simp; omega)
        have RhA := fun W (h : Kp [A, B] w6 W) => Rh.kp h (by simp; omega)
        have HRH := Lib.hid RhA
        have HC2 := Lib.hid (show ∀ W, Kp [A, B] w6 W → W.cell? ⟨q, k * 3 + 2, none⟩ = some (.int .i64 (tkn : Int)) from fun W h => (K.cell (p := ⟨q, k * 3 + 2, none⟩) (by exact hq6.lt) (by simp; omega)).symm.trans c2 ▸ h.cell (p := ⟨q, k * 3 + 2, none⟩) (by exact hq6.lt) (by simp; omega))
        clear hsL hsB hcL hcB hsy hLs hB1 hBl hBb hlL hlB hbL hbB Ft hsl RhA
        go_wp2_with fail
        refine (HSL.out wr ReA).mono ?_
        rintro e w7 ⟨rfl, O7⟩
        have NA7 := NA.on O7
        have NB7 := NB.on O7
        have K7 := K.then (Kp.of _ O7)
        have dA := HCL.out w7 NA7
        have fA7 : w7.frozen? ⟨A, 257 + kl, none⟩ = false := NA7.row.1.frozen _
        have S := NA7.set (257 + kl) (vl + 1)
        rw [← HLs.out] at S
        have NB8 := NB7.kp ((Kp.refl [A] _).set (p := ⟨A, 257 + kl, none⟩) (.inl (by simp)) (.int .i64 ((vl + 1 : Nat) : Int))) (by simp; omega)
        have K8 := K7.set (p := ⟨A, 257 + kl, none⟩) (.inl (by simp)) (.int .i64 ((vl + 1 : Nat) : Int))
        have c2' := HC2.out _ K8
        rw [show ((vl + 1 : Nat) : Int) = (vl : Int) + 1 from by omega] at S NB8 K8 c2'
        clear NA7 NB7 K7 c0 c1 c2 fA fB
        go_wp2_with fail
        have RhA := HRH.out _ K8
        generalize w7.setCell ⟨A, 257 + kl, none⟩ (.int .i64 ((vl : Int) + 1)) = w8 at *
        refine (HSB.out w8 RhA).mono ?_
        rintro e w9 ⟨rfl, O9⟩
        have NA9 := S.on O9
        have NB9 := NB8.on O9
        have K9 := K8.then (Kp.of _ O9)
        have dB := HCB.out w9 NB9
        have fB9 : w9.frozen? ⟨B, kb, none⟩ = false := NB9.row.1.frozen _
        have S2 := NB9.set kb (vb + 1)
        rw [← HB1.out] at S2
        have NA10 := NA9.kp ((Kp.refl [B] _).set (p := ⟨B, kb, none⟩) (.inl (by simp)) (.int .i64 ((vb + 1 : Nat) : Int))) (by simp; omega)
        have K10 := K9.set (p := ⟨B, kb, none⟩) (.inl (by simp)) (.int .i64 ((vb + 1 : Nat) : Int))
        rw [show ((vb + 1 : Nat) : Int) = (vb : Int) + 1 from by omega] at S2 NA10 K10
        have hkb' : (kb : Int) < 30 := by omega
        clear NA9 NB9 K9 S NB8 K8 c2'
        go_wp2_with fail
        go_roundw
        case rel => exact ⟨k + 1, by go_num, by omega, NA10, S2, K10⟩
        case measure => simp [intOf]; omega
    · obtain rfl : k = n := by omega
      have hCB := cntB_is HF.out
      have hCL := cntLTo_all l
      rw [HN.out] at hCB hCL
      rw [hCL] at NA
      have hlB := cntBTo_length l k
      have hus := Lib.hid (sused_calls (cntBTo l k) B 0 30 30 wr NB.row.1.toO hlB (by omega) (Nat.le_refl _))
      generalize hcb : cntBTo l k = cb at *
      obtain ⟨us, hus2⟩ : ∃ us, used cb = us := ⟨_, rfl⟩
      rw [hus2] at hus hCB
      have HCB := Lib.hid hCB
      have hAB : A ≠ B := by omega
      have hAs : w.heap.size ≤ A := by omega
      have hBs : w.heap.size ≤ B := by omega
      have OWt := OW
      have hz6 := O26.size
      clear hCB hCL hcb hus2
      go_wp2_with fail
      refine hus.out.mono ?_
      rintro e w7 ⟨rfl, O7⟩
      have K7 := K.then (Kp.of _ O7)
      have NA7 := NA.on O7
      have NB7 := NB.on O7
      have O8 : On w w7 := K7.on OWt (fun x hx => by simp at hx; omega)
      by_cases h0 : us = 0
      · have h0' : ((us : Int) == 0) = true := by simp; omega
        have d0 := NB7.row.1.cell (i64s_get (show 0 < cb.length by rw [hlB]; omega))
        have fB7 : w7.frozen? ⟨B, 0, none⟩ = false := NB7.row.1.frozen _
        have S := NB7.set 0 1
        have NA8 := NA7.kp ((Kp.refl [B] _).set (p := ⟨B, 0, none⟩) (.inl (by simp)) (.int .i64 ((1 : Nat) : Int))) (by simpa using hAB)
        have O9 := O8.set (p := ⟨B, 0, none⟩) hBs (.int .i64 ((1 : Nat) : Int))
        have HC : RowKit.Hid (cntB l = cb.set 0 1) := Lib.hid (by rw [HCB.out, if_pos h0])
        rw [← HC.out] at S
        clear h0 hlB NB7 NA7 hus
        go_wp2_with fail
        go_ret2
        exact ⟨A, 286, B, 30, rfl, NA8, S, hAs, hBs, O9⟩
      · have h0' : ((us : Int) == 0) = false := by simpa using h0
        have HC : RowKit.Hid (cntB l = cb) := Lib.hid (by rw [HCB.out, if_neg h0])
        rw [← HC.out] at NB7
        clear h0 hlB hus
        go_wp2_with fail
        go_ret2
        exact ⟨A, 286, B, 30, rfl, NA7, NB7, hAs, hBs, O8⟩
end Go.Proofs.YtnadjlejlohgiaaGreatDoor.Wi

