/- Own texts joined: Sl, Sp. -/
import Derived.Test.YtnadjlejlohgiaaGreatDoorW4
import Derived.Test.YtnadjlejlohgiaaGreatDoorW19
import Derived.Test.YtnadjlejlohgiaaGreatDoorW21
import Derived.Test.YtnadjlejlohgiaaGreatDoorW23
/- The specification's reader takes the lengths of both codes. Conditions: a reader. -/
namespace Go.Proofs.YtnadjlejlohgiaaGreatDoor.Wi
open Go.RowKit Go.Proofs.YtnadjlejlohgiaaGreatDoor.Mem Go.Proofs.YtnadjlejlohgiaaGreatDoor.Bt Go.Proofs.YtnadjlejlohgiaaGreatDoor.Cd Go.Proofs.YtnadjlejlohgiaaGreatDoor.De
set_option linter.unusedVariables false
set_option linter.unusedSimpArgs false
theorem sorder_calls (w : World) : Calls Tryz.prog 172 #[] w (GivesN w 19 order) := by
  go_enter Tryz.func172, Tryz.ntmps172
  go_wp2_with fail
  go_ret
  exact ⟨w.heap.size, 19, rfl, (Row.of (Blk.new w 3 _)).toO, by omega, Nat.le_refl _, (Blk.new w 3 _).lt, (On.refl w).alloc _⟩
theorem next_ret {α β : Type} (x : α) (k : α → Dec β) : De.next (De.ret x) k = k x := rfl
theorem next_bad {α β : Type} (k : α → Dec β) : De.next (De.bad : Dec α) k = De.bad := rfl
theorem next_next {α β γ : Type} (d : Dec α) (k : α → Dec β) (j : β → Dec γ) : De.next (De.next d k) j = De.next d (fun x => De.next (k x) j) := by
  funext bs
  unfold De.next
  cases d bs <;> rfl
theorem lenLoop_step {m all : List Nat} {want f : Nat} (h : ¬ want ≤ all.length) : lenLoop m want (f + 1) all = De.next (Cd.sym m) fun x => De.next (stepD x all) fun a => lenLoop m want f a := by
  rw [lenLoop, if_neg h]
  congr 1
  funext x
  unfold stepD
  by_cases h1 : x < 16
  · rw [if_pos h1, if_pos h1, next_ret]; rfl
  · rw [if_neg h1, if_neg h1]
    by_cases h2 : x = 16
    · rw [if_pos h2, if_pos h2, next_next]
      congr 1
      funext y
      by_cases h3 : all.length = 0
      · rw [if_pos h3, if_pos h3, next_bad]
      · rw [if_neg h3, if_neg h3, next_ret]
    · rw [if_neg h2, if_neg h2]
      by_cases h3 : x = 17
      · rw [if_pos h3, if_pos h3, next_next]; rfl
      · rw [if_neg h3, if_neg h3, next_next]; rfl
/-- What lens leaves. -/
structure SLens (s : ByteArray) (p : Nat) (b : Bool) (g : Nat) (w : World) (e : Ending) (w' : World) : Prop where mk ::
  out : ∃ (v1 v2 : Value) (p' : Nat) (b' : Bool) (lit dist : List Nat), e = .returned (.tuple #[v1, v2]) ∧ SR w' g s p' b' ∧ Ans own s p b (lit, dist) p' b' ∧ Kp [g] w w' ∧
      (b' = false → ∃ (r n c : Nat), v1 = .slice (some ⟨r, 0, none⟩) lit.length n ∧ v2 = .slice (some ⟨r, lit.length, none⟩) dist.length c ∧ lit.length ≤ 286 ∧ dist.length ≤ 30 ∧ lit.length ≤ n ∧ dist.length ≤ c ∧ RowO w' r 0 3 (i64s lit) ∧ RowO w' r lit.length 3 (i64s dist) ∧ w.heap.size ≤ r)
set_option maxRecDepth 100000 in
set_option maxHeartbeats 4000000 in
theorem slens_calls (g : Nat) (s : ByteArray) (p : Nat) (b : Bool) (w : World) (hw : SR w g s p b) :
    Calls Tryz.prog 156 #[.pointer (some ⟨g, 0, none⟩)] w fun e w' => SLens s p b g w e w' := by
  have hgl := hw.out.lt
  have HE1 := Lib.hid (snum_calls g 5 s p b w hw (by omega))
  have A1 := Lib.hid (ans_num (n := 5) (b := b) hw.le)
  have hm1 := numAt_lt s p 5
  generalize numAt s p 5 = na at *
  generalize min (p + 5) (8 * s.size) = q1 at *
  generalize (b || decide (8 * s.size < p + 5)) = x1 at *
  obtain ⟨lg, hlg⟩ : ∃ lg, na + 257 = lg := ⟨_, rfl⟩
  have e1 : IntKind.i64.wrap (257 + (na : Int)) = (lg : Int) := by rw [IntKind.wrap_i64]; omega
  have hlg1 : 257 ≤ lg ∧ lg ≤ 300 := by omega
  have HLG := Lib.hid hlg
  clear hlg
  go_enter Tryz.func156, Tryz.ntmps156
  go_wp2_with fail
  refine HE1.out.mono ?_
  rintro e w1 ⟨rfl, hw1, K1⟩
  have HE2 := Lib.hid (snum_calls g 5 s q1 x1 w1 hw1 (by omega))
  have A2 := Lib.hid (ans_num (n := 5) (b := x1) hw1.le)
  have hm2 := numAt_lt s q1 5
  generalize numAt s q1 5 = nb at *
  generalize min (q1 + 5) (8 * s.size) = q2 at *
  generalize (x1 || decide (8 * s.size < q1 + 5)) = x2 at *
  obtain ⟨bk, hbk⟩ : ∃ bk, nb + 1 = bk := ⟨_, rfl⟩
  have e2 : IntKind.i64.wrap (1 + (nb : Int)) = (bk : Int) := by rw [IntKind.wrap_i64]; omega
  have hbk1 : 1 ≤ bk ∧ bk ≤ 32 := by omega
  have HBK := Lib.hid hbk
  clear hbk
  go_wp2_with fail
  refine HE2.out.mono ?_
  rintro e w2 ⟨rfl, hw2, K2⟩
  have HE3 := Lib.hid (snum_calls g 4 s q2 x2 w2 hw2 (by omega))
  have A3 := Lib.hid (ans_num (n := 4) (b := x2) hw2.le)
  have hm3 := numAt_lt s q2 4
  generalize numAt s q2 4 = nc at *
  generalize min (q2 + 4) (8 * s.size) = q3 at *
  generalize (x2 || decide (8 * s.size < q2 + 4)) = x3 at *
  obtain ⟨nm, hnm⟩ : ∃ nm, nc + 4 = nm := ⟨_, rfl⟩
  have e3 : IntKind.i64.wrap (4 + (nc : Int)) = (nm : Int) := by rw [IntKind.wrap_i64]; omega
  have hnm1 : nm ≤ 19 := by omega
  have HNM := Lib.hid hnm
  clear hnm hm1 hm2 hm3
  go_wp2_with fail
  refine HE3.out.mono ?_
  rintro e w3 ⟨rfl, hw3, K3⟩
  have K13 := (K1.then K2).then K3
  obtain ⟨D, hD⟩ : ∃ D : Dec (List Nat × List Nat), D = (next (metas nm 0 (List.replicate 19 0)) fun m => if okLens m = true ∧ lg ≤ 286 ∧ bk ≤ 30 then next (lenLoop m (lg + bk) 400 []) fun all => (if okLens (all.take lg) = true ∧ okLens (all.drop lg) = true then De.ret (all.take lg, all.drop lg) else De.bad) else De.bad) := ⟨_, rfl⟩
  have HD := Lib.hid hD
  have HA : RowKit.Hid (∀ y p' b', Ans D s q3 x3 y p' b' → Ans own s p b y p' b') := Lib.hid (fun y p' b' h => by
    rw [HD.out] at h
    unfold own
    refine Ans.next A1.out (Ans.next A2.out (Ans.next A3.out ?_))
    rw [HLG.out, HBK.out, HNM.out]
    exact h)
  clear hD A1 A2 A3 HE1 HE2 HE3 K1 K2 K3 HLG HBK HNM
  have hgl3 := hw3.out.lt
  go_wp2_with (at_make; go_must (refine wpList_ints _ rfl _ _ rfl _ _ 19 rfl rfl rfl rfl (by omega) ?_); intro w4 hN1 O4 hlt1)
  have hw4 := hw3.on O4
  have K04 := K13.then (Kp.of [g] O4)
  have hz3 := K13.size
  have hz4 := O4.size
  generalize hA : w3.heap.size = A at *
  have hgA : g ≠ A := by omega
  have hAw : w.heap.size ≤ A := by omega
  clear hA
  go_loopw [8] (fun i wr => ∃ (k q : Nat) (bb : Bool) (m : List Nat), i = .int .i64 (k : Int) ∧ k ≤ nm ∧ SR wr g s q bb ∧ Nums wr A (.slice (some ⟨A, 0, none⟩) 19 19) m ∧ Kp [g, A] w4 wr ∧ m.length = 19 ∧ (∀ y ∈ m, y ≤ 7) ∧ (∀ y p' b', Ans (metas (nm - k) k m) s q bb y p' b' → Ans (metas nm 0 (List.replicate 19 0)) s q3 x3 y p' b')) (fun i _ => nm - (intOf i).toNat)
  case atStart => exact ⟨0, q3, x3, List.replicate 19 0, rfl, by omega, hw4, hN1, Kp.refl _ _, rfl, by simp, fun y p' b' h => h⟩
  case round =>
    obtain ⟨k, q, bb, m, rfl, hk, hr, hN, K, hml, hm7, hF⟩ := hrel
    by_cases hlt : k < nm
    · have hk19' : k < 19 := by omega
      have hol := order_lt k hk19'
      have HG := Lib.hid (fun W h => snum_calls g 3 s q bb W h (by omega))
      have A4 := ans_num (n := 3) (b := bb) hr.le
      have hv := numAt_lt s q 3
      have hF2 : RowKit.Hid (∀ y p' b', Ans (metas (nm - (k + 1)) (k + 1) (m.set (order.getD k 0) (numAt s q 3))) s (min (q + 3) (8 * s.size)) (bb || decide (8 * s.size < q + 3)) y p' b' → Ans (metas nm 0 (List.replicate 19 0)) s q3 x3 y p' b') := Lib.hid (fun y p' b' h => hF y p' b' (by
        rw [show nm - k = (nm - (k + 1)) + 1 from by omega, metas]
        exact Ans.next A4 h))
      have HM7 := Lib.hid hm7
      have HML := Lib.hid hml
      have hco := fun W r3 (R : RowO W r3 0 3 (i64s order)) => R.cell (i64s_get (show k < order.length from by rw [show order.length = 19 from rfl]; omega))
      simp only [Nat.zero_add] at hco
      have HCO := Lib.hid hco
      clear hF A4 hm7 hml hco
      generalize order.getD k 0 = ok at *
      generalize numAt s q 3 = v at *
      generalize min (q + 3) (8 * s.size) = qq at *
      generalize (bb || decide (8 * s.size < q + 3)) = b2 at *
      have hk2 : (k : Int) < (nm : Int) := by omega
      have hk3 : (k : Int) < 19 := by omega
      have hol2 : (ok : Int) < 19 := by omega
      have hcells : ok < m.length := by rw [HML.out]; exact hol
      have HRR := Lib.hid hr
      have HNN := Lib.hid hN
      have hgS := hr.out.lt
      have hAS := hN.row.1.lt
      go_upto_region 8 with fail
      refine wp_region_held_drew (S := fun W => Kp [g, A] wr W) (by kernel_rfl) (Kp.refl _ _).drew (fun hHeld => ?_)
      have Ow0 := (On.refl wr).drew
      refine Tk.tk 0 ?_ rfl (.inl ⟨by rfl, ?_⟩) ?_
      rotate_left
      · intro w hSw; go_simp; first | done | with_reducible rfl
      try simp only [Act.put, Tk.s3]
      refine Tk.tk 2 ?_ rfl (.inl ⟨by rfl, ?_⟩) ?_
      rotate_left
      · intro w hSw; go_simp; first | done | with_reducible rfl
      try simp only [Act.put, Tk.s3]
      refine Tk.tk 5 ?_ rfl (.inl ⟨by rfl, ?_⟩) ?_
      rotate_left
      · intro w hSw; go_simp; first | done | with_reducible rfl
      try simp only [Act.put, Tk.s3]
      refine wpAnyH_strong (S' := fun W => Kp [g, A] wr.drew W) (fun W h => Kp.then (Kp.of [g, A] Ow0) h) ?_
      have hHeldN : (fun W => Kp [g, A] wr.drew W) wr.drew := Kp.refl _ _
      generalize wr.drew = wD at *
      refine Tk.rd 1 rfl fun K hK => ?_
      go_simp
      refine (sorder_calls _).mono ?_
      rintro e wA ⟨rA, cA, rfl, RA, hcA, hA1, hA2, OA⟩
      have OwA := Ow0.call OA
      have CA : ∀ W, Kp [g, A] wA W → W.cell? ⟨rA, k, none⟩ = some (.int .i64 (ok : Int)) := fun W h => (h.cell RA.lt (show rA ∉ [g, A] by simp; have := hgS; have := Ow0.size; omega)).trans (HCO.out wA rA RA)
      refine hK.out _ _ (Kp.of [g, A] OA) (fun hHeld => ?_)
      clear hK K
      try simp only [Act.put, Tk.s3]
      refine wpAnyH_strong (S' := fun W => Kp [g, A] wA W) (fun W h => Kp.then (Kp.of [g, A] OA) h) ?_
      have hHeldN : (fun W => Kp [g, A] wA W) wA := Kp.refl _ _
      refine Tk.tk 3 ?_ rfl (.inl ⟨by rfl, ?_⟩) ?_
      rotate_left
      · intro w hSw; go_simp; first | done | with_reducible rfl
      try simp only [Act.put, Tk.s3]
      refine Tk.tk 4 ?_ rfl (.inl ⟨by rfl, ?_⟩) ?_
      rotate_left
      · intro w hSw; go_simp; first | done | with_reducible rfl
      try simp only [Act.put, Tk.s3]
      refine Tk.rd 6 rfl fun K hK => ?_
      go_simp
      refine (HG.out _ (HRR.out.on OwA)).mono ?_
      rintro e wE ⟨rfl, hrE, KE⟩
      have KwE : Kp [g] wr wE := (Kp.of [g] OwA).then KE
      have KEL : Kp [g, A] wA wE := KE.mono (fun y hy => .inl (by simp at hy ⊢; exact .inl hy))
      refine hK.out _ _ (KEL) (fun hHeld => ?_)
      clear hK K
      try simp only [Act.put, Tk.s3]
      refine wpAnyH_strong (S' := fun W => Kp [g, A] wE W) (fun W h => Kp.then (KEL) h) ?_
      have hHeldN : (fun W => Kp [g, A] wE W) wE := Kp.refl _ _
      refine Tk.tk 7 ?_ rfl (.inl ⟨by rfl, ?_⟩) ?_
      rotate_left
      · intro w hSw; go_simp; first | done | with_reducible rfl
      try simp only [Act.put, Tk.s3]
      have hNE := HNN.out.kp KwE (by simpa using Ne.symm hgA)
      have ce := hNE.row.1.cell (i64s_get hcells)
      have fe : ∀ i, wE.frozen? ⟨A, i, none⟩ = false := hNE.row.1.frozen
      refine Tk.rd 8 rfl fun K hK => ?_
      go_simp
      have KS : Kp [A] wE (wE.setCell ⟨A, ok, none⟩ (.int .i64 (v : Int))) := (Kp.refl _ _).set (.inl (by simp)) _
      refine hK.out _ _ (KS.mono (fun y hy => .inl (by simp at hy ⊢; exact .inr hy))) (fun hHeld => ?_)
      clear hK K
      refine wpAnyH_done (by kernel_rfl) ?_ _
      clear hHeld hHeldN CA RA hcA hA1 hA2 OA OwA Ow0 KE KEL ce fe
      go_wp2_with fail
      go_roundw
      case rel =>
        refine ⟨k + 1, qq, b2, m.set ok v, by go_num, by omega, hrE.kp KS (by simpa using hgA), hNE.set ok v, (K.then (KwE.mono (fun y hy => .inl (by simp at hy ⊢; exact .inl hy)))).set (.inl (by simp)) _, by rw [List.length_set]; exact HML.out, fun y hy => ?_, hF2.out⟩
        rcases List.mem_or_eq_of_mem_set hy with h | rfl
        · exact HM7.out y h
        · omega
      case measure => simp [intOf]; omega
    · obtain rfl : k = nm := by omega
      have hM : Ans (metas k 0 (List.replicate 19 0)) s q3 x3 m q bb := hF m q bb (by rw [Nat.sub_self]; exact Ans.ret _ _ _ _)
      have HF : RowKit.Hid (∀ y p' b', Ans (if okLens m = true ∧ lg ≤ 286 ∧ bk ≤ 30 then next (lenLoop m (lg + bk) 400 []) fun all => (if okLens (all.take lg) = true ∧ okLens (all.drop lg) = true then De.ret (all.take lg, all.drop lg) else De.bad) else De.bad) s q bb y p' b' → Ans own s p b y p' b') := Lib.hid (fun y p' b' h => HA.out _ _ _ (by rw [HD.out]; exact Ans.next hM h))
      clear hF hM
      have K0r : Kp [g] w wr := K04.trans K (fun y hy => by simp at hy ⊢; omega)
      have hzr : A < wr.heap.size := by have := K.size; omega
      have hx100 : ∀ y ∈ m, y ≤ 100000 := fun y hy => by have := hm7 y hy; omega
      have RM := hN.row.1.toO
      cases hok : okLens m with
      | false =>
        have HOK := Lib.hid hok
        clear hok
        go_wp2_with fail
        refine (slensok_calls m A 0 19 19 wr RM hml (by omega) (by omega) hx100).mono ?_
        rintro e w6 ⟨rfl, O6⟩
        rw [HOK.out]
        have hr6 := hr.on O6
        have fr6 : ∀ i, w6.frozen? ⟨g, i, none⟩ = false := hr6.out.frozen
        have d6 : w6.cell? ⟨g, 2, none⟩ = some (.bool bb) := (hr6.out.cell 2).trans rfl
        go_wp2_with fail
        go_ret2
        have R7 : SR (w6.setCell ⟨g, 2, none⟩ (.bool true)) g s q true := ⟨hr6.out.set 2 (.bool true), hr.le, hr.sz⟩
        have O7 := ((On.refl (w6.setCell ⟨g, 2, none⟩ (.bool true))).alloc (.cells #[] 3)).alloc (.cells #[] 3)
        refine .mk ⟨_, _, q, true, [], [], rfl, R7.on O7, HF.out _ _ _ ?_, ((K0r.then (Kp.of _ O6)).set (.inl (by simp)) _).then (Kp.of _ O7), fun e => by cases e⟩
        rw [if_neg (fun h => by have := HOK.out; rw [h.1] at this; cases this)]
        exact Ans.fail _ _ _ _ _
      | true =>
        have HOK := Lib.hid hok
        clear hok
        by_cases hL : 286 < lg
        · have hL' : (286 : Int) < (lg : Int) := by omega
          go_wp2_with fail
          refine (slensok_calls m A 0 19 19 wr RM hml (by omega) (by omega) hx100).mono ?_
          rintro e w6 ⟨rfl, O6⟩
          rw [HOK.out]
          have hr6 := hr.on O6
          have fr6 : ∀ i, w6.frozen? ⟨g, i, none⟩ = false := hr6.out.frozen
          have d6 : w6.cell? ⟨g, 2, none⟩ = some (.bool bb) := (hr6.out.cell 2).trans rfl
          go_wp2_with fail
          go_ret2
          have R7 : SR (w6.setCell ⟨g, 2, none⟩ (.bool true)) g s q true := ⟨hr6.out.set 2 (.bool true), hr.le, hr.sz⟩
          have O7 := ((On.refl (w6.setCell ⟨g, 2, none⟩ (.bool true))).alloc (.cells #[] 3)).alloc (.cells #[] 3)
          refine .mk ⟨_, _, q, true, [], [], rfl, R7.on O7, HF.out _ _ _ ?_, ((K0r.then (Kp.of _ O6)).set (.inl (by simp)) _).then (Kp.of _ O7), fun e => by cases e⟩
          rw [if_neg (fun h => by omega)]
          exact Ans.fail _ _ _ _ _
        have hL' : ¬ (286 : Int) < (lg : Int) := by omega
        have hL'' : decide ((286 : Int) < (lg : Int)) = false := by simp; omega
        by_cases hB : 30 < bk
        · have hB' : (30 : Int) < (bk : Int) := by omega
          go_wp2_with fail
          refine (slensok_calls m A 0 19 19 wr RM hml (by omega) (by omega) hx100).mono ?_
          rintro e w6 ⟨rfl, O6⟩
          rw [HOK.out]
          have hr6 := hr.on O6
          have fr6 : ∀ i, w6.frozen? ⟨g, i, none⟩ = false := hr6.out.frozen
          have d6 : w6.cell? ⟨g, 2, none⟩ = some (.bool bb) := (hr6.out.cell 2).trans rfl
          go_wp2_with fail
          go_ret2
          have R7 : SR (w6.setCell ⟨g, 2, none⟩ (.bool true)) g s q true := ⟨hr6.out.set 2 (.bool true), hr.le, hr.sz⟩
          have O7 := ((On.refl (w6.setCell ⟨g, 2, none⟩ (.bool true))).alloc (.cells #[] 3)).alloc (.cells #[] 3)
          refine .mk ⟨_, _, q, true, [], [], rfl, R7.on O7, HF.out _ _ _ ?_, ((K0r.then (Kp.of _ O6)).set (.inl (by simp)) _).then (Kp.of _ O7), fun e => by cases e⟩
          rw [if_neg (fun h => by omega)]
          exact Ans.fail _ _ _ _ _
        have hB' : ¬ (30 : Int) < (bk : Int) := by omega
        have hB'' : decide ((30 : Int) < (bk : Int)) = false := by simp; omega
        have HF3 : RowKit.Hid (∀ y p' b', Ans (next (lenLoop m (lg + bk) 400 []) fun all => (if okLens (all.take lg) = true ∧ okLens (all.drop lg) = true then De.ret (all.take lg, all.drop lg) else De.bad)) s q bb y p' b' → Ans own s p b y p' b') := Lib.hid (fun y p' b' h => HF.out y p' b' (by rw [if_pos ⟨HOK.out, by omega, by omega⟩]; exact h))
        clear HF HA HD
        go_wp2_with fail
        refine (slensok_calls m A 0 19 19 wr RM hml (by omega) (by omega) hx100).mono ?_
        rintro e w6 ⟨rfl, O6⟩
        rw [HOK.out]
        go_wp2_with fail
        refine (scodes_calls m A 0 19 19 w6 (RM.on O6) hml (by omega) (by omega)).mono ?_
        rintro e w7 ⟨rc, cc, rfl, Nc, hc1, hc2, O7⟩
        have hcl : (codes m).length = 19 := by rw [codes_length]; exact hml
        rw [hcl] at Nc ⊢
        have O67 := O6.call O7
        have hr7 := hr.on O67
        have hz7 := O67.size
        have hz6 := O6.size
        have hzr0 := K0r.size
        have hcc : 19 ≤ cc := Nc.row.2.2.1
        have Rc := Nc.row.1.toO
        have RM7 := RM.on O67
        have hgr7 := hr.out.lt
        have frc : RowKit.Hid (rc ≠ g) := Lib.hid (by omega)
        have K07 := K0r.then (Kp.of [g] O67)
        have OE := (On.refl w7).alloc (.cells #[] 3)
        have NE := Nums.new w7 #[] [] rfl (by simp)
        have hr8 := hr7.on OE
        have Rc8 := Rc.on OE
        have RM8 := RM7.on OE
        have K08 := K07.then (Kp.of [g] OE)
        have hz8 := OE.size
        have hgl8 := hr8.out.lt
        clear Nc hcl RM Rc RM7
        go_wp2_with fail
        generalize hC : w7.heap.size = C at *
        generalize w7.alloc (.cells #[] 3) = w8 at *
        have hgC : g ≠ C := by omega
        have hCw : w.heap.size ≤ C := by omega
        have hrC : rc ≠ C := by omega
        have hAC : A ≠ C := by omega
        clear hC
        go_loopw [10] (fun o wr2 => ∃ (q2 : Nat) (b2 : Bool) (ra ca f : Nat) (all : List Nat), o = .slice (some ⟨ra, 0, none⟩) all.length ca ∧ SR wr2 g s q2 b2 ∧ Nums wr2 ra (.slice (some ⟨ra, 0, none⟩) all.length ca) all ∧ Kp [g, C] w8 wr2 ∧ (ra = C ∨ w8.heap.size ≤ ra) ∧ (∀ y ∈ all, y ≤ 15) ∧ 1 ≤ f ∧ (b2 = false → 400 ≤ f + all.length) ∧ all.length ≤ 600 ∧
          (∀ y p' b', Ans (lenLoop m (lg + bk) f all) s q2 b2 y p' b' → Ans (lenLoop m (lg + bk) 400 []) s q bb y p' b')) (fun o wr2 => tokFar g o wr2)
        case atStart => exact ⟨q, bb, C, 0, 400, [], rfl, hr8, NE, Kp.refl _ _, .inl rfl, by simp, by omega, fun _ => by simp, by simp, fun y p' b' h => h⟩
        case round =>
          obtain ⟨q2, b2, ra, ca, f, all, rfl, hr9, hN9, K9, hra, h15, hf1, hf4, hal, hF9⟩ := hrel
          have HF9 := Lib.hid hF9
          have H15 := Lib.hid h15
          have HF4 := Lib.hid hf4
          clear hF9 h15 hf4
          have d9 : wr.cell? ⟨g, 2, none⟩ = some (.bool b2) := (hr9.out.cell 2).trans rfl
          have hgra : g ≠ ra := by omega
          have K09 : Kp [g] w wr := K08.trans (T := [g, C]) K9 (fun y hy => by simp at hy ⊢; omega)
          have e5 : IntKind.i64.wrap ((lg : Int) + (bk : Int)) = ((lg + bk : Nat) : Int) := by rw [IntKind.wrap_i64]; omega
          obtain ⟨wt, hwt⟩ : ∃ wt, lg + bk = wt := ⟨_, rfl⟩
          have HWT := Lib.hid hwt
          rw [hwt] at e5
          generalize hnn : all.length = nn at *
          have HNN := Lib.hid hnn
          clear hnn
          have hwt1 : wt ≤ 316 := by omega
          clear hwt
          by_cases hlt : nn < wt
          · have hlt' : (nn : Int) < (wt : Int) := by omega
            cases b2 with
            | true =>
              have fr9 : ∀ i, wr.frozen? ⟨g, i, none⟩ = false := hr9.out.frozen
              have OA : ∀ W, On W ((W.alloc (.cells #[] 3)).alloc (.cells #[] 3)) := fun W => ((On.refl W).alloc _).alloc _
              have HOA := Lib.hid OA
              clear OA
              go_wp2_with fail
              go_ret2
              exact .mk ⟨_, _, q2, true, [], [], rfl, (show SR (wr.setCell ⟨g, 2, none⟩ (.bool true)) g s q2 true from ⟨hr9.out.set 2 (.bool true), hr9.le, hr9.sz⟩).on (HOA.out _), HF3.out _ _ _ (Ans.next (x := all) (HF9.out all q2 true ⟨fun _ => .inl rfl, fun e => (by cases e)⟩) ⟨fun _ => .inl rfl, fun e => (by cases e)⟩), (K09.set (.inl (by simp)) _).then (Kp.of _ (HOA.out _)), fun e => (by cases e)⟩
            | false =>
              obtain ⟨f, rfl⟩ : ∃ f', f = f' + 1 := ⟨f - 1, by omega⟩
              have hf4 := HF4.out rfl
              obtain ⟨wo, hwo⟩ : ∃ wo : World, wo = wr := ⟨_, rfl⟩
              subst hwo
              go_wp2_with fail
              refine (ssymbol_calls m g 19 A 0 19 rc cc s q2 false wo hr9 ((RM8.kp K9 (by simp; omega))) (Rc8.kp K9 (by simp; exact ⟨frc.out, hrC⟩)) hml (by omega) (by omega) hcc (Ne.symm hgA) frc.out).mono ?_
              rintro e w10 ⟨v, x, q3', b3, rfl, hr10, A10, hv, hvl, hvh, K10⟩
              have hN10 := hN9.kp K10 (by simpa using Ne.symm hgra)
              have hgl10 := hr10.out.lt
              have hz9 := K9.size
              have hz10 := K10.size
              have HV := Lib.hid hv
              have HA10 := Lib.hid A10
              clear hv A10
              go_wp2_with fail
              refine (smany_calls g ra ca nn x v s q3' b3 all w10 hr10 hN10 HNN.out (by omega) hgra H15.out hvl (by omega) (fun e => HV.out e)).mono ?_
              rintro e w11 ⟨q4, b4, r11, c11, l11, rfl, hr11, hN11, K11, hra11, A11, hl11, hl11'⟩
              go_wp2_with fail
              have hz11 := K11.size
              have hlen11 : nn ≤ l11.length ∧ (b4 = false → nn < l11.length) ∧ l11.length ≤ nn + 138 ∧ ∀ y ∈ l11, y ≤ 15 := by
                cases b4 with
                | true =>
                  rw [hl11' rfl, HNN.out]
                  exact ⟨Nat.le_refl _, fun e => (by cases e), by omega, H15.out⟩
                | false =>
                  obtain ⟨M, AG, rfl, hM1, hM2, hAG⟩ := hl11 rfl
                  rw [List.length_append, List.length_replicate, HNN.out]
                  refine ⟨by omega, fun _ => by omega, by omega, fun y hy => ?_⟩
                  rcases List.mem_append.1 hy with h | h
                  · exact H15.out y h
                  · rw [List.eq_of_mem_replicate h]; exact hAG
              obtain ⟨hl1, hl2, hl3, hl4⟩ := hlen11
              have HF11 : RowKit.Hid (∀ y p' b', Ans (lenLoop m (lg + bk) f l11) s q4 b4 y p' b' → Ans (lenLoop m (lg + bk) 400 []) s q bb y p' b') := Lib.hid (fun y p' b' h => HF9.out y p' b' (by
                rw [lenLoop_step (by rw [HNN.out, HWT.out]; omega)]
                exact Ans.next HA10.out (Ans.next A11 h)))
              refine ⟨⟨q4, b4, r11, c11, f, l11, rfl, hr11, hN11, ?_, by omega, hl4, by omega, fun e => by have := hl2 e; omega, by omega, HF11.out⟩, tokFar_lt hr9 hr11 hl1 hl2 (by omega)⟩
              exact (K9.then (K10.mono (fun y hy => .inl (by simp at hy ⊢; exact .inl hy)))).trans K11 (fun y hy => by simp at hy ⊢; omega)
          · have hlt' : ¬ (nn : Int) < (wt : Int) := by omega
            have hlt'' : decide ((nn : Int) < (wt : Int)) = false := by simp; omega
            obtain ⟨f, rfl⟩ : ∃ f', f = f' + 1 := ⟨f - 1, by omega⟩
            have fr9 : ∀ i, wr.frozen? ⟨g, i, none⟩ = false := hr9.out.frozen
            have OA : ∀ W, On W ((W.alloc (.cells #[] 3)).alloc (.cells #[] 3)) := fun W => ((On.refl W).alloc _).alloc _
            have HOA := Lib.hid OA
            clear OA
            cases b2 with
            | true =>
              go_wp2_with fail
              go_ret2
              refine .mk ⟨_, _, q2, true, [], [], rfl, (show SR (wr.setCell ⟨g, 2, none⟩ (.bool true)) g s q2 true from ⟨hr9.out.set 2 (.bool true), hr9.le, hr9.sz⟩).on (HOA.out _), HF3.out _ _ _ ?_, ((K09).set (.inl (by simp)) _).then (Kp.of _ (HOA.out _)), fun e => (by cases e)⟩
              exact Ans.next (x := all) (HF9.out all q2 true ⟨fun _ => .inl rfl, fun e => (by cases e)⟩) ⟨fun _ => .inl rfl, fun e => (by cases e)⟩
            | false =>
            by_cases heq : nn = wt
            · subst heq
              have hne1 : ((nn : Int) != (nn : Int)) = false := by simp
              have RA := hN9.row.1
              have hcap : nn ≤ ca := hN9.row.2.2.1
              have hAL : RowKit.Hid (∀ y p' b', Ans (if okLens (all.take lg) = true ∧ okLens (all.drop lg) = true then De.ret (all.take lg, all.drop lg) else De.bad) s q2 false y p' b' → Ans own s p b y p' b') := Lib.hid (fun y p' b' h => HF3.out y p' b' (Ans.next (x := all) (HF9.out all q2 false (by
                rw [lenLoop, if_pos (by have a := HNN.out; have b := HWT.out; omega), if_pos (by have a := HNN.out; have b := HWT.out; omega)]
                exact Ans.ret _ _ _ _)) h))
              have hwt2 := HWT.out
              have hcne : ¬ ca = lg := by omega
              have hcne2 : ca ≠ lg := hcne
              have hll : (all.take lg).length = lg := by rw [List.length_take, HNN.out]; omega
              have hld : (all.drop lg).length = nn - lg := by rw [List.length_drop, HNN.out]
              have RT : RowO wr ra 0 3 (i64s (all.take lg)) := by
                have := RA.sub 0 lg
                rw [List.drop_zero] at this
                have e : i64s (all.take lg) = (i64s all).take lg := by unfold i64s; rw [List.map_take]
                rw [e]; exact this
              have RD : RowO wr ra lg 3 (i64s (all.drop lg)) := by
                have := RA.sub lg (nn - lg)
                have e : i64s (all.drop lg) = ((i64s all).drop lg).take (nn - lg) := by
                  rw [List.take_of_length_le (by rw [List.length_drop, i64s_length, HNN.out]; omega)]
                  unfold i64s; rw [List.map_drop]
                rw [e]; exact this
              have hxt : ∀ y ∈ all.take lg, y ≤ 100000 := fun y hy => by have := H15.out y (List.mem_of_mem_take hy); omega
              have hxd : ∀ y ∈ all.drop lg, y ≤ 100000 := fun y hy => by have := H15.out y (List.mem_of_mem_drop hy); omega
              have HT := Lib.hid (slensok_calls (all.take lg) ra 0 lg ca wr RT hll (by omega) (by omega) hxt)
              have HDD := Lib.hid (fun W (O : On wr W) => slensok_calls (all.drop lg) ra lg (nn - lg) (ca - lg) W (RD.on O) hld (by omega) (by omega) hxd)
              have HLL := Lib.hid hll
              have HLD := Lib.hid hld
              have HRT := Lib.hid RT
              have HRD := Lib.hid RD
              clear hll hld RT RD hxt hxd
              have hb1 : (lg : Int) ≤ (nn : Int) := by omega
              have hb3 : (nn : Int) ≤ (ca : Int) := by omega
              have hb4 : (lg : Int) ≤ (ca : Int) := by omega
              have hbk30 : nn - lg = bk := by omega
              have HBK := Lib.hid hbk30
              clear hwt2 hbk30
              generalize hT : all.take lg = tk at *
              generalize hDr : all.drop lg = dr at *
              have hTT := Lib.hid hT
              have hDD := Lib.hid hDr
              clear hT hDr
              cases hk1 : okLens tk with
              | false =>
                have HK1 := Lib.hid hk1
                clear hk1
                go_wp2_with fail
                refine HT.out.mono ?_
                rintro e w12 ⟨rfl, O12⟩
                rw [HK1.out]
                have hr12 := hr9.on O12
                have d12 : w12.cell? ⟨g, 2, none⟩ = some (.bool false) := (hr12.out.cell 2).trans rfl
                have fr12 : ∀ i, w12.frozen? ⟨g, i, none⟩ = false := hr12.out.frozen
                have K12 := K09.then (Kp.of [g] O12)
                go_wp2_with fail
                go_ret2
                refine .mk ⟨_, _, q2, true, [], [], rfl, (show SR (w12.setCell ⟨g, 2, none⟩ (.bool true)) g s q2 true from ⟨hr12.out.set 2 (.bool true), hr12.le, hr12.sz⟩).on (HOA.out _), hAL.out _ _ _ ?_, ((K12).set (.inl (by simp)) _).then (Kp.of _ (HOA.out _)), fun e => (by cases e)⟩
                rw [if_neg (fun h => by have := HK1.out; rw [h.1] at this; cases this)]
                exact Ans.fail _ _ _ _ _
              | true =>
                have HK1 := Lib.hid hk1
                clear hk1
                cases hk2 : okLens dr with
                | false =>
                  have HK2 := Lib.hid hk2
                  clear hk2
                  go_wp2_with fail
                  refine HT.out.mono ?_
                  rintro e w12 ⟨rfl, O12⟩
                  rw [HK1.out]
                  go_wp2_with fail
                  refine (HDD.out w12 O12).mono ?_
                  rintro e w13 ⟨rfl, O13⟩
                  rw [HK2.out]
                  have O23 := O12.call O13
                  have hr12 := hr9.on O23
                  have d12 : w13.cell? ⟨g, 2, none⟩ = some (.bool false) := (hr12.out.cell 2).trans rfl
                  have fr12 : ∀ i, w13.frozen? ⟨g, i, none⟩ = false := hr12.out.frozen
                  have K12 := K09.then (Kp.of [g] O23)
                  go_wp2_with fail
                  go_ret2
                  refine .mk ⟨_, _, q2, true, [], [], rfl, (show SR (w13.setCell ⟨g, 2, none⟩ (.bool true)) g s q2 true from ⟨hr12.out.set 2 (.bool true), hr12.le, hr12.sz⟩).on (HOA.out _), hAL.out _ _ _ ?_, ((K12).set (.inl (by simp)) _).then (Kp.of _ (HOA.out _)), fun e => (by cases e)⟩
                  rw [if_neg (fun h => by have := HK2.out; rw [h.2] at this; cases this)]
                  exact Ans.fail _ _ _ _ _
                | true =>
                  have HK2 := Lib.hid hk2
                  clear hk2
                  go_wp2_with fail
                  refine HT.out.mono ?_
                  rintro e w12 ⟨rfl, O12⟩
                  rw [HK1.out]
                  go_wp2_with fail
                  refine (HDD.out w12 O12).mono ?_
                  rintro e w13 ⟨rfl, O13⟩
                  rw [HK2.out]
                  have O23 := O12.call O13
                  have hr12 := hr9.on O23
                  have d12 : w13.cell? ⟨g, 2, none⟩ = some (.bool false) := (hr12.out.cell 2).trans rfl
                  have K12 := K09.then (Kp.of [g] O23)
                  go_wp2_with fail
                  go_quiet (fail)
                  go_wp2_with fail
                  go_ret2
                  have OD := (On.refl w13).drewN nq
                  refine .mk ⟨_, _, q2, false, tk, dr, rfl, hr12.on OD, hAL.out _ _ _ ?_, K12.drewN _, fun _ => ⟨ra, ca, ca - lg, by rw [HLL.out]; rfl, by rw [HLL.out, HLD.out]; rfl, by rw [HLL.out]; omega, by rw [HLD.out, HBK.out]; omega, by rw [HLL.out]; omega, by rw [HLD.out]; omega, (HRT.out.on O23).on OD, by rw [HLL.out]; exact (HRD.out.on O23).on OD, by have := K08.size; omega⟩⟩
                  rw [if_pos ⟨HK1.out, HK2.out⟩]
                  exact Ans.ret _ _ _ _
            · have hne1 : ((nn : Int) != (wt : Int)) = true := by simp; omega
              go_wp2_with fail
              go_ret2
              refine .mk ⟨_, _, q2, true, [], [], rfl, (show SR (wr.setCell ⟨g, 2, none⟩ (.bool true)) g s q2 true from ⟨hr9.out.set 2 (.bool true), hr9.le, hr9.sz⟩).on (HOA.out _), HF3.out _ _ _ ?_, ((K09).set (.inl (by simp)) _).then (Kp.of _ (HOA.out _)), fun e => (by cases e)⟩
              refine Ans.next (x := all) (HF9.out all q2 true ?_) ⟨fun _ => .inl rfl, fun e => (by cases e)⟩
              rw [lenLoop, if_pos (by have a := HNN.out; have b := HWT.out; omega), if_neg (by have a := HNN.out; have b := HWT.out; omega)]
              exact Ans.fail _ _ _ _ _
end Go.Proofs.YtnadjlejlohgiaaGreatDoor.Wi

/- The specification unpacks a text: part, l5Get, FlateGet, FlateKind. No condition. -/
namespace Go.Proofs.YtnadjlejlohgiaaGreatDoor.Wi
open Go.RowKit Go.Proofs.YtnadjlejlohgiaaGreatDoor.Mem Go.Proofs.YtnadjlejlohgiaaGreatDoor.Bt Go.Proofs.YtnadjlejlohgiaaGreatDoor.Cd Go.Proofs.YtnadjlejlohgiaaGreatDoor.De
set_option linter.unusedVariables false
set_option linter.unusedSimpArgs false
theorem got_none' {x : ByteArray} (h : flate (chars x) = none) : gotOf x = .tuple #[.string ⟨#[]⟩, .int .i64 0, .bool false] := by
  unfold gotOf
  rw [h]
/-- What part leaves. -/
structure PartOut (s : ByteArray) (p : Nat) (l : List Nat) (g r : Nat) (w : World) (e : Ending) (w' : World) : Prop where mk ::
  out : ∃ (last : Bool) (p' : Nat) (b' : Bool) (r' cap' : Nat) (l' : List Nat), e = .returned (.tuple #[.slice (some ⟨r', 0, none⟩) l'.length cap', .bool last]) ∧ SR w' g s p' b' ∧ By w' r' cap' l' ∧ Kp [g, r] w w' ∧ (r' = r ∨ w.heap.size ≤ r') ∧ l.length ≤ l'.length ∧ l'.length ≤ l.length + 400 ∧ (b' = false → p + 3 ≤ p') ∧
    (l.length ≤ 300 → Goes s l p false → (b' = true → whole (rest s 0) = Option.none) ∧ (b' = false → 300 < l'.length → whole (rest s 0) = Option.none) ∧ (b' = false → l'.length ≤ 300 → Goes s l' p' last))
/-- The head of a part has been read. -/
structure Head (s : ByteArray) (p lb t q2 : Nat) (b2 : Bool) : Prop where mk ::
  out : ∃ (q1 : Nat) (b1 : Bool), Ans (num 1) s p false lb q1 b1 ∧ Ans (num 2) s q1 b1 t q2 b2 ∧ (b1 = false → q1 = p + 1) ∧ (b2 = false → q2 = q1 + 2)
theorem Head.far {s : ByteArray} {p lb t q2 : Nat} {b2 : Bool} (h : Head s p lb t q2 b2) (e : b2 = false) : q2 = p + 3 := by
  obtain ⟨q1, b1, A1, A2, e1, e2⟩ := h.out
  have := e2 e
  have := e1 (A2.good e).1
  omega
theorem Head.part {s : ByteArray} {p lb t q2 p' : Nat} {b2 b' : Bool} {l l' : List Nat} (h : Head s p lb t q2 b2) (hp : p ≤ 5600) (hq2 : q2 ≤ 8 * s.size) (hp' : p' ≤ 8 * s.size) (A : AnsO (body t l) s q2 b2 l' p' b') (G : Goes s l p false) :
    (b' = true → whole (rest s 0) = Option.none) ∧ (b' = false → 300 < l'.length → whole (rest s 0) = Option.none) ∧ (b' = false → l'.length ≤ 300 → Goes s l' p' (lb == 1)) := by
  obtain ⟨q1, b1, A1, A2, e1, e2⟩ := h.out
  exact G.step hp A1 A2 A e1 e2 (fun e h => suf_le (De.Loc.body t l) ((A.good e).2.1 h) hq2 hp')
theorem Head.of_out {s : ByteArray} {p lb t q2 : Nat} {b2 : Bool} {l : List Nat} {g r : Nat} {w w2 w3 : World} {e : Ending} (H : Head s p lb t q2 b2) (hp : p ≤ 5600) (hq2 : q2 ≤ 8 * s.size) (K : Kp [g] w w2) (h : SOut (body t l) s q2 b2 l g r w2 e w3) :
    ∃ (r' cap' : Nat) (l' : List Nat), e = .returned (.slice (some ⟨r', 0, none⟩) l'.length cap') ∧ PartOut s p l g r w (.returned (.tuple #[.slice (some ⟨r', 0, none⟩) l'.length cap', .bool (lb == 1)])) w3 := by
  obtain ⟨p', b', r', cap', l', rfl, hr, hB, K2, hr', A, h1, h2, h3⟩ := h.out
  have hz := K.size
  refine ⟨r', cap', l', rfl, ⟨lb == 1, p', b', r', cap', l', rfl, hr, hB, (K.mono (fun y hy => .inl (by simp at hy ⊢; exact .inl hy))).then K2, by omega, h1, h2, fun e => ?_, fun hl G => H.part hp hq2 hr.le (A hl) G⟩⟩
  obtain ⟨c1, c2⟩ := h3 e
  have f := H.far c1
  rcases c2 with c | c
  · omega
  · have := suf_le (De.Loc.body t l) (((A (by omega)).good e).2.1 c) hq2 hr.le
    omega
set_option maxRecDepth 100000 in
set_option maxHeartbeats 2000000 in
theorem spart_calls (g r cap n : Nat) (s : ByteArray) (p : Nat) (l : List Nat) (w : World) (hw : SR w g s p false) (hb : By w r cap l) (hn : l.length = n) (hn2 : n ≤ 80000000) (hgr : g ≠ r) (hs : s.size ≤ 700) :
    Calls Tryz.prog 135 #[.pointer (some ⟨g, 0, none⟩), .slice (some ⟨r, 0, none⟩) n cap] w fun e w' => PartOut s p l g r w e w' := by
  have HN := Lib.hid hn
  clear hn
  have hgl := hw.out.lt
  have hrl := hb.lt
  have hple := hw.le
  have HE := Lib.hid (sbit_calls g s p false w hw)
  have A1 := Lib.hid (ans_num (n := 1) (b := false) hw.le)
  have hv1 := numAt_lt s p 1
  obtain ⟨q1, hq1⟩ : ∃ q1, min (p + 1) (8 * s.size) = q1 := ⟨_, rfl⟩
  obtain ⟨b1, hb1⟩ : ∃ b1, (false || decide (8 * s.size < p + 1)) = b1 := ⟨_, rfl⟩
  have E1 : RowKit.Hid (b1 = false → q1 = p + 1) := Lib.hid (fun e => by rw [e] at hb1; simp at hb1; omega)
  rw [hq1, hb1] at A1 HE
  clear hq1 hb1
  generalize numAt s p 1 = lb at *
  go_enter Tryz.func135, Tryz.ntmps135
  go_wp2_with fail
  refine HE.out.mono ?_
  rintro e w3 ⟨rfl, hr3, K3⟩
  have HE2 := Lib.hid (snum_calls g 2 s q1 b1 w3 hr3 (by omega))
  have A2 := Lib.hid (ans_num (n := 2) (b := b1) hr3.le)
  have hv2 := numAt_lt s q1 2
  obtain ⟨q2, hq2⟩ : ∃ q2, min (q1 + 2) (8 * s.size) = q2 := ⟨_, rfl⟩
  obtain ⟨b2, hb2⟩ : ∃ b2, (b1 || decide (8 * s.size < q1 + 2)) = b2 := ⟨_, rfl⟩
  have E2 : RowKit.Hid (b2 = false → q2 = q1 + 2) := Lib.hid (fun e => by rw [e] at hb2; simp at hb2; omega)
  rw [hq2, hb2] at A2 HE2
  clear hq2 hb2
  generalize numAt s q1 2 = t at *
  go_wp2_with fail
  refine HE2.out.mono ?_
  rintro e w4 ⟨rfl, hr4, K4⟩
  have K34 := K3.then K4
  have hB4 := hb.kp K34 (by simpa using Ne.symm hgr)
  have H : RowKit.Hid (Head s p lb t q2 b2) := Lib.hid ⟨q1, b1, A1.out, A2.out, E1.out, E2.out⟩
  have hq2le := hr4.le
  have hz4 := K34.size
  have hlb : ((lb : Int) == 1) = (lb == 1) := by rw [Bool.eq_iff_iff]; simp; omega
  have HLB := Lib.hid hlb
  clear A1 A2 E1 E2 HE HE2 hlb K3 K4
  by_cases ht0 : t = 0
  · subst ht0
    go_wp2_with fail
    refine (sstored_calls g r cap n s q2 b2 l w4 hr4 hB4 HN.out (by omega) hgr).mono ?_
    intro e w5 ho
    obtain ⟨r', cap', l', rfl, PO⟩ := H.out.of_out (by omega) hq2le K34 ho
    have HPO := Lib.hid PO
    clear PO ho
    go_wp2_with fail
    go_ret2
    have := HPO.out
    rw [← HLB.out] at this
    exact this
  by_cases ht1 : t = 1
  · subst ht1
    go_wp2_with fail
    refine (sfixed_calls w4).mono ?_
    rintro e w5 ⟨ra, ca, rfl, Na, ha1, ha2, O5⟩
    rw [fixLit_length] at Na ⊢
    go_wp2_with fail
    refine (sfives_calls w5).mono ?_
    rintro e w6 ⟨rb, cb, rfl, Nb, hb1, hb2, O6⟩
    rw [fixDist_length] at Nb ⊢
    have Na6 := Na.on O6
    have O56 := O5.call O6
    have hz5 := O5.size
    have hz6 := O6.size
    have hr6 := hr4.on O56
    have hB6 := hB4.on O56
    go_wp2_with fail
    refine (srdtoks_calls g r cap n ra 0 288 ca rb 0 32 cb s q2 b2 l fixLit fixDist w6 hr6 hB6 HN.out hgr Na6.row.1.toO Nb.row.1.toO fixLit_length fixDist_length Na.row.2.2.1 Nb.row.2.2.1 (by omega) (by omega) ⟨by omega, by omega⟩ ⟨by omega, by omega⟩).mono ?_
    intro e w7 ho
    have ho' : SOut (body 1 l) s q2 b2 l g r w6 e w7 := ho
    obtain ⟨r', cap', l', rfl, PO⟩ := H.out.of_out (by omega) hq2le (K34.then (Kp.of _ O56)) ho'
    have HPO := Lib.hid PO
    clear PO ho ho'
    go_wp2_with fail
    go_ret2
    have := HPO.out
    rw [← HLB.out] at this
    exact this
  by_cases ht2 : t = 2
  · subst ht2
    go_wp2_with fail
    refine (slens_calls g s q2 b2 w4 hr4).mono ?_
    rintro e w5 ⟨v1, v2, q3, b3, lit, dist, rfl, hr5, A5, K5, hrows⟩
    have hB5 := hB4.kp K5 (by simpa using Ne.symm hgr)
    have d5 : w5.cell? ⟨g, 2, none⟩ = some (.bool b3) := (hr5.out.cell 2).trans rfl
    have hz5 := K5.size
    cases b3 with
    | true =>
      go_wp2_with fail
      go_ret2
      have AX : ∀ (l' : List Nat) (p' : Nat), AnsO (body 2 l) s q2 b2 l' p' true := fun l' p' => AnsO.next A5 (AnsO.was _ _ _ _ _)
      refine ⟨_, q3, true, r, cap, l, by rw [HN.out]; rfl, hr5, hB5, (K34.then K5).mono (fun y hy => .inl (by simp at hy ⊢; exact .inl hy)), .inl rfl, Nat.le_refl _, by omega, fun e => (by cases e), fun hl G => ⟨fun _ => ?_, fun e => (by cases e), fun e => (by cases e)⟩⟩
      exact (H.out.part (by omega) hq2le hr5.le (AX l q3) G).1 rfl
    | false =>
      obtain ⟨ra, ca, cb, rfl, rfl, m1, m2, h3, h4, R1, R2, h5⟩ := hrows rfl
      clear hrows
      go_wp2_with fail
      refine (srdtoks_calls g r cap n ra 0 lit.length ca ra lit.length dist.length cb s q3 false l lit dist w5 hr5 hB5 HN.out hgr R1 R2 rfl rfl h3 h4 (by omega) (by omega) ⟨by omega, by omega⟩ ⟨by omega, by omega⟩).mono ?_
      rintro e w6 ⟨p', b', r', cap', l', rfl, hr6, hB6, K6, hr6', A6, h6, h7, h8⟩
      have ho : SOut (body 2 l) s q2 b2 l g r w4 (.returned (.slice (some ⟨r', 0, none⟩) l'.length cap')) w6 := by
        refine ⟨p', b', r', cap', l', rfl, hr6, hB6, (K5.mono (fun y hy => .inl (by simp at hy ⊢; exact .inl hy))).then K6, by omega, fun hl => AnsO.next A5 (A6 hl), h6, h7, fun e => ?_⟩
        obtain ⟨_, c2⟩ := h8 e
        have g5 := A5.good rfl
        refine ⟨g5.1, ?_⟩
        rcases c2 with c | c
        · left
          have := suf_le De.Loc.own g5.2 hq2le hr5.le
          omega
        · exact .inr c
      obtain ⟨r'', cap'', l'', he, PO⟩ := H.out.of_out (by omega) hq2le K34 ho
      have HPO := Lib.hid PO
      have HHE := Lib.hid he
      clear PO ho he A5 A6
      go_wp2_with fail
      go_ret2
      have := HPO.out
      have he := HHE.out
      simp only [Ending.returned.injEq] at he
      rw [← HLB.out, ← he] at this
      exact this
  · have c4 : w4.cell? ⟨g, 2, none⟩ = some (.bool b2) := (hr4.out.cell 2).trans rfl
    have fr4 : ∀ i, w4.frozen? ⟨g, i, none⟩ = false := hr4.out.frozen
    have hb0 : body t l = De.bad := by unfold body; rw [if_neg ht0, if_neg ht1, if_neg ht2]
    have HB0 := Lib.hid hb0
    clear hb0
    go_wp2_with fail
    go_ret2
    refine ⟨_, q2, true, r, cap, l, by rw [HN.out]; rfl, ⟨hr4.out.set 2 (.bool true), hr4.le, hr4.sz⟩, hB4.kp ((Kp.refl [g] _).set (.inl (by simp)) _) (by simpa using Ne.symm hgr), (K34.set (.inl (by simp)) _).mono (fun y hy => .inl (by simp at hy ⊢; exact .inl hy)), .inl rfl, Nat.le_refl _, by omega, fun e => (by cases e), fun hl G => ⟨fun _ => ?_, fun e => (by cases e), fun e => (by cases e)⟩⟩
    exact (H.out.part (by omega) hq2le hr4.le (l' := l) (p' := q2) (b' := true) (by rw [HB0.out]; exact AnsO.fail _ _ _ _ _) G).1 rfl
/-- How far the loop over parts still may go. -/
def sFar (s : ByteArray) (g : Nat) (w : World) (lb : Value) : Nat := (match w.cell? ⟨g, 2, none⟩ with
  | some (.bool false) => (match w.cell? ⟨g, 1, none⟩ with | some y => 8 * s.size - (intOf y).toNat + 3 | none => 3)
  | _ => 0) + (match lb with | .bool false => 1 | _ => 0)
theorem sFar_lt {w w' : World} {g q q' : Nat} {s : ByteArray} {b' l' : Bool} (h : SR w g s q false) (h' : SR w' g s q' b') (hq : b' = false → q + 3 ≤ q') : sFar s g w' (.bool l') < sFar s g w (.bool false) := by
  have h1 := h'.le
  unfold sFar
  rw [(h.out.cell 2).trans rfl, (h.out.cell 1).trans rfl, (h'.out.cell 2).trans rfl, (h'.out.cell 1).trans rfl]
  have e : ∀ n : Nat, (intOf (.int .i64 (n : Int))).toNat = n := fun n => Int.toNat_natCast n
  cases b' with
  | true =>
    show 0 + _ < 8 * s.size - (intOf (.int .i64 (q : Int))).toNat + 3 + 1
    cases l'
    · show 0 + 1 < _; omega
    · show 0 + 0 < _; omega
  | false =>
    have := hq rfl
    show 8 * s.size - (intOf (.int .i64 (q' : Int))).toNat + 3 + _ < 8 * s.size - (intOf (.int .i64 (q : Int))).toNat + 3 + 1
    rw [e, e]
    cases l'
    · show 8 * s.size - q' + 3 + 1 < _; omega
    · show 8 * s.size - q' + 3 + 0 < _; omega
set_option maxRecDepth 100000 in
set_option maxHeartbeats 2000000 in
theorem sget_calls (s : ByteArray) (w : World) (hs : s.size ≤ 700) :
    Calls Tryz.prog 120 #[.string s] w fun e w' => e = .returned (gotOf s) ∧ On w w' := by
  go_enter Tryz.func120, Tryz.ntmps120
  have BR := Blk.new w 138 #[.string s, .int .i64 0, .bool false]
  have OR := (On.refl w).alloc (.cells #[.string s, .int .i64 0, .bool false] 138)
  go_wp2_with fail
  have hw1 : SR (w.alloc (.cells #[.string s, .int .i64 0, .bool false] 138)) w.heap.size s 0 false := ⟨BR, by omega, by omega⟩
  have hg1 := BR.lt
  have hsz1 : (w.alloc (.cells #[.string s, .int .i64 0, .bool false] 138)).heap.size = w.heap.size + 1 := Array.size_push _
  generalize hg : w.heap.size = g at *
  generalize w.alloc (.cells #[.string s, .int .i64 0, .bool false] 138) = w1 at *
  have B2 := By.new w1
  have O2 := (On.refl w1).alloc (.cells #[] 5)
  rw [hsz1] at B2
  have hw2 := hw1.on O2
  have hz2 := O2.size
  generalize w1.alloc (.cells #[] 5) = w2 at *
  go_loopw [6, 7] (fun o lb wr => ∃ (q r cap : Nat) (b : Bool) (l : List Nat) (last : Bool), o = .slice (some ⟨r, 0, none⟩) l.length cap ∧ lb = .bool last ∧ SR wr g s q b ∧ By wr r cap l ∧ Kp [g, g + 1] w2 wr ∧ (r = g + 1 ∨ w2.heap.size ≤ r) ∧ (b = false → l.length ≤ 200 * q) ∧
    RowKit.Hid ((b = true ∧ whole (rest s 0) = none) ∨ (300 < l.length ∧ whole (rest s 0) = none) ∨ (b = false ∧ l.length ≤ 300 ∧ Goes s l q last))) (fun _ lb wr => sFar s g wr lb)
  case atStart => exact ⟨0, g + 1, 0, false, [], false, rfl, rfl, hw2, B2, Kp.refl _ _, .inl rfl, fun _ => by simp, Lib.hid (.inr (.inr ⟨rfl, by simp, Goes.start s⟩))⟩
  case round =>
    obtain ⟨q, r, cap, b, l, last, rfl, rfl, hr, hB, K, hra, hlq, W⟩ := hrel
    have hgr : g ≠ r := by omega
    have hqle := hr.le
    have c2 : wr.cell? ⟨g, 2, none⟩ = some (.bool b) := (hr.out.cell 2).trans rfl
    have KW0 := K
    have HLQ := Lib.hid hlq
    clear hlq
    by_cases hstop : last = true ∨ b = true
    · -- behind the loop
      have HE := Lib.hid (swhole_calls g s q b wr hr)
      have AE := Lib.hid (ans_align (b := false) hr.le)
      have HW3 : ∀ w3, SR w3 g s (evenAt q) b → Kp [g] wr w3 → On w w3 ∧ By w3 r cap l := fun w3 h3 k3 => by
        have KW : Kp [g, g + 1] w2 w3 := K.then (k3.mono (fun y hy => .inl (by simp at hy ⊢; exact .inl hy)))
        exact ⟨KW.on (OR.call O2) (fun y hy => by simp at hy; omega), hB.kp k3 (by simpa using Ne.symm hgr)⟩
      have HW := Lib.hid HW3
      clear HW3
      cases hb : b with
      | true =>
        rw [hb] at c2 HE HW W
        have hwn : whole (rest s 0) = none := by
          rcases W.out with h | h | h
          · exact h.2
          · exact h.2
          · cases h.1
        have HG := Lib.hid (got_none' (flate_not hwn))
        clear hwn
        cases last
        all_goals
          go_wp2_with fail
          refine HE.out.mono ?_
          rintro e w3 ⟨rfl, hr3, K3⟩
          obtain ⟨OW, hB3⟩ := HW.out w3 hr3 K3
          have d2 : w3.cell? ⟨g, 2, none⟩ = some (.bool true) := (hr3.out.cell 2).trans rfl
          go_wp2_with fail
          go_ret3
          exact ⟨by rw [HG.out]; rfl, OW⟩
      | false =>
        rw [hb] at c2 HE HW W
        obtain rfl : last = true := by rcases hstop with h | h; exact h; rw [hb] at h; cases h
        clear hstop
        go_wp2_with fail
        refine HE.out.mono ?_
        rintro e w3 ⟨rfl, hr3, K3⟩
        obtain ⟨OW, hB3⟩ := HW.out w3 hr3 K3
        have d1 : w3.cell? ⟨g, 1, none⟩ = some (.int .i64 (evenAt q : Nat)) := (hr3.out.cell 1).trans rfl
        have d2 : w3.cell? ⟨g, 2, none⟩ = some (.bool false) := (hr3.out.cell 2).trans rfl
        have hqe := hr3.le
        cases hp : padOk s q with
        | false =>
          rw [hp] at AE
          have hwn : whole (rest s 0) = none := by
            rcases W.out with h | h | h
            · exact h.2
            · exact h.2
            · rw [← h.2.2.done rfl]
              rcases AE.out.bad rfl with e | e
              · cases e
              · exact next_none e
          have HG := Lib.hid (got_none' (flate_not hwn))
          clear hwn
          go_wp2_with fail
          go_ret3
          exact ⟨by rw [HG.out]; rfl, OW⟩
        | true =>
          rw [hp] at AE
          by_cases hl3 : 300 < l.length
          · have hl3' : (300 : Int) < (l.length : Int) := by omega
            have hwn : whole (rest s 0) = none := by
              rcases W.out with h | h | h
              · exact h.2
              · exact h.2
              · omega
            have HG := Lib.hid (got_none' (flate_not hwn))
            clear hwn
            go_wp2_with fail
            go_ret3
            exact ⟨by rw [HG.out]; rfl, OW⟩
          · have hl3' : ¬ (300 : Int) < (l.length : Int) := by omega
            have hl3'' : decide ((300 : Int) < (l.length : Int)) = false := by simp; omega
            have hG : Goes s l q true := by
              rcases W.out with h | h | h
              · cases h.1
              · omega
              · exact h.2.2
            have hfl := flate_of (o := l) (q := evenAt q) (by omega) hqe (by rw [← hG.done rfl]; exact next_some (AE.out.good rfl).2)
            have e8 : s.size - (8 * s.size - evenAt q) / 8 = evenAt q / 8 := by unfold evenAt at *; omega
            rw [e8] at hfl
            have HR : RowKit.Hid (gotOf s = .tuple #[.string (strB l), .int .i64 ((evenAt q / 8 : Nat) : Int), .bool true]) := Lib.hid (by unfold gotOf; rw [hfl])
            clear hfl e8 hG
            have cv := bytes_conv hB3.out
            have cvd := fun n => bytes_conv (hB3.on ((On.refl w3).drewN n)).out
            have cvr := bytes_conv (hB3.on ((On.refl w3).drew)).out
            have e1 : Int.tdiv ((evenAt q : Nat) : Int) 8 = ((evenAt q / 8 : Nat) : Int) := tdiv_nat (evenAt q) 8
            have e2 : IntKind.i64.wrap (((evenAt q : Nat) : Int) / 8) = ((evenAt q / 8 : Nat) : Int) := by rw [IntKind.wrap_i64]; omega
            have hn8 : evenAt q / 8 ≤ 1000000 := by omega
            generalize evenAt q / 8 = n8 at *
            generalize evenAt q = qe at *
            go_wp2_with fail
            go_quiet (fail)
            go_wp2_with fail
            go_ret3
            exact ⟨by rw [HR.out]; rfl, OW.drewN _⟩
    · obtain rfl : last = false := by cases last; rfl; exact absurd (.inl rfl) hstop
      obtain rfl : b = false := by cases b; rfl; exact absurd (.inr rfl) hstop
      clear hstop
      have hl5 : l.length ≤ 80000000 := by have := HLQ.out rfl; omega
      go_wp2_with fail
      refine (spart_calls g r cap l.length s q l wr hr hB rfl hl5 hgr hs).mono ?_
      rintro e w3 ⟨last', q', b', r', cap', l', rfl, hr3, hB3, K3, hr', h1, h2, h3, h4⟩
      go_wp2_with fail
      have hz := K.size
      refine ⟨⟨q', r', cap', b', l', last', rfl, rfl, hr3, hB3, K.trans K3 (fun y hy => by simp at hy ⊢; omega), by omega, fun e => ?_, Lib.hid ?_⟩, sFar_lt hr hr3 h3⟩
      · have h5 : l.length ≤ 200 * q := by first | exact HLQ.out rfl | exact HLQ.out trivial
        have := h3 e
        omega
      · rcases W.out with h | h | h
        · cases h.1
        · exact .inr (.inl ⟨by omega, h.2⟩)
        · obtain ⟨a1, a2, a3⟩ := h4 h.2.1 h.2.2
          cases b' with
          | true => exact .inl ⟨rfl, a1 rfl⟩
          | false =>
            by_cases hl3 : 300 < l'.length
            · exact .inr (.inl ⟨hl3, a2 rfl hl3⟩)
            · exact .inr (.inr ⟨rfl, by omega, a3 rfl (by omega)⟩)
set_option maxRecDepth 100000 in
theorem sflateget_calls (s : ByteArray) (w : World) :
    Calls Tryz.prog 84 #[.string s] w fun e w' => e = .returned (gotOf s) ∧ On w w' := by
  by_cases h7 : 700 < s.size
  · have h7' : (700 : Int) < s.size := by omega
    have HR : RowKit.Hid (gotOf s = .tuple #[.string ⟨#[]⟩, .int .i64 0, .bool false]) := Lib.hid (by unfold gotOf flate; rw [if_pos (by rw [chars_length]; exact h7)])
    go_enter Tryz.func84, Tryz.ntmps84
    go_wp2_with fail
    go_ret3
    exact ⟨by rw [HR.out]; rfl, On.refl _⟩
  have h7' : ¬ (700 : Int) < s.size := by omega
  go_enter Tryz.func84, Tryz.ntmps84
  go_wp2_with fail
  refine (sget_calls s w (by omega)).mono ?_
  rintro e w1 ⟨rfl, O⟩
  cases hf : flate (chars s) with
  | none =>
    have HG : RowKit.Hid (gotOf s = .tuple #[.string ⟨#[]⟩, .int .i64 0, .bool false]) := Lib.hid (by unfold gotOf; rw [hf])
    rw [HG.out]
    go_wp2_with fail
    go_ret3
    exact ⟨by first | rfl | (rw [HG.out]; rfl), O⟩
  | some p =>
    have HG : RowKit.Hid (gotOf s = .tuple #[.string (strB p.1), .int .i64 (p.2 : Int), .bool true]) := Lib.hid (by unfold gotOf; rw [hf])
    rw [HG.out]
    go_wp2_with fail
    go_ret3
    exact ⟨by first | rfl | (rw [HG.out]; rfl), O⟩
end Go.Proofs.YtnadjlejlohgiaaGreatDoor.Wi

