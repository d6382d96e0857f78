/- Own texts joined: Rl, Sm, Byt, Ad, So, Sa, Ss. -/
import Derived.Deep.DeepCutAuto
import Derived.Deep.QuietTactic
import Derived.BigQuiet
import Derived.Test.YtncidljdfipigaaDoorZ0
import Derived.Test.YtncidljdfipigaaDoorZ2
import Derived.Test.YtncidljdfipigaaDoorZ3
import Derived.Test.YtncidljdfipigaaDoorZ4
/- The program's reader takes the lengths of both codes. Conditions: a reader; the variable order as it is laid. -/
namespace Go.Proofs.YtncidljdfipigaaDoor.Wi
open Go.RowKit Go.Proofs.YtncidljdfipigaaDoor.Mem Go.Proofs.YtncidljdfipigaaDoor.Bt Go.Proofs.YtncidljdfipigaaDoor.Cd Go.Proofs.YtncidljdfipigaaDoor.De
set_option linter.unusedVariables false
set_option linter.unusedSimpArgs false
/-- As the lengths are taken, before they are looked at. -/
def ownRaw : Dec (List Nat × List Nat) :=
  next (num 5) fun a => next (num 5) fun b => next (num 4) fun c => next (metas (c + 4) 0 (List.replicate 19 0)) fun m =>
    if okLens m = true ∧ a + 257 ≤ 286 ∧ b + 1 ≤ 30 then next (lenLoop m (a + 257 + (b + 1)) 400 []) fun all => ret (all.take (a + 257), all.drop (a + 257)) else De.bad
theorem own_raw {α : Type} (k : List Nat × List Nat → Dec α) (bs : List Bool) : next own k bs = next ownRaw (fun p => if okLens p.1 = true ∧ okLens p.2 = true then k p else De.bad) bs := by
  unfold own ownRaw next
  cases num 5 bs with
  | none => rfl
  | some p1 =>
    simp only
    cases num 5 p1.2 with
    | none => rfl
    | some p2 =>
      simp only
      cases num 4 p2.2 with
      | none => rfl
      | some p3 =>
        simp only
        cases metas (p3.1 + 4) 0 (List.replicate 19 0) p3.2 with
        | none => rfl
        | some p4 =>
          simp only
          by_cases h : okLens p4.1 = true ∧ p1.1 + 257 ≤ 286 ∧ p2.1 + 1 ≤ 30
          · rw [if_pos h, if_pos h]
            cases lenLoop p4.1 (p1.1 + 257 + (p2.1 + 1)) 400 [] p4.2 with
            | none => rfl
            | some p5 =>
              simp only
              by_cases h2 : okLens (p5.1.take (p1.1 + 257)) = true ∧ okLens (p5.1.drop (p1.1 + 257)) = true
              · simp only [ret, if_pos h2]
              · simp only [ret, if_neg h2, De.bad]
          · rw [if_neg h, if_neg h]; rfl
/-- What the reader tells of the lengths of both codes. -/
structure LensOut (s : ByteArray) (p : Nat) (b : Bool) (g : Nat) (w : World) (e : Ending) (w' : World) : Prop where mk ::
  out : ∃ (v1 v2 : Value) (p' : Nat) (b' : Bool) (lit dist : List Nat), e = .returned (.tuple #[v1, v2]) ∧ IR w' g s p' b' ∧ Ans ownRaw s p b (lit, dist) p' b' ∧ Kp [g] w w' ∧
      (b' = false → ∃ (r n c : Nat), v1 = .slice (some ⟨r, 0, none⟩) lit.length n ∧ v2 = .slice (some ⟨r, lit.length, none⟩) dist.length c ∧ lit.length ≤ 286 ∧ dist.length ≤ 30 ∧ lit.length ≤ n ∧ dist.length ≤ c ∧ RowO w' r 0 3 (i64s lit) ∧ RowO w' r lit.length 3 (i64s dist) ∧ (∀ y ∈ lit, y ≤ 15) ∧ (∀ y ∈ dist, y ≤ 15) ∧ w.heap.size ≤ r)
theorem order_lt : ∀ i, i < 19 → order.getD i 0 < 19 := by decide
set_option maxRecDepth 100000 in
set_option maxHeartbeats 2000000 in
theorem rlens_calls (g : Nat) (x : Addr) (s : ByteArray) (p : Nat) (b : Bool) (w : World) (hw : IR w g s p b) (hO : Ord w x) (hg1 : 0 ≠ g) (hg2 : x.block ≠ g) :
    Calls Tryd.prog 56 #[.pointer (some ⟨g, 0, none⟩)] w fun e w' => LensOut s p b g w e w' := by
  have hgl := hw.out.lt
  have HE1 := Lib.hid (get_calls g 5 s p b w hw (by omega))
  have A1 := Lib.hid (ans_num (n := 5) (b := b) hw.le)
  have hm1 := numAt_lt s p 5
  go_enter Tryd.func56, Tryd.ntmps56
  go_wp2_with fail
  refine HE1.out.mono ?_
  rintro e w1 ⟨rfl, hw1, K1⟩
  generalize hq1 : min (p + 5) (8 * s.size) = q1 at *
  generalize hx1 : (b || decide (8 * s.size < p + 5)) = x1 at *
  generalize numAt s p 5 = na at *
  have HE2 := Lib.hid (get_calls g 5 s q1 x1 w1 hw1 (by omega))
  have A2 := Lib.hid (ans_num (n := 5) (b := x1) hw1.le)
  have hm2 := numAt_lt s q1 5
  go_wp2_with fail
  refine HE2.out.mono ?_
  rintro e w2 ⟨rfl, hw2, K2⟩
  generalize hq2 : min (q1 + 5) (8 * s.size) = q2 at *
  generalize hx2 : (x1 || decide (8 * s.size < q1 + 5)) = x2 at *
  generalize numAt s q1 5 = nb at *
  have HE3 := Lib.hid (get_calls g 4 s q2 x2 w2 hw2 (by omega))
  have A3 := Lib.hid (ans_num (n := 4) (b := x2) hw2.le)
  have hm3 := numAt_lt s q2 4
  go_wp2_with fail
  refine HE3.out.mono ?_
  rintro e w3 ⟨rfl, hw3, K3⟩
  generalize hq3 : min (q2 + 4) (8 * s.size) = q3 at *
  generalize hx3 : (x2 || decide (8 * s.size < q2 + 4)) = x3 at *
  generalize numAt s q2 4 = nc at *
  have K13 := (K1.then K2).then K3
  have hO3 := hO.kp K13 (by simpa using hg1) (by simpa using hg2)
  obtain ⟨D, hD⟩ : ∃ D : Dec (List Nat × List Nat), D = (next (metas (nc + 4) 0 (List.replicate 19 0)) fun m => if okLens m = true ∧ na + 257 ≤ 286 ∧ nb + 1 ≤ 30 then next (lenLoop m (na + 257 + (nb + 1)) 400 []) fun all => ret (all.take (na + 257), all.drop (na + 257)) else De.bad) := ⟨_, rfl⟩
  have HD := Lib.hid hD
  have HA : RowKit.Hid (∀ y p' b', Ans D s q3 x3 y p' b' → Ans ownRaw s p b y p' b') := Lib.hid (fun y p' b' h => Ans.next A1.out (Ans.next A2.out (Ans.next A3.out (by rw [← HD.out]; exact h))))
  clear hD A1 A2 A3 HE1 HE2 HE3 K1 K2 K3 hq1 hq2 hq3 hx1 hx2 hx3
  have hgood : na + 257 ≤ 286 ∧ nb + 1 ≤ 30 → ∀ m q4 b4, Ans (metas (nc + 4) 0 (List.replicate 19 0)) s q3 x3 m q4 b4 → ∀ y p' b', Ans (if okLens m = true then next (lenLoop m (na + 257 + (nb + 1)) 400 []) fun all => ret (all.take (na + 257), all.drop (na + 257)) else De.bad) s q4 b4 y p' b' → Ans D s q3 x3 y p' b' := fun hb m q4 b4 h1 y p' b' h2 => by
    rw [HD.out]
    refine Ans.next h1 ?_
    have e : (okLens m = true ∧ na + 257 ≤ 286 ∧ nb + 1 ≤ 30) = (okLens m = true) := by simp [hb.1, hb.2]
    simp only [e]
    exact h2
  have hnone : ¬ (na + 257 ≤ 286 ∧ nb + 1 ≤ 30) → D (rest s q3) = none := fun hb => by
    rw [HD.out]
    cases h : metas (nc + 4) 0 (List.replicate 19 0) (rest s q3) with
    | none => exact next_none h
    | some r => rw [next_some h, if_neg (fun hh => hb hh.2)]; rfl
  have o0 := hO3.glob
  have K03 : Kp [g] w w3 := K13
  have hgl3 := hw3.out.lt
  have HGD := Lib.hid hgood
  have HNO := Lib.hid hnone
  clear hgood hnone K13
  by_cases hbig : na + 257 ≤ 286 ∧ nb + 1 ≤ 30
  case' pos =>
    have c3 : decide ((286 : Int) < (na : Int) + 257) = false := by simp; omega
    have c4 : decide ((30 : Int) < (nb : Int) + 1) = false := by simp; omega
    obtain ⟨xk, hxk⟩ : ∃ xk, xk = x3 := ⟨_, rfl⟩
    have F1 : RowKit.Hid (∀ m q4 b4, Ans (metas (nc + 4) 0 (List.replicate 19 0)) s q3 xk m q4 b4 → ∀ y p' b', Ans (if okLens m = true then next (lenLoop m (na + 257 + (nb + 1)) 400 []) fun all => ret (all.take (na + 257), all.drop (na + 257)) else De.bad) s q4 b4 y p' b' → Ans D s q3 x3 y p' b') := Lib.hid (by rw [hxk]; exact HGD.out hbig)
    have hwk : IR w3 g s q3 xk := by rw [hxk]; exact hw3
    have FB : RowKit.Hid (xk = false → na + 257 ≤ 286 ∧ nb + 1 ≤ 30) := Lib.hid (fun _ => hbig)
    clear hxk hbig
    go_upto_region 4 with fail
    obtain ⟨wk, hwk0⟩ : ∃ wk, wk = w3 := ⟨_, rfl⟩
    rw [← hwk0] at hwk o0 hO3 K03 ⊢
    clear hwk0
  case' neg =>
    have o0' := o0
    have fr : ∀ i, w3.frozen? ⟨g, i, none⟩ = false := hw3.out.frozen
    have d2 := (hw3.out.cell 2).trans rfl
    have F1 : RowKit.Hid (∀ m q4 b4, Ans (metas (nc + 4) 0 (List.replicate 19 0)) s q3 true m q4 b4 → ∀ y p' b', Ans (if okLens m = true then next (lenLoop m (na + 257 + (nb + 1)) 400 []) fun all => ret (all.take (na + 257), all.drop (na + 257)) else De.bad) s q4 b4 y p' b' → Ans D s q3 x3 y p' b') := Lib.hid (fun m q4 b4 h1 y p' b' h2 => by
      have e4 := h1.mono rfl
      have e5 := h2.mono e4
      rw [e5]
      exact ⟨fun _ => .inr (HNO.out hbig), fun e => by cases e⟩)
    have FB : RowKit.Hid (true = false → na + 257 ≤ 286 ∧ nb + 1 ≤ 30) := Lib.hid (fun e => by cases e)
    have hwk : IR (w3.setCell ⟨g, 2, none⟩ (.bool true)) g s q3 true := ⟨hw3.out.set 2 (.bool true), hw3.le, hw3.sz⟩
    have K3k : Kp [g] w3 (w3.setCell ⟨g, 2, none⟩ (.bool true)) := (Kp.refl _ _).set (.inl (by simp)) _
    have hOk := hO3.kp K3k (by simpa using hg1) (by simpa using hg2)
    have K0k := K03.then K3k
    by_cases h286 : 286 < na + 257
    case' pos =>
      have c3 : (286 : Int) < (na : Int) + 257 := by omega
      go_upto_region 4 with fail
    case' neg =>
      have c3 : decide ((286 : Int) < (na : Int) + 257) = false := by simp; omega
      have c4 : (30 : Int) < (nb : Int) + 1 := by omega
      go_upto_region 4 with fail
    all_goals
      clear hO3 o0 o0' K03 K3k hbig
      have o0 := hOk.glob
      have hO3 := hOk
      have K03 := K0k
      clear hOk K0k
      generalize w3.setCell ⟨g, 2, none⟩ (.bool true) = wk at *
      obtain ⟨xk, hxk⟩ : ∃ xk, xk = true := ⟨_, rfl⟩
      rw [← hxk] at hwk
      have F1 : RowKit.Hid (∀ m q4 b4, Ans (metas (nc + 4) 0 (List.replicate 19 0)) s q3 xk m q4 b4 → ∀ y p' b', Ans (if okLens m = true then next (lenLoop m (na + 257 + (nb + 1)) 400 []) fun all => ret (all.take (na + 257), all.drop (na + 257)) else De.bad) s q4 b4 y p' b' → Ans D s q3 x3 y p' b') := by rw [hxk]; exact F1
      have FB : RowKit.Hid (xk = false → na + 257 ≤ 286 ∧ nb + 1 ≤ 30) := by rw [hxk]; exact FB
      clear hxk
  all_goals
    have hk19 : (nc : Int) + 4 ≤ 19 := by omega
    have hk20 : (0 : Int) ≤ (nc : Int) + 4 := by omega
    have htn : ((nc : Int) + 4).toNat = nc + 4 := by omega
    go_wp2_with (at_make; go_must (refine wpList_ints _ rfl _ _ rfl _ _ 19 rfl rfl rfl rfl (by omega) ?_); intro w4 hN1 O4 hlt1; have o1 := (hO3.kp (Kp.of [] O4) (by simp) (by simp)).glob)
    have hw4 := hwk.on O4
    have hO4 := hO3.kp (Kp.of [] O4) (by simp) (by simp)
    have hgk := hwk.out.lt
    have hGk := hO3.glt
    have hXk := hO3.lt
    have K04 := K03.then (Kp.of [g] O4)
    have hK0s := K03.size
    generalize hA : wk.heap.size = A at *
    have HAA := Lib.hid hA
    clear hA o0 o1 hO3 hwk
    have hgA : g ≠ A := by omega
    have hGA : 0 ≠ A := by omega
    have hXA : x.block ≠ A := by omega
    go_loopw [40] (fun i wr => ∃ (k q : Nat) (bb : Bool) (m : List Nat), i = .int .i64 (k : Int) ∧ k ≤ nc + 4 ∧ IR wr g s q bb ∧ Nums wr A (.slice (some ⟨A, 0, none⟩) 19 19) m ∧ Kp [g, A] w4 wr ∧ m.length = 19 ∧ (∀ y ∈ m, y ≤ 7) ∧ (∀ y p' b', Ans (metas (nc + 4 - k) k m) s q bb y p' b' → Ans (metas (nc + 4) 0 (List.replicate 19 0)) s q3 xk y p' b')) (fun i _ => nc + 4 - (intOf i).toNat)
    case atStart => exact ⟨0, q3, xk, List.replicate 19 0, rfl, by omega, hw4, hN1, Kp.refl _ _, rfl, by simp, fun y p' b' h => h⟩
    case round =>
      obtain ⟨k, q, bb, m, rfl, hk, hr, hN, K, hml, hm7, hF⟩ := hrel
      by_cases hlt : k < nc + 4
      · have hk19' : k < 19 := by omega
        have hOr := hO4.kp K (by simp; exact ⟨hg1, hGA⟩) (by simp; exact ⟨hg2, hXA⟩)
        have oc := hOr.cells k hk19'
        have hol := order_lt k hk19'
        have HG := Lib.hid (get_calls g 3 s q bb wr hr (by omega))
        have A4 := ans_num (n := 3) (b := bb) hr.le
        have hv := numAt_lt s q 3
        have hF2 : RowKit.Hid (∀ y p' b', Ans (metas (nc + 4 - (k + 1)) (k + 1) (m.set (order.getD k 0) (numAt s q 3))) s (min (q + 3) (8 * s.size)) (bb || decide (8 * s.size < q + 3)) y p' b' → Ans (metas (nc + 4) 0 (List.replicate 19 0)) s q3 xk y p' b') := Lib.hid (fun y p' b' h => hF y p' b' (by
          rw [show nc + 4 - k = (nc + 4 - (k + 1)) + 1 from by omega, metas]
          exact Ans.next A4 h))
        have HM7 := Lib.hid hm7
        have HML := Lib.hid hml
        clear hF A4 hm7 hml
        generalize order.getD k 0 = ok at *
        generalize numAt s q 3 = v at *
        generalize min (q + 3) (8 * s.size) = qq at *
        generalize (bb || decide (8 * s.size < q + 3)) = b2 at *
        have hk2 : (k : Int) < (nc : Int) + 4 := by omega
        have hol2 : (ok : Int) < 19 := by omega
        go_wp2_with fail
        refine HG.out.mono ?_
        rintro e w6 ⟨rfl, hr6, K6⟩
        have hN6 := hN.kp K6 (by simpa using Ne.symm hgA)
        have hcells : ok < m.length := by rw [HML.out]; exact hol
        have ce := hN6.row.1.cell (i64s_get hcells)
        have fe : ∀ i, w6.frozen? ⟨A, i, none⟩ = false := hN6.row.1.frozen
        go_wp2_with fail
        go_roundw
        case rel =>
          have KS : Kp [A] w6 (w6.setCell ⟨A, ok, none⟩ (.int .i64 (v : Int))) := (Kp.refl _ _).set (.inl (by simp)) _
          refine ⟨k + 1, qq, b2, m.set ok v, by go_num, by omega, hr6.kp KS (by simpa using hgA), hN6.set ok v, (K.then (K6.mono (fun y hy => .inl (by simp at hy ⊢; exact .inl hy)))).set (.inl (by simp)) _, by rw [List.length_set]; exact HML.out, fun y hy => ?_, hF2.out⟩
          rcases List.mem_or_eq_of_mem_set hy with h | rfl
          · exact HM7.out y h
          · omega
        case measure => simp [intOf]; omega
      · obtain rfl : k = nc + 4 := by omega
        have hM : Ans (metas (nc + 4) 0 (List.replicate 19 0)) s q3 xk m q bb := hF m q bb (by rw [Nat.sub_self]; exact Ans.ret _ _ _ _)
        have HF1 := Lib.hid (F1.out m q bb hM)
        have hFB : RowKit.Hid (bb = false → na + 257 ≤ 286 ∧ nb + 1 ≤ 30) := Lib.hid (fun e => FB.out (by
          cases hx : xk with
          | false => rfl
          | true => rw [hM.mono hx] at e; cases e))
        clear hF hM F1 FB
        have d2 := (hr.out.cell 2).trans rfl
        have fr : ∀ i, wr.frozen? ⟨g, i, none⟩ = false := hr.out.frozen
        have K0r : Kp [g] w wr := K04.trans K (fun y hy => by simp at hy ⊢; omega)
        have hzr : A < wr.heap.size := by have := K.size; omega
        cases bb with
        | true =>
          go_wp2_with fail
          go_ret2
          exact .mk ⟨_, _, q, true, [], [], rfl, ⟨hr.out.set 2 (.bool true), hr.le, hr.sz⟩, HA.out _ _ _ (HF1.out _ _ _ ⟨fun _ => .inl rfl, fun e => by cases e⟩), K0r.set (.inl (by simp)) _, fun e => by cases e⟩
        | false =>
        have hbig := hFB.out rfl
        all_goals try (exfalso; omega)
        all_goals
          have hx100 : ∀ y ∈ m, y ≤ 100000 := fun y hy => by have := hm7 y hy; omega
          have RM := hN.row.1.toO
          cases hok : okLens m with
          | false =>
            have HOK := Lib.hid hok
            clear hok
            go_wp2_with fail
            refine (lensok_calls m A 0 19 19 wr RM hml (by omega) (by omega) hx100).mono ?_
            rintro e w6 ⟨rfl, O6⟩
            rw [HOK.out]
            have hr6 := hr.on O6
            have fr6 : ∀ i, w6.frozen? ⟨g, i, none⟩ = false := hr6.out.frozen
            have d6 := (hr6.out.cell 2).trans rfl
            go_wp2_with fail
            go_ret2
            refine .mk ⟨_, _, q, true, [], [], rfl, ⟨hr6.out.set 2 (.bool true), hr.le, hr.sz⟩, HA.out _ _ _ (HF1.out _ _ _ ?_), (K0r.then (Kp.of _ O6)).set (.inl (by simp)) _, fun e => by cases e⟩
            rw [HOK.out]
            exact Ans.fail _ _ _ _ _
          | true =>
            have HOK := Lib.hid hok
            have HF3 : RowKit.Hid (∀ y p' b', Ans (next (lenLoop m (na + 257 + (nb + 1)) 400 []) fun all => ret (all.take (na + 257), all.drop (na + 257))) s q false y p' b' → Ans ownRaw s p b y p' b') := Lib.hid (fun y p' b' h => HA.out _ _ _ (HF1.out y p' b' (by rw [HOK.out]; exact h)))
            clear hok HF1 HA hFB HD HGD HNO
            go_wp2_with fail
            refine (lensok_calls m A 0 19 19 wr RM hml (by omega) (by omega) hx100).mono ?_
            rintro e w6 ⟨rfl, O6⟩
            rw [HOK.out]
            go_wp2_with fail
            refine (book_calls m A 0 19 19 w6 (RM.on O6) hml (by omega) (by omega) (ok_le HOK.out) (ok_fits HOK.out)).mono ?_
            rintro e w7 ⟨mb, rfl, Bm, hmb, O7⟩
            have O67 := O6.call O7
            have hr7 := hr.on O67
            have hz7 := O67.size
            have hz6 := O6.size
            have fmb : mb ≠ g := by have := hr.out.lt; omega
            have hmbl := Bm.lt
            have K07 := K0r.then (Kp.of [g] O67)
            have hAns0 := Ans.ret (α := Nat) 0 s 0 false
            clear hAns0
            have OE := (On.refl w7).alloc (.cells #[] 3)
            have NE := Nums.new w7 #[] [] rfl (by simp)
            have hr8 := hr7.on OE
            have Bm8 := Bm.kp (Kp.of [] OE) (by simp)
            have hgl7 := hr7.out.lt
            go_upto_region 14 with fail
            go_wp2_with fail
            generalize hC : w7.heap.size = C at *
            generalize w7.alloc (.cells #[] 3) = w8 at *
            have hgC : g ≠ C := by omega
            have hCw : w.heap.size ≤ C := by have := K07.size; omega
            have hmC : mb ≠ C := by omega
            have K08 := K07.then (Kp.of [g] OE)
            have hz8 := OE.size
            clear hC
            go_loopw [11] (fun o wr2 => ∃ (q2 : Nat) (b2 : Bool) (ra ca f : Nat) (all : List Nat), o = .slice (some ⟨ra, 0, none⟩) all.length ca ∧ IR wr2 g s q2 b2 ∧ Nums wr2 ra (.slice (some ⟨ra, 0, none⟩) all.length ca) all ∧ Kp [g, C] w8 wr2 ∧ (ra = C ∨ w8.heap.size ≤ ra) ∧ (∀ y ∈ all, y ≤ 15) ∧ 1 ≤ f ∧ (all.length < na + 257 + (nb + 1) → 400 ≤ f + all.length) ∧ all.length ≤ 500 ∧
              (∀ y p' b', Ans (lenLoop m (na + 257 + (nb + 1)) f all) s q2 b2 y p' b' → Ans (lenLoop m (na + 257 + (nb + 1)) 400 []) s q false y p' b')) (fun o _ => match o with | .slice _ n _ => 600 - n | _ => 0)
            case atStart => exact ⟨q, false, C, 0, 400, [], rfl, hr8, NE, Kp.refl _ _, .inl rfl, by simp, by omega, by simp, by simp, fun y p' b' h => h⟩
            case round =>
              obtain ⟨q2, b2, ra, ca, f, all, rfl, hr9, hN9, K9, hra, h15, hf1, hf4, hal, hF9⟩ := hrel
              have HF9 := Lib.hid hF9
              have H15 := Lib.hid h15
              clear hF9 h15
              have d9 := (hr9.out.cell 2).trans rfl
              have hgra : g ≠ ra := by have := hr8.out.lt; omega
              have K09 := K08.trans (T := [g, C]) K9 (fun y hy => by simp at hy ⊢; omega)
              generalize hnn : all.length = nn at *
              have HNN := Lib.hid hnn
              clear hnn
              by_cases hw1 : nn < na + 257 + (nb + 1)
              · have hw1' : (nn : Int) < (na : Int) + 257 + ((nb : Int) + 1) := by omega
                cases b2 with
                | true =>
                  have fr9 : ∀ i, wr.frozen? ⟨g, i, none⟩ = false := hr9.out.frozen
                  have hne1 : ((nn : Int) != ((na : Int) + 257 + ((nb : Int) + 1))) = true := by simp; omega
                  have hne2 : ((nn : Int) == ((na : Int) + 257 + ((nb : Int) + 1))) = false := by simp; omega
                  go_wp2_with fail
                  go_ret2
                  exact .mk ⟨_, _, q2, true, [], [], rfl, ⟨hr9.out.set 2 (.bool true), hr9.le, hr9.sz⟩, HF3.out _ _ _ (Ans.next (x := all) (HF9.out all q2 true ⟨fun _ => .inl rfl, fun e => by cases e⟩) ⟨fun _ => .inl rfl, fun e => by cases e⟩), K09.set (.inl (by simp)) _, fun e => by cases e⟩
                | false =>
                  obtain ⟨wo, hwo⟩ : ∃ wo : World, wo = wr := ⟨_, rfl⟩
                  subst hwo
                  go_wp2_with fail
                  refine (rsym_calls m mb g 19 s q2 false wo hr9 (Bm8.kp K9 (by simp; exact ⟨fmb, hmC⟩)) hml fmb).mono ?_
                  rintro e w10 ⟨sy, q3, b3, rfl, hr10, A10, hs10, K10⟩
                  obtain ⟨f, rfl⟩ : ∃ f', f = f' + 1 := ⟨f - 1, by omega⟩
                  have hf2 : 1 ≤ f := by omega
                  have hN10 := hN9.kp K10 (by simpa using Ne.symm hgra)
                  have HST : RowKit.Hid (∀ y p' b', Ans (if sy < 16 then lenLoop m (na + 257 + (nb + 1)) f (all ++ [sy]) else if sy = 16 then next (num 2) fun x => (if all.length = 0 then De.bad else lenLoop m (na + 257 + (nb + 1)) f (all ++ List.replicate (3 + x) (all.getD (all.length - 1) 0))) else if sy = 17 then next (num 3) fun x => lenLoop m (na + 257 + (nb + 1)) f (all ++ List.replicate (3 + x) 0) else next (num 7) fun x => lenLoop m (na + 257 + (nb + 1)) f (all ++ List.replicate (11 + x) 0)) s q3 b3 y p' b' → Ans (lenLoop m (na + 257 + (nb + 1)) 400 []) s q false y p' b') := Lib.hid (fun y p' b' h => HF9.out y p' b' (by
                    rw [lenLoop, if_neg (by rw [HNN.out]; omega)]
                    exact Ans.next A10 h))
                  have hgl10 := hr10.out.lt
                  by_cases h16 : sy < 16
                  · have h16' : (sy : Int) < 16 := by omega
                    have HC : RowKit.Hid (∀ y p' b', Ans (lenLoop m (na + 257 + (nb + 1)) f (all ++ List.replicate 1 sy)) s q3 b3 y p' b' → Ans (lenLoop m (na + 257 + (nb + 1)) 400 []) s q false y p' b') := Lib.hid (fun y p' b' h => HST.out y p' b' (by rw [if_pos h16]; exact h))
                    go_upto_region 28 with fail
                    go_wp2_with fail
                    go_loopw [11, 113] (fun o kx wr2 => ∃ (k ra2 ca2 : Nat), kx = .int .i64 (k : Int) ∧ k ≤ 1 ∧ o = .slice (some ⟨ra2, 0, none⟩) (nn + k) ca2 ∧ Nums wr2 ra2 (.slice (some ⟨ra2, 0, none⟩) (nn + k) ca2) (all ++ List.replicate k sy) ∧ Kp [ra] w10 wr2 ∧ (ra2 = ra ∨ w10.heap.size ≤ ra2)) (fun _ kx _ => 1 - (intOf kx).toNat)
                    case atStart => exact ⟨0, ra, ca, rfl, by omega, by first | rfl | (rw [hn0]), by simpa using hN10, Kp.refl _ _, .inl rfl⟩
                    case round =>
                      obtain ⟨k, ra2, ca2, rfl, hk, rfl, hN12, K12, hra2⟩ := hrel
                      have hlen : (all ++ List.replicate k sy).length = nn + k := by rw [List.length_append, List.length_replicate, HNN.out]
                      have HLEN := Lib.hid hlen
                      clear hlen
                      by_cases hlt : k < 1
                      · have hlt' : (k : Int) < ((1 : Nat) : Int) := by omega
                        have hlt2 : (k : Int) < 1 := by omega
                        go_wp2_with (at_builtin; go_must (refine wpList_nat (x := sy) rfl _ _ rfl rfl hN12 rfl (by rw [HLEN.out]; omega) ?_); intro r6 c6 w6 hN6 hr6 hrl6 K6 hc1 hc2)
                        go_roundw
                        case rel =>
                          refine ⟨k + 1, r6, c6, by go_num, by omega, by first | (rw [HLEN.out]; rfl) | (rw [HNN.out]; rfl), ?_, K12.trans K6 (fun y hy => by simp at hy ⊢; omega), by have := K12.size; omega⟩
                          rw [HLEN.out] at hN6
                          rw [List.replicate_succ', ← List.append_assoc]
                          exact hN6
                        case measure => simp [intOf]; omega
                      · obtain rfl : k = 1 := by omega
                        go_wp2_with fail
                        have hz12 := K12.size
                        have hz11 := K10.size
                        have hzo := K9.size
                        refine ⟨⟨q3, b3, ra2, ca2, f, all ++ List.replicate (1) (sy), by rw [HLEN.out], hr10.kp K12 (by simpa using hgra), by rw [HLEN.out]; exact hN12, ?_, by omega, ?_, hf2, fun _ => by rw [HLEN.out]; omega, by rw [HLEN.out]; omega, HC.out⟩, by simp; omega⟩
                        · refine (K9.then (K10.mono (fun y hy => .inl (by simp at hy ⊢; exact .inl hy)))).trans K12 (fun y hy => by simp at hy ⊢; omega)
                        · intro y hy
                          rcases List.mem_append.1 hy with h | h
                          · exact H15.out y h
                          · rw [List.eq_of_mem_replicate h]; omega
                  have h16n : ¬ (sy : Int) < 16 := by omega
                  by_cases h16e : sy = 16
                  · have h16i : ((sy : Int) == 16) = true := by simp; omega
                    have A11 := Lib.hid (ans_num (n := 2) (b := b3) hr10.le)
                    have HG := Lib.hid (get_calls g 2 s q3 b3 w10 hr10 (by omega))
                    have hv := numAt_lt s q3 2
                    generalize numAt s q3 2 = v2 at *
                    generalize min (q3 + 2) (8 * s.size) = q5 at *
                    generalize (b3 || decide (8 * s.size < q3 + 2)) = b5 at *
                    go_wp2_with fail
                    refine HG.out.mono ?_
                    rintro e w11 ⟨rfl, hr11, K11⟩
                    have hN11 := hN10.kp K11 (by simpa using Ne.symm hgra)
                    have K1011 := K10.then K11
                    by_cases hn0 : nn = 0
                    · have hn0' : ((nn : Int) == 0) = true := by simp; omega
                      have fr11 : ∀ i, w11.frozen? ⟨g, i, none⟩ = false := hr11.out.frozen
                      have d11 := (hr11.out.cell 2).trans rfl
                      have hr12 : IR (w11.setCell ⟨g, 2, none⟩ (.bool true)) g s q5 true := ⟨hr11.out.set 2 (.bool true), hr11.le, hr11.sz⟩
                      have KS : Kp [g] w11 (w11.setCell ⟨g, 2, none⟩ (.bool true)) := (Kp.refl _ _).set (.inl (by simp)) _
                      have hN12' := hN11.kp KS (by simpa using Ne.symm hgra)
                      have K1012 := K1011.then KS
                      have HC : RowKit.Hid (∀ y p' b', Ans (lenLoop m (na + 257 + (nb + 1)) f (all ++ List.replicate (3 + v2) 0)) s q5 true y p' b' → Ans (lenLoop m (na + 257 + (nb + 1)) 400 []) s q false y p' b') := Lib.hid (fun y p' b' h => by
                        have e := h.mono rfl
                        rw [e]
                        refine HST.out y p' true ?_
                        rw [if_neg h16, if_pos h16e]
                        refine Ans.next A11.out ?_
                        rw [if_pos (by rw [HNN.out]; exact hn0)]
                        exact Ans.fail _ _ _ _ _)
                      go_upto_region 28 with fail
                      generalize w11.setCell ⟨g, 2, none⟩ (.bool true) = w12 at *
                      go_wp2_with fail
                      go_loopw [11, 113] (fun o kx wr2 => ∃ (k ra2 ca2 : Nat), kx = .int .i64 (k : Int) ∧ k ≤ (3 + v2) ∧ o = .slice (some ⟨ra2, 0, none⟩) (nn + k) ca2 ∧ Nums wr2 ra2 (.slice (some ⟨ra2, 0, none⟩) (nn + k) ca2) (all ++ List.replicate k 0) ∧ Kp [ra] w12 wr2 ∧ (ra2 = ra ∨ w12.heap.size ≤ ra2)) (fun _ kx _ => (3 + v2) - (intOf kx).toNat)
                      case atStart => exact ⟨0, ra, ca, rfl, by omega, by first | rfl | (rw [hn0]), by simpa using hN12', Kp.refl _ _, .inl rfl⟩
                      case round =>
                        obtain ⟨k, ra2, ca2, rfl, hk, rfl, hN12, K12, hra2⟩ := hrel
                        have hlen : (all ++ List.replicate k 0).length = nn + k := by rw [List.length_append, List.length_replicate, HNN.out]
                        have HLEN := Lib.hid hlen
                        clear hlen
                        by_cases hlt : k < (3 + v2)
                        · have hlt' : (k : Int) < (((3 + v2) : Nat) : Int) := by omega
                          have hlt2 : (k : Int) < 3 + (v2 : Int) := by omega
                          go_wp2_with (at_builtin; go_must (refine wpList_nat (x := 0) rfl _ _ rfl rfl hN12 rfl (by rw [HLEN.out]; omega) ?_); intro r6 c6 w6 hN6 hr6 hrl6 K6 hc1 hc2)
                          go_roundw
                          case rel =>
                            refine ⟨k + 1, r6, c6, by go_num, by omega, by first | (rw [HLEN.out]; rfl) | (rw [HNN.out]; rfl), ?_, K12.trans K6 (fun y hy => by simp at hy ⊢; omega), by have := K12.size; omega⟩
                            rw [HLEN.out] at hN6
                            rw [List.replicate_succ', ← List.append_assoc]
                            exact hN6
                          case measure => simp [intOf]; omega
                        · obtain rfl : k = (3 + v2) := by omega
                          go_wp2_with fail
                          have hz12 := K12.size
                          have hz11 := K1012.size
                          have hzo := K9.size
                          refine ⟨⟨q5, true, ra2, ca2, f, all ++ List.replicate ((3 + v2)) (0), by rw [HLEN.out], hr12.kp K12 (by simpa using hgra), by rw [HLEN.out]; exact hN12, ?_, by omega, ?_, hf2, fun _ => by rw [HLEN.out]; omega, by rw [HLEN.out]; omega, HC.out⟩, by simp; omega⟩
                          · refine (K9.then (K1012.mono (fun y hy => .inl (by simp at hy ⊢; exact .inl hy)))).trans K12 (fun y hy => by simp at hy ⊢; omega)
                          · intro y hy
                            rcases List.mem_append.1 hy with h | h
                            · exact H15.out y h
                            · rw [List.eq_of_mem_replicate h]; omega
                    · have hn0' : ((nn : Int) == 0) = false := by simp; omega
                      have hn1 : nn - 1 < all.length := by rw [HNN.out]; omega
                      have cl := hN11.row.1.cell (i64s_get hn1)
                      have hl15 : all.getD (nn - 1) 0 ≤ 15 := getD_le H15.out _
                      have HC : RowKit.Hid (∀ y p' b', Ans (lenLoop m (na + 257 + (nb + 1)) f (all ++ List.replicate (3 + v2) (all.getD (nn - 1) 0))) s q5 b5 y p' b' → Ans (lenLoop m (na + 257 + (nb + 1)) 400 []) s q false y p' b') := Lib.hid (fun y p' b' h => by
                        refine HST.out y p' b' ?_
                        rw [if_neg h16, if_pos h16e]
                        refine Ans.next A11.out ?_
                        rw [if_neg (by rw [HNN.out]; exact hn0), HNN.out]
                        exact h)
                      clear hn1
                      generalize all.getD (nn - 1) 0 = ag at *
                      have en : IntKind.i64.wrap ((nn : Int) - 1) = ((nn - 1 : Nat) : Int) := by rw [IntKind.wrap_i64]; omega
                      have en2 : ((nn - 1 : Nat) : Int) < (nn : Int) := by omega
                      generalize nn - 1 = n1 at *
                      go_upto_region 28 with fail
                      go_wp2_with fail
                      go_loopw [11, 113] (fun o kx wr2 => ∃ (k ra2 ca2 : Nat), kx = .int .i64 (k : Int) ∧ k ≤ (3 + v2) ∧ o = .slice (some ⟨ra2, 0, none⟩) (nn + k) ca2 ∧ Nums wr2 ra2 (.slice (some ⟨ra2, 0, none⟩) (nn + k) ca2) (all ++ List.replicate k ag) ∧ Kp [ra] w11 wr2 ∧ (ra2 = ra ∨ w11.heap.size ≤ ra2)) (fun _ kx _ => (3 + v2) - (intOf kx).toNat)
                      case atStart => exact ⟨0, ra, ca, rfl, by omega, by first | rfl | (rw [hn0]), by simpa using hN11, Kp.refl _ _, .inl rfl⟩
                      case round =>
                        obtain ⟨k, ra2, ca2, rfl, hk, rfl, hN12, K12, hra2⟩ := hrel
                        have hlen : (all ++ List.replicate k ag).length = nn + k := by rw [List.length_append, List.length_replicate, HNN.out]
                        have HLEN := Lib.hid hlen
                        clear hlen
                        by_cases hlt : k < (3 + v2)
                        · have hlt' : (k : Int) < (((3 + v2) : Nat) : Int) := by omega
                          have hlt2 : (k : Int) < 3 + (v2 : Int) := by omega
                          go_wp2_with (at_builtin; go_must (refine wpList_nat (x := ag) rfl _ _ rfl rfl hN12 rfl (by rw [HLEN.out]; omega) ?_); intro r6 c6 w6 hN6 hr6 hrl6 K6 hc1 hc2)
                          go_roundw
                          case rel =>
                            refine ⟨k + 1, r6, c6, by go_num, by omega, by first | (rw [HLEN.out]; rfl) | (rw [HNN.out]; rfl), ?_, K12.trans K6 (fun y hy => by simp at hy ⊢; omega), by have := K12.size; omega⟩
                            rw [HLEN.out] at hN6
                            rw [List.replicate_succ', ← List.append_assoc]
                            exact hN6
                          case measure => simp [intOf]; omega
                        · obtain rfl : k = (3 + v2) := by omega
                          go_wp2_with fail
                          have hz12 := K12.size
                          have hz11 := K1011.size
                          have hzo := K9.size
                          refine ⟨⟨q5, b5, ra2, ca2, f, all ++ List.replicate ((3 + v2)) (ag), by rw [HLEN.out], hr11.kp K12 (by simpa using hgra), by rw [HLEN.out]; exact hN12, ?_, by omega, ?_, hf2, fun _ => by rw [HLEN.out]; omega, by rw [HLEN.out]; omega, HC.out⟩, by simp; omega⟩
                          · refine (K9.then (K1011.mono (fun y hy => .inl (by simp at hy ⊢; exact .inl hy)))).trans K12 (fun y hy => by simp at hy ⊢; omega)
                          · intro y hy
                            rcases List.mem_append.1 hy with h | h
                            · exact H15.out y h
                            · rw [List.eq_of_mem_replicate h]; omega
                  have h16i : ((sy : Int) == 16) = false := by simp; omega
                  by_cases h17e : sy = 17
                  · have h17i : ((sy : Int) == 17) = true := by simp; omega
                    have A11 := Lib.hid (ans_num (n := 3) (b := b3) hr10.le)
                    have HG := Lib.hid (get_calls g 3 s q3 b3 w10 hr10 (by omega))
                    have hv := numAt_lt s q3 3
                    generalize numAt s q3 3 = v2 at *
                    generalize min (q3 + 3) (8 * s.size) = q5 at *
                    generalize (b3 || decide (8 * s.size < q3 + 3)) = b5 at *
                    go_wp2_with fail
                    refine HG.out.mono ?_
                    rintro e w11 ⟨rfl, hr11, K11⟩
                    have hN11 := hN10.kp K11 (by simpa using Ne.symm hgra)
                    have K1011 := K10.then K11
                    have HC : RowKit.Hid (∀ y p' b', Ans (lenLoop m (na + 257 + (nb + 1)) f (all ++ List.replicate (3 + v2) 0)) s q5 b5 y p' b' → Ans (lenLoop m (na + 257 + (nb + 1)) 400 []) s q false y p' b') := Lib.hid (fun y p' b' h => by
                      refine HST.out y p' b' ?_
                      rw [if_neg h16, if_neg h16e, if_pos h17e]
                      exact Ans.next A11.out h)
                    go_upto_region 28 with fail
                    go_wp2_with fail
                    go_loopw [11, 113] (fun o kx wr2 => ∃ (k ra2 ca2 : Nat), kx = .int .i64 (k : Int) ∧ k ≤ (3 + v2) ∧ o = .slice (some ⟨ra2, 0, none⟩) (nn + k) ca2 ∧ Nums wr2 ra2 (.slice (some ⟨ra2, 0, none⟩) (nn + k) ca2) (all ++ List.replicate k 0) ∧ Kp [ra] w11 wr2 ∧ (ra2 = ra ∨ w11.heap.size ≤ ra2)) (fun _ kx _ => (3 + v2) - (intOf kx).toNat)
                    case atStart => exact ⟨0, ra, ca, rfl, by omega, by first | rfl | (rw [hn0]), by simpa using hN11, Kp.refl _ _, .inl rfl⟩
                    case round =>
                      obtain ⟨k, ra2, ca2, rfl, hk, rfl, hN12, K12, hra2⟩ := hrel
                      have hlen : (all ++ List.replicate k 0).length = nn + k := by rw [List.length_append, List.length_replicate, HNN.out]
                      have HLEN := Lib.hid hlen
                      clear hlen
                      by_cases hlt : k < (3 + v2)
                      · have hlt' : (k : Int) < (((3 + v2) : Nat) : Int) := by omega
                        have hlt2 : (k : Int) < 3 + (v2 : Int) := by omega
                        go_wp2_with (at_builtin; go_must (refine wpList_nat (x := 0) rfl _ _ rfl rfl hN12 rfl (by rw [HLEN.out]; omega) ?_); intro r6 c6 w6 hN6 hr6 hrl6 K6 hc1 hc2)
                        go_roundw
                        case rel =>
                          refine ⟨k + 1, r6, c6, by go_num, by omega, by first | (rw [HLEN.out]; rfl) | (rw [HNN.out]; rfl), ?_, K12.trans K6 (fun y hy => by simp at hy ⊢; omega), by have := K12.size; omega⟩
                          rw [HLEN.out] at hN6
                          rw [List.replicate_succ', ← List.append_assoc]
                          exact hN6
                        case measure => simp [intOf]; omega
                      · obtain rfl : k = (3 + v2) := by omega
                        go_wp2_with fail
                        have hz12 := K12.size
                        have hz11 := K1011.size
                        have hzo := K9.size
                        refine ⟨⟨q5, b5, ra2, ca2, f, all ++ List.replicate ((3 + v2)) (0), by rw [HLEN.out], hr11.kp K12 (by simpa using hgra), by rw [HLEN.out]; exact hN12, ?_, by omega, ?_, hf2, fun _ => by rw [HLEN.out]; omega, by rw [HLEN.out]; omega, HC.out⟩, by simp; omega⟩
                        · refine (K9.then (K1011.mono (fun y hy => .inl (by simp at hy ⊢; exact .inl hy)))).trans K12 (fun y hy => by simp at hy ⊢; omega)
                        · intro y hy
                          rcases List.mem_append.1 hy with h | h
                          · exact H15.out y h
                          · rw [List.eq_of_mem_replicate h]; omega
                  · have h17i : ((sy : Int) == 17) = false := by simp; omega
                    have A11 := Lib.hid (ans_num (n := 7) (b := b3) hr10.le)
                    have HG := Lib.hid (get_calls g 7 s q3 b3 w10 hr10 (by omega))
                    have hv := numAt_lt s q3 7
                    generalize numAt s q3 7 = v2 at *
                    generalize min (q3 + 7) (8 * s.size) = q5 at *
                    generalize (b3 || decide (8 * s.size < q3 + 7)) = b5 at *
                    go_wp2_with fail
                    refine HG.out.mono ?_
                    rintro e w11 ⟨rfl, hr11, K11⟩
                    have hN11 := hN10.kp K11 (by simpa using Ne.symm hgra)
                    have K1011 := K10.then K11
                    have HC : RowKit.Hid (∀ y p' b', Ans (lenLoop m (na + 257 + (nb + 1)) f (all ++ List.replicate (11 + v2) 0)) s q5 b5 y p' b' → Ans (lenLoop m (na + 257 + (nb + 1)) 400 []) s q false y p' b') := Lib.hid (fun y p' b' h => by
                      refine HST.out y p' b' ?_
                      rw [if_neg h16, if_neg h16e, if_neg h17e]
                      exact Ans.next A11.out h)
                    go_upto_region 28 with fail
                    go_wp2_with fail
                    go_loopw [11, 113] (fun o kx wr2 => ∃ (k ra2 ca2 : Nat), kx = .int .i64 (k : Int) ∧ k ≤ (11 + v2) ∧ o = .slice (some ⟨ra2, 0, none⟩) (nn + k) ca2 ∧ Nums wr2 ra2 (.slice (some ⟨ra2, 0, none⟩) (nn + k) ca2) (all ++ List.replicate k 0) ∧ Kp [ra] w11 wr2 ∧ (ra2 = ra ∨ w11.heap.size ≤ ra2)) (fun _ kx _ => (11 + v2) - (intOf kx).toNat)
                    case atStart => exact ⟨0, ra, ca, rfl, by omega, by first | rfl | (rw [hn0]), by simpa using hN11, Kp.refl _ _, .inl rfl⟩
                    case round =>
                      obtain ⟨k, ra2, ca2, rfl, hk, rfl, hN12, K12, hra2⟩ := hrel
                      have hlen : (all ++ List.replicate k 0).length = nn + k := by rw [List.length_append, List.length_replicate, HNN.out]
                      have HLEN := Lib.hid hlen
                      clear hlen
                      by_cases hlt : k < (11 + v2)
                      · have hlt' : (k : Int) < (((11 + v2) : Nat) : Int) := by omega
                        have hlt2 : (k : Int) < 11 + (v2 : Int) := by omega
                        go_wp2_with (at_builtin; go_must (refine wpList_nat (x := 0) rfl _ _ rfl rfl hN12 rfl (by rw [HLEN.out]; omega) ?_); intro r6 c6 w6 hN6 hr6 hrl6 K6 hc1 hc2)
                        go_roundw
                        case rel =>
                          refine ⟨k + 1, r6, c6, by go_num, by omega, by first | (rw [HLEN.out]; rfl) | (rw [HNN.out]; rfl), ?_, K12.trans K6 (fun y hy => by simp at hy ⊢; omega), by have := K12.size; omega⟩
                          rw [HLEN.out] at hN6
                          rw [List.replicate_succ', ← List.append_assoc]
                          exact hN6
                        case measure => simp [intOf]; omega
                      · obtain rfl : k = (11 + v2) := by omega
                        go_wp2_with fail
                        have hz12 := K12.size
                        have hz11 := K1011.size
                        have hzo := K9.size
                        refine ⟨⟨q5, b5, ra2, ca2, f, all ++ List.replicate ((11 + v2)) (0), by rw [HLEN.out], hr11.kp K12 (by simpa using hgra), by rw [HLEN.out]; exact hN12, ?_, by omega, ?_, hf2, fun _ => by rw [HLEN.out]; omega, by rw [HLEN.out]; omega, HC.out⟩, by simp; omega⟩
                        · refine (K9.then (K1011.mono (fun y hy => .inl (by simp at hy ⊢; exact .inl hy)))).trans K12 (fun y hy => by simp at hy ⊢; omega)
                        · intro y hy
                          rcases List.mem_append.1 hy with h | h
                          · exact H15.out y h
                          · rw [List.eq_of_mem_replicate h]; omega
              · have hw1' : ¬ (nn : Int) < (na : Int) + 257 + ((nb : Int) + 1) := by omega
                obtain ⟨f, rfl⟩ : ∃ f', f = f' + 1 := ⟨f - 1, by omega⟩
                have fr9 : ∀ i, wr.frozen? ⟨g, i, none⟩ = false := hr9.out.frozen
                by_cases heq : nn = na + 257 + (nb + 1)
                · have hne1 : ((nn : Int) != ((na : Int) + 257 + ((nb : Int) + 1))) = false := by simp; omega
                  have hne2 : ((nn : Int) == ((na : Int) + 257 + ((nb : Int) + 1))) = true := by simp; omega
                  cases b2 with
                  | true =>
                    go_wp2_with fail
                    go_ret2
                    exact .mk ⟨_, _, q2, true, [], [], rfl, ⟨hr9.out.set 2 (.bool true), hr9.le, hr9.sz⟩, HF3.out _ _ _ (Ans.next (x := all) (HF9.out all q2 true ⟨fun _ => .inl rfl, fun e => by cases e⟩) ⟨fun _ => .inl rfl, fun e => by cases e⟩), K09.set (.inl (by simp)) _, fun e => by cases e⟩
                  | false =>
                    have RA := hN9.row.1
                    have hb1 : (na : Int) + 257 ≤ (nn : Int) := by omega
                    have hb2 : (0 : Int) ≤ (na : Int) + 257 := by omega
                    have hcap : nn ≤ ca := hN9.row.2.2.1
                    have hb3 : (nn : Int) ≤ (ca : Int) := by omega
                    have hb4 : (na : Int) + 257 ≤ (ca : Int) := by omega
                    have ht1 : ((na : Int) + 257).toNat = na + 257 := by omega
                    go_wp2_with fail
                    go_quiet (fail)
                    go_wp2_with fail
                    go_ret2
                    have hll : (all.take (na + 257)).length = na + 257 := by rw [List.length_take, HNN.out]; omega
                    have hld : (all.drop (na + 257)).length = nb + 1 := by rw [List.length_drop, HNN.out]; omega
                    have OD := (On.refl wr).drewN nq
                    refine .mk ⟨_, _, q2, false, all.take (na + 257), all.drop (na + 257), rfl, hr9.on OD, HF3.out _ _ _ (Ans.next (x := all) (HF9.out all q2 false ?_) (Ans.ret _ _ _ _)), K09.drewN _, fun _ => ⟨ra, ca, ca - (na + 257), by rw [hll]; rfl, by rw [hll, hld]; rfl, by omega, by omega, by omega, by omega, ?_, ?_, fun y hy => H15.out y (List.mem_of_mem_take hy), fun y hy => H15.out y (List.mem_of_mem_drop hy), by have := K08.size; omega⟩⟩
                    · rw [lenLoop, if_pos (by rw [HNN.out]; omega), if_pos (by rw [HNN.out]; omega)]
                      exact Ans.ret _ _ _ _
                    · have := (RA.sub 0 (na + 257)).on OD
                      rw [List.drop_zero] at this
                      have e : i64s (all.take (na + 257)) = (i64s all).take (na + 257) := by unfold i64s; rw [List.map_take]
                      rw [e]; exact this
                    · have := (RA.sub (na + 257) (nb + 1)).on OD
                      have e : i64s (all.drop (na + 257)) = ((i64s all).drop (na + 257)).take (nb + 1) := by
                        rw [List.take_of_length_le (by rw [List.length_drop, i64s_length, HNN.out]; omega)]
                        unfold i64s; rw [List.map_drop]
                      rw [hll, e]; exact this
                · have hne1 : ((nn : Int) != ((na : Int) + 257 + ((nb : Int) + 1))) = true := by simp; omega
                  have hne2 : ((nn : Int) == ((na : Int) + 257 + ((nb : Int) + 1))) = false := by simp; omega
                  go_wp2_with fail
                  go_ret2
                  refine .mk ⟨_, _, q2, true, [], [], rfl, ⟨hr9.out.set 2 (.bool true), hr9.le, hr9.sz⟩, HF3.out _ _ _ (Ans.next (x := all) (HF9.out all q2 true ?_) ⟨fun _ => .inl rfl, fun e => by cases e⟩), K09.set (.inl (by simp)) _, fun e => by cases e⟩
                  rw [lenLoop, if_pos (by rw [HNN.out]; omega), if_neg (by rw [HNN.out]; omega)]
                  exact Ans.fail _ _ _ _ _
end Go.Proofs.YtncidljdfipigaaDoor.Wi

/- The specification's reader takes a number again, as often as a symbol tells. Conditions: a reader, numbers, a symbol. -/
namespace Go.Proofs.YtncidljdfipigaaDoor.Wi
open Go.RowKit Go.Proofs.YtncidljdfipigaaDoor.Mem Go.Proofs.YtncidljdfipigaaDoor.Bt Go.Proofs.YtncidljdfipigaaDoor.Cd Go.Proofs.YtncidljdfipigaaDoor.De
set_option linter.unusedVariables false
set_option linter.unusedSimpArgs false
/-- What a symbol of lengths adds. -/
def stepD (x : Nat) (all : List Nat) : Dec (List Nat) :=
  if x < 16 then De.ret (all ++ List.replicate 1 x) else if x = 16 then De.next (num 2) fun y => (if all.length = 0 then De.bad else De.ret (all ++ List.replicate (3 + y) (all.getD (all.length - 1) 0)))
    else if x = 17 then De.next (num 3) fun y => De.ret (all ++ List.replicate (3 + y) 0) else De.next (num 7) fun y => De.ret (all ++ List.replicate (11 + y) 0)
/-- What many leaves. -/
structure ManyOut (x : Nat) (all : List Nat) (s : ByteArray) (p : Nat) (b : Bool) (g r : Nat) (w : World) (e : Ending) (w' : World) : Prop where mk ::
  out : ∃ (p' : Nat) (b' : Bool) (r' cap' : Nat) (l' : List Nat), e = .returned (.slice (some ⟨r', 0, none⟩) l'.length cap') ∧ SR w' g s p' b' ∧ Nums w' r' (.slice (some ⟨r', 0, none⟩) l'.length cap') l' ∧ Kp [g, r] w w' ∧ (r' = r ∨ w.heap.size ≤ r') ∧ Ans (stepD x all) s p b l' p' b' ∧
    (b' = false → ∃ M AG, l' = all ++ List.replicate M AG ∧ 1 ≤ M ∧ M ≤ 138 ∧ AG ≤ 15) ∧ (b' = true → l' = all)
set_option maxRecDepth 100000 in
set_option maxHeartbeats 4000000 in
theorem smany_calls (g r cap n x : Nat) (v : Int) (s : ByteArray) (p : Nat) (b : Bool) (all : List Nat) (w : World) (hw : SR w g s p b) (hN : Nums w r (.slice (some ⟨r, 0, none⟩) n cap) all) (hn : all.length = n) (hn2 : n ≤ 1000) (hgr : g ≠ r)
    (h15 : ∀ y ∈ all, y ≤ 15) (hv1 : -1 ≤ v) (hv2 : v ≤ 1000) (hvx : b = false → v = x ∧ x < 19) :
    Calls Tryd.prog 153 #[.pointer (some ⟨g, 0, none⟩), .slice (some ⟨r, 0, none⟩) n cap, .int .i64 v] w fun e w' => ManyOut x all s p b g r w e w' := by
  have HN := Lib.hid hn
  have HVX := Lib.hid hvx
  have H15 := Lib.hid h15
  have hgw := hw.out.lt
  clear hn hvx h15
  go_enter Tryd.func153, Tryd.ntmps153
  by_cases v16 : v = 16
  · have v16' : (v == 16) = true := by simp [v16]
    have hx16 : RowKit.Hid (b = false → x = 16) := Lib.hid (fun e => by have := HVX.out e; omega)
    clear v16
    by_cases hn0 : n = 0
    · subst hn0
      obtain ⟨q5, hq5⟩ : ∃ q5, q5 = p := ⟨_, rfl⟩
      have d0 : w.cell? ⟨g, 2, none⟩ = some (.bool b) := (hw.out.cell 2).trans rfl
      have fr : ∀ i, w.frozen? ⟨g, i, none⟩ = false := hw.out.frozen
      have hrX : SR (w.setCell ⟨g, 2, none⟩ (.bool true)) g s p true := ⟨hw.out.set 2 (.bool true), hw.le, hw.sz⟩
      have KX : Kp [g] w (w.setCell ⟨g, 2, none⟩ (.bool true)) := (Kp.refl _ _).set (.inl (by simp)) _
      have hNX := hN.kp KX (by simpa using Ne.symm hgr)
      have HANS : RowKit.Hid (∀ z, Ans (stepD x all) s p b z q5 true) := Lib.hid (fun z => by
        refine ⟨fun _ => ?_, fun e => (by cases e)⟩
        cases b with
        | true => exact .inl rfl
        | false =>
          right
          rw [hx16.out rfl]
          unfold stepD
          rw [if_neg (by omega), if_pos rfl]
          cases h : num 2 (rest s p) with
          | none => exact next_none h
          | some z => rw [next_some h, if_pos HN.out]; rfl)
      go_wp2_with fail
      generalize w.setCell ⟨g, 2, none⟩ (.bool true) = wX at *
      rw [← hq5] at hrX
      have dX : wX.cell? ⟨g, 2, none⟩ = some (.bool true) := (hrX.out.cell 2).trans rfl
      go_loopw [1, 9] (fun o kx wr2 => kx = .int .i64 0 ∧ o = .slice (some ⟨r, 0, none⟩) 0 cap ∧ wr2 = wX) (fun _ _ _ => 0)
      case atStart => exact ⟨rfl, rfl, rfl⟩
      case round =>
        obtain ⟨rfl, rfl, hwX⟩ := hrel
        obtain rfl : wX = wr := hwX.symm
        go_wp2_with fail
        all_goals
          go_ret
          exact ⟨q5, true, r, cap, all, by rw [HN.out]; rfl, hrX, by rw [HN.out]; exact hNX, KX.mono (fun y hy => .inl (by simp at hy ⊢; exact .inl hy)), .inl rfl, HANS.out _, fun e => (by cases e), fun _ => rfl⟩
    · have hn0' : ((n : Int) == 0) = false := by simp; omega
      have hn1 : n - 1 < all.length := by rw [HN.out]; omega
      have cl := hN.row.1.cell (i64s_get hn1)
      have hl15 : all.getD (n - 1) 0 ≤ 15 := getD_le H15.out _
      have e9 : IntKind.i64.wrap ((n : Int) - 1) = ((n - 1 : Nat) : Int) := by rw [IntKind.wrap_i64]; omega
      have hn1' : ((n - 1 : Nat) : Int) < n := by omega
      have hncap := hN.row.2.2.1
      clear hn1
      have HG := Lib.hid (snum_calls g 2 s p b w hw (by omega))
      have A1 := Lib.hid (ans_num (n := 2) (b := b) hw.le)
      have hv := numAt_lt s p 2
      generalize numAt s p 2 = y at *
      generalize min (p + 2) (8 * s.size) = q5 at *
      generalize (b || decide (8 * s.size < p + 2)) = b5 at *
      have hev : IntKind.i64.wrap (3 + (y : Int)) = 3 + (y : Int) := by rw [IntKind.wrap_i64]; omega
      go_wp2_with fail
      refine HG.out.mono ?_
      rintro e wX ⟨rfl, hrX, KX⟩
      have hNX := hN.kp KX (by simpa using Ne.symm hgr)
      cases b5 with
      | true =>
        have HANS : RowKit.Hid (∀ z, Ans (stepD x all) s p b z q5 true) := Lib.hid (fun z => ⟨fun _ => by
          rcases Bool.eq_false_or_eq_true b with e | e
          · exact .inl e
          · right
            have hx := hx16.out e
            unfold stepD
            rw [if_neg (by omega : ¬ x < 16), if_pos hx]
            rcases A1.out.bad rfl with c | c
            · rw [e] at c; cases c
            · exact next_none c, fun e => (by cases e)⟩)
        have dX : wX.cell? ⟨g, 2, none⟩ = some (.bool true) := (hrX.out.cell 2).trans rfl
        go_wp2_with fail
        go_loopw [1, 9] (fun o kx wr2 => kx = .int .i64 0 ∧ o = .slice (some ⟨r, 0, none⟩) n cap ∧ wr2 = wX) (fun _ _ _ => 0)
        case atStart => exact ⟨rfl, rfl, rfl⟩
        case round =>
          obtain ⟨rfl, rfl, hwX⟩ := hrel
          obtain rfl : wX = wr := hwX.symm
          go_wp2_with fail
          all_goals
            go_ret
            exact ⟨q5, true, r, cap, all, by rw [HN.out]; rfl, hrX, by rw [HN.out]; exact hNX, KX.mono (fun y hy => .inl (by simp at hy ⊢; exact .inl hy)), .inl rfl, HANS.out _, fun e => (by cases e), fun _ => rfl⟩
      | false =>
        have HANS : RowKit.Hid (Ans (stepD x all) s p b (all ++ List.replicate (3 + y) (all.getD (n - 1) 0)) q5 false) := Lib.hid (by
          have h1 := A1.out.good rfl
          have hx := hx16.out h1.1
          refine ⟨fun e => (by cases e), fun _ => ⟨h1.1, ?_⟩⟩
          unfold stepD
          rw [if_neg (by omega : ¬ x < 16), if_pos hx, next_some h1.2]
          rw [if_neg (by rw [HN.out]; exact hn0), HN.out]; rfl)
        have HAG : RowKit.Hid ((all.getD (n - 1) 0) ≤ 15) := Lib.hid (by exact hl15)
        have hM138 : (3 + y) ≤ 138 := by omega
        go_wp2_with fail
        go_loopw [1, 9] (fun o kx wr2 => ∃ (k ra2 ca2 : Nat), kx = .int .i64 (k : Int) ∧ k ≤ (3 + y) ∧ o = .slice (some ⟨ra2, 0, none⟩) (n + k) ca2 ∧ Nums wr2 ra2 (.slice (some ⟨ra2, 0, none⟩) (n + k) ca2) (all ++ List.replicate k (all.getD (n - 1) 0)) ∧ Kp [r] wX wr2 ∧ (ra2 = r ∨ wX.heap.size ≤ ra2)) (fun _ kx _ => (3 + y) - (intOf kx).toNat)
        case atStart => exact ⟨0, r, cap, rfl, by omega, rfl, by simpa using hNX, Kp.refl _ _, .inl rfl⟩
        case round =>
          obtain ⟨k, ra2, ca2, rfl, hk, rfl, hN12, K12, hra2⟩ := hrel
          have hlen : (all ++ List.replicate k (all.getD (n - 1) 0)).length = n + k := by rw [List.length_append, List.length_replicate, HN.out]
          have HLEN := Lib.hid hlen
          have hr12 := hrX.kp K12 (by simpa using hgr)
          have d12 : wr.cell? ⟨g, 2, none⟩ = some (.bool false) := (hr12.out.cell 2).trans rfl
          clear hlen
          by_cases hlt : k < (3 + y)
          · have hlt' : (k : Int) < (((3 + y) : Nat) : Int) := by omega
            have hlt2 : (k : Int) < 3 + (y : Int) := by omega
            go_wp2_with (at_builtin; go_must (refine wpList_nat (x := (all.getD (n - 1) 0)) rfl _ _ rfl rfl hN12 rfl (by rw [HLEN.out]; omega) ?_); intro r6 c6 w6 hN6 hr6 hrl6 K6 hc1 hc2)
            go_roundw
            case rel =>
              refine ⟨k + 1, r6, c6, by go_num, by omega, by first | (rw [HLEN.out]; rfl) | (rw [HN.out]; rfl), ?_, K12.trans K6 (fun y hy => by simp at hy ⊢; omega), by have := K12.size; omega⟩
              rw [HLEN.out] at hN6
              rw [List.replicate_succ', ← List.append_assoc]
              exact hN6
            case measure => simp [intOf]; omega
          · obtain rfl : k = (3 + y) := by omega
            go_wp2_with fail
            go_ret
            have hz := KX.size
            exact ⟨q5, false, ra2, ca2, all ++ List.replicate ((3 + y)) ((all.getD (n - 1) 0)), by rw [HLEN.out]; rfl, hr12, by rw [HLEN.out]; exact hN12, (KX.mono (fun y hy => .inl (by simp at hy ⊢; exact .inl hy))).then (K12.mono (fun y hy => .inl (by simp at hy ⊢; exact .inr hy))), by omega, HANS.out, fun _ => ⟨((3 + y)), ((all.getD (n - 1) 0)), rfl, by omega, by omega, HAG.out⟩, fun e => (by cases e)⟩
  by_cases v17 : v = 17
  · have v16' : (v == 16) = false := by simpa using v16
    have v17' : (v == 17) = true := by simp [v17]
    have hx17 : RowKit.Hid (b = false → x = 17) := Lib.hid (fun e => by have := HVX.out e; omega)
    clear v16 v17
    have HG := Lib.hid (snum_calls g 3 s p b w hw (by omega))
    have A1 := Lib.hid (ans_num (n := 3) (b := b) hw.le)
    have hv := numAt_lt s p 3
    generalize numAt s p 3 = y at *
    generalize min (p + 3) (8 * s.size) = q5 at *
    generalize (b || decide (8 * s.size < p + 3)) = b5 at *
    have hev : IntKind.i64.wrap (3 + (y : Int)) = 3 + (y : Int) := by rw [IntKind.wrap_i64]; omega
    go_wp2_with fail
    refine HG.out.mono ?_
    rintro e wX ⟨rfl, hrX, KX⟩
    have hNX := hN.kp KX (by simpa using Ne.symm hgr)
    cases b5 with
    | true =>
      have HANS : RowKit.Hid (∀ z, Ans (stepD x all) s p b z q5 true) := Lib.hid (fun z => ⟨fun _ => by
        rcases Bool.eq_false_or_eq_true b with e | e
        · exact .inl e
        · right
          have hx := hx17.out e
          unfold stepD
          rw [if_neg (by omega : ¬ x < 16), if_neg (by omega : ¬ x = 16), if_pos hx]
          rcases A1.out.bad rfl with c | c
          · rw [e] at c; cases c
          · exact next_none c, fun e => (by cases e)⟩)
      have dX : wX.cell? ⟨g, 2, none⟩ = some (.bool true) := (hrX.out.cell 2).trans rfl
      go_wp2_with fail
      go_loopw [1, 9] (fun o kx wr2 => kx = .int .i64 0 ∧ o = .slice (some ⟨r, 0, none⟩) n cap ∧ wr2 = wX) (fun _ _ _ => 0)
      case atStart => exact ⟨rfl, rfl, rfl⟩
      case round =>
        obtain ⟨rfl, rfl, hwX⟩ := hrel
        obtain rfl : wX = wr := hwX.symm
        go_wp2_with fail
        all_goals
          go_ret
          exact ⟨q5, true, r, cap, all, by rw [HN.out]; rfl, hrX, by rw [HN.out]; exact hNX, KX.mono (fun y hy => .inl (by simp at hy ⊢; exact .inl hy)), .inl rfl, HANS.out _, fun e => (by cases e), fun _ => rfl⟩
    | false =>
      have HANS : RowKit.Hid (Ans (stepD x all) s p b (all ++ List.replicate (3 + y) 0) q5 false) := Lib.hid (by
        have h1 := A1.out.good rfl
        have hx := hx17.out h1.1
        refine ⟨fun e => (by cases e), fun _ => ⟨h1.1, ?_⟩⟩
        unfold stepD
        rw [if_neg (by omega : ¬ x < 16), if_neg (by omega : ¬ x = 16), if_pos hx, next_some h1.2]
        rfl)
      have HAG : RowKit.Hid (0 ≤ 15) := Lib.hid (by omega)
      have hM138 : (3 + y) ≤ 138 := by omega
      go_wp2_with fail
      go_loopw [1, 9] (fun o kx wr2 => ∃ (k ra2 ca2 : Nat), kx = .int .i64 (k : Int) ∧ k ≤ (3 + y) ∧ o = .slice (some ⟨ra2, 0, none⟩) (n + k) ca2 ∧ Nums wr2 ra2 (.slice (some ⟨ra2, 0, none⟩) (n + k) ca2) (all ++ List.replicate k 0) ∧ Kp [r] wX wr2 ∧ (ra2 = r ∨ wX.heap.size ≤ ra2)) (fun _ kx _ => (3 + y) - (intOf kx).toNat)
      case atStart => exact ⟨0, r, cap, rfl, by omega, rfl, by simpa using hNX, Kp.refl _ _, .inl rfl⟩
      case round =>
        obtain ⟨k, ra2, ca2, rfl, hk, rfl, hN12, K12, hra2⟩ := hrel
        have hlen : (all ++ List.replicate k 0).length = n + k := by rw [List.length_append, List.length_replicate, HN.out]
        have HLEN := Lib.hid hlen
        have hr12 := hrX.kp K12 (by simpa using hgr)
        have d12 : wr.cell? ⟨g, 2, none⟩ = some (.bool false) := (hr12.out.cell 2).trans rfl
        clear hlen
        by_cases hlt : k < (3 + y)
        · have hlt' : (k : Int) < (((3 + y) : Nat) : Int) := by omega
          have hlt2 : (k : Int) < 3 + (y : Int) := by omega
          go_wp2_with (at_builtin; go_must (refine wpList_nat (x := 0) rfl _ _ rfl rfl hN12 rfl (by rw [HLEN.out]; omega) ?_); intro r6 c6 w6 hN6 hr6 hrl6 K6 hc1 hc2)
          go_roundw
          case rel =>
            refine ⟨k + 1, r6, c6, by go_num, by omega, by first | (rw [HLEN.out]; rfl) | (rw [HN.out]; rfl), ?_, K12.trans K6 (fun y hy => by simp at hy ⊢; omega), by have := K12.size; omega⟩
            rw [HLEN.out] at hN6
            rw [List.replicate_succ', ← List.append_assoc]
            exact hN6
          case measure => simp [intOf]; omega
        · obtain rfl : k = (3 + y) := by omega
          go_wp2_with fail
          go_ret
          have hz := KX.size
          exact ⟨q5, false, ra2, ca2, all ++ List.replicate ((3 + y)) (0), by rw [HLEN.out]; rfl, hr12, by rw [HLEN.out]; exact hN12, (KX.mono (fun y hy => .inl (by simp at hy ⊢; exact .inl hy))).then (K12.mono (fun y hy => .inl (by simp at hy ⊢; exact .inr hy))), by omega, HANS.out, fun _ => ⟨((3 + y)), (0), rfl, by omega, by omega, HAG.out⟩, fun e => (by cases e)⟩
  by_cases v18 : v = 18
  · have v16' : (v == 16) = false := by simpa using v16
    have v17' : (v == 17) = false := by simpa using v17
    have v18' : (v == 18) = true := by simp [v18]
    have hx18 : RowKit.Hid (b = false → x = 18) := Lib.hid (fun e => by have := HVX.out e; omega)
    clear v16 v17 v18
    have HG := Lib.hid (snum_calls g 7 s p b w hw (by omega))
    have A1 := Lib.hid (ans_num (n := 7) (b := b) hw.le)
    have hv := numAt_lt s p 7
    generalize numAt s p 7 = y at *
    generalize min (p + 7) (8 * s.size) = q5 at *
    generalize (b || decide (8 * s.size < p + 7)) = b5 at *
    have hev : IntKind.i64.wrap (11 + (y : Int)) = 11 + (y : Int) := by rw [IntKind.wrap_i64]; omega
    go_wp2_with fail
    refine HG.out.mono ?_
    rintro e wX ⟨rfl, hrX, KX⟩
    have hNX := hN.kp KX (by simpa using Ne.symm hgr)
    cases b5 with
    | true =>
      have HANS : RowKit.Hid (∀ z, Ans (stepD x all) s p b z q5 true) := Lib.hid (fun z => ⟨fun _ => by
        rcases Bool.eq_false_or_eq_true b with e | e
        · exact .inl e
        · right
          have hx := hx18.out e
          unfold stepD
          rw [if_neg (by omega : ¬ x < 16), if_neg (by omega : ¬ x = 16), if_neg (by omega : ¬ x = 17)]
          rcases A1.out.bad rfl with c | c
          · rw [e] at c; cases c
          · exact next_none c, fun e => (by cases e)⟩)
      have dX : wX.cell? ⟨g, 2, none⟩ = some (.bool true) := (hrX.out.cell 2).trans rfl
      go_wp2_with fail
      go_loopw [1, 9] (fun o kx wr2 => kx = .int .i64 0 ∧ o = .slice (some ⟨r, 0, none⟩) n cap ∧ wr2 = wX) (fun _ _ _ => 0)
      case atStart => exact ⟨rfl, rfl, rfl⟩
      case round =>
        obtain ⟨rfl, rfl, hwX⟩ := hrel
        obtain rfl : wX = wr := hwX.symm
        go_wp2_with fail
        all_goals
          go_ret
          exact ⟨q5, true, r, cap, all, by rw [HN.out]; rfl, hrX, by rw [HN.out]; exact hNX, KX.mono (fun y hy => .inl (by simp at hy ⊢; exact .inl hy)), .inl rfl, HANS.out _, fun e => (by cases e), fun _ => rfl⟩
    | false =>
      have HANS : RowKit.Hid (Ans (stepD x all) s p b (all ++ List.replicate (11 + y) 0) q5 false) := Lib.hid (by
        have h1 := A1.out.good rfl
        have hx := hx18.out h1.1
        refine ⟨fun e => (by cases e), fun _ => ⟨h1.1, ?_⟩⟩
        unfold stepD
        rw [if_neg (by omega : ¬ x < 16), if_neg (by omega : ¬ x = 16), if_neg (by omega : ¬ x = 17), next_some h1.2]
        rfl)
      have HAG : RowKit.Hid (0 ≤ 15) := Lib.hid (by omega)
      have hM138 : (11 + y) ≤ 138 := by omega
      go_wp2_with fail
      go_loopw [1, 9] (fun o kx wr2 => ∃ (k ra2 ca2 : Nat), kx = .int .i64 (k : Int) ∧ k ≤ (11 + y) ∧ o = .slice (some ⟨ra2, 0, none⟩) (n + k) ca2 ∧ Nums wr2 ra2 (.slice (some ⟨ra2, 0, none⟩) (n + k) ca2) (all ++ List.replicate k 0) ∧ Kp [r] wX wr2 ∧ (ra2 = r ∨ wX.heap.size ≤ ra2)) (fun _ kx _ => (11 + y) - (intOf kx).toNat)
      case atStart => exact ⟨0, r, cap, rfl, by omega, rfl, by simpa using hNX, Kp.refl _ _, .inl rfl⟩
      case round =>
        obtain ⟨k, ra2, ca2, rfl, hk, rfl, hN12, K12, hra2⟩ := hrel
        have hlen : (all ++ List.replicate k 0).length = n + k := by rw [List.length_append, List.length_replicate, HN.out]
        have HLEN := Lib.hid hlen
        have hr12 := hrX.kp K12 (by simpa using hgr)
        have d12 : wr.cell? ⟨g, 2, none⟩ = some (.bool false) := (hr12.out.cell 2).trans rfl
        clear hlen
        by_cases hlt : k < (11 + y)
        · have hlt' : (k : Int) < (((11 + y) : Nat) : Int) := by omega
          have hlt2 : (k : Int) < 11 + (y : Int) := by omega
          go_wp2_with (at_builtin; go_must (refine wpList_nat (x := 0) rfl _ _ rfl rfl hN12 rfl (by rw [HLEN.out]; omega) ?_); intro r6 c6 w6 hN6 hr6 hrl6 K6 hc1 hc2)
          go_roundw
          case rel =>
            refine ⟨k + 1, r6, c6, by go_num, by omega, by first | (rw [HLEN.out]; rfl) | (rw [HN.out]; rfl), ?_, K12.trans K6 (fun y hy => by simp at hy ⊢; omega), by have := K12.size; omega⟩
            rw [HLEN.out] at hN6
            rw [List.replicate_succ', ← List.append_assoc]
            exact hN6
          case measure => simp [intOf]; omega
        · obtain rfl : k = (11 + y) := by omega
          go_wp2_with fail
          go_ret
          have hz := KX.size
          exact ⟨q5, false, ra2, ca2, all ++ List.replicate ((11 + y)) (0), by rw [HLEN.out]; rfl, hr12, by rw [HLEN.out]; exact hN12, (KX.mono (fun y hy => .inl (by simp at hy ⊢; exact .inl hy))).then (K12.mono (fun y hy => .inl (by simp at hy ⊢; exact .inr hy))), by omega, HANS.out, fun _ => ⟨((11 + y)), (0), rfl, by omega, by omega, HAG.out⟩, fun e => (by cases e)⟩
  · have v16' : (v == 16) = false := by simpa using v16
    have v17' : (v == 17) = false := by simpa using v17
    have v18' : (v == 18) = false := by simpa using v18
    have hrX := hw
    have hNX := hN
    have KX := Kp.refl [g] w
    obtain ⟨q5, hq5⟩ : ∃ q5, q5 = p := ⟨_, rfl⟩
    obtain ⟨wX, hwX⟩ : ∃ wX, wX = w := ⟨_, rfl⟩
    cases b with
    | true =>
      have HANS : RowKit.Hid (∀ z, Ans (stepD x all) s p true z q5 true) := Lib.hid (fun z => ⟨fun _ => .inl rfl, fun e => (by cases e)⟩)
      rw [← hq5] at hrX
      clear v16 v17 v18
      go_wp2_with fail
      rw [← hwX]
      rw [← hwX] at hrX hNX
      have KX : Kp [g] w wX := by rw [hwX]; exact KX
      clear hwX
      have dX : wX.cell? ⟨g, 2, none⟩ = some (.bool true) := (hrX.out.cell 2).trans rfl
      go_loopw [1, 9] (fun o kx wr2 => kx = .int .i64 0 ∧ o = .slice (some ⟨r, 0, none⟩) n cap ∧ wr2 = wX) (fun _ _ _ => 0)
      case atStart => exact ⟨rfl, rfl, rfl⟩
      case round =>
        obtain ⟨rfl, rfl, hwX⟩ := hrel
        obtain rfl : wX = wr := hwX.symm
        go_wp2_with fail
        all_goals
          go_ret
          exact ⟨q5, true, r, cap, all, by rw [HN.out]; rfl, hrX, by rw [HN.out]; exact hNX, KX.mono (fun y hy => .inl (by simp at hy ⊢; exact .inl hy)), .inl rfl, HANS.out _, fun e => (by cases e), fun _ => rfl⟩
    | false =>
      obtain ⟨rfl, hx19⟩ := HVX.out rfl
      have hx16 : x < 16 := by omega
      have HANS : RowKit.Hid (Ans (stepD x all) s p false (all ++ List.replicate 1 x) q5 false) := Lib.hid (by
        unfold stepD
        rw [if_pos hx16, hq5]
        exact Ans.ret _ _ _ _)
      have HAG : RowKit.Hid (x ≤ 15) := Lib.hid (by omega)
      rw [← hq5] at hrX
      clear v16 v17 v18
      go_wp2_with fail
      rw [← hwX]
      rw [← hwX] at hrX hNX
      have KX : Kp [g] w wX := by rw [hwX]; exact KX
      clear hwX
      have hM138 : 1 ≤ 138 := by omega
      go_loopw [1, 9] (fun o kx wr2 => ∃ (k ra2 ca2 : Nat), kx = .int .i64 (k : Int) ∧ k ≤ 1 ∧ o = .slice (some ⟨ra2, 0, none⟩) (n + k) ca2 ∧ Nums wr2 ra2 (.slice (some ⟨ra2, 0, none⟩) (n + k) ca2) (all ++ List.replicate k x) ∧ Kp [r] wX wr2 ∧ (ra2 = r ∨ wX.heap.size ≤ ra2)) (fun _ kx _ => 1 - (intOf kx).toNat)
      case atStart => exact ⟨0, r, cap, rfl, by omega, rfl, by simpa using hNX, Kp.refl _ _, .inl rfl⟩
      case round =>
        obtain ⟨k, ra2, ca2, rfl, hk, rfl, hN12, K12, hra2⟩ := hrel
        have hlen : (all ++ List.replicate k x).length = n + k := by rw [List.length_append, List.length_replicate, HN.out]
        have HLEN := Lib.hid hlen
        have hr12 := hrX.kp K12 (by simpa using hgr)
        have d12 : wr.cell? ⟨g, 2, none⟩ = some (.bool false) := (hr12.out.cell 2).trans rfl
        clear hlen
        by_cases hlt : k < 1
        · have hlt' : (k : Int) < ((1 : Nat) : Int) := by omega
          have hlt2 : (k : Int) < 1 := by omega
          go_wp2_with (at_builtin; go_must (refine wpList_nat (x := x) rfl _ _ rfl rfl hN12 rfl (by rw [HLEN.out]; omega) ?_); intro r6 c6 w6 hN6 hr6 hrl6 K6 hc1 hc2)
          go_roundw
          case rel =>
            refine ⟨k + 1, r6, c6, by go_num, by omega, by first | (rw [HLEN.out]; rfl) | (rw [HN.out]; rfl), ?_, K12.trans K6 (fun y hy => by simp at hy ⊢; omega), by have := K12.size; omega⟩
            rw [HLEN.out] at hN6
            rw [List.replicate_succ', ← List.append_assoc]
            exact hN6
          case measure => simp [intOf]; omega
        · obtain rfl : k = 1 := by omega
          go_wp2_with fail
          go_ret
          have hz := KX.size
          exact ⟨q5, false, ra2, ca2, all ++ List.replicate (1) (x), by rw [HLEN.out]; rfl, hr12, by rw [HLEN.out]; exact hN12, (KX.mono (fun y hy => .inl (by simp at hy ⊢; exact .inl hy))).then (K12.mono (fun y hy => .inl (by simp at hy ⊢; exact .inr hy))), by omega, HANS.out, fun _ => ⟨(1), (x), rfl, by omega, by omega, HAG.out⟩, fun e => (by cases e)⟩
end Go.Proofs.YtncidljdfipigaaDoor.Wi

/- Rows of bytes that are not nil. -/
namespace Go.Proofs.YtncidljdfipigaaDoor.Wi
open Go.RowKit Go.Proofs.YtncidljdfipigaaDoor.Mem
set_option linter.unusedVariables false
set_option linter.unusedSimpArgs false
/-- A slice that is not nil, of bytes at block r. -/
structure By (w : World) (r cap : Nat) (l : List Nat) : Prop where mk ::
  out : Bytes w r (.slice (some ⟨r, 0, none⟩) l.length cap) l
theorem By.lt {w : World} {r cap : Nat} {l : List Nat} (h : By w r cap l) : r < w.heap.size := by
  rcases h.out.own.2 with ⟨h1, _⟩ | ⟨g, c, cur, hv, _, hh, _⟩
  · cases h1
  · have : g = r := h.out.at_ g (by rw [hv]; rfl)
    subst this
    rcases Nat.lt_or_ge g w.heap.size with h | h
    · exact h
    · rw [Array.getElem?_eq_none h] at hh; cases hh
theorem By.cell {w : World} {r cap : Nat} {l : List Nat} (h : By w r cap l) {i : Nat} (hi : i < l.length) : w.cell? ⟨r, i, none⟩ = some (.int .u8 (l.getD i 0 : Nat)) := by
  obtain ⟨_, _, _, _, R⟩ := h.out.parts (by intro e; rw [e] at hi; simp at hi)
  exact R.cell (u8s_get hi)
theorem By.kp {S : List Nat} {w w' : World} {r cap : Nat} {l : List Nat} (h : By w r cap l) (k : Kp S w w') (hr : r ∉ S) : By w' r cap l := ⟨h.out.kp k hr⟩
theorem By.on {w w' : World} {r cap : Nat} {l : List Nat} (h : By w r cap l) (O : On w w') : By w' r cap l := h.kp (Kp.of [] O) (by simp)
end Go.Proofs.YtncidljdfipigaaDoor.Wi

/- The program adds to bytes what a token tells that leads back. Conditions: a row of bytes, sizes. -/
namespace Go.Proofs.YtncidljdfipigaaDoor.Wi
open Go.RowKit Go.Proofs.YtncidljdfipigaaDoor.Mem Go.Proofs.YtncidljdfipigaaDoor.Bt Go.Proofs.YtncidljdfipigaaDoor.Lz
set_option linter.unusedVariables false
set_option linter.unusedSimpArgs false
def backOk (n L B : Nat) : Prop := 3 ≤ L ∧ L ≤ 60 ∧ 1 ≤ B ∧ B ≤ 250 ∧ B ≤ n
instance (n L B : Nat) : Decidable (backOk n L B) := by unfold backOk; infer_instance
theorem add_back {l : List Nat} {L B : Nat} (h1 : 1 ≤ L) : add l ⟨0, (L : Int), (B : Int)⟩ = if backOk l.length L B then some (copy l B L) else none := by
  unfold add
  rw [if_neg (by simp; omega)]
  by_cases h : backOk l.length L B
  · rw [if_pos h]
    unfold backOk at h
    rw [if_pos (by simp; omega)]; rfl
  · rw [if_neg h]
    unfold backOk at h
    rw [if_neg (by simp; omega)]
/-- What a call on a row of bytes leaves: all but its block; the row may lie in new memory. -/
structure Mb (r : Nat) (w : World) (r' : Nat) (w' : World) : Prop where
  kp : Kp [r] w w'
  at_ : r' = r ∨ w.heap.size ≤ r'
theorem Mb.refl (r : Nat) (w : World) : Mb r w r w := ⟨Kp.refl _ _, .inl rfl⟩
theorem Mb.trans {r r1 r2 : Nat} {w w1 w2 : World} (h : Mb r w r1 w1) (k : Mb r1 w1 r2 w2) : Mb r w r2 w2 := by
  refine ⟨h.kp.trans k.kp (fun x hx => ?_), ?_⟩
  · simp only [List.mem_singleton] at hx ⊢
    rcases h.at_ with e | e <;> omega
  · have := h.kp.size
    rcases k.at_ with e | e
    · rw [e]; exact h.at_
    · right; omega
set_option maxRecDepth 100000 in
theorem iadd_calls (r cap n L B : Nat) (l : List Nat) (w : World) (hb : By w r cap l) (hn : l.length = n) (hn2 : n ≤ 1000) (hL : 1 ≤ L) (hL2 : L ≤ 100000) (hB2 : B ≤ 100000) :
    Calls Tryd.prog 89 #[.slice (some ⟨r, 0, none⟩) n cap, .agg #[.int .i64 0, .int .i64 (L : Int), .int .i64 (B : Int)]] w fun e w' =>
      (backOk n L B ∧ ∃ r' cap', e = .returned (.tuple #[.slice (some ⟨r', 0, none⟩) (n + L) cap', .bool true]) ∧ By w' r' cap' (copy l B L) ∧ Mb r w r' w') ∨
      (¬ backOk n L B ∧ e = .returned (.tuple #[.slice none 0 0, .bool false]) ∧ On w w') := by
  have HN := Lib.hid hn
  clear hn
  have hm : (if (n : Int) < 250 then (n : Int) else 250) = ((min 250 n : Nat) : Int) := by split <;> omega
  have hm2 : (if (250 : Int) ≤ (n : Int) then (250 : Int) else (n : Int)) = ((min 250 n : Nat) : Int) := by split <;> omega
  have hL0 : ((L : Int) == 0) = false := by simp; omega
  have BA := Blk.new w 67 #[.int .i64 0, .int .i64 (L : Int), .int .i64 (B : Int)]
  have OA := (On.refl w).alloc (.cells #[.int .i64 0, .int .i64 (L : Int), .int .i64 (B : Int)] 67)
  have hrl := hb.lt
  by_cases h1 : 3 ≤ L ∧ L ≤ 60
  · by_cases h2 : 1 ≤ B ∧ B ≤ min 250 n
    · have hok : backOk n L B := by unfold backOk; omega
      go_enter Tryd.func89, Tryd.ntmps89
      go_wp2_with fail
      refine (within_yes _ (by omega) (by omega)).mono ?_
      rintro e w2 ⟨rfl, hw⟩
      obtain rfl : _ = w2 := hw.symm
      go_wp2_with fail
      refine (within_yes _ (by omega) (by omega)).mono ?_
      rintro e w2 ⟨rfl, hw⟩
      obtain rfl : _ = w2 := hw.symm
      have hz : w.heap.size ≠ r := by omega
      have hb1 := hb.on OA
      have hml : ∀ k, (copy l B k).length = n + k := fun k => by rw [copy_length, HN.out]
      have HML := Lib.hid hml
      have c1 : (w.alloc (.cells #[.int .i64 0, .int .i64 (L : Int), .int .i64 (B : Int)] 67)).cell? ⟨w.heap.size, 1, none⟩ = some (.int .i64 (L : Int)) := (BA.cell 1).trans rfl
      have hbs := BA.lt
      have HOK := Lib.hid hok
      clear hml hm hm2 hok
      generalize w.heap.size = tb at *
      generalize w.alloc (.cells #[.int .i64 0, .int .i64 (L : Int), .int .i64 (B : Int)] 67) = w1 at *
      go_wp2_with fail
      go_loopw [0, 44] (fun o x wr => ∃ (k r' cap' : Nat), x = .int .i64 (k : Int) ∧ k ≤ L ∧ o = .slice (some ⟨r', 0, none⟩) (n + k) cap' ∧ By wr r' cap' (copy l B k) ∧ Mb r w1 r' wr) (fun _ x _ => L - (intOf x).toNat)
      case atStart => exact ⟨0, r, cap, rfl, by omega, rfl, hb1, Mb.refl _ _⟩
      case round =>
        obtain ⟨k, r', cap', rfl, hk, rfl, hB, M⟩ := hrel
        by_cases hlt : k < L
        · have hlen := HML.out k
          have hr' : tb ≠ r' := by rcases M.at_ with e | e <;> omega
          have BT := M.kp.blk BA (by simp; exact hz)
          have d2 : wr.cell? ⟨tb, 2, none⟩ = some (.int .i64 (B : Int)) := (BT.cell 2).trans rfl
          have hbk := HOK.out
          unfold backOk at hbk
          have hi : n + k - B < (copy l B k).length := by rw [hlen]; omega
          have hcell := hB.cell hi
          have hst : copy l B (k + 1) = copy l B k ++ [(copy l B k).getD (n + k - B) 0] := by rw [copy, hlen]
          have hby : Bytes wr r' (.slice (some ⟨r', 0, none⟩) (n + k) cap') (copy l B k) := by have := hB.out; rw [hlen] at this; exact this
          have HST := Lib.hid hst
          have HLEN := Lib.hid hlen
          have hk2 : (k : Int) < L := by omega
          clear hst hlen hi hbk
          generalize copy l B k = lk at *
          generalize lk.getD (n + k - B) 0 = x at *
          obtain ⟨m, hm⟩ : ∃ m, n + k = m := ⟨_, rfl⟩
          have e1 : IntKind.i64.wrap ((m : Int) - (B : Int)) = ((m - B : Nat) : Int) := by have := HOK.out; unfold backOk at this; rw [IntKind.wrap_i64]; omega
          have e2 : ((m - B : Nat) : Int) < m := by have := HOK.out; unfold backOk at this; omega
          rw [hm] at hcell hby ⊢
          have HM := Lib.hid hm
          have hmle : m ≤ 101000 := by omega
          clear hm
          generalize m - B = mb at *
          go_wp2_with (at_builtin; go_must (refine wpList_byte (x := x) rfl _ _ rfl rfl hby rfl (by rw [HLEN.out, HM.out]; omega) ?_); intro r2 cap2 w2 hby2 hr2 hrl2 K2 hc1 hc2)
          go_roundw
          case rel =>
            refine ⟨k + 1, r2, cap2, by go_num, by omega, ?_, ?_, ?_⟩
            · rw [HLEN.out]; rfl
            · rw [HST.out]
              refine ⟨?_⟩
              rw [List.length_append]
              exact hby2
            · exact M.trans ⟨K2, hr2⟩
          case measure => simp [intOf]; omega
        · obtain rfl : k = L := by omega
          go_wp2_with fail
          go_ret2
          refine .inl ⟨HOK.out, r', cap', rfl, hB, ?_⟩
          refine ⟨(Kp.of [r] OA).then M.kp, ?_⟩
          have := OA.size
          rcases M.at_ with e | e <;> omega
    · go_enter Tryd.func89, Tryd.ntmps89
      go_wp2_with fail
      refine (within_yes _ (by omega) (by omega)).mono ?_
      rintro e w2 ⟨rfl, hw⟩
      obtain rfl : _ = w2 := hw.symm
      go_wp2_with fail
      refine (within_no _ (by omega)).mono ?_
      rintro e w2 ⟨rfl, hw⟩
      obtain rfl : _ = w2 := hw.symm
      go_wp2_with fail
      go_ret2
      exact .inr ⟨by unfold backOk; omega, rfl, OA⟩
  · go_enter Tryd.func89, Tryd.ntmps89
    go_wp2_with fail
    refine (within_no _ (by omega)).mono ?_
    rintro e w2 ⟨rfl, hw⟩
    obtain rfl : _ = w2 := hw.symm
    go_wp2_with fail
    go_ret2
    exact .inr ⟨by unfold backOk; omega, rfl, OA⟩
end Go.Proofs.YtncidljdfipigaaDoor.Wi

/- What the specification's LensOk answers: whether lengths make a code. Conditions: lengths and how many, not too great. -/
namespace Go.Proofs.YtncidljdfipigaaDoor.Wi
open Go.RowKit Go.Proofs.YtncidljdfipigaaDoor.Mem Go.Proofs.YtncidljdfipigaaDoor.Bt Go.Proofs.YtncidljdfipigaaDoor.Cd
set_option linter.unusedVariables false
set_option linter.unusedSimpArgs false
theorem sin_same (n l h : Int) (w : World) :
    Calls Tryd.prog 144 #[.int .i64 n, .int .i64 l, .int .i64 h] w (fun e w' => e = .returned (.bool (decide (l ≤ n ∧ n ≤ h))) ∧ w' = w) := by
  by_cases h1 : l ≤ n
  · by_cases h2 : n ≤ h
    · go_enter Tryd.func144, Tryd.ntmps144
      go_wp2_with fail
      go_ret
      exact ⟨by simp [h1, h2], rfl⟩
    · go_enter Tryd.func144, Tryd.ntmps144
      go_wp2_with fail
      go_ret
      exact ⟨by simp [h1, h2], rfl⟩
  · go_enter Tryd.func144, Tryd.ntmps144
    go_wp2_with fail
    go_ret
    exact ⟨by simp; omega, rfl⟩
theorem sin_yes {n l h : Int} (w : World) (h1 : l ≤ n) (h2 : n ≤ h) : Calls Tryd.prog 144 #[.int .i64 n, .int .i64 l, .int .i64 h] w (fun e w' => e = .returned (.bool true) ∧ w' = w) := by
  have := sin_same n l h w
  rw [decide_eq_true ⟨h1, h2⟩] at this
  exact this
theorem sin_no {n l h : Int} (w : World) (h1 : ¬ (l ≤ n ∧ n ≤ h)) : Calls Tryd.prog 144 #[.int .i64 n, .int .i64 l, .int .i64 h] w (fun e w' => e = .returned (.bool false) ∧ w' = w) := by
  have := sin_same n l h w
  rw [decide_eq_false h1] at this
  exact this
set_option maxRecDepth 100000 in
theorem sused_calls (lens : List Nat) (g o n cap : Nat) (w : World) (hl : RowO w g o 3 (i64s lens)) (hn : lens.length = n) (hn2 : n ≤ 1000) (hnc : n ≤ cap) :
    Calls Tryd.prog 125 #[.slice (some ⟨g, o, none⟩) n cap] w fun e w' => e = .returned (.int .i64 (used lens : Nat)) ∧ On w w' := by
  have HN := Lib.hid hn
  clear hn
  go_enter Tryd.func125, Tryd.ntmps125
  go_wp2_with fail
  go_loopw [3, 4] (fun a x wr => ∃ (k : Nat), x = .int .i64 (k : Int) ∧ k ≤ n ∧ a = .int .i64 (used (lens.take k) : Nat) ∧ used (lens.take k) ≤ k ∧ On w wr) (fun _ x _ => n - (intOf x).toNat)
  case atStart => exact ⟨0, rfl, by omega, rfl, Nat.le_refl _, On.refl _⟩
  case round =>
    obtain ⟨k, rfl, hk, rfl, hu, O⟩ := hrel
    by_cases hlt : k < n
    · have hkl : k < lens.length := by rw [HN.out]; exact hlt
      have c0 := (hl.on O).cell (i64s_get hkl)
      have htk : lens.take (k + 1) = lens.take k ++ [lens.getD k 0] := by rw [List.take_succ_eq_append_getElem hkl, List.getD_eq_getElem?_getD, List.getElem?_eq_getElem hkl]; rfl
      have hus : used (lens.take (k + 1)) = used (lens.take k) + if 0 < lens.getD k 0 then 1 else 0 := by rw [htk, used_snoc]
      have HU := Lib.hid hus
      clear htk hus
      generalize lens.getD k 0 = x at *
      generalize used (lens.take k) = u at *
      have hk2 : (k : Int) < n := by omega
      by_cases h0 : 0 < x
      · have h0' : (0 : Int) < x := by omega
        go_wp2_with fail
        go_roundw
        case rel => exact ⟨k + 1, by go_num, by omega, by rw [HU.out, if_pos h0]; go_num, by rw [HU.out, if_pos h0]; omega, O⟩
        case measure => simp [intOf]; omega
      · have h0' : ¬ (0 : Int) < x := by omega
        go_wp2_with fail
        go_roundw
        case rel => exact ⟨k + 1, by go_num, by omega, by rw [HU.out, if_neg h0]; go_num, by rw [HU.out, if_neg h0]; omega, O⟩
        case measure => simp [intOf]; omega
    · obtain rfl : k = n := by omega
      have htk : lens.take k = lens := List.take_of_length_le (by rw [HN.out]; exact Nat.le_refl _)
      rw [htk] at *
      go_wp2_with fail
      go_ret
      exact ⟨rfl, O⟩
theorem okLens_is {l : List Nat} (h15 : ∀ x ∈ l, x ≤ 15) : okLens l = (decide (l.length ≤ 300) && (decide (kraft l = 32768) || (decide (used l = 1) && decide (kraft l = 16384)))) := by
  unfold okLens
  rw [show l.all (fun x => decide (x ≤ 15)) = true from by simpa using h15]
  simp only [Bool.and_true]
set_option maxRecDepth 100000 in
set_option maxHeartbeats 4000000 in
theorem slensok_calls (lens : List Nat) (g o n cap : Nat) (w : World) (hl : RowO w g o 3 (i64s lens)) (hn : lens.length = n) (hn2 : n ≤ 1000) (hnc : n ≤ cap) (hx : ∀ x ∈ lens, x ≤ 100000) :
    Calls Tryd.prog 152 #[.slice (some ⟨g, o, none⟩) n cap] w fun e w' => e = .returned (.bool (okLens lens)) ∧ On w w' := by
  have HN := Lib.hid hn
  clear hn
  go_enter Tryd.func152, Tryd.ntmps152
  go_wp2_with fail
  go_loopw [3, 4] (fun a x wr => ∃ (k sa : Nat), x = .int .i64 (k : Int) ∧ k ≤ n ∧ a = .int .i64 (sa : Int) ∧ sa = kraft (lens.take k) ∧ (∀ y ∈ lens.take k, y ≤ 15) ∧ On w wr) (fun _ x _ => n - (intOf x).toNat)
  case atStart => exact ⟨0, 0, rfl, by omega, rfl, rfl, by simp, On.refl _⟩
  case round =>
    obtain ⟨k, sa, rfl, hk, rfl, S, h15, O⟩ := hrel
    by_cases hlt : k < n
    · have hkl : k < lens.length := by rw [HN.out]; exact hlt
      have c0 := (hl.on O).cell (i64s_get hkl)
      have hmem : lens.getD k 0 ∈ lens := by rw [List.getD_eq_getElem?_getD, List.getElem?_eq_getElem hkl]; exact List.getElem_mem _
      have hx1 := hx _ hmem
      have htk : lens.take (k + 1) = lens.take k ++ [lens.getD k 0] := by rw [List.take_succ_eq_append_getElem hkl, List.getD_eq_getElem?_getD, List.getElem?_eq_getElem hkl]; rfl
      have HTK := Lib.hid htk
      have hkr := kraft_take_le lens k
      rw [← S] at hkr
      have HS := Lib.hid S
      have H15 := Lib.hid h15
      have HM := Lib.hid hmem
      clear htk S h15 hmem
      generalize lens.getD k 0 = x at *
      have hk2 : (k : Int) < n := by omega
      by_cases hx15 : x ≤ 15
      · have h15n : ∀ y ∈ lens.take (k + 1), y ≤ 15 := by rw [HTK.out]; intro y hy; simp only [List.mem_append, List.mem_singleton] at hy; (rcases hy with hy | rfl; exact H15.out y hy; omega)
        have H15N := Lib.hid h15n
        clear h15n
        by_cases h0 : x = 0
        · subst h0
          go_wp2_with fail
          refine (sin_yes _ (by omega) (by omega)).mono ?_
          rintro e w2 ⟨rfl, hw⟩
          obtain rfl : wr = w2 := hw.symm
          go_wp2_with fail
          go_roundw
          case rel => exact ⟨k + 1, sa, by go_num, by omega, rfl, by rw [HTK.out, kraft_snoc, HS.out]; rfl, H15N.out, O⟩
          case measure => simp [intOf]; omega
        · have hp : 2 ^ (15 - x) ≤ 2 ^ 15 := Nat.pow_le_pow_right (by omega) (by omega)
          have e1 : IntKind.i64.wrap (15 - (x : Int)) = ((15 - x : Nat) : Int) := by rw [IntKind.wrap_i64]; omega
          have hx0 : (0 : Int) < (x : Int) := by omega
          have hks : kraft (lens.take (k + 1)) = sa + 2 ^ (15 - x) := by rw [HTK.out, kraft_snoc, if_neg h0, HS.out]
          have HK := Lib.hid hks
          clear hks
          obtain ⟨z, hz⟩ : ∃ z, 2 ^ (15 - x) = z := ⟨_, rfl⟩
          rw [hz] at hp HK
          have hzz : 15 - x ≤ 40 := by omega
          generalize 15 - x = zz at *
          have HZ := Lib.hid hz
          clear hz
          go_wp2_with fail
          refine (sin_yes _ (by omega) (by omega)).mono ?_
          rintro e w2 ⟨rfl, hw⟩
          obtain rfl : wr = w2 := hw.symm
          go_wp2_with fail
          refine (pow_same zz z HZ hzz wr).mono ?_
          rintro e w2 ⟨rfl, hw⟩
          obtain rfl : wr = w2 := hw.symm
          go_wp2_with fail
          go_roundw
          case rel => exact ⟨k + 1, sa + z, by go_num, by omega, by go_num, HK.out.symm, H15N.out, O⟩
          case measure => simp [intOf]; omega
      · go_wp2_with fail
        refine (sin_no _ (by omega)).mono ?_
        rintro e w2 ⟨rfl, hw⟩
        obtain rfl : wr = w2 := hw.symm
        go_wp2_with fail
        go_ret
        exact ⟨by rw [ok_bad HM.out (by omega)]; rfl, O⟩
    · obtain rfl : k = n := by omega
      have htk : lens.take k = lens := List.take_of_length_le (by rw [HN.out]; exact Nat.le_refl _)
      rw [htk] at S h15
      have hok := okLens_is h15
      rw [HN.out, ← S] at hok
      have HO := Lib.hid hok
      clear hok htk S h15
      have hu := Lib.hid (sused_calls lens g o k cap wr (hl.on O) HN.out (by omega) hnc)
      generalize used lens = u at *
      have s1 : ((sa : Int) == 32768) = decide (sa = 32768) := by rw [Bool.eq_iff_iff]; simp; omega
      have s2 : ((sa : Int) == 16384) = decide (sa = 16384) := by rw [Bool.eq_iff_iff]; simp; omega
      have s3 : ((u : Int) == 1) = decide (u = 1) := by rw [Bool.eq_iff_iff]; simp; omega
      have s4 : decide ((k : Int) ≤ 300) = decide (k ≤ 300) := by rw [Bool.eq_iff_iff]; simp; omega
      generalize decide (sa = 32768) = b1 at *
      generalize decide (sa = 16384) = b2 at *
      have P14 : ∀ w', Calls Tryd.prog 119 #[.int .i64 14] w' (fun e w'' => e = .returned (.int .i64 16384) ∧ w'' = w') := fun w' => pow_same 14 16384 (Lib.hid rfl) (by omega) w'
      have P15 : ∀ w', Calls Tryd.prog 119 #[.int .i64 15] w' (fun e w'' => e = .returned (.int .i64 32768) ∧ w'' = w') := fun w' => pow_same 15 32768 (Lib.hid rfl) (by omega) w'
      have HP14 := Lib.hid P14
      have HP15 := Lib.hid P15
      clear P14 P15
      generalize hb3 : decide (u = 1) = b3 at *
      generalize hb4 : decide (k ≤ 300) = b4 at *
      clear hb3 hb4
      cases b3
      · cases b4
        · cases b1 <;> cases b2
          all_goals
            go_wp2_with fail
            refine hu.out.mono ?_
            rintro e w2 ⟨rfl, O2⟩
            replace O2 := O.call O2
            go_wp2_with fail
            go_ret
            exact ⟨by rw [HO.out]; rfl, O2⟩
        · cases b1 <;> cases b2
          all_goals
            go_wp2_with fail
            refine hu.out.mono ?_
            rintro e w2 ⟨rfl, O2⟩
            replace O2 := O.call O2
            go_wp2_with fail
            refine (HP15.out w2).mono ?_
            rintro e w3 ⟨rfl, hw⟩
            obtain rfl : w2 = w3 := hw.symm
            go_wp2_with fail
            go_ret
            exact ⟨by rw [HO.out]; rfl, O2⟩
      · cases b4
        · cases b1 <;> cases b2
          all_goals
            go_wp2_with fail
            refine hu.out.mono ?_
            rintro e w2 ⟨rfl, O2⟩
            replace O2 := O.call O2
            go_wp2_with fail
            refine (HP14.out w2).mono ?_
            rintro e w3 ⟨rfl, hw⟩
            obtain rfl : w2 = w3 := hw.symm
            go_wp2_with fail
            go_ret
            exact ⟨by rw [HO.out]; rfl, O2⟩
        · cases b1 <;> cases b2
          all_goals
            go_wp2_with fail
            refine hu.out.mono ?_
            rintro e w2 ⟨rfl, O2⟩
            replace O2 := O.call O2
            go_wp2_with fail
            refine (HP14.out w2).mono ?_
            rintro e w3 ⟨rfl, hw⟩
            obtain rfl : w2 = w3 := hw.symm
            go_wp2_with fail
            refine (HP15.out w2).mono ?_
            rintro e w3 ⟨rfl, hw⟩
            obtain rfl : w2 = w3 := hw.symm
            go_wp2_with fail
            go_ret
            exact ⟨by rw [HO.out]; rfl, O2⟩
end Go.Proofs.YtncidljdfipigaaDoor.Wi

/- The specification adds to bytes what a token tells that leads back. Conditions: a row of bytes, sizes. -/
namespace Go.Proofs.YtncidljdfipigaaDoor.Wi
open Go.RowKit Go.Proofs.YtncidljdfipigaaDoor.Mem Go.Proofs.YtncidljdfipigaaDoor.Bt Go.Proofs.YtncidljdfipigaaDoor.Lz
set_option linter.unusedVariables false
set_option linter.unusedSimpArgs false
set_option maxRecDepth 100000 in
set_option maxHeartbeats 2000000 in
theorem sadd_calls (r cap n L B : Nat) (l : List Nat) (w : World) (hb : By w r cap l) (hn : l.length = n) (hn2 : n ≤ 1000) (hL : 1 ≤ L) (hL2 : L ≤ 100000) (hB2 : B ≤ 100000) :
    Calls Tryd.prog 157 #[.slice (some ⟨r, 0, none⟩) n cap, .agg #[.int .i64 0, .int .i64 (L : Int), .int .i64 (B : Int)]] w fun e w' =>
      (backOk n L B ∧ ∃ r' cap', e = .returned (.tuple #[.slice (some ⟨r', 0, none⟩) (n + L) cap', .bool true]) ∧ By w' r' cap' (copy l B L) ∧ Mb r w r' w') ∨
      (¬ backOk n L B ∧ e = .returned (.tuple #[.slice (some ⟨r, 0, none⟩) n cap, .bool false]) ∧ On w w') := by
  have HN := Lib.hid hn
  clear hn
  have hL0 : ((L : Int) == 0) = false := by simp; omega
  have BA := Blk.new w 67 #[.int .i64 0, .int .i64 (L : Int), .int .i64 (B : Int)]
  have OA := (On.refl w).alloc (.cells #[.int .i64 0, .int .i64 (L : Int), .int .i64 (B : Int)] 67)
  have hrl := hb.lt
  by_cases h1 : 3 ≤ L ∧ L ≤ 60
  · by_cases h2 : 1 ≤ B ∧ B ≤ 250
    · by_cases h3 : B ≤ n
      · have h3' : ¬ (n : Int) < (B : Int) := by omega
        have h3'' : decide ((n : Int) < (B : Int)) = false := by simp; omega
        have h3n : decide (n < B) = false := by simp; omega
        have hok : backOk n L B := by unfold backOk; omega
        go_enter Tryd.func157, Tryd.ntmps157
        go_wp2_with fail
        refine (sin_yes _ (by omega) (by omega)).mono ?_
        rintro e w2 ⟨rfl, hw⟩
        obtain rfl : _ = w2 := hw.symm
        go_wp2_with fail
        refine (sin_yes _ (by omega) (by omega)).mono ?_
        rintro e w2 ⟨rfl, hw⟩
        obtain rfl : _ = w2 := hw.symm
        have hz : w.heap.size ≠ r := by omega
        have hb1 := hb.on OA
        have hml : ∀ k, (copy l B k).length = n + k := fun k => by rw [copy_length, HN.out]
        have HML := Lib.hid hml
        have c1 : (w.alloc (.cells #[.int .i64 0, .int .i64 (L : Int), .int .i64 (B : Int)] 67)).cell? ⟨w.heap.size, 1, none⟩ = some (.int .i64 (L : Int)) := (BA.cell 1).trans rfl
        have c2 : (w.alloc (.cells #[.int .i64 0, .int .i64 (L : Int), .int .i64 (B : Int)] 67)).cell? ⟨w.heap.size, 2, none⟩ = some (.int .i64 (B : Int)) := (BA.cell 2).trans rfl
        have hbs := BA.lt
        have HOK := Lib.hid hok
        clear hml hok
        generalize w.heap.size = tb at *
        generalize w.alloc (.cells #[.int .i64 0, .int .i64 (L : Int), .int .i64 (B : Int)] 67) = w1 at *
        go_wp2_with fail
        go_loopw [0, 6] (fun o x wr => ∃ (k r' cap' : Nat), x = .int .i64 (k : Int) ∧ k ≤ L ∧ o = .slice (some ⟨r', 0, none⟩) (n + k) cap' ∧ By wr r' cap' (copy l B k) ∧ Mb r w1 r' wr) (fun _ x _ => L - (intOf x).toNat)
        case atStart => exact ⟨0, r, cap, rfl, by omega, rfl, hb1, Mb.refl _ _⟩
        case round =>
          obtain ⟨k, r', cap', rfl, hk, rfl, hB, M⟩ := hrel
          have BT := M.kp.blk BA (by simp; exact hz)
          have d1 : wr.cell? ⟨tb, 1, none⟩ = some (.int .i64 (L : Int)) := (BT.cell 1).trans rfl
          by_cases hlt : k < L
          · have hlen := HML.out k
            have hr' : tb ≠ r' := by rcases M.at_ with e | e <;> omega
            have d2 : wr.cell? ⟨tb, 2, none⟩ = some (.int .i64 (B : Int)) := (BT.cell 2).trans rfl
            have hbk := HOK.out
            unfold backOk at hbk
            have hi : n + k - B < (copy l B k).length := by rw [hlen]; omega
            have hcell := hB.cell hi
            have hst : copy l B (k + 1) = copy l B k ++ [(copy l B k).getD (n + k - B) 0] := by rw [copy, hlen]
            have hby : Bytes wr r' (.slice (some ⟨r', 0, none⟩) (n + k) cap') (copy l B k) := by have := hB.out; rw [hlen] at this; exact this
            have HST := Lib.hid hst
            have HLEN := Lib.hid hlen
            have hk2 : (k : Int) < L := by omega
            clear hst hlen hi hbk
            generalize copy l B k = lk at *
            generalize lk.getD (n + k - B) 0 = x at *
            obtain ⟨m, hm⟩ : ∃ m, n + k = m := ⟨_, rfl⟩
            have e1 : IntKind.i64.wrap ((m : Int) - (B : Int)) = ((m - B : Nat) : Int) := by have := HOK.out; unfold backOk at this; rw [IntKind.wrap_i64]; omega
            have e2 : ((m - B : Nat) : Int) < m := by have := HOK.out; unfold backOk at this; omega
            rw [hm] at hcell hby ⊢
            have HM := Lib.hid hm
            have hmle : m ≤ 101000 := by omega
            clear hm
            generalize m - B = mb at *
            go_wp2_with (at_builtin; go_must (refine wpList_byte (x := x) rfl _ _ rfl rfl hby rfl (by rw [HLEN.out, HM.out]; omega) ?_); intro r2 cap2 w2 hby2 hr2 hrl2 K2 hc1 hc2)
            go_roundw
            case rel =>
              refine ⟨k + 1, r2, cap2, by go_num, by omega, ?_, ?_, ?_⟩
              · rw [HLEN.out]; rfl
              · rw [HST.out]
                refine ⟨?_⟩
                rw [List.length_append]
                exact hby2
              · exact M.trans ⟨K2, hr2⟩
            case measure => simp [intOf]; omega
          · obtain rfl : k = L := by omega
            go_wp2_with fail
            go_ret2
            refine .inl ⟨HOK.out, r', cap', rfl, hB, ?_⟩
            refine ⟨(Kp.of [r] OA).then M.kp, ?_⟩
            have := OA.size
            rcases M.at_ with e | e <;> omega
      · have h3' : (n : Int) < (B : Int) := by omega
        go_enter Tryd.func157, Tryd.ntmps157
        go_wp2_with fail
        refine (sin_yes _ (by omega) (by omega)).mono ?_
        rintro e w2 ⟨rfl, hw⟩
        obtain rfl : _ = w2 := hw.symm
        go_wp2_with fail
        refine (sin_yes _ (by omega) (by omega)).mono ?_
        rintro e w2 ⟨rfl, hw⟩
        obtain rfl : _ = w2 := hw.symm
        go_wp2_with fail
        go_ret2
        exact .inr ⟨fun h => by unfold backOk at h; omega, rfl, OA⟩
    · go_enter Tryd.func157, Tryd.ntmps157
      go_wp2_with fail
      refine (sin_yes _ (by omega) (by omega)).mono ?_
      rintro e w2 ⟨rfl, hw⟩
      obtain rfl : _ = w2 := hw.symm
      go_wp2_with fail
      refine (sin_no _ (by omega)).mono ?_
      rintro e w2 ⟨rfl, hw⟩
      obtain rfl : _ = w2 := hw.symm
      go_wp2_with fail
      go_ret2
      exact .inr ⟨fun h => by unfold backOk at h; omega, rfl, OA⟩
  · go_enter Tryd.func157, Tryd.ntmps157
    go_wp2_with fail
    refine (sin_no _ (by omega)).mono ?_
    rintro e w2 ⟨rfl, hw⟩
    obtain rfl : _ = w2 := hw.symm
    go_wp2_with fail
    go_ret2
    exact .inr ⟨fun h => by unfold backOk at h; omega, rfl, OA⟩
end Go.Proofs.YtncidljdfipigaaDoor.Wi

/- The specification's reader takes a symbol. Conditions: a reader, lengths and their codes. -/
namespace Go.Proofs.YtncidljdfipigaaDoor.Wi
open Go.RowKit Go.Proofs.YtncidljdfipigaaDoor.Mem Go.Proofs.YtncidljdfipigaaDoor.Bt Go.Proofs.YtncidljdfipigaaDoor.Cd Go.Proofs.YtncidljdfipigaaDoor.De
set_option linter.unusedVariables false
set_option linter.unusedSimpArgs false
/-- What symbol leaves. -/
structure SymOut (lens : List Nat) (n : Nat) (s : ByteArray) (p : Nat) (b : Bool) (g : Nat) (w : World) (e : Ending) (w' : World) : Prop where mk ::
  out : ∃ (v : Int) (x p' : Nat) (b' : Bool), e = .returned (.int .i64 v) ∧ SR w' g s p' b' ∧ Ans (sym lens) s p b x p' b' ∧ (b' = false → v = x ∧ x < n) ∧ -1 ≤ v ∧ v ≤ n ∧ Kp [g] w w'
theorem find_not {lens : List Nat} {l c : Nat} (h : ∀ j, j < lens.length → ¬ (lens.getD j 0 = l ∧ code lens j = c)) : find lens l c = none := by
  unfold find
  refine List.find?_eq_none.2 fun j hj => ?_
  simpa using h j (by simpa using hj)
set_option maxRecDepth 100000 in
set_option maxHeartbeats 2000000 in
theorem ssymbol_calls (lens : List Nat) (g n gl ol cl ga ca : Nat) (s : ByteArray) (p : Nat) (b : Bool) (w : World) (hw : SR w g s p b) (hl : RowO w gl ol 3 (i64s lens)) (ha : RowO w ga 0 3 (i64s (codes lens)))
    (hn : lens.length = n) (hn2 : n ≤ 1000) (hc : n ≤ cl) (hca : n ≤ ca) (fl : gl ≠ g) (fa : ga ≠ g) :
    Calls Tryd.prog 150 #[.pointer (some ⟨g, 0, none⟩), .slice (some ⟨gl, ol, none⟩) n cl, .slice (some ⟨ga, 0, none⟩) n ca] w fun e w' => SymOut lens n s p b g w e w' := by
  have HN := Lib.hid hn
  have HF1 := Lib.hid fl
  have HF2 := Lib.hid fa
  clear hn fl fa
  go_enter Tryd.func150, Tryd.ntmps150
  go_wp2_with fail
  go_loopw [7, 8] (fun y x wr => ∃ (l c q : Nat) (b' : Bool), x = .int .i64 (l : Int) ∧ 1 ≤ l ∧ l ≤ 16 ∧ y = .int .i64 (c : Int) ∧ RowKit.Hid (c < 2 ^ (l - 1)) ∧ SR wr g s q b' ∧ Kp [g] w wr ∧ (b' = true → b = true ∨ sym lens (rest s p) = none) ∧ (b' = false → b = false ∧ sym lens (rest s p) = symGo lens (16 - l) l c (rest s q))) (fun _ x _ => 16 - (intOf x).toNat)
  case atStart => exact ⟨1, 0, p, b, rfl, by omega, by omega, rfl, Lib.hid (by decide), hw, Kp.refl _ _, fun e => .inl e, fun e => ⟨e, rfl⟩⟩
  case round =>
    obtain ⟨l, c, q, b', rfl, hl1, hl16, rfl, HC, hr, K, hbad, hgood⟩ := hrel
    have c2 : wr.cell? ⟨g, 2, none⟩ = some (.bool b') := (hr.out.cell 2).trans rfl
    have fr : ∀ i, wr.frozen? ⟨g, i, none⟩ = false := hr.out.frozen
    cases hb' : b' with
    | true =>
      rw [hb'] at c2 hr hbad
      have HB := Lib.hid (hbad rfl)
      clear hbad hgood
      by_cases hlt : l ≤ 15
      · have hlt' : (l : Int) ≤ 15 := by omega
        go_wp2_with fail
        go_ret
        exact ⟨-1, 0, q, true, rfl, ⟨hr.out.set 2 (.bool true), hr.le, hr.sz⟩, ⟨fun _ => HB.out, fun e => (by cases e)⟩, fun e => (by cases e), by omega, by omega, K.set (.inl (by simp)) _⟩
      · have hlt' : decide ((l : Int) ≤ 15) = false := by simp; omega
        go_wp2_with fail
        go_ret
        exact ⟨-1, 0, q, true, rfl, ⟨hr.out.set 2 (.bool true), hr.le, hr.sz⟩, ⟨fun _ => HB.out, fun e => (by cases e)⟩, fun e => (by cases e), by omega, by omega, K.set (.inl (by simp)) _⟩
    | false =>
      rw [hb'] at c2 hr hgood
      obtain ⟨g1, g2⟩ := hgood rfl
      have HG2 := Lib.hid g2
      clear hbad hgood g2
      by_cases hlt : l ≤ 15
      · have hlt' : (l : Int) ≤ 15 := by omega
        have hp : 2 ^ (l - 1) ≤ 2 ^ 14 := Nat.pow_le_pow_right (by omega) (by omega)
        have hp2 : 2 ^ (l + 1 - 1) = 2 * 2 ^ (l - 1) := by rw [show l + 1 - 1 = (l - 1) + 1 from by omega, Nat.pow_succ, Nat.mul_comm]
        have hx := numAt_lt s q 1
        have HCb := Lib.hid (sbit_calls g s q false wr hr)
        have hql := hr.le
        obtain ⟨x, hxx⟩ : ∃ x, numAt s q 1 = x := ⟨_, rfl⟩
        rw [hxx] at hx
        have HX := Lib.hid hxx
        have hcl := HC.out
        have e1 : IntKind.i64.wrap (2 * (c : Int)) = 2 * (c : Int) := by rw [IntKind.wrap_i64]; omega
        have e2 : IntKind.i64.wrap (2 * (c : Int) + (x : Int)) = ((2 * c + x : Nat) : Int) := by rw [IntKind.wrap_i64]; omega
        have hc2 : 2 * c + x < 2 * 2 ^ (l - 1) := by omega
        rw [← hp2] at hc2
        have HC2 := Lib.hid hc2
        have hgood2 : (false || decide (8 * s.size < q + 1)) = false → sym lens (rest s p) = match find lens l (2 * c + x) with
            | some k => some (k, rest s (min (q + 1) (8 * s.size)))
            | none => symGo lens (16 - (l + 1)) (l + 1) (2 * c + x) (rest s (min (q + 1) (8 * s.size))) := fun e => by
          simp only [Bool.or_eq_false_iff, decide_eq_false_iff_not] at e
          rw [HG2.out, show 16 - l = (16 - (l + 1)) + 1 from by omega, symGo_step (by omega), HX.out, Nat.min_eq_left (by omega)]
          cases find lens l (2 * c + x) <;> rfl
        have hbad2 : (false || decide (8 * s.size < q + 1)) = true → sym lens (rest s p) = none := fun e => by
          simp only [Bool.or_eq_true, decide_eq_true_eq] at e
          rw [HG2.out]
          exact symGo_end (by rcases e with e | e; · cases e
                              · omega)
        obtain ⟨cx, hcx⟩ : ∃ cx, 2 * c + x = cx := ⟨_, rfl⟩
        rw [hcx] at e2 hgood2 HC2
        have HGD := Lib.hid hgood2
        have HBD := Lib.hid hbad2
        clear hgood2 hbad2 hp hp2 hc2 hcx hxx hcl
        have K0 := K
        go_wp2_with fail
        refine HCb.out.mono ?_
        rintro e w2 ⟨rfl, hr2, K2⟩
        rw [HX.out]
        generalize hbb : (false || decide (8 * s.size < q + 1)) = bb at *
        generalize hqq : min (q + 1) (8 * s.size) = qq at *
        have K3 := K.then K2
        have hl2 := hl.kp K3 (by simpa using HF1.out)
        have ha2 := ha.kp K3 (by simpa using HF2.out)
        go_wp2_with fail
        go_loopw [9] (fun x w3 => ∃ i : Nat, x = .int .i64 (i : Int) ∧ i ≤ n ∧ w3 = w2 ∧ ∀ j, j < i → ¬ (lens.getD j 0 = l ∧ code lens j = cx)) (fun x _ => n - (intOf x).toNat)
        case atStart => exact ⟨0, rfl, by omega, rfl, fun j hj => by omega⟩
        case round =>
          obtain ⟨i, rfl, hi, hw3, hno⟩ := hrel
          obtain rfl : w2 = wr := hw3.symm
          have HNO := Lib.hid hno
          clear hno
          by_cases hin : i < n
          · have hin' : (i : Int) < n := by omega
            have hil : i < lens.length := by rw [HN.out]; exact hin
            have d0 := hl2.cell (i64s_get hil)
            have d1 := ha2.cell (i64s_get (l := codes lens) (i := i) (by rw [codes_length]; exact hil))
            rw [codes_getD lens hil] at d1
            obtain ⟨y, hy⟩ : ∃ y, lens.getD i 0 = y := ⟨_, rfl⟩
            obtain ⟨z, hz⟩ : ∃ z, code lens i = z := ⟨_, rfl⟩
            rw [hy] at d0
            rw [hz] at d1
            have HY := Lib.hid hy
            have HZ := Lib.hid hz
            clear hy hz
            rw [Nat.zero_add] at d1
            by_cases hyl : y = l
            · by_cases hzc : z = cx
              · have hyl' : ((y : Int) == (l : Int)) = true := by simp; omega
                have hzc' : ((z : Int) == (cx : Int)) = true := by simp; omega
                have hf := find_is hil (HY.out.trans hyl) (HZ.out.trans hzc) hl1 (by omega)
                have HF := Lib.hid hf
                clear hf
                go_wp2_with fail
                go_ret
                refine ⟨i, i, qq, bb, rfl, hr2, ⟨fun e => .inr (HBD.out e), fun e => ⟨(by first | exact g1 | rfl), ?_⟩⟩, fun _ => ⟨rfl, hin⟩, by omega, by omega, K3⟩
                have := HGD.out e
                rw [HF.out] at this
                exact this
              · have hyl' : ((y : Int) == (l : Int)) = true := by simp; omega
                have hzc' : ((z : Int) == (cx : Int)) = false := by simp; omega
                go_wp2_with fail
                go_roundw
                case rel => exact ⟨i + 1, by go_num, by omega, (by first | rfl | trivial), fun j hj => (by
                  rcases Nat.lt_or_ge j i with h | h
                  · exact HNO.out j h
                  · obtain rfl : j = i := by omega
                    rw [HZ.out]; exact fun h => hzc h.2)⟩
                case measure => simp [intOf]; omega
            · have hyl' : ((y : Int) == (l : Int)) = false := by simp; omega
              go_wp2_with fail
              go_roundw
              case rel => exact ⟨i + 1, by go_num, by omega, (by first | rfl | trivial), fun j hj => (by
                rcases Nat.lt_or_ge j i with h | h
                · exact HNO.out j h
                · obtain rfl : j = i := by omega
                  rw [HY.out]; exact fun h => hyl h.1)⟩
              case measure => simp [intOf]; omega
          · obtain rfl : i = n := by omega
            have hf : find lens l cx = none := find_not (fun j hj => HNO.out j (by rw [← HN.out]; exact hj))
            have HF := Lib.hid hf
            clear hf
            go_wp2_with fail
            go_roundw
            case rel =>
              refine ⟨l + 1, cx, qq, bb, by go_num, by omega, by omega, rfl, Lib.hid HC2.out, hr2, K3, fun e => .inr (HBD.out e), fun e => ⟨(by first | exact g1 | rfl), ?_⟩⟩
              have := HGD.out e
              rw [HF.out] at this
              exact this
            case measure => simp [intOf]; omega
      · have hlt' : decide ((l : Int) ≤ 15) = false := by simp; omega
        obtain rfl : l = 16 := by omega
        go_wp2_with fail
        go_ret
        exact ⟨-1, 0, q, true, rfl, ⟨hr.out.set 2 (.bool true), hr.le, hr.sz⟩, ⟨fun _ => .inr HG2.out, fun e => (by cases e)⟩, fun e => (by cases e), by omega, by omega, K.set (.inl (by simp)) _⟩
end Go.Proofs.YtncidljdfipigaaDoor.Wi

