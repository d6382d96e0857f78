/- Own texts joined: Rl, WFix, Rg, Rf, Draw. -/
import Derived.Deep.DeepCutAuto
import Derived.Deep.QuietTactic
import Derived.BigQuiet
import Derived.Test.YtncidljdfipigaaDoorChecked
import Derived.Lib.Hide
import Derived.WalkKit
import Derived.WalkSpells
import Derived.Laws.BitsLemmas
import Derived.Test.YtncidljdfipigaaDoorZ0
import Derived.Test.YtncidljdfipigaaDoorZ1
import Derived.Test.YtncidljdfipigaaDoorZ2
import Derived.Test.YtncidljdfipigaaDoorZ3
import Derived.Test.YtncidljdfipigaaDoorZ4
/- The program's reader takes the lengths of both codes. Conditions: a reader; the variable order as it is laid. -/
namespace Go.Proofs.YtncidljdfipigaaDoor.Wi
open Go.RowKit Go.Proofs.YtncidljdfipigaaDoor.Mem Go.Proofs.YtncidljdfipigaaDoor.Bt Go.Proofs.YtncidljdfipigaaDoor.Cd Go.Proofs.YtncidljdfipigaaDoor.De
set_option linter.unusedVariables false
set_option linter.unusedSimpArgs false
/-- As the lengths are taken, before they are looked at. -/
def ownRaw : Dec (List Nat × List Nat) :=
  next (num 5) fun a => next (num 5) fun b => next (num 4) fun c => next (metas (c + 4) 0 (List.replicate 19 0)) fun m =>
    if okLens m = true ∧ a + 257 ≤ 286 ∧ b + 1 ≤ 30 then next (lenLoop m (a + 257 + (b + 1)) 400 []) fun all => ret (all.take (a + 257), all.drop (a + 257)) else De.bad
theorem own_raw {α : Type} (k : List Nat × List Nat → Dec α) (bs : List Bool) : next own k bs = next ownRaw (fun p => if okLens p.1 = true ∧ okLens p.2 = true then k p else De.bad) bs := by
  unfold own ownRaw next
  cases num 5 bs with
  | none => rfl
  | some p1 =>
    simp only
    cases num 5 p1.2 with
    | none => rfl
    | some p2 =>
      simp only
      cases num 4 p2.2 with
      | none => rfl
      | some p3 =>
        simp only
        cases metas (p3.1 + 4) 0 (List.replicate 19 0) p3.2 with
        | none => rfl
        | some p4 =>
          simp only
          by_cases h : okLens p4.1 = true ∧ p1.1 + 257 ≤ 286 ∧ p2.1 + 1 ≤ 30
          · rw [if_pos h, if_pos h]
            cases lenLoop p4.1 (p1.1 + 257 + (p2.1 + 1)) 400 [] p4.2 with
            | none => rfl
            | some p5 =>
              simp only
              by_cases h2 : okLens (p5.1.take (p1.1 + 257)) = true ∧ okLens (p5.1.drop (p1.1 + 257)) = true
              · simp only [ret, if_pos h2]
              · simp only [ret, if_neg h2, De.bad]
          · rw [if_neg h, if_neg h]; rfl
/-- What the reader tells of the lengths of both codes. -/
structure LensOut (s : ByteArray) (p : Nat) (b : Bool) (g : Nat) (w : World) (e : Ending) (w' : World) : Prop where mk ::
  out : ∃ (v1 v2 : Value) (p' : Nat) (b' : Bool) (lit dist : List Nat), e = .returned (.tuple #[v1, v2]) ∧ IR w' g s p' b' ∧ Ans ownRaw s p b (lit, dist) p' b' ∧ Kp [g] w w' ∧
      (b' = false → ∃ (r n c : Nat), v1 = .slice (some ⟨r, 0, none⟩) lit.length n ∧ v2 = .slice (some ⟨r, lit.length, none⟩) dist.length c ∧ lit.length ≤ 286 ∧ dist.length ≤ 30 ∧ lit.length ≤ n ∧ dist.length ≤ c ∧ RowO w' r 0 3 (i64s lit) ∧ RowO w' r lit.length 3 (i64s dist) ∧ (∀ y ∈ lit, y ≤ 15) ∧ (∀ y ∈ dist, y ≤ 15) ∧ w.heap.size ≤ r)
theorem order_lt : ∀ i, i < 19 → order.getD i 0 < 19 := by decide
set_option maxRecDepth 100000 in
set_option maxHeartbeats 2000000 in
theorem rlens_calls (g : Nat) (x : Addr) (s : ByteArray) (p : Nat) (b : Bool) (w : World) (hw : IR w g s p b) (hO : Ord w x) (hg1 : 0 ≠ g) (hg2 : x.block ≠ g) :
    Calls Tryd.prog 56 #[.pointer (some ⟨g, 0, none⟩)] w fun e w' => LensOut s p b g w e w' := by
  have hgl := hw.out.lt
  have HE1 := Lib.hid (get_calls g 5 s p b w hw (by omega))
  have A1 := Lib.hid (ans_num (n := 5) (b := b) hw.le)
  have hm1 := numAt_lt s p 5
  go_enter Tryd.func56, Tryd.ntmps56
  go_wp2_with fail
  refine HE1.out.mono ?_
  rintro e w1 ⟨rfl, hw1, K1⟩
  generalize hq1 : min (p + 5) (8 * s.size) = q1 at *
  generalize hx1 : (b || decide (8 * s.size < p + 5)) = x1 at *
  generalize numAt s p 5 = na at *
  have HE2 := Lib.hid (get_calls g 5 s q1 x1 w1 hw1 (by omega))
  have A2 := Lib.hid (ans_num (n := 5) (b := x1) hw1.le)
  have hm2 := numAt_lt s q1 5
  go_wp2_with fail
  refine HE2.out.mono ?_
  rintro e w2 ⟨rfl, hw2, K2⟩
  generalize hq2 : min (q1 + 5) (8 * s.size) = q2 at *
  generalize hx2 : (x1 || decide (8 * s.size < q1 + 5)) = x2 at *
  generalize numAt s q1 5 = nb at *
  have HE3 := Lib.hid (get_calls g 4 s q2 x2 w2 hw2 (by omega))
  have A3 := Lib.hid (ans_num (n := 4) (b := x2) hw2.le)
  have hm3 := numAt_lt s q2 4
  go_wp2_with fail
  refine HE3.out.mono ?_
  rintro e w3 ⟨rfl, hw3, K3⟩
  generalize hq3 : min (q2 + 4) (8 * s.size) = q3 at *
  generalize hx3 : (x2 || decide (8 * s.size < q2 + 4)) = x3 at *
  generalize numAt s q2 4 = nc at *
  have K13 := (K1.then K2).then K3
  have hO3 := hO.kp K13 (by simpa using hg1) (by simpa using hg2)
  obtain ⟨D, hD⟩ : ∃ D : Dec (List Nat × List Nat), D = (next (metas (nc + 4) 0 (List.replicate 19 0)) fun m => if okLens m = true ∧ na + 257 ≤ 286 ∧ nb + 1 ≤ 30 then next (lenLoop m (na + 257 + (nb + 1)) 400 []) fun all => ret (all.take (na + 257), all.drop (na + 257)) else De.bad) := ⟨_, rfl⟩
  have HD := Lib.hid hD
  have HA : RowKit.Hid (∀ y p' b', Ans D s q3 x3 y p' b' → Ans ownRaw s p b y p' b') := Lib.hid (fun y p' b' h => Ans.next A1.out (Ans.next A2.out (Ans.next A3.out (by rw [← HD.out]; exact h))))
  clear hD A1 A2 A3 HE1 HE2 HE3 K1 K2 K3 hq1 hq2 hq3 hx1 hx2 hx3
  have hgood : na + 257 ≤ 286 ∧ nb + 1 ≤ 30 → ∀ m q4 b4, Ans (metas (nc + 4) 0 (List.replicate 19 0)) s q3 x3 m q4 b4 → ∀ y p' b', Ans (if okLens m = true then next (lenLoop m (na + 257 + (nb + 1)) 400 []) fun all => ret (all.take (na + 257), all.drop (na + 257)) else De.bad) s q4 b4 y p' b' → Ans D s q3 x3 y p' b' := fun hb m q4 b4 h1 y p' b' h2 => by
    rw [HD.out]
    refine Ans.next h1 ?_
    have e : (okLens m = true ∧ na + 257 ≤ 286 ∧ nb + 1 ≤ 30) = (okLens m = true) := by simp [hb.1, hb.2]
    simp only [e]
    exact h2
  have hnone : ¬ (na + 257 ≤ 286 ∧ nb + 1 ≤ 30) → D (rest s q3) = none := fun hb => by
    rw [HD.out]
    cases h : metas (nc + 4) 0 (List.replicate 19 0) (rest s q3) with
    | none => exact next_none h
    | some r => rw [next_some h, if_neg (fun hh => hb hh.2)]; rfl
  have o0 := hO3.glob
  have K03 : Kp [g] w w3 := K13
  have hgl3 := hw3.out.lt
  have HGD := Lib.hid hgood
  have HNO := Lib.hid hnone
  clear hgood hnone K13
  by_cases hbig : na + 257 ≤ 286 ∧ nb + 1 ≤ 30
  case' pos =>
    have c3 : decide ((286 : Int) < (na : Int) + 257) = false := by simp; omega
    have c4 : decide ((30 : Int) < (nb : Int) + 1) = false := by simp; omega
    obtain ⟨xk, hxk⟩ : ∃ xk, xk = x3 := ⟨_, rfl⟩
    have F1 : RowKit.Hid (∀ m q4 b4, Ans (metas (nc + 4) 0 (List.replicate 19 0)) s q3 xk m q4 b4 → ∀ y p' b', Ans (if okLens m = true then next (lenLoop m (na + 257 + (nb + 1)) 400 []) fun all => ret (all.take (na + 257), all.drop (na + 257)) else De.bad) s q4 b4 y p' b' → Ans D s q3 x3 y p' b') := Lib.hid (by rw [hxk]; exact HGD.out hbig)
    have hwk : IR w3 g s q3 xk := by rw [hxk]; exact hw3
    have FB : RowKit.Hid (xk = false → na + 257 ≤ 286 ∧ nb + 1 ≤ 30) := Lib.hid (fun _ => hbig)
    clear hxk hbig
    go_upto_region 4 with fail
    obtain ⟨wk, hwk0⟩ : ∃ wk, wk = w3 := ⟨_, rfl⟩
    rw [← hwk0] at hwk o0 hO3 K03 ⊢
    clear hwk0
  case' neg =>
    have o0' := o0
    have fr : ∀ i, w3.frozen? ⟨g, i, none⟩ = false := hw3.out.frozen
    have d2 := (hw3.out.cell 2).trans rfl
    have F1 : RowKit.Hid (∀ m q4 b4, Ans (metas (nc + 4) 0 (List.replicate 19 0)) s q3 true m q4 b4 → ∀ y p' b', Ans (if okLens m = true then next (lenLoop m (na + 257 + (nb + 1)) 400 []) fun all => ret (all.take (na + 257), all.drop (na + 257)) else De.bad) s q4 b4 y p' b' → Ans D s q3 x3 y p' b') := Lib.hid (fun m q4 b4 h1 y p' b' h2 => by
      have e4 := h1.mono rfl
      have e5 := h2.mono e4
      rw [e5]
      exact ⟨fun _ => .inr (HNO.out hbig), fun e => by cases e⟩)
    have FB : RowKit.Hid (true = false → na + 257 ≤ 286 ∧ nb + 1 ≤ 30) := Lib.hid (fun e => by cases e)
    have hwk : IR (w3.setCell ⟨g, 2, none⟩ (.bool true)) g s q3 true := ⟨hw3.out.set 2 (.bool true), hw3.le, hw3.sz⟩
    have K3k : Kp [g] w3 (w3.setCell ⟨g, 2, none⟩ (.bool true)) := (Kp.refl _ _).set (.inl (by simp)) _
    have hOk := hO3.kp K3k (by simpa using hg1) (by simpa using hg2)
    have K0k := K03.then K3k
    by_cases h286 : 286 < na + 257
    case' pos =>
      have c3 : (286 : Int) < (na : Int) + 257 := by omega
      go_upto_region 4 with fail
    case' neg =>
      have c3 : decide ((286 : Int) < (na : Int) + 257) = false := by simp; omega
      have c4 : (30 : Int) < (nb : Int) + 1 := by omega
      go_upto_region 4 with fail
    all_goals
      clear hO3 o0 o0' K03 K3k hbig
      have o0 := hOk.glob
      have hO3 := hOk
      have K03 := K0k
      clear hOk K0k
      generalize w3.setCell ⟨g, 2, none⟩ (.bool true) = wk at *
      obtain ⟨xk, hxk⟩ : ∃ xk, xk = true := ⟨_, rfl⟩
      rw [← hxk] at hwk
      have F1 : RowKit.Hid (∀ m q4 b4, Ans (metas (nc + 4) 0 (List.replicate 19 0)) s q3 xk m q4 b4 → ∀ y p' b', Ans (if okLens m = true then next (lenLoop m (na + 257 + (nb + 1)) 400 []) fun all => ret (all.take (na + 257), all.drop (na + 257)) else De.bad) s q4 b4 y p' b' → Ans D s q3 x3 y p' b') := by rw [hxk]; exact F1
      have FB : RowKit.Hid (xk = false → na + 257 ≤ 286 ∧ nb + 1 ≤ 30) := by rw [hxk]; exact FB
      clear hxk
  all_goals
    have hk19 : (nc : Int) + 4 ≤ 19 := by omega
    have hk20 : (0 : Int) ≤ (nc : Int) + 4 := by omega
    have htn : ((nc : Int) + 4).toNat = nc + 4 := by omega
    go_wp2_with (at_make; go_must (refine wpList_ints _ rfl _ _ rfl _ _ 19 rfl rfl rfl rfl (by omega) ?_); intro w4 hN1 O4 hlt1; have o1 := (hO3.kp (Kp.of [] O4) (by simp) (by simp)).glob)
    have hw4 := hwk.on O4
    have hO4 := hO3.kp (Kp.of [] O4) (by simp) (by simp)
    have hgk := hwk.out.lt
    have hGk := hO3.glt
    have hXk := hO3.lt
    have K04 := K03.then (Kp.of [g] O4)
    have hK0s := K03.size
    generalize hA : wk.heap.size = A at *
    have HAA := Lib.hid hA
    clear hA o0 o1 hO3 hwk
    have hgA : g ≠ A := by omega
    have hGA : 0 ≠ A := by omega
    have hXA : x.block ≠ A := by omega
    go_loopw [40] (fun i wr => ∃ (k q : Nat) (bb : Bool) (m : List Nat), i = .int .i64 (k : Int) ∧ k ≤ nc + 4 ∧ IR wr g s q bb ∧ Nums wr A (.slice (some ⟨A, 0, none⟩) 19 19) m ∧ Kp [g, A] w4 wr ∧ m.length = 19 ∧ (∀ y ∈ m, y ≤ 7) ∧ (∀ y p' b', Ans (metas (nc + 4 - k) k m) s q bb y p' b' → Ans (metas (nc + 4) 0 (List.replicate 19 0)) s q3 xk y p' b')) (fun i _ => nc + 4 - (intOf i).toNat)
    case atStart => exact ⟨0, q3, xk, List.replicate 19 0, rfl, by omega, hw4, hN1, Kp.refl _ _, rfl, by simp, fun y p' b' h => h⟩
    case round =>
      obtain ⟨k, q, bb, m, rfl, hk, hr, hN, K, hml, hm7, hF⟩ := hrel
      by_cases hlt : k < nc + 4
      · have hk19' : k < 19 := by omega
        have hOr := hO4.kp K (by simp; exact ⟨hg1, hGA⟩) (by simp; exact ⟨hg2, hXA⟩)
        have oc := hOr.cells k hk19'
        have hol := order_lt k hk19'
        have HG := Lib.hid (get_calls g 3 s q bb wr hr (by omega))
        have A4 := ans_num (n := 3) (b := bb) hr.le
        have hv := numAt_lt s q 3
        have hF2 : RowKit.Hid (∀ y p' b', Ans (metas (nc + 4 - (k + 1)) (k + 1) (m.set (order.getD k 0) (numAt s q 3))) s (min (q + 3) (8 * s.size)) (bb || decide (8 * s.size < q + 3)) y p' b' → Ans (metas (nc + 4) 0 (List.replicate 19 0)) s q3 xk y p' b') := Lib.hid (fun y p' b' h => hF y p' b' (by
          rw [show nc + 4 - k = (nc + 4 - (k + 1)) + 1 from by omega, metas]
          exact Ans.next A4 h))
        have HM7 := Lib.hid hm7
        have HML := Lib.hid hml
        clear hF A4 hm7 hml
        generalize order.getD k 0 = ok at *
        generalize numAt s q 3 = v at *
        generalize min (q + 3) (8 * s.size) = qq at *
        generalize (bb || decide (8 * s.size < q + 3)) = b2 at *
        have hk2 : (k : Int) < (nc : Int) + 4 := by omega
        have hol2 : (ok : Int) < 19 := by omega
        go_wp2_with fail
        refine HG.out.mono ?_
        rintro e w6 ⟨rfl, hr6, K6⟩
        have hN6 := hN.kp K6 (by simpa using Ne.symm hgA)
        have hcells : ok < m.length := by rw [HML.out]; exact hol
        have ce := hN6.row.1.cell (i64s_get hcells)
        have fe : ∀ i, w6.frozen? ⟨A, i, none⟩ = false := hN6.row.1.frozen
        go_wp2_with fail
        go_roundw
        case rel =>
          have KS : Kp [A] w6 (w6.setCell ⟨A, ok, none⟩ (.int .i64 (v : Int))) := (Kp.refl _ _).set (.inl (by simp)) _
          refine ⟨k + 1, qq, b2, m.set ok v, by go_num, by omega, hr6.kp KS (by simpa using hgA), hN6.set ok v, (K.then (K6.mono (fun y hy => .inl (by simp at hy ⊢; exact .inl hy)))).set (.inl (by simp)) _, by rw [List.length_set]; exact HML.out, fun y hy => ?_, hF2.out⟩
          rcases List.mem_or_eq_of_mem_set hy with h | rfl
          · exact HM7.out y h
          · omega
        case measure => simp [intOf]; omega
      · obtain rfl : k = nc + 4 := by omega
        have hM : Ans (metas (nc + 4) 0 (List.replicate 19 0)) s q3 xk m q bb := hF m q bb (by rw [Nat.sub_self]; exact Ans.ret _ _ _ _)
        have HF1 := Lib.hid (F1.out m q bb hM)
        have hFB : RowKit.Hid (bb = false → na + 257 ≤ 286 ∧ nb + 1 ≤ 30) := Lib.hid (fun e => FB.out (by
          cases hx : xk with
          | false => rfl
          | true => rw [hM.mono hx] at e; cases e))
        clear hF hM F1 FB
        have d2 := (hr.out.cell 2).trans rfl
        have fr : ∀ i, wr.frozen? ⟨g, i, none⟩ = false := hr.out.frozen
        have K0r : Kp [g] w wr := K04.trans K (fun y hy => by simp at hy ⊢; omega)
        have hzr : A < wr.heap.size := by have := K.size; omega
        cases bb with
        | true =>
          go_wp2_with fail
          go_ret2
          exact .mk ⟨_, _, q, true, [], [], rfl, ⟨hr.out.set 2 (.bool true), hr.le, hr.sz⟩, HA.out _ _ _ (HF1.out _ _ _ ⟨fun _ => .inl rfl, fun e => by cases e⟩), K0r.set (.inl (by simp)) _, fun e => by cases e⟩
        | false =>
        have hbig := hFB.out rfl
        all_goals try (exfalso; omega)
        all_goals
          have hx100 : ∀ y ∈ m, y ≤ 100000 := fun y hy => by have := hm7 y hy; omega
          have RM := hN.row.1.toO
          cases hok : okLens m with
          | false =>
            have HOK := Lib.hid hok
            clear hok
            go_wp2_with fail
            refine (lensok_calls m A 0 19 19 wr RM hml (by omega) (by omega) hx100).mono ?_
            rintro e w6 ⟨rfl, O6⟩
            rw [HOK.out]
            have hr6 := hr.on O6
            have fr6 : ∀ i, w6.frozen? ⟨g, i, none⟩ = false := hr6.out.frozen
            have d6 := (hr6.out.cell 2).trans rfl
            go_wp2_with fail
            go_ret2
            refine .mk ⟨_, _, q, true, [], [], rfl, ⟨hr6.out.set 2 (.bool true), hr.le, hr.sz⟩, HA.out _ _ _ (HF1.out _ _ _ ?_), (K0r.then (Kp.of _ O6)).set (.inl (by simp)) _, fun e => by cases e⟩
            rw [HOK.out]
            exact Ans.fail _ _ _ _ _
          | true =>
            have HOK := Lib.hid hok
            have HF3 : RowKit.Hid (∀ y p' b', Ans (next (lenLoop m (na + 257 + (nb + 1)) 400 []) fun all => ret (all.take (na + 257), all.drop (na + 257))) s q false y p' b' → Ans ownRaw s p b y p' b') := Lib.hid (fun y p' b' h => HA.out _ _ _ (HF1.out y p' b' (by rw [HOK.out]; exact h)))
            clear hok HF1 HA hFB HD HGD HNO
            go_wp2_with fail
            refine (lensok_calls m A 0 19 19 wr RM hml (by omega) (by omega) hx100).mono ?_
            rintro e w6 ⟨rfl, O6⟩
            rw [HOK.out]
            go_wp2_with fail
            refine (book_calls m A 0 19 19 w6 (RM.on O6) hml (by omega) (by omega) (ok_le HOK.out) (ok_fits HOK.out)).mono ?_
            rintro e w7 ⟨mb, rfl, Bm, hmb, O7⟩
            have O67 := O6.call O7
            have hr7 := hr.on O67
            have hz7 := O67.size
            have hz6 := O6.size
            have fmb : mb ≠ g := by have := hr.out.lt; omega
            have hmbl := Bm.lt
            have K07 := K0r.then (Kp.of [g] O67)
            have hAns0 := Ans.ret (α := Nat) 0 s 0 false
            clear hAns0
            have OE := (On.refl w7).alloc (.cells #[] 3)
            have NE := Nums.new w7 #[] [] rfl (by simp)
            have hr8 := hr7.on OE
            have Bm8 := Bm.kp (Kp.of [] OE) (by simp)
            have hgl7 := hr7.out.lt
            go_upto_region 14 with fail
            go_wp2_with fail
            generalize hC : w7.heap.size = C at *
            generalize w7.alloc (.cells #[] 3) = w8 at *
            have hgC : g ≠ C := by omega
            have hCw : w.heap.size ≤ C := by have := K07.size; omega
            have hmC : mb ≠ C := by omega
            have K08 := K07.then (Kp.of [g] OE)
            have hz8 := OE.size
            clear hC
            go_loopw [11] (fun o wr2 => ∃ (q2 : Nat) (b2 : Bool) (ra ca f : Nat) (all : List Nat), o = .slice (some ⟨ra, 0, none⟩) all.length ca ∧ IR wr2 g s q2 b2 ∧ Nums wr2 ra (.slice (some ⟨ra, 0, none⟩) all.length ca) all ∧ Kp [g, C] w8 wr2 ∧ (ra = C ∨ w8.heap.size ≤ ra) ∧ (∀ y ∈ all, y ≤ 15) ∧ 1 ≤ f ∧ (all.length < na + 257 + (nb + 1) → 400 ≤ f + all.length) ∧ all.length ≤ 500 ∧
              (∀ y p' b', Ans (lenLoop m (na + 257 + (nb + 1)) f all) s q2 b2 y p' b' → Ans (lenLoop m (na + 257 + (nb + 1)) 400 []) s q false y p' b')) (fun o _ => match o with | .slice _ n _ => 600 - n | _ => 0)
            case atStart => exact ⟨q, false, C, 0, 400, [], rfl, hr8, NE, Kp.refl _ _, .inl rfl, by simp, by omega, by simp, by simp, fun y p' b' h => h⟩
            case round =>
              obtain ⟨q2, b2, ra, ca, f, all, rfl, hr9, hN9, K9, hra, h15, hf1, hf4, hal, hF9⟩ := hrel
              have HF9 := Lib.hid hF9
              have H15 := Lib.hid h15
              clear hF9 h15
              have d9 := (hr9.out.cell 2).trans rfl
              have hgra : g ≠ ra := by have := hr8.out.lt; omega
              have K09 := K08.trans (T := [g, C]) K9 (fun y hy => by simp at hy ⊢; omega)
              generalize hnn : all.length = nn at *
              have HNN := Lib.hid hnn
              clear hnn
              by_cases hw1 : nn < na + 257 + (nb + 1)
              · have hw1' : (nn : Int) < (na : Int) + 257 + ((nb : Int) + 1) := by omega
                cases b2 with
                | true =>
                  have fr9 : ∀ i, wr.frozen? ⟨g, i, none⟩ = false := hr9.out.frozen
                  have hne1 : ((nn : Int) != ((na : Int) + 257 + ((nb : Int) + 1))) = true := by simp; omega
                  have hne2 : ((nn : Int) == ((na : Int) + 257 + ((nb : Int) + 1))) = false := by simp; omega
                  go_wp2_with fail
                  go_ret2
                  exact .mk ⟨_, _, q2, true, [], [], rfl, ⟨hr9.out.set 2 (.bool true), hr9.le, hr9.sz⟩, HF3.out _ _ _ (Ans.next (x := all) (HF9.out all q2 true ⟨fun _ => .inl rfl, fun e => by cases e⟩) ⟨fun _ => .inl rfl, fun e => by cases e⟩), K09.set (.inl (by simp)) _, fun e => by cases e⟩
                | false =>
                  obtain ⟨wo, hwo⟩ : ∃ wo : World, wo = wr := ⟨_, rfl⟩
                  subst hwo
                  go_wp2_with fail
                  refine (rsym_calls m mb g 19 s q2 false wo hr9 (Bm8.kp K9 (by simp; exact ⟨fmb, hmC⟩)) hml fmb).mono ?_
                  rintro e w10 ⟨sy, q3, b3, rfl, hr10, A10, hs10, K10⟩
                  obtain ⟨f, rfl⟩ : ∃ f', f = f' + 1 := ⟨f - 1, by omega⟩
                  have hf2 : 1 ≤ f := by omega
                  have hN10 := hN9.kp K10 (by simpa using Ne.symm hgra)
                  have HST : RowKit.Hid (∀ y p' b', Ans (if sy < 16 then lenLoop m (na + 257 + (nb + 1)) f (all ++ [sy]) else if sy = 16 then next (num 2) fun x => (if all.length = 0 then De.bad else lenLoop m (na + 257 + (nb + 1)) f (all ++ List.replicate (3 + x) (all.getD (all.length - 1) 0))) else if sy = 17 then next (num 3) fun x => lenLoop m (na + 257 + (nb + 1)) f (all ++ List.replicate (3 + x) 0) else next (num 7) fun x => lenLoop m (na + 257 + (nb + 1)) f (all ++ List.replicate (11 + x) 0)) s q3 b3 y p' b' → Ans (lenLoop m (na + 257 + (nb + 1)) 400 []) s q false y p' b') := Lib.hid (fun y p' b' h => HF9.out y p' b' (by
                    rw [lenLoop, if_neg (by rw [HNN.out]; omega)]
                    exact Ans.next A10 h))
                  have hgl10 := hr10.out.lt
                  by_cases h16 : sy < 16
                  · have h16' : (sy : Int) < 16 := by omega
                    have HC : RowKit.Hid (∀ y p' b', Ans (lenLoop m (na + 257 + (nb + 1)) f (all ++ List.replicate 1 sy)) s q3 b3 y p' b' → Ans (lenLoop m (na + 257 + (nb + 1)) 400 []) s q false y p' b') := Lib.hid (fun y p' b' h => HST.out y p' b' (by rw [if_pos h16]; exact h))
                    go_upto_region 28 with fail
                    go_wp2_with fail
                    go_loopw [11, 113] (fun o kx wr2 => ∃ (k ra2 ca2 : Nat), kx = .int .i64 (k : Int) ∧ k ≤ 1 ∧ o = .slice (some ⟨ra2, 0, none⟩) (nn + k) ca2 ∧ Nums wr2 ra2 (.slice (some ⟨ra2, 0, none⟩) (nn + k) ca2) (all ++ List.replicate k sy) ∧ Kp [ra] w10 wr2 ∧ (ra2 = ra ∨ w10.heap.size ≤ ra2)) (fun _ kx _ => 1 - (intOf kx).toNat)
                    case atStart => exact ⟨0, ra, ca, rfl, by omega, by first | rfl | (rw [hn0]), by simpa using hN10, Kp.refl _ _, .inl rfl⟩
                    case round =>
                      obtain ⟨k, ra2, ca2, rfl, hk, rfl, hN12, K12, hra2⟩ := hrel
                      have hlen : (all ++ List.replicate k sy).length = nn + k := by rw [List.length_append, List.length_replicate, HNN.out]
                      have HLEN := Lib.hid hlen
                      clear hlen
                      by_cases hlt : k < 1
                      · have hlt' : (k : Int) < ((1 : Nat) : Int) := by omega
                        have hlt2 : (k : Int) < 1 := by omega
                        go_wp2_with (at_builtin; go_must (refine wpList_nat (x := sy) rfl _ _ rfl rfl hN12 rfl (by rw [HLEN.out]; omega) ?_); intro r6 c6 w6 hN6 hr6 hrl6 K6 hc1 hc2)
                        go_roundw
                        case rel =>
                          refine ⟨k + 1, r6, c6, by go_num, by omega, by first | (rw [HLEN.out]; rfl) | (rw [HNN.out]; rfl), ?_, K12.trans K6 (fun y hy => by simp at hy ⊢; omega), by have := K12.size; omega⟩
                          rw [HLEN.out] at hN6
                          rw [List.replicate_succ', ← List.append_assoc]
                          exact hN6
                        case measure => simp [intOf]; omega
                      · obtain rfl : k = 1 := by omega
                        go_wp2_with fail
                        have hz12 := K12.size
                        have hz11 := K10.size
                        have hzo := K9.size
                        refine ⟨⟨q3, b3, ra2, ca2, f, all ++ List.replicate (1) (sy), by rw [HLEN.out], hr10.kp K12 (by simpa using hgra), by rw [HLEN.out]; exact hN12, ?_, by omega, ?_, hf2, fun _ => by rw [HLEN.out]; omega, by rw [HLEN.out]; omega, HC.out⟩, by simp; omega⟩
                        · refine (K9.then (K10.mono (fun y hy => .inl (by simp at hy ⊢; exact .inl hy)))).trans K12 (fun y hy => by simp at hy ⊢; omega)
                        · intro y hy
                          rcases List.mem_append.1 hy with h | h
                          · exact H15.out y h
                          · rw [List.eq_of_mem_replicate h]; omega
                  have h16n : ¬ (sy : Int) < 16 := by omega
                  by_cases h16e : sy = 16
                  · have h16i : ((sy : Int) == 16) = true := by simp; omega
                    have A11 := Lib.hid (ans_num (n := 2) (b := b3) hr10.le)
                    have HG := Lib.hid (get_calls g 2 s q3 b3 w10 hr10 (by omega))
                    have hv := numAt_lt s q3 2
                    generalize numAt s q3 2 = v2 at *
                    generalize min (q3 + 2) (8 * s.size) = q5 at *
                    generalize (b3 || decide (8 * s.size < q3 + 2)) = b5 at *
                    go_wp2_with fail
                    refine HG.out.mono ?_
                    rintro e w11 ⟨rfl, hr11, K11⟩
                    have hN11 := hN10.kp K11 (by simpa using Ne.symm hgra)
                    have K1011 := K10.then K11
                    by_cases hn0 : nn = 0
                    · have hn0' : ((nn : Int) == 0) = true := by simp; omega
                      have fr11 : ∀ i, w11.frozen? ⟨g, i, none⟩ = false := hr11.out.frozen
                      have d11 := (hr11.out.cell 2).trans rfl
                      have hr12 : IR (w11.setCell ⟨g, 2, none⟩ (.bool true)) g s q5 true := ⟨hr11.out.set 2 (.bool true), hr11.le, hr11.sz⟩
                      have KS : Kp [g] w11 (w11.setCell ⟨g, 2, none⟩ (.bool true)) := (Kp.refl _ _).set (.inl (by simp)) _
                      have hN12' := hN11.kp KS (by simpa using Ne.symm hgra)
                      have K1012 := K1011.then KS
                      have HC : RowKit.Hid (∀ y p' b', Ans (lenLoop m (na + 257 + (nb + 1)) f (all ++ List.replicate (3 + v2) 0)) s q5 true y p' b' → Ans (lenLoop m (na + 257 + (nb + 1)) 400 []) s q false y p' b') := Lib.hid (fun y p' b' h => by
                        have e := h.mono rfl
                        rw [e]
                        refine HST.out y p' true ?_
                        rw [if_neg h16, if_pos h16e]
                        refine Ans.next A11.out ?_
                        rw [if_pos (by rw [HNN.out]; exact hn0)]
                        exact Ans.fail _ _ _ _ _)
                      go_upto_region 28 with fail
                      generalize w11.setCell ⟨g, 2, none⟩ (.bool true) = w12 at *
                      go_wp2_with fail
                      go_loopw [11, 113] (fun o kx wr2 => ∃ (k ra2 ca2 : Nat), kx = .int .i64 (k : Int) ∧ k ≤ (3 + v2) ∧ o = .slice (some ⟨ra2, 0, none⟩) (nn + k) ca2 ∧ Nums wr2 ra2 (.slice (some ⟨ra2, 0, none⟩) (nn + k) ca2) (all ++ List.replicate k 0) ∧ Kp [ra] w12 wr2 ∧ (ra2 = ra ∨ w12.heap.size ≤ ra2)) (fun _ kx _ => (3 + v2) - (intOf kx).toNat)
                      case atStart => exact ⟨0, ra, ca, rfl, by omega, by first | rfl | (rw [hn0]), by simpa using hN12', Kp.refl _ _, .inl rfl⟩
                      case round =>
                        obtain ⟨k, ra2, ca2, rfl, hk, rfl, hN12, K12, hra2⟩ := hrel
                        have hlen : (all ++ List.replicate k 0).length = nn + k := by rw [List.length_append, List.length_replicate, HNN.out]
                        have HLEN := Lib.hid hlen
                        clear hlen
                        by_cases hlt : k < (3 + v2)
                        · have hlt' : (k : Int) < (((3 + v2) : Nat) : Int) := by omega
                          have hlt2 : (k : Int) < 3 + (v2 : Int) := by omega
                          go_wp2_with (at_builtin; go_must (refine wpList_nat (x := 0) rfl _ _ rfl rfl hN12 rfl (by rw [HLEN.out]; omega) ?_); intro r6 c6 w6 hN6 hr6 hrl6 K6 hc1 hc2)
                          go_roundw
                          case rel =>
                            refine ⟨k + 1, r6, c6, by go_num, by omega, by first | (rw [HLEN.out]; rfl) | (rw [HNN.out]; rfl), ?_, K12.trans K6 (fun y hy => by simp at hy ⊢; omega), by have := K12.size; omega⟩
                            rw [HLEN.out] at hN6
                            rw [List.replicate_succ', ← List.append_assoc]
                            exact hN6
                          case measure => simp [intOf]; omega
                        · obtain rfl : k = (3 + v2) := by omega
                          go_wp2_with fail
                          have hz12 := K12.size
                          have hz11 := K1012.size
                          have hzo := K9.size
                          refine ⟨⟨q5, true, ra2, ca2, f, all ++ List.replicate ((3 + v2)) (0), by rw [HLEN.out], hr12.kp K12 (by simpa using hgra), by rw [HLEN.out]; exact hN12, ?_, by omega, ?_, hf2, fun _ => by rw [HLEN.out]; omega, by rw [HLEN.out]; omega, HC.out⟩, by simp; omega⟩
                          · refine (K9.then (K1012.mono (fun y hy => .inl (by simp at hy ⊢; exact .inl hy)))).trans K12 (fun y hy => by simp at hy ⊢; omega)
                          · intro y hy
                            rcases List.mem_append.1 hy with h | h
                            · exact H15.out y h
                            · rw [List.eq_of_mem_replicate h]; omega
                    · have hn0' : ((nn : Int) == 0) = false := by simp; omega
                      have hn1 : nn - 1 < all.length := by rw [HNN.out]; omega
                      have cl := hN11.row.1.cell (i64s_get hn1)
                      have hl15 : all.getD (nn - 1) 0 ≤ 15 := getD_le H15.out _
                      have HC : RowKit.Hid (∀ y p' b', Ans (lenLoop m (na + 257 + (nb + 1)) f (all ++ List.replicate (3 + v2) (all.getD (nn - 1) 0))) s q5 b5 y p' b' → Ans (lenLoop m (na + 257 + (nb + 1)) 400 []) s q false y p' b') := Lib.hid (fun y p' b' h => by
                        refine HST.out y p' b' ?_
                        rw [if_neg h16, if_pos h16e]
                        refine Ans.next A11.out ?_
                        rw [if_neg (by rw [HNN.out]; exact hn0), HNN.out]
                        exact h)
                      clear hn1
                      generalize all.getD (nn - 1) 0 = ag at *
                      have en : IntKind.i64.wrap ((nn : Int) - 1) = ((nn - 1 : Nat) : Int) := by rw [IntKind.wrap_i64]; omega
                      have en2 : ((nn - 1 : Nat) : Int) < (nn : Int) := by omega
                      generalize nn - 1 = n1 at *
                      go_upto_region 28 with fail
                      go_wp2_with fail
                      go_loopw [11, 113] (fun o kx wr2 => ∃ (k ra2 ca2 : Nat), kx = .int .i64 (k : Int) ∧ k ≤ (3 + v2) ∧ o = .slice (some ⟨ra2, 0, none⟩) (nn + k) ca2 ∧ Nums wr2 ra2 (.slice (some ⟨ra2, 0, none⟩) (nn + k) ca2) (all ++ List.replicate k ag) ∧ Kp [ra] w11 wr2 ∧ (ra2 = ra ∨ w11.heap.size ≤ ra2)) (fun _ kx _ => (3 + v2) - (intOf kx).toNat)
                      case atStart => exact ⟨0, ra, ca, rfl, by omega, by first | rfl | (rw [hn0]), by simpa using hN11, Kp.refl _ _, .inl rfl⟩
                      case round =>
                        obtain ⟨k, ra2, ca2, rfl, hk, rfl, hN12, K12, hra2⟩ := hrel
                        have hlen : (all ++ List.replicate k ag).length = nn + k := by rw [List.length_append, List.length_replicate, HNN.out]
                        have HLEN := Lib.hid hlen
                        clear hlen
                        by_cases hlt : k < (3 + v2)
                        · have hlt' : (k : Int) < (((3 + v2) : Nat) : Int) := by omega
                          have hlt2 : (k : Int) < 3 + (v2 : Int) := by omega
                          go_wp2_with (at_builtin; go_must (refine wpList_nat (x := ag) rfl _ _ rfl rfl hN12 rfl (by rw [HLEN.out]; omega) ?_); intro r6 c6 w6 hN6 hr6 hrl6 K6 hc1 hc2)
                          go_roundw
                          case rel =>
                            refine ⟨k + 1, r6, c6, by go_num, by omega, by first | (rw [HLEN.out]; rfl) | (rw [HNN.out]; rfl), ?_, K12.trans K6 (fun y hy => by simp at hy ⊢; omega), by have := K12.size; omega⟩
                            rw [HLEN.out] at hN6
                            rw [List.replicate_succ', ← List.append_assoc]
                            exact hN6
                          case measure => simp [intOf]; omega
                        · obtain rfl : k = (3 + v2) := by omega
                          go_wp2_with fail
                          have hz12 := K12.size
                          have hz11 := K1011.size
                          have hzo := K9.size
                          refine ⟨⟨q5, b5, ra2, ca2, f, all ++ List.replicate ((3 + v2)) (ag), by rw [HLEN.out], hr11.kp K12 (by simpa using hgra), by rw [HLEN.out]; exact hN12, ?_, by omega, ?_, hf2, fun _ => by rw [HLEN.out]; omega, by rw [HLEN.out]; omega, HC.out⟩, by simp; omega⟩
                          · refine (K9.then (K1011.mono (fun y hy => .inl (by simp at hy ⊢; exact .inl hy)))).trans K12 (fun y hy => by simp at hy ⊢; omega)
                          · intro y hy
                            rcases List.mem_append.1 hy with h | h
                            · exact H15.out y h
                            · rw [List.eq_of_mem_replicate h]; omega
                  have h16i : ((sy : Int) == 16) = false := by simp; omega
                  by_cases h17e : sy = 17
                  · have h17i : ((sy : Int) == 17) = true := by simp; omega
                    have A11 := Lib.hid (ans_num (n := 3) (b := b3) hr10.le)
                    have HG := Lib.hid (get_calls g 3 s q3 b3 w10 hr10 (by omega))
                    have hv := numAt_lt s q3 3
                    generalize numAt s q3 3 = v2 at *
                    generalize min (q3 + 3) (8 * s.size) = q5 at *
                    generalize (b3 || decide (8 * s.size < q3 + 3)) = b5 at *
                    go_wp2_with fail
                    refine HG.out.mono ?_
                    rintro e w11 ⟨rfl, hr11, K11⟩
                    have hN11 := hN10.kp K11 (by simpa using Ne.symm hgra)
                    have K1011 := K10.then K11
                    have HC : RowKit.Hid (∀ y p' b', Ans (lenLoop m (na + 257 + (nb + 1)) f (all ++ List.replicate (3 + v2) 0)) s q5 b5 y p' b' → Ans (lenLoop m (na + 257 + (nb + 1)) 400 []) s q false y p' b') := Lib.hid (fun y p' b' h => by
                      refine HST.out y p' b' ?_
                      rw [if_neg h16, if_neg h16e, if_pos h17e]
                      exact Ans.next A11.out h)
                    go_upto_region 28 with fail
                    go_wp2_with fail
                    go_loopw [11, 113] (fun o kx wr2 => ∃ (k ra2 ca2 : Nat), kx = .int .i64 (k : Int) ∧ k ≤ (3 + v2) ∧ o = .slice (some ⟨ra2, 0, none⟩) (nn + k) ca2 ∧ Nums wr2 ra2 (.slice (some ⟨ra2, 0, none⟩) (nn + k) ca2) (all ++ List.replicate k 0) ∧ Kp [ra] w11 wr2 ∧ (ra2 = ra ∨ w11.heap.size ≤ ra2)) (fun _ kx _ => (3 + v2) - (intOf kx).toNat)
                    case atStart => exact ⟨0, ra, ca, rfl, by omega, by first | rfl | (rw [hn0]), by simpa using hN11, Kp.refl _ _, .inl rfl⟩
                    case round =>
                      obtain ⟨k, ra2, ca2, rfl, hk, rfl, hN12, K12, hra2⟩ := hrel
                      have hlen : (all ++ List.replicate k 0).length = nn + k := by rw [List.length_append, List.length_replicate, HNN.out]
                      have HLEN := Lib.hid hlen
                      clear hlen
                      by_cases hlt : k < (3 + v2)
                      · have hlt' : (k : Int) < (((3 + v2) : Nat) : Int) := by omega
                        have hlt2 : (k : Int) < 3 + (v2 : Int) := by omega
                        go_wp2_with (at_builtin; go_must (refine wpList_nat (x := 0) rfl _ _ rfl rfl hN12 rfl (by rw [HLEN.out]; omega) ?_); intro r6 c6 w6 hN6 hr6 hrl6 K6 hc1 hc2)
                        go_roundw
                        case rel =>
                          refine ⟨k + 1, r6, c6, by go_num, by omega, by first | (rw [HLEN.out]; rfl) | (rw [HNN.out]; rfl), ?_, K12.trans K6 (fun y hy => by simp at hy ⊢; omega), by have := K12.size; omega⟩
                          rw [HLEN.out] at hN6
                          rw [List.replicate_succ', ← List.append_assoc]
                          exact hN6
                        case measure => simp [intOf]; omega
                      · obtain rfl : k = (3 + v2) := by omega
                        go_wp2_with fail
                        have hz12 := K12.size
                        have hz11 := K1011.size
                        have hzo := K9.size
                        refine ⟨⟨q5, b5, ra2, ca2, f, all ++ List.replicate ((3 + v2)) (0), by rw [HLEN.out], hr11.kp K12 (by simpa using hgra), by rw [HLEN.out]; exact hN12, ?_, by omega, ?_, hf2, fun _ => by rw [HLEN.out]; omega, by rw [HLEN.out]; omega, HC.out⟩, by simp; omega⟩
                        · refine (K9.then (K1011.mono (fun y hy => .inl (by simp at hy ⊢; exact .inl hy)))).trans K12 (fun y hy => by simp at hy ⊢; omega)
                        · intro y hy
                          rcases List.mem_append.1 hy with h | h
                          · exact H15.out y h
                          · rw [List.eq_of_mem_replicate h]; omega
                  · have h17i : ((sy : Int) == 17) = false := by simp; omega
                    have A11 := Lib.hid (ans_num (n := 7) (b := b3) hr10.le)
                    have HG := Lib.hid (get_calls g 7 s q3 b3 w10 hr10 (by omega))
                    have hv := numAt_lt s q3 7
                    generalize numAt s q3 7 = v2 at *
                    generalize min (q3 + 7) (8 * s.size) = q5 at *
                    generalize (b3 || decide (8 * s.size < q3 + 7)) = b5 at *
                    go_wp2_with fail
                    refine HG.out.mono ?_
                    rintro e w11 ⟨rfl, hr11, K11⟩
                    have hN11 := hN10.kp K11 (by simpa using Ne.symm hgra)
                    have K1011 := K10.then K11
                    have HC : RowKit.Hid (∀ y p' b', Ans (lenLoop m (na + 257 + (nb + 1)) f (all ++ List.replicate (11 + v2) 0)) s q5 b5 y p' b' → Ans (lenLoop m (na + 257 + (nb + 1)) 400 []) s q false y p' b') := Lib.hid (fun y p' b' h => by
                      refine HST.out y p' b' ?_
                      rw [if_neg h16, if_neg h16e, if_neg h17e]
                      exact Ans.next A11.out h)
                    go_upto_region 28 with fail
                    go_wp2_with fail
                    go_loopw [11, 113] (fun o kx wr2 => ∃ (k ra2 ca2 : Nat), kx = .int .i64 (k : Int) ∧ k ≤ (11 + v2) ∧ o = .slice (some ⟨ra2, 0, none⟩) (nn + k) ca2 ∧ Nums wr2 ra2 (.slice (some ⟨ra2, 0, none⟩) (nn + k) ca2) (all ++ List.replicate k 0) ∧ Kp [ra] w11 wr2 ∧ (ra2 = ra ∨ w11.heap.size ≤ ra2)) (fun _ kx _ => (11 + v2) - (intOf kx).toNat)
                    case atStart => exact ⟨0, ra, ca, rfl, by omega, by first | rfl | (rw [hn0]), by simpa using hN11, Kp.refl _ _, .inl rfl⟩
                    case round =>
                      obtain ⟨k, ra2, ca2, rfl, hk, rfl, hN12, K12, hra2⟩ := hrel
                      have hlen : (all ++ List.replicate k 0).length = nn + k := by rw [List.length_append, List.length_replicate, HNN.out]
                      have HLEN := Lib.hid hlen
                      clear hlen
                      by_cases hlt : k < (11 + v2)
                      · have hlt' : (k : Int) < (((11 + v2) : Nat) : Int) := by omega
                        have hlt2 : (k : Int) < 11 + (v2 : Int) := by omega
                        go_wp2_with (at_builtin; go_must (refine wpList_nat (x := 0) rfl _ _ rfl rfl hN12 rfl (by rw [HLEN.out]; omega) ?_); intro r6 c6 w6 hN6 hr6 hrl6 K6 hc1 hc2)
                        go_roundw
                        case rel =>
                          refine ⟨k + 1, r6, c6, by go_num, by omega, by first | (rw [HLEN.out]; rfl) | (rw [HNN.out]; rfl), ?_, K12.trans K6 (fun y hy => by simp at hy ⊢; omega), by have := K12.size; omega⟩
                          rw [HLEN.out] at hN6
                          rw [List.replicate_succ', ← List.append_assoc]
                          exact hN6
                        case measure => simp [intOf]; omega
                      · obtain rfl : k = (11 + v2) := by omega
                        go_wp2_with fail
                        have hz12 := K12.size
                        have hz11 := K1011.size
                        have hzo := K9.size
                        refine ⟨⟨q5, b5, ra2, ca2, f, all ++ List.replicate ((11 + v2)) (0), by rw [HLEN.out], hr11.kp K12 (by simpa using hgra), by rw [HLEN.out]; exact hN12, ?_, by omega, ?_, hf2, fun _ => by rw [HLEN.out]; omega, by rw [HLEN.out]; omega, HC.out⟩, by simp; omega⟩
                        · refine (K9.then (K1011.mono (fun y hy => .inl (by simp at hy ⊢; exact .inl hy)))).trans K12 (fun y hy => by simp at hy ⊢; omega)
                        · intro y hy
                          rcases List.mem_append.1 hy with h | h
                          · exact H15.out y h
                          · rw [List.eq_of_mem_replicate h]; omega
              · have hw1' : ¬ (nn : Int) < (na : Int) + 257 + ((nb : Int) + 1) := by omega
                obtain ⟨f, rfl⟩ : ∃ f', f = f' + 1 := ⟨f - 1, by omega⟩
                have fr9 : ∀ i, wr.frozen? ⟨g, i, none⟩ = false := hr9.out.frozen
                by_cases heq : nn = na + 257 + (nb + 1)
                · have hne1 : ((nn : Int) != ((na : Int) + 257 + ((nb : Int) + 1))) = false := by simp; omega
                  have hne2 : ((nn : Int) == ((na : Int) + 257 + ((nb : Int) + 1))) = true := by simp; omega
                  cases b2 with
                  | true =>
                    go_wp2_with fail
                    go_ret2
                    exact .mk ⟨_, _, q2, true, [], [], rfl, ⟨hr9.out.set 2 (.bool true), hr9.le, hr9.sz⟩, HF3.out _ _ _ (Ans.next (x := all) (HF9.out all q2 true ⟨fun _ => .inl rfl, fun e => by cases e⟩) ⟨fun _ => .inl rfl, fun e => by cases e⟩), K09.set (.inl (by simp)) _, fun e => by cases e⟩
                  | false =>
                    have RA := hN9.row.1
                    have hb1 : (na : Int) + 257 ≤ (nn : Int) := by omega
                    have hb2 : (0 : Int) ≤ (na : Int) + 257 := by omega
                    have hcap : nn ≤ ca := hN9.row.2.2.1
                    have hb3 : (nn : Int) ≤ (ca : Int) := by omega
                    have hb4 : (na : Int) + 257 ≤ (ca : Int) := by omega
                    have ht1 : ((na : Int) + 257).toNat = na + 257 := by omega
                    go_wp2_with fail
                    go_quiet (fail)
                    go_wp2_with fail
                    go_ret2
                    have hll : (all.take (na + 257)).length = na + 257 := by rw [List.length_take, HNN.out]; omega
                    have hld : (all.drop (na + 257)).length = nb + 1 := by rw [List.length_drop, HNN.out]; omega
                    have OD := (On.refl wr).drewN nq
                    refine .mk ⟨_, _, q2, false, all.take (na + 257), all.drop (na + 257), rfl, hr9.on OD, HF3.out _ _ _ (Ans.next (x := all) (HF9.out all q2 false ?_) (Ans.ret _ _ _ _)), K09.drewN _, fun _ => ⟨ra, ca, ca - (na + 257), by rw [hll]; rfl, by rw [hll, hld]; rfl, by omega, by omega, by omega, by omega, ?_, ?_, fun y hy => H15.out y (List.mem_of_mem_take hy), fun y hy => H15.out y (List.mem_of_mem_drop hy), by have := K08.size; omega⟩⟩
                    · rw [lenLoop, if_pos (by rw [HNN.out]; omega), if_pos (by rw [HNN.out]; omega)]
                      exact Ans.ret _ _ _ _
                    · have := (RA.sub 0 (na + 257)).on OD
                      rw [List.drop_zero] at this
                      have e : i64s (all.take (na + 257)) = (i64s all).take (na + 257) := by unfold i64s; rw [List.map_take]
                      rw [e]; exact this
                    · have := (RA.sub (na + 257) (nb + 1)).on OD
                      have e : i64s (all.drop (na + 257)) = ((i64s all).drop (na + 257)).take (nb + 1) := by
                        rw [List.take_of_length_le (by rw [List.length_drop, i64s_length, HNN.out]; omega)]
                        unfold i64s; rw [List.map_drop]
                      rw [hll, e]; exact this
                · have hne1 : ((nn : Int) != ((na : Int) + 257 + ((nb : Int) + 1))) = true := by simp; omega
                  have hne2 : ((nn : Int) == ((na : Int) + 257 + ((nb : Int) + 1))) = false := by simp; omega
                  go_wp2_with fail
                  go_ret2
                  refine .mk ⟨_, _, q2, true, [], [], rfl, ⟨hr9.out.set 2 (.bool true), hr9.le, hr9.sz⟩, HF3.out _ _ _ (Ans.next (x := all) (HF9.out all q2 true ?_) ⟨fun _ => .inl rfl, fun e => by cases e⟩), K09.set (.inl (by simp)) _, fun e => by cases e⟩
                  rw [lenLoop, if_pos (by rw [HNN.out]; omega), if_neg (by rw [HNN.out]; omega)]
                  exact Ans.fail _ _ _ _ _
end Go.Proofs.YtncidljdfipigaaDoor.Wi

/- Lengths of codes that all know, in both programs. -/
namespace Go.Proofs.YtncidljdfipigaaDoor.Wi
open Go.RowKit Go.Proofs.YtncidljdfipigaaDoor.Mem Go.Proofs.YtncidljdfipigaaDoor.De
set_option linter.unusedVariables false
set_option linter.unusedSimpArgs false
theorem fill_step (l : List Nat) {n k : Nat} (hn : l.length = n) (hk : k < n) : (l.take k ++ List.replicate (n - k) 0).set k (l.getD k 0) = l.take (k + 1) ++ List.replicate (n - (k + 1)) 0 := by
  have hl : (l.take k).length = k := by rw [List.length_take]; omega
  rw [List.set_append_right _ _ (by omega), hl, Nat.sub_self, take_succ_getD l (by omega), List.append_assoc]
  obtain ⟨m, hm⟩ : ∃ m, n - k = m + 1 := ⟨n - k - 1, by omega⟩
  rw [hm, show n - (k + 1) = m from by omega, List.replicate_succ]
  rfl
theorem fixLit_at : ∀ k, k < 288 → fixLit.getD k 0 = if k < 144 then 8 else if k < 256 then 9 else if k < 280 then 7 else 8 := by decide +kernel
theorem fixLit_length : fixLit.length = 288 := by decide +kernel
theorem fixDist_length : fixDist.length = 32 := by decide +kernel
theorem fixDist_at : ∀ k, k < 32 → fixDist.getD k 0 = 5 := by decide +kernel
theorem fill_at (l : List Nat) {n k : Nat} (hn : l.length = n) (hk : k < n) : (l.take k ++ List.replicate (n - k) 0).length = n := by
  rw [List.length_append, List.length_take, List.length_replicate]; omega
set_option maxRecDepth 100000 in
set_option maxHeartbeats 1000000 in
theorem ifixed_calls (w : World) : Calls Tryd.prog 54 #[] w fun e w' => ∃ r1 r2, e = .returned (.tuple #[.slice (some ⟨r1, 0, none⟩) 288 288, .slice (some ⟨r2, 0, none⟩) 32 32]) ∧ RowO w' r1 0 3 (i64s fixLit) ∧ RowO w' r2 0 3 (i64s fixDist) ∧ w.heap.size ≤ r1 ∧ w.heap.size ≤ r2 ∧ On w w' := by
  have hfl := fixLit_length
  have hfa := fixLit_at
  have hdl := fixDist_length
  have hda := fixDist_at
  generalize fixLit = l at *
  generalize fixDist = d at *
  have HFL := Lib.hid hfl
  have HFA := Lib.hid hfa
  have HDL := Lib.hid hdl
  have HDA := Lib.hid hda
  clear hfl hfa hdl hda
  go_enter Tryd.func54, Tryd.ntmps54
  go_wp2_with (at_make; go_must (refine wpList_ints _ rfl _ _ rfl _ _ 288 rfl rfl rfl rfl (by omega) ?_); intro w1 hN1 O1 hlt1)
  generalize hA : w.heap.size = A at *
  have HA := Lib.hid hA
  clear hA
  go_loopw [9] (fun x wr => ∃ k : Nat, x = .int .i64 (k : Int) ∧ k ≤ 288 ∧ Nums wr A (.slice (some ⟨A, 0, none⟩) 288 288) (l.take k ++ List.replicate (288 - k) 0) ∧ Kp [A] w1 wr) (fun x _ => 288 - (intOf x).toNat)
  case atStart => exact ⟨0, rfl, by omega, hN1, Kp.refl _ _⟩
  case round =>
    obtain ⟨k, rfl, hk, hN, K⟩ := hrel
    by_cases hlt : k < 288
    · have hst := fill_step l HFL.out hlt
      rw [HFA.out k hlt] at hst
      have hll := fill_at l HFL.out hlt
      have R := hN.row.1
      have cB : wr.cell? ⟨A, k, none⟩ = some (.int .i64 ((l.take k ++ List.replicate (288 - k) 0).getD k 0 : Nat)) := R.cell (i64s_get (by rw [hll]; exact hlt))
      have fB : wr.frozen? ⟨A, k, none⟩ = false := R.frozen _
      have hset := fun x => hN.set k x
      generalize l.take k ++ List.replicate (288 - k) 0 = cur at *
      generalize cur.getD k 0 = y at *
      have hk1 : (k : Int) < 288 := by omega
      have HST := Lib.hid hst
      have HSET := Lib.hid hset
      clear hst hset hll
      have hfin : ∀ (x : Nat), (if k < 144 then 8 else if k < 256 then 9 else if k < 280 then 7 else 8) = x →
          (∃ k_1 : Nat, Value.int .i64 ((k : Int) + 1) = .int .i64 (k_1 : Int) ∧ k_1 ≤ 288 ∧ Nums (wr.setCell ⟨A, k, none⟩ (.int .i64 (x : Int))) A (.slice (some ⟨A, 0, none⟩) 288 288) (l.take k_1 ++ List.replicate (288 - k_1) 0) ∧ Kp [A] w1 (wr.setCell ⟨A, k, none⟩ (.int .i64 (x : Int)))) ∧
          288 - (intOf (.int .i64 ((k : Int) + 1))).toNat < 288 - (intOf (.int .i64 (k : Int))).toNat := by
        intro x hx
        have h1 := HSET.out x
        rw [← hx, HST.out] at h1
        rw [← hx]
        exact ⟨⟨k + 1, by go_num, by omega, h1, K.set (.inl (by simp)) _⟩, by simp [intOf]; omega⟩
      have HFIN := Lib.hid hfin
      clear hfin
      by_cases h1 : k < 144
      · have h1' : (k : Int) < 144 := by omega
        go_wp2_with fail
        exact HFIN.out 8 (by rw [if_pos h1])
      · have h1' : ¬ (k : Int) < 144 := by omega
        by_cases h2 : k < 256
        · have h2' : (k : Int) < 256 := by omega
          have h3' : ¬ (280 : Int) ≤ k := by omega
          go_wp2_with fail
          exact HFIN.out 9 (by rw [if_neg h1, if_pos h2])
        · have h2' : ¬ (k : Int) < 256 := by omega
          by_cases h3 : k < 280
          · have h3' : ¬ (280 : Int) ≤ k := by omega
            go_wp2_with fail
            exact HFIN.out 7 (by rw [if_neg h1, if_neg h2, if_pos h3])
          · have h3' : (280 : Int) ≤ k := by omega
            go_wp2_with fail
            exact HFIN.out 8 (by rw [if_neg h1, if_neg h2, if_neg h3])
    · obtain rfl : k = 288 := by omega
      have htk : l.take 288 ++ List.replicate (288 - 288) 0 = l := by rw [List.take_of_length_le (by rw [HFL.out]; exact Nat.le_refl _)]; simp
      rw [htk] at hN
      clear htk
      have R1 := hN.row.1.toO
      go_wp2_with (at_make; go_must (refine wpList_ints _ rfl _ _ rfl _ _ 32 rfl rfl rfl rfl (by omega) ?_); intro w2 hN2 O2 hlt2)
      have OW : On w wr := K.on O1 (fun x hx => by simp at hx; rw [hx, HA.out]; exact Nat.le_refl _)
      have hA2 := R1.lt
      have R1' := R1.on O2
      obtain ⟨wo, hwo⟩ : ∃ wo : World, wo = wr := ⟨_, rfl⟩
      subst hwo
      generalize hC : wo.heap.size = C at *
      have HC := Lib.hid hC
      clear hC
      have hOC := OW.size
      go_loopw [35] (fun x wp => ∃ k : Nat, x = .int .i64 (k : Int) ∧ k ≤ 32 ∧ Nums wp C (.slice (some ⟨C, 0, none⟩) 32 32) (d.take k ++ List.replicate (32 - k) 0) ∧ Kp [C] w2 wp) (fun x _ => 32 - (intOf x).toNat)
      case atStart => exact ⟨0, rfl, by omega, hN2, Kp.refl _ _⟩
      case round =>
        obtain ⟨k, rfl, hk, hM, K2⟩ := hrel
        by_cases hlt : k < 32
        · have hst := fill_step d HDL.out hlt
          rw [HDA.out k hlt] at hst
          have hll := fill_at d HDL.out hlt
          have R := hM.row.1
          have cB : wr.cell? ⟨C, k, none⟩ = some (.int .i64 ((d.take k ++ List.replicate (32 - k) 0).getD k 0 : Nat)) := R.cell (i64s_get (by rw [hll]; exact hlt))
          have fB : wr.frozen? ⟨C, k, none⟩ = false := R.frozen _
          have hset := hM.set k 5
          rw [hst] at hset
          generalize (d.take k ++ List.replicate (32 - k) 0).getD k 0 = y at *
          have hk1 : (k : Int) < 32 := by omega
          have HSET := Lib.hid hset
          clear hset hll hst
          go_wp2_with fail
          exact ⟨⟨k + 1, by go_num, by omega, HSET.out, K2.set (.inl (by simp)) _⟩, by simp [intOf]; omega⟩
        · obtain rfl : k = 32 := by omega
          have htk : d.take 32 ++ List.replicate (32 - 32) 0 = d := by rw [List.take_of_length_le (by rw [HDL.out]; exact Nat.le_refl _)]; simp
          rw [htk] at hM
          clear htk
          have R2 := hM.row.1.toO
          have R1'' := R1'.kp K2 (by simp; omega)
          go_wp2_with fail
          go_ret2
          exact ⟨A, C, rfl, R1'', R2, by rw [HA.out]; exact Nat.le_refl _, by rw [← HC.out]; exact hOC, K2.on (OW.call O2) (fun x hx => by simp at hx; rw [hx, ← HC.out]; exact hOC)⟩
set_option maxRecDepth 100000 in
set_option maxHeartbeats 1000000 in
theorem sfixed_calls (w : World) : Calls Tryd.prog 102 #[] w (GivesI w fixLit) := by
  have hfl := fixLit_length
  have hfa := fixLit_at
  generalize fixLit = l at *
  have HFL := Lib.hid hfl
  have HFA := Lib.hid hfa
  clear hfl hfa
  go_enter Tryd.func102, Tryd.ntmps102
  go_wp2_with fail
  have N0 := Nums.new w #[] [] rfl (by simp)
  have O0 := (On.refl w).alloc (.cells #[] 3)
  go_loopw [1, 2] (fun v x wr => ∃ (k r c : Nat), x = .int .i64 (k : Int) ∧ k ≤ 288 ∧ v = .slice (some ⟨r, 0, none⟩) k c ∧ Nums wr r (.slice (some ⟨r, 0, none⟩) k c) (l.take k) ∧ w.heap.size ≤ r ∧ r < wr.heap.size ∧ On w wr) (fun _ x _ => 288 - (intOf x).toNat)
  case atStart => exact ⟨0, w.heap.size, 0, rfl, by omega, rfl, N0, Nat.le_refl _, (Blk.new w _ _).lt, O0⟩
  case round =>
    obtain ⟨k, r, c, rfl, hk, rfl, hN, hrb, hrl, O⟩ := hrel
    by_cases hlt : k < 288
    · have hst := take_succ_getD l (show k < l.length by rw [HFL.out]; exact hlt)
      rw [HFA.out k hlt] at hst
      have hln : (l.take k).length = k := by rw [List.length_take, HFL.out]; omega
      generalize hcc : l.take k = cur at *
      have HCC := Lib.hid hcc
      have HST := Lib.hid hst
      have HLN := Lib.hid hln
      have hl1 : cur.length ≤ 1000000 := by omega
      have hon := O.size
      clear hcc hst hln
      by_cases h1 : k < 144
      · have h1' : (k : Int) < 144 := by omega
        go_wp2_with (at_builtin; go_must (refine wpList_nat (x := 8) rfl _ _ rfl rfl hN rfl hl1 ?_); intro r2 c2 w1 hN1 hr2 hrl2 K2 hc1 hc2)
        rw [HLN.out] at hN1
        exact ⟨⟨k + 1, r2, c2, by go_num, by omega, by rw [HLN.out], by rw [HST.out, if_pos h1]; exact hN1, by omega, hrl2, K2.on O (fun x hx => by simp at hx; omega)⟩, by simp [intOf]; omega⟩
      · have h1' : ¬ (k : Int) < 144 := by omega
        by_cases h2 : k < 256
        · have h2' : (k : Int) < 256 := by omega
          go_wp2_with (at_builtin; go_must (refine wpList_nat (x := 9) rfl _ _ rfl rfl hN rfl hl1 ?_); intro r2 c2 w1 hN1 hr2 hrl2 K2 hc1 hc2)
          rw [HLN.out] at hN1
          exact ⟨⟨k + 1, r2, c2, by go_num, by omega, by rw [HLN.out], by rw [HST.out, if_neg h1, if_pos h2]; exact hN1, by omega, hrl2, K2.on O (fun x hx => by simp at hx; omega)⟩, by simp [intOf]; omega⟩
        · have h2' : ¬ (k : Int) < 256 := by omega
          by_cases h3 : k < 280
          · have h3' : (k : Int) < 280 := by omega
            go_wp2_with (at_builtin; go_must (refine wpList_nat (x := 7) rfl _ _ rfl rfl hN rfl hl1 ?_); intro r2 c2 w1 hN1 hr2 hrl2 K2 hc1 hc2)
            rw [HLN.out] at hN1
            exact ⟨⟨k + 1, r2, c2, by go_num, by omega, by rw [HLN.out], by rw [HST.out, if_neg h1, if_neg h2, if_pos h3]; exact hN1, by omega, hrl2, K2.on O (fun x hx => by simp at hx; omega)⟩, by simp [intOf]; omega⟩
          · have h3' : ¬ (k : Int) < 280 := by omega
            go_wp2_with (at_builtin; go_must (refine wpList_nat (x := 8) rfl _ _ rfl rfl hN rfl hl1 ?_); intro r2 c2 w1 hN1 hr2 hrl2 K2 hc1 hc2)
            rw [HLN.out] at hN1
            exact ⟨⟨k + 1, r2, c2, by go_num, by omega, by rw [HLN.out], by rw [HST.out, if_neg h1, if_neg h2, if_neg h3]; exact hN1, by omega, hrl2, K2.on O (fun x hx => by simp at hx; omega)⟩, by simp [intOf]; omega⟩
    · obtain rfl : k = 288 := by omega
      have ht : l.take 288 = l := List.take_of_length_le (by rw [HFL.out]; exact Nat.le_refl _)
      rw [ht] at hN
      clear ht
      go_wp2_with fail
      go_ret
      exact ⟨r, c, by rw [HFL.out]; rfl, by rw [HFL.out]; exact hN, hrb, hrl, O⟩
set_option maxRecDepth 100000 in
set_option maxHeartbeats 1000000 in
theorem sfives_calls (w : World) : Calls Tryd.prog 103 #[] w (GivesI w fixDist) := by
  have hfl := fixDist_length
  have hfa := fixDist_at
  generalize fixDist = l at *
  have HFL := Lib.hid hfl
  have HFA := Lib.hid hfa
  clear hfl hfa
  go_enter Tryd.func103, Tryd.ntmps103
  go_wp2_with fail
  have N0 := Nums.new w #[] [] rfl (by simp)
  have O0 := (On.refl w).alloc (.cells #[] 3)
  go_loopw [1, 2] (fun v x wr => ∃ (k r c : Nat), x = .int .i64 (k : Int) ∧ k ≤ 32 ∧ v = .slice (some ⟨r, 0, none⟩) k c ∧ Nums wr r (.slice (some ⟨r, 0, none⟩) k c) (l.take k) ∧ w.heap.size ≤ r ∧ r < wr.heap.size ∧ On w wr) (fun _ x _ => 32 - (intOf x).toNat)
  case atStart => exact ⟨0, w.heap.size, 0, rfl, by omega, rfl, N0, Nat.le_refl _, (Blk.new w _ _).lt, O0⟩
  case round =>
    obtain ⟨k, r, c, rfl, hk, rfl, hN, hrb, hrl, O⟩ := hrel
    by_cases hlt : k < 32
    · have hst := take_succ_getD l (show k < l.length by rw [HFL.out]; exact hlt)
      rw [HFA.out k hlt] at hst
      have hln : (l.take k).length = k := by rw [List.length_take, HFL.out]; omega
      generalize hcc : l.take k = cur at *
      have HCC := Lib.hid hcc
      have HST := Lib.hid hst
      have HLN := Lib.hid hln
      have hl1 : cur.length ≤ 1000000 := by omega
      have hon := O.size
      clear hcc hst hln
      go_wp2_with (at_builtin; go_must (refine wpList_nat (x := 5) rfl _ _ rfl rfl hN rfl hl1 ?_); intro r2 c2 w1 hN1 hr2 hrl2 K2 hc1 hc2)
      rw [HLN.out] at hN1
      exact ⟨⟨k + 1, r2, c2, by go_num, by omega, by rw [HLN.out], by rw [HST.out]; exact hN1, by omega, hrl2, K2.on O (fun x hx => by simp at hx; omega)⟩, by simp [intOf]; omega⟩
    · obtain rfl : k = 32 := by omega
      have ht : l.take 32 = l := List.take_of_length_le (by rw [HFL.out]; exact Nat.le_refl _)
      rw [ht] at hN
      clear ht
      go_wp2_with fail
      go_ret
      exact ⟨r, c, by rw [HFL.out]; rfl, by rw [HFL.out]; exact hN, hrb, hrl, O⟩
end Go.Proofs.YtncidljdfipigaaDoor.Wi

/- The program unpacks a text: FlateGet. Conditions: the variable order as it is laid. -/
namespace Go.Proofs.YtncidljdfipigaaDoor.Wi
open Go.RowKit Go.Proofs.YtncidljdfipigaaDoor.Mem Go.Proofs.YtncidljdfipigaaDoor.Bt Go.Proofs.YtncidljdfipigaaDoor.Cd Go.Proofs.YtncidljdfipigaaDoor.De
set_option linter.unusedVariables false
set_option linter.unusedSimpArgs false
/-- What FlateGet answers. -/
def gotOf (s : ByteArray) : Value := match flate (chars s) with
  | some (o, n) => .tuple #[.string (strB o), .int .i64 (n : Int), .bool true]
  | none => .tuple #[.string ⟨#[]⟩, .int .i64 0, .bool false]
/-- What remains behind the parts. -/
def tailOf (o : List Nat) : Dec (List Nat) := next align fun _ => ret o
/-- Where the loop over parts stands. -/
structure Goes (s : ByteArray) (l : List Nat) (q : Nat) (last : Bool) : Prop where mk ::
  more : last = false → ∃ f, 6000 ≤ f + q ∧ next (parts f l) tailOf (rest s q) = whole (rest s 0)
  done : last = true → tailOf l (rest s q) = whole (rest s 0)
theorem Goes.start (s : ByteArray) : Goes s [] 0 false := ⟨fun _ => ⟨6000, by omega, rfl⟩, fun e => by cases e⟩
/-- One part has been taken: how it goes on. -/
theorem Goes.part {s : ByteArray} {l : List Nat} {q q3 t lb : Nat} (h : Goes s l q false) (hq : q ≤ 5600) (h1 : num 1 (rest s q) = some (lb, rest s (q + 1))) (h2 : num 2 (rest s (q + 1)) = some (t, rest s (q + 3))) :
    (body t l (rest s (q + 3)) = none → whole (rest s 0) = none) ∧ ∀ o, body t l (rest s (q + 3)) = some (o, rest s q3) → q + 3 ≤ q3 → Goes s o q3 (lb == 1) := by
  obtain ⟨f, hf, he⟩ := h.more rfl
  obtain ⟨f, rfl⟩ : ∃ g, f = g + 1 := ⟨f - 1, by omega⟩
  refine ⟨fun hb => ?_, fun o hb hle => ?_⟩
  · rw [← he]
    refine next_none ?_
    unfold parts
    refine next_none ?_
    unfold De.part
    rw [next_some h1, next_some h2]
    exact next_none hb
  · have e : De.part l (rest s q) = some ((o, lb), rest s q3) := by
      unfold De.part
      rw [next_some h1, next_some h2, next_some hb]; rfl
    have e2 : next (parts (f + 1) l) tailOf (rest s q) = next (if lb = 1 then ret o else parts f o) tailOf (rest s q3) := by
      unfold next
      have : parts (f + 1) l (rest s q) = (if lb = 1 then ret o else parts f o) (rest s q3) := by
        show next (De.part l) (fun p => if p.2 = 1 then ret p.1 else parts f p.1) (rest s q) = _
        rw [next_some e]
      rw [this]
    rw [e2] at he
    by_cases hl : lb = 1
    · refine ⟨fun h => by simp [hl] at h, fun _ => ?_⟩
      rw [if_pos hl] at he
      rw [← he]; rfl
    · refine ⟨fun _ => ⟨f, by omega, ?_⟩, fun h => by simp [hl] at h⟩
      rw [if_neg hl] at he
      exact he
theorem suf_le {α : Type} {d : Dec α} (L : De.Loc d) {s : ByteArray} {q q3 : Nat} {x : α} (h : d (rest s q) = some (x, rest s q3)) (h1 : q ≤ 8 * s.size) (h3 : q3 ≤ 8 * s.size) : q ≤ q3 := by
  obtain ⟨e, he⟩ := L.suf _ _ _ h
  have := congrArg List.length he
  rw [List.length_append, rest_length, rest_length] at this
  omega
theorem num_of {s : ByteArray} {q n x q1 : Nat} (h : Ans (num n) s q false x q1 false) : num n (rest s q) = some (x, rest s q1) := (h.good rfl).2
theorem flate_of {s : ByteArray} {o : List Nat} {q : Nat} (hs : s.size ≤ 700) (hq : q ≤ 8 * s.size) (h : whole (rest s 0) = some (o, rest s q)) : flate (chars s) = some (o, s.size - (8 * s.size - q) / 8) := by
  unfold flate
  rw [if_neg (by rw [chars_length]; omega)]
  have e : unpack (chars s) = rest s 0 := by unfold rest; rw [List.drop_zero]
  rw [e, h]
  simp only [chars_length, rest_length]
theorem flate_not {s : ByteArray} (h : whole (rest s 0) = none) : flate (chars s) = none := by
  unfold flate
  have e : unpack (chars s) = rest s 0 := by unfold rest; rw [List.drop_zero]
  rw [e, h]
  split <;> rfl
theorem Goes.none {s : ByteArray} {l : List Nat} {q : Nat} (h : Goes s l q false) (hq : q ≤ 5600) (hp : De.part l (rest s q) = Option.none) : whole (rest s 0) = Option.none := by
  obtain ⟨f, hf, he⟩ := h.more rfl
  obtain ⟨f, rfl⟩ : ∃ g, f = g + 1 := ⟨f - 1, by omega⟩
  rw [← he]
  refine next_none ?_
  unfold parts
  exact next_none hp
/-- One part, as the reader answers it. -/
theorem Goes.step {s : ByteArray} {l l' : List Nat} {q q1 q2 q3 lb t : Nat} {b1 b2 b3 : Bool} (h : Goes s l q false) (hq : q ≤ 5600) (A1 : Ans (num 1) s q false lb q1 b1) (A2 : Ans (num 2) s q1 b1 t q2 b2) (A3 : AnsO (body t l) s q2 b2 l' q3 b3)
    (e1 : b1 = false → q1 = q + 1) (e2 : b2 = false → q2 = q1 + 2) (hle : b3 = false → l'.length ≤ 300 → q2 ≤ q3) :
    (b3 = true → whole (rest s 0) = Option.none) ∧ (b3 = false → 300 < l'.length → whole (rest s 0) = Option.none) ∧ (b3 = false → l'.length ≤ 300 → Goes s l' q3 (lb == 1)) := by
  have hb2 : b2 = true → whole (rest s 0) = Option.none := fun e => by
    refine h.none hq ?_
    rcases (Ans.next A1 (k := fun _ => num 2) A2).bad e with c | c
    · cases c
    · unfold De.part
      cases hn : num 1 (rest s q) with
      | none => exact next_none hn
      | some y =>
        rw [next_some hn]
        rw [next_some hn] at c
        exact next_none c
  have hg : b2 = false → num 1 (rest s q) = some (lb, rest s (q + 1)) ∧ num 2 (rest s (q + 1)) = some (t, rest s (q + 3)) ∧ q2 = q + 3 := fun e => by
    obtain ⟨c1, c2⟩ := A2.good e
    obtain ⟨_, c3⟩ := A1.good c1
    have f1 := e1 c1
    have f2 := e2 e
    subst f1
    rw [show q2 = q + 3 from by omega] at c2
    exact ⟨c3, c2, by omega⟩
  have hgo : b2 = false → (body t l (rest s (q + 3)) = Option.none → whole (rest s 0) = Option.none) ∧ ∀ o, body t l (rest s (q + 3)) = some (o, rest s q3) → q + 3 ≤ q3 → Goes s o q3 (lb == 1) := fun e => by
    obtain ⟨n1, n2, _⟩ := hg e
    exact h.part hq n1 n2
  refine ⟨fun e => ?_, fun e hl => ?_, fun e hl => ?_⟩
  · rcases A3.bad e with c | c
    · exact hb2 c
    · cases hb : b2 with
      | true => exact hb2 hb
      | false => rw [(hg hb).2.2] at c; exact (hgo hb).1 c
  · obtain ⟨c1, _, c3⟩ := A3.good e
    have := c3 hl
    rw [(hg c1).2.2] at this
    exact (hgo c1).1 this
  · obtain ⟨c1, c2, _⟩ := A3.good e
    have h2 := c2 hl
    have h3 := hle e hl
    rw [(hg c1).2.2] at h2 h3
    exact (hgo c1).2 l' h2 h3
theorem By.new (w : World) : By (w.alloc (.cells #[] 5)) w.heap.size 0 [] := by
  refine ⟨⟨?_, fun g hg => by simp [Value.ownBlock] at hg; exact hg.symm⟩⟩
  have := World.ownsRow_lit w (base := 0) (e := 5) (size := 1) #[] 0 (Nat.zero_le _) (by unfold maxLen; omega) (by simp)
  exact this
/-- How far the loop still may go. -/
def farOf (s : ByteArray) (g : Nat) (w : World) (lb : Value) : Nat := (match w.cell? ⟨g, 1, none⟩ with | some y => 8 * s.size - (intOf y).toNat | none => 0) + (match lb with | .bool false => 1 | _ => 0)
theorem farOf_lt {w w' : World} {g q q' : Nat} {s : ByteArray} {b b' l' : Bool} (h : IR w g s q b) (h' : IR w' g s q' b') (hq : q + 3 ≤ q') : farOf s g w' (.bool l') < farOf s g w (.bool false) := by
  have h1 := h'.le
  unfold farOf
  rw [(h.out.cell 1).trans rfl, (h'.out.cell 1).trans rfl]
  have e : ∀ n : Nat, (intOf (.int .i64 (n : Int))).toNat = n := fun n => Int.toNat_natCast n
  show 8 * s.size - (intOf (.int .i64 (q' : Int))).toNat + _ < 8 * s.size - (intOf (.int .i64 (q : Int))).toNat + 1
  rw [e, e]
  cases l'
  · show 8 * s.size - q' + 1 < _
    omega
  · show 8 * s.size - q' + 0 < _
    omega
theorem far_of {s : ByteArray} {l l' : List Nat} {q q1 q2 q3 lb t : Nat} {b1 b2 : Bool} (A1 : Ans (num 1) s q false lb q1 b1) (A2 : Ans (num 2) s q1 b1 t q2 b2) (A3 : AnsO (body t l) s q2 b2 l' q3 false)
    (e1 : b1 = false → q1 = q + 1) (e2 : b2 = false → q2 = q1 + 2) (hle : l'.length ≤ 300 → q2 ≤ q3) : l'.length ≤ 300 → q + 3 ≤ q3 := fun h => by
  have c := (A3.good rfl).1
  have f2 := e2 c
  have f1 := e1 (A2.good c).1
  have := hle h
  omega
theorem ok_fix : okLens fixLit = true ∧ okLens fixDist = true := by decide +kernel
theorem fix_le : (∀ x ∈ fixLit, x ≤ 100000) ∧ ∀ x ∈ fixDist, x ≤ 100000 := by decide +kernel
/-- Lengths that may be bad, and what is packed by them. -/
def packed2 (l lit dist : List Nat) : Dec (List Nat) := if okLens lit = true ∧ okLens dist = true then packed lit dist 302 l else De.bad
theorem body_fix (l : List Nat) : body 1 l = packed2 l fixLit fixDist := by
  unfold packed2
  rw [if_pos ok_fix]; rfl
theorem body_own (l : List Nat) : body 2 l = next ownRaw (fun p => packed2 l p.1 p.2) := by
  funext bs
  exact own_raw (fun p => packed p.1 p.2 302 l) bs
theorem packed_any (g r cap n : Nat) (s : ByteArray) (p : Nat) (b : Bool) (l lit dist : List Nat) (v1 v2 : Value) (w : World) (hw : IR w g s p b) (hb : By w r cap l) (hn : l.length = n) (hn2 : n ≤ 300) (hgr : g ≠ r)
    (H : b = false → ∃ gl ol nl cl gd od nd cd : Nat, v1 = .slice (some ⟨gl, ol, none⟩) nl cl ∧ v2 = .slice (some ⟨gd, od, none⟩) nd cd ∧ RowO w gl ol 3 (i64s lit) ∧ RowO w gd od 3 (i64s dist) ∧ lit.length = nl ∧ dist.length = nd ∧ nl ≤ cl ∧ nd ≤ cd ∧
      (∀ x ∈ lit, x ≤ 100000) ∧ (∀ x ∈ dist, x ≤ 100000) ∧ nl ≤ 288 ∧ nd ≤ 300 ∧ (gl ≠ g ∧ gl ≠ r) ∧ (gd ≠ g ∧ gd ≠ r)) :
    Calls Tryd.prog 55 #[.pointer (some ⟨g, 0, none⟩), .slice (some ⟨r, 0, none⟩) n cap, v1, v2] w fun e w' => ∃ v, e = .returned v ∧ Out (packed2 l lit dist) s p b g r w v w' := by
  cases b with
  | true =>
    refine (rpacked_bad g s p _ _ _ w hw).mono ?_
    rintro e w' ⟨rfl, h1, K⟩
    exact ⟨_, rfl, ⟨p, true, r, cap, l, h1, K.mono (fun y hy => .inl (by simp at hy ⊢; exact .inl hy)), .inl rfl, ⟨fun _ => .inl rfl, fun e => by cases e⟩, fun e => by cases e⟩⟩
  | false =>
    obtain ⟨gl, ol, nl, cl, gd, od, nd, cd, rfl, rfl, h1, h2, h3, h4, h5, h6, h7, h8, h9, h10, h11, h12⟩ := H rfl
    unfold packed2
    by_cases hok : okLens lit = true ∧ okLens dist = true
    · rw [if_pos hok]
      exact rpacked_calls g r cap n gl ol nl cl gd od nd cd s p l lit dist w hw hb hn hn2 hgr h1 h2 h3 h4 h5 h6 h7 h8 h9 h10 h11 h12 hok.1 hok.2
    · rw [if_neg hok]
      refine (rpacked_not g gl ol nl cl gd od nd cd s p lit dist _ w hw h1 h2 h3 h4 h5 h6 h7 h8 (by omega) (by omega) hok).mono ?_
      rintro e w' ⟨rfl, k1, K⟩
      exact ⟨_, rfl, ⟨p, true, r, cap, l, k1, K.mono (fun y hy => .inl (by simp at hy ⊢; exact .inl hy)), .inl rfl, ⟨fun _ => .inr rfl, fun e => by cases e⟩, fun e => by cases e⟩⟩
set_option maxRecDepth 100000 in
set_option maxHeartbeats 2000000 in
theorem flateget_calls (x : Addr) (s : ByteArray) (w : World) (hO : Ord w x) :
    Calls Tryd.prog 24 #[.string s] w fun e w' => e = .returned (gotOf s) ∧ On w w' := by
  by_cases h7 : 700 < s.size
  · have h7' : (700 : Int) < s.size := by omega
    have HR : RowKit.Hid (gotOf s = .tuple #[.string ⟨#[]⟩, .int .i64 0, .bool false]) := Lib.hid (by unfold gotOf flate; rw [if_pos (by rw [chars_length]; exact h7)])
    go_enter Tryd.func24, Tryd.ntmps24
    go_wp2_with fail
    go_ret3
    exact ⟨by rw [HR.out]; rfl, On.refl _⟩
  have h7' : ¬ (700 : Int) < s.size := by omega
  go_enter Tryd.func24, Tryd.ntmps24
  have BR := Blk.new w 54 #[.string s, .int .i64 0, .bool false]
  have OR := (On.refl w).alloc (.cells #[.string s, .int .i64 0, .bool false] 54)
  go_wp2_with fail
  have hw1 : IR (w.alloc (.cells #[.string s, .int .i64 0, .bool false] 54)) w.heap.size s 0 false := ⟨BR, by omega, by omega⟩
  have hO1 := hO.kp (Kp.of [] OR) (by simp) (by simp)
  have hGlt := hO.glt
  have hXlt := hO.lt
  have hz1 := OR.size
  have hg1 := BR.lt
  have hsz1 : (w.alloc (.cells #[.string s, .int .i64 0, .bool false] 54)).heap.size = w.heap.size + 1 := Array.size_push _
  generalize hg : w.heap.size = g at *
  generalize w.alloc (.cells #[.string s, .int .i64 0, .bool false] 54) = w1 at *
  have B2 := By.new w1
  have O2 := (On.refl w1).alloc (.cells #[] 5)
  rw [hsz1] at B2
  have hw2 := hw1.on O2
  have hO2 := hO1.kp (Kp.of [] O2) (by simp) (by simp)
  generalize w1.alloc (.cells #[] 5) = w2 at *
  go_loopw [6, 7] (fun o lb wr => ∃ (q r cap : Nat) (l : List Nat) (last : Bool), o = .slice (some ⟨r, 0, none⟩) l.length cap ∧ lb = .bool last ∧ IR wr g s q false ∧ By wr r cap l ∧ Kp [g, g + 1] w2 wr ∧ (r = g + 1 ∨ w2.heap.size ≤ r) ∧ l.length ≤ 300 ∧ Goes s l q last) (fun _ lb wr => farOf s g wr lb)
  case atStart => exact ⟨0, g + 1, 0, [], false, rfl, rfl, hw2, B2, Kp.refl _ _, .inl rfl, by simp, Goes.start s⟩
  case round =>
    obtain ⟨q, r, cap, l, last, rfl, rfl, hr, hB, K, hra, hl3, G⟩ := hrel
    have hgr : g ≠ r := by have := O2.size; omega
    cases last with
    | true =>
      have HE := Lib.hid (reven_calls g s q false wr hr)
      have AE := Lib.hid (ans_align (b := false) hr.le)
      go_wp2_with fail
      refine HE.out.mono ?_
      rintro e w3 ⟨rfl, hr3, K3⟩
      have hB3 := hB.kp K3 (by simpa using Ne.symm hgr)
      have d1 := (hr3.out.cell 1).trans rfl
      have d2 := (hr3.out.cell 2).trans rfl
      have KW : Kp [g, g + 1] w2 w3 := K.then (K3.mono (fun y hy => .inl (by simp at hy ⊢; exact .inl hy)))
      have OW : On w w3 := KW.on (OR.call O2) (fun y hy => by simp at hy; omega)
      have hqe := hr3.le
      cases hp : padOk s q with
      | false =>
        rw [hp] at AE d2
        have hfl : flate (chars s) = none := flate_not (by
          rw [← G.done rfl]
          rcases AE.out.bad rfl with e | e
          · cases e
          · exact next_none e)
        have HR : RowKit.Hid (gotOf s = .tuple #[.string ⟨#[]⟩, .int .i64 0, .bool false]) := Lib.hid (by unfold gotOf; rw [hfl])
        clear hfl
        go_wp2_with fail
        go_ret3
        exact ⟨by rw [HR.out]; rfl, OW⟩
      | true =>
        rw [hp] at AE d2
        have hfl := flate_of (o := l) (q := evenAt q) (by omega) hqe (by rw [← G.done rfl]; exact next_some (AE.out.good rfl).2)
        have e8 : s.size - (8 * s.size - evenAt q) / 8 = evenAt q / 8 := by unfold evenAt at *; omega
        rw [e8] at hfl
        have HR : RowKit.Hid (gotOf s = .tuple #[.string (strB l), .int .i64 ((evenAt q / 8 : Nat) : Int), .bool true]) := Lib.hid (by unfold gotOf; rw [hfl])
        clear hfl e8
        have cv := bytes_conv hB3.out
        have cvd := fun n => bytes_conv (hB3.on ((On.refl w3).drewN n)).out
        have cvr := bytes_conv (hB3.on ((On.refl w3).drew)).out
        have e1 : Int.tdiv ((evenAt q : Nat) : Int) 8 = ((evenAt q / 8 : Nat) : Int) := tdiv_nat (evenAt q) 8
        have e2 : IntKind.i64.wrap (((evenAt q : Nat) : Int) / 8) = ((evenAt q / 8 : Nat) : Int) := by rw [IntKind.wrap_i64]; omega
        have hn8 : evenAt q / 8 ≤ 1000000 := by omega
        generalize evenAt q / 8 = n8 at *
        generalize evenAt q = qe at *
        go_wp2_with fail
        go_quiet (fail)
        go_wp2_with fail
        go_ret3
        exact ⟨by rw [HR.out]; rfl, OW.drewN _⟩
    | false =>
      have HE := Lib.hid (bit_calls g s q false wr hr)
      have A1 := Lib.hid (ans_num (n := 1) (b := false) hr.le)
      have hv1 := numAt_lt s q 1
      have hqle := hr.le
      obtain ⟨q1, hq1⟩ : ∃ q1, min (q + 1) (8 * s.size) = q1 := ⟨_, rfl⟩
      obtain ⟨b1, hb1⟩ : ∃ b1, (false || decide (8 * s.size < q + 1)) = b1 := ⟨_, rfl⟩
      have E1 : RowKit.Hid (b1 = false → q1 = q + 1) := Lib.hid (fun e => by rw [e] at hb1; simp at hb1; omega)
      rw [hq1, hb1] at A1 HE
      clear hq1 hb1
      generalize numAt s q 1 = lb at *
      go_wp2_with fail
      refine HE.out.mono ?_
      rintro e w3 ⟨rfl, hr3, K3⟩
      have HE2 := Lib.hid (get_calls g 2 s q1 b1 w3 hr3 (by omega))
      have A2 := Lib.hid (ans_num (n := 2) (b := b1) hr3.le)
      have hv2 := numAt_lt s q1 2
      obtain ⟨q2, hq2⟩ : ∃ q2, min (q1 + 2) (8 * s.size) = q2 := ⟨_, rfl⟩
      obtain ⟨b2, hb2⟩ : ∃ b2, (b1 || decide (8 * s.size < q1 + 2)) = b2 := ⟨_, rfl⟩
      have E2 : RowKit.Hid (b2 = false → q2 = q1 + 2) := Lib.hid (fun e => by rw [e] at hb2; simp at hb2; omega)
      rw [hq2, hb2] at A2 HE2
      clear hq2 hb2
      generalize numAt s q1 2 = t at *
      go_wp2_with fail
      refine HE2.out.mono ?_
      rintro e w4 ⟨rfl, hr4, K4⟩
      have K34 := K3.then K4
      have hB4 := hB.kp K34 (by simpa using Ne.symm hgr)
      have HGS := Lib.hid (fun l' q3 b3 A3 h3 => G.step (l' := l') (q3 := q3) (b3 := b3) (by omega) A1.out A2.out A3 E1.out E2.out h3)
      have KA := K.then (K34.mono (fun y hy => .inl (by simp at hy ⊢; exact .inl hy)))
      have hz4 := KA.size
      have hz34 := K34.size
      by_cases ht0 : t = 0
      · subst ht0
        go_wp2_with fail
        refine (rstored_calls g r cap l.length s q2 b2 l w4 hr4 hB4 rfl hl3 hgr).mono ?_
        rintro e w5 ⟨v, rfl, ⟨q3, b3, r3, cap3, l3, hr5, K5, hr3', A3, hgood⟩⟩
        have KW : Kp [g, g + 1] w2 w5 := KA.trans K5 (fun y hy => by simp at hy ⊢; omega)
        obtain ⟨s1, s2, s3⟩ := HGS.out l3 q3 b3 A3 (fun e h => suf_le (Loc.stored l) ((A3.good e).2.1 h) hr4.le hr5.le)
        have S1 := Lib.hid s1
        have S2 := Lib.hid s2
        have S3 := Lib.hid s3
        clear s1 s2 s3
        have S4 := Lib.hid (fun (e : b3 = false) => far_of A1.out A2.out (e ▸ A3) E1.out E2.out (fun h => suf_le (Loc.stored l) ((A3.good e).2.1 h) hr4.le hr5.le))
        have d5 := (hr5.out.cell 2).trans rfl
        have OW : On w w5 := KW.on (OR.call O2) (fun y hy => by simp at hy; omega)
        cases b3 with
        | true =>
          go_wp2_with fail
          go_ret3
          exact ⟨by unfold gotOf; rw [flate_not (by first | exact S1.out rfl | exact S1.out trivial)]; rfl, OW⟩
        | false =>
          obtain ⟨rfl, hB5, hl5⟩ := hgood rfl
          by_cases hl6 : 300 < l3.length
          · have hl6' : (300 : Int) < (l3.length : Int) := by omega
            go_wp2_with fail
            go_ret3
            exact ⟨by unfold gotOf; rw [flate_not (by first | exact S2.out rfl hl6 | exact S2.out trivial hl6)]; rfl, OW⟩
          · have hl6' : decide ((300 : Int) < (l3.length : Int)) = false := by simp; omega
            have G5 : RowKit.Hid (Goes s l3 q3 (lb == 1)) := Lib.hid (by first | exact S3.out rfl (by omega) | exact S3.out trivial (by omega))
            have FR : RowKit.Hid (farOf s g w5 (.bool (lb == 1)) < farOf s g wr (.bool false)) := Lib.hid (farOf_lt hr hr5 (by first | exact S4.out rfl (by omega) | exact S4.out trivial (by omega)))
            have RA3 : RowKit.Hid (r3 = g + 1 ∨ w2.heap.size ≤ r3) := Lib.hid (by omega)
            go_wp2_with fail
            have hlb : Value.bool ((lb : Int) == 1) = Value.bool (lb == 1) := by congr 1; rw [Bool.eq_iff_iff]; simp; omega
            rw [hlb]
            exact ⟨⟨q3, r3, cap3, l3, lb == 1, rfl, rfl, hr5, hB5, KW, RA3.out, by omega, G5.out⟩, FR.out⟩
      by_cases ht1 : t = 1
      · subst ht1
        go_wp2_with fail
        refine (ifixed_calls w4).mono ?_
        rintro e wf ⟨ra, rb, rfl, RA, RB, ra1, rb1, Of⟩
        have hzf := Of.size
        have hg4 := hr4.out.lt
        have hr4l := hB4.lt
        go_wp2_with fail
        refine (packed_any g r cap l.length s q2 b2 l fixLit fixDist _ _ wf (hr4.on Of) (hB4.on Of) rfl hl3 hgr (fun _ => ⟨ra, 0, 288, 288, rb, 0, 32, 32, rfl, rfl, RA, RB, fixLit_length, fixDist_length, by omega, by omega, fix_le.1, fix_le.2, by omega, by omega, ⟨by omega, by omega⟩, ⟨by omega, by omega⟩⟩)).mono ?_
        rintro e w5 ⟨v, rfl, ⟨q3, b3, r3, cap3, l3, hr5, K5, hr3', A3, hgood⟩⟩
        rw [← body_fix] at A3
        have KW : Kp [g, g + 1] w2 w5 := (KA.then (Kp.of _ Of)).trans K5 (fun y hy => by simp at hy ⊢; omega)
        obtain ⟨s1, s2, s3⟩ := HGS.out l3 q3 b3 A3 (fun e h => suf_le (Loc.body 1 l) ((A3.good e).2.1 h) hr4.le hr5.le)
        have S1 := Lib.hid s1
        have S2 := Lib.hid s2
        have S3 := Lib.hid s3
        clear s1 s2 s3
        have S4 := Lib.hid (fun (e : b3 = false) => far_of A1.out A2.out (e ▸ A3) E1.out E2.out (fun h => suf_le (Loc.body 1 l) ((A3.good e).2.1 h) hr4.le hr5.le))
        have d5 := (hr5.out.cell 2).trans rfl
        have OW : On w w5 := KW.on (OR.call O2) (fun y hy => by simp at hy; omega)
        cases b3 with
        | true =>
          go_wp2_with fail
          go_ret3
          exact ⟨by unfold gotOf; rw [flate_not (by first | exact S1.out rfl | exact S1.out trivial)]; rfl, OW⟩
        | false =>
          obtain ⟨rfl, hB5, hl5⟩ := hgood rfl
          by_cases hl6 : 300 < l3.length
          · have hl6' : (300 : Int) < (l3.length : Int) := by omega
            go_wp2_with fail
            go_ret3
            exact ⟨by unfold gotOf; rw [flate_not (by first | exact S2.out rfl hl6 | exact S2.out trivial hl6)]; rfl, OW⟩
          · have hl6' : decide ((300 : Int) < (l3.length : Int)) = false := by simp; omega
            have G5 : RowKit.Hid (Goes s l3 q3 (lb == 1)) := Lib.hid (by first | exact S3.out rfl (by omega) | exact S3.out trivial (by omega))
            have FR : RowKit.Hid (farOf s g w5 (.bool (lb == 1)) < farOf s g wr (.bool false)) := Lib.hid (farOf_lt hr hr5 (by first | exact S4.out rfl (by omega) | exact S4.out trivial (by omega)))
            have RA3 : RowKit.Hid (r3 = g + 1 ∨ w2.heap.size ≤ r3) := Lib.hid (by omega)
            go_wp2_with fail
            have hlb : Value.bool ((lb : Int) == 1) = Value.bool (lb == 1) := by congr 1; rw [Bool.eq_iff_iff]; simp; omega
            rw [hlb]
            exact ⟨⟨q3, r3, cap3, l3, lb == 1, rfl, rfl, hr5, hB5, KW, RA3.out, by omega, G5.out⟩, FR.out⟩
      by_cases ht2 : t = 2
      · subst ht2
        go_wp2_with fail
        have hO4 := hO2.kp KA (by simp; omega) (by simp; omega)
        refine (rlens_calls g x s q2 b2 w4 hr4 hO4 (by omega) (by omega)).mono ?_
        rintro e wf ⟨v1, v2, qf, bf, lit, dist, rfl, hrf, Af, Kf, hlens⟩
        have hzf := Kf.size
        have hg4 := hr4.out.lt
        have hr4l := hB4.lt
        have hBf := hB4.kp Kf (by simpa using Ne.symm hgr)
        go_wp2_with fail
        refine (packed_any g r cap l.length s qf bf l lit dist _ _ wf hrf hBf rfl hl3 hgr (fun e => by
          obtain ⟨rr, n, c, rfl, rfl, h1, h2, h3, h4, R1, R2, m1, m2, h5⟩ := hlens e
          exact ⟨rr, 0, lit.length, n, rr, lit.length, dist.length, c, rfl, rfl, R1, R2, rfl, rfl, h3, h4, fun y hy => by have := m1 y hy; omega, fun y hy => by have := m2 y hy; omega, by omega, by omega, ⟨by omega, by omega⟩, ⟨by omega, by omega⟩⟩)).mono ?_
        rintro e w5 ⟨v, rfl, ⟨q3, b3, r3, cap3, l3, hr5, K5, hr3', A3', hgood⟩⟩
        have A3 : AnsO (body 2 l) s q2 b2 l3 q3 b3 := by rw [body_own]; exact AnsO.next Af A3'
        have KW : Kp [g, g + 1] w2 w5 := (KA.then (Kf.mono (fun y hy => .inl (by simp at hy ⊢; exact .inl hy)))).trans K5 (fun y hy => by simp at hy ⊢; omega)
        obtain ⟨s1, s2, s3⟩ := HGS.out l3 q3 b3 A3 (fun e h => suf_le (Loc.body 2 l) ((A3.good e).2.1 h) hr4.le hr5.le)
        have S1 := Lib.hid s1
        have S2 := Lib.hid s2
        have S3 := Lib.hid s3
        clear s1 s2 s3
        have S4 := Lib.hid (fun (e : b3 = false) => far_of A1.out A2.out (e ▸ A3) E1.out E2.out (fun h => suf_le (Loc.body 2 l) ((A3.good e).2.1 h) hr4.le hr5.le))
        have d5 := (hr5.out.cell 2).trans rfl
        have OW : On w w5 := KW.on (OR.call O2) (fun y hy => by simp at hy; omega)
        cases b3 with
        | true =>
          go_wp2_with fail
          go_ret3
          exact ⟨by unfold gotOf; rw [flate_not (by first | exact S1.out rfl | exact S1.out trivial)]; rfl, OW⟩
        | false =>
          obtain ⟨rfl, hB5, hl5⟩ := hgood rfl
          by_cases hl6 : 300 < l3.length
          · have hl6' : (300 : Int) < (l3.length : Int) := by omega
            go_wp2_with fail
            go_ret3
            exact ⟨by unfold gotOf; rw [flate_not (by first | exact S2.out rfl hl6 | exact S2.out trivial hl6)]; rfl, OW⟩
          · have hl6' : decide ((300 : Int) < (l3.length : Int)) = false := by simp; omega
            have G5 : RowKit.Hid (Goes s l3 q3 (lb == 1)) := Lib.hid (by first | exact S3.out rfl (by omega) | exact S3.out trivial (by omega))
            have FR : RowKit.Hid (farOf s g w5 (.bool (lb == 1)) < farOf s g wr (.bool false)) := Lib.hid (farOf_lt hr hr5 (by first | exact S4.out rfl (by omega) | exact S4.out trivial (by omega)))
            have RA3 : RowKit.Hid (r3 = g + 1 ∨ w2.heap.size ≤ r3) := Lib.hid (by omega)
            go_wp2_with fail
            have hlb : Value.bool ((lb : Int) == 1) = Value.bool (lb == 1) := by congr 1; rw [Bool.eq_iff_iff]; simp; omega
            rw [hlb]
            exact ⟨⟨q3, r3, cap3, l3, lb == 1, rfl, rfl, hr5, hB5, KW, RA3.out, by omega, G5.out⟩, FR.out⟩
      · have hb0 : body t l = De.bad := by unfold body; rw [if_neg ht0, if_neg ht1, if_neg ht2]
        have FN : RowKit.Hid (flate (chars s) = none) := Lib.hid (flate_not ((HGS.out l q2 true ⟨fun _ => .inr (by rw [hb0]; rfl), fun e => by cases e⟩ (fun e => by cases e)).1 rfl))
        have KW : Kp [g, g + 1] w2 (w4.setCell ⟨g, 2, none⟩ (.bool true)) := KA.set (.inl (by simp)) _
        have OW : On w (w4.setCell ⟨g, 2, none⟩ (.bool true)) := KW.on (OR.call O2) (fun y hy => by simp at hy; omega)
        have fr : ∀ i, w4.frozen? ⟨g, i, none⟩ = false := hr4.out.frozen
        have d2 := (hr4.out.cell 2).trans rfl
        go_wp2_with fail
        go_ret3
        exact ⟨by unfold gotOf; rw [FN.out]; rfl, OW⟩
end Go.Proofs.YtncidljdfipigaaDoor.Wi

/- The program tells how a text is packed: FlateKind. Conditions: the variable order as it is laid. -/
namespace Go.Proofs.YtncidljdfipigaaDoor.Wi
open Go.RowKit Go.Proofs.YtncidljdfipigaaDoor.Mem Go.Proofs.YtncidljdfipigaaDoor.Bt Go.Proofs.YtncidljdfipigaaDoor.Cd Go.Proofs.YtncidljdfipigaaDoor.De
set_option linter.unusedVariables false
set_option linter.unusedSimpArgs false
/-- What FlateKind answers. -/
def kindOf (t : List Nat) : Int := match flate t with
  | some _ => ((t.getD 0 0 / 2 % 4 : Nat) : Int)
  | none => -1
theorem flate_nil : flate [] = none := by
  cases h : flate [] with
  | none => rfl
  | some p =>
    exfalso
    obtain ⟨_, _, hw⟩ := flate_inv (o := p.1) (n := p.2) h
    obtain ⟨x, r1, h1, h2⟩ := next_inv hw
    obtain ⟨x, r1, h1, h2⟩ := next_inv h1
    obtain ⟨x, r1, h1, h2⟩ := next_inv h1
    cases h1
theorem bits_kind : ∀ b : Nat, b < 256 → Go.bits .and .i64 ((b : Int) / 2) 3 = ((b / 2 % 4 : Nat) : Int) := by decide +kernel
set_option maxRecDepth 100000 in
theorem flatekind_calls (x : Addr) (s : ByteArray) (w : World) (hO : Ord w x) :
    Calls Tryd.prog 25 #[.string s] w fun e w' => e = .returned (.int .i64 (kindOf (chars s))) ∧ On w w' := by
  have HC := Lib.hid (flateget_calls x s w hO)
  go_enter Tryd.func25, Tryd.ntmps25
  go_wp2_with fail
  refine HC.out.mono ?_
  rintro e w1 ⟨rfl, O⟩
  cases hf : flate (chars s) with
  | none =>
    have HG : RowKit.Hid (gotOf s = .tuple #[.string ⟨#[]⟩, .int .i64 0, .bool false]) := Lib.hid (by unfold gotOf; rw [hf])
    have HK : RowKit.Hid (kindOf (chars s) = -1) := Lib.hid (by unfold kindOf; rw [hf])
    rw [HG.out]
    clear hf
    go_wp2_with fail
    go_ret
    exact ⟨by rw [HK.out]; rfl, O⟩
  | some p =>
    have h0 : 0 < s.size := by
      rcases Nat.eq_zero_or_pos s.size with h | h
      · have : chars s = [] := List.eq_nil_of_length_eq_zero (by rw [chars_length]; exact h)
        rw [this, flate_nil] at hf; cases hf
      · exact h
    have HG : RowKit.Hid (gotOf s = .tuple #[.string (strB p.1), .int .i64 (p.2 : Int), .bool true]) := Lib.hid (by unfold gotOf; rw [hf])
    have HK : RowKit.Hid (kindOf (chars s) = ((s[0].toNat / 2 % 4 : Nat) : Int)) := Lib.hid (by unfold kindOf; rw [hf]; simp only []; rw [chars_at s h0])
    rw [HG.out]
    clear hf
    have hb := s[0].toNat_lt
    have h0' : (0 : Int) < s.size := by omega
    go_wp2_with fail
    go_ret
    exact ⟨by rw [HK.out, ← bits_kind _ hb]; rfl, O⟩
end Go.Proofs.YtncidljdfipigaaDoor.Wi

/- The draws' reader: each pick is some number below its bound; the reader's block alone changes. Conditions: the counts of picks are small. -/
namespace Go.Proofs.YtncidljdfipigaaDoor.Draw
open Go.RowKit Go.Proofs.YtncidljdfipigaaDoor.Mem
set_option linter.unusedVariables false
set_option linter.unusedSimpArgs false
theorem w64 {x : Int} (h1 : -9223372036854775808 ≤ x) (h2 : x < 9223372036854775808) : wrap64 x = x := by unfold wrap64; omega
theorem wr_i64 (n : Int) (h₀ : 0 ≤ n) (h₁ : n < 2 ^ 63) : IntKind.i64.wrap n = n := by rw [IntKind.wrap_i64]; omega
theorem xor_nn {x y : Int} (x0 : 0 ≤ x) (x1 : x < 9223372036854775808) (y0 : 0 ≤ y) (y1 : y < 9223372036854775808) : 0 ≤ Go.bits .xor .i64 x y := by
  obtain ⟨a, rfl⟩ := Int.eq_ofNat_of_zero_le x0
  obtain ⟨b, rfl⟩ := Int.eq_ofNat_of_zero_le y0
  have ha : a < 2 ^ 63 := by omega
  have hb : b < 2 ^ 63 := by omega
  have hx := Nat.xor_lt_two_pow ha hb
  have ha' : a % 2 ^ IntKind.i64.bits = a := by show a % 2 ^ 64 = a; omega
  have hb' : b % 2 ^ IntKind.i64.bits = b := by show b % 2 ^ 64 = b; omega
  simp only [Go.bits, BitVec.ofInt_natCast, BitVec.toNat_xor, BitVec.toNat_ofNat, ha', hb']
  rw [wr_i64 _ (by omega) (by omega)]
  omega
/-- Everything that was stays, but for block g. -/
structure But (g : Nat) (w w' : World) : Prop where mk :: (out : w.grownBy w' (some g))
theorem But.refl (g : Nat) (w : World) : But g w w := ⟨⟨rfl, rfl, rfl, Nat.le_refl _, fun _ _ _ => rfl⟩⟩
theorem But.trans {g : Nat} {a b c : World} (h : But g a b) (k : But g b c) : But g a c :=
  ⟨⟨k.out.os.trans h.out.os, k.out.tape.trans h.out.tape, k.out.output.trans h.out.output, Nat.le_trans h.out.size k.out.size, fun i hi hg => (k.out.block i (Nat.lt_of_lt_of_le hi h.out.size) hg).trans (h.out.block i hi hg)⟩⟩
theorem But.of {g : Nat} {a b : World} (h : On a b) : But g a b := ⟨⟨h.out.os, h.out.tape, h.out.output, h.out.size, fun i hi _ => h.out.block i hi⟩⟩
theorem But.set (g : Nat) (w : World) (i : Nat) (u : Value) : But g w (w.setCell ⟨g, i, none⟩ u) := by
  refine ⟨⟨rfl, rfl, rfl, ?_, fun j _ hj => Below.heap_setCell w ⟨g, i, none⟩ u j (fun e => hj (by rw [e]))⟩⟩
  simp [World.setCell]
theorem But.on {g : Nat} {a w w' : World} (h : But g w w') (O : On a w) (hg : a.heap.size ≤ g) : On a w' := O.grown h.out (fun _ e => by cases e; exact hg)
theorem But.blk {g k t : Nat} {w w' : World} {cs : Array Value} (h : But g w w') (b : Blk w k t cs) (hk : k ≠ g) : Blk w' k t cs := b.grown h.out (fun e => hk (by cases e; rfl))
theorem But.row {g k t : Nat} {w w' : World} {xs : List Value} (h : But g w w') (b : Row w k t xs) (hk : k ≠ g) : Row w' k t xs := by
  obtain ⟨cs, hb, ht⟩ := b.out
  exact ⟨cs, h.blk hb hk, ht⟩
theorem But.size {g : Nat} {w w' : World} (h : But g w w') : w.heap.size ≤ w'.heap.size := h.out.size
theorem But.cell {g : Nat} {w w' : World} (h : But g w w') {p : Addr} {v : Value} (hp : p.block ≠ g) (hc : w.cell? p = some v) : w'.cell? p = some v := by
  have hlt : p.block < w.heap.size := by
    rcases Nat.lt_or_ge p.block w.heap.size with hl | hl
    · exact hl
    · have h2 : w.heap[p.block]? = none := Array.getElem?_eq_none hl
      simp [World.cell?, h2] at hc
  rw [← hc]
  have hb := h.out.block p.block hlt (fun e => hp (by cases e; rfl))
  unfold World.cell?
  rw [hb]
/-- The reader at block g: at most B picks so far, its bytes lie elsewhere. -/
structure Rd (w : World) (g B : Nat) : Prop where mk :: (out : ∃ (p n cap : Nat) (A : Option Addr), Blk w g 85 #[.slice A n cap, .int .i64 p] ∧ p ≤ B ∧ n ≤ 2000 ∧ n ≤ cap ∧ cap ≤ maxLen ∧
  ∀ i, i < n → ∃ (x : Addr) (b : Nat), A = some x ∧ x.block < g ∧ b ≤ 255 ∧ w.cell? (x.add i) = some (.int .u8 b))
theorem Rd.lt {w : World} {g B : Nat} (h : Rd w g B) : g < w.heap.size := by
  obtain ⟨p, n, cap, A, hb, _⟩ := h.out
  exact hb.lt
theorem Rd.on {w w' : World} {g B : Nat} (h : Rd w g B) (O : On w w') : Rd w' g B := by
  obtain ⟨p, n, cap, A, hb, hp, hn, hc, hm, hcell⟩ := h.out
  refine ⟨p, n, cap, A, O.blk hb, hp, hn, hc, hm, fun i hi => ?_⟩
  obtain ⟨x, b, hx, hg, hb', hcl⟩ := hcell i hi
  have ha : (x.add i).block = x.block := by unfold Addr.add; split <;> rfl
  exact ⟨x, b, hx, hg, hb', (But.of (g := g) O).cell (by rw [ha]; exact Nat.ne_of_lt hg) hcl⟩
/-- Rows made behind the reader may change. -/
theorem Rd.grow {w w' : World} {g B : Nat} (h : Rd w g B) (hgl : g < w.heap.size) (hb : ∀ i, i ≤ g → w'.heap[i]? = w.heap[i]?) : Rd w' g B := by
  obtain ⟨p, n, cap, A, hb0, hp, hn, hc, hm, hcell⟩ := h.out
  refine ⟨p, n, cap, A, ⟨(hb g (Nat.le_refl _)).trans hb0.out⟩, hp, hn, hc, hm, fun i hi => ?_⟩
  obtain ⟨x, b, hx, hg, hb', hcl⟩ := hcell i hi
  have ha : (x.add i).block = x.block := by unfold Addr.add; split <;> rfl
  refine ⟨x, b, hx, hg, hb', ?_⟩
  rw [← hcl]
  unfold World.cell?
  rw [ha, hb x.block (Nat.le_of_lt hg)]
theorem Rd.le {w : World} {g B C : Nat} (h : Rd w g B) (hc : B ≤ C) : Rd w g C := by
  obtain ⟨p, n, cap, A, hb, hp, rest⟩ := h.out
  exact ⟨p, n, cap, A, hb, Nat.le_trans hp hc, rest⟩
set_option maxRecDepth 100000 in
theorem pick_calls (g B : Nat) (n : Nat) (w : World) (hr : Rd w g B) (hB : B ≤ 1000000000) (hn : 1 ≤ n) (hn2 : n ≤ 1000000000) :
    Calls Tryd.prog 81 #[.pointer (some ⟨g, 0, none⟩), .int .i64 n] w fun e w' => ∃ k : Nat, k < n ∧ e = .returned (.int .i64 k) ∧ Rd w' g (B + 1) ∧ But g w w' := by
  obtain ⟨p, len, cap, A, hb, hp, hlen, hcap, hm, hcell⟩ := hr.out
  have c0 : w.cell? ⟨g, 0, none⟩ = some (.slice A len cap) := (hb.cell 0).trans rfl
  have c1 : w.cell? ⟨g, 1, none⟩ = some (.int .i64 p) := (hb.cell 1).trans rfl
  have fr : ∀ i, w.frozen? ⟨g, i, none⟩ = false := hb.frozen
  have R' : Rd (w.setCell ⟨g, 1, none⟩ (.int .i64 (p + 1))) g (B + 1) := by
    refine ⟨p + 1, len, cap, A, ?_, by omega, hlen, hcap, hm, fun i hi => ?_⟩
    · exact hb.set 1 (.int .i64 ((p : Int) + 1))
    · obtain ⟨x, b, hx, hg, hb', hcl⟩ := hcell i hi
      have ha : (x.add i).block = x.block := by unfold Addr.add; split <;> rfl
      exact ⟨x, b, hx, hg, hb', (But.set g w 1 _).cell (by rw [ha]; exact Nat.ne_of_lt hg) hcl⟩
  have T : But g w (w.setCell ⟨g, 1, none⟩ (.int .i64 (p + 1))) := But.set g w 1 _
  have hcell' : ∀ i, i < len → ∃ (x : Addr) (b : Nat), A = some x ∧ b ≤ 255 ∧ (w.setCell ⟨g, 1, none⟩ (.int .i64 (p + 1))).cell? (x.add i) = some (.int .u8 b) := by
    intro i hi
    obtain ⟨x, b, hx, hg, hb', hcl⟩ := hcell i hi
    have ha : (x.add i).block = x.block := by unfold Addr.add; split <;> rfl
    exact ⟨x, b, hx, hb', T.cell (by rw [ha]; exact Nat.ne_of_lt hg) hcl⟩
  have hn' : (1 : Int) ≤ n := by omega
  have hn2' : (n : Int) ≤ 1000000000 := by omega
  have hp' : (p : Int) ≤ 1000000000 := by omega
  have HC := Lib.hid hcell'
  clear hcell hcell' hb hr
  by_cases h0 : len = 0
  · have h0' : ((len : Int) == 0) = true := by simp [h0]
    go_enter Tryd.func81, Tryd.ntmps81
    go_wp2_with fail
    go_ret
    exact ⟨0, by omega, rfl, R', T⟩
  have h0' : ((len : Int) == 0) = false := by simp [h0]
  by_cases h1 : p < len
  · obtain ⟨x, b, rfl, hb255, hcl⟩ := HC.out p h1
    have hb255' : (b : Int) ≤ 255 := by omega
    go_enter Tryd.func81, Tryd.ntmps81
    go_wp2_with fail
    go_ret
    exact ⟨b % n, Nat.mod_lt _ (by omega), by simp, R', T⟩
  · have hq := Nat.mod_lt p (show len > 0 by omega)
    have hq2 := Nat.mod_lt (p * 7 + 3) (show len > 0 by omega)
    have e1 : Int.tmod (p : Int) (len : Int) = ((p % len : Nat) : Int) := by
      rw [Int.tmod_eq_emod_of_nonneg (by omega)]; simp
    have e2 : Int.tmod ((p : Int) * 7 + 3) (len : Int) = (((p * 7 + 3) % len : Nat) : Int) := by
      rw [Int.tmod_eq_emod_of_nonneg (by omega)]; simp
    have e3 : Int.tdiv (p : Int) (len : Int) = ((p / len : Nat) : Int) := by
      rw [Int.tdiv_eq_ediv_of_nonneg (by omega)]; simp
    have hd : p / len ≤ p := Nat.div_le_self _ _
    generalize p % len = q at *
    generalize (p * 7 + 3) % len = q2 at *
    generalize p / len = d at *
    obtain ⟨x, b, rfl, hb255, hcl⟩ := HC.out q hq
    obtain ⟨x', b2, hx', hb2, hcl2⟩ := HC.out q2 hq2
    cases hx'
    have hb255' : (b : Int) ≤ 255 := by omega
    have hb2' : (b2 : Int) ≤ 255 := by omega
    have i1 : (q : Int) < len := by omega
    have i2 : (q2 : Int) < len := by omega
    have r1 : IntKind.i64.wrap ((p : Int) * 7) = (p : Int) * 7 := wr_i64 _ (by omega) (by omega)
    have r2 : IntKind.i64.wrap ((p : Int) * 7 + 3) = (p : Int) * 7 + 3 := wr_i64 _ (by omega) (by omega)
    have r3 : IntKind.i64.wrap ((b : Int) * 131) = (b : Int) * 131 := wr_i64 _ (by omega) (by omega)
    have r4 : IntKind.i64.wrap ((b2 : Int) * 1117) = (b2 : Int) * 1117 := wr_i64 _ (by omega) (by omega)
    have r5 : IntKind.i64.wrap ((p : Int) * 29) = (p : Int) * 29 := wr_i64 _ (by omega) (by omega)
    have r6 : IntKind.i64.wrap ((d : Int) * 53) = (d : Int) * 53 := wr_i64 _ (by omega) (by omega)
    have r7 : IntKind.i64.wrap ((b : Int) * 131 + (b2 : Int) * 1117) = (b : Int) * 131 + (b2 : Int) * 1117 := wr_i64 _ (by omega) (by omega)
    have r8 : IntKind.i64.wrap ((b : Int) * 131 + (b2 : Int) * 1117 + (p : Int) * 29) = (b : Int) * 131 + (b2 : Int) * 1117 + (p : Int) * 29 := wr_i64 _ (by omega) (by omega)
    have r9 : IntKind.i64.wrap ((b : Int) * 131 + (b2 : Int) * 1117 + (p : Int) * 29 + (d : Int) * 53) = (b : Int) * 131 + (b2 : Int) * 1117 + (p : Int) * 29 + (d : Int) * 53 := wr_i64 _ (by omega) (by omega)
    go_enter Tryd.func81, Tryd.ntmps81
    go_wp2_with fail
    go_quiet (fail)
    go_wp2_with fail
    go_ret
    have x0 : 0 ≤ (b : Int) * 131 + (b2 : Int) * 1117 + (p : Int) * 29 + (d : Int) * 53 := by omega
    have x1 : (b : Int) * 131 + (b2 : Int) * 1117 + (p : Int) * 29 + (d : Int) * 53 ≤ 1000000000000 := by omega
    have hz := xor_nn (x := (b : Int) * 131 + (b2 : Int) * 1117 + (p : Int) * 29 + (d : Int) * 53) (y := ((b : Int) * 131 + (b2 : Int) * 1117 + (p : Int) * 29 + (d : Int) * 53) / 64) x0 (by omega) (by omega) (by omega)
    have D := (On.refl (w.setCell ⟨g, 1, none⟩ (.int .i64 ((p : Int) + 1)))).drewN nq
    have z1 := Int.emod_nonneg (Go.bits .xor .i64 ((b : Int) * 131 + (b2 : Int) * 1117 + (p : Int) * 29 + (d : Int) * 53) (((b : Int) * 131 + (b2 : Int) * 1117 + (p : Int) * 29 + (d : Int) * 53) / 64)) (b := (n : Int)) (by omega)
    have z2 := Int.emod_lt_of_pos (Go.bits .xor .i64 ((b : Int) * 131 + (b2 : Int) * 1117 + (p : Int) * 29 + (d : Int) * 53) (((b : Int) * 131 + (b2 : Int) * 1117 + (p : Int) * 29 + (d : Int) * 53) / 64)) (b := (n : Int)) (by omega)
    refine ⟨((Go.bits .xor .i64 ((b : Int) * 131 + (b2 : Int) * 1117 + (p : Int) * 29 + (d : Int) * 53) (((b : Int) * 131 + (b2 : Int) * 1117 + (p : Int) * 29 + (d : Int) * 53) / 64)) % (n : Int)).toNat, by omega, ?_, R'.on D, T.trans (But.of D)⟩
    show Ending.returned (.int .i64 _) = _
    rw [Int.tmod_eq_emod_of_nonneg hz, Int.toNat_of_nonneg z1]
theorem wf_u8 {n : Int} (h : (Lit.int .u8 n).wf = true) : 0 ≤ n ∧ n ≤ 255 := by
  simpa [Lit.wf, IntKind.min, IntKind.max, IntKind.signed, IntKind.bits] using h
theorem rd_new (a0 : Option Addr) (len0 cap0 : Nat) (z0 : List Int) (w : World) (w0 : (a0 = none ∧ len0 = 0 ∧ cap0 = 0 ∧ z0 = []) ∨ ∃ x, a0 = some x ∧ len0 ≤ cap0 ∧ cap0 ≤ maxLen ∧ z0.length = cap0 ∧ (∀ i, i < z0.length → w.cell? (x.add i) = some (.int .u8 (z0.getD i 0))) ∧ ∀ n ∈ z0, (Lit.int .u8 n).wf = true)
    (n : Nat) (hn : n ≤ len0) (hn2 : n ≤ 2000) : Rd (w.alloc (.cells #[.slice a0 n cap0, .int .i64 0] 85)) w.heap.size 0 := by
  rcases w0 with ⟨rfl, rfl, rfl, rfl⟩ | ⟨x, rfl, h1, h2, h3, h4, h5⟩
  · obtain rfl : n = 0 := by omega
    exact ⟨0, 0, 0, none, Blk.new w _ _, Nat.le_refl _, hn2, Nat.le_refl _, Nat.zero_le _, fun i hi => by omega⟩
  · refine ⟨0, n, cap0, some x, Blk.new w _ _, Nat.le_refl _, hn2, by omega, h2, fun i hi => ?_⟩
    have hc := h4 i (by omega)
    have hm := h5 (z0.getD i 0) (by rw [List.getD_eq_getElem?_getD, List.getElem?_eq_getElem (by omega)]; exact List.getElem_mem _)
    obtain ⟨m0, m1⟩ := wf_u8 hm
    have ha : (x.add i).block = x.block := by unfold Addr.add; split <;> rfl
    have hlt : x.block < w.heap.size := by
      rcases Nat.lt_or_ge x.block w.heap.size with hl | hl
      · exact hl
      · have h2 : w.heap[(x.add i).block]? = none := by rw [ha]; exact Array.getElem?_eq_none hl
        simp [World.cell?, h2] at hc
    refine ⟨x, (z0.getD i 0).toNat, rfl, by omega, by omega, ?_⟩
    rw [((On.refl w).alloc _).cell (by rw [ha]; exact hlt), hc, Int.toNat_of_nonneg m0]
set_option maxRecDepth 100000 in
theorem open_calls (a0 : Option Addr) (len0 cap0 : Nat) (z0 : List Int) (w : World) (w0 : (a0 = none ∧ len0 = 0 ∧ cap0 = 0 ∧ z0 = []) ∨ ∃ x, a0 = some x ∧ len0 ≤ cap0 ∧ cap0 ≤ maxLen ∧ z0.length = cap0 ∧ (∀ i, i < z0.length → w.cell? (x.add i) = some (.int .u8 (z0.getD i 0))) ∧ ∀ n ∈ z0, (Lit.int .u8 n).wf = true) :
    Calls Tryd.prog 47 #[.slice a0 len0 cap0] w fun e w' => ∃ g, e = .returned (.pointer (some ⟨g, 0, none⟩)) ∧ Rd w' g 0 ∧ w.heap.size ≤ g ∧ On w w' := by
  by_cases h : len0 ≤ 2000
  · have h' : (len0 : Int) ≤ 2000 := by omega
    go_enter Tryd.func47, Tryd.ntmps47
    go_wp2_with fail
    go_ret
    exact ⟨w.heap.size, rfl, rd_new a0 len0 cap0 z0 w w0 len0 (Nat.le_refl _) h, Nat.le_refl _, (On.refl w).alloc _⟩
  · have h' : (2000 : Int) < len0 := by omega
    go_enter Tryd.func47, Tryd.ntmps47
    go_wp2_with fail
    go_ret
    exact ⟨w.heap.size, rfl, rd_new a0 len0 cap0 z0 w w0 2000 (by omega) (Nat.le_refl _), Nat.le_refl _, (On.refl w).alloc _⟩
set_option maxRecDepth 100000 in
theorem of_calls (g B : Nat) (q cap n : Nat) (xs : List Value) (w : World) (hr : Rd w g B) (hB : B ≤ 1000000000) (hrow : Row w q 9 xs) (hxs : xs.length = n) (hn : 1 ≤ n) (hn2 : n ≤ 1000000000) (hc : n ≤ cap) (hq : q ≠ g) :
    Calls Tryd.prog 104 #[.pointer (some ⟨g, 0, none⟩), .slice (some ⟨q, 0, none⟩) n cap] w fun e w' => ∃ v, v ∈ xs ∧ e = .returned v ∧ Rd w' g (B + 1) ∧ But g w w' := by
  go_enter Tryd.func104, Tryd.ntmps104
  go_wp2_with fail
  refine (pick_calls g B n w hr hB hn hn2).mono ?_
  rintro e w1 ⟨k, hk, rfl, hr1, T⟩
  have hk' : k < xs.length := by omega
  have c0 : w1.cell? ⟨q, k, none⟩ = some xs[k] := (T.row hrow hq).cell (by simp [hk'])
  have hmem : xs[k] ∈ xs := List.getElem_mem hk'
  generalize xs[k] = x at *
  have hkn : (k : Int) < n := by omega
  go_wp2_with fail
  go_ret
  exact ⟨x, hmem, rfl, hr1, T⟩
end Go.Proofs.YtncidljdfipigaaDoor.Draw

