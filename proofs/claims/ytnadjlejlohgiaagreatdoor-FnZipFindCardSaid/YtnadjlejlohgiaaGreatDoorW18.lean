/- Own texts joined: Or, Rl. -/
import Derived.Deep.DeepCutAuto
import Derived.Deep.QuietTactic
import Derived.BigQuiet
import Derived.Test.YtnadjlejlohgiaaGreatDoorW2
import Derived.Test.YtnadjlejlohgiaaGreatDoorW12
import Derived.Test.YtnadjlejlohgiaaGreatDoorW13
import Derived.Test.YtnadjlejlohgiaaGreatDoorW14
import Derived.Test.YtnadjlejlohgiaaGreatDoorW16
import Derived.Test.YtnadjlejlohgiaaGreatDoorW17
/- The variable order as it is laid. -/
namespace Go.Proofs.YtnadjlejlohgiaaGreatDoor.Wi
open Go.RowKit Go.Proofs.YtnadjlejlohgiaaGreatDoor.Mem Go.Proofs.YtnadjlejlohgiaaGreatDoor.Bt Go.Proofs.YtnadjlejlohgiaaGreatDoor.Cd Go.Proofs.YtnadjlejlohgiaaGreatDoor.De
set_option linter.unusedVariables false
set_option linter.unusedSimpArgs false
/-- The variable order as it is laid. -/
structure Ord (w : World) (x : Addr) : Prop where mk ::
  glob : w.cell? ⟨0, 0, none⟩ = some (.slice (some x) 19 19)
  cells : ∀ i, i < 19 → w.cell? (x.add i) = some (.int .i64 (order.getD i 0 : Nat))
theorem add_block (x : Addr) (i : Nat) : (x.add i).block = x.block := by unfold Addr.add; split <;> rfl
theorem Ord.glt {w : World} {x : Addr} (h : Ord w x) : 0 < w.heap.size := World.block_lt_of_cell? w _ h.glob
theorem Ord.lt {w : World} {x : Addr} (h : Ord w x) : x.block < w.heap.size := by
  have := World.block_lt_of_cell? w _ (h.cells 0 (by omega))
  rwa [add_block] at this
theorem Ord.kp {S : List Nat} {w w' : World} {x : Addr} (h : Ord w x) (k : Kp S w w') (h1 : 0 ∉ S) (h2 : x.block ∉ S) : Ord w' x :=
  ⟨(k.cell h.glt h1).trans h.glob, fun i hi => (k.cell (by rw [add_block]; exact h.lt) (by rw [add_block]; exact h2)).trans (h.cells i hi)⟩
theorem Ord.on {w w' : World} {x : Addr} (h : Ord w x) (O : On w w') : Ord w' x := h.kp (Kp.of [] O) (by simp) (by simp)
theorem Ord.len : order.length = 19 := rfl
end Go.Proofs.YtnadjlejlohgiaaGreatDoor.Wi

/- The program's reader takes the lengths of both codes. Conditions: a reader; the variable order as it is laid. -/
namespace Go.Proofs.YtnadjlejlohgiaaGreatDoor.Wi
open Go.RowKit Go.Proofs.YtnadjlejlohgiaaGreatDoor.Mem Go.Proofs.YtnadjlejlohgiaaGreatDoor.Bt Go.Proofs.YtnadjlejlohgiaaGreatDoor.Cd Go.Proofs.YtnadjlejlohgiaaGreatDoor.De
set_option linter.unusedVariables false
set_option linter.unusedSimpArgs false
/-- As the lengths are taken, before they are looked at. -/
def ownRaw : Dec (List Nat × List Nat) :=
  next (num 5) fun a => next (num 5) fun b => next (num 4) fun c => next (metas (c + 4) 0 (List.replicate 19 0)) fun m =>
    if okLens m = true ∧ a + 257 ≤ 286 ∧ b + 1 ≤ 30 then next (lenLoop m (a + 257 + (b + 1)) 400 []) fun all => ret (all.take (a + 257), all.drop (a + 257)) else De.bad
theorem own_raw {α : Type} (k : List Nat × List Nat → Dec α) (bs : List Bool) : next own k bs = next ownRaw (fun p => if okLens p.1 = true ∧ okLens p.2 = true then k p else De.bad) bs := by
  unfold own ownRaw next
  cases num 5 bs with
  | none => rfl
  | some p1 =>
    simp only
    cases num 5 p1.2 with
    | none => rfl
    | some p2 =>
      simp only
      cases num 4 p2.2 with
      | none => rfl
      | some p3 =>
        simp only
        cases metas (p3.1 + 4) 0 (List.replicate 19 0) p3.2 with
        | none => rfl
        | some p4 =>
          simp only
          by_cases h : okLens p4.1 = true ∧ p1.1 + 257 ≤ 286 ∧ p2.1 + 1 ≤ 30
          · rw [if_pos h, if_pos h]
            cases lenLoop p4.1 (p1.1 + 257 + (p2.1 + 1)) 400 [] p4.2 with
            | none => rfl
            | some p5 =>
              simp only
              by_cases h2 : okLens (p5.1.take (p1.1 + 257)) = true ∧ okLens (p5.1.drop (p1.1 + 257)) = true
              · simp only [ret, if_pos h2]
              · simp only [ret, if_neg h2, De.bad]
          · rw [if_neg h, if_neg h]; rfl
/-- What the reader tells of the lengths of both codes. -/
structure LensOut (s : ByteArray) (p : Nat) (b : Bool) (g : Nat) (w : World) (e : Ending) (w' : World) : Prop where mk ::
  out : ∃ (v1 v2 : Value) (p' : Nat) (b' : Bool) (lit dist : List Nat), e = .returned (.tuple #[v1, v2]) ∧ IR w' g s p' b' ∧ Ans ownRaw s p b (lit, dist) p' b' ∧ Kp [g] w w' ∧
      (b' = false → ∃ (r n c : Nat), v1 = .slice (some ⟨r, 0, none⟩) lit.length n ∧ v2 = .slice (some ⟨r, lit.length, none⟩) dist.length c ∧ lit.length ≤ 286 ∧ dist.length ≤ 30 ∧ lit.length ≤ n ∧ dist.length ≤ c ∧ RowO w' r 0 3 (i64s lit) ∧ RowO w' r lit.length 3 (i64s dist) ∧ (∀ y ∈ lit, y ≤ 15) ∧ (∀ y ∈ dist, y ≤ 15) ∧ w.heap.size ≤ r)
theorem order_lt : ∀ i, i < 19 → order.getD i 0 < 19 := by decide
set_option maxRecDepth 100000 in
set_option maxHeartbeats 2000000 in
theorem rlens_calls (g : Nat) (x : Addr) (s : ByteArray) (p : Nat) (b : Bool) (w : World) (hw : IR w g s p b) (hO : Ord w x) (hg1 : 0 ≠ g) (hg2 : x.block ≠ g) :
    Calls Tryz.prog 91 #[.pointer (some ⟨g, 0, none⟩)] w fun e w' => LensOut s p b g w e w' := by
  have hgl := hw.out.lt
  have HE1 := Lib.hid (get_calls g 5 s p b w hw (by omega))
  have A1 := Lib.hid (ans_num (n := 5) (b := b) hw.le)
  have hm1 := numAt_lt s p 5
  go_enter Tryz.func91, Tryz.ntmps91
  go_wp2_with fail
  refine HE1.out.mono ?_
  rintro e w1 ⟨rfl, hw1, K1⟩
  generalize hq1 : min (p + 5) (8 * s.size) = q1 at *
  generalize hx1 : (b || decide (8 * s.size < p + 5)) = x1 at *
  generalize numAt s p 5 = na at *
  have HE2 := Lib.hid (get_calls g 5 s q1 x1 w1 hw1 (by omega))
  have A2 := Lib.hid (ans_num (n := 5) (b := x1) hw1.le)
  have hm2 := numAt_lt s q1 5
  go_wp2_with fail
  refine HE2.out.mono ?_
  rintro e w2 ⟨rfl, hw2, K2⟩
  generalize hq2 : min (q1 + 5) (8 * s.size) = q2 at *
  generalize hx2 : (x1 || decide (8 * s.size < q1 + 5)) = x2 at *
  generalize numAt s q1 5 = nb at *
  have HE3 := Lib.hid (get_calls g 4 s q2 x2 w2 hw2 (by omega))
  have A3 := Lib.hid (ans_num (n := 4) (b := x2) hw2.le)
  have hm3 := numAt_lt s q2 4
  go_wp2_with fail
  refine HE3.out.mono ?_
  rintro e w3 ⟨rfl, hw3, K3⟩
  generalize hq3 : min (q2 + 4) (8 * s.size) = q3 at *
  generalize hx3 : (x2 || decide (8 * s.size < q2 + 4)) = x3 at *
  generalize numAt s q2 4 = nc at *
  have K13 := (K1.then K2).then K3
  have hO3 := hO.kp K13 (by simpa using hg1) (by simpa using hg2)
  obtain ⟨D, hD⟩ : ∃ D : Dec (List Nat × List Nat), D = (next (metas (nc + 4) 0 (List.replicate 19 0)) fun m => if okLens m = true ∧ na + 257 ≤ 286 ∧ nb + 1 ≤ 30 then next (lenLoop m (na + 257 + (nb + 1)) 400 []) fun all => ret (all.take (na + 257), all.drop (na + 257)) else De.bad) := ⟨_, rfl⟩
  have HD := Lib.hid hD
  have HA : RowKit.Hid (∀ y p' b', Ans D s q3 x3 y p' b' → Ans ownRaw s p b y p' b') := Lib.hid (fun y p' b' h => Ans.next A1.out (Ans.next A2.out (Ans.next A3.out (by rw [← HD.out]; exact h))))
  clear hD A1 A2 A3 HE1 HE2 HE3 K1 K2 K3 hq1 hq2 hq3 hx1 hx2 hx3
  have hgood : na + 257 ≤ 286 ∧ nb + 1 ≤ 30 → ∀ m q4 b4, Ans (metas (nc + 4) 0 (List.replicate 19 0)) s q3 x3 m q4 b4 → ∀ y p' b', Ans (if okLens m = true then next (lenLoop m (na + 257 + (nb + 1)) 400 []) fun all => ret (all.take (na + 257), all.drop (na + 257)) else De.bad) s q4 b4 y p' b' → Ans D s q3 x3 y p' b' := fun hb m q4 b4 h1 y p' b' h2 => by
    rw [HD.out]
    refine Ans.next h1 ?_
    have e : (okLens m = true ∧ na + 257 ≤ 286 ∧ nb + 1 ≤ 30) = (okLens m = true) := by simp [hb.1, hb.2]
    simp only [e]
    exact h2
  have hnone : ¬ (na + 257 ≤ 286 ∧ nb + 1 ≤ 30) → D (rest s q3) = none := fun hb => by
    rw [HD.out]
    cases h : metas (nc + 4) 0 (List.replicate 19 0) (rest s q3) with
    | none => exact next_none h
    | some r => rw [next_some h, if_neg (fun hh => hb hh.2)]; rfl
  have o0 := hO3.glob
  have K03 : Kp [g] w w3 := K13
  have hgl3 := hw3.out.lt
  have HGD := Lib.hid hgood
  have HNO := Lib.hid hnone
  clear hgood hnone K13
  by_cases hbig : na + 257 ≤ 286 ∧ nb + 1 ≤ 30
  case' pos =>
    have c3 : decide ((286 : Int) < (na : Int) + 257) = false := by simp; omega
    have c4 : decide ((30 : Int) < (nb : Int) + 1) = false := by simp; omega
    obtain ⟨xk, hxk⟩ : ∃ xk, xk = x3 := ⟨_, rfl⟩
    have F1 : RowKit.Hid (∀ m q4 b4, Ans (metas (nc + 4) 0 (List.replicate 19 0)) s q3 xk m q4 b4 → ∀ y p' b', Ans (if okLens m = true then next (lenLoop m (na + 257 + (nb + 1)) 400 []) fun all => ret (all.take (na + 257), all.drop (na + 257)) else De.bad) s q4 b4 y p' b' → Ans D s q3 x3 y p' b') := Lib.hid (by rw [hxk]; exact HGD.out hbig)
    have hwk : IR w3 g s q3 xk := by rw [hxk]; exact hw3
    have FB : RowKit.Hid (xk = false → na + 257 ≤ 286 ∧ nb + 1 ≤ 30) := Lib.hid (fun _ => hbig)
    clear hxk hbig
    go_upto_region 4 with fail
    obtain ⟨wk, hwk0⟩ : ∃ wk, wk = w3 := ⟨_, rfl⟩
    rw [← hwk0] at hwk o0 hO3 K03 ⊢
    clear hwk0
  case' neg =>
    have o0' := o0
    have fr : ∀ i, w3.frozen? ⟨g, i, none⟩ = false := hw3.out.frozen
    have d2 := (hw3.out.cell 2).trans rfl
    have F1 : RowKit.Hid (∀ m q4 b4, Ans (metas (nc + 4) 0 (List.replicate 19 0)) s q3 true m q4 b4 → ∀ y p' b', Ans (if okLens m = true then next (lenLoop m (na + 257 + (nb + 1)) 400 []) fun all => ret (all.take (na + 257), all.drop (na + 257)) else De.bad) s q4 b4 y p' b' → Ans D s q3 x3 y p' b') := Lib.hid (fun m q4 b4 h1 y p' b' h2 => by
      have e4 := h1.mono rfl
      have e5 := h2.mono e4
      rw [e5]
      exact ⟨fun _ => .inr (HNO.out hbig), fun e => by cases e⟩)
    have FB : RowKit.Hid (true = false → na + 257 ≤ 286 ∧ nb + 1 ≤ 30) := Lib.hid (fun e => by cases e)
    have hwk : IR (w3.setCell ⟨g, 2, none⟩ (.bool true)) g s q3 true := ⟨hw3.out.set 2 (.bool true), hw3.le, hw3.sz⟩
    have K3k : Kp [g] w3 (w3.setCell ⟨g, 2, none⟩ (.bool true)) := (Kp.refl _ _).set (.inl (by simp)) _
    have hOk := hO3.kp K3k (by simpa using hg1) (by simpa using hg2)
    have K0k := K03.then K3k
    by_cases h286 : 286 < na + 257
    case' pos =>
      have c3 : (286 : Int) < (na : Int) + 257 := by omega
      go_upto_region 4 with fail
    case' neg =>
      have c3 : decide ((286 : Int) < (na : Int) + 257) = false := by simp; omega
      have c4 : (30 : Int) < (nb : Int) + 1 := by omega
      go_upto_region 4 with fail
    all_goals
      clear hO3 o0 o0' K03 K3k hbig
      have o0 := hOk.glob
      have hO3 := hOk
      have K03 := K0k
      clear hOk K0k
      generalize w3.setCell ⟨g, 2, none⟩ (.bool true) = wk at *
      obtain ⟨xk, hxk⟩ : ∃ xk, xk = true := ⟨_, rfl⟩
      rw [← hxk] at hwk
      have F1 : RowKit.Hid (∀ m q4 b4, Ans (metas (nc + 4) 0 (List.replicate 19 0)) s q3 xk m q4 b4 → ∀ y p' b', Ans (if okLens m = true then next (lenLoop m (na + 257 + (nb + 1)) 400 []) fun all => ret (all.take (na + 257), all.drop (na + 257)) else De.bad) s q4 b4 y p' b' → Ans D s q3 x3 y p' b') := by rw [hxk]; exact F1
      have FB : RowKit.Hid (xk = false → na + 257 ≤ 286 ∧ nb + 1 ≤ 30) := by rw [hxk]; exact FB
      clear hxk
  all_goals
    have hk19 : (nc : Int) + 4 ≤ 19 := by omega
    have hk20 : (0 : Int) ≤ (nc : Int) + 4 := by omega
    have htn : ((nc : Int) + 4).toNat = nc + 4 := by omega
    go_wp2_with (at_make; go_must (refine wpList_ints _ rfl _ _ rfl _ _ 19 rfl rfl rfl rfl (by omega) ?_); intro w4 hN1 O4 hlt1; have o1 := (hO3.kp (Kp.of [] O4) (by simp) (by simp)).glob)
    have hw4 := hwk.on O4
    have hO4 := hO3.kp (Kp.of [] O4) (by simp) (by simp)
    have hgk := hwk.out.lt
    have hGk := hO3.glt
    have hXk := hO3.lt
    have K04 := K03.then (Kp.of [g] O4)
    have hK0s := K03.size
    generalize hA : wk.heap.size = A at *
    have HAA := Lib.hid hA
    clear hA o0 o1 hO3 hwk
    have hgA : g ≠ A := by omega
    have hGA : 0 ≠ A := by omega
    have hXA : x.block ≠ A := by omega
    go_loopw [40] (fun i wr => ∃ (k q : Nat) (bb : Bool) (m : List Nat), i = .int .i64 (k : Int) ∧ k ≤ nc + 4 ∧ IR wr g s q bb ∧ Nums wr A (.slice (some ⟨A, 0, none⟩) 19 19) m ∧ Kp [g, A] w4 wr ∧ m.length = 19 ∧ (∀ y ∈ m, y ≤ 7) ∧ (∀ y p' b', Ans (metas (nc + 4 - k) k m) s q bb y p' b' → Ans (metas (nc + 4) 0 (List.replicate 19 0)) s q3 xk y p' b')) (fun i _ => nc + 4 - (intOf i).toNat)
    case atStart => exact ⟨0, q3, xk, List.replicate 19 0, rfl, by omega, hw4, hN1, Kp.refl _ _, rfl, by simp, fun y p' b' h => h⟩
    case round =>
      obtain ⟨k, q, bb, m, rfl, hk, hr, hN, K, hml, hm7, hF⟩ := hrel
      by_cases hlt : k < nc + 4
      · have hk19' : k < 19 := by omega
        have hOr := hO4.kp K (by simp; exact ⟨hg1, hGA⟩) (by simp; exact ⟨hg2, hXA⟩)
        have oc := hOr.cells k hk19'
        have hol := order_lt k hk19'
        have HG := Lib.hid (get_calls g 3 s q bb wr hr (by omega))
        have A4 := ans_num (n := 3) (b := bb) hr.le
        have hv := numAt_lt s q 3
        have hF2 : RowKit.Hid (∀ y p' b', Ans (metas (nc + 4 - (k + 1)) (k + 1) (m.set (order.getD k 0) (numAt s q 3))) s (min (q + 3) (8 * s.size)) (bb || decide (8 * s.size < q + 3)) y p' b' → Ans (metas (nc + 4) 0 (List.replicate 19 0)) s q3 xk y p' b') := Lib.hid (fun y p' b' h => hF y p' b' (by
          rw [show nc + 4 - k = (nc + 4 - (k + 1)) + 1 from by omega, metas]
          exact Ans.next A4 h))
        have HM7 := Lib.hid hm7
        have HML := Lib.hid hml
        clear hF A4 hm7 hml
        generalize order.getD k 0 = ok at *
        generalize numAt s q 3 = v at *
        generalize min (q + 3) (8 * s.size) = qq at *
        generalize (bb || decide (8 * s.size < q + 3)) = b2 at *
        have hk2 : (k : Int) < (nc : Int) + 4 := by omega
        have hol2 : (ok : Int) < 19 := by omega
        go_wp2_with fail
        refine HG.out.mono ?_
        rintro e w6 ⟨rfl, hr6, K6⟩
        have hN6 := hN.kp K6 (by simpa using Ne.symm hgA)
        have hcells : ok < m.length := by rw [HML.out]; exact hol
        have ce := hN6.row.1.cell (i64s_get hcells)
        have fe : ∀ i, w6.frozen? ⟨A, i, none⟩ = false := hN6.row.1.frozen
        go_wp2_with fail
        go_roundw
        case rel =>
          have KS : Kp [A] w6 (w6.setCell ⟨A, ok, none⟩ (.int .i64 (v : Int))) := (Kp.refl _ _).set (.inl (by simp)) _
          refine ⟨k + 1, qq, b2, m.set ok v, by go_num, by omega, hr6.kp KS (by simpa using hgA), hN6.set ok v, (K.then (K6.mono (fun y hy => .inl (by simp at hy ⊢; exact .inl hy)))).set (.inl (by simp)) _, by rw [List.length_set]; exact HML.out, fun y hy => ?_, hF2.out⟩
          rcases List.mem_or_eq_of_mem_set hy with h | rfl
          · exact HM7.out y h
          · omega
        case measure => simp [intOf]; omega
      · obtain rfl : k = nc + 4 := by omega
        have hM : Ans (metas (nc + 4) 0 (List.replicate 19 0)) s q3 xk m q bb := hF m q bb (by rw [Nat.sub_self]; exact Ans.ret _ _ _ _)
        have HF1 := Lib.hid (F1.out m q bb hM)
        have hFB : RowKit.Hid (bb = false → na + 257 ≤ 286 ∧ nb + 1 ≤ 30) := Lib.hid (fun e => FB.out (by
          cases hx : xk with
          | false => rfl
          | true => rw [hM.mono hx] at e; cases e))
        clear hF hM F1 FB
        have d2 := (hr.out.cell 2).trans rfl
        have fr : ∀ i, wr.frozen? ⟨g, i, none⟩ = false := hr.out.frozen
        have K0r : Kp [g] w wr := K04.trans K (fun y hy => by simp at hy ⊢; omega)
        have hzr : A < wr.heap.size := by have := K.size; omega
        cases bb with
        | true =>
          go_wp2_with fail
          go_ret2
          exact .mk ⟨_, _, q, true, [], [], rfl, ⟨hr.out.set 2 (.bool true), hr.le, hr.sz⟩, HA.out _ _ _ (HF1.out _ _ _ ⟨fun _ => .inl rfl, fun e => by cases e⟩), K0r.set (.inl (by simp)) _, fun e => by cases e⟩
        | false =>
        have hbig := hFB.out rfl
        all_goals try (exfalso; omega)
        all_goals
          have hx100 : ∀ y ∈ m, y ≤ 100000 := fun y hy => by have := hm7 y hy; omega
          have RM := hN.row.1.toO
          cases hok : okLens m with
          | false =>
            have HOK := Lib.hid hok
            clear hok
            go_wp2_with fail
            refine (lensok_calls m A 0 19 19 wr RM hml (by omega) (by omega) hx100).mono ?_
            rintro e w6 ⟨rfl, O6⟩
            rw [HOK.out]
            have hr6 := hr.on O6
            have fr6 : ∀ i, w6.frozen? ⟨g, i, none⟩ = false := hr6.out.frozen
            have d6 := (hr6.out.cell 2).trans rfl
            go_wp2_with fail
            go_ret2
            refine .mk ⟨_, _, q, true, [], [], rfl, ⟨hr6.out.set 2 (.bool true), hr.le, hr.sz⟩, HA.out _ _ _ (HF1.out _ _ _ ?_), (K0r.then (Kp.of _ O6)).set (.inl (by simp)) _, fun e => by cases e⟩
            rw [HOK.out]
            exact Ans.fail _ _ _ _ _
          | true =>
            have HOK := Lib.hid hok
            have HF3 : RowKit.Hid (∀ y p' b', Ans (next (lenLoop m (na + 257 + (nb + 1)) 400 []) fun all => ret (all.take (na + 257), all.drop (na + 257))) s q false y p' b' → Ans ownRaw s p b y p' b') := Lib.hid (fun y p' b' h => HA.out _ _ _ (HF1.out y p' b' (by rw [HOK.out]; exact h)))
            clear hok HF1 HA hFB HD HGD HNO
            go_wp2_with fail
            refine (lensok_calls m A 0 19 19 wr RM hml (by omega) (by omega) hx100).mono ?_
            rintro e w6 ⟨rfl, O6⟩
            rw [HOK.out]
            go_wp2_with fail
            refine (book_calls m A 0 19 19 w6 (RM.on O6) hml (by omega) (by omega) (ok_le HOK.out) (ok_fits HOK.out)).mono ?_
            rintro e w7 ⟨mb, rfl, Bm, hmb, O7⟩
            have O67 := O6.call O7
            have hr7 := hr.on O67
            have hz7 := O67.size
            have hz6 := O6.size
            have fmb : mb ≠ g := by have := hr.out.lt; omega
            have hmbl := Bm.lt
            have K07 := K0r.then (Kp.of [g] O67)
            have hAns0 := Ans.ret (α := Nat) 0 s 0 false
            clear hAns0
            have OE := (On.refl w7).alloc (.cells #[] 3)
            have NE := Nums.new w7 #[] [] rfl (by simp)
            have hr8 := hr7.on OE
            have Bm8 := Bm.kp (Kp.of [] OE) (by simp)
            have hgl7 := hr7.out.lt
            go_upto_region 14 with fail
            go_wp2_with fail
            generalize hC : w7.heap.size = C at *
            generalize w7.alloc (.cells #[] 3) = w8 at *
            have hgC : g ≠ C := by omega
            have hCw : w.heap.size ≤ C := by have := K07.size; omega
            have hmC : mb ≠ C := by omega
            have K08 := K07.then (Kp.of [g] OE)
            have hz8 := OE.size
            clear hC
            go_loopw [11] (fun o wr2 => ∃ (q2 : Nat) (b2 : Bool) (ra ca f : Nat) (all : List Nat), o = .slice (some ⟨ra, 0, none⟩) all.length ca ∧ IR wr2 g s q2 b2 ∧ Nums wr2 ra (.slice (some ⟨ra, 0, none⟩) all.length ca) all ∧ Kp [g, C] w8 wr2 ∧ (ra = C ∨ w8.heap.size ≤ ra) ∧ (∀ y ∈ all, y ≤ 15) ∧ 1 ≤ f ∧ (all.length < na + 257 + (nb + 1) → 400 ≤ f + all.length) ∧ all.length ≤ 500 ∧
              (∀ y p' b', Ans (lenLoop m (na + 257 + (nb + 1)) f all) s q2 b2 y p' b' → Ans (lenLoop m (na + 257 + (nb + 1)) 400 []) s q false y p' b')) (fun o _ => match o with | .slice _ n _ => 600 - n | _ => 0)
            case atStart => exact ⟨q, false, C, 0, 400, [], rfl, hr8, NE, Kp.refl _ _, .inl rfl, by simp, by omega, by simp, by simp, fun y p' b' h => h⟩
            case round =>
              obtain ⟨q2, b2, ra, ca, f, all, rfl, hr9, hN9, K9, hra, h15, hf1, hf4, hal, hF9⟩ := hrel
              have HF9 := Lib.hid hF9
              have H15 := Lib.hid h15
              clear hF9 h15
              have d9 := (hr9.out.cell 2).trans rfl
              have hgra : g ≠ ra := by have := hr8.out.lt; omega
              have K09 := K08.trans (T := [g, C]) K9 (fun y hy => by simp at hy ⊢; omega)
              generalize hnn : all.length = nn at *
              have HNN := Lib.hid hnn
              clear hnn
              by_cases hw1 : nn < na + 257 + (nb + 1)
              · have hw1' : (nn : Int) < (na : Int) + 257 + ((nb : Int) + 1) := by omega
                cases b2 with
                | true =>
                  have fr9 : ∀ i, wr.frozen? ⟨g, i, none⟩ = false := hr9.out.frozen
                  have hne1 : ((nn : Int) != ((na : Int) + 257 + ((nb : Int) + 1))) = true := by simp; omega
                  have hne2 : ((nn : Int) == ((na : Int) + 257 + ((nb : Int) + 1))) = false := by simp; omega
                  go_wp2_with fail
                  go_ret2
                  exact .mk ⟨_, _, q2, true, [], [], rfl, ⟨hr9.out.set 2 (.bool true), hr9.le, hr9.sz⟩, HF3.out _ _ _ (Ans.next (x := all) (HF9.out all q2 true ⟨fun _ => .inl rfl, fun e => by cases e⟩) ⟨fun _ => .inl rfl, fun e => by cases e⟩), K09.set (.inl (by simp)) _, fun e => by cases e⟩
                | false =>
                  obtain ⟨wo, hwo⟩ : ∃ wo : World, wo = wr := ⟨_, rfl⟩
                  subst hwo
                  go_wp2_with fail
                  refine (rsym_calls m mb g 19 s q2 false wo hr9 (Bm8.kp K9 (by simp; exact ⟨fmb, hmC⟩)) hml fmb).mono ?_
                  rintro e w10 ⟨sy, q3, b3, rfl, hr10, A10, hs10, K10⟩
                  obtain ⟨f, rfl⟩ : ∃ f', f = f' + 1 := ⟨f - 1, by omega⟩
                  have hf2 : 1 ≤ f := by omega
                  have hN10 := hN9.kp K10 (by simpa using Ne.symm hgra)
                  have HST : RowKit.Hid (∀ y p' b', Ans (if sy < 16 then lenLoop m (na + 257 + (nb + 1)) f (all ++ [sy]) else if sy = 16 then next (num 2) fun x => (if all.length = 0 then De.bad else lenLoop m (na + 257 + (nb + 1)) f (all ++ List.replicate (3 + x) (all.getD (all.length - 1) 0))) else if sy = 17 then next (num 3) fun x => lenLoop m (na + 257 + (nb + 1)) f (all ++ List.replicate (3 + x) 0) else next (num 7) fun x => lenLoop m (na + 257 + (nb + 1)) f (all ++ List.replicate (11 + x) 0)) s q3 b3 y p' b' → Ans (lenLoop m (na + 257 + (nb + 1)) 400 []) s q false y p' b') := Lib.hid (fun y p' b' h => HF9.out y p' b' (by
                    rw [lenLoop, if_neg (by rw [HNN.out]; omega)]
                    exact Ans.next A10 h))
                  have hgl10 := hr10.out.lt
                  by_cases h16 : sy < 16
                  · have h16' : (sy : Int) < 16 := by omega
                    have HC : RowKit.Hid (∀ y p' b', Ans (lenLoop m (na + 257 + (nb + 1)) f (all ++ List.replicate 1 sy)) s q3 b3 y p' b' → Ans (lenLoop m (na + 257 + (nb + 1)) 400 []) s q false y p' b') := Lib.hid (fun y p' b' h => HST.out y p' b' (by rw [if_pos h16]; exact h))
                    go_upto_region 28 with fail
                    go_wp2_with fail
                    go_loopw [11, 113] (fun o kx wr2 => ∃ (k ra2 ca2 : Nat), kx = .int .i64 (k : Int) ∧ k ≤ 1 ∧ o = .slice (some ⟨ra2, 0, none⟩) (nn + k) ca2 ∧ Nums wr2 ra2 (.slice (some ⟨ra2, 0, none⟩) (nn + k) ca2) (all ++ List.replicate k sy) ∧ Kp [ra] w10 wr2 ∧ (ra2 = ra ∨ w10.heap.size ≤ ra2)) (fun _ kx _ => 1 - (intOf kx).toNat)
                    case atStart => exact ⟨0, ra, ca, rfl, by omega, by first | rfl | (rw [hn0]), by simpa using hN10, Kp.refl _ _, .inl rfl⟩
                    case round =>
                      obtain ⟨k, ra2, ca2, rfl, hk, rfl, hN12, K12, hra2⟩ := hrel
                      have hlen : (all ++ List.replicate k sy).length = nn + k := by rw [List.length_append, List.length_replicate, HNN.out]
                      have HLEN := Lib.hid hlen
                      clear hlen
                      by_cases hlt : k < 1
                      · have hlt' : (k : Int) < ((1 : Nat) : Int) := by omega
                        have hlt2 : (k : Int) < 1 := by omega
                        go_wp2_with (at_builtin; go_must (refine wpList_nat (x := sy) rfl _ _ rfl rfl hN12 rfl (by rw [HLEN.out]; omega) ?_); intro r6 c6 w6 hN6 hr6 hrl6 K6 hc1 hc2)
                        go_roundw
                        case rel =>
                          refine ⟨k + 1, r6, c6, by go_num, by omega, by first | (rw [HLEN.out]; rfl) | (rw [HNN.out]; rfl), ?_, K12.trans K6 (fun y hy => by simp at hy ⊢; omega), by have := K12.size; omega⟩
                          rw [HLEN.out] at hN6
                          rw [List.replicate_succ', ← List.append_assoc]
                          exact hN6
                        case measure => simp [intOf]; omega
                      · obtain rfl : k = 1 := by omega
                        go_wp2_with fail
                        have hz12 := K12.size
                        have hz11 := K10.size
                        have hzo := K9.size
                        refine ⟨⟨q3, b3, ra2, ca2, f, all ++ List.replicate (1) (sy), by rw [HLEN.out], hr10.kp K12 (by simpa using hgra), by rw [HLEN.out]; exact hN12, ?_, by omega, ?_, hf2, fun _ => by rw [HLEN.out]; omega, by rw [HLEN.out]; omega, HC.out⟩, by simp; omega⟩
                        · refine (K9.then (K10.mono (fun y hy => .inl (by simp at hy ⊢; exact .inl hy)))).trans K12 (fun y hy => by simp at hy ⊢; omega)
                        · intro y hy
                          rcases List.mem_append.1 hy with h | h
                          · exact H15.out y h
                          · rw [List.eq_of_mem_replicate h]; omega
                  have h16n : ¬ (sy : Int) < 16 := by omega
                  by_cases h16e : sy = 16
                  · have h16i : ((sy : Int) == 16) = true := by simp; omega
                    have A11 := Lib.hid (ans_num (n := 2) (b := b3) hr10.le)
                    have HG := Lib.hid (get_calls g 2 s q3 b3 w10 hr10 (by omega))
                    have hv := numAt_lt s q3 2
                    generalize numAt s q3 2 = v2 at *
                    generalize min (q3 + 2) (8 * s.size) = q5 at *
                    generalize (b3 || decide (8 * s.size < q3 + 2)) = b5 at *
                    go_wp2_with fail
                    refine HG.out.mono ?_
                    rintro e w11 ⟨rfl, hr11, K11⟩
                    have hN11 := hN10.kp K11 (by simpa using Ne.symm hgra)
                    have K1011 := K10.then K11
                    by_cases hn0 : nn = 0
                    · have hn0' : ((nn : Int) == 0) = true := by simp; omega
                      have fr11 : ∀ i, w11.frozen? ⟨g, i, none⟩ = false := hr11.out.frozen
                      have d11 := (hr11.out.cell 2).trans rfl
                      have hr12 : IR (w11.setCell ⟨g, 2, none⟩ (.bool true)) g s q5 true := ⟨hr11.out.set 2 (.bool true), hr11.le, hr11.sz⟩
                      have KS : Kp [g] w11 (w11.setCell ⟨g, 2, none⟩ (.bool true)) := (Kp.refl _ _).set (.inl (by simp)) _
                      have hN12' := hN11.kp KS (by simpa using Ne.symm hgra)
                      have K1012 := K1011.then KS
                      have HC : RowKit.Hid (∀ y p' b', Ans (lenLoop m (na + 257 + (nb + 1)) f (all ++ List.replicate (3 + v2) 0)) s q5 true y p' b' → Ans (lenLoop m (na + 257 + (nb + 1)) 400 []) s q false y p' b') := Lib.hid (fun y p' b' h => by
                        have e := h.mono rfl
                        rw [e]
                        refine HST.out y p' true ?_
                        rw [if_neg h16, if_pos h16e]
                        refine Ans.next A11.out ?_
                        rw [if_pos (by rw [HNN.out]; exact hn0)]
                        exact Ans.fail _ _ _ _ _)
                      go_upto_region 28 with fail
                      generalize w11.setCell ⟨g, 2, none⟩ (.bool true) = w12 at *
                      go_wp2_with fail
                      go_loopw [11, 113] (fun o kx wr2 => ∃ (k ra2 ca2 : Nat), kx = .int .i64 (k : Int) ∧ k ≤ (3 + v2) ∧ o = .slice (some ⟨ra2, 0, none⟩) (nn + k) ca2 ∧ Nums wr2 ra2 (.slice (some ⟨ra2, 0, none⟩) (nn + k) ca2) (all ++ List.replicate k 0) ∧ Kp [ra] w12 wr2 ∧ (ra2 = ra ∨ w12.heap.size ≤ ra2)) (fun _ kx _ => (3 + v2) - (intOf kx).toNat)
                      case atStart => exact ⟨0, ra, ca, rfl, by omega, by first | rfl | (rw [hn0]), by simpa using hN12', Kp.refl _ _, .inl rfl⟩
                      case round =>
                        obtain ⟨k, ra2, ca2, rfl, hk, rfl, hN12, K12, hra2⟩ := hrel
                        have hlen : (all ++ List.replicate k 0).length = nn + k := by rw [List.length_append, List.length_replicate, HNN.out]
                        have HLEN := Lib.hid hlen
                        clear hlen
                        by_cases hlt : k < (3 + v2)
                        · have hlt' : (k : Int) < (((3 + v2) : Nat) : Int) := by omega
                          have hlt2 : (k : Int) < 3 + (v2 : Int) := by omega
                          go_wp2_with (at_builtin; go_must (refine wpList_nat (x := 0) rfl _ _ rfl rfl hN12 rfl (by rw [HLEN.out]; omega) ?_); intro r6 c6 w6 hN6 hr6 hrl6 K6 hc1 hc2)
                          go_roundw
                          case rel =>
                            refine ⟨k + 1, r6, c6, by go_num, by omega, by first | (rw [HLEN.out]; rfl) | (rw [HNN.out]; rfl), ?_, K12.trans K6 (fun y hy => by simp at hy ⊢; omega), by have := K12.size; omega⟩
                            rw [HLEN.out] at hN6
                            rw [List.replicate_succ', ← List.append_assoc]
                            exact hN6
                          case measure => simp [intOf]; omega
                        · obtain rfl : k = (3 + v2) := by omega
                          go_wp2_with fail
                          have hz12 := K12.size
                          have hz11 := K1012.size
                          have hzo := K9.size
                          refine ⟨⟨q5, true, ra2, ca2, f, all ++ List.replicate ((3 + v2)) (0), by rw [HLEN.out], hr12.kp K12 (by simpa using hgra), by rw [HLEN.out]; exact hN12, ?_, by omega, ?_, hf2, fun _ => by rw [HLEN.out]; omega, by rw [HLEN.out]; omega, HC.out⟩, by simp; omega⟩
                          · refine (K9.then (K1012.mono (fun y hy => .inl (by simp at hy ⊢; exact .inl hy)))).trans K12 (fun y hy => by simp at hy ⊢; omega)
                          · intro y hy
                            rcases List.mem_append.1 hy with h | h
                            · exact H15.out y h
                            · rw [List.eq_of_mem_replicate h]; omega
                    · have hn0' : ((nn : Int) == 0) = false := by simp; omega
                      have hn1 : nn - 1 < all.length := by rw [HNN.out]; omega
                      have cl := hN11.row.1.cell (i64s_get hn1)
                      have hl15 : all.getD (nn - 1) 0 ≤ 15 := getD_le H15.out _
                      have HC : RowKit.Hid (∀ y p' b', Ans (lenLoop m (na + 257 + (nb + 1)) f (all ++ List.replicate (3 + v2) (all.getD (nn - 1) 0))) s q5 b5 y p' b' → Ans (lenLoop m (na + 257 + (nb + 1)) 400 []) s q false y p' b') := Lib.hid (fun y p' b' h => by
                        refine HST.out y p' b' ?_
                        rw [if_neg h16, if_pos h16e]
                        refine Ans.next A11.out ?_
                        rw [if_neg (by rw [HNN.out]; exact hn0), HNN.out]
                        exact h)
                      clear hn1
                      generalize all.getD (nn - 1) 0 = ag at *
                      have en : IntKind.i64.wrap ((nn : Int) - 1) = ((nn - 1 : Nat) : Int) := by rw [IntKind.wrap_i64]; omega
                      have en2 : ((nn - 1 : Nat) : Int) < (nn : Int) := by omega
                      generalize nn - 1 = n1 at *
                      go_upto_region 28 with fail
                      go_wp2_with fail
                      go_loopw [11, 113] (fun o kx wr2 => ∃ (k ra2 ca2 : Nat), kx = .int .i64 (k : Int) ∧ k ≤ (3 + v2) ∧ o = .slice (some ⟨ra2, 0, none⟩) (nn + k) ca2 ∧ Nums wr2 ra2 (.slice (some ⟨ra2, 0, none⟩) (nn + k) ca2) (all ++ List.replicate k ag) ∧ Kp [ra] w11 wr2 ∧ (ra2 = ra ∨ w11.heap.size ≤ ra2)) (fun _ kx _ => (3 + v2) - (intOf kx).toNat)
                      case atStart => exact ⟨0, ra, ca, rfl, by omega, by first | rfl | (rw [hn0]), by simpa using hN11, Kp.refl _ _, .inl rfl⟩
                      case round =>
                        obtain ⟨k, ra2, ca2, rfl, hk, rfl, hN12, K12, hra2⟩ := hrel
                        have hlen : (all ++ List.replicate k ag).length = nn + k := by rw [List.length_append, List.length_replicate, HNN.out]
                        have HLEN := Lib.hid hlen
                        clear hlen
                        by_cases hlt : k < (3 + v2)
                        · have hlt' : (k : Int) < (((3 + v2) : Nat) : Int) := by omega
                          have hlt2 : (k : Int) < 3 + (v2 : Int) := by omega
                          go_wp2_with (at_builtin; go_must (refine wpList_nat (x := ag) rfl _ _ rfl rfl hN12 rfl (by rw [HLEN.out]; omega) ?_); intro r6 c6 w6 hN6 hr6 hrl6 K6 hc1 hc2)
                          go_roundw
                          case rel =>
                            refine ⟨k + 1, r6, c6, by go_num, by omega, by first | (rw [HLEN.out]; rfl) | (rw [HNN.out]; rfl), ?_, K12.trans K6 (fun y hy => by simp at hy ⊢; omega), by have := K12.size; omega⟩
                            rw [HLEN.out] at hN6
                            rw [List.replicate_succ', ← List.append_assoc]
                            exact hN6
                          case measure => simp [intOf]; omega
                        · obtain rfl : k = (3 + v2) := by omega
                          go_wp2_with fail
                          have hz12 := K12.size
                          have hz11 := K1011.size
                          have hzo := K9.size
                          refine ⟨⟨q5, b5, ra2, ca2, f, all ++ List.replicate ((3 + v2)) (ag), by rw [HLEN.out], hr11.kp K12 (by simpa using hgra), by rw [HLEN.out]; exact hN12, ?_, by omega, ?_, hf2, fun _ => by rw [HLEN.out]; omega, by rw [HLEN.out]; omega, HC.out⟩, by simp; omega⟩
                          · refine (K9.then (K1011.mono (fun y hy => .inl (by simp at hy ⊢; exact .inl hy)))).trans K12 (fun y hy => by simp at hy ⊢; omega)
                          · intro y hy
                            rcases List.mem_append.1 hy with h | h
                            · exact H15.out y h
                            · rw [List.eq_of_mem_replicate h]; omega
                  have h16i : ((sy : Int) == 16) = false := by simp; omega
                  by_cases h17e : sy = 17
                  · have h17i : ((sy : Int) == 17) = true := by simp; omega
                    have A11 := Lib.hid (ans_num (n := 3) (b := b3) hr10.le)
                    have HG := Lib.hid (get_calls g 3 s q3 b3 w10 hr10 (by omega))
                    have hv := numAt_lt s q3 3
                    generalize numAt s q3 3 = v2 at *
                    generalize min (q3 + 3) (8 * s.size) = q5 at *
                    generalize (b3 || decide (8 * s.size < q3 + 3)) = b5 at *
                    go_wp2_with fail
                    refine HG.out.mono ?_
                    rintro e w11 ⟨rfl, hr11, K11⟩
                    have hN11 := hN10.kp K11 (by simpa using Ne.symm hgra)
                    have K1011 := K10.then K11
                    have HC : RowKit.Hid (∀ y p' b', Ans (lenLoop m (na + 257 + (nb + 1)) f (all ++ List.replicate (3 + v2) 0)) s q5 b5 y p' b' → Ans (lenLoop m (na + 257 + (nb + 1)) 400 []) s q false y p' b') := Lib.hid (fun y p' b' h => by
                      refine HST.out y p' b' ?_
                      rw [if_neg h16, if_neg h16e, if_pos h17e]
                      exact Ans.next A11.out h)
                    go_upto_region 28 with fail
                    go_wp2_with fail
                    go_loopw [11, 113] (fun o kx wr2 => ∃ (k ra2 ca2 : Nat), kx = .int .i64 (k : Int) ∧ k ≤ (3 + v2) ∧ o = .slice (some ⟨ra2, 0, none⟩) (nn + k) ca2 ∧ Nums wr2 ra2 (.slice (some ⟨ra2, 0, none⟩) (nn + k) ca2) (all ++ List.replicate k 0) ∧ Kp [ra] w11 wr2 ∧ (ra2 = ra ∨ w11.heap.size ≤ ra2)) (fun _ kx _ => (3 + v2) - (intOf kx).toNat)
                    case atStart => exact ⟨0, ra, ca, rfl, by omega, by first | rfl | (rw [hn0]), by simpa using hN11, Kp.refl _ _, .inl rfl⟩
                    case round =>
                      obtain ⟨k, ra2, ca2, rfl, hk, rfl, hN12, K12, hra2⟩ := hrel
                      have hlen : (all ++ List.replicate k 0).length = nn + k := by rw [List.length_append, List.length_replicate, HNN.out]
                      have HLEN := Lib.hid hlen
                      clear hlen
                      by_cases hlt : k < (3 + v2)
                      · have hlt' : (k : Int) < (((3 + v2) : Nat) : Int) := by omega
                        have hlt2 : (k : Int) < 3 + (v2 : Int) := by omega
                        go_wp2_with (at_builtin; go_must (refine wpList_nat (x := 0) rfl _ _ rfl rfl hN12 rfl (by rw [HLEN.out]; omega) ?_); intro r6 c6 w6 hN6 hr6 hrl6 K6 hc1 hc2)
                        go_roundw
                        case rel =>
                          refine ⟨k + 1, r6, c6, by go_num, by omega, by first | (rw [HLEN.out]; rfl) | (rw [HNN.out]; rfl), ?_, K12.trans K6 (fun y hy => by simp at hy ⊢; omega), by have := K12.size; omega⟩
                          rw [HLEN.out] at hN6
                          rw [List.replicate_succ', ← List.append_assoc]
                          exact hN6
                        case measure => simp [intOf]; omega
                      · obtain rfl : k = (3 + v2) := by omega
                        go_wp2_with fail
                        have hz12 := K12.size
                        have hz11 := K1011.size
                        have hzo := K9.size
                        refine ⟨⟨q5, b5, ra2, ca2, f, all ++ List.replicate ((3 + v2)) (0), by rw [HLEN.out], hr11.kp K12 (by simpa using hgra), by rw [HLEN.out]; exact hN12, ?_, by omega, ?_, hf2, fun _ => by rw [HLEN.out]; omega, by rw [HLEN.out]; omega, HC.out⟩, by simp; omega⟩
                        · refine (K9.then (K1011.mono (fun y hy => .inl (by simp at hy ⊢; exact .inl hy)))).trans K12 (fun y hy => by simp at hy ⊢; omega)
                        · intro y hy
                          rcases List.mem_append.1 hy with h | h
                          · exact H15.out y h
                          · rw [List.eq_of_mem_replicate h]; omega
                  · have h17i : ((sy : Int) == 17) = false := by simp; omega
                    have A11 := Lib.hid (ans_num (n := 7) (b := b3) hr10.le)
                    have HG := Lib.hid (get_calls g 7 s q3 b3 w10 hr10 (by omega))
                    have hv := numAt_lt s q3 7
                    generalize numAt s q3 7 = v2 at *
                    generalize min (q3 + 7) (8 * s.size) = q5 at *
                    generalize (b3 || decide (8 * s.size < q3 + 7)) = b5 at *
                    go_wp2_with fail
                    refine HG.out.mono ?_
                    rintro e w11 ⟨rfl, hr11, K11⟩
                    have hN11 := hN10.kp K11 (by simpa using Ne.symm hgra)
                    have K1011 := K10.then K11
                    have HC : RowKit.Hid (∀ y p' b', Ans (lenLoop m (na + 257 + (nb + 1)) f (all ++ List.replicate (11 + v2) 0)) s q5 b5 y p' b' → Ans (lenLoop m (na + 257 + (nb + 1)) 400 []) s q false y p' b') := Lib.hid (fun y p' b' h => by
                      refine HST.out y p' b' ?_
                      rw [if_neg h16, if_neg h16e, if_neg h17e]
                      exact Ans.next A11.out h)
                    go_upto_region 28 with fail
                    go_wp2_with fail
                    go_loopw [11, 113] (fun o kx wr2 => ∃ (k ra2 ca2 : Nat), kx = .int .i64 (k : Int) ∧ k ≤ (11 + v2) ∧ o = .slice (some ⟨ra2, 0, none⟩) (nn + k) ca2 ∧ Nums wr2 ra2 (.slice (some ⟨ra2, 0, none⟩) (nn + k) ca2) (all ++ List.replicate k 0) ∧ Kp [ra] w11 wr2 ∧ (ra2 = ra ∨ w11.heap.size ≤ ra2)) (fun _ kx _ => (11 + v2) - (intOf kx).toNat)
                    case atStart => exact ⟨0, ra, ca, rfl, by omega, by first | rfl | (rw [hn0]), by simpa using hN11, Kp.refl _ _, .inl rfl⟩
                    case round =>
                      obtain ⟨k, ra2, ca2, rfl, hk, rfl, hN12, K12, hra2⟩ := hrel
                      have hlen : (all ++ List.replicate k 0).length = nn + k := by rw [List.length_append, List.length_replicate, HNN.out]
                      have HLEN := Lib.hid hlen
                      clear hlen
                      by_cases hlt : k < (11 + v2)
                      · have hlt' : (k : Int) < (((11 + v2) : Nat) : Int) := by omega
                        have hlt2 : (k : Int) < 11 + (v2 : Int) := by omega
                        go_wp2_with (at_builtin; go_must (refine wpList_nat (x := 0) rfl _ _ rfl rfl hN12 rfl (by rw [HLEN.out]; omega) ?_); intro r6 c6 w6 hN6 hr6 hrl6 K6 hc1 hc2)
                        go_roundw
                        case rel =>
                          refine ⟨k + 1, r6, c6, by go_num, by omega, by first | (rw [HLEN.out]; rfl) | (rw [HNN.out]; rfl), ?_, K12.trans K6 (fun y hy => by simp at hy ⊢; omega), by have := K12.size; omega⟩
                          rw [HLEN.out] at hN6
                          rw [List.replicate_succ', ← List.append_assoc]
                          exact hN6
                        case measure => simp [intOf]; omega
                      · obtain rfl : k = (11 + v2) := by omega
                        go_wp2_with fail
                        have hz12 := K12.size
                        have hz11 := K1011.size
                        have hzo := K9.size
                        refine ⟨⟨q5, b5, ra2, ca2, f, all ++ List.replicate ((11 + v2)) (0), by rw [HLEN.out], hr11.kp K12 (by simpa using hgra), by rw [HLEN.out]; exact hN12, ?_, by omega, ?_, hf2, fun _ => by rw [HLEN.out]; omega, by rw [HLEN.out]; omega, HC.out⟩, by simp; omega⟩
                        · refine (K9.then (K1011.mono (fun y hy => .inl (by simp at hy ⊢; exact .inl hy)))).trans K12 (fun y hy => by simp at hy ⊢; omega)
                        · intro y hy
                          rcases List.mem_append.1 hy with h | h
                          · exact H15.out y h
                          · rw [List.eq_of_mem_replicate h]; omega
              · have hw1' : ¬ (nn : Int) < (na : Int) + 257 + ((nb : Int) + 1) := by omega
                obtain ⟨f, rfl⟩ : ∃ f', f = f' + 1 := ⟨f - 1, by omega⟩
                have fr9 : ∀ i, wr.frozen? ⟨g, i, none⟩ = false := hr9.out.frozen
                by_cases heq : nn = na + 257 + (nb + 1)
                · have hne1 : ((nn : Int) != ((na : Int) + 257 + ((nb : Int) + 1))) = false := by simp; omega
                  have hne2 : ((nn : Int) == ((na : Int) + 257 + ((nb : Int) + 1))) = true := by simp; omega
                  cases b2 with
                  | true =>
                    go_wp2_with fail
                    go_ret2
                    exact .mk ⟨_, _, q2, true, [], [], rfl, ⟨hr9.out.set 2 (.bool true), hr9.le, hr9.sz⟩, HF3.out _ _ _ (Ans.next (x := all) (HF9.out all q2 true ⟨fun _ => .inl rfl, fun e => by cases e⟩) ⟨fun _ => .inl rfl, fun e => by cases e⟩), K09.set (.inl (by simp)) _, fun e => by cases e⟩
                  | false =>
                    have RA := hN9.row.1
                    have hb1 : (na : Int) + 257 ≤ (nn : Int) := by omega
                    have hb2 : (0 : Int) ≤ (na : Int) + 257 := by omega
                    have hcap : nn ≤ ca := hN9.row.2.2.1
                    have hb3 : (nn : Int) ≤ (ca : Int) := by omega
                    have hb4 : (na : Int) + 257 ≤ (ca : Int) := by omega
                    have ht1 : ((na : Int) + 257).toNat = na + 257 := by omega
                    go_wp2_with fail
                    go_quiet (fail)
                    go_wp2_with fail
                    go_ret2
                    have hll : (all.take (na + 257)).length = na + 257 := by rw [List.length_take, HNN.out]; omega
                    have hld : (all.drop (na + 257)).length = nb + 1 := by rw [List.length_drop, HNN.out]; omega
                    have OD := (On.refl wr).drewN nq
                    refine .mk ⟨_, _, q2, false, all.take (na + 257), all.drop (na + 257), rfl, hr9.on OD, HF3.out _ _ _ (Ans.next (x := all) (HF9.out all q2 false ?_) (Ans.ret _ _ _ _)), K09.drewN _, fun _ => ⟨ra, ca, ca - (na + 257), by rw [hll]; rfl, by rw [hll, hld]; rfl, by omega, by omega, by omega, by omega, ?_, ?_, fun y hy => H15.out y (List.mem_of_mem_take hy), fun y hy => H15.out y (List.mem_of_mem_drop hy), by have := K08.size; omega⟩⟩
                    · rw [lenLoop, if_pos (by rw [HNN.out]; omega), if_pos (by rw [HNN.out]; omega)]
                      exact Ans.ret _ _ _ _
                    · have := (RA.sub 0 (na + 257)).on OD
                      rw [List.drop_zero] at this
                      have e : i64s (all.take (na + 257)) = (i64s all).take (na + 257) := by unfold i64s; rw [List.map_take]
                      rw [e]; exact this
                    · have := (RA.sub (na + 257) (nb + 1)).on OD
                      have e : i64s (all.drop (na + 257)) = ((i64s all).drop (na + 257)).take (nb + 1) := by
                        rw [List.take_of_length_le (by rw [List.length_drop, i64s_length, HNN.out]; omega)]
                        unfold i64s; rw [List.map_drop]
                      rw [hll, e]; exact this
                · have hne1 : ((nn : Int) != ((na : Int) + 257 + ((nb : Int) + 1))) = true := by simp; omega
                  have hne2 : ((nn : Int) == ((na : Int) + 257 + ((nb : Int) + 1))) = false := by simp; omega
                  go_wp2_with fail
                  go_ret2
                  refine .mk ⟨_, _, q2, true, [], [], rfl, ⟨hr9.out.set 2 (.bool true), hr9.le, hr9.sz⟩, HF3.out _ _ _ (Ans.next (x := all) (HF9.out all q2 true ?_) ⟨fun _ => .inl rfl, fun e => by cases e⟩), K09.set (.inl (by simp)) _, fun e => by cases e⟩
                  rw [lenLoop, if_pos (by rw [HNN.out]; omega), if_neg (by rw [HNN.out]; omega)]
                  exact Ans.fail _ _ _ _ _
end Go.Proofs.YtnadjlejlohgiaaGreatDoor.Wi

