/- Lengths that are kept short (l3Fit), lengths up to the last that is not 0 (l5Last), as the specification makes them. Conditions: numbers, sizes. -/
import Derived.Test.YtncidljdfipigaaDoorHn
import Derived.Test.YtncidljdfipigaaDoorEn
namespace Go.Proofs.YtncidljdfipigaaDoor.Wi
open Go.RowKit Go.Proofs.YtncidljdfipigaaDoor.Mem Go.Proofs.YtncidljdfipigaaDoor.Hf
set_option linter.unusedVariables false
set_option linter.unusedSimpArgs false
theorem i64s_append (a b : List Nat) : i64s (a ++ b) = i64s a ++ i64s b := by unfold i64s; rw [List.map_append]
theorem news_o {w : World} {g o : Nat} {l : List Nat} (h : RowO w g o 3 (i64s l)) : ∀ j u, (i64s l)[j]? = some u → w.cell? ((⟨g, o, none⟩ : Addr).add j) = some u := fun j u hu => by
  have ha : (⟨g, o, none⟩ : Addr).add j = ⟨g, o + j, none⟩ := by unfold Addr.add; split <;> simp_all
  rw [ha]
  exact h.cell hu
theorem own_nums {w : World} {base : Nat} {v : Value} {n : Nat} {l : List Nat} (h : Own base w 3 1 v n (i64s l)) (hn : l.length = n) :
    ∃ r cap, v = .slice (some ⟨r, 0, none⟩) n cap ∧ Nums w r (.slice (some ⟨r, 0, none⟩) n cap) l ∧ base ≤ r ∧ r < w.heap.size := by
  subst hn
  obtain ⟨g, cap, rfl, hb, hrow, _, _, _⟩ := h.parts
  exact ⟨g, cap, rfl, ⟨(h.low (Nat.zero_le _)).own, fun g' hg' => by cases hg'; rfl⟩, hb, hrow.lt⟩
/-- s = append(s, x...) of numbers onto a row of the call's own. -/
theorem wpList_adds {ops : Array Oper} {rest : List Oper} {o : Oper} {act : Act} {Q : Exit → Act → World → Prop} {wr : World} (hgd : o.guard = none) (s x : Operand)
    (ho : o.op = .call { callee := .builtin .append, args := #[s, x], argTypes := #[58, 58] })
    (a : World) {v : Value} {n m q : Nat} {xs l : List Nat} (hs : act.eval s = v) (hown : Own a.heap.size wr 3 1 v n (i64s xs)) (O : On a wr)
    {g o' c : Nat} (hx : act.eval x = .slice (some ⟨g, o', none⟩) m c) (hr : RowO wr g o' 3 (i64s l)) (hm : l.length = m) (hq : n + m = q) (hsz : q ≤ 1000000)
    (h : ∀ v' w', Own a.heap.size w' 3 1 v' q (i64s (xs ++ l)) → On a w' → Kp v.ownBlock.toList wr w' → wpList Tryd.prog ops Q rest (act.put o.dst v') w') :
    wpList Tryd.prog ops Q (o :: rest) act wr := by
  obtain ⟨i0, hi, hz0, hz1, hz2⟩ := info_parts i64info
  subst hq
  refine wpList_append_own_at _ hgd s x 58 ho a.heap.size 3 i0 (.int .i64 0) 1 8 Tryd.underlying58 hi hz0 hz1 hz2 rfl (by decide) v n (i64s xs) hs hown.own ⟨g, o', none⟩ m c (i64s l) hx (by rw [i64s_length]; omega) (news_o hr) (fun u hu => i64s_one hu) (by unfold maxLen; omega) (by omega) O.size ?_
  intro v' w' hown' hgr hnil hob
  refine h v' w' ⟨by rw [i64s_append]; exact hown', fun e => hown.nn (hnil.1 e).1⟩ (O.grown hgr hown.block) (Kp.grown hgr (fun y hy => by rw [hy]; simp))
/-- The sum of a row of numbers as it lies in memory. -/
def rowSum (w : World) (r n : Nat) : Nat := ((List.range n).map fun i => match w.cell? ⟨r, i, none⟩ with | some v => (intOf v).toNat | none => 0).sum
theorem rowSum_of {w : World} {r n : Nat} {c : List Nat} (h : Row w r 3 (i64s c)) (hn : c.length = n) : rowSum w r n = c.sum := by
  subst hn
  have e : c.sum = (c.map id).sum := by rw [List.map_id]
  rw [e, sum_map_range]
  unfold rowSum
  congr 1
  refine List.map_congr_left fun i hi => ?_
  rw [h.cell (i64s_get (by simpa using hi))]
  simp [intOf]
theorem fib_up : ∀ n, n ≤ fib (n + 2)
  | 0 => Nat.zero_le _
  | n + 1 => by
    have h1 := fib_up n
    have h2 : fib (n + 3) = fib (n + 1) + fib (n + 2) := rfl
    have h3 := fib_pos (n := n + 1) (by omega)
    show n + 1 ≤ fib (n + 3)
    omega
theorem sum_bound : ∀ (l : List Nat) (m : Nat), (∀ x ∈ l, x ≤ m) → l.sum ≤ l.length * m
  | [], _, _ => by simp
  | x :: t, m, h => by
    have h1 := sum_bound t m (fun y hy => h y (List.mem_cons_of_mem _ hy))
    have h2 := h x (List.mem_cons_self ..)
    rw [List.sum_cons, List.length_cons, Nat.add_mul]; omega
theorem lensOf_small {c : List Nat} (hp : ∃ k, 0 < c.getD k 0) (hx : ∀ x ∈ c, x ≤ 100000) (hl : c.length ≤ 300) : ∀ x ∈ lensOf c, x ≤ 100000000 := by
  intro x h
  obtain ⟨_, d, hd, hd2⟩ := lensOf_ok c hp
  have h1 := hd2 x h
  have h2 := fib_up d
  have h3 := sum_bound c 100000 hx
  have h4 : c.length * 100000 ≤ 300 * 100000 := Nat.mul_le_mul_right _ hl
  omega
theorem halve_le {c : List Nat} (hx : ∀ x ∈ c, x ≤ 100000) : ∀ x ∈ halve c, x ≤ 100000 := by
  intro x h
  obtain ⟨y, hy, rfl⟩ := List.mem_map.1 h
  have := hx y hy
  omega
/-- The first k are halved. -/
def halfTo (c : List Nat) (k : Nat) : List Nat := (halve c).take k ++ c.drop k
theorem halfTo_all (c : List Nat) : halfTo c c.length = halve c := by
  unfold halfTo; rw [List.drop_length, List.append_nil, List.take_of_length_le (by rw [halve_length]; exact Nat.le_refl _)]
theorem halfTo_length {c : List Nat} {k : Nat} (h : k ≤ c.length) : (halfTo c k).length = c.length := by
  unfold halfTo; rw [List.length_append, List.length_take, List.length_drop, halve_length]; omega
theorem halfTo_get {c : List Nat} {k : Nat} (h : k < c.length) : (halfTo c k).getD k 0 = c.getD k 0 := by
  have hl : ((halve c).take k).length = k := by rw [List.length_take, halve_length]; omega
  unfold halfTo
  rw [List.getD_eq_getElem?_getD, List.getD_eq_getElem?_getD, List.getElem?_append_right (by omega), hl, List.getElem?_drop, Nat.sub_self, Nat.add_zero]
theorem halfTo_set {c : List Nat} {k : Nat} (h : k < c.length) : (halfTo c k).set k ((c.getD k 0 + 1) / 2) = halfTo c (k + 1) := by
  have hl : ((halve c).take k).length = k := by rw [List.length_take, halve_length]; omega
  have hh : k < (halve c).length := by rw [halve_length]; exact h
  have e : (halve c)[k] = (c.getD k 0 + 1) / 2 := by
    have := halve_getD c k
    rw [List.getD_eq_getElem?_getD, List.getElem?_eq_getElem hh] at this
    exact this
  unfold halfTo
  rw [List.set_append_right _ _ (by omega), hl, Nat.sub_self, List.drop_eq_getElem_cons h, List.set_cons_zero, List.take_succ_eq_append_getElem hh, e, List.append_assoc]; rfl
set_option maxRecDepth 100000 in
set_option maxHeartbeats 1000000 in
theorem sfit_calls (counts : List Nat) (g o n cap most : Nat) (w : World) (hR : RowO w g o 3 (i64s counts)) (hn : counts.length = n) (hn2 : n ≤ 300) (hnc : n ≤ cap) (hx : ∀ x ∈ counts, x ≤ 100000)
    (hm1 : 1 ≤ most) (hm2 : most ≤ 15) (hp : ∃ k, 0 < counts.getD k 0) (hl : n < fib (most + 3)) :
    Calls Tryd.prog 93 #[.slice (some ⟨g, o, none⟩) n cap, .int .i64 (most : Int)] w (GivesI w (fit most counts)) := by
  have HN := Lib.hid hn
  have HP := Lib.hid hp
  have HL := Lib.hid hl
  have HX := Lib.hid hx
  have hq : 0 + n = n := Nat.zero_add n
  clear hn hp hl hx
  go_enter Tryd.func93, Tryd.ntmps93
  have NE := Own.new (base := w.heap.size) w 3 1 #[] 0 (Nat.zero_le _) rfl (Nat.le_refl _)
  have OE := (On.refl w).alloc (.cells #[] 3)
  have RE := hR.on OE
  go_wp2_with (at_builtin; go_must (refine wpList_adds rfl _ _ rfl w (xs := []) (l := counts) (q := n) rfl NE OE rfl RE HN.out hq (by omega) ?_); intro v1 w1 hown1 O1 _)
  obtain ⟨r1, cap1, rfl, N1, hb1, hr1⟩ := own_nums hown1 HN.out
  rw [List.nil_append] at N1
  have hc1 := N1.row.2.2.1
  clear hown1 NE OE RE hq
  go_wp2_with fail
  refine (slens3_calls counts r1 0 n cap1 w1 N1.row.1.toO HN.out hn2 hc1 HX.out).mono ?_
  rintro e w2 ⟨r2, cap2, rfl, N2, hb2, hr2, O2⟩
  have hl2 : (lensOf counts).length = n := (lensOf_length counts).trans HN.out
  rw [hl2] at N2 ⊢
  clear hl2
  go_wp2_with fail
  go_loopw [6] (fun v wr => ∃ (c : List Nat) (r2 cap2 : Nat), v = .slice (some ⟨r2, 0, none⟩) n cap2 ∧ Nums wr r1 (.slice (some ⟨r1, 0, none⟩) n cap1) c ∧ Nums wr r2 (.slice (some ⟨r2, 0, none⟩) n cap2) (lensOf c) ∧ RowKit.Hid (fit most c = fit most counts) ∧ RowKit.Hid (c.length = n) ∧ RowKit.Hid (∀ x ∈ c, x ≤ 100000) ∧ RowKit.Hid (∃ k, 0 < c.getD k 0) ∧ Kp [r1] w1 wr ∧ w1.heap.size ≤ r2) (fun _ wr => rowSum wr r1 n)
  case atStart => exact ⟨counts, r2, cap2, rfl, N1.on O2, N2, Lib.hid rfl, HN, HX, HP, Kp.of _ O2, hb2⟩
  case round =>
    obtain ⟨c, r3, cap3, rfl, N3, N4, HF, HC, HXc, HPc, K, hb3⟩ := hrel
    have hsm := lensOf_small HPc.out HXc.out (by rw [HC.out]; exact hn2)
    have hst := Lib.hid (smost_calls (lensOf c) r3 0 n cap3 wr N4.row.1.toO ((lensOf_length c).trans HC.out) (by omega) N4.row.2.2.1 (fun x hx => by have := hsm x hx; omega))
    have hfs := Lib.hid (fit_step hm1 HPc.out (show c.length < fib (most + 3) by rw [HC.out]; exact HL.out))
    clear hsm
    go_wp2_with fail
    refine hst.out.mono ?_
    rintro e w3 ⟨rfl, O3⟩
    obtain ⟨tp, htp⟩ : ∃ tp, top (lensOf c) = tp := ⟨_, rfl⟩
    have HTP := Lib.hid htp
    rw [htp]
    clear htp hst
    by_cases ht : tp ≤ most
    · have ht' : ¬ (most : Int) < (tp : Int) := by omega
      have hres : fit most counts = lensOf c := by rw [← HF.out, hfs.out, if_pos (by rw [HTP.out]; exact ht)]
      have HR := Lib.hid hres
      have hlen : (lensOf c).length = n := (lensOf_length c).trans HC.out
      have HLE := Lib.hid hlen
      clear hres hlen
      have N5 := N4.on O3
      go_wp2_with fail
      go_ret
      exact ⟨r3, cap3, by rw [HR.out, HLE.out]; rfl, by rw [HR.out, HLE.out]; exact N5, by have := O1.size; omega, N5.row.1.lt, (K.then (Kp.of _ O3)).on O1 (fun x hx => by simp at hx; omega)⟩
    · have ht' : (most : Int) < (tp : Int) := by omega
      have N5 := N3.on O3
      have hc3 := N3.row.2.2.1
      go_wp2_with fail
      go_loopw [7] (fun x w4 => ∃ (k : Nat), x = .int .i64 (k : Int) ∧ k ≤ n ∧ Nums w4 r1 (.slice (some ⟨r1, 0, none⟩) n cap1) (halfTo c k) ∧ Kp [r1] w3 w4) (fun x _ => n - (intOf x).toNat)
      case atStart => exact ⟨0, rfl, by omega, by unfold halfTo; rw [List.take_zero, List.nil_append, List.drop_zero]; exact N5, Kp.refl _ _⟩
      case round =>
        obtain ⟨k, rfl, hk, N6, K6⟩ := hrel
        by_cases hlt : k < n
        · have hkl : k < c.length := by rw [HC.out]; exact hlt
          have hlt' : (k : Int) < (n : Int) := by omega
          have c0 := N6.row.1.cell (i64s_get (show k < (halfTo c k).length by rw [halfTo_length (Nat.le_of_lt hkl)]; exact hkl))
          rw [halfTo_get hkl] at c0
          have hs := halfTo_set hkl
          have hxk : c.getD k 0 ≤ 100000 := Cd.getD_le HXc.out k
          have HS := Lib.hid hs
          have fe : ∀ i, wr.frozen? ⟨r1, i, none⟩ = false := N6.row.1.frozen
          clear hs
          generalize c.getD k 0 = x at *
          have e1 : ((x : Int) + 1) / 2 = (((x + 1) / 2 : Nat) : Int) := by omega
          have NS := N6.set k ((x + 1) / 2)
          rw [HS.out] at NS
          have KS := K6.set (p := ⟨r1, k, none⟩) (.inl (by simp)) (.int .i64 (((x + 1) / 2 : Nat) : Int))
          rw [← e1] at NS KS
          clear e1
          go_wp2_with fail
          go_roundw
          case rel => exact ⟨k + 1, by go_num, by omega, NS, KS⟩
          case measure => simp [intOf]; omega
        · obtain rfl : k = n := by omega
          have hh : halfTo c k = halve c := by rw [← HC.out]; exact halfTo_all c
          rw [hh] at N6
          have hlh : (halve c).length = k := (halve_length c).trans HC.out
          have HLH := Lib.hid hlh
          clear hh hlh
          have hst := Lib.hid (slens3_calls (halve c) r1 0 k cap1 wr N6.row.1.toO HLH.out hn2 hc1 (halve_le HXc.out))
          have hll : (lensOf (halve c)).length = k := (lensOf_length _).trans HLH.out
          have HLL := Lib.hid hll
          clear hll
          go_wp2_with fail
          refine hst.out.mono ?_
          rintro e w5 ⟨r5, cap5, rfl, N7, hb7, hr7, O7⟩
          rw [HLL.out] at N7 ⊢
          have N8 := N6.on O7
          have Kt : Kp [r1] w1 w5 := ((K.then (Kp.of _ O3)).then K6).then (Kp.of _ O7)
          have hm : rowSum w5 r1 k = (halve c).sum := rowSum_of N8.row.1 HLH.out
          have hm0 := rowSum_of N3.row.1 HC.out
          have hsl := halve_less hm1 HPc.out (show c.length < fib (most + 3) by rw [HC.out]; exact HL.out) (by rw [HTP.out]; omega)
          have HM := Lib.hid hm
          have HM0 := Lib.hid hm0
          have HSL := Lib.hid hsl
          clear hm hm0 hsl
          go_wp2_with fail
          go_roundw
          case rel => exact ⟨halve c, r5, cap5, rfl, N8, N7, Lib.hid (by rw [← HF.out, hfs.out, if_neg (by rw [HTP.out]; exact ht)]), HLH, Lib.hid (halve_le HXc.out), Lib.hid (halve_pos HPc.out), Kt, by have := Kt.size; have := O7.size; have := K6.size; have := O3.size; have := K.size; omega⟩
          case measure => rw [HM.out, HM0.out]; exact HSL.out
open Go.Proofs.YtncidljdfipigaaDoor.En in
set_option maxRecDepth 100000 in
theorem slast_calls (lens : List Nat) (g n cap least : Nat) (w : World) (hR : RowO w g 0 3 (i64s lens)) (hn : lens.length = n) (hn2 : n ≤ 1000) (hnc : n ≤ cap) (hl : least ≤ 1000) :
    Calls Tryd.prog 92 #[.slice (some ⟨g, 0, none⟩) n cap, .int .i64 (least : Int)] w fun e w' => e = .returned (.slice (some ⟨g, 0, none⟩) (trimTo lens least n) cap) ∧ w' = w := by
  have HN := Lib.hid hn
  clear hn
  go_enter Tryd.func92, Tryd.ntmps92
  go_wp2_with fail
  go_loop [5] (fun x => ∃ (k : Nat), x = .int .i64 (k : Int) ∧ k ≤ n ∧ RowKit.Hid (trimTo lens least k = trimTo lens least n)) (fun x => (intOf x).toNat)
  case atStart => exact ⟨n, rfl, Nat.le_refl _, Lib.hid rfl⟩
  case round =>
    obtain ⟨k, rfl, hk, HT⟩ := hrel
    by_cases h1 : least < k
    · obtain ⟨j, rfl⟩ : ∃ j, k = j + 1 := ⟨k - 1, by omega⟩
      have h1' : decide ((least : Int) < ((j + 1 : Nat) : Int)) = true := by simp; omega
      have c0 := hR.cell (i64s_get (show j < lens.length by rw [HN.out]; omega))
      rw [Nat.zero_add] at c0
      have hj : (j : Int) < n := by omega
      have e1 : ((j + 1 : Nat) : Int) - 1 = (j : Int) := by omega
      have hstep := Lib.hid (show trimTo lens least (j + 1) = if least < j + 1 ∧ lens.getD j 0 = 0 then trimTo lens least j else j + 1 from rfl)
      generalize lens.getD j 0 = x at *
      by_cases h0 : x = 0
      · have h0' : ((x : Int) == 0) = true := by simp; omega
        have HS : RowKit.Hid (trimTo lens least j = trimTo lens least n) := Lib.hid (by rw [← HT.out, hstep.out, if_pos ⟨h1, h0⟩])
        clear h0
        go_wp2_with fail
        go_round
        case rel => exact ⟨j, by go_num, by omega, HS⟩
        case measure => simp [intOf]
      · have h0' : ((x : Int) == 0) = false := by simpa using h0
        have HS : RowKit.Hid (j + 1 = trimTo lens least n) := Lib.hid (by rw [← HT.out, hstep.out, if_neg (fun h => h0 h.2)])
        clear h0
        go_wp2_with fail
        go_ret
        exact ⟨by rw [← HS.out]; rfl, rfl⟩
    · have h1' : decide ((least : Int) < (k : Int)) = false := by simp; omega
      have HS : RowKit.Hid (k = trimTo lens least n) := Lib.hid (by
        rw [← HT.out]
        cases k with
        | zero => rfl
        | succ j => rw [trimTo, if_neg (fun h => h1 h.1)])
      go_wp2_with fail
      go_ret
      exact ⟨by rw [← HS.out]; rfl, rfl⟩
end Go.Proofs.YtncidljdfipigaaDoor.Wi
