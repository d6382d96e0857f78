/- Lengths by how often symbols come, as the program makes them: depths. Conditions: numbers, sizes. -/
import Derived.Test.YtncidljdfipigaaDoorHj
namespace Go.Proofs.YtncidljdfipigaaDoor.Wi
open Go.RowKit Go.Proofs.YtncidljdfipigaaDoor.Mem Go.Proofs.YtncidljdfipigaaDoor.Hf
set_option linter.unusedVariables false
set_option linter.unusedSimpArgs false
theorem leaf_headed (counts : List Nat) (k : Nat) : Headed (leaf counts k) := by
  refine ⟨by simp [leaf], rfl, fun z hz => ?_⟩
  have : z = k := by simpa [leaf] using hz
  show k ≤ z
  omega
set_option maxRecDepth 100000 in
set_option maxHeartbeats 2000000 in
theorem idepths_calls (counts : List Nat) (g o n cap : Nat) (w : World) (hR : RowO w g o 3 (i64s counts)) (hn : counts.length = n) (hn2 : n ≤ 300) (hnc : n ≤ cap) (hx : ∀ x ∈ counts, x ≤ 100000) :
    Calls Tryd.prog 98 #[.slice (some ⟨g, o, none⟩) n cap] w (GivesI w (lensOf counts)) := by
  have HN := Lib.hid hn
  clear hn
  obtain ⟨i2, hi, hz0, hz1, hz2⟩ := info_parts heapinfo
  obtain ⟨i1, hi1, hj0, hj1, hj2⟩ := info_parts i64info
  go_enter Tryd.func98, Tryd.ntmps98
  go_wp2_with (at_make; go_must (refine wpList_ints _ rfl _ _ rfl _ _ n rfl rfl rfl rfl (by omega) ?_); intro w1 hN1 O1 hlt1)
  have NC := Own.new (base := w1.heap.size) w1 123 2 #[] 0 (Nat.zero_le _) rfl (Nat.le_refl _)
  have OC := (On.refl w1).alloc (.cells #[] 123)
  generalize hA : w.heap.size = A at *
  generalize w1.alloc (.cells #[] 123) = w2 at *
  go_loopw [4, 20] (fun v x wr => ∃ (k : Nat) (X : List Tr), x = .int .i64 (k : Int) ∧ k ≤ n ∧ Own w1.heap.size wr 123 2 v X.length (hcells X) ∧ X.map (·.1) = (some_ counts k).map (leaf counts) ∧ Syms wr w1.heap.size X ∧ On w1 wr ∧ X.length ≤ k) (fun _ x _ => n - (intOf x).toNat)
  case atStart => exact ⟨0, [], rfl, by omega, NC, rfl, fun x hx => (by cases hx), OC, Nat.le_refl _⟩
  case round =>
    obtain ⟨k, X, rfl, hk, hO, hX, hS, O, hXk⟩ := hrel
    by_cases hlt : k < n
    · have hkl : k < counts.length := by rw [HN.out]; exact hlt
      have c0 := (hR.on (O1.call O)).cell (i64s_get hkl)
      have hmem : counts.getD k 0 ∈ counts := by rw [List.getD_eq_getElem?_getD, List.getElem?_eq_getElem hkl]; exact List.getElem_mem _
      have hx1 := hx _ hmem
      have HT := Lib.hid (some_succ counts k)
      have HL := Lib.hid (show leaf counts k = ⟨counts.getD k 0, k, [k]⟩ from rfl)
      clear hmem
      generalize counts.getD k 0 = x at *
      have hk2 : (k : Int) < n := by omega
      by_cases h0 : 0 < x
      · have h0' : (0 : Int) < x := by omega
        have OS := (On.refl wr).alloc (.cells #[.int .i64 (k : Int)] 3)
        have BS := Blk.new wr 3 #[.int .i64 (k : Int)]
        have hown2 := hO.on OS
        have O2 := O.call OS
        have hw1r := O.size
        go_wp2_with (at_builtin; go_must (refine wpList_app rfl _ _ 121 rfl w1 i2 (.agg #[.int .i64 0, .slice none 0 0]) 32 2 Tryd.underlying121 hi hz0 hz1 hz2 rfl (by decide) rfl _ _ _ rfl hown2 O2 (by simp [Act.eval]) (by simp [Value.oneCell']) (by unfold maxLen; omega) (by omega) ?_); intro v' w3 hown' O' hk3)
        go_roundw
        case rel =>
          have e : hcells X ++ (#[Value.int .i64 (x : Int), .slice (some ⟨wr.heap.size, 0, none⟩) 1 1] : Array Value).toList = hcells (X ++ [(⟨x, k, [k]⟩, wr.heap.size, 1)]) := by
            rw [hcells_append]; rfl
          rw [e] at hown'
          obtain ⟨gl, cl, hv, _, hrow, _⟩ := hO.parts
          refine ⟨k + 1, X ++ [(⟨x, k, [k]⟩, wr.heap.size, 1)], by go_num, by omega, by rw [List.length_append]; exact hown', ?_, ?_, O', by rw [List.length_append]; simp; omega⟩
          · rw [List.map_append, hX, HT.out, if_pos h0, List.map_append]
            show _ ++ [_] = _ ++ [leaf counts k]
            rw [HL.out]
          · intro y hy
            rcases List.mem_append.1 hy with h | h
            · obtain ⟨r1, r2, r3⟩ := hS y h
              refine ⟨?_, r2, r3⟩
              obtain ⟨cs, hb, ht⟩ := (r1.on OS).out
              refine ⟨cs, hk3 _ _ _ hb ?_, ht⟩
              rw [hv]
              show (Value.slice (some ⟨gl, 0, none⟩) X.length cl).ownBlock ≠ some _
              intro hh
              exact rowo_neh r1 hrow (Option.some.inj hh).symm
            · obtain rfl : y = (⟨x, k, [k]⟩, wr.heap.size, 1) := by simpa using h
              refine ⟨⟨#[.int .i64 (k : Int)], hk3 _ _ _ BS ?_, rfl⟩, hw1r, Nat.le_refl _⟩
              rw [hv]
              show (Value.slice (some ⟨gl, 0, none⟩) X.length cl).ownBlock ≠ some _
              intro hh
              have h1 : gl = wr.heap.size := Option.some.inj hh
              have := hrow.lt
              omega
        case measure => simp [intOf]; omega
      · have h0' : ¬ (0 : Int) < x := by omega
        go_wp2_with fail
        go_roundw
        case rel => exact ⟨k + 1, X, by go_num, by omega, hO, by rw [hX, HT.out, if_neg h0, List.append_nil], hS, O, by omega⟩
        case measure => simp [intOf]; omega
    · have hkn : k = n := by omega
      have hkn' : ¬ (k : Int) < (n : Int) := by omega
      have hlv : X.map (·.1) = leaves counts := by rw [hX]; unfold leaves; rw [HN.out, hkn]
      have hXc : ∀ y ∈ X, y.1.c ≤ 100000 ∧ y.1.f < n ∧ (∀ z ∈ y.1.s, z < n) ∧ y.1.s.length ≤ 1 ∧ Headed y.1 := by
        intro y hy
        have hm : y.1 ∈ leaves counts := by rw [← hlv]; exact List.mem_map.2 ⟨y, hy, rfl⟩
        unfold leaves at hm
        obtain ⟨j, hj, he⟩ := List.mem_map.1 hm
        rw [← he]
        have hjk : j < n := by unfold some_ at hj; have := (List.mem_filter.1 hj).1; rw [HN.out] at this; simpa using this
        refine ⟨?_, hjk, fun z hz => ?_, Nat.le_refl _, leaf_headed counts j⟩
        · exact Cd.getD_le hx j
        · have : z = j := by simpa [leaf] using hz
          omega
      have SM : Small n X := ⟨fun y hy => ⟨(hXc y hy).2.1, (hXc y hy).2.2.1⟩, by have := sum_le (fun y : Tr => y.1.c) 100000 X (fun y hy => (hXc y hy).1); omega, by have := sum_le (fun y : Tr => y.1.s.length) 1 X (fun y hy => (hXc y hy).2.2.2.1); omega⟩
      have HLV := Lib.hid hlv
      have HXC := Lib.hid hXc
      have hN2 := hN1.on O
      obtain ⟨gl, cl, hv, hgl1, hrow, hcl, _, _⟩ := hO.parts
      have hAl : A < w1.heap.size := hlt1
      subst hv
      have hk300 : X.length ≤ 300 := by omega
      clear hX hlv hXc hkn
      by_cases h1 : X.length = 1
      · obtain ⟨x0, rfl⟩ := List.length_eq_one_iff.1 h1
        have hgt := (hcells_get [x0] (i := 0) (by simp)).2
        have c1 := hrow.cell hgt
        obtain ⟨_, hf0, _, _, hd0⟩ := HXC.out x0 (by simp)
        obtain ⟨hr0, _, _⟩ := hS x0 (by simp)
        have c2 := hr0.cell (i64s_get hd0.h0)
        rw [hd0.head] at c2
        have hs0 := hd0.h0
        have hlen : lensOf counts = (List.replicate n 0).set x0.1.f 1 := by
          have e : (leaves counts).length = 1 := by rw [← HLV.out, List.length_map]; exact h1
          unfold lensOf
          rw [if_pos e, HN.out, ← HLV.out]; rfl
        have HLEN := Lib.hid hlen
        have hcl' : x0.1.f < (List.replicate n 0).length := by simpa using hf0
        have cs := hN2.row.1.cell (i64s_get hcl')
        have fe : ∀ i, wr.frozen? ⟨A, i, none⟩ = false := hN2.row.1.frozen
        have hf0' : (x0.1.f : Int) < (n : Int) := by omega
        have hs0' : (0 : Int) < (x0.1.s.length : Int) := by omega
        have NS := hN2.set x0.1.f 1
        have OS : On w (wr.setCell ⟨A, x0.1.f, none⟩ (.int .i64 ((1 : Nat) : Int))) := (O1.call O).set (p := ⟨A, x0.1.f, none⟩) (by rw [hA]; exact Nat.le_refl _) _
        have hAr : A < (wr.setCell ⟨A, x0.1.f, none⟩ (.int .i64 ((1 : Nat) : Int))).heap.size := NS.row.1.lt
        clear hcl' hlen hgt h1
        simp only [List.getElem_cons_zero, Nat.mul_zero, Nat.zero_add, List.length_singleton] at c1 c2 ⊢
        go_wp2_with fail
        go_ret
        have hl : (lensOf counts).length = n := by rw [HLEN.out]; simp
        exact ⟨A, n, by rw [hl]; rfl, by rw [hl, HLEN.out]; exact NS, by omega, hAr, OS⟩
      · have h1' : ((X.length : Int) == 1) = false := by simp; omega
        have hR5 : rounds X.length (List.replicate n 0) (X.map (·.1)) = lensOf counts := by
          have e : (leaves counts).length = X.length := by rw [← HLV.out, List.length_map]
          unfold lensOf
          rw [if_neg (by rw [e]; exact h1), e, HLV.out, HN.out]
        have hR5' := Lib.hid hR5
        clear hR5 h1
        go_wp2_with fail
        go_loopw [4] (fun v wr2 => ∃ (X : List Tr) (out : List Nat) (F : Nat), Own w1.heap.size wr2 123 2 v X.length (hcells X) ∧ Syms wr2 w1.heap.size X ∧ Nums wr2 A (.slice (some ⟨A, 0, none⟩) n n) out ∧ Kp [A] w1 wr2 ∧ out.length = n ∧ X.length ≤ F + 1 ∧ X.length ≤ 300 ∧ Small n X ∧ (∀ y ∈ X, Headed y.1) ∧ RowKit.Hid (∀ y ∈ out, y + 600 * X.length ≤ 1000000) ∧ RowKit.Hid (rounds F out (X.map (·.1)) = lensOf counts)) (fun v _ => match v with | .slice _ m _ => m | _ => 0)
        case atStart => exact ⟨X, List.replicate n 0, X.length, hO, hS, hN2, Kp.of _ O, by simp, by omega, hk300, SM, fun y hy => (HXC.out y hy).2.2.2.2, Lib.hid (fun y hy => by have := List.eq_of_mem_replicate hy; omega), hR5'⟩
        case round =>
          obtain ⟨Y, out, F2, hO2, hS2, hN3, K2, hol, hYF, hY3, SY, HDY, HOB2, HR⟩ := hrel
          obtain ⟨g2, c2, hv2, hg2, hrow2, hc2, _, _⟩ := hO2.parts
          subst hv2
          by_cases h2 : Y.length ≤ 1
          · have h2' : ¬ (1 : Int) < (Y.length : Int) := by omega
            have hout : out = lensOf counts := by
              rw [← HR.out]
              cases F2 with
              | zero => rfl
              | succ f => rw [rounds, if_pos (by rw [List.length_map]; exact h2)]
            have HO := Lib.hid hout
            clear hout
            go_wp2_with fail
            go_ret
            have hl : (lensOf counts).length = n := by rw [← HO.out]; exact hol
            refine ⟨A, n, by rw [hl]; rfl, by rw [hl, ← HO.out]; exact hN3, by omega, hN3.row.1.lt, K2.on O1 (fun y hy => by simp at hy; omega)⟩
          · have h2' : (1 : Int) < (Y.length : Int) := by omega
            have hcb : ∀ y ∈ Y, y.1.c ≤ 100000000 ∧ y.1.f ≤ 1000 := fun y hy => ⟨by have := le_sum (fun y : Tr => y.1.c) Y y hy; have := SY.sum; omega, by have := (SY.at_ y hy).1; omega⟩
            have HDYh := Lib.hid HDY
            clear HDY
            go_wp2_with fail
            refine (ileast_calls Y g2 Y.length c2 w1.heap.size wr hrow2 hS2 HDYh.out rfl (by omega) (by omega) hc2 hcb).mono ?_
            rintro e w6 ⟨ka, xa, v7, hkae, hxa?, rfl, hO7, O6⟩
            have hka := least_lt (l := Y.map (·.1)) (by rw [List.length_map]; omega)
            rw [List.length_map, hkae] at hka
            have hxa : Y[ka] = xa := by rw [List.getElem?_eq_getElem hka] at hxa?; exact Option.some.inj hxa?
            have HKA := Lib.hid hkae
            have HXA := Lib.hid hxa
            have hma : xa ∈ Y := by rw [← hxa]; exact List.getElem_mem hka
            have hl7 : (Y.eraseIdx ka).length = Y.length - 1 := List.length_eraseIdx_of_lt hka
            obtain ⟨Y1, hY1⟩ : ∃ Y1, Y.eraseIdx ka = Y1 := ⟨_, rfl⟩
            rw [hY1] at hO7 hl7
            obtain ⟨g3, c3, hv3, hg3, hrow3, hc3, _, _⟩ := hO7.parts
            subst hv3
            have hmY1 : ∀ y ∈ Y1, y ∈ Y := fun y hy => by rw [← hY1] at hy; exact List.mem_of_mem_eraseIdx hy
            have hcb1 : ∀ y ∈ Y1, y.1.c ≤ 100000000 ∧ y.1.f ≤ 1000 := fun y hy => hcb y (hmY1 y hy)
            have HMY1 := Lib.hid hmY1
            have BA := Blk.new w6 123 #[.int .i64 (xa.1.c : Int), .slice (some ⟨xa.2.1, 0, none⟩) xa.1.s.length xa.2.2]
            have OA := (On.refl w6).alloc (.cells #[.int .i64 (xa.1.c : Int), .slice (some ⟨xa.2.1, 0, none⟩) xa.1.s.length xa.2.2] 123)
            have O6A := O6.call OA
            clear hkae hxa hxa? hmY1
            go_wp2_with fail
            generalize hPA : w6.heap.size = pa at *
            generalize w6.alloc (.cells #[.int .i64 (xa.1.c : Int), .slice (some ⟨xa.2.1, 0, none⟩) xa.1.s.length xa.2.2] 123) = wa at *
            refine (ileast_calls Y1 g3 (Y.length - 1) c3 w1.heap.size wa (hrow3.on OA) (fun y hy => (hS2.on O6A) y (HMY1.out y hy)) (fun y hy => HDYh.out y (HMY1.out y hy)) hl7 (by omega) (by omega) hc3 hcb1).mono ?_
            rintro e w8 ⟨kb, xb, v9, hkbe, hxb?, rfl, hO8, O8⟩
            have hkb := least_lt (l := Y1.map (·.1)) (by rw [List.length_map]; omega)
            rw [List.length_map, hkbe] at hkb
            have hxb : Y1[kb] = xb := by rw [List.getElem?_eq_getElem hkb] at hxb?; exact Option.some.inj hxb?
            have HKB := Lib.hid hkbe
            have HXB := Lib.hid hxb
            have hmb : xb ∈ Y1 := by rw [← hxb]; exact List.getElem_mem hkb
            have hl9 : (Y1.eraseIdx kb).length = Y1.length - 1 := List.length_eraseIdx_of_lt hkb
            obtain ⟨Y2, hY2⟩ : ∃ Y2, Y1.eraseIdx kb = Y2 := ⟨_, rfl⟩
            rw [hY2] at hO8 hl9
            have BB := Blk.new w8 123 #[.int .i64 (xb.1.c : Int), .slice (some ⟨xb.2.1, 0, none⟩) xb.1.s.length xb.2.2]
            have OB := (On.refl w8).alloc (.cells #[.int .i64 (xb.1.c : Int), .slice (some ⟨xb.2.1, 0, none⟩) xb.1.s.length xb.2.2] 123)
            have O68 := O6A.call O8
            have O69 := O68.call OB
            clear hkbe hxb hxb?
            go_wp2_with fail
            have hO9 := hO8.on OB
            have BA9 := (BA.call O8.out).call OB.out
            have BB9 := BB
            generalize hPB : w8.heap.size = pb at *
            generalize w8.alloc (.cells #[.int .i64 (xb.1.c : Int), .slice (some ⟨xb.2.1, 0, none⟩) xb.1.s.length xb.2.2] 123) = w9 at *
            have HCA2 := Lib.hid (show ∀ W, Kp [] w9 W → W.cell? ⟨pa, 1, none⟩ = some (.slice (some ⟨xa.2.1, 0, none⟩) xa.1.s.length xa.2.2) from fun W h => (h.cell BA9.lt (by simp)).trans ((BA9.cell 1).trans rfl))
            have HCB2 := Lib.hid (show ∀ W, Kp [] w9 W → W.cell? ⟨pb, 1, none⟩ = some (.slice (some ⟨xb.2.1, 0, none⟩) xb.1.s.length xb.2.2) from fun W h => (h.cell BB9.lt (by simp)).trans ((BB9.cell 1).trans rfl))
            have Rxa : RowO w9 xa.2.1 0 3 (i64s xa.1.s) := (hS2 xa hma).1.on O69
            have Rxb : RowO w9 xb.2.1 0 3 (i64s xb.1.s) := (hS2 xb (HMY1.out _ hmb)).1.on O69
            have hsa : xa.1.s.length ≤ 300 := by have := le_sum (fun y : Tr => y.1.s.length) Y xa hma; have := SY.many; omega
            have hsb : xb.1.s.length ≤ 300 := by have := le_sum (fun y : Tr => y.1.s.length) Y xb (HMY1.out _ hmb); have := SY.many; omega
            have CA2 := HCA2.out
            have CB2 := HCB2.out
            refine wp_region_held_drew (S := fun W => Kp [] w9 W) (by kernel_rfl) (Kp.refl _ _).drew (fun hHeld => ?_)
            have OwD := (On.refl w9).drew
            refine wpAnyH_take (i := 1) (oi := _) (v := ?_) rfl (by kernel_rfl) (by kernel_rfl) (by kernel_rfl) (fun _ _ _ h => h) (Or.inl ⟨by rfl, ?_⟩) (by assumption) ?_
            rotate_left
            · intro w hSw
              go_simp
              first | done | with_reducible rfl
            try simp only [Act.put, List.setIfInBounds_toArray, List.set_cons_zero, List.set_cons_succ]
            refine wpAnyH_take (i := 2) (oi := _) (v := ?_) rfl (by kernel_rfl) (by kernel_rfl) (by kernel_rfl) (fun _ _ _ h => h) (Or.inl ⟨by rfl, ?_⟩) (by assumption) ?_
            rotate_left
            · intro w hSw
              go_simp
              first | done | with_reducible rfl
            try simp only [Act.put, List.setIfInBounds_toArray, List.set_cons_zero, List.set_cons_succ]
            refine wpAnyH_take (i := 4) (oi := _) (v := ?_) rfl (by kernel_rfl) (by kernel_rfl) (by kernel_rfl) (fun _ _ _ h => h) (Or.inl ⟨by rfl, ?_⟩) (by assumption) ?_
            rotate_left
            · intro w hSw
              go_simp
              first | done | with_reducible rfl
            try simp only [Act.put, List.setIfInBounds_toArray, List.set_cons_zero, List.set_cons_succ]
            refine wpAnyH_take (i := 5) (oi := _) (v := ?_) rfl (by kernel_rfl) (by kernel_rfl) (by kernel_rfl) (fun _ _ _ h => h) (Or.inl ⟨by rfl, ?_⟩) (by assumption) ?_
            rotate_left
            · intro w hSw
              go_simp
              first | done | with_reducible rfl
            try simp only [Act.put, List.setIfInBounds_toArray, List.set_cons_zero, List.set_cons_succ]
            refine wpAnyH_strong (S' := fun W => Kp [] w9.drew W) (fun W h => Kp.then (Kp.of [] OwD) h) ?_
            have hHeldN : (fun W => Kp [] w9.drew W) w9.drew := Kp.refl _ _
            clear CA2 CB2
            generalize w9.drew = wD at *
            refine wpAnyH_ready (rs := [0]) (by kernel_rfl) (by simp) ?_
            refine AllReadyH.cons (o := _) rfl (fun K hK => ?_) AllReadyH.nil
            go_simp
            have OE := (On.refl wD).alloc (.cells #[] 3)
            have NE := Own.new (base := w9.heap.size) wD 3 1 #[] 0 (Nat.zero_le _) rfl OwD.size
            have OwE := OwD.call OE
            have hzD := OwD.size
            refine hK.out _ _ (Kp.of [] OE) (fun hHeld => ?_)
            clear hK K
            try simp only [Act.put, List.setIfInBounds_toArray, List.set_cons_zero, List.set_cons_succ]
            generalize hE : wD.heap.size = E at *
            generalize wD.alloc (.cells #[] 3) = wE at *
            refine wpAnyH_ready (rs := [3]) (by kernel_rfl) (by simp) ?_
            refine AllReadyH.cons (o := _) rfl (fun K hK => ?_) AllReadyH.nil
            refine step_append_any rfl _ _ 58 rfl w9.heap.size 3 i1 (.int .i64 0) 1 8 Tryd.underlying58 hi1 hj0 hj1 hj2 rfl (by omega) (.slice (some ⟨E, 0, none⟩) 0 0) 0 [] rfl NE.own ⟨xa.2.1, 0, none⟩ xa.1.s.length xa.2.2 (i64s xa.1.s) rfl (by rw [i64s_length]; omega) (news_of (Rxa.on OwE)) (fun u hu => i64s_one hu) (by unfold maxLen; omega) (by omega) OwE.size ?_
            intro v1 w10 hownv1 hgrv1 hnilv1 hobv1
            have HOB : (Value.slice (some ⟨E, 0, none⟩) 0 0).ownBlock = some E := rfl
            have Owv1 : On w9 w10 := OwE.grown hgrv1 (fun y hy => by rw [HOB] at hy; cases hy; omega)
            have Odv1 : On wD w10 := OE.grown hgrv1 (fun y hy => by rw [HOB] at hy; cases hy; omega)
            have hnn1 : v1 ≠ .slice none 0 0 := fun e => by cases (hnilv1.1 e).1
            have hvb : ∀ y, v1.ownBlock = some y → wD.heap.size ≤ y := fun y hy => by
              rcases hobv1 with e | e
              · rw [e, HOB] at hy; cases hy; omega
              · rw [e] at hy; cases hy; exact OE.size
            show K (Act.put _ (some 63) v1) w10
            refine hK.out _ _ (Kp.of [] Odv1) (fun hHeld => ?_)
            clear hK K
            try simp only [Act.put, List.setIfInBounds_toArray, List.set_cons_zero, List.set_cons_succ]
            refine wpAnyH_ready (rs := [6]) (by kernel_rfl) (by simp) ?_
            refine AllReadyH.cons (o := _) rfl (fun K hK => ?_) AllReadyH.nil
            refine step_append_any rfl _ _ 58 rfl w9.heap.size 3 i1 (.int .i64 0) 1 8 Tryd.underlying58 hi1 hj0 hj1 hj2 rfl (by omega) v1 (0 + xa.1.s.length) _ rfl hownv1 ⟨xb.2.1, 0, none⟩ xb.1.s.length xb.2.2 (i64s xb.1.s) rfl (by rw [i64s_length]; omega) (news_of (Rxb.on Owv1)) (fun u hu => i64s_one hu) (by unfold maxLen; omega) (by omega) Owv1.size ?_
            intro v2 w11 hownv2 hgrv2 hnilv2 hobv2
            skip
            have Owv2 : On w9 w11 := Owv1.grown hgrv2 (fun y hy => by have := hvb y hy; omega)
            have Odv2 : On wD w11 := Odv1.grown hgrv2 (fun y hy => by have := hvb y hy; omega)
            skip
            show K (Act.put _ (some 66) v2) w11
            refine hK.out _ _ (Kp.of [] Odv2) (fun hHeld => ?_)
            clear hK K
            try simp only [Act.put, List.setIfInBounds_toArray, List.set_cons_zero, List.set_cons_succ]
            refine wpAnyH_take (i := 7) (oi := _) (v := ?_) rfl (by kernel_rfl) (by kernel_rfl) (by kernel_rfl) (fun _ _ _ h => h) (Or.inl ⟨by rfl, ?_⟩) (by assumption) ?_
            rotate_left
            · intro w hSw
              go_simp
              first | done | with_reducible rfl
            try simp only [Act.put, List.setIfInBounds_toArray, List.set_cons_zero, List.set_cons_succ]
            refine wpAnyH_done (by kernel_rfl) ?_ _
            have hnn2 : v2 ≠ .slice none 0 0 := fun e => hnn1 (hnilv2.1 e).1
            obtain ⟨Sy, hSy⟩ : ∃ Sy, xa.1.s ++ xb.1.s = Sy := ⟨_, rfl⟩
            have hSl : 0 + xa.1.s.length + xb.1.s.length = Sy.length := by rw [← hSy, List.length_append]; omega
            have hOw : Own w9.heap.size w11 3 1 v2 Sy.length (i64s Sy) := by
              have e : i64s Sy = [] ++ i64s xa.1.s ++ i64s xb.1.s := by rw [← hSy]; unfold i64s; rw [List.map_append]; rfl
              rw [e, ← hSl]
              exact ⟨hownv2, hnn2⟩
            obtain ⟨g5, c5, hv5, hSr, hg5, hg5l⟩ := own_nums hOw rfl
            have hc5 := (hv5 ▸ hOw).own
            have hc5 : Sy.length ≤ c5 := hSr.row.2.2.1
            subst hv5
            have hSz : ∀ z ∈ Sy, z < n := by
              intro z hz
              rw [← hSy] at hz
              rcases List.mem_append.1 hz with h | h
              · exact (SY.at_ xa hma).2 z h
              · exact (SY.at_ xb (HMY1.out _ hmb)).2 z h
            have hS600 : Sy.length ≤ 600 := by omega
            have O9b : On wr w11 := O69.call Owv2
            have N11 := hN3.on O9b
            have hgA5 : g5 ≠ A := by
              have := K2.size
              have := O69.size
              omega
            have HSZ := Lib.hid hSz
            have HSY := Lib.hid hSy
            have hSy0 : 0 < Sy.length := by have := (HDYh.out xa hma).h0; omega
            clear hSz hSy hownv2 hgrv2 hnilv2 hobv2 hOw hSl
            go_wp2_with fail
            go_loopw [69] (fun x w12 => ∃ (j : Nat) (out2 cur : List Nat), x = .int .i64 (j : Int) ∧ j ≤ Sy.length ∧ Nums w12 A (.slice (some ⟨A, 0, none⟩) n n) out2 ∧ Nums w12 g5 (.slice (some ⟨g5, 0, none⟩) Sy.length c5) cur ∧ RowKit.Hid (out2 = bump out (Sy.take j)) ∧ RowKit.Hid (Swapped Sy j cur) ∧ Kp [A, g5] w11 w12) (fun x _ => Sy.length - (intOf x).toNat)
            case atStart => exact ⟨0, out, Sy, rfl, by omega, N11, hSr, Lib.hid (by rw [List.take_zero]; rfl), Lib.hid (Swapped.start Sy), Kp.refl _ _⟩
            case round =>
              obtain ⟨j, out2, cur, rfl, hj, hN12, hG12, HB2, HSW, K12⟩ := hrel
              by_cases hjl : j < Sy.length
              · have hjl' : (j : Int) < (Sy.length : Int) := by omega
                have hcl := HSW.out.length
                have s0 := hG12.row.1.cell (i64s_get (show j < cur.length by omega))
                rw [HSW.out.at_] at s0
                have hzk : Sy.getD j 0 < n := HSZ.out _ (by rw [List.getD_eq_getElem?_getD, List.getElem?_eq_getElem hjl]; exact List.getElem_mem _)
                have ho2l : out2.length = n := by rw [HB2.out, bump_length]; exact hol
                have hstep : out2.set (Sy.getD j 0) (out2.getD (Sy.getD j 0) 0 + 1) = bump out (Sy.take (j + 1)) := by
                  rw [List.take_succ_eq_append_getElem hjl, bump_append, ← HB2.out, List.getD_eq_getElem?_getD, List.getElem?_eq_getElem hjl]; rfl
                have hob3 : out2.getD (Sy.getD j 0) 0 ≤ 1001000 := by
                  rw [HB2.out, bump_get _ _ _ (by rw [hol]; exact hzk)]
                  have h1 := List.count_le_length (a := Sy.getD j 0) (l := Sy.take j)
                  rw [List.length_take] at h1
                  have h2 : out.getD (Sy.getD j 0) 0 ≤ 1000000 := Cd.getD_le (fun y hy => by have := HOB2.out y hy; omega) _
                  omega
                have hstay := HSW.out.stay
                have hswap := HSW.out.swap hjl
                have HST := Lib.hid hstep
                have o0 := hN12.row.1.cell (i64s_get (show Sy.getD j 0 < out2.length by omega))
                have fe : wr.frozen? ⟨A, Sy.getD j 0, none⟩ = false := hN12.row.1.frozen _
                have h00 := hG12.row.1.cell (i64s_get (show 0 < cur.length by omega))
                clear hstep
                have hz0 : j = 0 → Sy.getD j 0 = cur.getD 0 0 := fun e => by rw [← HSW.out.at_, e]
                have hat := HSW.out.at_
                generalize Sy.getD j 0 = z at *
                have HAT := Lib.hid hat
                generalize hcur0 : cur.getD 0 0 = h0 at *
                obtain ⟨oz, hoz⟩ : ∃ oz, out2.getD z 0 = oz := ⟨_, rfl⟩
                rw [hoz] at o0 HST hob3
                have HC0 := Lib.hid hcur0
                have HZ0 := Lib.hid hz0
                have HSTAY := Lib.hid hstay
                have HSWAP := Lib.hid hswap
                have hzk' : (z : Int) < (n : Int) := by omega
                have hz00 : (0 : Int) ≤ (z : Int) := by omega
                have NAs := hN12.set z (oz + 1)
                rw [HST.out] at NAs
                have KA := (Kp.refl [A] wr).set (p := ⟨A, z, none⟩) (.inl (by simp)) (.int .i64 ((oz + 1 : Nat) : Int))
                have NGs := hG12.kp KA (by simpa using hgA5)
                rw [show ((oz + 1 : Nat) : Int) = (oz : Int) + 1 from by omega] at NAs KA NGs
                have K13 := K12.then (KA.mono (T := [A, g5]) (fun x hx => .inl (by simp at hx ⊢; exact .inl hx)))
                clear hstay hswap h00 hcl hcur0 hz0 hoz hat
                go_upto_region 20 with fail
                generalize wr.setCell ⟨A, z, none⟩ (.int .i64 ((oz : Int) + 1)) = w13 at *
                have hcl := HSW.out.length
                have h00 := NGs.row.1.cell (i64s_get (show 0 < cur.length by omega))
                have s1 := NGs.row.1.cell (i64s_get (show j < cur.length by omega))
                rw [HC0.out] at h00
                rw [HAT.out] at s1
                have fg : ∀ i, w13.frozen? ⟨g5, i, none⟩ = false := NGs.row.1.frozen
                have hS0 : (0 : Int) < (Sy.length : Int) := by omega
                clear s0 o0 fe hcl
                by_cases hsw : z < h0
                · have hsw' : (z : Int) < (h0 : Int) := by omega
                  have hj0 : ¬ j = 0 := fun e => by have := HZ0.out e; omega
                  have hj1 : ¬ 0 = j := fun e => hj0 e.symm
                  have NG2 := (NGs.set 0 z).set j h0
                  have KG := ((Kp.refl [g5] w13).set (p := ⟨g5, 0, none⟩) (.inl (by simp)) (.int .i64 (z : Int))).set (p := ⟨g5, j, none⟩) (.inl (by simp)) (.int .i64 (h0 : Int))
                  have NA2 := NAs.kp KG (by simpa using Ne.symm hgA5)
                  have K14 := K13.then (KG.mono (T := [A, g5]) (fun x hx => .inl (by simp at hx ⊢; exact .inr hx)))
                  go_wp2_with fail
                  go_roundw
                  case rel => exact ⟨j + 1, _, _, by go_num, by omega, NA2, NG2, Lib.hid rfl, Lib.hid (HSWAP.out hsw), K14⟩
                  case measure => simp [intOf]; omega
                · have hsw' : ¬ (z : Int) < (h0 : Int) := by omega
                  go_wp2_with fail
                  go_roundw
                  case rel => exact ⟨j + 1, _, _, by go_num, by omega, NAs, NGs, Lib.hid rfl, Lib.hid (HSTAY.out hsw), K13⟩
                  case measure => simp [intOf]; omega
              · obtain rfl : j = Sy.length := by omega
                have hjl' : ¬ ((Sy.length : Int) < (Sy.length : Int)) := by omega
                have hcl := HSW.out.length
                obtain ⟨hHd, hSame⟩ := headed_join (HDYh.out xa hma) (HDYh.out xb (HMY1.out _ hmb)) (cur := cur) (by rw [HSY.out]; exact HSW.out)
                have K9r : Kp [A] w9 wr := ((Kp.of [A, g5] Owv2).then K12).mono (fun x hx => by simp at hx ⊢; rcases hx with rfl | rfl; exact .inl rfl; exact .inr hg5)
                have hAa : A < wa.heap.size := by have := K2.size; have := O6A.size; omega
                have hOr : Own w1.heap.size wr 123 2 v9 (Y.length - 1 - 1) (hcells Y2) := by
                  have h1 : Own wa.heap.size wr 123 2 v9 (Y.length - 1 - 1) (hcells Y2) := ⟨K9r.owns hO9.own (fun y hy => by have := hO9.block y hy; simp; omega), hO9.nn⟩
                  exact h1.low (by have := K2.size; have := O6A.size; omega)
                have ea0 : wr.cell? ⟨pa, 0, none⟩ = some (.int .i64 (xa.1.c : Int)) := (K9r.cell BA9.lt (by have h1 := O6.size; have h2 := K2.size; simp; omega)).trans ((BA9.cell 0).trans rfl)
                have eb0 : wr.cell? ⟨pb, 0, none⟩ = some (.int .i64 (xb.1.c : Int)) := (K9r.cell BB9.lt (by have h1 := O68.size; have h2 := K2.size; simp; omega)).trans ((BB9.cell 0).trans rfl)
                have ec : IntKind.i64.wrap ((xa.1.c : Int) + (xb.1.c : Int)) = (xa.1.c : Int) + (xb.1.c : Int) := by
                  have h1 := (hcb xa hma).1
                  have h2 := (hcb1 xb hmb).1
                  rw [IntKind.wrap_i64]; omega
                have OT := (On.refl wr).alloc (.cells #[.int .i64 ((xa.1.c : Int) + (xb.1.c : Int)), .slice (some ⟨g5, 0, none⟩) Sy.length c5] 123)
                have hOT := (hOr.on OT).own
                have NT := World.news_of_block (Blk.new wr 123 #[.int .i64 ((xa.1.c : Int) + (xb.1.c : Int)), .slice (some ⟨g5, 0, none⟩) Sy.length c5]).out
                have hbz : w1.heap.size ≤ (wr.alloc (.cells #[.int .i64 ((xa.1.c : Int) + (xb.1.c : Int)), .slice (some ⟨g5, 0, none⟩) Sy.length c5] 123)).heap.size := by have := OT.size; have := K9r.size; have := O69.size; have := K2.size; omega
                have HNT := Lib.hid NT
                have HHD := Lib.hid hHd
                have HSM := Lib.hid hSame
                have HCLN := Lib.hid hcl
                clear NT hHd hSame hcl
                go_wp2_with (at_builtin; go_must (refine Go.wpList_append_own_at _ rfl _ _ 121 rfl w1.heap.size 123 i2 (.agg #[.int .i64 0, .slice none 0 0]) 2 32 Tryd.underlying121 hi hz0 hz1 hz2 rfl (by omega) v9 (Y.length - 1 - 1) (hcells Y2) rfl hOT ⟨wr.heap.size, 0, none⟩ 1 1 _ rfl rfl HNT.out (by simp [Value.oneCell']) (by unfold maxLen; omega) (by omega) hbz ?_); intro v10 w10' hown10 hgr10 hnil10 hob10)
                obtain ⟨g9, c9, hv9, hg9, hrow9, _, _, _⟩ := hO9.parts
                have hg9l := hrow9.lt
                have hnn10 : v10 ≠ .slice none 0 0 := fun e => by have := (hnil10.1 e).2; omega
                have K10 : Kp [g9] wr w10' := ((Kp.refl _ _).alloc _).then (Kp.grown hgr10 (fun y hy => by rw [hv9] at hy; cases hy; simp))
                have K1t : Kp [A] w1 w10' := ((K2.then (Kp.of _ O69)).then K9r).trans K10 (fun x hx => by simp at hx; have := K2.size; have := O6A.size; omega)
                obtain ⟨xn, hxn⟩ : ∃ xn : Tr, xn = ((⟨xa.1.c + xb.1.c, min xa.1.f xb.1.f, cur⟩ : It), g5, c5) := ⟨_, rfl⟩
                have hXl : (Y2 ++ [xn]).length = Y.length - 1 - 1 + 1 := by rw [List.length_append, hl9, hl7]; rfl
                have hown11 : Own w1.heap.size w10' 123 2 v10 (Y2 ++ [xn]).length (hcells (Y2 ++ [xn])) := by
                  refine ⟨?_, hnn10⟩
                  have e : hcells [xn] = (#[Value.int .i64 ((xa.1.c : Int) + (xb.1.c : Int)), .slice (some ⟨g5, 0, none⟩) Sy.length c5] : Array Value).toList := by
                    rw [hxn, ← HCLN.out]; rfl
                  rw [hXl, hcells_append, e]
                  exact hown10
                obtain ⟨g10, c10, hv10, _⟩ := hown11.parts
                rw [hv10] at hown11
                rw [hv10]
                rw [hXl] at hown11 ⊢
                have hAg9 : A ≠ g9 := by omega
                have hmY2 : ∀ y ∈ Y2, y ∈ Y := fun y hy => by
                  rw [← hY2] at hy
                  exact HMY1.out y (List.mem_of_mem_eraseIdx hy)
                have HMY := Lib.hid hmY2
                clear hown10 hgr10 hnil10 hob10 hnn10 hv10 hv9 hmY2
                go_roundw
                case rel =>
                  obtain ⟨F, hF2⟩ : ∃ F, F2 = F + 1 := ⟨F2 - 1, by omega⟩
                  refine ⟨Y2 ++ [xn], out2, F, by rw [hXl]; exact hown11, ?_, hN12.kp K10 (by simpa using hAg9), K1t, by rw [HB2.out, bump_length]; exact hol, by rw [hXl]; omega, by rw [hXl]; omega, ?_, ?_, ?_, ?_⟩
                  · intro y hy
                    rcases List.mem_append.1 hy with h | h
                    · obtain ⟨r1, r2, r3⟩ := hS2 y (HMY.out y h)
                      have hyl := r1.lt
                      have := O6A.size
                      exact ⟨((r1.on O69).kp K9r (by simp; omega)).kp K10 (by simp; omega), r2, r3⟩
                    · obtain rfl : y = xn := by simpa using h
                      subst hxn
                      have := O69.size
                      have := K2.size
                      exact ⟨(hG12.row.1.toO).kp K10 (by simp; omega), by show w1.heap.size ≤ g5; omega, by show cur.length ≤ c5; rw [HCLN.out]; exact hc5⟩
                  · refine small_next SY hka (by rw [hl7]; omega) HXA.out hY1 HXB.out hY2 (by rw [hxn]) ?_ ?_ (by rw [hxn]; show cur.length = _; rw [HCLN.out, ← HSY.out, List.length_append])
                    · rw [hxn]
                      show min xa.1.f xb.1.f < n
                      have := (SY.at_ xa hma).1
                      omega
                    · rw [hxn]
                      exact fun z hz => HSZ.out z (HSW.out.perm.mem_iff.1 hz)
                  · intro y hy
                    rcases List.mem_append.1 hy with h | h
                    · exact HDYh.out y (HMY.out y h)
                    · obtain rfl : y = xn := by simpa using h
                      rw [hxn]
                      exact HHD.out
                  · refine Lib.hid ?_
                    rw [HB2.out, List.take_of_length_le (Nat.le_refl _), hXl]
                    exact bump_all HOB2.out (by omega)
                  · refine Lib.hid ?_
                    rw [← HR.out, hF2, rounds_next h2 hka (by rw [hl7]; omega) HKA.out HXA.out hY1 HKB.out HXB.out hY2, HB2.out, List.take_of_length_le (Nat.le_refl _), HSY.out, List.map_append, hxn]
                    exact rounds_same F _ _ _ ((Sames.refl _).snoc HSM.out)
                case measure => show Y.length - 1 - 1 + 1 < Y.length; omega
end Go.Proofs.YtncidljdfipigaaDoor.Wi
