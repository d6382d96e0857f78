/- Own texts joined: Hn, Hp. -/
import Derived.BigRegion
import Derived.Test.YtnadjlejlohgiaaGreatDoorW4
import Derived.Test.YtnadjlejlohgiaaGreatDoorW13
/- Lengths by how often symbols come, as the specification makes them: l3Lens. Conditions: numbers, sizes. -/
namespace Go.Proofs.YtnadjlejlohgiaaGreatDoor.Wi
open Go.RowKit Go.Proofs.YtnadjlejlohgiaaGreatDoor.Mem Go.Proofs.YtnadjlejlohgiaaGreatDoor.Hf
set_option linter.unusedVariables false
set_option linter.unusedSimpArgs false
/-- The trees' symbols lie in memory. -/
def Syms (w : World) (base : Nat) (X : List Tr) : Prop := ∀ x ∈ X, RowO w x.2.1 0 3 (i64s x.1.s) ∧ base ≤ x.2.1 ∧ x.1.s.length ≤ x.2.2
theorem Syms.on {w w' : World} {base : Nat} {X : List Tr} (h : Syms w base X) (O : On w w') : Syms w' base X := fun x hx => ⟨(h x hx).1.on O, (h x hx).2⟩
theorem some_succ (counts : List Nat) (k : Nat) : some_ counts (k + 1) = some_ counts k ++ (if 0 < counts.getD k 0 then [k] else []) := by
  unfold some_
  rw [List.range_succ, List.filter_append]
  congr 1
  by_cases h : 0 < counts.getD k 0
  · rw [if_pos h, List.filter_cons, if_pos (by simpa using h)]; rfl
  · rw [if_neg h, List.filter_cons, if_neg (by simpa using h)]; rfl
theorem sum_le {α : Type} (f : α → Nat) (m : Nat) : ∀ X : List α, (∀ y ∈ X, f y ≤ m) → (X.map f).sum ≤ X.length * m
  | [], _ => by simp
  | x :: X, h => by
    have := sum_le f m X (fun y hy => h y (List.mem_cons_of_mem _ hy))
    have := h x (List.mem_cons_self ..)
    rw [List.map_cons, List.sum_cons, List.length_cons, Nat.add_mul]
    omega
theorem le_sum {α : Type} (f : α → Nat) : ∀ (X : List α) (y : α), y ∈ X → f y ≤ (X.map f).sum
  | x :: X, y, h => by
    rw [List.map_cons, List.sum_cons]
    rcases List.mem_cons.1 h with rfl | h
    · omega
    · have := le_sum f X y h; omega
/-- What is known of trees that a row holds. -/
structure Small (k : Nat) (X : List Tr) : Prop where mk ::
  at_ : ∀ y ∈ X, y.1.f < k ∧ ∀ z ∈ y.1.s, z < k
  sum : (X.map (·.1.c)).sum ≤ 30000000
  many : (X.map (·.1.s.length)).sum ≤ 300
theorem sum_erase {α : Type} (f : α → Nat) : ∀ (X : List α) (k : Nat) (h : k < X.length), ((X.eraseIdx k).map f).sum + f X[k] = (X.map f).sum
  | x :: X, 0, _ => by simp; omega
  | x :: X, k + 1, h => by
    have := sum_erase f X k (by simpa using h)
    simp only [List.eraseIdx_cons_succ, List.map_cons, List.sum_cons, List.getElem_cons_succ]
    omega
theorem map_getD {Y : List Tr} {k : Nat} (h : k < Y.length) : (Y.map (·.1)).getD k dflt = Y[k].1 := by
  rw [List.getD_eq_getElem?_getD, List.getElem?_map, List.getElem?_eq_getElem h]; rfl
theorem map_erase (X : List Tr) (k : Nat) : (X.map (·.1)).eraseIdx k = (X.eraseIdx k).map (·.1) := by
  rw [List.eraseIdx_eq_take_drop_succ, List.eraseIdx_eq_take_drop_succ, List.map_append, List.map_take, List.map_drop]
/-- One round more. -/
theorem rounds_next {Y Y1 Y2 : List Tr} {ka kb F : Nat} {xa xb : Tr} {out : List Nat} (h2 : ¬ Y.length ≤ 1) (hka : ka < Y.length) (hkb : kb < Y1.length) (eka : least (Y.map (·.1)) = ka) (exa : Y[ka] = xa) (e1 : Y.eraseIdx ka = Y1)
    (ekb : least (Y1.map (·.1)) = kb) (exb : Y1[kb] = xb) (e2 : Y1.eraseIdx kb = Y2) : rounds (F + 1) out (Y.map (·.1)) = rounds F (bump out (xa.1.s ++ xb.1.s)) (Y2.map (·.1) ++ [one xa.1 xb.1]) := by
  have e3 : (Y.map (·.1)).eraseIdx ka = Y1.map (·.1) := by rw [← e1, map_erase]
  have e4 : (Y1.map (·.1)).eraseIdx kb = Y2.map (·.1) := by rw [← e2, map_erase]
  rw [rounds, if_neg (by rw [List.length_map]; exact h2), eka, e3, ekb, e4, map_getD hka, map_getD hkb, exa, exb]
theorem small_next {k : Nat} {Y Y1 Y2 : List Tr} {ka kb : Nat} {xa xb : Tr} {xn : Tr} (S : Small k Y) (hka : ka < Y.length) (hkb : kb < Y1.length) (exa : Y[ka] = xa) (e1 : Y.eraseIdx ka = Y1) (exb : Y1[kb] = xb) (e2 : Y1.eraseIdx kb = Y2)
    (hc : xn.1.c = xa.1.c + xb.1.c) (hf : xn.1.f < k) (hs : ∀ z ∈ xn.1.s, z < k) (hl : xn.1.s.length = xa.1.s.length + xb.1.s.length) : Small k (Y2 ++ [xn]) := by
  refine ⟨fun y hy => ?_, ?_, ?_⟩
  · rcases List.mem_append.1 hy with h | h
    · rw [← e2] at h
      have h := List.mem_of_mem_eraseIdx h
      rw [← e1] at h
      exact S.at_ y (List.mem_of_mem_eraseIdx h)
    · obtain rfl : y = xn := by simpa using h
      exact ⟨hf, hs⟩
  · have h1 := sum_erase (fun y : Tr => y.1.c) Y ka hka
    have h2 := sum_erase (fun y : Tr => y.1.c) Y1 kb hkb
    rw [e1, exa] at h1
    rw [e2, exb] at h2
    have := S.sum
    rw [List.map_append, List.sum_append]
    simp only [List.map_cons, List.map_nil, List.sum_cons, List.sum_nil]
    omega
  · have h1 := sum_erase (fun y : Tr => y.1.s.length) Y ka hka
    have h2 := sum_erase (fun y : Tr => y.1.s.length) Y1 kb hkb
    rw [e1, exa] at h1
    rw [e2, exb] at h2
    have := S.many
    rw [List.map_append, List.sum_append]
    simp only [List.map_cons, List.map_nil, List.sum_cons, List.sum_nil]
    omega
theorem bump_all {out S : List Nat} {m q q' : Nat} (h : ∀ y ∈ out, y + m ≤ q) (hS : S.length + q' ≤ m) : ∀ y ∈ bump out S, y + q' ≤ q := by
  intro y hy
  obtain ⟨i, hi, rfl⟩ := List.mem_iff_getElem.1 hy
  have hi2 : i < out.length := by rwa [bump_length] at hi
  have h1 := bump_get S out i hi2
  have h2 := List.count_le_length (a := i) (l := S)
  have h3 := h _ (List.getElem_mem hi2)
  rw [List.getD_eq_getElem?_getD, List.getElem?_eq_getElem hi, List.getD_eq_getElem?_getD, List.getElem?_eq_getElem hi2] at h1
  simp only [Option.getD_some] at h1
  omega
/-- A row of numbers is no row of trees. -/
theorem rowo_ne {w : World} {g g' o : Nat} {xs ys : List Value} (h : RowO w g o 3 xs) (h' : Row w g' 166 ys) : g ≠ g' := by
  rintro rfl
  obtain ⟨cs, hb, _⟩ := h.out
  obtain ⟨ds, hd, _⟩ := h'.out
  have := hb.out.symm.trans hd.out
  simp at this
theorem news_of {w : World} {r : Nat} {l : List Nat} (h : RowO w r 0 3 (i64s l)) : ∀ j u, (i64s l)[j]? = some u → w.cell? ((⟨r, 0, none⟩ : Addr).add j) = some u := fun j u hu => by
  have ha : (⟨r, 0, none⟩ : Addr).add j = ⟨r, 0 + j, none⟩ := by unfold Addr.add; split <;> simp_all
  rw [ha]
  exact h.cell hu
theorem i64s_one {l : List Nat} {u : Value} (h : u ∈ i64s l) : u.oneCell' = true := by
  unfold i64s at h
  obtain ⟨n, _, rfl⟩ := List.mem_map.1 h
  rfl
theorem treeinfo : (Tryz.prog.info? 166).map (fun i => (i.zero, i.size, i.bytes)) = some (some (.agg #[.int .i64 0, .int .i64 0, .slice none 0 0]), 3, 40) := by kernel_rfl
set_option maxRecDepth 100000 in
set_option maxHeartbeats 2000000 in
theorem slens3_calls (counts : List Nat) (g o n cap : Nat) (w : World) (hR : RowO w g o 3 (i64s counts)) (hn : counts.length = n) (hn2 : n ≤ 300) (hnc : n ≤ cap) (hx : ∀ x ∈ counts, x ≤ 100000) :
    Calls Tryz.prog 170 #[.slice (some ⟨g, o, none⟩) n cap] w (GivesI w (lensOf counts)) := by
  have HN := Lib.hid hn
  clear hn
  obtain ⟨i0, hi, hz0, hz1, hz2⟩ := info_parts treeinfo
  obtain ⟨i1, hi1, hj0, hj1, hj2⟩ := info_parts i64info
  go_enter Tryz.func170, Tryz.ntmps170
  go_wp2_with (at_make; go_must (refine wpList_ints _ rfl _ _ rfl _ _ n rfl rfl rfl rfl (by omega) ?_); intro w1 hN1 O1 hlt1)
  have NC := Own.new (base := w1.heap.size) w1 166 3 #[] 0 (Nat.zero_le _) rfl (Nat.le_refl _)
  have OC := (On.refl w1).alloc (.cells #[] 166)
  generalize hA : w.heap.size = A at *
  generalize w1.alloc (.cells #[] 166) = w2 at *
  go_loopw [4, 5] (fun v x wr => ∃ (k : Nat) (X : List Tr), x = .int .i64 (k : Int) ∧ k ≤ n ∧ Own w1.heap.size wr 166 3 v X.length (tcells X) ∧ X.map (·.1) = (some_ counts k).map (leaf counts) ∧ Syms wr w1.heap.size X ∧ On w1 wr ∧ X.length ≤ k) (fun _ x _ => n - (intOf x).toNat)
  case atStart => exact ⟨0, [], rfl, by omega, NC, rfl, fun x hx => (by cases hx), OC, Nat.le_refl _⟩
  case round =>
    obtain ⟨k, X, rfl, hk, hO, hX, hS, O, hXk⟩ := hrel
    by_cases hlt : k < n
    · have hkl : k < counts.length := by rw [HN.out]; exact hlt
      have c0 := (hR.on (O1.call O)).cell (i64s_get hkl)
      have hmem : counts.getD k 0 ∈ counts := by rw [List.getD_eq_getElem?_getD, List.getElem?_eq_getElem hkl]; exact List.getElem_mem _
      have hx1 := hx _ hmem
      have HT := Lib.hid (some_succ counts k)
      have HL := Lib.hid (show leaf counts k = ⟨counts.getD k 0, k, [k]⟩ from rfl)
      clear hmem
      generalize counts.getD k 0 = x at *
      have hk2 : (k : Int) < n := by omega
      by_cases h0 : 0 < x
      · have h0' : (0 : Int) < x := by omega
        have OS := (On.refl wr).alloc (.cells #[.int .i64 (k : Int)] 3)
        have BS := Blk.new wr 3 #[.int .i64 (k : Int)]
        have hown2 := hO.on OS
        have O2 := O.call OS
        have hw1r := O.size
        go_wp2_with (at_builtin; go_must (refine wpList_app rfl _ _ 164 rfl w1 i0 (.agg #[.int .i64 0, .int .i64 0, .slice none 0 0]) 40 3 Tryz.underlying164 hi hz0 hz1 hz2 rfl (by decide) rfl _ _ _ rfl hown2 O2 (by simp [Act.eval]) (by simp [Value.oneCell']) (by unfold maxLen; omega) (by omega) ?_); intro v' w3 hown' O' hk3)
        go_roundw
        case rel =>
          have e : tcells X ++ (#[Value.int .i64 (x : Int), .int .i64 (k : Int), .slice (some ⟨wr.heap.size, 0, none⟩) 1 1] : Array Value).toList = tcells (X ++ [(⟨x, k, [k]⟩, wr.heap.size, 1)]) := by
            rw [tcells_append]; rfl
          rw [e] at hown'
          obtain ⟨gl, cl, hv, _, hrow, _⟩ := hO.parts
          refine ⟨k + 1, X ++ [(⟨x, k, [k]⟩, wr.heap.size, 1)], by go_num, by omega, by rw [List.length_append]; exact hown', ?_, ?_, O', by rw [List.length_append]; simp; omega⟩
          · rw [List.map_append, hX, HT.out, if_pos h0, List.map_append]
            show _ ++ [_] = _ ++ [leaf counts k]
            rw [HL.out]
          · intro y hy
            rcases List.mem_append.1 hy with h | h
            · obtain ⟨r1, r2, r3⟩ := hS y h
              refine ⟨?_, r2, r3⟩
              obtain ⟨cs, hb, ht⟩ := (r1.on OS).out
              refine ⟨cs, hk3 _ _ _ hb ?_, ht⟩
              rw [hv]
              show (Value.slice (some ⟨gl, 0, none⟩) X.length cl).ownBlock ≠ some _
              intro hh
              exact rowo_ne r1 hrow (Option.some.inj hh).symm
            · obtain rfl : y = (⟨x, k, [k]⟩, wr.heap.size, 1) := by simpa using h
              refine ⟨⟨#[.int .i64 (k : Int)], hk3 _ _ _ BS ?_, rfl⟩, hw1r, Nat.le_refl _⟩
              rw [hv]
              show (Value.slice (some ⟨gl, 0, none⟩) X.length cl).ownBlock ≠ some _
              intro hh
              have h1 : gl = wr.heap.size := Option.some.inj hh
              have := hrow.lt
              omega
        case measure => simp [intOf]; omega
      · have h0' : ¬ (0 : Int) < x := by omega
        go_wp2_with fail
        go_roundw
        case rel => exact ⟨k + 1, X, by go_num, by omega, hO, by rw [hX, HT.out, if_neg h0, List.append_nil], hS, O, by omega⟩
        case measure => simp [intOf]; omega
    · obtain rfl : k = n := by omega
      have hlv : X.map (·.1) = leaves counts := by rw [hX]; unfold leaves; rw [HN.out]
      have hXc : ∀ y ∈ X, y.1.c ≤ 100000 ∧ y.1.f < k ∧ (∀ z ∈ y.1.s, z < k) := by
        intro y hy
        have hm : y.1 ∈ leaves counts := by rw [← hlv]; exact List.mem_map.2 ⟨y, hy, rfl⟩
        unfold leaves at hm
        obtain ⟨j, hj, he⟩ := List.mem_map.1 hm
        rw [← he]
        have hjk : j < k := by unfold some_ at hj; have := (List.mem_filter.1 hj).1; rw [HN.out] at this; simpa using this
        refine ⟨?_, hjk, fun z hz => ?_⟩
        · exact Cd.getD_le hx j
        · have : z = j := by simpa [leaf] using hz
          omega
      have hXs : ∀ y ∈ X, y.1.s.length ≤ 1 := by
        intro y hy
        have hm : y.1 ∈ leaves counts := by rw [← hlv]; exact List.mem_map.2 ⟨y, hy, rfl⟩
        unfold leaves at hm
        obtain ⟨j, hj, he⟩ := List.mem_map.1 hm
        rw [← he]
        exact Nat.le_refl _
      have SM : Small k X := ⟨fun y hy => (hXc y hy).2, by have := sum_le (fun y : Tr => y.1.c) 100000 X (fun y hy => (hXc y hy).1); omega, by have := sum_le (fun y : Tr => y.1.s.length) 1 X hXs; omega⟩
      have HLV := Lib.hid hlv
      have HXC := Lib.hid hXc
      clear hXs
      have hN2 := hN1.on O
      obtain ⟨gl, cl, hv, hgl1, hrow, hcl, _, _⟩ := hO.parts
      have hAl : A < w1.heap.size := hlt1
      clear hX hlv hXc
      obtain ⟨f0, hf0⟩ : ∃ f0, ((leaves counts).getD 0 dflt).f = f0 := ⟨_, rfl⟩
      have W5 : ∃ (w5 : World) (out5 : List Nat) (F : Nat), (w5 = if X.length = 1 then wr.setCell ⟨A, f0, none⟩ (.int .i64 1) else wr) ∧ Nums w5 A (.slice (some ⟨A, 0, none⟩) k k) out5 ∧ Own w1.heap.size w5 166 3 u4 X.length (tcells X) ∧ Syms w5 w1.heap.size X ∧ Kp [A] w1 w5 ∧ out5.length = k ∧ (∀ y ∈ out5, y ≤ 1) ∧ X.length ≤ F + 1 ∧ rounds F out5 (X.map (·.1)) = lensOf counts := by
        by_cases h1 : X.length = 1
        · have KS : Kp [A] wr (wr.setCell ⟨A, f0, none⟩ (.int .i64 1)) := (Kp.refl _ _).set (.inl (by simp)) _
          refine ⟨_, (List.replicate k 0).set f0 1, 0, by rw [if_pos h1]; rfl, hN2.set f0 1, ⟨KS.owns hO.own (fun y hy => by have := hO.block y hy; simp; omega), hO.nn⟩, fun y hy => ⟨(hS y hy).1.kp KS (by have := (hS y hy).2.1; simp; omega), (hS y hy).2⟩, (Kp.of _ O).then KS, by simp, fun y hy => by (rcases List.mem_or_eq_of_mem_set hy with h | h; (have := List.eq_of_mem_replicate h; omega); omega), by omega, ?_⟩
          have e : (leaves counts).length = 1 := by rw [← HLV.out, List.length_map]; exact h1
          unfold lensOf
          rw [if_pos e, HN.out, hf0]; rfl
        · refine ⟨wr, List.replicate k 0, X.length, by rw [if_neg h1], hN2, hO, hS, Kp.of _ O, by simp, fun y hy => by have := List.eq_of_mem_replicate hy; omega, by omega, ?_⟩
          have e : (leaves counts).length = X.length := by rw [← HLV.out, List.length_map]
          unfold lensOf
          rw [if_neg (by rw [e]; exact h1), e, HLV.out, HN.out]
      obtain ⟨w5, out5, F, hw5, N5, O5, S5, K5, hl5, hb5, hF, hR5⟩ := W5
      have HW5 := Lib.hid hw5
      have cell0 : X.length = 1 → wr.cell? ⟨gl, 1, none⟩ = some (.int .i64 (f0 : Int)) ∧ f0 < k := by
        intro h1
        obtain ⟨x0, rfl⟩ := List.length_eq_one_iff.1 h1
        have e : x0.1.f = f0 := by rw [← hf0, ← HLV.out]; rfl
        have := hrow.cell (tcells_get [x0] (i := 0) (by simp)).2.1
        rw [← e]
        exact ⟨this, (HXC.out x0 (by simp)).2.1⟩
      have HC0 := Lib.hid cell0
      have hR5' := Lib.hid hR5
      clear cell0 hw5 hR5 hf0
      subst hv
      have hk300 : X.length ≤ 300 := by omega
      have HN2 := Lib.hid hN2
      clear hN2
      by_cases h1 : X.length = 1
      case' pos =>
        obtain ⟨c1, hfk⟩ := HC0.out h1
        have h1' : ((X.length : Int) == 1) = true := by simp; omega
        have hcl : f0 < (List.replicate k 0).length := by simpa using hfk
        have cs := HN2.out.row.1.cell (i64s_get hcl)
        have fe : ∀ i, wr.frozen? ⟨A, i, none⟩ = false := HN2.out.row.1.frozen
        have hfk' : (f0 : Int) < (k : Int) := by omega
        have hXl : (0 : Int) < (X.length : Int) := by omega
        clear hcl
        go_wp2_with fail
        rw [← (HW5.out.trans (if_pos h1))]
      case' neg =>
        have h1' : ((X.length : Int) == 1) = false := by simp; omega
        go_wp2_with fail
        rw [← (HW5.out.trans (if_neg h1))]
      all_goals
        go_loopw [4] (fun v wr2 => ∃ (X : List Tr) (out : List Nat) (F : Nat), Own w1.heap.size wr2 166 3 v X.length (tcells X) ∧ Syms wr2 w1.heap.size X ∧ Nums wr2 A (.slice (some ⟨A, 0, none⟩) k k) out ∧ Kp [A] w1 wr2 ∧ out.length = k ∧ X.length ≤ F + 1 ∧ X.length ≤ 300 ∧ Small k X ∧ RowKit.Hid (∀ y ∈ out, y + 600 * X.length ≤ 1000000) ∧ RowKit.Hid (rounds F out (X.map (·.1)) = lensOf counts)) (fun v _ => match v with | .slice _ m _ => m | _ => 0)
        case atStart => exact ⟨X, out5, F, (by first | exact O5 | (rw [h1] at O5 ⊢; exact O5)), S5, N5, K5, hl5, hF, hk300, SM, Lib.hid (fun y hy => by have := hb5 y hy; omega), hR5'⟩
        case round =>
          obtain ⟨Y, out, F2, hO2, hS2, hN3, K2, hol, hYF, hY3, SY, HOB2, HR⟩ := hrel
          obtain ⟨g2, c2, hv2, hg2, hrow2, hc2, _, _⟩ := hO2.parts
          subst hv2
          by_cases h2 : Y.length ≤ 1
          · have h2' : ¬ (1 : Int) < (Y.length : Int) := by omega
            have hout : out = lensOf counts := by
              rw [← HR.out]
              cases F2 with
              | zero => rfl
              | succ f => rw [rounds, if_pos (by rw [List.length_map]; exact h2)]
            have HO := Lib.hid hout
            clear hout
            go_wp2_with fail
            go_ret
            have hl : (lensOf counts).length = k := by rw [← HO.out]; exact hol
            refine ⟨A, k, by rw [hl]; rfl, by rw [hl, ← HO.out]; exact hN3, by omega, hN3.row.1.lt, K2.on O1 (fun y hy => by simp at hy; omega)⟩
          · have h2' : (1 : Int) < (Y.length : Int) := by omega
            have hcb : ∀ y ∈ Y, y.1.c ≤ 100000000 ∧ y.1.f ≤ 1000 := fun y hy => ⟨by have := le_sum (fun y : Tr => y.1.c) Y y hy; have := SY.sum; omega, by have := (SY.at_ y hy).1; omega⟩
            go_wp2_with fail
            refine (sleast_calls Y g2 Y.length c2 wr hrow2 rfl (by omega) (by omega) hc2 hcb).mono ?_
            rintro e w6 ⟨rfl, O6⟩
            have hka := least_lt (l := Y.map (·.1)) (by rw [List.length_map]; omega)
            rw [List.length_map] at hka
            obtain ⟨ka, hkae⟩ : ∃ ka, least (Y.map (·.1)) = ka := ⟨_, rfl⟩
            rw [hkae] at hka ⊢
            have HKA := Lib.hid hkae
            clear hkae
            have hka' : (ka : Int) < (Y.length : Int) := by omega
            obtain ⟨ga0, ga1, ga2⟩ := tcells_get Y hka
            have r6 := hrow2.on O6
            have d0 := r6.cell ga0
            have d1 := r6.cell ga1
            have d2 := r6.cell ga2
            rw [Nat.mul_comm 3 ka] at d0 d1 d2
            obtain ⟨xa, hxa⟩ : ∃ xa, Y[ka] = xa := ⟨_, rfl⟩
            have hma : xa ∈ Y := by rw [← hxa]; exact List.getElem_mem hka
            rw [hxa] at d0 d1 d2
            have OW6 := O6
            have BA := Blk.new w6 166 #[.int .i64 (xa.1.c : Int), .int .i64 (xa.1.f : Int), .slice (some ⟨xa.2.1, 0, none⟩) xa.1.s.length xa.2.2]
            have OA := (On.refl w6).alloc (.cells #[.int .i64 (xa.1.c : Int), .int .i64 (xa.1.f : Int), .slice (some ⟨xa.2.1, 0, none⟩) xa.1.s.length xa.2.2] 166)
            have O6A := O6.call OA
            clear ga0 ga1 ga2
            have HXA := Lib.hid hxa
            clear hxa
            go_wp2_with fail
            generalize hPA : w6.heap.size = pa at *
            generalize w6.alloc (.cells #[.int .i64 (xa.1.c : Int), .int .i64 (xa.1.f : Int), .slice (some ⟨xa.2.1, 0, none⟩) xa.1.s.length xa.2.2] 166) = wa at *
            refine (sless_calls Y g2 Y.length c2 ka wa (hrow2.on O6A) rfl (by omega) hc2 hka).mono ?_
            rintro e w7 ⟨v7, rfl, hO7, O7⟩
            have hl7 : (Y.eraseIdx ka).length = Y.length - 1 := List.length_eraseIdx_of_lt hka
            obtain ⟨Y1, hY1⟩ : ∃ Y1, Y.eraseIdx ka = Y1 := ⟨_, rfl⟩
            rw [hY1] at hO7 hl7
            obtain ⟨g3, c3, hv3, hg3, hrow3, hc3, _, _⟩ := hO7.parts
            subst hv3
            have hcb1 : ∀ y ∈ Y1, y.1.c ≤ 100000000 ∧ y.1.f ≤ 1000 := fun y hy => hcb y (by rw [← hY1] at hy; exact List.mem_of_mem_eraseIdx hy)
            have O67 := O6A.call O7
            go_wp2_with fail
            refine (sleast_calls Y1 g3 (Y.length - 1) c3 w7 hrow3 hl7 (by omega) (by omega) hc3 hcb1).mono ?_
            rintro e w8 ⟨rfl, O8⟩
            have hkb := least_lt (l := Y1.map (·.1)) (by rw [List.length_map]; omega)
            rw [List.length_map] at hkb
            obtain ⟨kb, hkbe⟩ : ∃ kb, least (Y1.map (·.1)) = kb := ⟨_, rfl⟩
            rw [hkbe] at hkb ⊢
            have HKB := Lib.hid hkbe
            clear hkbe
            have hkb' : (kb : Int) < ((Y.length - 1 : Nat) : Int) := by omega
            obtain ⟨gb0, gb1, gb2⟩ := tcells_get Y1 hkb
            have r8 := hrow3.on O8
            have b0 := r8.cell gb0
            have b1 := r8.cell gb1
            have b2 := r8.cell gb2
            rw [Nat.mul_comm 3 kb] at b0 b1 b2
            obtain ⟨xb, hxb⟩ : ∃ xb, Y1[kb] = xb := ⟨_, rfl⟩
            have hmb : xb ∈ Y1 := by rw [← hxb]; exact List.getElem_mem hkb
            rw [hxb] at b0 b1 b2
            have BB := Blk.new w8 166 #[.int .i64 (xb.1.c : Int), .int .i64 (xb.1.f : Int), .slice (some ⟨xb.2.1, 0, none⟩) xb.1.s.length xb.2.2]
            have OB := (On.refl w8).alloc (.cells #[.int .i64 (xb.1.c : Int), .int .i64 (xb.1.f : Int), .slice (some ⟨xb.2.1, 0, none⟩) xb.1.s.length xb.2.2] 166)
            have O68 := O67.call O8
            have O6B := O68.call OB
            clear gb0 gb1 gb2
            have HXB := Lib.hid hxb
            clear hxb
            go_wp2_with fail
            generalize hPB : w8.heap.size = pb at *
            generalize w8.alloc (.cells #[.int .i64 (xb.1.c : Int), .int .i64 (xb.1.f : Int), .slice (some ⟨xb.2.1, 0, none⟩) xb.1.s.length xb.2.2] 166) = wb at *
            refine (sless_calls Y1 g3 (Y.length - 1) c3 kb wb (hrow3.on (O8.call OB)) hl7 (by omega) hc3 (by omega)).mono ?_
            rintro e w9 ⟨v9, rfl, hO9, O9⟩
            have hl9 : (Y1.eraseIdx kb).length = Y1.length - 1 := List.length_eraseIdx_of_lt hkb
            obtain ⟨Y2, hY2⟩ : ∃ Y2, Y1.eraseIdx kb = Y2 := ⟨_, rfl⟩
            rw [hY2] at hO9 hl9
            have O69 := O6B.call O9
            have BA9 := (((BA.call O7.out).call O8.out).call OB.out).call O9.out
            have BB9 := BB.call O9.out
            have ca1 : w9.cell? ⟨pa, 1, none⟩ = some (.int .i64 (xa.1.f : Int)) := (BA9.cell 1).trans rfl
            have cb1 : w9.cell? ⟨pb, 1, none⟩ = some (.int .i64 (xb.1.f : Int)) := (BB9.cell 1).trans rfl
            have CA2 : ∀ W, Kp [] w9 W → W.cell? ⟨pa, 2, none⟩ = some (.slice (some ⟨xa.2.1, 0, none⟩) xa.1.s.length xa.2.2) := fun W h => (h.cell BA9.lt (by simp)).trans ((BA9.cell 2).trans rfl)
            have CB2 : ∀ W, Kp [] w9 W → W.cell? ⟨pb, 2, none⟩ = some (.slice (some ⟨xb.2.1, 0, none⟩) xb.1.s.length xb.2.2) := fun W h => (h.cell BB9.lt (by simp)).trans ((BB9.cell 2).trans rfl)
            have HCA2 := Lib.hid CA2
            have HCB2 := Lib.hid CB2
            clear CA2 CB2
            have Rxa : RowO w9 xa.2.1 0 3 (i64s xa.1.s) := (hS2 xa hma).1.on O69
            have Rxb : RowO w9 xb.2.1 0 3 (i64s xb.1.s) := (hS2 xb (by rw [← hY1] at hmb; exact List.mem_of_mem_eraseIdx hmb)).1.on O69
            have hsa : xa.1.s.length ≤ 300 := by have := le_sum (fun y : Tr => y.1.s.length) Y xa hma; have := SY.many; omega
            have hsb : xb.1.s.length ≤ 300 := by have := le_sum (fun y : Tr => y.1.s.length) Y xb (by rw [← hY1] at hmb; exact List.mem_of_mem_eraseIdx hmb); have := SY.many; omega
            obtain ⟨fm, hfm⟩ : ∃ fm, min xa.1.f xb.1.f = fm := ⟨_, rfl⟩
            have HFM := Lib.hid hfm
            clear hfm
            by_cases hfl : xb.1.f < xa.1.f
            case' pos =>
              have hfl' : (xb.1.f : Int) < (xa.1.f : Int) := by omega
              have hfe : xb.1.f = fm := by have := HFM.out; omega
              go_upto_region 20 with fail
            case' neg =>
              have hfl' : ¬ (xb.1.f : Int) < (xa.1.f : Int) := by omega
              have hfe : xa.1.f = fm := by have := HFM.out; omega
              go_upto_region 20 with fail
            all_goals
              have CA2 := HCA2.out
              have CB2 := HCB2.out
              refine wp_region_held_drew (S := fun W => Kp [] w9 W) (by kernel_rfl) (Kp.refl _ _).drew (fun hHeld => ?_)
              have OwD := (On.refl w9).drew
              refine Tk.tk 1 ?_ rfl (.inl ⟨by rfl, ?_⟩) ?_
              rotate_left
              · intro w hSw; go_simp; first | done | with_reducible rfl
              try simp only [Act.put, Tk.s3]
              refine Tk.tk 2 ?_ rfl (.inl ⟨by rfl, ?_⟩) ?_
              rotate_left
              · intro w hSw; go_simp; first | done | with_reducible rfl
              try simp only [Act.put, Tk.s3]
              refine Tk.tk 4 ?_ rfl (.inl ⟨by rfl, ?_⟩) ?_
              rotate_left
              · intro w hSw; go_simp; first | done | with_reducible rfl
              try simp only [Act.put, Tk.s3]
              refine Tk.tk 5 ?_ rfl (.inl ⟨by rfl, ?_⟩) ?_
              rotate_left
              · intro w hSw; go_simp; first | done | with_reducible rfl
              try simp only [Act.put, Tk.s3]
              refine wpAnyH_strong (S' := fun W => Kp [] w9.drew W) (fun W h => Kp.then (Kp.of [] OwD) h) ?_
              have hHeldN : (fun W => Kp [] w9.drew W) w9.drew := Kp.refl _ _
              clear CA2 CB2
              generalize w9.drew = wD at *
              refine Tk.rd 0 rfl fun K hK => ?_
              go_simp
              have OE := (On.refl wD).alloc (.cells #[] 3)
              have NE := Own.new (base := w9.heap.size) wD 3 1 #[] 0 (Nat.zero_le _) rfl OwD.size
              have OwE := OwD.call OE
              have hzD := OwD.size
              refine hK.out _ _ (Kp.of [] OE) (fun hHeld => ?_)
              clear hK K
              try simp only [Act.put, Tk.s3]
              generalize hE : wD.heap.size = E at *
              generalize wD.alloc (.cells #[] 3) = wE at *
              refine Tk.rd 3 rfl fun K hK => ?_
              refine step_append_any rfl _ _ 98 rfl w9.heap.size 3 i1 (.int .i64 0) 1 8 Tryz.underlying98 hi1 hj0 hj1 hj2 rfl (by omega) (.slice (some ⟨E, 0, none⟩) 0 0) 0 [] rfl NE.own ⟨xa.2.1, 0, none⟩ xa.1.s.length xa.2.2 (i64s xa.1.s) rfl (by rw [i64s_length]; omega) (news_of (Rxa.on OwE)) (fun u hu => i64s_one hu) (by unfold maxLen; omega) (by omega) OwE.size ?_
              intro v1 w10 hownv1 hgrv1 hnilv1 hobv1
              have HOB : (Value.slice (some ⟨E, 0, none⟩) 0 0).ownBlock = some E := rfl
              have Owv1 : On w9 w10 := OwE.grown hgrv1 (fun y hy => by rw [HOB] at hy; cases hy; omega)
              have Odv1 : On wD w10 := OE.grown hgrv1 (fun y hy => by rw [HOB] at hy; cases hy; omega)
              have hnn1 : v1 ≠ .slice none 0 0 := fun e => by cases (hnilv1.1 e).1
              have hvb : ∀ y, v1.ownBlock = some y → wD.heap.size ≤ y := fun y hy => by
                rcases hobv1 with e | e
                · rw [e, HOB] at hy; cases hy; omega
                · rw [e] at hy; cases hy; exact OE.size
              show K (Act.put _ (some 79) v1) w10
              refine hK.out _ _ (Kp.of [] Odv1) (fun hHeld => ?_)
              clear hK K
              try simp only [Act.put, Tk.s3]
              refine Tk.rd 6 rfl fun K hK => ?_
              refine step_append_any rfl _ _ 98 rfl w9.heap.size 3 i1 (.int .i64 0) 1 8 Tryz.underlying98 hi1 hj0 hj1 hj2 rfl (by omega) v1 (0 + xa.1.s.length) _ rfl hownv1 ⟨xb.2.1, 0, none⟩ xb.1.s.length xb.2.2 (i64s xb.1.s) rfl (by rw [i64s_length]; omega) (news_of (Rxb.on Owv1)) (fun u hu => i64s_one hu) (by unfold maxLen; omega) (by omega) Owv1.size ?_
              intro v2 w11 hownv2 hgrv2 hnilv2 hobv2
              skip
              have Owv2 : On w9 w11 := Owv1.grown hgrv2 (fun y hy => by have := hvb y hy; omega)
              have Odv2 : On wD w11 := Odv1.grown hgrv2 (fun y hy => by have := hvb y hy; omega)
              skip
              show K (Act.put _ (some 82) v2) w11
              refine hK.out _ _ (Kp.of [] Odv2) (fun hHeld => ?_)
              clear hK K
              try simp only [Act.put, Tk.s3]
              refine Tk.tk 7 ?_ rfl (.inl ⟨by rfl, ?_⟩) ?_
              rotate_left
              · intro w hSw; go_simp; first | done | with_reducible rfl
              try simp only [Act.put, Tk.s3]
              refine wpAnyH_done (by kernel_rfl) ?_ _
              go_wp2_with fail
              have hnn2 : v2 ≠ .slice none 0 0 := fun e => hnn1 (hnilv2.1 e).1
              obtain ⟨g5, c5, hv5, hg5, hrow5, hc5, _, _⟩ := (show Own w9.heap.size w11 3 1 v2 (0 + xa.1.s.length + xb.1.s.length) _ from ⟨hownv2, hnn2⟩).parts
              subst hv5
              obtain ⟨Sy, hSy⟩ : ∃ Sy, xa.1.s ++ xb.1.s = Sy := ⟨_, rfl⟩
              have hSl : 0 + xa.1.s.length + xb.1.s.length = Sy.length := by rw [← hSy, List.length_append]; omega
              have hSr : Row w11 g5 3 (i64s Sy) := by
                have e : i64s Sy = [] ++ i64s xa.1.s ++ i64s xb.1.s := by rw [← hSy]; unfold i64s; rw [List.map_append]; rfl
                rw [e]; exact hrow5
              have hSz : ∀ z ∈ Sy, z < k := by
                intro z hz
                rw [← hSy] at hz
                rcases List.mem_append.1 hz with h | h
                · exact (SY.at_ xa hma).2 z h
                · exact (SY.at_ xb (by rw [← hY1] at hmb; exact List.mem_of_mem_eraseIdx hmb)).2 z h
              have hS600 : Sy.length ≤ 600 := by omega
              have O9b : On wr w11 := O69.call Owv2
              have N11 := hN3.on O9b
              have hgA5 : g5 ≠ A := by
                have := K2.size
                have := O69.size
                omega
              rw [hSl] at hc5 ⊢
              have HSZ := Lib.hid hSz
              have HSY := Lib.hid hSy
              clear hSz hSy hrow5 hownv2 hgrv2 hnilv2 hobv2
              go_loopw [11] (fun x w12 => ∃ (j : Nat) (out2 : List Nat), x = .int .i64 (j : Int) ∧ j ≤ Sy.length ∧ Nums w12 A (.slice (some ⟨A, 0, none⟩) k k) out2 ∧ RowKit.Hid (out2 = bump out (Sy.take j)) ∧ Kp [A] w11 w12) (fun x _ => Sy.length - (intOf x).toNat)
              case atStart => exact ⟨0, out, rfl, by omega, N11, Lib.hid (by rw [List.take_zero]; rfl), Kp.refl _ _⟩
              case round =>
                obtain ⟨j, out2, rfl, hj, hN12, HB2, K12⟩ := hrel
                by_cases hjl : j < Sy.length
                · have hjl' : (j : Int) < (Sy.length : Int) := by omega
                  have s0 := (K12.row hSr (by simpa using hgA5)).cell (i64s_get hjl)
                  have hzk : Sy.getD j 0 < k := HSZ.out _ (by rw [List.getD_eq_getElem?_getD, List.getElem?_eq_getElem hjl]; exact List.getElem_mem _)
                  have ho2l : out2.length = k := by rw [HB2.out, bump_length]; exact hol
                  have hstep : out2.set (Sy.getD j 0) (out2.getD (Sy.getD j 0) 0 + 1) = bump out (Sy.take (j + 1)) := by
                    rw [List.take_succ_eq_append_getElem hjl, bump_append, ← HB2.out, List.getD_eq_getElem?_getD, List.getElem?_eq_getElem hjl]; rfl
                  have hob3 : out2.getD (Sy.getD j 0) 0 ≤ 1001000 := by
                    rw [HB2.out, bump_get _ _ _ (by rw [hol]; exact hzk)]
                    have h1 := List.count_le_length (a := Sy.getD j 0) (l := Sy.take j)
                    rw [List.length_take] at h1
                    have h2 : out.getD (Sy.getD j 0) 0 ≤ 1000000 := Cd.getD_le (fun y hy => by have := HOB2.out y hy; omega) _
                    omega
                  have HST := Lib.hid hstep
                  have HZK := Lib.hid hzk
                  have o0 := hN12.row.1.cell (i64s_get (show Sy.getD j 0 < out2.length by omega))
                  have fe : ∀ i, wr.frozen? ⟨A, i, none⟩ = false := hN12.row.1.frozen
                  clear hstep
                  generalize Sy.getD j 0 = z at *
                  obtain ⟨oz, hoz⟩ : ∃ oz, out2.getD z 0 = oz := ⟨_, rfl⟩
                  rw [hoz] at o0 HST hob3
                  clear hoz
                  have hzk' : (z : Int) < (k : Int) := by omega
                  have e1 : IntKind.i64.wrap ((oz : Int) + 1) = ((oz + 1 : Nat) : Int) := by rw [IntKind.wrap_i64]; omega
                  go_wp2_with fail
                  go_region
                  go_wp2_with fail
                  go_roundw
                  case rel =>
                    have D := (On.refl wr).drew
                    exact ⟨j + 1, out2.set z (oz + 1), by go_num, by omega, (hN12.on D).set z (oz + 1), Lib.hid HST.out, (K12.drew).set (.inl (by simp)) _⟩
                  case measure => simp [intOf]; omega
                · obtain rfl : j = Sy.length := by omega
                  have hjl' : ¬ ((Sy.length : Int) < (Sy.length : Int)) := by omega
                  have K9r : Kp [A] w9 wr := (Kp.of [A] Owv2).then K12
                  have hAb : A < wb.heap.size := by have := K2.size; have := O6B.size; omega
                  have hOr : Own w1.heap.size wr 166 3 v9 (Y.length - 1 - 1) (tcells Y2) := by
                    have h1 : Own wb.heap.size wr 166 3 v9 (Y.length - 1 - 1) (tcells Y2) := ⟨K9r.owns hO9.own (fun y hy => by have := hO9.block y hy; simp; omega), hO9.nn⟩
                    exact h1.low (by have := K2.size; have := O6B.size; omega)
                  have ea0 : wr.cell? ⟨pa, 0, none⟩ = some (.int .i64 (xa.1.c : Int)) := (K9r.cell BA9.lt (by have h1 := OW6.size; have h2 := K2.size; simp; omega)).trans ((BA9.cell 0).trans rfl)
                  have eb0 : wr.cell? ⟨pb, 0, none⟩ = some (.int .i64 (xb.1.c : Int)) := (K9r.cell BB9.lt (by have h1 := O68.size; have h2 := K2.size; simp; omega)).trans ((BB9.cell 0).trans rfl)
                  have ec : IntKind.i64.wrap ((xa.1.c : Int) + (xb.1.c : Int)) = (xa.1.c : Int) + (xb.1.c : Int) := by
                    have h1 := (hcb xa hma).1
                    have h2 := (hcb1 xb hmb).1
                    rw [IntKind.wrap_i64]; omega
                  have OT := (On.refl wr).alloc (.cells #[.int .i64 ((xa.1.c : Int) + (xb.1.c : Int)), .int .i64 (fm : Int), .slice (some ⟨g5, 0, none⟩) Sy.length c5] 166)
                  have hOT := (hOr.on OT).own
                  have NT := World.news_of_block (Blk.new wr 166 #[.int .i64 ((xa.1.c : Int) + (xb.1.c : Int)), .int .i64 (fm : Int), .slice (some ⟨g5, 0, none⟩) Sy.length c5]).out
                  have hbz : w1.heap.size ≤ (wr.alloc (.cells #[.int .i64 ((xa.1.c : Int) + (xb.1.c : Int)), .int .i64 (fm : Int), .slice (some ⟨g5, 0, none⟩) Sy.length c5] 166)).heap.size := by have := OT.size; have := K9r.size; have := O69.size; have := K2.size; omega
                  have HNT := Lib.hid NT
                  clear NT
                  go_wp2_with (at_builtin; go_must (refine Go.wpList_append_own_at _ rfl _ _ 164 rfl w1.heap.size 166 i0 (.agg #[.int .i64 0, .int .i64 0, .slice none 0 0]) 3 40 Tryz.underlying164 hi hz0 hz1 hz2 rfl (by omega) v9 (Y.length - 1 - 1) (tcells Y2) rfl hOT ⟨wr.heap.size, 0, none⟩ 1 1 _ rfl rfl HNT.out (by simp [Value.oneCell']) (by unfold maxLen; omega) (by omega) hbz ?_); intro v10 w10' hown10 hgr10 hnil10 hob10)
                  obtain ⟨g9, c9, hv9, hg9, hrow9, _, _, _⟩ := hO9.parts
                  have hg9l := hrow9.lt
                  have hnn10 : v10 ≠ .slice none 0 0 := fun e => by have := (hnil10.1 e).2; omega
                  have K10 : Kp [g9] wr w10' := ((Kp.refl _ _).alloc _).then (Kp.grown hgr10 (fun y hy => by rw [hv9] at hy; cases hy; simp))
                  have K1t : Kp [A] w1 w10' := ((K2.then (Kp.of _ O69)).then K9r).trans K10 (fun x hx => by simp at hx; have := K2.size; have := O6B.size; omega)
                  obtain ⟨xn, hxn⟩ : ∃ xn : Tr, xn = ((⟨xa.1.c + xb.1.c, fm, Sy⟩ : It), g5, c5) := ⟨_, rfl⟩
                  have hXl : (Y2 ++ [xn]).length = Y.length - 1 - 1 + 1 := by rw [List.length_append, hl9, hl7]; rfl
                  have hown11 : Own w1.heap.size w10' 166 3 v10 (Y2 ++ [xn]).length (tcells (Y2 ++ [xn])) := by
                    refine ⟨?_, hnn10⟩
                    rw [hXl, tcells_append, hxn]
                    exact hown10
                  obtain ⟨g10, c10, hv10, _⟩ := hown11.parts
                  rw [hv10] at hown11
                  rw [hv10]
                  rw [hXl] at hown11 ⊢
                  have hAg9 : A ≠ g9 := by omega
                  have hmY2 : ∀ y ∈ Y2, y ∈ Y := fun y hy => by
                    rw [← hY2] at hy
                    have hy := List.mem_of_mem_eraseIdx hy
                    rw [← hY1] at hy
                    exact List.mem_of_mem_eraseIdx hy
                  have HMY := Lib.hid hmY2
                  clear hown10 hgr10 hnil10 hob10 hnn10 hv10 hv9 hmY2
                  go_roundw
                  case rel =>
                    obtain ⟨F, hF2⟩ : ∃ F, F2 = F + 1 := ⟨F2 - 1, by omega⟩
                    refine ⟨Y2 ++ [xn], out2, F, by rw [hXl]; exact hown11, ?_, hN12.kp K10 (by simpa using hAg9), K1t, by rw [HB2.out, bump_length]; exact hol, by rw [hXl]; omega, by rw [hXl]; omega, ?_, ?_, ?_⟩
                    · intro y hy
                      rcases List.mem_append.1 hy with h | h
                      · obtain ⟨r1, r2, r3⟩ := hS2 y (HMY.out y h)
                        have hyl := r1.lt
                        have := O6B.size
                        exact ⟨((r1.on O69).kp K9r (by simp; omega)).kp K10 (by simp; omega), r2, r3⟩
                      · obtain rfl : y = xn := by simpa using h
                        subst hxn
                        have := O69.size
                        have := K2.size
                        exact ⟨((K12.row hSr (by simpa using hgA5)).toO).kp K10 (by simp; omega), by show w1.heap.size ≤ g5; omega, hc5⟩
                    · refine small_next SY hka (by rw [hl7]; omega) HXA.out hY1 HXB.out hY2 (by rw [hxn]) ?_ (by rw [hxn]; exact HSZ.out) (by rw [hxn]; show Sy.length = _; rw [← HSY.out, List.length_append])
                      rw [hxn]
                      show fm < k
                      have := HFM.out
                      have := (SY.at_ xa hma).1
                      omega
                    · refine Lib.hid ?_
                      rw [HB2.out, List.take_of_length_le (Nat.le_refl _), hXl]
                      exact bump_all HOB2.out (by omega)
                    · refine Lib.hid ?_
                      rw [← HR.out, hF2, rounds_next h2 hka (by rw [hl7]; omega) HKA.out HXA.out hY1 HKB.out HXB.out hY2, HB2.out, List.take_of_length_le (Nat.le_refl _), HSY.out, List.map_append, hxn]
                      show rounds F _ (_ ++ [(⟨xa.1.c + xb.1.c, fm, Sy⟩ : It)]) = rounds F _ (_ ++ [⟨xa.1.c + xb.1.c, min xa.1.f xb.1.f, xa.1.s ++ xb.1.s⟩])
                      rw [HFM.out, HSY.out]
                  case measure => show Y.length - 1 - 1 + 1 < Y.length; omega
end Go.Proofs.YtnadjlejlohgiaaGreatDoor.Wi

/- Lengths that are kept short (l3Fit), lengths up to the last that is not 0 (l5Last), as the specification makes them. Conditions: numbers, sizes. -/
namespace Go.Proofs.YtnadjlejlohgiaaGreatDoor.Wi
open Go.RowKit Go.Proofs.YtnadjlejlohgiaaGreatDoor.Mem Go.Proofs.YtnadjlejlohgiaaGreatDoor.Hf
set_option linter.unusedVariables false
set_option linter.unusedSimpArgs false
theorem i64s_append (a b : List Nat) : i64s (a ++ b) = i64s a ++ i64s b := by unfold i64s; rw [List.map_append]
theorem news_o {w : World} {g o : Nat} {l : List Nat} (h : RowO w g o 3 (i64s l)) : ∀ j u, (i64s l)[j]? = some u → w.cell? ((⟨g, o, none⟩ : Addr).add j) = some u := fun j u hu => by
  have ha : (⟨g, o, none⟩ : Addr).add j = ⟨g, o + j, none⟩ := by unfold Addr.add; split <;> simp_all
  rw [ha]
  exact h.cell hu
theorem own_nums {w : World} {base : Nat} {v : Value} {n : Nat} {l : List Nat} (h : Own base w 3 1 v n (i64s l)) (hn : l.length = n) :
    ∃ r cap, v = .slice (some ⟨r, 0, none⟩) n cap ∧ Nums w r (.slice (some ⟨r, 0, none⟩) n cap) l ∧ base ≤ r ∧ r < w.heap.size := by
  subst hn
  obtain ⟨g, cap, rfl, hb, hrow, _, _, _⟩ := h.parts
  exact ⟨g, cap, rfl, ⟨(h.low (Nat.zero_le _)).own, fun g' hg' => by cases hg'; rfl⟩, hb, hrow.lt⟩
/-- s = append(s, x...) of numbers onto a row of the call's own. -/
theorem wpList_adds {ops : Array Oper} {rest : List Oper} {o : Oper} {act : Act} {Q : Exit → Act → World → Prop} {wr : World} (hgd : o.guard = none) (s x : Operand)
    (ho : o.op = .call { callee := .builtin .append, args := #[s, x], argTypes := #[98, 98] })
    (a : World) {v : Value} {n m q : Nat} {xs l : List Nat} (hs : act.eval s = v) (hown : Own a.heap.size wr 3 1 v n (i64s xs)) (O : On a wr)
    {g o' c : Nat} (hx : act.eval x = .slice (some ⟨g, o', none⟩) m c) (hr : RowO wr g o' 3 (i64s l)) (hm : l.length = m) (hq : n + m = q) (hsz : q ≤ 1000000)
    (h : ∀ v' w', Own a.heap.size w' 3 1 v' q (i64s (xs ++ l)) → On a w' → Kp v.ownBlock.toList wr w' → wpList Tryz.prog ops Q rest (act.put o.dst v') w') :
    wpList Tryz.prog ops Q (o :: rest) act wr := by
  obtain ⟨i0, hi, hz0, hz1, hz2⟩ := info_parts i64info
  subst hq
  refine wpList_append_own_at _ hgd s x 98 ho a.heap.size 3 i0 (.int .i64 0) 1 8 Tryz.underlying98 hi hz0 hz1 hz2 rfl (by decide) v n (i64s xs) hs hown.own ⟨g, o', none⟩ m c (i64s l) hx (by rw [i64s_length]; omega) (news_o hr) (fun u hu => i64s_one hu) (by unfold maxLen; omega) (by omega) O.size ?_
  intro v' w' hown' hgr hnil hob
  refine h v' w' ⟨by rw [i64s_append]; exact hown', fun e => hown.nn (hnil.1 e).1⟩ (O.grown hgr hown.block) (Kp.grown hgr (fun y hy => by rw [hy]; simp))
/-- The sum of a row of numbers as it lies in memory. -/
def rowSum (w : World) (r n : Nat) : Nat := ((List.range n).map fun i => match w.cell? ⟨r, i, none⟩ with | some v => (intOf v).toNat | none => 0).sum
theorem rowSum_of {w : World} {r n : Nat} {c : List Nat} (h : Row w r 3 (i64s c)) (hn : c.length = n) : rowSum w r n = c.sum := by
  subst hn
  have e : c.sum = (c.map id).sum := by rw [List.map_id]
  rw [e, sum_map_range]
  unfold rowSum
  congr 1
  refine List.map_congr_left fun i hi => ?_
  rw [h.cell (i64s_get (by simpa using hi))]
  simp [intOf]
theorem fib_up : ∀ n, n ≤ fib (n + 2)
  | 0 => Nat.zero_le _
  | n + 1 => by
    have h1 := fib_up n
    have h2 : fib (n + 3) = fib (n + 1) + fib (n + 2) := rfl
    have h3 := fib_pos (n := n + 1) (by omega)
    show n + 1 ≤ fib (n + 3)
    omega
theorem sum_bound : ∀ (l : List Nat) (m : Nat), (∀ x ∈ l, x ≤ m) → l.sum ≤ l.length * m
  | [], _, _ => by simp
  | x :: t, m, h => by
    have h1 := sum_bound t m (fun y hy => h y (List.mem_cons_of_mem _ hy))
    have h2 := h x (List.mem_cons_self ..)
    rw [List.sum_cons, List.length_cons, Nat.add_mul]; omega
theorem lensOf_small {c : List Nat} (hp : ∃ k, 0 < c.getD k 0) (hx : ∀ x ∈ c, x ≤ 100000) (hl : c.length ≤ 300) : ∀ x ∈ lensOf c, x ≤ 100000000 := by
  intro x h
  obtain ⟨_, d, hd, hd2⟩ := lensOf_ok c hp
  have h1 := hd2 x h
  have h2 := fib_up d
  have h3 := sum_bound c 100000 hx
  have h4 : c.length * 100000 ≤ 300 * 100000 := Nat.mul_le_mul_right _ hl
  omega
theorem halve_le {c : List Nat} (hx : ∀ x ∈ c, x ≤ 100000) : ∀ x ∈ halve c, x ≤ 100000 := by
  intro x h
  obtain ⟨y, hy, rfl⟩ := List.mem_map.1 h
  have := hx y hy
  omega
/-- The first k are halved. -/
def halfTo (c : List Nat) (k : Nat) : List Nat := (halve c).take k ++ c.drop k
theorem halfTo_all (c : List Nat) : halfTo c c.length = halve c := by
  unfold halfTo; rw [List.drop_length, List.append_nil, List.take_of_length_le (by rw [halve_length]; exact Nat.le_refl _)]
theorem halfTo_length {c : List Nat} {k : Nat} (h : k ≤ c.length) : (halfTo c k).length = c.length := by
  unfold halfTo; rw [List.length_append, List.length_take, List.length_drop, halve_length]; omega
theorem halfTo_get {c : List Nat} {k : Nat} (h : k < c.length) : (halfTo c k).getD k 0 = c.getD k 0 := by
  have hl : ((halve c).take k).length = k := by rw [List.length_take, halve_length]; omega
  unfold halfTo
  rw [List.getD_eq_getElem?_getD, List.getD_eq_getElem?_getD, List.getElem?_append_right (by omega), hl, List.getElem?_drop, Nat.sub_self, Nat.add_zero]
theorem halfTo_set {c : List Nat} {k : Nat} (h : k < c.length) : (halfTo c k).set k ((c.getD k 0 + 1) / 2) = halfTo c (k + 1) := by
  have hl : ((halve c).take k).length = k := by rw [List.length_take, halve_length]; omega
  have hh : k < (halve c).length := by rw [halve_length]; exact h
  have e : (halve c)[k] = (c.getD k 0 + 1) / 2 := by
    have := halve_getD c k
    rw [List.getD_eq_getElem?_getD, List.getElem?_eq_getElem hh] at this
    exact this
  unfold halfTo
  rw [List.set_append_right _ _ (by omega), hl, Nat.sub_self, List.drop_eq_getElem_cons h, List.set_cons_zero, List.take_succ_eq_append_getElem hh, e, List.append_assoc]; rfl
set_option maxRecDepth 100000 in
set_option maxHeartbeats 1000000 in
theorem sfit_calls (counts : List Nat) (g o n cap most : Nat) (w : World) (hR : RowO w g o 3 (i64s counts)) (hn : counts.length = n) (hn2 : n ≤ 300) (hnc : n ≤ cap) (hx : ∀ x ∈ counts, x ≤ 100000)
    (hm1 : 1 ≤ most) (hm2 : most ≤ 15) (hp : ∃ k, 0 < counts.getD k 0) (hl : n < fib (most + 3)) :
    Calls Tryz.prog 150 #[.slice (some ⟨g, o, none⟩) n cap, .int .i64 (most : Int)] w (GivesI w (fit most counts)) := by
  have HN := Lib.hid hn
  have HP := Lib.hid hp
  have HL := Lib.hid hl
  have HX := Lib.hid hx
  have hq : 0 + n = n := Nat.zero_add n
  clear hn hp hl hx
  go_enter Tryz.func150, Tryz.ntmps150
  have NE := Own.new (base := w.heap.size) w 3 1 #[] 0 (Nat.zero_le _) rfl (Nat.le_refl _)
  have OE := (On.refl w).alloc (.cells #[] 3)
  have RE := hR.on OE
  go_wp2_with (at_builtin; go_must (refine wpList_adds rfl _ _ rfl w (xs := []) (l := counts) (q := n) rfl NE OE rfl RE HN.out hq (by omega) ?_); intro v1 w1 hown1 O1 _)
  obtain ⟨r1, cap1, rfl, N1, hb1, hr1⟩ := own_nums hown1 HN.out
  rw [List.nil_append] at N1
  have hc1 := N1.row.2.2.1
  clear hown1 NE OE RE hq
  go_wp2_with fail
  refine (slens3_calls counts r1 0 n cap1 w1 N1.row.1.toO HN.out hn2 hc1 HX.out).mono ?_
  rintro e w2 ⟨r2, cap2, rfl, N2, hb2, hr2, O2⟩
  have hl2 : (lensOf counts).length = n := (lensOf_length counts).trans HN.out
  rw [hl2] at N2 ⊢
  clear hl2
  go_wp2_with fail
  go_loopw [6] (fun v wr => ∃ (c : List Nat) (r2 cap2 : Nat), v = .slice (some ⟨r2, 0, none⟩) n cap2 ∧ Nums wr r1 (.slice (some ⟨r1, 0, none⟩) n cap1) c ∧ Nums wr r2 (.slice (some ⟨r2, 0, none⟩) n cap2) (lensOf c) ∧ RowKit.Hid (fit most c = fit most counts) ∧ RowKit.Hid (c.length = n) ∧ RowKit.Hid (∀ x ∈ c, x ≤ 100000) ∧ RowKit.Hid (∃ k, 0 < c.getD k 0) ∧ Kp [r1] w1 wr ∧ w1.heap.size ≤ r2) (fun _ wr => rowSum wr r1 n)
  case atStart => exact ⟨counts, r2, cap2, rfl, N1.on O2, N2, Lib.hid rfl, HN, HX, HP, Kp.of _ O2, hb2⟩
  case round =>
    obtain ⟨c, r3, cap3, rfl, N3, N4, HF, HC, HXc, HPc, K, hb3⟩ := hrel
    have hsm := lensOf_small HPc.out HXc.out (by rw [HC.out]; exact hn2)
    have hst := Lib.hid (smost_calls (lensOf c) r3 0 n cap3 wr N4.row.1.toO ((lensOf_length c).trans HC.out) (by omega) N4.row.2.2.1 (fun x hx => by have := hsm x hx; omega))
    have hfs := Lib.hid (fit_step hm1 HPc.out (show c.length < fib (most + 3) by rw [HC.out]; exact HL.out))
    clear hsm
    go_wp2_with fail
    refine hst.out.mono ?_
    rintro e w3 ⟨rfl, O3⟩
    obtain ⟨tp, htp⟩ : ∃ tp, top (lensOf c) = tp := ⟨_, rfl⟩
    have HTP := Lib.hid htp
    rw [htp]
    clear htp hst
    by_cases ht : tp ≤ most
    · have ht' : ¬ (most : Int) < (tp : Int) := by omega
      have hres : fit most counts = lensOf c := by rw [← HF.out, hfs.out, if_pos (by rw [HTP.out]; exact ht)]
      have HR := Lib.hid hres
      have hlen : (lensOf c).length = n := (lensOf_length c).trans HC.out
      have HLE := Lib.hid hlen
      clear hres hlen
      have N5 := N4.on O3
      go_wp2_with fail
      go_ret
      exact ⟨r3, cap3, by rw [HR.out, HLE.out]; rfl, by rw [HR.out, HLE.out]; exact N5, by have := O1.size; omega, N5.row.1.lt, (K.then (Kp.of _ O3)).on O1 (fun x hx => by simp at hx; omega)⟩
    · have ht' : (most : Int) < (tp : Int) := by omega
      have N5 := N3.on O3
      have hc3 := N3.row.2.2.1
      go_wp2_with fail
      go_loopw [7] (fun x w4 => ∃ (k : Nat), x = .int .i64 (k : Int) ∧ k ≤ n ∧ Nums w4 r1 (.slice (some ⟨r1, 0, none⟩) n cap1) (halfTo c k) ∧ Kp [r1] w3 w4) (fun x _ => n - (intOf x).toNat)
      case atStart => exact ⟨0, rfl, by omega, by unfold halfTo; rw [List.take_zero, List.nil_append, List.drop_zero]; exact N5, Kp.refl _ _⟩
      case round =>
        obtain ⟨k, rfl, hk, N6, K6⟩ := hrel
        by_cases hlt : k < n
        · have hkl : k < c.length := by rw [HC.out]; exact hlt
          have hlt' : (k : Int) < (n : Int) := by omega
          have c0 := N6.row.1.cell (i64s_get (show k < (halfTo c k).length by rw [halfTo_length (Nat.le_of_lt hkl)]; exact hkl))
          rw [halfTo_get hkl] at c0
          have hs := halfTo_set hkl
          have hxk : c.getD k 0 ≤ 100000 := Cd.getD_le HXc.out k
          have HS := Lib.hid hs
          have fe : ∀ i, wr.frozen? ⟨r1, i, none⟩ = false := N6.row.1.frozen
          clear hs
          generalize c.getD k 0 = x at *
          have e1 : ((x : Int) + 1) / 2 = (((x + 1) / 2 : Nat) : Int) := by omega
          have NS := N6.set k ((x + 1) / 2)
          rw [HS.out] at NS
          have KS := K6.set (p := ⟨r1, k, none⟩) (.inl (by simp)) (.int .i64 (((x + 1) / 2 : Nat) : Int))
          rw [← e1] at NS KS
          clear e1
          go_wp2_with fail
          go_roundw
          case rel => exact ⟨k + 1, by go_num, by omega, NS, KS⟩
          case measure => simp [intOf]; omega
        · obtain rfl : k = n := by omega
          have hh : halfTo c k = halve c := by rw [← HC.out]; exact halfTo_all c
          rw [hh] at N6
          have hlh : (halve c).length = k := (halve_length c).trans HC.out
          have HLH := Lib.hid hlh
          clear hh hlh
          have hst := Lib.hid (slens3_calls (halve c) r1 0 k cap1 wr N6.row.1.toO HLH.out hn2 hc1 (halve_le HXc.out))
          have hll : (lensOf (halve c)).length = k := (lensOf_length _).trans HLH.out
          have HLL := Lib.hid hll
          clear hll
          go_wp2_with fail
          refine hst.out.mono ?_
          rintro e w5 ⟨r5, cap5, rfl, N7, hb7, hr7, O7⟩
          rw [HLL.out] at N7 ⊢
          have N8 := N6.on O7
          have Kt : Kp [r1] w1 w5 := ((K.then (Kp.of _ O3)).then K6).then (Kp.of _ O7)
          have hm : rowSum w5 r1 k = (halve c).sum := rowSum_of N8.row.1 HLH.out
          have hm0 := rowSum_of N3.row.1 HC.out
          have hsl := halve_less hm1 HPc.out (show c.length < fib (most + 3) by rw [HC.out]; exact HL.out) (by rw [HTP.out]; omega)
          have HM := Lib.hid hm
          have HM0 := Lib.hid hm0
          have HSL := Lib.hid hsl
          clear hm hm0 hsl
          go_wp2_with fail
          go_roundw
          case rel => exact ⟨halve c, r5, cap5, rfl, N8, N7, Lib.hid (by rw [← HF.out, hfs.out, if_neg (by rw [HTP.out]; exact ht)]), HLH, Lib.hid (halve_le HXc.out), Lib.hid (halve_pos HPc.out), Kt, by have := Kt.size; have := O7.size; have := K6.size; have := O3.size; have := K.size; omega⟩
          case measure => rw [HM.out, HM0.out]; exact HSL.out
open Go.Proofs.YtnadjlejlohgiaaGreatDoor.En in
set_option maxRecDepth 100000 in
theorem slast_calls (lens : List Nat) (g n cap least : Nat) (w : World) (hR : RowO w g 0 3 (i64s lens)) (hn : lens.length = n) (hn2 : n ≤ 1000) (hnc : n ≤ cap) (hl : least ≤ 1000) :
    Calls Tryz.prog 149 #[.slice (some ⟨g, 0, none⟩) n cap, .int .i64 (least : Int)] w fun e w' => e = .returned (.slice (some ⟨g, 0, none⟩) (trimTo lens least n) cap) ∧ w' = w := by
  have HN := Lib.hid hn
  clear hn
  go_enter Tryz.func149, Tryz.ntmps149
  go_wp2_with fail
  go_loop [5] (fun x => ∃ (k : Nat), x = .int .i64 (k : Int) ∧ k ≤ n ∧ RowKit.Hid (trimTo lens least k = trimTo lens least n)) (fun x => (intOf x).toNat)
  case atStart => exact ⟨n, rfl, Nat.le_refl _, Lib.hid rfl⟩
  case round =>
    obtain ⟨k, rfl, hk, HT⟩ := hrel
    by_cases h1 : least < k
    · obtain ⟨j, rfl⟩ : ∃ j, k = j + 1 := ⟨k - 1, by omega⟩
      have h1' : decide ((least : Int) < ((j + 1 : Nat) : Int)) = true := by simp; omega
      have c0 := hR.cell (i64s_get (show j < lens.length by rw [HN.out]; omega))
      rw [Nat.zero_add] at c0
      have hj : (j : Int) < n := by omega
      have e1 : ((j + 1 : Nat) : Int) - 1 = (j : Int) := by omega
      have hstep := Lib.hid (show trimTo lens least (j + 1) = if least < j + 1 ∧ lens.getD j 0 = 0 then trimTo lens least j else j + 1 from rfl)
      generalize lens.getD j 0 = x at *
      by_cases h0 : x = 0
      · have h0' : ((x : Int) == 0) = true := by simp; omega
        have HS : RowKit.Hid (trimTo lens least j = trimTo lens least n) := Lib.hid (by rw [← HT.out, hstep.out, if_pos ⟨h1, h0⟩])
        clear h0
        go_wp2_with fail
        go_round
        case rel => exact ⟨j, by go_num, by omega, HS⟩
        case measure => simp [intOf]
      · have h0' : ((x : Int) == 0) = false := by simpa using h0
        have HS : RowKit.Hid (j + 1 = trimTo lens least n) := Lib.hid (by rw [← HT.out, hstep.out, if_neg (fun h => h0 h.2)])
        clear h0
        go_wp2_with fail
        go_ret
        exact ⟨by rw [← HS.out]; rfl, rfl⟩
    · have h1' : decide ((least : Int) < (k : Int)) = false := by simp; omega
      have HS : RowKit.Hid (k = trimTo lens least n) := Lib.hid (by
        rw [← HT.out]
        cases k with
        | zero => rfl
        | succ j => rw [trimTo, if_neg (fun h => h1 h.1)])
      go_wp2_with fail
      go_ret
      exact ⟨by rw [← HS.out]; rfl, rfl⟩
end Go.Proofs.YtnadjlejlohgiaaGreatDoor.Wi

