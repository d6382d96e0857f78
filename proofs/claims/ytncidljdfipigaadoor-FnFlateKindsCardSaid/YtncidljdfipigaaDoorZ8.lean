/- Own texts joined: Hn, Hp, So, Hq, Hr, Ow, Ht. -/
import Derived.BigRegion
import Derived.Test.YtncidljdfipigaaDoorZ0
import Derived.Test.YtncidljdfipigaaDoorZ1
import Derived.Test.YtncidljdfipigaaDoorZ2
import Derived.Test.YtncidljdfipigaaDoorZ3
import Derived.Test.YtncidljdfipigaaDoorZ4
import Derived.Test.YtncidljdfipigaaDoorZ5
import Derived.Test.YtncidljdfipigaaDoorZ6
import Derived.Test.YtncidljdfipigaaDoorZ7
/- Lengths by how often symbols come, as the specification makes them: l3Lens. Conditions: numbers, sizes. -/
namespace Go.Proofs.YtncidljdfipigaaDoor.Wi
open Go.RowKit Go.Proofs.YtncidljdfipigaaDoor.Mem Go.Proofs.YtncidljdfipigaaDoor.Hf
set_option linter.unusedVariables false
set_option linter.unusedSimpArgs false
/-- The trees' symbols lie in memory. -/
def Syms (w : World) (base : Nat) (X : List Tr) : Prop := ∀ x ∈ X, RowO w x.2.1 0 3 (i64s x.1.s) ∧ base ≤ x.2.1 ∧ x.1.s.length ≤ x.2.2
theorem Syms.on {w w' : World} {base : Nat} {X : List Tr} (h : Syms w base X) (O : On w w') : Syms w' base X := fun x hx => ⟨(h x hx).1.on O, (h x hx).2⟩
theorem some_succ (counts : List Nat) (k : Nat) : some_ counts (k + 1) = some_ counts k ++ (if 0 < counts.getD k 0 then [k] else []) := by
  unfold some_
  rw [List.range_succ, List.filter_append]
  congr 1
  by_cases h : 0 < counts.getD k 0
  · rw [if_pos h, List.filter_cons, if_pos (by simpa using h)]; rfl
  · rw [if_neg h, List.filter_cons, if_neg (by simpa using h)]; rfl
theorem sum_le {α : Type} (f : α → Nat) (m : Nat) : ∀ X : List α, (∀ y ∈ X, f y ≤ m) → (X.map f).sum ≤ X.length * m
  | [], _ => by simp
  | x :: X, h => by
    have := sum_le f m X (fun y hy => h y (List.mem_cons_of_mem _ hy))
    have := h x (List.mem_cons_self ..)
    rw [List.map_cons, List.sum_cons, List.length_cons, Nat.add_mul]
    omega
theorem le_sum {α : Type} (f : α → Nat) : ∀ (X : List α) (y : α), y ∈ X → f y ≤ (X.map f).sum
  | x :: X, y, h => by
    rw [List.map_cons, List.sum_cons]
    rcases List.mem_cons.1 h with rfl | h
    · omega
    · have := le_sum f X y h; omega
/-- What is known of trees that a row holds. -/
structure Small (k : Nat) (X : List Tr) : Prop where mk ::
  at_ : ∀ y ∈ X, y.1.f < k ∧ ∀ z ∈ y.1.s, z < k
  sum : (X.map (·.1.c)).sum ≤ 30000000
  many : (X.map (·.1.s.length)).sum ≤ 300
theorem sum_erase {α : Type} (f : α → Nat) : ∀ (X : List α) (k : Nat) (h : k < X.length), ((X.eraseIdx k).map f).sum + f X[k] = (X.map f).sum
  | x :: X, 0, _ => by simp; omega
  | x :: X, k + 1, h => by
    have := sum_erase f X k (by simpa using h)
    simp only [List.eraseIdx_cons_succ, List.map_cons, List.sum_cons, List.getElem_cons_succ]
    omega
theorem map_getD {Y : List Tr} {k : Nat} (h : k < Y.length) : (Y.map (·.1)).getD k dflt = Y[k].1 := by
  rw [List.getD_eq_getElem?_getD, List.getElem?_map, List.getElem?_eq_getElem h]; rfl
theorem map_erase (X : List Tr) (k : Nat) : (X.map (·.1)).eraseIdx k = (X.eraseIdx k).map (·.1) := by
  rw [List.eraseIdx_eq_take_drop_succ, List.eraseIdx_eq_take_drop_succ, List.map_append, List.map_take, List.map_drop]
/-- One round more. -/
theorem rounds_next {Y Y1 Y2 : List Tr} {ka kb F : Nat} {xa xb : Tr} {out : List Nat} (h2 : ¬ Y.length ≤ 1) (hka : ka < Y.length) (hkb : kb < Y1.length) (eka : least (Y.map (·.1)) = ka) (exa : Y[ka] = xa) (e1 : Y.eraseIdx ka = Y1)
    (ekb : least (Y1.map (·.1)) = kb) (exb : Y1[kb] = xb) (e2 : Y1.eraseIdx kb = Y2) : rounds (F + 1) out (Y.map (·.1)) = rounds F (bump out (xa.1.s ++ xb.1.s)) (Y2.map (·.1) ++ [one xa.1 xb.1]) := by
  have e3 : (Y.map (·.1)).eraseIdx ka = Y1.map (·.1) := by rw [← e1, map_erase]
  have e4 : (Y1.map (·.1)).eraseIdx kb = Y2.map (·.1) := by rw [← e2, map_erase]
  rw [rounds, if_neg (by rw [List.length_map]; exact h2), eka, e3, ekb, e4, map_getD hka, map_getD hkb, exa, exb]
theorem small_next {k : Nat} {Y Y1 Y2 : List Tr} {ka kb : Nat} {xa xb : Tr} {xn : Tr} (S : Small k Y) (hka : ka < Y.length) (hkb : kb < Y1.length) (exa : Y[ka] = xa) (e1 : Y.eraseIdx ka = Y1) (exb : Y1[kb] = xb) (e2 : Y1.eraseIdx kb = Y2)
    (hc : xn.1.c = xa.1.c + xb.1.c) (hf : xn.1.f < k) (hs : ∀ z ∈ xn.1.s, z < k) (hl : xn.1.s.length = xa.1.s.length + xb.1.s.length) : Small k (Y2 ++ [xn]) := by
  refine ⟨fun y hy => ?_, ?_, ?_⟩
  · rcases List.mem_append.1 hy with h | h
    · rw [← e2] at h
      have h := List.mem_of_mem_eraseIdx h
      rw [← e1] at h
      exact S.at_ y (List.mem_of_mem_eraseIdx h)
    · obtain rfl : y = xn := by simpa using h
      exact ⟨hf, hs⟩
  · have h1 := sum_erase (fun y : Tr => y.1.c) Y ka hka
    have h2 := sum_erase (fun y : Tr => y.1.c) Y1 kb hkb
    rw [e1, exa] at h1
    rw [e2, exb] at h2
    have := S.sum
    rw [List.map_append, List.sum_append]
    simp only [List.map_cons, List.map_nil, List.sum_cons, List.sum_nil]
    omega
  · have h1 := sum_erase (fun y : Tr => y.1.s.length) Y ka hka
    have h2 := sum_erase (fun y : Tr => y.1.s.length) Y1 kb hkb
    rw [e1, exa] at h1
    rw [e2, exb] at h2
    have := S.many
    rw [List.map_append, List.sum_append]
    simp only [List.map_cons, List.map_nil, List.sum_cons, List.sum_nil]
    omega
theorem bump_all {out S : List Nat} {m q q' : Nat} (h : ∀ y ∈ out, y + m ≤ q) (hS : S.length + q' ≤ m) : ∀ y ∈ bump out S, y + q' ≤ q := by
  intro y hy
  obtain ⟨i, hi, rfl⟩ := List.mem_iff_getElem.1 hy
  have hi2 : i < out.length := by rwa [bump_length] at hi
  have h1 := bump_get S out i hi2
  have h2 := List.count_le_length (a := i) (l := S)
  have h3 := h _ (List.getElem_mem hi2)
  rw [List.getD_eq_getElem?_getD, List.getElem?_eq_getElem hi, List.getD_eq_getElem?_getD, List.getElem?_eq_getElem hi2] at h1
  simp only [Option.getD_some] at h1
  omega
/-- A row of numbers is no row of trees. -/
theorem rowo_ne {w : World} {g g' o : Nat} {xs ys : List Value} (h : RowO w g o 3 xs) (h' : Row w g' 133 ys) : g ≠ g' := by
  rintro rfl
  obtain ⟨cs, hb, _⟩ := h.out
  obtain ⟨ds, hd, _⟩ := h'.out
  have := hb.out.symm.trans hd.out
  simp at this
theorem news_of {w : World} {r : Nat} {l : List Nat} (h : RowO w r 0 3 (i64s l)) : ∀ j u, (i64s l)[j]? = some u → w.cell? ((⟨r, 0, none⟩ : Addr).add j) = some u := fun j u hu => by
  have ha : (⟨r, 0, none⟩ : Addr).add j = ⟨r, 0 + j, none⟩ := by unfold Addr.add; split <;> simp_all
  rw [ha]
  exact h.cell hu
theorem i64s_one {l : List Nat} {u : Value} (h : u ∈ i64s l) : u.oneCell' = true := by
  unfold i64s at h
  obtain ⟨n, _, rfl⟩ := List.mem_map.1 h
  rfl
theorem treeinfo : (Tryd.prog.info? 133).map (fun i => (i.zero, i.size, i.bytes)) = some (some (.agg #[.int .i64 0, .int .i64 0, .slice none 0 0]), 3, 40) := by kernel_rfl
set_option maxRecDepth 100000 in
set_option maxHeartbeats 2000000 in
theorem slens3_calls (counts : List Nat) (g o n cap : Nat) (w : World) (hR : RowO w g o 3 (i64s counts)) (hn : counts.length = n) (hn2 : n ≤ 300) (hnc : n ≤ cap) (hx : ∀ x ∈ counts, x ≤ 100000) :
    Calls Tryd.prog 126 #[.slice (some ⟨g, o, none⟩) n cap] w (GivesI w (lensOf counts)) := by
  have HN := Lib.hid hn
  clear hn
  obtain ⟨i0, hi, hz0, hz1, hz2⟩ := info_parts treeinfo
  obtain ⟨i1, hi1, hj0, hj1, hj2⟩ := info_parts i64info
  go_enter Tryd.func126, Tryd.ntmps126
  go_wp2_with (at_make; go_must (refine wpList_ints _ rfl _ _ rfl _ _ n rfl rfl rfl rfl (by omega) ?_); intro w1 hN1 O1 hlt1)
  have NC := Own.new (base := w1.heap.size) w1 133 3 #[] 0 (Nat.zero_le _) rfl (Nat.le_refl _)
  have OC := (On.refl w1).alloc (.cells #[] 133)
  generalize hA : w.heap.size = A at *
  generalize w1.alloc (.cells #[] 133) = w2 at *
  go_loopw [4, 5] (fun v x wr => ∃ (k : Nat) (X : List Tr), x = .int .i64 (k : Int) ∧ k ≤ n ∧ Own w1.heap.size wr 133 3 v X.length (tcells X) ∧ X.map (·.1) = (some_ counts k).map (leaf counts) ∧ Syms wr w1.heap.size X ∧ On w1 wr ∧ X.length ≤ k) (fun _ x _ => n - (intOf x).toNat)
  case atStart => exact ⟨0, [], rfl, by omega, NC, rfl, fun x hx => (by cases hx), OC, Nat.le_refl _⟩
  case round =>
    obtain ⟨k, X, rfl, hk, hO, hX, hS, O, hXk⟩ := hrel
    by_cases hlt : k < n
    · have hkl : k < counts.length := by rw [HN.out]; exact hlt
      have c0 := (hR.on (O1.call O)).cell (i64s_get hkl)
      have hmem : counts.getD k 0 ∈ counts := by rw [List.getD_eq_getElem?_getD, List.getElem?_eq_getElem hkl]; exact List.getElem_mem _
      have hx1 := hx _ hmem
      have HT := Lib.hid (some_succ counts k)
      have HL := Lib.hid (show leaf counts k = ⟨counts.getD k 0, k, [k]⟩ from rfl)
      clear hmem
      generalize counts.getD k 0 = x at *
      have hk2 : (k : Int) < n := by omega
      by_cases h0 : 0 < x
      · have h0' : (0 : Int) < x := by omega
        have OS := (On.refl wr).alloc (.cells #[.int .i64 (k : Int)] 3)
        have BS := Blk.new wr 3 #[.int .i64 (k : Int)]
        have hown2 := hO.on OS
        have O2 := O.call OS
        have hw1r := O.size
        go_wp2_with (at_builtin; go_must (refine wpList_app rfl _ _ 131 rfl w1 i0 (.agg #[.int .i64 0, .int .i64 0, .slice none 0 0]) 40 3 Tryd.underlying131 hi hz0 hz1 hz2 rfl (by decide) rfl _ _ _ rfl hown2 O2 (by simp [Act.eval]) (by simp [Value.oneCell']) (by unfold maxLen; omega) (by omega) ?_); intro v' w3 hown' O' hk3)
        go_roundw
        case rel =>
          have e : tcells X ++ (#[Value.int .i64 (x : Int), .int .i64 (k : Int), .slice (some ⟨wr.heap.size, 0, none⟩) 1 1] : Array Value).toList = tcells (X ++ [(⟨x, k, [k]⟩, wr.heap.size, 1)]) := by
            rw [tcells_append]; rfl
          rw [e] at hown'
          obtain ⟨gl, cl, hv, _, hrow, _⟩ := hO.parts
          refine ⟨k + 1, X ++ [(⟨x, k, [k]⟩, wr.heap.size, 1)], by go_num, by omega, by rw [List.length_append]; exact hown', ?_, ?_, O', by rw [List.length_append]; simp; omega⟩
          · rw [List.map_append, hX, HT.out, if_pos h0, List.map_append]
            show _ ++ [_] = _ ++ [leaf counts k]
            rw [HL.out]
          · intro y hy
            rcases List.mem_append.1 hy with h | h
            · obtain ⟨r1, r2, r3⟩ := hS y h
              refine ⟨?_, r2, r3⟩
              obtain ⟨cs, hb, ht⟩ := (r1.on OS).out
              refine ⟨cs, hk3 _ _ _ hb ?_, ht⟩
              rw [hv]
              show (Value.slice (some ⟨gl, 0, none⟩) X.length cl).ownBlock ≠ some _
              intro hh
              exact rowo_ne r1 hrow (Option.some.inj hh).symm
            · obtain rfl : y = (⟨x, k, [k]⟩, wr.heap.size, 1) := by simpa using h
              refine ⟨⟨#[.int .i64 (k : Int)], hk3 _ _ _ BS ?_, rfl⟩, hw1r, Nat.le_refl _⟩
              rw [hv]
              show (Value.slice (some ⟨gl, 0, none⟩) X.length cl).ownBlock ≠ some _
              intro hh
              have h1 : gl = wr.heap.size := Option.some.inj hh
              have := hrow.lt
              omega
        case measure => simp [intOf]; omega
      · have h0' : ¬ (0 : Int) < x := by omega
        go_wp2_with fail
        go_roundw
        case rel => exact ⟨k + 1, X, by go_num, by omega, hO, by rw [hX, HT.out, if_neg h0, List.append_nil], hS, O, by omega⟩
        case measure => simp [intOf]; omega
    · obtain rfl : k = n := by omega
      have hlv : X.map (·.1) = leaves counts := by rw [hX]; unfold leaves; rw [HN.out]
      have hXc : ∀ y ∈ X, y.1.c ≤ 100000 ∧ y.1.f < k ∧ (∀ z ∈ y.1.s, z < k) := by
        intro y hy
        have hm : y.1 ∈ leaves counts := by rw [← hlv]; exact List.mem_map.2 ⟨y, hy, rfl⟩
        unfold leaves at hm
        obtain ⟨j, hj, he⟩ := List.mem_map.1 hm
        rw [← he]
        have hjk : j < k := by unfold some_ at hj; have := (List.mem_filter.1 hj).1; rw [HN.out] at this; simpa using this
        refine ⟨?_, hjk, fun z hz => ?_⟩
        · exact Cd.getD_le hx j
        · have : z = j := by simpa [leaf] using hz
          omega
      have hXs : ∀ y ∈ X, y.1.s.length ≤ 1 := by
        intro y hy
        have hm : y.1 ∈ leaves counts := by rw [← hlv]; exact List.mem_map.2 ⟨y, hy, rfl⟩
        unfold leaves at hm
        obtain ⟨j, hj, he⟩ := List.mem_map.1 hm
        rw [← he]
        exact Nat.le_refl _
      have SM : Small k X := ⟨fun y hy => (hXc y hy).2, by have := sum_le (fun y : Tr => y.1.c) 100000 X (fun y hy => (hXc y hy).1); omega, by have := sum_le (fun y : Tr => y.1.s.length) 1 X hXs; omega⟩
      have HLV := Lib.hid hlv
      have HXC := Lib.hid hXc
      clear hXs
      have hN2 := hN1.on O
      obtain ⟨gl, cl, hv, hgl1, hrow, hcl, _, _⟩ := hO.parts
      have hAl : A < w1.heap.size := hlt1
      clear hX hlv hXc
      obtain ⟨f0, hf0⟩ : ∃ f0, ((leaves counts).getD 0 dflt).f = f0 := ⟨_, rfl⟩
      have W5 : ∃ (w5 : World) (out5 : List Nat) (F : Nat), (w5 = if X.length = 1 then wr.setCell ⟨A, f0, none⟩ (.int .i64 1) else wr) ∧ Nums w5 A (.slice (some ⟨A, 0, none⟩) k k) out5 ∧ Own w1.heap.size w5 133 3 u4 X.length (tcells X) ∧ Syms w5 w1.heap.size X ∧ Kp [A] w1 w5 ∧ out5.length = k ∧ (∀ y ∈ out5, y ≤ 1) ∧ X.length ≤ F + 1 ∧ rounds F out5 (X.map (·.1)) = lensOf counts := by
        by_cases h1 : X.length = 1
        · have KS : Kp [A] wr (wr.setCell ⟨A, f0, none⟩ (.int .i64 1)) := (Kp.refl _ _).set (.inl (by simp)) _
          refine ⟨_, (List.replicate k 0).set f0 1, 0, by rw [if_pos h1]; rfl, hN2.set f0 1, ⟨KS.owns hO.own (fun y hy => by have := hO.block y hy; simp; omega), hO.nn⟩, fun y hy => ⟨(hS y hy).1.kp KS (by have := (hS y hy).2.1; simp; omega), (hS y hy).2⟩, (Kp.of _ O).then KS, by simp, fun y hy => by (rcases List.mem_or_eq_of_mem_set hy with h | h; (have := List.eq_of_mem_replicate h; omega); omega), by omega, ?_⟩
          have e : (leaves counts).length = 1 := by rw [← HLV.out, List.length_map]; exact h1
          unfold lensOf
          rw [if_pos e, HN.out, hf0]; rfl
        · refine ⟨wr, List.replicate k 0, X.length, by rw [if_neg h1], hN2, hO, hS, Kp.of _ O, by simp, fun y hy => by have := List.eq_of_mem_replicate hy; omega, by omega, ?_⟩
          have e : (leaves counts).length = X.length := by rw [← HLV.out, List.length_map]
          unfold lensOf
          rw [if_neg (by rw [e]; exact h1), e, HLV.out, HN.out]
      obtain ⟨w5, out5, F, hw5, N5, O5, S5, K5, hl5, hb5, hF, hR5⟩ := W5
      have HW5 := Lib.hid hw5
      have cell0 : X.length = 1 → wr.cell? ⟨gl, 1, none⟩ = some (.int .i64 (f0 : Int)) ∧ f0 < k := by
        intro h1
        obtain ⟨x0, rfl⟩ := List.length_eq_one_iff.1 h1
        have e : x0.1.f = f0 := by rw [← hf0, ← HLV.out]; rfl
        have := hrow.cell (tcells_get [x0] (i := 0) (by simp)).2.1
        rw [← e]
        exact ⟨this, (HXC.out x0 (by simp)).2.1⟩
      have HC0 := Lib.hid cell0
      have hR5' := Lib.hid hR5
      clear cell0 hw5 hR5 hf0
      subst hv
      have hk300 : X.length ≤ 300 := by omega
      have HN2 := Lib.hid hN2
      clear hN2
      by_cases h1 : X.length = 1
      case' pos =>
        obtain ⟨c1, hfk⟩ := HC0.out h1
        have h1' : ((X.length : Int) == 1) = true := by simp; omega
        have hcl : f0 < (List.replicate k 0).length := by simpa using hfk
        have cs := HN2.out.row.1.cell (i64s_get hcl)
        have fe : ∀ i, wr.frozen? ⟨A, i, none⟩ = false := HN2.out.row.1.frozen
        have hfk' : (f0 : Int) < (k : Int) := by omega
        have hXl : (0 : Int) < (X.length : Int) := by omega
        clear hcl
        go_wp2_with fail
        rw [← (HW5.out.trans (if_pos h1))]
      case' neg =>
        have h1' : ((X.length : Int) == 1) = false := by simp; omega
        go_wp2_with fail
        rw [← (HW5.out.trans (if_neg h1))]
      all_goals
        go_loopw [4] (fun v wr2 => ∃ (X : List Tr) (out : List Nat) (F : Nat), Own w1.heap.size wr2 133 3 v X.length (tcells X) ∧ Syms wr2 w1.heap.size X ∧ Nums wr2 A (.slice (some ⟨A, 0, none⟩) k k) out ∧ Kp [A] w1 wr2 ∧ out.length = k ∧ X.length ≤ F + 1 ∧ X.length ≤ 300 ∧ Small k X ∧ RowKit.Hid (∀ y ∈ out, y + 600 * X.length ≤ 1000000) ∧ RowKit.Hid (rounds F out (X.map (·.1)) = lensOf counts)) (fun v _ => match v with | .slice _ m _ => m | _ => 0)
        case atStart => exact ⟨X, out5, F, (by first | exact O5 | (rw [h1] at O5 ⊢; exact O5)), S5, N5, K5, hl5, hF, hk300, SM, Lib.hid (fun y hy => by have := hb5 y hy; omega), hR5'⟩
        case round =>
          obtain ⟨Y, out, F2, hO2, hS2, hN3, K2, hol, hYF, hY3, SY, HOB2, HR⟩ := hrel
          obtain ⟨g2, c2, hv2, hg2, hrow2, hc2, _, _⟩ := hO2.parts
          subst hv2
          by_cases h2 : Y.length ≤ 1
          · have h2' : ¬ (1 : Int) < (Y.length : Int) := by omega
            have hout : out = lensOf counts := by
              rw [← HR.out]
              cases F2 with
              | zero => rfl
              | succ f => rw [rounds, if_pos (by rw [List.length_map]; exact h2)]
            have HO := Lib.hid hout
            clear hout
            go_wp2_with fail
            go_ret
            have hl : (lensOf counts).length = k := by rw [← HO.out]; exact hol
            refine ⟨A, k, by rw [hl]; rfl, by rw [hl, ← HO.out]; exact hN3, by omega, hN3.row.1.lt, K2.on O1 (fun y hy => by simp at hy; omega)⟩
          · have h2' : (1 : Int) < (Y.length : Int) := by omega
            have hcb : ∀ y ∈ Y, y.1.c ≤ 100000000 ∧ y.1.f ≤ 1000 := fun y hy => ⟨by have := le_sum (fun y : Tr => y.1.c) Y y hy; have := SY.sum; omega, by have := (SY.at_ y hy).1; omega⟩
            go_wp2_with fail
            refine (sleast_calls Y g2 Y.length c2 wr hrow2 rfl (by omega) (by omega) hc2 hcb).mono ?_
            rintro e w6 ⟨rfl, O6⟩
            have hka := least_lt (l := Y.map (·.1)) (by rw [List.length_map]; omega)
            rw [List.length_map] at hka
            obtain ⟨ka, hkae⟩ : ∃ ka, least (Y.map (·.1)) = ka := ⟨_, rfl⟩
            rw [hkae] at hka ⊢
            have HKA := Lib.hid hkae
            clear hkae
            have hka' : (ka : Int) < (Y.length : Int) := by omega
            obtain ⟨ga0, ga1, ga2⟩ := tcells_get Y hka
            have r6 := hrow2.on O6
            have d0 := r6.cell ga0
            have d1 := r6.cell ga1
            have d2 := r6.cell ga2
            rw [Nat.mul_comm 3 ka] at d0 d1 d2
            obtain ⟨xa, hxa⟩ : ∃ xa, Y[ka] = xa := ⟨_, rfl⟩
            have hma : xa ∈ Y := by rw [← hxa]; exact List.getElem_mem hka
            rw [hxa] at d0 d1 d2
            have OW6 := O6
            have BA := Blk.new w6 133 #[.int .i64 (xa.1.c : Int), .int .i64 (xa.1.f : Int), .slice (some ⟨xa.2.1, 0, none⟩) xa.1.s.length xa.2.2]
            have OA := (On.refl w6).alloc (.cells #[.int .i64 (xa.1.c : Int), .int .i64 (xa.1.f : Int), .slice (some ⟨xa.2.1, 0, none⟩) xa.1.s.length xa.2.2] 133)
            have O6A := O6.call OA
            clear ga0 ga1 ga2
            have HXA := Lib.hid hxa
            clear hxa
            go_wp2_with fail
            generalize hPA : w6.heap.size = pa at *
            generalize w6.alloc (.cells #[.int .i64 (xa.1.c : Int), .int .i64 (xa.1.f : Int), .slice (some ⟨xa.2.1, 0, none⟩) xa.1.s.length xa.2.2] 133) = wa at *
            refine (sless_calls Y g2 Y.length c2 ka wa (hrow2.on O6A) rfl (by omega) hc2 hka).mono ?_
            rintro e w7 ⟨v7, rfl, hO7, O7⟩
            have hl7 : (Y.eraseIdx ka).length = Y.length - 1 := List.length_eraseIdx_of_lt hka
            obtain ⟨Y1, hY1⟩ : ∃ Y1, Y.eraseIdx ka = Y1 := ⟨_, rfl⟩
            rw [hY1] at hO7 hl7
            obtain ⟨g3, c3, hv3, hg3, hrow3, hc3, _, _⟩ := hO7.parts
            subst hv3
            have hcb1 : ∀ y ∈ Y1, y.1.c ≤ 100000000 ∧ y.1.f ≤ 1000 := fun y hy => hcb y (by rw [← hY1] at hy; exact List.mem_of_mem_eraseIdx hy)
            have O67 := O6A.call O7
            go_wp2_with fail
            refine (sleast_calls Y1 g3 (Y.length - 1) c3 w7 hrow3 hl7 (by omega) (by omega) hc3 hcb1).mono ?_
            rintro e w8 ⟨rfl, O8⟩
            have hkb := least_lt (l := Y1.map (·.1)) (by rw [List.length_map]; omega)
            rw [List.length_map] at hkb
            obtain ⟨kb, hkbe⟩ : ∃ kb, least (Y1.map (·.1)) = kb := ⟨_, rfl⟩
            rw [hkbe] at hkb ⊢
            have HKB := Lib.hid hkbe
            clear hkbe
            have hkb' : (kb : Int) < ((Y.length - 1 : Nat) : Int) := by omega
            obtain ⟨gb0, gb1, gb2⟩ := tcells_get Y1 hkb
            have r8 := hrow3.on O8
            have b0 := r8.cell gb0
            have b1 := r8.cell gb1
            have b2 := r8.cell gb2
            rw [Nat.mul_comm 3 kb] at b0 b1 b2
            obtain ⟨xb, hxb⟩ : ∃ xb, Y1[kb] = xb := ⟨_, rfl⟩
            have hmb : xb ∈ Y1 := by rw [← hxb]; exact List.getElem_mem hkb
            rw [hxb] at b0 b1 b2
            have BB := Blk.new w8 133 #[.int .i64 (xb.1.c : Int), .int .i64 (xb.1.f : Int), .slice (some ⟨xb.2.1, 0, none⟩) xb.1.s.length xb.2.2]
            have OB := (On.refl w8).alloc (.cells #[.int .i64 (xb.1.c : Int), .int .i64 (xb.1.f : Int), .slice (some ⟨xb.2.1, 0, none⟩) xb.1.s.length xb.2.2] 133)
            have O68 := O67.call O8
            have O6B := O68.call OB
            clear gb0 gb1 gb2
            have HXB := Lib.hid hxb
            clear hxb
            go_wp2_with fail
            generalize hPB : w8.heap.size = pb at *
            generalize w8.alloc (.cells #[.int .i64 (xb.1.c : Int), .int .i64 (xb.1.f : Int), .slice (some ⟨xb.2.1, 0, none⟩) xb.1.s.length xb.2.2] 133) = wb at *
            refine (sless_calls Y1 g3 (Y.length - 1) c3 kb wb (hrow3.on (O8.call OB)) hl7 (by omega) hc3 (by omega)).mono ?_
            rintro e w9 ⟨v9, rfl, hO9, O9⟩
            have hl9 : (Y1.eraseIdx kb).length = Y1.length - 1 := List.length_eraseIdx_of_lt hkb
            obtain ⟨Y2, hY2⟩ : ∃ Y2, Y1.eraseIdx kb = Y2 := ⟨_, rfl⟩
            rw [hY2] at hO9 hl9
            have O69 := O6B.call O9
            have BA9 := (((BA.call O7.out).call O8.out).call OB.out).call O9.out
            have BB9 := BB.call O9.out
            have ca1 : w9.cell? ⟨pa, 1, none⟩ = some (.int .i64 (xa.1.f : Int)) := (BA9.cell 1).trans rfl
            have cb1 : w9.cell? ⟨pb, 1, none⟩ = some (.int .i64 (xb.1.f : Int)) := (BB9.cell 1).trans rfl
            have CA2 : ∀ W, Kp [] w9 W → W.cell? ⟨pa, 2, none⟩ = some (.slice (some ⟨xa.2.1, 0, none⟩) xa.1.s.length xa.2.2) := fun W h => (h.cell BA9.lt (by simp)).trans ((BA9.cell 2).trans rfl)
            have CB2 : ∀ W, Kp [] w9 W → W.cell? ⟨pb, 2, none⟩ = some (.slice (some ⟨xb.2.1, 0, none⟩) xb.1.s.length xb.2.2) := fun W h => (h.cell BB9.lt (by simp)).trans ((BB9.cell 2).trans rfl)
            have HCA2 := Lib.hid CA2
            have HCB2 := Lib.hid CB2
            clear CA2 CB2
            have Rxa : RowO w9 xa.2.1 0 3 (i64s xa.1.s) := (hS2 xa hma).1.on O69
            have Rxb : RowO w9 xb.2.1 0 3 (i64s xb.1.s) := (hS2 xb (by rw [← hY1] at hmb; exact List.mem_of_mem_eraseIdx hmb)).1.on O69
            have hsa : xa.1.s.length ≤ 300 := by have := le_sum (fun y : Tr => y.1.s.length) Y xa hma; have := SY.many; omega
            have hsb : xb.1.s.length ≤ 300 := by have := le_sum (fun y : Tr => y.1.s.length) Y xb (by rw [← hY1] at hmb; exact List.mem_of_mem_eraseIdx hmb); have := SY.many; omega
            obtain ⟨fm, hfm⟩ : ∃ fm, min xa.1.f xb.1.f = fm := ⟨_, rfl⟩
            have HFM := Lib.hid hfm
            clear hfm
            by_cases hfl : xb.1.f < xa.1.f
            case' pos =>
              have hfl' : (xb.1.f : Int) < (xa.1.f : Int) := by omega
              have hfe : xb.1.f = fm := by have := HFM.out; omega
              go_upto_region 20 with fail
            case' neg =>
              have hfl' : ¬ (xb.1.f : Int) < (xa.1.f : Int) := by omega
              have hfe : xa.1.f = fm := by have := HFM.out; omega
              go_upto_region 20 with fail
            all_goals
              have CA2 := HCA2.out
              have CB2 := HCB2.out
              refine wp_region_held_drew (S := fun W => Kp [] w9 W) (by kernel_rfl) (Kp.refl _ _).drew (fun hHeld => ?_)
              have OwD := (On.refl w9).drew
              refine wpAnyH_take (i := 1) (oi := _) (v := ?_) rfl (by kernel_rfl) (by kernel_rfl) (by kernel_rfl) (fun _ _ _ h => h) (Or.inl ⟨by rfl, ?_⟩) (by assumption) ?_
              rotate_left
              · intro w hSw
                go_simp
                first | done | with_reducible rfl
              try simp only [Act.put, List.setIfInBounds_toArray, List.set_cons_zero, List.set_cons_succ]
              refine wpAnyH_take (i := 2) (oi := _) (v := ?_) rfl (by kernel_rfl) (by kernel_rfl) (by kernel_rfl) (fun _ _ _ h => h) (Or.inl ⟨by rfl, ?_⟩) (by assumption) ?_
              rotate_left
              · intro w hSw
                go_simp
                first | done | with_reducible rfl
              try simp only [Act.put, List.setIfInBounds_toArray, List.set_cons_zero, List.set_cons_succ]
              refine wpAnyH_take (i := 4) (oi := _) (v := ?_) rfl (by kernel_rfl) (by kernel_rfl) (by kernel_rfl) (fun _ _ _ h => h) (Or.inl ⟨by rfl, ?_⟩) (by assumption) ?_
              rotate_left
              · intro w hSw
                go_simp
                first | done | with_reducible rfl
              try simp only [Act.put, List.setIfInBounds_toArray, List.set_cons_zero, List.set_cons_succ]
              refine wpAnyH_take (i := 5) (oi := _) (v := ?_) rfl (by kernel_rfl) (by kernel_rfl) (by kernel_rfl) (fun _ _ _ h => h) (Or.inl ⟨by rfl, ?_⟩) (by assumption) ?_
              rotate_left
              · intro w hSw
                go_simp
                first | done | with_reducible rfl
              try simp only [Act.put, List.setIfInBounds_toArray, List.set_cons_zero, List.set_cons_succ]
              refine wpAnyH_strong (S' := fun W => Kp [] w9.drew W) (fun W h => Kp.then (Kp.of [] OwD) h) ?_
              have hHeldN : (fun W => Kp [] w9.drew W) w9.drew := Kp.refl _ _
              clear CA2 CB2
              generalize w9.drew = wD at *
              refine wpAnyH_ready (rs := [0]) (by kernel_rfl) (by simp) ?_
              refine AllReadyH.cons (o := _) rfl (fun K hK => ?_) AllReadyH.nil
              go_simp
              have OE := (On.refl wD).alloc (.cells #[] 3)
              have NE := Own.new (base := w9.heap.size) wD 3 1 #[] 0 (Nat.zero_le _) rfl OwD.size
              have OwE := OwD.call OE
              have hzD := OwD.size
              refine hK.out _ _ (Kp.of [] OE) (fun hHeld => ?_)
              clear hK K
              try simp only [Act.put, List.setIfInBounds_toArray, List.set_cons_zero, List.set_cons_succ]
              generalize hE : wD.heap.size = E at *
              generalize wD.alloc (.cells #[] 3) = wE at *
              refine wpAnyH_ready (rs := [3]) (by kernel_rfl) (by simp) ?_
              refine AllReadyH.cons (o := _) rfl (fun K hK => ?_) AllReadyH.nil
              refine step_append_any rfl _ _ 58 rfl w9.heap.size 3 i1 (.int .i64 0) 1 8 Tryd.underlying58 hi1 hj0 hj1 hj2 rfl (by omega) (.slice (some ⟨E, 0, none⟩) 0 0) 0 [] rfl NE.own ⟨xa.2.1, 0, none⟩ xa.1.s.length xa.2.2 (i64s xa.1.s) rfl (by rw [i64s_length]; omega) (news_of (Rxa.on OwE)) (fun u hu => i64s_one hu) (by unfold maxLen; omega) (by omega) OwE.size ?_
              intro v1 w10 hownv1 hgrv1 hnilv1 hobv1
              have HOB : (Value.slice (some ⟨E, 0, none⟩) 0 0).ownBlock = some E := rfl
              have Owv1 : On w9 w10 := OwE.grown hgrv1 (fun y hy => by rw [HOB] at hy; cases hy; omega)
              have Odv1 : On wD w10 := OE.grown hgrv1 (fun y hy => by rw [HOB] at hy; cases hy; omega)
              have hnn1 : v1 ≠ .slice none 0 0 := fun e => by cases (hnilv1.1 e).1
              have hvb : ∀ y, v1.ownBlock = some y → wD.heap.size ≤ y := fun y hy => by
                rcases hobv1 with e | e
                · rw [e, HOB] at hy; cases hy; omega
                · rw [e] at hy; cases hy; exact OE.size
              show K (Act.put _ (some 79) v1) w10
              refine hK.out _ _ (Kp.of [] Odv1) (fun hHeld => ?_)
              clear hK K
              try simp only [Act.put, List.setIfInBounds_toArray, List.set_cons_zero, List.set_cons_succ]
              refine wpAnyH_ready (rs := [6]) (by kernel_rfl) (by simp) ?_
              refine AllReadyH.cons (o := _) rfl (fun K hK => ?_) AllReadyH.nil
              refine step_append_any rfl _ _ 58 rfl w9.heap.size 3 i1 (.int .i64 0) 1 8 Tryd.underlying58 hi1 hj0 hj1 hj2 rfl (by omega) v1 (0 + xa.1.s.length) _ rfl hownv1 ⟨xb.2.1, 0, none⟩ xb.1.s.length xb.2.2 (i64s xb.1.s) rfl (by rw [i64s_length]; omega) (news_of (Rxb.on Owv1)) (fun u hu => i64s_one hu) (by unfold maxLen; omega) (by omega) Owv1.size ?_
              intro v2 w11 hownv2 hgrv2 hnilv2 hobv2
              skip
              have Owv2 : On w9 w11 := Owv1.grown hgrv2 (fun y hy => by have := hvb y hy; omega)
              have Odv2 : On wD w11 := Odv1.grown hgrv2 (fun y hy => by have := hvb y hy; omega)
              skip
              show K (Act.put _ (some 82) v2) w11
              refine hK.out _ _ (Kp.of [] Odv2) (fun hHeld => ?_)
              clear hK K
              try simp only [Act.put, List.setIfInBounds_toArray, List.set_cons_zero, List.set_cons_succ]
              refine wpAnyH_take (i := 7) (oi := _) (v := ?_) rfl (by kernel_rfl) (by kernel_rfl) (by kernel_rfl) (fun _ _ _ h => h) (Or.inl ⟨by rfl, ?_⟩) (by assumption) ?_
              rotate_left
              · intro w hSw
                go_simp
                first | done | with_reducible rfl
              try simp only [Act.put, List.setIfInBounds_toArray, List.set_cons_zero, List.set_cons_succ]
              refine wpAnyH_done (by kernel_rfl) ?_ _
              go_wp2_with fail
              have hnn2 : v2 ≠ .slice none 0 0 := fun e => hnn1 (hnilv2.1 e).1
              obtain ⟨g5, c5, hv5, hg5, hrow5, hc5, _, _⟩ := (show Own w9.heap.size w11 3 1 v2 (0 + xa.1.s.length + xb.1.s.length) _ from ⟨hownv2, hnn2⟩).parts
              subst hv5
              obtain ⟨Sy, hSy⟩ : ∃ Sy, xa.1.s ++ xb.1.s = Sy := ⟨_, rfl⟩
              have hSl : 0 + xa.1.s.length + xb.1.s.length = Sy.length := by rw [← hSy, List.length_append]; omega
              have hSr : Row w11 g5 3 (i64s Sy) := by
                have e : i64s Sy = [] ++ i64s xa.1.s ++ i64s xb.1.s := by rw [← hSy]; unfold i64s; rw [List.map_append]; rfl
                rw [e]; exact hrow5
              have hSz : ∀ z ∈ Sy, z < k := by
                intro z hz
                rw [← hSy] at hz
                rcases List.mem_append.1 hz with h | h
                · exact (SY.at_ xa hma).2 z h
                · exact (SY.at_ xb (by rw [← hY1] at hmb; exact List.mem_of_mem_eraseIdx hmb)).2 z h
              have hS600 : Sy.length ≤ 600 := by omega
              have O9b : On wr w11 := O69.call Owv2
              have N11 := hN3.on O9b
              have hgA5 : g5 ≠ A := by
                have := K2.size
                have := O69.size
                omega
              rw [hSl] at hc5 ⊢
              have HSZ := Lib.hid hSz
              have HSY := Lib.hid hSy
              clear hSz hSy hrow5 hownv2 hgrv2 hnilv2 hobv2
              go_loopw [11] (fun x w12 => ∃ (j : Nat) (out2 : List Nat), x = .int .i64 (j : Int) ∧ j ≤ Sy.length ∧ Nums w12 A (.slice (some ⟨A, 0, none⟩) k k) out2 ∧ RowKit.Hid (out2 = bump out (Sy.take j)) ∧ Kp [A] w11 w12) (fun x _ => Sy.length - (intOf x).toNat)
              case atStart => exact ⟨0, out, rfl, by omega, N11, Lib.hid (by rw [List.take_zero]; rfl), Kp.refl _ _⟩
              case round =>
                obtain ⟨j, out2, rfl, hj, hN12, HB2, K12⟩ := hrel
                by_cases hjl : j < Sy.length
                · have hjl' : (j : Int) < (Sy.length : Int) := by omega
                  have s0 := (K12.row hSr (by simpa using hgA5)).cell (i64s_get hjl)
                  have hzk : Sy.getD j 0 < k := HSZ.out _ (by rw [List.getD_eq_getElem?_getD, List.getElem?_eq_getElem hjl]; exact List.getElem_mem _)
                  have ho2l : out2.length = k := by rw [HB2.out, bump_length]; exact hol
                  have hstep : out2.set (Sy.getD j 0) (out2.getD (Sy.getD j 0) 0 + 1) = bump out (Sy.take (j + 1)) := by
                    rw [List.take_succ_eq_append_getElem hjl, bump_append, ← HB2.out, List.getD_eq_getElem?_getD, List.getElem?_eq_getElem hjl]; rfl
                  have hob3 : out2.getD (Sy.getD j 0) 0 ≤ 1001000 := by
                    rw [HB2.out, bump_get _ _ _ (by rw [hol]; exact hzk)]
                    have h1 := List.count_le_length (a := Sy.getD j 0) (l := Sy.take j)
                    rw [List.length_take] at h1
                    have h2 : out.getD (Sy.getD j 0) 0 ≤ 1000000 := Cd.getD_le (fun y hy => by have := HOB2.out y hy; omega) _
                    omega
                  have HST := Lib.hid hstep
                  have HZK := Lib.hid hzk
                  have o0 := hN12.row.1.cell (i64s_get (show Sy.getD j 0 < out2.length by omega))
                  have fe : ∀ i, wr.frozen? ⟨A, i, none⟩ = false := hN12.row.1.frozen
                  clear hstep
                  generalize Sy.getD j 0 = z at *
                  obtain ⟨oz, hoz⟩ : ∃ oz, out2.getD z 0 = oz := ⟨_, rfl⟩
                  rw [hoz] at o0 HST hob3
                  clear hoz
                  have hzk' : (z : Int) < (k : Int) := by omega
                  have e1 : IntKind.i64.wrap ((oz : Int) + 1) = ((oz + 1 : Nat) : Int) := by rw [IntKind.wrap_i64]; omega
                  go_wp2_with fail
                  go_region
                  go_wp2_with fail
                  go_roundw
                  case rel =>
                    have D := (On.refl wr).drew
                    exact ⟨j + 1, out2.set z (oz + 1), by go_num, by omega, (hN12.on D).set z (oz + 1), Lib.hid HST.out, (K12.drew).set (.inl (by simp)) _⟩
                  case measure => simp [intOf]; omega
                · obtain rfl : j = Sy.length := by omega
                  have hjl' : ¬ ((Sy.length : Int) < (Sy.length : Int)) := by omega
                  have K9r : Kp [A] w9 wr := (Kp.of [A] Owv2).then K12
                  have hAb : A < wb.heap.size := by have := K2.size; have := O6B.size; omega
                  have hOr : Own w1.heap.size wr 133 3 v9 (Y.length - 1 - 1) (tcells Y2) := by
                    have h1 : Own wb.heap.size wr 133 3 v9 (Y.length - 1 - 1) (tcells Y2) := ⟨K9r.owns hO9.own (fun y hy => by have := hO9.block y hy; simp; omega), hO9.nn⟩
                    exact h1.low (by have := K2.size; have := O6B.size; omega)
                  have ea0 : wr.cell? ⟨pa, 0, none⟩ = some (.int .i64 (xa.1.c : Int)) := (K9r.cell BA9.lt (by have h1 := OW6.size; have h2 := K2.size; simp; omega)).trans ((BA9.cell 0).trans rfl)
                  have eb0 : wr.cell? ⟨pb, 0, none⟩ = some (.int .i64 (xb.1.c : Int)) := (K9r.cell BB9.lt (by have h1 := O68.size; have h2 := K2.size; simp; omega)).trans ((BB9.cell 0).trans rfl)
                  have ec : IntKind.i64.wrap ((xa.1.c : Int) + (xb.1.c : Int)) = (xa.1.c : Int) + (xb.1.c : Int) := by
                    have h1 := (hcb xa hma).1
                    have h2 := (hcb1 xb hmb).1
                    rw [IntKind.wrap_i64]; omega
                  have OT := (On.refl wr).alloc (.cells #[.int .i64 ((xa.1.c : Int) + (xb.1.c : Int)), .int .i64 (fm : Int), .slice (some ⟨g5, 0, none⟩) Sy.length c5] 133)
                  have hOT := (hOr.on OT).own
                  have NT := World.news_of_block (Blk.new wr 133 #[.int .i64 ((xa.1.c : Int) + (xb.1.c : Int)), .int .i64 (fm : Int), .slice (some ⟨g5, 0, none⟩) Sy.length c5]).out
                  have hbz : w1.heap.size ≤ (wr.alloc (.cells #[.int .i64 ((xa.1.c : Int) + (xb.1.c : Int)), .int .i64 (fm : Int), .slice (some ⟨g5, 0, none⟩) Sy.length c5] 133)).heap.size := by have := OT.size; have := K9r.size; have := O69.size; have := K2.size; omega
                  have HNT := Lib.hid NT
                  clear NT
                  go_wp2_with (at_builtin; go_must (refine Go.wpList_append_own_at _ rfl _ _ 131 rfl w1.heap.size 133 i0 (.agg #[.int .i64 0, .int .i64 0, .slice none 0 0]) 3 40 Tryd.underlying131 hi hz0 hz1 hz2 rfl (by omega) v9 (Y.length - 1 - 1) (tcells Y2) rfl hOT ⟨wr.heap.size, 0, none⟩ 1 1 _ rfl rfl HNT.out (by simp [Value.oneCell']) (by unfold maxLen; omega) (by omega) hbz ?_); intro v10 w10' hown10 hgr10 hnil10 hob10)
                  obtain ⟨g9, c9, hv9, hg9, hrow9, _, _, _⟩ := hO9.parts
                  have hg9l := hrow9.lt
                  have hnn10 : v10 ≠ .slice none 0 0 := fun e => by have := (hnil10.1 e).2; omega
                  have K10 : Kp [g9] wr w10' := ((Kp.refl _ _).alloc _).then (Kp.grown hgr10 (fun y hy => by rw [hv9] at hy; cases hy; simp))
                  have K1t : Kp [A] w1 w10' := ((K2.then (Kp.of _ O69)).then K9r).trans K10 (fun x hx => by simp at hx; have := K2.size; have := O6B.size; omega)
                  obtain ⟨xn, hxn⟩ : ∃ xn : Tr, xn = ((⟨xa.1.c + xb.1.c, fm, Sy⟩ : It), g5, c5) := ⟨_, rfl⟩
                  have hXl : (Y2 ++ [xn]).length = Y.length - 1 - 1 + 1 := by rw [List.length_append, hl9, hl7]; rfl
                  have hown11 : Own w1.heap.size w10' 133 3 v10 (Y2 ++ [xn]).length (tcells (Y2 ++ [xn])) := by
                    refine ⟨?_, hnn10⟩
                    rw [hXl, tcells_append, hxn]
                    exact hown10
                  obtain ⟨g10, c10, hv10, _⟩ := hown11.parts
                  rw [hv10] at hown11
                  rw [hv10]
                  rw [hXl] at hown11 ⊢
                  have hAg9 : A ≠ g9 := by omega
                  have hmY2 : ∀ y ∈ Y2, y ∈ Y := fun y hy => by
                    rw [← hY2] at hy
                    have hy := List.mem_of_mem_eraseIdx hy
                    rw [← hY1] at hy
                    exact List.mem_of_mem_eraseIdx hy
                  have HMY := Lib.hid hmY2
                  clear hown10 hgr10 hnil10 hob10 hnn10 hv10 hv9 hmY2
                  go_roundw
                  case rel =>
                    obtain ⟨F, hF2⟩ : ∃ F, F2 = F + 1 := ⟨F2 - 1, by omega⟩
                    refine ⟨Y2 ++ [xn], out2, F, by rw [hXl]; exact hown11, ?_, hN12.kp K10 (by simpa using hAg9), K1t, by rw [HB2.out, bump_length]; exact hol, by rw [hXl]; omega, by rw [hXl]; omega, ?_, ?_, ?_⟩
                    · intro y hy
                      rcases List.mem_append.1 hy with h | h
                      · obtain ⟨r1, r2, r3⟩ := hS2 y (HMY.out y h)
                        have hyl := r1.lt
                        have := O6B.size
                        exact ⟨((r1.on O69).kp K9r (by simp; omega)).kp K10 (by simp; omega), r2, r3⟩
                      · obtain rfl : y = xn := by simpa using h
                        subst hxn
                        have := O69.size
                        have := K2.size
                        exact ⟨((K12.row hSr (by simpa using hgA5)).toO).kp K10 (by simp; omega), by show w1.heap.size ≤ g5; omega, hc5⟩
                    · refine small_next SY hka (by rw [hl7]; omega) HXA.out hY1 HXB.out hY2 (by rw [hxn]) ?_ (by rw [hxn]; exact HSZ.out) (by rw [hxn]; show Sy.length = _; rw [← HSY.out, List.length_append])
                      rw [hxn]
                      show fm < k
                      have := HFM.out
                      have := (SY.at_ xa hma).1
                      omega
                    · refine Lib.hid ?_
                      rw [HB2.out, List.take_of_length_le (Nat.le_refl _), hXl]
                      exact bump_all HOB2.out (by omega)
                    · refine Lib.hid ?_
                      rw [← HR.out, hF2, rounds_next h2 hka (by rw [hl7]; omega) HKA.out HXA.out hY1 HKB.out HXB.out hY2, HB2.out, List.take_of_length_le (Nat.le_refl _), HSY.out, List.map_append, hxn]
                      show rounds F _ (_ ++ [(⟨xa.1.c + xb.1.c, fm, Sy⟩ : It)]) = rounds F _ (_ ++ [⟨xa.1.c + xb.1.c, min xa.1.f xb.1.f, xa.1.s ++ xb.1.s⟩])
                      rw [HFM.out, HSY.out]
                  case measure => show Y.length - 1 - 1 + 1 < Y.length; omega
end Go.Proofs.YtncidljdfipigaaDoor.Wi

/- Lengths that are kept short (l3Fit), lengths up to the last that is not 0 (l5Last), as the specification makes them. Conditions: numbers, sizes. -/
namespace Go.Proofs.YtncidljdfipigaaDoor.Wi
open Go.RowKit Go.Proofs.YtncidljdfipigaaDoor.Mem Go.Proofs.YtncidljdfipigaaDoor.Hf
set_option linter.unusedVariables false
set_option linter.unusedSimpArgs false
theorem i64s_append (a b : List Nat) : i64s (a ++ b) = i64s a ++ i64s b := by unfold i64s; rw [List.map_append]
theorem news_o {w : World} {g o : Nat} {l : List Nat} (h : RowO w g o 3 (i64s l)) : ∀ j u, (i64s l)[j]? = some u → w.cell? ((⟨g, o, none⟩ : Addr).add j) = some u := fun j u hu => by
  have ha : (⟨g, o, none⟩ : Addr).add j = ⟨g, o + j, none⟩ := by unfold Addr.add; split <;> simp_all
  rw [ha]
  exact h.cell hu
theorem own_nums {w : World} {base : Nat} {v : Value} {n : Nat} {l : List Nat} (h : Own base w 3 1 v n (i64s l)) (hn : l.length = n) :
    ∃ r cap, v = .slice (some ⟨r, 0, none⟩) n cap ∧ Nums w r (.slice (some ⟨r, 0, none⟩) n cap) l ∧ base ≤ r ∧ r < w.heap.size := by
  subst hn
  obtain ⟨g, cap, rfl, hb, hrow, _, _, _⟩ := h.parts
  exact ⟨g, cap, rfl, ⟨(h.low (Nat.zero_le _)).own, fun g' hg' => by cases hg'; rfl⟩, hb, hrow.lt⟩
/-- s = append(s, x...) of numbers onto a row of the call's own. -/
theorem wpList_adds {ops : Array Oper} {rest : List Oper} {o : Oper} {act : Act} {Q : Exit → Act → World → Prop} {wr : World} (hgd : o.guard = none) (s x : Operand)
    (ho : o.op = .call { callee := .builtin .append, args := #[s, x], argTypes := #[58, 58] })
    (a : World) {v : Value} {n m q : Nat} {xs l : List Nat} (hs : act.eval s = v) (hown : Own a.heap.size wr 3 1 v n (i64s xs)) (O : On a wr)
    {g o' c : Nat} (hx : act.eval x = .slice (some ⟨g, o', none⟩) m c) (hr : RowO wr g o' 3 (i64s l)) (hm : l.length = m) (hq : n + m = q) (hsz : q ≤ 1000000)
    (h : ∀ v' w', Own a.heap.size w' 3 1 v' q (i64s (xs ++ l)) → On a w' → Kp v.ownBlock.toList wr w' → wpList Tryd.prog ops Q rest (act.put o.dst v') w') :
    wpList Tryd.prog ops Q (o :: rest) act wr := by
  obtain ⟨i0, hi, hz0, hz1, hz2⟩ := info_parts i64info
  subst hq
  refine wpList_append_own_at _ hgd s x 58 ho a.heap.size 3 i0 (.int .i64 0) 1 8 Tryd.underlying58 hi hz0 hz1 hz2 rfl (by decide) v n (i64s xs) hs hown.own ⟨g, o', none⟩ m c (i64s l) hx (by rw [i64s_length]; omega) (news_o hr) (fun u hu => i64s_one hu) (by unfold maxLen; omega) (by omega) O.size ?_
  intro v' w' hown' hgr hnil hob
  refine h v' w' ⟨by rw [i64s_append]; exact hown', fun e => hown.nn (hnil.1 e).1⟩ (O.grown hgr hown.block) (Kp.grown hgr (fun y hy => by rw [hy]; simp))
/-- The sum of a row of numbers as it lies in memory. -/
def rowSum (w : World) (r n : Nat) : Nat := ((List.range n).map fun i => match w.cell? ⟨r, i, none⟩ with | some v => (intOf v).toNat | none => 0).sum
theorem rowSum_of {w : World} {r n : Nat} {c : List Nat} (h : Row w r 3 (i64s c)) (hn : c.length = n) : rowSum w r n = c.sum := by
  subst hn
  have e : c.sum = (c.map id).sum := by rw [List.map_id]
  rw [e, sum_map_range]
  unfold rowSum
  congr 1
  refine List.map_congr_left fun i hi => ?_
  rw [h.cell (i64s_get (by simpa using hi))]
  simp [intOf]
theorem fib_up : ∀ n, n ≤ fib (n + 2)
  | 0 => Nat.zero_le _
  | n + 1 => by
    have h1 := fib_up n
    have h2 : fib (n + 3) = fib (n + 1) + fib (n + 2) := rfl
    have h3 := fib_pos (n := n + 1) (by omega)
    show n + 1 ≤ fib (n + 3)
    omega
theorem sum_bound : ∀ (l : List Nat) (m : Nat), (∀ x ∈ l, x ≤ m) → l.sum ≤ l.length * m
  | [], _, _ => by simp
  | x :: t, m, h => by
    have h1 := sum_bound t m (fun y hy => h y (List.mem_cons_of_mem _ hy))
    have h2 := h x (List.mem_cons_self ..)
    rw [List.sum_cons, List.length_cons, Nat.add_mul]; omega
theorem lensOf_small {c : List Nat} (hp : ∃ k, 0 < c.getD k 0) (hx : ∀ x ∈ c, x ≤ 100000) (hl : c.length ≤ 300) : ∀ x ∈ lensOf c, x ≤ 100000000 := by
  intro x h
  obtain ⟨_, d, hd, hd2⟩ := lensOf_ok c hp
  have h1 := hd2 x h
  have h2 := fib_up d
  have h3 := sum_bound c 100000 hx
  have h4 : c.length * 100000 ≤ 300 * 100000 := Nat.mul_le_mul_right _ hl
  omega
theorem halve_le {c : List Nat} (hx : ∀ x ∈ c, x ≤ 100000) : ∀ x ∈ halve c, x ≤ 100000 := by
  intro x h
  obtain ⟨y, hy, rfl⟩ := List.mem_map.1 h
  have := hx y hy
  omega
/-- The first k are halved. -/
def halfTo (c : List Nat) (k : Nat) : List Nat := (halve c).take k ++ c.drop k
theorem halfTo_all (c : List Nat) : halfTo c c.length = halve c := by
  unfold halfTo; rw [List.drop_length, List.append_nil, List.take_of_length_le (by rw [halve_length]; exact Nat.le_refl _)]
theorem halfTo_length {c : List Nat} {k : Nat} (h : k ≤ c.length) : (halfTo c k).length = c.length := by
  unfold halfTo; rw [List.length_append, List.length_take, List.length_drop, halve_length]; omega
theorem halfTo_get {c : List Nat} {k : Nat} (h : k < c.length) : (halfTo c k).getD k 0 = c.getD k 0 := by
  have hl : ((halve c).take k).length = k := by rw [List.length_take, halve_length]; omega
  unfold halfTo
  rw [List.getD_eq_getElem?_getD, List.getD_eq_getElem?_getD, List.getElem?_append_right (by omega), hl, List.getElem?_drop, Nat.sub_self, Nat.add_zero]
theorem halfTo_set {c : List Nat} {k : Nat} (h : k < c.length) : (halfTo c k).set k ((c.getD k 0 + 1) / 2) = halfTo c (k + 1) := by
  have hl : ((halve c).take k).length = k := by rw [List.length_take, halve_length]; omega
  have hh : k < (halve c).length := by rw [halve_length]; exact h
  have e : (halve c)[k] = (c.getD k 0 + 1) / 2 := by
    have := halve_getD c k
    rw [List.getD_eq_getElem?_getD, List.getElem?_eq_getElem hh] at this
    exact this
  unfold halfTo
  rw [List.set_append_right _ _ (by omega), hl, Nat.sub_self, List.drop_eq_getElem_cons h, List.set_cons_zero, List.take_succ_eq_append_getElem hh, e, List.append_assoc]; rfl
set_option maxRecDepth 100000 in
set_option maxHeartbeats 1000000 in
theorem sfit_calls (counts : List Nat) (g o n cap most : Nat) (w : World) (hR : RowO w g o 3 (i64s counts)) (hn : counts.length = n) (hn2 : n ≤ 300) (hnc : n ≤ cap) (hx : ∀ x ∈ counts, x ≤ 100000)
    (hm1 : 1 ≤ most) (hm2 : most ≤ 15) (hp : ∃ k, 0 < counts.getD k 0) (hl : n < fib (most + 3)) :
    Calls Tryd.prog 93 #[.slice (some ⟨g, o, none⟩) n cap, .int .i64 (most : Int)] w (GivesI w (fit most counts)) := by
  have HN := Lib.hid hn
  have HP := Lib.hid hp
  have HL := Lib.hid hl
  have HX := Lib.hid hx
  have hq : 0 + n = n := Nat.zero_add n
  clear hn hp hl hx
  go_enter Tryd.func93, Tryd.ntmps93
  have NE := Own.new (base := w.heap.size) w 3 1 #[] 0 (Nat.zero_le _) rfl (Nat.le_refl _)
  have OE := (On.refl w).alloc (.cells #[] 3)
  have RE := hR.on OE
  go_wp2_with (at_builtin; go_must (refine wpList_adds rfl _ _ rfl w (xs := []) (l := counts) (q := n) rfl NE OE rfl RE HN.out hq (by omega) ?_); intro v1 w1 hown1 O1 _)
  obtain ⟨r1, cap1, rfl, N1, hb1, hr1⟩ := own_nums hown1 HN.out
  rw [List.nil_append] at N1
  have hc1 := N1.row.2.2.1
  clear hown1 NE OE RE hq
  go_wp2_with fail
  refine (slens3_calls counts r1 0 n cap1 w1 N1.row.1.toO HN.out hn2 hc1 HX.out).mono ?_
  rintro e w2 ⟨r2, cap2, rfl, N2, hb2, hr2, O2⟩
  have hl2 : (lensOf counts).length = n := (lensOf_length counts).trans HN.out
  rw [hl2] at N2 ⊢
  clear hl2
  go_wp2_with fail
  go_loopw [6] (fun v wr => ∃ (c : List Nat) (r2 cap2 : Nat), v = .slice (some ⟨r2, 0, none⟩) n cap2 ∧ Nums wr r1 (.slice (some ⟨r1, 0, none⟩) n cap1) c ∧ Nums wr r2 (.slice (some ⟨r2, 0, none⟩) n cap2) (lensOf c) ∧ RowKit.Hid (fit most c = fit most counts) ∧ RowKit.Hid (c.length = n) ∧ RowKit.Hid (∀ x ∈ c, x ≤ 100000) ∧ RowKit.Hid (∃ k, 0 < c.getD k 0) ∧ Kp [r1] w1 wr ∧ w1.heap.size ≤ r2) (fun _ wr => rowSum wr r1 n)
  case atStart => exact ⟨counts, r2, cap2, rfl, N1.on O2, N2, Lib.hid rfl, HN, HX, HP, Kp.of _ O2, hb2⟩
  case round =>
    obtain ⟨c, r3, cap3, rfl, N3, N4, HF, HC, HXc, HPc, K, hb3⟩ := hrel
    have hsm := lensOf_small HPc.out HXc.out (by rw [HC.out]; exact hn2)
    have hst := Lib.hid (smost_calls (lensOf c) r3 0 n cap3 wr N4.row.1.toO ((lensOf_length c).trans HC.out) (by omega) N4.row.2.2.1 (fun x hx => by have := hsm x hx; omega))
    have hfs := Lib.hid (fit_step hm1 HPc.out (show c.length < fib (most + 3) by rw [HC.out]; exact HL.out))
    clear hsm
    go_wp2_with fail
    refine hst.out.mono ?_
    rintro e w3 ⟨rfl, O3⟩
    obtain ⟨tp, htp⟩ : ∃ tp, top (lensOf c) = tp := ⟨_, rfl⟩
    have HTP := Lib.hid htp
    rw [htp]
    clear htp hst
    by_cases ht : tp ≤ most
    · have ht' : ¬ (most : Int) < (tp : Int) := by omega
      have hres : fit most counts = lensOf c := by rw [← HF.out, hfs.out, if_pos (by rw [HTP.out]; exact ht)]
      have HR := Lib.hid hres
      have hlen : (lensOf c).length = n := (lensOf_length c).trans HC.out
      have HLE := Lib.hid hlen
      clear hres hlen
      have N5 := N4.on O3
      go_wp2_with fail
      go_ret
      exact ⟨r3, cap3, by rw [HR.out, HLE.out]; rfl, by rw [HR.out, HLE.out]; exact N5, by have := O1.size; omega, N5.row.1.lt, (K.then (Kp.of _ O3)).on O1 (fun x hx => by simp at hx; omega)⟩
    · have ht' : (most : Int) < (tp : Int) := by omega
      have N5 := N3.on O3
      have hc3 := N3.row.2.2.1
      go_wp2_with fail
      go_loopw [7] (fun x w4 => ∃ (k : Nat), x = .int .i64 (k : Int) ∧ k ≤ n ∧ Nums w4 r1 (.slice (some ⟨r1, 0, none⟩) n cap1) (halfTo c k) ∧ Kp [r1] w3 w4) (fun x _ => n - (intOf x).toNat)
      case atStart => exact ⟨0, rfl, by omega, by unfold halfTo; rw [List.take_zero, List.nil_append, List.drop_zero]; exact N5, Kp.refl _ _⟩
      case round =>
        obtain ⟨k, rfl, hk, N6, K6⟩ := hrel
        by_cases hlt : k < n
        · have hkl : k < c.length := by rw [HC.out]; exact hlt
          have hlt' : (k : Int) < (n : Int) := by omega
          have c0 := N6.row.1.cell (i64s_get (show k < (halfTo c k).length by rw [halfTo_length (Nat.le_of_lt hkl)]; exact hkl))
          rw [halfTo_get hkl] at c0
          have hs := halfTo_set hkl
          have hxk : c.getD k 0 ≤ 100000 := Cd.getD_le HXc.out k
          have HS := Lib.hid hs
          have fe : ∀ i, wr.frozen? ⟨r1, i, none⟩ = false := N6.row.1.frozen
          clear hs
          generalize c.getD k 0 = x at *
          have e1 : ((x : Int) + 1) / 2 = (((x + 1) / 2 : Nat) : Int) := by omega
          have NS := N6.set k ((x + 1) / 2)
          rw [HS.out] at NS
          have KS := K6.set (p := ⟨r1, k, none⟩) (.inl (by simp)) (.int .i64 (((x + 1) / 2 : Nat) : Int))
          rw [← e1] at NS KS
          clear e1
          go_wp2_with fail
          go_roundw
          case rel => exact ⟨k + 1, by go_num, by omega, NS, KS⟩
          case measure => simp [intOf]; omega
        · obtain rfl : k = n := by omega
          have hh : halfTo c k = halve c := by rw [← HC.out]; exact halfTo_all c
          rw [hh] at N6
          have hlh : (halve c).length = k := (halve_length c).trans HC.out
          have HLH := Lib.hid hlh
          clear hh hlh
          have hst := Lib.hid (slens3_calls (halve c) r1 0 k cap1 wr N6.row.1.toO HLH.out hn2 hc1 (halve_le HXc.out))
          have hll : (lensOf (halve c)).length = k := (lensOf_length _).trans HLH.out
          have HLL := Lib.hid hll
          clear hll
          go_wp2_with fail
          refine hst.out.mono ?_
          rintro e w5 ⟨r5, cap5, rfl, N7, hb7, hr7, O7⟩
          rw [HLL.out] at N7 ⊢
          have N8 := N6.on O7
          have Kt : Kp [r1] w1 w5 := ((K.then (Kp.of _ O3)).then K6).then (Kp.of _ O7)
          have hm : rowSum w5 r1 k = (halve c).sum := rowSum_of N8.row.1 HLH.out
          have hm0 := rowSum_of N3.row.1 HC.out
          have hsl := halve_less hm1 HPc.out (show c.length < fib (most + 3) by rw [HC.out]; exact HL.out) (by rw [HTP.out]; omega)
          have HM := Lib.hid hm
          have HM0 := Lib.hid hm0
          have HSL := Lib.hid hsl
          clear hm hm0 hsl
          go_wp2_with fail
          go_roundw
          case rel => exact ⟨halve c, r5, cap5, rfl, N8, N7, Lib.hid (by rw [← HF.out, hfs.out, if_neg (by rw [HTP.out]; exact ht)]), HLH, Lib.hid (halve_le HXc.out), Lib.hid (halve_pos HPc.out), Kt, by have := Kt.size; have := O7.size; have := K6.size; have := O3.size; have := K.size; omega⟩
          case measure => rw [HM.out, HM0.out]; exact HSL.out
open Go.Proofs.YtncidljdfipigaaDoor.En in
set_option maxRecDepth 100000 in
theorem slast_calls (lens : List Nat) (g n cap least : Nat) (w : World) (hR : RowO w g 0 3 (i64s lens)) (hn : lens.length = n) (hn2 : n ≤ 1000) (hnc : n ≤ cap) (hl : least ≤ 1000) :
    Calls Tryd.prog 92 #[.slice (some ⟨g, 0, none⟩) n cap, .int .i64 (least : Int)] w fun e w' => e = .returned (.slice (some ⟨g, 0, none⟩) (trimTo lens least n) cap) ∧ w' = w := by
  have HN := Lib.hid hn
  clear hn
  go_enter Tryd.func92, Tryd.ntmps92
  go_wp2_with fail
  go_loop [5] (fun x => ∃ (k : Nat), x = .int .i64 (k : Int) ∧ k ≤ n ∧ RowKit.Hid (trimTo lens least k = trimTo lens least n)) (fun x => (intOf x).toNat)
  case atStart => exact ⟨n, rfl, Nat.le_refl _, Lib.hid rfl⟩
  case round =>
    obtain ⟨k, rfl, hk, HT⟩ := hrel
    by_cases h1 : least < k
    · obtain ⟨j, rfl⟩ : ∃ j, k = j + 1 := ⟨k - 1, by omega⟩
      have h1' : decide ((least : Int) < ((j + 1 : Nat) : Int)) = true := by simp; omega
      have c0 := hR.cell (i64s_get (show j < lens.length by rw [HN.out]; omega))
      rw [Nat.zero_add] at c0
      have hj : (j : Int) < n := by omega
      have e1 : ((j + 1 : Nat) : Int) - 1 = (j : Int) := by omega
      have hstep := Lib.hid (show trimTo lens least (j + 1) = if least < j + 1 ∧ lens.getD j 0 = 0 then trimTo lens least j else j + 1 from rfl)
      generalize lens.getD j 0 = x at *
      by_cases h0 : x = 0
      · have h0' : ((x : Int) == 0) = true := by simp; omega
        have HS : RowKit.Hid (trimTo lens least j = trimTo lens least n) := Lib.hid (by rw [← HT.out, hstep.out, if_pos ⟨h1, h0⟩])
        clear h0
        go_wp2_with fail
        go_round
        case rel => exact ⟨j, by go_num, by omega, HS⟩
        case measure => simp [intOf]
      · have h0' : ((x : Int) == 0) = false := by simpa using h0
        have HS : RowKit.Hid (j + 1 = trimTo lens least n) := Lib.hid (by rw [← HT.out, hstep.out, if_neg (fun h => h0 h.2)])
        clear h0
        go_wp2_with fail
        go_ret
        exact ⟨by rw [← HS.out]; rfl, rfl⟩
    · have h1' : decide ((least : Int) < (k : Int)) = false := by simp; omega
      have HS : RowKit.Hid (k = trimTo lens least n) := Lib.hid (by
        rw [← HT.out]
        cases k with
        | zero => rfl
        | succ j => rw [trimTo, if_neg (fun h => h1 h.1)])
      go_wp2_with fail
      go_ret
      exact ⟨by rw [← HS.out]; rfl, rfl⟩
end Go.Proofs.YtncidljdfipigaaDoor.Wi

/- What the specification's LensOk answers: whether lengths make a code. Conditions: lengths and how many, not too great. -/
namespace Go.Proofs.YtncidljdfipigaaDoor.Wi
open Go.RowKit Go.Proofs.YtncidljdfipigaaDoor.Mem Go.Proofs.YtncidljdfipigaaDoor.Bt Go.Proofs.YtncidljdfipigaaDoor.Cd
set_option linter.unusedVariables false
set_option linter.unusedSimpArgs false
theorem sin_same (n l h : Int) (w : World) :
    Calls Tryd.prog 144 #[.int .i64 n, .int .i64 l, .int .i64 h] w (fun e w' => e = .returned (.bool (decide (l ≤ n ∧ n ≤ h))) ∧ w' = w) := by
  by_cases h1 : l ≤ n
  · by_cases h2 : n ≤ h
    · go_enter Tryd.func144, Tryd.ntmps144
      go_wp2_with fail
      go_ret
      exact ⟨by simp [h1, h2], rfl⟩
    · go_enter Tryd.func144, Tryd.ntmps144
      go_wp2_with fail
      go_ret
      exact ⟨by simp [h1, h2], rfl⟩
  · go_enter Tryd.func144, Tryd.ntmps144
    go_wp2_with fail
    go_ret
    exact ⟨by simp; omega, rfl⟩
theorem sin_yes {n l h : Int} (w : World) (h1 : l ≤ n) (h2 : n ≤ h) : Calls Tryd.prog 144 #[.int .i64 n, .int .i64 l, .int .i64 h] w (fun e w' => e = .returned (.bool true) ∧ w' = w) := by
  have := sin_same n l h w
  rw [decide_eq_true ⟨h1, h2⟩] at this
  exact this
theorem sin_no {n l h : Int} (w : World) (h1 : ¬ (l ≤ n ∧ n ≤ h)) : Calls Tryd.prog 144 #[.int .i64 n, .int .i64 l, .int .i64 h] w (fun e w' => e = .returned (.bool false) ∧ w' = w) := by
  have := sin_same n l h w
  rw [decide_eq_false h1] at this
  exact this
set_option maxRecDepth 100000 in
theorem sused_calls (lens : List Nat) (g o n cap : Nat) (w : World) (hl : RowO w g o 3 (i64s lens)) (hn : lens.length = n) (hn2 : n ≤ 1000) (hnc : n ≤ cap) :
    Calls Tryd.prog 125 #[.slice (some ⟨g, o, none⟩) n cap] w fun e w' => e = .returned (.int .i64 (used lens : Nat)) ∧ On w w' := by
  have HN := Lib.hid hn
  clear hn
  go_enter Tryd.func125, Tryd.ntmps125
  go_wp2_with fail
  go_loopw [3, 4] (fun a x wr => ∃ (k : Nat), x = .int .i64 (k : Int) ∧ k ≤ n ∧ a = .int .i64 (used (lens.take k) : Nat) ∧ used (lens.take k) ≤ k ∧ On w wr) (fun _ x _ => n - (intOf x).toNat)
  case atStart => exact ⟨0, rfl, by omega, rfl, Nat.le_refl _, On.refl _⟩
  case round =>
    obtain ⟨k, rfl, hk, rfl, hu, O⟩ := hrel
    by_cases hlt : k < n
    · have hkl : k < lens.length := by rw [HN.out]; exact hlt
      have c0 := (hl.on O).cell (i64s_get hkl)
      have htk : lens.take (k + 1) = lens.take k ++ [lens.getD k 0] := by rw [List.take_succ_eq_append_getElem hkl, List.getD_eq_getElem?_getD, List.getElem?_eq_getElem hkl]; rfl
      have hus : used (lens.take (k + 1)) = used (lens.take k) + if 0 < lens.getD k 0 then 1 else 0 := by rw [htk, used_snoc]
      have HU := Lib.hid hus
      clear htk hus
      generalize lens.getD k 0 = x at *
      generalize used (lens.take k) = u at *
      have hk2 : (k : Int) < n := by omega
      by_cases h0 : 0 < x
      · have h0' : (0 : Int) < x := by omega
        go_wp2_with fail
        go_roundw
        case rel => exact ⟨k + 1, by go_num, by omega, by rw [HU.out, if_pos h0]; go_num, by rw [HU.out, if_pos h0]; omega, O⟩
        case measure => simp [intOf]; omega
      · have h0' : ¬ (0 : Int) < x := by omega
        go_wp2_with fail
        go_roundw
        case rel => exact ⟨k + 1, by go_num, by omega, by rw [HU.out, if_neg h0]; go_num, by rw [HU.out, if_neg h0]; omega, O⟩
        case measure => simp [intOf]; omega
    · obtain rfl : k = n := by omega
      have htk : lens.take k = lens := List.take_of_length_le (by rw [HN.out]; exact Nat.le_refl _)
      rw [htk] at *
      go_wp2_with fail
      go_ret
      exact ⟨rfl, O⟩
theorem okLens_is {l : List Nat} (h15 : ∀ x ∈ l, x ≤ 15) : okLens l = (decide (l.length ≤ 300) && (decide (kraft l = 32768) || (decide (used l = 1) && decide (kraft l = 16384)))) := by
  unfold okLens
  rw [show l.all (fun x => decide (x ≤ 15)) = true from by simpa using h15]
  simp only [Bool.and_true]
set_option maxRecDepth 100000 in
set_option maxHeartbeats 4000000 in
theorem slensok_calls (lens : List Nat) (g o n cap : Nat) (w : World) (hl : RowO w g o 3 (i64s lens)) (hn : lens.length = n) (hn2 : n ≤ 1000) (hnc : n ≤ cap) (hx : ∀ x ∈ lens, x ≤ 100000) :
    Calls Tryd.prog 152 #[.slice (some ⟨g, o, none⟩) n cap] w fun e w' => e = .returned (.bool (okLens lens)) ∧ On w w' := by
  have HN := Lib.hid hn
  clear hn
  go_enter Tryd.func152, Tryd.ntmps152
  go_wp2_with fail
  go_loopw [3, 4] (fun a x wr => ∃ (k sa : Nat), x = .int .i64 (k : Int) ∧ k ≤ n ∧ a = .int .i64 (sa : Int) ∧ sa = kraft (lens.take k) ∧ (∀ y ∈ lens.take k, y ≤ 15) ∧ On w wr) (fun _ x _ => n - (intOf x).toNat)
  case atStart => exact ⟨0, 0, rfl, by omega, rfl, rfl, by simp, On.refl _⟩
  case round =>
    obtain ⟨k, sa, rfl, hk, rfl, S, h15, O⟩ := hrel
    by_cases hlt : k < n
    · have hkl : k < lens.length := by rw [HN.out]; exact hlt
      have c0 := (hl.on O).cell (i64s_get hkl)
      have hmem : lens.getD k 0 ∈ lens := by rw [List.getD_eq_getElem?_getD, List.getElem?_eq_getElem hkl]; exact List.getElem_mem _
      have hx1 := hx _ hmem
      have htk : lens.take (k + 1) = lens.take k ++ [lens.getD k 0] := by rw [List.take_succ_eq_append_getElem hkl, List.getD_eq_getElem?_getD, List.getElem?_eq_getElem hkl]; rfl
      have HTK := Lib.hid htk
      have hkr := kraft_take_le lens k
      rw [← S] at hkr
      have HS := Lib.hid S
      have H15 := Lib.hid h15
      have HM := Lib.hid hmem
      clear htk S h15 hmem
      generalize lens.getD k 0 = x at *
      have hk2 : (k : Int) < n := by omega
      by_cases hx15 : x ≤ 15
      · have h15n : ∀ y ∈ lens.take (k + 1), y ≤ 15 := by rw [HTK.out]; intro y hy; simp only [List.mem_append, List.mem_singleton] at hy; (rcases hy with hy | rfl; exact H15.out y hy; omega)
        have H15N := Lib.hid h15n
        clear h15n
        by_cases h0 : x = 0
        · subst h0
          go_wp2_with fail
          refine (sin_yes _ (by omega) (by omega)).mono ?_
          rintro e w2 ⟨rfl, hw⟩
          obtain rfl : wr = w2 := hw.symm
          go_wp2_with fail
          go_roundw
          case rel => exact ⟨k + 1, sa, by go_num, by omega, rfl, by rw [HTK.out, kraft_snoc, HS.out]; rfl, H15N.out, O⟩
          case measure => simp [intOf]; omega
        · have hp : 2 ^ (15 - x) ≤ 2 ^ 15 := Nat.pow_le_pow_right (by omega) (by omega)
          have e1 : IntKind.i64.wrap (15 - (x : Int)) = ((15 - x : Nat) : Int) := by rw [IntKind.wrap_i64]; omega
          have hx0 : (0 : Int) < (x : Int) := by omega
          have hks : kraft (lens.take (k + 1)) = sa + 2 ^ (15 - x) := by rw [HTK.out, kraft_snoc, if_neg h0, HS.out]
          have HK := Lib.hid hks
          clear hks
          obtain ⟨z, hz⟩ : ∃ z, 2 ^ (15 - x) = z := ⟨_, rfl⟩
          rw [hz] at hp HK
          have hzz : 15 - x ≤ 40 := by omega
          generalize 15 - x = zz at *
          have HZ := Lib.hid hz
          clear hz
          go_wp2_with fail
          refine (sin_yes _ (by omega) (by omega)).mono ?_
          rintro e w2 ⟨rfl, hw⟩
          obtain rfl : wr = w2 := hw.symm
          go_wp2_with fail
          refine (pow_same zz z HZ hzz wr).mono ?_
          rintro e w2 ⟨rfl, hw⟩
          obtain rfl : wr = w2 := hw.symm
          go_wp2_with fail
          go_roundw
          case rel => exact ⟨k + 1, sa + z, by go_num, by omega, by go_num, HK.out.symm, H15N.out, O⟩
          case measure => simp [intOf]; omega
      · go_wp2_with fail
        refine (sin_no _ (by omega)).mono ?_
        rintro e w2 ⟨rfl, hw⟩
        obtain rfl : wr = w2 := hw.symm
        go_wp2_with fail
        go_ret
        exact ⟨by rw [ok_bad HM.out (by omega)]; rfl, O⟩
    · obtain rfl : k = n := by omega
      have htk : lens.take k = lens := List.take_of_length_le (by rw [HN.out]; exact Nat.le_refl _)
      rw [htk] at S h15
      have hok := okLens_is h15
      rw [HN.out, ← S] at hok
      have HO := Lib.hid hok
      clear hok htk S h15
      have hu := Lib.hid (sused_calls lens g o k cap wr (hl.on O) HN.out (by omega) hnc)
      generalize used lens = u at *
      have s1 : ((sa : Int) == 32768) = decide (sa = 32768) := by rw [Bool.eq_iff_iff]; simp; omega
      have s2 : ((sa : Int) == 16384) = decide (sa = 16384) := by rw [Bool.eq_iff_iff]; simp; omega
      have s3 : ((u : Int) == 1) = decide (u = 1) := by rw [Bool.eq_iff_iff]; simp; omega
      have s4 : decide ((k : Int) ≤ 300) = decide (k ≤ 300) := by rw [Bool.eq_iff_iff]; simp; omega
      generalize decide (sa = 32768) = b1 at *
      generalize decide (sa = 16384) = b2 at *
      have P14 : ∀ w', Calls Tryd.prog 119 #[.int .i64 14] w' (fun e w'' => e = .returned (.int .i64 16384) ∧ w'' = w') := fun w' => pow_same 14 16384 (Lib.hid rfl) (by omega) w'
      have P15 : ∀ w', Calls Tryd.prog 119 #[.int .i64 15] w' (fun e w'' => e = .returned (.int .i64 32768) ∧ w'' = w') := fun w' => pow_same 15 32768 (Lib.hid rfl) (by omega) w'
      have HP14 := Lib.hid P14
      have HP15 := Lib.hid P15
      clear P14 P15
      generalize hb3 : decide (u = 1) = b3 at *
      generalize hb4 : decide (k ≤ 300) = b4 at *
      clear hb3 hb4
      cases b3
      · cases b4
        · cases b1 <;> cases b2
          all_goals
            go_wp2_with fail
            refine hu.out.mono ?_
            rintro e w2 ⟨rfl, O2⟩
            replace O2 := O.call O2
            go_wp2_with fail
            go_ret
            exact ⟨by rw [HO.out]; rfl, O2⟩
        · cases b1 <;> cases b2
          all_goals
            go_wp2_with fail
            refine hu.out.mono ?_
            rintro e w2 ⟨rfl, O2⟩
            replace O2 := O.call O2
            go_wp2_with fail
            refine (HP15.out w2).mono ?_
            rintro e w3 ⟨rfl, hw⟩
            obtain rfl : w2 = w3 := hw.symm
            go_wp2_with fail
            go_ret
            exact ⟨by rw [HO.out]; rfl, O2⟩
      · cases b4
        · cases b1 <;> cases b2
          all_goals
            go_wp2_with fail
            refine hu.out.mono ?_
            rintro e w2 ⟨rfl, O2⟩
            replace O2 := O.call O2
            go_wp2_with fail
            refine (HP14.out w2).mono ?_
            rintro e w3 ⟨rfl, hw⟩
            obtain rfl : w2 = w3 := hw.symm
            go_wp2_with fail
            go_ret
            exact ⟨by rw [HO.out]; rfl, O2⟩
        · cases b1 <;> cases b2
          all_goals
            go_wp2_with fail
            refine hu.out.mono ?_
            rintro e w2 ⟨rfl, O2⟩
            replace O2 := O.call O2
            go_wp2_with fail
            refine (HP14.out w2).mono ?_
            rintro e w3 ⟨rfl, hw⟩
            obtain rfl : w2 = w3 := hw.symm
            go_wp2_with fail
            refine (HP15.out w2).mono ?_
            rintro e w3 ⟨rfl, hw⟩
            obtain rfl : w2 = w3 := hw.symm
            go_wp2_with fail
            go_ret
            exact ⟨by rw [HO.out]; rfl, O2⟩
end Go.Proofs.YtncidljdfipigaaDoor.Wi

/- How often symbols come, and lengths written by a code of their own, as the specification does it. Conditions: tokens that make a text; sizes. -/
namespace Go.Proofs.YtncidljdfipigaaDoor.Wi
open Go.RowKit Go.Proofs.YtncidljdfipigaaDoor.Mem Go.Proofs.YtncidljdfipigaaDoor.Bt Go.Proofs.YtncidljdfipigaaDoor.Cd Go.Proofs.YtncidljdfipigaaDoor.De Go.Proofs.YtncidljdfipigaaDoor.En Go.Proofs.YtncidljdfipigaaDoor.Lz Go.Proofs.YtncidljdfipigaaDoor.Hf
set_option linter.unusedVariables false
set_option linter.unusedSimpArgs false
/-- What a contract tells that counts symbols. -/
structure Cnts (w : World) (l : List Tok) (e : Ending) (w' : World) : Prop where mk ::
  out : ∃ ra ca rb cb, e = .returned (.tuple #[.slice (some ⟨ra, 0, none⟩) 286 ca, .slice (some ⟨rb, 0, none⟩) 30 cb]) ∧ Nums w' ra (.slice (some ⟨ra, 0, none⟩) 286 ca) (cntL l) ∧ Nums w' rb (.slice (some ⟨rb, 0, none⟩) 30 cb) (cntB l) ∧ w.heap.size ≤ ra ∧ w.heap.size ≤ rb ∧ On w w'
set_option maxRecDepth 100000 in
set_option maxHeartbeats 1000000 in
theorem scounts_calls (l : List Tok) (q n cap : Nat) (w : World) (hq : Row w q 67 (tokCells l)) (hn : l.length = n) (hn2 : n ≤ 1000) (hnc : n ≤ cap) (F : ∀ t ∈ l, Fine [] [] t) :
    Calls Tryd.prog 91 #[.slice (some ⟨q, 0, none⟩) n cap] w (Cnts w l) := by
  have HN := Lib.hid hn
  have HF := Lib.hid F
  have hql := hq.lt
  clear hn F
  go_enter Tryd.func91, Tryd.ntmps91
  go_upto_region 2 with (at_make; go_must (refine wpList_ints _ rfl _ _ rfl _ _ 286 rfl rfl rfl rfl (by omega) ?_); intro w1 N1 O1 hlt1)
  go_upto_region 3 with (at_make; go_must (refine wpList_ints _ rfl _ _ rfl _ _ 30 rfl rfl rfl rfl (by omega) ?_); intro w2 N2 O2 hlt2)
  generalize hA : w.heap.size = A at *
  generalize hB : w1.heap.size = B at *
  go_wp2_with fail
  refine (slong_calls w2).mono ?_
  rintro e w3 ⟨rc, cc, rfl, Nc, hc1, hc2, O3⟩
  go_wp2_with fail
  refine (sbase_calls longBits rc 0 28 cc 3 w3 (Nc.row.1.toO) rfl (by omega) (Nc.row.2.2.1) (by decide) (by omega)).mono ?_
  rintro e w4 ⟨re, ce, rfl, Ne, he1, he2, O4⟩
  go_wp2_with fail
  refine (sback_calls w4).mono ?_
  rintro e w5 ⟨rf, cf, rfl, Nf, hf1, hf2, O5⟩
  go_wp2_with fail
  refine (sbase_calls backBits rf 0 30 cf 1 w5 (Nf.row.1.toO) rfl (by omega) (Nf.row.2.2.1) (by decide) (by omega)).mono ?_
  rintro e w6 ⟨rh, ch, rfl, Nh, hh1, hh2, O6⟩
  have O56 := O5.call O6
  have O46 := O4.call O56
  have O36 := O3.call O46
  have O26 := O2.call O36
  have OW := O1.call O26
  have Re : RowO w6 re 0 3 (i64s longBase) := (Ne.on O56).row.1.toO
  have Rh : RowO w6 rh 0 3 (i64s backBase) := Nh.row.1.toO
  have hq6 := hq.on OW
  have hz1 := O1.size
  have hz2 := O2.size
  have hz3 := O3.size
  have hz4 := O4.size
  have hz5 := O5.size
  have hce : 28 ≤ ce := Ne.row.2.2.1
  have hch : 30 ≤ ch := Nh.row.2.2.1
  rw [show (base 3 longBits).length = 28 from rfl, show (base 1 backBits).length = 30 from rfl]
  have NA := N1.on O26
  have NB := N2.on O36
  have ca0 := NA.row.1.cell (i64s_get (show 256 < (List.replicate 286 0).length by rw [List.length_replicate]; omega))
  have fa0 : w6.frozen? ⟨A, 256, none⟩ = false := NA.row.1.frozen _
  have NAs := NA.set 256 1
  rw [← cntLTo_zero l] at NAs
  have K0 : Kp [A, B] w6 (w6.setCell ⟨A, 256, none⟩ (.int .i64 ((1 : Nat) : Int))) := (Kp.refl _ _).set (.inl (by simp)) _
  have NBs := NB.kp ((Kp.refl [A] w6).set (p := ⟨A, 256, none⟩) (.inl (by simp)) (.int .i64 ((1 : Nat) : Int))) (by simp; omega)
  rw [← cntBTo_zero l] at NBs
  clear Nc Ne Nf Nh N1 N2 NA NB
  go_wp2_with fail
  go_loopw [8] (fun x wr => ∃ (k : Nat), x = .int .i64 (k : Int) ∧ k ≤ n ∧ Nums wr A (.slice (some ⟨A, 0, none⟩) 286 286) (cntLTo l k) ∧ Nums wr B (.slice (some ⟨B, 0, none⟩) 30 30) (cntBTo l k) ∧ Kp [A, B] w6 wr) (fun x _ => n - (intOf x).toNat)
  case atStart => exact ⟨0, rfl, by omega, NAs, NBs, K0⟩
  case round =>
    obtain ⟨k, rfl, hk, NA, NB, K⟩ := hrel
    clear NAs NBs K0 ca0 fa0
    by_cases hlt : k < n
    · have hkl : k < l.length := by rw [HN.out]; exact hlt
      obtain ⟨t0, t1, t2⟩ := tok_get hkl
      have Ft := HF.out _ (List.getElem_mem hkl)
      have R := K.row hq6 (by simp; omega)
      have c0 := R.cell t0
      have c1 := R.cell t1
      have c2 := R.cell t2
      have hLs := cntLTo_succ hkl
      have hBl := cntBTo_long hkl
      have hBb := cntBTo_byte hkl
      have hsl := symL_lt Ft
      have hlL := cntLTo_length l k
      have hlB := cntBTo_length l k
      have hbL := cntLTo_le l k
      have hbB := cntBTo_le l k
      generalize l[k] = t at *
      obtain ⟨tb, tl, tk⟩ := t
      simp only at c0 c1 c2 hLs hBl hBb
      clear t0 t1 t2
      have fA : ∀ i, wr.frozen? ⟨A, i, none⟩ = false := NA.row.1.frozen
      have fB : ∀ i, wr.frozen? ⟨B, i, none⟩ = false := NB.row.1.frozen
      by_cases h0 : tl = 0
      · subst h0
        have hbyte := Ft.byte rfl
        obtain ⟨b, hb⟩ := Int.eq_ofNat_of_zero_le hbyte.1
        simp only at hb
        subst hb
        have hsy : symL ⟨(b : Int), 0, tk⟩ = b := by unfold symL; rw [if_pos rfl]; rfl
        have hB1 := hBb rfl
        clear hBb
        simp only [Int.ofNat_eq_natCast] at *
        rw [hsy] at hLs hsl
        have d0 := NA.row.1.cell (i64s_get (show b < (cntLTo l k).length by rw [hlL]; exact hsl))
        have hv := Cd.getD_le hbL b
        generalize (cntLTo l k).getD b 0 = v at *
        have HLs := Lib.hid hLs
        have HB1 := Lib.hid hB1
        have hb286 : (b : Int) < 286 := by omega
        have hb0 : (0 : Int) ≤ (b : Int) := by omega
        have e1 : IntKind.i64.wrap ((v : Int) + 1) = ((v + 1 : Nat) : Int) := by rw [IntKind.wrap_i64]; omega
        clear hsy hLs hB1 hBl hlL hlB hbL hbB hsl Ft hbyte
        go_wp2_with fail
        go_region
        go_wp2_with fail
        go_roundw
        case rel =>
          have D := (On.refl wr).drew
          have S := (NA.on D).set b (v + 1)
          rw [← HLs.out] at S
          refine ⟨k + 1, by go_num, by omega, S, ?_, K.drew.set (.inl (by simp)) _⟩
          rw [HB1.out]
          exact (NB.on D).kp ((Kp.refl [A] _).set (p := ⟨A, b, none⟩) (.inl (by simp)) _) (by simp; omega)
        case measure => simp [intOf]; omega
      · obtain ⟨l3, l60, k1, k250⟩ := Ft.long h0
        simp only at l3 l60 k1 k250
        obtain ⟨tln, rfl⟩ := Int.eq_ofNat_of_zero_le (show 0 ≤ tl by omega)
        obtain ⟨tkn, rfl⟩ := Int.eq_ofNat_of_zero_le (show 0 ≤ tk by omega)
        have hsy : symL ⟨tb, (tln : Int), (tkn : Int)⟩ = 257 + lad longBase tln := by unfold symL; rw [if_neg (by simp; omega)]; rfl
        simp only [Int.ofNat_eq_natCast, Int.toNat_natCast] at *
        have h0' : ((tln : Int) == 0) = false := by simp; omega
        rw [hsy] at hLs hsl
        have hB1 := hBl h0
        obtain ⟨a1, a2, a3, a4⟩ := lad_long tln (by omega) (by omega)
        obtain ⟨b1, b2, b3, b4⟩ := lad_back tkn (by omega) (by omega)
        have hsL := fun W (R : RowO W re 0 3 (i64s longBase)) => ssym_calls longBase re 28 ce tln W R (by decide) (by omega) hce (by omega) (by show 3 ≤ tln; omega) long_rising (by omega)
        have hsB := fun W (R : RowO W rh 0 3 (i64s backBase)) => ssym_calls backBase rh 30 ch tkn W R (by decide) (by omega) hch (by omega) (by show 1 ≤ tkn; omega) back_rising (by omega)
        have hcL : ∀ W, Nums W A (.slice (some ⟨A, 0, none⟩) 286 286) (cntLTo l k) → _ := fun W h => h.row.1.cell (i64s_get (show 257 + lad longBase tln < (cntLTo l k).length by rw [hlL]; exact hsl))
        have hcB : ∀ W, Nums W B (.slice (some ⟨B, 0, none⟩) 30 30) (cntBTo l k) → _ := fun W h => h.row.1.cell (i64s_get (show lad backBase tkn < (cntBTo l k).length by rw [hlB]; exact b1))
        have hvL := Cd.getD_le hbL (257 + lad longBase tln)
        have hvB := Cd.getD_le hbB (lad backBase tkn)
        generalize lad longBase tln = kl at *
        generalize lad backBase tkn = kb at *
        generalize (cntLTo l k).getD (257 + kl) 0 = vl at *
        generalize (cntBTo l k).getD kb 0 = vb at *
        have HSL := Lib.hid hsL
        have HSB := Lib.hid hsB
        have HCL := Lib.hid hcL
        have HCB := Lib.hid hcB
        have HLs := Lib.hid hLs
        have HB1 := Lib.hid hB1
        have ReA := Re.kp K (by simp; omega)
        have RhA := fun W (h : Kp [A, B] w6 W) => Rh.kp h (by simp; omega)
        have HRH := Lib.hid RhA
        have HC2 := Lib.hid (show ∀ W, Kp [A, B] w6 W → W.cell? ⟨q, k * 3 + 2, none⟩ = some (.int .i64 (tkn : Int)) from fun W h => (K.cell (p := ⟨q, k * 3 + 2, none⟩) (by exact hq6.lt) (by simp; omega)).symm.trans c2 ▸ h.cell (p := ⟨q, k * 3 + 2, none⟩) (by exact hq6.lt) (by simp; omega))
        clear hsL hsB hcL hcB hsy hLs hB1 hBl hBb hlL hlB hbL hbB Ft hsl RhA
        go_wp2_with fail
        refine (HSL.out wr ReA).mono ?_
        rintro e w7 ⟨rfl, O7⟩
        have NA7 := NA.on O7
        have NB7 := NB.on O7
        have K7 := K.then (Kp.of _ O7)
        have dA := HCL.out w7 NA7
        have fA7 : w7.frozen? ⟨A, 257 + kl, none⟩ = false := NA7.row.1.frozen _
        have S := NA7.set (257 + kl) (vl + 1)
        rw [← HLs.out] at S
        have NB8 := NB7.kp ((Kp.refl [A] _).set (p := ⟨A, 257 + kl, none⟩) (.inl (by simp)) (.int .i64 ((vl + 1 : Nat) : Int))) (by simp; omega)
        have K8 := K7.set (p := ⟨A, 257 + kl, none⟩) (.inl (by simp)) (.int .i64 ((vl + 1 : Nat) : Int))
        have c2' := HC2.out _ K8
        rw [show ((vl + 1 : Nat) : Int) = (vl : Int) + 1 from by omega] at S NB8 K8 c2'
        clear NA7 NB7 K7 c0 c1 c2 fA fB
        go_wp2_with fail
        have RhA := HRH.out _ K8
        generalize w7.setCell ⟨A, 257 + kl, none⟩ (.int .i64 ((vl : Int) + 1)) = w8 at *
        refine (HSB.out w8 RhA).mono ?_
        rintro e w9 ⟨rfl, O9⟩
        have NA9 := S.on O9
        have NB9 := NB8.on O9
        have K9 := K8.then (Kp.of _ O9)
        have dB := HCB.out w9 NB9
        have fB9 : w9.frozen? ⟨B, kb, none⟩ = false := NB9.row.1.frozen _
        have S2 := NB9.set kb (vb + 1)
        rw [← HB1.out] at S2
        have NA10 := NA9.kp ((Kp.refl [B] _).set (p := ⟨B, kb, none⟩) (.inl (by simp)) (.int .i64 ((vb + 1 : Nat) : Int))) (by simp; omega)
        have K10 := K9.set (p := ⟨B, kb, none⟩) (.inl (by simp)) (.int .i64 ((vb + 1 : Nat) : Int))
        rw [show ((vb + 1 : Nat) : Int) = (vb : Int) + 1 from by omega] at S2 NA10 K10
        have hkb' : (kb : Int) < 30 := by omega
        clear NA9 NB9 K9 S NB8 K8 c2'
        go_wp2_with fail
        go_roundw
        case rel => exact ⟨k + 1, by go_num, by omega, NA10, S2, K10⟩
        case measure => simp [intOf]; omega
    · obtain rfl : k = n := by omega
      have hCB := cntB_is HF.out
      have hCL := cntLTo_all l
      rw [HN.out] at hCB hCL
      rw [hCL] at NA
      have hlB := cntBTo_length l k
      have hus := Lib.hid (sused_calls (cntBTo l k) B 0 30 30 wr NB.row.1.toO hlB (by omega) (Nat.le_refl _))
      generalize hcb : cntBTo l k = cb at *
      obtain ⟨us, hus2⟩ : ∃ us, used cb = us := ⟨_, rfl⟩
      rw [hus2] at hus hCB
      have HCB := Lib.hid hCB
      have hAB : A ≠ B := by omega
      have hAs : w.heap.size ≤ A := by omega
      have hBs : w.heap.size ≤ B := by omega
      have OWt := OW
      have hz6 := O26.size
      clear hCB hCL hcb hus2
      go_wp2_with fail
      refine hus.out.mono ?_
      rintro e w7 ⟨rfl, O7⟩
      have K7 := K.then (Kp.of _ O7)
      have NA7 := NA.on O7
      have NB7 := NB.on O7
      have O8 : On w w7 := K7.on OWt (fun x hx => by simp at hx; omega)
      by_cases h0 : us = 0
      · have h0' : ((us : Int) == 0) = true := by simp; omega
        have d0 := NB7.row.1.cell (i64s_get (show 0 < cb.length by rw [hlB]; omega))
        have fB7 : w7.frozen? ⟨B, 0, none⟩ = false := NB7.row.1.frozen _
        have S := NB7.set 0 1
        have NA8 := NA7.kp ((Kp.refl [B] _).set (p := ⟨B, 0, none⟩) (.inl (by simp)) (.int .i64 ((1 : Nat) : Int))) (by simpa using hAB)
        have O9 := O8.set (p := ⟨B, 0, none⟩) hBs (.int .i64 ((1 : Nat) : Int))
        have HC : RowKit.Hid (cntB l = cb.set 0 1) := Lib.hid (by rw [HCB.out, if_pos h0])
        rw [← HC.out] at S
        clear h0 hlB NB7 NA7 hus
        go_wp2_with fail
        go_ret2
        exact ⟨A, 286, B, 30, rfl, NA8, S, hAs, hBs, O9⟩
      · have h0' : ((us : Int) == 0) = false := by simpa using h0
        have HC : RowKit.Hid (cntB l = cb) := Lib.hid (by rw [HCB.out, if_neg h0])
        rw [← HC.out] at NB7
        clear h0 hlB hus
        go_wp2_with fail
        go_ret2
        exact ⟨A, 286, B, 30, rfl, NA7, NB7, hAs, hBs, O8⟩
end Go.Proofs.YtncidljdfipigaaDoor.Wi

/- Lengths written by a code of their own, as the specification does it. Conditions: lengths of two codes; sizes. -/
namespace Go.Proofs.YtncidljdfipigaaDoor.Wi
open Go.RowKit Go.Proofs.YtncidljdfipigaaDoor.Mem Go.Proofs.YtncidljdfipigaaDoor.Bt Go.Proofs.YtncidljdfipigaaDoor.Cd Go.Proofs.YtncidljdfipigaaDoor.De Go.Proofs.YtncidljdfipigaaDoor.En Go.Proofs.YtncidljdfipigaaDoor.Lz Go.Proofs.YtncidljdfipigaaDoor.Hf
set_option linter.unusedVariables false
set_option linter.unusedSimpArgs false
theorem order_lt' : ∀ i, i < 19 → order.getD i 0 < 19 := by decide
theorem sord_calls (w : World) : Calls Tryd.prog 129 #[] w fun e w' => ∃ r, e = .returned (.slice (some ⟨r, 0, none⟩) 19 19) ∧ RowO w' r 0 3 (i64s order) ∧ w.heap.size ≤ r ∧ On w w' := by
  go_enter Tryd.func129, Tryd.ntmps129
  go_wp2_with fail
  go_ret
  exact ⟨w.heap.size, rfl, (Row.of (Blk.new w 3 _)).toO, Nat.le_refl _, (On.refl w).alloc _⟩
set_option maxRecDepth 100000 in
set_option maxHeartbeats 1000000 in
theorem sputlens_calls (g r gl nl cl gd nd cd : Nat) (bs : List Bool) (lit dist : List Nat) (w : World) (hw : SW w g r bs) (hr : r < w.heap.size) (hb : bs.length ≤ 1000) (hl : RowO w gl 0 3 (i64s lit)) (hd : RowO w gd 0 3 (i64s dist))
    (hnl : lit.length = nl) (hnd : dist.length = nd) (l1 : 257 ≤ nl) (l2 : nl ≤ 286) (d1 : 1 ≤ nd) (d2 : nd ≤ 30) (hnlc : nl ≤ cl) (hndc : nd ≤ cd) (l15 : ∀ x ∈ lit, x ≤ 15) (d15 : ∀ x ∈ dist, x ≤ 15) :
    Calls Tryd.prog 94 #[.pointer (some ⟨g, 0, none⟩), .slice (some ⟨gl, 0, none⟩) nl cl, .slice (some ⟨gd, 0, none⟩) nd cd] w fun e w' => ∃ r', e = .returned (.tuple #[]) ∧ SW w' g r' (bs ++ headBits lit dist) ∧ Mv g r w r' w' := by
  obtain ⟨N, hN⟩ : ∃ N, nl + nd = N := ⟨_, rfl⟩
  obtain ⟨all, hall⟩ : ∃ all, lit ++ dist = all := ⟨_, rfl⟩
  have hal : all.length = N := by rw [← hall, List.length_append]; omega
  have ha15 : ∀ x ∈ all, x ≤ 15 := by
    intro x hx
    rw [← hall] at hx
    rcases List.mem_append.1 hx with h | h
    · exact l15 x h
    · exact d15 x h
  have hane : all ≠ [] := by intro e; rw [e] at hal; simp at hal; omega
  have hM := ownMeta_ok ha15 hane
  have hMp := meta_pos ha15 hane
  have hgl := hw.glt
  have HW := Lib.hid hw
  have HN := Lib.hid hN
  have HALL := Lib.hid hall
  have HAL := Lib.hid hal
  have HA15 := Lib.hid ha15
  have HM := Lib.hid hM
  have HMP := Lib.hid hMp
  have HNL := Lib.hid hnl
  have HND := Lib.hid hnd
  have hN3 : N ≤ 316 := by omega
  have hN0 : 258 ≤ N := by omega
  obtain ⟨na, hna⟩ : ∃ na, nl - 257 = na := ⟨_, rfl⟩
  obtain ⟨nb, hnb⟩ : ∃ nb, nd - 1 = nb := ⟨_, rfl⟩
  have ea : (nl : Int) - 257 = (na : Int) := by omega
  have eb : (nd : Int) - 1 = (nb : Int) := by omega
  have hna2 : na ≤ 29 := by omega
  have hnb2 : nb ≤ 29 := by omega
  have HNA := Lib.hid hna
  have HNB := Lib.hid hnb
  have HEA := Lib.hid ea
  have HEB := Lib.hid eb
  have hq0 : 0 + nl = nl := Nat.zero_add nl
  have HQ0 := Lib.hid hq0
  clear hw hN hall hal ha15 hM hMp hnl hnd hane l15 d15 hna hnb ea eb hq0
  have NE := Own.new (base := w.heap.size) w 3 1 #[] 0 (Nat.zero_le _) rfl (Nat.le_refl _)
  have OE := (On.refl w).alloc (.cells #[] 3)
  have REl := hl.on OE
  go_enter Tryd.func94, Tryd.ntmps94
  go_upto_region 1 with (at_builtin; first | ((refine wpList_adds rfl _ _ rfl w (xs := []) (l := lit) (q := nl) rfl NE OE rfl REl HNL.out HQ0.out (by omega) ?_); intro v1 w1 hown1 O1 _; rw [List.nil_append] at hown1; have REd := hd.on O1) | ((refine wpList_adds rfl _ _ rfl w (xs := lit) (l := dist) (q := N) rfl hown1 O1 rfl REd HND.out HN.out (by omega) ?_); intro v2 w2 hown2 O2 _))
  rw [HALL.out] at hown2
  obtain ⟨A, cA, rfl, NA, hA, hAl⟩ := own_nums hown2 HAL.out
  have hcA := NA.row.2.2.1
  clear NE OE REl hown1 O1 REd hown2
  go_upto_region 2 with (at_make; go_must (refine wpList_ints _ rfl _ _ rfl _ _ 19 rfl rfl rfl rfl (by omega) ?_); intro w3 N3 O3 hlt3)
  obtain ⟨C, hC⟩ : ∃ C, w2.heap.size = C := ⟨_, rfl⟩
  rw [hC] at N3 hlt3 ⊢
  have hz2 := O2.size
  have O23 := O2.call O3
  have NA3 := NA.on O3
  clear NA
  go_wp2_with fail
  go_loopw [8] (fun x wr => ∃ (k : Nat), x = .int .i64 (k : Int) ∧ k ≤ N ∧ Nums wr C (.slice (some ⟨C, 0, none⟩) 19 19) (bump (List.replicate 19 0) (all.take k)) ∧ Kp [C] w3 wr) (fun x _ => N - (intOf x).toNat)
  case atStart => exact ⟨0, rfl, by omega, by rw [List.take_zero]; exact N3, Kp.refl _ _⟩
  case round =>
    obtain ⟨k, rfl, hk, NC, K⟩ := hrel
    clear N3
    by_cases hlt : k < N
    · have hkl : k < all.length := by rw [HAL.out]; exact hlt
      have c0 := (K.row NA3.row.1 (by simp; omega)).cell (i64s_get hkl)
      have hx15 := Cd.getD_le HA15.out k
      have hst := cntM_succ hkl
      generalize all.getD k 0 = x at *
      have hln : (bump (List.replicate 19 0) (all.take k)).length = 19 := by rw [bump_length, List.length_replicate]
      have d0 := NC.row.1.cell (i64s_get (show x < (bump (List.replicate 19 0) (all.take k)).length by rw [hln]; omega))
      have hv := Cd.getD_le (cntM_le all k) x
      generalize (bump (List.replicate 19 0) (all.take k)).getD x 0 = v at *
      have fC : ∀ i, wr.frozen? ⟨C, i, none⟩ = false := NC.row.1.frozen
      have e1 : IntKind.i64.wrap ((v : Int) + 1) = ((v + 1 : Nat) : Int) := by rw [IntKind.wrap_i64]; omega
      have HST := Lib.hid hst
      have hx19 : (x : Int) < 19 := by omega
      have hx0 : (0 : Int) ≤ (x : Int) := by omega
      have hkN : (k : Int) < (N : Int) := by omega
      clear hst hln
      go_wp2_with fail
      go_region
      go_wp2_with fail
      go_roundw
      case rel =>
        have D := (On.refl wr).drew
        have S := (NC.on D).set x (v + 1)
        rw [← HST.out] at S
        exact ⟨k + 1, by go_num, by omega, S, K.drew.set (.inl (by simp)) _⟩
      case measure => simp [intOf]; omega
    · obtain rfl : k = N := by omega
      have e0 : all.take k = all := List.take_of_length_le (by rw [HAL.out]; exact Nat.le_refl _)
      rw [e0] at NC
      have hln : (bump (List.replicate 19 0) all).length = 19 := by rw [bump_length, List.length_replicate]
      have hle : ∀ x ∈ bump (List.replicate 19 0) all, x ≤ 100000 := fun x hx => by
        have := cntM_le all k
        rw [e0] at this
        have := this x hx
        omega
      have hfc := Lib.hid (sfit_calls (bump (List.replicate 19 0) all) C 0 19 19 7 wr NC.row.1.toO hln (by omega) (Nat.le_refl _) hle (by omega) (by omega) HMP.out (by rw [show 7 + 3 = 10 from rfl, fib10]; omega))
      clear hln hle e0
      go_wp2_with fail
      refine hfc.out.mono ?_
      rintro e w4 ⟨rM, cM, rfl, NM, hM1, hM2, O4⟩
      have em : fit 7 (bump (List.replicate 19 0) all) = ownMeta all := rfl
      rw [em] at NM ⊢
      rw [HM.out.len] at NM ⊢
      have hcM := NM.row.2.2.1
      have HM2 : RowKit.Hid (Meta all (ownMeta all)) := HM
      obtain ⟨m, hm⟩ : ∃ m, ownMeta all = m := ⟨_, rfl⟩
      rw [hm] at NM HM2
      have HMM := Lib.hid hm
      clear em hm hfc HM
      go_wp2_with fail
      refine (scodes_calls m rM 0 19 cM w4 NM.row.1.toO HM2.out.len (by omega) hcM).mono ?_
      rintro e w5 ⟨rK, cK, rfl, NK, hK1, hK2, O5⟩
      rw [codes_length, HM2.out.len] at NK ⊢
      have hcK := NK.row.2.2.1
      have O45 := O4.call O5
      have O5t : On w w5 := (K.on O23 (fun x hx => by simp at hx; omega)).call O45
      have RM : RowO w5 rM 0 3 (i64s m) := (NM.on O5).row.1.toO
      have RK : RowO w5 rK 0 3 (i64s (codes m)) := NK.row.1.toO
      have RA : RowO w5 A 0 3 (i64s all) := ((K.row NA3.row.1 (by simp; omega)).on O45).toO
      have hzk := K.size
      have hz4 := O4.size
      have hz3 := O3.size
      have FM : RowKit.Hid (rM ∉ [g, r]) := Lib.hid (not_in (by omega) (by omega))
      have FK : RowKit.Hid (rK ∉ [g, r]) := Lib.hid (not_in (by omega) (by omega))
      have FA : RowKit.Hid (A ∉ [g, r]) := Lib.hid (not_in (by omega) (by omega))
      have hw5 := HW.out.on O5t
      have hp1 := Lib.hid (sput_calls g r bs na 5 w5 hw5 (by omega) (by omega) (by omega))
      have ea := HEA.out
      clear hw5 NM NK NC NA3
      go_wp2_with fail
      refine hp1.out.mono ?_
      rintro e w6 ⟨r6, rfl, hw6, M6⟩
      have hp2 := Lib.hid (sput_calls g r6 _ nb 5 w6 hw6 (by omega) (by rw [List.length_append, bits_length]; omega) (by omega))
      have eb := HEB.out
      clear hw6 hp1 ea
      go_wp2_with fail
      refine hp2.out.mono ?_
      rintro e w7 ⟨r7, rfl, hw7, M7⟩
      have hp3 := Lib.hid (sput_calls g r7 _ 15 4 w7 hw7 (by omega) (by rw [List.length_append, List.length_append, bits_length, bits_length]; omega) (by omega))
      clear hw7 hp2 eb
      go_wp2_with fail
      refine hp3.out.mono ?_
      rintro e w8 ⟨r8, rfl, hw8, M8⟩
      have M58 := (M6.trans M7).trans M8
      obtain ⟨b3, hb3⟩ : ∃ b3, bs ++ bitsOf na 5 ++ bitsOf nb 5 ++ bitsOf 15 4 = b3 := ⟨_, rfl⟩
      have hl3 : b3.length = bs.length + 14 := by rw [← hb3]; simp only [List.length_append, bits_length]
      rw [hb3] at hw8
      have HB3 := Lib.hid hb3
      have HL3 := Lib.hid hl3
      have HW8 := Lib.hid hw8
      clear hb3 hl3 hw8 hp3 M6 M7 M8
      have hr5 : r < w5.heap.size := Nat.lt_of_lt_of_le hr O5t.size
      go_wp2_with fail
      go_loopw [11] (fun x wr => ∃ (k r' : Nat), x = .int .i64 (k : Int) ∧ k ≤ 19 ∧ SW wr g r' (b3 ++ (order.take k).flatMap fun j => bitsOf (m.getD j 0) 3) ∧ Mv g r w5 r' wr) (fun x _ => 19 - (intOf x).toNat)
      case atStart => exact ⟨0, r8, rfl, by omega, by rw [List.take_zero]; simpa using HW8.out, M58⟩
      case round =>
        obtain ⟨k2, r9, rfl, hk2, hw9, M9⟩ := hrel
        clear M58
        by_cases hlt2 : k2 < 19
        · have hko : k2 < order.length := hlt2
          have hk2' : (k2 : Int) < 19 := by omega
          have hco := fun W r3 (R : RowO W r3 0 3 (i64s order)) => R.cell (i64s_get hko)
          have hol := order_lt' k2 hlt2
          have hfs := flat_succ (fun j => bitsOf (m.getD j 0) 3) hko
          generalize hx : order.getD k2 0 = o at *
          have hcm := fun W (R : RowO W rM 0 3 (i64s m)) => R.cell (i64s_get (show o < m.length by rw [HM2.out.len]; exact hol))
          have hx7 := Cd.getD_le HM2.out.le o
          have hfl : ((order.take k2).flatMap fun j => bitsOf (m.getD j 0) 3).length ≤ 19 * 3 := by
            have := flat_len (order.take k2) (fun j => bitsOf (m.getD j 0) 3) (m := 3) (fun x => by rw [bits_length]; exact Nat.le_refl _)
            rw [List.length_take] at this
            have h2 : min k2 order.length * 3 ≤ 19 * 3 := Nat.mul_le_mul_right _ (Nat.le_trans (Nat.min_le_left _ _) hk2)
            omega
          have hbl : (b3 ++ (order.take k2).flatMap fun j => bitsOf (m.getD j 0) 3).length ≤ 3000 := by
            rw [List.length_append, HL3.out]; omega
          have hfs2 : b3 ++ (order.take (k2 + 1)).flatMap (fun j => bitsOf (m.getD j 0) 3) = (b3 ++ (order.take k2).flatMap fun j => bitsOf (m.getD j 0) 3) ++ bitsOf (m.getD o 0) 3 := by rw [hfs, List.append_assoc]
          generalize (b3 ++ (order.take k2).flatMap fun j => bitsOf (m.getD j 0) 3) = bk at *
          generalize m.getD o 0 = y at *
          simp only [Nat.zero_add] at hco hcm
          have HCO := Lib.hid hco
          have HCM := Lib.hid hcm
          have HFS := Lib.hid hfs2
          have HW9 := Lib.hid hw9
          have ho0 : (0 : Int) ≤ (o : Int) := by omega
          have ho19 : (o : Int) < 19 := by omega
          clear hco hcm hfs hfs2 hx hfl hw9
          go_wp2_with fail
          refine (sord_calls wr).mono ?_
          rintro e w10 ⟨ro, rfl, Ro, hro, O10⟩
          have c0 := HCO.out w10 ro Ro
          have RM10 := ((RM.kp M9.kp FM.out).on O10)
          have c1 := HCM.out w10 RM10
          have hp := Lib.hid (sput_calls g r9 bk y 3 w10 (HW9.out.on O10) (by omega) (by omega) (by omega))
          go_wp2_with fail
          refine hp.out.mono ?_
          rintro e w11 ⟨r11, rfl, hw11, M11⟩
          go_wp2_with fail
          go_roundw
          case rel => exact ⟨k2 + 1, r11, by go_num, by omega, by rw [HFS.out]; exact hw11, M9.trans ((mv_on g r9 O10).trans M11)⟩
          case measure => simp [intOf]; omega
        · have hk19 : k2 = 19 := by omega
          have hk19' : ¬ (k2 : Int) < 19 := by omega
          have e0 : order.take k2 = order := by rw [hk19]; rfl
          rw [e0] at hw9
          clear hk19
          have hfl : (order.flatMap fun j => bitsOf (m.getD j 0) 3).length ≤ 19 * 3 := flat_len order _ (fun x => by rw [bits_length]; exact Nat.le_refl _)
          obtain ⟨b4, hb4⟩ : ∃ b4, b3 ++ (order.flatMap fun j => bitsOf (m.getD j 0) 3) = b4 := ⟨_, rfl⟩
          have hl4 : b4.length ≤ 2000 := by rw [← hb4, List.length_append, HL3.out]; omega
          rw [hb4] at hw9
          have HB4 := Lib.hid hb4
          have HW9 := Lib.hid hw9
          clear e0 hfl hb4 hw9
          go_wp2_with fail
          go_loopw [12] (fun x wr => ∃ (j r' : Nat), x = .int .i64 (j : Int) ∧ j ≤ k ∧ SW wr g r' (b4 ++ (all.take j).flatMap (enc m)) ∧ Mv g r w5 r' wr) (fun x _ => k - (intOf x).toNat)
          case atStart => exact ⟨0, r9, rfl, by omega, by rw [List.take_zero]; simpa using HW9.out, M9⟩
          case round =>
            obtain ⟨j, r12, rfl, hj, hw12, M12⟩ := hrel
            clear M9
            by_cases hltj : j < k
            · have hjl : j < all.length := by rw [HAL.out]; exact hltj
              have hj' : (j : Int) < (k : Int) := by omega
              have c0 := (RA.kp M12.kp FA.out).cell (i64s_get hjl)
              rw [Nat.zero_add] at c0
              have hfs := flat_succ (enc m) hjl
              have hmem : all.getD j 0 ∈ all := by rw [List.getD_eq_getElem?_getD, List.getElem?_eq_getElem hjl]; exact List.getElem_mem _
              have hx15 := HA15.out _ hmem
              have hpos := HM2.out.pos _ hmem
              generalize all.getD j 0 = s at *
              have hfl : ((all.take j).flatMap (enc m)).length ≤ 316 * 15 := by
                have := flat_len (all.take j) (enc m) (m := 15) (enc_length m (fun x hx => by have := HM2.out.le x hx; omega))
                rw [List.length_take] at this
                have h2 : min j all.length * 15 ≤ 316 * 15 := Nat.mul_le_mul_right _ (Nat.le_trans (Nat.min_le_left _ _) (by omega))
                omega
              have hbl : (b4 ++ (all.take j).flatMap (enc m)).length ≤ 10000 := by rw [List.length_append]; omega
              have hfs2 : b4 ++ (all.take (j + 1)).flatMap (enc m) = (b4 ++ (all.take j).flatMap (enc m)) ++ enc m s := by rw [hfs, List.append_assoc]
              generalize (b4 ++ (all.take j).flatMap (enc m)) = bk at *
              have HFS := Lib.hid hfs2
              have hsm : s < m.length := by rw [HM2.out.len]; omega
              have h7 : m.getD s 0 ≤ 15 := by have := Cd.getD_le HM2.out.le s; omega
              have hc := Lib.hid (sym_calls g r12 bk m rM 0 19 cM rK 19 cK s wr hw12 (by omega) (RM.kp M12.kp FM.out) (RK.kp M12.kp FK.out) HM2.out.len rfl hsm h7 (code_lt (ok_fits HM2.out.ok) hsm hpos h7))
              clear hmem hfs hfs2 hfl hw12 hpos hsm h7
              go_wp2_with fail
              refine hc.out.mono ?_
              rintro e w13 ⟨r13, rfl, hw13, M13⟩
              go_wp2_with fail
              go_roundw
              case rel => exact ⟨j + 1, r13, by go_num, by omega, by rw [HFS.out]; exact hw13, M12.trans M13⟩
              case measure => simp [intOf]; omega
            · obtain rfl : j = k := by omega
              have e0 : all.take j = all := List.take_of_length_le (by rw [HAL.out]; exact Nat.le_refl _)
              rw [e0] at hw12
              have hfin : bs ++ headBits lit dist = b4 ++ all.flatMap (enc m) := by
                rw [← HB4.out, ← HB3.out]
                unfold headBits
                rw [HALL.out, HMM.out, HNL.out, HND.out, HNA.out, HNB.out]
                simp only [List.append_assoc]
              have HFIN := Lib.hid hfin
              have HW12 := Lib.hid hw12
              clear hfin e0 hw12
              go_wp2_with fail
              go_end0
              exact ⟨r12, rfl, by rw [HFIN.out]; exact HW12.out, (mv_on g r O5t).trans M12⟩
end Go.Proofs.YtncidljdfipigaaDoor.Wi

/- What OwnPut and FlatePut make, as bytes. Nothing of the program is walked here. -/
namespace Go.Proofs.YtncidljdfipigaaDoor.Wi
open Go.RowKit Go.Proofs.YtncidljdfipigaaDoor.Mem Go.Proofs.YtncidljdfipigaaDoor.Bt Go.Proofs.YtncidljdfipigaaDoor.Cd Go.Proofs.YtncidljdfipigaaDoor.De Go.Proofs.YtncidljdfipigaaDoor.En Go.Proofs.YtncidljdfipigaaDoor.Lz Go.Proofs.YtncidljdfipigaaDoor.Hf
set_option linter.unusedVariables false
set_option linter.unusedSimpArgs false
def ownB (s : ByteArray) : ByteArray := if s.size ≤ 300 then strB (En.ownPut (chars s)) else ⟨#[]⟩
def flateB (s : ByteArray) : ByteArray := if s.size ≤ 300 then strB (En.flatePut (chars s)) else ⟨#[]⟩
/-- The shorter; the first, if they are as long. -/
def choose (a b : ByteArray) : ByteArray := if b.size < a.size then b else a
def pickTo (x y z : ByteArray) : Nat → ByteArray
  | 0 => x
  | 1 => choose x y
  | _ => choose (choose x y) z
theorem flate_pick (s : ByteArray) (h : s.size ≤ 300) : strB (En.flatePut (chars s)) = choose (choose (strB (En.store (chars s))) (strB (En.fixed (chars s)))) (strB (En.ownPut (chars s))) := by
  unfold choose En.flatePut
  by_cases h1 : (En.fixed (chars s)).length < (En.store (chars s)).length
  · by_cases h2 : (En.ownPut (chars s)).length < (En.fixed (chars s)).length
    · simp [strB_size, h1, h2]
    · simp [strB_size, h1, h2]
  · by_cases h2 : (En.ownPut (chars s)).length < (En.store (chars s)).length
    · simp [strB_size, h1, h2]
    · simp [strB_size, h1, h2]
theorem cntL_le (l : List Tok) : ∀ x ∈ cntL l, x ≤ 1 + l.length := by rw [← cntLTo_all]; exact cntLTo_le l _
theorem cntB_le {l : List Tok} (F : ∀ t ∈ l, Fine [] [] t) : ∀ x ∈ cntB l, x ≤ 1 + l.length := by
  intro x hx
  rw [cntB_is F] at hx
  split at hx
  · rcases List.mem_or_eq_of_mem_set hx with h | h
    · have := cntBTo_le l _ x h; omega
    · omega
  · have := cntBTo_le l _ x hx; omega
theorem trim_le {lens : List Nat} {m least : Nat} (h : ∀ x ∈ lens, x ≤ m) : ∀ x ∈ trim lens least, x ≤ m := fun x hx => h x (List.mem_of_mem_take hx)
theorem head_length (lit dist : List Nat) (hn : (lit ++ dist).length ≤ 316) (h15 : ∀ x ∈ lit ++ dist, x ≤ 15) (hne : lit ++ dist ≠ []) : (headBits lit dist).length ≤ 6000 := by
  have hM := ownMeta_ok h15 hne
  have h1 : (order.flatMap fun k => bitsOf ((ownMeta (lit ++ dist)).getD k 0) 3).length ≤ 19 * 3 := flat_len order _ (fun x => by rw [bits_length]; exact Nat.le_refl _)
  have h2 := flat_len (lit ++ dist) (enc (ownMeta (lit ++ dist))) (m := 15) (enc_length _ (fun x hx => by have := hM.le x hx; omega))
  have h3 : (lit ++ dist).length * 15 ≤ 316 * 15 := Nat.mul_le_mul_right _ hn
  unfold headBits
  simp only [List.length_append, bits_length] at *
  omega
end Go.Proofs.YtncidljdfipigaaDoor.Wi

/- What OwnPut and FlatePut of the specification do. Conditions: none. -/
namespace Go.Proofs.YtncidljdfipigaaDoor.Wi
open Go.RowKit Go.Proofs.YtncidljdfipigaaDoor.Mem Go.Proofs.YtncidljdfipigaaDoor.Bt Go.Proofs.YtncidljdfipigaaDoor.Cd Go.Proofs.YtncidljdfipigaaDoor.De Go.Proofs.YtncidljdfipigaaDoor.En Go.Proofs.YtncidljdfipigaaDoor.Lz Go.Proofs.YtncidljdfipigaaDoor.Hf
set_option linter.unusedVariables false
set_option linter.unusedSimpArgs false
set_option maxRecDepth 100000 in
set_option maxHeartbeats 1000000 in
theorem sown_calls (s : ByteArray) (h : s.size ≤ 300) (w : World) :
    Calls Tryd.prog 60 #[.string s] w (Tells w (.string (strB (En.ownPut (chars s))))) := by
  have htx := text_chars h
  have htl := tokens_size h
  have HR : RowKit.Hid (strB (En.ownPut (chars s)) = strB (pack (pad (ownBits (chars s))))) := Lib.hid (by rw [pack_pad]; rfl)
  have HOB : RowKit.Hid (ownBits (chars s) = bitsOf 1 1 ++ bitsOf 2 2 ++ headBits (ownLit (tokens (chars s))) (ownDist (tokens (chars s))) ++ encToks (ownLit (tokens (chars s))) (ownDist (tokens (chars s))) (tokens (chars s))) := Lib.hid rfl
  have HTX := Lib.hid htx
  clear htx
  go_enter Tryd.func60, Tryd.ntmps60
  go_wp2_with fail
  refine (stoks_calls s h w).mono ?_
  rintro e w1 ⟨q, cq, rfl, Rq, hq1, hq2, hq3, O1⟩
  obtain ⟨l, hl⟩ : ∃ l, tokens (chars s) = l := ⟨_, rfl⟩
  rw [hl] at HTX HOB Rq hq1 htl ⊢
  have HF := Lib.hid (fine_of (lit := []) (dist := []) HTX.out)
  have H2 := Lib.hid (own_has HTX.out)
  have HFB := Lib.hid (fitB HTX.out)
  have HDL := Lib.hid (ownDist_length HTX.out)
  have HBP := Lib.hid (cntB_pos HTX.out)
  obtain ⟨n, hn⟩ : ∃ n, l.length = n := ⟨_, rfl⟩
  rw [hn] at hq1 htl ⊢
  have HNN := Lib.hid hn
  clear hn hl
  go_wp2_with fail
  refine (scounts_calls l q n cq w1 Rq HNN.out (by omega) hq1 HF.out).mono ?_
  rintro e w2 ⟨ra, ca, rb, cb, rfl, Na, Nb, ha, hb, O2⟩
  have hca := Na.row.2.2.1
  have hcb := Nb.row.2.2.1
  have hz1 := O1.size
  go_wp2_with fail
  refine (sfit_calls (cntL l) ra 0 286 ca 15 w2 Na.row.1.toO (cntL_length l) (by omega) hca (fun x hx => by have := cntL_le l x hx; have := HNN.out; omega) (by omega) (by omega) ⟨256, cntL_last l⟩ (by rw [show 15 + 3 = 18 from rfl, fib18]; omega)).mono ?_
  rintro e w3 ⟨rc, cc, rfl, Nc, hc, hc2, O3⟩
  have hLl : (fit 15 (cntL l)).length = 286 := (fitL l).1.len.trans (cntL_length l)
  rw [hLl] at Nc ⊢
  have hcc := Nc.row.2.2.1
  have HLl := Lib.hid hLl
  clear hLl
  go_wp2_with fail
  refine (slast_calls (fit 15 (cntL l)) rc 286 cc 257 w3 Nc.row.1.toO HLl.out (by omega) hcc (by omega)).mono ?_
  rintro e w3b ⟨rfl, rfl⟩
  have hol : trimTo (fit 15 (cntL l)) 257 286 = (ownLit l).length := by unfold ownLit; rw [trim_length, HLl.out]
  rw [hol]
  have Rl : RowO w3b rc 0 3 (i64s (ownLit l)) := by
    have e : ownLit l = (fit 15 (cntL l)).take (trimTo (fit 15 (cntL l)) 257 286) := by unfold ownLit trim; rw [HLl.out]
    rw [e, show i64s ((fit 15 (cntL l)).take (trimTo (fit 15 (cntL l)) 257 286)) = (i64s (fit 15 (cntL l))).take (trimTo (fit 15 (cntL l)) 257 286) from by unfold i64s; rw [List.map_take]]
    exact (Nc.row.1.head _).toO
  have hln := ownLit_length l
  have HL15 := Lib.hid (trim_le (least := 257) (fitL l).2)
  obtain ⟨nl, hnl⟩ : ∃ nl, (ownLit l).length = nl := ⟨_, rfl⟩
  rw [hnl] at hln ⊢
  have HNL := Lib.hid hnl
  clear hol hnl
  go_wp2_with fail
  refine (sfit_calls (cntB l) rb 0 30 cb 15 w3b (Nb.on O3).row.1.toO (cntB_length l) (by omega) hcb (fun x hx => by have := cntB_le HF.out x hx; have := HNN.out; omega) (by omega) (by omega) HBP.out (by rw [show 15 + 3 = 18 from rfl, fib18]; omega)).mono ?_
  rintro e w4 ⟨rd, cd, rfl, Nd, hd, hd2, O4⟩
  have hBl : (fit 15 (cntB l)).length = 30 := HFB.out.1.len.trans (cntB_length l)
  rw [hBl] at Nd ⊢
  have hcd := Nd.row.2.2.1
  have HBl := Lib.hid hBl
  clear hBl
  go_wp2_with fail
  refine (slast_calls (fit 15 (cntB l)) rd 30 cd 1 w4 Nd.row.1.toO HBl.out (by omega) hcd (by omega)).mono ?_
  rintro e w4b ⟨rfl, rfl⟩
  have hod : trimTo (fit 15 (cntB l)) 1 30 = (ownDist l).length := by unfold ownDist; rw [trim_length, HBl.out]
  rw [hod]
  have Rd : RowO w4b rd 0 3 (i64s (ownDist l)) := by
    have e : ownDist l = (fit 15 (cntB l)).take (trimTo (fit 15 (cntB l)) 1 30) := by unfold ownDist trim; rw [HBl.out]
    rw [e, show i64s ((fit 15 (cntB l)).take (trimTo (fit 15 (cntB l)) 1 30)) = (i64s (fit 15 (cntB l))).take (trimTo (fit 15 (cntB l)) 1 30) from by unfold i64s; rw [List.map_take]]
    exact (Nd.row.1.head _).toO
  have hdn := HDL.out
  have HD15 := Lib.hid (trim_le (least := 1) HFB.out.2)
  obtain ⟨nd, hnd⟩ : ∃ nd, (ownDist l).length = nd := ⟨_, rfl⟩
  rw [hnd] at hdn ⊢
  have HND := Lib.hid hnd
  have Rl4 := Rl.on O4
  have Rq4 := Rq.on (O2.call (O3.call O4))
  have Ot4 := O1.call (O2.call (O3.call O4))
  have hrcl := Rl4.lt
  have hrdl := Rd.lt
  have hrql := Rq4.lt
  have HHL := Lib.hid (head_length (ownLit l) (ownDist l) (by rw [List.length_append, HNL.out, hnd]; omega) (fun x hx => by
    rcases List.mem_append.1 hx with h | h
    · exact HL15.out x h
    · exact HD15.out x h) (by intro e; have := congrArg List.length e; rw [List.length_append, HNL.out] at this; simp at this; omega))
  have HET := Lib.hid (show (encToks (ownLit l) (ownDist l) l).length ≤ 20000 by
    have h1 := flat_le (lit := ownLit l) (dist := ownDist l) (fine_of HTX.out) HL15.out HD15.out l.length
    rw [List.take_length] at h1
    have h2 := enc_length (ownLit l) HL15.out 256
    unfold encToks
    rw [List.length_append]
    have := HNN.out
    omega)
  clear hod hnd Nd Nc Rl Na Nb
  go_wp2_with fail
  refine (sput_calls _ _ [] 1 1 _ (sw_new w4b) (by omega) (by simp) (by omega)).mono ?_
  rintro e w5 ⟨r5, rfl, hw5, M5⟩
  have OA := (On.refl w4b).alloc (.cells #[.slice none 0 0, .int .i64 0, .int .i64 0] 88)
  have hr0 : w4b.heap.size < (w4b.alloc (.cells #[.slice none 0 0, .int .i64 0, .int .i64 0] 88)).heap.size := (Blk.new w4b _ _).lt
  have hr5 := M5.lt hr0
  obtain ⟨O5, hb5⟩ := M5.on OA (Nat.le_refl _) (Nat.le_refl _)
  go_wp2_with fail
  refine (sput_calls _ _ _ 2 2 w5 hw5 (by omega) (by simp [bitsOf]) (by omega)).mono ?_
  rintro e w6 ⟨r6, rfl, hw6, M6⟩
  have hr6 := M6.lt hr5
  obtain ⟨O6, hb6⟩ := M6.on O5 (Nat.le_refl _) hb5
  have hpl := Lib.hid (sputlens_calls w4b.heap.size r6 rc nl cc rd nd cd _ (ownLit l) (ownDist l) w6 hw6 hr6 (by simp [bitsOf]) (Rl4.on O6) (Rd.on O6) HNL.out HND.out hln.1 hln.2 hdn.1 hdn.2 (by omega) (by omega) HL15.out HD15.out)
  go_wp2_with fail
  refine hpl.out.mono ?_
  rintro e w7 ⟨r7, rfl, hw7, M7⟩
  have hr7 := M7.lt hr6
  obtain ⟨O7, hb7⟩ := M7.on O6 (Nat.le_refl _) hb6
  have hpt := Lib.hid (stokens_calls w4b.heap.size r7 q n cq rc 0 nl cc rd 0 nd cd _ l (ownLit l) (ownDist l) w7 hw7 hr7 (by have := HHL.out; simp only [List.length_append, bits_length, List.length_nil]; omega) (Rq4.on O7) (Rl4.on O7) (Rd.on O7) HNN.out (by omega) hq1 HNL.out HND.out (by omega) (by omega) (by omega) (by omega)
    H2.out (fine_of HTX.out) (not_in (by omega) (by omega)) (not_in (by omega) (by omega)) (not_in (by omega) (by omega)))
  clear hpl hw5 hw6 hw7
  go_wp2_with fail
  refine hpt.out.mono ?_
  rintro e w8 ⟨r8, rfl, hw8, M8⟩
  obtain ⟨O8, hb8⟩ := M8.on O7 (Nat.le_refl _) hb7
  have hw9 : SW w8 w4b.heap.size r8 (ownBits (chars s)) := by rw [HOB.out]; exact hw8
  have hbl : (ownBits (chars s)).length ≤ 100000 := by
    rw [HOB.out]
    have := HHL.out
    have := HET.out
    simp only [List.length_append, bits_length]
    omega
  have hwh := Lib.hid (whole_calls w4b.heap.size r8 (ownBits (chars s)) w8 hw9 (by omega))
  clear hpt hw8 hw9 hbl
  go_wp2_with fail
  refine hwh.out.mono ?_
  rintro e w9 ⟨r9, rfl, hw9, M9⟩
  obtain ⟨O9, hb9⟩ := M9.on O8 (Nat.le_refl _) hb8
  obtain ⟨v, c0, hconv⟩ := hw9.text (by rw [pad_length]; omega)
  have Ot := Ot4.call O9
  clear hw9
  go_wp2_with fail
  go_ret
  exact ⟨by rw [HR.out]; rfl, Ot⟩
set_option maxRecDepth 100000 in
theorem sownput_calls (s : ByteArray) (w : World) :
    Calls Tryd.prog 27 #[.string s] w (Tells w (.string (ownB s))) := by
  by_cases h : s.size ≤ 300
  · have h' : (s.size : Int) ≤ 300 := by omega
    have HR : RowKit.Hid (ownB s = strB (En.ownPut (chars s))) := Lib.hid (by unfold ownB; rw [if_pos h])
    go_enter Tryd.func27, Tryd.ntmps27
    go_wp2_with fail
    refine (sown_calls s h w).mono ?_
    rintro e w1 ⟨rfl, O1⟩
    go_wp2_with fail
    go_ret
    exact ⟨by rw [HR.out]; rfl, O1⟩
  · have h' : (300 : Int) < s.size := by omega
    have HR : RowKit.Hid (ownB s = ⟨#[]⟩) := Lib.hid (by unfold ownB; rw [if_neg h])
    go_enter Tryd.func27, Tryd.ntmps27
    go_wp2_with fail
    go_ret
    exact ⟨by rw [HR.out]; rfl, On.refl _⟩
set_option maxRecDepth 100000 in
theorem sflateput_calls (s : ByteArray) (w : World) :
    Calls Tryd.prog 33 #[.string s] w (Tells w (.string (flateB s))) := by
  by_cases h : s.size ≤ 300
  · have h' : (s.size : Int) ≤ 300 := by omega
    have HR : RowKit.Hid (flateB s = pickTo (strB (En.store (chars s))) (strB (En.fixed (chars s))) (strB (En.ownPut (chars s))) 2) := Lib.hid (by unfold flateB; rw [if_pos h]; exact flate_pick s h)
    have HS := Lib.hid (fun w => sstore_calls s w h)
    have HK := Lib.hid (fun w => sknown_calls s h w)
    have HO := Lib.hid (fun w => sown_calls s h w)
    generalize strB (En.store (chars s)) = x at *
    generalize strB (En.fixed (chars s)) = y at *
    generalize strB (En.ownPut (chars s)) = z at *
    go_enter Tryd.func33, Tryd.ntmps33
    go_wp2_with fail
    refine (HS.out w).mono ?_
    rintro e w1 ⟨rfl, O1⟩
    go_wp2_with fail
    refine (HK.out w1).mono ?_
    rintro e w2 ⟨rfl, O2⟩
    go_wp2_with fail
    refine (HO.out w2).mono ?_
    rintro e w3 ⟨rfl, O3⟩
    go_wp2_with fail
    have BB := Blk.new w3 9 #[.string y, .string z]
    have O4 := (O1.call (O2.call O3)).alloc (.cells #[.string y, .string z] 9)
    generalize hB : w3.heap.size = B at *
    generalize w3.alloc (.cells #[.string y, .string z] 9) = w4 at *
    go_loop [3, 5] (fun o i => ∃ k : Nat, k ≤ 2 ∧ i = .int .i64 (k : Int) ∧ o = .string (pickTo x y z k)) (fun _ i => 2 - (intOf i).toNat)
    case atStart => exact ⟨0, by omega, rfl, rfl⟩
    case round =>
      obtain ⟨k, hk, rfl, rfl⟩ := hrel
      by_cases hlt : k < 2
      · obtain ⟨v, c0, hv⟩ : ∃ v, w4.cell? ⟨B, k, none⟩ = some (.string v) ∧ pickTo x y z (k + 1) = choose (pickTo x y z k) v := by
          rcases (show k = 0 ∨ k = 1 by omega) with rfl | rfl
          · exact ⟨y, (BB.cell 0).trans rfl, rfl⟩
          · exact ⟨z, (BB.cell 1).trans rfl, rfl⟩
        have HV := Lib.hid hv
        clear hv
        have hlt' : (k : Int) < 2 := by omega
        generalize pickTo x y z k = p at *
        by_cases hs : v.size < p.size
        · have hs' : (v.size : Int) < (p.size : Int) := by omega
          have HC : RowKit.Hid (pickTo x y z (k + 1) = v) := Lib.hid (by rw [HV.out]; unfold choose; rw [if_pos hs])
          go_wp2_with fail
          go_round
          case rel => exact ⟨k + 1, by omega, by go_num, by rw [HC.out]⟩
          case measure => simp [intOf]; omega
        · have hs' : ¬ (v.size : Int) < (p.size : Int) := by omega
          have HC : RowKit.Hid (pickTo x y z (k + 1) = p) := Lib.hid (by rw [HV.out]; unfold choose; rw [if_neg hs])
          go_wp2_with fail
          go_round
          case rel => exact ⟨k + 1, by omega, by go_num, by rw [HC.out]⟩
          case measure => simp [intOf]; omega
      · obtain rfl : k = 2 := by omega
        go_wp2_with fail
        go_ret
        exact ⟨by rw [HR.out]; rfl, O4⟩
  · have h' : (300 : Int) < s.size := by omega
    have HR : RowKit.Hid (flateB s = ⟨#[]⟩) := Lib.hid (by unfold flateB; rw [if_neg h])
    go_enter Tryd.func33, Tryd.ntmps33
    go_wp2_with fail
    go_ret
    exact ⟨by rw [HR.out]; rfl, On.refl _⟩
end Go.Proofs.YtncidljdfipigaaDoor.Wi

