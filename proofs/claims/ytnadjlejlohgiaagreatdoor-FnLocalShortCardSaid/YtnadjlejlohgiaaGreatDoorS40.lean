/- Own texts joined: Hj, Hk, Hu. -/
import Derived.Test.YtnadjlejlohgiaaGreatDoorS11
import Derived.Test.YtnadjlejlohgiaaGreatDoorS25
import Derived.Test.YtnadjlejlohgiaaGreatDoorS28
/- The program's heaps in memory, and what takes the least one out. Conditions: rows that are only read; the least symbol stands at the head. -/
namespace Go.Proofs.YtnadjlejlohgiaaGreatDoor.Wi
open Go.RowKit Go.Proofs.YtnadjlejlohgiaaGreatDoor.Mem Go.Proofs.YtnadjlejlohgiaaGreatDoor.Hf
set_option linter.unusedVariables false
set_option linter.unusedSimpArgs false
def hcell (x : Tr) : List Value := [.int .i64 (x.1.c : Int), .slice (some ⟨x.2.1, 0, none⟩) x.1.s.length x.2.2]
def hcells (X : List Tr) : List Value := X.flatMap hcell
theorem hcells_length (X : List Tr) : (hcells X).length = 2 * X.length := by
  induction X with
  | nil => rfl
  | cons x X ih =>
    have e : hcells (x :: X) = hcell x ++ hcells X := rfl
    rw [e, List.length_append, ih, List.length_cons]
    show 2 + _ = _
    omega
theorem hcells_append (X Y : List Tr) : hcells (X ++ Y) = hcells X ++ hcells Y := by unfold hcells; rw [List.flatMap_append]
theorem hcells_get : ∀ (X : List Tr) {i : Nat} (h : i < X.length), (hcells X)[2 * i]? = some (.int .i64 (X[i].1.c : Int)) ∧ (hcells X)[2 * i + 1]? = some (.slice (some ⟨X[i].2.1, 0, none⟩) X[i].1.s.length X[i].2.2)
  | x :: X, 0, _ => ⟨rfl, rfl⟩
  | x :: X, i + 1, h => by
    have e : hcells (x :: X) = hcell x ++ hcells X := rfl
    have h3 : (hcell x).length = 2 := rfl
    obtain ⟨a, b⟩ := hcells_get X (i := i) (by simpa using h)
    rw [e]
    refine ⟨?_, ?_⟩
    · rw [List.getElem?_append_right (by rw [h3]; omega), h3, show 2 * (i + 1) - 2 = 2 * i from by omega]; exact a
    · rw [List.getElem?_append_right (by rw [h3]; omega), h3, show 2 * (i + 1) + 1 - 2 = 2 * i + 1 from by omega]; exact b
theorem hcells_take : ∀ (X : List Tr) (k : Nat), hcells (X.take k) = (hcells X).take (2 * k)
  | _, 0 => by simp [hcells]
  | [], k + 1 => by simp [hcells]
  | x :: X, k + 1 => by
    have e : hcells (x :: X) = hcell x ++ hcells X := rfl
    have e2 : hcells ((x :: X).take (k + 1)) = hcell x ++ hcells (X.take k) := rfl
    have h3 : (hcell x).length = 2 := rfl
    rw [e, e2, hcells_take X k, List.take_append, h3, show 2 * (k + 1) - 2 = 2 * k from by omega, List.take_of_length_le (l := hcell x) (by rw [h3]; omega)]
theorem hcells_drop : ∀ (X : List Tr) (k : Nat), hcells (X.drop k) = (hcells X).drop (2 * k)
  | _, 0 => by simp
  | [], k + 1 => by simp [hcells]
  | x :: X, k + 1 => by
    have e : hcells (x :: X) = hcell x ++ hcells X := rfl
    have h3 : (hcell x).length = 2 := rfl
    rw [List.drop_succ_cons, hcells_drop X k, e, List.drop_append, h3, show 2 * (k + 1) - 2 = 2 * k from by omega, show List.drop (2 * (k + 1)) (hcell x) = [] from List.drop_eq_nil_of_le (by rw [h3]; omega), List.nil_append]
theorem hcells_erase (X : List Tr) (k : Nat) : hcells (X.eraseIdx k) = (hcells X).take (2 * k) ++ (hcells X).drop (2 * (k + 1)) := by
  rw [List.eraseIdx_eq_take_drop_succ, hcells_append, hcells_take, hcells_drop]
theorem hcells_one (X : List Tr) {u : Value} (hu : u ∈ hcells X) : u.oneCell' = true := by
  unfold hcells at hu
  obtain ⟨x, _, hx⟩ := List.mem_flatMap.1 hu
  simp [hcell] at hx
  rcases hx with rfl | rfl <;> rfl
theorem heapinfo : (Tryz.prog.info? 147).map (fun i => (i.zero, i.size, i.bytes)) = some (some (.agg #[.int .i64 0, .slice none 0 0]), 2, 32) := by kernel_rfl
/-- A row of numbers is no row of heaps. -/
theorem rowo_neh {w : World} {g g' o : Nat} {xs ys : List Value} (h : RowO w g o 3 xs) (h' : Row w g' 147 ys) : g ≠ g' := by
  rintro rfl
  obtain ⟨cs, hb, _⟩ := h.out
  obtain ⟨ds, hd, _⟩ := h'.out
  have := hb.out.symm.trans hd.out
  simp at this
/-- What the program's least tells: the least, and the rest. -/
structure LeastOut (w : World) (X : List Tr) (n : Nat) (e : Ending) (w' : World) : Prop where mk ::
  out : ∃ (k : Nat) (x : Tr) (v : Value), least (X.map (·.1)) = k ∧ X[k]? = some x ∧ e = .returned (.tuple #[.agg #[.int .i64 (x.1.c : Int), .slice (some ⟨x.2.1, 0, none⟩) x.1.s.length x.2.2], v]) ∧ Own w.heap.size w' 147 2 v (n - 1) (hcells (X.eraseIdx k)) ∧ On w w'
set_option maxRecDepth 100000 in
set_option maxHeartbeats 2000000 in
theorem ileast_calls (X : List Tr) (g n cap base : Nat) (w : World) (hX : Row w g 147 (hcells X)) (hS : Syms w base X) (hH : ∀ x ∈ X, Headed x.1) (hn : X.length = n) (hn1 : 1 ≤ n) (hn2 : n ≤ 1000) (hnc : n ≤ cap) (hc : ∀ x ∈ X, x.1.c ≤ 100000000 ∧ x.1.f ≤ 1000) :
    Calls Tryz.prog 140 #[.slice (some ⟨g, 0, none⟩) n cap] w (LeastOut w X n) := by
  have HN := Lib.hid hn
  clear hn
  obtain ⟨i2, hi2, hz2, hs2, hb2⟩ := info_parts heapinfo
  have hgw := hX.lt
  have hget : ∀ i, i < n → ∃ c f q m cq, c ≤ 100000000 ∧ f ≤ 1000 ∧ 0 < m ∧ ((X.map (·.1)).getD i dflt).c = c ∧ ((X.map (·.1)).getD i dflt).f = f ∧ (∀ w', On w w' → w'.cell? ⟨g, i * 2, none⟩ = some (.int .i64 (c : Int)) ∧ w'.cell? ⟨g, i * 2 + 1, none⟩ = some (.slice (some ⟨q, 0, none⟩) m cq) ∧ w'.cell? ⟨q, 0, none⟩ = some (.int .i64 (f : Int))) := by
    intro i hi
    have hiX : i < X.length := by rw [HN.out]; exact hi
    obtain ⟨a, b⟩ := hcells_get X hiX
    have hxm := List.getElem_mem hiX
    have hm := hc X[i] hxm
    have hd := hH X[i] hxm
    have hr := (hS X[i] hxm).1
    have e : (X.map (·.1)).getD i dflt = X[i].1 := by rw [List.getD_eq_getElem?_getD, List.getElem?_map, List.getElem?_eq_getElem hiX]; rfl
    refine ⟨X[i].1.c, X[i].1.f, X[i].2.1, X[i].1.s.length, X[i].2.2, hm.1, hm.2, hd.h0, by rw [e], by rw [e], fun w' O => ⟨?_, ?_, ?_⟩⟩
    · rw [Nat.mul_comm i 2]; exact (hX.on O).cell a
    · rw [Nat.mul_comm i 2]; exact (hX.on O).cell b
    · have := (hr.on O).cell (i64s_get hd.h0)
      rw [hd.head] at this
      exact this
  have HNEW1 := Lib.hid (show ∀ k W, On w W → ∀ j u, ((hcells X).take (2 * k))[j]? = some u → W.cell? ((⟨g, 0, none⟩ : Addr).add j) = some u from fun k W O j u hu => by
    have ha : (⟨g, 0, none⟩ : Addr).add j = ⟨g, j, none⟩ := by unfold Addr.add; split <;> simp_all
    rw [ha]
    refine (hX.on O).cell ?_
    rw [List.getElem?_take] at hu
    split at hu
    · exact hu
    · cases hu)
  have HX := Lib.hid hX
  have HGET := Lib.hid hget
  clear hget hc hX hS hH
  obtain ⟨L, hL⟩ : ∃ L, X.map (·.1) = L := ⟨_, rfl⟩
  have hLn : L.length = n := by rw [← hL, List.length_map, HN.out]
  rw [hL] at HGET
  have HLN := Lib.hid hLn
  have HLX := Lib.hid hL
  clear hL hLn
  have hn0 : (0 : Int) < n := by omega
  go_enter Tryz.func140, Tryz.ntmps140
  go_wp2_with fail
  have B0 := Blk.new w 147 #[.int .i64 0, .slice none 0 0]
  have O0 := (On.refl w).alloc (.cells #[.int .i64 0, .slice none 0 0] 147)
  generalize hRB : w.heap.size = R at *
  have HRB := Lib.hid hRB
  clear hRB
  generalize w.alloc (.cells #[.int .i64 0, .slice none 0 0] 147) = w1 at *
  go_loopw [4, 10] (fun a x wr => ∃ (k m : Nat), x = .int .i64 (k : Int) ∧ k ≤ n ∧ a = .int .i64 (m : Int) ∧ m < n ∧ RowKit.Hid (m = leastTo L (k - 1)) ∧ On w1 wr) (fun _ x _ => n - (intOf x).toNat)
  case atStart => exact ⟨0, 0, rfl, by omega, rfl, by omega, Lib.hid rfl, On.refl _⟩
  case round =>
    obtain ⟨k, m, rfl, hk, rfl, hm, HM, O1⟩ := hrel
    have O := O0.call O1
    by_cases hlt : k < n
    · obtain ⟨ck, fk, qk, mk, sk, hck, hfk, hmk, eck, efk, cellk⟩ := HGET.out k hlt
      obtain ⟨cm, fm, qm, mm, sm, hcm, hfm, hmm, ecm, efm, cellm⟩ := HGET.out m hm
      have HT := Lib.hid (show leastTo L k = if less (L.getD k dflt) (L.getD m dflt) then k else m from by
        cases k with
        | zero =>
          have : m = 0 := HM.out
          subst this
          split <;> rfl
        | succ j => rw [leastTo, HM.out]; rfl)
      have HLS := Lib.hid (show less (L.getD k dflt) (L.getD m dflt) = decide (ck < cm ∨ ck = cm ∧ fk < fm) from by unfold less; rw [eck, efk, ecm, efm])
      clear eck efk ecm efm
      obtain ⟨a0, a1, _⟩ := cellk wr O
      have hk2 : (k : Int) < n := by omega
      have hm2 : (m : Int) < n := by omega
      have OA := (On.refl wr).alloc (.cells #[.int .i64 (ck : Int), .slice (some ⟨qk, 0, none⟩) mk sk] 147)
      have BA := Blk.new wr 147 #[.int .i64 (ck : Int), .slice (some ⟨qk, 0, none⟩) mk sk]
      obtain ⟨_, _, k2⟩ := cellk _ (O.call OA)
      obtain ⟨m0, m1, m2⟩ := cellm _ (O.call OA)
      have O1A := O1.call OA
      clear cellk cellm
      go_upto_region 5 with fail
      generalize hPA : wr.heap.size = pa at *
      have HPA := Lib.hid hPA
      clear hPA
      generalize wr.alloc (.cells #[.int .i64 (ck : Int), .slice (some ⟨qk, 0, none⟩) mk sk] 147) = wa at *
      have p0 : wa.cell? ⟨pa, 0, none⟩ = some (.int .i64 (ck : Int)) := (BA.cell 0).trans rfl
      have p1 : wa.cell? ⟨pa, 1, none⟩ = some (.slice (some ⟨qk, 0, none⟩) mk sk) := (BA.cell 1).trans rfl
      have hmk' : (0 : Int) < mk := by omega
      have hmm' : (0 : Int) < mm := by omega
      clear a0 a1 BA
      by_cases h1 : ck < cm
      · have h1' : decide ((ck : Int) < (cm : Int)) = true := by simp; omega
        have h1'' : (ck : Int) < (cm : Int) := by omega
        go_quiet (fail)
        go_wp2_with fail
        go_roundw
        case rel => exact ⟨k + 1, k, by go_num, by omega, rfl, by omega, Lib.hid (by rw [show k + 1 - 1 = k from by omega, HT.out, HLS.out, if_pos (by simp; omega)]), O1A.drewN _⟩
        case measure => simp [intOf]; omega
      · have h1' : decide ((ck : Int) < (cm : Int)) = false := by simp; omega
        by_cases h2 : ck = cm
        · subst h2
          have h2' : ((ck : Int) == (ck : Int)) = true := by simp
          by_cases h3 : fk < fm
          · have h3' : decide ((fk : Int) < (fm : Int)) = true := by simp; omega
            have h3'' : (fk : Int) < (fm : Int) := by omega
            go_quiet (fail)
            go_wp2_with fail
            go_roundw
            case rel => exact ⟨k + 1, k, by go_num, by omega, rfl, by omega, Lib.hid (by rw [show k + 1 - 1 = k from by omega, HT.out, HLS.out, if_pos (by simp; omega)]), O1A.drewN _⟩
            case measure => simp [intOf]; omega
          · have h3' : decide ((fk : Int) < (fm : Int)) = false := by simp; omega
            go_quiet (fail)
            go_wp2_with fail
            go_roundw
            case rel => exact ⟨k + 1, m, by go_num, by omega, rfl, by omega, Lib.hid (by rw [show k + 1 - 1 = k from by omega, HT.out, HLS.out, if_neg (by simp; omega)]), O1A.drewN _⟩
            case measure => simp [intOf]; omega
        · have h2' : ((ck : Int) == (cm : Int)) = false := by simp; omega
          go_quiet (fail)
          go_wp2_with fail
          go_roundw
          case rel => exact ⟨k + 1, m, by go_num, by omega, rfl, by omega, Lib.hid (by rw [show k + 1 - 1 = k from by omega, HT.out, HLS.out, if_neg (by simp; omega)]), O1A.drewN _⟩
          case measure => simp [intOf]; omega
    · have hkn : k = n := by omega
      have hle : m = least L := by unfold least; rw [HM.out, HLN.out, hkn]
      have HLE := Lib.hid hle
      have hk' : ¬ (k : Int) < (n : Int) := by omega
      have hmX : m < X.length := by rw [HN.out]; exact hm
      obtain ⟨ga0, ga1⟩ := hcells_get X hmX
      have r6 := HX.out.on O
      have d0 := r6.cell ga0
      have d1 := r6.cell ga1
      rw [Nat.mul_comm 2 m] at d0 d1
      obtain ⟨xa, hxa⟩ : ∃ xa, X[m] = xa := ⟨_, rfl⟩
      rw [hxa] at d0 d1
      have HXA := Lib.hid (show X[m]? = some xa from by rw [List.getElem?_eq_getElem hmX, hxa])
      have OA := (On.refl wr).alloc (.cells #[.int .i64 (xa.1.c : Int), .slice (some ⟨xa.2.1, 0, none⟩) xa.1.s.length xa.2.2] 147)
      have BA := Blk.new wr 147 #[.int .i64 (xa.1.c : Int), .slice (some ⟨xa.2.1, 0, none⟩) xa.1.s.length xa.2.2]
      have BR := B0.call (O1.call OA).out
      have OwS := O.call OA
      have hRl := B0.lt
      have hz1 := O1.size
      clear hkn hle hxa ga0 ga1 hmX r6 HM HGET
      have hm2 : (m : Int) < n := by omega
      have hkk : (m : Int) ≤ n := by omega
      have hk1 : (m : Int) + 1 ≤ n := by omega
      have hk3 : (m : Int) ≤ cap := by omega
      have hk5 : (n : Int) ≤ cap := by omega
      have hk6 : (0 : Int) ≤ (m : Int) + 1 := by omega
      have ek : IntKind.i64.wrap ((m : Int) + 1) = (m : Int) + 1 := by rw [IntKind.wrap_i64]; omega
      go_upto_region 9 with fail
      generalize hPA : wr.heap.size = pa at *
      have hpR : pa ≠ R := by omega
      have HPA := Lib.hid hPA
      clear hPA
      generalize wr.alloc (.cells #[.int .i64 (xa.1.c : Int), .slice (some ⟨xa.2.1, 0, none⟩) xa.1.s.length xa.2.2] 147) = wS at *
      have HCP := Lib.hid (show ∀ W, Kp [R] wS W → W.cell? ⟨pa, 0, none⟩ = some (.int .i64 (xa.1.c : Int)) ∧ W.cell? ⟨pa, 1, none⟩ = some (.slice (some ⟨xa.2.1, 0, none⟩) xa.1.s.length xa.2.2) from fun W h => ⟨(h.cell BA.lt (by simpa using hpR)).trans ((BA.cell 0).trans rfl), (h.cell BA.lt (by simpa using hpR)).trans ((BA.cell 1).trans rfl)⟩)
      clear d0 d1 BA
      by_cases hck : cap = m + 1
      · subst hck
        have hn1' : n = m + 1 := by omega
        have hnk : (n : Int) ≤ (m : Int) + 1 := by omega
        have hmm1 : (m : Int) ≤ (m : Int) + 1 := by omega
        have HN1 := Lib.hid hn1'
        clear hn1'
        have HNEW2 := Lib.hid (show ∀ W, On w W → ∀ j u, ((hcells X).drop (2 * (m + 1)))[j]? = some u → W.cell? ((⟨g, 0, none⟩ : Addr).add j) = some u from fun W O j u hu => by
          rw [List.drop_eq_nil_of_le (by rw [hcells_length, HN.out]; have := HN1.out; omega)] at hu
          simp at hu)
        have CP0 := fun W h => (HCP.out W h).1
        have CP1 := fun W h => (HCP.out W h).2
        refine wp_region_held_drew (S := fun W => Kp [R] wS W) (by kernel_rfl) (Kp.refl _ _).drew (fun hHeld => ?_)
        have OwD := (On.refl wS).drew
        have OWD := OwS.call OwD
        refine wpAnyH_take (i := 0) (oi := _) (v := ?_) rfl (by kernel_rfl) (by kernel_rfl) (by kernel_rfl) (fun _ _ _ h => h) (Or.inl ⟨by rfl, ?_⟩) (by assumption) ?_
        rotate_left
        · intro w hSw
          go_simp
          first | done | with_reducible rfl
        try simp only [Act.put, List.setIfInBounds_toArray, List.set_cons_zero, List.set_cons_succ]
        refine wpAnyH_take (i := 2) (oi := _) (v := ?_) rfl (by kernel_rfl) (by kernel_rfl) (by kernel_rfl) (fun _ _ _ h => h) (Or.inl ⟨by rfl, ?_⟩) (by assumption) ?_
        rotate_left
        · intro w hSw
          go_simp
          first | done | with_reducible rfl
        try simp only [Act.put, List.setIfInBounds_toArray, List.set_cons_zero, List.set_cons_succ]
        refine wpAnyH_take (i := 3) (oi := _) (v := ?_) rfl (by kernel_rfl) (by kernel_rfl) (by kernel_rfl) (fun _ _ _ h => h) (Or.inl ⟨by rfl, ?_⟩) (by assumption) ?_
        rotate_left
        · intro w hSw
          go_simp
          first | done | with_reducible rfl
        try simp only [Act.put, List.setIfInBounds_toArray, List.set_cons_zero, List.set_cons_succ]
        refine wpAnyH_take (i := 4) (oi := _) (v := ?_) rfl (by kernel_rfl) (by kernel_rfl) (by kernel_rfl) (fun _ _ _ h => h) (Or.inl ⟨by rfl, ?_⟩) (by assumption) ?_
        rotate_left
        · intro w hSw
          go_simp
          first | done | with_reducible rfl
        try simp only [Act.put, List.setIfInBounds_toArray, List.set_cons_zero, List.set_cons_succ]
        refine wpAnyH_take (i := 6) (oi := _) (v := ?_) rfl (by kernel_rfl) (by kernel_rfl) (by kernel_rfl) (fun _ _ _ h => h) (Or.inl ⟨by rfl, ?_⟩) (by assumption) ?_
        rotate_left
        · intro w hSw
          go_simp
          first | done | with_reducible rfl
        try simp only [Act.put, List.setIfInBounds_toArray, List.set_cons_zero, List.set_cons_succ]
        refine wpAnyH_take (i := 7) (oi := _) (v := ?_) rfl (by kernel_rfl) (by kernel_rfl) (by kernel_rfl) (fun _ _ _ h => h) (Or.inl ⟨by rfl, ?_⟩) (by assumption) ?_
        rotate_left
        · intro w hSw
          go_simp
          first | done | with_reducible rfl
        try simp only [Act.put, List.setIfInBounds_toArray, List.set_cons_zero, List.set_cons_succ]
        refine wpAnyH_take (i := 8) (oi := _) (v := ?_) rfl (by kernel_rfl) (by kernel_rfl) (by kernel_rfl) (fun _ _ _ h => h) (Or.inl ⟨by rfl, ?_⟩) (by assumption) ?_
        rotate_left
        · intro w hSw
          go_simp
          first | done | with_reducible rfl
        try simp only [Act.put, List.setIfInBounds_toArray, List.set_cons_zero, List.set_cons_succ]
        refine wpAnyH_take (i := 9) (oi := _) (v := ?_) rfl (by kernel_rfl) (by kernel_rfl) (by kernel_rfl) (fun _ _ _ h => h) (Or.inl ⟨by rfl, ?_⟩) (by assumption) ?_
        rotate_left
        · intro w hSw
          go_simp
          first | done | with_reducible rfl
        try simp only [Act.put, List.setIfInBounds_toArray, List.set_cons_zero, List.set_cons_succ]
        refine wpAnyH_strong (S' := fun W => Kp [R] wS.drew W) (fun W h => Kp.then (Kp.of [R] OwD) h) ?_
        have hHeldN : (fun W => Kp [R] wS.drew W) wS.drew := Kp.refl _ _
        clear CP0 CP1
        have BR := BR.drew
        generalize wS.drew = wD at *
        refine wpAnyH_ready (rs := [1]) (by kernel_rfl) (by simp) ?_
        refine AllReadyH.cons (o := _) rfl (fun K hK => ?_) AllReadyH.nil
        go_simp
        have OA := (On.refl wD).alloc (.cells #[] 147)
        have NA := Own.new (base := w.heap.size) wD 147 2 #[] 0 (Nat.zero_le _) rfl OWD.size
        have OwA := OWD.call OA
        have hzD := OWD.size
        refine hK.out _ _ (Kp.of [R] OA) (fun hHeld => ?_)
        clear hK K
        try simp only [Act.put, List.setIfInBounds_toArray, List.set_cons_zero, List.set_cons_succ]
        generalize hA : wD.heap.size = A at *
        generalize wD.alloc (.cells #[] 147) = wA at *
        refine wpAnyH_ready (rs := [5]) (by kernel_rfl) (by simp) ?_
        refine AllReadyH.cons (o := _) rfl (fun K hK => ?_) AllReadyH.nil
        refine step_append_any rfl _ _ 145 rfl w.heap.size 147 i2 (.agg #[.int .i64 0, .slice none 0 0]) 2 32 Tryz.underlying145 hi2 hz2 hs2 hb2 rfl (by omega) (.slice (some ⟨A, 0, none⟩) 0 0) 0 [] rfl NA.own ⟨g, 0, none⟩ m (m + 1) ((hcells X).take (2 * m)) rfl (by rw [List.length_take, hcells_length, HN.out]; omega) (fun j u hu => HNEW1.out m wA OwA j u hu) (fun u hu => hcells_one _ (List.mem_of_mem_take hu)) (by unfold maxLen; omega) (by omega) OwA.size ?_
        intro v1 w4 hown1 hgr1 hnil1 hob1
        have HOB : (Value.slice (some ⟨A, 0, none⟩) 0 0).ownBlock = some A := rfl
        have hv1 : ∀ y, v1.ownBlock = some y → wD.heap.size ≤ y := fun y hy => by
          rcases hob1 with e | e
          · rw [e, HOB] at hy; cases hy; omega
          · rw [e] at hy; cases hy; exact OA.size
        have Ow1 : On w w4 := OwA.grown hgr1 (fun y hy => by rw [HOB] at hy; cases hy; omega)
        have O4 : On wD w4 := OA.grown hgr1 (fun y hy => by rw [HOB] at hy; cases hy; omega)
        have hnn1 : v1 ≠ .slice none 0 0 := fun e => by cases (hnil1.1 e).1
        show K (Act.put _ (some 58) v1) w4
        refine hK.out _ _ (Kp.of [R] O4) (fun hHeld => ?_)
        clear hK K
        try simp only [Act.put, List.setIfInBounds_toArray, List.set_cons_zero, List.set_cons_succ]
        refine wpAnyH_ready (rs := [10]) (by kernel_rfl) (by simp) ?_
        refine AllReadyH.cons (o := _) rfl (fun K hK => ?_) AllReadyH.nil
        refine step_append_any rfl _ _ 145 rfl w.heap.size 147 i2 (.agg #[.int .i64 0, .slice none 0 0]) 2 32 Tryz.underlying145 hi2 hz2 hs2 hb2 rfl (by omega) v1 (0 + m) _ rfl hown1 ⟨g, 0, none⟩ 0 0 ((hcells X).drop (2 * (m + 1))) rfl (by rw [List.length_drop, hcells_length, HN.out]; have := HN1.out; omega) (fun j u hu => HNEW2.out w4 Ow1 j u hu) (fun u hu => hcells_one _ (List.mem_of_mem_drop hu)) (by unfold maxLen; omega) (by omega) Ow1.size ?_
        intro v2 w5 hown2 hgr2 hnil2 hob2
        have Ow2 : On w w5 := Ow1.grown hgr2 (fun y hy => by have := hv1 y hy; omega)
        have O5 : On wD w5 := O4.grown hgr2 hv1
        have BR5 := BR.call O5.out
        have hRw := HRB.out
        have hv2 : ∀ y, v2.ownBlock = some y → y ≠ R := fun y hy => by
          have := BR.lt
          rcases hob2 with e | e
          · rw [e] at hy; have := hv1 y hy; omega
          · rw [e] at hy; cases hy; have := O4.size; omega
        have hnn2 : v2 ≠ .slice none 0 0 := fun e => hnn1 (hnil2.1 e).1
        show K (Act.put _ (some 63) v2) w5
        refine hK.out _ _ (Kp.of [R] O5) (fun hHeld => ?_)
        clear hK K
        try simp only [Act.put, List.setIfInBounds_toArray, List.set_cons_zero, List.set_cons_succ]
        have ce0 : w5.cell? ⟨R, 0, none⟩ = some (.int .i64 0) := (BR5.cell 0).trans rfl
        have ce1 : w5.cell? ⟨R, 1, none⟩ = some (.slice none 0 0) := (BR5.cell 1).trans rfl
        have fe : ∀ i, w5.frozen? ⟨R, i, none⟩ = false := BR5.frozen
        refine wpAnyH_ready (rs := [11]) (by kernel_rfl) (by simp) ?_
        refine AllReadyH.cons (o := _) rfl (fun K hK => ?_) AllReadyH.nil
        go_simp
        have KS : Kp [R] w5 ((w5.setCell ⟨R, 0, none⟩ (.int .i64 (xa.1.c : Int))).setCell ⟨R, 1, none⟩ (.slice (some ⟨xa.2.1, 0, none⟩) xa.1.s.length xa.2.2)) := ((Kp.refl _ _).set (.inl (by simp)) _).set (.inl (by simp)) _
        have BF := (BR5.set 0 (.int .i64 (xa.1.c : Int))).set 1 (.slice (some ⟨xa.2.1, 0, none⟩) xa.1.s.length xa.2.2)
        refine hK.out _ _ ((Kp.of [R] O5).then KS) (fun hHeld => ?_)
        clear hK K
        try simp only [Act.put, List.setIfInBounds_toArray, List.set_cons_zero, List.set_cons_succ]
        refine wpAnyH_take (i := 12) (oi := _) (v := ?_) rfl (by kernel_rfl) (by kernel_rfl) (by kernel_rfl) (fun _ _ _ h => h) (Or.inl ⟨by rfl, ?_⟩) (by assumption) ?_
        rotate_left
        · intro w hSw
          go_simp
          first | done | with_reducible rfl
        try simp only [Act.put, List.setIfInBounds_toArray, List.set_cons_zero, List.set_cons_succ]
        refine wpAnyH_done (by kernel_rfl) ?_ _
        clear ce0 ce1 fe hHeld hHeldN
        generalize ((w5.setCell ⟨R, 0, none⟩ (.int .i64 (xa.1.c : Int))).setCell ⟨R, 1, none⟩ (.slice (some ⟨xa.2.1, 0, none⟩) xa.1.s.length xa.2.2)) = w6 at *
        go_wp2_with fail
        refine bodyPost_ret (v := .tuple #[.agg #[.int .i64 (xa.1.c : Int), .slice (some ⟨xa.2.1, 0, none⟩) xa.1.s.length xa.2.2], v2]) (by exact res_ct (fn := Tryz.f140) (p := 2) (u := 3) rfl BF rfl Tryz.underlying147 rfl (by kernel_rfl)) rfl ⟨m, xa, v2, by rw [HLX.out]; exact HLE.out.symm, HXA.out, rfl, ⟨KS.owns ?_ (fun y hy => by simpa using hv2 y hy), hnn2⟩, KS.on Ow2 (fun x hx => by simp at hx; omega)⟩
        rw [hcells_erase, show n - 1 = 0 + m + 0 from by have := HN1.out; omega]
        exact hown2
      · have HNEW2 := Lib.hid (show ∀ W, On w W → ∀ j u, ((hcells X).drop (2 * (m + 1)))[j]? = some u → W.cell? ((⟨g, (m + 1) * 2, none⟩ : Addr).add j) = some u from fun W O j u hu => by
          have ha : (⟨g, (m + 1) * 2, none⟩ : Addr).add j = ⟨g, (m + 1) * 2 + j, none⟩ := by unfold Addr.add; split <;> simp_all
          rw [ha]
          refine (HX.out.on O).cell ?_
          rw [List.getElem?_drop] at hu
          rw [Nat.mul_comm (m + 1) 2]; exact hu)
        have CP0 := fun W h => (HCP.out W h).1
        have CP1 := fun W h => (HCP.out W h).2
        refine wp_region_held_drew (S := fun W => Kp [R] wS W) (by kernel_rfl) (Kp.refl _ _).drew (fun hHeld => ?_)
        have OwD := (On.refl wS).drew
        have OWD := OwS.call OwD
        refine wpAnyH_take (i := 0) (oi := _) (v := ?_) rfl (by kernel_rfl) (by kernel_rfl) (by kernel_rfl) (fun _ _ _ h => h) (Or.inl ⟨by rfl, ?_⟩) (by assumption) ?_
        rotate_left
        · intro w hSw
          go_simp
          first | done | with_reducible rfl
        try simp only [Act.put, List.setIfInBounds_toArray, List.set_cons_zero, List.set_cons_succ]
        refine wpAnyH_take (i := 2) (oi := _) (v := ?_) rfl (by kernel_rfl) (by kernel_rfl) (by kernel_rfl) (fun _ _ _ h => h) (Or.inl ⟨by rfl, ?_⟩) (by assumption) ?_
        rotate_left
        · intro w hSw
          go_simp
          first | done | with_reducible rfl
        try simp only [Act.put, List.setIfInBounds_toArray, List.set_cons_zero, List.set_cons_succ]
        refine wpAnyH_take (i := 3) (oi := _) (v := ?_) rfl (by kernel_rfl) (by kernel_rfl) (by kernel_rfl) (fun _ _ _ h => h) (Or.inl ⟨by rfl, ?_⟩) (by assumption) ?_
        rotate_left
        · intro w hSw
          go_simp
          first | done | with_reducible rfl
        try simp only [Act.put, List.setIfInBounds_toArray, List.set_cons_zero, List.set_cons_succ]
        refine wpAnyH_take (i := 4) (oi := _) (v := ?_) rfl (by kernel_rfl) (by kernel_rfl) (by kernel_rfl) (fun _ _ _ h => h) (Or.inl ⟨by rfl, ?_⟩) (by assumption) ?_
        rotate_left
        · intro w hSw
          go_simp
          first | done | with_reducible rfl
        try simp only [Act.put, List.setIfInBounds_toArray, List.set_cons_zero, List.set_cons_succ]
        refine wpAnyH_take (i := 6) (oi := _) (v := ?_) rfl (by kernel_rfl) (by kernel_rfl) (by kernel_rfl) (fun _ _ _ h => h) (Or.inl ⟨by rfl, ?_⟩) (by assumption) ?_
        rotate_left
        · intro w hSw
          go_simp
          first | done | with_reducible rfl
        try simp only [Act.put, List.setIfInBounds_toArray, List.set_cons_zero, List.set_cons_succ]
        refine wpAnyH_take (i := 7) (oi := _) (v := ?_) rfl (by kernel_rfl) (by kernel_rfl) (by kernel_rfl) (fun _ _ _ h => h) (Or.inl ⟨by rfl, ?_⟩) (by assumption) ?_
        rotate_left
        · intro w hSw
          go_simp
          first | done | with_reducible rfl
        try simp only [Act.put, List.setIfInBounds_toArray, List.set_cons_zero, List.set_cons_succ]
        refine wpAnyH_take (i := 8) (oi := _) (v := ?_) rfl (by kernel_rfl) (by kernel_rfl) (by kernel_rfl) (fun _ _ _ h => h) (Or.inl ⟨by rfl, ?_⟩) (by assumption) ?_
        rotate_left
        · intro w hSw
          go_simp
          first | done | with_reducible rfl
        try simp only [Act.put, List.setIfInBounds_toArray, List.set_cons_zero, List.set_cons_succ]
        refine wpAnyH_take (i := 9) (oi := _) (v := ?_) rfl (by kernel_rfl) (by kernel_rfl) (by kernel_rfl) (fun _ _ _ h => h) (Or.inl ⟨by rfl, ?_⟩) (by assumption) ?_
        rotate_left
        · intro w hSw
          go_simp
          first | done | with_reducible rfl
        try simp only [Act.put, List.setIfInBounds_toArray, List.set_cons_zero, List.set_cons_succ]
        refine wpAnyH_strong (S' := fun W => Kp [R] wS.drew W) (fun W h => Kp.then (Kp.of [R] OwD) h) ?_
        have hHeldN : (fun W => Kp [R] wS.drew W) wS.drew := Kp.refl _ _
        clear CP0 CP1
        have BR := BR.drew
        generalize wS.drew = wD at *
        refine wpAnyH_ready (rs := [1]) (by kernel_rfl) (by simp) ?_
        refine AllReadyH.cons (o := _) rfl (fun K hK => ?_) AllReadyH.nil
        go_simp
        have OA := (On.refl wD).alloc (.cells #[] 147)
        have NA := Own.new (base := w.heap.size) wD 147 2 #[] 0 (Nat.zero_le _) rfl OWD.size
        have OwA := OWD.call OA
        have hzD := OWD.size
        refine hK.out _ _ (Kp.of [R] OA) (fun hHeld => ?_)
        clear hK K
        try simp only [Act.put, List.setIfInBounds_toArray, List.set_cons_zero, List.set_cons_succ]
        generalize hA : wD.heap.size = A at *
        generalize wD.alloc (.cells #[] 147) = wA at *
        refine wpAnyH_ready (rs := [5]) (by kernel_rfl) (by simp) ?_
        refine AllReadyH.cons (o := _) rfl (fun K hK => ?_) AllReadyH.nil
        refine step_append_any rfl _ _ 145 rfl w.heap.size 147 i2 (.agg #[.int .i64 0, .slice none 0 0]) 2 32 Tryz.underlying145 hi2 hz2 hs2 hb2 rfl (by omega) (.slice (some ⟨A, 0, none⟩) 0 0) 0 [] rfl NA.own ⟨g, 0, none⟩ m cap ((hcells X).take (2 * m)) rfl (by rw [List.length_take, hcells_length, HN.out]; omega) (fun j u hu => HNEW1.out m wA OwA j u hu) (fun u hu => hcells_one _ (List.mem_of_mem_take hu)) (by unfold maxLen; omega) (by omega) OwA.size ?_
        intro v1 w4 hown1 hgr1 hnil1 hob1
        have HOB : (Value.slice (some ⟨A, 0, none⟩) 0 0).ownBlock = some A := rfl
        have hv1 : ∀ y, v1.ownBlock = some y → wD.heap.size ≤ y := fun y hy => by
          rcases hob1 with e | e
          · rw [e, HOB] at hy; cases hy; omega
          · rw [e] at hy; cases hy; exact OA.size
        have Ow1 : On w w4 := OwA.grown hgr1 (fun y hy => by rw [HOB] at hy; cases hy; omega)
        have O4 : On wD w4 := OA.grown hgr1 (fun y hy => by rw [HOB] at hy; cases hy; omega)
        have hnn1 : v1 ≠ .slice none 0 0 := fun e => by cases (hnil1.1 e).1
        show K (Act.put _ (some 58) v1) w4
        refine hK.out _ _ (Kp.of [R] O4) (fun hHeld => ?_)
        clear hK K
        try simp only [Act.put, List.setIfInBounds_toArray, List.set_cons_zero, List.set_cons_succ]
        refine wpAnyH_ready (rs := [10]) (by kernel_rfl) (by simp) ?_
        refine AllReadyH.cons (o := _) rfl (fun K hK => ?_) AllReadyH.nil
        refine step_append_any rfl _ _ 145 rfl w.heap.size 147 i2 (.agg #[.int .i64 0, .slice none 0 0]) 2 32 Tryz.underlying145 hi2 hz2 hs2 hb2 rfl (by omega) v1 (0 + m) _ rfl hown1 ⟨g, (m + 1) * 2, none⟩ (n - (m + 1)) (cap - (m + 1)) ((hcells X).drop (2 * (m + 1))) rfl (by rw [List.length_drop, hcells_length, HN.out]; omega) (fun j u hu => HNEW2.out w4 Ow1 j u hu) (fun u hu => hcells_one _ (List.mem_of_mem_drop hu)) (by unfold maxLen; omega) (by omega) Ow1.size ?_
        intro v2 w5 hown2 hgr2 hnil2 hob2
        have Ow2 : On w w5 := Ow1.grown hgr2 (fun y hy => by have := hv1 y hy; omega)
        have O5 : On wD w5 := O4.grown hgr2 hv1
        have BR5 := BR.call O5.out
        have hRw := HRB.out
        have hv2 : ∀ y, v2.ownBlock = some y → y ≠ R := fun y hy => by
          have := BR.lt
          rcases hob2 with e | e
          · rw [e] at hy; have := hv1 y hy; omega
          · rw [e] at hy; cases hy; have := O4.size; omega
        have hnn2 : v2 ≠ .slice none 0 0 := fun e => hnn1 (hnil2.1 e).1
        show K (Act.put _ (some 63) v2) w5
        refine hK.out _ _ (Kp.of [R] O5) (fun hHeld => ?_)
        clear hK K
        try simp only [Act.put, List.setIfInBounds_toArray, List.set_cons_zero, List.set_cons_succ]
        have ce0 : w5.cell? ⟨R, 0, none⟩ = some (.int .i64 0) := (BR5.cell 0).trans rfl
        have ce1 : w5.cell? ⟨R, 1, none⟩ = some (.slice none 0 0) := (BR5.cell 1).trans rfl
        have fe : ∀ i, w5.frozen? ⟨R, i, none⟩ = false := BR5.frozen
        refine wpAnyH_ready (rs := [11]) (by kernel_rfl) (by simp) ?_
        refine AllReadyH.cons (o := _) rfl (fun K hK => ?_) AllReadyH.nil
        go_simp
        have KS : Kp [R] w5 ((w5.setCell ⟨R, 0, none⟩ (.int .i64 (xa.1.c : Int))).setCell ⟨R, 1, none⟩ (.slice (some ⟨xa.2.1, 0, none⟩) xa.1.s.length xa.2.2)) := ((Kp.refl _ _).set (.inl (by simp)) _).set (.inl (by simp)) _
        have BF := (BR5.set 0 (.int .i64 (xa.1.c : Int))).set 1 (.slice (some ⟨xa.2.1, 0, none⟩) xa.1.s.length xa.2.2)
        refine hK.out _ _ ((Kp.of [R] O5).then KS) (fun hHeld => ?_)
        clear hK K
        try simp only [Act.put, List.setIfInBounds_toArray, List.set_cons_zero, List.set_cons_succ]
        refine wpAnyH_take (i := 12) (oi := _) (v := ?_) rfl (by kernel_rfl) (by kernel_rfl) (by kernel_rfl) (fun _ _ _ h => h) (Or.inl ⟨by rfl, ?_⟩) (by assumption) ?_
        rotate_left
        · intro w hSw
          go_simp
          first | done | with_reducible rfl
        try simp only [Act.put, List.setIfInBounds_toArray, List.set_cons_zero, List.set_cons_succ]
        refine wpAnyH_done (by kernel_rfl) ?_ _
        clear ce0 ce1 fe hHeld hHeldN
        generalize ((w5.setCell ⟨R, 0, none⟩ (.int .i64 (xa.1.c : Int))).setCell ⟨R, 1, none⟩ (.slice (some ⟨xa.2.1, 0, none⟩) xa.1.s.length xa.2.2)) = w6 at *
        go_wp2_with fail
        refine bodyPost_ret (v := .tuple #[.agg #[.int .i64 (xa.1.c : Int), .slice (some ⟨xa.2.1, 0, none⟩) xa.1.s.length xa.2.2], v2]) (by exact res_ct (fn := Tryz.f140) (p := 2) (u := 3) rfl BF rfl Tryz.underlying147 rfl (by kernel_rfl)) rfl ⟨m, xa, v2, by rw [HLX.out]; exact HLE.out.symm, HXA.out, rfl, ⟨KS.owns ?_ (fun y hy => by simpa using hv2 y hy), hnn2⟩, KS.on Ow2 (fun x hx => by simp at hx; omega)⟩
        rw [hcells_erase, show n - 1 = 0 + m + (n - (m + 1)) from by omega]
        exact hown2
end Go.Proofs.YtnadjlejlohgiaaGreatDoor.Wi

/- Lengths by how often symbols come, as the program makes them: depths. Conditions: numbers, sizes. -/
namespace Go.Proofs.YtnadjlejlohgiaaGreatDoor.Wi
open Go.RowKit Go.Proofs.YtnadjlejlohgiaaGreatDoor.Mem Go.Proofs.YtnadjlejlohgiaaGreatDoor.Hf
set_option linter.unusedVariables false
set_option linter.unusedSimpArgs false
theorem leaf_headed (counts : List Nat) (k : Nat) : Headed (leaf counts k) := by
  refine ⟨by simp [leaf], rfl, fun z hz => ?_⟩
  have : z = k := by simpa [leaf] using hz
  show k ≤ z
  omega
set_option maxRecDepth 100000 in
set_option maxHeartbeats 2000000 in
theorem idepths_calls (counts : List Nat) (g o n cap : Nat) (w : World) (hR : RowO w g o 3 (i64s counts)) (hn : counts.length = n) (hn2 : n ≤ 300) (hnc : n ≤ cap) (hx : ∀ x ∈ counts, x ≤ 100000) :
    Calls Tryz.prog 130 #[.slice (some ⟨g, o, none⟩) n cap] w (GivesI w (lensOf counts)) := by
  have HN := Lib.hid hn
  clear hn
  obtain ⟨i2, hi, hz0, hz1, hz2⟩ := info_parts heapinfo
  obtain ⟨i1, hi1, hj0, hj1, hj2⟩ := info_parts i64info
  go_enter Tryz.func130, Tryz.ntmps130
  go_wp2_with (at_make; go_must (refine wpList_ints _ rfl _ _ rfl _ _ n rfl rfl rfl rfl (by omega) ?_); intro w1 hN1 O1 hlt1)
  have NC := Own.new (base := w1.heap.size) w1 147 2 #[] 0 (Nat.zero_le _) rfl (Nat.le_refl _)
  have OC := (On.refl w1).alloc (.cells #[] 147)
  generalize hA : w.heap.size = A at *
  generalize w1.alloc (.cells #[] 147) = w2 at *
  go_loopw [4, 20] (fun v x wr => ∃ (k : Nat) (X : List Tr), x = .int .i64 (k : Int) ∧ k ≤ n ∧ Own w1.heap.size wr 147 2 v X.length (hcells X) ∧ X.map (·.1) = (some_ counts k).map (leaf counts) ∧ Syms wr w1.heap.size X ∧ On w1 wr ∧ X.length ≤ k) (fun _ x _ => n - (intOf x).toNat)
  case atStart => exact ⟨0, [], rfl, by omega, NC, rfl, fun x hx => (by cases hx), OC, Nat.le_refl _⟩
  case round =>
    obtain ⟨k, X, rfl, hk, hO, hX, hS, O, hXk⟩ := hrel
    by_cases hlt : k < n
    · have hkl : k < counts.length := by rw [HN.out]; exact hlt
      have c0 := (hR.on (O1.call O)).cell (i64s_get hkl)
      have hmem : counts.getD k 0 ∈ counts := by rw [List.getD_eq_getElem?_getD, List.getElem?_eq_getElem hkl]; exact List.getElem_mem _
      have hx1 := hx _ hmem
      have HT := Lib.hid (some_succ counts k)
      have HL := Lib.hid (show leaf counts k = ⟨counts.getD k 0, k, [k]⟩ from rfl)
      clear hmem
      generalize counts.getD k 0 = x at *
      have hk2 : (k : Int) < n := by omega
      by_cases h0 : 0 < x
      · have h0' : (0 : Int) < x := by omega
        have OS := (On.refl wr).alloc (.cells #[.int .i64 (k : Int)] 3)
        have BS := Blk.new wr 3 #[.int .i64 (k : Int)]
        have hown2 := hO.on OS
        have O2 := O.call OS
        have hw1r := O.size
        go_wp2_with (at_builtin; go_must (refine wpList_app rfl _ _ 145 rfl w1 i2 (.agg #[.int .i64 0, .slice none 0 0]) 32 2 Tryz.underlying145 hi hz0 hz1 hz2 rfl (by decide) rfl _ _ _ rfl hown2 O2 (by simp [Act.eval]) (by simp [Value.oneCell']) (by unfold maxLen; omega) (by omega) ?_); intro v' w3 hown' O' hk3)
        go_roundw
        case rel =>
          have e : hcells X ++ (#[Value.int .i64 (x : Int), .slice (some ⟨wr.heap.size, 0, none⟩) 1 1] : Array Value).toList = hcells (X ++ [(⟨x, k, [k]⟩, wr.heap.size, 1)]) := by
            rw [hcells_append]; rfl
          rw [e] at hown'
          obtain ⟨gl, cl, hv, _, hrow, _⟩ := hO.parts
          refine ⟨k + 1, X ++ [(⟨x, k, [k]⟩, wr.heap.size, 1)], by go_num, by omega, by rw [List.length_append]; exact hown', ?_, ?_, O', by rw [List.length_append]; simp; omega⟩
          · rw [List.map_append, hX, HT.out, if_pos h0, List.map_append]
            show _ ++ [_] = _ ++ [leaf counts k]
            rw [HL.out]
          · intro y hy
            rcases List.mem_append.1 hy with h | h
            · obtain ⟨r1, r2, r3⟩ := hS y h
              refine ⟨?_, r2, r3⟩
              obtain ⟨cs, hb, ht⟩ := (r1.on OS).out
              refine ⟨cs, hk3 _ _ _ hb ?_, ht⟩
              rw [hv]
              show (Value.slice (some ⟨gl, 0, none⟩) X.length cl).ownBlock ≠ some _
              intro hh
              exact rowo_neh r1 hrow (Option.some.inj hh).symm
            · obtain rfl : y = (⟨x, k, [k]⟩, wr.heap.size, 1) := by simpa using h
              refine ⟨⟨#[.int .i64 (k : Int)], hk3 _ _ _ BS ?_, rfl⟩, hw1r, Nat.le_refl _⟩
              rw [hv]
              show (Value.slice (some ⟨gl, 0, none⟩) X.length cl).ownBlock ≠ some _
              intro hh
              have h1 : gl = wr.heap.size := Option.some.inj hh
              have := hrow.lt
              omega
        case measure => simp [intOf]; omega
      · have h0' : ¬ (0 : Int) < x := by omega
        go_wp2_with fail
        go_roundw
        case rel => exact ⟨k + 1, X, by go_num, by omega, hO, by rw [hX, HT.out, if_neg h0, List.append_nil], hS, O, by omega⟩
        case measure => simp [intOf]; omega
    · have hkn : k = n := by omega
      have hkn' : ¬ (k : Int) < (n : Int) := by omega
      have hlv : X.map (·.1) = leaves counts := by rw [hX]; unfold leaves; rw [HN.out, hkn]
      have hXc : ∀ y ∈ X, y.1.c ≤ 100000 ∧ y.1.f < n ∧ (∀ z ∈ y.1.s, z < n) ∧ y.1.s.length ≤ 1 ∧ Headed y.1 := by
        intro y hy
        have hm : y.1 ∈ leaves counts := by rw [← hlv]; exact List.mem_map.2 ⟨y, hy, rfl⟩
        unfold leaves at hm
        obtain ⟨j, hj, he⟩ := List.mem_map.1 hm
        rw [← he]
        have hjk : j < n := by unfold some_ at hj; have := (List.mem_filter.1 hj).1; rw [HN.out] at this; simpa using this
        refine ⟨?_, hjk, fun z hz => ?_, Nat.le_refl _, leaf_headed counts j⟩
        · exact Cd.getD_le hx j
        · have : z = j := by simpa [leaf] using hz
          omega
      have SM : Small n X := ⟨fun y hy => ⟨(hXc y hy).2.1, (hXc y hy).2.2.1⟩, by have := sum_le (fun y : Tr => y.1.c) 100000 X (fun y hy => (hXc y hy).1); omega, by have := sum_le (fun y : Tr => y.1.s.length) 1 X (fun y hy => (hXc y hy).2.2.2.1); omega⟩
      have HLV := Lib.hid hlv
      have HXC := Lib.hid hXc
      have hN2 := hN1.on O
      obtain ⟨gl, cl, hv, hgl1, hrow, hcl, _, _⟩ := hO.parts
      have hAl : A < w1.heap.size := hlt1
      subst hv
      have hk300 : X.length ≤ 300 := by omega
      clear hX hlv hXc hkn
      by_cases h1 : X.length = 1
      · obtain ⟨x0, rfl⟩ := List.length_eq_one_iff.1 h1
        have hgt := (hcells_get [x0] (i := 0) (by simp)).2
        have c1 := hrow.cell hgt
        obtain ⟨_, hf0, _, _, hd0⟩ := HXC.out x0 (by simp)
        obtain ⟨hr0, _, _⟩ := hS x0 (by simp)
        have c2 := hr0.cell (i64s_get hd0.h0)
        rw [hd0.head] at c2
        have hs0 := hd0.h0
        have hlen : lensOf counts = (List.replicate n 0).set x0.1.f 1 := by
          have e : (leaves counts).length = 1 := by rw [← HLV.out, List.length_map]; exact h1
          unfold lensOf
          rw [if_pos e, HN.out, ← HLV.out]; rfl
        have HLEN := Lib.hid hlen
        have hcl' : x0.1.f < (List.replicate n 0).length := by simpa using hf0
        have cs := hN2.row.1.cell (i64s_get hcl')
        have fe : ∀ i, wr.frozen? ⟨A, i, none⟩ = false := hN2.row.1.frozen
        have hf0' : (x0.1.f : Int) < (n : Int) := by omega
        have hs0' : (0 : Int) < (x0.1.s.length : Int) := by omega
        have NS := hN2.set x0.1.f 1
        have OS : On w (wr.setCell ⟨A, x0.1.f, none⟩ (.int .i64 ((1 : Nat) : Int))) := (O1.call O).set (p := ⟨A, x0.1.f, none⟩) (by rw [hA]; exact Nat.le_refl _) _
        have hAr : A < (wr.setCell ⟨A, x0.1.f, none⟩ (.int .i64 ((1 : Nat) : Int))).heap.size := NS.row.1.lt
        clear hcl' hlen hgt h1
        simp only [List.getElem_cons_zero, Nat.mul_zero, Nat.zero_add, List.length_singleton] at c1 c2 ⊢
        go_wp2_with fail
        go_ret
        have hl : (lensOf counts).length = n := by rw [HLEN.out]; simp
        exact ⟨A, n, by rw [hl]; rfl, by rw [hl, HLEN.out]; exact NS, by omega, hAr, OS⟩
      · have h1' : ((X.length : Int) == 1) = false := by simp; omega
        have hR5 : rounds X.length (List.replicate n 0) (X.map (·.1)) = lensOf counts := by
          have e : (leaves counts).length = X.length := by rw [← HLV.out, List.length_map]
          unfold lensOf
          rw [if_neg (by rw [e]; exact h1), e, HLV.out, HN.out]
        have hR5' := Lib.hid hR5
        clear hR5 h1
        go_wp2_with fail
        go_loopw [4] (fun v wr2 => ∃ (X : List Tr) (out : List Nat) (F : Nat), Own w1.heap.size wr2 147 2 v X.length (hcells X) ∧ Syms wr2 w1.heap.size X ∧ Nums wr2 A (.slice (some ⟨A, 0, none⟩) n n) out ∧ Kp [A] w1 wr2 ∧ out.length = n ∧ X.length ≤ F + 1 ∧ X.length ≤ 300 ∧ Small n X ∧ (∀ y ∈ X, Headed y.1) ∧ RowKit.Hid (∀ y ∈ out, y + 600 * X.length ≤ 1000000) ∧ RowKit.Hid (rounds F out (X.map (·.1)) = lensOf counts)) (fun v _ => match v with | .slice _ m _ => m | _ => 0)
        case atStart => exact ⟨X, List.replicate n 0, X.length, hO, hS, hN2, Kp.of _ O, by simp, by omega, hk300, SM, fun y hy => (HXC.out y hy).2.2.2.2, Lib.hid (fun y hy => by have := List.eq_of_mem_replicate hy; omega), hR5'⟩
        case round =>
          obtain ⟨Y, out, F2, hO2, hS2, hN3, K2, hol, hYF, hY3, SY, HDY, HOB2, HR⟩ := hrel
          obtain ⟨g2, c2, hv2, hg2, hrow2, hc2, _, _⟩ := hO2.parts
          subst hv2
          by_cases h2 : Y.length ≤ 1
          · have h2' : ¬ (1 : Int) < (Y.length : Int) := by omega
            have hout : out = lensOf counts := by
              rw [← HR.out]
              cases F2 with
              | zero => rfl
              | succ f => rw [rounds, if_pos (by rw [List.length_map]; exact h2)]
            have HO := Lib.hid hout
            clear hout
            go_wp2_with fail
            go_ret
            have hl : (lensOf counts).length = n := by rw [← HO.out]; exact hol
            refine ⟨A, n, by rw [hl]; rfl, by rw [hl, ← HO.out]; exact hN3, by omega, hN3.row.1.lt, K2.on O1 (fun y hy => by simp at hy; omega)⟩
          · have h2' : (1 : Int) < (Y.length : Int) := by omega
            have hcb : ∀ y ∈ Y, y.1.c ≤ 100000000 ∧ y.1.f ≤ 1000 := fun y hy => ⟨by have := le_sum (fun y : Tr => y.1.c) Y y hy; have := SY.sum; omega, by have := (SY.at_ y hy).1; omega⟩
            have HDYh := Lib.hid HDY
            clear HDY
            go_wp2_with fail
            refine (ileast_calls Y g2 Y.length c2 w1.heap.size wr hrow2 hS2 HDYh.out rfl (by omega) (by omega) hc2 hcb).mono ?_
            rintro e w6 ⟨ka, xa, v7, hkae, hxa?, rfl, hO7, O6⟩
            have hka := least_lt (l := Y.map (·.1)) (by rw [List.length_map]; omega)
            rw [List.length_map, hkae] at hka
            have hxa : Y[ka] = xa := by rw [List.getElem?_eq_getElem hka] at hxa?; exact Option.some.inj hxa?
            have HKA := Lib.hid hkae
            have HXA := Lib.hid hxa
            have hma : xa ∈ Y := by rw [← hxa]; exact List.getElem_mem hka
            have hl7 : (Y.eraseIdx ka).length = Y.length - 1 := List.length_eraseIdx_of_lt hka
            obtain ⟨Y1, hY1⟩ : ∃ Y1, Y.eraseIdx ka = Y1 := ⟨_, rfl⟩
            rw [hY1] at hO7 hl7
            obtain ⟨g3, c3, hv3, hg3, hrow3, hc3, _, _⟩ := hO7.parts
            subst hv3
            have hmY1 : ∀ y ∈ Y1, y ∈ Y := fun y hy => by rw [← hY1] at hy; exact List.mem_of_mem_eraseIdx hy
            have hcb1 : ∀ y ∈ Y1, y.1.c ≤ 100000000 ∧ y.1.f ≤ 1000 := fun y hy => hcb y (hmY1 y hy)
            have HMY1 := Lib.hid hmY1
            have BA := Blk.new w6 147 #[.int .i64 (xa.1.c : Int), .slice (some ⟨xa.2.1, 0, none⟩) xa.1.s.length xa.2.2]
            have OA := (On.refl w6).alloc (.cells #[.int .i64 (xa.1.c : Int), .slice (some ⟨xa.2.1, 0, none⟩) xa.1.s.length xa.2.2] 147)
            have O6A := O6.call OA
            clear hkae hxa hxa? hmY1
            go_wp2_with fail
            generalize hPA : w6.heap.size = pa at *
            generalize w6.alloc (.cells #[.int .i64 (xa.1.c : Int), .slice (some ⟨xa.2.1, 0, none⟩) xa.1.s.length xa.2.2] 147) = wa at *
            refine (ileast_calls Y1 g3 (Y.length - 1) c3 w1.heap.size wa (hrow3.on OA) (fun y hy => (hS2.on O6A) y (HMY1.out y hy)) (fun y hy => HDYh.out y (HMY1.out y hy)) hl7 (by omega) (by omega) hc3 hcb1).mono ?_
            rintro e w8 ⟨kb, xb, v9, hkbe, hxb?, rfl, hO8, O8⟩
            have hkb := least_lt (l := Y1.map (·.1)) (by rw [List.length_map]; omega)
            rw [List.length_map, hkbe] at hkb
            have hxb : Y1[kb] = xb := by rw [List.getElem?_eq_getElem hkb] at hxb?; exact Option.some.inj hxb?
            have HKB := Lib.hid hkbe
            have HXB := Lib.hid hxb
            have hmb : xb ∈ Y1 := by rw [← hxb]; exact List.getElem_mem hkb
            have hl9 : (Y1.eraseIdx kb).length = Y1.length - 1 := List.length_eraseIdx_of_lt hkb
            obtain ⟨Y2, hY2⟩ : ∃ Y2, Y1.eraseIdx kb = Y2 := ⟨_, rfl⟩
            rw [hY2] at hO8 hl9
            have BB := Blk.new w8 147 #[.int .i64 (xb.1.c : Int), .slice (some ⟨xb.2.1, 0, none⟩) xb.1.s.length xb.2.2]
            have OB := (On.refl w8).alloc (.cells #[.int .i64 (xb.1.c : Int), .slice (some ⟨xb.2.1, 0, none⟩) xb.1.s.length xb.2.2] 147)
            have O68 := O6A.call O8
            have O69 := O68.call OB
            clear hkbe hxb hxb?
            go_wp2_with fail
            have hO9 := hO8.on OB
            have BA9 := (BA.call O8.out).call OB.out
            have BB9 := BB
            generalize hPB : w8.heap.size = pb at *
            generalize w8.alloc (.cells #[.int .i64 (xb.1.c : Int), .slice (some ⟨xb.2.1, 0, none⟩) xb.1.s.length xb.2.2] 147) = w9 at *
            have HCA2 := Lib.hid (show ∀ W, Kp [] w9 W → W.cell? ⟨pa, 1, none⟩ = some (.slice (some ⟨xa.2.1, 0, none⟩) xa.1.s.length xa.2.2) from fun W h => (h.cell BA9.lt (by simp)).trans ((BA9.cell 1).trans rfl))
            have HCB2 := Lib.hid (show ∀ W, Kp [] w9 W → W.cell? ⟨pb, 1, none⟩ = some (.slice (some ⟨xb.2.1, 0, none⟩) xb.1.s.length xb.2.2) from fun W h => (h.cell BB9.lt (by simp)).trans ((BB9.cell 1).trans rfl))
            have Rxa : RowO w9 xa.2.1 0 3 (i64s xa.1.s) := (hS2 xa hma).1.on O69
            have Rxb : RowO w9 xb.2.1 0 3 (i64s xb.1.s) := (hS2 xb (HMY1.out _ hmb)).1.on O69
            have hsa : xa.1.s.length ≤ 300 := by have := le_sum (fun y : Tr => y.1.s.length) Y xa hma; have := SY.many; omega
            have hsb : xb.1.s.length ≤ 300 := by have := le_sum (fun y : Tr => y.1.s.length) Y xb (HMY1.out _ hmb); have := SY.many; omega
            have CA2 := HCA2.out
            have CB2 := HCB2.out
            refine wp_region_held_drew (S := fun W => Kp [] w9 W) (by kernel_rfl) (Kp.refl _ _).drew (fun hHeld => ?_)
            have OwD := (On.refl w9).drew
            refine wpAnyH_take (i := 1) (oi := _) (v := ?_) rfl (by kernel_rfl) (by kernel_rfl) (by kernel_rfl) (fun _ _ _ h => h) (Or.inl ⟨by rfl, ?_⟩) (by assumption) ?_
            rotate_left
            · intro w hSw
              go_simp
              first | done | with_reducible rfl
            try simp only [Act.put, List.setIfInBounds_toArray, List.set_cons_zero, List.set_cons_succ]
            refine wpAnyH_take (i := 2) (oi := _) (v := ?_) rfl (by kernel_rfl) (by kernel_rfl) (by kernel_rfl) (fun _ _ _ h => h) (Or.inl ⟨by rfl, ?_⟩) (by assumption) ?_
            rotate_left
            · intro w hSw
              go_simp
              first | done | with_reducible rfl
            try simp only [Act.put, List.setIfInBounds_toArray, List.set_cons_zero, List.set_cons_succ]
            refine wpAnyH_take (i := 4) (oi := _) (v := ?_) rfl (by kernel_rfl) (by kernel_rfl) (by kernel_rfl) (fun _ _ _ h => h) (Or.inl ⟨by rfl, ?_⟩) (by assumption) ?_
            rotate_left
            · intro w hSw
              go_simp
              first | done | with_reducible rfl
            try simp only [Act.put, List.setIfInBounds_toArray, List.set_cons_zero, List.set_cons_succ]
            refine wpAnyH_take (i := 5) (oi := _) (v := ?_) rfl (by kernel_rfl) (by kernel_rfl) (by kernel_rfl) (fun _ _ _ h => h) (Or.inl ⟨by rfl, ?_⟩) (by assumption) ?_
            rotate_left
            · intro w hSw
              go_simp
              first | done | with_reducible rfl
            try simp only [Act.put, List.setIfInBounds_toArray, List.set_cons_zero, List.set_cons_succ]
            refine wpAnyH_strong (S' := fun W => Kp [] w9.drew W) (fun W h => Kp.then (Kp.of [] OwD) h) ?_
            have hHeldN : (fun W => Kp [] w9.drew W) w9.drew := Kp.refl _ _
            clear CA2 CB2
            generalize w9.drew = wD at *
            refine wpAnyH_ready (rs := [0]) (by kernel_rfl) (by simp) ?_
            refine AllReadyH.cons (o := _) rfl (fun K hK => ?_) AllReadyH.nil
            go_simp
            have OE := (On.refl wD).alloc (.cells #[] 3)
            have NE := Own.new (base := w9.heap.size) wD 3 1 #[] 0 (Nat.zero_le _) rfl OwD.size
            have OwE := OwD.call OE
            have hzD := OwD.size
            refine hK.out _ _ (Kp.of [] OE) (fun hHeld => ?_)
            clear hK K
            try simp only [Act.put, List.setIfInBounds_toArray, List.set_cons_zero, List.set_cons_succ]
            generalize hE : wD.heap.size = E at *
            generalize wD.alloc (.cells #[] 3) = wE at *
            refine wpAnyH_ready (rs := [3]) (by kernel_rfl) (by simp) ?_
            refine AllReadyH.cons (o := _) rfl (fun K hK => ?_) AllReadyH.nil
            refine step_append_any rfl _ _ 98 rfl w9.heap.size 3 i1 (.int .i64 0) 1 8 Tryz.underlying98 hi1 hj0 hj1 hj2 rfl (by omega) (.slice (some ⟨E, 0, none⟩) 0 0) 0 [] rfl NE.own ⟨xa.2.1, 0, none⟩ xa.1.s.length xa.2.2 (i64s xa.1.s) rfl (by rw [i64s_length]; omega) (news_of (Rxa.on OwE)) (fun u hu => i64s_one hu) (by unfold maxLen; omega) (by omega) OwE.size ?_
            intro v1 w10 hownv1 hgrv1 hnilv1 hobv1
            have HOB : (Value.slice (some ⟨E, 0, none⟩) 0 0).ownBlock = some E := rfl
            have Owv1 : On w9 w10 := OwE.grown hgrv1 (fun y hy => by rw [HOB] at hy; cases hy; omega)
            have Odv1 : On wD w10 := OE.grown hgrv1 (fun y hy => by rw [HOB] at hy; cases hy; omega)
            have hnn1 : v1 ≠ .slice none 0 0 := fun e => by cases (hnilv1.1 e).1
            have hvb : ∀ y, v1.ownBlock = some y → wD.heap.size ≤ y := fun y hy => by
              rcases hobv1 with e | e
              · rw [e, HOB] at hy; cases hy; omega
              · rw [e] at hy; cases hy; exact OE.size
            show K (Act.put _ (some 63) v1) w10
            refine hK.out _ _ (Kp.of [] Odv1) (fun hHeld => ?_)
            clear hK K
            try simp only [Act.put, List.setIfInBounds_toArray, List.set_cons_zero, List.set_cons_succ]
            refine wpAnyH_ready (rs := [6]) (by kernel_rfl) (by simp) ?_
            refine AllReadyH.cons (o := _) rfl (fun K hK => ?_) AllReadyH.nil
            refine step_append_any rfl _ _ 98 rfl w9.heap.size 3 i1 (.int .i64 0) 1 8 Tryz.underlying98 hi1 hj0 hj1 hj2 rfl (by omega) v1 (0 + xa.1.s.length) _ rfl hownv1 ⟨xb.2.1, 0, none⟩ xb.1.s.length xb.2.2 (i64s xb.1.s) rfl (by rw [i64s_length]; omega) (news_of (Rxb.on Owv1)) (fun u hu => i64s_one hu) (by unfold maxLen; omega) (by omega) Owv1.size ?_
            intro v2 w11 hownv2 hgrv2 hnilv2 hobv2
            skip
            have Owv2 : On w9 w11 := Owv1.grown hgrv2 (fun y hy => by have := hvb y hy; omega)
            have Odv2 : On wD w11 := Odv1.grown hgrv2 (fun y hy => by have := hvb y hy; omega)
            skip
            show K (Act.put _ (some 66) v2) w11
            refine hK.out _ _ (Kp.of [] Odv2) (fun hHeld => ?_)
            clear hK K
            try simp only [Act.put, List.setIfInBounds_toArray, List.set_cons_zero, List.set_cons_succ]
            refine wpAnyH_take (i := 7) (oi := _) (v := ?_) rfl (by kernel_rfl) (by kernel_rfl) (by kernel_rfl) (fun _ _ _ h => h) (Or.inl ⟨by rfl, ?_⟩) (by assumption) ?_
            rotate_left
            · intro w hSw
              go_simp
              first | done | with_reducible rfl
            try simp only [Act.put, List.setIfInBounds_toArray, List.set_cons_zero, List.set_cons_succ]
            refine wpAnyH_done (by kernel_rfl) ?_ _
            have hnn2 : v2 ≠ .slice none 0 0 := fun e => hnn1 (hnilv2.1 e).1
            obtain ⟨Sy, hSy⟩ : ∃ Sy, xa.1.s ++ xb.1.s = Sy := ⟨_, rfl⟩
            have hSl : 0 + xa.1.s.length + xb.1.s.length = Sy.length := by rw [← hSy, List.length_append]; omega
            have hOw : Own w9.heap.size w11 3 1 v2 Sy.length (i64s Sy) := by
              have e : i64s Sy = [] ++ i64s xa.1.s ++ i64s xb.1.s := by rw [← hSy]; unfold i64s; rw [List.map_append]; rfl
              rw [e, ← hSl]
              exact ⟨hownv2, hnn2⟩
            obtain ⟨g5, c5, hv5, hSr, hg5, hg5l⟩ := own_nums hOw rfl
            have hc5 := (hv5 ▸ hOw).own
            have hc5 : Sy.length ≤ c5 := hSr.row.2.2.1
            subst hv5
            have hSz : ∀ z ∈ Sy, z < n := by
              intro z hz
              rw [← hSy] at hz
              rcases List.mem_append.1 hz with h | h
              · exact (SY.at_ xa hma).2 z h
              · exact (SY.at_ xb (HMY1.out _ hmb)).2 z h
            have hS600 : Sy.length ≤ 600 := by omega
            have O9b : On wr w11 := O69.call Owv2
            have N11 := hN3.on O9b
            have hgA5 : g5 ≠ A := by
              have := K2.size
              have := O69.size
              omega
            have HSZ := Lib.hid hSz
            have HSY := Lib.hid hSy
            have hSy0 : 0 < Sy.length := by have := (HDYh.out xa hma).h0; omega
            clear hSz hSy hownv2 hgrv2 hnilv2 hobv2 hOw hSl
            go_wp2_with fail
            go_loopw [69] (fun x w12 => ∃ (j : Nat) (out2 cur : List Nat), x = .int .i64 (j : Int) ∧ j ≤ Sy.length ∧ Nums w12 A (.slice (some ⟨A, 0, none⟩) n n) out2 ∧ Nums w12 g5 (.slice (some ⟨g5, 0, none⟩) Sy.length c5) cur ∧ RowKit.Hid (out2 = bump out (Sy.take j)) ∧ RowKit.Hid (Swapped Sy j cur) ∧ Kp [A, g5] w11 w12) (fun x _ => Sy.length - (intOf x).toNat)
            case atStart => exact ⟨0, out, Sy, rfl, by omega, N11, hSr, Lib.hid (by rw [List.take_zero]; rfl), Lib.hid (Swapped.start Sy), Kp.refl _ _⟩
            case round =>
              obtain ⟨j, out2, cur, rfl, hj, hN12, hG12, HB2, HSW, K12⟩ := hrel
              by_cases hjl : j < Sy.length
              · have hjl' : (j : Int) < (Sy.length : Int) := by omega
                have hcl := HSW.out.length
                have s0 := hG12.row.1.cell (i64s_get (show j < cur.length by omega))
                rw [HSW.out.at_] at s0
                have hzk : Sy.getD j 0 < n := HSZ.out _ (by rw [List.getD_eq_getElem?_getD, List.getElem?_eq_getElem hjl]; exact List.getElem_mem _)
                have ho2l : out2.length = n := by rw [HB2.out, bump_length]; exact hol
                have hstep : out2.set (Sy.getD j 0) (out2.getD (Sy.getD j 0) 0 + 1) = bump out (Sy.take (j + 1)) := by
                  rw [List.take_succ_eq_append_getElem hjl, bump_append, ← HB2.out, List.getD_eq_getElem?_getD, List.getElem?_eq_getElem hjl]; rfl
                have hob3 : out2.getD (Sy.getD j 0) 0 ≤ 1001000 := by
                  rw [HB2.out, bump_get _ _ _ (by rw [hol]; exact hzk)]
                  have h1 := List.count_le_length (a := Sy.getD j 0) (l := Sy.take j)
                  rw [List.length_take] at h1
                  have h2 : out.getD (Sy.getD j 0) 0 ≤ 1000000 := Cd.getD_le (fun y hy => by have := HOB2.out y hy; omega) _
                  omega
                have hstay := HSW.out.stay
                have hswap := HSW.out.swap hjl
                have HST := Lib.hid hstep
                have o0 := hN12.row.1.cell (i64s_get (show Sy.getD j 0 < out2.length by omega))
                have fe : wr.frozen? ⟨A, Sy.getD j 0, none⟩ = false := hN12.row.1.frozen _
                have h00 := hG12.row.1.cell (i64s_get (show 0 < cur.length by omega))
                clear hstep
                have hz0 : j = 0 → Sy.getD j 0 = cur.getD 0 0 := fun e => by rw [← HSW.out.at_, e]
                have hat := HSW.out.at_
                generalize Sy.getD j 0 = z at *
                have HAT := Lib.hid hat
                generalize hcur0 : cur.getD 0 0 = h0 at *
                obtain ⟨oz, hoz⟩ : ∃ oz, out2.getD z 0 = oz := ⟨_, rfl⟩
                rw [hoz] at o0 HST hob3
                have HC0 := Lib.hid hcur0
                have HZ0 := Lib.hid hz0
                have HSTAY := Lib.hid hstay
                have HSWAP := Lib.hid hswap
                have hzk' : (z : Int) < (n : Int) := by omega
                have hz00 : (0 : Int) ≤ (z : Int) := by omega
                have NAs := hN12.set z (oz + 1)
                rw [HST.out] at NAs
                have KA := (Kp.refl [A] wr).set (p := ⟨A, z, none⟩) (.inl (by simp)) (.int .i64 ((oz + 1 : Nat) : Int))
                have NGs := hG12.kp KA (by simpa using hgA5)
                rw [show ((oz + 1 : Nat) : Int) = (oz : Int) + 1 from by omega] at NAs KA NGs
                have K13 := K12.then (KA.mono (T := [A, g5]) (fun x hx => .inl (by simp at hx ⊢; exact .inl hx)))
                clear hstay hswap h00 hcl hcur0 hz0 hoz hat
                go_upto_region 20 with fail
                generalize wr.setCell ⟨A, z, none⟩ (.int .i64 ((oz : Int) + 1)) = w13 at *
                have hcl := HSW.out.length
                have h00 := NGs.row.1.cell (i64s_get (show 0 < cur.length by omega))
                have s1 := NGs.row.1.cell (i64s_get (show j < cur.length by omega))
                rw [HC0.out] at h00
                rw [HAT.out] at s1
                have fg : ∀ i, w13.frozen? ⟨g5, i, none⟩ = false := NGs.row.1.frozen
                have hS0 : (0 : Int) < (Sy.length : Int) := by omega
                clear s0 o0 fe hcl
                by_cases hsw : z < h0
                · have hsw' : (z : Int) < (h0 : Int) := by omega
                  have hj0 : ¬ j = 0 := fun e => by have := HZ0.out e; omega
                  have hj1 : ¬ 0 = j := fun e => hj0 e.symm
                  have NG2 := (NGs.set 0 z).set j h0
                  have KG := ((Kp.refl [g5] w13).set (p := ⟨g5, 0, none⟩) (.inl (by simp)) (.int .i64 (z : Int))).set (p := ⟨g5, j, none⟩) (.inl (by simp)) (.int .i64 (h0 : Int))
                  have NA2 := NAs.kp KG (by simpa using Ne.symm hgA5)
                  have K14 := K13.then (KG.mono (T := [A, g5]) (fun x hx => .inl (by simp at hx ⊢; exact .inr hx)))
                  go_wp2_with fail
                  go_roundw
                  case rel => exact ⟨j + 1, _, _, by go_num, by omega, NA2, NG2, Lib.hid rfl, Lib.hid (HSWAP.out hsw), K14⟩
                  case measure => simp [intOf]; omega
                · have hsw' : ¬ (z : Int) < (h0 : Int) := by omega
                  go_wp2_with fail
                  go_roundw
                  case rel => exact ⟨j + 1, _, _, by go_num, by omega, NAs, NGs, Lib.hid rfl, Lib.hid (HSTAY.out hsw), K13⟩
                  case measure => simp [intOf]; omega
              · obtain rfl : j = Sy.length := by omega
                have hjl' : ¬ ((Sy.length : Int) < (Sy.length : Int)) := by omega
                have hcl := HSW.out.length
                obtain ⟨hHd, hSame⟩ := headed_join (HDYh.out xa hma) (HDYh.out xb (HMY1.out _ hmb)) (cur := cur) (by rw [HSY.out]; exact HSW.out)
                have K9r : Kp [A] w9 wr := ((Kp.of [A, g5] Owv2).then K12).mono (fun x hx => by simp at hx ⊢; rcases hx with rfl | rfl; exact .inl rfl; exact .inr hg5)
                have hAa : A < wa.heap.size := by have := K2.size; have := O6A.size; omega
                have hOr : Own w1.heap.size wr 147 2 v9 (Y.length - 1 - 1) (hcells Y2) := by
                  have h1 : Own wa.heap.size wr 147 2 v9 (Y.length - 1 - 1) (hcells Y2) := ⟨K9r.owns hO9.own (fun y hy => by have := hO9.block y hy; simp; omega), hO9.nn⟩
                  exact h1.low (by have := K2.size; have := O6A.size; omega)
                have ea0 : wr.cell? ⟨pa, 0, none⟩ = some (.int .i64 (xa.1.c : Int)) := (K9r.cell BA9.lt (by have h1 := O6.size; have h2 := K2.size; simp; omega)).trans ((BA9.cell 0).trans rfl)
                have eb0 : wr.cell? ⟨pb, 0, none⟩ = some (.int .i64 (xb.1.c : Int)) := (K9r.cell BB9.lt (by have h1 := O68.size; have h2 := K2.size; simp; omega)).trans ((BB9.cell 0).trans rfl)
                have ec : IntKind.i64.wrap ((xa.1.c : Int) + (xb.1.c : Int)) = (xa.1.c : Int) + (xb.1.c : Int) := by
                  have h1 := (hcb xa hma).1
                  have h2 := (hcb1 xb hmb).1
                  rw [IntKind.wrap_i64]; omega
                have OT := (On.refl wr).alloc (.cells #[.int .i64 ((xa.1.c : Int) + (xb.1.c : Int)), .slice (some ⟨g5, 0, none⟩) Sy.length c5] 147)
                have hOT := (hOr.on OT).own
                have NT := World.news_of_block (Blk.new wr 147 #[.int .i64 ((xa.1.c : Int) + (xb.1.c : Int)), .slice (some ⟨g5, 0, none⟩) Sy.length c5]).out
                have hbz : w1.heap.size ≤ (wr.alloc (.cells #[.int .i64 ((xa.1.c : Int) + (xb.1.c : Int)), .slice (some ⟨g5, 0, none⟩) Sy.length c5] 147)).heap.size := by have := OT.size; have := K9r.size; have := O69.size; have := K2.size; omega
                have HNT := Lib.hid NT
                have HHD := Lib.hid hHd
                have HSM := Lib.hid hSame
                have HCLN := Lib.hid hcl
                clear NT hHd hSame hcl
                go_wp2_with (at_builtin; go_must (refine Go.wpList_append_own_at _ rfl _ _ 145 rfl w1.heap.size 147 i2 (.agg #[.int .i64 0, .slice none 0 0]) 2 32 Tryz.underlying145 hi hz0 hz1 hz2 rfl (by omega) v9 (Y.length - 1 - 1) (hcells Y2) rfl hOT ⟨wr.heap.size, 0, none⟩ 1 1 _ rfl rfl HNT.out (by simp [Value.oneCell']) (by unfold maxLen; omega) (by omega) hbz ?_); intro v10 w10' hown10 hgr10 hnil10 hob10)
                obtain ⟨g9, c9, hv9, hg9, hrow9, _, _, _⟩ := hO9.parts
                have hg9l := hrow9.lt
                have hnn10 : v10 ≠ .slice none 0 0 := fun e => by have := (hnil10.1 e).2; omega
                have K10 : Kp [g9] wr w10' := ((Kp.refl _ _).alloc _).then (Kp.grown hgr10 (fun y hy => by rw [hv9] at hy; cases hy; simp))
                have K1t : Kp [A] w1 w10' := ((K2.then (Kp.of _ O69)).then K9r).trans K10 (fun x hx => by simp at hx; have := K2.size; have := O6A.size; omega)
                obtain ⟨xn, hxn⟩ : ∃ xn : Tr, xn = ((⟨xa.1.c + xb.1.c, min xa.1.f xb.1.f, cur⟩ : It), g5, c5) := ⟨_, rfl⟩
                have hXl : (Y2 ++ [xn]).length = Y.length - 1 - 1 + 1 := by rw [List.length_append, hl9, hl7]; rfl
                have hown11 : Own w1.heap.size w10' 147 2 v10 (Y2 ++ [xn]).length (hcells (Y2 ++ [xn])) := by
                  refine ⟨?_, hnn10⟩
                  have e : hcells [xn] = (#[Value.int .i64 ((xa.1.c : Int) + (xb.1.c : Int)), .slice (some ⟨g5, 0, none⟩) Sy.length c5] : Array Value).toList := by
                    rw [hxn, ← HCLN.out]; rfl
                  rw [hXl, hcells_append, e]
                  exact hown10
                obtain ⟨g10, c10, hv10, _⟩ := hown11.parts
                rw [hv10] at hown11
                rw [hv10]
                rw [hXl] at hown11 ⊢
                have hAg9 : A ≠ g9 := by omega
                have hmY2 : ∀ y ∈ Y2, y ∈ Y := fun y hy => by
                  rw [← hY2] at hy
                  exact HMY1.out y (List.mem_of_mem_eraseIdx hy)
                have HMY := Lib.hid hmY2
                clear hown10 hgr10 hnil10 hob10 hnn10 hv10 hv9 hmY2
                go_roundw
                case rel =>
                  obtain ⟨F, hF2⟩ : ∃ F, F2 = F + 1 := ⟨F2 - 1, by omega⟩
                  refine ⟨Y2 ++ [xn], out2, F, by rw [hXl]; exact hown11, ?_, hN12.kp K10 (by simpa using hAg9), K1t, by rw [HB2.out, bump_length]; exact hol, by rw [hXl]; omega, by rw [hXl]; omega, ?_, ?_, ?_, ?_⟩
                  · intro y hy
                    rcases List.mem_append.1 hy with h | h
                    · obtain ⟨r1, r2, r3⟩ := hS2 y (HMY.out y h)
                      have hyl := r1.lt
                      have := O6A.size
                      exact ⟨((r1.on O69).kp K9r (by simp; omega)).kp K10 (by simp; omega), r2, r3⟩
                    · obtain rfl : y = xn := by simpa using h
                      subst hxn
                      have := O69.size
                      have := K2.size
                      exact ⟨(hG12.row.1.toO).kp K10 (by simp; omega), by show w1.heap.size ≤ g5; omega, by show cur.length ≤ c5; rw [HCLN.out]; exact hc5⟩
                  · refine small_next SY hka (by rw [hl7]; omega) HXA.out hY1 HXB.out hY2 (by rw [hxn]) ?_ ?_ (by rw [hxn]; show cur.length = _; rw [HCLN.out, ← HSY.out, List.length_append])
                    · rw [hxn]
                      show min xa.1.f xb.1.f < n
                      have := (SY.at_ xa hma).1
                      omega
                    · rw [hxn]
                      exact fun z hz => HSZ.out z (HSW.out.perm.mem_iff.1 hz)
                  · intro y hy
                    rcases List.mem_append.1 hy with h | h
                    · exact HDYh.out y (HMY.out y h)
                    · obtain rfl : y = xn := by simpa using h
                      rw [hxn]
                      exact HHD.out
                  · refine Lib.hid ?_
                    rw [HB2.out, List.take_of_length_le (Nat.le_refl _), hXl]
                    exact bump_all HOB2.out (by omega)
                  · refine Lib.hid ?_
                    rw [← HR.out, hF2, rounds_next h2 hka (by rw [hl7]; omega) HKA.out HXA.out hY1 HKB.out HXB.out hY2, HB2.out, List.take_of_length_le (Nat.le_refl _), HSY.out, List.map_append, hxn]
                    exact rounds_same F _ _ _ ((Sames.refl _).snoc HSM.out)
                case measure => show Y.length - 1 - 1 + 1 < Y.length; omega
end Go.Proofs.YtnadjlejlohgiaaGreatDoor.Wi

/- Lengths that are kept short, as the program makes them: LensOf, trimmed. Conditions: numbers, sizes, not too many symbols. -/
namespace Go.Proofs.YtnadjlejlohgiaaGreatDoor.Wi
open Go.RowKit Go.Proofs.YtnadjlejlohgiaaGreatDoor.Mem Go.Proofs.YtnadjlejlohgiaaGreatDoor.Hf
set_option linter.unusedVariables false
set_option linter.unusedSimpArgs false
open Go.Proofs.YtnadjlejlohgiaaGreatDoor.Cd in
theorem used_take {c : List Nat} {k : Nat} (h : k < c.length) : used (c.take (k + 1)) = used (c.take k) + if 0 < c.getD k 0 then 1 else 0 := by
  rw [List.take_succ_eq_append_getElem h, En.used_append, List.getD_eq_getElem?_getD, List.getElem?_eq_getElem h]
  by_cases h0 : 0 < c[k]
  · rw [show (some c[k]).getD 0 = c[k] from rfl, if_pos h0]; unfold used; rw [List.filter_cons, if_pos (by simpa using h0)]; rfl
  · rw [show (some c[k]).getD 0 = c[k] from rfl, if_neg h0]; unfold used; rw [List.filter_cons, if_neg (by simpa using h0)]; rfl
theorem i64s_take (c : List Nat) (k : Nat) : i64s (c.take k) = (i64s c).take k := by unfold i64s; rw [List.map_take]
set_option maxRecDepth 100000 in
set_option maxHeartbeats 1000000 in
open Go.Proofs.YtnadjlejlohgiaaGreatDoor.Cd in
theorem ilensof_calls (counts : List Nat) (g o n cap most : Nat) (w : World) (hR : RowO w g o 3 (i64s counts)) (hn : counts.length = n) (hn2 : n ≤ 300) (hnc : n ≤ cap) (hx : ∀ x ∈ counts, x ≤ 100000)
    (hm1 : 1 ≤ most) (hm2 : most ≤ 15) (hp : ∃ k, 0 < counts.getD k 0) (hl : n < fib (most + 3)) (hu1 : 1 ≤ used counts) (hu2 : used counts ≤ 2 ^ (most - 1)) :
    Calls Tryz.prog 113 #[.slice (some ⟨g, o, none⟩) n cap, .int .i64 (most : Int)] w (GivesI w (fit most counts)) := by
  have HN := Lib.hid hn
  have HP := Lib.hid hp
  have HL := Lib.hid hl
  have HX := Lib.hid hx
  have hn' : ¬ (300 : Int) < (n : Int) := by omega
  have hn'' : decide ((300 : Int) < (n : Int)) = false := by simpa using hn'
  have hm1' : (1 : Int) ≤ most := by omega
  have hm2' : (most : Int) ≤ 15 := by omega
  obtain ⟨i1, hi1, hj0, hj1, hj2⟩ := info_parts i64info
  clear hn hp hl hx
  go_enter Tryz.func113, Tryz.ntmps113
  go_wp2_with fail
  refine (within_yes w hm1' hm2').mono ?_
  rintro e w' ⟨rfl, rfl⟩
  go_wp2_with fail
  have NC := Own.new (base := w'.heap.size) w' 3 1 #[] 0 (Nat.zero_le _) rfl (Nat.le_refl _)
  have OC := (On.refl w').alloc (.cells #[] 3)
  have RC := hR.on OC
  go_loopw [5, 6, 26] (fun v m x wr => ∃ (k u : Nat), x = .int .i64 (k : Int) ∧ k ≤ n ∧ Own w'.heap.size wr 3 1 v k (i64s (counts.take k)) ∧ m = .int .i64 (u : Int) ∧ u ≤ k ∧ RowKit.Hid (u = used (counts.take k)) ∧ On w' wr) (fun _ _ x _ => n - (intOf x).toNat)
  case atStart => exact ⟨0, 0, rfl, by omega, NC, rfl, by omega, Lib.hid rfl, OC⟩
  case round =>
    obtain ⟨k, u, rfl, hk, hO, rfl, huk, HU, O⟩ := hrel
    by_cases hlt : k < n
    · have hkl : k < counts.length := by rw [HN.out]; exact hlt
      have c0 := (hR.on O).cell (i64s_get hkl)
      have hx1 := Cd.getD_le HX.out k
      have HUT := Lib.hid (used_take hkl)
      have ht : i64s (counts.take (k + 1)) = i64s (counts.take k) ++ (#[Value.int .i64 (counts.getD k 0 : Nat)] : Array Value).toList := by
        rw [List.take_succ_eq_append_getElem hkl, i64s_append, List.getD_eq_getElem?_getD, List.getElem?_eq_getElem hkl]; rfl
      have HTK := Lib.hid ht
      generalize counts.getD k 0 = x at *
      have hk2 : (k : Int) < n := by omega
      have hx0 : (0 : Int) ≤ x := by omega
      have hx2 : (x : Int) ≤ 100000 := by omega
      have hO' := hO
      clear ht
      by_cases h0 : 0 < x
      case' pos =>
        have h0' : (0 : Int) < x := by omega
        have HU1 : RowKit.Hid (u + 1 = used (counts.take (k + 1))) := Lib.hid (by rw [HUT.out, if_pos h0, HU.out])
        obtain ⟨u1, hu1'⟩ : ∃ u1, u + 1 = u1 := ⟨_, rfl⟩
        have eu : (u : Int) + 1 = (u1 : Int) := by omega
        have hu1k : u1 ≤ k + 1 := by omega
        rw [hu1'] at HU1
        have HEU := Lib.hid eu
        clear h0 hu1' eu
      case' neg =>
        have h0' : ¬ (0 : Int) < x := by omega
        have HU1 : RowKit.Hid (u = used (counts.take (k + 1))) := Lib.hid (by rw [HUT.out, if_neg h0, Nat.add_zero, HU.out])
        obtain ⟨u1, hu1'⟩ : ∃ u1, u = u1 := ⟨_, rfl⟩
        have eu : (u : Int) = (u1 : Int) := by omega
        have hu1k : u1 ≤ k + 1 := by omega
        rw [hu1'] at HU1
        have HEU := Lib.hid eu
        clear h0 hu1' eu
      all_goals
        go_wp2_with fail
        refine (within_yes wr hx0 hx2).mono ?_
        rintro e w1 ⟨rfl, rfl⟩
        go_wp2_with (at_builtin; go_must (refine wpList_app rfl _ _ 98 rfl w' i1 (.int .i64 0) 8 1 Tryz.underlying98 hi1 hj0 hj1 hj2 rfl (by decide) rfl _ _ _ rfl hO O rfl (by simp [Value.oneCell']) (by unfold maxLen; omega) (by omega) ?_); intro v2 w2 hown2 O2 _)
        go_roundw
        case rel => exact ⟨k + 1, u1, by go_num, by omega, by rw [HTK.out]; exact hown2, by rw [← HEU.out], hu1k, HU1, O2⟩
        case measure => simp [intOf]; omega
    · obtain rfl : k = n := by omega
      have e0 : counts.take k = counts := List.take_of_length_le (by rw [HN.out]; exact Nat.le_refl _)
      rw [e0] at hO HU
      obtain ⟨r1, cap1, hv1, N1, hb1, hr1⟩ := own_nums hO HN.out
      subst hv1
      have hc1 := N1.row.2.2.1
      rw [← HU.out] at hu1 hu2
      have hu1' : (1 : Int) ≤ u := by omega
      obtain ⟨q, hq⟩ : ∃ q, most - 1 = q := ⟨_, rfl⟩
      rw [hq] at hu2
      have eq1 : (most : Int) - 1 = (q : Int) := by omega
      have hq64 : (q : Int) < 64 := by omega
      have hq0 : (0 : Int) ≤ q := by omega
      have hp16 : 2 ^ q ≤ 2 ^ 16 := Nat.pow_le_pow_right (by omega) (by omega)
      have h3 : IntKind.i64.wrap ((2 : Int) ^ q) = ((2 ^ q : Nat) : Int) := by
        rw [show (2 : Int) ^ q = ((2 ^ q : Nat) : Int) from by simp, IntKind.wrap_i64]; omega
      generalize 2 ^ q = P at *
      have hu2' : (u : Int) ≤ P := by omega
      clear e0 hq
      have kk' : ¬ (k : Int) < (k : Int) := by omega
      go_wp2_with fail
      refine (within_yes wr hu1' hu2').mono ?_
      rintro e w1 ⟨rfl, rfl⟩
      go_wp2_with fail
      go_loopw [9] (fun v w2 => ∃ (c : List Nat), Nums w2 r1 (.slice (some ⟨r1, 0, none⟩) k cap1) c ∧ RowKit.Hid (fit most c = fit most counts) ∧ RowKit.Hid (c.length = k) ∧ RowKit.Hid (∀ x ∈ c, x ≤ 100000) ∧ RowKit.Hid (∃ k, 0 < c.getD k 0) ∧ Kp [r1] w1 w2) (fun _ w2 => rowSum w2 r1 k)
      case atStart => exact ⟨counts, N1, Lib.hid rfl, HN, HX, HP, Kp.refl _ _⟩
      case round =>
        obtain ⟨c, N3, HF, HC, HXc, HPc, K⟩ := hrel
        have hsm := lensOf_small HPc.out HXc.out (by rw [HC.out]; exact hn2)
        have HSM := Lib.hid hsm
        have hfs := Lib.hid (fit_step hm1 HPc.out (show c.length < fib (most + 3) by rw [HC.out]; exact HL.out))
        have hid := Lib.hid (idepths_calls c r1 0 k cap1 wr N3.row.1.toO HC.out hn2 hc1 HXc.out)
        clear hsm
        go_wp2_with fail
        refine hid.out.mono ?_
        rintro e w3 ⟨r2, cap2, rfl, N2, hb2, hr2, O2⟩
        have hl2 : (lensOf c).length = k := (lensOf_length c).trans HC.out
        rw [hl2] at N2 ⊢
        have HL2 := Lib.hid hl2
        clear hl2 hid
        go_wp2_with fail
        go_loopw [10, 54] (fun a x w4 => ∃ (j t : Nat), x = .int .i64 (j : Int) ∧ j ≤ k ∧ a = .int .i64 (t : Int) ∧ RowKit.Hid (t = topTo (lensOf c) j) ∧ w4 = w3) (fun _ x _ => k - (intOf x).toNat)
        case atStart => exact ⟨0, 0, rfl, by omega, rfl, Lib.hid rfl, rfl⟩
        case round =>
          obtain ⟨j, t, rfl, hj, rfl, HT, rfl⟩ := hrel
          by_cases hjk : j < k
          · have hjl : j < (lensOf c).length := by rw [HL2.out]; exact hjk
            have d0 := N2.row.1.cell (i64s_get hjl)
            have HTS := Lib.hid (show topTo (lensOf c) (j + 1) = max t ((lensOf c).getD j 0) from by rw [topTo, HT.out])
            have hy := Cd.getD_le HSM.out j
            generalize (lensOf c).getD j 0 = y at *
            have hjk' : (j : Int) < k := by omega
            by_cases h0 : t < y
            · have h0' : (t : Int) < y := by omega
              have hmx : max (t : Int) (y : Int) = y := by omega
              go_wp2_with fail
              go_roundw
              case rel => exact ⟨j + 1, y, by go_num, by omega, rfl, Lib.hid (by rw [HTS.out]; omega), trivial⟩
              case measure => simp [intOf]; omega
            · have h0' : ¬ (t : Int) < y := by omega
              have hmx : max (t : Int) (y : Int) = t := by omega
              go_wp2_with fail
              go_roundw
              case rel => exact ⟨j + 1, t, by go_num, by omega, rfl, Lib.hid (by rw [HTS.out]; omega), trivial⟩
              case measure => simp [intOf]; omega
          · have hjk2 : j = k := by omega
            have hjk' : ¬ (j : Int) < (k : Int) := by omega
            have HTP : RowKit.Hid (top (lensOf c) = t) := Lib.hid (by unfold top; rw [HL2.out, HT.out, hjk2])
            clear hjk2
            by_cases ht : t ≤ most
            · have ht' : (t : Int) ≤ (most : Int) := by omega
              have hres : fit most counts = lensOf c := by rw [← HF.out, hfs.out, if_pos (by rw [HTP.out]; exact ht)]
              have HR := Lib.hid hres
              clear hres
              go_wp2_with fail
              go_ret
              exact ⟨r2, cap2, by rw [HR.out, HL2.out]; rfl, by rw [HR.out, HL2.out]; exact N2, by have := O.size; have := K.size; omega, hr2, (K.then (Kp.of _ O2)).on O (fun x hx => by simp at hx; omega)⟩
            · have ht' : ¬ (t : Int) ≤ (most : Int) := by omega
              have N5 := N3.on O2
              go_wp2_with fail
              go_loopw [68] (fun x w4 => ∃ (i : Nat), x = .int .i64 (i : Int) ∧ i ≤ k ∧ Nums w4 r1 (.slice (some ⟨r1, 0, none⟩) k cap1) (halfTo c i) ∧ Kp [r1] wr w4) (fun x _ => k - (intOf x).toNat)
              case atStart => exact ⟨0, rfl, by omega, by unfold halfTo; rw [List.take_zero, List.nil_append, List.drop_zero]; exact N5, Kp.refl _ _⟩
              case round =>
                obtain ⟨i, rfl, hi, N6, K6⟩ := hrel
                by_cases hik : i < k
                · have hil : i < c.length := by rw [HC.out]; exact hik
                  have hik' : (i : Int) < (k : Int) := by omega
                  have c0 := N6.row.1.cell (i64s_get (show i < (halfTo c i).length by rw [halfTo_length (Nat.le_of_lt hil)]; exact hil))
                  rw [halfTo_get hil] at c0
                  have hs := halfTo_set hil
                  have hxk : c.getD i 0 ≤ 100000 := Cd.getD_le HXc.out i
                  have HS := Lib.hid hs
                  have fe : ∀ j, wr.frozen? ⟨r1, j, none⟩ = false := N6.row.1.frozen
                  clear hs
                  generalize c.getD i 0 = x at *
                  have e1 : ((x : Int) + 1) / 2 = (((x + 1) / 2 : Nat) : Int) := by omega
                  have NS := N6.set i ((x + 1) / 2)
                  rw [HS.out] at NS
                  have KS := K6.set (p := ⟨r1, i, none⟩) (.inl (by simp)) (.int .i64 (((x + 1) / 2 : Nat) : Int))
                  rw [← e1] at NS KS
                  clear e1
                  go_wp2_with fail
                  go_roundw
                  case rel => exact ⟨i + 1, by go_num, by omega, NS, KS⟩
                  case measure => simp [intOf]; omega
                · have hik2 : i = k := by omega
                  have hik' : ¬ (i : Int) < (k : Int) := by omega
                  have hh : halfTo c i = halve c := by rw [hik2, ← HC.out]; exact halfTo_all c
                  rw [hh] at N6
                  have hlh : (halve c).length = k := (halve_length c).trans HC.out
                  have HLH := Lib.hid hlh
                  clear hh hlh hik2
                  have Kt := (K.then (Kp.of _ O2)).then K6
                  have hm := rowSum_of N6.row.1 HLH.out
                  have hm0 := rowSum_of N3.row.1 HC.out
                  have hsl := halve_less hm1 HPc.out (show c.length < fib (most + 3) by rw [HC.out]; exact HL.out) (by rw [HTP.out]; omega)
                  have HM := Lib.hid hm
                  have HM0 := Lib.hid hm0
                  have HSL := Lib.hid hsl
                  clear hm hm0 hsl
                  go_wp2_with fail
                  go_roundw
                  case rel => exact ⟨halve c, N6, Lib.hid (by rw [← HF.out, hfs.out, if_neg (by rw [HTP.out]; exact ht)]), HLH, Lib.hid (halve_le HXc.out), Lib.hid (halve_pos HPc.out), Kt⟩
                  case measure => rw [HM.out, HM0.out]; exact HSL.out
open Go.Proofs.YtnadjlejlohgiaaGreatDoor.En in
set_option maxRecDepth 100000 in
theorem itrim_calls (lens : List Nat) (g n cap least : Nat) (w : World) (hR : RowO w g 0 3 (i64s lens)) (hn : lens.length = n) (hn2 : n ≤ 1000) (hnc : n ≤ cap) (hl : least ≤ 1000) :
    Calls Tryz.prog 112 #[.slice (some ⟨g, 0, none⟩) n cap, .int .i64 (least : Int)] w fun e w' => e = .returned (.slice (some ⟨g, 0, none⟩) (trimTo lens least n) cap) ∧ w' = w := by
  have HN := Lib.hid hn
  clear hn
  go_enter Tryz.func112, Tryz.ntmps112
  go_wp2_with fail
  go_loop [5] (fun x => ∃ (k : Nat), x = .int .i64 (k : Int) ∧ k ≤ n ∧ RowKit.Hid (trimTo lens least k = trimTo lens least n)) (fun x => (intOf x).toNat)
  case atStart => exact ⟨n, rfl, Nat.le_refl _, Lib.hid rfl⟩
  case round =>
    obtain ⟨k, rfl, hk, HT⟩ := hrel
    by_cases h1 : least < k
    · obtain ⟨j, rfl⟩ : ∃ j, k = j + 1 := ⟨k - 1, by omega⟩
      have h1' : decide ((least : Int) < ((j + 1 : Nat) : Int)) = true := by simp; omega
      have c0 := hR.cell (i64s_get (show j < lens.length by rw [HN.out]; omega))
      rw [Nat.zero_add] at c0
      have hj : (j : Int) < n := by omega
      have e1 : ((j + 1 : Nat) : Int) - 1 = (j : Int) := by omega
      have hstep := Lib.hid (show trimTo lens least (j + 1) = if least < j + 1 ∧ lens.getD j 0 = 0 then trimTo lens least j else j + 1 from rfl)
      generalize lens.getD j 0 = x at *
      by_cases h0 : x = 0
      · have h0' : ((x : Int) == 0) = true := by simp; omega
        have HS : RowKit.Hid (trimTo lens least j = trimTo lens least n) := Lib.hid (by rw [← HT.out, hstep.out, if_pos ⟨h1, h0⟩])
        clear h0
        go_wp2_with fail
        go_round
        case rel => exact ⟨j, by go_num, by omega, HS⟩
        case measure => simp [intOf]
      · have h0' : ((x : Int) == 0) = false := by simpa using h0
        have HS : RowKit.Hid (j + 1 = trimTo lens least n) := Lib.hid (by rw [← HT.out, hstep.out, if_neg (fun h => h0 h.2)])
        clear h0
        go_wp2_with fail
        go_ret
        exact ⟨by rw [← HS.out]; rfl, rfl⟩
    · have h1' : decide ((least : Int) < (k : Int)) = false := by simp; omega
      have HS : RowKit.Hid (k = trimTo lens least n) := Lib.hid (by
        rw [← HT.out]
        cases k with
        | zero => rfl
        | succ j => rw [trimTo, if_neg (fun h => h1 h.1)])
      go_wp2_with fail
      go_ret
      exact ⟨by rw [← HS.out]; rfl, rfl⟩
end Go.Proofs.YtnadjlejlohgiaaGreatDoor.Wi

