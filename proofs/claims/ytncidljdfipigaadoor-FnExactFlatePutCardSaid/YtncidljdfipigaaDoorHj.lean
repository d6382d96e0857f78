/- The program's heaps in memory, and what takes the least one out. Conditions: rows that are only read; the least symbol stands at the head. -/
import Derived.Test.YtncidljdfipigaaDoorHs
import Derived.Test.YtncidljdfipigaaDoorHp
namespace Go.Proofs.YtncidljdfipigaaDoor.Wi
open Go.RowKit Go.Proofs.YtncidljdfipigaaDoor.Mem Go.Proofs.YtncidljdfipigaaDoor.Hf
set_option linter.unusedVariables false
set_option linter.unusedSimpArgs false
def hcell (x : Tr) : List Value := [.int .i64 (x.1.c : Int), .slice (some ⟨x.2.1, 0, none⟩) x.1.s.length x.2.2]
def hcells (X : List Tr) : List Value := X.flatMap hcell
theorem hcells_length (X : List Tr) : (hcells X).length = 2 * X.length := by
  induction X with
  | nil => rfl
  | cons x X ih =>
    have e : hcells (x :: X) = hcell x ++ hcells X := rfl
    rw [e, List.length_append, ih, List.length_cons]
    show 2 + _ = _
    omega
theorem hcells_append (X Y : List Tr) : hcells (X ++ Y) = hcells X ++ hcells Y := by unfold hcells; rw [List.flatMap_append]
theorem hcells_get : ∀ (X : List Tr) {i : Nat} (h : i < X.length), (hcells X)[2 * i]? = some (.int .i64 (X[i].1.c : Int)) ∧ (hcells X)[2 * i + 1]? = some (.slice (some ⟨X[i].2.1, 0, none⟩) X[i].1.s.length X[i].2.2)
  | x :: X, 0, _ => ⟨rfl, rfl⟩
  | x :: X, i + 1, h => by
    have e : hcells (x :: X) = hcell x ++ hcells X := rfl
    have h3 : (hcell x).length = 2 := rfl
    obtain ⟨a, b⟩ := hcells_get X (i := i) (by simpa using h)
    rw [e]
    refine ⟨?_, ?_⟩
    · rw [List.getElem?_append_right (by rw [h3]; omega), h3, show 2 * (i + 1) - 2 = 2 * i from by omega]; exact a
    · rw [List.getElem?_append_right (by rw [h3]; omega), h3, show 2 * (i + 1) + 1 - 2 = 2 * i + 1 from by omega]; exact b
theorem hcells_take : ∀ (X : List Tr) (k : Nat), hcells (X.take k) = (hcells X).take (2 * k)
  | _, 0 => by simp [hcells]
  | [], k + 1 => by simp [hcells]
  | x :: X, k + 1 => by
    have e : hcells (x :: X) = hcell x ++ hcells X := rfl
    have e2 : hcells ((x :: X).take (k + 1)) = hcell x ++ hcells (X.take k) := rfl
    have h3 : (hcell x).length = 2 := rfl
    rw [e, e2, hcells_take X k, List.take_append, h3, show 2 * (k + 1) - 2 = 2 * k from by omega, List.take_of_length_le (l := hcell x) (by rw [h3]; omega)]
theorem hcells_drop : ∀ (X : List Tr) (k : Nat), hcells (X.drop k) = (hcells X).drop (2 * k)
  | _, 0 => by simp
  | [], k + 1 => by simp [hcells]
  | x :: X, k + 1 => by
    have e : hcells (x :: X) = hcell x ++ hcells X := rfl
    have h3 : (hcell x).length = 2 := rfl
    rw [List.drop_succ_cons, hcells_drop X k, e, List.drop_append, h3, show 2 * (k + 1) - 2 = 2 * k from by omega, show List.drop (2 * (k + 1)) (hcell x) = [] from List.drop_eq_nil_of_le (by rw [h3]; omega), List.nil_append]
theorem hcells_erase (X : List Tr) (k : Nat) : hcells (X.eraseIdx k) = (hcells X).take (2 * k) ++ (hcells X).drop (2 * (k + 1)) := by
  rw [List.eraseIdx_eq_take_drop_succ, hcells_append, hcells_take, hcells_drop]
theorem hcells_one (X : List Tr) {u : Value} (hu : u ∈ hcells X) : u.oneCell' = true := by
  unfold hcells at hu
  obtain ⟨x, _, hx⟩ := List.mem_flatMap.1 hu
  simp [hcell] at hx
  rcases hx with rfl | rfl <;> rfl
theorem heapinfo : (Tryd.prog.info? 123).map (fun i => (i.zero, i.size, i.bytes)) = some (some (.agg #[.int .i64 0, .slice none 0 0]), 2, 32) := by kernel_rfl
/-- A row of numbers is no row of heaps. -/
theorem rowo_neh {w : World} {g g' o : Nat} {xs ys : List Value} (h : RowO w g o 3 xs) (h' : Row w g' 123 ys) : g ≠ g' := by
  rintro rfl
  obtain ⟨cs, hb, _⟩ := h.out
  obtain ⟨ds, hd, _⟩ := h'.out
  have := hb.out.symm.trans hd.out
  simp at this
/-- What the program's least tells: the least, and the rest. -/
structure LeastOut (w : World) (X : List Tr) (n : Nat) (e : Ending) (w' : World) : Prop where mk ::
  out : ∃ (k : Nat) (x : Tr) (v : Value), least (X.map (·.1)) = k ∧ X[k]? = some x ∧ e = .returned (.tuple #[.agg #[.int .i64 (x.1.c : Int), .slice (some ⟨x.2.1, 0, none⟩) x.1.s.length x.2.2], v]) ∧ Own w.heap.size w' 123 2 v (n - 1) (hcells (X.eraseIdx k)) ∧ On w w'
set_option maxRecDepth 100000 in
set_option maxHeartbeats 2000000 in
theorem ileast_calls (X : List Tr) (g n cap base : Nat) (w : World) (hX : Row w g 123 (hcells X)) (hS : Syms w base X) (hH : ∀ x ∈ X, Headed x.1) (hn : X.length = n) (hn1 : 1 ≤ n) (hn2 : n ≤ 1000) (hnc : n ≤ cap) (hc : ∀ x ∈ X, x.1.c ≤ 100000000 ∧ x.1.f ≤ 1000) :
    Calls Tryd.prog 131 #[.slice (some ⟨g, 0, none⟩) n cap] w (LeastOut w X n) := by
  have HN := Lib.hid hn
  clear hn
  obtain ⟨i2, hi2, hz2, hs2, hb2⟩ := info_parts heapinfo
  have hgw := hX.lt
  have hget : ∀ i, i < n → ∃ c f q m cq, c ≤ 100000000 ∧ f ≤ 1000 ∧ 0 < m ∧ ((X.map (·.1)).getD i dflt).c = c ∧ ((X.map (·.1)).getD i dflt).f = f ∧ (∀ w', On w w' → w'.cell? ⟨g, i * 2, none⟩ = some (.int .i64 (c : Int)) ∧ w'.cell? ⟨g, i * 2 + 1, none⟩ = some (.slice (some ⟨q, 0, none⟩) m cq) ∧ w'.cell? ⟨q, 0, none⟩ = some (.int .i64 (f : Int))) := by
    intro i hi
    have hiX : i < X.length := by rw [HN.out]; exact hi
    obtain ⟨a, b⟩ := hcells_get X hiX
    have hxm := List.getElem_mem hiX
    have hm := hc X[i] hxm
    have hd := hH X[i] hxm
    have hr := (hS X[i] hxm).1
    have e : (X.map (·.1)).getD i dflt = X[i].1 := by rw [List.getD_eq_getElem?_getD, List.getElem?_map, List.getElem?_eq_getElem hiX]; rfl
    refine ⟨X[i].1.c, X[i].1.f, X[i].2.1, X[i].1.s.length, X[i].2.2, hm.1, hm.2, hd.h0, by rw [e], by rw [e], fun w' O => ⟨?_, ?_, ?_⟩⟩
    · rw [Nat.mul_comm i 2]; exact (hX.on O).cell a
    · rw [Nat.mul_comm i 2]; exact (hX.on O).cell b
    · have := (hr.on O).cell (i64s_get hd.h0)
      rw [hd.head] at this
      exact this
  have HNEW1 := Lib.hid (show ∀ k W, On w W → ∀ j u, ((hcells X).take (2 * k))[j]? = some u → W.cell? ((⟨g, 0, none⟩ : Addr).add j) = some u from fun k W O j u hu => by
    have ha : (⟨g, 0, none⟩ : Addr).add j = ⟨g, j, none⟩ := by unfold Addr.add; split <;> simp_all
    rw [ha]
    refine (hX.on O).cell ?_
    rw [List.getElem?_take] at hu
    split at hu
    · exact hu
    · cases hu)
  have HX := Lib.hid hX
  have HGET := Lib.hid hget
  clear hget hc hX hS hH
  obtain ⟨L, hL⟩ : ∃ L, X.map (·.1) = L := ⟨_, rfl⟩
  have hLn : L.length = n := by rw [← hL, List.length_map, HN.out]
  rw [hL] at HGET
  have HLN := Lib.hid hLn
  have HLX := Lib.hid hL
  clear hL hLn
  have hn0 : (0 : Int) < n := by omega
  go_enter Tryd.func131, Tryd.ntmps131
  go_wp2_with fail
  have B0 := Blk.new w 123 #[.int .i64 0, .slice none 0 0]
  have O0 := (On.refl w).alloc (.cells #[.int .i64 0, .slice none 0 0] 123)
  generalize hRB : w.heap.size = R at *
  have HRB := Lib.hid hRB
  clear hRB
  generalize w.alloc (.cells #[.int .i64 0, .slice none 0 0] 123) = w1 at *
  go_loopw [4, 10] (fun a x wr => ∃ (k m : Nat), x = .int .i64 (k : Int) ∧ k ≤ n ∧ a = .int .i64 (m : Int) ∧ m < n ∧ RowKit.Hid (m = leastTo L (k - 1)) ∧ On w1 wr) (fun _ x _ => n - (intOf x).toNat)
  case atStart => exact ⟨0, 0, rfl, by omega, rfl, by omega, Lib.hid rfl, On.refl _⟩
  case round =>
    obtain ⟨k, m, rfl, hk, rfl, hm, HM, O1⟩ := hrel
    have O := O0.call O1
    by_cases hlt : k < n
    · obtain ⟨ck, fk, qk, mk, sk, hck, hfk, hmk, eck, efk, cellk⟩ := HGET.out k hlt
      obtain ⟨cm, fm, qm, mm, sm, hcm, hfm, hmm, ecm, efm, cellm⟩ := HGET.out m hm
      have HT := Lib.hid (show leastTo L k = if less (L.getD k dflt) (L.getD m dflt) then k else m from by
        cases k with
        | zero =>
          have : m = 0 := HM.out
          subst this
          split <;> rfl
        | succ j => rw [leastTo, HM.out]; rfl)
      have HLS := Lib.hid (show less (L.getD k dflt) (L.getD m dflt) = decide (ck < cm ∨ ck = cm ∧ fk < fm) from by unfold less; rw [eck, efk, ecm, efm])
      clear eck efk ecm efm
      obtain ⟨a0, a1, _⟩ := cellk wr O
      have hk2 : (k : Int) < n := by omega
      have hm2 : (m : Int) < n := by omega
      have OA := (On.refl wr).alloc (.cells #[.int .i64 (ck : Int), .slice (some ⟨qk, 0, none⟩) mk sk] 123)
      have BA := Blk.new wr 123 #[.int .i64 (ck : Int), .slice (some ⟨qk, 0, none⟩) mk sk]
      obtain ⟨_, _, k2⟩ := cellk _ (O.call OA)
      obtain ⟨m0, m1, m2⟩ := cellm _ (O.call OA)
      have O1A := O1.call OA
      clear cellk cellm
      go_upto_region 5 with fail
      generalize hPA : wr.heap.size = pa at *
      have HPA := Lib.hid hPA
      clear hPA
      generalize wr.alloc (.cells #[.int .i64 (ck : Int), .slice (some ⟨qk, 0, none⟩) mk sk] 123) = wa at *
      have p0 : wa.cell? ⟨pa, 0, none⟩ = some (.int .i64 (ck : Int)) := (BA.cell 0).trans rfl
      have p1 : wa.cell? ⟨pa, 1, none⟩ = some (.slice (some ⟨qk, 0, none⟩) mk sk) := (BA.cell 1).trans rfl
      have hmk' : (0 : Int) < mk := by omega
      have hmm' : (0 : Int) < mm := by omega
      clear a0 a1 BA
      by_cases h1 : ck < cm
      · have h1' : decide ((ck : Int) < (cm : Int)) = true := by simp; omega
        have h1'' : (ck : Int) < (cm : Int) := by omega
        go_quiet (fail)
        go_wp2_with fail
        go_roundw
        case rel => exact ⟨k + 1, k, by go_num, by omega, rfl, by omega, Lib.hid (by rw [show k + 1 - 1 = k from by omega, HT.out, HLS.out, if_pos (by simp; omega)]), O1A.drewN _⟩
        case measure => simp [intOf]; omega
      · have h1' : decide ((ck : Int) < (cm : Int)) = false := by simp; omega
        by_cases h2 : ck = cm
        · subst h2
          have h2' : ((ck : Int) == (ck : Int)) = true := by simp
          by_cases h3 : fk < fm
          · have h3' : decide ((fk : Int) < (fm : Int)) = true := by simp; omega
            have h3'' : (fk : Int) < (fm : Int) := by omega
            go_quiet (fail)
            go_wp2_with fail
            go_roundw
            case rel => exact ⟨k + 1, k, by go_num, by omega, rfl, by omega, Lib.hid (by rw [show k + 1 - 1 = k from by omega, HT.out, HLS.out, if_pos (by simp; omega)]), O1A.drewN _⟩
            case measure => simp [intOf]; omega
          · have h3' : decide ((fk : Int) < (fm : Int)) = false := by simp; omega
            go_quiet (fail)
            go_wp2_with fail
            go_roundw
            case rel => exact ⟨k + 1, m, by go_num, by omega, rfl, by omega, Lib.hid (by rw [show k + 1 - 1 = k from by omega, HT.out, HLS.out, if_neg (by simp; omega)]), O1A.drewN _⟩
            case measure => simp [intOf]; omega
        · have h2' : ((ck : Int) == (cm : Int)) = false := by simp; omega
          go_quiet (fail)
          go_wp2_with fail
          go_roundw
          case rel => exact ⟨k + 1, m, by go_num, by omega, rfl, by omega, Lib.hid (by rw [show k + 1 - 1 = k from by omega, HT.out, HLS.out, if_neg (by simp; omega)]), O1A.drewN _⟩
          case measure => simp [intOf]; omega
    · have hkn : k = n := by omega
      have hle : m = least L := by unfold least; rw [HM.out, HLN.out, hkn]
      have HLE := Lib.hid hle
      have hk' : ¬ (k : Int) < (n : Int) := by omega
      have hmX : m < X.length := by rw [HN.out]; exact hm
      obtain ⟨ga0, ga1⟩ := hcells_get X hmX
      have r6 := HX.out.on O
      have d0 := r6.cell ga0
      have d1 := r6.cell ga1
      rw [Nat.mul_comm 2 m] at d0 d1
      obtain ⟨xa, hxa⟩ : ∃ xa, X[m] = xa := ⟨_, rfl⟩
      rw [hxa] at d0 d1
      have HXA := Lib.hid (show X[m]? = some xa from by rw [List.getElem?_eq_getElem hmX, hxa])
      have OA := (On.refl wr).alloc (.cells #[.int .i64 (xa.1.c : Int), .slice (some ⟨xa.2.1, 0, none⟩) xa.1.s.length xa.2.2] 123)
      have BA := Blk.new wr 123 #[.int .i64 (xa.1.c : Int), .slice (some ⟨xa.2.1, 0, none⟩) xa.1.s.length xa.2.2]
      have BR := B0.call (O1.call OA).out
      have OwS := O.call OA
      have hRl := B0.lt
      have hz1 := O1.size
      clear hkn hle hxa ga0 ga1 hmX r6 HM HGET
      have hm2 : (m : Int) < n := by omega
      have hkk : (m : Int) ≤ n := by omega
      have hk1 : (m : Int) + 1 ≤ n := by omega
      have hk3 : (m : Int) ≤ cap := by omega
      have hk5 : (n : Int) ≤ cap := by omega
      have hk6 : (0 : Int) ≤ (m : Int) + 1 := by omega
      have ek : IntKind.i64.wrap ((m : Int) + 1) = (m : Int) + 1 := by rw [IntKind.wrap_i64]; omega
      go_upto_region 9 with fail
      generalize hPA : wr.heap.size = pa at *
      have hpR : pa ≠ R := by omega
      have HPA := Lib.hid hPA
      clear hPA
      generalize wr.alloc (.cells #[.int .i64 (xa.1.c : Int), .slice (some ⟨xa.2.1, 0, none⟩) xa.1.s.length xa.2.2] 123) = wS at *
      have HCP := Lib.hid (show ∀ W, Kp [R] wS W → W.cell? ⟨pa, 0, none⟩ = some (.int .i64 (xa.1.c : Int)) ∧ W.cell? ⟨pa, 1, none⟩ = some (.slice (some ⟨xa.2.1, 0, none⟩) xa.1.s.length xa.2.2) from fun W h => ⟨(h.cell BA.lt (by simpa using hpR)).trans ((BA.cell 0).trans rfl), (h.cell BA.lt (by simpa using hpR)).trans ((BA.cell 1).trans rfl)⟩)
      clear d0 d1 BA
      by_cases hck : cap = m + 1
      · subst hck
        have hn1' : n = m + 1 := by omega
        have hnk : (n : Int) ≤ (m : Int) + 1 := by omega
        have hmm1 : (m : Int) ≤ (m : Int) + 1 := by omega
        have HN1 := Lib.hid hn1'
        clear hn1'
        have HNEW2 := Lib.hid (show ∀ W, On w W → ∀ j u, ((hcells X).drop (2 * (m + 1)))[j]? = some u → W.cell? ((⟨g, 0, none⟩ : Addr).add j) = some u from fun W O j u hu => by
          rw [List.drop_eq_nil_of_le (by rw [hcells_length, HN.out]; have := HN1.out; omega)] at hu
          simp at hu)
        have CP0 := fun W h => (HCP.out W h).1
        have CP1 := fun W h => (HCP.out W h).2
        refine wp_region_held_drew (S := fun W => Kp [R] wS W) (by kernel_rfl) (Kp.refl _ _).drew (fun hHeld => ?_)
        have OwD := (On.refl wS).drew
        have OWD := OwS.call OwD
        refine wpAnyH_take (i := 0) (oi := _) (v := ?_) rfl (by kernel_rfl) (by kernel_rfl) (by kernel_rfl) (fun _ _ _ h => h) (Or.inl ⟨by rfl, ?_⟩) (by assumption) ?_
        rotate_left
        · intro w hSw
          go_simp
          first | done | with_reducible rfl
        try simp only [Act.put, List.setIfInBounds_toArray, List.set_cons_zero, List.set_cons_succ]
        refine wpAnyH_take (i := 2) (oi := _) (v := ?_) rfl (by kernel_rfl) (by kernel_rfl) (by kernel_rfl) (fun _ _ _ h => h) (Or.inl ⟨by rfl, ?_⟩) (by assumption) ?_
        rotate_left
        · intro w hSw
          go_simp
          first | done | with_reducible rfl
        try simp only [Act.put, List.setIfInBounds_toArray, List.set_cons_zero, List.set_cons_succ]
        refine wpAnyH_take (i := 3) (oi := _) (v := ?_) rfl (by kernel_rfl) (by kernel_rfl) (by kernel_rfl) (fun _ _ _ h => h) (Or.inl ⟨by rfl, ?_⟩) (by assumption) ?_
        rotate_left
        · intro w hSw
          go_simp
          first | done | with_reducible rfl
        try simp only [Act.put, List.setIfInBounds_toArray, List.set_cons_zero, List.set_cons_succ]
        refine wpAnyH_take (i := 4) (oi := _) (v := ?_) rfl (by kernel_rfl) (by kernel_rfl) (by kernel_rfl) (fun _ _ _ h => h) (Or.inl ⟨by rfl, ?_⟩) (by assumption) ?_
        rotate_left
        · intro w hSw
          go_simp
          first | done | with_reducible rfl
        try simp only [Act.put, List.setIfInBounds_toArray, List.set_cons_zero, List.set_cons_succ]
        refine wpAnyH_take (i := 6) (oi := _) (v := ?_) rfl (by kernel_rfl) (by kernel_rfl) (by kernel_rfl) (fun _ _ _ h => h) (Or.inl ⟨by rfl, ?_⟩) (by assumption) ?_
        rotate_left
        · intro w hSw
          go_simp
          first | done | with_reducible rfl
        try simp only [Act.put, List.setIfInBounds_toArray, List.set_cons_zero, List.set_cons_succ]
        refine wpAnyH_take (i := 7) (oi := _) (v := ?_) rfl (by kernel_rfl) (by kernel_rfl) (by kernel_rfl) (fun _ _ _ h => h) (Or.inl ⟨by rfl, ?_⟩) (by assumption) ?_
        rotate_left
        · intro w hSw
          go_simp
          first | done | with_reducible rfl
        try simp only [Act.put, List.setIfInBounds_toArray, List.set_cons_zero, List.set_cons_succ]
        refine wpAnyH_take (i := 8) (oi := _) (v := ?_) rfl (by kernel_rfl) (by kernel_rfl) (by kernel_rfl) (fun _ _ _ h => h) (Or.inl ⟨by rfl, ?_⟩) (by assumption) ?_
        rotate_left
        · intro w hSw
          go_simp
          first | done | with_reducible rfl
        try simp only [Act.put, List.setIfInBounds_toArray, List.set_cons_zero, List.set_cons_succ]
        refine wpAnyH_take (i := 9) (oi := _) (v := ?_) rfl (by kernel_rfl) (by kernel_rfl) (by kernel_rfl) (fun _ _ _ h => h) (Or.inl ⟨by rfl, ?_⟩) (by assumption) ?_
        rotate_left
        · intro w hSw
          go_simp
          first | done | with_reducible rfl
        try simp only [Act.put, List.setIfInBounds_toArray, List.set_cons_zero, List.set_cons_succ]
        refine wpAnyH_strong (S' := fun W => Kp [R] wS.drew W) (fun W h => Kp.then (Kp.of [R] OwD) h) ?_
        have hHeldN : (fun W => Kp [R] wS.drew W) wS.drew := Kp.refl _ _
        clear CP0 CP1
        have BR := BR.drew
        generalize wS.drew = wD at *
        refine wpAnyH_ready (rs := [1]) (by kernel_rfl) (by simp) ?_
        refine AllReadyH.cons (o := _) rfl (fun K hK => ?_) AllReadyH.nil
        go_simp
        have OA := (On.refl wD).alloc (.cells #[] 123)
        have NA := Own.new (base := w.heap.size) wD 123 2 #[] 0 (Nat.zero_le _) rfl OWD.size
        have OwA := OWD.call OA
        have hzD := OWD.size
        refine hK.out _ _ (Kp.of [R] OA) (fun hHeld => ?_)
        clear hK K
        try simp only [Act.put, List.setIfInBounds_toArray, List.set_cons_zero, List.set_cons_succ]
        generalize hA : wD.heap.size = A at *
        generalize wD.alloc (.cells #[] 123) = wA at *
        refine wpAnyH_ready (rs := [5]) (by kernel_rfl) (by simp) ?_
        refine AllReadyH.cons (o := _) rfl (fun K hK => ?_) AllReadyH.nil
        refine step_append_any rfl _ _ 121 rfl w.heap.size 123 i2 (.agg #[.int .i64 0, .slice none 0 0]) 2 32 Tryd.underlying121 hi2 hz2 hs2 hb2 rfl (by omega) (.slice (some ⟨A, 0, none⟩) 0 0) 0 [] rfl NA.own ⟨g, 0, none⟩ m (m + 1) ((hcells X).take (2 * m)) rfl (by rw [List.length_take, hcells_length, HN.out]; omega) (fun j u hu => HNEW1.out m wA OwA j u hu) (fun u hu => hcells_one _ (List.mem_of_mem_take hu)) (by unfold maxLen; omega) (by omega) OwA.size ?_
        intro v1 w4 hown1 hgr1 hnil1 hob1
        have HOB : (Value.slice (some ⟨A, 0, none⟩) 0 0).ownBlock = some A := rfl
        have hv1 : ∀ y, v1.ownBlock = some y → wD.heap.size ≤ y := fun y hy => by
          rcases hob1 with e | e
          · rw [e, HOB] at hy; cases hy; omega
          · rw [e] at hy; cases hy; exact OA.size
        have Ow1 : On w w4 := OwA.grown hgr1 (fun y hy => by rw [HOB] at hy; cases hy; omega)
        have O4 : On wD w4 := OA.grown hgr1 (fun y hy => by rw [HOB] at hy; cases hy; omega)
        have hnn1 : v1 ≠ .slice none 0 0 := fun e => by cases (hnil1.1 e).1
        show K (Act.put _ (some 58) v1) w4
        refine hK.out _ _ (Kp.of [R] O4) (fun hHeld => ?_)
        clear hK K
        try simp only [Act.put, List.setIfInBounds_toArray, List.set_cons_zero, List.set_cons_succ]
        refine wpAnyH_ready (rs := [10]) (by kernel_rfl) (by simp) ?_
        refine AllReadyH.cons (o := _) rfl (fun K hK => ?_) AllReadyH.nil
        refine step_append_any rfl _ _ 121 rfl w.heap.size 123 i2 (.agg #[.int .i64 0, .slice none 0 0]) 2 32 Tryd.underlying121 hi2 hz2 hs2 hb2 rfl (by omega) v1 (0 + m) _ rfl hown1 ⟨g, 0, none⟩ 0 0 ((hcells X).drop (2 * (m + 1))) rfl (by rw [List.length_drop, hcells_length, HN.out]; have := HN1.out; omega) (fun j u hu => HNEW2.out w4 Ow1 j u hu) (fun u hu => hcells_one _ (List.mem_of_mem_drop hu)) (by unfold maxLen; omega) (by omega) Ow1.size ?_
        intro v2 w5 hown2 hgr2 hnil2 hob2
        have Ow2 : On w w5 := Ow1.grown hgr2 (fun y hy => by have := hv1 y hy; omega)
        have O5 : On wD w5 := O4.grown hgr2 hv1
        have BR5 := BR.call O5.out
        have hRw := HRB.out
        have hv2 : ∀ y, v2.ownBlock = some y → y ≠ R := fun y hy => by
          have := BR.lt
          rcases hob2 with e | e
          · rw [e] at hy; have := hv1 y hy; omega
          · rw [e] at hy; cases hy; have := O4.size; omega
        have hnn2 : v2 ≠ .slice none 0 0 := fun e => hnn1 (hnil2.1 e).1
        show K (Act.put _ (some 63) v2) w5
        refine hK.out _ _ (Kp.of [R] O5) (fun hHeld => ?_)
        clear hK K
        try simp only [Act.put, List.setIfInBounds_toArray, List.set_cons_zero, List.set_cons_succ]
        have ce0 : w5.cell? ⟨R, 0, none⟩ = some (.int .i64 0) := (BR5.cell 0).trans rfl
        have ce1 : w5.cell? ⟨R, 1, none⟩ = some (.slice none 0 0) := (BR5.cell 1).trans rfl
        have fe : ∀ i, w5.frozen? ⟨R, i, none⟩ = false := BR5.frozen
        refine wpAnyH_ready (rs := [11]) (by kernel_rfl) (by simp) ?_
        refine AllReadyH.cons (o := _) rfl (fun K hK => ?_) AllReadyH.nil
        go_simp
        have KS : Kp [R] w5 ((w5.setCell ⟨R, 0, none⟩ (.int .i64 (xa.1.c : Int))).setCell ⟨R, 1, none⟩ (.slice (some ⟨xa.2.1, 0, none⟩) xa.1.s.length xa.2.2)) := ((Kp.refl _ _).set (.inl (by simp)) _).set (.inl (by simp)) _
        have BF := (BR5.set 0 (.int .i64 (xa.1.c : Int))).set 1 (.slice (some ⟨xa.2.1, 0, none⟩) xa.1.s.length xa.2.2)
        refine hK.out _ _ ((Kp.of [R] O5).then KS) (fun hHeld => ?_)
        clear hK K
        try simp only [Act.put, List.setIfInBounds_toArray, List.set_cons_zero, List.set_cons_succ]
        refine wpAnyH_take (i := 12) (oi := _) (v := ?_) rfl (by kernel_rfl) (by kernel_rfl) (by kernel_rfl) (fun _ _ _ h => h) (Or.inl ⟨by rfl, ?_⟩) (by assumption) ?_
        rotate_left
        · intro w hSw
          go_simp
          first | done | with_reducible rfl
        try simp only [Act.put, List.setIfInBounds_toArray, List.set_cons_zero, List.set_cons_succ]
        refine wpAnyH_done (by kernel_rfl) ?_ _
        clear ce0 ce1 fe hHeld hHeldN
        generalize ((w5.setCell ⟨R, 0, none⟩ (.int .i64 (xa.1.c : Int))).setCell ⟨R, 1, none⟩ (.slice (some ⟨xa.2.1, 0, none⟩) xa.1.s.length xa.2.2)) = w6 at *
        go_wp2_with fail
        refine bodyPost_ret (v := .tuple #[.agg #[.int .i64 (xa.1.c : Int), .slice (some ⟨xa.2.1, 0, none⟩) xa.1.s.length xa.2.2], v2]) (by exact res_ct (fn := Tryd.f131) (p := 2) (u := 3) rfl BF rfl Tryd.underlying123 rfl (by kernel_rfl)) rfl ⟨m, xa, v2, by rw [HLX.out]; exact HLE.out.symm, HXA.out, rfl, ⟨KS.owns ?_ (fun y hy => by simpa using hv2 y hy), hnn2⟩, KS.on Ow2 (fun x hx => by simp at hx; omega)⟩
        rw [hcells_erase, show n - 1 = 0 + m + 0 from by have := HN1.out; omega]
        exact hown2
      · have HNEW2 := Lib.hid (show ∀ W, On w W → ∀ j u, ((hcells X).drop (2 * (m + 1)))[j]? = some u → W.cell? ((⟨g, (m + 1) * 2, none⟩ : Addr).add j) = some u from fun W O j u hu => by
          have ha : (⟨g, (m + 1) * 2, none⟩ : Addr).add j = ⟨g, (m + 1) * 2 + j, none⟩ := by unfold Addr.add; split <;> simp_all
          rw [ha]
          refine (HX.out.on O).cell ?_
          rw [List.getElem?_drop] at hu
          rw [Nat.mul_comm (m + 1) 2]; exact hu)
        have CP0 := fun W h => (HCP.out W h).1
        have CP1 := fun W h => (HCP.out W h).2
        refine wp_region_held_drew (S := fun W => Kp [R] wS W) (by kernel_rfl) (Kp.refl _ _).drew (fun hHeld => ?_)
        have OwD := (On.refl wS).drew
        have OWD := OwS.call OwD
        refine wpAnyH_take (i := 0) (oi := _) (v := ?_) rfl (by kernel_rfl) (by kernel_rfl) (by kernel_rfl) (fun _ _ _ h => h) (Or.inl ⟨by rfl, ?_⟩) (by assumption) ?_
        rotate_left
        · intro w hSw
          go_simp
          first | done | with_reducible rfl
        try simp only [Act.put, List.setIfInBounds_toArray, List.set_cons_zero, List.set_cons_succ]
        refine wpAnyH_take (i := 2) (oi := _) (v := ?_) rfl (by kernel_rfl) (by kernel_rfl) (by kernel_rfl) (fun _ _ _ h => h) (Or.inl ⟨by rfl, ?_⟩) (by assumption) ?_
        rotate_left
        · intro w hSw
          go_simp
          first | done | with_reducible rfl
        try simp only [Act.put, List.setIfInBounds_toArray, List.set_cons_zero, List.set_cons_succ]
        refine wpAnyH_take (i := 3) (oi := _) (v := ?_) rfl (by kernel_rfl) (by kernel_rfl) (by kernel_rfl) (fun _ _ _ h => h) (Or.inl ⟨by rfl, ?_⟩) (by assumption) ?_
        rotate_left
        · intro w hSw
          go_simp
          first | done | with_reducible rfl
        try simp only [Act.put, List.setIfInBounds_toArray, List.set_cons_zero, List.set_cons_succ]
        refine wpAnyH_take (i := 4) (oi := _) (v := ?_) rfl (by kernel_rfl) (by kernel_rfl) (by kernel_rfl) (fun _ _ _ h => h) (Or.inl ⟨by rfl, ?_⟩) (by assumption) ?_
        rotate_left
        · intro w hSw
          go_simp
          first | done | with_reducible rfl
        try simp only [Act.put, List.setIfInBounds_toArray, List.set_cons_zero, List.set_cons_succ]
        refine wpAnyH_take (i := 6) (oi := _) (v := ?_) rfl (by kernel_rfl) (by kernel_rfl) (by kernel_rfl) (fun _ _ _ h => h) (Or.inl ⟨by rfl, ?_⟩) (by assumption) ?_
        rotate_left
        · intro w hSw
          go_simp
          first | done | with_reducible rfl
        try simp only [Act.put, List.setIfInBounds_toArray, List.set_cons_zero, List.set_cons_succ]
        refine wpAnyH_take (i := 7) (oi := _) (v := ?_) rfl (by kernel_rfl) (by kernel_rfl) (by kernel_rfl) (fun _ _ _ h => h) (Or.inl ⟨by rfl, ?_⟩) (by assumption) ?_
        rotate_left
        · intro w hSw
          go_simp
          first | done | with_reducible rfl
        try simp only [Act.put, List.setIfInBounds_toArray, List.set_cons_zero, List.set_cons_succ]
        refine wpAnyH_take (i := 8) (oi := _) (v := ?_) rfl (by kernel_rfl) (by kernel_rfl) (by kernel_rfl) (fun _ _ _ h => h) (Or.inl ⟨by rfl, ?_⟩) (by assumption) ?_
        rotate_left
        · intro w hSw
          go_simp
          first | done | with_reducible rfl
        try simp only [Act.put, List.setIfInBounds_toArray, List.set_cons_zero, List.set_cons_succ]
        refine wpAnyH_take (i := 9) (oi := _) (v := ?_) rfl (by kernel_rfl) (by kernel_rfl) (by kernel_rfl) (fun _ _ _ h => h) (Or.inl ⟨by rfl, ?_⟩) (by assumption) ?_
        rotate_left
        · intro w hSw
          go_simp
          first | done | with_reducible rfl
        try simp only [Act.put, List.setIfInBounds_toArray, List.set_cons_zero, List.set_cons_succ]
        refine wpAnyH_strong (S' := fun W => Kp [R] wS.drew W) (fun W h => Kp.then (Kp.of [R] OwD) h) ?_
        have hHeldN : (fun W => Kp [R] wS.drew W) wS.drew := Kp.refl _ _
        clear CP0 CP1
        have BR := BR.drew
        generalize wS.drew = wD at *
        refine wpAnyH_ready (rs := [1]) (by kernel_rfl) (by simp) ?_
        refine AllReadyH.cons (o := _) rfl (fun K hK => ?_) AllReadyH.nil
        go_simp
        have OA := (On.refl wD).alloc (.cells #[] 123)
        have NA := Own.new (base := w.heap.size) wD 123 2 #[] 0 (Nat.zero_le _) rfl OWD.size
        have OwA := OWD.call OA
        have hzD := OWD.size
        refine hK.out _ _ (Kp.of [R] OA) (fun hHeld => ?_)
        clear hK K
        try simp only [Act.put, List.setIfInBounds_toArray, List.set_cons_zero, List.set_cons_succ]
        generalize hA : wD.heap.size = A at *
        generalize wD.alloc (.cells #[] 123) = wA at *
        refine wpAnyH_ready (rs := [5]) (by kernel_rfl) (by simp) ?_
        refine AllReadyH.cons (o := _) rfl (fun K hK => ?_) AllReadyH.nil
        refine step_append_any rfl _ _ 121 rfl w.heap.size 123 i2 (.agg #[.int .i64 0, .slice none 0 0]) 2 32 Tryd.underlying121 hi2 hz2 hs2 hb2 rfl (by omega) (.slice (some ⟨A, 0, none⟩) 0 0) 0 [] rfl NA.own ⟨g, 0, none⟩ m cap ((hcells X).take (2 * m)) rfl (by rw [List.length_take, hcells_length, HN.out]; omega) (fun j u hu => HNEW1.out m wA OwA j u hu) (fun u hu => hcells_one _ (List.mem_of_mem_take hu)) (by unfold maxLen; omega) (by omega) OwA.size ?_
        intro v1 w4 hown1 hgr1 hnil1 hob1
        have HOB : (Value.slice (some ⟨A, 0, none⟩) 0 0).ownBlock = some A := rfl
        have hv1 : ∀ y, v1.ownBlock = some y → wD.heap.size ≤ y := fun y hy => by
          rcases hob1 with e | e
          · rw [e, HOB] at hy; cases hy; omega
          · rw [e] at hy; cases hy; exact OA.size
        have Ow1 : On w w4 := OwA.grown hgr1 (fun y hy => by rw [HOB] at hy; cases hy; omega)
        have O4 : On wD w4 := OA.grown hgr1 (fun y hy => by rw [HOB] at hy; cases hy; omega)
        have hnn1 : v1 ≠ .slice none 0 0 := fun e => by cases (hnil1.1 e).1
        show K (Act.put _ (some 58) v1) w4
        refine hK.out _ _ (Kp.of [R] O4) (fun hHeld => ?_)
        clear hK K
        try simp only [Act.put, List.setIfInBounds_toArray, List.set_cons_zero, List.set_cons_succ]
        refine wpAnyH_ready (rs := [10]) (by kernel_rfl) (by simp) ?_
        refine AllReadyH.cons (o := _) rfl (fun K hK => ?_) AllReadyH.nil
        refine step_append_any rfl _ _ 121 rfl w.heap.size 123 i2 (.agg #[.int .i64 0, .slice none 0 0]) 2 32 Tryd.underlying121 hi2 hz2 hs2 hb2 rfl (by omega) v1 (0 + m) _ rfl hown1 ⟨g, (m + 1) * 2, none⟩ (n - (m + 1)) (cap - (m + 1)) ((hcells X).drop (2 * (m + 1))) rfl (by rw [List.length_drop, hcells_length, HN.out]; omega) (fun j u hu => HNEW2.out w4 Ow1 j u hu) (fun u hu => hcells_one _ (List.mem_of_mem_drop hu)) (by unfold maxLen; omega) (by omega) Ow1.size ?_
        intro v2 w5 hown2 hgr2 hnil2 hob2
        have Ow2 : On w w5 := Ow1.grown hgr2 (fun y hy => by have := hv1 y hy; omega)
        have O5 : On wD w5 := O4.grown hgr2 hv1
        have BR5 := BR.call O5.out
        have hRw := HRB.out
        have hv2 : ∀ y, v2.ownBlock = some y → y ≠ R := fun y hy => by
          have := BR.lt
          rcases hob2 with e | e
          · rw [e] at hy; have := hv1 y hy; omega
          · rw [e] at hy; cases hy; have := O4.size; omega
        have hnn2 : v2 ≠ .slice none 0 0 := fun e => hnn1 (hnil2.1 e).1
        show K (Act.put _ (some 63) v2) w5
        refine hK.out _ _ (Kp.of [R] O5) (fun hHeld => ?_)
        clear hK K
        try simp only [Act.put, List.setIfInBounds_toArray, List.set_cons_zero, List.set_cons_succ]
        have ce0 : w5.cell? ⟨R, 0, none⟩ = some (.int .i64 0) := (BR5.cell 0).trans rfl
        have ce1 : w5.cell? ⟨R, 1, none⟩ = some (.slice none 0 0) := (BR5.cell 1).trans rfl
        have fe : ∀ i, w5.frozen? ⟨R, i, none⟩ = false := BR5.frozen
        refine wpAnyH_ready (rs := [11]) (by kernel_rfl) (by simp) ?_
        refine AllReadyH.cons (o := _) rfl (fun K hK => ?_) AllReadyH.nil
        go_simp
        have KS : Kp [R] w5 ((w5.setCell ⟨R, 0, none⟩ (.int .i64 (xa.1.c : Int))).setCell ⟨R, 1, none⟩ (.slice (some ⟨xa.2.1, 0, none⟩) xa.1.s.length xa.2.2)) := ((Kp.refl _ _).set (.inl (by simp)) _).set (.inl (by simp)) _
        have BF := (BR5.set 0 (.int .i64 (xa.1.c : Int))).set 1 (.slice (some ⟨xa.2.1, 0, none⟩) xa.1.s.length xa.2.2)
        refine hK.out _ _ ((Kp.of [R] O5).then KS) (fun hHeld => ?_)
        clear hK K
        try simp only [Act.put, List.setIfInBounds_toArray, List.set_cons_zero, List.set_cons_succ]
        refine wpAnyH_take (i := 12) (oi := _) (v := ?_) rfl (by kernel_rfl) (by kernel_rfl) (by kernel_rfl) (fun _ _ _ h => h) (Or.inl ⟨by rfl, ?_⟩) (by assumption) ?_
        rotate_left
        · intro w hSw
          go_simp
          first | done | with_reducible rfl
        try simp only [Act.put, List.setIfInBounds_toArray, List.set_cons_zero, List.set_cons_succ]
        refine wpAnyH_done (by kernel_rfl) ?_ _
        clear ce0 ce1 fe hHeld hHeldN
        generalize ((w5.setCell ⟨R, 0, none⟩ (.int .i64 (xa.1.c : Int))).setCell ⟨R, 1, none⟩ (.slice (some ⟨xa.2.1, 0, none⟩) xa.1.s.length xa.2.2)) = w6 at *
        go_wp2_with fail
        refine bodyPost_ret (v := .tuple #[.agg #[.int .i64 (xa.1.c : Int), .slice (some ⟨xa.2.1, 0, none⟩) xa.1.s.length xa.2.2], v2]) (by exact res_ct (fn := Tryd.f131) (p := 2) (u := 3) rfl BF rfl Tryd.underlying123 rfl (by kernel_rfl)) rfl ⟨m, xa, v2, by rw [HLX.out]; exact HLE.out.symm, HXA.out, rfl, ⟨KS.owns ?_ (fun y hy => by simpa using hv2 y hy), hnn2⟩, KS.on Ow2 (fun x hx => by simp at hx; omega)⟩
        rw [hcells_erase, show n - 1 = 0 + m + (n - (m + 1)) from by omega]
        exact hown2
end Go.Proofs.YtncidljdfipigaaDoor.Wi
