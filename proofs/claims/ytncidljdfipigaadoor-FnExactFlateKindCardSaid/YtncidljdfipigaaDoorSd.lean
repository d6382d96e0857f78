/- The specification's reader takes a part that is not packed. Conditions: a reader, a row of bytes. -/
import Derived.Test.YtncidljdfipigaaDoorRt
import Derived.Test.YtncidljdfipigaaDoorSi
namespace Go.Proofs.YtncidljdfipigaaDoor.Wi
open Go.RowKit Go.Proofs.YtncidljdfipigaaDoor.Mem Go.Proofs.YtncidljdfipigaaDoor.Bt Go.Proofs.YtncidljdfipigaaDoor.Cd Go.Proofs.YtncidljdfipigaaDoor.De
set_option linter.unusedVariables false
set_option linter.unusedSimpArgs false
/-- What a call of the specification's reader leaves that adds to bytes: all but the reader's block and the row's; what it has taken is told where the bytes ahead were no more than may be. -/
structure SOut (d : Dec (List Nat)) (s : ByteArray) (p : Nat) (b : Bool) (l : List Nat) (g r : Nat) (w : World) (e : Ending) (w' : World) : Prop where mk ::
  out : ∃ (p' : Nat) (b' : Bool) (r' cap' : Nat) (l' : List Nat), e = .returned (.slice (some ⟨r', 0, none⟩) l'.length cap') ∧ SR w' g s p' b' ∧ By w' r' cap' l' ∧ Kp [g, r] w w' ∧ (r' = r ∨ w.heap.size ≤ r') ∧ (l.length ≤ 300 → AnsO d s p b l' p' b') ∧ l.length ≤ l'.length ∧ l'.length ≤ l.length + 400 ∧ (b' = false → b = false ∧ (p ≤ p' ∨ l'.length ≤ 300))
set_option maxRecDepth 100000 in
set_option maxHeartbeats 1000000 in
theorem sstored_calls (g r cap n : Nat) (s : ByteArray) (p : Nat) (b : Bool) (l : List Nat) (w : World) (hw : SR w g s p b) (hb : By w r cap l) (hn : l.length = n) (hn2 : n ≤ 90000000) (hgr : g ≠ r) :
    Calls Tryd.prog 135 #[.pointer (some ⟨g, 0, none⟩), .slice (some ⟨r, 0, none⟩) n cap] w fun e w' => SOut (De.stored l) s p b l g r w e w' := by
  have HN := Lib.hid hn
  clear hn
  have HE := Lib.hid (swhole_calls g s p b w hw)
  have A1 := Lib.hid (ans_align (b := b) hw.le)
  have hp := hw.le
  have hgl := hw.out.lt
  have hrl := hb.lt
  go_enter Tryd.func135, Tryd.ntmps135
  go_wp2_with fail
  refine HE.out.mono ?_
  rintro e w1 ⟨rfl, hw1, K1⟩
  have hb1 := hb.kp K1 (by simpa using Ne.symm hgr)
  have hpe : p ≤ evenAt p := by unfold evenAt; omega
  generalize hq1 : evenAt p = q1 at *
  have W2 : ∃ w2 x1, (x1 = (b || !padOk s p)) ∧ SR w2 g s q1 x1 ∧ By w2 r cap l ∧ Kp [g] w w2 ∧ w2 = (if padOk s p = true then w1 else w1.setCell ⟨g, 2, none⟩ (.bool true)) := by
    cases hpo : padOk s p with
    | true => exact ⟨w1, b, by simp, hw1, hb1, K1, rfl⟩
    | false =>
      have K := K1.set (p := ⟨g, 2, none⟩) (.inl (by simp)) (.bool true)
      exact ⟨_, true, by simp, ⟨hw1.out.set 2 (.bool true), hw1.le, hw1.sz⟩, hb.kp K (by simpa using Ne.symm hgr), K, rfl⟩
  obtain ⟨w2, x1, hx1, hw2, hb2, K2, hw2e⟩ := W2
  rw [← hx1] at A1
  have c2 : w1.cell? ⟨g, 2, none⟩ = some (.bool b) := (hw1.out.cell 2).trans rfl
  have fr1 : ∀ i, w1.frozen? ⟨g, i, none⟩ = false := hw1.out.frozen
  have HX1 := Lib.hid hx1
  clear hx1
  have A2 := Lib.hid (ans_num (n := 16) (b := x1) hw2.le)
  have HE2 := Lib.hid (snum_calls g 16 s q1 x1 w2 hw2 (by omega))
  have hm1 := numAt_lt s q1 16
  generalize hq2 : min (q1 + 16) (8 * s.size) = q2 at *
  generalize hx2 : (x1 || decide (8 * s.size < q1 + 16)) = x2 at *
  generalize numAt s q1 16 = m at *
  cases hpo : padOk s p
  all_goals
    rw [hpo] at hw2e
    simp only [if_true, Bool.false_eq_true, if_false] at hw2e
    go_wp2_with fail
    rw [← hw2e]
    refine HE2.out.mono ?_
    rintro e w3 ⟨rfl, hw3, K3⟩
    clear hw2e c2 fr1
    have hb3 := hb2.kp K3 (by simpa using Ne.symm hgr)
    have A3 := Lib.hid (ans_num (n := 16) (b := x2) hw3.le)
    have HE3 := Lib.hid (snum_calls g 16 s q2 x2 w3 hw3 (by omega))
    have hm2 := numAt_lt s q2 16
    generalize hq3 : min (q2 + 16) (8 * s.size) = q at *
    generalize hx3 : (x2 || decide (8 * s.size < q2 + 16)) = x3 at *
    generalize numAt s q2 16 = mm at *
    go_wp2_with fail
    refine HE3.out.mono ?_
    rintro e w4 ⟨rfl, hw4, K4⟩
    have hb4 := hb3.kp K4 (by simpa using Ne.symm hgr)
    have hfin : ∀ (l' : List Nat) (p' : Nat) (b' : Bool), AnsO (if m + mm = 65535 ∧ l.length + m ≤ 300 then next (De.bytes m) fun x => ret (l ++ x) else De.bad) s q x3 l' p' b' → AnsO (De.stored l) s p b l' p' b' := fun l' p' b' h =>
      AnsO.next A1.out (AnsO.next A2.out (AnsO.next A3.out h))
    have HF := Lib.hid hfin
    have HK : RowKit.Hid (Kp [g, r] w w4) := Lib.hid (((K2.then K3).then K4).mono (fun x hx => .inl (by simp at hx ⊢; exact .inl hx)))
    have e1 : IntKind.i64.wrap (65535 - (m : Int)) = ((65535 - m : Nat) : Int) := by rw [IntKind.wrap_i64]; omega
    obtain ⟨D, hD⟩ : ∃ D : Dec (List Nat), D = (if m + mm = 65535 ∧ l.length + m ≤ 300 then next (De.bytes m) fun x => ret (l ++ x) else De.bad) := ⟨_, rfl⟩
    rw [← hD] at HF
    have hbad : 8 * s.size < q + 8 * m → D (rest s q) = none := fun hlt => by
      rw [hD]
      split
      · exact next_none (by unfold De.bytes; rw [if_neg (by rw [rest_length]; omega)])
      · rfl
    have hgood : m + mm = 65535 → q + 8 * m ≤ 8 * s.size → n + m ≤ 300 → D (rest s q) = some (l ++ packN m (rest s q), rest s (q + 8 * m)) := fun h1 h2 h3 => by
      rw [hD, if_pos ⟨h1, by rw [HN.out]; exact h3⟩]
      rw [next_some (x := packN m (rest s q)) (r := rest s (q + 8 * m)) (by unfold De.bytes; rw [if_pos (by rw [rest_length]; omega), rest_drop])]; rfl
    have hover : 300 < n + m → D (rest s q) = none := fun h => by rw [hD, if_neg (by rw [HN.out]; omega)]; rfl
    have hne : m + mm ≠ 65535 → D (rest s q) = none := fun h => by rw [hD, if_neg (fun hh => h hh.1)]; rfl
    have HPK := Lib.hid (packN_snoc s q)
    have HLEN := Lib.hid (show ∀ k, (l ++ packN k (rest s q)).length = n + k from fun k => by rw [List.length_append, packN_length, HN.out])
    have FIN := Lib.hid (show ∀ (k : Nat) (x4 : Bool), (x4 = false → m + mm = 65535 ∧ x3 = false) → (x4 = true → x3 = true ∨ D (rest s q) = none) → k ≤ m → ((x4 || decide (8 * s.size < q + 8 * k)) = true ∨ k = m) →
        AnsO (De.stored l) s p b (l ++ packN k (rest s q)) (min (q + 8 * k) (8 * s.size)) (x4 || decide (8 * s.size < q + 8 * k)) from fun k x4 hx4 hy4 hk hc => by
      have hlk := HLEN.out k
      refine HF.out _ _ _ ⟨fun e => ?_, fun e => ?_⟩
      · simp only [Bool.or_eq_true, decide_eq_true_eq] at e
        rcases e with e | e
        · exact hy4 e
        · exact .inr (hbad (by omega))
      · have e' := e
        simp only [Bool.or_eq_false_iff, decide_eq_false_iff_not] at e'
        rw [hlk, Nat.min_eq_left (by omega)]
        obtain ⟨a1, a2⟩ := hx4 e'.1
        rcases hc with hc | hc
        · rw [e] at hc; cases hc
        · subst hc
          refine ⟨a2, fun h3 => hgood a1 (by omega) h3, fun h3 => hover h3⟩)
    clear A1 A2 A3 HE HE2 HE3 hbad hgood HX1
    have fr : ∀ i, w4.frozen? ⟨g, i, none⟩ = false := hw4.out.frozen
    have c2 : w4.cell? ⟨g, 2, none⟩ = some (.bool x3) := (hw4.out.cell 2).trans rfl
    obtain ⟨ba, hA'⟩ : ∃ ba, ((mm : Int) != ((65535 - m : Nat) : Int)) = ba := ⟨_, rfl⟩
    obtain ⟨bb, hB'⟩ : ∃ bb, decide ((300 : Int) < (m : Int)) = bb := ⟨_, rfl⟩
    have hba : ba = true ↔ m + mm ≠ 65535 := by rw [← hA']; simp; omega
    have hbb : bb = true ↔ 300 < m := by rw [← hB']; simp; omega
    have W5 : ∃ w5 x4, (x4 = false → m + mm = 65535 ∧ x3 = false) ∧ (x4 = true → x3 = true ∨ D (rest s q) = none) ∧ (x4 = false → m ≤ 300) ∧ SR w5 g s q x4 ∧ By w5 r cap l ∧ Kp [g, r] w w5 ∧ w5 = (if (ba || bb) = true then w4.setCell ⟨g, 2, none⟩ (.bool true) else w4) := by
      cases hab : (ba || bb) with
      | false =>
        rw [Bool.or_eq_false_iff] at hab
        have h1 : m + mm = 65535 := by have := hba; rw [hab.1] at this; simp at this; exact this
        have h2 : m ≤ 300 := by have := hbb; rw [hab.2] at this; simp at this; omega
        exact ⟨w4, x3, fun e => ⟨h1, e⟩, fun e => .inl e, fun _ => h2, hw4, hb4, HK.out, by simp⟩
      | true =>
        have hX : D (rest s q) = none := by
          rw [Bool.or_eq_true] at hab
          rcases hab with h | h
          · exact hne (hba.1 h)
          · exact hover (by have := hbb.1 h; omega)
        have K45 : Kp [g] w4 (w4.setCell ⟨g, 2, none⟩ (.bool true)) := (Kp.refl _ _).set (.inl (by simp)) _
        exact ⟨_, true, fun e => (by cases e), fun _ => .inr hX, fun e => (by cases e), ⟨hw4.out.set 2 (.bool true), hw4.le, hw4.sz⟩, hb4.kp K45 (by simpa using Ne.symm hgr), HK.out.set (.inl (by simp)) _, by simp⟩
    obtain ⟨w5, x4, F1, F2, F3, R5, B5, K5, hw5e⟩ := W5
    have H1 := Lib.hid F1
    have H2 := Lib.hid F2
    have H3 := Lib.hid F3
    have HK5 := Lib.hid K5
    have HMM := Lib.hid hm1
    clear F1 F2 F3 K5 hba hbb hover hne hD hm1 hm2
    generalize 65535 - m = mx at *
    cases ba <;> cases bb
    all_goals
      simp only [Bool.or_true, Bool.or_false, if_true, Bool.false_eq_true, if_false] at hw5e
      go_wp2_with fail
      rw [← hw5e]
      clear hw5e fr c2 hA' hB'
      go_loopw [1, 6] (fun o x wr => ∃ (k r' cap' : Nat), x = .int .i64 (k : Int) ∧ k ≤ m ∧ o = .slice (some ⟨r', 0, none⟩) (n + k) cap' ∧ SR wr g s (min (q + 8 * k) (8 * s.size)) (x4 || decide (8 * s.size < q + 8 * k)) ∧ By wr r' cap' (l ++ packN k (rest s q)) ∧ Kp [g, r] w5 wr ∧ (r' = r ∨ w5.heap.size ≤ r') ∧ g ≠ r' ∧ k ≤ 300) (fun _ x _ => m - (intOf x).toNat)
      case atStart =>
        refine ⟨0, r, cap, rfl, by omega, rfl, ?_, ?_, Kp.refl _ _, .inl rfl, hgr, by omega⟩
        · rw [Nat.mul_zero, Nat.add_zero, Nat.min_eq_left R5.le, show decide (8 * s.size < q) = false from by simp; exact R5.le, Bool.or_false]
          exact R5
        · simpa [packN] using B5
      case round =>
        obtain ⟨k, r', cap', rfl, hk, rfl, hr, hB, K, hr', hgr', hk3⟩ := hrel
        have hlk := HLEN.out k
        have HFI := Lib.hid (FIN.out k x4 H1.out H2.out hk)
        have hKK := HK5.out.then K
        have hrw : r' = r ∨ w.heap.size ≤ r' := by have := HK5.out.size; omega
        have hby : Bytes wr r' (.slice (some ⟨r', 0, none⟩) (n + k) cap') (l ++ packN k (rest s q)) := by have := hB.out; rw [hlk] at this; exact this
        have HP := Lib.hid (HPK.out k)
        have HG := Lib.hid (snum_calls g 8 s _ _ wr hr (by omega))
        have HLK := Lib.hid hlk
        have hx8 := numAt_lt s (q + 8 * k) 8
        have hmn : numAt s (min (q + 8 * k) (8 * s.size)) 8 = numAt s (q + 8 * k) 8 := numAt_min s _ _
        rw [hmn] at HG
        have c2 : wr.cell? ⟨g, 2, none⟩ = some (.bool (x4 || decide (8 * s.size < q + 8 * k))) := (hr.out.cell 2).trans rfl
        have hrl4 := hr.le
        clear hlk hmn
        generalize hbx : (x4 || decide (8 * s.size < q + 8 * k)) = bx at *
        have HBX := Lib.hid hbx
        clear hbx
        generalize numAt s (q + 8 * k) 8 = x at *
        have hslice : (l ++ packN k (rest s q)).length = n + k := HLK.out
        by_cases hkm : k = m
        · subst hkm
          go_wp2_with fail
          go_ret
          exact ⟨_, bx, r', cap', _, by rw [HLK.out]; rfl, hr, hB, hKK, hrw, fun _ => HFI.out (by first | exact .inr rfl | exact .inr trivial), by rw [HLK.out, HN.out]; omega, by rw [HLK.out, HN.out]; omega, fun e => ⟨((HFI.out (by first | exact .inr rfl | exact .inr trivial)).good e).1, .inl (by omega)⟩⟩
        · have hkm' : (k : Int) < m := by omega
          cases bx with
          | true =>
            go_wp2_with fail
            go_ret
            exact ⟨_, true, r', cap', _, by rw [HLK.out]; rfl, hr, hB, hKK, hrw, fun _ => HFI.out (by first | exact .inl rfl | exact .inl trivial), by rw [HLK.out, HN.out]; omega, by rw [HLK.out, HN.out]; omega, fun e => (by cases e)⟩
          | false =>
            have hm300 : m ≤ 300 := H3.out (by have := HBX.out; simp only [Bool.or_eq_false_iff] at this; exact this.1)
            have hu8 : IntKind.u8.wrap (x : Int) = (x : Int) := wr_u8 _ (by omega) (by omega)
            go_wp2_with fail
            refine HG.out.mono ?_
            rintro e w6 ⟨rfl, hr6, K6⟩
            have hby6 := hby.kp K6 (by simpa using Ne.symm hgr')
            go_wp2_with (at_builtin; go_must (refine wpList_byte (x := x) rfl _ _ rfl rfl hby6 rfl (by rw [HLK.out]; omega) ?_); intro r7 cap7 w7 hby7 hr7 hrl7 K7 hc1 hc2)
            go_roundw
            case rel =>
              have hz := K.size
              have hz6 := K6.size
              have hgl5 := R5.out.lt
              have hg7 : g ≠ r7 := by rcases hr7 with e | e <;> omega
              refine ⟨k + 1, r7, cap7, by go_num, by omega, ?_, ?_, ?_, ?_, by omega, hg7, by omega⟩
              · first | rfl | (rw [HLK.out]; rfl)
              · have hr7' := hr6.kp K7 (by simpa using hgr')
                have e1 : min (min (q + 8 * k) (8 * s.size) + 8) (8 * s.size) = min (q + 8 * (k + 1)) (8 * s.size) := by omega
                have e2 : (false || decide (8 * s.size < min (q + 8 * k) (8 * s.size) + 8)) = (x4 || decide (8 * s.size < q + 8 * (k + 1))) := by
                  have hb0 := HBX.out
                  simp only [Bool.or_eq_false_iff, decide_eq_false_iff_not] at hb0
                  rw [hb0.1, Bool.eq_iff_iff]; simp; omega
                rw [e1, e2] at hr7'
                exact hr7'
              · rw [HP.out, ← List.append_assoc]
                refine ⟨?_⟩
                rw [List.length_append]
                exact hby7
              · refine (K.then (K6.mono (fun y hy => .inl (by simp at hy ⊢; exact .inl hy)))).trans K7 (fun y hy => ?_)
                simp at hy ⊢; omega
            case measure => simp [intOf]; omega
end Go.Proofs.YtncidljdfipigaaDoor.Wi
