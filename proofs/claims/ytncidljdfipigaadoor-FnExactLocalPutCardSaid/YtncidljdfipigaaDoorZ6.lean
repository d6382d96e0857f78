/- Own texts joined: Rt, Sd, WLad2, Rp. -/
import Derived.Deep.DeepCutAuto
import Derived.Deep.RegionHeld3
import Derived.Test.YtncidljdfipigaaDoorZ0
import Derived.Test.YtncidljdfipigaaDoorZ3
import Derived.Test.YtncidljdfipigaaDoorZ4
import Derived.Test.YtncidljdfipigaaDoorZ5
/- The program's reader takes a part that is not packed. Conditions: a reader, a row of bytes. -/
namespace Go.Proofs.YtncidljdfipigaaDoor.Wi
open Go.RowKit Go.Proofs.YtncidljdfipigaaDoor.Mem Go.Proofs.YtncidljdfipigaaDoor.Bt Go.Proofs.YtncidljdfipigaaDoor.Cd Go.Proofs.YtncidljdfipigaaDoor.De
set_option linter.unusedVariables false
set_option linter.unusedSimpArgs false
/-- What a reader has taken behind bytes; more than 300 of them count as nothing. -/
structure AnsO (d : Dec (List Nat)) (s : ByteArray) (p : Nat) (b : Bool) (l : List Nat) (p' : Nat) (b' : Bool) : Prop where mk ::
  bad : b' = true → b = true ∨ d (rest s p) = none
  good : b' = false → b = false ∧ (l.length ≤ 300 → d (rest s p) = some (l, rest s p')) ∧ (300 < l.length → d (rest s p) = none)
section
variable {α : Type} {d : Dec α} {k : α → Dec (List Nat)} {s : ByteArray} {p p1 p2 : Nat} {b b1 b2 : Bool} {x : α} {y : List Nat}
theorem AnsO.next (h : Ans d s p b x p1 b1) (h2 : AnsO (k x) s p1 b1 y p2 b2) : AnsO (next d k) s p b y p2 b2 := by
  refine ⟨fun e => ?_, fun e => ?_⟩
  · cases hb1 : b1 with
    | true => rcases h.bad hb1 with a | a
              · exact .inl a
              · exact .inr (next_none a)
    | false => obtain ⟨a1, a2⟩ := h.good hb1
               rcases h2.bad e with a | a
               · rw [hb1] at a; cases a
               · exact .inr (by rw [next_some a2]; exact a)
  · obtain ⟨c1, c2, c3⟩ := h2.good e
    obtain ⟨a1, a2⟩ := h.good c1
    exact ⟨a1, fun hl => by rw [next_some a2]; exact c2 hl, fun hl => by rw [next_some a2]; exact c3 hl⟩
theorem AnsO.fail (s : ByteArray) (p p' : Nat) (b : Bool) (l : List Nat) : AnsO (De.bad : Dec (List Nat)) s p b l p' true := ⟨fun _ => .inr rfl, fun e => by cases e⟩
theorem AnsO.was (d : Dec (List Nat)) (s : ByteArray) (p p' : Nat) (l : List Nat) : AnsO d s p true l p' true := ⟨fun _ => .inl rfl, fun e => by cases e⟩
theorem AnsO.any {d : Dec (List Nat)} (h : AnsO d s p b y p1 true) (y2 : List Nat) (p2 : Nat) : AnsO d s p b y2 p2 true := ⟨fun _ => h.bad rfl, fun e => by cases e⟩
end
theorem ans_align {s : ByteArray} {p : Nat} {b : Bool} (hp : p ≤ 8 * s.size) : Ans align s p b () (evenAt p) (b || !padOk s p) := by
  have h8 : (8 * s.size - p) % 8 = evenAt p - p := by unfold evenAt; omega
  have h9 : p ≤ evenAt p := by unfold evenAt; omega
  have he : align (rest s p) = if padOk s p = true then some ((), rest s (evenAt p)) else none := by
    unfold align padOk
    rw [rest_length, h8, rest_drop, show p + (evenAt p - p) = evenAt p from by omega]
  refine ⟨fun e => ?_, fun e => ?_⟩
  · cases b with
    | true => exact .inl rfl
    | false =>
      have : padOk s p = false := by simpa using e
      exact .inr (by rw [he, this]; rfl)
  · simp only [Bool.or_eq_false_iff, Bool.not_eq_false'] at e
    exact ⟨e.1, by rw [he, if_pos e.2]⟩
theorem packN_snoc (s : ByteArray) (q : Nat) : ∀ k, packN (k + 1) (rest s q) = packN k (rest s q) ++ [numAt s (q + 8 * k) 8] := by
  intro k
  induction k generalizing q with
  | zero => rfl
  | succ k ih =>
    have e1 : packN (k + 1 + 1) (rest s q) = val ((rest s q).take 8) :: packN (k + 1) ((rest s q).drop 8) := rfl
    have e2 : packN (k + 1) (rest s q) = val ((rest s q).take 8) :: packN k ((rest s q).drop 8) := rfl
    rw [e1, e2, rest_drop, ih (q + 8), show q + 8 + 8 * k = q + 8 * (k + 1) from by omega]; rfl
theorem packN_length : ∀ (n : Nat) (bs : List Bool), (packN n bs).length = n
  | 0, _ => rfl
  | n + 1, bs => by rw [packN]; simp [packN_length n]
/-- What a call of the reader leaves that adds to bytes: all but the reader's block and the row's. -/
structure Out (d : Dec (List Nat)) (s : ByteArray) (p : Nat) (b : Bool) (g r : Nat) (w : World) (v : Value) (w' : World) : Prop where mk ::
  out : ∃ (p' : Nat) (b' : Bool) (r' cap' : Nat) (l' : List Nat), IR w' g s p' b' ∧ Kp [g, r] w w' ∧ (r' = r ∨ w.heap.size ≤ r') ∧ AnsO d s p b l' p' b' ∧ (b' = false → v = .slice (some ⟨r', 0, none⟩) l'.length cap' ∧ By w' r' cap' l' ∧ l'.length ≤ 1000)
set_option maxRecDepth 100000 in
theorem rstored_calls (g r cap n : Nat) (s : ByteArray) (p : Nat) (b : Bool) (l : List Nat) (w : World) (hw : IR w g s p b) (hb : By w r cap l) (hn : l.length = n) (hn2 : n ≤ 300) (hgr : g ≠ r) :
    Calls Tryd.prog 53 #[.pointer (some ⟨g, 0, none⟩), .slice (some ⟨r, 0, none⟩) n cap] w fun e w' => ∃ v, e = .returned v ∧ Out (De.stored l) s p b g r w v w' := by
  have HN := Lib.hid hn
  clear hn
  have HE := Lib.hid (reven_calls g s p b w hw)
  have A1 := Lib.hid (ans_align (b := b) hw.le)
  have hp := hw.le
  have hgl := hw.out.lt
  have hrl := hb.lt
  go_enter Tryd.func53, Tryd.ntmps53
  go_wp2_with fail
  refine HE.out.mono ?_
  rintro e w1 ⟨rfl, hw1, K1⟩
  have hb1 := hb.kp K1 (by simpa using Ne.symm hgr)
  generalize hq1 : evenAt p = q1 at *
  generalize hx1 : (b || !padOk s p) = x1 at *
  have A2 := Lib.hid (ans_num (n := 16) (b := x1) hw1.le)
  have HE2 := Lib.hid (get_calls g 16 s q1 x1 w1 hw1 (by omega))
  go_wp2_with fail
  refine HE2.out.mono ?_
  rintro e w2 ⟨rfl, hw2, K2⟩
  have hb2 := hb1.kp K2 (by simpa using Ne.symm hgr)
  have hm1 := numAt_lt s q1 16
  generalize hq2 : min (q1 + 16) (8 * s.size) = q2 at *
  generalize hx2 : (x1 || decide (8 * s.size < q1 + 16)) = x2 at *
  have A3 := Lib.hid (ans_num (n := 16) (b := x2) hw2.le)
  have HE3 := Lib.hid (get_calls g 16 s q2 x2 w2 hw2 (by omega))
  generalize numAt s q1 16 = m at *
  go_wp2_with fail
  refine HE3.out.mono ?_
  rintro e w3 ⟨rfl, hw3, K3⟩
  have hb3 := hb2.kp K3 (by simpa using Ne.symm hgr)
  have hm2 := numAt_lt s q2 16
  generalize hq3 : min (q2 + 16) (8 * s.size) = q at *
  generalize hx3 : (x2 || decide (8 * s.size < q2 + 16)) = x3 at *
  generalize numAt s q2 16 = mm at *
  have hfin : ∀ (l' : List Nat) (p' : Nat) (b' : Bool), AnsO (if m + mm = 65535 ∧ l.length + m ≤ 300 then next (De.bytes m) fun x => ret (l ++ x) else De.bad) s q x3 l' p' b' → AnsO (De.stored l) s p b l' p' b' := fun l' p' b' h =>
    AnsO.next A1.out (AnsO.next A2.out (AnsO.next A3.out h))
  have HF := Lib.hid hfin
  have K := (K1.then K2).then K3
  have HK : RowKit.Hid (Kp [g, r] w w3) := Lib.hid (K.mono (fun x hx => .inl (by simp at hx ⊢; exact .inl hx)))
  clear hfin K
  have e1 : IntKind.i64.wrap (65535 - (mm : Int)) = ((65535 - mm : Nat) : Int) := by rw [IntKind.wrap_i64]; omega
  obtain ⟨D, hD⟩ : ∃ D : Dec (List Nat), D = (if m + mm = 65535 ∧ l.length + m ≤ 300 then next (De.bytes m) fun x => ret (l ++ x) else De.bad) := ⟨_, rfl⟩
  rw [← hD] at HF
  have hbad : m + mm = 65535 → 8 * s.size < q + 8 * m → D (rest s q) = none := fun _ hlt => by
    rw [hD]
    split
    · exact next_none (by unfold De.bytes; rw [if_neg (by rw [rest_length]; omega)])
    · rfl
  have hgood : m + mm = 65535 → q + 8 * m ≤ 8 * s.size → n + m ≤ 300 → D (rest s q) = some (l ++ packN m (rest s q), rest s (q + 8 * m)) := fun h1 h2 h3 => by
    rw [hD, if_pos ⟨h1, by rw [HN.out]; exact h3⟩]
    rw [next_some (x := packN m (rest s q)) (r := rest s (q + 8 * m)) (by unfold De.bytes; rw [if_pos (by rw [rest_length]; omega), rest_drop])]; rfl
  have hover : 300 < n + m → D (rest s q) = none := fun h => by rw [hD, if_neg (by rw [HN.out]; omega)]; rfl
  have hne : m + mm ≠ 65535 → D (rest s q) = none := fun h => by rw [hD, if_neg (fun hh => h hh.1)]; rfl
  have hpk := packN_snoc s q
  have HPK := Lib.hid hpk
  have hlen : ∀ k, (l ++ packN k (rest s q)).length = n + k := fun k => by rw [List.length_append, packN_length, HN.out]
  have HLEN := Lib.hid hlen
  clear hD hpk hlen A1 A2 A3 HE HE2 HE3
  by_cases hm : m + mm = 65535
  case' pos =>
    have hm' : ((m : Int) != ((65535 - mm : Nat) : Int)) = false := by simp; omega
    generalize 65535 - mm = mx at *
    go_wp2_with fail
    obtain ⟨x4, hx4⟩ : ∃ x4, x4 = x3 := ⟨_, rfl⟩
    obtain ⟨w4, hw4⟩ : ∃ w4, w4 = w3 := ⟨_, rfl⟩
    have R4 : IR w4 g s q x4 := by rw [hx4, hw4]; exact hw3
    have B4 : By w4 r cap l := by rw [hw4]; exact hb3
    have K4 : RowKit.Hid (Kp [g, r] w w4) := by rw [hw4]; exact HK
    have F1 : ∀ k, k ≤ m → (x4 || decide (8 * s.size < q + 8 * k)) = true → x3 = true ∨ D (rest s q) = none := fun k hk e => by
      simp only [Bool.or_eq_true, decide_eq_true_eq] at e
      rcases e with e | e
      · exact .inl (hx4 ▸ e)
      · exact .inr (hbad hm (by omega))
    have F2 : x4 = false → q + 8 * m ≤ 8 * s.size → n + m ≤ 300 → x3 = false ∧ D (rest s q) = some (l ++ packN m (rest s q), rest s (q + 8 * m)) := fun e h1 h2 => ⟨hx4 ▸ e, hgood hm h1 h2⟩
    have F3 : x4 = false → 300 < n + m → x3 = false ∧ D (rest s q) = none := fun e h1 => ⟨hx4 ▸ e, hover h1⟩
    clear hm' hbad hgood hover hne hx4
    subst hw4
  case' neg =>
    have hm' : ((m : Int) != ((65535 - mm : Nat) : Int)) = true := by simp; omega
    generalize 65535 - mm = mx at *
    have fr : ∀ i, w3.frozen? ⟨g, i, none⟩ = false := hw3.out.frozen
    have c2 := (hw3.out.cell 2).trans rfl
    go_wp2_with fail
    obtain ⟨x4, hx4⟩ : ∃ x4, x4 = true := ⟨_, rfl⟩
    have R4 : IR (w3.setCell ⟨g, 2, none⟩ (.bool true)) g s q x4 := by rw [hx4]; exact ⟨hw3.out.set 2 (.bool true), hw3.le, hw3.sz⟩
    have K34 : Kp [g] w3 (w3.setCell ⟨g, 2, none⟩ (.bool true)) := (Kp.refl _ _).set (.inl (by simp)) _
    have B4 := hb3.kp K34 (by simpa using Ne.symm hgr)
    have K4 : RowKit.Hid (Kp [g, r] w (w3.setCell ⟨g, 2, none⟩ (.bool true))) := Lib.hid (HK.out.set (.inl (by simp)) _)
    have F1 : ∀ k, k ≤ m → (x4 || decide (8 * s.size < q + 8 * k)) = true → x3 = true ∨ D (rest s q) = none := fun k hk e => .inr (hne hm)
    have F2 : x4 = false → q + 8 * m ≤ 8 * s.size → n + m ≤ 300 → x3 = false ∧ D (rest s q) = some (l ++ packN m (rest s q), rest s (q + 8 * m)) := fun e => by rw [hx4] at e; cases e
    have F3 : x4 = false → 300 < n + m → x3 = false ∧ D (rest s q) = none := fun e => by rw [hx4] at e; cases e
    clear hm' hbad hgood hover hne K34 fr c2
    generalize w3.setCell ⟨g, 2, none⟩ (.bool true) = w4 at *
    clear hx4
  all_goals
    have H1 := Lib.hid F1
    have H2 := Lib.hid F2
    have H3 := Lib.hid F3
    clear F1 F2 F3
    go_loopw [1, 7] (fun o x wr => ∃ (k r' cap' : Nat), x = .int .i64 (k : Int) ∧ k ≤ m ∧ o = .slice (some ⟨r', 0, none⟩) (n + k) cap' ∧ IR wr g s (min (q + 8 * k) (8 * s.size)) (x4 || decide (8 * s.size < q + 8 * k)) ∧ By wr r' cap' (l ++ packN k (rest s q)) ∧ Kp [g, r] w4 wr ∧ (r' = r ∨ w4.heap.size ≤ r') ∧ g ≠ r' ∧ n + k ≤ 301) (fun _ x _ => m - (intOf x).toNat)
    case atStart =>
      refine ⟨0, r, cap, rfl, by omega, rfl, ?_, ?_, Kp.refl _ _, .inl rfl, hgr, by omega⟩
      · rw [Nat.mul_zero, Nat.add_zero, Nat.min_eq_left R4.le, show decide (8 * s.size < q) = false from by simp; exact R4.le, Bool.or_false]
        exact R4
      · simpa [packN] using B4
    case round =>
      obtain ⟨k, r', cap', rfl, hk, rfl, hr, hB, K, hr', hgr', hnk⟩ := hrel
      have hlk := HLEN.out k
      have hexit : (x4 || decide (8 * s.size < q + 8 * k)) = true ∨ k = m ∨ 300 < n + k → AnsO (De.stored l) s p b (l ++ packN k (rest s q)) (min (q + 8 * k) (8 * s.size)) (x4 || decide (8 * s.size < q + 8 * k)) := fun hc => by
        refine HF.out _ _ _ ⟨fun e => H1.out k hk e, fun e => ?_⟩
        have e' := e
        simp only [Bool.or_eq_false_iff, decide_eq_false_iff_not] at e'
        rw [hlk, Nat.min_eq_left (by omega)]
        rcases hc with hc | hc | hc
        · rw [e] at hc; cases hc
        · subst hc
          by_cases h3 : n + k ≤ 300
          · obtain ⟨a1, a2⟩ := H2.out e'.1 (by omega) h3
            exact ⟨a1, fun _ => a2, fun h => by omega⟩
          · obtain ⟨a1, a2⟩ := H3.out e'.1 (by omega)
            exact ⟨a1, fun h => by omega, fun _ => a2⟩
        · obtain ⟨a1, a2⟩ := H3.out e'.1 (by omega)
          exact ⟨a1, fun h => by omega, fun _ => a2⟩
      have hK0 := HK
      have hKK := K4.out.then K
      have hrw : r' = r ∨ w.heap.size ≤ r' := by have := K4.out.size; omega
      have hby : Bytes wr r' (.slice (some ⟨r', 0, none⟩) (n + k) cap') (l ++ packN k (rest s q)) := by have := hB.out; rw [hlk] at this; exact this
      have hpk := HPK.out k
      have HEX := Lib.hid hexit
      have HP := Lib.hid hpk
      have HG := Lib.hid (get_calls g 8 s _ _ wr hr (by omega))
      have HLK := Lib.hid hlk
      have hx8 := numAt_lt s (q + 8 * k) 8
      have hmn : numAt s (min (q + 8 * k) (8 * s.size)) 8 = numAt s (q + 8 * k) 8 := numAt_min s _ _
      rw [hmn] at HG
      have c2 := (hr.out.cell 2).trans rfl
      have hrl4 := hr.le
      clear hexit hpk hlk hmn
      generalize hbx : (x4 || decide (8 * s.size < q + 8 * k)) = bx at *
      have HBX := Lib.hid hbx
      clear hbx
      generalize numAt s (q + 8 * k) 8 = x at *
      have hslice : (l ++ packN k (rest s q)).length = n + k := HLK.out
      by_cases hkm : k = m
      · subst hkm
        go_wp2_with fail
        go_ret
        refine ⟨_, rfl, ⟨_, bx, r', cap', _, hr, hKK, hrw, HEX.out (.inr (.inl trivial)), fun _ => ⟨by rw [hslice]; rfl, hB, by rw [hslice]; omega⟩⟩⟩
      · have hkm' : (k : Int) < m := by omega
        cases bx with
        | true =>
          go_wp2_with fail
          go_ret
          refine ⟨_, rfl, ⟨_, true, r', cap', _, hr, hKK, hrw, HEX.out (.inl trivial), fun e => by cases e⟩⟩
        | false =>
          by_cases h3 : n + k ≤ 300
          · have h3' : ((n + k : Nat) : Int) ≤ 300 := by omega
            have h3'' : (n : Int) + (k : Int) ≤ 300 := by omega
            have hu8 : IntKind.u8.wrap (x : Int) = (x : Int) := wr_u8 _ (by omega) (by omega)
            go_wp2_with fail
            refine HG.out.mono ?_
            rintro e w5 ⟨rfl, hr5, K5⟩
            have hby5 := hby.kp K5 (by simpa using Ne.symm hgr')
            go_wp2_with (at_builtin; go_must (refine wpList_byte (x := x) rfl _ _ rfl rfl hby5 rfl (by rw [hslice]; omega) ?_); intro r6 cap6 w6 hby6 hr6 hrl6 K6 hc1 hc2)
            go_roundw
            case rel =>
              have hz := K.size
              have hz5 := K5.size
              have hgl4 := R4.out.lt
              have hg6 : g ≠ r6 := by rcases hr6 with e | e <;> omega
              refine ⟨k + 1, r6, cap6, by go_num, by omega, ?_, ?_, ?_, ?_, by omega, hg6, by omega⟩
              · rfl
              · have hr6' := hr5.kp K6 (by simpa using hgr')
                have e1 : min (min (q + 8 * k) (8 * s.size) + 8) (8 * s.size) = min (q + 8 * (k + 1)) (8 * s.size) := by omega
                have e2 : (false || decide (8 * s.size < min (q + 8 * k) (8 * s.size) + 8)) = (x4 || decide (8 * s.size < q + 8 * (k + 1))) := by
                  have hb0 := HBX.out
                  simp only [Bool.or_eq_false_iff, decide_eq_false_iff_not] at hb0
                  rw [hb0.1, Bool.eq_iff_iff]; simp; omega
                rw [e1, e2] at hr6'
                exact hr6'
              · rw [HP.out, ← List.append_assoc]
                refine ⟨?_⟩
                rw [List.length_append]
                exact hby6
              · refine (K.then (K5.mono (fun y hy => .inl (by simp at hy ⊢; exact .inl hy)))).trans K6 (fun y hy => ?_)
                simp at hy ⊢; omega
            case measure => simp [intOf]; omega
          · have h3' : decide (((n + k : Nat) : Int) ≤ 300) = false := by simp; omega
            have h3'' : decide ((n : Int) + (k : Int) ≤ 300) = false := by simp; omega
            go_wp2_with fail
            go_ret
            refine ⟨_, rfl, ⟨_, false, r', cap', _, hr, hKK, hrw, HEX.out (.inr (.inr (by omega))), fun _ => ⟨by rw [hslice]; rfl, hB, by rw [hslice]; omega⟩⟩⟩
end Go.Proofs.YtncidljdfipigaaDoor.Wi

/- The specification's reader takes a part that is not packed. Conditions: a reader, a row of bytes. -/
namespace Go.Proofs.YtncidljdfipigaaDoor.Wi
open Go.RowKit Go.Proofs.YtncidljdfipigaaDoor.Mem Go.Proofs.YtncidljdfipigaaDoor.Bt Go.Proofs.YtncidljdfipigaaDoor.Cd Go.Proofs.YtncidljdfipigaaDoor.De
set_option linter.unusedVariables false
set_option linter.unusedSimpArgs false
/-- What a call of the specification's reader leaves that adds to bytes: all but the reader's block and the row's; what it has taken is told where the bytes ahead were no more than may be. -/
structure SOut (d : Dec (List Nat)) (s : ByteArray) (p : Nat) (b : Bool) (l : List Nat) (g r : Nat) (w : World) (e : Ending) (w' : World) : Prop where mk ::
  out : ∃ (p' : Nat) (b' : Bool) (r' cap' : Nat) (l' : List Nat), e = .returned (.slice (some ⟨r', 0, none⟩) l'.length cap') ∧ SR w' g s p' b' ∧ By w' r' cap' l' ∧ Kp [g, r] w w' ∧ (r' = r ∨ w.heap.size ≤ r') ∧ (l.length ≤ 300 → AnsO d s p b l' p' b') ∧ l.length ≤ l'.length ∧ l'.length ≤ l.length + 400 ∧ (b' = false → b = false ∧ (p ≤ p' ∨ l'.length ≤ 300))
set_option maxRecDepth 100000 in
set_option maxHeartbeats 1000000 in
theorem sstored_calls (g r cap n : Nat) (s : ByteArray) (p : Nat) (b : Bool) (l : List Nat) (w : World) (hw : SR w g s p b) (hb : By w r cap l) (hn : l.length = n) (hn2 : n ≤ 90000000) (hgr : g ≠ r) :
    Calls Tryd.prog 135 #[.pointer (some ⟨g, 0, none⟩), .slice (some ⟨r, 0, none⟩) n cap] w fun e w' => SOut (De.stored l) s p b l g r w e w' := by
  have HN := Lib.hid hn
  clear hn
  have HE := Lib.hid (swhole_calls g s p b w hw)
  have A1 := Lib.hid (ans_align (b := b) hw.le)
  have hp := hw.le
  have hgl := hw.out.lt
  have hrl := hb.lt
  go_enter Tryd.func135, Tryd.ntmps135
  go_wp2_with fail
  refine HE.out.mono ?_
  rintro e w1 ⟨rfl, hw1, K1⟩
  have hb1 := hb.kp K1 (by simpa using Ne.symm hgr)
  have hpe : p ≤ evenAt p := by unfold evenAt; omega
  generalize hq1 : evenAt p = q1 at *
  have W2 : ∃ w2 x1, (x1 = (b || !padOk s p)) ∧ SR w2 g s q1 x1 ∧ By w2 r cap l ∧ Kp [g] w w2 ∧ w2 = (if padOk s p = true then w1 else w1.setCell ⟨g, 2, none⟩ (.bool true)) := by
    cases hpo : padOk s p with
    | true => exact ⟨w1, b, by simp, hw1, hb1, K1, rfl⟩
    | false =>
      have K := K1.set (p := ⟨g, 2, none⟩) (.inl (by simp)) (.bool true)
      exact ⟨_, true, by simp, ⟨hw1.out.set 2 (.bool true), hw1.le, hw1.sz⟩, hb.kp K (by simpa using Ne.symm hgr), K, rfl⟩
  obtain ⟨w2, x1, hx1, hw2, hb2, K2, hw2e⟩ := W2
  rw [← hx1] at A1
  have c2 : w1.cell? ⟨g, 2, none⟩ = some (.bool b) := (hw1.out.cell 2).trans rfl
  have fr1 : ∀ i, w1.frozen? ⟨g, i, none⟩ = false := hw1.out.frozen
  have HX1 := Lib.hid hx1
  clear hx1
  have A2 := Lib.hid (ans_num (n := 16) (b := x1) hw2.le)
  have HE2 := Lib.hid (snum_calls g 16 s q1 x1 w2 hw2 (by omega))
  have hm1 := numAt_lt s q1 16
  generalize hq2 : min (q1 + 16) (8 * s.size) = q2 at *
  generalize hx2 : (x1 || decide (8 * s.size < q1 + 16)) = x2 at *
  generalize numAt s q1 16 = m at *
  cases hpo : padOk s p
  all_goals
    rw [hpo] at hw2e
    simp only [if_true, Bool.false_eq_true, if_false] at hw2e
    go_wp2_with fail
    rw [← hw2e]
    refine HE2.out.mono ?_
    rintro e w3 ⟨rfl, hw3, K3⟩
    clear hw2e c2 fr1
    have hb3 := hb2.kp K3 (by simpa using Ne.symm hgr)
    have A3 := Lib.hid (ans_num (n := 16) (b := x2) hw3.le)
    have HE3 := Lib.hid (snum_calls g 16 s q2 x2 w3 hw3 (by omega))
    have hm2 := numAt_lt s q2 16
    generalize hq3 : min (q2 + 16) (8 * s.size) = q at *
    generalize hx3 : (x2 || decide (8 * s.size < q2 + 16)) = x3 at *
    generalize numAt s q2 16 = mm at *
    go_wp2_with fail
    refine HE3.out.mono ?_
    rintro e w4 ⟨rfl, hw4, K4⟩
    have hb4 := hb3.kp K4 (by simpa using Ne.symm hgr)
    have hfin : ∀ (l' : List Nat) (p' : Nat) (b' : Bool), AnsO (if m + mm = 65535 ∧ l.length + m ≤ 300 then next (De.bytes m) fun x => ret (l ++ x) else De.bad) s q x3 l' p' b' → AnsO (De.stored l) s p b l' p' b' := fun l' p' b' h =>
      AnsO.next A1.out (AnsO.next A2.out (AnsO.next A3.out h))
    have HF := Lib.hid hfin
    have HK : RowKit.Hid (Kp [g, r] w w4) := Lib.hid (((K2.then K3).then K4).mono (fun x hx => .inl (by simp at hx ⊢; exact .inl hx)))
    have e1 : IntKind.i64.wrap (65535 - (m : Int)) = ((65535 - m : Nat) : Int) := by rw [IntKind.wrap_i64]; omega
    obtain ⟨D, hD⟩ : ∃ D : Dec (List Nat), D = (if m + mm = 65535 ∧ l.length + m ≤ 300 then next (De.bytes m) fun x => ret (l ++ x) else De.bad) := ⟨_, rfl⟩
    rw [← hD] at HF
    have hbad : 8 * s.size < q + 8 * m → D (rest s q) = none := fun hlt => by
      rw [hD]
      split
      · exact next_none (by unfold De.bytes; rw [if_neg (by rw [rest_length]; omega)])
      · rfl
    have hgood : m + mm = 65535 → q + 8 * m ≤ 8 * s.size → n + m ≤ 300 → D (rest s q) = some (l ++ packN m (rest s q), rest s (q + 8 * m)) := fun h1 h2 h3 => by
      rw [hD, if_pos ⟨h1, by rw [HN.out]; exact h3⟩]
      rw [next_some (x := packN m (rest s q)) (r := rest s (q + 8 * m)) (by unfold De.bytes; rw [if_pos (by rw [rest_length]; omega), rest_drop])]; rfl
    have hover : 300 < n + m → D (rest s q) = none := fun h => by rw [hD, if_neg (by rw [HN.out]; omega)]; rfl
    have hne : m + mm ≠ 65535 → D (rest s q) = none := fun h => by rw [hD, if_neg (fun hh => h hh.1)]; rfl
    have HPK := Lib.hid (packN_snoc s q)
    have HLEN := Lib.hid (show ∀ k, (l ++ packN k (rest s q)).length = n + k from fun k => by rw [List.length_append, packN_length, HN.out])
    have FIN := Lib.hid (show ∀ (k : Nat) (x4 : Bool), (x4 = false → m + mm = 65535 ∧ x3 = false) → (x4 = true → x3 = true ∨ D (rest s q) = none) → k ≤ m → ((x4 || decide (8 * s.size < q + 8 * k)) = true ∨ k = m) →
        AnsO (De.stored l) s p b (l ++ packN k (rest s q)) (min (q + 8 * k) (8 * s.size)) (x4 || decide (8 * s.size < q + 8 * k)) from fun k x4 hx4 hy4 hk hc => by
      have hlk := HLEN.out k
      refine HF.out _ _ _ ⟨fun e => ?_, fun e => ?_⟩
      · simp only [Bool.or_eq_true, decide_eq_true_eq] at e
        rcases e with e | e
        · exact hy4 e
        · exact .inr (hbad (by omega))
      · have e' := e
        simp only [Bool.or_eq_false_iff, decide_eq_false_iff_not] at e'
        rw [hlk, Nat.min_eq_left (by omega)]
        obtain ⟨a1, a2⟩ := hx4 e'.1
        rcases hc with hc | hc
        · rw [e] at hc; cases hc
        · subst hc
          refine ⟨a2, fun h3 => hgood a1 (by omega) h3, fun h3 => hover h3⟩)
    clear A1 A2 A3 HE HE2 HE3 hbad hgood HX1
    have fr : ∀ i, w4.frozen? ⟨g, i, none⟩ = false := hw4.out.frozen
    have c2 : w4.cell? ⟨g, 2, none⟩ = some (.bool x3) := (hw4.out.cell 2).trans rfl
    obtain ⟨ba, hA'⟩ : ∃ ba, ((mm : Int) != ((65535 - m : Nat) : Int)) = ba := ⟨_, rfl⟩
    obtain ⟨bb, hB'⟩ : ∃ bb, decide ((300 : Int) < (m : Int)) = bb := ⟨_, rfl⟩
    have hba : ba = true ↔ m + mm ≠ 65535 := by rw [← hA']; simp; omega
    have hbb : bb = true ↔ 300 < m := by rw [← hB']; simp; omega
    have W5 : ∃ w5 x4, (x4 = false → m + mm = 65535 ∧ x3 = false) ∧ (x4 = true → x3 = true ∨ D (rest s q) = none) ∧ (x4 = false → m ≤ 300) ∧ SR w5 g s q x4 ∧ By w5 r cap l ∧ Kp [g, r] w w5 ∧ w5 = (if (ba || bb) = true then w4.setCell ⟨g, 2, none⟩ (.bool true) else w4) := by
      cases hab : (ba || bb) with
      | false =>
        rw [Bool.or_eq_false_iff] at hab
        have h1 : m + mm = 65535 := by have := hba; rw [hab.1] at this; simp at this; exact this
        have h2 : m ≤ 300 := by have := hbb; rw [hab.2] at this; simp at this; omega
        exact ⟨w4, x3, fun e => ⟨h1, e⟩, fun e => .inl e, fun _ => h2, hw4, hb4, HK.out, by simp⟩
      | true =>
        have hX : D (rest s q) = none := by
          rw [Bool.or_eq_true] at hab
          rcases hab with h | h
          · exact hne (hba.1 h)
          · exact hover (by have := hbb.1 h; omega)
        have K45 : Kp [g] w4 (w4.setCell ⟨g, 2, none⟩ (.bool true)) := (Kp.refl _ _).set (.inl (by simp)) _
        exact ⟨_, true, fun e => (by cases e), fun _ => .inr hX, fun e => (by cases e), ⟨hw4.out.set 2 (.bool true), hw4.le, hw4.sz⟩, hb4.kp K45 (by simpa using Ne.symm hgr), HK.out.set (.inl (by simp)) _, by simp⟩
    obtain ⟨w5, x4, F1, F2, F3, R5, B5, K5, hw5e⟩ := W5
    have H1 := Lib.hid F1
    have H2 := Lib.hid F2
    have H3 := Lib.hid F3
    have HK5 := Lib.hid K5
    have HMM := Lib.hid hm1
    clear F1 F2 F3 K5 hba hbb hover hne hD hm1 hm2
    generalize 65535 - m = mx at *
    cases ba <;> cases bb
    all_goals
      simp only [Bool.or_true, Bool.or_false, if_true, Bool.false_eq_true, if_false] at hw5e
      go_wp2_with fail
      rw [← hw5e]
      clear hw5e fr c2 hA' hB'
      go_loopw [1, 6] (fun o x wr => ∃ (k r' cap' : Nat), x = .int .i64 (k : Int) ∧ k ≤ m ∧ o = .slice (some ⟨r', 0, none⟩) (n + k) cap' ∧ SR wr g s (min (q + 8 * k) (8 * s.size)) (x4 || decide (8 * s.size < q + 8 * k)) ∧ By wr r' cap' (l ++ packN k (rest s q)) ∧ Kp [g, r] w5 wr ∧ (r' = r ∨ w5.heap.size ≤ r') ∧ g ≠ r' ∧ k ≤ 300) (fun _ x _ => m - (intOf x).toNat)
      case atStart =>
        refine ⟨0, r, cap, rfl, by omega, rfl, ?_, ?_, Kp.refl _ _, .inl rfl, hgr, by omega⟩
        · rw [Nat.mul_zero, Nat.add_zero, Nat.min_eq_left R5.le, show decide (8 * s.size < q) = false from by simp; exact R5.le, Bool.or_false]
          exact R5
        · simpa [packN] using B5
      case round =>
        obtain ⟨k, r', cap', rfl, hk, rfl, hr, hB, K, hr', hgr', hk3⟩ := hrel
        have hlk := HLEN.out k
        have HFI := Lib.hid (FIN.out k x4 H1.out H2.out hk)
        have hKK := HK5.out.then K
        have hrw : r' = r ∨ w.heap.size ≤ r' := by have := HK5.out.size; omega
        have hby : Bytes wr r' (.slice (some ⟨r', 0, none⟩) (n + k) cap') (l ++ packN k (rest s q)) := by have := hB.out; rw [hlk] at this; exact this
        have HP := Lib.hid (HPK.out k)
        have HG := Lib.hid (snum_calls g 8 s _ _ wr hr (by omega))
        have HLK := Lib.hid hlk
        have hx8 := numAt_lt s (q + 8 * k) 8
        have hmn : numAt s (min (q + 8 * k) (8 * s.size)) 8 = numAt s (q + 8 * k) 8 := numAt_min s _ _
        rw [hmn] at HG
        have c2 : wr.cell? ⟨g, 2, none⟩ = some (.bool (x4 || decide (8 * s.size < q + 8 * k))) := (hr.out.cell 2).trans rfl
        have hrl4 := hr.le
        clear hlk hmn
        generalize hbx : (x4 || decide (8 * s.size < q + 8 * k)) = bx at *
        have HBX := Lib.hid hbx
        clear hbx
        generalize numAt s (q + 8 * k) 8 = x at *
        have hslice : (l ++ packN k (rest s q)).length = n + k := HLK.out
        by_cases hkm : k = m
        · subst hkm
          go_wp2_with fail
          go_ret
          exact ⟨_, bx, r', cap', _, by rw [HLK.out]; rfl, hr, hB, hKK, hrw, fun _ => HFI.out (by first | exact .inr rfl | exact .inr trivial), by rw [HLK.out, HN.out]; omega, by rw [HLK.out, HN.out]; omega, fun e => ⟨((HFI.out (by first | exact .inr rfl | exact .inr trivial)).good e).1, .inl (by omega)⟩⟩
        · have hkm' : (k : Int) < m := by omega
          cases bx with
          | true =>
            go_wp2_with fail
            go_ret
            exact ⟨_, true, r', cap', _, by rw [HLK.out]; rfl, hr, hB, hKK, hrw, fun _ => HFI.out (by first | exact .inl rfl | exact .inl trivial), by rw [HLK.out, HN.out]; omega, by rw [HLK.out, HN.out]; omega, fun e => (by cases e)⟩
          | false =>
            have hm300 : m ≤ 300 := H3.out (by have := HBX.out; simp only [Bool.or_eq_false_iff] at this; exact this.1)
            have hu8 : IntKind.u8.wrap (x : Int) = (x : Int) := wr_u8 _ (by omega) (by omega)
            go_wp2_with fail
            refine HG.out.mono ?_
            rintro e w6 ⟨rfl, hr6, K6⟩
            have hby6 := hby.kp K6 (by simpa using Ne.symm hgr')
            go_wp2_with (at_builtin; go_must (refine wpList_byte (x := x) rfl _ _ rfl rfl hby6 rfl (by rw [HLK.out]; omega) ?_); intro r7 cap7 w7 hby7 hr7 hrl7 K7 hc1 hc2)
            go_roundw
            case rel =>
              have hz := K.size
              have hz6 := K6.size
              have hgl5 := R5.out.lt
              have hg7 : g ≠ r7 := by rcases hr7 with e | e <;> omega
              refine ⟨k + 1, r7, cap7, by go_num, by omega, ?_, ?_, ?_, ?_, by omega, hg7, by omega⟩
              · first | rfl | (rw [HLK.out]; rfl)
              · have hr7' := hr6.kp K7 (by simpa using hgr')
                have e1 : min (min (q + 8 * k) (8 * s.size) + 8) (8 * s.size) = min (q + 8 * (k + 1)) (8 * s.size) := by omega
                have e2 : (false || decide (8 * s.size < min (q + 8 * k) (8 * s.size) + 8)) = (x4 || decide (8 * s.size < q + 8 * (k + 1))) := by
                  have hb0 := HBX.out
                  simp only [Bool.or_eq_false_iff, decide_eq_false_iff_not] at hb0
                  rw [hb0.1, Bool.eq_iff_iff]; simp; omega
                rw [e1, e2] at hr7'
                exact hr7'
              · rw [HP.out, ← List.append_assoc]
                refine ⟨?_⟩
                rw [List.length_append]
                exact hby7
              · refine (K.then (K6.mono (fun y hy => .inl (by simp at hy ⊢; exact .inl hy)))).trans K7 (fun y hy => ?_)
                simp at hy ⊢; omega
            case measure => simp [intOf]; omega
end Go.Proofs.YtncidljdfipigaaDoor.Wi

/- The program's ladders of symbols. -/
namespace Go.Proofs.YtncidljdfipigaaDoor.Wi
open Go.RowKit Go.Proofs.YtncidljdfipigaaDoor.Mem Go.Proofs.YtncidljdfipigaaDoor.Bt Go.Proofs.YtncidljdfipigaaDoor.Cd Go.Proofs.YtncidljdfipigaaDoor.De Go.Proofs.YtncidljdfipigaaDoor.En
set_option linter.unusedVariables false
set_option linter.unusedSimpArgs false
/-- Two rows of numbers whose heads lie in one block. -/
structure Two (w : World) (B : Nat) (v1 v2 : Value) (l1 l2 : List Nat) : Prop where
  b : Blk w B 69 #[v1, v2]
  o1 : w.ownsRow 0 3 1 v1 l1.length (i64s l1)
  o2 : w.ownsRow 0 3 1 v2 l2.length (i64s l2)
  d1 : ∀ k, v1.ownBlock = some k → k ≠ B
  d2 : ∀ k, v2.ownBlock = some k → k ≠ B
  d : ∀ k, v1.ownBlock = some k → v2.ownBlock ≠ some k
theorem i64s_snoc (l : List Nat) (x : Nat) : i64s l ++ (#[.int .i64 (x : Int)] : Array Value).toList = i64s (l ++ [x]) := by unfold i64s; rw [List.map_append]; rfl
theorem own_set {w : World} {p : Addr} {u : Value} {v : Value} {n : Nat} {xs : List Value} (h : w.ownsRow 0 3 1 v n xs) (hd : ∀ k, v.ownBlock = some k → k ≠ p.block) : (w.setCell p u).ownsRow 0 3 1 v n xs :=
  ((Kp.refl [p.block] w).set (p := p) (.inl (by simp)) u).owns h (fun g hg => by simpa using hd g hg)
theorem Two.first {w w1 : World} {B : Nat} {v1 v2 v' : Value} {l1 l2 : List Nat} {x : Nat} (h : Two w B v1 v2 l1 l2) (hown : w1.ownsRow 0 3 1 v' (l1.length + 1) (i64s l1 ++ (#[.int .i64 (x : Int)] : Array Value).toList)) (hg : w.grownBy w1 v1.ownBlock)
    (hat : ∀ k, v'.ownBlock = some k → v1.ownBlock = some k ∨ w.heap.size ≤ k) : Two (w1.setCell ⟨B, 0, none⟩ v') B v' v2 (l1 ++ [x]) l2 := by
  rw [i64s_snoc] at hown
  have hb := h.b.lt
  have hk : ∀ k, v'.ownBlock = some k → k ≠ B := fun k e => by
    rcases hat k e with a | a
    · exact h.d1 k a
    · omega
  have hB : some B ≠ v1.ownBlock := fun e => h.d1 B e.symm rfl
  refine ⟨(h.b.grown hg hB).set 0 v', by rw [List.length_append, List.length_singleton]; exact own_set hown hk, own_set (h.o2.kept hg ?_) h.d2, hk, h.d2, fun k e => ?_⟩
  · by_cases e : v2.ownBlock = none
    · exact .inl e
    · refine .inr (fun e2 => ?_)
      obtain ⟨k, hk2⟩ := Option.ne_none_iff_exists'.1 e
      exact h.d k (e2 ▸ hk2) hk2
  · intro e2
    rcases hat k e with a | a
    · exact h.d k a e2
    · have := (h.o2.lt k e2).2; omega
theorem Two.second {w w1 : World} {B : Nat} {v1 v2 v' : Value} {l1 l2 : List Nat} {x : Nat} (h : Two w B v1 v2 l1 l2) (hown : w1.ownsRow 0 3 1 v' (l2.length + 1) (i64s l2 ++ (#[.int .i64 (x : Int)] : Array Value).toList)) (hg : w.grownBy w1 v2.ownBlock)
    (hat : ∀ k, v'.ownBlock = some k → v2.ownBlock = some k ∨ w.heap.size ≤ k) : Two (w1.setCell ⟨B, 1, none⟩ v') B v1 v' l1 (l2 ++ [x]) := by
  rw [i64s_snoc] at hown
  have hb := h.b.lt
  have hk : ∀ k, v'.ownBlock = some k → k ≠ B := fun k e => by
    rcases hat k e with a | a
    · exact h.d2 k a
    · omega
  have hB : some B ≠ v2.ownBlock := fun e => h.d2 B e.symm rfl
  refine ⟨(h.b.grown hg hB).set 1 v', own_set (h.o1.kept hg ?_) h.d1, by rw [List.length_append, List.length_singleton]; exact own_set hown hk, h.d1, hk, fun k e e2 => ?_⟩
  · by_cases e : v1.ownBlock = none
    · exact .inl e
    · refine .inr (fun e2 => ?_)
      obtain ⟨k, hk2⟩ := Option.ne_none_iff_exists'.1 e
      exact h.d k hk2 (e2 ▸ hk2)
  · rcases hat k e2 with a | a
    · exact h.d k e a
    · have := (h.o1.lt k e).2; omega
theorem Two.on {w w1 : World} {B : Nat} {v1 v2 : Value} {l1 l2 : List Nat} (h : Two w B v1 v2 l1 l2) (O : On w w1) : Two w1 B v1 v2 l1 l2 := ⟨h.b.call O.out, own_on h.o1 O, own_on h.o2 O, h.d1, h.d2, h.d⟩
theorem grown_on {a w w1 : World} {v : Value} {n : Nat} {xs : List Value} (O : On a w) (ho : w.ownsRow 0 3 1 v n xs) (hb : ∀ k, v.ownBlock = some k → a.heap.size ≤ k) (hg : w.grownBy w1 v.ownBlock) : On a w1 := O.grown hg hb
theorem own_slice {w : World} {v : Value} {n : Nat} {xs : List Value} (h : w.ownsRow 0 3 1 v n xs) (hne : v ≠ .slice none 0 0) : ∃ g cap, v = .slice (some ⟨g, 0, none⟩) n cap := by
  rcases h.2 with ⟨h0, _⟩ | ⟨g, c, cur, hv, _⟩
  · exact absurd h0 hne
  · exact ⟨g, c, hv⟩
def bitsL (many plain each : Nat) : List Nat := (List.range many).map fun k => if k < plain then 0 else (k - plain) / each + 1
theorem bitsL_long : bitsL 28 8 4 = longBits := by decide
theorem bitsL_back : bitsL 30 4 2 = backBits := by decide
theorem bitsL_getD (many plain each k : Nat) (h : k < many) : (bitsL many plain each).getD k 0 = if k < plain then 0 else (k - plain) / each + 1 := by
  unfold bitsL; rw [List.getD_eq_getElem?_getD, List.getElem?_map, List.getElem?_range h]; rfl
theorem bitsL_length (many plain each : Nat) : (bitsL many plain each).length = many := by simp [bitsL]
theorem take_succ_getD (l : List Nat) {k : Nat} (h : k < l.length) : l.take (k + 1) = l.take k ++ [l.getD k 0] := by
  rw [List.take_succ_eq_append_getElem h, List.getD_eq_getElem?_getD, List.getElem?_eq_getElem h]; rfl
/-- What a contract tells that makes a ladder. -/
def GivesL (w : World) (b : List Nat) (n : Nat) (f : Nat) (e : Ending) (w' : World) : Prop := ∃ r1 c1 r2 c2, e = .returned (.agg #[.slice (some ⟨r1, 0, none⟩) n c1, .slice (some ⟨r2, 0, none⟩) n c2]) ∧ RowO w' r1 0 3 (i64s (base f b)) ∧ RowO w' r2 0 3 (i64s b) ∧ n ≤ c1 ∧ n ≤ c2 ∧ w.heap.size ≤ r1 ∧ w.heap.size ≤ r2 ∧ On w w'
theorem two_rows {w : World} {B : Nat} {v1 v2 : Value} {l1 l2 : List Nat} (h : Two w B v1 v2 l1 l2) (h1 : l1 ≠ []) (h2 : l2 ≠ []) : ∃ r1 c1 r2 c2, v1 = .slice (some ⟨r1, 0, none⟩) l1.length c1 ∧ v2 = .slice (some ⟨r2, 0, none⟩) l2.length c2 ∧ RowO w r1 0 3 (i64s l1) ∧ RowO w r2 0 3 (i64s l2) ∧ l1.length ≤ c1 ∧ l2.length ≤ c2 := by
  rcases h.o1.2 with ⟨_, h0⟩ | ⟨g, c, cur, hv, _, hh, a1, a2, a3, a4⟩
  · exact absurd (List.length_eq_zero_iff.1 h0) h1
  · rcases h.o2.2 with ⟨_, h0⟩ | ⟨g', c', cur', hv', _, hh', b1, b2, b3, b4⟩
    · exact absurd (List.length_eq_zero_iff.1 h0) h2
    · exact ⟨g, c, g', c', hv, hv', (Row.mk ⟨cur, ⟨hh⟩, by rw [h.o1.1]; exact a4⟩).toO, (Row.mk ⟨cur', ⟨hh'⟩, by rw [h.o2.1]; exact b4⟩).toO, a1, b1⟩
set_option maxRecDepth 100000 in
set_option maxHeartbeats 2000000 in
theorem ladder_calls (f many plain each : Nat) (w : World) (hf : f ≤ 10) (hm : many ≤ 100) (hm1 : 1 ≤ many) (he : 1 ≤ each) (he2 : each ≤ 100) (hp : plain ≤ 100) (h13 : ∀ x ∈ bitsL many plain each, x ≤ 13) :
    Calls Tryd.prog 96 #[.int .i64 f, .int .i64 many, .int .i64 plain, .int .i64 each] w (GivesL w (bitsL many plain each) many f) := by
  have hbl := bitsL_length many plain each
  have hbg := bitsL_getD many plain each
  generalize bitsL many plain each = l at *
  have HL := Lib.hid hbl
  have HG := Lib.hid hbg
  have H13 := Lib.hid h13
  clear hbl hbg h13
  obtain ⟨i0, hi, hz0, hz1, hz2⟩ := info_parts i64info
  go_enter Tryd.func96, Tryd.ntmps96
  go_wp2_with fail
  have B0 := Blk.new w 69 #[.slice none 0 0, .slice none 0 0]
  have B1 := Blk.new (w.alloc (.cells #[.slice none 0 0, .slice none 0 0] 69)) 69 #[.slice none 0 0, .slice none 0 0]
  have O1 := ((On.refl w).alloc (.cells #[.slice none 0 0, .slice none 0 0] 69)).alloc (.cells #[.slice none 0 0, .slice none 0 0] 69)
  have B01 := B0.alloc (.cells #[.slice none 0 0, .slice none 0 0] 69)
  have hz : (w.alloc (.cells #[.slice none 0 0, .slice none 0 0] 69)).heap.size = w.heap.size + 1 := by simp
  rw [hz] at B1
  generalize (w.alloc (.cells #[.slice none 0 0, .slice none 0 0] 69)).alloc (.cells #[.slice none 0 0, .slice none 0 0] 69) = w1 at *
  clear hz B0
  generalize hA : w.heap.size = A at *
  have HA := Lib.hid hA
  clear hA
  have T0 : Two w1 (A + 1) (.slice none 0 0) (.slice none 0 0) [] [] := ⟨B1, World.ownsRow_nil _ _ _ _, World.ownsRow_nil _ _ _ _, fun k e => by simp [Value.ownBlock] at e, fun k e => by simp [Value.ownBlock] at e, fun k e => by simp [Value.ownBlock] at e⟩
  go_loopw [0, 14] (fun fv x wr => ∃ (k : Nat) (v1 v2 : Value), x = .int .i64 (k : Int) ∧ k ≤ many ∧ fv = .int .i64 ((f + (((l.take k).map fun b => 2 ^ b).sum) : Nat) : Int) ∧ Two wr (A + 1) v1 v2 (base f (l.take k)) (l.take k) ∧ (∀ g, v1.ownBlock = some g → A < g) ∧ (∀ g, v2.ownBlock = some g → A < g) ∧ On w wr ∧ Blk wr A 69 #[.slice none 0 0, .slice none 0 0]) (fun _ x _ => many - (intOf x).toNat)
  case atStart => exact ⟨0, .slice none 0 0, .slice none 0 0, rfl, by omega, rfl, T0, fun k e => by simp [Value.ownBlock] at e, fun k e => by simp [Value.ownBlock] at e, O1, B01⟩
  case round =>
    obtain ⟨k, v1, v2, rfl, hk, rfl, T, hv1, hv2, O, BA⟩ := hrel
    by_cases hlt : k < many
    · have hkl : k < l.length := by rw [HL.out]; exact hlt
      have hsum := sum_take_le l H13.out k
      have hst := sum_take_succ l hkl
      have hbt := base_take l f hkl
      have hlt2 := take_succ_getD l hkl
      have hlen : (base f (l.take k)).length = k := by rw [base_length, List.length_take]; omega
      have hlen2 : (l.take k).length = k := by rw [List.length_take]; omega
      have hb13 := getD_le H13.out k
      have hpw := pow_le hb13
      have hgg := HG.out k hlt
      obtain ⟨P, hP⟩ : ∃ P, 2 ^ l.getD k 0 = P := ⟨_, rfl⟩
      have hPi : (2 : Int) ^ l.getD k 0 = (P : Int) := by rw [← hP]; simp
      rw [hP] at hst hpw
      generalize hbv : l.getD k 0 = b at *
      generalize hs : ((l.take k).map fun b => 2 ^ b).sum = s at *
      have hfs : f + (s + P) = f + s + P := by omega
      have hfs2 : f + s ≤ 9000000 := by omega
      generalize hfv : f + s = fs at *
      have HFS := Lib.hid hfs
      have HST := Lib.hid hst
      have HBT := Lib.hid hbt
      have HLT := Lib.hid hlt2
      have HLEN := Lib.hid hlen
      have HLEN2 := Lib.hid hlen2
      have HFV := Lib.hid hfv
      have HP := Lib.hid hP
      clear hst hbt hlt2 hlen hlen2 hP hbv hs hfs hfv
      generalize base f (l.take k) = bk at *
      generalize l.take k = tk at *
      have c0 : wr.cell? ⟨A + 1, 0, none⟩ = some v1 := (T.b.cell 0).trans rfl
      have fr : ∀ i, wr.frozen? ⟨A + 1, i, none⟩ = false := T.b.frozen
      have hb64 : (b : Int) < 64 := by omega
      have hl1 : bk.length ≤ 1000000 := by rw [HLEN.out]; omega
      have hl2 : tk.length ≤ 1000000 := by rw [HLEN2.out]; omega
      by_cases hkp : k < plain
      · rw [if_pos hkp] at hgg
        subst hgg
        have hkp' : ¬ (plain : Int) ≤ k := by omega
        go_upto_region 9 with (at_builtin; go_must (refine wpList_app_at (us := #[.int .i64 (fs : Int)]) rfl _ _ 58 rfl i0 (.int .i64 0) 8 1 Tryd.underlying58 hi hz0 hz1 hz2 rfl (by decide) rfl v1 _ _ rfl T.o1 rfl (by simp [Value.oneCell']) (by unfold maxLen; omega) (by omega) ?_); intro v1' w2 hown1 hgr1 hne1 hat1; obtain ⟨r1, q1, rfl⟩ := own_slice hown1 hne1; have T1 := T.first hown1 hgr1 hat1; have O2 := ((O.grown hgr1 (fun g e => Nat.le_of_lt (by rw [HA.out]; exact hv1 g e))).set (p := ⟨A + 1, 0, none⟩) (by rw [HA.out]; exact Nat.le_succ _) (.slice (some ⟨r1, 0, none⟩) (bk.length + 1) q1)); have e0 : w2.cell? ⟨A + 1, 0, none⟩ = some v1 := ((T.b.grown hgr1 (fun e => T.d1 _ e.symm rfl)).cell 0).trans rfl; have e1 : w2.cell? ⟨A + 1, 1, none⟩ = some v2 := ((T.b.grown hgr1 (fun e => T.d1 _ e.symm rfl)).cell 1).trans rfl; have ef : ∀ i, w2.frozen? ⟨A + 1, i, none⟩ = false := (T.b.grown hgr1 (fun e => T.d1 _ e.symm rfl)).frozen)
        go_wp2_with (at_builtin; go_must (refine wpList_app_at (us := #[.int .i64 0]) rfl _ _ 58 rfl i0 (.int .i64 0) 8 1 Tryd.underlying58 hi hz0 hz1 hz2 rfl (by decide) rfl v2 _ _ rfl T1.o2 (by show Value.slice _ _ _ = _; simp [World.setCell]) (by simp [Value.oneCell']) (by unfold maxLen; omega) (by omega) ?_); intro v2' w3 hown2 hgr2 hne2 hat2; obtain ⟨r2, q2, rfl⟩ := own_slice hown2 hne2; have T2 := T1.second (x := 0) hown2 hgr2 hat2; have O3 := ((O2.grown hgr2 (fun g e => Nat.le_of_lt (by rw [HA.out]; exact hv2 g e))).set (p := ⟨A + 1, 1, none⟩) (by rw [HA.out]; exact Nat.le_succ _) (.slice (some ⟨r2, 0, none⟩) (tk.length + 1) q2)); have g1 : w3.cell? ⟨A + 1, 1, none⟩ = some v2 := ((T1.b.grown hgr2 (fun e => T1.d2 _ e.symm rfl)).cell 1).trans rfl; have gf : ∀ i, w3.frozen? ⟨A + 1, i, none⟩ = false := (T1.b.grown hgr2 (fun e => T1.d2 _ e.symm rfl)).frozen)
        rw [← HBT.out, ← HLT.out] at T2
        have hs1 : ∀ g, (Value.slice (some ⟨r1, 0, none⟩) (bk.length + 1) q1).ownBlock = some g → A < g := fun g e => by
          rcases hat1 g e with a | a
          · exact hv1 g a
          · have := T.b.lt; omega
        have hs2 : ∀ g, (Value.slice (some ⟨r2, 0, none⟩) (tk.length + 1) q2).ownBlock = some g → A < g := fun g e => by
          rcases hat2 g e with a | a
          · exact hv2 g a
          · have := T1.b.lt; omega
        have BA2 : Blk ((w3.setCell ⟨A + 1, 1, none⟩ (.slice (some ⟨r2, 0, none⟩) (tk.length + 1) q2))) A 69 #[.slice none 0 0, .slice none 0 0] :=
          (((((BA.grown hgr1 (fun e => by have := hv1 A e.symm; omega)).far (p := ⟨A + 1, 0, none⟩) (by simp) _)).grown hgr2 (fun e => by have := hv2 A e.symm; omega)).far (p := ⟨A + 1, 1, none⟩) (by simp) _)
        exact ⟨⟨k + 1, _, _, by go_num, by omega, by rw [HST.out, HFS.out]; go_num, T2, hs1, hs2, O3, BA2⟩, by simp [intOf]; omega⟩
      · rw [if_neg hkp] at hgg
        obtain ⟨d, hd⟩ : ∃ d, (k - plain) / each = d := ⟨_, rfl⟩
        rw [hd] at hgg
        subst hgg
        have hkp' : (plain : Int) ≤ k := by omega
        have hd1 : ((k : Int) - (plain : Int)) / (each : Int) = (d : Int) := by
          rw [← hd, show (k : Int) - (plain : Int) = ((k - plain : Nat) : Int) from by omega]; simp
        have hd2 : (d : Int) ≤ 13 := by omega
        have hb1 : ((d + 1 : Nat) : Int) = (d : Int) + 1 := by omega
        have HD := Lib.hid hd
        clear hd
        go_upto_region 9 with (at_builtin; go_must (refine wpList_app_at (us := #[.int .i64 (fs : Int)]) rfl _ _ 58 rfl i0 (.int .i64 0) 8 1 Tryd.underlying58 hi hz0 hz1 hz2 rfl (by decide) rfl v1 _ _ rfl T.o1 rfl (by simp [Value.oneCell']) (by unfold maxLen; omega) (by omega) ?_); intro v1' w2 hown1 hgr1 hne1 hat1; obtain ⟨r1, q1, rfl⟩ := own_slice hown1 hne1; have T1 := T.first hown1 hgr1 hat1; have O2 := ((O.grown hgr1 (fun g e => Nat.le_of_lt (by rw [HA.out]; exact hv1 g e))).set (p := ⟨A + 1, 0, none⟩) (by rw [HA.out]; exact Nat.le_succ _) (.slice (some ⟨r1, 0, none⟩) (bk.length + 1) q1)); have e0 : w2.cell? ⟨A + 1, 0, none⟩ = some v1 := ((T.b.grown hgr1 (fun e => T.d1 _ e.symm rfl)).cell 0).trans rfl; have e1 : w2.cell? ⟨A + 1, 1, none⟩ = some v2 := ((T.b.grown hgr1 (fun e => T.d1 _ e.symm rfl)).cell 1).trans rfl; have ef : ∀ i, w2.frozen? ⟨A + 1, i, none⟩ = false := (T.b.grown hgr1 (fun e => T.d1 _ e.symm rfl)).frozen)
        go_wp2_with (at_builtin; go_must (refine wpList_app_at (us := #[.int .i64 ((d + 1 : Nat) : Int)]) rfl _ _ 58 rfl i0 (.int .i64 0) 8 1 Tryd.underlying58 hi hz0 hz1 hz2 rfl (by decide) rfl v2 _ _ rfl T1.o2 (by show Value.slice _ _ _ = _; simp [World.setCell]) (by simp [Value.oneCell']) (by unfold maxLen; omega) (by omega) ?_); intro v2' w3 hown2 hgr2 hne2 hat2; obtain ⟨r2, q2, rfl⟩ := own_slice hown2 hne2; have T2 := T1.second (x := d + 1) hown2 hgr2 hat2; have O3 := ((O2.grown hgr2 (fun g e => Nat.le_of_lt (by rw [HA.out]; exact hv2 g e))).set (p := ⟨A + 1, 1, none⟩) (by rw [HA.out]; exact Nat.le_succ _) (.slice (some ⟨r2, 0, none⟩) (tk.length + 1) q2)); have g1 : w3.cell? ⟨A + 1, 1, none⟩ = some v2 := ((T1.b.grown hgr2 (fun e => T1.d2 _ e.symm rfl)).cell 1).trans rfl; have gf : ∀ i, w3.frozen? ⟨A + 1, i, none⟩ = false := (T1.b.grown hgr2 (fun e => T1.d2 _ e.symm rfl)).frozen)
        rw [← HBT.out, ← HLT.out] at T2
        have hs1 : ∀ g, (Value.slice (some ⟨r1, 0, none⟩) (bk.length + 1) q1).ownBlock = some g → A < g := fun g e => by
          rcases hat1 g e with a | a
          · exact hv1 g a
          · have := T.b.lt; omega
        have hs2 : ∀ g, (Value.slice (some ⟨r2, 0, none⟩) (tk.length + 1) q2).ownBlock = some g → A < g := fun g e => by
          rcases hat2 g e with a | a
          · exact hv2 g a
          · have := T1.b.lt; omega
        have BA2 : Blk ((w3.setCell ⟨A + 1, 1, none⟩ (.slice (some ⟨r2, 0, none⟩) (tk.length + 1) q2))) A 69 #[.slice none 0 0, .slice none 0 0] :=
          (((((BA.grown hgr1 (fun e => by have := hv1 A e.symm; omega)).far (p := ⟨A + 1, 0, none⟩) (by simp) _)).grown hgr2 (fun e => by have := hv2 A e.symm; omega)).far (p := ⟨A + 1, 1, none⟩) (by simp) _)
        exact ⟨⟨k + 1, _, _, by go_num, by omega, by rw [HST.out, HFS.out]; go_num, T2, hs1, hs2, O3, BA2⟩, by simp [intOf]; omega⟩
    · obtain rfl : k = many := by omega
      have htk : l.take k = l := List.take_of_length_le (by rw [HL.out]; exact Nat.le_refl _)
      rw [htk] at T
      have hne : l ≠ [] := by intro e; have := HL.out; rw [e] at this; simp at this; omega
      have hne2 : base f l ≠ [] := by intro e; have := base_length l f; rw [e] at this; simp at this; exact hne (List.length_eq_zero_iff.1 this.symm)
      obtain ⟨r1, q1, r2, q2, rfl, rfl, R1, R2, h1, h2⟩ := two_rows T hne2 hne
      have hbl := base_length l f
      rw [HL.out] at hbl h2
      rw [hbl] at h1
      have c0 : wr.cell? ⟨A + 1, 0, none⟩ = some (.slice (some ⟨r1, 0, none⟩) k q1) := by rw [← hbl]; exact (T.b.cell 0).trans rfl
      have c1 : wr.cell? ⟨A + 1, 1, none⟩ = some (.slice (some ⟨r2, 0, none⟩) k q2) := by rw [← HL.out]; exact (T.b.cell 1).trans rfl
      have a0 : wr.cell? ⟨A, 0, none⟩ = some (.slice none 0 0) := (BA.cell 0).trans rfl
      have a1 : wr.cell? ⟨A, 1, none⟩ = some (.slice none 0 0) := (BA.cell 1).trans rfl
      have af : ∀ i, wr.frozen? ⟨A, i, none⟩ = false := BA.frozen
      clear hbl htk
      go_wp2_with fail
      have BF := (BA.set 0 (.slice (some ⟨r1, 0, none⟩) k q1)).set 1 (.slice (some ⟨r2, 0, none⟩) k q2)
      have KF := ((Kp.refl [A] wr).set (p := ⟨A, 0, none⟩) (.inl (by simp)) (.slice (some ⟨r1, 0, none⟩) k q1)).set (p := ⟨A, 1, none⟩) (.inl (by simp)) (.slice (some ⟨r2, 0, none⟩) k q2)
      have hr1 : r1 ≠ A := by have := hv1 r1 rfl; omega
      have hr2 : r2 ≠ A := by have := hv2 r2 rfl; omega
      exact bodyPost_ret (v := .agg #[.slice (some ⟨r1, 0, none⟩) k q1, .slice (some ⟨r2, 0, none⟩) k q2]) (by exact res_c (fn := Tryd.f96) (p := 8) rfl BF rfl Tryd.underlying69 rfl (by kernel_rfl)) rfl
        ⟨r1, q1, r2, q2, rfl, R1.kp KF (by simpa using hr1), R2.kp KF (by simpa using hr2), h1, h2, by rw [HA.out]; exact Nat.le_of_lt (hv1 r1 rfl), by rw [HA.out]; exact Nat.le_of_lt (hv2 r2 rfl), KF.on O (fun x hx => by simp at hx; rw [hx, HA.out]; exact Nat.le_refl _)⟩
set_option maxRecDepth 100000 in
theorem longs_calls (w : World) : Calls Tryd.prog 61 #[] w (GivesL w longBits 28 3) := by
  have h := fun w => ladder_calls 3 28 8 4 w (by omega) (by omega) (by omega) (by omega) (by omega) (by omega) (by rw [bitsL_long]; decide)
  rw [bitsL_long] at h
  have H := Lib.hid h
  clear h
  go_enter Tryd.func61, Tryd.ntmps61
  go_wp2_with fail
  have O0 := (On.refl w).alloc (.cells #[.slice none 0 0, .slice none 0 0] 69)
  have B0 := Blk.new w 69 #[.slice none 0 0, .slice none 0 0]
  generalize w.alloc (.cells #[.slice none 0 0, .slice none 0 0] 69) = w1 at *
  generalize hA : w.heap.size = A at *
  have HA := Lib.hid hA
  clear hA
  refine (H.out w1).mono ?_
  rintro e w2 ⟨r1, q1, r2, q2, rfl, R1, R2, h1, h2, f1, f2, O2⟩
  have BA := O2.blk B0
  have a0 : w2.cell? ⟨A, 0, none⟩ = some (.slice none 0 0) := (BA.cell 0).trans rfl
  have a1 : w2.cell? ⟨A, 1, none⟩ = some (.slice none 0 0) := (BA.cell 1).trans rfl
  have af : ∀ i, w2.frozen? ⟨A, i, none⟩ = false := BA.frozen
  go_wp2_with fail
  have hA1 := B0.lt
  have BF := (BA.set 0 (.slice (some ⟨r1, 0, none⟩) 28 q1)).set 1 (.slice (some ⟨r2, 0, none⟩) 28 q2)
  have KF := ((Kp.refl [A] w2).set (p := ⟨A, 0, none⟩) (.inl (by simp)) (.slice (some ⟨r1, 0, none⟩) 28 q1)).set (p := ⟨A, 1, none⟩) (.inl (by simp)) (.slice (some ⟨r2, 0, none⟩) 28 q2)
  exact bodyPost_ret (v := .agg #[.slice (some ⟨r1, 0, none⟩) 28 q1, .slice (some ⟨r2, 0, none⟩) 28 q2]) (by exact res_c (fn := Tryd.f61) (p := 0) rfl BF rfl Tryd.underlying69 rfl (by kernel_rfl)) rfl
    ⟨r1, q1, r2, q2, rfl, R1.kp KF (by simp; omega), R2.kp KF (by simp; omega), h1, h2, by rw [HA.out]; omega, by rw [HA.out]; omega, KF.on (O0.call O2) (fun x hx => by simp at hx; rw [hx, HA.out]; exact Nat.le_refl _)⟩
set_option maxRecDepth 100000 in
theorem backs_calls (w : World) : Calls Tryd.prog 63 #[] w (GivesL w backBits 30 1) := by
  have h := fun w => ladder_calls 1 30 4 2 w (by omega) (by omega) (by omega) (by omega) (by omega) (by omega) (by rw [bitsL_back]; decide)
  rw [bitsL_back] at h
  have H := Lib.hid h
  clear h
  go_enter Tryd.func63, Tryd.ntmps63
  go_wp2_with fail
  have O0 := (On.refl w).alloc (.cells #[.slice none 0 0, .slice none 0 0] 69)
  have B0 := Blk.new w 69 #[.slice none 0 0, .slice none 0 0]
  generalize w.alloc (.cells #[.slice none 0 0, .slice none 0 0] 69) = w1 at *
  generalize hA : w.heap.size = A at *
  have HA := Lib.hid hA
  clear hA
  refine (H.out w1).mono ?_
  rintro e w2 ⟨r1, q1, r2, q2, rfl, R1, R2, h1, h2, f1, f2, O2⟩
  have BA := O2.blk B0
  have a0 : w2.cell? ⟨A, 0, none⟩ = some (.slice none 0 0) := (BA.cell 0).trans rfl
  have a1 : w2.cell? ⟨A, 1, none⟩ = some (.slice none 0 0) := (BA.cell 1).trans rfl
  have af : ∀ i, w2.frozen? ⟨A, i, none⟩ = false := BA.frozen
  go_wp2_with fail
  have hA1 := B0.lt
  have BF := (BA.set 0 (.slice (some ⟨r1, 0, none⟩) 30 q1)).set 1 (.slice (some ⟨r2, 0, none⟩) 30 q2)
  have KF := ((Kp.refl [A] w2).set (p := ⟨A, 0, none⟩) (.inl (by simp)) (.slice (some ⟨r1, 0, none⟩) 30 q1)).set (p := ⟨A, 1, none⟩) (.inl (by simp)) (.slice (some ⟨r2, 0, none⟩) 30 q2)
  exact bodyPost_ret (v := .agg #[.slice (some ⟨r1, 0, none⟩) 30 q1, .slice (some ⟨r2, 0, none⟩) 30 q2]) (by exact res_c (fn := Tryd.f63) (p := 0) rfl BF rfl Tryd.underlying69 rfl (by kernel_rfl)) rfl
    ⟨r1, q1, r2, q2, rfl, R1.kp KF (by simp; omega), R2.kp KF (by simp; omega), h1, h2, by rw [HA.out]; omega, by rw [HA.out]; omega, KF.on (O0.call O2) (fun x hx => by simp at hx; rw [hx, HA.out]; exact Nat.le_refl _)⟩
end Go.Proofs.YtncidljdfipigaaDoor.Wi

/- The program's reader takes a part that is packed by both codes. Conditions: a reader, a row of bytes, rows of lengths. -/
namespace Go.Proofs.YtncidljdfipigaaDoor.Wi
open Go.RowKit Go.Proofs.YtncidljdfipigaaDoor.Mem Go.Proofs.YtncidljdfipigaaDoor.Bt Go.Proofs.YtncidljdfipigaaDoor.Cd Go.Proofs.YtncidljdfipigaaDoor.De Go.Proofs.YtncidljdfipigaaDoor.En
open Go.Proofs.YtncidljdfipigaaDoor.Lz (copy)
set_option linter.unusedVariables false
set_option linter.unusedSimpArgs false
theorem lad_fst (x y : Value) (w : World) : (Instr.field 69 (.agg #[x, y]) 0).run Tryd.prog w = .ok x w := by kernel_rfl
theorem lad_snd (x y : Value) (w : World) : (Instr.field 69 (.agg #[x, y]) 1).run Tryd.prog w = .ok y w := by kernel_rfl
/-- Where the loop stands: what remains to be read. -/
structure Still (lit dist l0 : List Nat) (s : ByteArray) (p : Nat) (b0 : Bool) (l : List Nat) (q : Nat) (bb : Bool) : Prop where mk ::
  out : ∃ D : Dec (List Nat), (∀ l' p' b', AnsO D s q bb l' p' b' → AnsO (packed lit dist 302 l0) s p b0 l' p' b') ∧ l.length ≤ 400 ∧ ((l.length ≤ 300 ∧ ∃ f, 302 ≤ f + l.length ∧ D = packed lit dist f l) ∨ (300 < l.length ∧ D = De.bad))
section
variable {lit dist l0 l : List Nat} {s : ByteArray} {p q : Nat} {b0 bb : Bool}
theorem Still.start (h : l0.length ≤ 300) : Still lit dist l0 s p b0 l0 p b0 := ⟨_, fun _ _ _ h => h, by omega, .inl ⟨h, 302, by omega, rfl⟩⟩
theorem Still.bad (h : Still lit dist l0 s p b0 l q true) : AnsO (packed lit dist 302 l0) s p b0 l q true := by
  obtain ⟨D, h1, _⟩ := h.out
  exact h1 _ _ _ (AnsO.was _ _ _ _ _)
theorem Still.over (h : Still lit dist l0 s p b0 l q bb) (hl : 300 < l.length) (hb : bb = false) : AnsO (packed lit dist 302 l0) s p b0 l q bb := by
  obtain ⟨D, h1, h2, h3⟩ := h.out
  subst hb
  refine h1 _ _ _ ?_
  rcases h3 with ⟨h4, _⟩ | ⟨_, rfl⟩
  · omega
  · exact ⟨fun e => (by cases e), fun _ => ⟨rfl, fun h => (by omega), fun _ => rfl⟩⟩
theorem AnsO.none {d : Dec (List Nat)} {p q : Nat} {l2 : List Nat} {p2 : Nat} {b2 : Bool} {s : ByteArray} (hd : d (rest s p) = Option.none) (h : AnsO (De.bad : Dec (List Nat)) s q false l2 p2 b2) : AnsO d s p false l2 p2 b2 :=
  ⟨fun _ => .inr hd, fun e => ⟨rfl, fun hl => (by have := (h.good e).2.1 hl; cases this), fun _ => hd⟩⟩
/-- A symbol has been taken. -/
theorem Still.sym {x q1 : Nat} {b1 : Bool} (h : Still lit dist l0 s p b0 l q bb) (hl : l.length ≤ 300) (ha : Ans (Cd.sym lit) s q bb x q1 b1) :
    ∃ f, 301 ≤ f + l.length ∧ ∀ l' p' b', AnsO (if x = 256 then ret l else if x < 256 then (if l.length < 300 then packed lit dist f (l ++ [x]) else De.bad) else next (again dist l (x - 257)) fun o => packed lit dist f o) s q1 b1 l' p' b' → AnsO (packed lit dist 302 l0) s p b0 l' p' b' := by
  obtain ⟨D, h1, h2, h3⟩ := h.out
  rcases h3 with ⟨_, f, hf, rfl⟩ | ⟨h4, _⟩
  · obtain ⟨f, rfl⟩ : ∃ g, f = g + 1 := ⟨f - 1, by omega⟩
    exact ⟨f, by omega, fun l' p' b' h5 => h1 _ _ _ (AnsO.next ha h5)⟩
  · omega
end
set_option maxRecDepth 100000 in
set_option maxHeartbeats 2000000 in
theorem rpacked_calls (g r cap n gl ol nl cl gd od nd cd : Nat) (s : ByteArray) (p : Nat) (l lit dist : List Nat) (w : World) (hw : IR w g s p false) (hb : By w r cap l) (hn : l.length = n) (hn2 : n ≤ 300) (hgr : g ≠ r)
    (hl : RowO w gl ol 3 (i64s lit)) (hd : RowO w gd od 3 (i64s dist)) (hnl : lit.length = nl) (hnd : dist.length = nd) (hnlc : nl ≤ cl) (hndc : nd ≤ cd)
    (hl15 : ∀ x ∈ lit, x ≤ 100000) (hd15 : ∀ x ∈ dist, x ≤ 100000) (hlen : nl ≤ 288) (hlen2 : nd ≤ 300) (fl : gl ≠ g ∧ gl ≠ r) (fd : gd ≠ g ∧ gd ≠ r) (hokl : okLens lit = true) (hokd : okLens dist = true) :
    Calls Tryd.prog 55 #[.pointer (some ⟨g, 0, none⟩), .slice (some ⟨r, 0, none⟩) n cap, .slice (some ⟨gl, ol, none⟩) nl cl, .slice (some ⟨gd, od, none⟩) nd cd] w fun e w' => ∃ v, e = .returned v ∧ Out (packed lit dist 302 l) s p false g r w v w' := by
  have HN := Lib.hid hn
  have HNL := Lib.hid hnl
  have HND := Lib.hid hnd
  have HFL := Lib.hid fl
  have HFD := Lib.hid fd
  have HOL := Lib.hid hokl
  have HOD := Lib.hid hokd
  have HXL := Lib.hid hl15
  have HXD := Lib.hid hd15
  have c2 := (hw.out.cell 2).trans rfl
  have hgl := hw.out.lt
  have hrl := hb.lt
  clear hn hnl hnd fl fd hokl hokd hl15 hd15
  go_enter Tryd.func55, Tryd.ntmps55
  go_wp2_with fail
  refine (lensok_calls lit gl ol nl cl w hl HNL.out (by omega) hnlc HXL.out).mono ?_
  rintro e w1 ⟨rfl, O1⟩
  rw [HOL.out]
  go_wp2_with fail
  refine (lensok_calls dist gd od nd cd w1 (hd.on O1) HND.out (by omega) hndc HXD.out).mono ?_
  rintro e w2 ⟨rfl, O2⟩
  rw [HOD.out]
  have O12 := O1.call O2
  go_wp2_with fail
  refine (book_calls lit gl ol nl cl w2 (hl.on O12) HNL.out (by omega) hnlc (ok_le HOL.out) (ok_fits HOL.out)).mono ?_
  rintro e w3 ⟨ma, rfl, Ba, hma, O3⟩
  have O13 := O12.call O3
  go_wp2_with fail
  refine (book_calls dist gd od nd cd w3 (hd.on O13) HND.out (by omega) hndc (ok_le HOD.out) (ok_fits HOD.out)).mono ?_
  rintro e w4 ⟨mb, rfl, Bb, hmb, O4⟩
  have O14 := O13.call O4
  have Ba4 := Ba.kp (Kp.of [] O4) (by simp)
  have hw4 := hw.on O14
  have hb4 := hb.on O14
  have hz3 := O13.size
  have hz2 := O12.size
  have fma : RowKit.Hid (ma ≠ g ∧ ma ≠ r) := Lib.hid ⟨by omega, by omega⟩
  have fmb : RowKit.Hid (mb ≠ g ∧ mb ≠ r) := Lib.hid ⟨by omega, by omega⟩
  clear c2
  go_wp2_with fail
  go_loopw [1] (fun o wr => ∃ (q : Nat) (bb : Bool) (r' cap' : Nat) (l' : List Nat), o = .slice (some ⟨r', 0, none⟩) l'.length cap' ∧ IR wr g s q bb ∧ By wr r' cap' l' ∧ Kp [g, r] w4 wr ∧ (r' = r ∨ w4.heap.size ≤ r') ∧ g ≠ r' ∧ Still lit dist l s p false l' q bb) (fun o _ => match o with | .slice _ m _ => 1000 - m | _ => 0)
  case atStart => exact ⟨p, false, r, cap, l, by rw [HN.out], hw4, hb4, Kp.refl _ _, .inl rfl, hgr, Still.start (by rw [HN.out]; exact hn2)⟩
  case round =>
    obtain ⟨q, bb, r', cap', l', rfl, hr, hB, K, hr', hgr', S⟩ := hrel
    have c2 := (hr.out.cell 2).trans rfl
    cases bb with
    | true =>
      go_wp2_with fail
      go_ret
      refine ⟨_, rfl, ⟨q, true, r', cap', l', hr, (Kp.of _ O14).then K, by have := O14.size; omega, S.bad, fun e => by cases e⟩⟩
    | false =>
    by_cases h3 : 300 < l'.length
    · have h3' : decide ((l'.length : Int) ≤ 300) = false := by simp; omega
      go_wp2_with fail
      go_ret
      refine ⟨_, rfl, ⟨q, false, r', cap', l', hr, (Kp.of _ O14).then K, by have := O14.size; omega, S.over h3 rfl, fun _ => ⟨rfl, hB, ?_⟩⟩⟩
      obtain ⟨_, _, h4, _⟩ := S.out
      omega
    have h3' : (l'.length : Int) ≤ 300 := by omega
    have hgS0 := hr.out.lt
    go_wp2_with fail
    refine (rsym_calls lit ma g nl s q false wr hr (Ba4.kp K (by simp; exact fma.out)) HNL.out fma.out.1).mono ?_
    rintro e w5 ⟨x, q1, b1, rfl, hr5, A5, hx5, K5⟩
    have K45 := K.then (K5.mono (fun y hy => .inl (by simp at hy ⊢; exact .inl hy)))
    obtain ⟨f, hf, HS⟩ := S.sym (by omega) A5
    have hB5 := hB.kp K5 (by simpa using Ne.symm hgr')
    have d2 := (hr5.out.cell 2).trans rfl
    have hr5w : r' = r ∨ w.heap.size ≤ r' := by have := O14.size; omega
    cases b1 with
    | true =>
      go_wp2_with fail
      go_ret
      refine ⟨_, rfl, ⟨q1, true, r', cap', l', hr5, (Kp.of _ O14).then K45, hr5w, HS _ _ _ (AnsO.was _ _ _ _ _), fun e => by cases e⟩⟩
    | false =>
    have HHS := Lib.hid HS
    clear HS
    by_cases h256 : x = 256
    · subst h256
      go_wp2_with fail
      go_ret
      refine ⟨_, rfl, ⟨q1, false, r', cap', l', hr5, (Kp.of _ O14).then K45, hr5w, HHS.out _ _ _ ?_, fun _ => ⟨rfl, hB5, by omega⟩⟩⟩
      first | rw [if_pos rfl] | rw [if_pos trivial]
      exact ⟨fun e => (by cases e), fun _ => ⟨rfl, fun _ => rfl, fun h => absurd h h3⟩⟩
    have h256' : ((x : Int) == 256) = false := by simp; omega
    by_cases hlt : x < 256
    · have hlt' : (x : Int) < 256 := by omega
      have hu8 : IntKind.u8.wrap (x : Int) = (x : Int) := wr_u8 _ (by omega) (by omega)
      go_wp2_with (at_builtin; go_must (refine wpList_byte (x := x) rfl _ _ rfl rfl hB5.out rfl (by omega) ?_); intro r6 cap6 w6 hby6 hr6 hrl6 K6 hc1 hc2)
      have hz5 := K45.size
      have hg6 : g ≠ r6 := by have := hr5.out.lt; rcases hr6 with e | e <;> omega
      refine ⟨⟨q1, false, r6, cap6, l' ++ [x], by rw [List.length_append]; rfl, hr5.kp K6 (by simpa using hgr'), ⟨by rw [List.length_append]; exact hby6⟩, K45.trans K6 (fun y hy => ?_), by omega, hg6, ⟨if l'.length < 300 then packed lit dist f (l' ++ [x]) else De.bad, fun l2 p2 b2 h => HHS.out l2 p2 b2 ?_, by rw [List.length_append]; simp; omega, ?_⟩⟩, by simp; omega⟩
      · simp at hy ⊢; omega
      · rw [if_neg h256, if_pos hlt]; exact h
      · by_cases h300 : l'.length < 300
        · rw [if_pos h300]; exact .inl ⟨by rw [List.length_append]; simp; omega, f, by rw [List.length_append]; simp; omega, rfl⟩
        · rw [if_neg h300]; exact .inr ⟨by rw [List.length_append]; simp; omega, rfl⟩
    have hge : 257 ≤ x := by omega
    have hlt' : ¬ (x : Int) < 256 := by omega
    obtain ⟨k, hk⟩ : ∃ k, x = 257 + k := ⟨x - 257, by omega⟩
    have ek : IntKind.i64.wrap ((x : Int) - 257) = (k : Int) := by rw [IntKind.wrap_i64]; omega
    have HK := Lib.hid hk
    clear hk
    by_cases hk28 : 28 ≤ k
    · have hk28' : (28 : Int) ≤ k := by omega
      have fr : ∀ i, w5.frozen? ⟨g, i, none⟩ = false := hr5.out.frozen
      go_wp2_with fail
      go_ret
      refine ⟨_, rfl, ⟨q1, true, r', cap', l', ⟨hr5.out.set 2 (.bool true), hr5.le, hr5.sz⟩, (Kp.of _ O14).then (K45.set (.inl (by simp)) _), hr5w, HHS.out _ _ _ ?_, fun e => by cases e⟩⟩
      rw [if_neg h256, if_neg hlt, show x - 257 = k from by have := HK.out; omega]
      refine ⟨fun _ => .inr (next_none ?_), fun e => by cases e⟩
      unfold again
      rw [if_pos hk28]; rfl
    have hk28' : ¬ (28 : Int) ≤ k := by omega
    have hk0 : (k : Int) < 28 := by omega
    have hcL := fun W r3 (R : RowO W r3 0 3 (i64s longBase)) => R.cell (i64s_get (show k < longBase.length from by rw [show longBase.length = 28 from rfl]; omega))
    have hcLb := fun W r3 (R : RowO W r3 0 3 (i64s longBits)) => R.cell (i64s_get (show k < longBits.length from by rw [show longBits.length = 28 from rfl]; omega))
    simp only [Nat.zero_add] at hcL hcLb
    have hyl : longBits.getD k 0 ≤ 5 := by
      have : ∀ k, k < 28 → longBits.getD k 0 ≤ 5 := by decide
      exact this k (by omega)
    have hxl : longBase.getD k 0 ≤ 300 ∧ 3 ≤ longBase.getD k 0 := by
      have : ∀ k, k < 28 → longBase.getD k 0 ≤ 300 ∧ 3 ≤ longBase.getD k 0 := by decide
      exact this k (by omega)
    obtain ⟨xl, hxl0⟩ : ∃ xl, longBase.getD k 0 = xl := ⟨_, rfl⟩
    obtain ⟨yl, hyl0⟩ : ∃ yl, longBits.getD k 0 = yl := ⟨_, rfl⟩
    rw [hxl0] at hcL hxl
    rw [hyl0] at hcLb hyl
    have HXL0 := Lib.hid hxl0
    have HYL0 := Lib.hid hyl0
    have HCL := Lib.hid hcL
    have HCLB := Lib.hid hcLb
    have hga := fun W h => get_calls g yl s q1 false W h (by omega)
    have hv1 := numAt_lt s q1 yl
    have hp5 : 2 ^ yl ≤ 2 ^ 5 := Nat.pow_le_pow_right (by omega) hyl
    have HGA := Lib.hid hga
    have HR5 := Lib.hid hr5
    have hgS := hr5.out.lt
    clear hxl0 hyl0 hcL hcLb hga
    generalize hnv : numAt s q1 yl = nv at *
    have HNV := Lib.hid hnv
    obtain ⟨Lx, hLx⟩ : ∃ Lx, xl + nv = Lx := ⟨_, rfl⟩
    have ea : IntKind.i64.wrap ((xl : Int) + (nv : Int)) = (Lx : Int) := by rw [IntKind.wrap_i64]; omega
    have HLX := Lib.hid hLx
    clear hnv hLx
    have ff1 := lad_fst
    have ff2 := lad_snd
    go_upto_region 14 with fail
    go_cut [12] (fun s12 wx => ∃ (tb q2 : Nat) (b2 : Bool), s12 = .pointer (some ⟨tb, 0, none⟩) ∧ w5.heap.size ≤ tb ∧ Blk wx tb 67 #[.int .i64 0, .int .i64 (Lx : Int), .int .i64 0] ∧ q2 = min (q1 + yl) (8 * s.size) ∧ b2 = (false || decide (8 * s.size < q1 + yl)) ∧ IR wx g s q2 b2 ∧ Kp [g] w5 wx)
    case first =>
        refine wp_region_held_drew (S := fun W => Kp [g] w5 W) (by kernel_rfl) (Kp.refl _ _).drew (fun hHeld => ?_)
        have Ow0 := (On.refl w5).drew
        refine wpAnyH_take (i := 2) (oi := _) (v := ?_) rfl (by kernel_rfl) (by kernel_rfl) (by kernel_rfl) (fun _ _ _ h => h) (Or.inl ⟨by rfl, ?_⟩) (by assumption) ?_
        rotate_left
        · intro w hSw
          go_simp
          first | done | with_reducible rfl
        try simp only [Act.put, List.setIfInBounds_toArray, List.set_cons_zero, List.set_cons_succ]
        refine wpAnyH_take (i := 3) (oi := _) (v := ?_) rfl (by kernel_rfl) (by kernel_rfl) (by kernel_rfl) (fun _ _ _ h => h) (Or.inl ⟨by rfl, ?_⟩) (by assumption) ?_
        rotate_left
        · intro w hSw
          go_simp
          first | done | with_reducible rfl
        try simp only [Act.put, List.setIfInBounds_toArray, List.set_cons_zero, List.set_cons_succ]
        refine wpAnyH_take (i := 6) (oi := _) (v := ?_) rfl (by kernel_rfl) (by kernel_rfl) (by kernel_rfl) (fun _ _ _ h => h) (Or.inl ⟨by rfl, ?_⟩) (by assumption) ?_
        rotate_left
        · intro w hSw
          go_simp
          first | done | with_reducible rfl
        try simp only [Act.put, List.setIfInBounds_toArray, List.set_cons_zero, List.set_cons_succ]
        refine wpAnyH_take (i := 9) (oi := _) (v := ?_) rfl (by kernel_rfl) (by kernel_rfl) (by kernel_rfl) (fun _ _ _ h => h) (Or.inl ⟨by rfl, ?_⟩) (by assumption) ?_
        rotate_left
        · intro w hSw
          go_simp
          first | done | with_reducible rfl
        try simp only [Act.put, List.setIfInBounds_toArray, List.set_cons_zero, List.set_cons_succ]
        refine wpAnyH_take (i := 10) (oi := _) (v := ?_) rfl (by kernel_rfl) (by kernel_rfl) (by kernel_rfl) (fun _ _ _ h => h) (Or.inl ⟨by rfl, ?_⟩) (by assumption) ?_
        rotate_left
        · intro w hSw
          go_simp
          first | done | with_reducible rfl
        try simp only [Act.put, List.setIfInBounds_toArray, List.set_cons_zero, List.set_cons_succ]
        refine wpAnyH_strong (S' := fun W => Kp [g] w5.drew W) (fun W h => Kp.then (Kp.of [g] Ow0) h) ?_
        have hHeldN : (fun W => Kp [g] w5.drew W) w5.drew := Kp.refl _ _
        generalize w5.drew = wD at *
        refine wpAnyH_ready (rs := [0, 16]) (by kernel_rfl) (by simp) ?_
        refine AllReadyH.cons (o := _) rfl (fun K hK => ?_) (AllReadyH.cons (o := _) rfl (fun K hK => ?_) AllReadyH.nil)
        · go_simp
          refine (longs_calls _).mono ?_
          rintro e wA ⟨rA1, qA1, rA2, qA2, rfl, RA1, RA2, hA1, hA2, fA1, fA2, OA⟩
          have CA : ∀ W, Kp [g] wA W → W.cell? ⟨rA1, k, none⟩ = some (.int .i64 (xl : Int)) := fun W h => (h.cell RA1.lt (show rA1 ∉ [g] by simp; have := hgS; have := Ow0.size; omega)).trans (HCL.out wA rA1 RA1)
          have OwA := Ow0.call OA
          refine hK.out _ _ (Kp.of [g] OA) (fun hHeld => ?_)
          clear hK K
          try simp only [Act.put, List.setIfInBounds_toArray, List.set_cons_zero, List.set_cons_succ]
          refine wpAnyH_strong (S' := fun W => Kp [g] wA W) (fun W h => Kp.then (Kp.of [g] OA) h) ?_
          have hHeldN : (fun W => Kp [g] wA W) wA := Kp.refl _ _
          refine wpAnyH_take (i := 1) (oi := _) (v := ?_) rfl (by kernel_rfl) (by kernel_rfl) (by kernel_rfl) (fun _ _ _ h => h) (Or.inl ⟨by rfl, ?_⟩) (by assumption) ?_
          rotate_left
          · intro w hSw
            go_simp
            first | done | with_reducible rfl
          try simp only [Act.put, List.setIfInBounds_toArray, List.set_cons_zero, List.set_cons_succ]
          refine wpAnyH_take (i := 4) (oi := _) (v := ?_) rfl (by kernel_rfl) (by kernel_rfl) (by kernel_rfl) (fun _ _ _ h => h) (Or.inl ⟨by rfl, ?_⟩) (by assumption) ?_
          rotate_left
          · intro w hSw
            go_simp
            first | done | with_reducible rfl
          try simp only [Act.put, List.setIfInBounds_toArray, List.set_cons_zero, List.set_cons_succ]
          refine wpAnyH_take (i := 5) (oi := _) (v := ?_) rfl (by kernel_rfl) (by kernel_rfl) (by kernel_rfl) (fun _ _ _ h => h) (Or.inl ⟨by rfl, ?_⟩) (by assumption) ?_
          rotate_left
          · intro w hSw
            go_simp
            first | done | with_reducible rfl
          try simp only [Act.put, List.setIfInBounds_toArray, List.set_cons_zero, List.set_cons_succ]
          refine wpAnyH_ready (rs := [7, 16]) (by kernel_rfl) (by simp) ?_
          refine AllReadyH.cons (o := _) rfl (fun K hK => ?_) (AllReadyH.cons (o := _) rfl (fun K hK => ?_) AllReadyH.nil)
          · go_simp
            refine (longs_calls _).mono ?_
            rintro e wB ⟨rB1, qB1, rB2, qB2, rfl, RB1, RB2, hB1, hB2, fB1, fB2, OB⟩
            have CB : ∀ W, Kp [g] wB W → W.cell? ⟨rB2, k, none⟩ = some (.int .i64 (yl : Int)) := fun W h => (h.cell RB2.lt (show rB2 ∉ [g] by simp; have := hgS; have := OwA.size; omega)).trans (HCLB.out wB rB2 RB2)
            have OwB := OwA.call OB
            refine hK.out _ _ (Kp.of [g] OB) (fun hHeld => ?_)
            clear hK K
            try simp only [Act.put, List.setIfInBounds_toArray, List.set_cons_zero, List.set_cons_succ]
            refine wpAnyH_strong (S' := fun W => Kp [g] wB W) (fun W h => Kp.then (Kp.of [g] OB) h) ?_
            have hHeldN : (fun W => Kp [g] wB W) wB := Kp.refl _ _
            refine wpAnyH_take (i := 8) (oi := _) (v := ?_) rfl (by kernel_rfl) (by kernel_rfl) (by kernel_rfl) (fun _ _ _ h => h) (Or.inl ⟨by rfl, ?_⟩) (by assumption) ?_
            rotate_left
            · intro w hSw
              go_simp
              first | done | with_reducible rfl
            try simp only [Act.put, List.setIfInBounds_toArray, List.set_cons_zero, List.set_cons_succ]
            refine wpAnyH_take (i := 11) (oi := _) (v := ?_) rfl (by kernel_rfl) (by kernel_rfl) (by kernel_rfl) (fun _ _ _ h => h) (Or.inl ⟨by rfl, ?_⟩) (by assumption) ?_
            rotate_left
            · intro w hSw
              go_simp
              first | done | with_reducible rfl
            try simp only [Act.put, List.setIfInBounds_toArray, List.set_cons_zero, List.set_cons_succ]
            refine wpAnyH_take (i := 12) (oi := _) (v := ?_) rfl (by kernel_rfl) (by kernel_rfl) (by kernel_rfl) (fun _ _ _ h => h) (Or.inl ⟨by rfl, ?_⟩) (by assumption) ?_
            rotate_left
            · intro w hSw
              go_simp
              first | done | with_reducible rfl
            try simp only [Act.put, List.setIfInBounds_toArray, List.set_cons_zero, List.set_cons_succ]
            refine wpAnyH_ready (rs := [13, 16]) (by kernel_rfl) (by simp) ?_
            refine AllReadyH.cons (o := _) rfl (fun K hK => ?_) (AllReadyH.cons (o := _) rfl (fun K hK => ?_) AllReadyH.nil)
            · go_simp
              refine (HGA.out _ (HR5.out.on OwB)).mono ?_
              rintro e wC ⟨rfl, hrC, KC⟩
              have KwC : Kp [g] w5 wC := (Kp.of [g] OwB).then KC
              refine hK.out _ _ (KC) (fun hHeld => ?_)
              clear hK K
              try simp only [Act.put, List.setIfInBounds_toArray, List.set_cons_zero, List.set_cons_succ]
              refine wpAnyH_strong (S' := fun W => Kp [g] wC W) (fun W h => Kp.then (KC) h) ?_
              have hHeldN : (fun W => Kp [g] wC W) wC := Kp.refl _ _
              refine wpAnyH_take (i := 14) (oi := _) (v := ?_) rfl (by kernel_rfl) (by kernel_rfl) (by kernel_rfl) (fun _ _ _ h => h) (Or.inl ⟨by rfl, ?_⟩) (by assumption) ?_
              rotate_left
              · intro w hSw
                go_simp
                first | done | with_reducible rfl
              try simp only [Act.put, List.setIfInBounds_toArray, List.set_cons_zero, List.set_cons_succ]
              refine wpAnyH_take (i := 15) (oi := _) (v := ?_) rfl (by kernel_rfl) (by kernel_rfl) (by kernel_rfl) (fun _ _ _ h => h) (Or.inl ⟨by rfl, ?_⟩) (by assumption) ?_
              rotate_left
              · intro w hSw
                go_simp
                first | done | with_reducible rfl
              try simp only [Act.put, List.setIfInBounds_toArray, List.set_cons_zero, List.set_cons_succ]
              refine wpAnyH_ready (rs := [16]) (by kernel_rfl) (by simp) ?_
              refine AllReadyH.cons (o := _) rfl (fun K hK => ?_) AllReadyH.nil
              go_simp
              have OT := (On.refl wC).alloc (.cells #[.int .i64 0, .int .i64 0, .int .i64 0] 67)
              have BT := Blk.new wC 67 #[.int .i64 0, .int .i64 0, .int .i64 0]
              obtain ⟨tb, htb⟩ : ∃ tb, tb = wC.heap.size := ⟨_, rfl⟩
              rw [← htb] at BT ⊢
              generalize wC.alloc (.cells #[.int .i64 0, .int .i64 0, .int .i64 0] 67) = wT at *
              have hTw : w5.heap.size ≤ tb := by have := KwC.size; omega
              have hTc : wC.heap.size ≤ tb := Nat.le_of_eq htb.symm
              clear htb
              have hrE := hrC.on OT
              have KwE := KwC.then (Kp.of [g] OT)
              have BE := BT
              refine hK.out _ _ (Kp.of [g] OT) (fun hHeld => ?_)
              clear hK K
              try simp only [Act.put, List.setIfInBounds_toArray, List.set_cons_zero, List.set_cons_succ]
              refine wpAnyH_strong (S' := fun W => Kp [g, tb] wT W) (fun W h => Kp.trans (Kp.of [g] OT) h (fun x hx => by simp at hx ⊢; rcases hx with rfl | rfl; exact .inl rfl; exact .inr hTc)) ?_
              have hHeldN : (fun W => Kp [g, tb] wT W) wT := Kp.refl _ _
              obtain ⟨wE, hwE⟩ : ∃ wE, wE = wT := ⟨_, rfl⟩
              subst hwE
              have ce0 : wE.cell? ⟨tb, 0, none⟩ = some (.int .i64 0) := (BE.cell 0).trans rfl
              have ce1 : wE.cell? ⟨tb, 1, none⟩ = some (.int .i64 0) := (BE.cell 1).trans rfl
              have ce2 : wE.cell? ⟨tb, 2, none⟩ = some (.int .i64 0) := (BE.cell 2).trans rfl
              have fe : ∀ i, wE.frozen? ⟨tb, i, none⟩ = false := BE.frozen
              refine wpAnyH_ready (rs := [17]) (by kernel_rfl) (by simp) ?_
              refine AllReadyH.cons (o := _) rfl (fun K hK => ?_) AllReadyH.nil
              go_simp
              have KS : Kp [tb] wE (((wE.setCell ⟨tb, 0, none⟩ (.int .i64 0)).setCell ⟨tb, 1, none⟩ (.int .i64 (Lx : Int))).setCell ⟨tb, 2, none⟩ (.int .i64 0)) := (((Kp.refl _ _).set (.inl (by simp)) _).set (.inl (by simp)) _).set (.inl (by simp)) _
              have BS := ((BE.set 0 (.int .i64 0)).set 1 (.int .i64 (Lx : Int))).set 2 (.int .i64 0)
              have htg : tb ≠ g := by have := hgS; omega
              have hrS := hrE.kp KS (by simp; exact Ne.symm htg)
              have KwS : Kp [g] w5 (((wE.setCell ⟨tb, 0, none⟩ (.int .i64 0)).setCell ⟨tb, 1, none⟩ (.int .i64 (Lx : Int))).setCell ⟨tb, 2, none⟩ (.int .i64 0)) := KwE.trans KS (fun y hy => by simp at hy; subst hy; exact .inr hTw)
              refine hK.out _ _ (KS.mono (fun y hy => .inl (by simp at hy ⊢; exact .inr hy))) (fun hHeld => ?_)
              clear hK K
              refine wpAnyH_done (by kernel_rfl) ?_ _
              go_wp2_with fail
              go_meet
              exact ⟨tb, _, _, rfl, hTw, BS, rfl, rfl, hrS, KwS⟩
            · go_simp
              have OT := (On.refl wB).alloc (.cells #[.int .i64 0, .int .i64 0, .int .i64 0] 67)
              have BT := Blk.new wB 67 #[.int .i64 0, .int .i64 0, .int .i64 0]
              obtain ⟨tb, htb⟩ : ∃ tb, tb = wB.heap.size := ⟨_, rfl⟩
              rw [← htb] at BT ⊢
              generalize wB.alloc (.cells #[.int .i64 0, .int .i64 0, .int .i64 0] 67) = wT at *
              have hTw : w5.heap.size ≤ tb := by have := OwB.size; omega
              have hTc : wB.heap.size ≤ tb := Nat.le_of_eq htb.symm
              clear htb
              have OwT := OwB.call OT
              refine hK.out _ _ (Kp.of [g] OT) (fun hHeld => ?_)
              clear hK K
              try simp only [Act.put, List.setIfInBounds_toArray, List.set_cons_zero, List.set_cons_succ]
              refine wpAnyH_strong (S' := fun W => Kp [g, tb] wT W) (fun W h => Kp.trans (Kp.of [g] OT) h (fun x hx => by simp at hx ⊢; rcases hx with rfl | rfl; exact .inl rfl; exact .inr hTc)) ?_
              have hHeldN : (fun W => Kp [g, tb] wT W) wT := Kp.refl _ _
              refine wpAnyH_ready (rs := [13]) (by kernel_rfl) (by simp) ?_
              refine AllReadyH.cons (o := _) rfl (fun K hK => ?_) AllReadyH.nil
              go_simp
              refine (HGA.out _ (HR5.out.on OwT)).mono ?_
              rintro e wC ⟨rfl, hrC, KC⟩
              have KwC : Kp [g] w5 wC := (Kp.of [g] OwT).then KC
              have BT := KC.blk BT (by simp; have := hgS; omega)
              refine hK.out _ _ (KC.mono (fun y hy => .inl (by simp at hy ⊢; exact .inl hy))) (fun hHeld => ?_)
              clear hK K
              try simp only [Act.put, List.setIfInBounds_toArray, List.set_cons_zero, List.set_cons_succ]
              refine wpAnyH_strong (S' := fun W => Kp [g, tb] wC W) (fun W h => Kp.then (KC.mono (fun y hy => .inl (by simp at hy ⊢; exact .inl hy))) h) ?_
              have hHeldN : (fun W => Kp [g, tb] wC W) wC := Kp.refl _ _
              refine wpAnyH_take (i := 14) (oi := _) (v := ?_) rfl (by kernel_rfl) (by kernel_rfl) (by kernel_rfl) (fun _ _ _ h => h) (Or.inl ⟨by rfl, ?_⟩) (by assumption) ?_
              rotate_left
              · intro w hSw
                go_simp
                first | done | with_reducible rfl
              try simp only [Act.put, List.setIfInBounds_toArray, List.set_cons_zero, List.set_cons_succ]
              refine wpAnyH_take (i := 15) (oi := _) (v := ?_) rfl (by kernel_rfl) (by kernel_rfl) (by kernel_rfl) (fun _ _ _ h => h) (Or.inl ⟨by rfl, ?_⟩) (by assumption) ?_
              rotate_left
              · intro w hSw
                go_simp
                first | done | with_reducible rfl
              try simp only [Act.put, List.setIfInBounds_toArray, List.set_cons_zero, List.set_cons_succ]
              obtain ⟨wE, hwE⟩ : ∃ wE, wE = wC := ⟨_, rfl⟩
              have hrE := hrC
              have KwE := KwC
              have BE := BT
              rw [← hwE] at *
              clear hwE
              have ce0 : wE.cell? ⟨tb, 0, none⟩ = some (.int .i64 0) := (BE.cell 0).trans rfl
              have ce1 : wE.cell? ⟨tb, 1, none⟩ = some (.int .i64 0) := (BE.cell 1).trans rfl
              have ce2 : wE.cell? ⟨tb, 2, none⟩ = some (.int .i64 0) := (BE.cell 2).trans rfl
              have fe : ∀ i, wE.frozen? ⟨tb, i, none⟩ = false := BE.frozen
              refine wpAnyH_ready (rs := [17]) (by kernel_rfl) (by simp) ?_
              refine AllReadyH.cons (o := _) rfl (fun K hK => ?_) AllReadyH.nil
              go_simp
              have KS : Kp [tb] wE (((wE.setCell ⟨tb, 0, none⟩ (.int .i64 0)).setCell ⟨tb, 1, none⟩ (.int .i64 (Lx : Int))).setCell ⟨tb, 2, none⟩ (.int .i64 0)) := (((Kp.refl _ _).set (.inl (by simp)) _).set (.inl (by simp)) _).set (.inl (by simp)) _
              have BS := ((BE.set 0 (.int .i64 0)).set 1 (.int .i64 (Lx : Int))).set 2 (.int .i64 0)
              have htg : tb ≠ g := by have := hgS; omega
              have hrS := hrE.kp KS (by simp; exact Ne.symm htg)
              have KwS : Kp [g] w5 (((wE.setCell ⟨tb, 0, none⟩ (.int .i64 0)).setCell ⟨tb, 1, none⟩ (.int .i64 (Lx : Int))).setCell ⟨tb, 2, none⟩ (.int .i64 0)) := KwE.trans KS (fun y hy => by simp at hy; subst hy; exact .inr hTw)
              refine hK.out _ _ (KS.mono (fun y hy => .inl (by simp at hy ⊢; exact .inr hy))) (fun hHeld => ?_)
              clear hK K
              refine wpAnyH_done (by kernel_rfl) ?_ _
              go_wp2_with fail
              go_meet
              exact ⟨tb, _, _, rfl, hTw, BS, rfl, rfl, hrS, KwS⟩
          · go_simp
            have OT := (On.refl wA).alloc (.cells #[.int .i64 0, .int .i64 0, .int .i64 0] 67)
            have BT := Blk.new wA 67 #[.int .i64 0, .int .i64 0, .int .i64 0]
            obtain ⟨tb, htb⟩ : ∃ tb, tb = wA.heap.size := ⟨_, rfl⟩
            rw [← htb] at BT ⊢
            generalize wA.alloc (.cells #[.int .i64 0, .int .i64 0, .int .i64 0] 67) = wT at *
            have hTw : w5.heap.size ≤ tb := by have := OwA.size; omega
            have hTc : wA.heap.size ≤ tb := Nat.le_of_eq htb.symm
            clear htb
            have OwT := OwA.call OT
            refine hK.out _ _ (Kp.of [g] OT) (fun hHeld => ?_)
            clear hK K
            try simp only [Act.put, List.setIfInBounds_toArray, List.set_cons_zero, List.set_cons_succ]
            refine wpAnyH_strong (S' := fun W => Kp [g, tb] wT W) (fun W h => Kp.trans (Kp.of [g] OT) h (fun x hx => by simp at hx ⊢; rcases hx with rfl | rfl; exact .inl rfl; exact .inr hTc)) ?_
            have hHeldN : (fun W => Kp [g, tb] wT W) wT := Kp.refl _ _
            refine wpAnyH_ready (rs := [7]) (by kernel_rfl) (by simp) ?_
            refine AllReadyH.cons (o := _) rfl (fun K hK => ?_) AllReadyH.nil
            go_simp
            refine (longs_calls _).mono ?_
            rintro e wB ⟨rB1, qB1, rB2, qB2, rfl, RB1, RB2, hB1, hB2, fB1, fB2, OB⟩
            have CB : ∀ W, Kp [g, tb] wB W → W.cell? ⟨rB2, k, none⟩ = some (.int .i64 (yl : Int)) := fun W h => (h.cell RB2.lt (show rB2 ∉ [g, tb] by simp; have := hgS; have := OwT.size; have := BT.lt; omega)).trans (HCLB.out wB rB2 RB2)
            have OwB := OwT.call OB
            have BT := BT.call OB.out
            refine hK.out _ _ (Kp.of [g, tb] OB) (fun hHeld => ?_)
            clear hK K
            try simp only [Act.put, List.setIfInBounds_toArray, List.set_cons_zero, List.set_cons_succ]
            refine wpAnyH_strong (S' := fun W => Kp [g, tb] wB W) (fun W h => Kp.then (Kp.of [g, tb] OB) h) ?_
            have hHeldN : (fun W => Kp [g, tb] wB W) wB := Kp.refl _ _
            refine wpAnyH_take (i := 8) (oi := _) (v := ?_) rfl (by kernel_rfl) (by kernel_rfl) (by kernel_rfl) (fun _ _ _ h => h) (Or.inl ⟨by rfl, ?_⟩) (by assumption) ?_
            rotate_left
            · intro w hSw
              go_simp
              first | done | with_reducible rfl
            try simp only [Act.put, List.setIfInBounds_toArray, List.set_cons_zero, List.set_cons_succ]
            refine wpAnyH_take (i := 11) (oi := _) (v := ?_) rfl (by kernel_rfl) (by kernel_rfl) (by kernel_rfl) (fun _ _ _ h => h) (Or.inl ⟨by rfl, ?_⟩) (by assumption) ?_
            rotate_left
            · intro w hSw
              go_simp
              first | done | with_reducible rfl
            try simp only [Act.put, List.setIfInBounds_toArray, List.set_cons_zero, List.set_cons_succ]
            refine wpAnyH_take (i := 12) (oi := _) (v := ?_) rfl (by kernel_rfl) (by kernel_rfl) (by kernel_rfl) (fun _ _ _ h => h) (Or.inl ⟨by rfl, ?_⟩) (by assumption) ?_
            rotate_left
            · intro w hSw
              go_simp
              first | done | with_reducible rfl
            try simp only [Act.put, List.setIfInBounds_toArray, List.set_cons_zero, List.set_cons_succ]
            refine wpAnyH_ready (rs := [13]) (by kernel_rfl) (by simp) ?_
            refine AllReadyH.cons (o := _) rfl (fun K hK => ?_) AllReadyH.nil
            go_simp
            refine (HGA.out _ (HR5.out.on OwB)).mono ?_
            rintro e wC ⟨rfl, hrC, KC⟩
            have KwC : Kp [g] w5 wC := (Kp.of [g] OwB).then KC
            have BT := KC.blk BT (by simp; have := hgS; omega)
            refine hK.out _ _ (KC.mono (fun y hy => .inl (by simp at hy ⊢; exact .inl hy))) (fun hHeld => ?_)
            clear hK K
            try simp only [Act.put, List.setIfInBounds_toArray, List.set_cons_zero, List.set_cons_succ]
            refine wpAnyH_strong (S' := fun W => Kp [g, tb] wC W) (fun W h => Kp.then (KC.mono (fun y hy => .inl (by simp at hy ⊢; exact .inl hy))) h) ?_
            have hHeldN : (fun W => Kp [g, tb] wC W) wC := Kp.refl _ _
            refine wpAnyH_take (i := 14) (oi := _) (v := ?_) rfl (by kernel_rfl) (by kernel_rfl) (by kernel_rfl) (fun _ _ _ h => h) (Or.inl ⟨by rfl, ?_⟩) (by assumption) ?_
            rotate_left
            · intro w hSw
              go_simp
              first | done | with_reducible rfl
            try simp only [Act.put, List.setIfInBounds_toArray, List.set_cons_zero, List.set_cons_succ]
            refine wpAnyH_take (i := 15) (oi := _) (v := ?_) rfl (by kernel_rfl) (by kernel_rfl) (by kernel_rfl) (fun _ _ _ h => h) (Or.inl ⟨by rfl, ?_⟩) (by assumption) ?_
            rotate_left
            · intro w hSw
              go_simp
              first | done | with_reducible rfl
            try simp only [Act.put, List.setIfInBounds_toArray, List.set_cons_zero, List.set_cons_succ]
            obtain ⟨wE, hwE⟩ : ∃ wE, wE = wC := ⟨_, rfl⟩
            have hrE := hrC
            have KwE := KwC
            have BE := BT
            rw [← hwE] at *
            clear hwE
            have ce0 : wE.cell? ⟨tb, 0, none⟩ = some (.int .i64 0) := (BE.cell 0).trans rfl
            have ce1 : wE.cell? ⟨tb, 1, none⟩ = some (.int .i64 0) := (BE.cell 1).trans rfl
            have ce2 : wE.cell? ⟨tb, 2, none⟩ = some (.int .i64 0) := (BE.cell 2).trans rfl
            have fe : ∀ i, wE.frozen? ⟨tb, i, none⟩ = false := BE.frozen
            refine wpAnyH_ready (rs := [17]) (by kernel_rfl) (by simp) ?_
            refine AllReadyH.cons (o := _) rfl (fun K hK => ?_) AllReadyH.nil
            go_simp
            have KS : Kp [tb] wE (((wE.setCell ⟨tb, 0, none⟩ (.int .i64 0)).setCell ⟨tb, 1, none⟩ (.int .i64 (Lx : Int))).setCell ⟨tb, 2, none⟩ (.int .i64 0)) := (((Kp.refl _ _).set (.inl (by simp)) _).set (.inl (by simp)) _).set (.inl (by simp)) _
            have BS := ((BE.set 0 (.int .i64 0)).set 1 (.int .i64 (Lx : Int))).set 2 (.int .i64 0)
            have htg : tb ≠ g := by have := hgS; omega
            have hrS := hrE.kp KS (by simp; exact Ne.symm htg)
            have KwS : Kp [g] w5 (((wE.setCell ⟨tb, 0, none⟩ (.int .i64 0)).setCell ⟨tb, 1, none⟩ (.int .i64 (Lx : Int))).setCell ⟨tb, 2, none⟩ (.int .i64 0)) := KwE.trans KS (fun y hy => by simp at hy; subst hy; exact .inr hTw)
            refine hK.out _ _ (KS.mono (fun y hy => .inl (by simp at hy ⊢; exact .inr hy))) (fun hHeld => ?_)
            clear hK K
            refine wpAnyH_done (by kernel_rfl) ?_ _
            go_wp2_with fail
            go_meet
            exact ⟨tb, _, _, rfl, hTw, BS, rfl, rfl, hrS, KwS⟩
        · go_simp
          have OT := (On.refl wD).alloc (.cells #[.int .i64 0, .int .i64 0, .int .i64 0] 67)
          have BT := Blk.new wD 67 #[.int .i64 0, .int .i64 0, .int .i64 0]
          obtain ⟨tb, htb⟩ : ∃ tb, tb = wD.heap.size := ⟨_, rfl⟩
          rw [← htb] at BT ⊢
          generalize wD.alloc (.cells #[.int .i64 0, .int .i64 0, .int .i64 0] 67) = wT at *
          have hTw : w5.heap.size ≤ tb := by have := Ow0.size; omega
          have hTc : wD.heap.size ≤ tb := Nat.le_of_eq htb.symm
          clear htb
          have OwT := Ow0.call OT
          refine hK.out _ _ (Kp.of [g] OT) (fun hHeld => ?_)
          clear hK K
          try simp only [Act.put, List.setIfInBounds_toArray, List.set_cons_zero, List.set_cons_succ]
          refine wpAnyH_strong (S' := fun W => Kp [g, tb] wT W) (fun W h => Kp.trans (Kp.of [g] OT) h (fun x hx => by simp at hx ⊢; rcases hx with rfl | rfl; exact .inl rfl; exact .inr hTc)) ?_
          have hHeldN : (fun W => Kp [g, tb] wT W) wT := Kp.refl _ _
          refine wpAnyH_ready (rs := [0]) (by kernel_rfl) (by simp) ?_
          refine AllReadyH.cons (o := _) rfl (fun K hK => ?_) AllReadyH.nil
          go_simp
          refine (longs_calls _).mono ?_
          rintro e wA ⟨rA1, qA1, rA2, qA2, rfl, RA1, RA2, hA1, hA2, fA1, fA2, OA⟩
          have CA : ∀ W, Kp [g, tb] wA W → W.cell? ⟨rA1, k, none⟩ = some (.int .i64 (xl : Int)) := fun W h => (h.cell RA1.lt (show rA1 ∉ [g, tb] by simp; have := hgS; have := OwT.size; have := BT.lt; omega)).trans (HCL.out wA rA1 RA1)
          have OwA := OwT.call OA
          have BT := BT.call OA.out
          refine hK.out _ _ (Kp.of [g, tb] OA) (fun hHeld => ?_)
          clear hK K
          try simp only [Act.put, List.setIfInBounds_toArray, List.set_cons_zero, List.set_cons_succ]
          refine wpAnyH_strong (S' := fun W => Kp [g, tb] wA W) (fun W h => Kp.then (Kp.of [g, tb] OA) h) ?_
          have hHeldN : (fun W => Kp [g, tb] wA W) wA := Kp.refl _ _
          refine wpAnyH_take (i := 1) (oi := _) (v := ?_) rfl (by kernel_rfl) (by kernel_rfl) (by kernel_rfl) (fun _ _ _ h => h) (Or.inl ⟨by rfl, ?_⟩) (by assumption) ?_
          rotate_left
          · intro w hSw
            go_simp
            first | done | with_reducible rfl
          try simp only [Act.put, List.setIfInBounds_toArray, List.set_cons_zero, List.set_cons_succ]
          refine wpAnyH_take (i := 4) (oi := _) (v := ?_) rfl (by kernel_rfl) (by kernel_rfl) (by kernel_rfl) (fun _ _ _ h => h) (Or.inl ⟨by rfl, ?_⟩) (by assumption) ?_
          rotate_left
          · intro w hSw
            go_simp
            first | done | with_reducible rfl
          try simp only [Act.put, List.setIfInBounds_toArray, List.set_cons_zero, List.set_cons_succ]
          refine wpAnyH_take (i := 5) (oi := _) (v := ?_) rfl (by kernel_rfl) (by kernel_rfl) (by kernel_rfl) (fun _ _ _ h => h) (Or.inl ⟨by rfl, ?_⟩) (by assumption) ?_
          rotate_left
          · intro w hSw
            go_simp
            first | done | with_reducible rfl
          try simp only [Act.put, List.setIfInBounds_toArray, List.set_cons_zero, List.set_cons_succ]
          refine wpAnyH_ready (rs := [7]) (by kernel_rfl) (by simp) ?_
          refine AllReadyH.cons (o := _) rfl (fun K hK => ?_) AllReadyH.nil
          go_simp
          refine (longs_calls _).mono ?_
          rintro e wB ⟨rB1, qB1, rB2, qB2, rfl, RB1, RB2, hB1, hB2, fB1, fB2, OB⟩
          have CB : ∀ W, Kp [g, tb] wB W → W.cell? ⟨rB2, k, none⟩ = some (.int .i64 (yl : Int)) := fun W h => (h.cell RB2.lt (show rB2 ∉ [g, tb] by simp; have := hgS; have := OwA.size; have := BT.lt; omega)).trans (HCLB.out wB rB2 RB2)
          have OwB := OwA.call OB
          have BT := BT.call OB.out
          refine hK.out _ _ (Kp.of [g, tb] OB) (fun hHeld => ?_)
          clear hK K
          try simp only [Act.put, List.setIfInBounds_toArray, List.set_cons_zero, List.set_cons_succ]
          refine wpAnyH_strong (S' := fun W => Kp [g, tb] wB W) (fun W h => Kp.then (Kp.of [g, tb] OB) h) ?_
          have hHeldN : (fun W => Kp [g, tb] wB W) wB := Kp.refl _ _
          refine wpAnyH_take (i := 8) (oi := _) (v := ?_) rfl (by kernel_rfl) (by kernel_rfl) (by kernel_rfl) (fun _ _ _ h => h) (Or.inl ⟨by rfl, ?_⟩) (by assumption) ?_
          rotate_left
          · intro w hSw
            go_simp
            first | done | with_reducible rfl
          try simp only [Act.put, List.setIfInBounds_toArray, List.set_cons_zero, List.set_cons_succ]
          refine wpAnyH_take (i := 11) (oi := _) (v := ?_) rfl (by kernel_rfl) (by kernel_rfl) (by kernel_rfl) (fun _ _ _ h => h) (Or.inl ⟨by rfl, ?_⟩) (by assumption) ?_
          rotate_left
          · intro w hSw
            go_simp
            first | done | with_reducible rfl
          try simp only [Act.put, List.setIfInBounds_toArray, List.set_cons_zero, List.set_cons_succ]
          refine wpAnyH_take (i := 12) (oi := _) (v := ?_) rfl (by kernel_rfl) (by kernel_rfl) (by kernel_rfl) (fun _ _ _ h => h) (Or.inl ⟨by rfl, ?_⟩) (by assumption) ?_
          rotate_left
          · intro w hSw
            go_simp
            first | done | with_reducible rfl
          try simp only [Act.put, List.setIfInBounds_toArray, List.set_cons_zero, List.set_cons_succ]
          refine wpAnyH_ready (rs := [13]) (by kernel_rfl) (by simp) ?_
          refine AllReadyH.cons (o := _) rfl (fun K hK => ?_) AllReadyH.nil
          go_simp
          refine (HGA.out _ (HR5.out.on OwB)).mono ?_
          rintro e wC ⟨rfl, hrC, KC⟩
          have KwC : Kp [g] w5 wC := (Kp.of [g] OwB).then KC
          have BT := KC.blk BT (by simp; have := hgS; omega)
          refine hK.out _ _ (KC.mono (fun y hy => .inl (by simp at hy ⊢; exact .inl hy))) (fun hHeld => ?_)
          clear hK K
          try simp only [Act.put, List.setIfInBounds_toArray, List.set_cons_zero, List.set_cons_succ]
          refine wpAnyH_strong (S' := fun W => Kp [g, tb] wC W) (fun W h => Kp.then (KC.mono (fun y hy => .inl (by simp at hy ⊢; exact .inl hy))) h) ?_
          have hHeldN : (fun W => Kp [g, tb] wC W) wC := Kp.refl _ _
          refine wpAnyH_take (i := 14) (oi := _) (v := ?_) rfl (by kernel_rfl) (by kernel_rfl) (by kernel_rfl) (fun _ _ _ h => h) (Or.inl ⟨by rfl, ?_⟩) (by assumption) ?_
          rotate_left
          · intro w hSw
            go_simp
            first | done | with_reducible rfl
          try simp only [Act.put, List.setIfInBounds_toArray, List.set_cons_zero, List.set_cons_succ]
          refine wpAnyH_take (i := 15) (oi := _) (v := ?_) rfl (by kernel_rfl) (by kernel_rfl) (by kernel_rfl) (fun _ _ _ h => h) (Or.inl ⟨by rfl, ?_⟩) (by assumption) ?_
          rotate_left
          · intro w hSw
            go_simp
            first | done | with_reducible rfl
          try simp only [Act.put, List.setIfInBounds_toArray, List.set_cons_zero, List.set_cons_succ]
          obtain ⟨wE, hwE⟩ : ∃ wE, wE = wC := ⟨_, rfl⟩
          have hrE := hrC
          have KwE := KwC
          have BE := BT
          rw [← hwE] at *
          clear hwE
          have ce0 : wE.cell? ⟨tb, 0, none⟩ = some (.int .i64 0) := (BE.cell 0).trans rfl
          have ce1 : wE.cell? ⟨tb, 1, none⟩ = some (.int .i64 0) := (BE.cell 1).trans rfl
          have ce2 : wE.cell? ⟨tb, 2, none⟩ = some (.int .i64 0) := (BE.cell 2).trans rfl
          have fe : ∀ i, wE.frozen? ⟨tb, i, none⟩ = false := BE.frozen
          refine wpAnyH_ready (rs := [17]) (by kernel_rfl) (by simp) ?_
          refine AllReadyH.cons (o := _) rfl (fun K hK => ?_) AllReadyH.nil
          go_simp
          have KS : Kp [tb] wE (((wE.setCell ⟨tb, 0, none⟩ (.int .i64 0)).setCell ⟨tb, 1, none⟩ (.int .i64 (Lx : Int))).setCell ⟨tb, 2, none⟩ (.int .i64 0)) := (((Kp.refl _ _).set (.inl (by simp)) _).set (.inl (by simp)) _).set (.inl (by simp)) _
          have BS := ((BE.set 0 (.int .i64 0)).set 1 (.int .i64 (Lx : Int))).set 2 (.int .i64 0)
          have htg : tb ≠ g := by have := hgS; omega
          have hrS := hrE.kp KS (by simp; exact Ne.symm htg)
          have KwS : Kp [g] w5 (((wE.setCell ⟨tb, 0, none⟩ (.int .i64 0)).setCell ⟨tb, 1, none⟩ (.int .i64 (Lx : Int))).setCell ⟨tb, 2, none⟩ (.int .i64 0)) := KwE.trans KS (fun y hy => by simp at hy; subst hy; exact .inr hTw)
          refine hK.out _ _ (KS.mono (fun y hy => .inl (by simp at hy ⊢; exact .inr hy))) (fun hHeld => ?_)
          clear hK K
          refine wpAnyH_done (by kernel_rfl) ?_ _
          go_wp2_with fail
          go_meet
          exact ⟨tb, _, _, rfl, hTw, BS, rfl, rfl, hrS, KwS⟩
    case rest =>
      obtain ⟨tb, q2, b2, rfl, hTw, BT0, hq2, hb2, hr6, K6⟩ := hcut
      have A6 : RowKit.Hid (Ans (num yl) s q1 false nv q2 b2) := Lib.hid (by rw [hq2, hb2, ← HNV.out]; exact ans_num HR5.out.le)
      have K46 := K45.then (K6.mono (fun y hy => .inl (by simp at hy ⊢; exact .inl hy)))
      have hB6 := hB5.kp K6 (by simpa using Ne.symm hgr')
      have hz5 := K45.size
      have hz6 := K6.size
      have htg : tb ≠ g := by omega
      have hrl5 := hB5.lt
      have htr : tb ≠ r' := by omega
      clear hq2 hb2
      obtain ⟨w6, hw6⟩ : ∃ w6 : World, w6 = wc := ⟨_, rfl⟩
      subst hw6
      go_wp2_with fail
      refine (rsym_calls dist mb g nd s q2 b2 w6 hr6 (Bb.kp K46 (by simp; exact fmb.out)) HND.out fmb.out.1).mono ?_
      rintro e w7 ⟨j, q3, b3, rfl, hr7, A7, hj7, K7⟩
      have K47 := K46.then (K7.mono (fun y hy => .inl (by simp at hy ⊢; exact .inl hy)))
      have BT := K7.blk BT0 (by simpa using htg)
      have hB7 := hB6.kp K7 (by simpa using Ne.symm hgr')
      have d7 := (hr7.out.cell 2).trans rfl
      have HAG : RowKit.Hid (∀ o p' b', Ans (if 30 ≤ j then De.bad else next (num (backBits.getD j 0)) fun y => De.put l' Lx (backBase.getD j 0 + y)) s q3 b3 o p' b' → Ans (again dist l' k) s q1 false o p' b') := Lib.hid (fun o p' b' h => by
        unfold again
        rw [if_neg hk28, HYL0.out, HXL0.out]
        refine Ans.next A6.out (Ans.next A7 ?_)
        rw [HLX.out]
        exact h)
      have HTO : RowKit.Hid (∀ (D : Dec (List Nat)) l2 p2 b2, AnsO (next (again dist l' k) fun o => packed lit dist f o) s q1 false l2 p2 b2 → AnsO (packed lit dist 302 l) s p false l2 p2 b2) := Lib.hid (fun D l2 p2 b2 h => by
        refine HHS.out l2 p2 b2 ?_
        rw [if_neg h256, if_neg hlt, show x - 257 = k from by have := HK.out; omega]
        exact h)
      have hzz : w4.heap.size ≤ tb := by omega
      clear HGA HCL HCLB ff1 ff2 d2 ea ek
      by_cases hj30 : 30 ≤ j
      · have hj30' : (30 : Int) ≤ j := by omega
        have fr : ∀ i, w7.frozen? ⟨g, i, none⟩ = false := hr7.out.frozen
        go_wp2_with fail
        go_ret
        refine ⟨_, rfl, ⟨q3, true, r', cap', l', ⟨hr7.out.set 2 (.bool true), hr7.le, hr7.sz⟩, (Kp.of _ O14).then (K47.set (.inl (by simp)) _), hr5w, HTO.out De.bad _ _ _ (AnsO.next (HAG.out [] q3 true (by rw [if_pos hj30]; exact Ans.fail _ _ _ _ _)) (AnsO.was _ _ _ _ _)), fun e => by cases e⟩⟩
      have hj30' : ¬ (30 : Int) ≤ j := by omega
      have hj0 : (j : Int) < 30 := by omega
      have hcB := fun W r3 (R : RowO W r3 0 3 (i64s backBase)) => R.cell (i64s_get (show j < backBase.length from by rw [show backBase.length = 30 from rfl]; omega))
      have hcBb := fun W r3 (R : RowO W r3 0 3 (i64s backBits)) => R.cell (i64s_get (show j < backBits.length from by rw [show backBits.length = 30 from rfl]; omega))
      simp only [Nat.zero_add] at hcB hcBb
      have hyb : backBits.getD j 0 ≤ 13 := by
        have : ∀ k, k < 30 → backBits.getD k 0 ≤ 13 := by decide
        exact this j (by omega)
      have hxb : backBase.getD j 0 ≤ 30000 := by
        have : ∀ k, k < 30 → backBase.getD k 0 ≤ 30000 := by decide
        exact this j (by omega)
      have HAG2 : RowKit.Hid (∀ o p' b', Ans (next (num (backBits.getD j 0)) fun y => De.put l' Lx (backBase.getD j 0 + y)) s q3 b3 o p' b' → Ans (again dist l' k) s q1 false o p' b') := Lib.hid (fun o p' b' h => HAG.out o p' b' (by rw [if_neg hj30]; exact h))
      clear HAG
      generalize backBase.getD j 0 = xb at *
      generalize backBits.getD j 0 = yb at *
      have HCB := Lib.hid hcB
      have HCBB := Lib.hid hcBb
      have hgb := fun W h => get_calls g yb s q3 b3 W h (by omega)
      have hv2 := numAt_lt s q3 yb
      have hp13 : 2 ^ yb ≤ 2 ^ 13 := Nat.pow_le_pow_right (by omega) hyb
      have HGB := Lib.hid hgb
      have HR7 := Lib.hid hr7
      have hgS := hr7.out.lt
      have A8 := Lib.hid (ans_num (n := yb) (b := b3) hr7.le)
      clear hcB hcBb hgb
      generalize hnv2 : numAt s q3 yb = nv2 at *
      obtain ⟨Bx, hBx⟩ : ∃ Bx, xb + nv2 = Bx := ⟨_, rfl⟩
      have ea : IntKind.i64.wrap ((xb : Int) + (nv2 : Int)) = (Bx : Int) := by rw [IntKind.wrap_i64]; omega
      have HBX := Lib.hid hBx
      have hBl : Bx ≤ 100000 := by omega
      have hLl : 1 ≤ Lx ∧ Lx ≤ 100000 := by have := HLX.out; omega
      clear hnv2 hBx
      have ff1 := lad_fst
      have ff2 := lad_snd
      go_upto_region 19 with fail
      refine wp_region_held_drew (S := fun W => Kp [g, tb] w7 W) (by kernel_rfl) (Kp.refl _ _).drew (fun hHeld => ?_)
      have Ow0 := (On.refl w7).drew
      have BT := BT.drew
      refine wpAnyH_take (i := 2) (oi := _) (v := ?_) rfl (by kernel_rfl) (by kernel_rfl) (by kernel_rfl) (fun _ _ _ h => h) (Or.inl ⟨by rfl, ?_⟩) (by assumption) ?_
      rotate_left
      · intro w hSw
        go_simp
        first | done | with_reducible rfl
      try simp only [Act.put, List.setIfInBounds_toArray, List.set_cons_zero, List.set_cons_succ]
      refine wpAnyH_take (i := 5) (oi := _) (v := ?_) rfl (by kernel_rfl) (by kernel_rfl) (by kernel_rfl) (fun _ _ _ h => h) (Or.inl ⟨by rfl, ?_⟩) (by assumption) ?_
      rotate_left
      · intro w hSw
        go_simp
        first | done | with_reducible rfl
      try simp only [Act.put, List.setIfInBounds_toArray, List.set_cons_zero, List.set_cons_succ]
      refine wpAnyH_take (i := 8) (oi := _) (v := ?_) rfl (by kernel_rfl) (by kernel_rfl) (by kernel_rfl) (fun _ _ _ h => h) (Or.inl ⟨by rfl, ?_⟩) (by assumption) ?_
      rotate_left
      · intro w hSw
        go_simp
        first | done | with_reducible rfl
      try simp only [Act.put, List.setIfInBounds_toArray, List.set_cons_zero, List.set_cons_succ]
      refine wpAnyH_strong (S' := fun W => Kp [g, tb] w7.drew W) (fun W h => Kp.then (Kp.of [g, tb] Ow0) h) ?_
      have hHeldN : (fun W => Kp [g, tb] w7.drew W) w7.drew := Kp.refl _ _
      generalize w7.drew = wD at *
      refine wpAnyH_ready (rs := [0]) (by kernel_rfl) (by simp) ?_
      refine AllReadyH.cons (o := _) rfl (fun K hK => ?_) AllReadyH.nil
      go_simp
      refine (backs_calls _).mono ?_
      rintro e wA ⟨rA1, qA1, rA2, qA2, rfl, RA1, RA2, hA1, hA2, fA1, fA2, OA⟩
      have CA : ∀ W, Kp [g, tb] wA W → W.cell? ⟨rA1, j, none⟩ = some (.int .i64 (xb : Int)) := fun W h => (h.cell RA1.lt (show rA1 ∉ [g, tb] by simp; have := hgS; have := Ow0.size; have := BT.lt; omega)).trans (HCB.out wA rA1 RA1)
      have OwA := Ow0.call OA
      have BT := BT.call OA.out
      refine hK.out _ _ (Kp.of [g, tb] OA) (fun hHeld => ?_)
      clear hK K
      try simp only [Act.put, List.setIfInBounds_toArray, List.set_cons_zero, List.set_cons_succ]
      refine wpAnyH_strong (S' := fun W => Kp [g, tb] wA W) (fun W h => Kp.then (Kp.of [g, tb] OA) h) ?_
      have hHeldN : (fun W => Kp [g, tb] wA W) wA := Kp.refl _ _
      refine wpAnyH_take (i := 1) (oi := _) (v := ?_) rfl (by kernel_rfl) (by kernel_rfl) (by kernel_rfl) (fun _ _ _ h => h) (Or.inl ⟨by rfl, ?_⟩) (by assumption) ?_
      rotate_left
      · intro w hSw
        go_simp
        first | done | with_reducible rfl
      try simp only [Act.put, List.setIfInBounds_toArray, List.set_cons_zero, List.set_cons_succ]
      refine wpAnyH_take (i := 3) (oi := _) (v := ?_) rfl (by kernel_rfl) (by kernel_rfl) (by kernel_rfl) (fun _ _ _ h => h) (Or.inl ⟨by rfl, ?_⟩) (by assumption) ?_
      rotate_left
      · intro w hSw
        go_simp
        first | done | with_reducible rfl
      try simp only [Act.put, List.setIfInBounds_toArray, List.set_cons_zero, List.set_cons_succ]
      refine wpAnyH_take (i := 4) (oi := _) (v := ?_) rfl (by kernel_rfl) (by kernel_rfl) (by kernel_rfl) (fun _ _ _ h => h) (Or.inl ⟨by rfl, ?_⟩) (by assumption) ?_
      rotate_left
      · intro w hSw
        go_simp
        first | done | with_reducible rfl
      try simp only [Act.put, List.setIfInBounds_toArray, List.set_cons_zero, List.set_cons_succ]
      refine wpAnyH_ready (rs := [6]) (by kernel_rfl) (by simp) ?_
      refine AllReadyH.cons (o := _) rfl (fun K hK => ?_) AllReadyH.nil
      go_simp
      refine (backs_calls _).mono ?_
      rintro e wB ⟨rB1, qB1, rB2, qB2, rfl, RB1, RB2, hB1, hB2, fB1, fB2, OB⟩
      have CB : ∀ W, Kp [g, tb] wB W → W.cell? ⟨rB2, j, none⟩ = some (.int .i64 (yb : Int)) := fun W h => (h.cell RB2.lt (show rB2 ∉ [g, tb] by simp; have := hgS; have := OwA.size; have := BT.lt; omega)).trans (HCBB.out wB rB2 RB2)
      have OwB := OwA.call OB
      have BT := BT.call OB.out
      refine hK.out _ _ (Kp.of [g, tb] OB) (fun hHeld => ?_)
      clear hK K
      try simp only [Act.put, List.setIfInBounds_toArray, List.set_cons_zero, List.set_cons_succ]
      refine wpAnyH_strong (S' := fun W => Kp [g, tb] wB W) (fun W h => Kp.then (Kp.of [g, tb] OB) h) ?_
      have hHeldN : (fun W => Kp [g, tb] wB W) wB := Kp.refl _ _
      refine wpAnyH_take (i := 7) (oi := _) (v := ?_) rfl (by kernel_rfl) (by kernel_rfl) (by kernel_rfl) (fun _ _ _ h => h) (Or.inl ⟨by rfl, ?_⟩) (by assumption) ?_
      rotate_left
      · intro w hSw
        go_simp
        first | done | with_reducible rfl
      try simp only [Act.put, List.setIfInBounds_toArray, List.set_cons_zero, List.set_cons_succ]
      refine wpAnyH_take (i := 9) (oi := _) (v := ?_) rfl (by kernel_rfl) (by kernel_rfl) (by kernel_rfl) (fun _ _ _ h => h) (Or.inl ⟨by rfl, ?_⟩) (by assumption) ?_
      rotate_left
      · intro w hSw
        go_simp
        first | done | with_reducible rfl
      try simp only [Act.put, List.setIfInBounds_toArray, List.set_cons_zero, List.set_cons_succ]
      refine wpAnyH_take (i := 10) (oi := _) (v := ?_) rfl (by kernel_rfl) (by kernel_rfl) (by kernel_rfl) (fun _ _ _ h => h) (Or.inl ⟨by rfl, ?_⟩) (by assumption) ?_
      rotate_left
      · intro w hSw
        go_simp
        first | done | with_reducible rfl
      try simp only [Act.put, List.setIfInBounds_toArray, List.set_cons_zero, List.set_cons_succ]
      refine wpAnyH_ready (rs := [11]) (by kernel_rfl) (by simp) ?_
      refine AllReadyH.cons (o := _) rfl (fun K hK => ?_) AllReadyH.nil
      go_simp
      refine (HGB.out _ (HR7.out.on OwB)).mono ?_
      rintro e wC ⟨rfl, hrC, KC⟩
      have KwC : Kp [g] w7 wC := (Kp.of [g] OwB).then KC
      have BT := KC.blk BT (by simp; have := hgS; omega)
      refine hK.out _ _ (KC.mono (fun y hy => .inl (by simp at hy ⊢; exact .inl hy))) (fun hHeld => ?_)
      clear hK K
      try simp only [Act.put, List.setIfInBounds_toArray, List.set_cons_zero, List.set_cons_succ]
      refine wpAnyH_strong (S' := fun W => Kp [g, tb] wC W) (fun W h => Kp.then (KC.mono (fun y hy => .inl (by simp at hy ⊢; exact .inl hy))) h) ?_
      have hHeldN : (fun W => Kp [g, tb] wC W) wC := Kp.refl _ _
      refine wpAnyH_take (i := 12) (oi := _) (v := ?_) rfl (by kernel_rfl) (by kernel_rfl) (by kernel_rfl) (fun _ _ _ h => h) (Or.inl ⟨by rfl, ?_⟩) (by assumption) ?_
      rotate_left
      · intro w hSw
        go_simp
        first | done | with_reducible rfl
      try simp only [Act.put, List.setIfInBounds_toArray, List.set_cons_zero, List.set_cons_succ]
      refine wpAnyH_take (i := 13) (oi := _) (v := ?_) rfl (by kernel_rfl) (by kernel_rfl) (by kernel_rfl) (fun _ _ _ h => h) (Or.inl ⟨by rfl, ?_⟩) (by assumption) ?_
      rotate_left
      · intro w hSw
        go_simp
        first | done | with_reducible rfl
      try simp only [Act.put, List.setIfInBounds_toArray, List.set_cons_zero, List.set_cons_succ]
      obtain ⟨wE, hwE⟩ : ∃ wE, wE = wC := ⟨_, rfl⟩
      have hrE := hrC
      have KwE := KwC
      have BE := BT
      rw [← hwE] at *
      clear hwE
      have ce2 : wE.cell? ⟨tb, 2, none⟩ = some (.int .i64 0) := (BE.cell 2).trans rfl
      have fe : ∀ i, wE.frozen? ⟨tb, i, none⟩ = false := BE.frozen
      refine wpAnyH_ready (rs := [14]) (by kernel_rfl) (by simp) ?_
      refine AllReadyH.cons (o := _) rfl (fun K hK => ?_) AllReadyH.nil
      go_simp
      have KS : Kp [tb] wE (wE.setCell ⟨tb, 2, none⟩ (.int .i64 (Bx : Int))) := (Kp.refl _ _).set (.inl (by simp)) _
      have BS := BE.set 2 (.int .i64 (Bx : Int))
      have hrS := hrE.kp KS (by simp; exact Ne.symm htg)
      have KwS : Kp [g, tb] w7 (wE.setCell ⟨tb, 2, none⟩ (.int .i64 (Bx : Int))) := (KwE.mono (fun y hy => .inl (by simp at hy ⊢; exact .inl hy))).then (KS.mono (fun y hy => .inl (by simp at hy ⊢; exact .inr hy)))
      refine hK.out _ _ (KS.mono (fun y hy => .inl (by simp at hy ⊢; exact .inr hy))) (fun hHeld => ?_)
      clear hK K
      refine wpAnyH_done (by kernel_rfl) ?_ _
      clear ce2 fe hHeld
      generalize wE.setCell ⟨tb, 2, none⟩ (.int .i64 (Bx : Int)) = wS at *
      have e0 : wS.cell? ⟨tb, 0, none⟩ = some (.int .i64 0) := (BS.cell 0).trans rfl
      have e1 : wS.cell? ⟨tb, 1, none⟩ = some (.int .i64 (Lx : Int)) := (BS.cell 1).trans rfl
      have e2 : wS.cell? ⟨tb, 2, none⟩ = some (.int .i64 (Bx : Int)) := (BS.cell 2).trans rfl
      have hB8 := hB7.kp KwS (by simp; exact ⟨Ne.symm hgr', Ne.symm htr⟩)
      have K48 : Kp [g, r] w4 wS := K47.trans KwS (fun y hy => by simp at hy ⊢; omega)
      have hz8 := K48.size
      generalize hq4 : min (q3 + yb) (8 * s.size) = q4 at *
      generalize hb4 : (b3 || decide (8 * s.size < q3 + yb)) = b4 at *
      have HPUT : RowKit.Hid (∀ o p' b', Ans (De.put l' Lx Bx) s q4 b4 o p' b' → Ans (again dist l' k) s q1 false o p' b') := Lib.hid (fun o p' b' h => HAG2.out o p' b' (Ans.next A8.out (by rw [HBX.out]; exact h)))
      have hpt : De.put l' Lx Bx = if backOk l'.length Lx Bx then (if (copy l' Bx Lx).length ≤ 300 then ret (copy l' Bx Lx) else De.bad) else De.bad := by
        unfold De.put
        rw [add_back hLl.1]
        by_cases h : backOk l'.length Lx Bx
        · rw [if_pos h, if_pos h]
        · rw [if_neg h, if_neg h]
      have HPT := Lib.hid hpt
      have hgl8 := hrS.out.lt
      clear hpt hq4 hb4 BS BT HAG2 A8 ea ff1 ff2 HCB HCBB HGB KwE KwS KS CA CB
      go_wp2_with fail
      refine (iadd_calls r' cap' l'.length Lx Bx l' wS hB8 rfl (by omega) hLl.1 hLl.2 hBl).mono ?_
      rintro e w9 (⟨hok, r9, cap9, rfl, hB9, M9⟩ | ⟨hno, rfl, O9⟩)
      · have hr9 := hrS.kp M9.kp (by simpa using hgr')
        have d9 := (hr9.out.cell 2).trans rfl
        have K49 : Kp [g, r] w4 w9 := K48.trans M9.kp (fun y hy => by simp at hy ⊢; omega)
        have hcl := Go.Proofs.YtncidljdfipigaaDoor.Lz.copy_length l' Bx Lx
        cases b4 with
        | true =>
          have fr : ∀ i, w9.frozen? ⟨g, i, none⟩ = false := hr9.out.frozen
          go_wp2_with fail
          go_ret
          refine ⟨_, rfl, ⟨q4, true, r', cap', l', ⟨hr9.out.set 2 (.bool true), hr9.le, hr9.sz⟩, (Kp.of _ O14).then (K49.set (.inl (by simp)) _), hr5w, HTO.out De.bad _ _ _ (AnsO.next (HPUT.out [] q4 true ⟨fun _ => .inl rfl, fun e => by cases e⟩) (AnsO.was _ _ _ _ _)), fun e => by cases e⟩⟩
        | false =>
          have hLx60 : Lx ≤ 60 := by unfold backOk at hok; omega
          go_wp2_with fail
          refine ⟨⟨q4, false, r9, cap9, copy l' Bx Lx, by rw [hcl], hr9, hB9, K49, by rcases M9.at_ with e | e <;> omega, by rcases M9.at_ with e | e <;> omega, ?_⟩, by simp; omega⟩
          by_cases h300 : (copy l' Bx Lx).length ≤ 300
          · refine ⟨packed lit dist f (copy l' Bx Lx), fun l2 p2 b2 h => HTO.out De.bad l2 p2 b2 (AnsO.next (HPUT.out (copy l' Bx Lx) q4 false ?_) h), by omega, .inl ⟨h300, f, by omega, rfl⟩⟩
            rw [HPT.out, if_pos hok, if_pos h300]
            exact Ans.ret _ _ _ _
          · refine ⟨De.bad, fun l2 p2 b2 h => HTO.out De.bad l2 p2 b2 (AnsO.none ?_ h), by omega, .inr ⟨by omega, rfl⟩⟩
            have ha := HPUT.out [] q4 true (by rw [HPT.out, if_pos hok, if_neg h300]; exact Ans.fail _ _ _ _ _)
            rcases ha.bad rfl with e | e
            · cases e
            · exact next_none e
      · have hr9 := hrS.on O9
        have K49 : Kp [g, r] w4 w9 := K48.then (Kp.of _ O9)
        have fr : ∀ i, w9.frozen? ⟨g, i, none⟩ = false := hr9.out.frozen
        have d9 := (hr9.out.cell 2).trans rfl
        go_wp2_with fail
        go_ret
        refine ⟨_, rfl, ⟨q4, true, r', cap', l', ⟨hr9.out.set 2 (.bool true), hr9.le, hr9.sz⟩, (Kp.of _ O14).then (K49.set (.inl (by simp)) _), hr5w, HTO.out De.bad _ _ _ (AnsO.next (HPUT.out [] q4 true ?_) (AnsO.was _ _ _ _ _)), fun e => by cases e⟩⟩
        rw [HPT.out, if_neg hno]
        exact Ans.fail _ _ _ _ _
end Go.Proofs.YtncidljdfipigaaDoor.Wi

