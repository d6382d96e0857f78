/- Own texts joined: Rs, Rt. -/
import Derived.Test.YtnadjlejlohgiaaGreatDoorW8
import Derived.Test.YtnadjlejlohgiaaGreatDoorW12
import Derived.Test.YtnadjlejlohgiaaGreatDoorW13
/- The program's reader takes a symbol. Conditions: a reader, a book of lengths that are ok. -/
namespace Go.Proofs.YtnadjlejlohgiaaGreatDoor.Wi
open Go.RowKit Go.Proofs.YtnadjlejlohgiaaGreatDoor.Mem Go.Proofs.YtnadjlejlohgiaaGreatDoor.Bt Go.Proofs.YtnadjlejlohgiaaGreatDoor.Cd Go.Proofs.YtnadjlejlohgiaaGreatDoor.De
set_option linter.unusedVariables false
set_option linter.unusedSimpArgs false
/-- What a reader that was at p (bad or not) has taken by a plain way of reading, and where it is now. -/
structure Ans {α : Type} (d : Dec α) (s : ByteArray) (p : Nat) (b : Bool) (x : α) (p' : Nat) (b' : Bool) : Prop where mk ::
  bad : b' = true → b = true ∨ d (rest s p) = none
  good : b' = false → b = false ∧ d (rest s p) = some (x, rest s p')
section
variable {α β : Type} {d : Dec α} {k : α → Dec β} {s : ByteArray} {p p1 p2 : Nat} {b b1 b2 : Bool} {x : α} {y : β}
theorem Ans.next (h : Ans d s p b x p1 b1) (h2 : Ans (k x) s p1 b1 y p2 b2) : Ans (next d k) s p b y p2 b2 := by
  refine ⟨fun e => ?_, fun e => ?_⟩
  · cases hb1 : b1 with
    | true => rcases h.bad hb1 with a | a
              · exact .inl a
              · exact .inr (next_none a)
    | false => obtain ⟨a1, a2⟩ := h.good hb1
               rcases h2.bad e with a | a
               · rw [hb1] at a; cases a
               · exact .inr (by rw [next_some a2]; exact a)
  · obtain ⟨c1, c2⟩ := h2.good e
    obtain ⟨a1, a2⟩ := h.good c1
    exact ⟨a1, by rw [next_some a2]; exact c2⟩
/-- It was bad already, or the way of reading fails: it is bad. -/
theorem Ans.out (h : Ans d s p b x p1 true) (d2 : Dec β) (hd : d (rest s p) = none → d2 (rest s p) = none) (y : β) (p2 : Nat) : Ans d2 s p b y p2 true :=
  ⟨fun _ => (h.bad rfl).imp id hd, fun e => by cases e⟩
theorem Ans.ret (x : α) (s : ByteArray) (p : Nat) (b : Bool) : Ans (De.ret x) s p b x p b := ⟨fun e => .inl e, fun e => ⟨e, rfl⟩⟩
theorem Ans.fail (s : ByteArray) (p p' : Nat) (b : Bool) (x : α) : Ans (De.bad : Dec α) s p b x p' true := ⟨fun _ => .inr rfl, fun e => by cases e⟩
theorem Ans.mono (h : Ans d s p b x p1 b1) (e : b = true) : b1 = true := by
  cases hb1 : b1 with
  | true => rfl
  | false => have := (h.good hb1).1; rw [e] at this; cases this
end
theorem ans_num {s : ByteArray} {p n : Nat} {b : Bool} (hp : p ≤ 8 * s.size) : Ans (num n) s p b (numAt s p n) (min (p + n) (8 * s.size)) (b || decide (8 * s.size < p + n)) := by
  refine ⟨fun e => ?_, fun e => ?_⟩
  · simp only [Bool.or_eq_true, decide_eq_true_eq] at e
    rcases e with e | e
    · exact .inl e
    · exact .inr (by unfold num; rw [if_neg (by rw [rest_length]; omega)])
  · simp only [Bool.or_eq_false_iff, decide_eq_false_iff_not] at e
    refine ⟨e.1, ?_⟩
    unfold num
    rw [if_pos (by rw [rest_length]; omega), rest_drop, Nat.min_eq_left (by omega)]; rfl
theorem symGo_step {lens : List Nat} {f l c : Nat} {s : ByteArray} {q : Nat} (h : q < 8 * s.size) : symGo lens (f + 1) l c (rest s q) = match find lens l (2 * c + numAt s q 1) with
    | some k => some (k, rest s (q + 1))
    | none => symGo lens f (l + 1) (2 * c + numAt s q 1) (rest s (q + 1)) := by
  rw [numAt_one h, rest_cons h]
  conv => lhs; unfold symGo
  rw [b1_mod, chars_at s (by omega : q / 8 < s.size)]
  cases find lens l (2 * c + s[q / 8].toNat / 2 ^ (q % 8) % 2) <;> rfl
theorem symGo_end {lens : List Nat} {f l c : Nat} {s : ByteArray} {q : Nat} (h : 8 * s.size ≤ q) : symGo lens f l c (rest s q) = none := by
  rw [rest_end h]
  cases f <;> rfl
set_option maxRecDepth 100000 in
theorem rsym_calls (lens : List Nat) (m g n : Nat) (s : ByteArray) (p : Nat) (b : Bool) (w : World) (hw : IR w g s p b) (hB : Book w m (upto lens n)) (hn : lens.length = n) (hgm : m ≠ g) :
    Calls Tryz.prog 124 #[.pointer (some ⟨g, 0, none⟩), .map (some m)] w fun e w' => ∃ (x p' : Nat) (b' : Bool), e = .returned (.int .i64 (x : Int)) ∧ IR w' g s p' b' ∧ Ans (sym lens) s p b x p' b' ∧ (x = 0 ∨ x < n) ∧ Kp [g] w w' := by
  have HN := Lib.hid hn
  clear hn
  go_enter Tryz.func124, Tryz.ntmps124
  go_wp2_with fail
  go_loopw [5, 6] (fun y x wr => ∃ (l c q : Nat) (b' : Bool), x = .int .i64 (l : Int) ∧ 1 ≤ l ∧ l ≤ 16 ∧ y = .int .i64 (c : Int) ∧ c < 2 ^ (l - 1) ∧ IR wr g s q b' ∧ Kp [g] w wr ∧ (b' = true → b = true ∨ sym lens (rest s p) = none) ∧ (b' = false → b = false ∧ sym lens (rest s p) = symGo lens (16 - l) l c (rest s q))) (fun _ x _ => 16 - (intOf x).toNat)
  case atStart => exact ⟨1, 0, p, b, rfl, by omega, by omega, rfl, by decide, hw, Kp.refl _ _, fun e => .inl e, fun e => ⟨e, rfl⟩⟩
  case round =>
    obtain ⟨l, c, q, b', rfl, hl1, hl, rfl, hc, hr, K, hbad, hgood⟩ := hrel
    by_cases hlt : l ≤ 15
    · have hlt' : (l : Int) ≤ 15 := by omega
      have hp : 2 ^ (l - 1) ≤ 2 ^ 14 := Nat.pow_le_pow_right (by omega) (by omega)
      have hp2 : 2 ^ (l + 1 - 1) = 2 * 2 ^ (l - 1) := by rw [show l + 1 - 1 = (l - 1) + 1 from by omega, Nat.pow_succ, Nat.mul_comm]
      have hx := numAt_lt s q 1
      have HC := Lib.hid (bit_calls g s q b' wr hr)
      have hql := hr.le
      have hB2 := hB.kp K (by simp; exact hgm)
      obtain ⟨x, hxx⟩ : ∃ x, numAt s q 1 = x := ⟨_, rfl⟩
      rw [hxx] at hx
      have HX := Lib.hid hxx
      have e1 : IntKind.i64.wrap (2 * (c : Int)) = 2 * (c : Int) := by rw [IntKind.wrap_i64]; omega
      have e2 : IntKind.i64.wrap (2 * (c : Int) + (x : Int)) = ((2 * c + x : Nat) : Int) := by rw [IntKind.wrap_i64]; omega
      have hbad2 : (b' || decide (8 * s.size < q + 1)) = true → b = true ∨ sym lens (rest s p) = none := fun e => by
        simp only [Bool.or_eq_true, decide_eq_true_eq] at e
        cases hb' : b' with
        | true => exact hbad hb'
        | false =>
          right
          rw [(hgood hb').2]
          exact symGo_end (by rcases e with e | e; · rw [hb'] at e; cases e
                              · omega)
      have hgood2 : (b' || decide (8 * s.size < q + 1)) = false → b = false ∧ sym lens (rest s p) = match find lens l (2 * c + x) with
          | some k => some (k, rest s (min (q + 1) (8 * s.size)))
          | none => symGo lens (16 - (l + 1)) (l + 1) (2 * c + x) (rest s (min (q + 1) (8 * s.size))) := fun e => by
        simp only [Bool.or_eq_false_iff, decide_eq_false_iff_not] at e
        obtain ⟨g1, g2⟩ := hgood e.1
        refine ⟨g1, ?_⟩
        rw [g2, show 16 - l = (16 - (l + 1)) + 1 from by omega, symGo_step (by omega), HX.out, Nat.min_eq_left (by omega)]
      have hf := upto_all lens (c := 2 * c + x) hl1
      rw [HN.out] at hf
      have hc2 : 2 * c + x < 2 * 2 ^ (l - 1) := by omega
      rw [← hp2] at hc2
      obtain ⟨cx, hcx⟩ : ∃ cx, 2 * c + x = cx := ⟨_, rfl⟩
      rw [hcx] at e2 hf hc2 hgood2
      have hcx5 : cx < 100000 := by omega
      clear hbad hgood hxx hcx hp2 hp
      go_wp2_with fail
      refine HC.out.mono ?_
      rintro e w2 ⟨rfl, hr2, K2⟩
      rw [HX.out]
      have hB3 := hB2.kp K2 (by simp; exact hgm)
      have hlk := hB3.find (c := cx) (l := l) hcx5 (by omega)
      rw [hf] at hlk
      have c2 := (hr2.out.cell 2).trans rfl
      generalize hbb : (b' || decide (8 * s.size < q + 1)) = bb at *
      generalize hqq : min (q + 1) (8 * s.size) = qq at *
      have K3 := K.then K2
      unfold pc at hlk
      cases hfi : find lens l cx with
      | none =>
        rw [hfi] at hlk hgood2
        simp only at hlk hgood2
        go_wp2_with fail
        go_roundw
        case rel => exact ⟨l + 1, cx, qq, bb, by go_num, by omega, by omega, rfl, hc2, hr2, K3, hbad2, hgood2⟩
        case measure => simp [intOf]; omega
      | some k =>
        rw [hfi] at hlk hgood2
        simp only at hlk hgood2
        have hkn := (find_some hfi).1
        rw [HN.out] at hkn
        cases bb with
        | true =>
          go_wp2_with fail
          go_roundw
          case rel => exact ⟨l + 1, cx, qq, true, by go_num, by omega, by omega, rfl, hc2, hr2, K3, fun _ => hbad2 trivial, fun e => by cases e⟩
          case measure => simp [intOf]; omega
        | false =>
          go_wp2_with fail
          go_ret
          exact ⟨k, qq, false, rfl, hr2, ⟨fun e => (by cases e), fun _ => hgood2 trivial⟩, .inr hkn, K3⟩
    · obtain rfl : l = 16 := by omega
      have c2 := (hr.out.cell 2).trans rfl
      have fr : ∀ i, wr.frozen? ⟨g, i, none⟩ = false := hr.out.frozen
      go_wp2_with fail
      go_ret
      refine ⟨0, q, true, rfl, ⟨?_, hr.le, hr.sz⟩, ⟨fun _ => ?_, fun e => by cases e⟩, .inl rfl, K.set (.inl (by simp)) _⟩
      · exact hr.out.set 2 (.bool true)
      · cases hb' : b' with
        | true => exact hbad hb'
        | false => exact .inr (hgood hb').2
end Go.Proofs.YtnadjlejlohgiaaGreatDoor.Wi

/- The program's reader takes a part that is not packed. Conditions: a reader, a row of bytes. -/
namespace Go.Proofs.YtnadjlejlohgiaaGreatDoor.Wi
open Go.RowKit Go.Proofs.YtnadjlejlohgiaaGreatDoor.Mem Go.Proofs.YtnadjlejlohgiaaGreatDoor.Bt Go.Proofs.YtnadjlejlohgiaaGreatDoor.Cd Go.Proofs.YtnadjlejlohgiaaGreatDoor.De
set_option linter.unusedVariables false
set_option linter.unusedSimpArgs false
/-- What a reader has taken behind bytes; more than 300 of them count as nothing. -/
structure AnsO (d : Dec (List Nat)) (s : ByteArray) (p : Nat) (b : Bool) (l : List Nat) (p' : Nat) (b' : Bool) : Prop where mk ::
  bad : b' = true → b = true ∨ d (rest s p) = none
  good : b' = false → b = false ∧ (l.length ≤ 300 → d (rest s p) = some (l, rest s p')) ∧ (300 < l.length → d (rest s p) = none)
section
variable {α : Type} {d : Dec α} {k : α → Dec (List Nat)} {s : ByteArray} {p p1 p2 : Nat} {b b1 b2 : Bool} {x : α} {y : List Nat}
theorem AnsO.next (h : Ans d s p b x p1 b1) (h2 : AnsO (k x) s p1 b1 y p2 b2) : AnsO (next d k) s p b y p2 b2 := by
  refine ⟨fun e => ?_, fun e => ?_⟩
  · cases hb1 : b1 with
    | true => rcases h.bad hb1 with a | a
              · exact .inl a
              · exact .inr (next_none a)
    | false => obtain ⟨a1, a2⟩ := h.good hb1
               rcases h2.bad e with a | a
               · rw [hb1] at a; cases a
               · exact .inr (by rw [next_some a2]; exact a)
  · obtain ⟨c1, c2, c3⟩ := h2.good e
    obtain ⟨a1, a2⟩ := h.good c1
    exact ⟨a1, fun hl => by rw [next_some a2]; exact c2 hl, fun hl => by rw [next_some a2]; exact c3 hl⟩
theorem AnsO.fail (s : ByteArray) (p p' : Nat) (b : Bool) (l : List Nat) : AnsO (De.bad : Dec (List Nat)) s p b l p' true := ⟨fun _ => .inr rfl, fun e => by cases e⟩
theorem AnsO.was (d : Dec (List Nat)) (s : ByteArray) (p p' : Nat) (l : List Nat) : AnsO d s p true l p' true := ⟨fun _ => .inl rfl, fun e => by cases e⟩
theorem AnsO.any {d : Dec (List Nat)} (h : AnsO d s p b y p1 true) (y2 : List Nat) (p2 : Nat) : AnsO d s p b y2 p2 true := ⟨fun _ => h.bad rfl, fun e => by cases e⟩
end
theorem ans_align {s : ByteArray} {p : Nat} {b : Bool} (hp : p ≤ 8 * s.size) : Ans align s p b () (evenAt p) (b || !padOk s p) := by
  have h8 : (8 * s.size - p) % 8 = evenAt p - p := by unfold evenAt; omega
  have h9 : p ≤ evenAt p := by unfold evenAt; omega
  have he : align (rest s p) = if padOk s p = true then some ((), rest s (evenAt p)) else none := by
    unfold align padOk
    rw [rest_length, h8, rest_drop, show p + (evenAt p - p) = evenAt p from by omega]
  refine ⟨fun e => ?_, fun e => ?_⟩
  · cases b with
    | true => exact .inl rfl
    | false =>
      have : padOk s p = false := by simpa using e
      exact .inr (by rw [he, this]; rfl)
  · simp only [Bool.or_eq_false_iff, Bool.not_eq_false'] at e
    exact ⟨e.1, by rw [he, if_pos e.2]⟩
theorem packN_snoc (s : ByteArray) (q : Nat) : ∀ k, packN (k + 1) (rest s q) = packN k (rest s q) ++ [numAt s (q + 8 * k) 8] := by
  intro k
  induction k generalizing q with
  | zero => rfl
  | succ k ih =>
    have e1 : packN (k + 1 + 1) (rest s q) = val ((rest s q).take 8) :: packN (k + 1) ((rest s q).drop 8) := rfl
    have e2 : packN (k + 1) (rest s q) = val ((rest s q).take 8) :: packN k ((rest s q).drop 8) := rfl
    rw [e1, e2, rest_drop, ih (q + 8), show q + 8 + 8 * k = q + 8 * (k + 1) from by omega]; rfl
theorem packN_length : ∀ (n : Nat) (bs : List Bool), (packN n bs).length = n
  | 0, _ => rfl
  | n + 1, bs => by rw [packN]; simp [packN_length n]
/-- What a call of the reader leaves that adds to bytes: all but the reader's block and the row's. -/
structure Out (d : Dec (List Nat)) (s : ByteArray) (p : Nat) (b : Bool) (g r : Nat) (w : World) (v : Value) (w' : World) : Prop where mk ::
  out : ∃ (p' : Nat) (b' : Bool) (r' cap' : Nat) (l' : List Nat), IR w' g s p' b' ∧ Kp [g, r] w w' ∧ (r' = r ∨ w.heap.size ≤ r') ∧ AnsO d s p b l' p' b' ∧ (b' = false → v = .slice (some ⟨r', 0, none⟩) l'.length cap' ∧ By w' r' cap' l' ∧ l'.length ≤ 1000)
set_option maxRecDepth 100000 in
theorem rstored_calls (g r cap n : Nat) (s : ByteArray) (p : Nat) (b : Bool) (l : List Nat) (w : World) (hw : IR w g s p b) (hb : By w r cap l) (hn : l.length = n) (hn2 : n ≤ 300) (hgr : g ≠ r) :
    Calls Tryz.prog 88 #[.pointer (some ⟨g, 0, none⟩), .slice (some ⟨r, 0, none⟩) n cap] w fun e w' => ∃ v, e = .returned v ∧ Out (De.stored l) s p b g r w v w' := by
  have HN := Lib.hid hn
  clear hn
  have HE := Lib.hid (reven_calls g s p b w hw)
  have A1 := Lib.hid (ans_align (b := b) hw.le)
  have hp := hw.le
  have hgl := hw.out.lt
  have hrl := hb.lt
  go_enter Tryz.func88, Tryz.ntmps88
  go_wp2_with fail
  refine HE.out.mono ?_
  rintro e w1 ⟨rfl, hw1, K1⟩
  have hb1 := hb.kp K1 (by simpa using Ne.symm hgr)
  generalize hq1 : evenAt p = q1 at *
  generalize hx1 : (b || !padOk s p) = x1 at *
  have A2 := Lib.hid (ans_num (n := 16) (b := x1) hw1.le)
  have HE2 := Lib.hid (get_calls g 16 s q1 x1 w1 hw1 (by omega))
  go_wp2_with fail
  refine HE2.out.mono ?_
  rintro e w2 ⟨rfl, hw2, K2⟩
  have hb2 := hb1.kp K2 (by simpa using Ne.symm hgr)
  have hm1 := numAt_lt s q1 16
  generalize hq2 : min (q1 + 16) (8 * s.size) = q2 at *
  generalize hx2 : (x1 || decide (8 * s.size < q1 + 16)) = x2 at *
  have A3 := Lib.hid (ans_num (n := 16) (b := x2) hw2.le)
  have HE3 := Lib.hid (get_calls g 16 s q2 x2 w2 hw2 (by omega))
  generalize numAt s q1 16 = m at *
  go_wp2_with fail
  refine HE3.out.mono ?_
  rintro e w3 ⟨rfl, hw3, K3⟩
  have hb3 := hb2.kp K3 (by simpa using Ne.symm hgr)
  have hm2 := numAt_lt s q2 16
  generalize hq3 : min (q2 + 16) (8 * s.size) = q at *
  generalize hx3 : (x2 || decide (8 * s.size < q2 + 16)) = x3 at *
  generalize numAt s q2 16 = mm at *
  have hfin : ∀ (l' : List Nat) (p' : Nat) (b' : Bool), AnsO (if m + mm = 65535 ∧ l.length + m ≤ 300 then next (De.bytes m) fun x => ret (l ++ x) else De.bad) s q x3 l' p' b' → AnsO (De.stored l) s p b l' p' b' := fun l' p' b' h =>
    AnsO.next A1.out (AnsO.next A2.out (AnsO.next A3.out h))
  have HF := Lib.hid hfin
  have K := (K1.then K2).then K3
  have HK : RowKit.Hid (Kp [g, r] w w3) := Lib.hid (K.mono (fun x hx => .inl (by simp at hx ⊢; exact .inl hx)))
  clear hfin K
  have e1 : IntKind.i64.wrap (65535 - (mm : Int)) = ((65535 - mm : Nat) : Int) := by rw [IntKind.wrap_i64]; omega
  obtain ⟨D, hD⟩ : ∃ D : Dec (List Nat), D = (if m + mm = 65535 ∧ l.length + m ≤ 300 then next (De.bytes m) fun x => ret (l ++ x) else De.bad) := ⟨_, rfl⟩
  rw [← hD] at HF
  have hbad : m + mm = 65535 → 8 * s.size < q + 8 * m → D (rest s q) = none := fun _ hlt => by
    rw [hD]
    split
    · exact next_none (by unfold De.bytes; rw [if_neg (by rw [rest_length]; omega)])
    · rfl
  have hgood : m + mm = 65535 → q + 8 * m ≤ 8 * s.size → n + m ≤ 300 → D (rest s q) = some (l ++ packN m (rest s q), rest s (q + 8 * m)) := fun h1 h2 h3 => by
    rw [hD, if_pos ⟨h1, by rw [HN.out]; exact h3⟩]
    rw [next_some (x := packN m (rest s q)) (r := rest s (q + 8 * m)) (by unfold De.bytes; rw [if_pos (by rw [rest_length]; omega), rest_drop])]; rfl
  have hover : 300 < n + m → D (rest s q) = none := fun h => by rw [hD, if_neg (by rw [HN.out]; omega)]; rfl
  have hne : m + mm ≠ 65535 → D (rest s q) = none := fun h => by rw [hD, if_neg (fun hh => h hh.1)]; rfl
  have hpk := packN_snoc s q
  have HPK := Lib.hid hpk
  have hlen : ∀ k, (l ++ packN k (rest s q)).length = n + k := fun k => by rw [List.length_append, packN_length, HN.out]
  have HLEN := Lib.hid hlen
  clear hD hpk hlen A1 A2 A3 HE HE2 HE3
  by_cases hm : m + mm = 65535
  case' pos =>
    have hm' : ((m : Int) != ((65535 - mm : Nat) : Int)) = false := by simp; omega
    generalize 65535 - mm = mx at *
    go_wp2_with fail
    obtain ⟨x4, hx4⟩ : ∃ x4, x4 = x3 := ⟨_, rfl⟩
    obtain ⟨w4, hw4⟩ : ∃ w4, w4 = w3 := ⟨_, rfl⟩
    have R4 : IR w4 g s q x4 := by rw [hx4, hw4]; exact hw3
    have B4 : By w4 r cap l := by rw [hw4]; exact hb3
    have K4 : RowKit.Hid (Kp [g, r] w w4) := by rw [hw4]; exact HK
    have F1 : ∀ k, k ≤ m → (x4 || decide (8 * s.size < q + 8 * k)) = true → x3 = true ∨ D (rest s q) = none := fun k hk e => by
      simp only [Bool.or_eq_true, decide_eq_true_eq] at e
      rcases e with e | e
      · exact .inl (hx4 ▸ e)
      · exact .inr (hbad hm (by omega))
    have F2 : x4 = false → q + 8 * m ≤ 8 * s.size → n + m ≤ 300 → x3 = false ∧ D (rest s q) = some (l ++ packN m (rest s q), rest s (q + 8 * m)) := fun e h1 h2 => ⟨hx4 ▸ e, hgood hm h1 h2⟩
    have F3 : x4 = false → 300 < n + m → x3 = false ∧ D (rest s q) = none := fun e h1 => ⟨hx4 ▸ e, hover h1⟩
    clear hm' hbad hgood hover hne hx4
    subst hw4
  case' neg =>
    have hm' : ((m : Int) != ((65535 - mm : Nat) : Int)) = true := by simp; omega
    generalize 65535 - mm = mx at *
    have fr : ∀ i, w3.frozen? ⟨g, i, none⟩ = false := hw3.out.frozen
    have c2 := (hw3.out.cell 2).trans rfl
    go_wp2_with fail
    obtain ⟨x4, hx4⟩ : ∃ x4, x4 = true := ⟨_, rfl⟩
    have R4 : IR (w3.setCell ⟨g, 2, none⟩ (.bool true)) g s q x4 := by rw [hx4]; exact ⟨hw3.out.set 2 (.bool true), hw3.le, hw3.sz⟩
    have K34 : Kp [g] w3 (w3.setCell ⟨g, 2, none⟩ (.bool true)) := (Kp.refl _ _).set (.inl (by simp)) _
    have B4 := hb3.kp K34 (by simpa using Ne.symm hgr)
    have K4 : RowKit.Hid (Kp [g, r] w (w3.setCell ⟨g, 2, none⟩ (.bool true))) := Lib.hid (HK.out.set (.inl (by simp)) _)
    have F1 : ∀ k, k ≤ m → (x4 || decide (8 * s.size < q + 8 * k)) = true → x3 = true ∨ D (rest s q) = none := fun k hk e => .inr (hne hm)
    have F2 : x4 = false → q + 8 * m ≤ 8 * s.size → n + m ≤ 300 → x3 = false ∧ D (rest s q) = some (l ++ packN m (rest s q), rest s (q + 8 * m)) := fun e => by rw [hx4] at e; cases e
    have F3 : x4 = false → 300 < n + m → x3 = false ∧ D (rest s q) = none := fun e => by rw [hx4] at e; cases e
    clear hm' hbad hgood hover hne K34 fr c2
    generalize w3.setCell ⟨g, 2, none⟩ (.bool true) = w4 at *
    clear hx4
  all_goals
    have H1 := Lib.hid F1
    have H2 := Lib.hid F2
    have H3 := Lib.hid F3
    clear F1 F2 F3
    go_loopw [1, 7] (fun o x wr => ∃ (k r' cap' : Nat), x = .int .i64 (k : Int) ∧ k ≤ m ∧ o = .slice (some ⟨r', 0, none⟩) (n + k) cap' ∧ IR wr g s (min (q + 8 * k) (8 * s.size)) (x4 || decide (8 * s.size < q + 8 * k)) ∧ By wr r' cap' (l ++ packN k (rest s q)) ∧ Kp [g, r] w4 wr ∧ (r' = r ∨ w4.heap.size ≤ r') ∧ g ≠ r' ∧ n + k ≤ 301) (fun _ x _ => m - (intOf x).toNat)
    case atStart =>
      refine ⟨0, r, cap, rfl, by omega, rfl, ?_, ?_, Kp.refl _ _, .inl rfl, hgr, by omega⟩
      · rw [Nat.mul_zero, Nat.add_zero, Nat.min_eq_left R4.le, show decide (8 * s.size < q) = false from by simp; exact R4.le, Bool.or_false]
        exact R4
      · simpa [packN] using B4
    case round =>
      obtain ⟨k, r', cap', rfl, hk, rfl, hr, hB, K, hr', hgr', hnk⟩ := hrel
      have hlk := HLEN.out k
      have hexit : (x4 || decide (8 * s.size < q + 8 * k)) = true ∨ k = m ∨ 300 < n + k → AnsO (De.stored l) s p b (l ++ packN k (rest s q)) (min (q + 8 * k) (8 * s.size)) (x4 || decide (8 * s.size < q + 8 * k)) := fun hc => by
        refine HF.out _ _ _ ⟨fun e => H1.out k hk e, fun e => ?_⟩
        have e' := e
        simp only [Bool.or_eq_false_iff, decide_eq_false_iff_not] at e'
        rw [hlk, Nat.min_eq_left (by omega)]
        rcases hc with hc | hc | hc
        · rw [e] at hc; cases hc
        · subst hc
          by_cases h3 : n + k ≤ 300
          · obtain ⟨a1, a2⟩ := H2.out e'.1 (by omega) h3
            exact ⟨a1, fun _ => a2, fun h => by omega⟩
          · obtain ⟨a1, a2⟩ := H3.out e'.1 (by omega)
            exact ⟨a1, fun h => by omega, fun _ => a2⟩
        · obtain ⟨a1, a2⟩ := H3.out e'.1 (by omega)
          exact ⟨a1, fun h => by omega, fun _ => a2⟩
      have hK0 := HK
      have hKK := K4.out.then K
      have hrw : r' = r ∨ w.heap.size ≤ r' := by have := K4.out.size; omega
      have hby : Bytes wr r' (.slice (some ⟨r', 0, none⟩) (n + k) cap') (l ++ packN k (rest s q)) := by have := hB.out; rw [hlk] at this; exact this
      have hpk := HPK.out k
      have HEX := Lib.hid hexit
      have HP := Lib.hid hpk
      have HG := Lib.hid (get_calls g 8 s _ _ wr hr (by omega))
      have HLK := Lib.hid hlk
      have hx8 := numAt_lt s (q + 8 * k) 8
      have hmn : numAt s (min (q + 8 * k) (8 * s.size)) 8 = numAt s (q + 8 * k) 8 := numAt_min s _ _
      rw [hmn] at HG
      have c2 := (hr.out.cell 2).trans rfl
      have hrl4 := hr.le
      clear hexit hpk hlk hmn
      generalize hbx : (x4 || decide (8 * s.size < q + 8 * k)) = bx at *
      have HBX := Lib.hid hbx
      clear hbx
      generalize numAt s (q + 8 * k) 8 = x at *
      have hslice : (l ++ packN k (rest s q)).length = n + k := HLK.out
      by_cases hkm : k = m
      · subst hkm
        go_wp2_with fail
        go_ret
        refine ⟨_, rfl, ⟨_, bx, r', cap', _, hr, hKK, hrw, HEX.out (.inr (.inl trivial)), fun _ => ⟨by rw [hslice]; rfl, hB, by rw [hslice]; omega⟩⟩⟩
      · have hkm' : (k : Int) < m := by omega
        cases bx with
        | true =>
          go_wp2_with fail
          go_ret
          refine ⟨_, rfl, ⟨_, true, r', cap', _, hr, hKK, hrw, HEX.out (.inl trivial), fun e => by cases e⟩⟩
        | false =>
          by_cases h3 : n + k ≤ 300
          · have h3' : ((n + k : Nat) : Int) ≤ 300 := by omega
            have h3'' : (n : Int) + (k : Int) ≤ 300 := by omega
            have hu8 : IntKind.u8.wrap (x : Int) = (x : Int) := wr_u8 _ (by omega) (by omega)
            go_wp2_with fail
            refine HG.out.mono ?_
            rintro e w5 ⟨rfl, hr5, K5⟩
            have hby5 := hby.kp K5 (by simpa using Ne.symm hgr')
            go_wp2_with (at_builtin; go_must (refine wpList_byte (x := x) rfl _ _ rfl rfl hby5 rfl (by rw [hslice]; omega) ?_); intro r6 cap6 w6 hby6 hr6 hrl6 K6 hc1 hc2)
            go_roundw
            case rel =>
              have hz := K.size
              have hz5 := K5.size
              have hgl4 := R4.out.lt
              have hg6 : g ≠ r6 := by rcases hr6 with e | e <;> omega
              refine ⟨k + 1, r6, cap6, by go_num, by omega, ?_, ?_, ?_, ?_, by omega, hg6, by omega⟩
              · rfl
              · have hr6' := hr5.kp K6 (by simpa using hgr')
                have e1 : min (min (q + 8 * k) (8 * s.size) + 8) (8 * s.size) = min (q + 8 * (k + 1)) (8 * s.size) := by omega
                have e2 : (false || decide (8 * s.size < min (q + 8 * k) (8 * s.size) + 8)) = (x4 || decide (8 * s.size < q + 8 * (k + 1))) := by
                  have hb0 := HBX.out
                  simp only [Bool.or_eq_false_iff, decide_eq_false_iff_not] at hb0
                  rw [hb0.1, Bool.eq_iff_iff]; simp; omega
                rw [e1, e2] at hr6'
                exact hr6'
              · rw [HP.out, ← List.append_assoc]
                refine ⟨?_⟩
                rw [List.length_append]
                exact hby6
              · refine (K.then (K5.mono (fun y hy => .inl (by simp at hy ⊢; exact .inl hy)))).trans K6 (fun y hy => ?_)
                simp at hy ⊢; omega
            case measure => simp [intOf]; omega
          · have h3' : decide (((n + k : Nat) : Int) ≤ 300) = false := by simp; omega
            have h3'' : decide ((n : Int) + (k : Int) ≤ 300) = false := by simp; omega
            go_wp2_with fail
            go_ret
            refine ⟨_, rfl, ⟨_, false, r', cap', _, hr, hKK, hrw, HEX.out (.inr (.inr (by omega))), fun _ => ⟨by rw [hslice]; rfl, hB, by rw [hslice]; omega⟩⟩⟩
end Go.Proofs.YtnadjlejlohgiaaGreatDoor.Wi

