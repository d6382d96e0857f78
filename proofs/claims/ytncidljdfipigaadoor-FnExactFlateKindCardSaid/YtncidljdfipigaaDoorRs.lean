/- The program's reader takes a symbol. Conditions: a reader, a book of lengths that are ok. -/
import Derived.Test.YtncidljdfipigaaDoorBk
import Derived.Test.YtncidljdfipigaaDoorRi
import Derived.Test.YtncidljdfipigaaDoorDe
namespace Go.Proofs.YtncidljdfipigaaDoor.Wi
open Go.RowKit Go.Proofs.YtncidljdfipigaaDoor.Mem Go.Proofs.YtncidljdfipigaaDoor.Bt Go.Proofs.YtncidljdfipigaaDoor.Cd Go.Proofs.YtncidljdfipigaaDoor.De
set_option linter.unusedVariables false
set_option linter.unusedSimpArgs false
/-- What a reader that was at p (bad or not) has taken by a plain way of reading, and where it is now. -/
structure Ans {α : Type} (d : Dec α) (s : ByteArray) (p : Nat) (b : Bool) (x : α) (p' : Nat) (b' : Bool) : Prop where mk ::
  bad : b' = true → b = true ∨ d (rest s p) = none
  good : b' = false → b = false ∧ d (rest s p) = some (x, rest s p')
section
variable {α β : Type} {d : Dec α} {k : α → Dec β} {s : ByteArray} {p p1 p2 : Nat} {b b1 b2 : Bool} {x : α} {y : β}
theorem Ans.next (h : Ans d s p b x p1 b1) (h2 : Ans (k x) s p1 b1 y p2 b2) : Ans (next d k) s p b y p2 b2 := by
  refine ⟨fun e => ?_, fun e => ?_⟩
  · cases hb1 : b1 with
    | true => rcases h.bad hb1 with a | a
              · exact .inl a
              · exact .inr (next_none a)
    | false => obtain ⟨a1, a2⟩ := h.good hb1
               rcases h2.bad e with a | a
               · rw [hb1] at a; cases a
               · exact .inr (by rw [next_some a2]; exact a)
  · obtain ⟨c1, c2⟩ := h2.good e
    obtain ⟨a1, a2⟩ := h.good c1
    exact ⟨a1, by rw [next_some a2]; exact c2⟩
/-- It was bad already, or the way of reading fails: it is bad. -/
theorem Ans.out (h : Ans d s p b x p1 true) (d2 : Dec β) (hd : d (rest s p) = none → d2 (rest s p) = none) (y : β) (p2 : Nat) : Ans d2 s p b y p2 true :=
  ⟨fun _ => (h.bad rfl).imp id hd, fun e => by cases e⟩
theorem Ans.ret (x : α) (s : ByteArray) (p : Nat) (b : Bool) : Ans (De.ret x) s p b x p b := ⟨fun e => .inl e, fun e => ⟨e, rfl⟩⟩
theorem Ans.fail (s : ByteArray) (p p' : Nat) (b : Bool) (x : α) : Ans (De.bad : Dec α) s p b x p' true := ⟨fun _ => .inr rfl, fun e => by cases e⟩
theorem Ans.mono (h : Ans d s p b x p1 b1) (e : b = true) : b1 = true := by
  cases hb1 : b1 with
  | true => rfl
  | false => have := (h.good hb1).1; rw [e] at this; cases this
end
theorem ans_num {s : ByteArray} {p n : Nat} {b : Bool} (hp : p ≤ 8 * s.size) : Ans (num n) s p b (numAt s p n) (min (p + n) (8 * s.size)) (b || decide (8 * s.size < p + n)) := by
  refine ⟨fun e => ?_, fun e => ?_⟩
  · simp only [Bool.or_eq_true, decide_eq_true_eq] at e
    rcases e with e | e
    · exact .inl e
    · exact .inr (by unfold num; rw [if_neg (by rw [rest_length]; omega)])
  · simp only [Bool.or_eq_false_iff, decide_eq_false_iff_not] at e
    refine ⟨e.1, ?_⟩
    unfold num
    rw [if_pos (by rw [rest_length]; omega), rest_drop, Nat.min_eq_left (by omega)]; rfl
theorem symGo_step {lens : List Nat} {f l c : Nat} {s : ByteArray} {q : Nat} (h : q < 8 * s.size) : symGo lens (f + 1) l c (rest s q) = match find lens l (2 * c + numAt s q 1) with
    | some k => some (k, rest s (q + 1))
    | none => symGo lens f (l + 1) (2 * c + numAt s q 1) (rest s (q + 1)) := by
  rw [numAt_one h, rest_cons h]
  conv => lhs; unfold symGo
  rw [b1_mod, chars_at s (by omega : q / 8 < s.size)]
  cases find lens l (2 * c + s[q / 8].toNat / 2 ^ (q % 8) % 2) <;> rfl
theorem symGo_end {lens : List Nat} {f l c : Nat} {s : ByteArray} {q : Nat} (h : 8 * s.size ≤ q) : symGo lens f l c (rest s q) = none := by
  rw [rest_end h]
  cases f <;> rfl
set_option maxRecDepth 100000 in
theorem rsym_calls (lens : List Nat) (m g n : Nat) (s : ByteArray) (p : Nat) (b : Bool) (w : World) (hw : IR w g s p b) (hB : Book w m (upto lens n)) (hn : lens.length = n) (hgm : m ≠ g) :
    Calls Tryd.prog 88 #[.pointer (some ⟨g, 0, none⟩), .map (some m)] w fun e w' => ∃ (x p' : Nat) (b' : Bool), e = .returned (.int .i64 (x : Int)) ∧ IR w' g s p' b' ∧ Ans (sym lens) s p b x p' b' ∧ (x = 0 ∨ x < n) ∧ Kp [g] w w' := by
  have HN := Lib.hid hn
  clear hn
  go_enter Tryd.func88, Tryd.ntmps88
  go_wp2_with fail
  go_loopw [5, 6] (fun y x wr => ∃ (l c q : Nat) (b' : Bool), x = .int .i64 (l : Int) ∧ 1 ≤ l ∧ l ≤ 16 ∧ y = .int .i64 (c : Int) ∧ c < 2 ^ (l - 1) ∧ IR wr g s q b' ∧ Kp [g] w wr ∧ (b' = true → b = true ∨ sym lens (rest s p) = none) ∧ (b' = false → b = false ∧ sym lens (rest s p) = symGo lens (16 - l) l c (rest s q))) (fun _ x _ => 16 - (intOf x).toNat)
  case atStart => exact ⟨1, 0, p, b, rfl, by omega, by omega, rfl, by decide, hw, Kp.refl _ _, fun e => .inl e, fun e => ⟨e, rfl⟩⟩
  case round =>
    obtain ⟨l, c, q, b', rfl, hl1, hl, rfl, hc, hr, K, hbad, hgood⟩ := hrel
    by_cases hlt : l ≤ 15
    · have hlt' : (l : Int) ≤ 15 := by omega
      have hp : 2 ^ (l - 1) ≤ 2 ^ 14 := Nat.pow_le_pow_right (by omega) (by omega)
      have hp2 : 2 ^ (l + 1 - 1) = 2 * 2 ^ (l - 1) := by rw [show l + 1 - 1 = (l - 1) + 1 from by omega, Nat.pow_succ, Nat.mul_comm]
      have hx := numAt_lt s q 1
      have HC := Lib.hid (bit_calls g s q b' wr hr)
      have hql := hr.le
      have hB2 := hB.kp K (by simp; exact hgm)
      obtain ⟨x, hxx⟩ : ∃ x, numAt s q 1 = x := ⟨_, rfl⟩
      rw [hxx] at hx
      have HX := Lib.hid hxx
      have e1 : IntKind.i64.wrap (2 * (c : Int)) = 2 * (c : Int) := by rw [IntKind.wrap_i64]; omega
      have e2 : IntKind.i64.wrap (2 * (c : Int) + (x : Int)) = ((2 * c + x : Nat) : Int) := by rw [IntKind.wrap_i64]; omega
      have hbad2 : (b' || decide (8 * s.size < q + 1)) = true → b = true ∨ sym lens (rest s p) = none := fun e => by
        simp only [Bool.or_eq_true, decide_eq_true_eq] at e
        cases hb' : b' with
        | true => exact hbad hb'
        | false =>
          right
          rw [(hgood hb').2]
          exact symGo_end (by rcases e with e | e; · rw [hb'] at e; cases e
                              · omega)
      have hgood2 : (b' || decide (8 * s.size < q + 1)) = false → b = false ∧ sym lens (rest s p) = match find lens l (2 * c + x) with
          | some k => some (k, rest s (min (q + 1) (8 * s.size)))
          | none => symGo lens (16 - (l + 1)) (l + 1) (2 * c + x) (rest s (min (q + 1) (8 * s.size))) := fun e => by
        simp only [Bool.or_eq_false_iff, decide_eq_false_iff_not] at e
        obtain ⟨g1, g2⟩ := hgood e.1
        refine ⟨g1, ?_⟩
        rw [g2, show 16 - l = (16 - (l + 1)) + 1 from by omega, symGo_step (by omega), HX.out, Nat.min_eq_left (by omega)]
      have hf := upto_all lens (c := 2 * c + x) hl1
      rw [HN.out] at hf
      have hc2 : 2 * c + x < 2 * 2 ^ (l - 1) := by omega
      rw [← hp2] at hc2
      obtain ⟨cx, hcx⟩ : ∃ cx, 2 * c + x = cx := ⟨_, rfl⟩
      rw [hcx] at e2 hf hc2 hgood2
      have hcx5 : cx < 100000 := by omega
      clear hbad hgood hxx hcx hp2 hp
      go_wp2_with fail
      refine HC.out.mono ?_
      rintro e w2 ⟨rfl, hr2, K2⟩
      rw [HX.out]
      have hB3 := hB2.kp K2 (by simp; exact hgm)
      have hlk := hB3.find (c := cx) (l := l) hcx5 (by omega)
      rw [hf] at hlk
      have c2 := (hr2.out.cell 2).trans rfl
      generalize hbb : (b' || decide (8 * s.size < q + 1)) = bb at *
      generalize hqq : min (q + 1) (8 * s.size) = qq at *
      have K3 := K.then K2
      unfold pc at hlk
      cases hfi : find lens l cx with
      | none =>
        rw [hfi] at hlk hgood2
        simp only at hlk hgood2
        go_wp2_with fail
        go_roundw
        case rel => exact ⟨l + 1, cx, qq, bb, by go_num, by omega, by omega, rfl, hc2, hr2, K3, hbad2, hgood2⟩
        case measure => simp [intOf]; omega
      | some k =>
        rw [hfi] at hlk hgood2
        simp only at hlk hgood2
        have hkn := (find_some hfi).1
        rw [HN.out] at hkn
        cases bb with
        | true =>
          go_wp2_with fail
          go_roundw
          case rel => exact ⟨l + 1, cx, qq, true, by go_num, by omega, by omega, rfl, hc2, hr2, K3, fun _ => hbad2 trivial, fun e => by cases e⟩
          case measure => simp [intOf]; omega
        | false =>
          go_wp2_with fail
          go_ret
          exact ⟨k, qq, false, rfl, hr2, ⟨fun e => (by cases e), fun _ => hgood2 trivial⟩, .inr hkn, K3⟩
    · obtain rfl : l = 16 := by omega
      have c2 := (hr.out.cell 2).trans rfl
      have fr : ∀ i, wr.frozen? ⟨g, i, none⟩ = false := hr.out.frozen
      go_wp2_with fail
      go_ret
      refine ⟨0, q, true, rfl, ⟨?_, hr.le, hr.sz⟩, ⟨fun _ => ?_, fun e => by cases e⟩, .inl rfl, K.set (.inl (by simp)) _⟩
      · exact hr.out.set 2 (.bool true)
      · cases hb' : b' with
        | true => exact hbad hb'
        | false => exact .inr (hgood hb').2
end Go.Proofs.YtncidljdfipigaaDoor.Wi
