/- Own texts joined: Ri, Rs, Ad, Rt, Rq, Wy, Ws, WCode, WLad. -/
import Derived.Deep.QuietTactic
import Derived.BigQuiet
import Derived.Deep.DeepCutAuto
import Derived.Deep.RegionHeld3
import Derived.WalkKit
import Derived.Deep.AppendLies
import Derived.Deep.RegionLaw
import Derived.Test.YtncidljdfipigaaDoorZ0
import Derived.Test.YtncidljdfipigaaDoorZ1
import Derived.Test.YtncidljdfipigaaDoorZ2
/- The program's reader of bits: what bit, get and even do. Conditions: a reader of a text. -/
namespace Go.Proofs.YtncidljdfipigaaDoor.Wi
open Go.RowKit Go.Proofs.YtncidljdfipigaaDoor.Mem Go.Proofs.YtncidljdfipigaaDoor.Bt
set_option linter.unusedVariables false
set_option linter.unusedSimpArgs false
/-- The bits of a text from a place on. -/
def rest (s : ByteArray) (p : Nat) : List Bool := (unpack (chars s)).drop p
theorem unpack_get : ∀ (l : List Nat) {k : Nat}, k < 8 * l.length → (unpack l)[k]? = some (l.getD (k / 8) 0 / 2 ^ (k % 8) % 2 == 1)
  | [], k, h => by simp at h
  | x :: l, k, h => by
    have e : unpack (x :: l) = bitsOf x 8 ++ unpack l := rfl
    rw [e]
    by_cases h8 : k < 8
    · rw [List.getElem?_append_left (by rw [bits_length]; exact h8), show k / 8 = 0 from by omega, show k % 8 = k from by omega]
      have : ∀ (n m j : Nat), j < n → (bitsOf m n)[j]? = some (m / 2 ^ j % 2 == 1) := by
        intro n
        induction n with
        | zero => intro m j hj; omega
        | succ n ih =>
          intro m j hj
          cases j with
          | zero => simp [bitsOf]
          | succ j => simp only [bitsOf, List.getElem?_cons_succ]; rw [ih (m / 2) j (by omega), Nat.div_div_eq_div_mul, Nat.pow_succ, Nat.mul_comm 2]
      exact this 8 x k h8
    · rw [List.getElem?_append_right (by rw [bits_length]; omega), bits_length, unpack_get l (by simp only [List.length_cons] at h; omega), show k / 8 = (k - 8) / 8 + 1 from by omega, show k % 8 = (k - 8) % 8 from by omega]; rfl
theorem unpack_length : ∀ (l : List Nat), (unpack l).length = 8 * l.length
  | [] => rfl
  | x :: l => by
    have e : unpack (x :: l) = bitsOf x 8 ++ unpack l := rfl
    rw [e, List.length_append, bits_length, unpack_length l, List.length_cons]; omega
theorem rest_length (s : ByteArray) (p : Nat) : (rest s p).length = 8 * s.size - p := by unfold rest; rw [List.length_drop, unpack_length, chars_length]
theorem rest_cons {s : ByteArray} {p : Nat} (h : p < 8 * s.size) : rest s p = ((chars s).getD (p / 8) 0 / 2 ^ (p % 8) % 2 == 1) :: rest s (p + 1) := by
  unfold rest
  have hl : p < (unpack (chars s)).length := by rw [unpack_length, chars_length]; exact h
  have := unpack_get (chars s) (k := p) (by rw [chars_length]; exact h)
  rw [List.getElem?_eq_getElem hl] at this
  rw [List.drop_eq_getElem_cons hl, Option.some.inj this]
theorem rest_end {s : ByteArray} {p : Nat} (h : 8 * s.size ≤ p) : rest s p = [] := List.eq_nil_of_length_eq_zero (by rw [rest_length]; omega)
theorem rest_drop (s : ByteArray) (p n : Nat) : (rest s p).drop n = rest s (p + n) := by unfold rest; rw [List.drop_drop]
/-- The program's reader at block g: the text, where it is, whether it is bad. -/
structure IR (w : World) (g : Nat) (s : ByteArray) (p : Nat) (bad : Bool) : Prop where mk ::
  out : Blk w g 54 #[.string s, .int .i64 (p : Int), .bool bad]
  le : p ≤ 8 * s.size
  sz : s.size ≤ 1000000
/-- The number of n bits from p on, where there are as many. -/
def numAt (s : ByteArray) (p n : Nat) : Nat := val ((rest s p).take n)
theorem IR.kp {w w' : World} {g p : Nat} {s : ByteArray} {b : Bool} {S : List Nat} (h : IR w g s p b) (k : Kp S w w') (hg : g ∉ S) : IR w' g s p b := ⟨k.blk h.out hg, h.le, h.sz⟩
theorem IR.on {w w' : World} {g p : Nat} {s : ByteArray} {b : Bool} (h : IR w g s p b) (O : On w w') : IR w' g s p b := h.kp (Kp.of [] O) (by simp)
theorem numAt_one {s : ByteArray} {p : Nat} (h : p < 8 * s.size) : numAt s p 1 = s[p / 8].toNat / 2 ^ (p % 8) % 2 := by
  unfold numAt
  rw [rest_cons h, chars_at s (by omega : p / 8 < s.size)]
  show b1 _ + 2 * 0 = _
  rw [b1_mod, Nat.mul_zero, Nat.add_zero]
theorem numAt_end {s : ByteArray} {p n : Nat} (h : 8 * s.size ≤ p) : numAt s p n = 0 := by unfold numAt; rw [rest_end h]; simp [val]
theorem numAt_lt (s : ByteArray) (p n : Nat) : numAt s p n < 2 ^ n := Nat.lt_of_lt_of_le (val_lt _) (Nat.pow_le_pow_right (by omega) (by rw [List.length_take]; omega))
theorem numAt_succ (s : ByteArray) (p n : Nat) : numAt s p (n + 1) = numAt s p n + 2 ^ n * numAt s (p + n) 1 := by
  unfold numAt
  by_cases h : p + n < 8 * s.size
  · have hl : n < (rest s p).length := by rw [rest_length]; omega
    rw [List.take_succ_eq_append_getElem hl, val_append, List.length_take, Nat.min_eq_left (by omega)]
    have e : rest s (p + n) = (rest s p)[n] :: rest s (p + n + 1) := by rw [← rest_drop, List.drop_eq_getElem_cons hl, show p + n + 1 = p + (n + 1) from rfl, ← rest_drop s p (n + 1)]
    rw [e]; rfl
  · have h1 : (rest s p).length ≤ n := by rw [rest_length]; omega
    rw [rest_end (s := s) (p := p + n) (by omega), List.take_of_length_le (Nat.le_succ_of_le h1), List.take_of_length_le h1]; simp [val]
set_option maxRecDepth 100000 in
theorem bit_calls (g : Nat) (s : ByteArray) (p : Nat) (b : Bool) (w : World) (hw : IR w g s p b) :
    Calls Tryd.prog 51 #[.pointer (some ⟨g, 0, none⟩)] w fun e w' => e = .returned (.int .i64 (numAt s p 1 : Nat)) ∧ IR w' g s (min (p + 1) (8 * s.size)) (b || decide (8 * s.size < p + 1)) ∧ Kp [g] w w' := by
  obtain ⟨hb, hle, hsz⟩ := hw
  have c0 : w.cell? ⟨g, 0, none⟩ = some (.string s) := (hb.cell 0).trans rfl
  have c1 : w.cell? ⟨g, 1, none⟩ = some (.int .i64 p) := (hb.cell 1).trans rfl
  have c2 : w.cell? ⟨g, 2, none⟩ = some (.bool b) := (hb.cell 2).trans rfl
  have fr : ∀ i, w.frozen? ⟨g, i, none⟩ = false := hb.frozen
  have e0 : IntKind.i64.wrap (8 * (s.size : Int)) = 8 * (s.size : Int) := by rw [IntKind.wrap_i64]; omega
  by_cases h : p < 8 * s.size
  · have hi : (p : Int) < 8 * s.size := by omega
    have hi2 : decide (8 * (s.size : Int) ≤ (p : Int)) = false := by simp; omega
    obtain ⟨q, k, hq, hpq, hpk, hv⟩ : ∃ q k, ∃ hq : q < s.size, p / 8 = q ∧ p % 8 = k ∧ numAt s p 1 = s[q].toNat / 2 ^ k % 2 := ⟨p / 8, p % 8, by omega, rfl, rfl, numAt_one h⟩
    have e1 : IntKind.i64.wrap ((p : Int) / 8) = (q : Int) := by rw [IntKind.wrap_i64]; omega
    have e2 : Int.tmod (p : Int) 8 = (k : Int) := by rw [show (8 : Int) = ((8 : Nat) : Int) from rfl, tmod_nat, hpk]
    have e3 : Int.tdiv (p : Int) 8 = (q : Int) := by rw [show (8 : Int) = ((8 : Nat) : Int) from rfl, tdiv_nat, hpq]
    have hq2 : (q : Int) < s.size := by omega
    have hk2 : (k : Int) < 64 := by omega
    have HV := Lib.hid hv
    clear hv hpq hpk
    go_enter Tryd.func51, Tryd.ntmps51
    go_wp2_with fail
    go_quiet (fail)
    go_wp2_with fail
    go_quiet (fail)
    go_wp2_with fail
    go_ret
    have hx : s[q].toNat < 256 := s[q].toNat_lt
    have ew : wrap64 (s[q].toNat : Int) = (s[q].toNat : Int) := by unfold wrap64; omega
    refine ⟨?_, ⟨?_, Nat.min_le_right _ _, hsz⟩, ?_⟩
    · show Ending.returned (.int .i64 _) = _
      rw [ew, HV.out, bit_and _ _ (by omega)]
    · rw [Nat.min_eq_left (by omega), show decide (8 * s.size < p + 1) = false from by simp; omega, Bool.or_false]
      exact ((hb.drewN _).set 1 (.int .i64 ((p : Int) + 1)))
    · exact ((Kp.refl [g] w).drewN _).set (.inl (by simp)) _
  · have hi : 8 * (s.size : Int) ≤ p := by omega
    go_enter Tryd.func51, Tryd.ntmps51
    go_wp2_with fail
    go_quiet (fail)
    go_wp2_with fail
    go_ret
    refine ⟨by rw [numAt_end (by omega)]; rfl, ⟨?_, Nat.min_le_right _ _, hsz⟩, ?_⟩
    · rw [show min (p + 1) (8 * s.size) = p from by omega, show decide (8 * s.size < p + 1) = true from by simp; omega, Bool.or_true]
      exact ((hb.drewN _).set 2 (.bool true))
    · exact ((Kp.refl [g] w).drewN _).set (.inl (by simp)) _
theorem numAt_min (s : ByteArray) (p n : Nat) : numAt s (min p (8 * s.size)) n = numAt s p n := by
  by_cases h : p ≤ 8 * s.size
  · rw [Nat.min_eq_left h]
  · rw [Nat.min_eq_right (by omega), numAt_end (by omega), numAt_end (by omega)]
theorem or_bit64 {x y k : Nat} (hx : x < 2) (hk : k < 17) (hy : y < 2 ^ k) : Go.bits .or .i64 (y : Int) ((2 ^ k * x : Nat) : Int) = ((y + 2 ^ k * x : Nat) : Int) ∧ IntKind.i64.wrap ((x : Int) * 2 ^ k) = ((2 ^ k * x : Nat) : Int) := by
  have h1 : 2 ^ k ≤ 2 ^ 16 := Nat.pow_le_pow_right (by omega) (by omega)
  have h2 : 2 ^ k * x ≤ 2 ^ k * 1 := Nat.mul_le_mul_left _ (by omega)
  have e : (2 : Int) ^ k = ((2 ^ k : Nat) : Int) := by simp
  have ec : ∀ a b : Int, Go.bits .or .i64 a b = Go.bits .or .i64 b a := fun a b => by simp only [Go.bits]; rw [BitVec.or_comm]
  refine ⟨?_, ?_⟩
  · rw [ec, bits_join .i64 63 (by decide) wr_i64 k ((2 ^ k * x : Nat) : Int) (y : Int) (by omega) (by rw [e, Int.natCast_mul, Int.mul_emod_right]) (by omega) (by omega) (by rw [e]; omega) (by omega)]
    omega
  · rw [e, ← Int.natCast_mul, Nat.mul_comm, IntKind.wrap_i64]; omega
set_option maxRecDepth 100000 in
theorem get_calls (g n : Nat) (s : ByteArray) (p : Nat) (b : Bool) (w : World) (hw : IR w g s p b) (hn : n ≤ 16) :
    Calls Tryd.prog 52 #[.pointer (some ⟨g, 0, none⟩), .int .i64 (n : Int)] w fun e w' => e = .returned (.int .i64 (numAt s p n : Nat)) ∧ IR w' g s (min (p + n) (8 * s.size)) (b || decide (8 * s.size < p + n)) ∧ Kp [g] w w' := by
  go_enter Tryd.func52, Tryd.ntmps52
  go_wp2_with fail
  go_loopw [5, 8] (fun y x wr => ∃ (k : Nat), x = .int .i64 k ∧ k ≤ n ∧ y = .int .i64 (numAt s p k : Nat) ∧ IR wr g s (min (p + k) (8 * s.size)) (b || decide (8 * s.size < p + k)) ∧ Kp [g] w wr) (fun _ x _ => n - (intOf x).toNat)
  case atStart =>
    have hle := hw.le
    refine ⟨0, rfl, by omega, by simp [numAt, val], ?_, Kp.refl _ _⟩
    rw [Nat.add_zero, Nat.min_eq_left hle, show decide (8 * s.size < p) = false from by simp; omega, Bool.or_false]
    exact hw
  case round =>
    obtain ⟨k, rfl, hk, rfl, hr, K⟩ := hrel
    by_cases hlt : k < n
    · have hc := bit_calls g s _ _ wr hr
      rw [numAt_min] at hc
      have hx := numAt_lt s (p + k) 1
      have hy := numAt_lt s p k
      obtain ⟨o1, o2⟩ := or_bit64 (show numAt s (p + k) 1 < 2 from hx) (show k < 17 by omega) hy
      have hs := numAt_succ s p k
      have hk2 : (k : Int) < 64 := by omega
      have hk3 : (k : Int) < n := by omega
      have hy0 : (0 : Int) ≤ k := by omega
      have HS := Lib.hid hs
      have HC := Lib.hid hc
      clear hs hc
      generalize numAt s (p + k) 1 = x at *
      generalize numAt s p k = y at *
      generalize 2 ^ k * x = z at *
      go_wp2_with fail
      refine HC.out.mono ?_
      rintro e w2 ⟨rfl, hr2, K2⟩
      go_wp2_with fail
      go_roundw
      case rel =>
        refine ⟨k + 1, by go_num, by omega, by rw [HS.out, Int.natCast_add], ?_, K.then K2⟩
        have e1 : min (min (p + k) (8 * s.size) + 1) (8 * s.size) = min (p + (k + 1)) (8 * s.size) := by omega
        have e2 : ((b || decide (8 * s.size < p + k)) || decide (8 * s.size < min (p + k) (8 * s.size) + 1)) = (b || decide (8 * s.size < p + (k + 1))) := by
          rw [Bool.or_assoc]; congr 1
          rw [Bool.eq_iff_iff]; simp; omega
        rw [e1, e2] at hr2
        exact hr2
      case measure => simp [intOf]; omega
    · obtain rfl : k = n := by omega
      go_wp2_with fail
      go_ret
      exact ⟨rfl, hr, K⟩
/-- Where the next whole byte begins; whether all ahead of it is noughts. -/
def evenAt (p : Nat) : Nat := (p + 7) / 8 * 8
def padOk (s : ByteArray) (p : Nat) : Bool := ((rest s p).take (evenAt p - p)).all (!·)
set_option maxRecDepth 100000 in
theorem reven_calls (g : Nat) (s : ByteArray) (p : Nat) (b : Bool) (w : World) (hw : IR w g s p b) :
    Calls Tryd.prog 57 #[.pointer (some ⟨g, 0, none⟩)] w fun e w' => e = .returned (.tuple #[]) ∧ IR w' g s (evenAt p) (b || !padOk s p) ∧ Kp [g] w w' := by
  go_enter Tryd.func57, Tryd.ntmps57
  have hle := hw.le
  go_wp2_with fail
  go_loopw [7] (fun _ wr => ∃ (q : Nat), p ≤ q ∧ q ≤ evenAt p ∧ IR wr g s q (b || !(((rest s p).take (q - p)).all (!·))) ∧ Kp [g] w wr) (fun _ wr => match wr.cell? ⟨g, 1, none⟩ with | some x => 8 * s.size - (intOf x).toNat | none => 0)
  case atStart =>
    refine ⟨p, Nat.le_refl _, by unfold evenAt; omega, ?_, Kp.refl _ _⟩
    simpa using hw
  case round =>
    obtain ⟨q, hpq, hq, hr, K⟩ := hrel
    have B := hr.out
    have hql := hr.le
    have c1 : wr.cell? ⟨g, 1, none⟩ = some (.int .i64 q) := (B.cell 1).trans rfl
    have e2 : Int.tmod (q : Int) 8 = ((q % 8 : Nat) : Int) := tmod_nat q 8
    by_cases h8 : q % 8 = 0
    · have hqe : q = evenAt p := by unfold evenAt at *; omega
      rw [h8] at e2
      go_wp2_with fail
      go_end0
      refine ⟨rfl, ?_, K⟩
      unfold padOk
      rw [← hqe]; exact hr
    · have hqn : q + 1 ≤ evenAt p := by unfold evenAt at *; omega
      have hqs : q < 8 * s.size := by omega
      have h8' : ((((q % 8 : Nat) : Int)) == 0) = false := by simp; omega
      have hc := bit_calls g s _ _ wr hr
      have HC := Lib.hid hc
      clear hc
      have hs : ((rest s p).take (q + 1 - p)).all (!·) = (((rest s p).take (q - p)).all (!·) && (numAt s q 1 == 0)) := by
        have hl : q - p < (rest s p).length := by rw [rest_length]; omega
        rw [show q + 1 - p = (q - p) + 1 from by omega, List.take_succ_eq_append_getElem hl, List.all_append]
        have e : rest s q = (rest s p)[q - p] :: rest s (q + 1) := by
          have := rest_drop s p (q - p)
          rw [show p + (q - p) = q from by omega] at this
          have h3 := rest_drop s p (q + 1 - p)
          rw [show p + (q + 1 - p) = q + 1 from by omega] at h3
          rw [← this, ← h3, List.drop_eq_getElem_cons hl, show q - p + 1 = q + 1 - p from by omega]
        unfold numAt
        rw [e]
        cases (rest s p)[q - p] <;> rfl
      have HS := Lib.hid hs
      clear hs
      have hx := numAt_lt s q 1
      obtain ⟨x, hxx⟩ : ∃ x, numAt s q 1 = x := ⟨_, rfl⟩
      rw [hxx] at hx
      have HX := Lib.hid hxx
      clear hxx
      by_cases h0 : x = 0
      case' pos =>
        subst h0
        go_wp2_with fail
        refine HC.out.mono ?_
        rintro e w2 ⟨rfl, hr2, K2⟩
        rw [HX.out]
        go_wp2_with fail
        obtain ⟨w3, hw3⟩ : ∃ w3, w3 = w2 := ⟨_, rfl⟩
        have hr3 : IR w3 g s (q + 1) (b || !(((rest s p).take (q + 1 - p)).all (!·))) := by
          rw [HS.out, HX.out, hw3]
          rw [Nat.min_eq_left (by omega), show decide (8 * s.size < q + 1) = false from by simp; omega, Bool.or_false] at hr2
          simpa using hr2
        have K3 : Kp [g] wr w3 := hw3 ▸ K2
        subst hw3
      case' neg =>
        have hx1 : x = 1 := by omega
        subst hx1
        go_wp2_with fail
        refine HC.out.mono ?_
        rintro e w2 ⟨rfl, hr2, K2⟩
        rw [HX.out]
        have fr : ∀ i, w2.frozen? ⟨g, i, none⟩ = false := hr2.out.frozen
        have d0 : w2.cell? ⟨g, 0, none⟩ = some (.string s) := (hr2.out.cell 0).trans rfl
        have d2 := (hr2.out.cell 2).trans rfl
        go_wp2_with fail
        have hr3 : IR (w2.setCell ⟨g, 2, none⟩ (.bool true)) g s (q + 1) (b || !(((rest s p).take (q + 1 - p)).all (!·))) := by
          rw [HS.out, HX.out]
          rw [Nat.min_eq_left (by omega)] at hr2
          refine ⟨?_, by omega, hr2.sz⟩
          have := hr2.out.set 2 (.bool true)
          simpa using this
        have K3 : Kp [g] wr (w2.setCell ⟨g, 2, none⟩ (.bool true)) := K2.set (.inl (by simp)) _
        generalize w2.setCell ⟨g, 2, none⟩ (.bool true) = w3 at *
      all_goals
        go_roundw
        case rel => exact ⟨q + 1, by omega, hqn, hr3, K.then K3⟩
        case measure =>
          have c3 : w3.cell? ⟨g, 1, none⟩ = some (.int .i64 ((q + 1 : Nat) : Int)) := (hr3.out.cell 1).trans rfl
          rw [c3, c1]
          simp [intOf]; omega
end Go.Proofs.YtncidljdfipigaaDoor.Wi

/- The program's reader takes a symbol. Conditions: a reader, a book of lengths that are ok. -/
namespace Go.Proofs.YtncidljdfipigaaDoor.Wi
open Go.RowKit Go.Proofs.YtncidljdfipigaaDoor.Mem Go.Proofs.YtncidljdfipigaaDoor.Bt Go.Proofs.YtncidljdfipigaaDoor.Cd Go.Proofs.YtncidljdfipigaaDoor.De
set_option linter.unusedVariables false
set_option linter.unusedSimpArgs false
/-- What a reader that was at p (bad or not) has taken by a plain way of reading, and where it is now. -/
structure Ans {α : Type} (d : Dec α) (s : ByteArray) (p : Nat) (b : Bool) (x : α) (p' : Nat) (b' : Bool) : Prop where mk ::
  bad : b' = true → b = true ∨ d (rest s p) = none
  good : b' = false → b = false ∧ d (rest s p) = some (x, rest s p')
section
variable {α β : Type} {d : Dec α} {k : α → Dec β} {s : ByteArray} {p p1 p2 : Nat} {b b1 b2 : Bool} {x : α} {y : β}
theorem Ans.next (h : Ans d s p b x p1 b1) (h2 : Ans (k x) s p1 b1 y p2 b2) : Ans (next d k) s p b y p2 b2 := by
  refine ⟨fun e => ?_, fun e => ?_⟩
  · cases hb1 : b1 with
    | true => rcases h.bad hb1 with a | a
              · exact .inl a
              · exact .inr (next_none a)
    | false => obtain ⟨a1, a2⟩ := h.good hb1
               rcases h2.bad e with a | a
               · rw [hb1] at a; cases a
               · exact .inr (by rw [next_some a2]; exact a)
  · obtain ⟨c1, c2⟩ := h2.good e
    obtain ⟨a1, a2⟩ := h.good c1
    exact ⟨a1, by rw [next_some a2]; exact c2⟩
/-- It was bad already, or the way of reading fails: it is bad. -/
theorem Ans.out (h : Ans d s p b x p1 true) (d2 : Dec β) (hd : d (rest s p) = none → d2 (rest s p) = none) (y : β) (p2 : Nat) : Ans d2 s p b y p2 true :=
  ⟨fun _ => (h.bad rfl).imp id hd, fun e => by cases e⟩
theorem Ans.ret (x : α) (s : ByteArray) (p : Nat) (b : Bool) : Ans (De.ret x) s p b x p b := ⟨fun e => .inl e, fun e => ⟨e, rfl⟩⟩
theorem Ans.fail (s : ByteArray) (p p' : Nat) (b : Bool) (x : α) : Ans (De.bad : Dec α) s p b x p' true := ⟨fun _ => .inr rfl, fun e => by cases e⟩
theorem Ans.mono (h : Ans d s p b x p1 b1) (e : b = true) : b1 = true := by
  cases hb1 : b1 with
  | true => rfl
  | false => have := (h.good hb1).1; rw [e] at this; cases this
end
theorem ans_num {s : ByteArray} {p n : Nat} {b : Bool} (hp : p ≤ 8 * s.size) : Ans (num n) s p b (numAt s p n) (min (p + n) (8 * s.size)) (b || decide (8 * s.size < p + n)) := by
  refine ⟨fun e => ?_, fun e => ?_⟩
  · simp only [Bool.or_eq_true, decide_eq_true_eq] at e
    rcases e with e | e
    · exact .inl e
    · exact .inr (by unfold num; rw [if_neg (by rw [rest_length]; omega)])
  · simp only [Bool.or_eq_false_iff, decide_eq_false_iff_not] at e
    refine ⟨e.1, ?_⟩
    unfold num
    rw [if_pos (by rw [rest_length]; omega), rest_drop, Nat.min_eq_left (by omega)]; rfl
theorem symGo_step {lens : List Nat} {f l c : Nat} {s : ByteArray} {q : Nat} (h : q < 8 * s.size) : symGo lens (f + 1) l c (rest s q) = match find lens l (2 * c + numAt s q 1) with
    | some k => some (k, rest s (q + 1))
    | none => symGo lens f (l + 1) (2 * c + numAt s q 1) (rest s (q + 1)) := by
  rw [numAt_one h, rest_cons h]
  conv => lhs; unfold symGo
  rw [b1_mod, chars_at s (by omega : q / 8 < s.size)]
  cases find lens l (2 * c + s[q / 8].toNat / 2 ^ (q % 8) % 2) <;> rfl
theorem symGo_end {lens : List Nat} {f l c : Nat} {s : ByteArray} {q : Nat} (h : 8 * s.size ≤ q) : symGo lens f l c (rest s q) = none := by
  rw [rest_end h]
  cases f <;> rfl
set_option maxRecDepth 100000 in
theorem rsym_calls (lens : List Nat) (m g n : Nat) (s : ByteArray) (p : Nat) (b : Bool) (w : World) (hw : IR w g s p b) (hB : Book w m (upto lens n)) (hn : lens.length = n) (hgm : m ≠ g) :
    Calls Tryd.prog 88 #[.pointer (some ⟨g, 0, none⟩), .map (some m)] w fun e w' => ∃ (x p' : Nat) (b' : Bool), e = .returned (.int .i64 (x : Int)) ∧ IR w' g s p' b' ∧ Ans (sym lens) s p b x p' b' ∧ (x = 0 ∨ x < n) ∧ Kp [g] w w' := by
  have HN := Lib.hid hn
  clear hn
  go_enter Tryd.func88, Tryd.ntmps88
  go_wp2_with fail
  go_loopw [5, 6] (fun y x wr => ∃ (l c q : Nat) (b' : Bool), x = .int .i64 (l : Int) ∧ 1 ≤ l ∧ l ≤ 16 ∧ y = .int .i64 (c : Int) ∧ c < 2 ^ (l - 1) ∧ IR wr g s q b' ∧ Kp [g] w wr ∧ (b' = true → b = true ∨ sym lens (rest s p) = none) ∧ (b' = false → b = false ∧ sym lens (rest s p) = symGo lens (16 - l) l c (rest s q))) (fun _ x _ => 16 - (intOf x).toNat)
  case atStart => exact ⟨1, 0, p, b, rfl, by omega, by omega, rfl, by decide, hw, Kp.refl _ _, fun e => .inl e, fun e => ⟨e, rfl⟩⟩
  case round =>
    obtain ⟨l, c, q, b', rfl, hl1, hl, rfl, hc, hr, K, hbad, hgood⟩ := hrel
    by_cases hlt : l ≤ 15
    · have hlt' : (l : Int) ≤ 15 := by omega
      have hp : 2 ^ (l - 1) ≤ 2 ^ 14 := Nat.pow_le_pow_right (by omega) (by omega)
      have hp2 : 2 ^ (l + 1 - 1) = 2 * 2 ^ (l - 1) := by rw [show l + 1 - 1 = (l - 1) + 1 from by omega, Nat.pow_succ, Nat.mul_comm]
      have hx := numAt_lt s q 1
      have HC := Lib.hid (bit_calls g s q b' wr hr)
      have hql := hr.le
      have hB2 := hB.kp K (by simp; exact hgm)
      obtain ⟨x, hxx⟩ : ∃ x, numAt s q 1 = x := ⟨_, rfl⟩
      rw [hxx] at hx
      have HX := Lib.hid hxx
      have e1 : IntKind.i64.wrap (2 * (c : Int)) = 2 * (c : Int) := by rw [IntKind.wrap_i64]; omega
      have e2 : IntKind.i64.wrap (2 * (c : Int) + (x : Int)) = ((2 * c + x : Nat) : Int) := by rw [IntKind.wrap_i64]; omega
      have hbad2 : (b' || decide (8 * s.size < q + 1)) = true → b = true ∨ sym lens (rest s p) = none := fun e => by
        simp only [Bool.or_eq_true, decide_eq_true_eq] at e
        cases hb' : b' with
        | true => exact hbad hb'
        | false =>
          right
          rw [(hgood hb').2]
          exact symGo_end (by rcases e with e | e; · rw [hb'] at e; cases e
                              · omega)
      have hgood2 : (b' || decide (8 * s.size < q + 1)) = false → b = false ∧ sym lens (rest s p) = match find lens l (2 * c + x) with
          | some k => some (k, rest s (min (q + 1) (8 * s.size)))
          | none => symGo lens (16 - (l + 1)) (l + 1) (2 * c + x) (rest s (min (q + 1) (8 * s.size))) := fun e => by
        simp only [Bool.or_eq_false_iff, decide_eq_false_iff_not] at e
        obtain ⟨g1, g2⟩ := hgood e.1
        refine ⟨g1, ?_⟩
        rw [g2, show 16 - l = (16 - (l + 1)) + 1 from by omega, symGo_step (by omega), HX.out, Nat.min_eq_left (by omega)]
      have hf := upto_all lens (c := 2 * c + x) hl1
      rw [HN.out] at hf
      have hc2 : 2 * c + x < 2 * 2 ^ (l - 1) := by omega
      rw [← hp2] at hc2
      obtain ⟨cx, hcx⟩ : ∃ cx, 2 * c + x = cx := ⟨_, rfl⟩
      rw [hcx] at e2 hf hc2 hgood2
      have hcx5 : cx < 100000 := by omega
      clear hbad hgood hxx hcx hp2 hp
      go_wp2_with fail
      refine HC.out.mono ?_
      rintro e w2 ⟨rfl, hr2, K2⟩
      rw [HX.out]
      have hB3 := hB2.kp K2 (by simp; exact hgm)
      have hlk := hB3.find (c := cx) (l := l) hcx5 (by omega)
      rw [hf] at hlk
      have c2 := (hr2.out.cell 2).trans rfl
      generalize hbb : (b' || decide (8 * s.size < q + 1)) = bb at *
      generalize hqq : min (q + 1) (8 * s.size) = qq at *
      have K3 := K.then K2
      unfold pc at hlk
      cases hfi : find lens l cx with
      | none =>
        rw [hfi] at hlk hgood2
        simp only at hlk hgood2
        go_wp2_with fail
        go_roundw
        case rel => exact ⟨l + 1, cx, qq, bb, by go_num, by omega, by omega, rfl, hc2, hr2, K3, hbad2, hgood2⟩
        case measure => simp [intOf]; omega
      | some k =>
        rw [hfi] at hlk hgood2
        simp only at hlk hgood2
        have hkn := (find_some hfi).1
        rw [HN.out] at hkn
        cases bb with
        | true =>
          go_wp2_with fail
          go_roundw
          case rel => exact ⟨l + 1, cx, qq, true, by go_num, by omega, by omega, rfl, hc2, hr2, K3, fun _ => hbad2 trivial, fun e => by cases e⟩
          case measure => simp [intOf]; omega
        | false =>
          go_wp2_with fail
          go_ret
          exact ⟨k, qq, false, rfl, hr2, ⟨fun e => (by cases e), fun _ => hgood2 trivial⟩, .inr hkn, K3⟩
    · obtain rfl : l = 16 := by omega
      have c2 := (hr.out.cell 2).trans rfl
      have fr : ∀ i, wr.frozen? ⟨g, i, none⟩ = false := hr.out.frozen
      go_wp2_with fail
      go_ret
      refine ⟨0, q, true, rfl, ⟨?_, hr.le, hr.sz⟩, ⟨fun _ => ?_, fun e => by cases e⟩, .inl rfl, K.set (.inl (by simp)) _⟩
      · exact hr.out.set 2 (.bool true)
      · cases hb' : b' with
        | true => exact hbad hb'
        | false => exact .inr (hgood hb').2
end Go.Proofs.YtncidljdfipigaaDoor.Wi

/- The program adds to bytes what a token tells that leads back. Conditions: a row of bytes, sizes. -/
namespace Go.Proofs.YtncidljdfipigaaDoor.Wi
open Go.RowKit Go.Proofs.YtncidljdfipigaaDoor.Mem Go.Proofs.YtncidljdfipigaaDoor.Bt Go.Proofs.YtncidljdfipigaaDoor.Lz
set_option linter.unusedVariables false
set_option linter.unusedSimpArgs false
def backOk (n L B : Nat) : Prop := 3 ≤ L ∧ L ≤ 60 ∧ 1 ≤ B ∧ B ≤ 250 ∧ B ≤ n
instance (n L B : Nat) : Decidable (backOk n L B) := by unfold backOk; infer_instance
theorem add_back {l : List Nat} {L B : Nat} (h1 : 1 ≤ L) : add l ⟨0, (L : Int), (B : Int)⟩ = if backOk l.length L B then some (copy l B L) else none := by
  unfold add
  rw [if_neg (by simp; omega)]
  by_cases h : backOk l.length L B
  · rw [if_pos h]
    unfold backOk at h
    rw [if_pos (by simp; omega)]; rfl
  · rw [if_neg h]
    unfold backOk at h
    rw [if_neg (by simp; omega)]
/-- A slice that is not nil, of bytes at block r. -/
structure By (w : World) (r cap : Nat) (l : List Nat) : Prop where mk ::
  out : Bytes w r (.slice (some ⟨r, 0, none⟩) l.length cap) l
theorem By.lt {w : World} {r cap : Nat} {l : List Nat} (h : By w r cap l) : r < w.heap.size := by
  rcases h.out.own.2 with ⟨h1, _⟩ | ⟨g, c, cur, hv, _, hh, _⟩
  · cases h1
  · have : g = r := h.out.at_ g (by rw [hv]; rfl)
    subst this
    rcases Nat.lt_or_ge g w.heap.size with h | h
    · exact h
    · rw [Array.getElem?_eq_none h] at hh; cases hh
theorem By.cell {w : World} {r cap : Nat} {l : List Nat} (h : By w r cap l) {i : Nat} (hi : i < l.length) : w.cell? ⟨r, i, none⟩ = some (.int .u8 (l.getD i 0 : Nat)) := by
  obtain ⟨_, _, _, _, R⟩ := h.out.parts (by intro e; rw [e] at hi; simp at hi)
  exact R.cell (u8s_get hi)
theorem By.kp {S : List Nat} {w w' : World} {r cap : Nat} {l : List Nat} (h : By w r cap l) (k : Kp S w w') (hr : r ∉ S) : By w' r cap l := ⟨h.out.kp k hr⟩
theorem By.on {w w' : World} {r cap : Nat} {l : List Nat} (h : By w r cap l) (O : On w w') : By w' r cap l := h.kp (Kp.of [] O) (by simp)
/-- What a call on a row of bytes leaves: all but its block; the row may lie in new memory. -/
structure Mb (r : Nat) (w : World) (r' : Nat) (w' : World) : Prop where
  kp : Kp [r] w w'
  at_ : r' = r ∨ w.heap.size ≤ r'
theorem Mb.refl (r : Nat) (w : World) : Mb r w r w := ⟨Kp.refl _ _, .inl rfl⟩
theorem Mb.trans {r r1 r2 : Nat} {w w1 w2 : World} (h : Mb r w r1 w1) (k : Mb r1 w1 r2 w2) : Mb r w r2 w2 := by
  refine ⟨h.kp.trans k.kp (fun x hx => ?_), ?_⟩
  · simp only [List.mem_singleton] at hx ⊢
    rcases h.at_ with e | e <;> omega
  · have := h.kp.size
    rcases k.at_ with e | e
    · rw [e]; exact h.at_
    · right; omega
set_option maxRecDepth 100000 in
theorem iadd_calls (r cap n L B : Nat) (l : List Nat) (w : World) (hb : By w r cap l) (hn : l.length = n) (hn2 : n ≤ 1000) (hL : 1 ≤ L) (hL2 : L ≤ 100000) (hB2 : B ≤ 100000) :
    Calls Tryd.prog 89 #[.slice (some ⟨r, 0, none⟩) n cap, .agg #[.int .i64 0, .int .i64 (L : Int), .int .i64 (B : Int)]] w fun e w' =>
      (backOk n L B ∧ ∃ r' cap', e = .returned (.tuple #[.slice (some ⟨r', 0, none⟩) (n + L) cap', .bool true]) ∧ By w' r' cap' (copy l B L) ∧ Mb r w r' w') ∨
      (¬ backOk n L B ∧ e = .returned (.tuple #[.slice none 0 0, .bool false]) ∧ On w w') := by
  have HN := Lib.hid hn
  clear hn
  have hm : (if (n : Int) < 250 then (n : Int) else 250) = ((min 250 n : Nat) : Int) := by split <;> omega
  have hm2 : (if (250 : Int) ≤ (n : Int) then (250 : Int) else (n : Int)) = ((min 250 n : Nat) : Int) := by split <;> omega
  have hL0 : ((L : Int) == 0) = false := by simp; omega
  have BA := Blk.new w 67 #[.int .i64 0, .int .i64 (L : Int), .int .i64 (B : Int)]
  have OA := (On.refl w).alloc (.cells #[.int .i64 0, .int .i64 (L : Int), .int .i64 (B : Int)] 67)
  have hrl := hb.lt
  by_cases h1 : 3 ≤ L ∧ L ≤ 60
  · by_cases h2 : 1 ≤ B ∧ B ≤ min 250 n
    · have hok : backOk n L B := by unfold backOk; omega
      go_enter Tryd.func89, Tryd.ntmps89
      go_wp2_with fail
      refine (within_yes _ (by omega) (by omega)).mono ?_
      rintro e w2 ⟨rfl, hw⟩
      obtain rfl : _ = w2 := hw.symm
      go_wp2_with fail
      refine (within_yes _ (by omega) (by omega)).mono ?_
      rintro e w2 ⟨rfl, hw⟩
      obtain rfl : _ = w2 := hw.symm
      have hz : w.heap.size ≠ r := by omega
      have hb1 := hb.on OA
      have hml : ∀ k, (copy l B k).length = n + k := fun k => by rw [copy_length, HN.out]
      have HML := Lib.hid hml
      have c1 : (w.alloc (.cells #[.int .i64 0, .int .i64 (L : Int), .int .i64 (B : Int)] 67)).cell? ⟨w.heap.size, 1, none⟩ = some (.int .i64 (L : Int)) := (BA.cell 1).trans rfl
      have hbs := BA.lt
      have HOK := Lib.hid hok
      clear hml hm hm2 hok
      generalize w.heap.size = tb at *
      generalize w.alloc (.cells #[.int .i64 0, .int .i64 (L : Int), .int .i64 (B : Int)] 67) = w1 at *
      go_wp2_with fail
      go_loopw [0, 44] (fun o x wr => ∃ (k r' cap' : Nat), x = .int .i64 (k : Int) ∧ k ≤ L ∧ o = .slice (some ⟨r', 0, none⟩) (n + k) cap' ∧ By wr r' cap' (copy l B k) ∧ Mb r w1 r' wr) (fun _ x _ => L - (intOf x).toNat)
      case atStart => exact ⟨0, r, cap, rfl, by omega, rfl, hb1, Mb.refl _ _⟩
      case round =>
        obtain ⟨k, r', cap', rfl, hk, rfl, hB, M⟩ := hrel
        by_cases hlt : k < L
        · have hlen := HML.out k
          have hr' : tb ≠ r' := by rcases M.at_ with e | e <;> omega
          have BT := M.kp.blk BA (by simp; exact hz)
          have d2 : wr.cell? ⟨tb, 2, none⟩ = some (.int .i64 (B : Int)) := (BT.cell 2).trans rfl
          have hbk := HOK.out
          unfold backOk at hbk
          have hi : n + k - B < (copy l B k).length := by rw [hlen]; omega
          have hcell := hB.cell hi
          have hst : copy l B (k + 1) = copy l B k ++ [(copy l B k).getD (n + k - B) 0] := by rw [copy, hlen]
          have hby : Bytes wr r' (.slice (some ⟨r', 0, none⟩) (n + k) cap') (copy l B k) := by have := hB.out; rw [hlen] at this; exact this
          have HST := Lib.hid hst
          have HLEN := Lib.hid hlen
          have hk2 : (k : Int) < L := by omega
          clear hst hlen hi hbk
          generalize copy l B k = lk at *
          generalize lk.getD (n + k - B) 0 = x at *
          obtain ⟨m, hm⟩ : ∃ m, n + k = m := ⟨_, rfl⟩
          have e1 : IntKind.i64.wrap ((m : Int) - (B : Int)) = ((m - B : Nat) : Int) := by have := HOK.out; unfold backOk at this; rw [IntKind.wrap_i64]; omega
          have e2 : ((m - B : Nat) : Int) < m := by have := HOK.out; unfold backOk at this; omega
          rw [hm] at hcell hby ⊢
          have HM := Lib.hid hm
          have hmle : m ≤ 101000 := by omega
          clear hm
          generalize m - B = mb at *
          go_wp2_with (at_builtin; go_must (refine wpList_byte (x := x) rfl _ _ rfl rfl hby rfl (by rw [HLEN.out, HM.out]; omega) ?_); intro r2 cap2 w2 hby2 hr2 hrl2 K2 hc1 hc2)
          go_roundw
          case rel =>
            refine ⟨k + 1, r2, cap2, by go_num, by omega, ?_, ?_, ?_⟩
            · rw [HLEN.out]; rfl
            · rw [HST.out]
              refine ⟨?_⟩
              rw [List.length_append]
              exact hby2
            · exact M.trans ⟨K2, hr2⟩
          case measure => simp [intOf]; omega
        · obtain rfl : k = L := by omega
          go_wp2_with fail
          go_ret2
          refine .inl ⟨HOK.out, r', cap', rfl, hB, ?_⟩
          refine ⟨(Kp.of [r] OA).then M.kp, ?_⟩
          have := OA.size
          rcases M.at_ with e | e <;> omega
    · go_enter Tryd.func89, Tryd.ntmps89
      go_wp2_with fail
      refine (within_yes _ (by omega) (by omega)).mono ?_
      rintro e w2 ⟨rfl, hw⟩
      obtain rfl : _ = w2 := hw.symm
      go_wp2_with fail
      refine (within_no _ (by omega)).mono ?_
      rintro e w2 ⟨rfl, hw⟩
      obtain rfl : _ = w2 := hw.symm
      go_wp2_with fail
      go_ret2
      exact .inr ⟨by unfold backOk; omega, rfl, OA⟩
  · go_enter Tryd.func89, Tryd.ntmps89
    go_wp2_with fail
    refine (within_no _ (by omega)).mono ?_
    rintro e w2 ⟨rfl, hw⟩
    obtain rfl : _ = w2 := hw.symm
    go_wp2_with fail
    go_ret2
    exact .inr ⟨by unfold backOk; omega, rfl, OA⟩
end Go.Proofs.YtncidljdfipigaaDoor.Wi

/- The program's reader takes a part that is not packed. Conditions: a reader, a row of bytes. -/
namespace Go.Proofs.YtncidljdfipigaaDoor.Wi
open Go.RowKit Go.Proofs.YtncidljdfipigaaDoor.Mem Go.Proofs.YtncidljdfipigaaDoor.Bt Go.Proofs.YtncidljdfipigaaDoor.Cd Go.Proofs.YtncidljdfipigaaDoor.De
set_option linter.unusedVariables false
set_option linter.unusedSimpArgs false
/-- What a reader has taken behind bytes; more than 300 of them count as nothing. -/
structure AnsO (d : Dec (List Nat)) (s : ByteArray) (p : Nat) (b : Bool) (l : List Nat) (p' : Nat) (b' : Bool) : Prop where mk ::
  bad : b' = true → b = true ∨ d (rest s p) = none
  good : b' = false → b = false ∧ (l.length ≤ 300 → d (rest s p) = some (l, rest s p')) ∧ (300 < l.length → d (rest s p) = none)
section
variable {α : Type} {d : Dec α} {k : α → Dec (List Nat)} {s : ByteArray} {p p1 p2 : Nat} {b b1 b2 : Bool} {x : α} {y : List Nat}
theorem AnsO.next (h : Ans d s p b x p1 b1) (h2 : AnsO (k x) s p1 b1 y p2 b2) : AnsO (next d k) s p b y p2 b2 := by
  refine ⟨fun e => ?_, fun e => ?_⟩
  · cases hb1 : b1 with
    | true => rcases h.bad hb1 with a | a
              · exact .inl a
              · exact .inr (next_none a)
    | false => obtain ⟨a1, a2⟩ := h.good hb1
               rcases h2.bad e with a | a
               · rw [hb1] at a; cases a
               · exact .inr (by rw [next_some a2]; exact a)
  · obtain ⟨c1, c2, c3⟩ := h2.good e
    obtain ⟨a1, a2⟩ := h.good c1
    exact ⟨a1, fun hl => by rw [next_some a2]; exact c2 hl, fun hl => by rw [next_some a2]; exact c3 hl⟩
theorem AnsO.fail (s : ByteArray) (p p' : Nat) (b : Bool) (l : List Nat) : AnsO (De.bad : Dec (List Nat)) s p b l p' true := ⟨fun _ => .inr rfl, fun e => by cases e⟩
theorem AnsO.was (d : Dec (List Nat)) (s : ByteArray) (p p' : Nat) (l : List Nat) : AnsO d s p true l p' true := ⟨fun _ => .inl rfl, fun e => by cases e⟩
theorem AnsO.any {d : Dec (List Nat)} (h : AnsO d s p b y p1 true) (y2 : List Nat) (p2 : Nat) : AnsO d s p b y2 p2 true := ⟨fun _ => h.bad rfl, fun e => by cases e⟩
end
theorem ans_align {s : ByteArray} {p : Nat} {b : Bool} (hp : p ≤ 8 * s.size) : Ans align s p b () (evenAt p) (b || !padOk s p) := by
  have h8 : (8 * s.size - p) % 8 = evenAt p - p := by unfold evenAt; omega
  have h9 : p ≤ evenAt p := by unfold evenAt; omega
  have he : align (rest s p) = if padOk s p = true then some ((), rest s (evenAt p)) else none := by
    unfold align padOk
    rw [rest_length, h8, rest_drop, show p + (evenAt p - p) = evenAt p from by omega]
  refine ⟨fun e => ?_, fun e => ?_⟩
  · cases b with
    | true => exact .inl rfl
    | false =>
      have : padOk s p = false := by simpa using e
      exact .inr (by rw [he, this]; rfl)
  · simp only [Bool.or_eq_false_iff, Bool.not_eq_false'] at e
    exact ⟨e.1, by rw [he, if_pos e.2]⟩
theorem packN_snoc (s : ByteArray) (q : Nat) : ∀ k, packN (k + 1) (rest s q) = packN k (rest s q) ++ [numAt s (q + 8 * k) 8] := by
  intro k
  induction k generalizing q with
  | zero => rfl
  | succ k ih =>
    have e1 : packN (k + 1 + 1) (rest s q) = val ((rest s q).take 8) :: packN (k + 1) ((rest s q).drop 8) := rfl
    have e2 : packN (k + 1) (rest s q) = val ((rest s q).take 8) :: packN k ((rest s q).drop 8) := rfl
    rw [e1, e2, rest_drop, ih (q + 8), show q + 8 + 8 * k = q + 8 * (k + 1) from by omega]; rfl
theorem packN_length : ∀ (n : Nat) (bs : List Bool), (packN n bs).length = n
  | 0, _ => rfl
  | n + 1, bs => by rw [packN]; simp [packN_length n]
/-- What a call of the reader leaves that adds to bytes: all but the reader's block and the row's. -/
structure Out (d : Dec (List Nat)) (s : ByteArray) (p : Nat) (b : Bool) (g r : Nat) (w : World) (v : Value) (w' : World) : Prop where mk ::
  out : ∃ (p' : Nat) (b' : Bool) (r' cap' : Nat) (l' : List Nat), IR w' g s p' b' ∧ Kp [g, r] w w' ∧ (r' = r ∨ w.heap.size ≤ r') ∧ AnsO d s p b l' p' b' ∧ (b' = false → v = .slice (some ⟨r', 0, none⟩) l'.length cap' ∧ By w' r' cap' l' ∧ l'.length ≤ 1000)
set_option maxRecDepth 100000 in
theorem rstored_calls (g r cap n : Nat) (s : ByteArray) (p : Nat) (b : Bool) (l : List Nat) (w : World) (hw : IR w g s p b) (hb : By w r cap l) (hn : l.length = n) (hn2 : n ≤ 300) (hgr : g ≠ r) :
    Calls Tryd.prog 53 #[.pointer (some ⟨g, 0, none⟩), .slice (some ⟨r, 0, none⟩) n cap] w fun e w' => ∃ v, e = .returned v ∧ Out (De.stored l) s p b g r w v w' := by
  have HN := Lib.hid hn
  clear hn
  have HE := Lib.hid (reven_calls g s p b w hw)
  have A1 := Lib.hid (ans_align (b := b) hw.le)
  have hp := hw.le
  have hgl := hw.out.lt
  have hrl := hb.lt
  go_enter Tryd.func53, Tryd.ntmps53
  go_wp2_with fail
  refine HE.out.mono ?_
  rintro e w1 ⟨rfl, hw1, K1⟩
  have hb1 := hb.kp K1 (by simpa using Ne.symm hgr)
  generalize hq1 : evenAt p = q1 at *
  generalize hx1 : (b || !padOk s p) = x1 at *
  have A2 := Lib.hid (ans_num (n := 16) (b := x1) hw1.le)
  have HE2 := Lib.hid (get_calls g 16 s q1 x1 w1 hw1 (by omega))
  go_wp2_with fail
  refine HE2.out.mono ?_
  rintro e w2 ⟨rfl, hw2, K2⟩
  have hb2 := hb1.kp K2 (by simpa using Ne.symm hgr)
  have hm1 := numAt_lt s q1 16
  generalize hq2 : min (q1 + 16) (8 * s.size) = q2 at *
  generalize hx2 : (x1 || decide (8 * s.size < q1 + 16)) = x2 at *
  have A3 := Lib.hid (ans_num (n := 16) (b := x2) hw2.le)
  have HE3 := Lib.hid (get_calls g 16 s q2 x2 w2 hw2 (by omega))
  generalize numAt s q1 16 = m at *
  go_wp2_with fail
  refine HE3.out.mono ?_
  rintro e w3 ⟨rfl, hw3, K3⟩
  have hb3 := hb2.kp K3 (by simpa using Ne.symm hgr)
  have hm2 := numAt_lt s q2 16
  generalize hq3 : min (q2 + 16) (8 * s.size) = q at *
  generalize hx3 : (x2 || decide (8 * s.size < q2 + 16)) = x3 at *
  generalize numAt s q2 16 = mm at *
  have hfin : ∀ (l' : List Nat) (p' : Nat) (b' : Bool), AnsO (if m + mm = 65535 ∧ l.length + m ≤ 300 then next (De.bytes m) fun x => ret (l ++ x) else De.bad) s q x3 l' p' b' → AnsO (De.stored l) s p b l' p' b' := fun l' p' b' h =>
    AnsO.next A1.out (AnsO.next A2.out (AnsO.next A3.out h))
  have HF := Lib.hid hfin
  have K := (K1.then K2).then K3
  have HK : RowKit.Hid (Kp [g, r] w w3) := Lib.hid (K.mono (fun x hx => .inl (by simp at hx ⊢; exact .inl hx)))
  clear hfin K
  have e1 : IntKind.i64.wrap (65535 - (mm : Int)) = ((65535 - mm : Nat) : Int) := by rw [IntKind.wrap_i64]; omega
  obtain ⟨D, hD⟩ : ∃ D : Dec (List Nat), D = (if m + mm = 65535 ∧ l.length + m ≤ 300 then next (De.bytes m) fun x => ret (l ++ x) else De.bad) := ⟨_, rfl⟩
  rw [← hD] at HF
  have hbad : m + mm = 65535 → 8 * s.size < q + 8 * m → D (rest s q) = none := fun _ hlt => by
    rw [hD]
    split
    · exact next_none (by unfold De.bytes; rw [if_neg (by rw [rest_length]; omega)])
    · rfl
  have hgood : m + mm = 65535 → q + 8 * m ≤ 8 * s.size → n + m ≤ 300 → D (rest s q) = some (l ++ packN m (rest s q), rest s (q + 8 * m)) := fun h1 h2 h3 => by
    rw [hD, if_pos ⟨h1, by rw [HN.out]; exact h3⟩]
    rw [next_some (x := packN m (rest s q)) (r := rest s (q + 8 * m)) (by unfold De.bytes; rw [if_pos (by rw [rest_length]; omega), rest_drop])]; rfl
  have hover : 300 < n + m → D (rest s q) = none := fun h => by rw [hD, if_neg (by rw [HN.out]; omega)]; rfl
  have hne : m + mm ≠ 65535 → D (rest s q) = none := fun h => by rw [hD, if_neg (fun hh => h hh.1)]; rfl
  have hpk := packN_snoc s q
  have HPK := Lib.hid hpk
  have hlen : ∀ k, (l ++ packN k (rest s q)).length = n + k := fun k => by rw [List.length_append, packN_length, HN.out]
  have HLEN := Lib.hid hlen
  clear hD hpk hlen A1 A2 A3 HE HE2 HE3
  by_cases hm : m + mm = 65535
  case' pos =>
    have hm' : ((m : Int) != ((65535 - mm : Nat) : Int)) = false := by simp; omega
    generalize 65535 - mm = mx at *
    go_wp2_with fail
    obtain ⟨x4, hx4⟩ : ∃ x4, x4 = x3 := ⟨_, rfl⟩
    obtain ⟨w4, hw4⟩ : ∃ w4, w4 = w3 := ⟨_, rfl⟩
    have R4 : IR w4 g s q x4 := by rw [hx4, hw4]; exact hw3
    have B4 : By w4 r cap l := by rw [hw4]; exact hb3
    have K4 : RowKit.Hid (Kp [g, r] w w4) := by rw [hw4]; exact HK
    have F1 : ∀ k, k ≤ m → (x4 || decide (8 * s.size < q + 8 * k)) = true → x3 = true ∨ D (rest s q) = none := fun k hk e => by
      simp only [Bool.or_eq_true, decide_eq_true_eq] at e
      rcases e with e | e
      · exact .inl (hx4 ▸ e)
      · exact .inr (hbad hm (by omega))
    have F2 : x4 = false → q + 8 * m ≤ 8 * s.size → n + m ≤ 300 → x3 = false ∧ D (rest s q) = some (l ++ packN m (rest s q), rest s (q + 8 * m)) := fun e h1 h2 => ⟨hx4 ▸ e, hgood hm h1 h2⟩
    have F3 : x4 = false → 300 < n + m → x3 = false ∧ D (rest s q) = none := fun e h1 => ⟨hx4 ▸ e, hover h1⟩
    clear hm' hbad hgood hover hne hx4
    subst hw4
  case' neg =>
    have hm' : ((m : Int) != ((65535 - mm : Nat) : Int)) = true := by simp; omega
    generalize 65535 - mm = mx at *
    have fr : ∀ i, w3.frozen? ⟨g, i, none⟩ = false := hw3.out.frozen
    have c2 := (hw3.out.cell 2).trans rfl
    go_wp2_with fail
    obtain ⟨x4, hx4⟩ : ∃ x4, x4 = true := ⟨_, rfl⟩
    have R4 : IR (w3.setCell ⟨g, 2, none⟩ (.bool true)) g s q x4 := by rw [hx4]; exact ⟨hw3.out.set 2 (.bool true), hw3.le, hw3.sz⟩
    have K34 : Kp [g] w3 (w3.setCell ⟨g, 2, none⟩ (.bool true)) := (Kp.refl _ _).set (.inl (by simp)) _
    have B4 := hb3.kp K34 (by simpa using Ne.symm hgr)
    have K4 : RowKit.Hid (Kp [g, r] w (w3.setCell ⟨g, 2, none⟩ (.bool true))) := Lib.hid (HK.out.set (.inl (by simp)) _)
    have F1 : ∀ k, k ≤ m → (x4 || decide (8 * s.size < q + 8 * k)) = true → x3 = true ∨ D (rest s q) = none := fun k hk e => .inr (hne hm)
    have F2 : x4 = false → q + 8 * m ≤ 8 * s.size → n + m ≤ 300 → x3 = false ∧ D (rest s q) = some (l ++ packN m (rest s q), rest s (q + 8 * m)) := fun e => by rw [hx4] at e; cases e
    have F3 : x4 = false → 300 < n + m → x3 = false ∧ D (rest s q) = none := fun e => by rw [hx4] at e; cases e
    clear hm' hbad hgood hover hne K34 fr c2
    generalize w3.setCell ⟨g, 2, none⟩ (.bool true) = w4 at *
    clear hx4
  all_goals
    have H1 := Lib.hid F1
    have H2 := Lib.hid F2
    have H3 := Lib.hid F3
    clear F1 F2 F3
    go_loopw [1, 7] (fun o x wr => ∃ (k r' cap' : Nat), x = .int .i64 (k : Int) ∧ k ≤ m ∧ o = .slice (some ⟨r', 0, none⟩) (n + k) cap' ∧ IR wr g s (min (q + 8 * k) (8 * s.size)) (x4 || decide (8 * s.size < q + 8 * k)) ∧ By wr r' cap' (l ++ packN k (rest s q)) ∧ Kp [g, r] w4 wr ∧ (r' = r ∨ w4.heap.size ≤ r') ∧ g ≠ r' ∧ n + k ≤ 301) (fun _ x _ => m - (intOf x).toNat)
    case atStart =>
      refine ⟨0, r, cap, rfl, by omega, rfl, ?_, ?_, Kp.refl _ _, .inl rfl, hgr, by omega⟩
      · rw [Nat.mul_zero, Nat.add_zero, Nat.min_eq_left R4.le, show decide (8 * s.size < q) = false from by simp; exact R4.le, Bool.or_false]
        exact R4
      · simpa [packN] using B4
    case round =>
      obtain ⟨k, r', cap', rfl, hk, rfl, hr, hB, K, hr', hgr', hnk⟩ := hrel
      have hlk := HLEN.out k
      have hexit : (x4 || decide (8 * s.size < q + 8 * k)) = true ∨ k = m ∨ 300 < n + k → AnsO (De.stored l) s p b (l ++ packN k (rest s q)) (min (q + 8 * k) (8 * s.size)) (x4 || decide (8 * s.size < q + 8 * k)) := fun hc => by
        refine HF.out _ _ _ ⟨fun e => H1.out k hk e, fun e => ?_⟩
        have e' := e
        simp only [Bool.or_eq_false_iff, decide_eq_false_iff_not] at e'
        rw [hlk, Nat.min_eq_left (by omega)]
        rcases hc with hc | hc | hc
        · rw [e] at hc; cases hc
        · subst hc
          by_cases h3 : n + k ≤ 300
          · obtain ⟨a1, a2⟩ := H2.out e'.1 (by omega) h3
            exact ⟨a1, fun _ => a2, fun h => by omega⟩
          · obtain ⟨a1, a2⟩ := H3.out e'.1 (by omega)
            exact ⟨a1, fun h => by omega, fun _ => a2⟩
        · obtain ⟨a1, a2⟩ := H3.out e'.1 (by omega)
          exact ⟨a1, fun h => by omega, fun _ => a2⟩
      have hK0 := HK
      have hKK := K4.out.then K
      have hrw : r' = r ∨ w.heap.size ≤ r' := by have := K4.out.size; omega
      have hby : Bytes wr r' (.slice (some ⟨r', 0, none⟩) (n + k) cap') (l ++ packN k (rest s q)) := by have := hB.out; rw [hlk] at this; exact this
      have hpk := HPK.out k
      have HEX := Lib.hid hexit
      have HP := Lib.hid hpk
      have HG := Lib.hid (get_calls g 8 s _ _ wr hr (by omega))
      have HLK := Lib.hid hlk
      have hx8 := numAt_lt s (q + 8 * k) 8
      have hmn : numAt s (min (q + 8 * k) (8 * s.size)) 8 = numAt s (q + 8 * k) 8 := numAt_min s _ _
      rw [hmn] at HG
      have c2 := (hr.out.cell 2).trans rfl
      have hrl4 := hr.le
      clear hexit hpk hlk hmn
      generalize hbx : (x4 || decide (8 * s.size < q + 8 * k)) = bx at *
      have HBX := Lib.hid hbx
      clear hbx
      generalize numAt s (q + 8 * k) 8 = x at *
      have hslice : (l ++ packN k (rest s q)).length = n + k := HLK.out
      by_cases hkm : k = m
      · subst hkm
        go_wp2_with fail
        go_ret
        refine ⟨_, rfl, ⟨_, bx, r', cap', _, hr, hKK, hrw, HEX.out (.inr (.inl trivial)), fun _ => ⟨by rw [hslice]; rfl, hB, by rw [hslice]; omega⟩⟩⟩
      · have hkm' : (k : Int) < m := by omega
        cases bx with
        | true =>
          go_wp2_with fail
          go_ret
          refine ⟨_, rfl, ⟨_, true, r', cap', _, hr, hKK, hrw, HEX.out (.inl trivial), fun e => by cases e⟩⟩
        | false =>
          by_cases h3 : n + k ≤ 300
          · have h3' : ((n + k : Nat) : Int) ≤ 300 := by omega
            have h3'' : (n : Int) + (k : Int) ≤ 300 := by omega
            have hu8 : IntKind.u8.wrap (x : Int) = (x : Int) := wr_u8 _ (by omega) (by omega)
            go_wp2_with fail
            refine HG.out.mono ?_
            rintro e w5 ⟨rfl, hr5, K5⟩
            have hby5 := hby.kp K5 (by simpa using Ne.symm hgr')
            go_wp2_with (at_builtin; go_must (refine wpList_byte (x := x) rfl _ _ rfl rfl hby5 rfl (by rw [hslice]; omega) ?_); intro r6 cap6 w6 hby6 hr6 hrl6 K6 hc1 hc2)
            go_roundw
            case rel =>
              have hz := K.size
              have hz5 := K5.size
              have hgl4 := R4.out.lt
              have hg6 : g ≠ r6 := by rcases hr6 with e | e <;> omega
              refine ⟨k + 1, r6, cap6, by go_num, by omega, ?_, ?_, ?_, ?_, by omega, hg6, by omega⟩
              · rfl
              · have hr6' := hr5.kp K6 (by simpa using hgr')
                have e1 : min (min (q + 8 * k) (8 * s.size) + 8) (8 * s.size) = min (q + 8 * (k + 1)) (8 * s.size) := by omega
                have e2 : (false || decide (8 * s.size < min (q + 8 * k) (8 * s.size) + 8)) = (x4 || decide (8 * s.size < q + 8 * (k + 1))) := by
                  have hb0 := HBX.out
                  simp only [Bool.or_eq_false_iff, decide_eq_false_iff_not] at hb0
                  rw [hb0.1, Bool.eq_iff_iff]; simp; omega
                rw [e1, e2] at hr6'
                exact hr6'
              · rw [HP.out, ← List.append_assoc]
                refine ⟨?_⟩
                rw [List.length_append]
                exact hby6
              · refine (K.then (K5.mono (fun y hy => .inl (by simp at hy ⊢; exact .inl hy)))).trans K6 (fun y hy => ?_)
                simp at hy ⊢; omega
            case measure => simp [intOf]; omega
          · have h3' : decide (((n + k : Nat) : Int) ≤ 300) = false := by simp; omega
            have h3'' : decide ((n : Int) + (k : Int) ≤ 300) = false := by simp; omega
            go_wp2_with fail
            go_ret
            refine ⟨_, rfl, ⟨_, false, r', cap', _, hr, hKK, hrw, HEX.out (.inr (.inr (by omega))), fun _ => ⟨by rw [hslice]; rfl, hB, by rw [hslice]; omega⟩⟩⟩
end Go.Proofs.YtncidljdfipigaaDoor.Wi

/- The program's reader at a part packed by both codes that is bad already, or whose lengths are not ok. -/
namespace Go.Proofs.YtncidljdfipigaaDoor.Wi
open Go.RowKit Go.Proofs.YtncidljdfipigaaDoor.Mem Go.Proofs.YtncidljdfipigaaDoor.Bt Go.Proofs.YtncidljdfipigaaDoor.Cd Go.Proofs.YtncidljdfipigaaDoor.De
set_option linter.unusedVariables false
set_option linter.unusedSimpArgs false
theorem rpacked_bad (g : Nat) (s : ByteArray) (p : Nat) (v1 v2 v3 : Value) (w : World) (hw : IR w g s p true) :
    Calls Tryd.prog 55 #[.pointer (some ⟨g, 0, none⟩), v1, v2, v3] w fun e w' => e = .returned v1 ∧ IR w' g s p true ∧ Kp [g] w w' := by
  have c2 := (hw.out.cell 2).trans rfl
  have fr : ∀ i, w.frozen? ⟨g, i, none⟩ = false := hw.out.frozen
  go_enter Tryd.func55, Tryd.ntmps55
  go_wp2_with fail
  go_ret
  exact ⟨rfl, ⟨hw.out.set 2 (.bool true), hw.le, hw.sz⟩, (Kp.refl _ _).set (.inl (by simp)) _⟩
theorem rpacked_not (g gl ol nl cl gd od nd cd : Nat) (s : ByteArray) (p : Nat) (lit dist : List Nat) (v1 : Value) (w : World) (hw : IR w g s p false)
    (hl : RowO w gl ol 3 (i64s lit)) (hd : RowO w gd od 3 (i64s dist)) (hnl : lit.length = nl) (hnd : dist.length = nd) (hnlc : nl ≤ cl) (hndc : nd ≤ cd)
    (hl15 : ∀ x ∈ lit, x ≤ 100000) (hd15 : ∀ x ∈ dist, x ≤ 100000) (hlen : nl ≤ 1000) (hlen2 : nd ≤ 1000) (hok : ¬ (okLens lit = true ∧ okLens dist = true)) :
    Calls Tryd.prog 55 #[.pointer (some ⟨g, 0, none⟩), v1, .slice (some ⟨gl, ol, none⟩) nl cl, .slice (some ⟨gd, od, none⟩) nd cd] w fun e w' => e = .returned v1 ∧ IR w' g s p true ∧ Kp [g] w w' := by
  have HNL := Lib.hid hnl
  have HND := Lib.hid hnd
  have HXL := Lib.hid hl15
  have HXD := Lib.hid hd15
  have HOK := Lib.hid hok
  have c2 := (hw.out.cell 2).trans rfl
  clear hnl hnd hl15 hd15 hok
  have step : ∀ w2, On w w2 → w2.cell? ⟨g, 2, none⟩ = some (.bool false) ∧ (∀ i, w2.frozen? ⟨g, i, none⟩ = false) := fun w2 O => ⟨((hw.on O).out.cell 2).trans rfl, (hw.on O).out.frozen⟩
  have HST := Lib.hid step
  clear step
  by_cases hokl : okLens lit = true
  · have hokd : okLens dist = false := by
      cases h : okLens dist with
      | true => exact absurd ⟨hokl, h⟩ HOK.out
      | false => rfl
    have HOL := Lib.hid hokl
    have HOD := Lib.hid hokd
    clear hokl hokd
    go_enter Tryd.func55, Tryd.ntmps55
    go_wp2_with fail
    refine (lensok_calls lit gl ol nl cl w hl HNL.out (by omega) hnlc HXL.out).mono ?_
    rintro e w1 ⟨rfl, O1⟩
    rw [HOL.out]
    go_wp2_with fail
    refine (lensok_calls dist gd od nd cd w1 (hd.on O1) HND.out (by omega) hndc HXD.out).mono ?_
    rintro e w2 ⟨rfl, O2⟩
    rw [HOD.out]
    obtain ⟨d2, fr⟩ := HST.out w2 (O1.call O2)
    have hw2 := hw.on (O1.call O2)
    go_wp2_with fail
    go_ret
    exact ⟨rfl, ⟨hw2.out.set 2 (.bool true), hw.le, hw.sz⟩, ((Kp.of [g] (O1.call O2))).set (.inl (by simp)) _⟩
  · have hokl' : okLens lit = false := by simpa using hokl
    have HOL := Lib.hid hokl'
    clear hokl hokl'
    go_enter Tryd.func55, Tryd.ntmps55
    go_wp2_with fail
    refine (lensok_calls lit gl ol nl cl w hl HNL.out (by omega) hnlc HXL.out).mono ?_
    rintro e w1 ⟨rfl, O1⟩
    rw [HOL.out]
    obtain ⟨d2, fr⟩ := HST.out w1 O1
    have hw1 := hw.on O1
    go_wp2_with fail
    go_ret
    exact ⟨rfl, ⟨hw1.out.set 2 (.bool true), hw.le, hw.sz⟩, ((Kp.of [g] O1)).set (.inl (by simp)) _⟩
end Go.Proofs.YtncidljdfipigaaDoor.Wi

/- A region that draws its order: what holds of all later worlds may be made stronger. Nothing of the program stands here. -/
namespace Go.Proofs.YtncidljdfipigaaDoor.Wi
open Go.RowKit
set_option linter.unusedVariables false
set_option linter.unusedSimpArgs false
theorem wpAnyH_strong {P : Program} {md : Region.Mode} {ops : Array Oper} {Q : Exit → Act → World → Prop} {S S' : World → Prop} (h : ∀ w, S' w → S w) : ∀ {fuel : Nat} {listed : Array Bool} {a : Act} {w : World}, wpAnyH P md ops Q S' fuel listed a w → wpAnyH P md ops Q S fuel listed a w := by
  intro fuel
  induction fuel with
  | zero => intro _ _ _ H; exact H
  | succ f ih => intro listed a w H; exact ⟨H.1, fun i hi => wpOp_mono (fun a' w' h' => ⟨h _ h'.1, ih h'.2⟩) (H.2 i hi)⟩
end Go.Proofs.YtncidljdfipigaaDoor.Wi

/- The reference's writer of bits: what put and whole do. Conditions: a writer, sizes. -/
namespace Go.Proofs.YtncidljdfipigaaDoor.Wi
open Go.RowKit Go.Proofs.YtncidljdfipigaaDoor.Mem Go.Proofs.YtncidljdfipigaaDoor.Bt
set_option linter.unusedVariables false
set_option linter.unusedSimpArgs false
/-- The reference's writer at block g, its bytes at block r: what bits it holds. -/
structure SW (w : World) (g r : Nat) (bs : List Bool) : Prop where mk :: (out : ∃ v, Blk w g 88 #[v, .int .i64 ((val (bs.drop (8 * (bs.length / 8))) : Nat) : Int), .int .i64 ((bs.length % 8 : Nat) : Int)] ∧ Bytes w r v (pack (bs.take (8 * (bs.length / 8)))) ∧ (r ≠ g ∨ v = .slice none 0 0))
theorem pow_le {n m : Nat} (h : n ≤ m) : (2 : Nat) ^ n ≤ 2 ^ m := Nat.pow_le_pow_right (by omega) h
theorem ret_i {k : IntKind} {a b : Int} (h : a = b) : Ending.returned (.int k a) = .returned (.int k b) := by rw [h]
set_option maxRecDepth 100000 in
theorem pow_same (n m : Nat) (hm : Hid (2 ^ n = m)) (hn : n ≤ 40) (w : World) : Calls Tryd.prog 119 #[.int .i64 n] w (fun e w' => e = .returned (.int .i64 m) ∧ w' = w) := by
  go_enter Tryd.func119, Tryd.ntmps119
  go_wp2_with fail
  go_loop [0, 3] (fun a b => ∃ k q x : Nat, q + k = n ∧ RowKit.Hid (x = 2 ^ k) ∧ x ≤ 1099511627776 ∧ a = .int .i64 (q : Int) ∧ b = .int .i64 (x : Int)) (fun a _ => (intOf a).toNat)
  case atStart => exact ⟨0, n, 1, by omega, Lib.hid rfl, by omega, rfl, rfl⟩
  case round =>
    obtain ⟨k, q, x, hk, hx, hx2, rfl, rfl⟩ := hrel
    have HK := Lib.hid hk
    have hq40 : q ≤ 40 := by omega
    clear hk
    by_cases hlt : 0 < q
    · have h2 := pow_le (show k + 1 ≤ 40 by have := HK.out; omega)
      have h3 : 2 ^ (k + 1) = 2 * x := by rw [Nat.pow_succ, hx.out]; omega
      have h4 : 2 * x ≤ 1099511627776 := by omega
      have H3 := Lib.hid h3
      clear h2 h3
      obtain ⟨q', rfl⟩ : ∃ q', q = q' + 1 := ⟨q - 1, by omega⟩
      go_wp2_with fail
      go_round
      case rel => exact ⟨k + 1, q', 2 * x, by have := HK.out; omega, Lib.hid H3.out.symm, h4, by go_num, by go_num⟩
      case measure => simp [intOf]
    · obtain rfl : q = 0 := by omega
      go_wp2_with fail
      go_ret
      exact ⟨ret_i (by have := HK.out; have := hm.out; rw [hx.out, ← hm.out]; congr 2; omega), rfl⟩
theorem sw_full {bs : List Bool} {b : Bool} (h : bs.length % 8 = 7) : pack (bs.take (8 * (bs.length / 8))) ++ [val (bs.drop (8 * (bs.length / 8))) + 2 ^ 7 * b1 b] = pack (bs ++ [b]) ∧ (bs ++ [b]).length % 8 = 0 := by
  constructor
  · have e : bs ++ [b] = bs.take (8 * (bs.length / 8)) ++ (bs.drop (8 * (bs.length / 8)) ++ [b]) := by rw [← List.append_assoc, List.take_append_drop]
    rw [e, pack_append _ _ (by rw [List.length_take]; omega)]
    congr 1
    have hl : (bs.drop (8 * (bs.length / 8)) ++ [b]).length = 8 := by rw [List.length_append, List.length_drop, List.length_singleton]; omega
    unfold pack
    rw [hl]
    show _ = [val ((bs.drop (8 * (bs.length / 8)) ++ [b]).take 8)]
    rw [List.take_of_length_le (by omega), val_append, List.length_drop, show bs.length - 8 * (bs.length / 8) = 7 from by omega]
    simp [val]
  · rw [List.length_append, List.length_singleton]; omega
theorem sw_part {bs : List Bool} {b : Bool} (h : bs.length % 8 ≠ 7) : (bs ++ [b]).take (8 * ((bs ++ [b]).length / 8)) = bs.take (8 * (bs.length / 8)) ∧ val ((bs ++ [b]).drop (8 * ((bs ++ [b]).length / 8))) = val (bs.drop (8 * (bs.length / 8))) + 2 ^ (bs.length % 8) * b1 b ∧ (bs ++ [b]).length % 8 = bs.length % 8 + 1 := by
  have e : (bs ++ [b]).length / 8 = bs.length / 8 := by rw [List.length_append, List.length_singleton]; omega
  rw [e]
  refine ⟨?_, ?_, by rw [List.length_append, List.length_singleton]; omega⟩
  · rw [List.take_append, show 8 * (bs.length / 8) - bs.length = 0 from by omega, List.take_zero, List.append_nil]
  · rw [List.drop_append, show 8 * (bs.length / 8) - bs.length = 0 from by omega, List.drop_zero, val_append, List.length_drop, show bs.length - 8 * (bs.length / 8) = bs.length % 8 from by omega]
    simp [val]
theorem sw_close {w w1 W : World} {g r r1 r' r2 cap z : Nat} {L : List Nat} {bs : List Bool} {v : Value} {cs : Array Value} (M : Mv g r w r1 W) (hr0 : r' = r1 ∨ r' = W.heap.size) (B : Blk W g 88 cs) (hrg : r' ≠ g)
    (hf : L ++ [z] = pack bs ∧ bs.length % 8 = 0) (B4 : Blk w1 g 88 #[v, .int .i64 (z : Int), .int .i64 8]) (hby : Bytes w1 r2 (.slice (some ⟨r2, 0, none⟩) (L.length + 1) cap) (L ++ [z]))
    (hr2 : r2 = r' ∨ (W.alloc (.cells #[.int .u8 (z : Int)] 5)).drew.heap.size ≤ r2) (hrl : r2 < w1.heap.size) (K : Kp [r'] (W.alloc (.cells #[.int .u8 (z : Int)] 5)).drew w1) :
    SW (((w1.setCell ⟨g, 0, none⟩ (.slice (some ⟨r2, 0, none⟩) (L.length + 1) cap)).setCell ⟨g, 1, none⟩ (.int .i64 0)).setCell ⟨g, 2, none⟩ (.int .i64 0)) g r2 bs ∧
    Mv g r w r2 (((w1.setCell ⟨g, 0, none⟩ (.slice (some ⟨r2, 0, none⟩) (L.length + 1) cap)).setCell ⟨g, 1, none⟩ (.int .i64 0)).setCell ⟨g, 2, none⟩ (.int .i64 0)) := by
  have hlen : 8 * (bs.length / 8) = bs.length := by omega
  have hsz := (((Kp.refl [] W).alloc (.cells #[.int .u8 (z : Int)] 5)).drew).size
  have hlt := B.lt
  have hrg2 : r2 ≠ g := by omega
  have Kg : Kp [g] w1 (((w1.setCell ⟨g, 0, none⟩ (.slice (some ⟨r2, 0, none⟩) (L.length + 1) cap)).setCell ⟨g, 1, none⟩ (.int .i64 0)).setCell ⟨g, 2, none⟩ (.int .i64 0)) :=
    (((Kp.refl [g] w1).set (p := ⟨g, 0, none⟩) (.inl (by simp)) _).set (p := ⟨g, 1, none⟩) (.inl (by simp)) _).set (p := ⟨g, 2, none⟩) (.inl (by simp)) _
  have Bf := ((B4.set 0 (.slice (some ⟨r2, 0, none⟩) (L.length + 1) cap)).set 1 (.int .i64 0)).set 2 (.int .i64 0)
  refine ⟨⟨.slice (some ⟨r2, 0, none⟩) (L.length + 1) cap, ?_, ?_, .inl hrg2⟩, ?_⟩
  · rw [hlen, List.drop_length, hf.2]
    exact Bf
  · rw [hlen, List.take_length, ← hf.1]
    exact hby.kp Kg (by simpa using hrg2)
  · refine M.trans (mv_of hr0 ?_ ?_ (Nat.lt_of_lt_of_le hrl Kg.size))
    · exact ((((Kp.refl [g, r'] W).alloc (.cells #[.int .u8 (z : Int)] 5)).drew).then (K.mono (T := [g, r']) (fun x hx => .inl (by simp at hx ⊢; exact .inr hx)))).then (Kg.mono (T := [g, r']) (fun x hx => .inl (by simp at hx ⊢; exact .inl hx)))
    · rcases hr2 with e | e
      · exact .inl e
      · right; omega
set_option maxRecDepth 100000 in
set_option maxHeartbeats 1000000 in
theorem sput_calls (g r : Nat) (bs : List Bool) (num n : Nat) (w : World) (hw : SW w g r bs) (hn : n ≤ 16) (hb : bs.length ≤ 100000000) (hnum : num < 9223372036854775808) :
    Calls Tryd.prog 84 #[.pointer (some ⟨g, 0, none⟩), .int .i64 num, .int .i64 n] w fun e w' => ∃ r', e = .returned (.tuple #[]) ∧ SW w' g r' (bs ++ bitsOf num n) ∧ Mv g r w r' w' := by
  go_enter Tryd.func84, Tryd.ntmps84
  go_wp2_with fail
  go_loopw [1, 6] (fun y x wr => ∃ (k r' : Nat), x = .int .i64 k ∧ k ≤ n ∧ y = .int .i64 ((num / 2 ^ k : Nat) : Int) ∧ SW wr g r' (bs ++ bitsOf num k) ∧ Mv g r w r' wr) (fun _ x _ => n - (intOf x).toNat)
  case atStart => exact ⟨0, r, rfl, by omega, by simp, by simpa [bitsOf] using hw, Mv.refl _ _ _⟩
  case round =>
    obtain ⟨k, r', rfl, hk, rfl, hw', M⟩ := hrel
    by_cases hlt : k < n
    · have hl : (bs ++ bitsOf num k).length = bs.length + k := by rw [List.length_append, bits_length]
      have hsn : bs ++ bitsOf num (k + 1) = (bs ++ bitsOf num k) ++ [num / 2 ^ k % 2 == 1] := by rw [bits_snoc, List.append_assoc]
      have hnx : num / 2 ^ (k + 1) = num / 2 ^ k / 2 := by rw [Nat.pow_succ, Nat.div_div_eq_div_mul]
      have hle : num / 2 ^ k ≤ num := Nat.div_le_self _ _
      have HSN := Lib.hid hsn
      have HNX := Lib.hid hnx
      clear hsn hnx
      generalize bs ++ bitsOf num k = bk at *
      generalize num / 2 ^ k = nk at *
      obtain ⟨v, hblk, hby0, hor⟩ := hw'.out
      obtain ⟨r0, hby, hrg, hr0⟩ := pick hblk.lt hby0 hor
      have HOR := Lib.hid hor
      clear hor
      have hfull := sw_full (bs := bk) (b := nk % 2 == 1)
      have hpart := sw_part (bs := bk) (b := nk % 2 == 1)
      have hv : val (bk.drop (8 * (bk.length / 8))) < 2 ^ (bk.length % 8) := by
        have := val_lt (bk.drop (8 * (bk.length / 8)))
        rw [List.length_drop, show bk.length - 8 * (bk.length / 8) = bk.length % 8 from by omega] at this
        exact this
      rw [b1_mod] at hfull hpart
      have hp7 := pow_le (show bk.length % 8 ≤ 7 by omega)
      have hsz : (pack (bk.take (8 * (bk.length / 8)))).length ≤ 100000000 := by rw [pack_length, List.length_take]; omega
      generalize hval : val (bk.drop (8 * (bk.length / 8))) = last at *
      generalize hpk : pack (bk.take (8 * (bk.length / 8))) = L at *
      have f1 : nk % 2 < 2 := Nat.mod_lt _ (by omega)
      have f2 : Int.tmod (nk : Int) 2 = ((nk % 2 : Nat) : Int) := tmod_nat nk 2
      have f3 : Int.tdiv (nk : Int) 2 = ((nk / 2 : Nat) : Int) := tdiv_nat nk 2
      have c0 : wr.cell? ⟨g, 0, none⟩ = some v := (hblk.cell 0).trans rfl
      have c1 : wr.cell? ⟨g, 1, none⟩ = some (.int .i64 last) := (hblk.cell 1).trans rfl
      have c2 : wr.cell? ⟨g, 2, none⟩ = some (.int .i64 ((bk.length % 8 : Nat) : Int)) := (hblk.cell 2).trans rfl
      have fr : ∀ i, wr.frozen? ⟨g, i, none⟩ = false := hblk.frozen
      obtain ⟨P, hP⟩ : ∃ P, 2 ^ (bk.length % 8) = P := ⟨_, rfl⟩
      have hpow := pow_same (bk.length % 8) P (Lib.hid hP) (by omega)
      rw [hP] at hp7 hpart hv
      have HPP := Lib.hid hP
      clear hP
      have hq8 : bk.length % 8 < 8 := by omega
      generalize bk.length % 8 = q at *
      obtain ⟨bit, hbit⟩ : ∃ bit, (nk % 2 == 1) = bit := ⟨_, rfl⟩
      rw [hbit] at hfull hpart HSN
      clear hbit
      generalize nk % 2 = b at *
      have w1 : IntKind.i64.wrap ((b : Int) * (P : Int)) = ((P * b : Nat) : Int) := by
        rw [show (b : Int) * (P : Int) = ((P * b : Nat) : Int) from by rw [Int.natCast_mul, Int.mul_comm], IntKind.wrap_i64]
        have : P * b ≤ P * 1 := Nat.mul_le_mul_left _ (by omega)
        omega
      have hx : P * b ≤ 128 := by
        have : P * b ≤ P * 1 := Nat.mul_le_mul_left _ (by omega)
        omega
      have hx2 : last + P * b < 2 * P := by
        have : P * b ≤ P * 1 := Nat.mul_le_mul_left _ (by omega)
        omega
      have hq : q = 7 → P = 128 := fun e => by rw [e] at HPP; exact HPP.out.symm
      have w2 : IntKind.i64.wrap ((last : Int) + ((P * b : Nat) : Int)) = ((last + P * b : Nat) : Int) := by rw [IntKind.wrap_i64]; omega
      have hfull' : q = 7 → L ++ [last + P * b] = pack (bk ++ [bit]) ∧ (bk ++ [bit]).length % 8 = 0 := fun e => by rw [hq e]; exact hfull e
      have HQ := Lib.hid hq
      have HF := Lib.hid hfull'
      have HP := Lib.hid hpart
      have HPK := Lib.hid hpk
      clear hfull hfull' hpart hpk hl hw' hval hq
      generalize last + P * b = z at *
      generalize P * b = x at *
      go_wp2_with fail
      go_still_tail 14, (by kernel_rfl)
      still_call (hpow _)
      repeat still_step
      refine wpStill_nil ?_
      change wpList _ _ _ _ _ wr.drew
      have BD := hblk.drew
      have YD := hby.kp ((Kp.refl [] wr).drew) (by simp)
      have MD := M.trans (mv_kp (Kp.refl _ wr).drew)
      have hr0D : r0 = r' ∨ r0 = wr.drew.heap.size := hr0
      have YD0 := hby0.kp ((Kp.refl [] wr).drew) (by simp)
      clear hblk hby hby0 M hr0 c0 c1 c2 fr hpow
      generalize wr.drew = W at *
      have d0 : W.cell? ⟨g, 0, none⟩ = some v := (BD.cell 0).trans rfl
      have d1 : W.cell? ⟨g, 1, none⟩ = some (.int .i64 last) := (BD.cell 1).trans rfl
      have d2 : W.cell? ⟨g, 2, none⟩ = some (.int .i64 (q : Int)) := (BD.cell 2).trans rfl
      have dr : ∀ i, W.frozen? ⟨g, i, none⟩ = false := BD.frozen
      by_cases h7 : q = 7
      · have h8 : (q : Int) + 1 = 8 := by omega
        have hz : z < 256 := by have := HQ.out h7; omega
        have H7 := Lib.hid h7
        have H8 := Lib.hid h8
        clear h7
        have B2 := (BD.set 1 (.int .i64 (z : Int))).set 2 (.int .i64 8)
        have Y2 := YD.kp (((Kp.refl [g] W).set (p := ⟨g, 1, none⟩) (.inl (by simp)) (.int .i64 (z : Int))).set (p := ⟨g, 2, none⟩) (.inl (by simp)) (.int .i64 8)) (by simpa using hrg)
        have M3 := MD.trans (mv_kp (((Kp.refl [g, r'] W).set (p := ⟨g, 1, none⟩) (.inl (by simp)) (.int .i64 (z : Int))).set (p := ⟨g, 2, none⟩) (.inl (by simp)) (.int .i64 8)))
        have hr3 : r0 = r' ∨ r0 = ((W.setCell ⟨g, 1, none⟩ (.int .i64 (z : Int))).setCell ⟨g, 2, none⟩ (.int .i64 8)).heap.size := by simp [World.setCell]; exact hr0D
        go_wp2_with fail
        have x0 : (((W.setCell ⟨g, 1, none⟩ (.int .i64 (z : Int))).setCell ⟨g, 2, none⟩ (.int .i64 8))).cell? ⟨g, 0, none⟩ = some v := (B2.cell 0).trans rfl
        have x1 : (((W.setCell ⟨g, 1, none⟩ (.int .i64 (z : Int))).setCell ⟨g, 2, none⟩ (.int .i64 8))).cell? ⟨g, 1, none⟩ = some (.int .i64 (z : Int)) := (B2.cell 1).trans rfl
        clear BD YD MD d0 d1 d2 dr h8
        have HG : g ∉ [r0] := by simp; omega
        have HGH := Lib.hid HG
        clear HG
        generalize ((W.setCell ⟨g, 1, none⟩ (.int .i64 (z : Int))).setCell ⟨g, 2, none⟩ (.int .i64 8)) = W3 at *
        have w3 : IntKind.u8.wrap (z : Int) = (z : Int) := wr_u8 _ (by omega) (by omega)
        have z0 : ∀ o, (W3.alloc o).cell? ⟨g, 0, none⟩ = some v := fun o => ((B2.alloc o).cell 0).trans rfl
        have z1 : ∀ o, (W3.alloc o).cell? ⟨g, 1, none⟩ = some (.int .i64 (z : Int)) := fun o => ((B2.alloc o).cell 1).trans rfl
        go_region_law ((refine step_byte (x := z) (by rfl) _ _ (by rfl) (by rfl) (Y2.kp (((Kp.refl [] W3).alloc _).drew) (by simp)) (by rfl) (heap_alloc_new W3 _) hsz ?_; intro r2 cap w1 hby2 hr2 hrl2 K2 hc1 hc2; have B4 := K2.blk ((B2.alloc _).drew) HGH.out; have y0 : w1.cell? ⟨g, 0, none⟩ = some v := (B4.cell 0).trans rfl; have y1 : w1.cell? ⟨g, 1, none⟩ = some (.int .i64 (z : Int)) := (B4.cell 1).trans rfl; have y2 : w1.cell? ⟨g, 2, none⟩ = some (.int .i64 8) := (B4.cell 2).trans rfl; have yr : ∀ i, w1.frozen? ⟨g, i, none⟩ = false := B4.frozen))
        all_goals
          go_wp2_with fail
          have HC := sw_close M3 hr3 B2 hrg (HF.out H7.out) B4 hby2 hr2 hrl2 K2
          exact ⟨⟨k + 1, r2, by go_num, by omega, by rw [HNX.out]; simp, by rw [HSN.out]; exact HC.1, HC.2⟩, by simp [intOf]; omega⟩
      · have h8 : ((q : Int) + 1 == 8) = false := by simp; omega
        have H7 := Lib.hid h7
        clear h7
        go_wp2_with fail
        obtain ⟨p1, p2, p3⟩ := HP.out H7.out
        refine ⟨⟨k + 1, r', by go_num, by omega, by rw [HNX.out]; simp, ?_, ?_⟩, by simp [intOf]; omega⟩
        · rw [HSN.out]
          refine ⟨v, ?_, ?_, HOR.out⟩
          · rw [p2, p3]
            exact (BD.set 1 _).set 2 _
          · rw [p1, HPK.out]
            exact Bytes.kp2 YD0 HOR.out (((Kp.refl [g] W).set (p := ⟨g, 1, none⟩) (.inl (by simp)) _).set (p := ⟨g, 2, none⟩) (.inl (by simp)) _)
        · exact MD.trans (mv_kp (((Kp.refl [g, r'] W).set (p := ⟨g, 1, none⟩) (.inl (by simp)) _).set (p := ⟨g, 2, none⟩) (.inl (by simp)) _))
    · obtain rfl : k = n := by omega
      go_wp2_with fail
      go_end0
      exact ⟨r', rfl, hw', M⟩
set_option maxRecDepth 100000 in
theorem whole_calls (g r : Nat) (bs : List Bool) (w : World) (hw : SW w g r bs) (hb : bs.length ≤ 100000000) :
    Calls Tryd.prog 85 #[.pointer (some ⟨g, 0, none⟩)] w fun e w' => ∃ r', e = .returned (.tuple #[]) ∧ SW w' g r' (pad bs) ∧ Mv g r w r' w' := by
  obtain ⟨v, hblk, hby, hor⟩ := hw.out
  have c2 : w.cell? ⟨g, 2, none⟩ = some (.int .i64 ((bs.length % 8 : Nat) : Int)) := (hblk.cell 2).trans rfl
  by_cases h : bs.length % 8 = 0
  · have e : pad bs = bs := pad_of bs h
    have h' : ((bs.length % 8 : Nat) : Int) = 0 := by omega
    have E := Lib.hid e
    rw [h'] at c2
    clear e hblk hby h h'
    go_enter Tryd.func85, Tryd.ntmps85
    go_wp2_with fail
    go_end0
    exact ⟨r, rfl, by rw [E.out]; exact hw, Mv.refl _ _ _⟩
  · have e : pad bs = bs ++ bitsOf 0 (8 - bs.length % 8) := by rw [bits_zero]; unfold pad; congr 2; omega
    have h1 : (0 : Int) < ((bs.length % 8 : Nat) : Int) := by omega
    have h2 : (8 : Int) - ((bs.length % 8 : Nat) : Int) = ((8 - bs.length % 8 : Nat) : Int) := by omega
    have h3 : 8 - bs.length % 8 ≤ 16 := by omega
    have E := Lib.hid e
    have hput := sput_calls g r bs 0 (8 - bs.length % 8) w hw h3 hb (by omega)
    clear e hblk hby h
    rw [← E.out] at hput
    have h4 : ((bs.length % 8 : Nat) : Int) < 8 := by omega
    generalize 8 - bs.length % 8 = m at *
    generalize bs.length % 8 = q at *
    go_enter Tryd.func85, Tryd.ntmps85
    go_wp2_with fail
    refine hput.mono ?_
    rintro e w1 ⟨r', rfl, hw1, M⟩
    go_wp2_with fail
    go_end0
    exact ⟨r', rfl, hw1, M⟩
end Go.Proofs.YtncidljdfipigaaDoor.Wi

/- A symbol's code as it is written, in both programs. Conditions: the code fits its length; sizes. -/
namespace Go.Proofs.YtncidljdfipigaaDoor.Wi
open Go.RowKit Go.Proofs.YtncidljdfipigaaDoor.Mem Go.Proofs.YtncidljdfipigaaDoor.Bt Go.Proofs.YtncidljdfipigaaDoor.Cd
set_option linter.unusedVariables false
set_option linter.unusedSimpArgs false
/-- A number of so many bits, turned. -/
def turn (num n : Nat) : Nat := val (bitsOf num n).reverse
theorem turn_succ (num n : Nat) : turn num (n + 1) = 2 * turn num n + num / 2 ^ n % 2 := by
  unfold turn
  rw [bits_snoc, List.reverse_append]
  simp only [List.reverse_cons, List.reverse_nil, List.nil_append, List.singleton_append, val, b1_mod]
  omega
theorem turn_bits (num n : Nat) : bitsOf (turn num n) n = (bitsOf num n).reverse := by
  have := bits_val (bitsOf num n).reverse
  rw [List.length_reverse, bits_length] at this
  exact this
theorem turn_lt (num n : Nat) : turn num n < 2 ^ n := by
  have := val_lt (bitsOf num n).reverse
  rw [List.length_reverse, bits_length] at this
  exact this
theorem turn_small {num n : Nat} (h : n ≤ 16) : turn num n < 65537 := by
  have := turn_lt num n
  have := pow_le h
  omega
set_option maxRecDepth 100000 in
theorem piece_calls (num n : Nat) (hn : n ≤ 16) (hnum : num < 2 ^ n) (w : World) : Calls Tryd.prog 132 #[.agg #[.int .i64 num, .int .i64 n]] w (Tells w (.bool true)) := by
  have h2 := pow_le hn
  have h3 : IntKind.i64.wrap ((2 : Int) ^ n) = ((2 ^ n : Nat) : Int) := by
    rw [show (2 : Int) ^ n = ((2 ^ n : Nat) : Int) from by simp, IntKind.wrap_i64]; omega
  have h4 : IntKind.i64.wrap (((2 ^ n : Nat) : Int) - 1) = ((2 ^ n : Nat) : Int) - 1 := by rw [IntKind.wrap_i64]; omega
  have h5 : (n : Int) < 64 := by omega
  generalize 2 ^ n = P at *
  have y1 : (0 : Int) ≤ num := by omega
  have y2 : (num : Int) ≤ (P : Int) - 1 := by omega
  have y3 : (0 : Int) ≤ n := by omega
  have y4 : (n : Int) ≤ 16 := by omega
  go_enter Tryd.func132, Tryd.ntmps132
  go_wp2_with fail
  go_quiet ((go_at_call 97; exact Calls.quiet_of_same (within_yes _ (by omega) (by omega))))
  go_wp2_with fail
  go_ret
  exact ⟨rfl, ((On.refl w).alloc _).drewN _⟩
set_option maxRecDepth 100000 in
theorem turn_calls (num n : Nat) (hn : n ≤ 16) (hnum : num < 2 ^ n) (w : World) : Calls Tryd.prog 99 #[.int .i64 num, .int .i64 n] w (Tells w (.int .i64 (turn num n : Nat))) := by
  have hnum2 : num < 9223372036854775808 := by have := pow_le hn; omega
  have hp := fun w => piece_calls num n hn hnum w
  have HPC := Lib.hid hp
  clear hp
  go_enter Tryd.func99, Tryd.ntmps99
  go_wp2_with fail
  refine (HPC.out w).mono ?_
  rintro e w1 ⟨rfl, O1⟩
  go_wp2_with fail
  go_loop [5, 13] (fun a x => ∃ k : Nat, k ≤ n ∧ x = .int .i64 (k : Int) ∧ a = .int .i64 (turn num k : Nat)) (fun _ x => n - (intOf x).toNat)
  case atStart => exact ⟨0, by omega, rfl, rfl⟩
  case round =>
    obtain ⟨k, hk, rfl, rfl⟩ := hrel
    by_cases hlt : k < n
    · have f0 := bit_and num k hnum2
      have f1 : num / 2 ^ k % 2 < 2 := Nat.mod_lt _ (by omega)
      have f2 := turn_succ num k
      have f3 := turn_small (num := num) (show k ≤ 16 by omega)
      have f4 : (k : Int) < 64 := by omega
      generalize turn num k = T at *
      generalize num / 2 ^ k % 2 = b at *
      have F2 := Lib.hid f2
      clear f2
      go_wp2_with fail
      go_round
      case rel => exact ⟨k + 1, by omega, by go_num, by rw [F2.out]; go_num⟩
      case measure => simp [intOf]; omega
    · obtain rfl : k = n := by omega
      go_wp2_with fail
      go_ret
      exact ⟨rfl, O1⟩
set_option maxRecDepth 100000 in
theorem sturn_same (num n : Nat) (hn : n ≤ 16) (hnum : num < 9223372036854775808) (w : World) : Calls Tryd.prog 156 #[.int .i64 num, .int .i64 n] w (fun e w' => e = .returned (.int .i64 (turn num n : Nat)) ∧ w' = w) := by
  go_enter Tryd.func156, Tryd.ntmps156
  go_wp2_with fail
  go_loop [0, 5, 6] (fun y a x => ∃ (k nk T : Nat), k ≤ n ∧ x = .int .i64 (k : Int) ∧ RowKit.Hid (T = turn num k) ∧ RowKit.Hid (nk = num / 2 ^ k) ∧ nk ≤ num ∧ T < 65537 ∧ a = .int .i64 (T : Int) ∧ y = .int .i64 (nk : Int)) (fun _ _ x => n - (intOf x).toNat)
  case atStart => exact ⟨0, num, 0, by omega, rfl, Lib.hid rfl, Lib.hid (by simp), Nat.le_refl _, by omega, rfl, rfl⟩
  case round =>
    obtain ⟨k, nk, T, hk, rfl, hT, hnk, hle, hT2, rfl, rfl⟩ := hrel
    by_cases hlt : k < n
    · have f1 : nk % 2 < 2 := Nat.mod_lt _ (by omega)
      have f2 := turn_succ num k
      rw [← hT.out, ← hnk.out] at f2
      have F2 := Lib.hid f2
      have f4 : nk / 2 = num / 2 ^ (k + 1) := by rw [Nat.pow_succ, ← Nat.div_div_eq_div_mul, ← hnk.out]
      have F4 := Lib.hid f4
      have f5 := turn_small (num := num) (show k + 1 ≤ 16 by omega)
      rw [f2] at f5
      clear f2 f4
      go_wp2_with fail
      go_round
      case rel => exact ⟨k + 1, nk / 2, 2 * T + nk % 2, by omega, by go_num, Lib.hid F2.out.symm, F4, by omega, f5, by go_num, by go_num⟩
      case measure => simp [intOf]; omega
    · obtain rfl : k = n := by omega
      go_wp2_with fail
      go_ret
      exact ⟨ret_i (by rw [hT.out]), rfl⟩
theorem IW.kp {S : List Nat} {w w' : World} {g r : Nat} {bs : List Bool} (h : IW w g r bs) (k : Kp S w w') (hg : g ∉ S) (hr : r ∉ S) : IW w' g r bs := by
  obtain ⟨v, hb, hy, ho⟩ := h.out
  exact ⟨v, k.blk hb hg, hy.kp k hr, ho⟩
theorem IW.on {w w' : World} {g r : Nat} {bs : List Bool} (h : IW w g r bs) (O : On w w') : IW w' g r bs := h.kp (Kp.of [] O) (by simp) (by simp)
theorem SW.kp {S : List Nat} {w w' : World} {g r : Nat} {bs : List Bool} (h : SW w g r bs) (k : Kp S w w') (hg : g ∉ S) (hr : r ∉ S) : SW w' g r bs := by
  obtain ⟨v, hb, hy, ho⟩ := h.out
  exact ⟨v, k.blk hb hg, hy.kp k hr, ho⟩
theorem SW.on {w w' : World} {g r : Nat} {bs : List Bool} (h : SW w g r bs) (O : On w w') : SW w' g r bs := h.kp (Kp.of [] O) (by simp) (by simp)
theorem mv_on {w w' : World} (g r : Nat) (O : On w w') : Mv g r w r w' := mv_kp (Kp.of _ O)
set_option maxRecDepth 100000 in
set_option maxHeartbeats 1000000 in
theorem code_calls (g r : Nat) (bs : List Bool) (lens : List Nat) (gl ol nl cl ga na ca s : Nat) (w : World) (hw : IW w g r bs) (hb : bs.length ≤ 90000000)
    (hl : RowO w gl ol 3 (i64s lens)) (ha : RowO w ga 0 3 (i64s (codes lens))) (hnl : lens.length = nl) (hna : na = nl) (hs : s < lens.length) (h16 : lens.getD s 0 ≤ 15) (hc : code lens s < 2 ^ lens.getD s 0)
    (fl : gl ∉ [g, r]) (fa : ga ∉ [g, r]) :
    Calls Tryd.prog 67 #[.pointer (some ⟨g, 0, none⟩), .slice (some ⟨gl, ol, none⟩) nl cl, .slice (some ⟨ga, 0, none⟩) na ca, .int .i64 s] w fun e w' => ∃ r', e = .returned (.tuple #[]) ∧ IW w' g r' (bs ++ enc lens s) ∧ Mv g r w r' w' := by
  subst hna
  have c0 : w.cell? ⟨ga, s, none⟩ = some (.int .i64 (code lens s : Nat)) := by
    have := ha.cell (i64s_get (show s < (codes lens).length by rw [codes_length]; exact hs))
    rw [codes_getD _ hs, Nat.zero_add] at this
    exact this
  have c1 : w.cell? ⟨gl, ol + s, none⟩ = some (.int .i64 (lens.getD s 0 : Nat)) := hl.cell (i64s_get hs)
  have hs1 : (s : Int) < na := by omega
  have hs0 : (0 : Int) ≤ s := by omega
  have ht := fun w => turn_calls (code lens s) (lens.getD s 0) (by omega) hc w
  have hp := fun r w hw => put_calls g r bs (turn (code lens s) (lens.getD s 0)) (lens.getD s 0) w hw (by omega) (by omega) (by have := turn_small (num := code lens s) (show lens.getD s 0 ≤ 16 by omega); omega)
  have he : enc lens s = bitsOf (turn (code lens s) (lens.getD s 0)) (lens.getD s 0) := by rw [turn_bits]; rfl
  rw [← he] at hp
  have HT := Lib.hid ht
  have HP := Lib.hid hp
  clear ht hp he hl ha hnl hs h16 hc
  generalize turn (code lens s) (lens.getD s 0) = T at *
  generalize code lens s = c at *
  generalize lens.getD s 0 = l at *
  have O0 := (On.refl w).drew
  have HW := Lib.hid hw
  have FA := Lib.hid fa
  have FL := Lib.hid fl
  clear hw fa fl
  go_enter Tryd.func67, Tryd.ntmps67
  go_wp2_with fail
  go_region_held3 (fun w' => w'.cell? ⟨ga, s, none⟩ = some (.int .i64 (c : Int)) ∧ w'.cell? ⟨gl, ol + s, none⟩ = some (.int .i64 (l : Int)))
    (first | go_keep | exact ⟨x0, x1⟩ | exact ⟨y0, y1⟩)
    (first
      | (go_at_call 99; refine (HT.out _).mono ?_; rintro e w1 ⟨rfl, O1⟩; have x0 : w1.cell? ⟨ga, s, none⟩ = some (.int .i64 (c : Int)) := ((O0.call O1).cell (World.block_lt_of_cell? w _ c0)).trans c0; have x1 : w1.cell? ⟨gl, ol + s, none⟩ = some (.int .i64 (l : Int)) := ((O0.call O1).cell (World.block_lt_of_cell? w _ c1)).trans c1)
      | (go_at_call 48; refine (HP.out r _ (HW.out.on (O0.call O1))).mono ?_; rintro e w2 ⟨r2, rfl, hw2, M2⟩; have y0 : w2.cell? ⟨ga, s, none⟩ = some (.int .i64 (c : Int)) := (M2.kp.cell (World.block_lt_of_cell? w1 _ x0) FA.out).trans x0; have y1 : w2.cell? ⟨gl, ol + s, none⟩ = some (.int .i64 (l : Int)) := (M2.kp.cell (World.block_lt_of_cell? w1 _ x1) FL.out).trans x1))
  go_wp2_with fail
  go_end0
  exact ⟨r2, rfl, hw2, (mv_on g r (O0.call O1)).trans M2⟩
set_option maxRecDepth 100000 in
theorem spiece_calls (lens : List Nat) (gl ol nl cl ga na ca s : Nat) (w : World)
    (hl : RowO w gl ol 3 (i64s lens)) (ha : RowO w ga 0 3 (i64s (codes lens))) (hnl : lens.length = nl) (hna : na = nl) (hs : s < lens.length) (h16 : lens.getD s 0 ≤ 15) (hc : code lens s < 2 ^ lens.getD s 0) :
    Calls Tryd.prog 149 #[.slice (some ⟨gl, ol, none⟩) nl cl, .slice (some ⟨ga, 0, none⟩) na ca, .int .i64 s] w fun e w' => e = .returned (.agg #[.int .i64 (turn (code lens s) (lens.getD s 0) : Nat), .int .i64 (lens.getD s 0 : Nat)]) ∧ On w w' := by
  subst hna
  have c0 : w.cell? ⟨ga, s, none⟩ = some (.int .i64 (code lens s : Nat)) := by
    have := ha.cell (i64s_get (show s < (codes lens).length by rw [codes_length]; exact hs))
    rw [codes_getD _ hs, Nat.zero_add] at this
    exact this
  have c1 : w.cell? ⟨gl, ol + s, none⟩ = some (.int .i64 (lens.getD s 0 : Nat)) := hl.cell (i64s_get hs)
  have hs1 : (s : Int) < na := by omega
  have hs0 : (0 : Int) ≤ s := by omega
  have hp := pow_le (show lens.getD s 0 ≤ 16 by omega)
  have ht := fun w => sturn_same (code lens s) (lens.getD s 0) (by omega) (by omega) w
  have HT := Lib.hid ht
  have B0 := World.block_lt_of_cell? w _ c0
  have B1 := World.block_lt_of_cell? w _ c1
  clear ht hl ha hnl hs h16 hc hp
  generalize turn (code lens s) (lens.getD s 0) = T at *
  generalize code lens s = c at *
  generalize lens.getD s 0 = l at *
  go_enter Tryd.func149, Tryd.ntmps149
  go_wp2_with fail
  have d0 : (w.alloc (.cells #[.int .i64 0, .int .i64 0] 117)).cell? ⟨ga, s, none⟩ = some (.int .i64 (c : Int)) := (((On.refl w).alloc _).cell B0).trans c0
  have d1 : (w.alloc (.cells #[.int .i64 0, .int .i64 0] 117)).cell? ⟨gl, ol + s, none⟩ = some (.int .i64 (l : Int)) := (((On.refl w).alloc _).cell B1).trans c1
  have BB := Blk.new w 117 #[.int .i64 0, .int .i64 0]
  have OO := (On.refl w).alloc (.cells #[.int .i64 0, .int .i64 0] 117)
  generalize hB : w.heap.size = B at *
  have HB := Lib.hid hB
  clear hB
  generalize w.alloc (.cells #[.int .i64 0, .int .i64 0] 117) = W at *
  go_still_tail 13, (by kernel_rfl)
  still_call (HT.out _)
  repeat still_step
  refine wpStill_nil ?_
  change wpList _ _ _ _ _ W.drew
  have BD := BB.drew
  have OD := OO.drew
  have hbs : w.heap.size ≤ B := by rw [HB.out]; exact Nat.le_refl _
  clear d0 d1 BB OO
  generalize W.drew = W2 at *
  have e0 : W2.cell? ⟨B, 0, none⟩ = some (.int .i64 0) := (BD.cell 0).trans rfl
  have e1 : W2.cell? ⟨B, 1, none⟩ = some (.int .i64 0) := (BD.cell 1).trans rfl
  have ef : ∀ i, W2.frozen? ⟨B, i, none⟩ = false := BD.frozen
  go_wp2_with fail
  have BF := (BD.set 0 (.int .i64 (T : Int))).set 1 (.int .i64 (l : Int))
  exact bodyPost_ret (v := .agg #[.int .i64 (T : Int), .int .i64 (l : Int)]) (by exact res_c (fn := Tryd.f149) (p := 6) rfl BF rfl Tryd.underlying117 rfl (by kernel_rfl)) rfl ⟨rfl, (OD.set hbs _).set hbs _⟩
set_option maxRecDepth 100000 in
theorem sym_calls (g r : Nat) (bs : List Bool) (lens : List Nat) (gl ol nl cl ga na ca s : Nat) (w : World) (hw : SW w g r bs) (hb : bs.length ≤ 90000000)
    (hl : RowO w gl ol 3 (i64s lens)) (ha : RowO w ga 0 3 (i64s (codes lens))) (hnl : lens.length = nl) (hna : na = nl) (hs : s < lens.length) (h16 : lens.getD s 0 ≤ 15) (hc : code lens s < 2 ^ lens.getD s 0) :
    Calls Tryd.prog 130 #[.pointer (some ⟨g, 0, none⟩), .slice (some ⟨gl, ol, none⟩) nl cl, .slice (some ⟨ga, 0, none⟩) na ca, .int .i64 s] w fun e w' => ∃ r', e = .returned (.tuple #[]) ∧ SW w' g r' (bs ++ enc lens s) ∧ Mv g r w r' w' := by
  subst hna
  have hp := fun r w hw => sput_calls g r bs (turn (code lens s) (lens.getD s 0)) (lens.getD s 0) w hw (by omega) (by omega) (by have := turn_small (num := code lens s) (show lens.getD s 0 ≤ 16 by omega); omega)
  have he : enc lens s = bitsOf (turn (code lens s) (lens.getD s 0)) (lens.getD s 0) := by rw [turn_bits]; rfl
  rw [← he] at hp
  have HP := Lib.hid hp
  have hpc := spiece_calls lens gl ol na cl ga na ca s w hl ha hnl rfl hs h16 hc
  have HPC := Lib.hid hpc
  clear hp he hl ha hnl hs h16 hc hpc
  generalize turn (code lens s) (lens.getD s 0) = T at *
  generalize lens.getD s 0 = l at *
  have HW := Lib.hid hw
  clear hw
  go_enter Tryd.func130, Tryd.ntmps130
  go_wp2_with fail
  refine HPC.out.mono ?_
  rintro e w1 ⟨rfl, O1⟩
  go_wp2_with fail
  refine (HP.out r _ (HW.out.on (O1.alloc _))).mono ?_
  rintro e w2 ⟨r2, rfl, hw2, M2⟩
  go_wp2_with fail
  go_end0
  exact ⟨r2, rfl, hw2, (mv_on g r (O1.alloc _)).trans M2⟩
end Go.Proofs.YtncidljdfipigaaDoor.Wi

/- The symbols of lengths and distances, in both programs: their least numbers, their bits, which one a number has. -/
namespace Go.Proofs.YtncidljdfipigaaDoor.Wi
open Go.RowKit Go.Proofs.YtncidljdfipigaaDoor.Mem Go.Proofs.YtncidljdfipigaaDoor.Bt Go.Proofs.YtncidljdfipigaaDoor.Cd Go.Proofs.YtncidljdfipigaaDoor.De Go.Proofs.YtncidljdfipigaaDoor.En
set_option linter.unusedVariables false
set_option linter.unusedSimpArgs false
/-- A row of numbers after an append. -/
theorem nums_app {wr w1 : World} {r : Nat} {v v' : Value} {l : List Nat} {x : Nat} (h : Nums wr r v l)
    (hown : w1.ownsRow 0 3 1 v' (l.length + 1) (i64s l ++ (#[.int .i64 (x : Int)] : Array Value).toList)) (hg : wr.grownBy w1 v.ownBlock) (hne : v' ≠ .slice none 0 0) (hat : ∀ k, v'.ownBlock = some k → v.ownBlock = some k ∨ wr.heap.size ≤ k) :
    ∃ r2 cap, v' = .slice (some ⟨r2, 0, none⟩) (l.length + 1) cap ∧ Nums w1 r2 v' (l ++ [x]) ∧ (r2 = r ∨ wr.heap.size ≤ r2) ∧ r2 < w1.heap.size ∧ Kp [r] wr w1 ∧ l.length + 1 ≤ cap ∧ cap ≤ maxLen := by
  have e : i64s l ++ (#[.int .i64 (x : Int)] : Array Value).toList = i64s (l ++ [x]) := by unfold i64s; rw [List.map_append]; rfl
  rw [e] at hown
  rcases hown.2 with ⟨h0, _⟩ | ⟨k, cap, cur, hv, _, hh, h1, h2, h3, h4⟩
  · exact absurd h0 hne
  · have hb : v'.ownBlock = some k := by rw [hv]; rfl
    have hk : k = r ∨ wr.heap.size ≤ k := by
      rcases hat k hb with a | a
      · exact .inl (h.at_ k a)
      · exact .inr a
    refine ⟨k, cap, hv, ⟨by simpa using hown, fun j hj => by rw [hb] at hj; cases hj; rfl⟩, hk, ?_, ?_, h1, h2⟩
    · rcases Nat.lt_or_ge k w1.heap.size with hl | hl
      · exact hl
      · rw [Array.getElem?_eq_none hl] at hh; cases hh
    · exact Kp.grown hg (fun j hj => by rw [h.at_ j hj]; simp)
/-- l = append(l, x): one number more. -/
theorem wpList_nat {ops : Array Oper} {rest : List Oper} {o : Oper} {act : Act} {Q : Exit → Act → World → Prop} {wr : World} (hgd : o.guard = none) (s y : Operand)
    (ho : o.op = .call { callee := .builtin .append, args := #[s, y], argTypes := #[58, 58] })
    {r : Nat} {v : Value} {l : List Nat} {x : Nat} (hs : act.eval s = v) (hby : Nums wr r v l) (hx : act.eval y = .slice (some ⟨wr.heap.size, 0, none⟩) 1 1) (hl : l.length ≤ 1000000)
    (h : ∀ r2 cap w1, Nums w1 r2 (.slice (some ⟨r2, 0, none⟩) (l.length + 1) cap) (l ++ [x]) → (r2 = r ∨ wr.heap.size ≤ r2) → r2 < w1.heap.size → Kp [r] wr w1 → l.length + 1 ≤ cap → cap ≤ maxLen →
      wpList Tryd.prog ops Q rest (act.put o.dst (.slice (some ⟨r2, 0, none⟩) (l.length + 1) cap)) w1) :
    wpList Tryd.prog ops Q (o :: rest) act (wr.alloc (.cells #[.int .i64 (x : Int)] 3)) := by
  obtain ⟨i0, hi, hz0, hz1, hz2⟩ := info_parts i64info
  refine wpList_app_at hgd s y 58 ho i0 (.int .i64 0) 8 1 Tryd.underlying58 hi hz0 hz1 hz2 rfl (by decide) rfl v _ _ hs hby.own hx (by simp [Value.oneCell']) (by unfold maxLen; omega) (by omega) ?_
  intro v' w1 hown' hg' hne' hat'
  obtain ⟨r2, cap2, rfl, hby2, hr2, hrl2, K2, hc1, hc2⟩ := nums_app hby hown' hg' hne' hat'
  exact h r2 cap2 w1 hby2 hr2 hrl2 K2 hc1 hc2
theorem Nums.nil (w : World) (r : Nat) : Nums w r (.slice none 0 0) [] := ⟨World.ownsRow_nil _ _ _ _, fun g hg => by simp [Value.ownBlock] at hg⟩
theorem Nums.new (w : World) (cs : Array Value) (l : List Nat) (h : cs.toList = i64s l) (hl : l.length ≤ 1000000) : Nums (w.alloc (.cells cs 3)) w.heap.size (.slice (some ⟨w.heap.size, 0, none⟩) l.length l.length) l := by
  have hs : cs.size = l.length := by rw [← Array.length_toList, h, i64s_length]
  refine ⟨?_, fun g hg => by simp [Value.ownBlock] at hg; exact hg.symm⟩
  have := World.ownsRow_lit w (base := 0) (e := 3) (size := 1) cs l.length (Nat.zero_le _) (by unfold maxLen; omega) (by rw [hs]; omega)
  rw [h] at this
  exact this
theorem base_snoc : ∀ (l : List Nat) (n x : Nat), base n (l ++ [x]) = base n l ++ [n + ((l.map fun b => 2 ^ b).sum)]
  | [], n, x => by simp [base]
  | b :: l, n, x => by
    rw [List.cons_append, base, base_snoc l, base, List.cons_append, List.map_cons, List.sum_cons]
    congr 3; omega
theorem base_length : ∀ (l : List Nat) (n : Nat), (base n l).length = l.length
  | [], _ => rfl
  | b :: l, n => by rw [base, List.length_cons, base_length l, List.length_cons]
theorem sum_take_succ (l : List Nat) {k : Nat} (h : k < l.length) : (((l.take (k + 1)).map fun b => 2 ^ b).sum) = (((l.take k).map fun b => 2 ^ b).sum) + 2 ^ l.getD k 0 := by
  rw [List.take_succ_eq_append_getElem h, List.map_append, List.sum_append_nat, List.getD_eq_getElem?_getD, List.getElem?_eq_getElem h]; simp
theorem sum_take_le (l : List Nat) (h : ∀ x ∈ l, x ≤ 13) : ∀ k, (((l.take k).map fun b => 2 ^ b).sum) ≤ 8192 * k
  | 0 => by simp
  | k + 1 => by
    have ih := sum_take_le l h k
    by_cases hk : k < l.length
    · rw [sum_take_succ l hk]
      have := pow_le (getD_le h k)
      omega
    · rw [List.take_of_length_le (by omega)]
      rw [List.take_of_length_le (by omega)] at ih
      omega
theorem base_take (l : List Nat) (n : Nat) {k : Nat} (h : k < l.length) : base n (l.take (k + 1)) = base n (l.take k) ++ [n + (((l.take k).map fun b => 2 ^ b).sum)] := by
  rw [List.take_succ_eq_append_getElem h, base_snoc]
set_option maxRecDepth 100000 in
set_option maxHeartbeats 1000000 in
theorem sbase_calls (l : List Nat) (g o n cap from_ : Nat) (w : World) (hR : RowO w g o 3 (i64s l)) (hl : l.length = n) (hn : n ≤ 1000) (hc : n ≤ cap) (h13 : ∀ x ∈ l, x ≤ 13) (hf : from_ ≤ 10) :
    Calls Tryd.prog 121 #[.slice (some ⟨g, o, none⟩) n cap, .int .i64 from_] w (GivesI w (base from_ l)) := by
  have HL := Lib.hid hl
  have H13 := Lib.hid h13
  clear hl h13
  have hg1 := hR.lt
  go_enter Tryd.func121, Tryd.ntmps121
  go_wp2_with fail
  have N0 := Nums.new w #[] [] rfl (by simp)
  have O0 := (On.refl w).alloc (.cells #[] 3)
  go_loopw [1, 5, 6] (fun f v x wr => ∃ (k r c : Nat), x = .int .i64 (k : Int) ∧ k ≤ n ∧ f = .int .i64 ((from_ + (((l.take k).map fun b => 2 ^ b).sum) : Nat) : Int) ∧ v = .slice (some ⟨r, 0, none⟩) k c ∧ Nums wr r (.slice (some ⟨r, 0, none⟩) k c) (base from_ (l.take k)) ∧ w.heap.size ≤ r ∧ r < wr.heap.size ∧ On w wr) (fun _ _ x _ => n - (intOf x).toNat)
  case atStart => exact ⟨0, w.heap.size, 0, rfl, by omega, rfl, rfl, N0, Nat.le_refl _, (Blk.new w _ _).lt, O0⟩
  case round =>
    obtain ⟨k, r, c, rfl, hk, rfl, rfl, hN, hrb, hrl, O⟩ := hrel
    by_cases hlt : k < n
    · have hkl : k < l.length := by rw [HL.out]; exact hlt
      have hsum := sum_take_le l H13.out k
      have hst := sum_take_succ l hkl
      have hbt := base_take l from_ hkl
      have hlen : (base from_ (l.take k)).length = k := by rw [base_length, List.length_take]; omega
      have hb13 := getD_le H13.out k
      have hpw := pow_le hb13
      have c0 : wr.cell? ⟨g, o + k, none⟩ = some (.int .i64 (l.getD k 0 : Nat)) := (hR.on O).cell (i64s_get hkl)
      obtain ⟨P, hP⟩ : ∃ P, 2 ^ l.getD k 0 = P := ⟨_, rfl⟩
      have hpc := fun w => pow_same (l.getD k 0) P (Lib.hid hP) (by omega) w
      rw [hP] at hst hpw
      have HPC := Lib.hid hpc
      clear hP hpc
      generalize l.getD k 0 = b at *
      generalize hs : ((l.take k).map fun b => 2 ^ b).sum = s at *
      have hfs : from_ + s + P = from_ + (s + P) := by omega
      have hfs2 : from_ + s ≤ 9000000 := by omega
      generalize hfv : from_ + s = fs at *
      have HFS := Lib.hid hfs
      have HSS := Lib.hid hs
      have HFV := Lib.hid hfv
      clear hs hfv hfs
      have HST := Lib.hid hst
      have HBT := Lib.hid hbt
      have HLEN := Lib.hid hlen
      have hl2 : (base from_ (l.take k)).length ≤ 1000000 := by omega
      clear hst hbt hlen
      have hgr : g ≠ r := by omega
      have HGR := Lib.hid hgr
      clear hgr
      have hN0 := hN
      go_wp2_with (at_builtin; go_must (refine wpList_nat (x := fs) rfl _ _ rfl rfl hN rfl hl2 ?_); intro r2 c2 w1 hN1 hr2 hrl2 K2 hc1 hc2; have d0 : w1.cell? ⟨g, o + k, none⟩ = some (.int .i64 (b : Int)) := (K2.cell (World.block_lt_of_cell? wr _ c0) (by simpa using HGR.out)).trans c0; clear c0)
      refine (HPC.out _).mono ?_
      rintro e w2 ⟨rfl, hw⟩
      obtain rfl : w1 = w2 := hw.symm
      go_wp2_with fail
      rw [HLEN.out] at hN1
      have O1 : On w w1 := K2.on O (fun x hx => by simp at hx; omega)
      rw [← HBT.out] at hN1
      refine ⟨⟨k + 1, r2, c2, by go_num, by omega, by rw [HST.out, ← HFS.out]; go_num, by rw [HLEN.out], hN1, by have := O.size; omega, hrl2, O1⟩, by simp [intOf]; omega⟩
    · obtain rfl : k = n := by omega
      have hlen : (base from_ l).length = k := by rw [base_length, HL.out]
      have ht : l.take k = l := List.take_of_length_le (by rw [HL.out]; exact Nat.le_refl _)
      rw [ht] at hN
      have HLEN := Lib.hid hlen
      clear hlen ht
      go_wp2_with fail
      go_ret
      exact ⟨r, c, by rw [HLEN.out]; rfl, by rw [HLEN.out]; exact hN, hrb, hrl, O⟩
set_option maxRecDepth 100000 in
theorem slong_calls (w : World) : Calls Tryd.prog 122 #[] w (GivesI w longBits) := by
  go_enter Tryd.func122, Tryd.ntmps122
  go_wp2_with fail
  go_ret
  exact ⟨w.heap.size, 28, rfl, Nums.new w _ longBits rfl (by decide), Nat.le_refl _, (Blk.new w _ _).lt, (On.refl w).alloc _⟩
set_option maxRecDepth 100000 in
theorem sback_calls (w : World) : Calls Tryd.prog 123 #[] w (GivesI w backBits) := by
  go_enter Tryd.func123, Tryd.ntmps123
  go_wp2_with fail
  go_ret
  exact ⟨w.heap.size, 30, rfl, Nums.new w _ backBits rfl (by decide), Nat.le_refl _, (Blk.new w _ _).lt, (On.refl w).alloc _⟩
/-- The symbol of a number: the last whose least number is not above it. -/
structure IsSym (b : List Nat) (n k : Nat) : Prop where
  lt : k < b.length
  le : b.getD k 0 ≤ n
  next : ∀ j, k < j → j < b.length → n < b.getD j 0
def Rising (b : List Nat) : Prop := b.Pairwise (· < ·)
theorem rising_lt {b : List Nat} (h : Rising b) {i j : Nat} (hij : i < j) (hj : j < b.length) : b.getD i 0 < b.getD j 0 := by
  have := (List.pairwise_iff_getElem.1 h) i j (by omega) hj hij
  rw [List.getD_eq_getElem?_getD, List.getD_eq_getElem?_getD, List.getElem?_eq_getElem hj, List.getElem?_eq_getElem (show i < b.length by omega)]
  exact this
theorem lad_is {b : List Nat} {n k : Nat} (h : Rising b) (H : IsSym b n k) : lad b n = k := by
  have e : b.filter (fun x => decide (x ≤ n)) = b.take (k + 1) := by
    conv => lhs; rw [← List.take_append_drop (k + 1) b, List.filter_append]
    have h1 : (b.take (k + 1)).filter (fun x => decide (x ≤ n)) = b.take (k + 1) := by
      rw [List.filter_eq_self]
      intro x hx
      obtain ⟨i, hi, rfl⟩ := List.mem_iff_getElem.1 hx
      rw [List.length_take] at hi
      rw [List.getElem_take]
      have h2 : b.getD i 0 = b[i] := by rw [List.getD_eq_getElem?_getD, List.getElem?_eq_getElem (by omega)]; rfl
      rw [← h2, decide_eq_true_iff]
      by_cases e : i = k
      · rw [e]; exact H.le
      · have := rising_lt h (show i < k by omega) H.lt
        have := H.le
        omega
    have h2 : (b.drop (k + 1)).filter (fun x => decide (x ≤ n)) = [] := by
      rw [List.filter_eq_nil_iff]
      intro x hx
      obtain ⟨i, hi, rfl⟩ := List.mem_iff_getElem.1 hx
      rw [List.length_drop] at hi
      rw [List.getElem_drop]
      have h2 : b.getD (k + 1 + i) 0 = b[k + 1 + i] := by rw [List.getD_eq_getElem?_getD, List.getElem?_eq_getElem (by omega)]; rfl
      rw [← h2, decide_eq_true_iff]
      have := H.next (k + 1 + i) (by omega) (by omega)
      omega
    rw [h1, h2, List.append_nil]
  unfold lad
  rw [e, List.length_take]
  have := H.lt
  omega
theorem long_rising : Rising longBase := by unfold Rising; decide +kernel
theorem back_rising : Rising backBase := by unfold Rising; decide +kernel
set_option maxRecDepth 100000 in
set_option maxHeartbeats 1000000 in
theorem ssym_calls (b : List Nat) (g n cap m : Nat) (w : World) (hR : RowO w g 0 3 (i64s b)) (hl : b.length = n) (hn : n ≤ 1000) (hc : n ≤ cap) (h0 : 1 ≤ n) (hm : b.getD 0 0 ≤ m) (hr : Rising b) (hm2 : m ≤ 100000) :
    Calls Tryd.prog 124 #[.slice (some ⟨g, 0, none⟩) n cap, .int .i64 m] w (Tells w (.int .i64 (lad b m : Nat))) := by
  have HL := Lib.hid hl
  have HR := Lib.hid hr
  have H0 := Lib.hid hm
  clear hl hr hm
  go_enter Tryd.func124, Tryd.ntmps124
  go_wp2_with fail
  go_loopw [5] (fun x wr => ∃ k : Nat, x = .int .i64 (k : Int) ∧ k < n ∧ RowKit.Hid (b.getD k 0 ≤ m) ∧ On w wr) (fun x _ => n - (intOf x).toNat)
  case atStart => exact ⟨0, rfl, h0, H0, On.refl _⟩
  case round =>
    obtain ⟨k, rfl, hk, hle, O⟩ := hrel
    by_cases hlt : k + 1 < n
    · have c0 : wr.cell? ⟨g, k + 1, none⟩ = some (.int .i64 (b.getD (k + 1) 0 : Nat)) := by
        have := (hR.on O).cell (i64s_get (show k + 1 < b.length by rw [HL.out]; exact hlt))
        rwa [Nat.zero_add] at this
      have h1 : (k : Int) + 1 < n := by omega
      have h2 : IntKind.i64.wrap ((k : Int) + 1) = ((k + 1 : Nat) : Int) := by rw [IntKind.wrap_i64]; omega
      have hup := fun j (h : k + 1 ≤ j) (hj : j < b.length) (hx : m < b.getD (k + 1) 0) => (show m < b.getD j 0 by
        by_cases e : j = k + 1
        · rw [e]; exact hx
        · have := rising_lt HR.out (show k + 1 < j by omega) hj; omega)
      have HUP := Lib.hid hup
      clear hup
      generalize hxx : b.getD (k + 1) 0 = x at *
      have HXX := Lib.hid hxx
      clear hxx
      by_cases hx : x ≤ m
      · have hx' : (x : Int) ≤ m := by omega
        go_wp2_with fail
        exact ⟨⟨k + 1, by go_num, hlt, Lib.hid (by rw [HXX.out]; exact hx), O⟩, by simp [intOf]; omega⟩
      · have hx' : (m : Int) < x := by omega
        go_wp2_with fail
        go_ret
        refine ⟨?_, O⟩
        show Ending.returned (.int .i64 _) = _
        rw [lad_is HR.out ⟨by rw [HL.out]; exact hk, hle.out, fun j hj hj2 => HUP.out j (by omega) hj2 (by omega)⟩]
    · obtain rfl : n = k + 1 := by omega
      go_wp2_with fail
      go_ret
      refine ⟨?_, O⟩
      show Ending.returned (.int .i64 _) = _
      rw [lad_is HR.out ⟨by rw [HL.out]; exact hk, hle.out, fun j hj hj2 => by rw [HL.out] at hj2; omega⟩]
set_option maxRecDepth 100000 in
set_option maxHeartbeats 1000000 in
theorem find_calls (b : List Nat) (g n cap m : Nat) (v2 : Value) (w : World) (hR : RowO w g 0 3 (i64s b)) (hl : b.length = n) (hn : n ≤ 1000) (hc : n ≤ cap) (h0 : 1 ≤ n) (hm : b.getD 0 0 ≤ m) (hr : Rising b) (hm2 : m ≤ 100000) (hv : ∃ g2 c2, v2 = .slice (some ⟨g2, 0, none⟩) n c2) :
    Calls Tryd.prog 62 #[.agg #[.slice (some ⟨g, 0, none⟩) n cap, v2], .int .i64 m] w (Tells w (.int .i64 (lad b m : Nat))) := by
  obtain ⟨g2, c2, rfl⟩ := hv
  have HL := Lib.hid hl
  have HR := Lib.hid hr
  have H0 := Lib.hid hm
  clear hl hr hm
  go_enter Tryd.func62, Tryd.ntmps62
  go_wp2_with fail
  have O1 := (On.refl w).alloc (.cells #[.slice (some ⟨g, 0, none⟩) n cap, .slice (some ⟨g2, 0, none⟩) n c2] 69)
  have B1 := Blk.new w 69 #[.slice (some ⟨g, 0, none⟩) n cap, .slice (some ⟨g2, 0, none⟩) n c2]
  generalize w.alloc (.cells #[.slice (some ⟨g, 0, none⟩) n cap, .slice (some ⟨g2, 0, none⟩) n c2] 69) = w1 at *
  have R1 := hR.on O1
  generalize w.heap.size = B at *
  have k0 : w1.cell? ⟨B, 0, none⟩ = some (.slice (some ⟨g, 0, none⟩) n cap) := (B1.cell 0).trans rfl
  go_loop [5] (fun x => ∃ k : Nat, x = .int .i64 (k : Int) ∧ k < n ∧ RowKit.Hid (∀ j, k < j → j < b.length → m < b.getD j 0)) (fun x => (intOf x).toNat)
  case atStart => exact ⟨n - 1, by congr 1; omega, by omega, Lib.hid (fun j hj hj2 => by rw [HL.out] at hj2; omega)⟩
  case round =>
    obtain ⟨k, rfl, hk, hnx⟩ := hrel
    have c0 : w1.cell? ⟨g, k, none⟩ = some (.int .i64 (b.getD k 0 : Nat)) := by
      have := R1.cell (i64s_get (show k < b.length by rw [HL.out]; exact hk))
      rwa [Nat.zero_add] at this
    have h0k : m < b.getD k 0 → 0 < k := fun h => by
      rcases Nat.eq_zero_or_pos k with e | e
      · subst e; have := H0.out; omega
      · exact e
    have H0K := Lib.hid h0k
    clear h0k
    generalize hxx : b.getD k 0 = x at *
    have HXX := Lib.hid hxx
    clear hxx
    have hk0 : (0 : Int) ≤ k := by omega
    have hk1 : (k : Int) < n := by omega
    by_cases hx : m < x
    · have hx' : (m : Int) < x := by omega
      have hkp := H0K.out hx
      obtain ⟨k', rfl⟩ : ∃ k', k = k' + 1 := ⟨k - 1, by omega⟩
      go_wp2_with fail
      go_round
      case rel =>
        refine ⟨k', by go_num, by omega, Lib.hid (fun j hj hj2 => ?_)⟩
        by_cases e : j = k' + 1
        · rw [e, HXX.out]; exact hx
        · exact hnx.out j (by omega) hj2
      case measure => simp [intOf]
    · have hx' : ¬ (m : Int) < x := by omega
      go_wp2_with fail
      go_ret
      refine ⟨?_, O1⟩
      show Ending.returned (.int .i64 _) = _
      rw [lad_is HR.out ⟨by rw [HL.out]; exact hk, by rw [HXX.out]; omega, hnx.out⟩]
end Go.Proofs.YtncidljdfipigaaDoor.Wi

