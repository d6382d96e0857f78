/- Own texts joined: Tx, Ri, Byt, Ad. -/
import Derived.Laws.BytesArg
import Derived.Deep.QuietTactic
import Derived.BigQuiet
import Derived.Deep.DeepCutAuto
import Derived.Test.YtnadjlejlohgiaaGreatDoorW0
import Derived.Test.YtnadjlejlohgiaaGreatDoorW2
import Derived.Test.YtnadjlejlohgiaaGreatDoorW7
/- Texts as lists of numbers, and how they lie in memory as strings. -/
namespace Go.Proofs.YtnadjlejlohgiaaGreatDoor.Mem
open Go.RowKit
set_option linter.unusedVariables false
/-- The bytes of a text as numbers; a text of numbers. -/
def chars (s : ByteArray) : List Nat := s.data.toList.map fun b => b.toNat
def strB (l : List Nat) : ByteArray := ⟨(l.map fun n => UInt8.ofNat n).toArray⟩
theorem chars_length (s : ByteArray) : (chars s).length = s.size := by unfold chars; rw [List.length_map, Array.length_toList]; rfl
theorem chars_lt (s : ByteArray) : ∀ x ∈ chars s, x < 256 := by
  intro x hx
  obtain ⟨b, _, rfl⟩ := List.mem_map.1 hx
  exact b.toNat_lt
theorem strB_size (l : List Nat) : (strB l).size = l.length := by simp [strB, ByteArray.size]
theorem strB_chars (s : ByteArray) : strB (chars s) = s := by
  unfold strB chars
  rw [List.map_map]
  have : s.data.toList.map ((fun n : Nat => UInt8.ofNat n) ∘ fun b : UInt8 => b.toNat) = s.data.toList := by
    conv => rhs; rw [← List.map_id s.data.toList]
    exact List.map_congr_left fun b _ => by simp
  rw [this]
theorem chars_strB {l : List Nat} (h : ∀ x ∈ l, x < 256) : chars (strB l) = l := by
  unfold strB chars
  simp only [List.map_map]
  conv => rhs; rw [← List.map_id l]
  refine List.map_congr_left fun b hb => ?_
  have := h b hb
  simp; omega
theorem chars_ext {s t : ByteArray} (h : chars s = chars t) : s = t := by rw [← strB_chars s, ← strB_chars t, h]
theorem strB_append (a b : List Nat) : strB a ++ strB b = strB (a ++ b) := by
  unfold strB
  simp [ByteArray.ext_iff, ByteArray.data_append]
theorem strB_app (a : List Nat) (s : ByteArray) : strB a ++ s = strB (a ++ chars s) := by rw [← strB_append, strB_chars]
theorem chars_at (s : ByteArray) {i : Nat} (h : i < s.size) : (chars s).getD i 0 = s[i].toNat := by
  unfold chars
  rw [List.getD_eq_getElem?_getD, List.getElem?_map, List.getElem?_eq_getElem (by rw [Array.length_toList]; exact h)]; rfl
theorem bytes_conv {w : World} {r : Nat} {v : Value} {l : List Nat} (h : Bytes w r v l) : (convert 28 9 v).run Tryz.prog w = .ok (.string (strB l)) w := by
  have e : (⟨((l.map fun n : Nat => (n : Int)).map fun n : Int => UInt8.ofNat n.toNat).toArray⟩ : ByteArray) = strB l := by
    unfold strB; rw [List.map_map]; rfl
  rcases h.slice with ⟨rfl, rfl⟩ | ⟨cap, rfl, h1, h2⟩
  · exact run_convert_bytes_nil w 28 5 Tryz.underlying28 Tryz.underlying5 0 0 9 Tryz.underlying9
  · rw [← e]
    refine run_convert_bytes_arg w 28 5 Tryz.underlying28 Tryz.underlying5 r 0 l.length cap (l.map fun n : Nat => (n : Int)) (by simp) (fun i hi => ?_) 9 Tryz.underlying9
    have hi' : i < l.length := by simpa using hi
    have hc := h.own.cells (g := r) rfl i (.int .u8 (l.getD i 0 : Nat)) (u8s_get hi')
    have ha : (⟨r, 0, none⟩ : Addr).add i = ⟨r, 0 + i, none⟩ := by unfold Addr.add; split <;> simp_all
    rw [ha] at hc
    rw [hc, List.getD_eq_getElem?_getD, List.getD_eq_getElem?_getD, List.getElem?_map]
    rw [List.getElem?_eq_getElem hi']; rfl
end Go.Proofs.YtnadjlejlohgiaaGreatDoor.Mem

/- The program's reader of bits: what bit, get and even do. Conditions: a reader of a text. -/
namespace Go.Proofs.YtnadjlejlohgiaaGreatDoor.Wi
open Go.RowKit Go.Proofs.YtnadjlejlohgiaaGreatDoor.Mem Go.Proofs.YtnadjlejlohgiaaGreatDoor.Bt
set_option linter.unusedVariables false
set_option linter.unusedSimpArgs false
/-- The bits of a text from a place on. -/
def rest (s : ByteArray) (p : Nat) : List Bool := (unpack (chars s)).drop p
theorem unpack_get : ∀ (l : List Nat) {k : Nat}, k < 8 * l.length → (unpack l)[k]? = some (l.getD (k / 8) 0 / 2 ^ (k % 8) % 2 == 1)
  | [], k, h => by simp at h
  | x :: l, k, h => by
    have e : unpack (x :: l) = bitsOf x 8 ++ unpack l := rfl
    rw [e]
    by_cases h8 : k < 8
    · rw [List.getElem?_append_left (by rw [bits_length]; exact h8), show k / 8 = 0 from by omega, show k % 8 = k from by omega]
      have : ∀ (n m j : Nat), j < n → (bitsOf m n)[j]? = some (m / 2 ^ j % 2 == 1) := by
        intro n
        induction n with
        | zero => intro m j hj; omega
        | succ n ih =>
          intro m j hj
          cases j with
          | zero => simp [bitsOf]
          | succ j => simp only [bitsOf, List.getElem?_cons_succ]; rw [ih (m / 2) j (by omega), Nat.div_div_eq_div_mul, Nat.pow_succ, Nat.mul_comm 2]
      exact this 8 x k h8
    · rw [List.getElem?_append_right (by rw [bits_length]; omega), bits_length, unpack_get l (by simp only [List.length_cons] at h; omega), show k / 8 = (k - 8) / 8 + 1 from by omega, show k % 8 = (k - 8) % 8 from by omega]; rfl
theorem unpack_length : ∀ (l : List Nat), (unpack l).length = 8 * l.length
  | [] => rfl
  | x :: l => by
    have e : unpack (x :: l) = bitsOf x 8 ++ unpack l := rfl
    rw [e, List.length_append, bits_length, unpack_length l, List.length_cons]; omega
theorem rest_length (s : ByteArray) (p : Nat) : (rest s p).length = 8 * s.size - p := by unfold rest; rw [List.length_drop, unpack_length, chars_length]
theorem rest_cons {s : ByteArray} {p : Nat} (h : p < 8 * s.size) : rest s p = ((chars s).getD (p / 8) 0 / 2 ^ (p % 8) % 2 == 1) :: rest s (p + 1) := by
  unfold rest
  have hl : p < (unpack (chars s)).length := by rw [unpack_length, chars_length]; exact h
  have := unpack_get (chars s) (k := p) (by rw [chars_length]; exact h)
  rw [List.getElem?_eq_getElem hl] at this
  rw [List.drop_eq_getElem_cons hl, Option.some.inj this]
theorem rest_end {s : ByteArray} {p : Nat} (h : 8 * s.size ≤ p) : rest s p = [] := List.eq_nil_of_length_eq_zero (by rw [rest_length]; omega)
theorem rest_drop (s : ByteArray) (p n : Nat) : (rest s p).drop n = rest s (p + n) := by unfold rest; rw [List.drop_drop]
/-- The program's reader at block g: the text, where it is, whether it is bad. -/
structure IR (w : World) (g : Nat) (s : ByteArray) (p : Nat) (bad : Bool) : Prop where mk ::
  out : Blk w g 95 #[.string s, .int .i64 (p : Int), .bool bad]
  le : p ≤ 8 * s.size
  sz : s.size ≤ 1000000
/-- The number of n bits from p on, where there are as many. -/
def numAt (s : ByteArray) (p n : Nat) : Nat := val ((rest s p).take n)
theorem IR.kp {w w' : World} {g p : Nat} {s : ByteArray} {b : Bool} {S : List Nat} (h : IR w g s p b) (k : Kp S w w') (hg : g ∉ S) : IR w' g s p b := ⟨k.blk h.out hg, h.le, h.sz⟩
theorem IR.on {w w' : World} {g p : Nat} {s : ByteArray} {b : Bool} (h : IR w g s p b) (O : On w w') : IR w' g s p b := h.kp (Kp.of [] O) (by simp)
theorem numAt_one {s : ByteArray} {p : Nat} (h : p < 8 * s.size) : numAt s p 1 = s[p / 8].toNat / 2 ^ (p % 8) % 2 := by
  unfold numAt
  rw [rest_cons h, chars_at s (by omega : p / 8 < s.size)]
  show b1 _ + 2 * 0 = _
  rw [b1_mod, Nat.mul_zero, Nat.add_zero]
theorem numAt_end {s : ByteArray} {p n : Nat} (h : 8 * s.size ≤ p) : numAt s p n = 0 := by unfold numAt; rw [rest_end h]; simp [val]
theorem numAt_lt (s : ByteArray) (p n : Nat) : numAt s p n < 2 ^ n := Nat.lt_of_lt_of_le (val_lt _) (Nat.pow_le_pow_right (by omega) (by rw [List.length_take]; omega))
theorem numAt_succ (s : ByteArray) (p n : Nat) : numAt s p (n + 1) = numAt s p n + 2 ^ n * numAt s (p + n) 1 := by
  unfold numAt
  by_cases h : p + n < 8 * s.size
  · have hl : n < (rest s p).length := by rw [rest_length]; omega
    rw [List.take_succ_eq_append_getElem hl, val_append, List.length_take, Nat.min_eq_left (by omega)]
    have e : rest s (p + n) = (rest s p)[n] :: rest s (p + n + 1) := by rw [← rest_drop, List.drop_eq_getElem_cons hl, show p + n + 1 = p + (n + 1) from rfl, ← rest_drop s p (n + 1)]
    rw [e]; rfl
  · have h1 : (rest s p).length ≤ n := by rw [rest_length]; omega
    rw [rest_end (s := s) (p := p + n) (by omega), List.take_of_length_le (Nat.le_succ_of_le h1), List.take_of_length_le h1]; simp [val]
set_option maxRecDepth 100000 in
theorem bit_calls (g : Nat) (s : ByteArray) (p : Nat) (b : Bool) (w : World) (hw : IR w g s p b) :
    Calls Tryz.prog 86 #[.pointer (some ⟨g, 0, none⟩)] w fun e w' => e = .returned (.int .i64 (numAt s p 1 : Nat)) ∧ IR w' g s (min (p + 1) (8 * s.size)) (b || decide (8 * s.size < p + 1)) ∧ Kp [g] w w' := by
  obtain ⟨hb, hle, hsz⟩ := hw
  have c0 : w.cell? ⟨g, 0, none⟩ = some (.string s) := (hb.cell 0).trans rfl
  have c1 : w.cell? ⟨g, 1, none⟩ = some (.int .i64 p) := (hb.cell 1).trans rfl
  have c2 : w.cell? ⟨g, 2, none⟩ = some (.bool b) := (hb.cell 2).trans rfl
  have fr : ∀ i, w.frozen? ⟨g, i, none⟩ = false := hb.frozen
  have e0 : IntKind.i64.wrap (8 * (s.size : Int)) = 8 * (s.size : Int) := by rw [IntKind.wrap_i64]; omega
  by_cases h : p < 8 * s.size
  · have hi : (p : Int) < 8 * s.size := by omega
    have hi2 : decide (8 * (s.size : Int) ≤ (p : Int)) = false := by simp; omega
    obtain ⟨q, k, hq, hpq, hpk, hv⟩ : ∃ q k, ∃ hq : q < s.size, p / 8 = q ∧ p % 8 = k ∧ numAt s p 1 = s[q].toNat / 2 ^ k % 2 := ⟨p / 8, p % 8, by omega, rfl, rfl, numAt_one h⟩
    have e1 : IntKind.i64.wrap ((p : Int) / 8) = (q : Int) := by rw [IntKind.wrap_i64]; omega
    have e2 : Int.tmod (p : Int) 8 = (k : Int) := by rw [show (8 : Int) = ((8 : Nat) : Int) from rfl, tmod_nat, hpk]
    have e3 : Int.tdiv (p : Int) 8 = (q : Int) := by rw [show (8 : Int) = ((8 : Nat) : Int) from rfl, tdiv_nat, hpq]
    have hq2 : (q : Int) < s.size := by omega
    have hk2 : (k : Int) < 64 := by omega
    have HV := Lib.hid hv
    clear hv hpq hpk
    go_enter Tryz.func86, Tryz.ntmps86
    go_wp2_with fail
    go_quiet (fail)
    go_wp2_with fail
    go_quiet (fail)
    go_wp2_with fail
    go_ret
    have hx : s[q].toNat < 256 := s[q].toNat_lt
    have ew : wrap64 (s[q].toNat : Int) = (s[q].toNat : Int) := by unfold wrap64; omega
    refine ⟨?_, ⟨?_, Nat.min_le_right _ _, hsz⟩, ?_⟩
    · show Ending.returned (.int .i64 _) = _
      rw [ew, HV.out, bit_and _ _ (by omega)]
    · rw [Nat.min_eq_left (by omega), show decide (8 * s.size < p + 1) = false from by simp; omega, Bool.or_false]
      exact ((hb.drewN _).set 1 (.int .i64 ((p : Int) + 1)))
    · exact ((Kp.refl [g] w).drewN _).set (.inl (by simp)) _
  · have hi : 8 * (s.size : Int) ≤ p := by omega
    go_enter Tryz.func86, Tryz.ntmps86
    go_wp2_with fail
    go_quiet (fail)
    go_wp2_with fail
    go_ret
    refine ⟨by rw [numAt_end (by omega)]; rfl, ⟨?_, Nat.min_le_right _ _, hsz⟩, ?_⟩
    · rw [show min (p + 1) (8 * s.size) = p from by omega, show decide (8 * s.size < p + 1) = true from by simp; omega, Bool.or_true]
      exact ((hb.drewN _).set 2 (.bool true))
    · exact ((Kp.refl [g] w).drewN _).set (.inl (by simp)) _
theorem numAt_min (s : ByteArray) (p n : Nat) : numAt s (min p (8 * s.size)) n = numAt s p n := by
  by_cases h : p ≤ 8 * s.size
  · rw [Nat.min_eq_left h]
  · rw [Nat.min_eq_right (by omega), numAt_end (by omega), numAt_end (by omega)]
theorem or_bit64 {x y k : Nat} (hx : x < 2) (hk : k < 17) (hy : y < 2 ^ k) : Go.bits .or .i64 (y : Int) ((2 ^ k * x : Nat) : Int) = ((y + 2 ^ k * x : Nat) : Int) ∧ IntKind.i64.wrap ((x : Int) * 2 ^ k) = ((2 ^ k * x : Nat) : Int) := by
  have h1 : 2 ^ k ≤ 2 ^ 16 := Nat.pow_le_pow_right (by omega) (by omega)
  have h2 : 2 ^ k * x ≤ 2 ^ k * 1 := Nat.mul_le_mul_left _ (by omega)
  have e : (2 : Int) ^ k = ((2 ^ k : Nat) : Int) := by simp
  have ec : ∀ a b : Int, Go.bits .or .i64 a b = Go.bits .or .i64 b a := fun a b => by simp only [Go.bits]; rw [BitVec.or_comm]
  refine ⟨?_, ?_⟩
  · rw [ec, bits_join .i64 63 (by decide) wr_i64 k ((2 ^ k * x : Nat) : Int) (y : Int) (by omega) (by rw [e, Int.natCast_mul, Int.mul_emod_right]) (by omega) (by omega) (by rw [e]; omega) (by omega)]
    omega
  · rw [e, ← Int.natCast_mul, Nat.mul_comm, IntKind.wrap_i64]; omega
set_option maxRecDepth 100000 in
theorem get_calls (g n : Nat) (s : ByteArray) (p : Nat) (b : Bool) (w : World) (hw : IR w g s p b) (hn : n ≤ 16) :
    Calls Tryz.prog 87 #[.pointer (some ⟨g, 0, none⟩), .int .i64 (n : Int)] w fun e w' => e = .returned (.int .i64 (numAt s p n : Nat)) ∧ IR w' g s (min (p + n) (8 * s.size)) (b || decide (8 * s.size < p + n)) ∧ Kp [g] w w' := by
  go_enter Tryz.func87, Tryz.ntmps87
  go_wp2_with fail
  go_loopw [5, 8] (fun y x wr => ∃ (k : Nat), x = .int .i64 k ∧ k ≤ n ∧ y = .int .i64 (numAt s p k : Nat) ∧ IR wr g s (min (p + k) (8 * s.size)) (b || decide (8 * s.size < p + k)) ∧ Kp [g] w wr) (fun _ x _ => n - (intOf x).toNat)
  case atStart =>
    have hle := hw.le
    refine ⟨0, rfl, by omega, by simp [numAt, val], ?_, Kp.refl _ _⟩
    rw [Nat.add_zero, Nat.min_eq_left hle, show decide (8 * s.size < p) = false from by simp; omega, Bool.or_false]
    exact hw
  case round =>
    obtain ⟨k, rfl, hk, rfl, hr, K⟩ := hrel
    by_cases hlt : k < n
    · have hc := bit_calls g s _ _ wr hr
      rw [numAt_min] at hc
      have hx := numAt_lt s (p + k) 1
      have hy := numAt_lt s p k
      obtain ⟨o1, o2⟩ := or_bit64 (show numAt s (p + k) 1 < 2 from hx) (show k < 17 by omega) hy
      have hs := numAt_succ s p k
      have hk2 : (k : Int) < 64 := by omega
      have hk3 : (k : Int) < n := by omega
      have hy0 : (0 : Int) ≤ k := by omega
      have HS := Lib.hid hs
      have HC := Lib.hid hc
      clear hs hc
      generalize numAt s (p + k) 1 = x at *
      generalize numAt s p k = y at *
      generalize 2 ^ k * x = z at *
      go_wp2_with fail
      refine HC.out.mono ?_
      rintro e w2 ⟨rfl, hr2, K2⟩
      go_wp2_with fail
      go_roundw
      case rel =>
        refine ⟨k + 1, by go_num, by omega, by rw [HS.out, Int.natCast_add], ?_, K.then K2⟩
        have e1 : min (min (p + k) (8 * s.size) + 1) (8 * s.size) = min (p + (k + 1)) (8 * s.size) := by omega
        have e2 : ((b || decide (8 * s.size < p + k)) || decide (8 * s.size < min (p + k) (8 * s.size) + 1)) = (b || decide (8 * s.size < p + (k + 1))) := by
          rw [Bool.or_assoc]; congr 1
          rw [Bool.eq_iff_iff]; simp; omega
        rw [e1, e2] at hr2
        exact hr2
      case measure => simp [intOf]; omega
    · obtain rfl : k = n := by omega
      go_wp2_with fail
      go_ret
      exact ⟨rfl, hr, K⟩
/-- Where the next whole byte begins; whether all ahead of it is noughts. -/
def evenAt (p : Nat) : Nat := (p + 7) / 8 * 8
def padOk (s : ByteArray) (p : Nat) : Bool := ((rest s p).take (evenAt p - p)).all (!·)
set_option maxRecDepth 100000 in
theorem reven_calls (g : Nat) (s : ByteArray) (p : Nat) (b : Bool) (w : World) (hw : IR w g s p b) :
    Calls Tryz.prog 92 #[.pointer (some ⟨g, 0, none⟩)] w fun e w' => e = .returned (.tuple #[]) ∧ IR w' g s (evenAt p) (b || !padOk s p) ∧ Kp [g] w w' := by
  go_enter Tryz.func92, Tryz.ntmps92
  have hle := hw.le
  go_wp2_with fail
  go_loopw [7] (fun _ wr => ∃ (q : Nat), p ≤ q ∧ q ≤ evenAt p ∧ IR wr g s q (b || !(((rest s p).take (q - p)).all (!·))) ∧ Kp [g] w wr) (fun _ wr => match wr.cell? ⟨g, 1, none⟩ with | some x => 8 * s.size - (intOf x).toNat | none => 0)
  case atStart =>
    refine ⟨p, Nat.le_refl _, by unfold evenAt; omega, ?_, Kp.refl _ _⟩
    simpa using hw
  case round =>
    obtain ⟨q, hpq, hq, hr, K⟩ := hrel
    have B := hr.out
    have hql := hr.le
    have c1 : wr.cell? ⟨g, 1, none⟩ = some (.int .i64 q) := (B.cell 1).trans rfl
    have e2 : Int.tmod (q : Int) 8 = ((q % 8 : Nat) : Int) := tmod_nat q 8
    by_cases h8 : q % 8 = 0
    · have hqe : q = evenAt p := by unfold evenAt at *; omega
      rw [h8] at e2
      go_wp2_with fail
      go_end0
      refine ⟨rfl, ?_, K⟩
      unfold padOk
      rw [← hqe]; exact hr
    · have hqn : q + 1 ≤ evenAt p := by unfold evenAt at *; omega
      have hqs : q < 8 * s.size := by omega
      have h8' : ((((q % 8 : Nat) : Int)) == 0) = false := by simp; omega
      have hc := bit_calls g s _ _ wr hr
      have HC := Lib.hid hc
      clear hc
      have hs : ((rest s p).take (q + 1 - p)).all (!·) = (((rest s p).take (q - p)).all (!·) && (numAt s q 1 == 0)) := by
        have hl : q - p < (rest s p).length := by rw [rest_length]; omega
        rw [show q + 1 - p = (q - p) + 1 from by omega, List.take_succ_eq_append_getElem hl, List.all_append]
        have e : rest s q = (rest s p)[q - p] :: rest s (q + 1) := by
          have := rest_drop s p (q - p)
          rw [show p + (q - p) = q from by omega] at this
          have h3 := rest_drop s p (q + 1 - p)
          rw [show p + (q + 1 - p) = q + 1 from by omega] at h3
          rw [← this, ← h3, List.drop_eq_getElem_cons hl, show q - p + 1 = q + 1 - p from by omega]
        unfold numAt
        rw [e]
        cases (rest s p)[q - p] <;> rfl
      have HS := Lib.hid hs
      clear hs
      have hx := numAt_lt s q 1
      obtain ⟨x, hxx⟩ : ∃ x, numAt s q 1 = x := ⟨_, rfl⟩
      rw [hxx] at hx
      have HX := Lib.hid hxx
      clear hxx
      by_cases h0 : x = 0
      case' pos =>
        subst h0
        go_wp2_with fail
        refine HC.out.mono ?_
        rintro e w2 ⟨rfl, hr2, K2⟩
        rw [HX.out]
        go_wp2_with fail
        obtain ⟨w3, hw3⟩ : ∃ w3, w3 = w2 := ⟨_, rfl⟩
        have hr3 : IR w3 g s (q + 1) (b || !(((rest s p).take (q + 1 - p)).all (!·))) := by
          rw [HS.out, HX.out, hw3]
          rw [Nat.min_eq_left (by omega), show decide (8 * s.size < q + 1) = false from by simp; omega, Bool.or_false] at hr2
          simpa using hr2
        have K3 : Kp [g] wr w3 := hw3 ▸ K2
        subst hw3
      case' neg =>
        have hx1 : x = 1 := by omega
        subst hx1
        go_wp2_with fail
        refine HC.out.mono ?_
        rintro e w2 ⟨rfl, hr2, K2⟩
        rw [HX.out]
        have fr : ∀ i, w2.frozen? ⟨g, i, none⟩ = false := hr2.out.frozen
        have d0 : w2.cell? ⟨g, 0, none⟩ = some (.string s) := (hr2.out.cell 0).trans rfl
        have d2 := (hr2.out.cell 2).trans rfl
        go_wp2_with fail
        have hr3 : IR (w2.setCell ⟨g, 2, none⟩ (.bool true)) g s (q + 1) (b || !(((rest s p).take (q + 1 - p)).all (!·))) := by
          rw [HS.out, HX.out]
          rw [Nat.min_eq_left (by omega)] at hr2
          refine ⟨?_, by omega, hr2.sz⟩
          have := hr2.out.set 2 (.bool true)
          simpa using this
        have K3 : Kp [g] wr (w2.setCell ⟨g, 2, none⟩ (.bool true)) := K2.set (.inl (by simp)) _
        generalize w2.setCell ⟨g, 2, none⟩ (.bool true) = w3 at *
      all_goals
        go_roundw
        case rel => exact ⟨q + 1, by omega, hqn, hr3, K.then K3⟩
        case measure =>
          have c3 : w3.cell? ⟨g, 1, none⟩ = some (.int .i64 ((q + 1 : Nat) : Int)) := (hr3.out.cell 1).trans rfl
          rw [c3, c1]
          simp [intOf]; omega
end Go.Proofs.YtnadjlejlohgiaaGreatDoor.Wi

/- Rows of bytes that are not nil. -/
namespace Go.Proofs.YtnadjlejlohgiaaGreatDoor.Wi
open Go.RowKit Go.Proofs.YtnadjlejlohgiaaGreatDoor.Mem
set_option linter.unusedVariables false
set_option linter.unusedSimpArgs false
/-- A slice that is not nil, of bytes at block r. -/
structure By (w : World) (r cap : Nat) (l : List Nat) : Prop where mk ::
  out : Bytes w r (.slice (some ⟨r, 0, none⟩) l.length cap) l
theorem By.lt {w : World} {r cap : Nat} {l : List Nat} (h : By w r cap l) : r < w.heap.size := by
  rcases h.out.own.2 with ⟨h1, _⟩ | ⟨g, c, cur, hv, _, hh, _⟩
  · cases h1
  · have : g = r := h.out.at_ g (by rw [hv]; rfl)
    subst this
    rcases Nat.lt_or_ge g w.heap.size with h | h
    · exact h
    · rw [Array.getElem?_eq_none h] at hh; cases hh
theorem By.cell {w : World} {r cap : Nat} {l : List Nat} (h : By w r cap l) {i : Nat} (hi : i < l.length) : w.cell? ⟨r, i, none⟩ = some (.int .u8 (l.getD i 0 : Nat)) := by
  obtain ⟨_, _, _, _, R⟩ := h.out.parts (by intro e; rw [e] at hi; simp at hi)
  exact R.cell (u8s_get hi)
theorem By.kp {S : List Nat} {w w' : World} {r cap : Nat} {l : List Nat} (h : By w r cap l) (k : Kp S w w') (hr : r ∉ S) : By w' r cap l := ⟨h.out.kp k hr⟩
theorem By.on {w w' : World} {r cap : Nat} {l : List Nat} (h : By w r cap l) (O : On w w') : By w' r cap l := h.kp (Kp.of [] O) (by simp)
end Go.Proofs.YtnadjlejlohgiaaGreatDoor.Wi

/- The program adds to bytes what a token tells that leads back. Conditions: a row of bytes, sizes. -/
namespace Go.Proofs.YtnadjlejlohgiaaGreatDoor.Wi
open Go.RowKit Go.Proofs.YtnadjlejlohgiaaGreatDoor.Mem Go.Proofs.YtnadjlejlohgiaaGreatDoor.Bt Go.Proofs.YtnadjlejlohgiaaGreatDoor.Lz
set_option linter.unusedVariables false
set_option linter.unusedSimpArgs false
def backOk (n L B : Nat) : Prop := 3 ≤ L ∧ L ≤ 60 ∧ 1 ≤ B ∧ B ≤ 250 ∧ B ≤ n
instance (n L B : Nat) : Decidable (backOk n L B) := by unfold backOk; infer_instance
theorem add_back {l : List Nat} {L B : Nat} (h1 : 1 ≤ L) : add l ⟨0, (L : Int), (B : Int)⟩ = if backOk l.length L B then some (copy l B L) else none := by
  unfold add
  rw [if_neg (by simp; omega)]
  by_cases h : backOk l.length L B
  · rw [if_pos h]
    unfold backOk at h
    rw [if_pos (by simp; omega)]; rfl
  · rw [if_neg h]
    unfold backOk at h
    rw [if_neg (by simp; omega)]
/-- What a call on a row of bytes leaves: all but its block; the row may lie in new memory. -/
structure Mb (r : Nat) (w : World) (r' : Nat) (w' : World) : Prop where
  kp : Kp [r] w w'
  at_ : r' = r ∨ w.heap.size ≤ r'
theorem Mb.refl (r : Nat) (w : World) : Mb r w r w := ⟨Kp.refl _ _, .inl rfl⟩
theorem Mb.trans {r r1 r2 : Nat} {w w1 w2 : World} (h : Mb r w r1 w1) (k : Mb r1 w1 r2 w2) : Mb r w r2 w2 := by
  refine ⟨h.kp.trans k.kp (fun x hx => ?_), ?_⟩
  · simp only [List.mem_singleton] at hx ⊢
    rcases h.at_ with e | e <;> omega
  · have := h.kp.size
    rcases k.at_ with e | e
    · rw [e]; exact h.at_
    · right; omega
set_option maxRecDepth 100000 in
theorem iadd_calls (r cap n L B : Nat) (l : List Nat) (w : World) (hb : By w r cap l) (hn : l.length = n) (hn2 : n ≤ 1000) (hL : 1 ≤ L) (hL2 : L ≤ 100000) (hB2 : B ≤ 100000) :
    Calls Tryz.prog 125 #[.slice (some ⟨r, 0, none⟩) n cap, .agg #[.int .i64 0, .int .i64 (L : Int), .int .i64 (B : Int)]] w fun e w' =>
      (backOk n L B ∧ ∃ r' cap', e = .returned (.tuple #[.slice (some ⟨r', 0, none⟩) (n + L) cap', .bool true]) ∧ By w' r' cap' (copy l B L) ∧ Mb r w r' w') ∨
      (¬ backOk n L B ∧ e = .returned (.tuple #[.slice none 0 0, .bool false]) ∧ On w w') := by
  have HN := Lib.hid hn
  clear hn
  have hm : (if (n : Int) < 250 then (n : Int) else 250) = ((min 250 n : Nat) : Int) := by split <;> omega
  have hm2 : (if (250 : Int) ≤ (n : Int) then (250 : Int) else (n : Int)) = ((min 250 n : Nat) : Int) := by split <;> omega
  have hL0 : ((L : Int) == 0) = false := by simp; omega
  have BA := Blk.new w 117 #[.int .i64 0, .int .i64 (L : Int), .int .i64 (B : Int)]
  have OA := (On.refl w).alloc (.cells #[.int .i64 0, .int .i64 (L : Int), .int .i64 (B : Int)] 117)
  have hrl := hb.lt
  by_cases h1 : 3 ≤ L ∧ L ≤ 60
  · by_cases h2 : 1 ≤ B ∧ B ≤ min 250 n
    · have hok : backOk n L B := by unfold backOk; omega
      go_enter Tryz.func125, Tryz.ntmps125
      go_wp2_with fail
      refine (within_yes _ (by omega) (by omega)).mono ?_
      rintro e w2 ⟨rfl, hw⟩
      obtain rfl : _ = w2 := hw.symm
      go_wp2_with fail
      refine (within_yes _ (by omega) (by omega)).mono ?_
      rintro e w2 ⟨rfl, hw⟩
      obtain rfl : _ = w2 := hw.symm
      have hz : w.heap.size ≠ r := by omega
      have hb1 := hb.on OA
      have hml : ∀ k, (copy l B k).length = n + k := fun k => by rw [copy_length, HN.out]
      have HML := Lib.hid hml
      have c1 : (w.alloc (.cells #[.int .i64 0, .int .i64 (L : Int), .int .i64 (B : Int)] 117)).cell? ⟨w.heap.size, 1, none⟩ = some (.int .i64 (L : Int)) := (BA.cell 1).trans rfl
      have hbs := BA.lt
      have HOK := Lib.hid hok
      clear hml hm hm2 hok
      generalize w.heap.size = tb at *
      generalize w.alloc (.cells #[.int .i64 0, .int .i64 (L : Int), .int .i64 (B : Int)] 117) = w1 at *
      go_wp2_with fail
      go_loopw [0, 44] (fun o x wr => ∃ (k r' cap' : Nat), x = .int .i64 (k : Int) ∧ k ≤ L ∧ o = .slice (some ⟨r', 0, none⟩) (n + k) cap' ∧ By wr r' cap' (copy l B k) ∧ Mb r w1 r' wr) (fun _ x _ => L - (intOf x).toNat)
      case atStart => exact ⟨0, r, cap, rfl, by omega, rfl, hb1, Mb.refl _ _⟩
      case round =>
        obtain ⟨k, r', cap', rfl, hk, rfl, hB, M⟩ := hrel
        by_cases hlt : k < L
        · have hlen := HML.out k
          have hr' : tb ≠ r' := by rcases M.at_ with e | e <;> omega
          have BT := M.kp.blk BA (by simp; exact hz)
          have d2 : wr.cell? ⟨tb, 2, none⟩ = some (.int .i64 (B : Int)) := (BT.cell 2).trans rfl
          have hbk := HOK.out
          unfold backOk at hbk
          have hi : n + k - B < (copy l B k).length := by rw [hlen]; omega
          have hcell := hB.cell hi
          have hst : copy l B (k + 1) = copy l B k ++ [(copy l B k).getD (n + k - B) 0] := by rw [copy, hlen]
          have hby : Bytes wr r' (.slice (some ⟨r', 0, none⟩) (n + k) cap') (copy l B k) := by have := hB.out; rw [hlen] at this; exact this
          have HST := Lib.hid hst
          have HLEN := Lib.hid hlen
          have hk2 : (k : Int) < L := by omega
          clear hst hlen hi hbk
          generalize copy l B k = lk at *
          generalize lk.getD (n + k - B) 0 = x at *
          obtain ⟨m, hm⟩ : ∃ m, n + k = m := ⟨_, rfl⟩
          have e1 : IntKind.i64.wrap ((m : Int) - (B : Int)) = ((m - B : Nat) : Int) := by have := HOK.out; unfold backOk at this; rw [IntKind.wrap_i64]; omega
          have e2 : ((m - B : Nat) : Int) < m := by have := HOK.out; unfold backOk at this; omega
          rw [hm] at hcell hby ⊢
          have HM := Lib.hid hm
          have hmle : m ≤ 101000 := by omega
          clear hm
          generalize m - B = mb at *
          go_wp2_with (at_builtin; go_must (refine wpList_byte (x := x) rfl _ _ rfl rfl hby rfl (by rw [HLEN.out, HM.out]; omega) ?_); intro r2 cap2 w2 hby2 hr2 hrl2 K2 hc1 hc2)
          go_roundw
          case rel =>
            refine ⟨k + 1, r2, cap2, by go_num, by omega, ?_, ?_, ?_⟩
            · rw [HLEN.out]; rfl
            · rw [HST.out]
              refine ⟨?_⟩
              rw [List.length_append]
              exact hby2
            · exact M.trans ⟨K2, hr2⟩
          case measure => simp [intOf]; omega
        · obtain rfl : k = L := by omega
          go_wp2_with fail
          go_ret2
          refine .inl ⟨HOK.out, r', cap', rfl, hB, ?_⟩
          refine ⟨(Kp.of [r] OA).then M.kp, ?_⟩
          have := OA.size
          rcases M.at_ with e | e <;> omega
    · go_enter Tryz.func125, Tryz.ntmps125
      go_wp2_with fail
      refine (within_yes _ (by omega) (by omega)).mono ?_
      rintro e w2 ⟨rfl, hw⟩
      obtain rfl : _ = w2 := hw.symm
      go_wp2_with fail
      refine (within_no _ (by omega)).mono ?_
      rintro e w2 ⟨rfl, hw⟩
      obtain rfl : _ = w2 := hw.symm
      go_wp2_with fail
      go_ret2
      exact .inr ⟨by unfold backOk; omega, rfl, OA⟩
  · go_enter Tryz.func125, Tryz.ntmps125
    go_wp2_with fail
    refine (within_no _ (by omega)).mono ?_
    rintro e w2 ⟨rfl, hw⟩
    obtain rfl : _ = w2 := hw.symm
    go_wp2_with fail
    go_ret2
    exact .inr ⟨by unfold backOk; omega, rfl, OA⟩
end Go.Proofs.YtnadjlejlohgiaaGreatDoor.Wi

