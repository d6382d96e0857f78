/- The plain law behind the statement FnStampOrder: what its walk computes is true at every input. -/
import Derived.Test.YtmkhhpnagmkgeaaPFnStampOrderx4
import Derived.Laws.BitsLemmas
namespace Go.Proofs.Ytmkhhpnagmkgeaa.Pure
open Go.RowKit Go.Proofs.Ytmkhhpnagmkgeaa.PFnStampOrder Go.Proofs.YtmkhhpnagmkgeaaW.PrintWords Go.Proofs.YtmkhhpnagmkgeaaW.PrintLast Go.Proofs.YtmkhhpnagmkgeaaW.PrintMore
set_option linter.unusedVariables false
set_option linter.unusedSimpArgs false
namespace FnStampOrderAid
theorem w64 {x : Int} (h1 : -9223372036854775808 ≤ x) (h2 : x < 9223372036854775808) : wrap64 x = x := by unfold wrap64; omega
theorem wr_i64 (n : Int) (h₀ : 0 ≤ n) (h₁ : n < 2 ^ 63) : IntKind.i64.wrap n = n := by rw [IntKind.wrap_i64]; omega
theorem and_mask (i : Nat) (hi : i ≤ 63) {x m : Int} (hm : m = 2 ^ i - 1) (h0 : 0 ≤ x) (h1 : x < 9223372036854775808) : Go.bits .and .i64 x m = x % 2 ^ i := by
  subst hm
  exact bits_mask .i64 63 (by decide) wr_i64 i hi x h0 (by omega)
theorem or_add (i : Nat) {x y : Int} (h0 : 0 ≤ x) (hx : x % 2 ^ i = 0) (h1 : x < 9223372036854775808) (y0 : 0 ≤ y) (y1 : y < 2 ^ i) (y2 : y < 9223372036854775808) : Go.bits .or .i64 x y = x + y :=
  bits_join .i64 63 (by decide) wr_i64 i x y h0 hx (by omega) y0 y1 (by omega)
theorem or_comm (x y : Int) : Go.bits .or .i64 x y = Go.bits .or .i64 y x := by
  simp only [Go.bits]; rw [BitVec.or_comm]
theorem or_lo (i : Nat) {x y : Int} (x0 : 0 ≤ x) (x1 : x < 2 ^ i) (x2 : x < 9223372036854775808) (h0 : 0 ≤ y) (hy : y % 2 ^ i = 0) (h1 : y < 9223372036854775808) : Go.bits .or .i64 x y = x + y := by
  rw [or_comm, or_add i h0 hy h1 x0 x1 x2]; omega
def dd (y m : Int) : Int := if m = 4 then 30 else if m = 6 then 30 else if m = 9 then 30 else if m = 11 then 30 else if m = 2 then (if Int.tmod y 4 = 0 then (if Int.tmod y 100 = 0 then (if Int.tmod y 400 = 0 then 29 else 28) else 29) else 28) else 31
theorem days_eq (k : Nat) (y m : Int) : spec_l6Days.f (k + 1) y m = some (dd y m) := by
  unfold spec_l6Days.f dd
  simp only [spec_l6Days.j0]
  by_cases h4 : m = 4
  · subst h4; simp
  by_cases h6 : m = 6
  · subst h6; simp
  by_cases h9 : m = 9
  · subst h9; simp
  by_cases h11 : m = 11
  · subst h11; simp
  have e : (m == 11) = false := by simp [h11]
  simp only [h4, h6, h9, h11, e, if_false]
  by_cases h2 : m = 2
  · simp only [h2, if_true]
    by_cases a : Int.tmod y 4 = 0 <;> by_cases b : Int.tmod y 100 = 0 <;> by_cases c : Int.tmod y 400 = 0 <;> simp [a, b, c]
  · simp [h2]
theorem dd_le (y m : Int) : dd y m ≤ 31 := by unfold dd; repeat' split
                                              all_goals omega
theorem in_eq (a b c : Int) : spec_l1In.f a b c = some (decide (b ≤ a ∧ a ≤ c)) := by
  unfold spec_l1In.f
  by_cases h : a ≥ b
  · have h' : b ≤ a := h
    rw [if_pos h]; simp [h']
  · have h' : ¬ b ≤ a := h
    rw [if_neg h]; simp [h']
def okp (y m d h mi s : Int) : Prop := (1980 ≤ y ∧ y ≤ 2107) ∧ (1 ≤ m ∧ m ≤ 12) ∧ (1 ≤ d ∧ d ≤ dd y m) ∧ (0 ≤ h ∧ h ≤ 23) ∧ (0 ≤ mi ∧ mi ≤ 59) ∧ (0 ≤ s ∧ s ≤ 58) ∧ Int.tmod s 2 = 0
instance decOkp (y m d h mi s : Int) : Decidable (okp y m d h mi s) := by unfold okp; infer_instance
theorem sok_eq (k : Nat) (y m d h mi s : Int) : spec_StampOk.f (k + 1) y m d h mi s = some (decide (okp y m d h mi s)) := by
  unfold spec_StampOk.f okp
  simp only [in_eq, days_eq, Option.bind_some, decide_eq_true_eq]
  by_cases h1 : 1980 ≤ y ∧ y ≤ 2107
  rotate_left
  · rw [if_neg h1]; simp [h1]
  by_cases h2 : 1 ≤ m ∧ m ≤ 12
  rotate_left
  · rw [if_pos h1, if_neg h2]; simp [h2]
  by_cases h3 : 1 ≤ d ∧ d ≤ dd y m
  rotate_left
  · rw [if_pos h1, if_pos h2, if_neg h3]; simp [h3]
  by_cases h4 : 0 ≤ h ∧ h ≤ 23
  rotate_left
  · rw [if_pos h1, if_pos h2, if_pos h3, if_neg h4]; simp [h4]
  by_cases h5 : 0 ≤ mi ∧ mi ≤ 59
  rotate_left
  · rw [if_pos h1, if_pos h2, if_pos h3, if_pos h4, if_neg h5]; simp [h5]
  by_cases h6 : 0 ≤ s ∧ s ≤ 58
  rotate_left
  · rw [if_pos h1, if_pos h2, if_pos h3, if_pos h4, if_pos h5, if_neg h6]; simp [h6]
  rw [if_pos h1, if_pos h2, if_pos h3, if_pos h4, if_pos h5, if_pos h6]
  have e : (Int.tmod s 2 == 0) = decide (Int.tmod s 2 = 0) := by rw [Bool.eq_iff_iff]; simp
  rw [e]
  congr 1
  exact decide_eq_decide.2 ⟨fun t => ⟨h1, h2, h3, h4, h5, h6, t⟩, fun t => t.2.2.2.2.2.2⟩
theorem iok_eq (k : Nat) (y m d h mi s : Int) : impl_StampOk.f (k + 1) y m d h mi s = some (decide (okp y m d h mi s)) :=
  (show impl_StampOk.f (k + 1) y m d h mi s = spec_StampOk.f (k + 1) y m d h mi s from rfl).trans (sok_eq k y m d h mi s)
def num (y m d h mi s : Int) : Int := (y - 1980) * 33554432 + m * 2097152 + d * 65536 + h * 2048 + mi * 32 + s / 2
theorem iput_ok {y m d h mi s : Int} (ok : okp y m d h mi s) (k : Nat) : impl_StampPut.f (k + 1) y m d h mi s = some (num y m d h mi s) := by
  unfold impl_StampPut.f
  rw [iok_eq]
  simp only [Option.bind_some, decide_eq_true_eq]
  rw [if_pos ok]
  obtain ⟨⟨a1, a2⟩, ⟨b1, b2⟩, ⟨c1, c2⟩, ⟨d1, d2⟩, ⟨e1, e2⟩, ⟨f1, f2⟩, g⟩ := ok
  have c3 := dd_le y m
  rw [Int.tdiv_eq_ediv_of_nonneg f1]
  rw [w64 (by omega) (by omega), w64 (x := mi * 32) (by omega) (by omega), w64 (x := h * 2048) (by omega) (by omega), w64 (x := d * 65536) (by omega) (by omega), w64 (x := m * 2097152) (by omega) (by omega), w64 (x := y - 1980) (by omega) (by omega), w64 (x := (y - 1980) * 33554432) (by omega) (by omega)]
  rw [or_lo 5 (x := s / 2) (y := mi * 32) (by omega) (by omega) (by omega) (by omega) (by omega) (by omega)]
  rw [or_lo 11 (x := s / 2 + mi * 32) (y := h * 2048) (by omega) (by omega) (by omega) (by omega) (by omega) (by omega)]
  rw [or_lo 16 (x := s / 2 + mi * 32 + h * 2048) (y := d * 65536) (by omega) (by omega) (by omega) (by omega) (by omega) (by omega)]
  rw [or_lo 21 (x := s / 2 + mi * 32 + h * 2048 + d * 65536) (y := m * 2097152) (by omega) (by omega) (by omega) (by omega) (by omega) (by omega)]
  rw [or_lo 25 (x := s / 2 + mi * 32 + h * 2048 + d * 65536 + m * 2097152) (y := (y - 1980) * 33554432) (by omega) (by omega) (by omega) (by omega) (by omega) (by omega)]
  unfold num
  congr 1
  omega
theorem iput_no {y m d h mi s : Int} (ok : ¬ okp y m d h mi s) (k : Nat) : impl_StampPut.f (k + 1) y m d h mi s = some (-1) := by
  unfold impl_StampPut.f
  rw [iok_eq]
  simp only [Option.bind_some, decide_eq_true_eq]
  rw [if_neg ok]
theorem num_bd {y m d h mi s : Int} (ok : okp y m d h mi s) : 0 ≤ num y m d h mi s ∧ num y m d h mi s < 4294967296 := by
  obtain ⟨⟨a1, a2⟩, ⟨b1, b2⟩, ⟨c1, c2⟩, ⟨d1, d2⟩, ⟨e1, e2⟩, ⟨f1, f2⟩, g⟩ := ok
  have c3 := dd_le y m
  unfold num
  omega
theorem sput_ok {y m d h mi s : Int} (ok : okp y m d h mi s) (k : Nat) : spec_StampPut.f (k + 1) y m d h mi s = some (num y m d h mi s) := by
  unfold spec_StampPut.f
  rw [sok_eq]
  simp only [Option.bind_some, decide_eq_true_eq]
  rw [if_pos ok]
  obtain ⟨⟨a1, a2⟩, ⟨b1, b2⟩, ⟨c1, c2⟩, ⟨d1, d2⟩, ⟨e1, e2⟩, ⟨f1, f2⟩, g⟩ := ok
  have c3 := dd_le y m
  unfold spec_l6Put.f num
  simp only [Option.bind_some]
  rw [Int.tdiv_eq_ediv_of_nonneg f1]
  congr 1
  unfold wrap64
  omega
theorem sput_no {y m d h mi s : Int} (ok : ¬ okp y m d h mi s) (k : Nat) : spec_StampPut.f (k + 1) y m d h mi s = some (-1) := by
  unfold spec_StampPut.f
  rw [sok_eq]
  simp only [Option.bind_some, decide_eq_true_eq]
  rw [if_neg ok]
def put (y m d h mi s : Int) : Int := if okp y m d h mi s then num y m d h mi s else -1
theorem iput_eq (y m d h mi s : Int) (k : Nat) : impl_StampPut.f (k + 1) y m d h mi s = some (put y m d h mi s) := by
  unfold put
  by_cases ok : okp y m d h mi s
  · rw [if_pos ok, iput_ok ok]
  · rw [if_neg ok, iput_no ok]
theorem sput_eq (y m d h mi s : Int) (k : Nat) : spec_StampPut.f (k + 1) y m d h mi s = some (put y m d h mi s) := by
  unfold put
  by_cases ok : okp y m d h mi s
  · rw [if_pos ok, sput_ok ok]
  · rw [if_neg ok, sput_no ok]
def byteOk (b : List Int) : Prop := b.length ≤ 2000 ∧ ∀ x ∈ b, 0 ≤ x ∧ x ≤ 255
theorem rd_bd {b : List Int} (hb : byteOk b) (i : Int) : 0 ≤ rd b i ∧ rd b i ≤ 255 := by
  unfold rd
  by_cases h : i.toNat < b.length
  · rw [List.getD_eq_getElem?_getD, List.getElem?_eq_getElem h]; exact hb.2 _ (List.getElem_mem h)
  · rw [List.getD_eq_getElem?_getD, List.getElem?_eq_none (by omega)]; decide
theorem xor_nn {x y : Int} (x0 : 0 ≤ x) (x1 : x < 9223372036854775808) (y0 : 0 ≤ y) (y1 : y < 9223372036854775808) : 0 ≤ Go.bits .xor .i64 x y := by
  obtain ⟨a, rfl⟩ := Int.eq_ofNat_of_zero_le x0
  obtain ⟨b, rfl⟩ := Int.eq_ofNat_of_zero_le y0
  have ha : a < 2 ^ 63 := by omega
  have hb : b < 2 ^ 63 := by omega
  have hx := Nat.xor_lt_two_pow ha hb
  have ha' : a % 2 ^ IntKind.i64.bits = a := by show a % 2 ^ 64 = a; omega
  have hb' : b % 2 ^ IntKind.i64.bits = b := by show b % 2 ^ 64 = b; omega
  simp only [Go.bits, BitVec.ofInt_natCast, BitVec.toNat_xor, BitVec.toNat_ofNat, ha', hb']
  rw [wr_i64 _ (by omega) (by omega)]
  omega
theorem pick_tells {b : List Int} (hb : byteOk b) {p : Int} (p0 : 0 ≤ p) (p1 : p ≤ 1000000000) {n : Int} (n1 : 1 ≤ n) : ∃ r, 0 ≤ r ∧ r < n ∧ ∀ k, spec_l1Rd_pick.f (k + 1) b p n = some (r, p + 1) := by
  unfold spec_l1Rd_pick.f
  simp only [show ¬ n < 1 from by omega, if_false]
  rw [w64 (x := p + 1) (by omega) (by omega)]
  simp only [spec_l1Rd_pick.j0]
  have e1 : wrap64 (p + 1 - 1) = p := by rw [w64 (by omega) (by omega)]; omega
  rw [e1]
  have hl := hb.1
  by_cases h0 : (b.length : Int) = 0
  · refine ⟨0, by omega, by omega, fun k => ?_⟩
    rw [show ((b.length : Int) == 0) = true from by simp [h0]]
    rfl
  rw [show ((b.length : Int) == 0) = false from beq_eq_false_iff_ne.2 h0]
  by_cases h1 : p < (b.length : Int)
  · have hr := rd_bd hb p
    refine ⟨Int.tmod (wrap64 (rd b p)) n, ?_, ?_, fun k => ?_⟩
    · rw [w64 (by omega) (by omega)]; rw [Int.tmod_eq_emod_of_nonneg hr.1]; exact Int.emod_nonneg _ (by omega)
    · rw [w64 (by omega) (by omega)]; rw [Int.tmod_eq_emod_of_nonneg hr.1]; exact Int.emod_lt_of_pos _ (by omega)
    · rw [if_neg (by decide), if_pos h1, if_pos p0, if_neg (by omega)]
  · have e2 : wrap64 (p * 7) = p * 7 := w64 (by omega) (by omega)
    have e3 : wrap64 (p * 7 + 3) = p * 7 + 3 := w64 (by omega) (by omega)
    rw [e2, e3, Int.tmod_eq_emod_of_nonneg p0, Int.tmod_eq_emod_of_nonneg (a := p * 7 + 3) (by omega)]
    have hi1 := Int.emod_nonneg p (b := (b.length : Int)) h0
    have hi2 := Int.emod_lt_of_pos p (b := (b.length : Int)) (by omega)
    have hj1 := Int.emod_nonneg (p * 7 + 3) (b := (b.length : Int)) h0
    have hj2 := Int.emod_lt_of_pos (p * 7 + 3) (b := (b.length : Int)) (by omega)
    have hr := rd_bd hb (p % (b.length : Int))
    have hs := rd_bd hb ((p * 7 + 3) % (b.length : Int))
    have hq0 : 0 ≤ Int.tdiv p (b.length : Int) := by rw [Int.tdiv_eq_ediv_of_nonneg p0]; exact Int.ediv_nonneg p0 (by omega)
    have hq1 : Int.tdiv p (b.length : Int) ≤ p := by rw [Int.tdiv_eq_ediv_of_nonneg p0]; exact Int.ediv_le_self _ p0
    generalize Int.tdiv p (b.length : Int) = q at *
    generalize rd b (p % (b.length : Int)) = u at *
    generalize rd b ((p * 7 + 3) % (b.length : Int)) = v at *
    rw [w64 (x := u) (by omega) (by omega), w64 (x := v) (by omega) (by omega), w64 (x := u * 131) (by omega) (by omega), w64 (x := v * 1117) (by omega) (by omega), w64 (x := p * 29) (by omega) (by omega), w64 (x := q) (by omega) (by omega), w64 (x := q * 53) (by omega) (by omega), w64 (x := u * 131 + v * 1117) (by omega) (by omega), w64 (x := u * 131 + v * 1117 + p * 29) (by omega) (by omega), w64 (x := u * 131 + v * 1117 + p * 29 + q * 53) (by omega) (by omega)]
    have x0 : 0 ≤ u * 131 + v * 1117 + p * 29 + q * 53 := by omega
    have x1 : u * 131 + v * 1117 + p * 29 + q * 53 ≤ 1000000000000 := by omega
    generalize u * 131 + v * 1117 + p * 29 + q * 53 = X at *
    rw [Int.tdiv_eq_ediv_of_nonneg x0, w64 (x := X / 64) (by omega) (by omega)]
    have hz := xor_nn (x := X) (y := X / 64) (by omega) (by omega) (by omega) (by omega)
    generalize Go.bits .xor .i64 X (X / 64) = Z at *
    refine ⟨Int.tmod Z n, ?_, ?_, fun k => ?_⟩
    · rw [Int.tmod_eq_emod_of_nonneg hz]; exact Int.emod_nonneg _ (by omega)
    · rw [Int.tmod_eq_emod_of_nonneg hz]; exact Int.emod_lt_of_pos _ (by omega)
    · rw [if_neg (by decide), if_neg h1, if_neg h0, if_pos hi1, if_pos hi2, if_pos hj1, if_pos hj2, if_neg (by omega)]
theorem open_tells {l : List Int} (hl : ∀ x ∈ l, (Lit.int .u8 x).wf = true) : ∃ b, byteOk b ∧ spec_l1Open.f l = some (b, 0) := by
  have hb : ∀ x ∈ l, 0 ≤ x ∧ x ≤ 255 := fun x hx => by simpa [Lit.wf, IntKind.min, IntKind.max, IntKind.signed, IntKind.bits] using hl x hx
  unfold spec_l1Open.f
  by_cases h : (l.length : Int) > 2000
  · rw [if_pos h, if_pos (by omega)]
    exact ⟨_, ⟨by rw [List.length_take]; omega, fun x hx => hb x (List.mem_of_mem_take hx)⟩, rfl⟩
  · rw [if_neg h]
    exact ⟨_, ⟨by omega, hb⟩, rfl⟩
theorem one_tells {b : List Int} (hb : byteOk b) {p : Int} (p0 : 0 ≤ p) (p1 : p ≤ 1000000000) {l : List Int} (hl : l ≠ []) : ∃ x, x ∈ l ∧ ∀ k, spec_l1Rd_one.f (k + 1) b p l = some (x, p + 1) := by
  have hlen : 1 ≤ (l.length : Int) := by have := List.length_pos_iff.2 hl; omega
  obtain ⟨r, r0, r1, hr⟩ := pick_tells hb p0 p1 hlen
  refine ⟨rd l r, ?_, fun k => ?_⟩
  · unfold rd
    rw [List.getD_eq_getElem?_getD, List.getElem?_eq_getElem (by omega)]; exact List.getElem_mem _
  · unfold spec_l1Rd_one.f
    rw [hr]
    simp only [Option.bind_some]
    rw [if_pos r0, if_pos r1]
theorem stamp_tells {b : List Int} (hb : byteOk b) {p : Int} (p0 : 0 ≤ p) (p1 : p ≤ 1000000) : ∃ y m d h mi s, ∀ k, spec_l11Stamp.f (k + 1) b p = some (y, m, d, h, mi, s, p + 6) := by
  obtain ⟨x1, _, h1⟩ := one_tells hb p0 (by omega) (l := [1980, 2000, 2024, 2107]) (by simp)
  obtain ⟨x2, _, _, h2⟩ := pick_tells hb (p := p + 1) (by omega) (by omega) (n := 12) (by omega)
  obtain ⟨x3, _, _, h3⟩ := pick_tells hb (p := p + 1 + 1) (by omega) (by omega) (n := 28) (by omega)
  obtain ⟨x4, _, _, h4⟩ := pick_tells hb (p := p + 1 + 1 + 1) (by omega) (by omega) (n := 24) (by omega)
  obtain ⟨x5, _, _, h5⟩ := pick_tells hb (p := p + 1 + 1 + 1 + 1) (by omega) (by omega) (n := 60) (by omega)
  obtain ⟨x6, _, _, h6⟩ := pick_tells hb (p := p + 1 + 1 + 1 + 1 + 1) (by omega) (by omega) (n := 30) (by omega)
  refine ⟨x1, wrap64 (1 + x2), wrap64 (1 + x3), x4, x5, wrap64 (2 * x6), fun k => ?_⟩
  unfold spec_l11Stamp.f
  rw [h1]; simp only [Option.bind_some]
  rw [h2]; simp only [Option.bind_some]
  rw [h3]; simp only [Option.bind_some]
  rw [h4]; simp only [Option.bind_some]
  rw [h5]; simp only [Option.bind_some]
  rw [h6]; simp only [Option.bind_some]
  congr 1; simp only [Prod.mk.injEq, true_and]; omega
theorem anystamp_tells {b : List Int} (hb : byteOk b) {p : Int} (p0 : 0 ≤ p) (p1 : p ≤ 100000) : ∃ y m d h mi s q, (p ≤ q ∧ q ≤ p + 10) ∧ ∀ k, spec_l11AnyStamp.f (k + 1) b p = some (y, m, d, h, mi, s, q) := by
  obtain ⟨y, m, d, h, mi, s, hs⟩ := stamp_tells hb p0 (by omega)
  obtain ⟨r, _, _, hr⟩ := pick_tells hb (p := p + 6) (by omega) (by omega) (n := 10) (by omega)
  obtain ⟨o0, _, ho0⟩ := one_tells hb (p := p + 6 + 1) (by omega) (by omega) (l := [0, 29, 30, 31, 32]) (by simp)
  obtain ⟨o1, _, ho1⟩ := one_tells hb (p := p + 6 + 1) (by omega) (by omega) (l := [1979, 2100, 2108, 1900]) (by simp)
  obtain ⟨o2, _, ho2⟩ := one_tells hb (p := p + 6 + 1) (by omega) (by omega) (l := [1, 59, 60, -2]) (by simp)
  obtain ⟨o3, _, ho3⟩ := one_tells hb (p := p + 6 + 1) (by omega) (by omega) (l := [0, 2, 13]) (by simp)
  unfold spec_l11AnyStamp.f
  by_cases c0 : r = 0
  · refine ⟨y, m, o0, h, mi, s, p + 6 + 1 + 1, by omega, fun k => ?_⟩
    rw [hs]; simp only [Option.bind_some]; rw [hr]; simp only [Option.bind_some]; rw [if_pos c0, ho0]; rfl
  by_cases c1 : r = 1
  · refine ⟨o1, m, d, h, mi, s, p + 6 + 1 + 1, by omega, fun k => ?_⟩
    rw [hs]; simp only [Option.bind_some]; rw [hr]; simp only [Option.bind_some]; rw [if_neg c0, if_pos c1, ho1]; rfl
  by_cases c2 : r = 2
  · refine ⟨y, m, d, h, mi, o2, p + 6 + 1 + 1, by omega, fun k => ?_⟩
    rw [hs]; simp only [Option.bind_some]; rw [hr]; simp only [Option.bind_some]; rw [if_neg c0, if_neg c1, if_pos c2, ho2]; rfl
  by_cases c3 : r = 3
  · refine ⟨y, o3, d, h, mi, s, p + 6 + 1 + 1, by omega, fun k => ?_⟩
    rw [hs]; simp only [Option.bind_some]; rw [hr]; simp only [Option.bind_some]; rw [if_neg c0, if_neg c1, if_neg c2, if_pos c3, ho3]; rfl
  · refine ⟨y, m, d, h, mi, s, p + 6 + 1, by omega, fun k => ?_⟩
    rw [hs]; simp only [Option.bind_some]; rw [hr]; simp only [Option.bind_some]; rw [if_neg c0, if_neg c1, if_neg c2, if_neg c3]
theorem draw_tells {l : List Int} (hl : ∀ x ∈ l, (Lit.int .u8 x).wf = true) : ∃ y m d h mi s, ∀ k, spec_DrawStampOk.f (k + 1) l = some (y, m, d, h, mi, s) := by
  obtain ⟨b, hb, ho⟩ := open_tells hl
  obtain ⟨y, m, d, h, mi, s, q, _, hs⟩ := anystamp_tells hb (p := 0) (by omega) (by omega)
  refine ⟨y, m, d, h, mi, s, fun k => ?_⟩
  unfold spec_DrawStampOk.f
  rw [ho]; simp only [Option.bind_some]
  rw [hs]; simp only [Option.bind_some]
end FnStampOrderAid
open FnStampOrderAid
theorem FnStampOrder : laws_FnStampOrder.Pure := by
  intro l0 l1 _ _ hl _ _ hl1
  obtain ⟨y, m, d, h, mi, s, hs⟩ := draw_tells hl
  obtain ⟨y', m', d', h', mi', s', hs'⟩ := draw_tells hl1
  refine ⟨20, ?_⟩
  unfold laws_FnStampOrder.f
  have main : ∀ b, laws_FnStampOrder.j0 20 l0 l1 b = some true := by
    intro b
    rw [laws_FnStampOrder.j0]
    cases b
    rotate_left
    · rw [if_pos rfl]
    rw [if_neg (by decide), hs, hs']
    simp only [Option.bind_some]
    rw [iput_eq, iput_eq, sput_eq]
    simp only [Option.bind_some, if_true]
    have last : ∀ b, b = true → laws_FnStampOrder.j1 19 (put y m d h mi s) (put y' m' d' h' mi' s') b y m d h mi s y' m' d' h' mi' s' = some true := by
      intro b hb
      subst hb
      rw [laws_FnStampOrder.j1]
      rw [if_pos rfl, sput_eq]
      simp
    by_cases hneg : put y m d h mi s < 0
    · rw [if_pos hneg]; exact last _ rfl
    rw [if_neg hneg]
    by_cases hneg' : put y' m' d' h' mi' s' < 0
    · exact last _ (by simp [hneg'])
    rw [show decide (put y' m' d' h' mi' s' < 0) = false from by simpa using hneg']
    have okof : ∀ {y m d h mi s}, ¬ put y m d h mi s < 0 → okp y m d h mi s := by
      intro y m d h mi s hneg
      by_cases ok : okp y m d h mi s
      · exact ok
      · exfalso; apply hneg; unfold put; rw [if_neg ok]; decide
    have ok := okof hneg
    have ok' := okof hneg'
    have e : put y m d h mi s = num y m d h mi s := by unfold put; rw [if_pos ok]
    have e' : put y' m' d' h' mi' s' = num y' m' d' h' mi' s' := by unfold put; rw [if_pos ok']
    rw [e, e']
    clear e e' hneg hneg' last hs hs'
    obtain ⟨⟨a1, a2⟩, ⟨b1, b2⟩, ⟨c1, c2⟩, ⟨d1, d2⟩, ⟨e1, e2⟩, ⟨f1, f2⟩, g⟩ := ok
    obtain ⟨⟨a1', a2'⟩, ⟨b1', b2'⟩, ⟨c1', c2'⟩, ⟨d1', d2'⟩, ⟨e1', e2'⟩, ⟨f1', f2'⟩, g'⟩ := ok'
    have c3 := dd_le y m
    have c3' := dd_le y' m'
    rw [Int.tmod_eq_emod_of_nonneg f1] at g
    rw [Int.tmod_eq_emod_of_nonneg f1'] at g'
    unfold num
    rw [laws_FnStampOrder.j1]
    rw [if_neg (by decide)]
    generalize hX : (y - 1980) * 33554432 + m * 2097152 + d * 65536 + h * 2048 + mi * 32 + s / 2 = X
    generalize hY : (y' - 1980) * 33554432 + m' * 2097152 + d' * 65536 + h' * 2048 + mi' * 32 + s' / 2 = Y
    have st : ∀ (k : Nat) (i a b : Int) (P Q : List Int), P.length = 6 → Q.length = 6 → 0 ≤ i → i < 6 → rd P i = a → rd Q i = b → a = b → laws_FnStampOrder.l0 (k + 1) X Y P Q i = laws_FnStampOrder.l0 k X Y P Q (i + 1) := by
      intro k i a b P Q hP hQ h0 h1 ha hb hab
      rw [laws_FnStampOrder.l0, if_pos (by omega), if_pos h0, if_pos (by omega), ha, hb, if_pos hab, w64 (by omega) (by omega)]
    have ne : ∀ (k : Nat) (i a b : Int) (P Q : List Int), P.length = 6 → Q.length = 6 → 0 ≤ i → i < 6 → rd P i = a → rd Q i = b → ¬ a = b → laws_FnStampOrder.l0 (k + 1) X Y P Q i = (if ((decide (a < b)) == (decide (X < Y))) = true then (some (X != Y)) else (some false)) := by
      intro k i a b P Q hP hQ h0 h1 ha hb hab
      rw [laws_FnStampOrder.l0, if_pos (by omega), if_pos h0, if_pos (by omega), ha, hb, if_neg hab]
    have en : ∀ (k : Nat) (P Q : List Int), P.length = 6 → laws_FnStampOrder.l0 (k + 1) X Y P Q 6 = some (X == Y) := by
      intro k P Q hP
      rw [laws_FnStampOrder.l0, if_neg (by omega)]
    have fin : ∀ {p q X Y : Int}, (p < q → X < Y) → (q < p → Y < X) → p ≠ q → (if ((decide (p < q)) == (decide (X < Y))) = true then (some (X != Y)) else (some false)) = some true := by
      intro p q X Y h1 h2 h3
      by_cases hpq : p < q
      · have := h1 hpq
        rw [if_pos (by simp [hpq, this])]
        simp; omega
      · have := h2 (by omega)
        have h4 : ¬ X < Y := by omega
        rw [if_pos (by simp [hpq, h4])]
        simp; omega
    by_cases q1 : y = y'
    rotate_left
    · rw [ne _ 0 y y' [y, m, d, h, mi, s] [y', m', d', h', mi', s'] rfl rfl (by omega) (by omega) rfl rfl q1]
      refine fin ?_ ?_ q1
      all_goals (intro hh; omega)
    by_cases q2 : m = m'
    rotate_left
    · rw [st _ 0 y y' [y, m, d, h, mi, s] [y', m', d', h', mi', s'] rfl rfl (by omega) (by omega) rfl rfl q1, show (0 : Int) + 1 = 1 from rfl, ne _ 1 m m' [y, m, d, h, mi, s] [y', m', d', h', mi', s'] rfl rfl (by omega) (by omega) rfl rfl q2]
      refine fin ?_ ?_ q2
      all_goals (intro hh; omega)
    by_cases q3 : d = d'
    rotate_left
    · rw [st _ 0 y y' [y, m, d, h, mi, s] [y', m', d', h', mi', s'] rfl rfl (by omega) (by omega) rfl rfl q1, show (0 : Int) + 1 = 1 from rfl, st _ 1 m m' [y, m, d, h, mi, s] [y', m', d', h', mi', s'] rfl rfl (by omega) (by omega) rfl rfl q2, show (1 : Int) + 1 = 2 from rfl, ne _ 2 d d' [y, m, d, h, mi, s] [y', m', d', h', mi', s'] rfl rfl (by omega) (by omega) rfl rfl q3]
      refine fin ?_ ?_ q3
      all_goals (intro hh; omega)
    by_cases q4 : h = h'
    rotate_left
    · rw [st _ 0 y y' [y, m, d, h, mi, s] [y', m', d', h', mi', s'] rfl rfl (by omega) (by omega) rfl rfl q1, show (0 : Int) + 1 = 1 from rfl, st _ 1 m m' [y, m, d, h, mi, s] [y', m', d', h', mi', s'] rfl rfl (by omega) (by omega) rfl rfl q2, show (1 : Int) + 1 = 2 from rfl, st _ 2 d d' [y, m, d, h, mi, s] [y', m', d', h', mi', s'] rfl rfl (by omega) (by omega) rfl rfl q3, show (2 : Int) + 1 = 3 from rfl, ne _ 3 h h' [y, m, d, h, mi, s] [y', m', d', h', mi', s'] rfl rfl (by omega) (by omega) rfl rfl q4]
      refine fin ?_ ?_ q4
      all_goals (intro hh; omega)
    by_cases q5 : mi = mi'
    rotate_left
    · rw [st _ 0 y y' [y, m, d, h, mi, s] [y', m', d', h', mi', s'] rfl rfl (by omega) (by omega) rfl rfl q1, show (0 : Int) + 1 = 1 from rfl, st _ 1 m m' [y, m, d, h, mi, s] [y', m', d', h', mi', s'] rfl rfl (by omega) (by omega) rfl rfl q2, show (1 : Int) + 1 = 2 from rfl, st _ 2 d d' [y, m, d, h, mi, s] [y', m', d', h', mi', s'] rfl rfl (by omega) (by omega) rfl rfl q3, show (2 : Int) + 1 = 3 from rfl, st _ 3 h h' [y, m, d, h, mi, s] [y', m', d', h', mi', s'] rfl rfl (by omega) (by omega) rfl rfl q4, show (3 : Int) + 1 = 4 from rfl, ne _ 4 mi mi' [y, m, d, h, mi, s] [y', m', d', h', mi', s'] rfl rfl (by omega) (by omega) rfl rfl q5]
      refine fin ?_ ?_ q5
      all_goals (intro hh; omega)
    by_cases q6 : s = s'
    rotate_left
    · rw [st _ 0 y y' [y, m, d, h, mi, s] [y', m', d', h', mi', s'] rfl rfl (by omega) (by omega) rfl rfl q1, show (0 : Int) + 1 = 1 from rfl, st _ 1 m m' [y, m, d, h, mi, s] [y', m', d', h', mi', s'] rfl rfl (by omega) (by omega) rfl rfl q2, show (1 : Int) + 1 = 2 from rfl, st _ 2 d d' [y, m, d, h, mi, s] [y', m', d', h', mi', s'] rfl rfl (by omega) (by omega) rfl rfl q3, show (2 : Int) + 1 = 3 from rfl, st _ 3 h h' [y, m, d, h, mi, s] [y', m', d', h', mi', s'] rfl rfl (by omega) (by omega) rfl rfl q4, show (3 : Int) + 1 = 4 from rfl, st _ 4 mi mi' [y, m, d, h, mi, s] [y', m', d', h', mi', s'] rfl rfl (by omega) (by omega) rfl rfl q5, show (4 : Int) + 1 = 5 from rfl, ne _ 5 s s' [y, m, d, h, mi, s] [y', m', d', h', mi', s'] rfl rfl (by omega) (by omega) rfl rfl q6]
      refine fin ?_ ?_ q6
      all_goals (intro hh; omega)
    rw [st _ 0 y y' [y, m, d, h, mi, s] [y', m', d', h', mi', s'] rfl rfl (by omega) (by omega) rfl rfl q1, show (0 : Int) + 1 = 1 from rfl, st _ 1 m m' [y, m, d, h, mi, s] [y', m', d', h', mi', s'] rfl rfl (by omega) (by omega) rfl rfl q2, show (1 : Int) + 1 = 2 from rfl, st _ 2 d d' [y, m, d, h, mi, s] [y', m', d', h', mi', s'] rfl rfl (by omega) (by omega) rfl rfl q3, show (2 : Int) + 1 = 3 from rfl, st _ 3 h h' [y, m, d, h, mi, s] [y', m', d', h', mi', s'] rfl rfl (by omega) (by omega) rfl rfl q4, show (3 : Int) + 1 = 4 from rfl, st _ 4 mi mi' [y, m, d, h, mi, s] [y', m', d', h', mi', s'] rfl rfl (by omega) (by omega) rfl rfl q5, show (4 : Int) + 1 = 5 from rfl, st _ 5 s s' [y, m, d, h, mi, s] [y', m', d', h', mi', s'] rfl rfl (by omega) (by omega) rfl rfl q6, show (5 : Int) + 1 = 6 from rfl, en _ _ _ rfl]
    congr 1
    rw [beq_iff_eq]
    omega
  by_cases hlen : (l0.length : Int) > 1048576
  · rw [if_pos hlen]; exact main _
  · rw [if_neg hlen]; exact main _
end Go.Proofs.Ytmkhhpnagmkgeaa.Pure
