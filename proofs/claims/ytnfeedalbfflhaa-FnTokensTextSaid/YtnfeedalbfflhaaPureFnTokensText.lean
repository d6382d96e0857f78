/- The plain law behind the statement FnTokensText: what its walk computes is true at every input. -/
import Derived.Test.YtnfeedalbfflhaaPFnTokensTextx5
import Derived.Laws.BitsLemmas
import Derived.Test.YtnfeedalbfflhaaLz
namespace Go.Proofs.Ytnfeedalbfflhaa.Pure
open Go.RowKit Go.Proofs.Ytnfeedalbfflhaa.PFnTokensText Go.Proofs.YtnfeedalbfflhaaW.PrintWords Go.Proofs.YtnfeedalbfflhaaW.PrintLast Go.Proofs.YtnfeedalbfflhaaW.PrintMore
set_option linter.unusedVariables false
set_option linter.unusedSimpArgs false
namespace FnTokensTextAid
theorem w64 {x : Int} (h1 : -9223372036854775808 ≤ x) (h2 : x < 9223372036854775808) : wrap64 x = x := by unfold wrap64; omega
theorem wr_i64 (n : Int) (h₀ : 0 ≤ n) (h₁ : n < 2 ^ 63) : IntKind.i64.wrap n = n := by rw [IntKind.wrap_i64]; omega
theorem and_mask (i : Nat) (hi : i ≤ 63) {x m : Int} (hm : m = 2 ^ i - 1) (h0 : 0 ≤ x) (h1 : x < 9223372036854775808) : Go.bits .and .i64 x m = x % 2 ^ i := by
  subst hm
  exact bits_mask .i64 63 (by decide) wr_i64 i hi x h0 (by omega)
theorem or_add (i : Nat) {x y : Int} (h0 : 0 ≤ x) (hx : x % 2 ^ i = 0) (h1 : x < 9223372036854775808) (y0 : 0 ≤ y) (y1 : y < 2 ^ i) (y2 : y < 9223372036854775808) : Go.bits .or .i64 x y = x + y :=
  bits_join .i64 63 (by decide) wr_i64 i x y h0 hx (by omega) y0 y1 (by omega)
theorem or_comm (x y : Int) : Go.bits .or .i64 x y = Go.bits .or .i64 y x := by
  simp only [Go.bits]; rw [BitVec.or_comm]
theorem or_lo (i : Nat) {x y : Int} (x0 : 0 ≤ x) (x1 : x < 2 ^ i) (x2 : x < 9223372036854775808) (h0 : 0 ≤ y) (hy : y % 2 ^ i = 0) (h1 : y < 9223372036854775808) : Go.bits .or .i64 x y = x + y := by
  rw [or_comm, or_add i h0 hy h1 x0 x1 x2]; omega
theorem ev_ite {α : Type} {c : Prop} [Decidable c] {g f : Nat → Option α} {r : α} (h1 : c → Ev g r) (h2 : ¬ c → Ev f r) : Ev (fun k => if c then g k else f k) r := by
  by_cases h : c
  · exact Ev.congr (fun k => by rw [if_pos h]) (h1 h)
  · exact Ev.congr (fun k => by rw [if_neg h]) (h2 h)
open Go.Proofs.Ytnfeedalbfflhaa.Lz (Tok run mlen best toks tokens copy add text mlen_le best_le_60 tokens_length best_le best_form best_max copy_length text_tokens text_append text_le add_prefix text_bytes text_over text_each copy_self tokens_same)
def ints (l : List Nat) : List Int := l.map (fun n : Nat => (n : Int))
theorem ints_length (l : List Nat) : (ints l).length = l.length := by simp [ints]
theorem rd_ints (l : List Nat) {i : Int} (h : i.toNat < l.length) : rd (ints l) i = (l.getD i.toNat 0 : Nat) := by
  unfold rd ints
  rw [List.getD_eq_getElem?_getD, List.getD_eq_getElem?_getD, List.getElem?_map, List.getElem?_eq_getElem h]
  rfl
theorem ints_append (a b : List Nat) : ints (a ++ b) = ints a ++ ints b := by simp [ints]
def chars (s : ByteArray) : List Nat := s.data.toList.map fun b => b.toNat
theorem chars_length (s : ByteArray) : (chars s).length = s.size := by unfold chars; rw [List.length_map, Array.length_toList]; rfl
theorem chars_lt (s : ByteArray) : ∀ x ∈ chars s, x < 256 := by
  intro x hx
  unfold chars at hx
  obtain ⟨b, _, rfl⟩ := List.mem_map.1 hx
  exact b.toNat_lt
theorem bt_chars (s : ByteArray) {i : Int} (h : i.toNat < s.size) : bt s i = ((chars s).getD i.toNat 0 : Nat) := by
  unfold bt chars
  rw [dif_pos h, List.getD_eq_getElem?_getD, List.getElem?_map, List.getElem?_eq_getElem (by rw [Array.length_toList]; exact h)]
  rfl
theorem chars_ext {s s' : ByteArray} (h : chars s = chars s') : s = s' := by
  have : s.data.toList = s'.data.toList := by
    unfold chars at h
    exact (List.map_inj_right (fun a b e => UInt8.toNat_inj.1 e)).1 h
  cases s; cases s'; simp_all
theorem strOfNums_size (x : List Int) : (strOfNums x).size = x.length := by
  unfold strOfNums
  simp [ByteArray.size]
theorem strOfNums_chars (s : ByteArray) : strOfNums (ints (chars s)) = s := by
  unfold strOfNums ints chars
  rw [List.map_map, List.map_map]
  have : (s.data.toList.map (((fun n : Int => UInt8.ofNat n.toNat) ∘ (fun n : Nat => (n : Int))) ∘ fun b : UInt8 => b.toNat)) = s.data.toList := by
    conv => rhs; rw [← List.map_id s.data.toList]
    apply List.map_congr_left
    intro b _
    simp
  rw [this]
theorem chars_strOfNums (l : List Nat) (h : ∀ x ∈ l, x < 256) : chars (strOfNums (ints l)) = l := by
  unfold strOfNums ints chars
  simp only [List.map_map]
  conv => rhs; rw [← List.map_id l]
  apply List.map_congr_left
  intro b hb
  have := h b hb
  simp
  omega
theorem empty_toList : (⟨#[]⟩ : ByteArray).toList = [] := by
  unfold ByteArray.toList
  unfold ByteArray.toList.loop
  rw [if_neg (by decide)]
  rfl
theorem strOfNums_extract (a b : List Int) (n : Nat) (h : a.length = n) : (strOfNums (a ++ b)).extract 0 n = strOfNums a := by
  have h2 : (strOfNums (a ++ b)) = strOfNums a ++ strOfNums b := by
    unfold strOfNums
    simp [ByteArray.ext_iff, ByteArray.data_append]
  have h3 : (strOfNums a).size = n := by rw [strOfNums_size]; exact h
  rw [h2, ← h3, ByteArray.extract_append_eq_left rfl]
def tok37 (t : Tok) : S37 := ⟨t.byte, t.long, t.back⟩
theorem same_iff (s : ByteArray) {p q : Nat} (hp : p < s.size) (hq : q < s.size) : (bt s (p : Int) = bt s (q : Int)) ↔ ((chars s)[p]? = (chars s)[q]?) := by
  rw [bt_chars s (i := p) (by omega), bt_chars s (i := q) (by omega)]
  simp only [Int.toNat_natCast]
  rw [List.getD_eq_getElem?_getD, List.getD_eq_getElem?_getD, List.getElem?_eq_getElem (by rw [chars_length]; exact hp), List.getElem?_eq_getElem (by rw [chars_length]; exact hq)]
  simp only [Option.getD_some, Option.some.injEq]
  omega
def toksOf (s : ByteArray) : List S37 := if s.size ≤ 300 then (tokens (chars s)).map tok37 else []
theorem spec_again (s : ByteArray) (hs : s.size ≤ 300) {a back : Nat} (h1 : 1 ≤ back) (h2 : back ≤ a) (ha : a < s.size) :
    ∀ (d n : Nat), n + d = 60 → n + run (chars s) (a + n) (a + n - back) d = mlen (chars s) a back → Ev (fun k => spec_l4Again.l0 k s a back n) ((mlen (chars s) a back : Nat) : Int) := by
  intro d
  induction d with
  | zero =>
    intro n hn hm
    have hm' : n = mlen (chars s) a back := by simpa [run] using hm
    refine Ev.step (f := fun _ => some ((mlen (chars s) a back : Nat) : Int)) (fun k => ?_) (Ev.now _)
    rw [spec_l4Again.l0, w64 (x := (a : Int) + n) (by omega) (by omega)]
    by_cases hlt : a + n < s.size
    · rw [if_pos (by omega), if_neg (by omega), hm']
    · rw [if_neg (by omega), hm']
  | succ d ih =>
    intro n hn hm
    simp only [run] at hm
    rw [chars_length] at hm
    by_cases hc : a + n < s.size ∧ (chars s)[a + n]? = (chars s)[a + n - back]?
    · rw [if_pos hc] at hm
      refine Ev.step (fun k => ?_) (ih (n + 1) (by omega) (by rw [show a + (n + 1) = a + n + 1 from by omega, show a + n + 1 - back = a + n - back + 1 from by omega]; omega))
      rw [spec_l4Again.l0, w64 (x := (a : Int) + n) (by omega) (by omega), if_pos (by omega), if_pos (by omega), if_pos (by omega), w64 (x := (a : Int) + n - back) (by omega) (by omega), if_pos (by omega), if_pos (by omega)]
      rw [show (a : Int) + n = ((a + n : Nat) : Int) from by omega, show ((a + n : Nat) : Int) - back = ((a + n - back : Nat) : Int) from by omega]
      rw [if_pos ((same_iff s (by omega) (by omega)).2 hc.2), w64 (x := (n : Int) + 1) (by omega) (by omega)]
      rfl
    · rw [if_neg hc] at hm
      have hm' : n = mlen (chars s) a back := by omega
      refine Ev.step (f := fun _ => some ((mlen (chars s) a back : Nat) : Int)) (fun k => ?_) (Ev.now _)
      rw [spec_l4Again.l0, w64 (x := (a : Int) + n) (by omega) (by omega)]
      by_cases hlt : a + n < s.size
      · rw [if_pos (by omega), if_pos (by omega), if_pos (by omega), w64 (x := (a : Int) + n - back) (by omega) (by omega), if_pos (by omega), if_pos (by omega)]
        rw [show (a : Int) + n = ((a + n : Nat) : Int) from by omega, show ((a + n : Nat) : Int) - back = ((a + n - back : Nat) : Int) from by omega]
        rw [if_neg (fun h => hc ⟨hlt, (same_iff s (by omega) (by omega)).1 h⟩), hm']
      · rw [if_neg (by omega), hm']
theorem spec_l1 (s : ByteArray) (hs : s.size ≤ 300) {a : Nat} (ha : a < s.size) (acc : List S37) (hacc : acc.length ≤ a) (r : List S37)
    (H : Ev (fun k => if (best (chars s) a (min 250 a)).1 < 3 then spec_l4Tokens.l0 k s (acc ++ [(⟨((chars s).getD a 0 : Nat), 0, 0⟩ : S37)]) ((a : Int) + 1) else spec_l4Tokens.l0 k s (acc ++ [(⟨0, ((best (chars s) a (min 250 a)).1 : Nat), ((best (chars s) a (min 250 a)).2 : Nat)⟩ : S37)]) ((a : Int) + ((best (chars s) a (min 250 a)).1 : Nat))) r) :
    ∀ (d j : Nat), j + d = min 250 a → Ev (fun k => spec_l4Tokens.l1 k s acc a ((best (chars s) a j).1 : Nat) ((best (chars s) a j).2 : Nat) ((j : Int) + 1)) r := by
  intro d
  induction d with
  | zero =>
    intro j hj
    obtain rfl : j = min 250 a := by omega
    have hb := best_le_60 (chars s) a (min 250 a)
    have H2 : Ev (fun k => spec_l4Tokens.j2 k s acc a ((best (chars s) a (min 250 a)).1 : Nat) ((best (chars s) a (min 250 a)).2 : Nat) ((min 250 a : Nat) + 1) false) r := by
      refine Ev.step (fun k => ?_) H
      rw [spec_l4Tokens.j2, if_neg (by decide)]
      have hbt : bt s (a : Int) = ((chars s).getD a 0 : Nat) := by rw [bt_chars s (by omega)]; rfl
      have hr := bt_range s (a : Int)
      by_cases c : (best (chars s) a (min 250 a)).1 < 3
      · rw [if_pos c, if_pos (by omega), if_pos (by omega), if_pos (by omega), if_pos (by omega), w64 (x := bt s (a : Int)) (by omega) (by omega), hbt, w64 (by omega) (by omega)]
      · rw [if_neg c, if_neg (by omega), if_pos (by omega), w64 (by omega) (by omega)]
    refine Ev.step (fun k => ?_) H2
    rw [spec_l4Tokens.l1]
    by_cases c : ((min 250 a : Nat) : Int) + 1 ≤ 250
    · rw [if_pos c, show decide (((min 250 a : Nat) : Int) + 1 ≤ (a : Int)) = false from by simp; omega]
    · rw [if_neg c]
  | succ d ih =>
    intro j hj
    have hm := mlen_le (chars s) a (j + 1)
    have ih' := ih (j + 1) (by omega)
    have e := spec_again s hs (a := a) (back := j + 1) (by omega) (by omega) ha 60 0 rfl (by simp [mlen])
    have H2 : Ev (fun k => spec_l4Tokens.j2 k s acc a ((best (chars s) a j).1 : Nat) ((best (chars s) a j).2 : Nat) ((j : Int) + 1) true) r := by
      have e2 := Ev.bind (f := fun k t111 => if t111 > (((best (chars s) a j).1 : Nat) : Int) then (spec_l4Tokens.l1 k s acc a t111 ((j : Int) + 1) (wrap64 ((j : Int) + 1 + 1))) else (spec_l4Tokens.l1 k s acc a ((best (chars s) a j).1 : Nat) ((best (chars s) a j).2 : Nat) (wrap64 ((j : Int) + 1 + 1)))) e (r := r) ?_
      · refine Ev.step (fun k => ?_) e2
        rw [spec_l4Tokens.j2, if_pos rfl]
        rfl
      · simp only [best] at ih'
        rw [w64 (by omega) (by omega)]
        refine ev_ite (fun c => ?_) (fun c => ?_)
        · rw [if_pos (by omega)] at ih'
          exact ih'
        · rw [if_neg (by omega)] at ih'
          exact ih'
    refine Ev.step (fun k => ?_) H2
    rw [spec_l4Tokens.l1, if_pos (by omega), show decide ((j : Int) + 1 ≤ (a : Int)) = true from by simp; omega]
theorem spec_l0 (s : ByteArray) (hs : s.size ≤ 300) : ∀ (f a : Nat) (acc : List S37), s.size - a ≤ f → acc.length ≤ a → Ev (fun k => spec_l4Tokens.l0 k s acc a) (acc ++ (toks (chars s) f a).map tok37) := by
  intro f
  induction f with
  | zero =>
    intro a acc hf hacc
    refine Ev.step (f := fun _ => some acc) (fun k => ?_) ?_
    · rw [spec_l4Tokens.l0, if_neg (by omega)]
    · simp only [toks, List.map_nil, List.append_nil]; exact Ev.now _
  | succ f ih =>
    intro a acc hf hacc
    by_cases ha : a < s.size
    · have e := spec_l1 s hs ha acc hacc (acc ++ (toks (chars s) (f + 1) a).map tok37) ?_ (min 250 a) 0 (by omega)
      · refine Ev.step (fun k => ?_) e
        rw [spec_l4Tokens.l0, if_pos (by omega)]
        rfl
      · simp only [toks]
        rw [if_pos (by rw [chars_length]; exact ha)]
        refine ev_ite (fun c => ?_) (fun c => ?_)
        · rw [if_pos c]
          have H := ih (a + 1) (acc ++ [(⟨((chars s).getD a 0 : Nat), 0, 0⟩ : S37)]) (by omega) (by rw [List.length_append, List.length_singleton]; omega)
          rw [List.append_assoc] at H
          exact H
        · rw [if_neg c]
          have H := ih (a + (best (chars s) a (min 250 a)).1) (acc ++ [(⟨0, ((best (chars s) a (min 250 a)).1 : Nat), ((best (chars s) a (min 250 a)).2 : Nat)⟩ : S37)]) (by omega) (by rw [List.length_append, List.length_singleton]; omega)
          rw [List.append_assoc] at H
          refine Ev.congr (fun k => ?_) H
          congr 1
    · refine Ev.step (f := fun _ => some acc) (fun k => ?_) ?_
      · rw [spec_l4Tokens.l0, if_neg (by omega)]
      · simp only [toks]; rw [if_neg (by rw [chars_length]; exact ha)]; simp only [List.map_nil, List.append_nil]; exact Ev.now _
def byteOk (b : List Int) : Prop := b.length ≤ 2000 ∧ ∀ x ∈ b, 0 ≤ x ∧ x ≤ 255
theorem rd_bd {b : List Int} (hb : byteOk b) (i : Int) : 0 ≤ rd b i ∧ rd b i ≤ 255 := by
  unfold rd
  by_cases h : i.toNat < b.length
  · rw [List.getD_eq_getElem?_getD, List.getElem?_eq_getElem h]; exact hb.2 _ (List.getElem_mem h)
  · rw [List.getD_eq_getElem?_getD, List.getElem?_eq_none (by omega)]; decide
theorem xor_nn {x y : Int} (x0 : 0 ≤ x) (x1 : x < 9223372036854775808) (y0 : 0 ≤ y) (y1 : y < 9223372036854775808) : 0 ≤ Go.bits .xor .i64 x y := by
  obtain ⟨a, rfl⟩ := Int.eq_ofNat_of_zero_le x0
  obtain ⟨b, rfl⟩ := Int.eq_ofNat_of_zero_le y0
  have ha : a < 2 ^ 63 := by omega
  have hb : b < 2 ^ 63 := by omega
  have hx := Nat.xor_lt_two_pow ha hb
  have ha' : a % 2 ^ IntKind.i64.bits = a := by show a % 2 ^ 64 = a; omega
  have hb' : b % 2 ^ IntKind.i64.bits = b := by show b % 2 ^ 64 = b; omega
  simp only [Go.bits, BitVec.ofInt_natCast, BitVec.toNat_xor, BitVec.toNat_ofNat, ha', hb']
  rw [wr_i64 _ (by omega) (by omega)]
  omega
theorem pick_tells {b : List Int} (hb : byteOk b) {p : Int} (p0 : 0 ≤ p) (p1 : p ≤ 1000000000) {n : Int} (n1 : 1 ≤ n) : ∃ r, 0 ≤ r ∧ r < n ∧ ∀ k, spec_l1Rd_pick.f (k + 1) b p n = some (r, p + 1) := by
  unfold spec_l1Rd_pick.f
  simp only [show ¬ n < 1 from by omega, if_false]
  rw [w64 (x := p + 1) (by omega) (by omega)]
  simp only [spec_l1Rd_pick.j0]
  have e1 : wrap64 (p + 1 - 1) = p := by rw [w64 (by omega) (by omega)]; omega
  rw [e1]
  have hl := hb.1
  by_cases h0 : (b.length : Int) = 0
  · refine ⟨0, by omega, by omega, fun k => ?_⟩
    rw [show ((b.length : Int) == 0) = true from by simp [h0]]
    rfl
  rw [show ((b.length : Int) == 0) = false from beq_eq_false_iff_ne.2 h0]
  by_cases h1 : p < (b.length : Int)
  · have hr := rd_bd hb p
    refine ⟨Int.tmod (wrap64 (rd b p)) n, ?_, ?_, fun k => ?_⟩
    · rw [w64 (by omega) (by omega)]; rw [Int.tmod_eq_emod_of_nonneg hr.1]; exact Int.emod_nonneg _ (by omega)
    · rw [w64 (by omega) (by omega)]; rw [Int.tmod_eq_emod_of_nonneg hr.1]; exact Int.emod_lt_of_pos _ (by omega)
    · rw [if_neg (by decide), if_pos h1, if_pos p0, if_neg (by omega)]
  · have e2 : wrap64 (p * 7) = p * 7 := w64 (by omega) (by omega)
    have e3 : wrap64 (p * 7 + 3) = p * 7 + 3 := w64 (by omega) (by omega)
    rw [e2, e3, Int.tmod_eq_emod_of_nonneg p0, Int.tmod_eq_emod_of_nonneg (a := p * 7 + 3) (by omega)]
    have hi1 := Int.emod_nonneg p (b := (b.length : Int)) h0
    have hi2 := Int.emod_lt_of_pos p (b := (b.length : Int)) (by omega)
    have hj1 := Int.emod_nonneg (p * 7 + 3) (b := (b.length : Int)) h0
    have hj2 := Int.emod_lt_of_pos (p * 7 + 3) (b := (b.length : Int)) (by omega)
    have hr := rd_bd hb (p % (b.length : Int))
    have hs := rd_bd hb ((p * 7 + 3) % (b.length : Int))
    have hq0 : 0 ≤ Int.tdiv p (b.length : Int) := by rw [Int.tdiv_eq_ediv_of_nonneg p0]; exact Int.ediv_nonneg p0 (by omega)
    have hq1 : Int.tdiv p (b.length : Int) ≤ p := by rw [Int.tdiv_eq_ediv_of_nonneg p0]; exact Int.ediv_le_self _ p0
    generalize Int.tdiv p (b.length : Int) = q at *
    generalize rd b (p % (b.length : Int)) = u at *
    generalize rd b ((p * 7 + 3) % (b.length : Int)) = v at *
    rw [w64 (x := u) (by omega) (by omega), w64 (x := v) (by omega) (by omega), w64 (x := u * 131) (by omega) (by omega), w64 (x := v * 1117) (by omega) (by omega), w64 (x := p * 29) (by omega) (by omega), w64 (x := q) (by omega) (by omega), w64 (x := q * 53) (by omega) (by omega), w64 (x := u * 131 + v * 1117) (by omega) (by omega), w64 (x := u * 131 + v * 1117 + p * 29) (by omega) (by omega), w64 (x := u * 131 + v * 1117 + p * 29 + q * 53) (by omega) (by omega)]
    have x0 : 0 ≤ u * 131 + v * 1117 + p * 29 + q * 53 := by omega
    have x1 : u * 131 + v * 1117 + p * 29 + q * 53 ≤ 1000000000000 := by omega
    generalize u * 131 + v * 1117 + p * 29 + q * 53 = X at *
    rw [Int.tdiv_eq_ediv_of_nonneg x0, w64 (x := X / 64) (by omega) (by omega)]
    have hz := xor_nn (x := X) (y := X / 64) (by omega) (by omega) (by omega) (by omega)
    generalize Go.bits .xor .i64 X (X / 64) = Z at *
    refine ⟨Int.tmod Z n, ?_, ?_, fun k => ?_⟩
    · rw [Int.tmod_eq_emod_of_nonneg hz]; exact Int.emod_nonneg _ (by omega)
    · rw [Int.tmod_eq_emod_of_nonneg hz]; exact Int.emod_lt_of_pos _ (by omega)
    · rw [if_neg (by decide), if_neg h1, if_neg h0, if_pos hi1, if_pos hi2, if_pos hj1, if_pos hj2, if_neg (by omega)]
theorem open_tells {l : List Int} (hl : ∀ x ∈ l, (Lit.int .u8 x).wf = true) : ∃ b, byteOk b ∧ spec_l1Open.f l = some (b, 0) := by
  have hb : ∀ x ∈ l, 0 ≤ x ∧ x ≤ 255 := fun x hx => by simpa [Lit.wf, IntKind.min, IntKind.max, IntKind.signed, IntKind.bits] using hl x hx
  unfold spec_l1Open.f
  by_cases h : (l.length : Int) > 2000
  · rw [if_pos h, if_pos (by omega)]
    exact ⟨_, ⟨by rw [List.length_take]; omega, fun x hx => hb x (List.mem_of_mem_take hx)⟩, rfl⟩
  · rw [if_neg h]
    exact ⟨_, ⟨by omega, hb⟩, rfl⟩
theorem one_tells {b : List Int} (hb : byteOk b) {p : Int} (p0 : 0 ≤ p) (p1 : p ≤ 1000000000) {l : List Int} (hl : l ≠ []) : ∃ x, x ∈ l ∧ ∀ k, spec_l1Rd_one.f (k + 1) b p l = some (x, p + 1) := by
  have hlen : 1 ≤ (l.length : Int) := by have := List.length_pos_iff.2 hl; omega
  obtain ⟨r, r0, r1, hr⟩ := pick_tells hb p0 p1 hlen
  refine ⟨rd l r, ?_, fun k => ?_⟩
  · unfold rd
    rw [List.getD_eq_getElem?_getD, List.getElem?_eq_getElem (by omega)]; exact List.getElem_mem _
  · unfold spec_l1Rd_one.f
    rw [hr]
    simp only [Option.bind_some]
    rw [if_pos r0, if_pos r1]
theorem of_tells {b : List Int} (hb : byteOk b) {p : Int} (p0 : 0 ≤ p) (p1 : p ≤ 1000000000) {l : List ByteArray} (hl : l ≠ []) : ∃ x, x ∈ l ∧ ∀ k, spec_l1Rd_of.f (k + 1) b p l = some (x, p + 1) := by
  have hlen : 1 ≤ (l.length : Int) := by have := List.length_pos_iff.2 hl; omega
  obtain ⟨r, r0, r1, hr⟩ := pick_tells hb p0 p1 hlen
  refine ⟨rdOf ByteArray.empty l r, ?_, fun k => ?_⟩
  · unfold rdOf
    rw [List.getD_eq_getElem?_getD, List.getElem?_eq_getElem (by omega)]; exact List.getElem_mem _
  · unfold spec_l1Rd_of.f
    rw [hr]
    simp only [Option.bind_some]
    rw [if_pos r0, if_pos r1]
theorem many_ev : ∀ (d n : Nat) (x y : ByteArray), n ≤ d → d ≤ 100000 → y.size + n * x.size ≤ 1000000 → ∃ r, r.size = y.size + n * x.size ∧ Ev (fun k => spec_l1Many.l0 k x n y) r
  | 0, n, x, y, h, _, _ => by
    have hn : n = 0 := by omega
    subst hn
    refine ⟨y, by simp, Ev.step (f := fun _ => some y) (fun k => ?_) (Ev.now _)⟩
    rw [spec_l1Many.l0, if_neg (by omega)]
  | d + 1, n, x, y, h, hd, hb => by
    by_cases hn : n = 0
    · subst hn
      refine ⟨y, by simp, Ev.step (f := fun _ => some y) (fun k => ?_) (Ev.now _)⟩
      rw [spec_l1Many.l0, if_neg (by omega)]
    have hx : x.size ≤ 1000000 := by
      have : 1 * x.size ≤ n * x.size := Nat.mul_le_mul_right _ (by omega)
      omega
    have hsz : (x ++ x).size = x.size + x.size := by simp [ByteArray.size_append]
    have hm : n * x.size = (n / 2) * (x.size + x.size) + (n % 2) * x.size := by
      have e : n = (n / 2) * 2 + n % 2 := by omega
      have e2 : n * x.size = ((n / 2) * 2 + n % 2) * x.size := congrArg (· * x.size) e
      rw [e2, Nat.add_mul, Nat.mul_assoc, Nat.two_mul]
    have ht : wrap64 (Int.tdiv (n : Int) 2) = ((n / 2 : Nat) : Int) := by
      rw [Int.tdiv_eq_ediv_of_nonneg (by omega), w64 (by omega) (by omega)]; omega
    have hmod : Int.tmod (n : Int) 2 = ((n % 2 : Nat) : Int) := by
      rw [Int.tmod_eq_emod_of_nonneg (by omega)]; omega
    by_cases ho : n % 2 = 1
    · have hy : (y ++ x).size = y.size + x.size := by simp [ByteArray.size_append]
      have hm1 : n * x.size = (n / 2) * (x.size + x.size) + x.size := by rw [hm, ho, Nat.one_mul]
      obtain ⟨r, hr, he⟩ := many_ev d (n / 2) (x ++ x) (y ++ x) (by omega) (by omega) (by rw [hsz, hy]; omega)
      refine ⟨r, by rw [hr, hsz, hy]; omega, Ev.step (fun k => ?_) he⟩
      rw [spec_l1Many.l0, if_pos (by omega), hmod, if_pos (by omega), if_pos (by omega), if_pos (by omega), ht]
    · have h0 : n % 2 = 0 := by omega
      have hm1 : n * x.size = (n / 2) * (x.size + x.size) := by rw [hm, h0, Nat.zero_mul, Nat.add_zero]
      obtain ⟨r, hr, he⟩ := many_ev d (n / 2) (x ++ x) y (by omega) (by omega) (by rw [hsz]; omega)
      refine ⟨r, by rw [hr, hsz]; omega, Ev.step (fun k => ?_) he⟩
      rw [spec_l1Many.l0, if_pos (by omega), hmod, if_neg (by omega), if_pos (by omega), ht]
theorem many_f (n : Nat) (x : ByteArray) (hn : n ≤ 1000) (hb : n * x.size ≤ 1000000) : ∃ r, r.size = n * x.size ∧ Ev (fun k => spec_l1Many.f k x n) r := by
  obtain ⟨r, hr, he⟩ := many_ev n n x (⟨#[]⟩ : ByteArray) (by omega) (by omega) (by show 0 + n * x.size ≤ _; omega)
  exact ⟨r, by rw [hr]; show 0 + _ = _; omega, he⟩
theorem text_l0 {b : List Int} (hb : byteOk b) : ∀ (n : Nat) (x : List Int) (p : Int), n ≤ 1000 → x.length + n ≤ 1000000 → 0 ≤ p → p + n ≤ 1000000 → ∃ s : ByteArray, ∃ q : Int, s.size = x.length + n ∧ q = p + n ∧ Ev (fun k => spec_l11Text.l0 k x n b p) (s, q)
  | 0, x, p, _, _, _, _ => by
    refine ⟨strOfNums x, p, ?_, by omega, Ev.step (f := fun _ => some (strOfNums x, p)) (fun k => ?_) (Ev.now _)⟩
    · exact strOfNums_size x
    · rw [spec_l11Text.l0, if_neg (by omega)]
  | n + 1, x, p, hn, hx, p0, p1 => by
    obtain ⟨r, _, _, hr⟩ := pick_tells hb p0 (by omega) (n := 256) (by omega)
    obtain ⟨s, q, hs, hq, he⟩ := text_l0 hb n (x ++ [r % 256]) (p + 1) (by omega) (by rw [List.length_append, List.length_singleton]; omega) (by omega) (by omega)
    refine ⟨s, q, by rw [hs, List.length_append, List.length_singleton]; omega, by omega, ?_⟩
    have e2 := Ev.bind (g := fun k => spec_l1Rd_pick.f k b p 256) (f := fun k bt192 => if x.length < 140737488355328 then (spec_l11Text.l0 k (x ++ [(bt192.1) % 256]) (wrap64 (((n + 1 : Nat) : Int) - 1)) b bt192.2) else none) (Ev.step (f := fun _ => some (r, p + 1)) (fun k => hr k) (Ev.now _)) (r := (s, q)) ?_
    · refine Ev.step (fun k => ?_) e2
      rw [spec_l11Text.l0, if_pos (by omega)]
    · refine Ev.congr (fun k => ?_) he
      rw [if_pos (by omega), w64 (by omega) (by omega), show ((n + 1 : Nat) : Int) - 1 = (n : Int) from by omega]
def wordsOf : List ByteArray := [(⟨#[116, 104, 101, 32]⟩ : ByteArray), (⟨#[115, 116, 111, 110, 101, 32]⟩ : ByteArray), (⟨#[116, 104, 97, 116, 32]⟩ : ByteArray), (⟨#[98, 101, 97, 114, 115, 32]⟩ : ByteArray), (⟨#[97, 32]⟩ : ByteArray), (⟨#[98, 101, 97, 109]⟩ : ByteArray), (⟨#[46, 32]⟩ : ByteArray)]
theorem wordsOf_le : ∀ x ∈ wordsOf, x.size ≤ 6 := by
  intro x hx
  simp only [wordsOf, List.mem_cons, List.not_mem_nil, or_false] at hx
  rcases hx with rfl | rfl | rfl | rfl | rfl | rfl | rfl <;> decide
theorem text_l1 {b : List Int} (hb : byteOk b) : ∀ (n : Nat) (x : ByteArray) (p : Int), n ≤ 1000 → x.size + 6 * n ≤ 100000 → 0 ≤ p → p + n ≤ 1000000 → ∃ s : ByteArray, ∃ q : Int, s.size ≤ x.size + 6 * n ∧ q = p + n ∧ Ev (fun k => spec_l11Text.l1 k x n b p) (s, q)
  | 0, x, p, _, _, _, _ => by
    refine ⟨x, p, by omega, by omega, Ev.step (f := fun _ => some (x, p)) (fun k => ?_) (Ev.now _)⟩
    rw [spec_l11Text.l1, if_neg (by omega)]
  | n + 1, x, p, hn, hx, p0, p1 => by
    obtain ⟨r, hr, ho⟩ := of_tells hb p0 (by omega) (l := wordsOf) (by simp [wordsOf])
    have h6 := wordsOf_le r hr
    have hsz : (x ++ r).size = x.size + r.size := by simp [ByteArray.size_append]
    obtain ⟨s, q, hs, hq, he⟩ := text_l1 hb n (x ++ r) (p + 1) (by omega) (by omega) (by omega) (by omega)
    refine ⟨s, q, by omega, by omega, ?_⟩
    have e2 := Ev.bind (g := fun k => spec_l1Rd_of.f k b p wordsOf) (f := fun k bt203 => if x.size + bt203.1.size ≤ 9223372036854775807 then (spec_l11Text.l1 k (x ++ bt203.1) (wrap64 (((n + 1 : Nat) : Int) - 1)) b bt203.2) else none) (Ev.step (f := fun _ => some (r, p + 1)) (fun k => ho k) (Ev.now _)) (r := (s, q)) ?_
    · refine Ev.step (fun k => ?_) e2
      rw [spec_l11Text.l1, if_pos (by omega)]
      rfl
    · refine Ev.congr (fun k => ?_) he
      dsimp only
      rw [if_pos (by omega), w64 (by omega) (by omega), show ((n + 1 : Nat) : Int) - 1 = (n : Int) from by omega]
theorem ev_pick {b : List Int} (hb : byteOk b) {p : Int} (p0 : 0 ≤ p) (p1 : p ≤ 1000000000) {n : Int} (n1 : 1 ≤ n) : ∃ r, 0 ≤ r ∧ r < n ∧ Ev (fun k => spec_l1Rd_pick.f k b p n) (r, p + 1) := by
  obtain ⟨r, h0, h1, h⟩ := pick_tells hb p0 p1 n1
  exact ⟨r, h0, h1, Ev.step (f := fun _ => some (r, p + 1)) (fun k => h k) (Ev.now _)⟩
theorem ltext_ev {b : List Int} (hb : byteOk b) {p : Int} (p0 : 0 ≤ p) (p1 : p ≤ 100000) : ∃ s : ByteArray, ∃ q : Int, s.size ≤ 300 ∧ p ≤ q ∧ q ≤ p + 100 ∧ Ev (fun k => spec_l11Text.f k b p) (s, q) := by
  obtain ⟨r, r0, r1, hr⟩ := ev_pick hb p0 (by omega) (n := 8) (by omega)
  unfold spec_l11Text.f
  by_cases c0 : r = 0
  · refine ⟨_, _, ?_, ?_, ?_, Ev.bind hr (ev_ite (fun _ => Ev.now _) (fun c => absurd c0 c))⟩
    · show 0 ≤ 300; omega
    · omega
    · omega
  by_cases c1 : r = 1
  · obtain ⟨x, hx, ho⟩ := of_tells hb (p := p + 1) (by omega) (by omega) (l := [(⟨#[97]⟩ : ByteArray), (⟨#[97, 98]⟩ : ByteArray), (⟨#[97, 98, 99]⟩ : ByteArray), (⟨#[120, 121, 122, 122, 121, 32]⟩ : ByteArray)]) (by simp)
    have hx6 : x.size ≤ 6 := by
      simp only [List.mem_cons, List.not_mem_nil, or_false] at hx
      rcases hx with rfl | rfl | rfl | rfl <;> decide
    obtain ⟨n, n0, n1, hn⟩ := ev_pick hb (p := p + 1 + 1) (by omega) (by omega) (n := 40) (by omega)
    obtain ⟨m, rfl⟩ := Int.eq_ofNat_of_zero_le n0
    have hm6 : (1 + m) * x.size ≤ 240 := by
      have : (1 + m) * x.size ≤ 40 * 6 := Nat.mul_le_mul (by omega) hx6
      omega
    obtain ⟨y, hy, hye⟩ := many_f (1 + m) x (by omega) (by omega)
    refine ⟨y, p + 1 + 1 + 1, by omega, by omega, by omega, Ev.bind hr (ev_ite (fun c => absurd c c0) (fun _ => ev_ite (fun _ => ?_) (fun c => absurd c1 c)))⟩
    refine Ev.bind (Ev.step (f := fun _ => some (x, p + 1 + 1)) (fun k => ho k) (Ev.now _)) (Ev.bind hn (Ev.bind (a := y) ?_ (Ev.now _)))
    refine Ev.congr (fun k => ?_) hye
    dsimp only
    rw [w64 (by omega) (by omega)]
    rfl
  by_cases c2 : r = 2
  · obtain ⟨n, n0, n1, hn⟩ := ev_pick hb (p := p + 1) (by omega) (by omega) (n := 40) (by omega)
    obtain ⟨m, rfl⟩ := Int.eq_ofNat_of_zero_le n0
    obtain ⟨s, q, hs, hq, he⟩ := text_l0 hb m [] (p + 1 + 1) (by omega) (by simp; omega) (by omega) (by omega)
    rw [List.length_nil] at hs
    exact ⟨s, q, by omega, by omega, by omega, Ev.bind hr (ev_ite (fun c => absurd c c0) (fun _ => ev_ite (fun c => absurd c c1) (fun _ => ev_ite (fun _ => Ev.bind hn he) (fun c => absurd c2 c))))⟩
  by_cases c3 : r = 3
  · obtain ⟨y, hy, hye⟩ := many_f 300 (⟨#[113]⟩ : ByteArray) (by decide) (by decide)
    have hy' : y.size = 300 := hy
    exact ⟨y, p + 1, by omega, by omega, by omega, Ev.bind hr (ev_ite (fun c => absurd c c0) (fun _ => ev_ite (fun c => absurd c c1) (fun _ => ev_ite (fun c => absurd c c2) (fun _ => ev_ite (fun _ => Ev.bind hye (Ev.now _)) (fun c => absurd c3 c)))))⟩
  · obtain ⟨n, n0, n1, hn⟩ := ev_pick hb (p := p + 1) (by omega) (by omega) (n := 12) (by omega)
    obtain ⟨m, rfl⟩ := Int.eq_ofNat_of_zero_le n0
    obtain ⟨s, q, hs, hq, he⟩ := text_l1 hb m (⟨#[]⟩ : ByteArray) (p + 1 + 1) (by omega) (by show 0 + 6 * m ≤ 100000; omega) (by omega) (by omega)
    have hs' : s.size ≤ 0 + 6 * m := hs
    exact ⟨s, q, by omega, by omega, by omega, Ev.bind hr (ev_ite (fun c => absurd c c0) (fun _ => ev_ite (fun c => absurd c c1) (fun _ => ev_ite (fun c => absurd c c2) (fun _ => ev_ite (fun c => absurd c c3) (fun _ => Ev.bind hn he)))))⟩
theorem ltokens_ev {b : List Int} (hb : byteOk b) {p : Int} (p0 : 0 ≤ p) (p1 : p ≤ 10000) : ∃ (l : List S37) (q : Int), l.length ≤ 301 ∧ Ev (fun k => spec_l11Tokens.f k b p) (l, q) := by
  obtain ⟨s, q, hs, h1, h2, he⟩ := ltext_ev hb p0 (by omega)
  have e2 : Ev (fun k => spec_l4Tokens.f k s) (toksOf s) := by
    have e := spec_l0 s hs s.size 0 [] (by omega) (by simp)
    have et : tokens (chars s) = toks (chars s) s.size 0 := by unfold tokens; rw [chars_length]
    rw [List.nil_append, ← et] at e
    unfold toksOf
    rw [if_pos hs]
    exact e
  have hn : (toksOf s).length ≤ 300 := by
    unfold toksOf
    rw [if_pos hs, List.length_map]
    have := tokens_length (chars s)
    rw [chars_length] at this
    omega
  generalize toksOf s = l at *
  obtain ⟨r, r0, r1, hr⟩ := ev_pick hb (p := q) (by omega) (by omega) (n := 5) (by omega)
  unfold spec_l11Tokens.f
  by_cases c0 : r = 0
  · obtain ⟨o1, _, ho1⟩ := one_tells hb (p := q + 1) (by omega) (by omega) (l := [2, 3, 60, 61, 0]) (by simp)
    obtain ⟨o2, _, ho2⟩ := one_tells hb (p := q + 1 + 1) (by omega) (by omega) (l := [0, 1, 5, 250, 251]) (by simp)
    refine ⟨l ++ [⟨0, o1, o2⟩], q + 1 + 1 + 1, by rw [List.length_append, List.length_singleton]; omega, ?_⟩
    refine Ev.bind he (Ev.bind e2 (Ev.bind hr (ev_ite (fun _ => ?_) (fun c => absurd c0 c))))
    refine Ev.bind (Ev.step (f := fun _ => some (o1, q + 1 + 1)) (fun k => ho1 k) (Ev.now _)) (Ev.bind (Ev.step (f := fun _ => some (o2, q + 1 + 1 + 1)) (fun k => ho2 k) (Ev.now _)) ?_)
    exact ev_ite (fun _ => Ev.now _) (fun h => absurd (by omega) h)
  by_cases c1 : r = 1
  · obtain ⟨o1, _, ho1⟩ := one_tells hb (p := q + 1) (by omega) (by omega) (l := [-1, 256, 65]) (by simp)
    refine ⟨l ++ [⟨o1, 0, 0⟩], q + 1 + 1, by rw [List.length_append, List.length_singleton]; omega, ?_⟩
    refine Ev.bind he (Ev.bind e2 (Ev.bind hr (ev_ite (fun c => absurd c c0) (fun _ => ev_ite (fun _ => ?_) (fun c => absurd c1 c)))))
    refine Ev.bind (Ev.step (f := fun _ => some (o1, q + 1 + 1)) (fun k => ho1 k) (Ev.now _)) ?_
    exact ev_ite (fun _ => Ev.now _) (fun h => absurd (by omega) h)
  by_cases c2 : r = 2
  · by_cases hl : (l.length : Int) > 0
    · refine ⟨l.drop 1, q + 1, by rw [List.length_drop]; omega, ?_⟩
      refine Ev.bind he (Ev.bind e2 (Ev.bind hr (ev_ite (fun c => absurd c c0) (fun _ => ev_ite (fun c => absurd c c1) (fun _ => ev_ite (fun _ => ?_) (fun c => absurd c2 c))))))
      exact ev_ite (fun _ => ev_ite (fun _ => Ev.now _) (fun h => absurd (by omega) h)) (fun h => absurd hl h)
    · refine ⟨l, q + 1, by omega, ?_⟩
      refine Ev.bind he (Ev.bind e2 (Ev.bind hr (ev_ite (fun c => absurd c c0) (fun _ => ev_ite (fun c => absurd c c1) (fun _ => ev_ite (fun _ => ?_) (fun c => absurd c2 c))))))
      exact ev_ite (fun h => absurd h hl) (fun _ => Ev.now _)
  · refine ⟨l, q + 1, by omega, ?_⟩
    exact Ev.bind he (Ev.bind e2 (Ev.bind hr (ev_ite (fun c => absurd c c0) (fun _ => ev_ite (fun c => absurd c c1) (fun _ => ev_ite (fun c => absurd c c2) (fun _ => Ev.now _))))))
theorem drawtokens_ev {l : List Int} (hl : ∀ x ∈ l, (Lit.int .u8 x).wf = true) : ∃ r : List S37, r.length ≤ 301 ∧ Ev (fun k => spec_DrawTokensText.f k l) r := by
  obtain ⟨b, hb, ho⟩ := open_tells hl
  obtain ⟨r, q, hs, he⟩ := ltokens_ev hb (p := 0) (by omega) (by omega)
  refine ⟨r, hs, ?_⟩
  unfold spec_DrawTokensText.f
  exact Ev.bind (Ev.congr (f := fun _ => some (b, 0)) (fun _ => ho) (Ev.now _)) (Ev.bind he (Ev.now _))
def of37 (x : S37) : Tok := ⟨x.f0, x.f1, x.f2⟩
theorem within_eq (a b c : Int) : impl_within.f a b c = some (decide (b ≤ a ∧ a ≤ c)) := by
  unfold impl_within.f
  by_cases h : a ≥ b
  · have h' : b ≤ a := h
    rw [if_pos h]; simp [h']
  · have h' : ¬ b ≤ a := h
    rw [if_neg h]; simp [h']
theorem iadd_l0 (out : List Nat) {back : Nat} (h1 : 1 ≤ back) (h2 : back ≤ out.length) (hl : out.length ≤ 1000) (x y z : Int) (hz : z = back) (n : Nat) (hn : n ≤ 1000) : ∀ (d i : Nat), i + d = n → Ev (fun k => impl_add.l0 k (ints (copy out back i)) n i x y z) (ints (copy out back n), true) := by
  subst hz
  intro d
  induction d with
  | zero =>
    intro i hi
    obtain rfl : i = n := by omega
    refine Ev.step (f := fun _ => some (ints (copy out back i), true)) (fun k => ?_) (Ev.now _)
    rw [impl_add.l0, if_neg (by omega)]
  | succ d ih =>
    intro i hi
    have hc := copy_length out back i
    refine Ev.step (fun k => ?_) (ih (i + 1) (by omega))
    rw [impl_add.l0, if_pos (by omega), ints_length, hc, w64 (x := ((out.length + i : Nat) : Int) - back) (by omega) (by omega), if_pos (by omega), if_pos (by omega), if_pos (by omega), w64 (x := (i : Int) + 1) (by omega) (by omega)]
    rw [rd_ints _ (by rw [hc]; omega)]
    simp only [copy, ints_append]
    rw [hc, show (((out.length + i : Nat) : Int) - back).toNat = out.length + i - back from by omega]
    rfl
theorem iadd_ev (out : List Nat) (hl : out.length ≤ 400) (t : Tok) : Ev (fun k => impl_add.f k (ints out) t.byte t.long t.back) (match add out t with | some o => (ints o, true) | none => ([], false)) := by
  unfold impl_add.f add
  by_cases c0 : t.long = 0
  · simp only [c0, if_true]
    by_cases c1 : t.back = 0
    · simp only [c1, if_true, within_eq, Option.bind_some, true_and]
      by_cases c2 : 0 ≤ t.byte ∧ t.byte ≤ 255
      · simp only [c2, and_self, decide_true, if_true]
        rw [ints_length, if_pos (by omega)]
        refine Ev.congr (f := fun _ => some (ints (out ++ [t.byte.toNat]), true)) (fun k => ?_) (Ev.now _)
        rw [ints_append]
        have : t.byte % 256 = ((t.byte.toNat : Nat) : Int) := by omega
        rw [this]
        rfl
      · simp only [c2, decide_false, if_false, Bool.false_eq_true]
        exact Ev.now _
    · simp only [c1, if_false, false_and]
      exact Ev.now _
  · simp only [c0, if_false]
    have bad : ∀ x y z : Int, Ev (fun k => impl_add.j0 k (ints out) true x y z) ([], false) := by
      intro x y z
      refine Ev.step (f := fun _ => some ([], false)) (fun k => ?_) (Ev.now _)
      rw [impl_add.j0, if_pos rfl]
    by_cases c1 : t.byte = 0
    rotate_left
    · simp only [c1, if_false, false_and]; exact bad _ _ _
    simp only [c1, if_true, within_eq, Option.bind_some, true_and]
    by_cases c2 : 3 ≤ t.long ∧ t.long ≤ 60
    rotate_left
    · rw [if_neg (fun h => c2 ⟨h.1, h.2.1⟩)]
      simp only [c2, decide_false, if_false, Bool.false_eq_true]; exact bad _ _ _
    simp only [c2, and_self, decide_true, if_true, true_and]
    have hm : mn 250 ((ints out).length : Int) = ((min 250 out.length : Nat) : Int) := by rw [ints_length]; unfold mn; split <;> omega
    rw [hm]
    by_cases c3 : 1 ≤ t.back ∧ t.back ≤ 250 ∧ t.back ≤ (out.length : Int)
    · rw [if_pos c3, show decide (1 ≤ t.back ∧ t.back ≤ ((min 250 out.length : Nat) : Int)) = true from by simp; omega]
      obtain ⟨n, hn⟩ := Int.eq_ofNat_of_zero_le (show 0 ≤ t.long by omega)
      obtain ⟨b, hb⟩ := Int.eq_ofNat_of_zero_le (show 0 ≤ t.back by omega)
      have H := iadd_l0 out (back := b) (by omega) (by omega) (by omega) 0 t.long t.back hb n (by omega) n 0 (by omega)
      rw [hn, hb] at H ⊢
      simp only [Int.toNat_natCast]
      refine Ev.step (fun k => ?_) H
      rw [impl_add.j0, if_neg (by decide)]
      rfl
    · rw [if_neg c3, show decide (1 ≤ t.back ∧ t.back ≤ ((min 250 out.length : Nat) : Int)) = false from by simp; omega]
      exact bad _ _ _
def told (out : List Nat) (l : List Tok) : ByteArray × Bool := match text out l with | some o => (strOfNums (ints o), true) | none => ((⟨#[]⟩ : ByteArray), false)
theorem itext_l0 (xs : List S37) (hx : xs.length ≤ 100000000000000000) : ∀ (d i : Nat) (out : List Nat), i + d = xs.length → out.length ≤ 300 → Ev (fun k => impl_TokensText.l0 k (ints out) xs (xs.length : Int) i) (told out ((xs.drop i).map of37)) := by
  intro d
  induction d with
  | zero =>
    intro i out hi hl
    rw [List.drop_of_length_le (by omega)]
    refine Ev.step (f := fun _ => some (told out [])) (fun k => ?_) (Ev.now _)
    rw [impl_TokensText.l0, if_neg (by omega)]
    rfl
  | succ d ih =>
    intro i out hi hl
    have hlt : i < xs.length := by omega
    have hr : rd_T37 xs (i : Int) = xs[i] := by
      unfold rd_T37
      rw [List.getD_eq_getElem?_getD, Int.toNat_natCast, List.getElem?_eq_getElem hlt]; rfl
    rw [List.drop_eq_getElem_cons hlt, List.map_cons]
    have e1 := iadd_ev out (by omega) (of37 xs[i])
    have e2 := Ev.bind (f := fun k (bt117 : List Int × Bool) => if bt117.2 = true then (if (bt117.1.length : Int) > 300 then (some ((⟨#[]⟩ : ByteArray), false)) else (impl_TokensText.l0 k bt117.1 xs (xs.length : Int) (wrap64 ((i : Int) + 1)))) else (some ((⟨#[]⟩ : ByteArray), false))) e1 (r := told out (of37 xs[i] :: (xs.drop (i + 1)).map of37)) ?_
    · refine Ev.step (fun k => ?_) e2
      rw [impl_TokensText.l0, if_pos (by omega), if_pos (by omega), if_pos (by omega), hr]
      rfl
    · unfold told
      simp only [text]
      cases ha : add out (of37 xs[i]) with
      | none => simp only [Bool.false_eq_true, if_false]; exact Ev.now _
      | some o =>
        simp only [if_true, ints_length]
        by_cases c : o.length > 300
        · rw [if_pos c]; exact ev_ite (fun _ => Ev.now _) (fun h => absurd (by omega) h)
        · rw [if_neg c]
          refine ev_ite (fun h => by omega) (fun _ => ?_)
          have H := ih (i + 1) o (by omega) (by omega)
          rw [w64 (by omega) (by omega)]
          exact H
theorem itext_ev (xs : List S37) (hx : xs.length ≤ 100000000000000000) : Ev (fun k => impl_TokensText.f k xs) (told [] (xs.map of37)) := by
  have H := itext_l0 xs hx xs.length 0 [] (by omega) (by simp)
  rw [List.drop_zero] at H
  exact H
theorem ilong_ev (xs : List S37) (hx : xs.length ≤ 100000000000000000) : Ev (fun k => impl_TokensLong.f k xs) (match text [] (xs.map of37) with | some o => (o.length : Int) | none => -1) := by
  unfold impl_TokensLong.f
  refine Ev.bind (itext_ev xs hx) ?_
  unfold told
  cases text [] (xs.map of37) with
  | none => simp only [Bool.false_eq_true, if_false]; exact Ev.now _
  | some o => simp only [if_true, strOfNums_size, ints_length]; exact Ev.now _
theorem iok_ev (xs : List S37) (hx : xs.length ≤ 100000000000000000) : Ev (fun k => impl_TokensOk.f k xs) (text [] (xs.map of37)).isSome := by
  unfold impl_TokensOk.f
  refine Ev.bind (itext_ev xs hx) ?_
  unfold told
  cases text [] (xs.map of37) <;> exact Ev.now _
theorem in_eq (a b c : Int) : spec_l1In.f a b c = some (decide (b ≤ a ∧ a ≤ c)) := by
  unfold spec_l1In.f
  by_cases h : a ≥ b
  · have h' : b ≤ a := h
    rw [if_pos h]; simp [h']
  · have h' : ¬ b ≤ a := h
    rw [if_neg h]; simp [h']
theorem sadd_l0 (out : List Nat) {back : Nat} (h1 : 1 ≤ back) (h2 : back ≤ out.length) (hl : out.length ≤ 1000) (x y z : Int) (hz : z = back) (n : Nat) (hy : y = n) (hn : n ≤ 1000) : ∀ (d i : Nat), i + d = n → Ev (fun k => spec_l4Add.l0 k (ints (copy out back i)) i x y z) (ints (copy out back n), true) := by
  subst hz
  subst hy
  intro d
  induction d with
  | zero =>
    intro i hi
    obtain rfl : i = n := by omega
    refine Ev.step (f := fun _ => some (ints (copy out back i), true)) (fun k => ?_) (Ev.now _)
    rw [spec_l4Add.l0, if_neg (by omega)]
  | succ d ih =>
    intro i hi
    have hc := copy_length out back i
    refine Ev.step (fun k => ?_) (ih (i + 1) (by omega))
    rw [spec_l4Add.l0, if_pos (by omega), ints_length, hc, w64 (x := ((out.length + i : Nat) : Int) - back) (by omega) (by omega), if_pos (by omega), if_pos (by omega), if_pos (by omega), w64 (x := (i : Int) + 1) (by omega) (by omega)]
    rw [rd_ints _ (by rw [hc]; omega)]
    simp only [copy, ints_append]
    rw [hc, show (((out.length + i : Nat) : Int) - back).toNat = out.length + i - back from by omega]
    rfl
theorem sadd_ev (out : List Nat) (hl : out.length ≤ 400) (t : Tok) : ∃ r : List Int × Bool, Ev (fun k => spec_l4Add.f k (ints out) t.byte t.long t.back) r ∧ (match add out t with | some o => r = (ints o, true) | none => r.2 = false) := by
  unfold spec_l4Add.f add
  by_cases c0 : t.long = 0
  · simp only [c0, if_true]
    rw [ints_length, if_pos (by omega)]
    simp only [Option.bind_some, in_eq]
    by_cases c2 : 0 ≤ t.byte ∧ t.byte ≤ 255
    · simp only [c2, and_self, decide_true, if_true, and_true]
      by_cases c1 : t.back = 0
      · refine ⟨(ints (out ++ [t.byte.toNat]), true), Ev.congr (f := fun _ => some (ints (out ++ [t.byte.toNat]), true)) (fun k => ?_) (Ev.now _), ?_⟩
        · rw [ints_append, c1]
          have : t.byte % 256 = ((t.byte.toNat : Nat) : Int) := by omega
          rw [this]
          rfl
        · rw [if_pos c1]
      · refine ⟨_, Ev.now _, ?_⟩
        rw [if_neg c1]
        simpa using c1
    · refine ⟨(ints out ++ [t.byte % 256], false), ?_, ?_⟩
      · simp only [c2, decide_false, if_false, Bool.false_eq_true]
        exact Ev.now _
      · rw [if_neg (fun h => c2 h.2)]
  · simp only [c0, if_false]
    have bad : ∀ x y z : Int, Ev (fun k => spec_l4Add.j0 k (ints out) true x y z) (ints out, false) := by
      intro x y z
      refine Ev.step (f := fun _ => some (ints out, false)) (fun k => ?_) (Ev.now _)
      rw [spec_l4Add.j0, if_pos rfl]
    by_cases c1 : t.byte = 0
    rotate_left
    · simp only [c1, if_false, false_and]; exact ⟨_, bad _ _ _, rfl⟩
    simp only [c1, if_true, in_eq, Option.bind_some, true_and]
    by_cases c2 : 3 ≤ t.long ∧ t.long ≤ 60
    rotate_left
    · refine ⟨(ints out, false), ?_, ?_⟩
      · simp only [c2, decide_false, if_false, Bool.false_eq_true]; exact bad _ _ _
      · rw [if_neg (fun h => c2 ⟨h.1, h.2.1⟩)]
    simp only [c2, and_self, decide_true, if_true, true_and]
    by_cases c3 : 1 ≤ t.back ∧ t.back ≤ 250
    rotate_left
    · refine ⟨(ints out, false), ?_, ?_⟩
      · simp only [c3, decide_false, if_false, Bool.false_eq_true]; exact bad _ _ _
      · rw [if_neg (fun h => c3 ⟨h.1, h.2.1⟩)]
    simp only [c3, and_self, decide_true, if_true, true_and]
    rw [ints_length]
    by_cases c4 : t.back ≤ (out.length : Int)
    · obtain ⟨n, hn⟩ := Int.eq_ofNat_of_zero_le (show 0 ≤ t.long by omega)
      obtain ⟨b, hb⟩ := Int.eq_ofNat_of_zero_le (show 0 ≤ t.back by omega)
      have H := sadd_l0 out (back := b) (by omega) (by omega) (by omega) 0 t.long t.back hb n hn (by omega) n 0 (by omega)
      refine ⟨(ints (copy out b n), true), ?_, ?_⟩
      · rw [show decide (t.back > (out.length : Int)) = false from by simp; omega]
        refine Ev.step (fun k => ?_) H
        rw [spec_l4Add.j0, if_neg (by decide)]
        rfl
      · rw [if_pos c4, hn, hb]
        simp only [Int.toNat_natCast]
    · refine ⟨(ints out, false), ?_, ?_⟩
      · rw [show decide (t.back > (out.length : Int)) = true from by simp; omega]
        exact bad _ _ _
      · rw [if_neg c4]
def toldS (out : List Nat) (l : List Tok) : List Int × Bool := match text out l with | some o => (ints o, true) | none => ([], false)
theorem stext_l0 (xs : List S37) (hx : xs.length ≤ 100000000000000000) : ∀ (d i : Nat) (out : List Nat), i + d = xs.length → out.length ≤ 300 → Ev (fun k => spec_l4Text.l0 k xs (ints out) i) (toldS out ((xs.drop i).map of37)) := by
  intro d
  induction d with
  | zero =>
    intro i out hi hl
    rw [List.drop_of_length_le (by omega)]
    refine Ev.step (f := fun _ => some (toldS out [])) (fun k => ?_) (Ev.now _)
    rw [spec_l4Text.l0, if_neg (by omega)]
    rfl
  | succ d ih =>
    intro i out hi hl
    have hlt : i < xs.length := by omega
    have hr : rd_T37 xs (i : Int) = xs[i] := by
      unfold rd_T37
      rw [List.getD_eq_getElem?_getD, Int.toNat_natCast, List.getElem?_eq_getElem hlt]; rfl
    rw [List.drop_eq_getElem_cons hlt, List.map_cons]
    obtain ⟨r, e1, hr2⟩ := sadd_ev out (by omega) (of37 xs[i])
    have e2 := Ev.bind (f := fun k (bt140 : List Int × Bool) => if bt140.2 = true then (if (bt140.1.length : Int) > 300 then (some ((([] : List Int)), false)) else (spec_l4Text.l0 k xs bt140.1 (wrap64 ((i : Int) + 1)))) else (some ((([] : List Int)), false))) e1 (r := toldS out (of37 xs[i] :: (xs.drop (i + 1)).map of37)) ?_
    · refine Ev.step (fun k => ?_) e2
      rw [spec_l4Text.l0, if_pos (by omega), if_pos (by omega), hr]
      rfl
    · unfold toldS
      simp only [text]
      cases ha : add out (of37 xs[i]) with
      | none =>
        rw [ha] at hr2
        simp only at hr2
        simp only [hr2, Bool.false_eq_true, if_false]; exact Ev.now _
      | some o =>
        rw [ha] at hr2
        simp only at hr2
        subst hr2
        simp only [if_true, ints_length]
        by_cases c : o.length > 300
        · rw [if_pos c]; exact ev_ite (fun _ => Ev.now _) (fun h => absurd (by omega) h)
        · rw [if_neg c]
          refine ev_ite (fun h => by omega) (fun _ => ?_)
          have H := ih (i + 1) o (by omega) (by omega)
          rw [w64 (by omega) (by omega)]
          exact H
theorem stext_ev (xs : List S37) (hx : xs.length ≤ 100000000000000000) : Ev (fun k => spec_l4Text.f k xs) (toldS [] (xs.map of37)) := by
  have H := stext_l0 xs hx xs.length 0 [] (by omega) (by simp)
  rw [List.drop_zero] at H
  exact H
end FnTokensTextAid
open FnTokensTextAid
open Go.Proofs.Ytnfeedalbfflhaa.Lz (Tok run mlen best toks tokens copy add text mlen_le best_le_60 tokens_length best_le best_form best_max copy_length text_tokens text_append text_le add_prefix text_bytes text_over text_each copy_self tokens_same)
theorem FnTokensText : laws_FnTokensText.Pure := by
  intro l0 _ _ hl
  obtain ⟨xs, hx, hd⟩ := drawtokens_ev hl
  have f1 := itext_ev xs (by omega)
  have f2 := ilong_ev xs (by omega)
  have f3 := iok_ev xs (by omega)
  have f4 := stext_ev xs (by omega)
  have g4 : Ev (fun k => spec_TokensText.f k xs) (told [] (xs.map of37)) := by
    unfold spec_TokensText.f
    refine Ev.bind f4 ?_
    unfold toldS told
    cases text [] (xs.map of37) with
    | none => exact Ev.now _
    | some o => exact Ev.now _
  have g5 : Ev (fun k => spec_TokensLong.f k xs) (match text [] (xs.map of37) with | some o => (o.length : Int) | none => -1) := by
    unfold spec_TokensLong.f
    refine Ev.bind f4 ?_
    unfold toldS
    cases text [] (xs.map of37) with
    | none => simp only [Bool.false_eq_true, if_false]; exact Ev.now _
    | some o => simp only [if_true, ints_length]; exact Ev.now _
  refine Ev.rounds (r := true) ?_
  unfold laws_FnTokensText.f
  refine ev_ite (fun _ => Ev.now _) (fun _ => Ev.bind hd (Ev.bind f1 (Ev.bind g4 (Ev.bind f2 ?_))))
  rw [show ((told [] (xs.map of37)).2 != (told [] (xs.map of37)).2) = false from by simp]
  simp only [Bool.false_eq_true, if_false, if_true]
  refine Ev.bind f3 ?_
  have hok : (text [] (xs.map of37)).isSome = (told [] (xs.map of37)).2 := by unfold told; cases text [] (xs.map of37) <;> rfl
  rw [hok, show ((told [] (xs.map of37)).2 != (told [] (xs.map of37)).2) = false from by simp]
  simp only [Bool.false_eq_true, if_false]
  refine Ev.bind g5 ?_
  simp only [if_true]
  have last : Ev (fun k => laws_FnTokensText.j0 k xs (told [] (xs.map of37)).1 (told [] (xs.map of37)).2 (told [] (xs.map of37)).1 (told [] (xs.map of37)).2 (match text [] (xs.map of37) with | some o => (o.length : Int) | none => -1) true) true := by
    refine Ev.step (f := fun k => _) (fun k => by rw [laws_FnTokensText.j0, if_pos rfl]) ?_
    simp only [beq_self_eq_true, if_true]
    refine Ev.bind f3 ?_
    rw [hok]
    simp only [beq_self_eq_true, if_true]
    refine Ev.bind g5 ?_
    simp only [beq_self_eq_true]
    exact Ev.now _
  refine ev_ite (fun hb => ?_) (fun _ => last)
  by_cases h0 : xs = []
  · subst h0
    exact last
  have hpos : 0 < xs.length := List.length_pos_iff.2 h0
  rw [show ((xs.length : Int) == 0) = false from beq_eq_false_iff_ne.2 (by omega)]
  cases ht : text [] (xs.map of37) with
  | none => unfold told at hb; rw [ht] at hb; cases hb
  | some o =>
    have ho := text_le _ _ _ (by simp) ht
    have e : xs = xs.take (xs.length - 1) ++ [xs[xs.length - 1]] := by
      conv => lhs; rw [← List.take_length (l := xs)]
      conv => lhs; rw [show xs.length = xs.length - 1 + 1 from by omega, List.take_succ_eq_append_getElem (by omega)]
    have ht2 : (text [] ((xs.take (xs.length - 1)).map of37)).bind (fun o => text o [of37 xs[xs.length - 1]]) = some o := by
      rw [← text_append]
      rw [← ht]
      conv => rhs; rw [e, List.map_append, List.map_cons, List.map_nil]
    cases hx2 : text [] ((xs.take (xs.length - 1)).map of37) with
    | none => rw [hx2] at ht2; cases ht2
    | some x =>
      rw [hx2] at ht2
      simp only [Option.bind_some, text] at ht2
      cases ha : add x (of37 xs[xs.length - 1]) with
      | none => rw [ha] at ht2; cases ht2
      | some y =>
        rw [ha] at ht2
        simp only at ht2
        by_cases hy : y.length > 300
        · rw [if_pos hy] at ht2; cases ht2
        rw [if_neg hy] at ht2
        obtain rfl := Option.some.inj ht2
        obtain ⟨z, hz, hyz⟩ := add_prefix ha
        have hz0 : 0 < z.length := List.length_pos_iff.2 hz
        have hxl : y.length = x.length + z.length := by rw [hyz, List.length_append]
        have f6 := itext_ev (xs.take (xs.length - 1)) (by rw [List.length_take]; omega)
        unfold told at f6 ⊢
        rw [hx2] at f6
        rw [ht]
        simp only at f6 ⊢
        refine Ev.step (f := fun k => _) (fun k => by rw [laws_FnTokensText.j0, if_neg (by decide)]) ?_
        rw [w64 (by omega) (by omega), show ((xs.length : Int) - 1).toNat = xs.length - 1 from by omega]
        refine ev_ite (fun _ => ?_) (fun h => absurd (by omega) h)
        refine ev_ite (fun _ => ?_) (fun h => absurd (by omega) h)
        refine Ev.bind f6 ?_
        simp only [if_true, strOfNums_size, ints_length]
        refine ev_ite (fun _ => ?_) (fun h => absurd (by omega) h)
        refine ev_ite (fun _ => ?_) (fun h => absurd (by omega) h)
        refine ev_ite (fun _ => ?_) (fun h => absurd (by omega) h)
        have hex : (strOfNums (ints y)).extract 0 ((x.length : Int)).toNat = strOfNums (ints x) := by
          rw [Int.toNat_natCast, hyz, ints_append]
          exact strOfNums_extract (ints x) (ints z) x.length (ints_length x)
        rw [hex, beq_self_eq_true]
        exact Ev.now _
end Go.Proofs.Ytnfeedalbfflhaa.Pure
