/- The statement FnExactTokensLong: at every list of tokens, whatever its numbers are, the program and the reference answer the same, so the law returns true and its argument reads as before. No condition beyond the row's own. -/
import Derived.Test.YtnfeedalbfflhaaRows
import Derived.Test.YtnfeedalbfflhaaPFnExactTokensLongx4
import Derived.Test.YtnfeedalbfflhaaLz
import Derived.WalkKit
import Derived.ProofKit
import Derived.OpenShut
import Derived.ChangeOld
import Derived.Below
import Derived.SizedLaws
import Derived.Deep.Slices
import Derived.Laws.BitsLemmas
namespace Go.Proofs.Ytnfeedalbfflhaa.fnExactTokensLong
open Go.ChangeShapes Go.WideShapes Go.ChangeAt Go.RowKit
open Go.Proofs.Ytnfeedalbfflhaa.PFnExactTokensLong Go.Proofs.YtnfeedalbfflhaaW.PrintWords Go.Proofs.YtnfeedalbfflhaaW.PrintLast Go.Proofs.YtnfeedalbfflhaaW.PrintMore
set_option linter.unusedVariables false
set_option linter.unusedSimpArgs false
namespace Aid
theorem w64 {x : Int} (h1 : -9223372036854775808 ≤ x) (h2 : x < 9223372036854775808) : wrap64 x = x := by unfold wrap64; omega
theorem wr_i64 (n : Int) (h₀ : 0 ≤ n) (h₁ : n < 2 ^ 63) : IntKind.i64.wrap n = n := by rw [IntKind.wrap_i64]; omega
theorem and_mask (i : Nat) (hi : i ≤ 63) {x m : Int} (hm : m = 2 ^ i - 1) (h0 : 0 ≤ x) (h1 : x < 9223372036854775808) : Go.bits .and .i64 x m = x % 2 ^ i := by
  subst hm
  exact bits_mask .i64 63 (by decide) wr_i64 i hi x h0 (by omega)
theorem or_add (i : Nat) {x y : Int} (h0 : 0 ≤ x) (hx : x % 2 ^ i = 0) (h1 : x < 9223372036854775808) (y0 : 0 ≤ y) (y1 : y < 2 ^ i) (y2 : y < 9223372036854775808) : Go.bits .or .i64 x y = x + y :=
  bits_join .i64 63 (by decide) wr_i64 i x y h0 hx (by omega) y0 y1 (by omega)
theorem or_comm (x y : Int) : Go.bits .or .i64 x y = Go.bits .or .i64 y x := by
  simp only [Go.bits]; rw [BitVec.or_comm]
theorem or_lo (i : Nat) {x y : Int} (x0 : 0 ≤ x) (x1 : x < 2 ^ i) (x2 : x < 9223372036854775808) (h0 : 0 ≤ y) (hy : y % 2 ^ i = 0) (h1 : y < 9223372036854775808) : Go.bits .or .i64 x y = x + y := by
  rw [or_comm, or_add i h0 hy h1 x0 x1 x2]; omega
theorem ev_ite {α : Type} {c : Prop} [Decidable c] {g f : Nat → Option α} {r : α} (h1 : c → Ev g r) (h2 : ¬ c → Ev f r) : Ev (fun k => if c then g k else f k) r := by
  by_cases h : c
  · exact Ev.congr (fun k => by rw [if_pos h]) (h1 h)
  · exact Ev.congr (fun k => by rw [if_neg h]) (h2 h)
open Go.Proofs.Ytnfeedalbfflhaa.Lz (Tok run mlen best toks tokens copy add text mlen_le best_le_60 tokens_length best_le best_form best_max copy_length text_tokens text_append text_le add_prefix text_bytes text_over text_each copy_self tokens_same)
def ints (l : List Nat) : List Int := l.map (fun n : Nat => (n : Int))
theorem ints_length (l : List Nat) : (ints l).length = l.length := by simp [ints]
theorem rd_ints (l : List Nat) {i : Int} (h : i.toNat < l.length) : rd (ints l) i = (l.getD i.toNat 0 : Nat) := by
  unfold rd ints
  rw [List.getD_eq_getElem?_getD, List.getD_eq_getElem?_getD, List.getElem?_map, List.getElem?_eq_getElem h]
  rfl
theorem ints_append (a b : List Nat) : ints (a ++ b) = ints a ++ ints b := by simp [ints]
def chars (s : ByteArray) : List Nat := s.data.toList.map fun b => b.toNat
theorem chars_length (s : ByteArray) : (chars s).length = s.size := by unfold chars; rw [List.length_map, Array.length_toList]; rfl
theorem chars_lt (s : ByteArray) : ∀ x ∈ chars s, x < 256 := by
  intro x hx
  unfold chars at hx
  obtain ⟨b, _, rfl⟩ := List.mem_map.1 hx
  exact b.toNat_lt
theorem bt_chars (s : ByteArray) {i : Int} (h : i.toNat < s.size) : bt s i = ((chars s).getD i.toNat 0 : Nat) := by
  unfold bt chars
  rw [dif_pos h, List.getD_eq_getElem?_getD, List.getElem?_map, List.getElem?_eq_getElem (by rw [Array.length_toList]; exact h)]
  rfl
theorem chars_ext {s s' : ByteArray} (h : chars s = chars s') : s = s' := by
  have : s.data.toList = s'.data.toList := by
    unfold chars at h
    exact (List.map_inj_right (fun a b e => UInt8.toNat_inj.1 e)).1 h
  cases s; cases s'; simp_all
theorem strOfNums_size (x : List Int) : (strOfNums x).size = x.length := by
  unfold strOfNums
  simp [ByteArray.size]
theorem strOfNums_chars (s : ByteArray) : strOfNums (ints (chars s)) = s := by
  unfold strOfNums ints chars
  rw [List.map_map, List.map_map]
  have : (s.data.toList.map (((fun n : Int => UInt8.ofNat n.toNat) ∘ (fun n : Nat => (n : Int))) ∘ fun b : UInt8 => b.toNat)) = s.data.toList := by
    conv => rhs; rw [← List.map_id s.data.toList]
    apply List.map_congr_left
    intro b _
    simp
  rw [this]
theorem chars_strOfNums (l : List Nat) (h : ∀ x ∈ l, x < 256) : chars (strOfNums (ints l)) = l := by
  unfold strOfNums ints chars
  simp only [List.map_map]
  conv => rhs; rw [← List.map_id l]
  apply List.map_congr_left
  intro b hb
  have := h b hb
  simp
  omega
theorem empty_toList : (⟨#[]⟩ : ByteArray).toList = [] := by
  unfold ByteArray.toList
  unfold ByteArray.toList.loop
  rw [if_neg (by decide)]
  rfl
theorem strOfNums_extract (a b : List Int) (n : Nat) (h : a.length = n) : (strOfNums (a ++ b)).extract 0 n = strOfNums a := by
  have h2 : (strOfNums (a ++ b)) = strOfNums a ++ strOfNums b := by
    unfold strOfNums
    simp [ByteArray.ext_iff, ByteArray.data_append]
  have h3 : (strOfNums a).size = n := by rw [strOfNums_size]; exact h
  rw [h2, ← h3, ByteArray.extract_append_eq_left rfl]
def tok37 (t : Tok) : S37 := ⟨t.byte, t.long, t.back⟩
theorem same_iff (s : ByteArray) {p q : Nat} (hp : p < s.size) (hq : q < s.size) : (bt s (p : Int) = bt s (q : Int)) ↔ ((chars s)[p]? = (chars s)[q]?) := by
  rw [bt_chars s (i := p) (by omega), bt_chars s (i := q) (by omega)]
  simp only [Int.toNat_natCast]
  rw [List.getD_eq_getElem?_getD, List.getD_eq_getElem?_getD, List.getElem?_eq_getElem (by rw [chars_length]; exact hp), List.getElem?_eq_getElem (by rw [chars_length]; exact hq)]
  simp only [Option.getD_some, Option.some.injEq]
  omega
def toksOf (s : ByteArray) : List S37 := if s.size ≤ 300 then (tokens (chars s)).map tok37 else []
def of37 (x : S37) : Tok := ⟨x.f0, x.f1, x.f2⟩
theorem within_eq (a b c : Int) : impl_within.f a b c = some (decide (b ≤ a ∧ a ≤ c)) := by
  unfold impl_within.f
  by_cases h : a ≥ b
  · have h' : b ≤ a := h
    rw [if_pos h]; simp [h']
  · have h' : ¬ b ≤ a := h
    rw [if_neg h]; simp [h']
theorem iadd_l0 (out : List Nat) {back : Nat} (h1 : 1 ≤ back) (h2 : back ≤ out.length) (hl : out.length ≤ 1000) (x y z : Int) (hz : z = back) (n : Nat) (hn : n ≤ 1000) : ∀ (d i : Nat), i + d = n → Ev (fun k => impl_add.l0 k (ints (copy out back i)) n i x y z) (ints (copy out back n), true) := by
  subst hz
  intro d
  induction d with
  | zero =>
    intro i hi
    obtain rfl : i = n := by omega
    refine Ev.step (f := fun _ => some (ints (copy out back i), true)) (fun k => ?_) (Ev.now _)
    rw [impl_add.l0, if_neg (by omega)]
  | succ d ih =>
    intro i hi
    have hc := copy_length out back i
    refine Ev.step (fun k => ?_) (ih (i + 1) (by omega))
    rw [impl_add.l0, if_pos (by omega), ints_length, hc, w64 (x := ((out.length + i : Nat) : Int) - back) (by omega) (by omega), if_pos (by omega), if_pos (by omega), if_pos (by omega), w64 (x := (i : Int) + 1) (by omega) (by omega)]
    rw [rd_ints _ (by rw [hc]; omega)]
    simp only [copy, ints_append]
    rw [hc, show (((out.length + i : Nat) : Int) - back).toNat = out.length + i - back from by omega]
    rfl
theorem iadd_ev (out : List Nat) (hl : out.length ≤ 400) (t : Tok) : Ev (fun k => impl_add.f k (ints out) t.byte t.long t.back) (match add out t with | some o => (ints o, true) | none => ([], false)) := by
  unfold impl_add.f add
  by_cases c0 : t.long = 0
  · simp only [c0, if_true]
    by_cases c1 : t.back = 0
    · simp only [c1, if_true, within_eq, Option.bind_some, true_and]
      by_cases c2 : 0 ≤ t.byte ∧ t.byte ≤ 255
      · simp only [c2, and_self, decide_true, if_true]
        rw [ints_length, if_pos (by omega)]
        refine Ev.congr (f := fun _ => some (ints (out ++ [t.byte.toNat]), true)) (fun k => ?_) (Ev.now _)
        rw [ints_append]
        have : t.byte % 256 = ((t.byte.toNat : Nat) : Int) := by omega
        rw [this]
        rfl
      · simp only [c2, decide_false, if_false, Bool.false_eq_true]
        exact Ev.now _
    · simp only [c1, if_false, false_and]
      exact Ev.now _
  · simp only [c0, if_false]
    have bad : ∀ x y z : Int, Ev (fun k => impl_add.j0 k (ints out) true x y z) ([], false) := by
      intro x y z
      refine Ev.step (f := fun _ => some ([], false)) (fun k => ?_) (Ev.now _)
      rw [impl_add.j0, if_pos rfl]
    by_cases c1 : t.byte = 0
    rotate_left
    · simp only [c1, if_false, false_and]; exact bad _ _ _
    simp only [c1, if_true, within_eq, Option.bind_some, true_and]
    by_cases c2 : 3 ≤ t.long ∧ t.long ≤ 60
    rotate_left
    · rw [if_neg (fun h => c2 ⟨h.1, h.2.1⟩)]
      simp only [c2, decide_false, if_false, Bool.false_eq_true]; exact bad _ _ _
    simp only [c2, and_self, decide_true, if_true, true_and]
    have hm : mn 250 ((ints out).length : Int) = ((min 250 out.length : Nat) : Int) := by rw [ints_length]; unfold mn; split <;> omega
    rw [hm]
    by_cases c3 : 1 ≤ t.back ∧ t.back ≤ 250 ∧ t.back ≤ (out.length : Int)
    · rw [if_pos c3, show decide (1 ≤ t.back ∧ t.back ≤ ((min 250 out.length : Nat) : Int)) = true from by simp; omega]
      obtain ⟨n, hn⟩ := Int.eq_ofNat_of_zero_le (show 0 ≤ t.long by omega)
      obtain ⟨b, hb⟩ := Int.eq_ofNat_of_zero_le (show 0 ≤ t.back by omega)
      have H := iadd_l0 out (back := b) (by omega) (by omega) (by omega) 0 t.long t.back hb n (by omega) n 0 (by omega)
      rw [hn, hb] at H ⊢
      simp only [Int.toNat_natCast]
      refine Ev.step (fun k => ?_) H
      rw [impl_add.j0, if_neg (by decide)]
      rfl
    · rw [if_neg c3, show decide (1 ≤ t.back ∧ t.back ≤ ((min 250 out.length : Nat) : Int)) = false from by simp; omega]
      exact bad _ _ _
def told (out : List Nat) (l : List Tok) : ByteArray × Bool := match text out l with | some o => (strOfNums (ints o), true) | none => ((⟨#[]⟩ : ByteArray), false)
theorem itext_l0 (xs : List S37) (hx : xs.length ≤ 100000000000000000) : ∀ (d i : Nat) (out : List Nat), i + d = xs.length → out.length ≤ 300 → Ev (fun k => impl_TokensText.l0 k (ints out) xs (xs.length : Int) i) (told out ((xs.drop i).map of37)) := by
  intro d
  induction d with
  | zero =>
    intro i out hi hl
    rw [List.drop_of_length_le (by omega)]
    refine Ev.step (f := fun _ => some (told out [])) (fun k => ?_) (Ev.now _)
    rw [impl_TokensText.l0, if_neg (by omega)]
    rfl
  | succ d ih =>
    intro i out hi hl
    have hlt : i < xs.length := by omega
    have hr : rd_T37 xs (i : Int) = xs[i] := by
      unfold rd_T37
      rw [List.getD_eq_getElem?_getD, Int.toNat_natCast, List.getElem?_eq_getElem hlt]; rfl
    rw [List.drop_eq_getElem_cons hlt, List.map_cons]
    have e1 := iadd_ev out (by omega) (of37 xs[i])
    have e2 := Ev.bind (f := fun k (bt117 : List Int × Bool) => if bt117.2 = true then (if (bt117.1.length : Int) > 300 then (some ((⟨#[]⟩ : ByteArray), false)) else (impl_TokensText.l0 k bt117.1 xs (xs.length : Int) (wrap64 ((i : Int) + 1)))) else (some ((⟨#[]⟩ : ByteArray), false))) e1 (r := told out (of37 xs[i] :: (xs.drop (i + 1)).map of37)) ?_
    · refine Ev.step (fun k => ?_) e2
      rw [impl_TokensText.l0, if_pos (by omega), if_pos (by omega), if_pos (by omega), hr]
      rfl
    · unfold told
      simp only [text]
      cases ha : add out (of37 xs[i]) with
      | none => simp only [Bool.false_eq_true, if_false]; exact Ev.now _
      | some o =>
        simp only [if_true, ints_length]
        by_cases c : o.length > 300
        · rw [if_pos c]; exact ev_ite (fun _ => Ev.now _) (fun h => absurd (by omega) h)
        · rw [if_neg c]
          refine ev_ite (fun h => by omega) (fun _ => ?_)
          have H := ih (i + 1) o (by omega) (by omega)
          rw [w64 (by omega) (by omega)]
          exact H
theorem itext_ev (xs : List S37) (hx : xs.length ≤ 100000000000000000) : Ev (fun k => impl_TokensText.f k xs) (told [] (xs.map of37)) := by
  have H := itext_l0 xs hx xs.length 0 [] (by omega) (by simp)
  rw [List.drop_zero] at H
  exact H
theorem ilong_ev (xs : List S37) (hx : xs.length ≤ 100000000000000000) : Ev (fun k => impl_TokensLong.f k xs) (match text [] (xs.map of37) with | some o => (o.length : Int) | none => -1) := by
  unfold impl_TokensLong.f
  refine Ev.bind (itext_ev xs hx) ?_
  unfold told
  cases text [] (xs.map of37) with
  | none => simp only [Bool.false_eq_true, if_false]; exact Ev.now _
  | some o => simp only [if_true, strOfNums_size, ints_length]; exact Ev.now _
theorem in_eq (a b c : Int) : spec_l1In.f a b c = some (decide (b ≤ a ∧ a ≤ c)) := by
  unfold spec_l1In.f
  by_cases h : a ≥ b
  · have h' : b ≤ a := h
    rw [if_pos h]; simp [h']
  · have h' : ¬ b ≤ a := h
    rw [if_neg h]; simp [h']
theorem sadd_l0 (out : List Nat) {back : Nat} (h1 : 1 ≤ back) (h2 : back ≤ out.length) (hl : out.length ≤ 1000) (x y z : Int) (hz : z = back) (n : Nat) (hy : y = n) (hn : n ≤ 1000) : ∀ (d i : Nat), i + d = n → Ev (fun k => spec_l4Add.l0 k (ints (copy out back i)) i x y z) (ints (copy out back n), true) := by
  subst hz
  subst hy
  intro d
  induction d with
  | zero =>
    intro i hi
    obtain rfl : i = n := by omega
    refine Ev.step (f := fun _ => some (ints (copy out back i), true)) (fun k => ?_) (Ev.now _)
    rw [spec_l4Add.l0, if_neg (by omega)]
  | succ d ih =>
    intro i hi
    have hc := copy_length out back i
    refine Ev.step (fun k => ?_) (ih (i + 1) (by omega))
    rw [spec_l4Add.l0, if_pos (by omega), ints_length, hc, w64 (x := ((out.length + i : Nat) : Int) - back) (by omega) (by omega), if_pos (by omega), if_pos (by omega), if_pos (by omega), w64 (x := (i : Int) + 1) (by omega) (by omega)]
    rw [rd_ints _ (by rw [hc]; omega)]
    simp only [copy, ints_append]
    rw [hc, show (((out.length + i : Nat) : Int) - back).toNat = out.length + i - back from by omega]
    rfl
theorem sadd_ev (out : List Nat) (hl : out.length ≤ 400) (t : Tok) : ∃ r : List Int × Bool, Ev (fun k => spec_l4Add.f k (ints out) t.byte t.long t.back) r ∧ (match add out t with | some o => r = (ints o, true) | none => r.2 = false) := by
  unfold spec_l4Add.f add
  by_cases c0 : t.long = 0
  · simp only [c0, if_true]
    rw [ints_length, if_pos (by omega)]
    simp only [Option.bind_some, in_eq]
    by_cases c2 : 0 ≤ t.byte ∧ t.byte ≤ 255
    · simp only [c2, and_self, decide_true, if_true, and_true]
      by_cases c1 : t.back = 0
      · refine ⟨(ints (out ++ [t.byte.toNat]), true), Ev.congr (f := fun _ => some (ints (out ++ [t.byte.toNat]), true)) (fun k => ?_) (Ev.now _), ?_⟩
        · rw [ints_append, c1]
          have : t.byte % 256 = ((t.byte.toNat : Nat) : Int) := by omega
          rw [this]
          rfl
        · rw [if_pos c1]
      · refine ⟨_, Ev.now _, ?_⟩
        rw [if_neg c1]
        simpa using c1
    · refine ⟨(ints out ++ [t.byte % 256], false), ?_, ?_⟩
      · simp only [c2, decide_false, if_false, Bool.false_eq_true]
        exact Ev.now _
      · rw [if_neg (fun h => c2 h.2)]
  · simp only [c0, if_false]
    have bad : ∀ x y z : Int, Ev (fun k => spec_l4Add.j0 k (ints out) true x y z) (ints out, false) := by
      intro x y z
      refine Ev.step (f := fun _ => some (ints out, false)) (fun k => ?_) (Ev.now _)
      rw [spec_l4Add.j0, if_pos rfl]
    by_cases c1 : t.byte = 0
    rotate_left
    · simp only [c1, if_false, false_and]; exact ⟨_, bad _ _ _, rfl⟩
    simp only [c1, if_true, in_eq, Option.bind_some, true_and]
    by_cases c2 : 3 ≤ t.long ∧ t.long ≤ 60
    rotate_left
    · refine ⟨(ints out, false), ?_, ?_⟩
      · simp only [c2, decide_false, if_false, Bool.false_eq_true]; exact bad _ _ _
      · rw [if_neg (fun h => c2 ⟨h.1, h.2.1⟩)]
    simp only [c2, and_self, decide_true, if_true, true_and]
    by_cases c3 : 1 ≤ t.back ∧ t.back ≤ 250
    rotate_left
    · refine ⟨(ints out, false), ?_, ?_⟩
      · simp only [c3, decide_false, if_false, Bool.false_eq_true]; exact bad _ _ _
      · rw [if_neg (fun h => c3 ⟨h.1, h.2.1⟩)]
    simp only [c3, and_self, decide_true, if_true, true_and]
    rw [ints_length]
    by_cases c4 : t.back ≤ (out.length : Int)
    · obtain ⟨n, hn⟩ := Int.eq_ofNat_of_zero_le (show 0 ≤ t.long by omega)
      obtain ⟨b, hb⟩ := Int.eq_ofNat_of_zero_le (show 0 ≤ t.back by omega)
      have H := sadd_l0 out (back := b) (by omega) (by omega) (by omega) 0 t.long t.back hb n hn (by omega) n 0 (by omega)
      refine ⟨(ints (copy out b n), true), ?_, ?_⟩
      · rw [show decide (t.back > (out.length : Int)) = false from by simp; omega]
        refine Ev.step (fun k => ?_) H
        rw [spec_l4Add.j0, if_neg (by decide)]
        rfl
      · rw [if_pos c4, hn, hb]
        simp only [Int.toNat_natCast]
    · refine ⟨(ints out, false), ?_, ?_⟩
      · rw [show decide (t.back > (out.length : Int)) = true from by simp; omega]
        exact bad _ _ _
      · rw [if_neg c4]
def toldS (out : List Nat) (l : List Tok) : List Int × Bool := match text out l with | some o => (ints o, true) | none => ([], false)
theorem stext_l0 (xs : List S37) (hx : xs.length ≤ 100000000000000000) : ∀ (d i : Nat) (out : List Nat), i + d = xs.length → out.length ≤ 300 → Ev (fun k => spec_l4Text.l0 k xs (ints out) i) (toldS out ((xs.drop i).map of37)) := by
  intro d
  induction d with
  | zero =>
    intro i out hi hl
    rw [List.drop_of_length_le (by omega)]
    refine Ev.step (f := fun _ => some (toldS out [])) (fun k => ?_) (Ev.now _)
    rw [spec_l4Text.l0, if_neg (by omega)]
    rfl
  | succ d ih =>
    intro i out hi hl
    have hlt : i < xs.length := by omega
    have hr : rd_T37 xs (i : Int) = xs[i] := by
      unfold rd_T37
      rw [List.getD_eq_getElem?_getD, Int.toNat_natCast, List.getElem?_eq_getElem hlt]; rfl
    rw [List.drop_eq_getElem_cons hlt, List.map_cons]
    obtain ⟨r, e1, hr2⟩ := sadd_ev out (by omega) (of37 xs[i])
    have e2 := Ev.bind (f := fun k (bt140 : List Int × Bool) => if bt140.2 = true then (if (bt140.1.length : Int) > 300 then (some ((([] : List Int)), false)) else (spec_l4Text.l0 k xs bt140.1 (wrap64 ((i : Int) + 1)))) else (some ((([] : List Int)), false))) e1 (r := toldS out (of37 xs[i] :: (xs.drop (i + 1)).map of37)) ?_
    · refine Ev.step (fun k => ?_) e2
      rw [spec_l4Text.l0, if_pos (by omega), if_pos (by omega), hr]
      rfl
    · unfold toldS
      simp only [text]
      cases ha : add out (of37 xs[i]) with
      | none =>
        rw [ha] at hr2
        simp only at hr2
        simp only [hr2, Bool.false_eq_true, if_false]; exact Ev.now _
      | some o =>
        rw [ha] at hr2
        simp only at hr2
        subst hr2
        simp only [if_true, ints_length]
        by_cases c : o.length > 300
        · rw [if_pos c]; exact ev_ite (fun _ => Ev.now _) (fun h => absurd (by omega) h)
        · rw [if_neg c]
          refine ev_ite (fun h => by omega) (fun _ => ?_)
          have H := ih (i + 1) o (by omega) (by omega)
          rw [w64 (by omega) (by omega)]
          exact H
theorem stext_ev (xs : List S37) (hx : xs.length ≤ 100000000000000000) : Ev (fun k => spec_l4Text.f k xs) (toldS [] (xs.map of37)) := by
  have H := stext_l0 xs hx xs.length 0 [] (by omega) (by simp)
  rw [List.drop_zero] at H
  exact H
theorem eqTok (t : S37) : laws_eqToken.f t.f0 t.f1 t.f2 t.f0 t.f1 t.f2 = some true := by
  unfold laws_eqToken.f
  simp
theorem eqTokS (xs : List S37) (hm : xs.length ≤ 1000000000) : ∀ (d i : Nat), i + d = xs.length → Ev (fun k => laws_eqTokenS.l0 k xs xs i) true := by
  intro d
  induction d with
  | zero =>
    intro i hi
    refine Ev.step (f := fun _ => some true) (fun k => ?_) (Ev.now _)
    rw [laws_eqTokenS.l0, if_neg (by omega)]
  | succ d ih =>
    intro i hi
    refine Ev.step (fun k => ?_) (ih (i + 1) (by omega))
    rw [laws_eqTokenS.l0, if_pos (by omega), if_pos (by omega), if_pos (by omega), eqTok]
    simp only [Option.bind_some, if_true]
    rw [w64 (by omega) (by omega)]
    rfl
theorem eqTokS_f (xs : List S37) (hm : xs.length ≤ 1000000000) : Ev (fun k => laws_eqTokenS.f k xs xs) true := by
  unfold laws_eqTokenS.f
  refine Ev.congr (fun k => ?_) (eqTokS xs hm xs.length 0 (by omega))
  rw [if_pos rfl]
  rfl
def conv (x : S44) : S37 := ⟨x.f0, x.f1, x.f2⟩
theorem toTok_l0 (xs : List S44) (hx : xs.length ≤ 1048576) : ∀ (d i : Nat), i + d = xs.length → Ev (fun k => laws_toTokenS.l0 k xs ((xs.take i).map conv ++ List.replicate d z37) i) (xs.map conv) := by
  intro d
  induction d with
  | zero =>
    intro i hi
    refine Ev.step (f := fun _ => some (xs.map conv)) (fun k => ?_) (Ev.now _)
    rw [laws_toTokenS.l0, if_neg (by omega), List.take_of_length_le (by omega)]
    simp
  | succ d ih =>
    intro i hi
    have hlt : i < xs.length := by omega
    have hr : rd_T44 xs (i : Int) = xs[i] := by
      unfold rd_T44
      rw [List.getD_eq_getElem?_getD, Int.toNat_natCast, List.getElem?_eq_getElem hlt]; rfl
    have hl : ((xs.take i).map conv ++ List.replicate (d + 1) z37).length = xs.length := by
      rw [List.length_append, List.length_map, List.length_take, List.length_replicate]; omega
    refine Ev.step (fun k => ?_) (ih (i + 1) (by omega))
    rw [laws_toTokenS.l0, if_pos (by omega), if_pos (by omega), hr]
    unfold laws_toToken.f
    simp only [Option.bind_some]
    rw [if_pos (by omega), w64 (by omega) (by omega), Int.toNat_natCast]
    have e : ((xs.take i).map conv ++ List.replicate (d + 1) z37).set i ⟨xs[i].f0, xs[i].f1, xs[i].f2⟩ = (xs.take (i + 1)).map conv ++ List.replicate d z37 := by
      rw [List.take_succ_eq_append_getElem hlt, List.map_append, List.set_append_right _ _ (by rw [List.length_map, List.length_take]; omega), List.replicate_succ]
      rw [List.length_map, List.length_take, show i - min i xs.length = 0 from by omega]
      simp [conv]
    rw [e]
    rfl
theorem toTok_ev (xs : List S44) (hx : xs.length ≤ 1048576) : Ev (fun k => laws_toTokenS.f k xs) (xs.map conv) := by
  unfold laws_toTokenS.f
  refine ev_ite (fun _ => ?_) (fun h => absurd (by omega) h)
  refine ev_ite (fun _ => ?_) (fun h => absurd (by omega) h)
  have H := toTok_l0 xs hx xs.length 0 (by omega)
  rw [List.take_zero, List.map_nil, List.nil_append] at H
  rw [Int.toNat_natCast]
  exact H
end Aid
open Aid
open Go.Proofs.Ytnfeedalbfflhaa.Lz (text)
theorem pure (l : List S44) (hl : l.length ≤ 9223372036854775807) : ∃ k, laws_FnExactTokensLong.f k l = some true := by
  refine Ev.rounds (r := true) ?_
  unfold laws_FnExactTokensLong.f laws_szTokenS.f
  by_cases h : l.length ≤ 1048576
  · rw [w64 (x := 1048576 - (l.length : Int)) (by omega) (by omega), if_neg (by omega)]
    simp only [Option.bind_some]
    refine ev_ite (fun c => by omega) (fun _ => ?_)
    have e0 := toTok_ev l h
    have hlen : (l.map conv).length ≤ 1048576 := by rw [List.length_map]; exact h
    have e1 := stext_ev (l.map conv) (by omega)
    have e2 := ilong_ev (l.map conv) (by omega)
    have e3 := eqTokS_f (l.map conv) (by omega)
    refine Ev.bind e0 (Ev.bind (a := match text [] ((l.map conv).map of37) with | some o => (o.length : Int) | none => -1) ?_ (Ev.bind e0 (Ev.bind e2 ?_)))
    · unfold spec_TokensLong.f
      refine Ev.bind e1 ?_
      unfold toldS
      cases text [] ((l.map conv).map of37) with
      | none => simp only [Bool.false_eq_true, if_false]; exact Ev.now _
      | some o => simp only [if_true, ints_length]; exact Ev.now _
    · simp only [if_true]
      refine Ev.bind e0 (Ev.bind e3 ?_)
      simp only [if_true]
      exact Ev.now _
  · have hw : wrap64 (1048576 - (l.length : Int)) = 1048576 - (l.length : Int) := w64 (by omega) (by omega)
    rw [hw, if_pos (by omega)]
    simp only [Option.bind_some]
    exact ev_ite (fun _ => Ev.now _) (fun c => absurd (by omega) c)
theorem own : ownKnob Try.prog.godebug = none := by kernel_rfl
theorem laidOut : laidOutB Try.prog = true := by kernel_rfl
theorem cells44 : Try.prog.cellsOf 44 = 3 := by kernel_rfl
theorem cells3 : Try.prog.cellsOf 3 = 1 := by kernel_rfl
section
variable {H : Type} {enc : TypeId × Value → H} {w : World} {base : Nat} {spare : Nat → Bool} {held : Bool}
/-- A token's three cells. -/
theorem open_tok {n : Nat} {cs : List Value} {x : DataW H × List MemPlace} (hf : DataW.trod enc Try.prog w base spare held n 44 cs = some x) : ∃ t : S44, cs = [.int .i64 t.f0, .int .i64 t.f1, .int .i64 t.f2] := by
  obtain ⟨xs, m, _, _, hl, hx, hg⟩ := DataW.trod_struct Try.underlying44 hf
  rw [cells44] at hl
  have one : ∀ (i : Nat) (f : Field), i < 3 → f.type = 3 → f.offset = i → DataW.trod enc Try.prog w base spare held m f.type ((cs.drop f.offset).take (Try.prog.cellsOf f.type)) = xs[i]? → ∃ a : Int, cs[i]? = some (.int .i64 a) := by
    intro i f hi ht ho he
    have hlen : xs.length = 3 := hx
    rw [ht, ho, cells3, List.getElem?_eq_getElem (by omega)] at he
    obtain ⟨a, ha, _, _⟩ := DataW.trod_int Try.underlying3 he
    refine ⟨a, ?_⟩
    have h0 := congrArg (fun l => l[0]?) ha
    simpa using h0
  obtain ⟨a0, e0⟩ := one 0 _ (by omega) rfl rfl (hg 0 _ rfl)
  obtain ⟨a1, e1⟩ := one 1 _ (by omega) rfl rfl (hg 1 _ rfl)
  obtain ⟨a2, e2⟩ := one 2 _ (by omega) rfl rfl (hg 2 _ rfl)
  refine ⟨⟨a0, a1, a2⟩, ?_⟩
  match cs, hl with
  | [c0, c1, c2], _ =>
    simp at e0 e1 e2
    rw [e0, e1, e2]
theorem add_zero_base (a : Addr) (i j : Nat) : (a.add i).add j = a.add (i + j) := Go.Deep.add_add a i j
/-- A slice of tokens that reads as data reads as a list of tokens. -/
theorem open_toks {A : Option Addr} {len cap : Nat} {d : DataW H} {p : List MemPlace} (h : DataW.Trod enc Try.prog w base spare held 28 (.slice A len cap) d p) : ∃ l : List S44, l.length = len ∧ len ≤ cap ∧ cap ≤ maxLen ∧ Kd.C k44 w A l.length l := by
  obtain ⟨fuel, hf⟩ := h
  rcases Go.Deep.open_slice Try.underlying28 hf with ⟨hcs, _⟩ | ⟨a, len', cap', m, n, D, Pl, hcs, _, hl, hm, hmm, _, hi⟩
  · simp [Value.cells] at hcs
    obtain ⟨rfl, rfl, rfl⟩ := hcs
    exact ⟨[], rfl, Nat.le_refl _, by unfold maxLen; omega, ⟨rfl, by simp, fun h => by simp at h⟩⟩
  · simp [Value.cells] at hcs
    obtain ⟨rfl, rfl, rfl⟩ := hcs
    have hlm : len ≤ m := by rw [hmm]; split <;> omega
    have all : ∀ q, q ≤ len → ∃ l : List S44, l.length = q ∧ ∀ j t, l[j]? = some t → ∀ i u, [Value.int .i64 t.f0, .int .i64 t.f1, .int .i64 t.f2][i]? = some u → w.cell? (a.add (j * 3 + i)) = some u := by
      intro q
      induction q with
      | zero => intro _; exact ⟨[], rfl, fun j t h => by simp at h⟩
      | succ q ih =>
        intro hq
        obtain ⟨l, hl2, hc⟩ := ih (by omega)
        obtain ⟨cs', hcell, htr⟩ := hi q (by omega)
        obtain ⟨t, rfl⟩ := open_tok htr
        rw [cells44] at hcell
        obtain ⟨_, _, hat⟩ := World.cells?_some hcell
        refine ⟨l ++ [t], by rw [List.length_append, List.length_singleton, hl2], fun j t' hj i u hu => ?_⟩
        by_cases hjq : j < q
        · rw [List.getElem?_append_left (by omega)] at hj
          exact hc j t' hj i u hu
        · by_cases he : j = q
          · subst he
            rw [← hl2, List.getElem?_concat_length] at hj
            obtain rfl := Option.some.inj hj
            have hi3 : i < 3 := by
              rcases Nat.lt_or_ge i 3 with h | h
              · exact h
              · rw [List.getElem?_eq_none (by simp; omega)] at hu; cases hu
            have := hat i hi3
            rw [add_zero_base] at this
            rw [this, hu]
          · rw [List.getElem?_eq_none (by rw [List.length_append, List.length_singleton]; omega)] at hj
            cases hj
    obtain ⟨l, hl2, hc⟩ := all len (Nat.le_refl _)
    refine ⟨l, hl2, hl, hm, rfl, by rw [hl2]; unfold maxLen at hm; omega, fun _ => ⟨a, rfl, fun j t hj => ⟨[.int .i64 t.f0, .int .i64 t.f1, .int .i64 t.f2], rfl, ⟨[.int .i64 t.f0], [.int .i64 t.f1, .int .i64 t.f2], rfl, rfl, ⟨[.int .i64 t.f1], [.int .i64 t.f2], rfl, rfl, rfl⟩⟩, fun i u hu => hc j t hj i u hu⟩⟩⟩
end
set_option maxRecDepth 100000 in
theorem lifted (os : Os) (started : os.Started) (H : Type) (enc : TypeId × Value → H) :
    ReturnsInHanded {} Try.checked os 6 .any (Rows.fnExactTokensLongSpec.pre6 enc Try.prog Try.f6 Rows.fnExactTokensLongRow.domain false) (Rows.fnExactTokensLongSpec.post enc Try.prog Try.f6 false true false false) := by
  refine returnsInHanded_of_change_sized (C := Try.checked) own started (by kernel_rfl) Try.func6
    (ChangeSpec.witness6 (enc := enc) (C := Try.checked) false ⟨#[], #[.slice none 0 0], []⟩ 8 (by kernel_rfl) (by kernel_rfl) (by kernel_rfl) (by kernel_rfl)) ?_
  intro W base args ds gs before hval0 hW hcnd hsz0 _
  have hval : ∀ (j : Nat) t v, Try.f6.params[j]? = some t → args[j]? = some v → Value.okWide Try.prog W .any base t v := hval0
  have hW' := hW
  obtain ⟨p, q, hA0, hV, rfl, hfz, hnd⟩ := hW
  have hA : DataW.TrodAll enc Try.prog W 0 (fun _ => true) true Try.f6.params.toList args.toList ds p := hA0
  rw [Try.params6] at hA hval
  obtain ⟨v0, vs0, d0, ds0, p0, q0, hargs, rfl, rfl, h0, r0⟩ := trodAll_cons hA
  obtain ⟨rfl, rfl, rfl⟩ := trodAll_nil r0
  obtain rfl : args = #[v0] := by cases args; simp_all
  obtain ⟨rfl, rfl⟩ := trodVars_none hV
  obtain ⟨a0, len0, cap0, rfl⟩ := okWide_slice Try.underlying28 (hval 0 28 v0 rfl rfl)
  have k0 := h0
  have lt0 : ∀ x ∈ p0, x.block < W.heap.size := by obtain ⟨m, hm⟩ := k0; exact DataW.trod_lt m _ _ _ hm
  obtain ⟨l0, rfl, hlc, hcm, hC⟩ := open_toks h0
  clear hA0 hval0 hsz0
  obtain ⟨k, hk⟩ := pure l0 (by unfold maxLen at hcm; omega)
  refine (laws_FnExactTokensLong.calls k a0 cap0 l0 true W hC hlc hk).mono fun e W' ⟨he, bel⟩ => ?_
  subst he
  exact ⟨_, rfl, _, _, _, [], _, [], hW', trodAll_mk1 (shut_bool Try.underlying4 _), (trodAll_cons_mk (Below.trod laidOut (by kernel_rfl) (of_decide_eq_true (by kernel_rfl)) k0 bel lt0) trodAll_mk0), rfl, bel.frame _, fun h => by cases h⟩
theorem over : Rows.fnExactTokensLongRow.holds Try.pinned (OpenSpec.ofChange Rows.fnExactTokensLongSpec) :=
  OpenClaim.holds_of_wide 6 Try.f6 rfl rfl rfl rfl rfl rfl rfl ⟨rfl, rfl, rfl, rfl, rfl⟩ rfl rfl rfl rfl rfl (by kernel_rfl) Try.func6 (by kernel_rfl)
    (of_decide_eq_true (by kernel_rfl)) (by unfold Func.isWrapper; first | (rw [if_pos (by decide +kernel)]; kernel_rfl) | (rw [if_neg (by decide +kernel)]; exact ⟨rfl, rfl⟩))
    (fun os started H enc _ => lifted os started H enc)
theorem proved : Rows.FnExactTokensLongSaid := over
#print axioms proved
end Go.Proofs.Ytnfeedalbfflhaa.fnExactTokensLong
namespace Go.Proofs.Ytnfeedalbfflhaa
/-- The row, under a short name, for the claim. -/
theorem fnExactTokensLong_holds : Rows.FnExactTokensLongSaid := fnExactTokensLong.proved
end Go.Proofs.Ytnfeedalbfflhaa
