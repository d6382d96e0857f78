/- The plain law behind the statement FnExactTokensOf: what its walk computes is true at every input. -/
import Derived.Test.YtnfeedalbfflhaaPFnExactTokensOfx3
import Derived.Laws.BitsLemmas
import Derived.Test.YtnfeedalbfflhaaLz
namespace Go.Proofs.Ytnfeedalbfflhaa.Pure
open Go.RowKit Go.Proofs.Ytnfeedalbfflhaa.PFnExactTokensOf Go.Proofs.YtnfeedalbfflhaaW.PrintWords Go.Proofs.YtnfeedalbfflhaaW.PrintLast Go.Proofs.YtnfeedalbfflhaaW.PrintMore
set_option linter.unusedVariables false
set_option linter.unusedSimpArgs false
namespace FnExactTokensOfAid
theorem w64 {x : Int} (h1 : -9223372036854775808 ≤ x) (h2 : x < 9223372036854775808) : wrap64 x = x := by unfold wrap64; omega
theorem wr_i64 (n : Int) (h₀ : 0 ≤ n) (h₁ : n < 2 ^ 63) : IntKind.i64.wrap n = n := by rw [IntKind.wrap_i64]; omega
theorem and_mask (i : Nat) (hi : i ≤ 63) {x m : Int} (hm : m = 2 ^ i - 1) (h0 : 0 ≤ x) (h1 : x < 9223372036854775808) : Go.bits .and .i64 x m = x % 2 ^ i := by
  subst hm
  exact bits_mask .i64 63 (by decide) wr_i64 i hi x h0 (by omega)
theorem or_add (i : Nat) {x y : Int} (h0 : 0 ≤ x) (hx : x % 2 ^ i = 0) (h1 : x < 9223372036854775808) (y0 : 0 ≤ y) (y1 : y < 2 ^ i) (y2 : y < 9223372036854775808) : Go.bits .or .i64 x y = x + y :=
  bits_join .i64 63 (by decide) wr_i64 i x y h0 hx (by omega) y0 y1 (by omega)
theorem or_comm (x y : Int) : Go.bits .or .i64 x y = Go.bits .or .i64 y x := by
  simp only [Go.bits]; rw [BitVec.or_comm]
theorem or_lo (i : Nat) {x y : Int} (x0 : 0 ≤ x) (x1 : x < 2 ^ i) (x2 : x < 9223372036854775808) (h0 : 0 ≤ y) (hy : y % 2 ^ i = 0) (h1 : y < 9223372036854775808) : Go.bits .or .i64 x y = x + y := by
  rw [or_comm, or_add i h0 hy h1 x0 x1 x2]; omega
open Go.Proofs.Ytnfeedalbfflhaa.Lz (Tok run mlen best toks tokens copy add text mlen_le best_le_60 tokens_length)
def ints (l : List Nat) : List Int := l.map (fun n : Nat => (n : Int))
theorem ints_length (l : List Nat) : (ints l).length = l.length := by simp [ints]
theorem rd_ints (l : List Nat) {i : Int} (h : i.toNat < l.length) : rd (ints l) i = (l.getD i.toNat 0 : Nat) := by
  unfold rd ints
  rw [List.getD_eq_getElem?_getD, List.getD_eq_getElem?_getD, List.getElem?_map, List.getElem?_eq_getElem h]
  rfl
theorem ints_append (a b : List Nat) : ints (a ++ b) = ints a ++ ints b := by simp [ints]
def chars (s : ByteArray) : List Nat := s.data.toList.map fun b => b.toNat
theorem chars_length (s : ByteArray) : (chars s).length = s.size := by unfold chars; rw [List.length_map, Array.length_toList]; rfl
theorem chars_lt (s : ByteArray) : ∀ x ∈ chars s, x < 256 := by
  intro x hx
  unfold chars at hx
  obtain ⟨b, _, rfl⟩ := List.mem_map.1 hx
  exact b.toNat_lt
theorem bt_chars (s : ByteArray) {i : Int} (h : i.toNat < s.size) : bt s i = ((chars s).getD i.toNat 0 : Nat) := by
  unfold bt chars
  rw [dif_pos h, List.getD_eq_getElem?_getD, List.getElem?_map, List.getElem?_eq_getElem (by rw [Array.length_toList]; exact h)]
  rfl
theorem chars_ext {s s' : ByteArray} (h : chars s = chars s') : s = s' := by
  have : s.data.toList = s'.data.toList := by
    unfold chars at h
    exact (List.map_inj_right (fun a b e => UInt8.toNat_inj.1 e)).1 h
  cases s; cases s'; simp_all
def tok37 (t : Tok) : S37 := ⟨t.byte, t.long, t.back⟩
theorem same_iff (s : ByteArray) {p q : Nat} (hp : p < s.size) (hq : q < s.size) : (bt s (p : Int) = bt s (q : Int)) ↔ ((chars s)[p]? = (chars s)[q]?) := by
  rw [bt_chars s (i := p) (by omega), bt_chars s (i := q) (by omega)]
  simp only [Int.toNat_natCast]
  rw [List.getD_eq_getElem?_getD, List.getD_eq_getElem?_getD, List.getElem?_eq_getElem (by rw [chars_length]; exact hp), List.getElem?_eq_getElem (by rw [chars_length]; exact hq)]
  simp only [Option.getD_some, Option.some.injEq]
  omega
theorem ev_ite {α : Type} {c : Prop} [Decidable c] {g f : Nat → Option α} {r : α} (h1 : c → Ev g r) (h2 : ¬ c → Ev f r) : Ev (fun k => if c then g k else f k) r := by
  by_cases h : c
  · exact Ev.congr (fun k => by rw [if_pos h]) (h1 h)
  · exact Ev.congr (fun k => by rw [if_neg h]) (h2 h)
theorem impl_l2 (s : ByteArray) (hs : s.size ≤ 300) {a back : Nat} (h1 : 1 ≤ back) (h2 : back ≤ a) (ha : a < s.size) (acc : List S37) (b l f : Int) (r : List S37)
    (H : Ev (fun k => if (3 : Int) ≤ (mlen (chars s) a back : Nat) ∧ l < (mlen (chars s) a back : Nat) then impl_TokensOf.l1 k s acc a ((back : Int) + 1) 0 (mlen (chars s) a back : Nat) back else impl_TokensOf.l1 k s acc a ((back : Int) + 1) b l f) r) :
    ∀ (d n : Nat), n + d = 60 → n + run (chars s) (a + n) (a + n - back) d = mlen (chars s) a back → Ev (fun k => impl_TokensOf.l2 k s acc a back n b l f) r := by
  have fin : ∀ n : Nat, n = mlen (chars s) a back → ∀ k, (if (n : Int) ≥ 3 then (if (n : Int) > l then (impl_TokensOf.l1 k s acc a (wrap64 ((back : Int) + 1)) 0 n back) else (impl_TokensOf.l1 k s acc a (wrap64 ((back : Int) + 1)) b l f)) else (impl_TokensOf.l1 k s acc a (wrap64 ((back : Int) + 1)) b l f)) = (if (3 : Int) ≤ (mlen (chars s) a back : Nat) ∧ l < (mlen (chars s) a back : Nat) then impl_TokensOf.l1 k s acc a ((back : Int) + 1) 0 (mlen (chars s) a back : Nat) back else impl_TokensOf.l1 k s acc a ((back : Int) + 1) b l f) := by
    intro n hn k
    subst hn
    rw [w64 (by omega) (by omega)]
    by_cases c1 : ((mlen (chars s) a back : Nat) : Int) ≥ 3
    · by_cases c2 : ((mlen (chars s) a back : Nat) : Int) > l
      · rw [if_pos c1, if_pos c2, if_pos ⟨c1, c2⟩]
      · rw [if_pos c1, if_neg c2, if_neg (fun h => c2 h.2)]
    · rw [if_neg c1, if_neg (fun h => c1 h.1)]
  intro d
  induction d with
  | zero =>
    intro n hn hm
    refine Ev.step (fun k => ?_) H
    rw [impl_TokensOf.l2, if_neg (by omega)]
    exact fin n (by simpa [run] using hm) k
  | succ d ih =>
    intro n hn hm
    simp only [run] at hm
    rw [chars_length] at hm
    by_cases hc : a + n < s.size ∧ (chars s)[a + n]? = (chars s)[a + n - back]?
    · rw [if_pos hc] at hm
      refine Ev.step (fun k => ?_) (ih (n + 1) (by omega) (by rw [show a + (n + 1) = a + n + 1 from by omega, show a + n + 1 - back = a + n - back + 1 from by omega]; omega))
      rw [impl_TokensOf.l2, if_pos (by omega), w64 (x := (a : Int) + n) (by omega) (by omega), if_pos (by omega), if_pos (by omega), w64 (x := (a : Int) + n - back) (by omega) (by omega), if_pos (by omega), if_pos (by omega)]
      rw [show (a : Int) + n = ((a + n : Nat) : Int) from by omega, show ((a + n : Nat) : Int) - back = ((a + n - back : Nat) : Int) from by omega]
      rw [if_pos ((same_iff s (by omega) (by omega)).2 hc.2), w64 (x := (n : Int) + 1) (by omega) (by omega)]
      rfl
    · rw [if_neg hc] at hm
      refine Ev.step (fun k => ?_) H
      rw [impl_TokensOf.l2, if_pos (by omega), w64 (x := (a : Int) + n) (by omega) (by omega)]
      by_cases hlt : a + n < s.size
      · rw [if_pos (by omega), if_pos (by omega), w64 (x := (a : Int) + n - back) (by omega) (by omega), if_pos (by omega), if_pos (by omega)]
        rw [show (a : Int) + n = ((a + n : Nat) : Int) from by omega, show ((a + n : Nat) : Int) - back = ((a + n - back : Nat) : Int) from by omega]
        rw [if_neg (fun h => hc ⟨hlt, (same_iff s (by omega) (by omega)).1 h⟩)]
        exact fin n (by omega) k
      · rw [if_neg (by omega)]
        exact fin n (by omega) k
/-- What the program holds behind j distances. -/
def held (t : List Nat) (a j : Nat) : Int × Int × Int := if 3 ≤ (best t a j).1 then (0, ((best t a j).1 : Nat), ((best t a j).2 : Nat)) else ((t.getD a 0 : Nat), 0, 0)
theorem held_step (t : List Nat) (a j : Nat) : held t a (j + 1) = if (3 : Int) ≤ (mlen t a (j + 1) : Nat) ∧ (held t a j).2.1 < (mlen t a (j + 1) : Nat) then (0, ((mlen t a (j + 1) : Nat) : Int), ((j + 1 : Nat) : Int)) else held t a j := by
  by_cases hn : mlen t a (j + 1) > (best t a j).1
  · have e : best t a (j + 1) = (mlen t a (j + 1), j + 1) := by simp only [best]; rw [if_pos hn]
    unfold held
    rw [e]
    dsimp only
    by_cases h3 : 3 ≤ (best t a j).1
    · rw [if_pos h3, if_pos (by omega)]
      dsimp only
      rw [if_pos (by omega)]
    · rw [if_neg h3]
      dsimp only
      by_cases h : 3 ≤ mlen t a (j + 1)
      · rw [if_pos h, if_pos (by omega)]
      · rw [if_neg h, if_neg (by omega)]
  · have e : best t a (j + 1) = best t a j := by simp only [best]; rw [if_neg hn]
    unfold held
    rw [e]
    by_cases h3 : 3 ≤ (best t a j).1
    · rw [if_pos h3]
      dsimp only
      rw [if_neg (by omega)]
    · rw [if_neg h3]
      dsimp only
      rw [if_neg (by omega)]
theorem impl_l1 (s : ByteArray) (hs : s.size ≤ 300) {a : Nat} (ha : a < s.size) (acc : List S37) (hacc : acc.length ≤ a) (r : List S37)
    (H : Ev (fun k => impl_TokensOf.l0 k s (acc ++ [(⟨(held (chars s) a (min 250 a)).1, (held (chars s) a (min 250 a)).2.1, (held (chars s) a (min 250 a)).2.2⟩ : S37)]) ((a : Int) + mx (held (chars s) a (min 250 a)).2.1 1)) r) :
    ∀ (d j : Nat), j + d = min 250 a → Ev (fun k => impl_TokensOf.l1 k s acc a ((j : Int) + 1) (held (chars s) a j).1 (held (chars s) a j).2.1 (held (chars s) a j).2.2) r := by
  have hmn : mn 250 (a : Int) = ((min 250 a : Nat) : Int) := by unfold mn; split <;> omega
  intro d
  induction d with
  | zero =>
    intro j hj
    obtain rfl : j = min 250 a := by omega
    refine Ev.step (fun k => ?_) H
    rw [impl_TokensOf.l1, hmn, if_neg (by omega), if_pos (by omega)]
    have hb := best_le_60 (chars s) a (min 250 a)
    have h1 : 1 ≤ mx (held (chars s) a (min 250 a)).2.1 1 ∧ mx (held (chars s) a (min 250 a)).2.1 1 ≤ 60 := by
      unfold mx held
      by_cases c : 3 ≤ (best (chars s) a (min 250 a)).1
      · rw [if_pos c]; dsimp only; split <;> omega
      · rw [if_neg c]; dsimp only; split <;> omega
    rw [w64 (by omega) (by omega)]
  | succ d ih =>
    intro j hj
    have hm := mlen_le (chars s) a (j + 1)
    have e := impl_l2 s hs (a := a) (back := j + 1) (by omega) (by omega) ha acc (held (chars s) a j).1 (held (chars s) a j).2.1 (held (chars s) a j).2.2 r ?_ 60 0 rfl (by simp [mlen])
    · refine Ev.step (fun k => ?_) e
      rw [impl_TokensOf.l1, hmn, if_pos (by omega)]
      rfl
    · have ih' := ih (j + 1) (by omega)
      rw [held_step] at ih'
      refine ev_ite (fun c => ?_) (fun c => ?_)
      · rw [if_pos c] at ih'
        exact ih'
      · rw [if_neg c] at ih'
        exact ih'
theorem impl_l0 (s : ByteArray) (hs : s.size ≤ 300) : ∀ (f a : Nat) (acc : List S37), s.size - a ≤ f → acc.length ≤ a → Ev (fun k => impl_TokensOf.l0 k s acc a) (acc ++ (toks (chars s) f a).map tok37) := by
  intro f
  induction f with
  | zero =>
    intro a acc hf hacc
    refine Ev.step (f := fun _ => some acc) (fun k => ?_) ?_
    · rw [impl_TokensOf.l0, if_neg (by omega)]
    · simp only [toks, List.map_nil, List.append_nil]; exact Ev.now _
  | succ f ih =>
    intro a acc hf hacc
    by_cases ha : a < s.size
    · have H := ih (a + (if (best (chars s) a (min 250 a)).1 < 3 then 1 else (best (chars s) a (min 250 a)).1)) (acc ++ [(⟨(held (chars s) a (min 250 a)).1, (held (chars s) a (min 250 a)).2.1, (held (chars s) a (min 250 a)).2.2⟩ : S37)]) (by split <;> omega) (by rw [List.length_append, List.length_singleton]; split <;> omega)
      have e := impl_l1 s hs ha acc hacc (acc ++ (toks (chars s) (f + 1) a).map tok37) ?_ (min 250 a) 0 (by omega)
      · refine Ev.step (fun k => ?_) e
        rw [impl_TokensOf.l0, if_pos (by omega), if_pos (by omega)]
        have hb : bt s (a : Int) = ((chars s).getD a 0 : Nat) := by rw [bt_chars s (by omega)]; rfl
        have hr := bt_range s (a : Int)
        rw [w64 (by omega) (by omega), hb]
        rfl
      · have er : acc ++ (toks (chars s) (f + 1) a).map tok37 = (acc ++ [(⟨(held (chars s) a (min 250 a)).1, (held (chars s) a (min 250 a)).2.1, (held (chars s) a (min 250 a)).2.2⟩ : S37)]) ++ (toks (chars s) f (a + (if (best (chars s) a (min 250 a)).1 < 3 then 1 else (best (chars s) a (min 250 a)).1))).map tok37 := by
          simp only [toks]
          rw [if_pos (by rw [chars_length]; exact ha)]
          unfold held
          by_cases c : (best (chars s) a (min 250 a)).1 < 3
          · rw [if_pos c, if_pos c, if_neg (by omega)]; simp [tok37]
          · rw [if_neg c, if_neg c, if_pos (by omega)]; simp [tok37]
        rw [er]
        refine Ev.congr (fun k => ?_) H
        congr 1
        unfold mx held
        by_cases c : (best (chars s) a (min 250 a)).1 < 3
        · rw [if_neg (show ¬ 3 ≤ (best (chars s) a (min 250 a)).1 by omega), if_pos c]; dsimp only; rw [if_pos (by omega)]; omega
        · rw [if_pos (show 3 ≤ (best (chars s) a (min 250 a)).1 by omega), if_neg c]; dsimp only; rw [if_neg (by omega)]; omega
    · refine Ev.step (f := fun _ => some acc) (fun k => ?_) ?_
      · rw [impl_TokensOf.l0, if_neg (by omega)]
      · simp only [toks]; rw [if_neg (by rw [chars_length]; exact ha)]; simp only [List.map_nil, List.append_nil]; exact Ev.now _
def toksOf (s : ByteArray) : List S37 := if s.size ≤ 300 then (tokens (chars s)).map tok37 else []
theorem impl_of (s : ByteArray) : Ev (fun k => impl_TokensOf.f k s) (toksOf s) := by
  unfold impl_TokensOf.f toksOf
  by_cases h : s.size ≤ 300
  · rw [if_pos h]
    have e := impl_l0 s h s.size 0 [] (by omega) (by simp)
    have et : tokens (chars s) = toks (chars s) s.size 0 := by unfold tokens; rw [chars_length]
    rw [List.nil_append, ← et] at e
    refine Ev.congr (fun k => ?_) e
    simp only [Option.bind_some]
    rw [if_neg (by omega)]
    rfl
  · rw [if_neg h]
    refine Ev.congr (f := fun _ => some []) (fun k => ?_) (Ev.now _)
    simp only [Option.bind_some]
    rw [if_pos (by omega)]
theorem spec_again (s : ByteArray) (hs : s.size ≤ 300) {a back : Nat} (h1 : 1 ≤ back) (h2 : back ≤ a) (ha : a < s.size) :
    ∀ (d n : Nat), n + d = 60 → n + run (chars s) (a + n) (a + n - back) d = mlen (chars s) a back → Ev (fun k => spec_l4Again.l0 k s a back n) ((mlen (chars s) a back : Nat) : Int) := by
  intro d
  induction d with
  | zero =>
    intro n hn hm
    have hm' : n = mlen (chars s) a back := by simpa [run] using hm
    refine Ev.step (f := fun _ => some ((mlen (chars s) a back : Nat) : Int)) (fun k => ?_) (Ev.now _)
    rw [spec_l4Again.l0, w64 (x := (a : Int) + n) (by omega) (by omega)]
    by_cases hlt : a + n < s.size
    · rw [if_pos (by omega), if_neg (by omega), hm']
    · rw [if_neg (by omega), hm']
  | succ d ih =>
    intro n hn hm
    simp only [run] at hm
    rw [chars_length] at hm
    by_cases hc : a + n < s.size ∧ (chars s)[a + n]? = (chars s)[a + n - back]?
    · rw [if_pos hc] at hm
      refine Ev.step (fun k => ?_) (ih (n + 1) (by omega) (by rw [show a + (n + 1) = a + n + 1 from by omega, show a + n + 1 - back = a + n - back + 1 from by omega]; omega))
      rw [spec_l4Again.l0, w64 (x := (a : Int) + n) (by omega) (by omega), if_pos (by omega), if_pos (by omega), if_pos (by omega), w64 (x := (a : Int) + n - back) (by omega) (by omega), if_pos (by omega), if_pos (by omega)]
      rw [show (a : Int) + n = ((a + n : Nat) : Int) from by omega, show ((a + n : Nat) : Int) - back = ((a + n - back : Nat) : Int) from by omega]
      rw [if_pos ((same_iff s (by omega) (by omega)).2 hc.2), w64 (x := (n : Int) + 1) (by omega) (by omega)]
      rfl
    · rw [if_neg hc] at hm
      have hm' : n = mlen (chars s) a back := by omega
      refine Ev.step (f := fun _ => some ((mlen (chars s) a back : Nat) : Int)) (fun k => ?_) (Ev.now _)
      rw [spec_l4Again.l0, w64 (x := (a : Int) + n) (by omega) (by omega)]
      by_cases hlt : a + n < s.size
      · rw [if_pos (by omega), if_pos (by omega), if_pos (by omega), w64 (x := (a : Int) + n - back) (by omega) (by omega), if_pos (by omega), if_pos (by omega)]
        rw [show (a : Int) + n = ((a + n : Nat) : Int) from by omega, show ((a + n : Nat) : Int) - back = ((a + n - back : Nat) : Int) from by omega]
        rw [if_neg (fun h => hc ⟨hlt, (same_iff s (by omega) (by omega)).1 h⟩), hm']
      · rw [if_neg (by omega), hm']
theorem spec_l1 (s : ByteArray) (hs : s.size ≤ 300) {a : Nat} (ha : a < s.size) (acc : List S37) (hacc : acc.length ≤ a) (r : List S37)
    (H : Ev (fun k => if (best (chars s) a (min 250 a)).1 < 3 then spec_l4Tokens.l0 k s (acc ++ [(⟨((chars s).getD a 0 : Nat), 0, 0⟩ : S37)]) ((a : Int) + 1) else spec_l4Tokens.l0 k s (acc ++ [(⟨0, ((best (chars s) a (min 250 a)).1 : Nat), ((best (chars s) a (min 250 a)).2 : Nat)⟩ : S37)]) ((a : Int) + ((best (chars s) a (min 250 a)).1 : Nat))) r) :
    ∀ (d j : Nat), j + d = min 250 a → Ev (fun k => spec_l4Tokens.l1 k s acc a ((best (chars s) a j).1 : Nat) ((best (chars s) a j).2 : Nat) ((j : Int) + 1)) r := by
  intro d
  induction d with
  | zero =>
    intro j hj
    obtain rfl : j = min 250 a := by omega
    have hb := best_le_60 (chars s) a (min 250 a)
    have H2 : Ev (fun k => spec_l4Tokens.j2 k s acc a ((best (chars s) a (min 250 a)).1 : Nat) ((best (chars s) a (min 250 a)).2 : Nat) ((min 250 a : Nat) + 1) false) r := by
      refine Ev.step (fun k => ?_) H
      rw [spec_l4Tokens.j2, if_neg (by decide)]
      have hbt : bt s (a : Int) = ((chars s).getD a 0 : Nat) := by rw [bt_chars s (by omega)]; rfl
      have hr := bt_range s (a : Int)
      by_cases c : (best (chars s) a (min 250 a)).1 < 3
      · rw [if_pos c, if_pos (by omega), if_pos (by omega), if_pos (by omega), if_pos (by omega), w64 (x := bt s (a : Int)) (by omega) (by omega), hbt, w64 (by omega) (by omega)]
      · rw [if_neg c, if_neg (by omega), if_pos (by omega), w64 (by omega) (by omega)]
    refine Ev.step (fun k => ?_) H2
    rw [spec_l4Tokens.l1]
    by_cases c : ((min 250 a : Nat) : Int) + 1 ≤ 250
    · rw [if_pos c, show decide (((min 250 a : Nat) : Int) + 1 ≤ (a : Int)) = false from by simp; omega]
    · rw [if_neg c]
  | succ d ih =>
    intro j hj
    have hm := mlen_le (chars s) a (j + 1)
    have ih' := ih (j + 1) (by omega)
    have e := spec_again s hs (a := a) (back := j + 1) (by omega) (by omega) ha 60 0 rfl (by simp [mlen])
    have H2 : Ev (fun k => spec_l4Tokens.j2 k s acc a ((best (chars s) a j).1 : Nat) ((best (chars s) a j).2 : Nat) ((j : Int) + 1) true) r := by
      have e2 := Ev.bind (f := fun k t111 => if t111 > (((best (chars s) a j).1 : Nat) : Int) then (spec_l4Tokens.l1 k s acc a t111 ((j : Int) + 1) (wrap64 ((j : Int) + 1 + 1))) else (spec_l4Tokens.l1 k s acc a ((best (chars s) a j).1 : Nat) ((best (chars s) a j).2 : Nat) (wrap64 ((j : Int) + 1 + 1)))) e (r := r) ?_
      · refine Ev.step (fun k => ?_) e2
        rw [spec_l4Tokens.j2, if_pos rfl]
        rfl
      · simp only [best] at ih'
        rw [w64 (by omega) (by omega)]
        refine ev_ite (fun c => ?_) (fun c => ?_)
        · rw [if_pos (by omega)] at ih'
          exact ih'
        · rw [if_neg (by omega)] at ih'
          exact ih'
    refine Ev.step (fun k => ?_) H2
    rw [spec_l4Tokens.l1, if_pos (by omega), show decide ((j : Int) + 1 ≤ (a : Int)) = true from by simp; omega]
theorem spec_l0 (s : ByteArray) (hs : s.size ≤ 300) : ∀ (f a : Nat) (acc : List S37), s.size - a ≤ f → acc.length ≤ a → Ev (fun k => spec_l4Tokens.l0 k s acc a) (acc ++ (toks (chars s) f a).map tok37) := by
  intro f
  induction f with
  | zero =>
    intro a acc hf hacc
    refine Ev.step (f := fun _ => some acc) (fun k => ?_) ?_
    · rw [spec_l4Tokens.l0, if_neg (by omega)]
    · simp only [toks, List.map_nil, List.append_nil]; exact Ev.now _
  | succ f ih =>
    intro a acc hf hacc
    by_cases ha : a < s.size
    · have e := spec_l1 s hs ha acc hacc (acc ++ (toks (chars s) (f + 1) a).map tok37) ?_ (min 250 a) 0 (by omega)
      · refine Ev.step (fun k => ?_) e
        rw [spec_l4Tokens.l0, if_pos (by omega)]
        rfl
      · simp only [toks]
        rw [if_pos (by rw [chars_length]; exact ha)]
        refine ev_ite (fun c => ?_) (fun c => ?_)
        · rw [if_pos c]
          have H := ih (a + 1) (acc ++ [(⟨((chars s).getD a 0 : Nat), 0, 0⟩ : S37)]) (by omega) (by rw [List.length_append, List.length_singleton]; omega)
          rw [List.append_assoc] at H
          exact H
        · rw [if_neg c]
          have H := ih (a + (best (chars s) a (min 250 a)).1) (acc ++ [(⟨0, ((best (chars s) a (min 250 a)).1 : Nat), ((best (chars s) a (min 250 a)).2 : Nat)⟩ : S37)]) (by omega) (by rw [List.length_append, List.length_singleton]; omega)
          rw [List.append_assoc] at H
          refine Ev.congr (fun k => ?_) H
          congr 1
    · refine Ev.step (f := fun _ => some acc) (fun k => ?_) ?_
      · rw [spec_l4Tokens.l0, if_neg (by omega)]
      · simp only [toks]; rw [if_neg (by rw [chars_length]; exact ha)]; simp only [List.map_nil, List.append_nil]; exact Ev.now _
theorem spec_of (s : ByteArray) : Ev (fun k => spec_TokensOf.f k s) (toksOf s) := by
  unfold spec_TokensOf.f toksOf spec_l4Tokens.f
  by_cases h : s.size ≤ 300
  · rw [if_pos h]
    have e := spec_l0 s h s.size 0 [] (by omega) (by simp)
    have et : tokens (chars s) = toks (chars s) s.size 0 := by unfold tokens; rw [chars_length]
    rw [List.nil_append, ← et] at e
    refine Ev.congr (fun k => ?_) e
    rw [if_neg (by omega)]
    cases spec_l4Tokens.l0 k s [] ((0 : Nat) : Int) <;> rfl
  · rw [if_neg h]
    refine Ev.congr (f := fun _ => some []) (fun k => ?_) (Ev.now _)
    rw [if_pos (by omega)]
theorem eqTok (t : S37) : laws_eqToken.f t.f0 t.f1 t.f2 t.f0 t.f1 t.f2 = some true := by
  unfold laws_eqToken.f
  simp
theorem eqTokS (xs : List S37) (hm : xs.length ≤ 1000000000) : ∀ (d i : Nat), i + d = xs.length → Ev (fun k => laws_eqTokenS.l0 k xs xs i) true := by
  intro d
  induction d with
  | zero =>
    intro i hi
    refine Ev.step (f := fun _ => some true) (fun k => ?_) (Ev.now _)
    rw [laws_eqTokenS.l0, if_neg (by omega)]
  | succ d ih =>
    intro i hi
    refine Ev.step (fun k => ?_) (ih (i + 1) (by omega))
    rw [laws_eqTokenS.l0, if_pos (by omega), if_pos (by omega), if_pos (by omega), eqTok]
    simp only [Option.bind_some, if_true]
    rw [w64 (by omega) (by omega)]
    rfl
theorem eqTokS_f (xs : List S37) (hm : xs.length ≤ 1000000000) : Ev (fun k => laws_eqTokenS.f k xs xs) true := by
  unfold laws_eqTokenS.f
  refine Ev.congr (fun k => ?_) (eqTokS xs hm xs.length 0 (by omega))
  rw [if_pos rfl]
  rfl
def marks (m : Int) : Nat → List S37
  | 0 => []
  | n + 1 => ⟨m, m + 1, m + 2⟩ :: marks (m + 3) n
theorem marks_length : ∀ (n : Nat) (m : Int), (marks m n).length = n
  | 0, _ => rfl
  | n + 1, m => by simp [marks, marks_length n]
theorem rd_set (xs : List S37) (i : Nat) (v : S37) (h : i < xs.length) : rd_T37 (xs.set i v) i = v := by
  unfold rd_T37
  rw [List.getD_eq_getElem?_getD, Int.toNat_natCast, List.getElem?_set_self h]
  rfl
theorem mark_ev : ∀ (d i : Nat) (xs : List S37) (m : Int), i + d = xs.length → xs.length ≤ 1000000 → 0 ≤ m → m + 3 * d ≤ 100000000 → Ev (fun k => laws_markTokenS.l0 k xs m i) (m + 3 * d, xs.take i ++ marks m d) := by
  intro d
  induction d with
  | zero =>
    intro i xs m hi hl h0 hm
    refine Ev.step (f := fun _ => some (m + 3 * (0 : Nat), xs.take i ++ marks m 0)) (fun k => ?_) (Ev.now _)
    rw [laws_markTokenS.l0, if_neg (by omega), List.take_of_length_le (by omega)]
    simp [marks]
  | succ d ih =>
    intro i xs m hi hl h0 hm
    have hlt : i < xs.length := by omega
    have H := ih (i + 1) (xs.set i ⟨m, m + 1, m + 2⟩) (m + 3) (by rw [List.length_set]; omega) (by rw [List.length_set]; omega) (by omega) (by omega)
    have er : (xs.set i ⟨m, m + 1, m + 2⟩).take (i + 1) ++ marks (m + 3) d = xs.take i ++ marks m (d + 1) := by
      rw [List.take_set, List.take_succ_eq_append_getElem hlt]
      simp only [marks]
      rw [List.set_append_right _ _ (by simp; omega)]
      simp [List.length_take, Nat.min_eq_left (Nat.le_of_lt hlt)]
    rw [er, show m + 3 + 3 * (d : Int) = m + 3 * ((d + 1 : Nat) : Int) from by omega] at H
    refine Ev.step (fun k => ?_) H
    rw [laws_markTokenS.l0, if_pos (by omega), if_pos (by omega)]
    simp only [Option.bind_some, Int.toNat_natCast]
    rw [rd_set _ _ _ hlt]
    rw [w64 (x := m + 1) (by omega) (by omega), w64 (x := m + 1 + 1) (by omega) (by omega), w64 (x := m + 1 + 1 + 1) (by omega) (by omega), w64 (x := (i : Int) + 1) (by omega) (by omega)]
    rw [rd_set _ _ _ (by rw [List.length_set]; exact hlt)]
    simp only [List.set_set]
    rw [show m + 1 + 1 + 1 = m + 3 from by omega, show m + 1 + 1 = m + 2 from by omega]
    rfl
theorem rd_mid (pre : List S37) (v : S37) (post : List S37) : rd_T37 (pre ++ v :: post) (pre.length : Int) = v := by
  unfold rd_T37
  rw [List.getD_eq_getElem?_getD, Int.toNat_natCast, List.getElem?_append_right (Nat.le_refl _), Nat.sub_self]
  rfl
theorem held_ev : ∀ (d : Nat) (pre : List S37) (m : Int), pre.length + d ≤ 1000000 → 0 ≤ m → m + 3 * d ≤ 100000000 → Ev (fun k => laws_heldTokenS.l0 k (pre ++ marks m d) m pre.length) (m + 3 * d) := by
  intro d
  induction d with
  | zero =>
    intro pre m hl h0 hm
    refine Ev.step (f := fun _ => some (m + 3 * (0 : Nat))) (fun k => ?_) (Ev.now _)
    rw [laws_heldTokenS.l0, if_neg (by simp [marks])]
    simp
  | succ d ih =>
    intro pre m hl h0 hm
    have H := ih (pre ++ [⟨m, m + 1, m + 2⟩]) (m + 3) (by rw [List.length_append, List.length_singleton]; omega) (by omega) (by omega)
    rw [show m + 3 + 3 * (d : Int) = m + 3 * ((d + 1 : Nat) : Int) from by omega, List.append_assoc, List.length_append, List.length_singleton] at H
    refine Ev.step (fun k => ?_) H
    simp only [marks]
    rw [laws_heldTokenS.l0, if_pos (by rw [List.length_append, List.length_cons]; omega), if_pos (by omega), rd_mid]
    dsimp only
    rw [w64 (x := m + 1) (by omega) (by omega), w64 (x := m + 1 + 1) (by omega) (by omega), w64 (x := m + 1 + 1 + 1) (by omega) (by omega), w64 (x := (pre.length : Int) + 1) (by omega) (by omega)]
    rw [if_pos rfl, if_pos rfl, if_pos (by omega), show m + 1 + 1 + 1 = m + 3 from by omega]
    rfl
end FnExactTokensOfAid
open FnExactTokensOfAid
open Go.Proofs.Ytnfeedalbfflhaa.Lz (Tok run mlen best toks tokens copy add text mlen_le best_le_60 tokens_length)
theorem toksOf_length (s : ByteArray) : (toksOf s).length ≤ 300 := by
  unfold toksOf
  by_cases h : s.size ≤ 300
  · rw [if_pos h, List.length_map]
    have := tokens_length (chars s)
    rw [chars_length] at this
    omega
  · rw [if_neg h]; simp
theorem FnExactTokensOf : laws_FnExactTokensOf.Pure := by
  intro s _
  have hl := toksOf_length s
  have e1 := spec_of s
  have e2 := impl_of s
  have e3 := eqTokS_f (toksOf s) (by omega)
  have e4 := mark_ev (toksOf s).length 0 (toksOf s) 1 (by omega) (by omega) (by omega) (by omega)
  have e5 := held_ev (toksOf s).length [] 1 (by simp; omega) (by omega) (by omega)
  rw [List.take_zero, List.nil_append] at e4
  rw [List.nil_append] at e5
  refine Ev.rounds (r := true) ?_
  unfold laws_FnExactTokensOf.f
  refine ev_ite (fun _ => Ev.now _) (fun _ => ?_)
  refine Ev.bind e1 (Ev.bind e2 (Ev.bind e3 ?_))
  simp only [if_true]
  refine Ev.bind (a := (1 + 3 * ((toksOf s).length : Int), marks 1 (toksOf s).length)) ?_ ?_
  · exact Ev.congr (fun k => by unfold laws_markTokenS.f; rfl) e4
  refine Ev.bind (a := 1 + 3 * ((toksOf s).length : Int)) ?_ ?_
  · exact Ev.congr (fun k => by unfold laws_heldTokenS.f; rfl) e5
  refine ev_ite (fun c => by omega) (fun _ => ?_)
  refine ev_ite (fun _ => ?_) (fun c => absurd rfl c)
  refine Ev.bind e2 (Ev.bind e3 ?_)
  simp only [if_true]
  refine Ev.bind (a := 1 + 3 * ((toksOf s).length : Int)) ?_ ?_
  · exact Ev.congr (fun k => by unfold laws_heldTokenS.f; rfl) e5
  refine ev_ite (fun c => by omega) (fun _ => ?_)
  exact ev_ite (fun _ => Ev.now _) (fun c => absurd rfl c)
end Go.Proofs.Ytnfeedalbfflhaa.Pure
