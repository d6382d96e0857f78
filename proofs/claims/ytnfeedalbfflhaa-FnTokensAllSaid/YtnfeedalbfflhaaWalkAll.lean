/- The walk of the law FnTokensAll: at every input it returns true and keeps what was. No condition beyond the sizes that every row has. -/
import Derived.Test.YtnfeedalbfflhaaPFnTokensx5
import Derived.Test.YtnfeedalbfflhaaMem
import Derived.Lib.Hide
import Derived.Laws.BitsLemmas
import Derived.Test.YtnfeedalbfflhaaLz
import Derived.WalkSpells
namespace Go.Proofs.Ytnfeedalbfflhaa.TokensAll
open Go.RowKit Go.Proofs.Ytnfeedalbfflhaa.Mem Go.Proofs.Ytnfeedalbfflhaa.PFnTokens Go.Proofs.YtnfeedalbfflhaaW.PrintWords Go.Proofs.YtnfeedalbfflhaaW.PrintLast Go.Proofs.YtnfeedalbfflhaaW.PrintMore
set_option linter.unusedVariables false
set_option linter.unusedSimpArgs false
theorem myinfo5 : (Try.prog.info? 5).map (fun i => (i.zero, i.size, i.bytes)) = some (some (.int .u8 0), 1, 1) := by kernel_rfl
def Told (w : World) (v : Value) (e : Ending) (w' : World) : Prop := e = .returned v ∧ On w w'
set_option maxRecDepth 100000 in
set_option maxHeartbeats 1000000 in
theorem law (A0 : Option Addr) (c0 m : Nat) (hm : (m : Int) ≤ 1048576) (n : Nat) (hn : (n : Int) = (m : Int) % 301) (w : World) (kk : Nat) (l : List S37) (e1 : impl_TokensOf.f kk (strOfNums (List.replicate n 122)) = some l) (e2 : spec_TokensOf.f kk (strOfNums (List.replicate n 122)) = some l) (e3 : laws_cbTokens.f kk l l = some true) (e4 : impl_TokensLong.f kk l = some (n : Int)) (e5 : (l.length : Int) ≤ 4 + (n : Int) / 60) :
    Calls Try.prog 3 #[.slice A0 m c0] w (Told w (.bool true)) := by
  have E1 := Lib.hid e1
  have E2 := Lib.hid e2
  have E3 := Lib.hid e3
  have E4 := Lib.hid e4
  clear e1 e2 e3 e4
  go_enter Try.func3, Try.ntmps3
  go_wp2_with fail
  rw [← hn]
  obtain ⟨i0, hi, hz0, hz1, hz2⟩ := info_parts myinfo5
  have HN := Lib.hid hn
  clear hn
  go_loopw [4, 5] (fun v x wr => ∃ k : Nat, k ≤ n ∧ x = .int .i64 k ∧ wr.ownsRow w.heap.size 5 1 v k (List.replicate k (.int .u8 122)) ∧ On w wr) (fun _ x _ => n - (intOf x).toNat)
  case atStart => exact ⟨0, by omega, rfl, ⟨rfl, .inr ⟨_, 0, #[], rfl, Nat.le_refl _, heap_alloc_new w _, Nat.le_refl _, by unfold maxLen; omega, rfl, rfl⟩⟩, (On.refl w).alloc _⟩
  case round =>
    obtain ⟨k, hk, rfl, hown, O⟩ := hrel
    have hk301 : n ≤ 300 := by have := HN.out; omega
    by_cases hlt : k < n
    · have hsz := O.size
      go_wp2_with (at_builtin; go_must (refine wpList_app1 rfl _ _ 22 rfl w i0 (.int .u8 0) 1 Try.underlying22 hi hz0 hz1 hz2 rfl _ k _ rfl hown O rfl rfl (by unfold maxLen; omega) (by omega) ?_); intro v' w1 hown' O' _)
      rw [← List.replicate_succ'] at hown'
      go_roundw
      case rel => exact ⟨k + 1, by omega, by go_num, hown', O'⟩
      case measure => simp [intOf]; omega
    · obtain rfl : k = n := by omega
      have hown2 : wr.ownsRow w.heap.size 5 1 u4 k (nums .u8 (List.replicate k 122)) := by
        unfold nums; rw [List.map_replicate]; exact hown
      have hcv := own_string (P := Try.prog) Try.underlying22 Try.underlying5 Try.underlying9 hown2
      clear hown
      go_wp2_with fail
      refine (impl_TokensOf.calls kk _ _ _ E1.out).mono ?_
      rintro e w1 ⟨v1, rfl, hR1, hb1⟩
      have hcv1 := own_string (P := Try.prog) Try.underlying22 Try.underlying5 Try.underlying9 (own_on hown2 (Below.on hb1))
      clear hcv hown2
      obtain ⟨A1, c1, rfl⟩ := Kd.R_slice hR1
      obtain ⟨_, hc1, hC1⟩ := Kd.R_reads' hR1
      replace O := O.call (Below.on hb1)
      clear hR1 hb1
      have HC1 := Lib.hid hC1
      clear hC1
      go_wp2_with fail
      refine (spec_TokensOf.calls kk _ _ _ E2.out).mono ?_
      rintro e w2 ⟨v2, rfl, hR2, hb2⟩
      obtain ⟨A2, c2, rfl⟩ := Kd.R_slice hR2
      obtain ⟨_, hc2, hC2⟩ := Kd.R_reads' hR2
      replace O := O.call (Below.on hb2)
      have HC2 := Lib.hid hC2
      have HC3 := Lib.hid (Kd.C_below HC1.out hb2)
      clear hC2 HC1 hR2 hb2 hcv1
      go_wp2_with fail
      refine (laws_cbTokens.calls kk _ _ l _ _ l true _ HC3.out hc1 HC2.out hc2 E3.out).mono ?_
      rintro e w3 ⟨rfl, ⟨⟨n3, rfl⟩⟩⟩
      go_wp2_with fail
      refine (impl_TokensLong.calls kk _ _ l _ _ (Kd.C_drewN HC3.out _) hc1 E4.out).mono ?_
      rintro e w4 ⟨rfl, hb4⟩
      replace O := (O.drewN n3).call (Below.on hb4)
      go_wp2_with fail
      go_ret
      exact ⟨by simp, O⟩
set_option maxRecDepth 100000 in
set_option maxHeartbeats 1000000 in
theorem law_long (A0 : Option Addr) (c0 n : Nat) (w : World) (hlen : ¬ ((n : Int) ≤ 1048576)) :
    Calls Try.prog 3 #[.slice A0 n c0] w (Told w (.bool true)) := by
  have h : (1048576 : Int) < n := by omega
  clear hlen
  go_enter Try.func3, Try.ntmps3
  go_wp2_with fail
  go_ret
  exact ⟨rfl, On.refl _⟩
namespace Aid
theorem w64 {x : Int} (h1 : -9223372036854775808 ≤ x) (h2 : x < 9223372036854775808) : wrap64 x = x := by unfold wrap64; omega
theorem wr_i64 (n : Int) (h₀ : 0 ≤ n) (h₁ : n < 2 ^ 63) : IntKind.i64.wrap n = n := by rw [IntKind.wrap_i64]; omega
theorem and_mask (i : Nat) (hi : i ≤ 63) {x m : Int} (hm : m = 2 ^ i - 1) (h0 : 0 ≤ x) (h1 : x < 9223372036854775808) : Go.bits .and .i64 x m = x % 2 ^ i := by
  subst hm
  exact bits_mask .i64 63 (by decide) wr_i64 i hi x h0 (by omega)
theorem or_add (i : Nat) {x y : Int} (h0 : 0 ≤ x) (hx : x % 2 ^ i = 0) (h1 : x < 9223372036854775808) (y0 : 0 ≤ y) (y1 : y < 2 ^ i) (y2 : y < 9223372036854775808) : Go.bits .or .i64 x y = x + y :=
  bits_join .i64 63 (by decide) wr_i64 i x y h0 hx (by omega) y0 y1 (by omega)
theorem or_comm (x y : Int) : Go.bits .or .i64 x y = Go.bits .or .i64 y x := by
  simp only [Go.bits]; rw [BitVec.or_comm]
theorem or_lo (i : Nat) {x y : Int} (x0 : 0 ≤ x) (x1 : x < 2 ^ i) (x2 : x < 9223372036854775808) (h0 : 0 ≤ y) (hy : y % 2 ^ i = 0) (h1 : y < 9223372036854775808) : Go.bits .or .i64 x y = x + y := by
  rw [or_comm, or_add i h0 hy h1 x0 x1 x2]; omega
theorem ev_ite {α : Type} {c : Prop} [Decidable c] {g f : Nat → Option α} {r : α} (h1 : c → Ev g r) (h2 : ¬ c → Ev f r) : Ev (fun k => if c then g k else f k) r := by
  by_cases h : c
  · exact Ev.congr (fun k => by rw [if_pos h]) (h1 h)
  · exact Ev.congr (fun k => by rw [if_neg h]) (h2 h)
open Go.Proofs.Ytnfeedalbfflhaa.Lz (Tok run mlen best toks tokens copy add text mlen_le best_le_60 tokens_length best_le best_form best_max copy_length text_tokens text_append text_le add_prefix text_bytes text_over text_each copy_self tokens_same)
def ints (l : List Nat) : List Int := l.map (fun n : Nat => (n : Int))
theorem ints_length (l : List Nat) : (ints l).length = l.length := by simp [ints]
theorem rd_ints (l : List Nat) {i : Int} (h : i.toNat < l.length) : rd (ints l) i = (l.getD i.toNat 0 : Nat) := by
  unfold rd ints
  rw [List.getD_eq_getElem?_getD, List.getD_eq_getElem?_getD, List.getElem?_map, List.getElem?_eq_getElem h]
  rfl
theorem ints_append (a b : List Nat) : ints (a ++ b) = ints a ++ ints b := by simp [ints]
def chars (s : ByteArray) : List Nat := s.data.toList.map fun b => b.toNat
theorem chars_length (s : ByteArray) : (chars s).length = s.size := by unfold chars; rw [List.length_map, Array.length_toList]; rfl
theorem chars_lt (s : ByteArray) : ∀ x ∈ chars s, x < 256 := by
  intro x hx
  unfold chars at hx
  obtain ⟨b, _, rfl⟩ := List.mem_map.1 hx
  exact b.toNat_lt
theorem bt_chars (s : ByteArray) {i : Int} (h : i.toNat < s.size) : bt s i = ((chars s).getD i.toNat 0 : Nat) := by
  unfold bt chars
  rw [dif_pos h, List.getD_eq_getElem?_getD, List.getElem?_map, List.getElem?_eq_getElem (by rw [Array.length_toList]; exact h)]
  rfl
theorem chars_ext {s s' : ByteArray} (h : chars s = chars s') : s = s' := by
  have : s.data.toList = s'.data.toList := by
    unfold chars at h
    exact (List.map_inj_right (fun a b e => UInt8.toNat_inj.1 e)).1 h
  cases s; cases s'; simp_all
theorem strOfNums_size (x : List Int) : (strOfNums x).size = x.length := by
  unfold strOfNums
  simp [ByteArray.size]
theorem strOfNums_chars (s : ByteArray) : strOfNums (ints (chars s)) = s := by
  unfold strOfNums ints chars
  rw [List.map_map, List.map_map]
  have : (s.data.toList.map (((fun n : Int => UInt8.ofNat n.toNat) ∘ (fun n : Nat => (n : Int))) ∘ fun b : UInt8 => b.toNat)) = s.data.toList := by
    conv => rhs; rw [← List.map_id s.data.toList]
    apply List.map_congr_left
    intro b _
    simp
  rw [this]
theorem chars_strOfNums (l : List Nat) (h : ∀ x ∈ l, x < 256) : chars (strOfNums (ints l)) = l := by
  unfold strOfNums ints chars
  simp only [List.map_map]
  conv => rhs; rw [← List.map_id l]
  apply List.map_congr_left
  intro b hb
  have := h b hb
  simp
  omega
theorem empty_toList : (⟨#[]⟩ : ByteArray).toList = [] := by
  unfold ByteArray.toList
  unfold ByteArray.toList.loop
  rw [if_neg (by decide)]
  rfl
theorem strOfNums_extract (a b : List Int) (n : Nat) (h : a.length = n) : (strOfNums (a ++ b)).extract 0 n = strOfNums a := by
  have h2 : (strOfNums (a ++ b)) = strOfNums a ++ strOfNums b := by
    unfold strOfNums
    simp [ByteArray.ext_iff, ByteArray.data_append]
  have h3 : (strOfNums a).size = n := by rw [strOfNums_size]; exact h
  rw [h2, ← h3, ByteArray.extract_append_eq_left rfl]
def tok37 (t : Tok) : S37 := ⟨t.byte, t.long, t.back⟩
theorem same_iff (s : ByteArray) {p q : Nat} (hp : p < s.size) (hq : q < s.size) : (bt s (p : Int) = bt s (q : Int)) ↔ ((chars s)[p]? = (chars s)[q]?) := by
  rw [bt_chars s (i := p) (by omega), bt_chars s (i := q) (by omega)]
  simp only [Int.toNat_natCast]
  rw [List.getD_eq_getElem?_getD, List.getD_eq_getElem?_getD, List.getElem?_eq_getElem (by rw [chars_length]; exact hp), List.getElem?_eq_getElem (by rw [chars_length]; exact hq)]
  simp only [Option.getD_some, Option.some.injEq]
  omega
def toksOf (s : ByteArray) : List S37 := if s.size ≤ 300 then (tokens (chars s)).map tok37 else []
theorem impl_l2 (s : ByteArray) (hs : s.size ≤ 300) {a back : Nat} (h1 : 1 ≤ back) (h2 : back ≤ a) (ha : a < s.size) (acc : List S37) (b l f : Int) (r : List S37)
    (H : Ev (fun k => if (3 : Int) ≤ (mlen (chars s) a back : Nat) ∧ l < (mlen (chars s) a back : Nat) then impl_TokensOf.l1 k s acc a ((back : Int) + 1) 0 (mlen (chars s) a back : Nat) back else impl_TokensOf.l1 k s acc a ((back : Int) + 1) b l f) r) :
    ∀ (d n : Nat), n + d = 60 → n + run (chars s) (a + n) (a + n - back) d = mlen (chars s) a back → Ev (fun k => impl_TokensOf.l2 k s acc a back n b l f) r := by
  have fin : ∀ n : Nat, n = mlen (chars s) a back → ∀ k, (if (n : Int) ≥ 3 then (if (n : Int) > l then (impl_TokensOf.l1 k s acc a (wrap64 ((back : Int) + 1)) 0 n back) else (impl_TokensOf.l1 k s acc a (wrap64 ((back : Int) + 1)) b l f)) else (impl_TokensOf.l1 k s acc a (wrap64 ((back : Int) + 1)) b l f)) = (if (3 : Int) ≤ (mlen (chars s) a back : Nat) ∧ l < (mlen (chars s) a back : Nat) then impl_TokensOf.l1 k s acc a ((back : Int) + 1) 0 (mlen (chars s) a back : Nat) back else impl_TokensOf.l1 k s acc a ((back : Int) + 1) b l f) := by
    intro n hn k
    subst hn
    rw [w64 (by omega) (by omega)]
    by_cases c1 : ((mlen (chars s) a back : Nat) : Int) ≥ 3
    · by_cases c2 : ((mlen (chars s) a back : Nat) : Int) > l
      · rw [if_pos c1, if_pos c2, if_pos ⟨c1, c2⟩]
      · rw [if_pos c1, if_neg c2, if_neg (fun h => c2 h.2)]
    · rw [if_neg c1, if_neg (fun h => c1 h.1)]
  intro d
  induction d with
  | zero =>
    intro n hn hm
    refine Ev.step (fun k => ?_) H
    rw [impl_TokensOf.l2, if_neg (by omega)]
    exact fin n (by simpa [run] using hm) k
  | succ d ih =>
    intro n hn hm
    simp only [run] at hm
    rw [chars_length] at hm
    by_cases hc : a + n < s.size ∧ (chars s)[a + n]? = (chars s)[a + n - back]?
    · rw [if_pos hc] at hm
      refine Ev.step (fun k => ?_) (ih (n + 1) (by omega) (by rw [show a + (n + 1) = a + n + 1 from by omega, show a + n + 1 - back = a + n - back + 1 from by omega]; omega))
      rw [impl_TokensOf.l2, if_pos (by omega), w64 (x := (a : Int) + n) (by omega) (by omega), if_pos (by omega), if_pos (by omega), w64 (x := (a : Int) + n - back) (by omega) (by omega), if_pos (by omega), if_pos (by omega)]
      rw [show (a : Int) + n = ((a + n : Nat) : Int) from by omega, show ((a + n : Nat) : Int) - back = ((a + n - back : Nat) : Int) from by omega]
      rw [if_pos ((same_iff s (by omega) (by omega)).2 hc.2), w64 (x := (n : Int) + 1) (by omega) (by omega)]
      rfl
    · rw [if_neg hc] at hm
      refine Ev.step (fun k => ?_) H
      rw [impl_TokensOf.l2, if_pos (by omega), w64 (x := (a : Int) + n) (by omega) (by omega)]
      by_cases hlt : a + n < s.size
      · rw [if_pos (by omega), if_pos (by omega), w64 (x := (a : Int) + n - back) (by omega) (by omega), if_pos (by omega), if_pos (by omega)]
        rw [show (a : Int) + n = ((a + n : Nat) : Int) from by omega, show ((a + n : Nat) : Int) - back = ((a + n - back : Nat) : Int) from by omega]
        rw [if_neg (fun h => hc ⟨hlt, (same_iff s (by omega) (by omega)).1 h⟩)]
        exact fin n (by omega) k
      · rw [if_neg (by omega)]
        exact fin n (by omega) k
/-- What the program holds behind j distances. -/
def held (t : List Nat) (a j : Nat) : Int × Int × Int := if 3 ≤ (best t a j).1 then (0, ((best t a j).1 : Nat), ((best t a j).2 : Nat)) else ((t.getD a 0 : Nat), 0, 0)
theorem held_step (t : List Nat) (a j : Nat) : held t a (j + 1) = if (3 : Int) ≤ (mlen t a (j + 1) : Nat) ∧ (held t a j).2.1 < (mlen t a (j + 1) : Nat) then (0, ((mlen t a (j + 1) : Nat) : Int), ((j + 1 : Nat) : Int)) else held t a j := by
  by_cases hn : mlen t a (j + 1) > (best t a j).1
  · have e : best t a (j + 1) = (mlen t a (j + 1), j + 1) := by simp only [best]; rw [if_pos hn]
    unfold held
    rw [e]
    dsimp only
    by_cases h3 : 3 ≤ (best t a j).1
    · rw [if_pos h3, if_pos (by omega)]
      dsimp only
      rw [if_pos (by omega)]
    · rw [if_neg h3]
      dsimp only
      by_cases h : 3 ≤ mlen t a (j + 1)
      · rw [if_pos h, if_pos (by omega)]
      · rw [if_neg h, if_neg (by omega)]
  · have e : best t a (j + 1) = best t a j := by simp only [best]; rw [if_neg hn]
    unfold held
    rw [e]
    by_cases h3 : 3 ≤ (best t a j).1
    · rw [if_pos h3]
      dsimp only
      rw [if_neg (by omega)]
    · rw [if_neg h3]
      dsimp only
      rw [if_neg (by omega)]
theorem impl_l1 (s : ByteArray) (hs : s.size ≤ 300) {a : Nat} (ha : a < s.size) (acc : List S37) (hacc : acc.length ≤ a) (r : List S37)
    (H : Ev (fun k => impl_TokensOf.l0 k s (acc ++ [(⟨(held (chars s) a (min 250 a)).1, (held (chars s) a (min 250 a)).2.1, (held (chars s) a (min 250 a)).2.2⟩ : S37)]) ((a : Int) + mx (held (chars s) a (min 250 a)).2.1 1)) r) :
    ∀ (d j : Nat), j + d = min 250 a → Ev (fun k => impl_TokensOf.l1 k s acc a ((j : Int) + 1) (held (chars s) a j).1 (held (chars s) a j).2.1 (held (chars s) a j).2.2) r := by
  have hmn : mn 250 (a : Int) = ((min 250 a : Nat) : Int) := by unfold mn; split <;> omega
  intro d
  induction d with
  | zero =>
    intro j hj
    obtain rfl : j = min 250 a := by omega
    refine Ev.step (fun k => ?_) H
    rw [impl_TokensOf.l1, hmn, if_neg (by omega), if_pos (by omega)]
    have hb := best_le_60 (chars s) a (min 250 a)
    have h1 : 1 ≤ mx (held (chars s) a (min 250 a)).2.1 1 ∧ mx (held (chars s) a (min 250 a)).2.1 1 ≤ 60 := by
      unfold mx held
      by_cases c : 3 ≤ (best (chars s) a (min 250 a)).1
      · rw [if_pos c]; dsimp only; split <;> omega
      · rw [if_neg c]; dsimp only; split <;> omega
    rw [w64 (by omega) (by omega)]
  | succ d ih =>
    intro j hj
    have hm := mlen_le (chars s) a (j + 1)
    have e := impl_l2 s hs (a := a) (back := j + 1) (by omega) (by omega) ha acc (held (chars s) a j).1 (held (chars s) a j).2.1 (held (chars s) a j).2.2 r ?_ 60 0 rfl (by simp [mlen])
    · refine Ev.step (fun k => ?_) e
      rw [impl_TokensOf.l1, hmn, if_pos (by omega)]
      rfl
    · have ih' := ih (j + 1) (by omega)
      rw [held_step] at ih'
      refine ev_ite (fun c => ?_) (fun c => ?_)
      · rw [if_pos c] at ih'
        exact ih'
      · rw [if_neg c] at ih'
        exact ih'
theorem impl_l0 (s : ByteArray) (hs : s.size ≤ 300) : ∀ (f a : Nat) (acc : List S37), s.size - a ≤ f → acc.length ≤ a → Ev (fun k => impl_TokensOf.l0 k s acc a) (acc ++ (toks (chars s) f a).map tok37) := by
  intro f
  induction f with
  | zero =>
    intro a acc hf hacc
    refine Ev.step (f := fun _ => some acc) (fun k => ?_) ?_
    · rw [impl_TokensOf.l0, if_neg (by omega)]
    · simp only [toks, List.map_nil, List.append_nil]; exact Ev.now _
  | succ f ih =>
    intro a acc hf hacc
    by_cases ha : a < s.size
    · have H := ih (a + (if (best (chars s) a (min 250 a)).1 < 3 then 1 else (best (chars s) a (min 250 a)).1)) (acc ++ [(⟨(held (chars s) a (min 250 a)).1, (held (chars s) a (min 250 a)).2.1, (held (chars s) a (min 250 a)).2.2⟩ : S37)]) (by split <;> omega) (by rw [List.length_append, List.length_singleton]; split <;> omega)
      have e := impl_l1 s hs ha acc hacc (acc ++ (toks (chars s) (f + 1) a).map tok37) ?_ (min 250 a) 0 (by omega)
      · refine Ev.step (fun k => ?_) e
        rw [impl_TokensOf.l0, if_pos (by omega), if_pos (by omega)]
        have hb : bt s (a : Int) = ((chars s).getD a 0 : Nat) := by rw [bt_chars s (by omega)]; rfl
        have hr := bt_range s (a : Int)
        rw [w64 (by omega) (by omega), hb]
        rfl
      · have er : acc ++ (toks (chars s) (f + 1) a).map tok37 = (acc ++ [(⟨(held (chars s) a (min 250 a)).1, (held (chars s) a (min 250 a)).2.1, (held (chars s) a (min 250 a)).2.2⟩ : S37)]) ++ (toks (chars s) f (a + (if (best (chars s) a (min 250 a)).1 < 3 then 1 else (best (chars s) a (min 250 a)).1))).map tok37 := by
          simp only [toks]
          rw [if_pos (by rw [chars_length]; exact ha)]
          unfold held
          by_cases c : (best (chars s) a (min 250 a)).1 < 3
          · rw [if_pos c, if_pos c, if_neg (by omega)]; simp [tok37]
          · rw [if_neg c, if_neg c, if_pos (by omega)]; simp [tok37]
        rw [er]
        refine Ev.congr (fun k => ?_) H
        congr 1
        unfold mx held
        by_cases c : (best (chars s) a (min 250 a)).1 < 3
        · rw [if_neg (show ¬ 3 ≤ (best (chars s) a (min 250 a)).1 by omega), if_pos c]; dsimp only; rw [if_pos (by omega)]; omega
        · rw [if_pos (show 3 ≤ (best (chars s) a (min 250 a)).1 by omega), if_neg c]; dsimp only; rw [if_neg (by omega)]; omega
    · refine Ev.step (f := fun _ => some acc) (fun k => ?_) ?_
      · rw [impl_TokensOf.l0, if_neg (by omega)]
      · simp only [toks]; rw [if_neg (by rw [chars_length]; exact ha)]; simp only [List.map_nil, List.append_nil]; exact Ev.now _
theorem impl_of (s : ByteArray) : Ev (fun k => impl_TokensOf.f k s) (toksOf s) := by
  unfold impl_TokensOf.f toksOf
  by_cases h : s.size ≤ 300
  · rw [if_pos h]
    have e := impl_l0 s h s.size 0 [] (by omega) (by simp)
    have et : tokens (chars s) = toks (chars s) s.size 0 := by unfold tokens; rw [chars_length]
    rw [List.nil_append, ← et] at e
    refine Ev.congr (fun k => ?_) e
    simp only [Option.bind_some]
    rw [if_neg (by omega)]
    rfl
  · rw [if_neg h]
    refine Ev.congr (f := fun _ => some []) (fun k => ?_) (Ev.now _)
    simp only [Option.bind_some]
    rw [if_pos (by omega)]
theorem spec_again (s : ByteArray) (hs : s.size ≤ 300) {a back : Nat} (h1 : 1 ≤ back) (h2 : back ≤ a) (ha : a < s.size) :
    ∀ (d n : Nat), n + d = 60 → n + run (chars s) (a + n) (a + n - back) d = mlen (chars s) a back → Ev (fun k => spec_l4Again.l0 k s a back n) ((mlen (chars s) a back : Nat) : Int) := by
  intro d
  induction d with
  | zero =>
    intro n hn hm
    have hm' : n = mlen (chars s) a back := by simpa [run] using hm
    refine Ev.step (f := fun _ => some ((mlen (chars s) a back : Nat) : Int)) (fun k => ?_) (Ev.now _)
    rw [spec_l4Again.l0, w64 (x := (a : Int) + n) (by omega) (by omega)]
    by_cases hlt : a + n < s.size
    · rw [if_pos (by omega), if_neg (by omega), hm']
    · rw [if_neg (by omega), hm']
  | succ d ih =>
    intro n hn hm
    simp only [run] at hm
    rw [chars_length] at hm
    by_cases hc : a + n < s.size ∧ (chars s)[a + n]? = (chars s)[a + n - back]?
    · rw [if_pos hc] at hm
      refine Ev.step (fun k => ?_) (ih (n + 1) (by omega) (by rw [show a + (n + 1) = a + n + 1 from by omega, show a + n + 1 - back = a + n - back + 1 from by omega]; omega))
      rw [spec_l4Again.l0, w64 (x := (a : Int) + n) (by omega) (by omega), if_pos (by omega), if_pos (by omega), if_pos (by omega), w64 (x := (a : Int) + n - back) (by omega) (by omega), if_pos (by omega), if_pos (by omega)]
      rw [show (a : Int) + n = ((a + n : Nat) : Int) from by omega, show ((a + n : Nat) : Int) - back = ((a + n - back : Nat) : Int) from by omega]
      rw [if_pos ((same_iff s (by omega) (by omega)).2 hc.2), w64 (x := (n : Int) + 1) (by omega) (by omega)]
      rfl
    · rw [if_neg hc] at hm
      have hm' : n = mlen (chars s) a back := by omega
      refine Ev.step (f := fun _ => some ((mlen (chars s) a back : Nat) : Int)) (fun k => ?_) (Ev.now _)
      rw [spec_l4Again.l0, w64 (x := (a : Int) + n) (by omega) (by omega)]
      by_cases hlt : a + n < s.size
      · rw [if_pos (by omega), if_pos (by omega), if_pos (by omega), w64 (x := (a : Int) + n - back) (by omega) (by omega), if_pos (by omega), if_pos (by omega)]
        rw [show (a : Int) + n = ((a + n : Nat) : Int) from by omega, show ((a + n : Nat) : Int) - back = ((a + n - back : Nat) : Int) from by omega]
        rw [if_neg (fun h => hc ⟨hlt, (same_iff s (by omega) (by omega)).1 h⟩), hm']
      · rw [if_neg (by omega), hm']
theorem spec_l1 (s : ByteArray) (hs : s.size ≤ 300) {a : Nat} (ha : a < s.size) (acc : List S37) (hacc : acc.length ≤ a) (r : List S37)
    (H : Ev (fun k => if (best (chars s) a (min 250 a)).1 < 3 then spec_l4Tokens.l0 k s (acc ++ [(⟨((chars s).getD a 0 : Nat), 0, 0⟩ : S37)]) ((a : Int) + 1) else spec_l4Tokens.l0 k s (acc ++ [(⟨0, ((best (chars s) a (min 250 a)).1 : Nat), ((best (chars s) a (min 250 a)).2 : Nat)⟩ : S37)]) ((a : Int) + ((best (chars s) a (min 250 a)).1 : Nat))) r) :
    ∀ (d j : Nat), j + d = min 250 a → Ev (fun k => spec_l4Tokens.l1 k s acc a ((best (chars s) a j).1 : Nat) ((best (chars s) a j).2 : Nat) ((j : Int) + 1)) r := by
  intro d
  induction d with
  | zero =>
    intro j hj
    obtain rfl : j = min 250 a := by omega
    have hb := best_le_60 (chars s) a (min 250 a)
    have H2 : Ev (fun k => spec_l4Tokens.j2 k s acc a ((best (chars s) a (min 250 a)).1 : Nat) ((best (chars s) a (min 250 a)).2 : Nat) ((min 250 a : Nat) + 1) false) r := by
      refine Ev.step (fun k => ?_) H
      rw [spec_l4Tokens.j2, if_neg (by decide)]
      have hbt : bt s (a : Int) = ((chars s).getD a 0 : Nat) := by rw [bt_chars s (by omega)]; rfl
      have hr := bt_range s (a : Int)
      by_cases c : (best (chars s) a (min 250 a)).1 < 3
      · rw [if_pos c, if_pos (by omega), if_pos (by omega), if_pos (by omega), if_pos (by omega), w64 (x := bt s (a : Int)) (by omega) (by omega), hbt, w64 (by omega) (by omega)]
      · rw [if_neg c, if_neg (by omega), if_pos (by omega), w64 (by omega) (by omega)]
    refine Ev.step (fun k => ?_) H2
    rw [spec_l4Tokens.l1]
    by_cases c : ((min 250 a : Nat) : Int) + 1 ≤ 250
    · rw [if_pos c, show decide (((min 250 a : Nat) : Int) + 1 ≤ (a : Int)) = false from by simp; omega]
    · rw [if_neg c]
  | succ d ih =>
    intro j hj
    have hm := mlen_le (chars s) a (j + 1)
    have ih' := ih (j + 1) (by omega)
    have e := spec_again s hs (a := a) (back := j + 1) (by omega) (by omega) ha 60 0 rfl (by simp [mlen])
    have H2 : Ev (fun k => spec_l4Tokens.j2 k s acc a ((best (chars s) a j).1 : Nat) ((best (chars s) a j).2 : Nat) ((j : Int) + 1) true) r := by
      have e2 := Ev.bind (f := fun k t111 => if t111 > (((best (chars s) a j).1 : Nat) : Int) then (spec_l4Tokens.l1 k s acc a t111 ((j : Int) + 1) (wrap64 ((j : Int) + 1 + 1))) else (spec_l4Tokens.l1 k s acc a ((best (chars s) a j).1 : Nat) ((best (chars s) a j).2 : Nat) (wrap64 ((j : Int) + 1 + 1)))) e (r := r) ?_
      · refine Ev.step (fun k => ?_) e2
        rw [spec_l4Tokens.j2, if_pos rfl]
        rfl
      · simp only [best] at ih'
        rw [w64 (by omega) (by omega)]
        refine ev_ite (fun c => ?_) (fun c => ?_)
        · rw [if_pos (by omega)] at ih'
          exact ih'
        · rw [if_neg (by omega)] at ih'
          exact ih'
    refine Ev.step (fun k => ?_) H2
    rw [spec_l4Tokens.l1, if_pos (by omega), show decide ((j : Int) + 1 ≤ (a : Int)) = true from by simp; omega]
theorem spec_l0 (s : ByteArray) (hs : s.size ≤ 300) : ∀ (f a : Nat) (acc : List S37), s.size - a ≤ f → acc.length ≤ a → Ev (fun k => spec_l4Tokens.l0 k s acc a) (acc ++ (toks (chars s) f a).map tok37) := by
  intro f
  induction f with
  | zero =>
    intro a acc hf hacc
    refine Ev.step (f := fun _ => some acc) (fun k => ?_) ?_
    · rw [spec_l4Tokens.l0, if_neg (by omega)]
    · simp only [toks, List.map_nil, List.append_nil]; exact Ev.now _
  | succ f ih =>
    intro a acc hf hacc
    by_cases ha : a < s.size
    · have e := spec_l1 s hs ha acc hacc (acc ++ (toks (chars s) (f + 1) a).map tok37) ?_ (min 250 a) 0 (by omega)
      · refine Ev.step (fun k => ?_) e
        rw [spec_l4Tokens.l0, if_pos (by omega)]
        rfl
      · simp only [toks]
        rw [if_pos (by rw [chars_length]; exact ha)]
        refine ev_ite (fun c => ?_) (fun c => ?_)
        · rw [if_pos c]
          have H := ih (a + 1) (acc ++ [(⟨((chars s).getD a 0 : Nat), 0, 0⟩ : S37)]) (by omega) (by rw [List.length_append, List.length_singleton]; omega)
          rw [List.append_assoc] at H
          exact H
        · rw [if_neg c]
          have H := ih (a + (best (chars s) a (min 250 a)).1) (acc ++ [(⟨0, ((best (chars s) a (min 250 a)).1 : Nat), ((best (chars s) a (min 250 a)).2 : Nat)⟩ : S37)]) (by omega) (by rw [List.length_append, List.length_singleton]; omega)
          rw [List.append_assoc] at H
          refine Ev.congr (fun k => ?_) H
          congr 1
    · refine Ev.step (f := fun _ => some acc) (fun k => ?_) ?_
      · rw [spec_l4Tokens.l0, if_neg (by omega)]
      · simp only [toks]; rw [if_neg (by rw [chars_length]; exact ha)]; simp only [List.map_nil, List.append_nil]; exact Ev.now _
theorem spec_of (s : ByteArray) : Ev (fun k => spec_TokensOf.f k s) (toksOf s) := by
  unfold spec_TokensOf.f toksOf spec_l4Tokens.f
  by_cases h : s.size ≤ 300
  · rw [if_pos h]
    have e := spec_l0 s h s.size 0 [] (by omega) (by simp)
    have et : tokens (chars s) = toks (chars s) s.size 0 := by unfold tokens; rw [chars_length]
    rw [List.nil_append, ← et] at e
    refine Ev.congr (fun k => ?_) e
    rw [if_neg (by omega)]
    cases spec_l4Tokens.l0 k s [] ((0 : Nat) : Int) <;> rfl
  · rw [if_neg h]
    refine Ev.congr (f := fun _ => some []) (fun k => ?_) (Ev.now _)
    rw [if_pos (by omega)]
theorem cbTok_ev (xs : List S37) (hm : xs.length ≤ 1000000000) : ∀ (d i : Nat), i + d = xs.length → Ev (fun k => laws_cbTokens.l0 k xs xs i) true := by
  intro d
  induction d with
  | zero =>
    intro i hi
    refine Ev.step (f := fun _ => some true) (fun k => ?_) (Ev.now _)
    rw [laws_cbTokens.l0, if_neg (by omega)]
  | succ d ih =>
    intro i hi
    refine Ev.step (fun k => ?_) (ih (i + 1) (by omega))
    rw [laws_cbTokens.l0, if_pos (by omega), if_pos (by omega), if_pos (by omega), if_neg (by simp), w64 (by omega) (by omega)]
    rfl
theorem cbTok_f (xs : List S37) (hm : xs.length ≤ 1000000000) : Ev (fun k => laws_cbTokens.f k xs xs) true := by
  unfold laws_cbTokens.f
  refine Ev.congr (fun k => ?_) (cbTok_ev xs hm xs.length 0 (by omega))
  rw [if_pos rfl]
  rfl
theorem toksOf_length (s : ByteArray) : (toksOf s).length ≤ 300 := by
  unfold toksOf
  by_cases h : s.size ≤ 300
  · rw [if_pos h, List.length_map]
    have := tokens_length (chars s)
    rw [chars_length] at this
    omega
  · rw [if_neg h]; simp
def of37 (x : S37) : Tok := ⟨x.f0, x.f1, x.f2⟩
theorem within_eq (a b c : Int) : impl_within.f a b c = some (decide (b ≤ a ∧ a ≤ c)) := by
  unfold impl_within.f
  by_cases h : a ≥ b
  · have h' : b ≤ a := h
    rw [if_pos h]; simp [h']
  · have h' : ¬ b ≤ a := h
    rw [if_neg h]; simp [h']
theorem iadd_l0 (out : List Nat) {back : Nat} (h1 : 1 ≤ back) (h2 : back ≤ out.length) (hl : out.length ≤ 1000) (x y z : Int) (hz : z = back) (n : Nat) (hn : n ≤ 1000) : ∀ (d i : Nat), i + d = n → Ev (fun k => impl_add.l0 k (ints (copy out back i)) n i x y z) (ints (copy out back n), true) := by
  subst hz
  intro d
  induction d with
  | zero =>
    intro i hi
    obtain rfl : i = n := by omega
    refine Ev.step (f := fun _ => some (ints (copy out back i), true)) (fun k => ?_) (Ev.now _)
    rw [impl_add.l0, if_neg (by omega)]
  | succ d ih =>
    intro i hi
    have hc := copy_length out back i
    refine Ev.step (fun k => ?_) (ih (i + 1) (by omega))
    rw [impl_add.l0, if_pos (by omega), ints_length, hc, w64 (x := ((out.length + i : Nat) : Int) - back) (by omega) (by omega), if_pos (by omega), if_pos (by omega), if_pos (by omega), w64 (x := (i : Int) + 1) (by omega) (by omega)]
    rw [rd_ints _ (by rw [hc]; omega)]
    simp only [copy, ints_append]
    rw [hc, show (((out.length + i : Nat) : Int) - back).toNat = out.length + i - back from by omega]
    rfl
theorem iadd_ev (out : List Nat) (hl : out.length ≤ 400) (t : Tok) : Ev (fun k => impl_add.f k (ints out) t.byte t.long t.back) (match add out t with | some o => (ints o, true) | none => ([], false)) := by
  unfold impl_add.f add
  by_cases c0 : t.long = 0
  · simp only [c0, if_true]
    by_cases c1 : t.back = 0
    · simp only [c1, if_true, within_eq, Option.bind_some, true_and]
      by_cases c2 : 0 ≤ t.byte ∧ t.byte ≤ 255
      · simp only [c2, and_self, decide_true, if_true]
        rw [ints_length, if_pos (by omega)]
        refine Ev.congr (f := fun _ => some (ints (out ++ [t.byte.toNat]), true)) (fun k => ?_) (Ev.now _)
        rw [ints_append]
        have : t.byte % 256 = ((t.byte.toNat : Nat) : Int) := by omega
        rw [this]
        rfl
      · simp only [c2, decide_false, if_false, Bool.false_eq_true]
        exact Ev.now _
    · simp only [c1, if_false, false_and]
      exact Ev.now _
  · simp only [c0, if_false]
    have bad : ∀ x y z : Int, Ev (fun k => impl_add.j0 k (ints out) true x y z) ([], false) := by
      intro x y z
      refine Ev.step (f := fun _ => some ([], false)) (fun k => ?_) (Ev.now _)
      rw [impl_add.j0, if_pos rfl]
    by_cases c1 : t.byte = 0
    rotate_left
    · simp only [c1, if_false, false_and]; exact bad _ _ _
    simp only [c1, if_true, within_eq, Option.bind_some, true_and]
    by_cases c2 : 3 ≤ t.long ∧ t.long ≤ 60
    rotate_left
    · rw [if_neg (fun h => c2 ⟨h.1, h.2.1⟩)]
      simp only [c2, decide_false, if_false, Bool.false_eq_true]; exact bad _ _ _
    simp only [c2, and_self, decide_true, if_true, true_and]
    have hm : mn 250 ((ints out).length : Int) = ((min 250 out.length : Nat) : Int) := by rw [ints_length]; unfold mn; split <;> omega
    rw [hm]
    by_cases c3 : 1 ≤ t.back ∧ t.back ≤ 250 ∧ t.back ≤ (out.length : Int)
    · rw [if_pos c3, show decide (1 ≤ t.back ∧ t.back ≤ ((min 250 out.length : Nat) : Int)) = true from by simp; omega]
      obtain ⟨n, hn⟩ := Int.eq_ofNat_of_zero_le (show 0 ≤ t.long by omega)
      obtain ⟨b, hb⟩ := Int.eq_ofNat_of_zero_le (show 0 ≤ t.back by omega)
      have H := iadd_l0 out (back := b) (by omega) (by omega) (by omega) 0 t.long t.back hb n (by omega) n 0 (by omega)
      rw [hn, hb] at H ⊢
      simp only [Int.toNat_natCast]
      refine Ev.step (fun k => ?_) H
      rw [impl_add.j0, if_neg (by decide)]
      rfl
    · rw [if_neg c3, show decide (1 ≤ t.back ∧ t.back ≤ ((min 250 out.length : Nat) : Int)) = false from by simp; omega]
      exact bad _ _ _
def told (out : List Nat) (l : List Tok) : ByteArray × Bool := match text out l with | some o => (strOfNums (ints o), true) | none => ((⟨#[]⟩ : ByteArray), false)
theorem itext_l0 (xs : List S37) (hx : xs.length ≤ 100000000000000000) : ∀ (d i : Nat) (out : List Nat), i + d = xs.length → out.length ≤ 300 → Ev (fun k => impl_TokensText.l0 k (ints out) xs (xs.length : Int) i) (told out ((xs.drop i).map of37)) := by
  intro d
  induction d with
  | zero =>
    intro i out hi hl
    rw [List.drop_of_length_le (by omega)]
    refine Ev.step (f := fun _ => some (told out [])) (fun k => ?_) (Ev.now _)
    rw [impl_TokensText.l0, if_neg (by omega)]
    rfl
  | succ d ih =>
    intro i out hi hl
    have hlt : i < xs.length := by omega
    have hr : rd_T37 xs (i : Int) = xs[i] := by
      unfold rd_T37
      rw [List.getD_eq_getElem?_getD, Int.toNat_natCast, List.getElem?_eq_getElem hlt]; rfl
    rw [List.drop_eq_getElem_cons hlt, List.map_cons]
    have e1 := iadd_ev out (by omega) (of37 xs[i])
    have e2 := Ev.bind (f := fun k (bt117 : List Int × Bool) => if bt117.2 = true then (if (bt117.1.length : Int) > 300 then (some ((⟨#[]⟩ : ByteArray), false)) else (impl_TokensText.l0 k bt117.1 xs (xs.length : Int) (wrap64 ((i : Int) + 1)))) else (some ((⟨#[]⟩ : ByteArray), false))) e1 (r := told out (of37 xs[i] :: (xs.drop (i + 1)).map of37)) ?_
    · refine Ev.step (fun k => ?_) e2
      rw [impl_TokensText.l0, if_pos (by omega), if_pos (by omega), if_pos (by omega), hr]
      rfl
    · unfold told
      simp only [text]
      cases ha : add out (of37 xs[i]) with
      | none => simp only [Bool.false_eq_true, if_false]; exact Ev.now _
      | some o =>
        simp only [if_true, ints_length]
        by_cases c : o.length > 300
        · rw [if_pos c]; exact ev_ite (fun _ => Ev.now _) (fun h => absurd (by omega) h)
        · rw [if_neg c]
          refine ev_ite (fun h => by omega) (fun _ => ?_)
          have H := ih (i + 1) o (by omega) (by omega)
          rw [w64 (by omega) (by omega)]
          exact H
theorem itext_ev (xs : List S37) (hx : xs.length ≤ 100000000000000000) : Ev (fun k => impl_TokensText.f k xs) (told [] (xs.map of37)) := by
  have H := itext_l0 xs hx xs.length 0 [] (by omega) (by simp)
  rw [List.drop_zero] at H
  exact H
theorem ilong_ev (xs : List S37) (hx : xs.length ≤ 100000000000000000) : Ev (fun k => impl_TokensLong.f k xs) (match text [] (xs.map of37) with | some o => (o.length : Int) | none => -1) := by
  unfold impl_TokensLong.f
  refine Ev.bind (itext_ev xs hx) ?_
  unfold told
  cases text [] (xs.map of37) with
  | none => simp only [Bool.false_eq_true, if_false]; exact Ev.now _
  | some o => simp only [if_true, strOfNums_size, ints_length]; exact Ev.now _
theorem map_of_tok (l : List Tok) : (l.map tok37).map of37 = l := by
  rw [List.map_map]
  exact List.map_id _
theorem facts (n : Nat) (hn : n ≤ 300) : ∃ (kk : Nat) (l : List S37), impl_TokensOf.f kk (strOfNums (List.replicate n 122)) = some l ∧ spec_TokensOf.f kk (strOfNums (List.replicate n 122)) = some l ∧ laws_cbTokens.f kk l l = some true ∧ impl_TokensLong.f kk l = some (n : Int) ∧ (l.length : Int) ≤ 4 + (n : Int) / 60 := by
  have hi : ints (List.replicate n 122) = List.replicate n 122 := by unfold ints; rw [List.map_replicate]; rfl
  have hlt : ∀ x ∈ List.replicate n 122, x < 256 := fun x hx => by rw [List.eq_of_mem_replicate hx]; decide
  have hc := chars_strOfNums (List.replicate n 122) hlt
  rw [hi] at hc
  generalize hs : strOfNums (List.replicate n 122) = s at *
  have hcl := chars_length s
  rw [hc, List.length_replicate] at hcl
  have e1 := impl_of s
  have e2 := spec_of s
  have hlen := toksOf_length s
  have e3 := cbTok_f (toksOf s) (by omega)
  have f2 := ilong_ev (toksOf s) (by omega)
  have hto : toksOf s = (tokens (chars s)).map tok37 := by unfold toksOf; rw [if_pos (by omega)]
  have et := text_tokens (t := chars s) (chars_lt s) (by rw [chars_length]; omega)
  rw [hto, map_of_tok, et, ← hto] at f2
  simp only at f2
  rw [chars_length, ← hcl] at f2
  have hcount := tokens_same n 122
  obtain ⟨k1, g1⟩ := e1
  obtain ⟨k2, g2⟩ := e2
  obtain ⟨k3, g3⟩ := e3
  obtain ⟨k4, g4⟩ := f2
  refine ⟨k1 + k2 + k3 + k4, toksOf s, g1 _ (by omega), g2 _ (by omega), g3 _ (by omega), g4 _ (by omega), ?_⟩
  rw [hto, hc, List.length_map]
  omega
end Aid
theorem law_walk (a0 : Option Addr) (len0 cap0 : Nat) (z0 : List Int) (w : World) (w0 : (a0 = none ∧ len0 = 0 ∧ cap0 = 0 ∧ z0 = []) ∨ ∃ x, a0 = some x ∧ len0 ≤ cap0 ∧ cap0 ≤ maxLen ∧ z0.length = cap0 ∧ (∀ i, i < z0.length → w.cell? (x.add i) = some (.int .u8 (z0.getD i 0))) ∧ ∀ n ∈ z0, (Lit.int .u8 n).wf = true) (y0 : len0 * 1 ≤ 140737488351232) :
    Calls Try.prog 3 #[.slice a0 len0 cap0] w fun e w' => e = .returned (.bool true) ∧ Below w.heap.size w w' := by
  have fin : Calls Try.prog 3 #[.slice a0 len0 cap0] w (Told w (.bool true)) := by
    by_cases hlen : (len0 : Int) ≤ 1048576
    · obtain ⟨kk, l, e1, e2, e3, e4, e5⟩ := Aid.facts (len0 % 301) (by omega)
      exact law a0 cap0 len0 hlen (len0 % 301) (by omega) w kk l e1 e2 e3 e4 e5
    · exact law_long a0 cap0 _ w hlen
  exact fin.mono fun _ _ h => ⟨h.1, h.2.out⟩
end Go.Proofs.Ytnfeedalbfflhaa.TokensAll
