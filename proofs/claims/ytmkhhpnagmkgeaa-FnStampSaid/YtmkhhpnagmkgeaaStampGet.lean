/- Contracts of the reading of a stamp out of its number, of the program and of the reference: at every number of the range of int both answer as one plain function says. -/
import Derived.Test.YtmkhhpnagmkgeaaPFnStampLastx5
import Derived.Laws.BitsLemmas
import Derived.Lib.Hide
import Derived.Test.YtmkhhpnagmkgeaaMem
namespace Go.Proofs.Ytmkhhpnagmkgeaa.StampGet
open Go.RowKit Go.Proofs.Ytmkhhpnagmkgeaa.Mem Go.Proofs.Ytmkhhpnagmkgeaa.PFnStampLast Go.Proofs.YtmkhhpnagmkgeaaW.PrintWords Go.Proofs.YtmkhhpnagmkgeaaW.PrintLast Go.Proofs.YtmkhhpnagmkgeaaW.PrintMore
set_option linter.unusedVariables false
set_option linter.unusedSimpArgs false
theorem w64 {x : Int} (h1 : -9223372036854775808 ≤ x) (h2 : x < 9223372036854775808) : wrap64 x = x := by unfold wrap64; omega
theorem wr_i64 (n : Int) (h₀ : 0 ≤ n) (h₁ : n < 2 ^ 63) : IntKind.i64.wrap n = n := by rw [IntKind.wrap_i64]; omega
theorem and_mask (i : Nat) (hi : i ≤ 63) {x m : Int} (hm : m = 2 ^ i - 1) (h0 : 0 ≤ x) (h1 : x < 9223372036854775808) : Go.bits .and .i64 x m = x % 2 ^ i := by
  subst hm
  exact bits_mask .i64 63 (by decide) wr_i64 i hi x h0 (by omega)
theorem or_add (i : Nat) {x y : Int} (h0 : 0 ≤ x) (hx : x % 2 ^ i = 0) (h1 : x < 9223372036854775808) (y0 : 0 ≤ y) (y1 : y < 2 ^ i) (y2 : y < 9223372036854775808) : Go.bits .or .i64 x y = x + y :=
  bits_join .i64 63 (by decide) wr_i64 i x y h0 hx (by omega) y0 y1 (by omega)
theorem or_comm (x y : Int) : Go.bits .or .i64 x y = Go.bits .or .i64 y x := by
  simp only [Go.bits]; rw [BitVec.or_comm]
theorem or_lo (i : Nat) {x y : Int} (x0 : 0 ≤ x) (x1 : x < 2 ^ i) (x2 : x < 9223372036854775808) (h0 : 0 ≤ y) (hy : y % 2 ^ i = 0) (h1 : y < 9223372036854775808) : Go.bits .or .i64 x y = x + y := by
  rw [or_comm, or_add i h0 hy h1 x0 x1 x2]; omega
def dd (y m : Int) : Int := if m = 4 then 30 else if m = 6 then 30 else if m = 9 then 30 else if m = 11 then 30 else if m = 2 then (if Int.tmod y 4 = 0 then (if Int.tmod y 100 = 0 then (if Int.tmod y 400 = 0 then 29 else 28) else 29) else 28) else 31
theorem days_eq (k : Nat) (y m : Int) : spec_l6Days.f (k + 1) y m = some (dd y m) := by
  unfold spec_l6Days.f dd
  simp only [spec_l6Days.j0]
  by_cases h4 : m = 4
  · subst h4; simp
  by_cases h6 : m = 6
  · subst h6; simp
  by_cases h9 : m = 9
  · subst h9; simp
  by_cases h11 : m = 11
  · subst h11; simp
  have e : (m == 11) = false := by simp [h11]
  simp only [h4, h6, h9, h11, e, if_false]
  by_cases h2 : m = 2
  · simp only [h2, if_true]
    by_cases a : Int.tmod y 4 = 0 <;> by_cases b : Int.tmod y 100 = 0 <;> by_cases c : Int.tmod y 400 = 0 <;> simp [a, b, c]
  · simp [h2]
theorem dd_le (y m : Int) : dd y m ≤ 31 := by unfold dd; repeat' split
                                              all_goals omega
theorem in_eq (a b c : Int) : spec_l1In.f a b c = some (decide (b ≤ a ∧ a ≤ c)) := by
  unfold spec_l1In.f
  by_cases h : a ≥ b
  · have h' : b ≤ a := h
    rw [if_pos h]; simp [h']
  · have h' : ¬ b ≤ a := h
    rw [if_neg h]; simp [h']
def okp (y m d h mi s : Int) : Prop := (1980 ≤ y ∧ y ≤ 2107) ∧ (1 ≤ m ∧ m ≤ 12) ∧ (1 ≤ d ∧ d ≤ dd y m) ∧ (0 ≤ h ∧ h ≤ 23) ∧ (0 ≤ mi ∧ mi ≤ 59) ∧ (0 ≤ s ∧ s ≤ 58) ∧ Int.tmod s 2 = 0
instance decOkp (y m d h mi s : Int) : Decidable (okp y m d h mi s) := by unfold okp; infer_instance
theorem sok_eq (k : Nat) (y m d h mi s : Int) : spec_StampOk.f (k + 1) y m d h mi s = some (decide (okp y m d h mi s)) := by
  unfold spec_StampOk.f okp
  simp only [in_eq, days_eq, Option.bind_some, decide_eq_true_eq]
  by_cases h1 : 1980 ≤ y ∧ y ≤ 2107
  rotate_left
  · rw [if_neg h1]; simp [h1]
  by_cases h2 : 1 ≤ m ∧ m ≤ 12
  rotate_left
  · rw [if_pos h1, if_neg h2]; simp [h2]
  by_cases h3 : 1 ≤ d ∧ d ≤ dd y m
  rotate_left
  · rw [if_pos h1, if_pos h2, if_neg h3]; simp [h3]
  by_cases h4 : 0 ≤ h ∧ h ≤ 23
  rotate_left
  · rw [if_pos h1, if_pos h2, if_pos h3, if_neg h4]; simp [h4]
  by_cases h5 : 0 ≤ mi ∧ mi ≤ 59
  rotate_left
  · rw [if_pos h1, if_pos h2, if_pos h3, if_pos h4, if_neg h5]; simp [h5]
  by_cases h6 : 0 ≤ s ∧ s ≤ 58
  rotate_left
  · rw [if_pos h1, if_pos h2, if_pos h3, if_pos h4, if_pos h5, if_neg h6]; simp [h6]
  rw [if_pos h1, if_pos h2, if_pos h3, if_pos h4, if_pos h5, if_pos h6]
  have e : (Int.tmod s 2 == 0) = decide (Int.tmod s 2 = 0) := by rw [Bool.eq_iff_iff]; simp
  rw [e]
  congr 1
  exact decide_eq_decide.2 ⟨fun t => ⟨h1, h2, h3, h4, h5, h6, t⟩, fun t => t.2.2.2.2.2.2⟩
theorem iok_eq (k : Nat) (y m d h mi s : Int) : impl_StampOk.f (k + 1) y m d h mi s = some (decide (okp y m d h mi s)) :=
  (show impl_StampOk.f (k + 1) y m d h mi s = spec_StampOk.f (k + 1) y m d h mi s from rfl).trans (sok_eq k y m d h mi s)
def num (y m d h mi s : Int) : Int := (y - 1980) * 33554432 + m * 2097152 + d * 65536 + h * 2048 + mi * 32 + s / 2
theorem iput_ok {y m d h mi s : Int} (ok : okp y m d h mi s) (k : Nat) : impl_StampPut.f (k + 1) y m d h mi s = some (num y m d h mi s) := by
  unfold impl_StampPut.f
  rw [iok_eq]
  simp only [Option.bind_some, decide_eq_true_eq]
  rw [if_pos ok]
  obtain ⟨⟨a1, a2⟩, ⟨b1, b2⟩, ⟨c1, c2⟩, ⟨d1, d2⟩, ⟨e1, e2⟩, ⟨f1, f2⟩, g⟩ := ok
  have c3 := dd_le y m
  rw [Int.tdiv_eq_ediv_of_nonneg f1]
  rw [w64 (by omega) (by omega), w64 (x := mi * 32) (by omega) (by omega), w64 (x := h * 2048) (by omega) (by omega), w64 (x := d * 65536) (by omega) (by omega), w64 (x := m * 2097152) (by omega) (by omega), w64 (x := y - 1980) (by omega) (by omega), w64 (x := (y - 1980) * 33554432) (by omega) (by omega)]
  rw [or_lo 5 (x := s / 2) (y := mi * 32) (by omega) (by omega) (by omega) (by omega) (by omega) (by omega)]
  rw [or_lo 11 (x := s / 2 + mi * 32) (y := h * 2048) (by omega) (by omega) (by omega) (by omega) (by omega) (by omega)]
  rw [or_lo 16 (x := s / 2 + mi * 32 + h * 2048) (y := d * 65536) (by omega) (by omega) (by omega) (by omega) (by omega) (by omega)]
  rw [or_lo 21 (x := s / 2 + mi * 32 + h * 2048 + d * 65536) (y := m * 2097152) (by omega) (by omega) (by omega) (by omega) (by omega) (by omega)]
  rw [or_lo 25 (x := s / 2 + mi * 32 + h * 2048 + d * 65536 + m * 2097152) (y := (y - 1980) * 33554432) (by omega) (by omega) (by omega) (by omega) (by omega) (by omega)]
  unfold num
  congr 1
  omega
theorem iput_no {y m d h mi s : Int} (ok : ¬ okp y m d h mi s) (k : Nat) : impl_StampPut.f (k + 1) y m d h mi s = some (-1) := by
  unfold impl_StampPut.f
  rw [iok_eq]
  simp only [Option.bind_some, decide_eq_true_eq]
  rw [if_neg ok]
theorem num_bd {y m d h mi s : Int} (ok : okp y m d h mi s) : 0 ≤ num y m d h mi s ∧ num y m d h mi s < 4294967296 := by
  obtain ⟨⟨a1, a2⟩, ⟨b1, b2⟩, ⟨c1, c2⟩, ⟨d1, d2⟩, ⟨e1, e2⟩, ⟨f1, f2⟩, g⟩ := ok
  have c3 := dd_le y m
  unfold num
  omega
theorem sput_ok {y m d h mi s : Int} (ok : okp y m d h mi s) (k : Nat) : spec_StampPut.f (k + 1) y m d h mi s = some (num y m d h mi s) := by
  unfold spec_StampPut.f
  rw [sok_eq]
  simp only [Option.bind_some, decide_eq_true_eq]
  rw [if_pos ok]
  obtain ⟨⟨a1, a2⟩, ⟨b1, b2⟩, ⟨c1, c2⟩, ⟨d1, d2⟩, ⟨e1, e2⟩, ⟨f1, f2⟩, g⟩ := ok
  have c3 := dd_le y m
  unfold spec_l6Put.f num
  simp only [Option.bind_some]
  rw [Int.tdiv_eq_ediv_of_nonneg f1]
  congr 1
  unfold wrap64
  omega
theorem sput_no {y m d h mi s : Int} (ok : ¬ okp y m d h mi s) (k : Nat) : spec_StampPut.f (k + 1) y m d h mi s = some (-1) := by
  unfold spec_StampPut.f
  rw [sok_eq]
  simp only [Option.bind_some, decide_eq_true_eq]
  rw [if_neg ok]
def put (y m d h mi s : Int) : Int := if okp y m d h mi s then num y m d h mi s else -1
theorem iput_eq (y m d h mi s : Int) (k : Nat) : impl_StampPut.f (k + 1) y m d h mi s = some (put y m d h mi s) := by
  unfold put
  by_cases ok : okp y m d h mi s
  · rw [if_pos ok, iput_ok ok]
  · rw [if_neg ok, iput_no ok]
theorem sput_eq (y m d h mi s : Int) (k : Nat) : spec_StampPut.f (k + 1) y m d h mi s = some (put y m d h mi s) := by
  unfold put
  by_cases ok : okp y m d h mi s
  · rw [if_pos ok, sput_ok ok]
  · rw [if_neg ok, sput_no ok]
def gy (n : Int) : Int := n / 33554432 + 1980
def gm (n : Int) : Int := n / 2097152 % 16
def gd (n : Int) : Int := n / 65536 % 32
def gh (n : Int) : Int := n / 2048 % 32
def gi (n : Int) : Int := n / 32 % 64
def gs (n : Int) : Int := n % 32 * 2
theorem num_get {n : Int} (h0 : 0 ≤ n) : num (gy n) (gm n) (gd n) (gh n) (gi n) (gs n) = n := by
  unfold num gy gm gd gh gi gs
  omega
theorem get_num {y m d h mi s : Int} (ok : okp y m d h mi s) : gy (num y m d h mi s) = y ∧ gm (num y m d h mi s) = m ∧ gd (num y m d h mi s) = d ∧ gh (num y m d h mi s) = h ∧ gi (num y m d h mi s) = mi ∧ gs (num y m d h mi s) = s := by
  obtain ⟨⟨a1, a2⟩, ⟨b1, b2⟩, ⟨c1, c2⟩, ⟨d1, d2⟩, ⟨e1, e2⟩, ⟨f1, f2⟩, g⟩ := ok
  have c3 := dd_le y m
  rw [Int.tmod_eq_emod_of_nonneg f1] at g
  unfold num gy gm gd gh gi gs
  omega
def got (n : Int) : Prop := 0 ≤ n ∧ n < 4294967296 ∧ okp (gy n) (gm n) (gd n) (gh n) (gi n) (gs n)
instance decGot (n : Int) : Decidable (got n) := by unfold got; infer_instance
def get (n : Int) : Int × Int × Int × Int × Int × Int × Bool := if got n then (gy n, gm n, gd n, gh n, gi n, gs n, true) else (0, 0, 0, 0, 0, 0, false)

theorem bcell {W w1 : World} (hb : Below W.heap.size W w1) : (∀ b o, b < W.heap.size → w1.cell? ⟨b, o, none⟩ = W.cell? ⟨b, o, none⟩) ∧ (∀ b o, b < W.heap.size → w1.frozen? ⟨b, o, none⟩ = W.frozen? ⟨b, o, none⟩) :=
  ⟨fun b o h => hb.cell (p := ⟨b, o, none⟩) h, fun b o h => hb.frozen (p := ⟨b, o, none⟩) h⟩
def agg (y m d h mi s : Int) : Value := .agg #[.int .i64 y, .int .i64 m, .int .i64 d, .int .i64 h, .int .i64 mi, .int .i64 s]
def tup (x : Int × Int × Int × Int × Int × Int × Bool) : Value := .tuple #[.agg #[.int .i64 x.1, .int .i64 x.2.1, .int .i64 x.2.2.1, .int .i64 x.2.2.2.1, .int .i64 x.2.2.2.2.1, .int .i64 x.2.2.2.2.2.1], .bool x.2.2.2.2.2.2]
theorem sfields (n : Int) (h0 : 0 ≤ n) : n / 32 / 64 / 32 / 32 / 16 + 1980 = gy n ∧ n / 32 / 64 / 32 / 32 % 16 = gm n ∧ n / 32 / 64 / 32 % 32 = gd n ∧ n / 32 / 64 % 32 = gh n ∧ n / 32 % 64 = gi n ∧ 2 * (n % 32) = gs n := by
  unfold gy gm gd gh gi gs; omega
set_option maxRecDepth 100000 in
set_option maxHeartbeats 400000 in
theorem sfields_calls (n : Int) (h0 : 0 ≤ n) (h1 : n ≤ 9223372036854775807) (w : World) :
    Calls Try.prog 29 #[.int .i64 n] w fun e w' => e = .returned (.agg #[.int .i64 (gy n), .int .i64 (gm n), .int .i64 (gd n), .int .i64 (gh n), .int .i64 (gi n), .int .i64 (gs n)]) ∧ Below w.heap.size w w' := by
  obtain ⟨f1, f2, f3, f4, f5, f6⟩ := sfields n h0
  rw [← f1, ← f2, ← f3, ← f4, ← f5, ← f6]
  clear f1 f2 f3 f4 f5 f6
  go_enter Try.func29, Try.ntmps29
  go_wp2
  exact bodyPost_ret (v := .agg #[.int .i64 (n / 32 / 64 / 32 / 32 / 16 + 1980), .int .i64 (n / 32 / 64 / 32 / 32 % 16), .int .i64 (n / 32 / 64 / 32 % 32), .int .i64 (n / 32 / 64 % 32), .int .i64 (n / 32 % 64), .int .i64 (2 * (n % 32))]) (by simp [results, Try.results29, go_sem]) rfl ⟨rfl, (((Below.refl _ _).alloc (Nat.le_refl _) _).alloc (by simp) _)⟩
set_option maxRecDepth 100000 in
set_option maxHeartbeats 400000 in
theorem word_calls (n : Int) (w : World) : Calls Try.prog 28 #[.int .i64 n] w fun e w' => e = .returned (.bool (decide (0 ≤ n ∧ n ≤ 4294967295))) ∧ Drawn0 w w' := by
  by_cases a : 0 ≤ n
  · by_cases b : n ≤ 4294967295
    · have e : decide (0 ≤ n ∧ n ≤ 4294967295) = true := by simp [a, b]
      rw [e]
      go_enter Try.func28, Try.ntmps28
      go_wp2
      go_ret
      exact ⟨by simp [b], Drawn0.refl _⟩
    · have e : decide (0 ≤ n ∧ n ≤ 4294967295) = false := by simp [b]
      rw [e]
      go_enter Try.func28, Try.ntmps28
      go_wp2
      go_ret
      exact ⟨by simp [b], Drawn0.refl _⟩
  · have e : decide (0 ≤ n ∧ n ≤ 4294967295) = false := by simp [a]
    rw [e]
    go_enter Try.func28, Try.ntmps28
    go_wp2
    go_ret
    exact ⟨by simp, Drawn0.refl _⟩
theorem set6 {w : World} {g t : Nat} {x0 x1 x2 x3 x4 x5 : Value} (B : Blk w g t #[x0, x1, x2, x3, x4, x5]) (a b c d e f : Value) :
    Blk ((((((w.setCell ⟨g, 0, none⟩ a).setCell ⟨g, 1, none⟩ b).setCell ⟨g, 2, none⟩ c).setCell ⟨g, 3, none⟩ d).setCell ⟨g, 4, none⟩ e).setCell ⟨g, 5, none⟩ f) g t #[a, b, c, d, e, f] := by
  have h := (((((B.set 0 a).set 1 b).set 2 c).set 3 d).set 4 e).set 5 f
  simpa using h
def Told (w : World) (v : Value) (e : Ending) (w' : World) : Prop := e = .returned v ∧ On w w'
abbrev zero6 : Array Value := #[.int .i64 0, .int .i64 0, .int .i64 0, .int .i64 0, .int .i64 0, .int .i64 0]
set_option maxRecDepth 100000 in
set_option maxHeartbeats 400000 in
theorem sget_yes (n : Int) (h0 : 0 ≤ n) (h2 : n ≤ 4294967295) (ok : okp (gy n) (gm n) (gd n) (gh n) (gi n) (gs n)) (w : World) :
    Calls Try.prog 16 #[.int .i64 n] w (Told w (.tuple #[.agg #[.int .i64 (gy n), .int .i64 (gm n), .int .i64 (gd n), .int .i64 (gh n), .int .i64 (gi n), .int .i64 (gs n)], .bool true])) := by
  have h1 : n ≤ 9223372036854775807 := by omega
  have H : Hid (decide (0 ≤ n ∧ n ≤ 4294967295) = true) := Lib.hid (by simp [h0, h2])
  have HS := Lib.hid (sok_eq 0 (gy n) (gm n) (gd n) (gh n) (gi n) (gs n))
  have OK := Lib.hid (show decide (okp (gy n) (gm n) (gd n) (gh n) (gi n) (gs n)) = true from by simpa using ok)
  go_enter Try.func16, Try.ntmps16
  have B := Blk.new w 25 zero6
  go_wp2_with fail
  refine (word_calls n _).mono ?_
  rintro e w1 ⟨rfl, ⟨⟨n1, rfl⟩⟩⟩
  replace B := B.drewN n1
  have O := ((On.refl w).alloc (.cells zero6 25)).drewN n1
  rw [H.out]
  go_wp2_with fail
  refine (sfields_calls n h0 h1 _).mono ?_
  rintro e w2 ⟨rfl, hb2⟩
  replace B := B.call hb2
  replace O := O.call (Below.on hb2)
  clear hb2
  go_wp2_with fail
  refine (spec_StampOk.calls 1 _ _ _ _ _ _ _ _ HS.out).mono ?_
  rintro e w3 ⟨rfl, hb3⟩
  replace B := B.call hb3
  replace O := O.call (Below.on hb3)
  clear hb3
  rw [OK.out]
  go_wp2_with fail
  refine (sfields_calls n h0 h1 _).mono ?_
  rintro e w4 ⟨rfl, hb4⟩
  replace B := B.call hb4
  replace O := O.call (Below.on hb4)
  clear hb4
  have c0 : w4.cell? ⟨w.heap.size, 0, none⟩ = some (.int .i64 0) := (B.cell 0).trans rfl
  have c1 : w4.cell? ⟨w.heap.size, 1, none⟩ = some (.int .i64 0) := (B.cell 1).trans rfl
  have c2 : w4.cell? ⟨w.heap.size, 2, none⟩ = some (.int .i64 0) := (B.cell 2).trans rfl
  have c3 : w4.cell? ⟨w.heap.size, 3, none⟩ = some (.int .i64 0) := (B.cell 3).trans rfl
  have c4 : w4.cell? ⟨w.heap.size, 4, none⟩ = some (.int .i64 0) := (B.cell 4).trans rfl
  have c5 : w4.cell? ⟨w.heap.size, 5, none⟩ = some (.int .i64 0) := (B.cell 5).trans rfl
  have fr : ∀ i, w4.frozen? ⟨w.heap.size, i, none⟩ = false := B.frozen
  go_wp2_with fail
  have B' := set6 B (.int .i64 (gy n)) (.int .i64 (gm n)) (.int .i64 (gd n)) (.int .i64 (gh n)) (.int .i64 (gi n)) (.int .i64 (gs n))
  refine bodyPost_ret (v := .tuple #[.agg #[.int .i64 (gy n), .int .i64 (gm n), .int .i64 (gd n), .int .i64 (gh n), .int .i64 (gi n), .int .i64 (gs n)], .bool true]) (by exact res_ct (fn := Try.f16) (p := 2) (u := 3) rfl B' rfl Try.underlying25 rfl (by kernel_rfl)) rfl ⟨rfl, ?_⟩
  repeat (first | with_reducible exact O | refine On.set ?_ (Nat.le_refl _) _)

set_option maxRecDepth 100000 in
set_option maxHeartbeats 400000 in
theorem sget_word (n : Int) (hn : ¬ (0 ≤ n ∧ n ≤ 4294967295)) (w : World) : Calls Try.prog 16 #[.int .i64 n] w (Told w (.tuple #[.agg #[.int .i64 0, .int .i64 0, .int .i64 0, .int .i64 0, .int .i64 0, .int .i64 0], .bool false])) := by
  have H : Hid (decide (0 ≤ n ∧ n ≤ 4294967295) = false) := Lib.hid (by simpa using hn)
  clear hn
  go_enter Try.func16, Try.ntmps16
  have B := Blk.new w 25 zero6
  go_wp2_with fail
  refine (word_calls n _).mono ?_
  rintro e w1 ⟨rfl, ⟨⟨n1, rfl⟩⟩⟩
  replace B := B.drewN n1
  have O := ((On.refl w).alloc (.cells zero6 25)).drewN n1
  rw [H.out]
  go_wp2_with fail
  have B' := set6 B (.int .i64 0) (.int .i64 0) (.int .i64 0) (.int .i64 0) (.int .i64 0) (.int .i64 0)
  refine bodyPost_ret (v := .tuple #[.agg #[.int .i64 0, .int .i64 0, .int .i64 0, .int .i64 0, .int .i64 0, .int .i64 0], .bool false]) ?_ rfl ⟨rfl, ?_⟩
  · first | exact res_ct (fn := Try.f16) (p := 2) (u := 3) rfl B' rfl Try.underlying25 rfl (by kernel_rfl) | exact res_ct (fn := Try.f16) (p := 2) (u := 3) rfl B rfl Try.underlying25 rfl (by kernel_rfl)
  repeat (first | with_reducible exact O | refine On.set ?_ (Nat.le_refl _) _)
set_option maxRecDepth 100000 in
set_option maxHeartbeats 400000 in
theorem sget_not (n : Int) (h0 : 0 ≤ n) (h2 : n ≤ 4294967295) (ok : ¬ okp (gy n) (gm n) (gd n) (gh n) (gi n) (gs n)) (w : World) : Calls Try.prog 16 #[.int .i64 n] w (Told w (.tuple #[.agg #[.int .i64 0, .int .i64 0, .int .i64 0, .int .i64 0, .int .i64 0, .int .i64 0], .bool false])) := by
  have h1 : n ≤ 9223372036854775807 := by omega
  have H : Hid (decide (0 ≤ n ∧ n ≤ 4294967295) = true) := Lib.hid (by simp [h0, h2])
  have HS := Lib.hid (sok_eq 0 (gy n) (gm n) (gd n) (gh n) (gi n) (gs n))
  have OK := Lib.hid (show decide (okp (gy n) (gm n) (gd n) (gh n) (gi n) (gs n)) = false from by simpa using ok)
  clear ok
  go_enter Try.func16, Try.ntmps16
  have B := Blk.new w 25 zero6
  go_wp2_with fail
  refine (word_calls n _).mono ?_
  rintro e w1 ⟨rfl, ⟨⟨n1, rfl⟩⟩⟩
  replace B := B.drewN n1
  have O := ((On.refl w).alloc (.cells zero6 25)).drewN n1
  rw [H.out]
  go_wp2_with fail
  refine (sfields_calls n h0 h1 _).mono ?_
  rintro e w2 ⟨rfl, hb2⟩
  replace B := B.call hb2
  replace O := O.call (Below.on hb2)
  clear hb2
  go_wp2_with fail
  refine (spec_StampOk.calls 1 _ _ _ _ _ _ _ _ HS.out).mono ?_
  rintro e w3 ⟨rfl, hb3⟩
  replace B := B.call hb3
  replace O := O.call (Below.on hb3)
  clear hb3
  rw [OK.out]
  have c0 : w3.cell? ⟨w.heap.size, 0, none⟩ = some (.int .i64 0) := (B.cell 0).trans rfl
  have c1 : w3.cell? ⟨w.heap.size, 1, none⟩ = some (.int .i64 0) := (B.cell 1).trans rfl
  have c2 : w3.cell? ⟨w.heap.size, 2, none⟩ = some (.int .i64 0) := (B.cell 2).trans rfl
  have c3 : w3.cell? ⟨w.heap.size, 3, none⟩ = some (.int .i64 0) := (B.cell 3).trans rfl
  have c4 : w3.cell? ⟨w.heap.size, 4, none⟩ = some (.int .i64 0) := (B.cell 4).trans rfl
  have c5 : w3.cell? ⟨w.heap.size, 5, none⟩ = some (.int .i64 0) := (B.cell 5).trans rfl
  have fr : ∀ i, w3.frozen? ⟨w.heap.size, i, none⟩ = false := B.frozen
  go_wp2_with fail
  have B' := set6 B (.int .i64 0) (.int .i64 0) (.int .i64 0) (.int .i64 0) (.int .i64 0) (.int .i64 0)
  refine bodyPost_ret (v := .tuple #[.agg #[.int .i64 0, .int .i64 0, .int .i64 0, .int .i64 0, .int .i64 0, .int .i64 0], .bool false]) (by exact res_ct (fn := Try.f16) (p := 2) (u := 3) rfl B' rfl Try.underlying25 rfl (by kernel_rfl)) rfl ⟨rfl, ?_⟩
  repeat (first | with_reducible exact O | refine On.set ?_ (Nat.le_refl _) _)
theorem sget_calls (n : Int) (w : World) : Calls Try.prog 16 #[.int .i64 n] w (Told w (tup (get n))) := by
  by_cases hw : 0 ≤ n ∧ n ≤ 4294967295
  · by_cases ok : okp (gy n) (gm n) (gd n) (gh n) (gi n) (gs n)
    · have e : get n = (gy n, gm n, gd n, gh n, gi n, gs n, true) := by unfold get; rw [if_pos ⟨hw.1, by omega, ok⟩]
      rw [e]; exact sget_yes n hw.1 hw.2 ok w
    · have e : get n = (0, 0, 0, 0, 0, 0, false) := by unfold get; rw [if_neg (fun g => ok g.2.2)]
      rw [e]; exact sget_not n hw.1 hw.2 ok w
  · have e : get n = (0, 0, 0, 0, 0, 0, false) := by unfold get; rw [if_neg (fun g => hw ⟨g.1, by have := g.2.1; omega⟩)]
    rw [e]; exact sget_word n hw w

theorem masks (n : Int) (h0 : 0 ≤ n) (h1 : n < 9223372036854775808) : Go.bits .and .i64 (n / 33554432) 127 = n / 33554432 % 128 ∧ Go.bits .and .i64 (n / 2097152) 15 = gm n ∧ Go.bits .and .i64 (n / 65536) 31 = gd n ∧ Go.bits .and .i64 (n / 2048) 31 = gh n ∧ Go.bits .and .i64 (n / 32) 63 = gi n ∧ Go.bits .and .i64 n 31 * 2 = gs n ∧ 0 ≤ n / 33554432 % 128 ∧ n / 33554432 % 128 ≤ 127 ∧ 0 ≤ Go.bits .and .i64 n 31 ∧ Go.bits .and .i64 n 31 ≤ 31 := by
  unfold gm gd gh gi gs
  rw [and_mask 7 (by decide) (by decide) (by omega) (by omega), and_mask 4 (by decide) (by decide) (by omega) (by omega), and_mask (x := n / 65536) 5 (by decide) (by decide) (by omega) (by omega), and_mask (x := n / 2048) 5 (by decide) (by decide) (by omega) (by omega), and_mask 6 (by decide) (by decide) (by omega) (by omega), and_mask (x := n) 5 (by decide) (by decide) (by omega) (by omega)]
  simp only [show ((2:Int) ^ 7) = 128 from rfl, show ((2:Int) ^ 4) = 16 from rfl, show ((2:Int) ^ 5) = 32 from rfl, show ((2:Int) ^ 6) = 64 from rfl]
  refine ⟨trivial, trivial, trivial, trivial, trivial, trivial, ?_, ?_, ?_, ?_⟩
  all_goals omega
theorem iput_any (y m d h mi s : Int) : ∃ r, impl_StampPut.f 1 y m d h mi s = some r := ⟨_, iput_eq y m d h mi s 0⟩
set_option maxRecDepth 100000 in
set_option maxHeartbeats 400000 in
theorem iget_neg (n : Int) (hn : n < 0) (w : World) : Calls Try.prog 17 #[.int .i64 n] w (Told w (.tuple #[.agg #[.int .i64 0, .int .i64 0, .int .i64 0, .int .i64 0, .int .i64 0, .int .i64 0], .bool false])) := by
  go_enter Try.func17, Try.ntmps17
  go_wp2_with fail
  have B := Blk.new w 25 zero6
  refine bodyPost_ret (v := .tuple #[.agg #[.int .i64 0, .int .i64 0, .int .i64 0, .int .i64 0, .int .i64 0, .int .i64 0], .bool false]) ?_ rfl ⟨rfl, ?_⟩
  · exact res_ct (fn := Try.f17) (p := 2) (u := 3) rfl B rfl Try.underlying25 rfl (by kernel_rfl)
  repeat (first | with_reducible exact On.refl _ | refine On.set ?_ (Nat.le_refl _) _ | refine On.alloc ?_ _)
set_option maxRecDepth 100000 in
set_option maxHeartbeats 800000 in
theorem iget_no (n : Int) (h0 : 0 ≤ n) (h1 : n < 9223372036854775808) (r : Int) (hr : ¬ r = n) (h : impl_StampPut.f 1 (1980 + n / 33554432 % 128) (gm n) (gd n) (gh n) (gi n) (gs n) = some r) (w : World) : Calls Try.prog 17 #[.int .i64 n] w (Told w (.tuple #[.agg #[.int .i64 0, .int .i64 0, .int .i64 0, .int .i64 0, .int .i64 0, .int .i64 0], .bool false])) := by
  have h2 : n ≤ 9223372036854775807 := by omega
  obtain ⟨m1, m2, m3, m4, m5, m6, q0, q1, q2, q3⟩ := masks n h0 h1
  have hr' : (r != n) = true := by simpa using hr
  have HR := Lib.hid hr'
  clear hr hr'
  have HH := Lib.hid h
  clear h
  go_enter Try.func17, Try.ntmps17
  have B := Blk.new w 25 zero6
  go_wp2_with fail
  replace B := B.alloc (.cells #[.int .i64 (1980 + n / 33554432 % 128), .int .i64 (gm n), .int .i64 (gd n), .int .i64 (gh n), .int .i64 (gi n), .int .i64 (gs n)] 25)
  have O := ((On.refl w).alloc (.cells zero6 25)).alloc (.cells #[.int .i64 (1980 + n / 33554432 % 128), .int .i64 (gm n), .int .i64 (gd n), .int .i64 (gh n), .int .i64 (gi n), .int .i64 (gs n)] 25)
  refine (impl_StampPut.calls 1 _ _ _ _ _ _ r _ HH.out).mono ?_
  rintro e w3 ⟨rfl, hb3⟩
  replace B := B.call hb3
  replace O := O.call (Below.on hb3)
  clear hb3
  have hr' := HR.out
  have c0 : w3.cell? ⟨w.heap.size, 0, none⟩ = some (.int .i64 0) := (B.cell 0).trans rfl
  have c1 : w3.cell? ⟨w.heap.size, 1, none⟩ = some (.int .i64 0) := (B.cell 1).trans rfl
  have c2 : w3.cell? ⟨w.heap.size, 2, none⟩ = some (.int .i64 0) := (B.cell 2).trans rfl
  have c3 : w3.cell? ⟨w.heap.size, 3, none⟩ = some (.int .i64 0) := (B.cell 3).trans rfl
  have c4 : w3.cell? ⟨w.heap.size, 4, none⟩ = some (.int .i64 0) := (B.cell 4).trans rfl
  have c5 : w3.cell? ⟨w.heap.size, 5, none⟩ = some (.int .i64 0) := (B.cell 5).trans rfl
  have fr : ∀ i, w3.frozen? ⟨w.heap.size, i, none⟩ = false := B.frozen
  go_wp2_with fail
  have B' := set6 B (.int .i64 0) (.int .i64 0) (.int .i64 0) (.int .i64 0) (.int .i64 0) (.int .i64 0)
  refine bodyPost_ret (v := .tuple #[.agg #[.int .i64 0, .int .i64 0, .int .i64 0, .int .i64 0, .int .i64 0, .int .i64 0], .bool false]) (by exact res_ct (fn := Try.f17) (p := 2) (u := 3) rfl B' rfl Try.underlying25 rfl (by kernel_rfl)) rfl ⟨rfl, ?_⟩
  repeat (first | with_reducible exact O | refine On.set ?_ (Nat.le_refl _) _)
set_option maxRecDepth 100000 in
set_option maxHeartbeats 800000 in
theorem iget_yes (n : Int) (h0 : 0 ≤ n) (h1 : n < 9223372036854775808) (h : impl_StampPut.f 1 (1980 + n / 33554432 % 128) (gm n) (gd n) (gh n) (gi n) (gs n) = some n) (w : World) : Calls Try.prog 17 #[.int .i64 n] w (Told w (.tuple #[.agg #[.int .i64 (1980 + n / 33554432 % 128), .int .i64 (gm n), .int .i64 (gd n), .int .i64 (gh n), .int .i64 (gi n), .int .i64 (gs n)], .bool true])) := by
  have h2 : n ≤ 9223372036854775807 := by omega
  obtain ⟨m1, m2, m3, m4, m5, m6, q0, q1, q2, q3⟩ := masks n h0 h1
  have HH := Lib.hid h
  clear h
  go_enter Try.func17, Try.ntmps17
  have B := Blk.new w 25 zero6
  go_wp2_with fail
  replace B := B.alloc (.cells #[.int .i64 (1980 + n / 33554432 % 128), .int .i64 (gm n), .int .i64 (gd n), .int .i64 (gh n), .int .i64 (gi n), .int .i64 (gs n)] 25)
  have D := Blk.new (w.alloc (.cells zero6 25)) 25 #[.int .i64 (1980 + n / 33554432 % 128), .int .i64 (gm n), .int .i64 (gd n), .int .i64 (gh n), .int .i64 (gi n), .int .i64 (gs n)]
  have O := ((On.refl w).alloc (.cells zero6 25)).alloc (.cells #[.int .i64 (1980 + n / 33554432 % 128), .int .i64 (gm n), .int .i64 (gd n), .int .i64 (gh n), .int .i64 (gi n), .int .i64 (gs n)] 25)
  rw [show (w.alloc (.cells zero6 25)).heap.size = w.heap.size + 1 from by simp] at D
  refine (impl_StampPut.calls 1 _ _ _ _ _ _ n _ HH.out).mono ?_
  rintro e w3 ⟨rfl, hb3⟩
  replace B := B.call hb3
  replace D := D.call hb3
  replace O := O.call (Below.on hb3)
  clear hb3
  have c0 : w3.cell? ⟨w.heap.size, 0, none⟩ = some (.int .i64 0) := (B.cell 0).trans rfl
  have c1 : w3.cell? ⟨w.heap.size, 1, none⟩ = some (.int .i64 0) := (B.cell 1).trans rfl
  have c2 : w3.cell? ⟨w.heap.size, 2, none⟩ = some (.int .i64 0) := (B.cell 2).trans rfl
  have c3 : w3.cell? ⟨w.heap.size, 3, none⟩ = some (.int .i64 0) := (B.cell 3).trans rfl
  have c4 : w3.cell? ⟨w.heap.size, 4, none⟩ = some (.int .i64 0) := (B.cell 4).trans rfl
  have c5 : w3.cell? ⟨w.heap.size, 5, none⟩ = some (.int .i64 0) := (B.cell 5).trans rfl
  have fr : ∀ i, w3.frozen? ⟨w.heap.size, i, none⟩ = false := B.frozen
  have d0 : w3.cell? ⟨w.heap.size + 1, 0, none⟩ = some _ := (D.cell 0).trans rfl
  have d1 : w3.cell? ⟨w.heap.size + 1, 1, none⟩ = some _ := (D.cell 1).trans rfl
  have d2 : w3.cell? ⟨w.heap.size + 1, 2, none⟩ = some _ := (D.cell 2).trans rfl
  have d3 : w3.cell? ⟨w.heap.size + 1, 3, none⟩ = some _ := (D.cell 3).trans rfl
  have d4 : w3.cell? ⟨w.heap.size + 1, 4, none⟩ = some _ := (D.cell 4).trans rfl
  have d5 : w3.cell? ⟨w.heap.size + 1, 5, none⟩ = some _ := (D.cell 5).trans rfl
  go_wp2_with fail
  have B' := set6 B (.int .i64 (1980 + n / 33554432 % 128)) (.int .i64 (gm n)) (.int .i64 (gd n)) (.int .i64 (gh n)) (.int .i64 (gi n)) (.int .i64 (gs n))
  refine bodyPost_ret (v := .tuple #[.agg #[.int .i64 (1980 + n / 33554432 % 128), .int .i64 (gm n), .int .i64 (gd n), .int .i64 (gh n), .int .i64 (gi n), .int .i64 (gs n)], .bool true]) (by exact res_ct (fn := Try.f17) (p := 2) (u := 3) rfl B' rfl Try.underlying25 rfl (by kernel_rfl)) rfl ⟨rfl, ?_⟩
  repeat (first | with_reducible exact O | refine On.set ?_ (Nat.le_refl _) _)

theorem iget_calls (n : Int) (h1 : n < 9223372036854775808) (w : World) : Calls Try.prog 17 #[.int .i64 n] w (Told w (tup (get n))) := by
  by_cases h0 : 0 ≤ n
  rotate_left
  · have e : get n = (0, 0, 0, 0, 0, 0, false) := by unfold get; rw [if_neg (fun g => h0 g.1)]
    rw [e]; exact iget_neg n (by omega) w
  by_cases h2 : n < 4294967296
  · have e1 : 1980 + n / 33554432 % 128 = gy n := by unfold gy; omega
    by_cases ok : okp (gy n) (gm n) (gd n) (gh n) (gi n) (gs n)
    · have e : get n = (gy n, gm n, gd n, gh n, gi n, gs n, true) := by unfold get; rw [if_pos ⟨h0, h2, ok⟩]
      rw [e]
      have := iget_yes n h0 h1 (by rw [e1, iput_ok ok, num_get h0]) w
      rw [e1] at this
      exact this
    · have e : get n = (0, 0, 0, 0, 0, 0, false) := by unfold get; rw [if_neg (fun g => ok g.2.2)]
      rw [e]; exact iget_no n h0 h1 (-1) (by omega) (by rw [e1, iput_no ok]) w
  · have e : get n = (0, 0, 0, 0, 0, 0, false) := by unfold get; rw [if_neg (fun g => h2 g.2.1)]
    rw [e]
    by_cases ok : okp (1980 + n / 33554432 % 128) (gm n) (gd n) (gh n) (gi n) (gs n)
    · have := num_bd ok
      exact iget_no n h0 h1 _ (by omega) (iput_ok ok 0) w
    · exact iget_no n h0 h1 (-1) (by omega) (iput_no ok 0) w
set_option maxRecDepth 100000 in
set_option maxHeartbeats 400000 in
theorem eqstamp_calls (a b c d e f : Int) (w : World) :
    Calls Try.prog 18 #[.agg #[.int .i64 a, .int .i64 b, .int .i64 c, .int .i64 d, .int .i64 e, .int .i64 f], .agg #[.int .i64 a, .int .i64 b, .int .i64 c, .int .i64 d, .int .i64 e, .int .i64 f]] w (Told w (.bool true)) := by
  go_enter Try.func18, Try.ntmps18
  go_wp2
  go_ret
  exact ⟨rfl, ((On.refl _).alloc _).alloc _⟩
end Go.Proofs.Ytmkhhpnagmkgeaa.StampGet
