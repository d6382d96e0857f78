/- The specification's reader of bits: what bit, num and whole do. Conditions: a reader of a text. -/
import Derived.Test.YtncidljdfipigaaDoorRi
import Derived.Test.YtncidljdfipigaaDoorWs
namespace Go.Proofs.YtncidljdfipigaaDoor.Wi
open Go.RowKit Go.Proofs.YtncidljdfipigaaDoor.Mem Go.Proofs.YtncidljdfipigaaDoor.Bt
set_option linter.unusedVariables false
set_option linter.unusedSimpArgs false
/-- The specification's reader at block g: the text, where it is, whether it is bad. -/
structure SR (w : World) (g : Nat) (s : ByteArray) (p : Nat) (bad : Bool) : Prop where mk ::
  out : Blk w g 103 #[.string s, .int .i64 (p : Int), .bool bad]
  le : p ≤ 8 * s.size
  sz : s.size ≤ 1000000
theorem SR.kp {w w' : World} {g p : Nat} {s : ByteArray} {b : Bool} {S : List Nat} (h : SR w g s p b) (k : Kp S w w') (hg : g ∉ S) : SR w' g s p b := ⟨k.blk h.out hg, h.le, h.sz⟩
theorem SR.on {w w' : World} {g p : Nat} {s : ByteArray} {b : Bool} (h : SR w g s p b) (O : On w w') : SR w' g s p b := h.kp (Kp.of [] O) (by simp)
set_option maxRecDepth 100000 in
theorem sbit_calls (g : Nat) (s : ByteArray) (p : Nat) (b : Bool) (w : World) (hw : SR w g s p b) :
    Calls Tryd.prog 133 #[.pointer (some ⟨g, 0, none⟩)] w fun e w' => e = .returned (.int .i64 (numAt s p 1 : Nat)) ∧ SR w' g s (min (p + 1) (8 * s.size)) (b || decide (8 * s.size < p + 1)) ∧ Kp [g] w w' := by
  obtain ⟨hb, hle, hsz⟩ := hw
  have c0 : w.cell? ⟨g, 0, none⟩ = some (.string s) := (hb.cell 0).trans rfl
  have c1 : w.cell? ⟨g, 1, none⟩ = some (.int .i64 p) := (hb.cell 1).trans rfl
  have c2 : w.cell? ⟨g, 2, none⟩ = some (.bool b) := (hb.cell 2).trans rfl
  have fr : ∀ i, w.frozen? ⟨g, i, none⟩ = false := hb.frozen
  have e0 : IntKind.i64.wrap (8 * (s.size : Int)) = 8 * (s.size : Int) := by rw [IntKind.wrap_i64]; omega
  by_cases h : p < 8 * s.size
  · have hi : (p : Int) < 8 * s.size := by omega
    have hi2 : decide (8 * (s.size : Int) ≤ (p : Int)) = false := by simp; omega
    obtain ⟨q, k, hq, hpq, hpk, hv⟩ : ∃ q k, ∃ hq : q < s.size, p / 8 = q ∧ p % 8 = k ∧ numAt s p 1 = s[q].toNat / 2 ^ k % 2 := ⟨p / 8, p % 8, by omega, rfl, rfl, numAt_one h⟩
    have e1 : IntKind.i64.wrap ((p : Int) / 8) = (q : Int) := by rw [IntKind.wrap_i64]; omega
    have e2 : Int.tmod (p : Int) 8 = (k : Int) := by rw [show (8 : Int) = ((8 : Nat) : Int) from rfl, tmod_nat, hpk]
    have e3 : Int.tdiv (p : Int) 8 = (q : Int) := by rw [show (8 : Int) = ((8 : Nat) : Int) from rfl, tdiv_nat, hpq]
    have hq2 : (q : Int) < s.size := by omega
    have hk2 : k < 8 := by omega
    have HV := Lib.hid hv
    clear hv hpq hpk
    obtain ⟨m, hm⟩ : ∃ m, 2 ^ k = m := ⟨_, rfl⟩
    have HM := Lib.hid hm
    have hm1 : 1 ≤ m := by rw [← hm]; exact Nat.one_le_two_pow
    clear hm
    have hm2 : ((m : Int) == 0) = false := by simp; omega
    have hm0 : (m : Int) ≠ 0 := by omega
    have hx : s[q].toNat < 256 := s[q].toNat_lt
    obtain ⟨y, hy⟩ : ∃ y, s[q].toNat / m = y := ⟨_, rfl⟩
    have hd : y < 256 := by rw [← hy]; exact Nat.lt_of_le_of_lt (Nat.div_le_self _ _) hx
    have e6 : Int.tdiv (s[q].toNat : Int) (m : Int) = (y : Int) := by rw [tdiv_nat, hy]
    have e7 : Int.tmod (y : Int) 2 = ((y % 2 : Nat) : Int) := tmod_nat _ 2
    have e8 : wrap64 (s[q].toNat : Int) = (s[q].toNat : Int) := by unfold wrap64; omega
    have e9 : IntKind.i64.wrap (y : Int) = (y : Int) := by rw [IntKind.wrap_i64]; omega
    have HY := Lib.hid hy
    clear hy hx
    go_enter Tryd.func133, Tryd.ntmps133
    go_wp2_with fail
    go_quiet (fail)
    go_wp2_with fail
    go_quiet (first
      | (go_at_call 119; exact (pow_same k m HM (by omega) _).mono fun _ _ h => ⟨h.1, _, h.2⟩))
    go_wp2_with fail
    go_ret
    refine ⟨?_, ⟨?_, Nat.min_le_right _ _, hsz⟩, ?_⟩
    · show Ending.returned (.int .i64 ((y : Int) % 2)) = _
      rw [HV.out, HM.out, HY.out, show ((y : Int) % 2) = ((y % 2 : Nat) : Int) from by omega]
    · rw [Nat.min_eq_left (by omega), show decide (8 * s.size < p + 1) = false from by simp; omega, Bool.or_false]
      exact ((hb.drewN _).set 1 (.int .i64 ((p : Int) + 1)))
    · exact ((Kp.refl [g] w).drewN _).set (.inl (by simp)) _
  · have hi : 8 * (s.size : Int) ≤ p := by omega
    go_enter Tryd.func133, Tryd.ntmps133
    go_wp2_with fail
    go_quiet (fail)
    go_wp2_with fail
    go_ret
    refine ⟨by rw [numAt_end (by omega)]; rfl, ⟨?_, Nat.min_le_right _ _, hsz⟩, ?_⟩
    · rw [show min (p + 1) (8 * s.size) = p from by omega, show decide (8 * s.size < p + 1) = true from by simp; omega, Bool.or_true]
      exact ((hb.drewN _).set 2 (.bool true))
    · exact ((Kp.refl [g] w).drewN _).set (.inl (by simp)) _
set_option maxRecDepth 100000 in
theorem snum_calls (g n : Nat) (s : ByteArray) (p : Nat) (b : Bool) (w : World) (hw : SR w g s p b) (hn : n ≤ 16) :
    Calls Tryd.prog 134 #[.pointer (some ⟨g, 0, none⟩), .int .i64 (n : Int)] w fun e w' => e = .returned (.int .i64 (numAt s p n : Nat)) ∧ SR w' g s (min (p + n) (8 * s.size)) (b || decide (8 * s.size < p + n)) ∧ Kp [g] w w' := by
  go_enter Tryd.func134, Tryd.ntmps134
  go_wp2_with fail
  go_loopw [5, 6] (fun y x wr => ∃ (k : Nat), x = .int .i64 k ∧ k ≤ n ∧ y = .int .i64 (numAt s p k : Nat) ∧ SR wr g s (min (p + k) (8 * s.size)) (b || decide (8 * s.size < p + k)) ∧ Kp [g] w wr) (fun _ x _ => n - (intOf x).toNat)
  case atStart =>
    have hle := hw.le
    refine ⟨0, rfl, by omega, by simp [numAt, val], ?_, Kp.refl _ _⟩
    rw [Nat.add_zero, Nat.min_eq_left hle, show decide (8 * s.size < p) = false from by simp; omega, Bool.or_false]
    exact hw
  case round =>
    obtain ⟨k, rfl, hk, rfl, hr, K⟩ := hrel
    by_cases hlt : k < n
    · have hc := sbit_calls g s _ _ wr hr
      rw [numAt_min] at hc
      have hx := numAt_lt s (p + k) 1
      have hy := numAt_lt s p k
      have hs := numAt_succ s p k
      have hk3 : (k : Int) < n := by omega
      have HS := Lib.hid hs
      have HC := Lib.hid hc
      clear hs hc
      have hp16 : 2 ^ k ≤ 2 ^ 16 := Nat.pow_le_pow_right (by omega) (by omega)
      obtain ⟨m, hm⟩ : ∃ m, 2 ^ k = m := ⟨_, rfl⟩
      rw [hm] at hy hp16 HS
      have HM := Lib.hid hm
      clear hm
      generalize numAt s (p + k) 1 = x at *
      generalize numAt s p k = y at *
      have hmx : m * x ≤ m * 1 := Nat.mul_le_mul_left _ (by omega)
      have e1 : IntKind.i64.wrap ((x : Int) * (m : Int)) = ((m * x : Nat) : Int) := by rw [← Int.natCast_mul, Nat.mul_comm, IntKind.wrap_i64]; omega
      have e2 : IntKind.i64.wrap ((y : Int) + ((m * x : Nat) : Int)) = ((y + m * x : Nat) : Int) := by rw [IntKind.wrap_i64]; omega
      generalize m * x = z at *
      go_wp2_with fail
      refine HC.out.mono ?_
      rintro e w2 ⟨rfl, hr2, K2⟩
      go_wp2_with fail
      refine (pow_same k m HM (by omega) w2).mono ?_
      rintro e w3 ⟨rfl, rfl⟩
      go_wp2_with fail
      go_roundw
      case rel =>
        refine ⟨k + 1, by go_num, by omega, by rw [HS.out]; rfl, ?_, K.then K2⟩
        have e1 : min (min (p + k) (8 * s.size) + 1) (8 * s.size) = min (p + (k + 1)) (8 * s.size) := by omega
        have e2 : ((b || decide (8 * s.size < p + k)) || decide (8 * s.size < min (p + k) (8 * s.size) + 1)) = (b || decide (8 * s.size < p + (k + 1))) := by
          rw [Bool.or_assoc]; congr 1
          rw [Bool.eq_iff_iff]; simp; omega
        rw [e1, e2] at hr2
        exact hr2
      case measure => simp [intOf]; omega
    · obtain rfl : k = n := by omega
      go_wp2_with fail
      go_ret
      exact ⟨rfl, hr, K⟩
set_option maxRecDepth 100000 in
theorem swhole_calls (g : Nat) (s : ByteArray) (p : Nat) (b : Bool) (w : World) (hw : SR w g s p b) :
    Calls Tryd.prog 101 #[.pointer (some ⟨g, 0, none⟩)] w fun e w' => e = .returned (.bool (padOk s p)) ∧ SR w' g s (evenAt p) b ∧ Kp [g] w w' := by
  go_enter Tryd.func101, Tryd.ntmps101
  have hle := hw.le
  go_wp2_with fail
  go_loopw [3] (fun x wr => ∃ (q n : Nat), x = .int .i64 (n : Int) ∧ n ≤ q - p ∧ p ≤ q ∧ q ≤ evenAt p ∧ (n = 0 ↔ ((rest s p).take (q - p)).all (!·) = true) ∧ SR wr g s q b ∧ Kp [g] w wr) (fun _ wr => match wr.cell? ⟨g, 1, none⟩ with | some x => 8 * s.size - (intOf x).toNat | none => 0)
  case atStart =>
    refine ⟨p, 0, rfl, by omega, Nat.le_refl _, by unfold evenAt; omega, by simp, hw, Kp.refl _ _⟩
  case round =>
    obtain ⟨q, n, rfl, hnq, hpq, hq, hiff, hr, K⟩ := hrel
    have B := hr.out
    have hql := hr.le
    have c1 : wr.cell? ⟨g, 1, none⟩ = some (.int .i64 q) := (B.cell 1).trans rfl
    have e2 : Int.tmod (q : Int) 8 = ((q % 8 : Nat) : Int) := tmod_nat q 8
    have HI := Lib.hid hiff
    clear hiff
    have hn8 : n ≤ 8 := by unfold evenAt at hq; omega
    by_cases h8 : q % 8 = 0
    · have hqe : q = evenAt p := by unfold evenAt at *; omega
      rw [h8] at e2
      go_wp2_with fail
      go_ret
      refine ⟨?_, by rw [← hqe]; exact hr, K⟩
      have hpo : (((n : Int)) == 0) = padOk s p := by
        unfold padOk
        rw [← hqe, Bool.eq_iff_iff, ← HI.out]
        simp
      show Ending.returned (.bool ((n : Int) == 0)) = _
      rw [hpo]
    · have hqn : q + 1 ≤ evenAt p := by unfold evenAt at *; omega
      have hqs : q < 8 * s.size := by unfold evenAt at *; omega
      have h8' : ((((q % 8 : Nat) : Int)) != 0) = true := by simp; omega
      have hc := sbit_calls g s _ _ wr hr
      have HC := Lib.hid hc
      clear hc
      have hs : ((rest s p).take (q + 1 - p)).all (!·) = (((rest s p).take (q - p)).all (!·) && (numAt s q 1 == 0)) := by
        have hl : q - p < (rest s p).length := by rw [rest_length]; omega
        rw [show q + 1 - p = (q - p) + 1 from by omega, List.take_succ_eq_append_getElem hl, List.all_append]
        have e : rest s q = (rest s p)[q - p] :: rest s (q + 1) := by
          have := rest_drop s p (q - p)
          rw [show p + (q - p) = q from by omega] at this
          have h3 := rest_drop s p (q + 1 - p)
          rw [show p + (q + 1 - p) = q + 1 from by omega] at h3
          rw [← this, ← h3, List.drop_eq_getElem_cons hl, show q - p + 1 = q + 1 - p from by omega]
        unfold numAt
        rw [e]
        cases (rest s p)[q - p] <;> rfl
      have HS := Lib.hid hs
      clear hs
      have hx := numAt_lt s q 1
      obtain ⟨x, hxx⟩ : ∃ x, numAt s q 1 = x := ⟨_, rfl⟩
      rw [hxx] at hx HS
      have HX := Lib.hid hxx
      clear hxx
      go_wp2_with fail
      refine HC.out.mono ?_
      rintro e w2 ⟨rfl, hr2, K2⟩
      rw [HX.out]
      go_wp2_with fail
      have hr3 : SR w2 g s (q + 1) b := by
        rw [Nat.min_eq_left (by omega), show decide (8 * s.size < q + 1) = false from by simp; omega, Bool.or_false] at hr2
        exact hr2
      go_roundw
      case rel =>
        refine ⟨q + 1, n + x, by go_num, by omega, by omega, hqn, ?_, hr3, K.then K2⟩
        rw [HS.out, Bool.and_eq_true, ← HI.out, beq_iff_eq]
        omega
      case measure =>
        have c3 : w2.cell? ⟨g, 1, none⟩ = some (.int .i64 ((q + 1 : Nat) : Int)) := (hr3.out.cell 1).trans rfl
        rw [c3, c1]
        simp [intOf]; omega
end Go.Proofs.YtncidljdfipigaaDoor.Wi
