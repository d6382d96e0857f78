/- Own texts joined: Si, Ss, Sd. -/
import Derived.Test.YtnadjlejlohgiaaGreatDoorW8
import Derived.Test.YtnadjlejlohgiaaGreatDoorW11
import Derived.Test.YtnadjlejlohgiaaGreatDoorW14
/- The specification's reader of bits: what bit, num and whole do. Conditions: a reader of a text. -/
namespace Go.Proofs.YtnadjlejlohgiaaGreatDoor.Wi
open Go.RowKit Go.Proofs.YtnadjlejlohgiaaGreatDoor.Mem Go.Proofs.YtnadjlejlohgiaaGreatDoor.Bt
set_option linter.unusedVariables false
set_option linter.unusedSimpArgs false
/-- The specification's reader at block g: the text, where it is, whether it is bad. -/
structure SR (w : World) (g : Nat) (s : ByteArray) (p : Nat) (bad : Bool) : Prop where mk ::
  out : Blk w g 138 #[.string s, .int .i64 (p : Int), .bool bad]
  le : p ≤ 8 * s.size
  sz : s.size ≤ 1000000
theorem SR.kp {w w' : World} {g p : Nat} {s : ByteArray} {b : Bool} {S : List Nat} (h : SR w g s p b) (k : Kp S w w') (hg : g ∉ S) : SR w' g s p b := ⟨k.blk h.out hg, h.le, h.sz⟩
theorem SR.on {w w' : World} {g p : Nat} {s : ByteArray} {b : Bool} (h : SR w g s p b) (O : On w w') : SR w' g s p b := h.kp (Kp.of [] O) (by simp)
set_option maxRecDepth 100000 in
theorem sbit_calls (g : Nat) (s : ByteArray) (p : Nat) (b : Bool) (w : World) (hw : SR w g s p b) :
    Calls Tryz.prog 152 #[.pointer (some ⟨g, 0, none⟩)] w fun e w' => e = .returned (.int .i64 (numAt s p 1 : Nat)) ∧ SR w' g s (min (p + 1) (8 * s.size)) (b || decide (8 * s.size < p + 1)) ∧ Kp [g] w w' := by
  obtain ⟨hb, hle, hsz⟩ := hw
  have c0 : w.cell? ⟨g, 0, none⟩ = some (.string s) := (hb.cell 0).trans rfl
  have c1 : w.cell? ⟨g, 1, none⟩ = some (.int .i64 p) := (hb.cell 1).trans rfl
  have c2 : w.cell? ⟨g, 2, none⟩ = some (.bool b) := (hb.cell 2).trans rfl
  have fr : ∀ i, w.frozen? ⟨g, i, none⟩ = false := hb.frozen
  have e0 : IntKind.i64.wrap (8 * (s.size : Int)) = 8 * (s.size : Int) := by rw [IntKind.wrap_i64]; omega
  by_cases h : p < 8 * s.size
  · have hi : (p : Int) < 8 * s.size := by omega
    have hi2 : decide (8 * (s.size : Int) ≤ (p : Int)) = false := by simp; omega
    obtain ⟨q, k, hq, hpq, hpk, hv⟩ : ∃ q k, ∃ hq : q < s.size, p / 8 = q ∧ p % 8 = k ∧ numAt s p 1 = s[q].toNat / 2 ^ k % 2 := ⟨p / 8, p % 8, by omega, rfl, rfl, numAt_one h⟩
    have e1 : IntKind.i64.wrap ((p : Int) / 8) = (q : Int) := by rw [IntKind.wrap_i64]; omega
    have e2 : Int.tmod (p : Int) 8 = (k : Int) := by rw [show (8 : Int) = ((8 : Nat) : Int) from rfl, tmod_nat, hpk]
    have e3 : Int.tdiv (p : Int) 8 = (q : Int) := by rw [show (8 : Int) = ((8 : Nat) : Int) from rfl, tdiv_nat, hpq]
    have hq2 : (q : Int) < s.size := by omega
    have hk2 : k < 8 := by omega
    have HV := Lib.hid hv
    clear hv hpq hpk
    obtain ⟨m, hm⟩ : ∃ m, 2 ^ k = m := ⟨_, rfl⟩
    have HM := Lib.hid hm
    have hm1 : 1 ≤ m := by rw [← hm]; exact Nat.one_le_two_pow
    clear hm
    have hm2 : ((m : Int) == 0) = false := by simp; omega
    have hm0 : (m : Int) ≠ 0 := by omega
    have hx : s[q].toNat < 256 := s[q].toNat_lt
    obtain ⟨y, hy⟩ : ∃ y, s[q].toNat / m = y := ⟨_, rfl⟩
    have hd : y < 256 := by rw [← hy]; exact Nat.lt_of_le_of_lt (Nat.div_le_self _ _) hx
    have e6 : Int.tdiv (s[q].toNat : Int) (m : Int) = (y : Int) := by rw [tdiv_nat, hy]
    have e7 : Int.tmod (y : Int) 2 = ((y % 2 : Nat) : Int) := tmod_nat _ 2
    have e8 : wrap64 (s[q].toNat : Int) = (s[q].toNat : Int) := by unfold wrap64; omega
    have e9 : IntKind.i64.wrap (y : Int) = (y : Int) := by rw [IntKind.wrap_i64]; omega
    have HY := Lib.hid hy
    clear hy hx
    go_enter Tryz.func152, Tryz.ntmps152
    go_wp2_with fail
    go_quiet (fail)
    go_wp2_with fail
    go_quiet (first
      | (go_at_call 161; exact (pow_same k m HM (by omega) _).mono fun _ _ h => ⟨h.1, _, h.2⟩))
    go_wp2_with fail
    go_ret
    refine ⟨?_, ⟨?_, Nat.min_le_right _ _, hsz⟩, ?_⟩
    · show Ending.returned (.int .i64 ((y : Int) % 2)) = _
      rw [HV.out, HM.out, HY.out, show ((y : Int) % 2) = ((y % 2 : Nat) : Int) from by omega]
    · rw [Nat.min_eq_left (by omega), show decide (8 * s.size < p + 1) = false from by simp; omega, Bool.or_false]
      exact ((hb.drewN _).set 1 (.int .i64 ((p : Int) + 1)))
    · exact ((Kp.refl [g] w).drewN _).set (.inl (by simp)) _
  · have hi : 8 * (s.size : Int) ≤ p := by omega
    go_enter Tryz.func152, Tryz.ntmps152
    go_wp2_with fail
    go_quiet (fail)
    go_wp2_with fail
    go_ret
    refine ⟨by rw [numAt_end (by omega)]; rfl, ⟨?_, Nat.min_le_right _ _, hsz⟩, ?_⟩
    · rw [show min (p + 1) (8 * s.size) = p from by omega, show decide (8 * s.size < p + 1) = true from by simp; omega, Bool.or_true]
      exact ((hb.drewN _).set 2 (.bool true))
    · exact ((Kp.refl [g] w).drewN _).set (.inl (by simp)) _
set_option maxRecDepth 100000 in
theorem snum_calls (g n : Nat) (s : ByteArray) (p : Nat) (b : Bool) (w : World) (hw : SR w g s p b) (hn : n ≤ 16) :
    Calls Tryz.prog 153 #[.pointer (some ⟨g, 0, none⟩), .int .i64 (n : Int)] w fun e w' => e = .returned (.int .i64 (numAt s p n : Nat)) ∧ SR w' g s (min (p + n) (8 * s.size)) (b || decide (8 * s.size < p + n)) ∧ Kp [g] w w' := by
  go_enter Tryz.func153, Tryz.ntmps153
  go_wp2_with fail
  go_loopw [5, 6] (fun y x wr => ∃ (k : Nat), x = .int .i64 k ∧ k ≤ n ∧ y = .int .i64 (numAt s p k : Nat) ∧ SR wr g s (min (p + k) (8 * s.size)) (b || decide (8 * s.size < p + k)) ∧ Kp [g] w wr) (fun _ x _ => n - (intOf x).toNat)
  case atStart =>
    have hle := hw.le
    refine ⟨0, rfl, by omega, by simp [numAt, val], ?_, Kp.refl _ _⟩
    rw [Nat.add_zero, Nat.min_eq_left hle, show decide (8 * s.size < p) = false from by simp; omega, Bool.or_false]
    exact hw
  case round =>
    obtain ⟨k, rfl, hk, rfl, hr, K⟩ := hrel
    by_cases hlt : k < n
    · have hc := sbit_calls g s _ _ wr hr
      rw [numAt_min] at hc
      have hx := numAt_lt s (p + k) 1
      have hy := numAt_lt s p k
      have hs := numAt_succ s p k
      have hk3 : (k : Int) < n := by omega
      have HS := Lib.hid hs
      have HC := Lib.hid hc
      clear hs hc
      have hp16 : 2 ^ k ≤ 2 ^ 16 := Nat.pow_le_pow_right (by omega) (by omega)
      obtain ⟨m, hm⟩ : ∃ m, 2 ^ k = m := ⟨_, rfl⟩
      rw [hm] at hy hp16 HS
      have HM := Lib.hid hm
      clear hm
      generalize numAt s (p + k) 1 = x at *
      generalize numAt s p k = y at *
      have hmx : m * x ≤ m * 1 := Nat.mul_le_mul_left _ (by omega)
      have e1 : IntKind.i64.wrap ((x : Int) * (m : Int)) = ((m * x : Nat) : Int) := by rw [← Int.natCast_mul, Nat.mul_comm, IntKind.wrap_i64]; omega
      have e2 : IntKind.i64.wrap ((y : Int) + ((m * x : Nat) : Int)) = ((y + m * x : Nat) : Int) := by rw [IntKind.wrap_i64]; omega
      generalize m * x = z at *
      go_wp2_with fail
      refine HC.out.mono ?_
      rintro e w2 ⟨rfl, hr2, K2⟩
      go_wp2_with fail
      refine (pow_same k m HM (by omega) w2).mono ?_
      rintro e w3 ⟨rfl, rfl⟩
      go_wp2_with fail
      go_roundw
      case rel =>
        refine ⟨k + 1, by go_num, by omega, by rw [HS.out]; rfl, ?_, K.then K2⟩
        have e1 : min (min (p + k) (8 * s.size) + 1) (8 * s.size) = min (p + (k + 1)) (8 * s.size) := by omega
        have e2 : ((b || decide (8 * s.size < p + k)) || decide (8 * s.size < min (p + k) (8 * s.size) + 1)) = (b || decide (8 * s.size < p + (k + 1))) := by
          rw [Bool.or_assoc]; congr 1
          rw [Bool.eq_iff_iff]; simp; omega
        rw [e1, e2] at hr2
        exact hr2
      case measure => simp [intOf]; omega
    · obtain rfl : k = n := by omega
      go_wp2_with fail
      go_ret
      exact ⟨rfl, hr, K⟩
set_option maxRecDepth 100000 in
theorem swhole_calls (g : Nat) (s : ByteArray) (p : Nat) (b : Bool) (w : World) (hw : SR w g s p b) :
    Calls Tryz.prog 136 #[.pointer (some ⟨g, 0, none⟩)] w fun e w' => e = .returned (.bool (padOk s p)) ∧ SR w' g s (evenAt p) b ∧ Kp [g] w w' := by
  go_enter Tryz.func136, Tryz.ntmps136
  have hle := hw.le
  go_wp2_with fail
  go_loopw [3] (fun x wr => ∃ (q n : Nat), x = .int .i64 (n : Int) ∧ n ≤ q - p ∧ p ≤ q ∧ q ≤ evenAt p ∧ (n = 0 ↔ ((rest s p).take (q - p)).all (!·) = true) ∧ SR wr g s q b ∧ Kp [g] w wr) (fun _ wr => match wr.cell? ⟨g, 1, none⟩ with | some x => 8 * s.size - (intOf x).toNat | none => 0)
  case atStart =>
    refine ⟨p, 0, rfl, by omega, Nat.le_refl _, by unfold evenAt; omega, by simp, hw, Kp.refl _ _⟩
  case round =>
    obtain ⟨q, n, rfl, hnq, hpq, hq, hiff, hr, K⟩ := hrel
    have B := hr.out
    have hql := hr.le
    have c1 : wr.cell? ⟨g, 1, none⟩ = some (.int .i64 q) := (B.cell 1).trans rfl
    have e2 : Int.tmod (q : Int) 8 = ((q % 8 : Nat) : Int) := tmod_nat q 8
    have HI := Lib.hid hiff
    clear hiff
    have hn8 : n ≤ 8 := by unfold evenAt at hq; omega
    by_cases h8 : q % 8 = 0
    · have hqe : q = evenAt p := by unfold evenAt at *; omega
      rw [h8] at e2
      go_wp2_with fail
      go_ret
      refine ⟨?_, by rw [← hqe]; exact hr, K⟩
      have hpo : (((n : Int)) == 0) = padOk s p := by
        unfold padOk
        rw [← hqe, Bool.eq_iff_iff, ← HI.out]
        simp
      show Ending.returned (.bool ((n : Int) == 0)) = _
      rw [hpo]
    · have hqn : q + 1 ≤ evenAt p := by unfold evenAt at *; omega
      have hqs : q < 8 * s.size := by unfold evenAt at *; omega
      have h8' : ((((q % 8 : Nat) : Int)) != 0) = true := by simp; omega
      have hc := sbit_calls g s _ _ wr hr
      have HC := Lib.hid hc
      clear hc
      have hs : ((rest s p).take (q + 1 - p)).all (!·) = (((rest s p).take (q - p)).all (!·) && (numAt s q 1 == 0)) := by
        have hl : q - p < (rest s p).length := by rw [rest_length]; omega
        rw [show q + 1 - p = (q - p) + 1 from by omega, List.take_succ_eq_append_getElem hl, List.all_append]
        have e : rest s q = (rest s p)[q - p] :: rest s (q + 1) := by
          have := rest_drop s p (q - p)
          rw [show p + (q - p) = q from by omega] at this
          have h3 := rest_drop s p (q + 1 - p)
          rw [show p + (q + 1 - p) = q + 1 from by omega] at h3
          rw [← this, ← h3, List.drop_eq_getElem_cons hl, show q - p + 1 = q + 1 - p from by omega]
        unfold numAt
        rw [e]
        cases (rest s p)[q - p] <;> rfl
      have HS := Lib.hid hs
      clear hs
      have hx := numAt_lt s q 1
      obtain ⟨x, hxx⟩ : ∃ x, numAt s q 1 = x := ⟨_, rfl⟩
      rw [hxx] at hx HS
      have HX := Lib.hid hxx
      clear hxx
      go_wp2_with fail
      refine HC.out.mono ?_
      rintro e w2 ⟨rfl, hr2, K2⟩
      rw [HX.out]
      go_wp2_with fail
      have hr3 : SR w2 g s (q + 1) b := by
        rw [Nat.min_eq_left (by omega), show decide (8 * s.size < q + 1) = false from by simp; omega, Bool.or_false] at hr2
        exact hr2
      go_roundw
      case rel =>
        refine ⟨q + 1, n + x, by go_num, by omega, by omega, hqn, ?_, hr3, K.then K2⟩
        rw [HS.out, Bool.and_eq_true, ← HI.out, beq_iff_eq]
        omega
      case measure =>
        have c3 : w2.cell? ⟨g, 1, none⟩ = some (.int .i64 ((q + 1 : Nat) : Int)) := (hr3.out.cell 1).trans rfl
        rw [c3, c1]
        simp [intOf]; omega
end Go.Proofs.YtnadjlejlohgiaaGreatDoor.Wi

/- The specification's reader takes a symbol. Conditions: a reader, lengths and their codes. -/
namespace Go.Proofs.YtnadjlejlohgiaaGreatDoor.Wi
open Go.RowKit Go.Proofs.YtnadjlejlohgiaaGreatDoor.Mem Go.Proofs.YtnadjlejlohgiaaGreatDoor.Bt Go.Proofs.YtnadjlejlohgiaaGreatDoor.Cd Go.Proofs.YtnadjlejlohgiaaGreatDoor.De
set_option linter.unusedVariables false
set_option linter.unusedSimpArgs false
/-- What symbol leaves. -/
structure SymOut (lens : List Nat) (n : Nat) (s : ByteArray) (p : Nat) (b : Bool) (g : Nat) (w : World) (e : Ending) (w' : World) : Prop where mk ::
  out : ∃ (v : Int) (x p' : Nat) (b' : Bool), e = .returned (.int .i64 v) ∧ SR w' g s p' b' ∧ Ans (sym lens) s p b x p' b' ∧ (b' = false → v = x ∧ x < n) ∧ -1 ≤ v ∧ v ≤ n ∧ Kp [g] w w'
theorem find_not {lens : List Nat} {l c : Nat} (h : ∀ j, j < lens.length → ¬ (lens.getD j 0 = l ∧ code lens j = c)) : find lens l c = none := by
  unfold find
  refine List.find?_eq_none.2 fun j hj => ?_
  simpa using h j (by simpa using hj)
set_option maxRecDepth 100000 in
set_option maxHeartbeats 2000000 in
theorem ssymbol_calls (lens : List Nat) (g n gl ol cl ga ca : Nat) (s : ByteArray) (p : Nat) (b : Bool) (w : World) (hw : SR w g s p b) (hl : RowO w gl ol 3 (i64s lens)) (ha : RowO w ga 0 3 (i64s (codes lens)))
    (hn : lens.length = n) (hn2 : n ≤ 1000) (hc : n ≤ cl) (hca : n ≤ ca) (fl : gl ≠ g) (fa : ga ≠ g) :
    Calls Tryz.prog 173 #[.pointer (some ⟨g, 0, none⟩), .slice (some ⟨gl, ol, none⟩) n cl, .slice (some ⟨ga, 0, none⟩) n ca] w fun e w' => SymOut lens n s p b g w e w' := by
  have HN := Lib.hid hn
  have HF1 := Lib.hid fl
  have HF2 := Lib.hid fa
  clear hn fl fa
  go_enter Tryz.func173, Tryz.ntmps173
  go_wp2_with fail
  go_loopw [7, 8] (fun y x wr => ∃ (l c q : Nat) (b' : Bool), x = .int .i64 (l : Int) ∧ 1 ≤ l ∧ l ≤ 16 ∧ y = .int .i64 (c : Int) ∧ RowKit.Hid (c < 2 ^ (l - 1)) ∧ SR wr g s q b' ∧ Kp [g] w wr ∧ (b' = true → b = true ∨ sym lens (rest s p) = none) ∧ (b' = false → b = false ∧ sym lens (rest s p) = symGo lens (16 - l) l c (rest s q))) (fun _ x _ => 16 - (intOf x).toNat)
  case atStart => exact ⟨1, 0, p, b, rfl, by omega, by omega, rfl, Lib.hid (by decide), hw, Kp.refl _ _, fun e => .inl e, fun e => ⟨e, rfl⟩⟩
  case round =>
    obtain ⟨l, c, q, b', rfl, hl1, hl16, rfl, HC, hr, K, hbad, hgood⟩ := hrel
    have c2 : wr.cell? ⟨g, 2, none⟩ = some (.bool b') := (hr.out.cell 2).trans rfl
    have fr : ∀ i, wr.frozen? ⟨g, i, none⟩ = false := hr.out.frozen
    cases hb' : b' with
    | true =>
      rw [hb'] at c2 hr hbad
      have HB := Lib.hid (hbad rfl)
      clear hbad hgood
      by_cases hlt : l ≤ 15
      · have hlt' : (l : Int) ≤ 15 := by omega
        go_wp2_with fail
        go_ret
        exact ⟨-1, 0, q, true, rfl, ⟨hr.out.set 2 (.bool true), hr.le, hr.sz⟩, ⟨fun _ => HB.out, fun e => (by cases e)⟩, fun e => (by cases e), by omega, by omega, K.set (.inl (by simp)) _⟩
      · have hlt' : decide ((l : Int) ≤ 15) = false := by simp; omega
        go_wp2_with fail
        go_ret
        exact ⟨-1, 0, q, true, rfl, ⟨hr.out.set 2 (.bool true), hr.le, hr.sz⟩, ⟨fun _ => HB.out, fun e => (by cases e)⟩, fun e => (by cases e), by omega, by omega, K.set (.inl (by simp)) _⟩
    | false =>
      rw [hb'] at c2 hr hgood
      obtain ⟨g1, g2⟩ := hgood rfl
      have HG2 := Lib.hid g2
      clear hbad hgood g2
      by_cases hlt : l ≤ 15
      · have hlt' : (l : Int) ≤ 15 := by omega
        have hp : 2 ^ (l - 1) ≤ 2 ^ 14 := Nat.pow_le_pow_right (by omega) (by omega)
        have hp2 : 2 ^ (l + 1 - 1) = 2 * 2 ^ (l - 1) := by rw [show l + 1 - 1 = (l - 1) + 1 from by omega, Nat.pow_succ, Nat.mul_comm]
        have hx := numAt_lt s q 1
        have HCb := Lib.hid (sbit_calls g s q false wr hr)
        have hql := hr.le
        obtain ⟨x, hxx⟩ : ∃ x, numAt s q 1 = x := ⟨_, rfl⟩
        rw [hxx] at hx
        have HX := Lib.hid hxx
        have hcl := HC.out
        have e1 : IntKind.i64.wrap (2 * (c : Int)) = 2 * (c : Int) := by rw [IntKind.wrap_i64]; omega
        have e2 : IntKind.i64.wrap (2 * (c : Int) + (x : Int)) = ((2 * c + x : Nat) : Int) := by rw [IntKind.wrap_i64]; omega
        have hc2 : 2 * c + x < 2 * 2 ^ (l - 1) := by omega
        rw [← hp2] at hc2
        have HC2 := Lib.hid hc2
        have hgood2 : (false || decide (8 * s.size < q + 1)) = false → sym lens (rest s p) = match find lens l (2 * c + x) with
            | some k => some (k, rest s (min (q + 1) (8 * s.size)))
            | none => symGo lens (16 - (l + 1)) (l + 1) (2 * c + x) (rest s (min (q + 1) (8 * s.size))) := fun e => by
          simp only [Bool.or_eq_false_iff, decide_eq_false_iff_not] at e
          rw [HG2.out, show 16 - l = (16 - (l + 1)) + 1 from by omega, symGo_step (by omega), HX.out, Nat.min_eq_left (by omega)]
          cases find lens l (2 * c + x) <;> rfl
        have hbad2 : (false || decide (8 * s.size < q + 1)) = true → sym lens (rest s p) = none := fun e => by
          simp only [Bool.or_eq_true, decide_eq_true_eq] at e
          rw [HG2.out]
          exact symGo_end (by rcases e with e | e; · cases e
                              · omega)
        obtain ⟨cx, hcx⟩ : ∃ cx, 2 * c + x = cx := ⟨_, rfl⟩
        rw [hcx] at e2 hgood2 HC2
        have HGD := Lib.hid hgood2
        have HBD := Lib.hid hbad2
        clear hgood2 hbad2 hp hp2 hc2 hcx hxx hcl
        have K0 := K
        go_wp2_with fail
        refine HCb.out.mono ?_
        rintro e w2 ⟨rfl, hr2, K2⟩
        rw [HX.out]
        generalize hbb : (false || decide (8 * s.size < q + 1)) = bb at *
        generalize hqq : min (q + 1) (8 * s.size) = qq at *
        have K3 := K.then K2
        have hl2 := hl.kp K3 (by simpa using HF1.out)
        have ha2 := ha.kp K3 (by simpa using HF2.out)
        go_wp2_with fail
        go_loopw [9] (fun x w3 => ∃ i : Nat, x = .int .i64 (i : Int) ∧ i ≤ n ∧ w3 = w2 ∧ ∀ j, j < i → ¬ (lens.getD j 0 = l ∧ code lens j = cx)) (fun x _ => n - (intOf x).toNat)
        case atStart => exact ⟨0, rfl, by omega, rfl, fun j hj => by omega⟩
        case round =>
          obtain ⟨i, rfl, hi, hw3, hno⟩ := hrel
          obtain rfl : w2 = wr := hw3.symm
          have HNO := Lib.hid hno
          clear hno
          by_cases hin : i < n
          · have hin' : (i : Int) < n := by omega
            have hil : i < lens.length := by rw [HN.out]; exact hin
            have d0 := hl2.cell (i64s_get hil)
            have d1 := ha2.cell (i64s_get (l := codes lens) (i := i) (by rw [codes_length]; exact hil))
            rw [codes_getD lens hil] at d1
            obtain ⟨y, hy⟩ : ∃ y, lens.getD i 0 = y := ⟨_, rfl⟩
            obtain ⟨z, hz⟩ : ∃ z, code lens i = z := ⟨_, rfl⟩
            rw [hy] at d0
            rw [hz] at d1
            have HY := Lib.hid hy
            have HZ := Lib.hid hz
            clear hy hz
            rw [Nat.zero_add] at d1
            by_cases hyl : y = l
            · by_cases hzc : z = cx
              · have hyl' : ((y : Int) == (l : Int)) = true := by simp; omega
                have hzc' : ((z : Int) == (cx : Int)) = true := by simp; omega
                have hf := find_is hil (HY.out.trans hyl) (HZ.out.trans hzc) hl1 (by omega)
                have HF := Lib.hid hf
                clear hf
                go_wp2_with fail
                go_ret
                refine ⟨i, i, qq, bb, rfl, hr2, ⟨fun e => .inr (HBD.out e), fun e => ⟨(by first | exact g1 | rfl), ?_⟩⟩, fun _ => ⟨rfl, hin⟩, by omega, by omega, K3⟩
                have := HGD.out e
                rw [HF.out] at this
                exact this
              · have hyl' : ((y : Int) == (l : Int)) = true := by simp; omega
                have hzc' : ((z : Int) == (cx : Int)) = false := by simp; omega
                go_wp2_with fail
                go_roundw
                case rel => exact ⟨i + 1, by go_num, by omega, (by first | rfl | trivial), fun j hj => (by
                  rcases Nat.lt_or_ge j i with h | h
                  · exact HNO.out j h
                  · obtain rfl : j = i := by omega
                    rw [HZ.out]; exact fun h => hzc h.2)⟩
                case measure => simp [intOf]; omega
            · have hyl' : ((y : Int) == (l : Int)) = false := by simp; omega
              go_wp2_with fail
              go_roundw
              case rel => exact ⟨i + 1, by go_num, by omega, (by first | rfl | trivial), fun j hj => (by
                rcases Nat.lt_or_ge j i with h | h
                · exact HNO.out j h
                · obtain rfl : j = i := by omega
                  rw [HY.out]; exact fun h => hyl h.1)⟩
              case measure => simp [intOf]; omega
          · obtain rfl : i = n := by omega
            have hf : find lens l cx = none := find_not (fun j hj => HNO.out j (by rw [← HN.out]; exact hj))
            have HF := Lib.hid hf
            clear hf
            go_wp2_with fail
            go_roundw
            case rel =>
              refine ⟨l + 1, cx, qq, bb, by go_num, by omega, by omega, rfl, Lib.hid HC2.out, hr2, K3, fun e => .inr (HBD.out e), fun e => ⟨(by first | exact g1 | rfl), ?_⟩⟩
              have := HGD.out e
              rw [HF.out] at this
              exact this
            case measure => simp [intOf]; omega
      · have hlt' : decide ((l : Int) ≤ 15) = false := by simp; omega
        obtain rfl : l = 16 := by omega
        go_wp2_with fail
        go_ret
        exact ⟨-1, 0, q, true, rfl, ⟨hr.out.set 2 (.bool true), hr.le, hr.sz⟩, ⟨fun _ => .inr HG2.out, fun e => (by cases e)⟩, fun e => (by cases e), by omega, by omega, K.set (.inl (by simp)) _⟩
end Go.Proofs.YtnadjlejlohgiaaGreatDoor.Wi

/- The specification's reader takes a part that is not packed. Conditions: a reader, a row of bytes. -/
namespace Go.Proofs.YtnadjlejlohgiaaGreatDoor.Wi
open Go.RowKit Go.Proofs.YtnadjlejlohgiaaGreatDoor.Mem Go.Proofs.YtnadjlejlohgiaaGreatDoor.Bt Go.Proofs.YtnadjlejlohgiaaGreatDoor.Cd Go.Proofs.YtnadjlejlohgiaaGreatDoor.De
set_option linter.unusedVariables false
set_option linter.unusedSimpArgs false
/-- What a call of the specification's reader leaves that adds to bytes: all but the reader's block and the row's; what it has taken is told where the bytes ahead were no more than may be. -/
structure SOut (d : Dec (List Nat)) (s : ByteArray) (p : Nat) (b : Bool) (l : List Nat) (g r : Nat) (w : World) (e : Ending) (w' : World) : Prop where mk ::
  out : ∃ (p' : Nat) (b' : Bool) (r' cap' : Nat) (l' : List Nat), e = .returned (.slice (some ⟨r', 0, none⟩) l'.length cap') ∧ SR w' g s p' b' ∧ By w' r' cap' l' ∧ Kp [g, r] w w' ∧ (r' = r ∨ w.heap.size ≤ r') ∧ (l.length ≤ 300 → AnsO d s p b l' p' b') ∧ l.length ≤ l'.length ∧ l'.length ≤ l.length + 400 ∧ (b' = false → b = false ∧ (p ≤ p' ∨ l'.length ≤ 300))
set_option maxRecDepth 100000 in
set_option maxHeartbeats 1000000 in
theorem sstored_calls (g r cap n : Nat) (s : ByteArray) (p : Nat) (b : Bool) (l : List Nat) (w : World) (hw : SR w g s p b) (hb : By w r cap l) (hn : l.length = n) (hn2 : n ≤ 90000000) (hgr : g ≠ r) :
    Calls Tryz.prog 154 #[.pointer (some ⟨g, 0, none⟩), .slice (some ⟨r, 0, none⟩) n cap] w fun e w' => SOut (De.stored l) s p b l g r w e w' := by
  have HN := Lib.hid hn
  clear hn
  have HE := Lib.hid (swhole_calls g s p b w hw)
  have A1 := Lib.hid (ans_align (b := b) hw.le)
  have hp := hw.le
  have hgl := hw.out.lt
  have hrl := hb.lt
  go_enter Tryz.func154, Tryz.ntmps154
  go_wp2_with fail
  refine HE.out.mono ?_
  rintro e w1 ⟨rfl, hw1, K1⟩
  have hb1 := hb.kp K1 (by simpa using Ne.symm hgr)
  have hpe : p ≤ evenAt p := by unfold evenAt; omega
  generalize hq1 : evenAt p = q1 at *
  have W2 : ∃ w2 x1, (x1 = (b || !padOk s p)) ∧ SR w2 g s q1 x1 ∧ By w2 r cap l ∧ Kp [g] w w2 ∧ w2 = (if padOk s p = true then w1 else w1.setCell ⟨g, 2, none⟩ (.bool true)) := by
    cases hpo : padOk s p with
    | true => exact ⟨w1, b, by simp, hw1, hb1, K1, rfl⟩
    | false =>
      have K := K1.set (p := ⟨g, 2, none⟩) (.inl (by simp)) (.bool true)
      exact ⟨_, true, by simp, ⟨hw1.out.set 2 (.bool true), hw1.le, hw1.sz⟩, hb.kp K (by simpa using Ne.symm hgr), K, rfl⟩
  obtain ⟨w2, x1, hx1, hw2, hb2, K2, hw2e⟩ := W2
  rw [← hx1] at A1
  have c2 : w1.cell? ⟨g, 2, none⟩ = some (.bool b) := (hw1.out.cell 2).trans rfl
  have fr1 : ∀ i, w1.frozen? ⟨g, i, none⟩ = false := hw1.out.frozen
  have HX1 := Lib.hid hx1
  clear hx1
  have A2 := Lib.hid (ans_num (n := 16) (b := x1) hw2.le)
  have HE2 := Lib.hid (snum_calls g 16 s q1 x1 w2 hw2 (by omega))
  have hm1 := numAt_lt s q1 16
  generalize hq2 : min (q1 + 16) (8 * s.size) = q2 at *
  generalize hx2 : (x1 || decide (8 * s.size < q1 + 16)) = x2 at *
  generalize numAt s q1 16 = m at *
  cases hpo : padOk s p
  all_goals
    rw [hpo] at hw2e
    simp only [if_true, Bool.false_eq_true, if_false] at hw2e
    go_wp2_with fail
    rw [← hw2e]
    refine HE2.out.mono ?_
    rintro e w3 ⟨rfl, hw3, K3⟩
    clear hw2e c2 fr1
    have hb3 := hb2.kp K3 (by simpa using Ne.symm hgr)
    have A3 := Lib.hid (ans_num (n := 16) (b := x2) hw3.le)
    have HE3 := Lib.hid (snum_calls g 16 s q2 x2 w3 hw3 (by omega))
    have hm2 := numAt_lt s q2 16
    generalize hq3 : min (q2 + 16) (8 * s.size) = q at *
    generalize hx3 : (x2 || decide (8 * s.size < q2 + 16)) = x3 at *
    generalize numAt s q2 16 = mm at *
    go_wp2_with fail
    refine HE3.out.mono ?_
    rintro e w4 ⟨rfl, hw4, K4⟩
    have hb4 := hb3.kp K4 (by simpa using Ne.symm hgr)
    have hfin : ∀ (l' : List Nat) (p' : Nat) (b' : Bool), AnsO (if m + mm = 65535 ∧ l.length + m ≤ 300 then next (De.bytes m) fun x => ret (l ++ x) else De.bad) s q x3 l' p' b' → AnsO (De.stored l) s p b l' p' b' := fun l' p' b' h =>
      AnsO.next A1.out (AnsO.next A2.out (AnsO.next A3.out h))
    have HF := Lib.hid hfin
    have HK : RowKit.Hid (Kp [g, r] w w4) := Lib.hid (((K2.then K3).then K4).mono (fun x hx => .inl (by simp at hx ⊢; exact .inl hx)))
    have e1 : IntKind.i64.wrap (65535 - (m : Int)) = ((65535 - m : Nat) : Int) := by rw [IntKind.wrap_i64]; omega
    obtain ⟨D, hD⟩ : ∃ D : Dec (List Nat), D = (if m + mm = 65535 ∧ l.length + m ≤ 300 then next (De.bytes m) fun x => ret (l ++ x) else De.bad) := ⟨_, rfl⟩
    rw [← hD] at HF
    have hbad : 8 * s.size < q + 8 * m → D (rest s q) = none := fun hlt => by
      rw [hD]
      split
      · exact next_none (by unfold De.bytes; rw [if_neg (by rw [rest_length]; omega)])
      · rfl
    have hgood : m + mm = 65535 → q + 8 * m ≤ 8 * s.size → n + m ≤ 300 → D (rest s q) = some (l ++ packN m (rest s q), rest s (q + 8 * m)) := fun h1 h2 h3 => by
      rw [hD, if_pos ⟨h1, by rw [HN.out]; exact h3⟩]
      rw [next_some (x := packN m (rest s q)) (r := rest s (q + 8 * m)) (by unfold De.bytes; rw [if_pos (by rw [rest_length]; omega), rest_drop])]; rfl
    have hover : 300 < n + m → D (rest s q) = none := fun h => by rw [hD, if_neg (by rw [HN.out]; omega)]; rfl
    have hne : m + mm ≠ 65535 → D (rest s q) = none := fun h => by rw [hD, if_neg (fun hh => h hh.1)]; rfl
    have HPK := Lib.hid (packN_snoc s q)
    have HLEN := Lib.hid (show ∀ k, (l ++ packN k (rest s q)).length = n + k from fun k => by rw [List.length_append, packN_length, HN.out])
    have FIN := Lib.hid (show ∀ (k : Nat) (x4 : Bool), (x4 = false → m + mm = 65535 ∧ x3 = false) → (x4 = true → x3 = true ∨ D (rest s q) = none) → k ≤ m → ((x4 || decide (8 * s.size < q + 8 * k)) = true ∨ k = m) →
        AnsO (De.stored l) s p b (l ++ packN k (rest s q)) (min (q + 8 * k) (8 * s.size)) (x4 || decide (8 * s.size < q + 8 * k)) from fun k x4 hx4 hy4 hk hc => by
      have hlk := HLEN.out k
      refine HF.out _ _ _ ⟨fun e => ?_, fun e => ?_⟩
      · simp only [Bool.or_eq_true, decide_eq_true_eq] at e
        rcases e with e | e
        · exact hy4 e
        · exact .inr (hbad (by omega))
      · have e' := e
        simp only [Bool.or_eq_false_iff, decide_eq_false_iff_not] at e'
        rw [hlk, Nat.min_eq_left (by omega)]
        obtain ⟨a1, a2⟩ := hx4 e'.1
        rcases hc with hc | hc
        · rw [e] at hc; cases hc
        · subst hc
          refine ⟨a2, fun h3 => hgood a1 (by omega) h3, fun h3 => hover h3⟩)
    clear A1 A2 A3 HE HE2 HE3 hbad hgood HX1
    have fr : ∀ i, w4.frozen? ⟨g, i, none⟩ = false := hw4.out.frozen
    have c2 : w4.cell? ⟨g, 2, none⟩ = some (.bool x3) := (hw4.out.cell 2).trans rfl
    obtain ⟨ba, hA'⟩ : ∃ ba, ((mm : Int) != ((65535 - m : Nat) : Int)) = ba := ⟨_, rfl⟩
    obtain ⟨bb, hB'⟩ : ∃ bb, decide ((300 : Int) < (m : Int)) = bb := ⟨_, rfl⟩
    have hba : ba = true ↔ m + mm ≠ 65535 := by rw [← hA']; simp; omega
    have hbb : bb = true ↔ 300 < m := by rw [← hB']; simp; omega
    have W5 : ∃ w5 x4, (x4 = false → m + mm = 65535 ∧ x3 = false) ∧ (x4 = true → x3 = true ∨ D (rest s q) = none) ∧ (x4 = false → m ≤ 300) ∧ SR w5 g s q x4 ∧ By w5 r cap l ∧ Kp [g, r] w w5 ∧ w5 = (if (ba || bb) = true then w4.setCell ⟨g, 2, none⟩ (.bool true) else w4) := by
      cases hab : (ba || bb) with
      | false =>
        rw [Bool.or_eq_false_iff] at hab
        have h1 : m + mm = 65535 := by have := hba; rw [hab.1] at this; simp at this; exact this
        have h2 : m ≤ 300 := by have := hbb; rw [hab.2] at this; simp at this; omega
        exact ⟨w4, x3, fun e => ⟨h1, e⟩, fun e => .inl e, fun _ => h2, hw4, hb4, HK.out, by simp⟩
      | true =>
        have hX : D (rest s q) = none := by
          rw [Bool.or_eq_true] at hab
          rcases hab with h | h
          · exact hne (hba.1 h)
          · exact hover (by have := hbb.1 h; omega)
        have K45 : Kp [g] w4 (w4.setCell ⟨g, 2, none⟩ (.bool true)) := (Kp.refl _ _).set (.inl (by simp)) _
        exact ⟨_, true, fun e => (by cases e), fun _ => .inr hX, fun e => (by cases e), ⟨hw4.out.set 2 (.bool true), hw4.le, hw4.sz⟩, hb4.kp K45 (by simpa using Ne.symm hgr), HK.out.set (.inl (by simp)) _, by simp⟩
    obtain ⟨w5, x4, F1, F2, F3, R5, B5, K5, hw5e⟩ := W5
    have H1 := Lib.hid F1
    have H2 := Lib.hid F2
    have H3 := Lib.hid F3
    have HK5 := Lib.hid K5
    have HMM := Lib.hid hm1
    clear F1 F2 F3 K5 hba hbb hover hne hD hm1 hm2
    generalize 65535 - m = mx at *
    cases ba <;> cases bb
    all_goals
      simp only [Bool.or_true, Bool.or_false, if_true, Bool.false_eq_true, if_false] at hw5e
      go_wp2_with fail
      rw [← hw5e]
      clear hw5e fr c2 hA' hB'
      go_loopw [1, 6] (fun o x wr => ∃ (k r' cap' : Nat), x = .int .i64 (k : Int) ∧ k ≤ m ∧ o = .slice (some ⟨r', 0, none⟩) (n + k) cap' ∧ SR wr g s (min (q + 8 * k) (8 * s.size)) (x4 || decide (8 * s.size < q + 8 * k)) ∧ By wr r' cap' (l ++ packN k (rest s q)) ∧ Kp [g, r] w5 wr ∧ (r' = r ∨ w5.heap.size ≤ r') ∧ g ≠ r' ∧ k ≤ 300) (fun _ x _ => m - (intOf x).toNat)
      case atStart =>
        refine ⟨0, r, cap, rfl, by omega, rfl, ?_, ?_, Kp.refl _ _, .inl rfl, hgr, by omega⟩
        · rw [Nat.mul_zero, Nat.add_zero, Nat.min_eq_left R5.le, show decide (8 * s.size < q) = false from by simp; exact R5.le, Bool.or_false]
          exact R5
        · simpa [packN] using B5
      case round =>
        obtain ⟨k, r', cap', rfl, hk, rfl, hr, hB, K, hr', hgr', hk3⟩ := hrel
        have hlk := HLEN.out k
        have HFI := Lib.hid (FIN.out k x4 H1.out H2.out hk)
        have hKK := HK5.out.then K
        have hrw : r' = r ∨ w.heap.size ≤ r' := by have := HK5.out.size; omega
        have hby : Bytes wr r' (.slice (some ⟨r', 0, none⟩) (n + k) cap') (l ++ packN k (rest s q)) := by have := hB.out; rw [hlk] at this; exact this
        have HP := Lib.hid (HPK.out k)
        have HG := Lib.hid (snum_calls g 8 s _ _ wr hr (by omega))
        have HLK := Lib.hid hlk
        have hx8 := numAt_lt s (q + 8 * k) 8
        have hmn : numAt s (min (q + 8 * k) (8 * s.size)) 8 = numAt s (q + 8 * k) 8 := numAt_min s _ _
        rw [hmn] at HG
        have c2 : wr.cell? ⟨g, 2, none⟩ = some (.bool (x4 || decide (8 * s.size < q + 8 * k))) := (hr.out.cell 2).trans rfl
        have hrl4 := hr.le
        clear hlk hmn
        generalize hbx : (x4 || decide (8 * s.size < q + 8 * k)) = bx at *
        have HBX := Lib.hid hbx
        clear hbx
        generalize numAt s (q + 8 * k) 8 = x at *
        have hslice : (l ++ packN k (rest s q)).length = n + k := HLK.out
        by_cases hkm : k = m
        · subst hkm
          go_wp2_with fail
          go_ret
          exact ⟨_, bx, r', cap', _, by rw [HLK.out]; rfl, hr, hB, hKK, hrw, fun _ => HFI.out (by first | exact .inr rfl | exact .inr trivial), by rw [HLK.out, HN.out]; omega, by rw [HLK.out, HN.out]; omega, fun e => ⟨((HFI.out (by first | exact .inr rfl | exact .inr trivial)).good e).1, .inl (by omega)⟩⟩
        · have hkm' : (k : Int) < m := by omega
          cases bx with
          | true =>
            go_wp2_with fail
            go_ret
            exact ⟨_, true, r', cap', _, by rw [HLK.out]; rfl, hr, hB, hKK, hrw, fun _ => HFI.out (by first | exact .inl rfl | exact .inl trivial), by rw [HLK.out, HN.out]; omega, by rw [HLK.out, HN.out]; omega, fun e => (by cases e)⟩
          | false =>
            have hm300 : m ≤ 300 := H3.out (by have := HBX.out; simp only [Bool.or_eq_false_iff] at this; exact this.1)
            have hu8 : IntKind.u8.wrap (x : Int) = (x : Int) := wr_u8 _ (by omega) (by omega)
            go_wp2_with fail
            refine HG.out.mono ?_
            rintro e w6 ⟨rfl, hr6, K6⟩
            have hby6 := hby.kp K6 (by simpa using Ne.symm hgr')
            go_wp2_with (at_builtin; go_must (refine wpList_byte (x := x) rfl _ _ rfl rfl hby6 rfl (by rw [HLK.out]; omega) ?_); intro r7 cap7 w7 hby7 hr7 hrl7 K7 hc1 hc2)
            go_roundw
            case rel =>
              have hz := K.size
              have hz6 := K6.size
              have hgl5 := R5.out.lt
              have hg7 : g ≠ r7 := by rcases hr7 with e | e <;> omega
              refine ⟨k + 1, r7, cap7, by go_num, by omega, ?_, ?_, ?_, ?_, by omega, hg7, by omega⟩
              · first | rfl | (rw [HLK.out]; rfl)
              · have hr7' := hr6.kp K7 (by simpa using hgr')
                have e1 : min (min (q + 8 * k) (8 * s.size) + 8) (8 * s.size) = min (q + 8 * (k + 1)) (8 * s.size) := by omega
                have e2 : (false || decide (8 * s.size < min (q + 8 * k) (8 * s.size) + 8)) = (x4 || decide (8 * s.size < q + 8 * (k + 1))) := by
                  have hb0 := HBX.out
                  simp only [Bool.or_eq_false_iff, decide_eq_false_iff_not] at hb0
                  rw [hb0.1, Bool.eq_iff_iff]; simp; omega
                rw [e1, e2] at hr7'
                exact hr7'
              · rw [HP.out, ← List.append_assoc]
                refine ⟨?_⟩
                rw [List.length_append]
                exact hby7
              · refine (K.then (K6.mono (fun y hy => .inl (by simp at hy ⊢; exact .inl hy)))).trans K7 (fun y hy => ?_)
                simp at hy ⊢; omega
            case measure => simp [intOf]; omega
end Go.Proofs.YtnadjlejlohgiaaGreatDoor.Wi

