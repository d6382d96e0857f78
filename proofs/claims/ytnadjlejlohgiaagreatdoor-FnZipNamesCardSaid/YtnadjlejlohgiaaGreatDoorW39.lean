/- Own texts joined: Zc, Zh. -/
import Derived.Deep.DeepCutAuto
import Derived.Deep.CutRange
import Derived.Test.YtnadjlejlohgiaaGreatDoorW0
import Derived.Test.YtnadjlejlohgiaaGreatDoorW4
import Derived.Test.YtnadjlejlohgiaaGreatDoorW10
/- The list of heads at an archive's end, and the end: in plain words. Nothing is walked here. -/
namespace Go.Proofs.YtnadjlejlohgiaaGreatDoor.Lc
open Go.RowKit Go.Proofs.YtnadjlejlohgiaaGreatDoor.Mem Go.Proofs.YtnadjlejlohgiaaGreatDoor.Nm Go.Proofs.YtnadjlejlohgiaaGreatDoor.Nb Go.Proofs.YtnadjlejlohgiaaGreatDoor.Cr
set_option linter.unusedVariables false
set_option linter.unusedSimpArgs false
/-- The head of a file in the list. -/
def cHead (l : ByteArray) (p : Nat) : ByteArray := (((((⟨#[80, 75, 1, 2]⟩ ++ nB 2 20) ++ l.extract 4 30) ++ nB 10 0) ++ nB 4 p) ++ l.extract 30 (30 + numAtB l 26 2))
def atL (ls : List ByteArray) (k : Nat) : Nat := ((ls.take k).map ByteArray.size).sum
def hdsL (ls : List ByteArray) : Nat → ByteArray
  | 0 => ⟨#[]⟩
  | k + 1 => hdsL ls k ++ cHead (ls.getD k ⟨#[]⟩) (atL ls k)
def endB (n hl p : Nat) : ByteArray := ((((((⟨#[80, 75, 5, 6]⟩ ++ nB 4 0) ++ nB 2 n) ++ nB 2 n) ++ nB 4 hl) ++ nB 4 p) ++ nB 2 0)
/-- The list of heads, and the end. -/
def closB (ls : List ByteArray) : ByteArray := (((((((hdsL ls ls.length ++ ⟨#[80, 75, 5, 6]⟩) ++ nB 4 0) ++ nB 2 ls.length) ++ nB 2 ls.length) ++ nB 4 (hdsL ls ls.length).size) ++ nB 4 (atL ls ls.length)) ++ nB 2 0)
theorem closB_is (ls : List ByteArray) : closB ls = hdsL ls ls.length ++ endB ls.length (hdsL ls ls.length).size (atL ls ls.length) := by
  unfold closB endB
  simp only [ByteArray.append_assoc]
theorem endB_size (n hl p : Nat) : (endB n hl p).size = 22 := by
  unfold endB
  simp only [ByteArray.size_append, nB_size]
  rfl
/-- The head in the list at H is that of the file at p. -/
def fineB (s : ByteArray) (H p : Nat) : Prop :=
  H + 30 ≤ s.size ∧ H + (46 + numAtB s (H + 28) 2) ≤ s.size ∧ p + 30 + numAtB s (H + 28) 2 ≤ s.size ∧ s.extract (H + 6) (H + 32) = s.extract (p + 4) (p + 30) ∧ s.extract (H + 46) (H + (46 + numAtB s (H + 28) 2)) = s.extract (p + 30) (p + 30 + numAtB s (H + 28) 2) ∧
    s.extract H (H + 6) = nB 4 33639248 ++ nB 2 20 ∧ s.extract (H + 32) (H + 46) = nB 10 0 ++ nB 4 p
end Go.Proofs.YtnadjlejlohgiaaGreatDoor.Lc

/- The end of an archive, and the look at a head in its list: the specification's. (Printed by tools/gen_zh.py.) -/
namespace Go.Proofs.YtnadjlejlohgiaaGreatDoor.Lc
open Go.RowKit Go.Proofs.YtnadjlejlohgiaaGreatDoor.Mem Go.Proofs.YtnadjlejlohgiaaGreatDoor.Nm Go.Proofs.YtnadjlejlohgiaaGreatDoor.Nb Go.Proofs.YtnadjlejlohgiaaGreatDoor.Cr
set_option linter.unusedVariables false
set_option linter.unusedSimpArgs false
theorem sw_calls (v n : Nat) (vi ni : Int) (hvi : vi = v) (hni : ni = n) (hv : v < 9223372036854775808) (hn : n ≤ 100) (w : World) :
    Calls Tryz.prog 56 #[.int .i64 vi, .int .i64 ni] w (fun e w' => e = .returned (.string (nB n v)) ∧ On w w') := by
  subst hvi hni
  exact sbytes_calls v n hv hn w
theorem zh_m2 : nB 4 101010256 = ⟨#[80, 75, 5, 6]⟩ := by decide
theorem zh_40 : nB 4 0 = nB 2 0 ++ nB 2 0 := by decide
set_option maxRecDepth 100000 in
set_option maxHeartbeats 2000000 in
theorem send_calls (n hl p : Nat) (h1 : n ≤ 1000) (h2 : hl ≤ 10000000) (h3 : p ≤ 10000000) (w : World) :
    Calls Tryz.prog 35 #[.int .i64 n, .int .i64 hl, .int .i64 p] w (Tells w (.string (endB n hl p))) := by
  have HR : RowKit.Hid (endB n hl p = (((((((nB 4 101010256 ++ nB 2 0) ++ nB 2 0) ++ nB 2 n) ++ nB 2 n) ++ nB 4 hl) ++ nB 4 p) ++ nB 2 0)) := Lib.hid (by
    unfold endB
    rw [zh_m2, zh_40]
    simp only [ByteArray.append_assoc])
  have C1 := Lib.hid (fun w => sw_calls 101010256 4 101010256 4 rfl rfl (by decide) (by decide) w)
  have C2 := Lib.hid (fun w => sw_calls 0 2 0 2 rfl rfl (by decide) (by decide) w)
  have C3 := Lib.hid (fun w => sw_calls n 2 n 2 rfl rfl (by omega) (by decide) w)
  have C4 := Lib.hid (fun w => sw_calls hl 4 hl 4 rfl rfl (by omega) (by decide) w)
  have C5 := Lib.hid (fun w => sw_calls p 4 p 4 rfl rfl (by omega) (by decide) w)
  have s1 := nB_size 4 101010256
  have s2 := nB_size 2 0
  have s3 := nB_size 2 n
  have s4 := nB_size 4 hl
  have s5 := nB_size 4 p
  generalize endB n hl p = R at *
  generalize nB 4 101010256 = x1 at *
  generalize nB 2 0 = x2 at *
  generalize nB 2 n = x3 at *
  generalize nB 4 hl = x4 at *
  generalize nB 4 p = x5 at *
  go_enter Tryz.func35, Tryz.ntmps35
  go_wp2_with fail
  refine (C1.out _).mono ?_
  rintro e w1 ⟨rfl, O1⟩
  go_wp2_with fail
  refine (C2.out _).mono ?_
  rintro e w2 ⟨rfl, O2⟩
  go_wp2_with fail
  refine (C2.out _).mono ?_
  rintro e w3 ⟨rfl, O3⟩
  go_wp2_with fail
  refine (C3.out _).mono ?_
  rintro e w4 ⟨rfl, O4⟩
  go_wp2_with fail
  refine (C3.out _).mono ?_
  rintro e w5 ⟨rfl, O5⟩
  go_wp2_with fail
  refine (C4.out _).mono ?_
  rintro e w6 ⟨rfl, O6⟩
  go_wp2_with fail
  refine (C5.out _).mono ?_
  rintro e w7 ⟨rfl, O7⟩
  go_wp2_with fail
  refine (C2.out _).mono ?_
  rintro e w8 ⟨rfl, O8⟩
  go_wp2_with fail
  go_ret
  exact ⟨by rw [HR.out]; rfl, O1.call (O2.call (O3.call (O4.call (O5.call (O6.call (O7.call O8))))))⟩
theorem str_eq {a b : ByteArray} (h : a = b) : (a.toList == b.toList) = true := by rw [h]; exact beq_self_eq_true _
theorem str_ne {a b : ByteArray} (h : a ≠ b) : (a.toList == b.toList) = false := by
  rw [beq_eq_false_iff_ne, ByteArray.toList_eq, ByteArray.toList_eq]
  intro h2
  exact h (ByteArray.ext (Array.toList_inj.1 h2))
set_option maxRecDepth 100000 in
set_option maxHeartbeats 2000000 in
theorem shead_none (s : ByteArray) (H p : Nat) (hs : s.size ≤ 1048576) (hH : H ≤ 10000000) (hp : p ≤ 10000000) (h : ¬ H + 30 ≤ s.size) (w : World) :
    Calls Tryz.prog 33 #[.string s, .int .i64 H, .int .i64 p] w (Tells w (.tuple #[.int .i64 0, .bool false])) := by
  have HC := snum_none s (H + 28) 2 (by omega) (by omega) (by omega) (by decide) w
  rw [show (((H + 28 : Nat)) : Int) = (H : Int) + 28 from by omega, show ((2 : Nat) : Int) = 2 from rfl] at HC
  have HC := Lib.hid HC
  have e1 : IntKind.i64.wrap ((H : Int) + 28) = (H : Int) + 28 := by rw [IntKind.wrap_i64]; omega
  go_enter Tryz.func33, Tryz.ntmps33
  go_wp2_with fail
  refine HC.out.mono ?_
  rintro e w' ⟨rfl, hw⟩
  rw [hw]
  clear hw
  go_wp2_with fail
  go_ret2
  exact ⟨rfl, On.refl _⟩
theorem numAtB2_lt (l : ByteArray) (a : Nat) : numAtB l a 2 < 65536 := by
  have h : numAtB l a 2 < 256 ^ 2 := by
    unfold numAtB at_
    refine Nat.lt_of_lt_of_le (numOf_lt fun x hx => ?_) (Nat.pow_le_pow_right (by decide) (Nat.le_trans (List.length_take_le _ _) (Nat.le_refl _)))
    obtain ⟨y, _, rfl⟩ := List.mem_map.1 (List.mem_of_mem_drop (List.mem_of_mem_take hx))
    exact y.toNat_lt
  exact h
set_option maxRecDepth 100000 in
set_option maxHeartbeats 2000000 in
theorem shead_unfit (s : ByteArray) (H p : Nat) (hs : s.size ≤ 1048576) (hH : H ≤ 10000000) (hp : p ≤ 10000000) (h : H + 30 ≤ s.size) (hf : ¬ (H + (46 + numAtB s (H + 28) 2) ≤ s.size ∧ p + 30 + numAtB s (H + 28) 2 ≤ s.size)) (w : World) :
    Calls Tryz.prog 33 #[.string s, .int .i64 H, .int .i64 p] w (Tells w (.tuple #[.int .i64 0, .bool false])) := by
  have HC := snum_calls s (H + 28) 2 (by omega) (by omega) (by decide) w
  rw [show (((H + 28 : Nat)) : Int) = (H : Int) + 28 from by omega, show ((2 : Nat) : Int) = 2 from rfl] at HC
  have HC := Lib.hid HC
  have hb : numAtB s (H + 28) 2 < 65536 := numAtB2_lt s (H + 28)
  have e1 : IntKind.i64.wrap ((H : Int) + 28) = (H : Int) + 28 := by rw [IntKind.wrap_i64]; omega
  generalize numAtB s (H + 28) 2 = nm at *
  have e2 : IntKind.i64.wrap (46 + (nm : Int)) = 46 + (nm : Int) := by rw [IntKind.wrap_i64]; omega
  have e3 : IntKind.i64.wrap ((H : Int) + (46 + (nm : Int))) = (H : Int) + (46 + (nm : Int)) := by rw [IntKind.wrap_i64]; omega
  have e4 : IntKind.i64.wrap ((p : Int) + 30) = (p : Int) + 30 := by rw [IntKind.wrap_i64]; omega
  have e5 : IntKind.i64.wrap ((p : Int) + 30 + (nm : Int)) = (p : Int) + 30 + (nm : Int) := by rw [IntKind.wrap_i64]; omega
  have n1 : ¬ (nm : Int) < 0 := by omega
  by_cases c1 : H + (46 + nm) ≤ s.size
  · have c1' : ¬ (s.size : Int) < (H : Int) + (46 + (nm : Int)) := by omega
    have c2' : (s.size : Int) < (p : Int) + 30 + (nm : Int) := by omega
    go_enter Tryz.func33, Tryz.ntmps33
    go_wp2_with fail
    refine HC.out.mono ?_
    rintro e w' ⟨rfl, hw⟩
    rw [hw]
    clear hw
    go_wp2_with fail
    go_ret2
    exact ⟨rfl, On.refl _⟩
  · have c1' : (s.size : Int) < (H : Int) + (46 + (nm : Int)) := by omega
    go_enter Tryz.func33, Tryz.ntmps33
    go_wp2_with fail
    refine HC.out.mono ?_
    rintro e w' ⟨rfl, hw⟩
    rw [hw]
    clear hw
    go_wp2_with fail
    go_ret2
    exact ⟨rfl, On.refl _⟩
instance (s : ByteArray) (H p : Nat) : Decidable (fineB s H p) := by unfold fineB; infer_instance
set_option maxRecDepth 100000 in
set_option maxHeartbeats 8000000 in
theorem shead_fit (s : ByteArray) (H p : Nat) (hs : s.size ≤ 1048576) (hH : H ≤ 10000000) (hp : p ≤ 10000000) (h : H + 30 ≤ s.size) (f1 : H + (46 + numAtB s (H + 28) 2) ≤ s.size) (f2 : p + 30 + numAtB s (H + 28) 2 ≤ s.size) (w : World) :
    Calls Tryz.prog 33 #[.string s, .int .i64 H, .int .i64 p] w (Tells w (.tuple #[.int .i64 (46 + numAtB s (H + 28) 2 : Nat), .bool (decide (fineB s H p))])) := by
  have HC := snum_calls s (H + 28) 2 (by omega) (by omega) (by decide) w
  rw [show (((H + 28 : Nat)) : Int) = (H : Int) + 28 from by omega, show ((2 : Nat) : Int) = 2 from rfl] at HC
  have HC := Lib.hid HC
  have hb : numAtB s (H + 28) 2 < 65536 := numAtB2_lt s (H + 28)
  have e1 : IntKind.i64.wrap ((H : Int) + 28) = (H : Int) + 28 := by rw [IntKind.wrap_i64]; omega
  have HD : RowKit.Hid (decide (fineB s H p) = ((decide (s.extract (H + 6) (H + 32) = s.extract (p + 4) (p + 30)) && decide (s.extract (H + 46) (H + (46 + numAtB s (H + 28) 2)) = s.extract (p + 30) (p + 30 + numAtB s (H + 28) 2))) && (decide (s.extract H (H + 6) = nB 4 33639248 ++ nB 2 20) && decide (s.extract (H + 32) (H + 46) = nB 10 0 ++ nB 4 p)))) := Lib.hid (by
    rw [Bool.eq_iff_iff]
    simp only [Bool.and_eq_true, decide_eq_true_eq]
    constructor
    · rintro ⟨_, _, _, q1, q2, q3, q4⟩
      exact ⟨⟨q1, q2⟩, q3, q4⟩
    · rintro ⟨⟨q1, q2⟩, q3, q4⟩
      exact ⟨h, f1, f2, q1, q2, q3, q4⟩)
  generalize decide (fineB s H p) = RES at *
  generalize numAtB s (H + 28) 2 = nm at *
  have C1 := Lib.hid (fun w => sw_calls 33639248 4 33639248 4 rfl rfl (by decide) (by decide) w)
  have C2 := Lib.hid (fun w => sw_calls 20 2 20 2 rfl rfl (by decide) (by decide) w)
  have C3 := Lib.hid (fun w => sw_calls 0 10 0 10 rfl rfl (by decide) (by decide) w)
  have C4 := Lib.hid (fun w => sw_calls p 4 p 4 rfl rfl (by omega) (by decide) w)
  have s1 := nB_size 4 33639248
  have s2 := nB_size 2 20
  have s3 := nB_size 10 0
  have s4 := nB_size 4 p
  generalize nB 4 33639248 = x1 at *
  generalize nB 2 20 = x2 at *
  generalize nB 10 0 = x3 at *
  generalize nB 4 p = x4 at *
  have e2 : IntKind.i64.wrap (46 + (nm : Int)) = 46 + (nm : Int) := by rw [IntKind.wrap_i64]; omega
  have e3 : IntKind.i64.wrap ((H : Int) + (46 + (nm : Int))) = (H : Int) + (46 + (nm : Int)) := by rw [IntKind.wrap_i64]; omega
  have e4 : IntKind.i64.wrap ((p : Int) + 30) = (p : Int) + 30 := by rw [IntKind.wrap_i64]; omega
  have e5 : IntKind.i64.wrap ((p : Int) + 30 + (nm : Int)) = (p : Int) + 30 + (nm : Int) := by rw [IntKind.wrap_i64]; omega
  have e6 : IntKind.i64.wrap ((H : Int) + 6) = (H : Int) + 6 := by rw [IntKind.wrap_i64]; omega
  have e7 : IntKind.i64.wrap ((H : Int) + 32) = (H : Int) + 32 := by rw [IntKind.wrap_i64]; omega
  have e8 : IntKind.i64.wrap ((p : Int) + 4) = (p : Int) + 4 := by rw [IntKind.wrap_i64]; omega
  have e9 : IntKind.i64.wrap ((H : Int) + 46) = (H : Int) + 46 := by rw [IntKind.wrap_i64]; omega
  have n1 : ¬ (nm : Int) < 0 := by omega
  have c1' : ¬ (s.size : Int) < (H : Int) + (46 + (nm : Int)) := by omega
  have c2' : ¬ (s.size : Int) < (p : Int) + 30 + (nm : Int) := by omega
  go_enter Tryz.func33, Tryz.ntmps33
  go_wp2_with fail
  refine HC.out.mono ?_
  rintro e w' ⟨rfl, hw⟩
  rw [hw]
  clear hw
  go_upto_region 5 with fail
  have a1 : (0 : Int) ≤ (H : Int) + 6 := by omega
  have a2 : (H : Int) + 6 ≤ (H : Int) + 32 := by omega
  have a3 : (H : Int) + 32 ≤ (s.size : Int) := by omega
  have a4 : ((H : Int) + 6).toNat = H + 6 := by omega
  have a5 : ((H : Int) + 32).toNat = H + 32 := by omega
  have a6 : (0 : Int) ≤ (H : Int) + 32 := by omega
  have b1 : (0 : Int) ≤ (p : Int) + 4 := by omega
  have b2 : (p : Int) + 4 ≤ (p : Int) + 30 := by omega
  have b3 : (p : Int) + 30 ≤ (s.size : Int) := by omega
  have b4 : ((p : Int) + 4).toNat = p + 4 := by omega
  have b5 : ((p : Int) + 30).toNat = p + 30 := by omega
  have b6 : (0 : Int) ≤ (p : Int) + 30 := by omega
  have c1 : (0 : Int) ≤ (H : Int) + 46 := by omega
  have c2 : (H : Int) + 46 ≤ (H : Int) + (46 + (nm : Int)) := by omega
  have c3 : (H : Int) + (46 + (nm : Int)) ≤ (s.size : Int) := by omega
  have c4 : ((H : Int) + 46).toNat = H + 46 := by omega
  have c5 : ((H : Int) + (46 + (nm : Int))).toNat = H + (46 + nm) := by omega
  have c6 : (0 : Int) ≤ (H : Int) + (46 + (nm : Int)) := by omega
  have d1 : (0 : Int) ≤ (p : Int) + 30 := by omega
  have d2 : (p : Int) + 30 ≤ (p : Int) + 30 + (nm : Int) := by omega
  have d3 : (p : Int) + 30 + (nm : Int) ≤ (s.size : Int) := by omega
  have d4 : ((p : Int) + 30).toNat = p + 30 := by omega
  have d5 : ((p : Int) + 30 + (nm : Int)).toNat = p + 30 + nm := by omega
  have d6 : (0 : Int) ≤ (p : Int) + 30 + (nm : Int) := by omega
  go_cut [10] (fun v wx => v = .bool (decide (s.extract (H + 6) (H + 32) = s.extract (p + 4) (p + 30)) && decide (s.extract (H + 46) (H + (46 + nm)) = s.extract (p + 30) (p + 30 + nm))) ∧ On w wx)
  case first =>
    by_cases hA : s.extract (H + 6) (H + 32) = s.extract (p + 4) (p + 30)
    · have hA2 := str_eq hA
      by_cases hB : s.extract (H + 46) (H + (46 + nm)) = s.extract (p + 30) (p + 30 + nm)
      · have hB2 := str_eq hB
        have HRS : RowKit.Hid ((decide (s.extract (H + 6) (H + 32) = s.extract (p + 4) (p + 30)) && decide (s.extract (H + 46) (H + (46 + nm)) = s.extract (p + 30) (p + 30 + nm))) = true) := Lib.hid (by rw [decide_eq_true hA, decide_eq_true hB]; rfl)
        clear hA hB
        refine wp_region_held_drew (S := fun W => On w W) (by kernel_rfl) (On.refl _).drew (fun hHeld => ?_)
        refine Tk.tk 0 ?_ rfl (.inl ⟨by rfl, ?_⟩) ?_
        rotate_left
        · intro w hSw; go_simp; first | done | with_reducible rfl
        try simp (maxSteps := 2000000) only [Act.put, Tk.s6]
        refine Tk.tk 1 ?_ rfl (.inl ⟨by rfl, ?_⟩) ?_
        rotate_left
        · intro w hSw; go_simp; first | done | with_reducible rfl
        try simp (maxSteps := 2000000) only [Act.put, Tk.s6]
        refine Tk.tk 2 ?_ rfl (.inl ⟨by rfl, ?_⟩) ?_
        rotate_left
        · intro w hSw; go_simp; first | done | with_reducible rfl
        try simp (maxSteps := 2000000) only [Act.put, Tk.s6]
        refine Tk.tk 3 ?_ rfl (.inl ⟨by rfl, ?_⟩) ?_
        rotate_left
        · intro w hSw; go_simp; first | done | with_reducible rfl
        try simp (maxSteps := 2000000) only [Act.put, Tk.s6]
        refine Tk.tk 4 ?_ rfl (.inl ⟨by rfl, ?_⟩) ?_
        rotate_left
        · intro w hSw; go_simp; first | done | with_reducible rfl
        try simp (maxSteps := 2000000) only [Act.put, Tk.s6]
        refine Tk.tk 5 ?_ rfl (.inl ⟨by rfl, ?_⟩) ?_
        rotate_left
        · intro w hSw; go_simp; first | done | with_reducible rfl
        try simp (maxSteps := 2000000) only [Act.put, Tk.s6]
        refine Tk.tk 6 ?_ rfl (.inl ⟨by rfl, ?_⟩) ?_
        rotate_left
        · intro w hSw; go_simp; first | done | with_reducible rfl
        try simp (maxSteps := 2000000) only [Act.put, Tk.s6]
        refine Tk.tk 7 ?_ rfl (.inl ⟨by rfl, ?_⟩) ?_
        rotate_left
        · intro w hSw; go_simp; first | done | with_reducible rfl
        try simp (maxSteps := 2000000) only [Act.put, Tk.s6]
        refine Tk.tk 8 ?_ rfl (.inl ⟨by rfl, ?_⟩) ?_
        rotate_left
        · intro w hSw; go_simp; first | done | with_reducible rfl
        try simp (maxSteps := 2000000) only [Act.put, Tk.s6]
        refine Tk.tk 9 ?_ rfl (.inl ⟨by rfl, ?_⟩) ?_
        rotate_left
        · intro w hSw; go_simp; first | done | with_reducible rfl
        try simp (maxSteps := 2000000) only [Act.put, Tk.s6]
        refine Tk.tk 10 ?_ rfl (.inl ⟨by rfl, ?_⟩) ?_
        rotate_left
        · intro w hSw; go_simp; first | done | with_reducible rfl
        try simp (maxSteps := 2000000) only [Act.put, Tk.s6]
        refine Tk.tk 11 ?_ rfl (.inl ⟨by rfl, ?_⟩) ?_
        rotate_left
        · intro w hSw; go_simp; first | done | with_reducible rfl
        try simp (maxSteps := 2000000) only [Act.put, Tk.s6]
        refine Tk.tk 12 ?_ rfl (.inl ⟨by rfl, ?_⟩) ?_
        rotate_left
        · intro w hSw; go_simp; first | done | with_reducible rfl
        try simp (maxSteps := 2000000) only [Act.put, Tk.s6]
        refine Tk.tk 13 ?_ rfl (.inl ⟨by rfl, ?_⟩) ?_
        rotate_left
        · intro w hSw; go_simp; first | done | with_reducible rfl
        try simp (maxSteps := 2000000) only [Act.put, Tk.s6]
        refine Tk.tk 14 ?_ rfl (.inl ⟨by kernel_rfl, ?_⟩) ?_
        rotate_left
        · intro w hSw; go_simp; first | done | with_reducible rfl
        try simp (maxSteps := 2000000) only [Act.put, Tk.s6]
        refine Tk.tk 15 ?_ rfl (.inl ⟨by kernel_rfl, ?_⟩) ?_
        rotate_left
        · intro w hSw; go_simp; first | done | with_reducible rfl
        try simp (maxSteps := 2000000) only [Act.put, Tk.s6]
        refine Tk.tk 16 ?_ rfl (.inl ⟨by kernel_rfl, ?_⟩) ?_
        rotate_left
        · intro w hSw; go_simp; first | done | with_reducible rfl
        try simp (maxSteps := 2000000) only [Act.put, Tk.s6]
        refine Tk.tk 17 ?_ rfl (.inl ⟨by kernel_rfl, ?_⟩) ?_
        rotate_left
        · intro w hSw; go_simp; first | done | with_reducible rfl
        try simp (maxSteps := 2000000) only [Act.put, Tk.s6]
        refine Tk.tk 18 ?_ rfl (.inl ⟨by kernel_rfl, ?_⟩) ?_
        rotate_left
        · intro w hSw; go_simp; first | done | with_reducible rfl
        try simp (maxSteps := 2000000) only [Act.put, Tk.s6]
        refine Tk.tk 19 ?_ rfl (.inl ⟨by kernel_rfl, ?_⟩) ?_
        rotate_left
        · intro w hSw; go_simp; first | done | with_reducible rfl
        try simp (maxSteps := 2000000) only [Act.put, Tk.s6]
        refine Tk.tk 20 ?_ rfl (.inl ⟨by kernel_rfl, ?_⟩) ?_
        rotate_left
        · intro w hSw; go_simp; first | done | with_reducible rfl
        try simp (maxSteps := 2000000) only [Act.put, Tk.s6]
        refine Tk.tk 21 ?_ rfl (.inl ⟨by kernel_rfl, ?_⟩) ?_
        rotate_left
        · intro w hSw; go_simp; first | done | with_reducible rfl
        try simp (maxSteps := 2000000) only [Act.put, Tk.s6]
        refine Tk.tk 22 ?_ rfl (.inl ⟨by kernel_rfl, ?_⟩) ?_
        rotate_left
        · intro w hSw; go_simp; first | done | with_reducible rfl
        try simp (maxSteps := 2000000) only [Act.put, Tk.s6]
        refine Tk.tk 23 ?_ rfl (.inl ⟨by kernel_rfl, ?_⟩) ?_
        rotate_left
        · intro w hSw; go_simp; first | done | with_reducible rfl
        try simp (maxSteps := 2000000) only [Act.put, Tk.s6]
        refine Tk.tk 24 ?_ rfl (.inl ⟨by kernel_rfl, ?_⟩) ?_
        rotate_left
        · intro w hSw; go_simp; first | done | with_reducible rfl
        try simp (maxSteps := 2000000) only [Act.put, Tk.s6]
        refine Tk.tk 25 ?_ rfl (.inl ⟨by kernel_rfl, ?_⟩) ?_
        rotate_left
        · intro w hSw; go_simp; first | done | with_reducible rfl
        try simp (maxSteps := 2000000) only [Act.put, Tk.s6]
        refine Tk.tk 26 ?_ rfl (.inl ⟨by kernel_rfl, ?_⟩) ?_
        rotate_left
        · intro w hSw; go_simp; first | done | with_reducible rfl
        try simp (maxSteps := 2000000) only [Act.put, Tk.s6]
        refine Tk.tk 27 ?_ rfl (.inl ⟨by kernel_rfl, ?_⟩) ?_
        rotate_left
        · intro w hSw; go_simp; first | done | with_reducible rfl
        try simp (maxSteps := 2000000) only [Act.put, Tk.s6]
        refine Tk.tk 28 ?_ rfl (.inl ⟨by kernel_rfl, ?_⟩) ?_
        rotate_left
        · intro w hSw; go_simp; first | done | with_reducible rfl
        try simp (maxSteps := 2000000) only [Act.put, Tk.s6]
        refine Tk.tk 29 ?_ rfl (.inl ⟨by kernel_rfl, ?_⟩) ?_
        rotate_left
        · intro w hSw; go_simp; first | done | with_reducible rfl
        try simp (maxSteps := 2000000) only [Act.put, Tk.s6]
        refine Tk.tk 30 ?_ rfl (.inl ⟨by rfl, ?_⟩) ?_
        rotate_left
        · intro w hSw; go_simp; first | done | with_reducible rfl
        try simp (maxSteps := 2000000) only [Act.put, Tk.s6]
        have O0 := (On.refl w).drew
        generalize w.drew = wd at *
        refine Tk.rd 31 rfl fun K hK => ?_
        go_simp
        refine hK.out _ _ O0 (fun hHeld => ?_)
        clear hK K
        try simp (maxSteps := 2000000) only [Act.put, Tk.s6]
        refine wpAnyH_done (by kernel_rfl) ?_ _
        go_wp2_with fail
        go_meet
        exact ⟨by rw [HRS.out], O0⟩
      · have hB2 := str_ne hB
        have HRS : RowKit.Hid ((decide (s.extract (H + 6) (H + 32) = s.extract (p + 4) (p + 30)) && decide (s.extract (H + 46) (H + (46 + nm)) = s.extract (p + 30) (p + 30 + nm))) = false) := Lib.hid (by rw [decide_eq_true hA, decide_eq_false hB]; rfl)
        clear hA hB
        refine wp_region_held_drew (S := fun W => On w W) (by kernel_rfl) (On.refl _).drew (fun hHeld => ?_)
        refine Tk.tk 0 ?_ rfl (.inl ⟨by rfl, ?_⟩) ?_
        rotate_left
        · intro w hSw; go_simp; first | done | with_reducible rfl
        try simp (maxSteps := 2000000) only [Act.put, Tk.s6]
        refine Tk.tk 1 ?_ rfl (.inl ⟨by rfl, ?_⟩) ?_
        rotate_left
        · intro w hSw; go_simp; first | done | with_reducible rfl
        try simp (maxSteps := 2000000) only [Act.put, Tk.s6]
        refine Tk.tk 2 ?_ rfl (.inl ⟨by rfl, ?_⟩) ?_
        rotate_left
        · intro w hSw; go_simp; first | done | with_reducible rfl
        try simp (maxSteps := 2000000) only [Act.put, Tk.s6]
        refine Tk.tk 3 ?_ rfl (.inl ⟨by rfl, ?_⟩) ?_
        rotate_left
        · intro w hSw; go_simp; first | done | with_reducible rfl
        try simp (maxSteps := 2000000) only [Act.put, Tk.s6]
        refine Tk.tk 4 ?_ rfl (.inl ⟨by rfl, ?_⟩) ?_
        rotate_left
        · intro w hSw; go_simp; first | done | with_reducible rfl
        try simp (maxSteps := 2000000) only [Act.put, Tk.s6]
        refine Tk.tk 5 ?_ rfl (.inl ⟨by rfl, ?_⟩) ?_
        rotate_left
        · intro w hSw; go_simp; first | done | with_reducible rfl
        try simp (maxSteps := 2000000) only [Act.put, Tk.s6]
        refine Tk.tk 6 ?_ rfl (.inl ⟨by rfl, ?_⟩) ?_
        rotate_left
        · intro w hSw; go_simp; first | done | with_reducible rfl
        try simp (maxSteps := 2000000) only [Act.put, Tk.s6]
        refine Tk.tk 7 ?_ rfl (.inl ⟨by rfl, ?_⟩) ?_
        rotate_left
        · intro w hSw; go_simp; first | done | with_reducible rfl
        try simp (maxSteps := 2000000) only [Act.put, Tk.s6]
        refine Tk.tk 8 ?_ rfl (.inl ⟨by rfl, ?_⟩) ?_
        rotate_left
        · intro w hSw; go_simp; first | done | with_reducible rfl
        try simp (maxSteps := 2000000) only [Act.put, Tk.s6]
        refine Tk.tk 9 ?_ rfl (.inl ⟨by rfl, ?_⟩) ?_
        rotate_left
        · intro w hSw; go_simp; first | done | with_reducible rfl
        try simp (maxSteps := 2000000) only [Act.put, Tk.s6]
        refine Tk.tk 10 ?_ rfl (.inl ⟨by rfl, ?_⟩) ?_
        rotate_left
        · intro w hSw; go_simp; first | done | with_reducible rfl
        try simp (maxSteps := 2000000) only [Act.put, Tk.s6]
        refine Tk.tk 11 ?_ rfl (.inl ⟨by rfl, ?_⟩) ?_
        rotate_left
        · intro w hSw; go_simp; first | done | with_reducible rfl
        try simp (maxSteps := 2000000) only [Act.put, Tk.s6]
        refine Tk.tk 12 ?_ rfl (.inl ⟨by rfl, ?_⟩) ?_
        rotate_left
        · intro w hSw; go_simp; first | done | with_reducible rfl
        try simp (maxSteps := 2000000) only [Act.put, Tk.s6]
        refine Tk.tk 13 ?_ rfl (.inl ⟨by rfl, ?_⟩) ?_
        rotate_left
        · intro w hSw; go_simp; first | done | with_reducible rfl
        try simp (maxSteps := 2000000) only [Act.put, Tk.s6]
        refine Tk.tk 14 ?_ rfl (.inl ⟨by kernel_rfl, ?_⟩) ?_
        rotate_left
        · intro w hSw; go_simp; first | done | with_reducible rfl
        try simp (maxSteps := 2000000) only [Act.put, Tk.s6]
        refine Tk.tk 15 ?_ rfl (.inl ⟨by kernel_rfl, ?_⟩) ?_
        rotate_left
        · intro w hSw; go_simp; first | done | with_reducible rfl
        try simp (maxSteps := 2000000) only [Act.put, Tk.s6]
        refine Tk.tk 16 ?_ rfl (.inl ⟨by kernel_rfl, ?_⟩) ?_
        rotate_left
        · intro w hSw; go_simp; first | done | with_reducible rfl
        try simp (maxSteps := 2000000) only [Act.put, Tk.s6]
        refine Tk.tk 17 ?_ rfl (.inl ⟨by kernel_rfl, ?_⟩) ?_
        rotate_left
        · intro w hSw; go_simp; first | done | with_reducible rfl
        try simp (maxSteps := 2000000) only [Act.put, Tk.s6]
        refine Tk.tk 18 ?_ rfl (.inl ⟨by kernel_rfl, ?_⟩) ?_
        rotate_left
        · intro w hSw; go_simp; first | done | with_reducible rfl
        try simp (maxSteps := 2000000) only [Act.put, Tk.s6]
        refine Tk.tk 19 ?_ rfl (.inl ⟨by kernel_rfl, ?_⟩) ?_
        rotate_left
        · intro w hSw; go_simp; first | done | with_reducible rfl
        try simp (maxSteps := 2000000) only [Act.put, Tk.s6]
        refine Tk.tk 20 ?_ rfl (.inl ⟨by kernel_rfl, ?_⟩) ?_
        rotate_left
        · intro w hSw; go_simp; first | done | with_reducible rfl
        try simp (maxSteps := 2000000) only [Act.put, Tk.s6]
        refine Tk.tk 21 ?_ rfl (.inl ⟨by kernel_rfl, ?_⟩) ?_
        rotate_left
        · intro w hSw; go_simp; first | done | with_reducible rfl
        try simp (maxSteps := 2000000) only [Act.put, Tk.s6]
        refine Tk.tk 22 ?_ rfl (.inl ⟨by kernel_rfl, ?_⟩) ?_
        rotate_left
        · intro w hSw; go_simp; first | done | with_reducible rfl
        try simp (maxSteps := 2000000) only [Act.put, Tk.s6]
        refine Tk.tk 23 ?_ rfl (.inl ⟨by kernel_rfl, ?_⟩) ?_
        rotate_left
        · intro w hSw; go_simp; first | done | with_reducible rfl
        try simp (maxSteps := 2000000) only [Act.put, Tk.s6]
        refine Tk.tk 24 ?_ rfl (.inl ⟨by kernel_rfl, ?_⟩) ?_
        rotate_left
        · intro w hSw; go_simp; first | done | with_reducible rfl
        try simp (maxSteps := 2000000) only [Act.put, Tk.s6]
        refine Tk.tk 25 ?_ rfl (.inl ⟨by kernel_rfl, ?_⟩) ?_
        rotate_left
        · intro w hSw; go_simp; first | done | with_reducible rfl
        try simp (maxSteps := 2000000) only [Act.put, Tk.s6]
        refine Tk.tk 26 ?_ rfl (.inl ⟨by kernel_rfl, ?_⟩) ?_
        rotate_left
        · intro w hSw; go_simp; first | done | with_reducible rfl
        try simp (maxSteps := 2000000) only [Act.put, Tk.s6]
        refine Tk.tk 27 ?_ rfl (.inl ⟨by kernel_rfl, ?_⟩) ?_
        rotate_left
        · intro w hSw; go_simp; first | done | with_reducible rfl
        try simp (maxSteps := 2000000) only [Act.put, Tk.s6]
        refine Tk.tk 28 ?_ rfl (.inl ⟨by kernel_rfl, ?_⟩) ?_
        rotate_left
        · intro w hSw; go_simp; first | done | with_reducible rfl
        try simp (maxSteps := 2000000) only [Act.put, Tk.s6]
        refine Tk.tk 29 ?_ rfl (.inl ⟨by kernel_rfl, ?_⟩) ?_
        rotate_left
        · intro w hSw; go_simp; first | done | with_reducible rfl
        try simp (maxSteps := 2000000) only [Act.put, Tk.s6]
        refine Tk.tk 30 ?_ rfl (.inl ⟨by rfl, ?_⟩) ?_
        rotate_left
        · intro w hSw; go_simp; first | done | with_reducible rfl
        try simp (maxSteps := 2000000) only [Act.put, Tk.s6]
        have O0 := (On.refl w).drew
        generalize w.drew = wd at *
        refine Tk.rd 31 rfl fun K hK => ?_
        go_simp
        refine hK.out _ _ O0 (fun hHeld => ?_)
        clear hK K
        try simp (maxSteps := 2000000) only [Act.put, Tk.s6]
        refine wpAnyH_done (by kernel_rfl) ?_ _
        go_wp2_with fail
        go_meet
        exact ⟨by rw [HRS.out], O0⟩
    · have hA2 := str_ne hA
      have HRS : RowKit.Hid ((decide (s.extract (H + 6) (H + 32) = s.extract (p + 4) (p + 30)) && decide (s.extract (H + 46) (H + (46 + nm)) = s.extract (p + 30) (p + 30 + nm))) = false) := Lib.hid (by rw [decide_eq_false hA]; rfl)
      clear hA
      refine wp_region_held_drew (S := fun W => On w W) (by kernel_rfl) (On.refl _).drew (fun hHeld => ?_)
      refine Tk.tk 0 ?_ rfl (.inl ⟨by rfl, ?_⟩) ?_
      rotate_left
      · intro w hSw; go_simp; first | done | with_reducible rfl
      try simp (maxSteps := 2000000) only [Act.put, Tk.s6]
      refine Tk.tk 1 ?_ rfl (.inl ⟨by rfl, ?_⟩) ?_
      rotate_left
      · intro w hSw; go_simp; first | done | with_reducible rfl
      try simp (maxSteps := 2000000) only [Act.put, Tk.s6]
      refine Tk.tk 2 ?_ rfl (.inl ⟨by rfl, ?_⟩) ?_
      rotate_left
      · intro w hSw; go_simp; first | done | with_reducible rfl
      try simp (maxSteps := 2000000) only [Act.put, Tk.s6]
      refine Tk.tk 3 ?_ rfl (.inl ⟨by rfl, ?_⟩) ?_
      rotate_left
      · intro w hSw; go_simp; first | done | with_reducible rfl
      try simp (maxSteps := 2000000) only [Act.put, Tk.s6]
      refine Tk.tk 4 ?_ rfl (.inl ⟨by rfl, ?_⟩) ?_
      rotate_left
      · intro w hSw; go_simp; first | done | with_reducible rfl
      try simp (maxSteps := 2000000) only [Act.put, Tk.s6]
      refine Tk.tk 5 ?_ rfl (.inl ⟨by rfl, ?_⟩) ?_
      rotate_left
      · intro w hSw; go_simp; first | done | with_reducible rfl
      try simp (maxSteps := 2000000) only [Act.put, Tk.s6]
      refine Tk.tk 6 ?_ rfl (.inl ⟨by rfl, ?_⟩) ?_
      rotate_left
      · intro w hSw; go_simp; first | done | with_reducible rfl
      try simp (maxSteps := 2000000) only [Act.put, Tk.s6]
      refine Tk.tk 7 ?_ rfl (.inl ⟨by rfl, ?_⟩) ?_
      rotate_left
      · intro w hSw; go_simp; first | done | with_reducible rfl
      try simp (maxSteps := 2000000) only [Act.put, Tk.s6]
      refine Tk.tk 8 ?_ rfl (.inl ⟨by rfl, ?_⟩) ?_
      rotate_left
      · intro w hSw; go_simp; first | done | with_reducible rfl
      try simp (maxSteps := 2000000) only [Act.put, Tk.s6]
      refine Tk.tk 9 ?_ rfl (.inl ⟨by rfl, ?_⟩) ?_
      rotate_left
      · intro w hSw; go_simp; first | done | with_reducible rfl
      try simp (maxSteps := 2000000) only [Act.put, Tk.s6]
      refine Tk.tk 10 ?_ rfl (.inl ⟨by rfl, ?_⟩) ?_
      rotate_left
      · intro w hSw; go_simp; first | done | with_reducible rfl
      try simp (maxSteps := 2000000) only [Act.put, Tk.s6]
      refine Tk.tk 11 ?_ rfl (.inl ⟨by rfl, ?_⟩) ?_
      rotate_left
      · intro w hSw; go_simp; first | done | with_reducible rfl
      try simp (maxSteps := 2000000) only [Act.put, Tk.s6]
      refine Tk.tk 12 ?_ rfl (.inl ⟨by rfl, ?_⟩) ?_
      rotate_left
      · intro w hSw; go_simp; first | done | with_reducible rfl
      try simp (maxSteps := 2000000) only [Act.put, Tk.s6]
      refine Tk.tk 13 ?_ rfl (.inl ⟨by rfl, ?_⟩) ?_
      rotate_left
      · intro w hSw; go_simp; first | done | with_reducible rfl
      try simp (maxSteps := 2000000) only [Act.put, Tk.s6]
      refine Tk.tk 14 undef rfl (.inr ⟨by kernel_rfl, rfl⟩) ?_
      try simp (maxSteps := 2000000) only [Act.put, Tk.s6]
      refine Tk.tk 15 undef rfl (.inr ⟨by kernel_rfl, rfl⟩) ?_
      try simp (maxSteps := 2000000) only [Act.put, Tk.s6]
      refine Tk.tk 16 undef rfl (.inr ⟨by kernel_rfl, rfl⟩) ?_
      try simp (maxSteps := 2000000) only [Act.put, Tk.s6]
      refine Tk.tk 17 undef rfl (.inr ⟨by kernel_rfl, rfl⟩) ?_
      try simp (maxSteps := 2000000) only [Act.put, Tk.s6]
      refine Tk.tk 18 undef rfl (.inr ⟨by kernel_rfl, rfl⟩) ?_
      try simp (maxSteps := 2000000) only [Act.put, Tk.s6]
      refine Tk.tk 19 undef rfl (.inr ⟨by kernel_rfl, rfl⟩) ?_
      try simp (maxSteps := 2000000) only [Act.put, Tk.s6]
      refine Tk.tk 20 undef rfl (.inr ⟨by kernel_rfl, rfl⟩) ?_
      try simp (maxSteps := 2000000) only [Act.put, Tk.s6]
      refine Tk.tk 21 undef rfl (.inr ⟨by kernel_rfl, rfl⟩) ?_
      try simp (maxSteps := 2000000) only [Act.put, Tk.s6]
      refine Tk.tk 22 undef rfl (.inr ⟨by kernel_rfl, rfl⟩) ?_
      try simp (maxSteps := 2000000) only [Act.put, Tk.s6]
      refine Tk.tk 23 undef rfl (.inr ⟨by kernel_rfl, rfl⟩) ?_
      try simp (maxSteps := 2000000) only [Act.put, Tk.s6]
      refine Tk.tk 24 undef rfl (.inr ⟨by kernel_rfl, rfl⟩) ?_
      try simp (maxSteps := 2000000) only [Act.put, Tk.s6]
      refine Tk.tk 25 undef rfl (.inr ⟨by kernel_rfl, rfl⟩) ?_
      try simp (maxSteps := 2000000) only [Act.put, Tk.s6]
      refine Tk.tk 26 undef rfl (.inr ⟨by kernel_rfl, rfl⟩) ?_
      try simp (maxSteps := 2000000) only [Act.put, Tk.s6]
      refine Tk.tk 27 undef rfl (.inr ⟨by kernel_rfl, rfl⟩) ?_
      try simp (maxSteps := 2000000) only [Act.put, Tk.s6]
      refine Tk.tk 28 undef rfl (.inr ⟨by kernel_rfl, rfl⟩) ?_
      try simp (maxSteps := 2000000) only [Act.put, Tk.s6]
      refine Tk.tk 29 undef rfl (.inr ⟨by kernel_rfl, rfl⟩) ?_
      try simp (maxSteps := 2000000) only [Act.put, Tk.s6]
      refine Tk.tk 30 ?_ rfl (.inl ⟨by rfl, ?_⟩) ?_
      rotate_left
      · intro w hSw; go_simp; first | done | with_reducible rfl
      try simp (maxSteps := 2000000) only [Act.put, Tk.s6]
      have O0 := (On.refl w).drew
      generalize w.drew = wd at *
      refine Tk.rd 31 rfl fun K hK => ?_
      go_simp
      refine hK.out _ _ O0 (fun hHeld => ?_)
      clear hK K
      try simp (maxSteps := 2000000) only [Act.put, Tk.s6]
      refine wpAnyH_done (by kernel_rfl) ?_ _
      go_wp2_with fail
      go_meet
      exact ⟨by rw [HRS.out], O0⟩
  case rest =>
    obtain ⟨rfl, O1⟩ := hcut
    obtain ⟨w1, rfl⟩ : ∃ w1, w1 = wc := ⟨_, rfl⟩
    go_upto_region 6 with fail
    have k1 : (0 : Int) ≤ (H : Int) := by omega
    have k2 : (H : Int) ≤ (H : Int) + 6 := by omega
    have k3 : (H : Int) + 6 ≤ (s.size : Int) := by omega
    have k4 : ((H : Int)).toNat = H := by omega
    have k5 : ((H : Int) + 6).toNat = H + 6 := by omega
    have k6 : (0 : Int) ≤ (H : Int) + 6 := by omega
    have m1 : (0 : Int) ≤ (H : Int) + 32 := by omega
    have m2 : (H : Int) + 32 ≤ (H : Int) + 46 := by omega
    have m3 : (H : Int) + 46 ≤ (s.size : Int) := by omega
    have m4 : ((H : Int) + 32).toNat = H + 32 := by omega
    have m5 : ((H : Int) + 46).toNat = H + 46 := by omega
    have m6 : (0 : Int) ≤ (H : Int) + 46 := by omega
    go_cut [11] (fun v wx => v = .bool (decide (s.extract H (H + 6) = x1 ++ x2) && decide (s.extract (H + 32) (H + 46) = x3 ++ x4)) ∧ On w1 wx)
    case first =>
      by_cases hA : s.extract H (H + 6) = x1 ++ x2
      · have hA2 := str_eq hA
        by_cases hB : s.extract (H + 32) (H + 46) = x3 ++ x4
        · have hB2 := str_eq hB
          have HRS : RowKit.Hid ((decide (s.extract H (H + 6) = x1 ++ x2) && decide (s.extract (H + 32) (H + 46) = x3 ++ x4)) = true) := Lib.hid (by rw [decide_eq_true hA, decide_eq_true hB]; rfl)
          clear hA hB
          refine wp_region_held_drew (S := fun W => On w1 W) (by kernel_rfl) (On.refl _).drew (fun hHeld => ?_)
          refine Tk.tk 0 ?_ rfl (.inl ⟨by rfl, ?_⟩) ?_
          rotate_left
          · intro w hSw; go_simp; first | done | with_reducible rfl
          try simp (maxSteps := 2000000) only [Act.put, Tk.s6]
          refine Tk.tk 1 ?_ rfl (.inl ⟨by rfl, ?_⟩) ?_
          rotate_left
          · intro w hSw; go_simp; first | done | with_reducible rfl
          try simp (maxSteps := 2000000) only [Act.put, Tk.s6]
          refine Tk.tk 2 ?_ rfl (.inl ⟨by rfl, ?_⟩) ?_
          rotate_left
          · intro w hSw; go_simp; first | done | with_reducible rfl
          try simp (maxSteps := 2000000) only [Act.put, Tk.s6]
          refine Tk.tk 3 ?_ rfl (.inl ⟨by rfl, ?_⟩) ?_
          rotate_left
          · intro w hSw; go_simp; first | done | with_reducible rfl
          try simp (maxSteps := 2000000) only [Act.put, Tk.s6]
          refine Tk.tk 4 ?_ rfl (.inl ⟨by rfl, ?_⟩) ?_
          rotate_left
          · intro w hSw; go_simp; first | done | with_reducible rfl
          try simp (maxSteps := 2000000) only [Act.put, Tk.s6]
          have O0 := (On.refl w1).drew
          generalize w1.drew = wd at *
          refine Tk.rd 5 rfl fun K hK => ?_
          go_simp
          refine (C1.out _).mono ?_
          rintro e vP1 ⟨rfl, TP1⟩
          have P1 := O0.call TP1
          refine hK.out _ _ P1 (fun hHeld => ?_)
          clear hK K
          try simp (maxSteps := 2000000) only [Act.put, Tk.s6]
          refine Tk.rd 6 rfl fun K hK => ?_
          go_simp
          refine (C2.out _).mono ?_
          rintro e vP2 ⟨rfl, TP2⟩
          have P2 := P1.call TP2
          refine hK.out _ _ P2 (fun hHeld => ?_)
          clear hK K
          try simp (maxSteps := 2000000) only [Act.put, Tk.s6]
          refine Tk.tk 7 ?_ rfl (.inl ⟨by rfl, ?_⟩) ?_
          rotate_left
          · intro w hSw; go_simp; first | done | with_reducible rfl
          try simp (maxSteps := 2000000) only [Act.put, Tk.s6]
          refine Tk.tk 8 ?_ rfl (.inl ⟨by rfl, ?_⟩) ?_
          rotate_left
          · intro w hSw; go_simp; first | done | with_reducible rfl
          try simp (maxSteps := 2000000) only [Act.put, Tk.s6]
          refine Tk.tk 9 ?_ rfl (.inl ⟨by rfl, ?_⟩) ?_
          rotate_left
          · intro w hSw; go_simp; first | done | with_reducible rfl
          try simp (maxSteps := 2000000) only [Act.put, Tk.s6]
          refine Tk.tk 10 ?_ rfl (.inl ⟨by kernel_rfl, ?_⟩) ?_
          rotate_left
          · intro w hSw; go_simp; first | done | with_reducible rfl
          try simp (maxSteps := 2000000) only [Act.put, Tk.s6]
          refine Tk.tk 11 ?_ rfl (.inl ⟨by kernel_rfl, ?_⟩) ?_
          rotate_left
          · intro w hSw; go_simp; first | done | with_reducible rfl
          try simp (maxSteps := 2000000) only [Act.put, Tk.s6]
          refine Tk.tk 12 ?_ rfl (.inl ⟨by kernel_rfl, ?_⟩) ?_
          rotate_left
          · intro w hSw; go_simp; first | done | with_reducible rfl
          try simp (maxSteps := 2000000) only [Act.put, Tk.s6]
          refine Tk.tk 13 ?_ rfl (.inl ⟨by kernel_rfl, ?_⟩) ?_
          rotate_left
          · intro w hSw; go_simp; first | done | with_reducible rfl
          try simp (maxSteps := 2000000) only [Act.put, Tk.s6]
          refine Tk.tk 14 ?_ rfl (.inl ⟨by kernel_rfl, ?_⟩) ?_
          rotate_left
          · intro w hSw; go_simp; first | done | with_reducible rfl
          try simp (maxSteps := 2000000) only [Act.put, Tk.s6]
          refine Tk.tk 15 ?_ rfl (.inl ⟨by kernel_rfl, ?_⟩) ?_
          rotate_left
          · intro w hSw; go_simp; first | done | with_reducible rfl
          try simp (maxSteps := 2000000) only [Act.put, Tk.s6]
          refine Tk.tk 17 ?_ rfl (.inl ⟨by kernel_rfl, ?_⟩) ?_
          rotate_left
          · intro w hSw; go_simp; first | done | with_reducible rfl
          try simp (maxSteps := 2000000) only [Act.put, Tk.s6]
          refine Tk.rd 16 rfl fun K hK => ?_
          go_simp
          refine (C3.out _).mono ?_
          rintro e vP3 ⟨rfl, TP3⟩
          have P3 := P2.call TP3
          refine hK.out _ _ P3 (fun hHeld => ?_)
          clear hK K
          try simp (maxSteps := 2000000) only [Act.put, Tk.s6]
          refine Tk.rd 18 rfl fun K hK => ?_
          go_simp
          refine (C4.out _).mono ?_
          rintro e vP4 ⟨rfl, TP4⟩
          have P4 := P3.call TP4
          refine hK.out _ _ P4 (fun hHeld => ?_)
          clear hK K
          try simp (maxSteps := 2000000) only [Act.put, Tk.s6]
          refine Tk.tk 19 ?_ rfl (.inl ⟨by kernel_rfl, ?_⟩) ?_
          rotate_left
          · intro w hSw; go_simp; first | done | with_reducible rfl
          try simp (maxSteps := 2000000) only [Act.put, Tk.s6]
          refine Tk.tk 20 ?_ rfl (.inl ⟨by kernel_rfl, ?_⟩) ?_
          rotate_left
          · intro w hSw; go_simp; first | done | with_reducible rfl
          try simp (maxSteps := 2000000) only [Act.put, Tk.s6]
          refine Tk.tk 21 ?_ rfl (.inl ⟨by rfl, ?_⟩) ?_
          rotate_left
          · intro w hSw; go_simp; first | done | with_reducible rfl
          try simp (maxSteps := 2000000) only [Act.put, Tk.s6]
          refine Tk.rd 22 rfl fun K hK => ?_
          go_simp
          refine hK.out _ _ P4 (fun hHeld => ?_)
          clear hK K
          try simp (maxSteps := 2000000) only [Act.put, Tk.s6]
          refine wpAnyH_done (by kernel_rfl) ?_ _
          go_wp2_with fail
          go_meet
          exact ⟨by rw [HRS.out], P4⟩
        · have hB2 := str_ne hB
          have HRS : RowKit.Hid ((decide (s.extract H (H + 6) = x1 ++ x2) && decide (s.extract (H + 32) (H + 46) = x3 ++ x4)) = false) := Lib.hid (by rw [decide_eq_true hA, decide_eq_false hB]; rfl)
          clear hA hB
          refine wp_region_held_drew (S := fun W => On w1 W) (by kernel_rfl) (On.refl _).drew (fun hHeld => ?_)
          refine Tk.tk 0 ?_ rfl (.inl ⟨by rfl, ?_⟩) ?_
          rotate_left
          · intro w hSw; go_simp; first | done | with_reducible rfl
          try simp (maxSteps := 2000000) only [Act.put, Tk.s6]
          refine Tk.tk 1 ?_ rfl (.inl ⟨by rfl, ?_⟩) ?_
          rotate_left
          · intro w hSw; go_simp; first | done | with_reducible rfl
          try simp (maxSteps := 2000000) only [Act.put, Tk.s6]
          refine Tk.tk 2 ?_ rfl (.inl ⟨by rfl, ?_⟩) ?_
          rotate_left
          · intro w hSw; go_simp; first | done | with_reducible rfl
          try simp (maxSteps := 2000000) only [Act.put, Tk.s6]
          refine Tk.tk 3 ?_ rfl (.inl ⟨by rfl, ?_⟩) ?_
          rotate_left
          · intro w hSw; go_simp; first | done | with_reducible rfl
          try simp (maxSteps := 2000000) only [Act.put, Tk.s6]
          refine Tk.tk 4 ?_ rfl (.inl ⟨by rfl, ?_⟩) ?_
          rotate_left
          · intro w hSw; go_simp; first | done | with_reducible rfl
          try simp (maxSteps := 2000000) only [Act.put, Tk.s6]
          have O0 := (On.refl w1).drew
          generalize w1.drew = wd at *
          refine Tk.rd 5 rfl fun K hK => ?_
          go_simp
          refine (C1.out _).mono ?_
          rintro e vP1 ⟨rfl, TP1⟩
          have P1 := O0.call TP1
          refine hK.out _ _ P1 (fun hHeld => ?_)
          clear hK K
          try simp (maxSteps := 2000000) only [Act.put, Tk.s6]
          refine Tk.rd 6 rfl fun K hK => ?_
          go_simp
          refine (C2.out _).mono ?_
          rintro e vP2 ⟨rfl, TP2⟩
          have P2 := P1.call TP2
          refine hK.out _ _ P2 (fun hHeld => ?_)
          clear hK K
          try simp (maxSteps := 2000000) only [Act.put, Tk.s6]
          refine Tk.tk 7 ?_ rfl (.inl ⟨by rfl, ?_⟩) ?_
          rotate_left
          · intro w hSw; go_simp; first | done | with_reducible rfl
          try simp (maxSteps := 2000000) only [Act.put, Tk.s6]
          refine Tk.tk 8 ?_ rfl (.inl ⟨by rfl, ?_⟩) ?_
          rotate_left
          · intro w hSw; go_simp; first | done | with_reducible rfl
          try simp (maxSteps := 2000000) only [Act.put, Tk.s6]
          refine Tk.tk 9 ?_ rfl (.inl ⟨by rfl, ?_⟩) ?_
          rotate_left
          · intro w hSw; go_simp; first | done | with_reducible rfl
          try simp (maxSteps := 2000000) only [Act.put, Tk.s6]
          refine Tk.tk 10 ?_ rfl (.inl ⟨by kernel_rfl, ?_⟩) ?_
          rotate_left
          · intro w hSw; go_simp; first | done | with_reducible rfl
          try simp (maxSteps := 2000000) only [Act.put, Tk.s6]
          refine Tk.tk 11 ?_ rfl (.inl ⟨by kernel_rfl, ?_⟩) ?_
          rotate_left
          · intro w hSw; go_simp; first | done | with_reducible rfl
          try simp (maxSteps := 2000000) only [Act.put, Tk.s6]
          refine Tk.tk 12 ?_ rfl (.inl ⟨by kernel_rfl, ?_⟩) ?_
          rotate_left
          · intro w hSw; go_simp; first | done | with_reducible rfl
          try simp (maxSteps := 2000000) only [Act.put, Tk.s6]
          refine Tk.tk 13 ?_ rfl (.inl ⟨by kernel_rfl, ?_⟩) ?_
          rotate_left
          · intro w hSw; go_simp; first | done | with_reducible rfl
          try simp (maxSteps := 2000000) only [Act.put, Tk.s6]
          refine Tk.tk 14 ?_ rfl (.inl ⟨by kernel_rfl, ?_⟩) ?_
          rotate_left
          · intro w hSw; go_simp; first | done | with_reducible rfl
          try simp (maxSteps := 2000000) only [Act.put, Tk.s6]
          refine Tk.tk 15 ?_ rfl (.inl ⟨by kernel_rfl, ?_⟩) ?_
          rotate_left
          · intro w hSw; go_simp; first | done | with_reducible rfl
          try simp (maxSteps := 2000000) only [Act.put, Tk.s6]
          refine Tk.tk 17 ?_ rfl (.inl ⟨by kernel_rfl, ?_⟩) ?_
          rotate_left
          · intro w hSw; go_simp; first | done | with_reducible rfl
          try simp (maxSteps := 2000000) only [Act.put, Tk.s6]
          refine Tk.rd 16 rfl fun K hK => ?_
          go_simp
          refine (C3.out _).mono ?_
          rintro e vP3 ⟨rfl, TP3⟩
          have P3 := P2.call TP3
          refine hK.out _ _ P3 (fun hHeld => ?_)
          clear hK K
          try simp (maxSteps := 2000000) only [Act.put, Tk.s6]
          refine Tk.rd 18 rfl fun K hK => ?_
          go_simp
          refine (C4.out _).mono ?_
          rintro e vP4 ⟨rfl, TP4⟩
          have P4 := P3.call TP4
          refine hK.out _ _ P4 (fun hHeld => ?_)
          clear hK K
          try simp (maxSteps := 2000000) only [Act.put, Tk.s6]
          refine Tk.tk 19 ?_ rfl (.inl ⟨by kernel_rfl, ?_⟩) ?_
          rotate_left
          · intro w hSw; go_simp; first | done | with_reducible rfl
          try simp (maxSteps := 2000000) only [Act.put, Tk.s6]
          refine Tk.tk 20 ?_ rfl (.inl ⟨by kernel_rfl, ?_⟩) ?_
          rotate_left
          · intro w hSw; go_simp; first | done | with_reducible rfl
          try simp (maxSteps := 2000000) only [Act.put, Tk.s6]
          refine Tk.tk 21 ?_ rfl (.inl ⟨by rfl, ?_⟩) ?_
          rotate_left
          · intro w hSw; go_simp; first | done | with_reducible rfl
          try simp (maxSteps := 2000000) only [Act.put, Tk.s6]
          refine Tk.rd 22 rfl fun K hK => ?_
          go_simp
          refine hK.out _ _ P4 (fun hHeld => ?_)
          clear hK K
          try simp (maxSteps := 2000000) only [Act.put, Tk.s6]
          refine wpAnyH_done (by kernel_rfl) ?_ _
          go_wp2_with fail
          go_meet
          exact ⟨by rw [HRS.out], P4⟩
      · have hA2 := str_ne hA
        have HRS : RowKit.Hid ((decide (s.extract H (H + 6) = x1 ++ x2) && decide (s.extract (H + 32) (H + 46) = x3 ++ x4)) = false) := Lib.hid (by rw [decide_eq_false hA]; rfl)
        clear hA
        refine wp_region_held_drew (S := fun W => On w1 W) (by kernel_rfl) (On.refl _).drew (fun hHeld => ?_)
        refine Tk.tk 0 ?_ rfl (.inl ⟨by rfl, ?_⟩) ?_
        rotate_left
        · intro w hSw; go_simp; first | done | with_reducible rfl
        try simp (maxSteps := 2000000) only [Act.put, Tk.s6]
        refine Tk.tk 1 ?_ rfl (.inl ⟨by rfl, ?_⟩) ?_
        rotate_left
        · intro w hSw; go_simp; first | done | with_reducible rfl
        try simp (maxSteps := 2000000) only [Act.put, Tk.s6]
        refine Tk.tk 2 ?_ rfl (.inl ⟨by rfl, ?_⟩) ?_
        rotate_left
        · intro w hSw; go_simp; first | done | with_reducible rfl
        try simp (maxSteps := 2000000) only [Act.put, Tk.s6]
        refine Tk.tk 3 ?_ rfl (.inl ⟨by rfl, ?_⟩) ?_
        rotate_left
        · intro w hSw; go_simp; first | done | with_reducible rfl
        try simp (maxSteps := 2000000) only [Act.put, Tk.s6]
        refine Tk.tk 4 ?_ rfl (.inl ⟨by rfl, ?_⟩) ?_
        rotate_left
        · intro w hSw; go_simp; first | done | with_reducible rfl
        try simp (maxSteps := 2000000) only [Act.put, Tk.s6]
        have O0 := (On.refl w1).drew
        generalize w1.drew = wd at *
        refine Tk.rd 5 rfl fun K hK => ?_
        go_simp
        refine (C1.out _).mono ?_
        rintro e vP1 ⟨rfl, TP1⟩
        have P1 := O0.call TP1
        refine hK.out _ _ P1 (fun hHeld => ?_)
        clear hK K
        try simp (maxSteps := 2000000) only [Act.put, Tk.s6]
        refine Tk.rd 6 rfl fun K hK => ?_
        go_simp
        refine (C2.out _).mono ?_
        rintro e vP2 ⟨rfl, TP2⟩
        have P2 := P1.call TP2
        refine hK.out _ _ P2 (fun hHeld => ?_)
        clear hK K
        try simp (maxSteps := 2000000) only [Act.put, Tk.s6]
        refine Tk.tk 7 ?_ rfl (.inl ⟨by rfl, ?_⟩) ?_
        rotate_left
        · intro w hSw; go_simp; first | done | with_reducible rfl
        try simp (maxSteps := 2000000) only [Act.put, Tk.s6]
        refine Tk.tk 8 ?_ rfl (.inl ⟨by rfl, ?_⟩) ?_
        rotate_left
        · intro w hSw; go_simp; first | done | with_reducible rfl
        try simp (maxSteps := 2000000) only [Act.put, Tk.s6]
        refine Tk.tk 9 ?_ rfl (.inl ⟨by rfl, ?_⟩) ?_
        rotate_left
        · intro w hSw; go_simp; first | done | with_reducible rfl
        try simp (maxSteps := 2000000) only [Act.put, Tk.s6]
        refine Tk.tk 10 undef rfl (.inr ⟨by kernel_rfl, rfl⟩) ?_
        try simp (maxSteps := 2000000) only [Act.put, Tk.s6]
        refine Tk.tk 11 undef rfl (.inr ⟨by kernel_rfl, rfl⟩) ?_
        try simp (maxSteps := 2000000) only [Act.put, Tk.s6]
        refine Tk.tk 12 undef rfl (.inr ⟨by kernel_rfl, rfl⟩) ?_
        try simp (maxSteps := 2000000) only [Act.put, Tk.s6]
        refine Tk.tk 13 undef rfl (.inr ⟨by kernel_rfl, rfl⟩) ?_
        try simp (maxSteps := 2000000) only [Act.put, Tk.s6]
        refine Tk.tk 14 undef rfl (.inr ⟨by kernel_rfl, rfl⟩) ?_
        try simp (maxSteps := 2000000) only [Act.put, Tk.s6]
        refine Tk.tk 15 undef rfl (.inr ⟨by kernel_rfl, rfl⟩) ?_
        try simp (maxSteps := 2000000) only [Act.put, Tk.s6]
        refine Tk.tk 16 undef rfl (.inr ⟨by kernel_rfl, rfl⟩) ?_
        try simp (maxSteps := 2000000) only [Act.put, Tk.s6]
        refine Tk.tk 17 undef rfl (.inr ⟨by kernel_rfl, rfl⟩) ?_
        try simp (maxSteps := 2000000) only [Act.put, Tk.s6]
        refine Tk.tk 18 undef rfl (.inr ⟨by kernel_rfl, rfl⟩) ?_
        try simp (maxSteps := 2000000) only [Act.put, Tk.s6]
        refine Tk.tk 19 undef rfl (.inr ⟨by kernel_rfl, rfl⟩) ?_
        try simp (maxSteps := 2000000) only [Act.put, Tk.s6]
        refine Tk.tk 20 undef rfl (.inr ⟨by kernel_rfl, rfl⟩) ?_
        try simp (maxSteps := 2000000) only [Act.put, Tk.s6]
        refine Tk.tk 21 ?_ rfl (.inl ⟨by rfl, ?_⟩) ?_
        rotate_left
        · intro w hSw; go_simp; first | done | with_reducible rfl
        try simp (maxSteps := 2000000) only [Act.put, Tk.s6]
        refine Tk.rd 22 rfl fun K hK => ?_
        go_simp
        refine hK.out _ _ P2 (fun hHeld => ?_)
        clear hK K
        try simp (maxSteps := 2000000) only [Act.put, Tk.s6]
        refine wpAnyH_done (by kernel_rfl) ?_ _
        go_wp2_with fail
        go_meet
        exact ⟨by rw [HRS.out], P2⟩
    case rest =>
      obtain ⟨rfl, O2⟩ := hcut
      generalize (decide (s.extract H (H + 6) = x1 ++ x2) && decide (s.extract (H + 32) (H + 46) = x3 ++ x4)) = b2 at *
      generalize (decide (s.extract (H + 6) (H + 32) = s.extract (p + 4) (p + 30)) && decide (s.extract (H + 46) (H + (46 + nm)) = s.extract (p + 30) (p + 30 + nm))) = b1 at *
      cases b1
      all_goals
        go_wp2_with fail
        go_ret2
        exact ⟨by rw [HD.out]; rfl, O1.call O2⟩
end Go.Proofs.YtnadjlejlohgiaaGreatDoor.Lc

