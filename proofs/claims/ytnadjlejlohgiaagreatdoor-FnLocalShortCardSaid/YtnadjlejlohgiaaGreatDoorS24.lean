/- Own texts joined: Hd. -/
import Derived.Deep.RegionHeld3
import Derived.Test.YtnadjlejlohgiaaGreatDoorS4
import Derived.Test.YtnadjlejlohgiaaGreatDoorS21
import Derived.Test.YtnadjlejlohgiaaGreatDoorS23
/- The head of a file in an archive, the program's. (Printed by tools/gen_hd.py.) -/
namespace Go.Proofs.YtnadjlejlohgiaaGreatDoor.Lc
open Go.RowKit Go.Proofs.YtnadjlejlohgiaaGreatDoor.Mem Go.Proofs.YtnadjlejlohgiaaGreatDoor.Nm Go.Proofs.YtnadjlejlohgiaaGreatDoor.Nb Go.Proofs.YtnadjlejlohgiaaGreatDoor.Cr
set_option linter.unusedVariables false
set_option linter.unusedSimpArgs false
def crcOf (s : ByteArray) : Nat := crcC (s.data.toList.map UInt8.toNat)
def nB (n v : Nat) : ByteArray := strB (numB n v)
theorem nB_size (n v : Nat) : (nB n v).size = n := by unfold nB; rw [strB_size, numB_length]
/-- A file's head: its way, how long it is packed. -/
def headB (nm : ByteArray) (y m d h mi s : Int) (tx : ByteArray) (mt pk : Nat) : ByteArray :=
  (((((((((⟨#[80, 75, 3, 4]⟩ ++ nB 2 20) ++ nB 2 0) ++ nB 2 mt) ++ nB 4 (stampN y m d h mi s).toNat) ++ nB 4 (crcOf tx)) ++ nB 4 pk) ++ nB 4 tx.size) ++ nB 2 nm.size) ++ nB 2 0)
theorem inB_calls (v n : Nat) (hv : v < 9223372036854775808) (hn : n ≤ 100) (w : World) :
    Calls Tryz.prog 64 #[.int .i64 v, .int .i64 n] w (fun e w' => e = .returned (.string (nB n v)) ∧ On w w') := inumber_calls v n hv hn w
theorem in2_calls (v : Nat) (hv : v < 9223372036854775808) (w : World) :
    Calls Tryz.prog 64 #[.int .i64 v, .int .i64 2] w (fun e w' => e = .returned (.string (nB 2 v)) ∧ On w w') := by
  have h := inB_calls v 2 hv (by decide) w
  rw [show ((2 : Nat) : Int) = 2 from rfl] at h
  exact h
theorem in4_calls (v : Nat) (hv : v < 9223372036854775808) (w : World) :
    Calls Tryz.prog 64 #[.int .i64 v, .int .i64 4] w (fun e w' => e = .returned (.string (nB 4 v)) ∧ On w w') := by
  have h := inB_calls v 4 hv (by decide) w
  rw [show ((4 : Nat) : Int) = 4 from rfl] at h
  exact h
theorem in20_calls (w : World) : Calls Tryz.prog 64 #[.int .i64 20, .int .i64 2] w (fun e w' => e = .returned (.string (nB 2 20)) ∧ On w w') := by
  have h := in2_calls 20 (by decide) w
  rw [show ((20 : Nat) : Int) = 20 from rfl] at h
  exact h
theorem in0_calls (w : World) : Calls Tryz.prog 64 #[.int .i64 0, .int .i64 2] w (fun e w' => e = .returned (.string (nB 2 0)) ∧ On w w') := by
  have h := in2_calls 0 (by decide) w
  rw [show ((0 : Nat) : Int) = 0 from rfl] at h
  exact h
set_option maxRecDepth 100000 in
set_option maxHeartbeats 4000000 in
theorem iheadof_calls (nm : ByteArray) (y m d h mi s : Int) (tx : ByteArray) (mt pk : Nat) (ok : okp y m d h mi s) (hn : nm.size ≤ 1000) (ht : tx.size ≤ 1000) (hm : mt ≤ 65535) (hp : pk ≤ 1000000) (w : World) :
    Calls Tryz.prog 51 #[.agg #[.string nm, .int .i64 y, .int .i64 m, .int .i64 d, .int .i64 h, .int .i64 mi, .int .i64 s, .string tx], .int .i64 mt, .int .i64 pk] w (Tells w (.string (headB nm y m d h mi s tx mt pk))) := by
  have HR := Lib.hid (show headB nm y m d h mi s tx mt pk = (((((((((⟨#[80, 75, 3, 4]⟩ ++ nB 2 20) ++ nB 2 0) ++ nB 2 mt) ++ nB 4 (stampN y m d h mi s).toNat) ++ nB 4 (crcOf tx)) ++ nB 4 pk) ++ nB 4 tx.size) ++ nB 2 nm.size) ++ nB 2 0) from rfl)
  generalize headB nm y m d h mi s tx mt pk = R at *
  have hbd := stampN_bd ok
  have HST := Lib.hid (fun w => iput_calls y m d h mi s ok w)
  obtain ⟨sn, hsn⟩ : ∃ sn : Nat, stampN y m d h mi s = (sn : Int) := ⟨(stampN y m d h mi s).toNat, by omega⟩
  rw [hsn] at HST HR hbd
  have hcl := crcC_lt tx
  have HCR := Lib.hid (fun w => icrc_calls tx (by omega) w)
  have HCE := Lib.hid (show crcOf tx = crcC (tx.data.toList.map UInt8.toNat) from rfl)
  rw [← HCE.out] at HCR hcl
  generalize crcOf tx = cr at *
  have hn20 := Lib.hid (fun w => in20_calls w)
  have hn0 := Lib.hid (fun w => in0_calls w)
  have hnm := Lib.hid (fun w => in2_calls mt (by omega) w)
  have hns := Lib.hid (fun w => in4_calls sn (by omega) w)
  have hnc := Lib.hid (fun w => in4_calls cr (by omega) w)
  have hnp := Lib.hid (fun w => in4_calls pk (by omega) w)
  have hnt := Lib.hid (fun w => in4_calls tx.size (by omega) w)
  have hnn := Lib.hid (fun w => in2_calls nm.size (by omega) w)
  have s1 := nB_size 2 20
  have s2 := nB_size 2 0
  have s3 := nB_size 2 mt
  have s4 := nB_size 4 sn
  have s5 := nB_size 4 cr
  have s6 := nB_size 4 pk
  have s7 := nB_size 4 tx.size
  have s8 := nB_size 2 nm.size
  rw [Int.toNat_natCast] at HR
  generalize nB 2 20 = b1 at *
  generalize nB 2 0 = b2 at *
  generalize nB 2 mt = b3 at *
  generalize nB 4 sn = b4 at *
  generalize nB 4 cr = b5 at *
  generalize nB 4 pk = b6 at *
  generalize nB 4 tx.size = b7 at *
  generalize nB 2 nm.size = b8 at *
  clear hsn hbd hcl HCE
  have OA := (On.refl w).alloc (.cells #[.string nm, .int .i64 y, .int .i64 m, .int .i64 d, .int .i64 h, .int .i64 mi, .int .i64 s, .string tx] 42)
  have BA := Blk.new w 42 #[.string nm, .int .i64 y, .int .i64 m, .int .i64 d, .int .i64 h, .int .i64 mi, .int .i64 s, .string tx]
  have HCS := Lib.hid (fun W (b : Blk W w.heap.size 42 #[.string nm, .int .i64 y, .int .i64 m, .int .i64 d, .int .i64 h, .int .i64 mi, .int .i64 s, .string tx]) => (⟨(b.cell 0).trans rfl, (b.cell 1).trans rfl, (b.cell 2).trans rfl, (b.cell 3).trans rfl, (b.cell 4).trans rfl, (b.cell 5).trans rfl, (b.cell 6).trans rfl, (b.cell 7).trans rfl⟩ :
    W.cell? ⟨w.heap.size, 0, none⟩ = some (.string nm) ∧ W.cell? ⟨w.heap.size, 1, none⟩ = some (.int .i64 y) ∧ W.cell? ⟨w.heap.size, 2, none⟩ = some (.int .i64 m) ∧ W.cell? ⟨w.heap.size, 3, none⟩ = some (.int .i64 d) ∧ W.cell? ⟨w.heap.size, 4, none⟩ = some (.int .i64 h) ∧ W.cell? ⟨w.heap.size, 5, none⟩ = some (.int .i64 mi) ∧ W.cell? ⟨w.heap.size, 6, none⟩ = some (.int .i64 s) ∧ W.cell? ⟨w.heap.size, 7, none⟩ = some (.string tx)))
  go_enter Tryz.func51, Tryz.ntmps51
  go_wp2_with fail
  generalize hP : w.heap.size = p at *
  generalize w.alloc (.cells #[.string nm, .int .i64 y, .int .i64 m, .int .i64 d, .int .i64 h, .int .i64 mi, .int .i64 s, .string tx] 42) = wa at *
  have HB := Lib.hid (fun W (O1 : On wa W) => HCS.out W (BA.call O1.out))
  clear HCS BA
  refine wp_region_held_drew (S := fun W => On wa W) (by kernel_rfl) (On.refl _).drew (fun hHeld => ?_)
  refine wpAnyH_take (i := 4) (oi := _) (v := ?_) rfl (by kernel_rfl) (by kernel_rfl) (by kernel_rfl) (fun _ _ _ h => h) (Or.inl ⟨by rfl, ?_⟩) (by assumption) ?_
  rotate_left
  · intro w hSw
    go_simp
    first | done | with_reducible rfl
  try simp only [Act.put, List.setIfInBounds_toArray, List.set_cons_zero, List.set_cons_succ]
  refine wpAnyH_take (i := 7) (oi := _) (v := ?_) rfl (by kernel_rfl) (by kernel_rfl) (by kernel_rfl) (fun _ _ _ h => h) (Or.inl ⟨by rfl, ?_⟩) (by assumption) ?_
  rotate_left
  · intro w hSw
    go_simp
    first | done | with_reducible rfl
  try simp only [Act.put, List.setIfInBounds_toArray, List.set_cons_zero, List.set_cons_succ]
  refine wpAnyH_take (i := 8) (oi := _) (v := ?_) rfl (by kernel_rfl) (by kernel_rfl) (by kernel_rfl) (fun _ _ _ h => h) (Or.inl ⟨by rfl, ?_⟩) (by assumption) ?_
  rotate_left
  · intro w hSw
    obtain ⟨q0, q1, q2, q3, q4, q5, q6, q7⟩ := HB.out w hSw
    go_simp
    first | done | with_reducible rfl
  try simp only [Act.put, List.setIfInBounds_toArray, List.set_cons_zero, List.set_cons_succ]
  refine wpAnyH_take (i := 12) (oi := _) (v := ?_) rfl (by kernel_rfl) (by kernel_rfl) (by kernel_rfl) (fun _ _ _ h => h) (Or.inl ⟨by rfl, ?_⟩) (by assumption) ?_
  rotate_left
  · intro w hSw
    go_simp
    first | done | with_reducible rfl
  try simp only [Act.put, List.setIfInBounds_toArray, List.set_cons_zero, List.set_cons_succ]
  refine wpAnyH_take (i := 13) (oi := _) (v := ?_) rfl (by kernel_rfl) (by kernel_rfl) (by kernel_rfl) (fun _ _ _ h => h) (Or.inl ⟨by rfl, ?_⟩) (by assumption) ?_
  rotate_left
  · intro w hSw
    obtain ⟨q0, q1, q2, q3, q4, q5, q6, q7⟩ := HB.out w hSw
    go_simp
    first | done | with_reducible rfl
  try simp only [Act.put, List.setIfInBounds_toArray, List.set_cons_zero, List.set_cons_succ]
  refine wpAnyH_take (i := 17) (oi := _) (v := ?_) rfl (by kernel_rfl) (by kernel_rfl) (by kernel_rfl) (fun _ _ _ h => h) (Or.inl ⟨by rfl, ?_⟩) (by assumption) ?_
  rotate_left
  · intro w hSw
    go_simp
    first | done | with_reducible rfl
  try simp only [Act.put, List.setIfInBounds_toArray, List.set_cons_zero, List.set_cons_succ]
  refine wpAnyH_take (i := 20) (oi := _) (v := ?_) rfl (by kernel_rfl) (by kernel_rfl) (by kernel_rfl) (fun _ _ _ h => h) (Or.inl ⟨by rfl, ?_⟩) (by assumption) ?_
  rotate_left
  · intro w hSw
    go_simp
    first | done | with_reducible rfl
  try simp only [Act.put, List.setIfInBounds_toArray, List.set_cons_zero, List.set_cons_succ]
  refine wpAnyH_take (i := 21) (oi := _) (v := ?_) rfl (by kernel_rfl) (by kernel_rfl) (by kernel_rfl) (fun _ _ _ h => h) (Or.inl ⟨by rfl, ?_⟩) (by assumption) ?_
  rotate_left
  · intro w hSw
    obtain ⟨q0, q1, q2, q3, q4, q5, q6, q7⟩ := HB.out w hSw
    go_simp
    first | done | with_reducible rfl
  try simp only [Act.put, List.setIfInBounds_toArray, List.set_cons_zero, List.set_cons_succ]
  refine wpAnyH_take (i := 22) (oi := _) (v := ?_) rfl (by kernel_rfl) (by kernel_rfl) (by kernel_rfl) (fun _ _ _ h => h) (Or.inl ⟨by rfl, ?_⟩) (by assumption) ?_
  rotate_left
  · intro w hSw
    go_simp
    first | done | with_reducible rfl
  try simp only [Act.put, List.setIfInBounds_toArray, List.set_cons_zero, List.set_cons_succ]
  refine wpAnyH_take (i := 25) (oi := _) (v := ?_) rfl (by kernel_rfl) (by kernel_rfl) (by kernel_rfl) (fun _ _ _ h => h) (Or.inl ⟨by rfl, ?_⟩) (by assumption) ?_
  rotate_left
  · intro w hSw
    go_simp
    first | done | with_reducible rfl
  try simp only [Act.put, List.setIfInBounds_toArray, List.set_cons_zero, List.set_cons_succ]
  refine wpAnyH_take (i := 26) (oi := _) (v := ?_) rfl (by kernel_rfl) (by kernel_rfl) (by kernel_rfl) (fun _ _ _ h => h) (Or.inl ⟨by rfl, ?_⟩) (by assumption) ?_
  rotate_left
  · intro w hSw
    obtain ⟨q0, q1, q2, q3, q4, q5, q6, q7⟩ := HB.out w hSw
    go_simp
    first | done | with_reducible rfl
  try simp only [Act.put, List.setIfInBounds_toArray, List.set_cons_zero, List.set_cons_succ]
  refine wpAnyH_take (i := 27) (oi := _) (v := ?_) rfl (by kernel_rfl) (by kernel_rfl) (by kernel_rfl) (fun _ _ _ h => h) (Or.inl ⟨by rfl, ?_⟩) (by assumption) ?_
  rotate_left
  · intro w hSw
    go_simp
    first | done | with_reducible rfl
  try simp only [Act.put, List.setIfInBounds_toArray, List.set_cons_zero, List.set_cons_succ]
  have O0 := (On.refl wa).drew
  refine wpAnyH_ready (rs := [0]) (by kernel_rfl) (by simp) ?_
  refine AllReadyH.cons (o := _) rfl (fun K hK => ?_) AllReadyH.nil
  go_simp
  refine (hn20.out wa.drew).mono ?_
  rintro e w1 ⟨rfl, T1⟩
  have O1 := O0.call T1
  refine hK.out _ _ O1 (fun hHeld => ?_)
  clear hK K
  try simp only [Act.put, List.setIfInBounds_toArray, List.set_cons_zero, List.set_cons_succ]
  refine wpAnyH_take (i := 1) (oi := _) (v := ?_) rfl (by kernel_rfl) (by kernel_rfl) (by kernel_rfl) (fun _ _ _ h => h) (Or.inl ⟨by rfl, ?_⟩) (by assumption) ?_
  rotate_left
  · intro w hSw
    go_simp
    first | done | with_reducible rfl
  try simp only [Act.put, List.setIfInBounds_toArray, List.set_cons_zero, List.set_cons_succ]
  refine wpAnyH_ready (rs := [2]) (by kernel_rfl) (by simp) ?_
  refine AllReadyH.cons (o := _) rfl (fun K hK => ?_) AllReadyH.nil
  go_simp
  refine (hn0.out w1).mono ?_
  rintro e w2 ⟨rfl, T2⟩
  have O2 := O1.call T2
  refine hK.out _ _ O2 (fun hHeld => ?_)
  clear hK K
  try simp only [Act.put, List.setIfInBounds_toArray, List.set_cons_zero, List.set_cons_succ]
  refine wpAnyH_take (i := 3) (oi := _) (v := ?_) rfl (by kernel_rfl) (by kernel_rfl) (by kernel_rfl) (fun _ _ _ h => h) (Or.inl ⟨by rfl, ?_⟩) (by assumption) ?_
  rotate_left
  · intro w hSw
    go_simp
    first | done | with_reducible rfl
  try simp only [Act.put, List.setIfInBounds_toArray, List.set_cons_zero, List.set_cons_succ]
  refine wpAnyH_ready (rs := [5]) (by kernel_rfl) (by simp) ?_
  refine AllReadyH.cons (o := _) rfl (fun K hK => ?_) AllReadyH.nil
  go_simp
  refine (hnm.out w2).mono ?_
  rintro e w3 ⟨rfl, T3⟩
  have O3 := O2.call T3
  refine hK.out _ _ O3 (fun hHeld => ?_)
  clear hK K
  try simp only [Act.put, List.setIfInBounds_toArray, List.set_cons_zero, List.set_cons_succ]
  refine wpAnyH_take (i := 6) (oi := _) (v := ?_) rfl (by kernel_rfl) (by kernel_rfl) (by kernel_rfl) (fun _ _ _ h => h) (Or.inl ⟨by rfl, ?_⟩) (by assumption) ?_
  rotate_left
  · intro w hSw
    go_simp
    first | done | with_reducible rfl
  try simp only [Act.put, List.setIfInBounds_toArray, List.set_cons_zero, List.set_cons_succ]
  refine wpAnyH_ready (rs := [9]) (by kernel_rfl) (by simp) ?_
  refine AllReadyH.cons (o := _) rfl (fun K hK => ?_) AllReadyH.nil
  go_simp
  refine (HST.out w3).mono ?_
  rintro e w4 ⟨rfl, T4⟩
  have O4 := O3.call T4
  refine hK.out _ _ O4 (fun hHeld => ?_)
  clear hK K
  try simp only [Act.put, List.setIfInBounds_toArray, List.set_cons_zero, List.set_cons_succ]
  refine wpAnyH_ready (rs := [10]) (by kernel_rfl) (by simp) ?_
  refine AllReadyH.cons (o := _) rfl (fun K hK => ?_) AllReadyH.nil
  go_simp
  refine (hns.out w4).mono ?_
  rintro e w5 ⟨rfl, T5⟩
  have O5 := O4.call T5
  refine hK.out _ _ O5 (fun hHeld => ?_)
  clear hK K
  try simp only [Act.put, List.setIfInBounds_toArray, List.set_cons_zero, List.set_cons_succ]
  refine wpAnyH_take (i := 11) (oi := _) (v := ?_) rfl (by kernel_rfl) (by kernel_rfl) (by kernel_rfl) (fun _ _ _ h => h) (Or.inl ⟨by rfl, ?_⟩) (by assumption) ?_
  rotate_left
  · intro w hSw
    go_simp
    first | done | with_reducible rfl
  try simp only [Act.put, List.setIfInBounds_toArray, List.set_cons_zero, List.set_cons_succ]
  refine wpAnyH_ready (rs := [14]) (by kernel_rfl) (by simp) ?_
  refine AllReadyH.cons (o := _) rfl (fun K hK => ?_) AllReadyH.nil
  go_simp
  refine (HCR.out w5).mono ?_
  rintro e w' ⟨rfl, hw⟩
  rw [hw]
  clear hw
  refine hK.out _ _ O5 (fun hHeld => ?_)
  clear hK K
  try simp only [Act.put, List.setIfInBounds_toArray, List.set_cons_zero, List.set_cons_succ]
  refine wpAnyH_ready (rs := [15]) (by kernel_rfl) (by simp) ?_
  refine AllReadyH.cons (o := _) rfl (fun K hK => ?_) AllReadyH.nil
  go_simp
  refine (hnc.out w5).mono ?_
  rintro e w6 ⟨rfl, T6⟩
  have O6 := O5.call T6
  refine hK.out _ _ O6 (fun hHeld => ?_)
  clear hK K
  try simp only [Act.put, List.setIfInBounds_toArray, List.set_cons_zero, List.set_cons_succ]
  refine wpAnyH_take (i := 16) (oi := _) (v := ?_) rfl (by kernel_rfl) (by kernel_rfl) (by kernel_rfl) (fun _ _ _ h => h) (Or.inl ⟨by rfl, ?_⟩) (by assumption) ?_
  rotate_left
  · intro w hSw
    go_simp
    first | done | with_reducible rfl
  try simp only [Act.put, List.setIfInBounds_toArray, List.set_cons_zero, List.set_cons_succ]
  refine wpAnyH_ready (rs := [18]) (by kernel_rfl) (by simp) ?_
  refine AllReadyH.cons (o := _) rfl (fun K hK => ?_) AllReadyH.nil
  go_simp
  refine (hnp.out w6).mono ?_
  rintro e w7 ⟨rfl, T7⟩
  have O7 := O6.call T7
  refine hK.out _ _ O7 (fun hHeld => ?_)
  clear hK K
  try simp only [Act.put, List.setIfInBounds_toArray, List.set_cons_zero, List.set_cons_succ]
  refine wpAnyH_take (i := 19) (oi := _) (v := ?_) rfl (by kernel_rfl) (by kernel_rfl) (by kernel_rfl) (fun _ _ _ h => h) (Or.inl ⟨by rfl, ?_⟩) (by assumption) ?_
  rotate_left
  · intro w hSw
    go_simp
    first | done | with_reducible rfl
  try simp only [Act.put, List.setIfInBounds_toArray, List.set_cons_zero, List.set_cons_succ]
  refine wpAnyH_ready (rs := [23]) (by kernel_rfl) (by simp) ?_
  refine AllReadyH.cons (o := _) rfl (fun K hK => ?_) AllReadyH.nil
  go_simp
  refine (hnt.out w7).mono ?_
  rintro e w8 ⟨rfl, T8⟩
  have O8 := O7.call T8
  refine hK.out _ _ O8 (fun hHeld => ?_)
  clear hK K
  try simp only [Act.put, List.setIfInBounds_toArray, List.set_cons_zero, List.set_cons_succ]
  refine wpAnyH_take (i := 24) (oi := _) (v := ?_) rfl (by kernel_rfl) (by kernel_rfl) (by kernel_rfl) (fun _ _ _ h => h) (Or.inl ⟨by rfl, ?_⟩) (by assumption) ?_
  rotate_left
  · intro w hSw
    go_simp
    first | done | with_reducible rfl
  try simp only [Act.put, List.setIfInBounds_toArray, List.set_cons_zero, List.set_cons_succ]
  refine wpAnyH_ready (rs := [28]) (by kernel_rfl) (by simp) ?_
  refine AllReadyH.cons (o := _) rfl (fun K hK => ?_) AllReadyH.nil
  go_simp
  refine (hnn.out w8).mono ?_
  rintro e w9 ⟨rfl, T9⟩
  have O9 := O8.call T9
  refine hK.out _ _ O9 (fun hHeld => ?_)
  clear hK K
  try simp only [Act.put, List.setIfInBounds_toArray, List.set_cons_zero, List.set_cons_succ]
  refine wpAnyH_take (i := 29) (oi := _) (v := ?_) rfl (by kernel_rfl) (by kernel_rfl) (by kernel_rfl) (fun _ _ _ h => h) (Or.inl ⟨by rfl, ?_⟩) (by assumption) ?_
  rotate_left
  · intro w hSw
    go_simp
    first | done | with_reducible rfl
  try simp only [Act.put, List.setIfInBounds_toArray, List.set_cons_zero, List.set_cons_succ]
  refine wpAnyH_ready (rs := [30]) (by kernel_rfl) (by simp) ?_
  refine AllReadyH.cons (o := _) rfl (fun K hK => ?_) AllReadyH.nil
  go_simp
  refine (hn0.out w9).mono ?_
  rintro e w10 ⟨rfl, T10⟩
  have O10 := O9.call T10
  refine hK.out _ _ O10 (fun hHeld => ?_)
  clear hK K
  try simp only [Act.put, List.setIfInBounds_toArray, List.set_cons_zero, List.set_cons_succ]
  refine wpAnyH_take (i := 31) (oi := _) (v := ?_) rfl (by kernel_rfl) (by kernel_rfl) (by kernel_rfl) (fun _ _ _ h => h) (Or.inl ⟨by rfl, ?_⟩) (by assumption) ?_
  rotate_left
  · intro w hSw
    go_simp
    first | done | with_reducible rfl
  try simp only [Act.put, List.setIfInBounds_toArray, List.set_cons_zero, List.set_cons_succ]
  refine wpAnyH_ready (rs := [32]) (by kernel_rfl) (by simp) ?_
  refine AllReadyH.cons (o := _) rfl (fun K hK => ?_) AllReadyH.nil
  go_simp
  refine hK.out _ _ O10 (fun hHeld => ?_)
  clear hK K
  try simp only [Act.put, List.setIfInBounds_toArray, List.set_cons_zero, List.set_cons_succ]
  refine wpAnyH_done (by kernel_rfl) ?_ _
  go_wp2_with fail
  go_ret
  exact ⟨by rw [HR.out]; rfl, OA.call O10⟩
end Go.Proofs.YtnadjlejlohgiaaGreatDoor.Lc

