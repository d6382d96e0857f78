/- Own texts joined: Hg. -/
import Derived.Test.YtnadjlejlohgiaaGreatDoorS35
/- A file as it lies in an archive, the specification's. (Printed by tools/gen_hg.py.) -/
namespace Go.Proofs.YtnadjlejlohgiaaGreatDoor.Lc
open Go.RowKit Go.Proofs.YtnadjlejlohgiaaGreatDoor.Mem Go.Proofs.YtnadjlejlohgiaaGreatDoor.Nm Go.Proofs.YtnadjlejlohgiaaGreatDoor.Nb Go.Proofs.YtnadjlejlohgiaaGreatDoor.Cr Go.Proofs.YtnadjlejlohgiaaGreatDoor.Wi
set_option linter.unusedVariables false
set_option linter.unusedSimpArgs false
theorem sbpk_calls (w : World) : Calls Tryz.prog 56 #[.int .i64 67324752, .int .i64 4] w (fun e w' => e = .returned (.string (nB 4 67324752)) ∧ On w w') := by
  have h := sb4_calls 67324752 (by decide) w
  rw [show ((67324752 : Nat) : Int) = 67324752 from rfl] at h
  exact h
theorem nB_mark : nB 4 67324752 = ⟨#[80, 75, 3, 4]⟩ := by decide
theorem fieldsB_size (nm : ByteArray) (y m d h mi s : Int) (tx : ByteArray) (mt pk : Nat) : (fieldsB nm y m d h mi s tx mt pk).size = 26 := by
  unfold fieldsB
  simp only [ByteArray.size_append, nB_size]
/-- A file in an archive. -/
def localB (nm : ByteArray) (y m d h mi s : Int) (tx : ByteArray) : ByteArray :=
  (((nB 4 67324752 ++ fieldsB nm y m d h mi s tx (howOf tx).1 (howOf tx).2.size) ++ nm) ++ (howOf tx).2)
theorem headB_fields (nm : ByteArray) (y m d h mi s : Int) (tx : ByteArray) (mt pk : Nat) : headB nm y m d h mi s tx mt pk = nB 4 67324752 ++ fieldsB nm y m d h mi s tx mt pk := by
  unfold headB fieldsB
  rw [nB_mark]
  simp only [ByteArray.append_assoc]
set_option maxRecDepth 100000 in
set_option maxHeartbeats 4000000 in
theorem slocal_calls (nm : ByteArray) (y m d h mi s : Int) (tx : ByteArray) (ok : okp y m d h mi s) (hn : nm.size ≤ 1000) (ht : tx.size ≤ 1000) (w : World) :
    Calls Tryz.prog 53 #[.agg #[.string nm, .int .i64 y, .int .i64 m, .int .i64 d, .int .i64 h, .int .i64 mi, .int .i64 s, .string tx]] w (Tells w (.string (localB nm y m d h mi s tx))) := by
  have hpk : (howOf tx).2.size ≤ 1000 := by unfold howOf; split <;> simp <;> omega
  have HR := Lib.hid (show localB nm y m d h mi s tx = (((nB 4 67324752 ++ fieldsB nm y m d h mi s tx (howOf tx).1 (howOf tx).2.size) ++ nm) ++ (howOf tx).2) from rfl)
  generalize localB nm y m d h mi s tx = R at *
  have HF := Lib.hid (fun w => sfields_calls nm y m d h mi s tx ok hn ht w)
  have HW := Lib.hid (fun w => show_calls tx (by omega) w)
  have hfs := fieldsB_size nm y m d h mi s tx (howOf tx).1 (howOf tx).2.size
  generalize fieldsB nm y m d h mi s tx (howOf tx).1 (howOf tx).2.size = fb at *
  generalize howOf tx = hw at *
  obtain ⟨mt, pt⟩ := hw
  have hpk2 : pt.size ≤ 1000 := hpk
  have hs1 := nB_size 4 67324752
  have HM := Lib.hid (fun w => sbpk_calls w)
  generalize nB 4 67324752 = mk at *
  have z1 : ¬ 9223372036854775807 < 30 + nm.size := by omega
  have z2 : ¬ 9223372036854775807 < 30 + nm.size + pt.size := by omega
  have z3 : ¬ 9223372036854775807 < 4 + 26 + nm.size := by omega
  have z4 : ¬ 9223372036854775807 < 4 + 26 + nm.size + pt.size := by omega
  have OA := (On.refl w).alloc (.cells #[.string nm, .int .i64 y, .int .i64 m, .int .i64 d, .int .i64 h, .int .i64 mi, .int .i64 s, .string tx] 42)
  have BA := Blk.new w 42 #[.string nm, .int .i64 y, .int .i64 m, .int .i64 d, .int .i64 h, .int .i64 mi, .int .i64 s, .string tx]
  have HCS := Lib.hid (fun W (b : Blk W w.heap.size 42 #[.string nm, .int .i64 y, .int .i64 m, .int .i64 d, .int .i64 h, .int .i64 mi, .int .i64 s, .string tx]) => (⟨(b.cell 0).trans rfl, (b.cell 1).trans rfl, (b.cell 2).trans rfl, (b.cell 3).trans rfl, (b.cell 4).trans rfl, (b.cell 5).trans rfl, (b.cell 6).trans rfl, (b.cell 7).trans rfl⟩ :
    W.cell? ⟨w.heap.size, 0, none⟩ = some (.string nm) ∧ W.cell? ⟨w.heap.size, 1, none⟩ = some (.int .i64 y) ∧ W.cell? ⟨w.heap.size, 2, none⟩ = some (.int .i64 m) ∧ W.cell? ⟨w.heap.size, 3, none⟩ = some (.int .i64 d) ∧ W.cell? ⟨w.heap.size, 4, none⟩ = some (.int .i64 h) ∧ W.cell? ⟨w.heap.size, 5, none⟩ = some (.int .i64 mi) ∧ W.cell? ⟨w.heap.size, 6, none⟩ = some (.int .i64 s) ∧ W.cell? ⟨w.heap.size, 7, none⟩ = some (.string tx)))
  have HB0 := Lib.hid (fun W (O1 : On (w.alloc (.cells #[.string nm, .int .i64 y, .int .i64 m, .int .i64 d, .int .i64 h, .int .i64 mi, .int .i64 s, .string tx] 42)) W) => HCS.out W (BA.call O1.out))
  clear HCS BA
  go_enter Tryz.func53, Tryz.ntmps53
  go_upto_region 1 with fail
  generalize hP : w.heap.size = p at *
  generalize w.alloc (.cells #[.string nm, .int .i64 y, .int .i64 m, .int .i64 d, .int .i64 h, .int .i64 mi, .int .i64 s, .string tx] 42) = wz at *
  obtain ⟨x0, x1, x2, x3, x4, x5, x6, x7⟩ := HB0.out wz (On.refl _)
  go_wp2_with fail
  refine (HW.out wz).mono ?_
  rintro e wa ⟨rfl, Oz⟩
  clear x0 x1 x2 x3 x4 x5 x6 x7
  replace OA := OA.call Oz
  have HB := Lib.hid (fun W (O1 : On wa W) => HB0.out W (Oz.call O1))
  go_wp2_with fail
  refine wp_region_held_drew (S := fun W => On wa W) (by kernel_rfl) (On.refl _).drew (fun hHeld => ?_)
  refine wpAnyH_take (i := 1) (oi := _) (v := ?_) rfl (by kernel_rfl) (by kernel_rfl) (by kernel_rfl) (fun _ _ _ h => h) (Or.inl ⟨by rfl, ?_⟩) (by assumption) ?_
  rotate_left
  · intro w hSw
    obtain ⟨q0, q1, q2, q3, q4, q5, q6, q7⟩ := HB.out w hSw
    go_simp
    first | done | with_reducible rfl
  try simp only [Act.put, List.setIfInBounds_toArray, List.set_cons_zero, List.set_cons_succ]
  refine wpAnyH_take (i := 4) (oi := _) (v := ?_) rfl (by kernel_rfl) (by kernel_rfl) (by kernel_rfl) (fun _ _ _ h => h) (Or.inl ⟨by rfl, ?_⟩) (by assumption) ?_
  rotate_left
  · intro w hSw
    go_simp
    first | done | with_reducible rfl
  try simp only [Act.put, List.setIfInBounds_toArray, List.set_cons_zero, List.set_cons_succ]
  refine wpAnyH_take (i := 5) (oi := _) (v := ?_) rfl (by kernel_rfl) (by kernel_rfl) (by kernel_rfl) (fun _ _ _ h => h) (Or.inl ⟨by rfl, ?_⟩) (by assumption) ?_
  rotate_left
  · intro w hSw
    obtain ⟨q0, q1, q2, q3, q4, q5, q6, q7⟩ := HB.out w hSw
    go_simp
    first | done | with_reducible rfl
  try simp only [Act.put, List.setIfInBounds_toArray, List.set_cons_zero, List.set_cons_succ]
  refine wpAnyH_take (i := 7) (oi := _) (v := ?_) rfl (by kernel_rfl) (by kernel_rfl) (by kernel_rfl) (fun _ _ _ h => h) (Or.inl ⟨by rfl, ?_⟩) (by assumption) ?_
  rotate_left
  · intro w hSw
    go_simp
    first | done | with_reducible rfl
  try simp only [Act.put, List.setIfInBounds_toArray, List.set_cons_zero, List.set_cons_succ]
  have O0 := (On.refl wa).drew
  refine wpAnyH_ready (rs := [0]) (by kernel_rfl) (by simp) ?_
  refine AllReadyH.cons (o := _) rfl (fun K hK => ?_) AllReadyH.nil
  go_simp
  refine (HM.out wa.drew).mono ?_
  rintro e w1 ⟨rfl, T1⟩
  have O1 := O0.call T1
  refine hK.out _ _ O1 (fun hHeld => ?_)
  clear hK K
  try simp only [Act.put, List.setIfInBounds_toArray, List.set_cons_zero, List.set_cons_succ]
  refine wpAnyH_ready (rs := [2]) (by kernel_rfl) (by simp) ?_
  refine AllReadyH.cons (o := _) rfl (fun K hK => ?_) AllReadyH.nil
  go_simp
  refine (HF.out w1).mono ?_
  rintro e w2 ⟨rfl, T2⟩
  have O2 := O1.call T2
  refine hK.out _ _ O2 (fun hHeld => ?_)
  clear hK K
  try simp only [Act.put, List.setIfInBounds_toArray, List.set_cons_zero, List.set_cons_succ]
  refine wpAnyH_take (i := 3) (oi := _) (v := ?_) rfl (by kernel_rfl) (by kernel_rfl) (by kernel_rfl) (fun _ _ _ h => h) (Or.inl ⟨by rfl, ?_⟩) (by assumption) ?_
  rotate_left
  · intro w hSw
    go_simp
    first | done | with_reducible rfl
  try simp only [Act.put, List.setIfInBounds_toArray, List.set_cons_zero, List.set_cons_succ]
  refine wpAnyH_take (i := 6) (oi := _) (v := ?_) rfl (by kernel_rfl) (by kernel_rfl) (by kernel_rfl) (fun _ _ _ h => h) (Or.inl ⟨by rfl, ?_⟩) (by assumption) ?_
  rotate_left
  · intro w hSw
    go_simp
    first | done | with_reducible rfl
  try simp only [Act.put, List.setIfInBounds_toArray, List.set_cons_zero, List.set_cons_succ]
  refine wpAnyH_take (i := 8) (oi := _) (v := ?_) rfl (by kernel_rfl) (by kernel_rfl) (by kernel_rfl) (fun _ _ _ h => h) (Or.inl ⟨by rfl, ?_⟩) (by assumption) ?_
  rotate_left
  · intro w hSw
    go_simp
    first | done | with_reducible rfl
  try simp only [Act.put, List.setIfInBounds_toArray, List.set_cons_zero, List.set_cons_succ]
  refine wpAnyH_ready (rs := [9]) (by kernel_rfl) (by simp) ?_
  refine AllReadyH.cons (o := _) rfl (fun K hK => ?_) AllReadyH.nil
  go_simp
  refine hK.out _ _ O2 (fun hHeld => ?_)
  clear hK K
  try simp only [Act.put, List.setIfInBounds_toArray, List.set_cons_zero, List.set_cons_succ]
  refine wpAnyH_done (by kernel_rfl) ?_ _
  go_wp2_with fail
  go_ret
  exact ⟨by rw [HR.out]; rfl, OA.call O2⟩
end Go.Proofs.YtnadjlejlohgiaaGreatDoor.Lc

