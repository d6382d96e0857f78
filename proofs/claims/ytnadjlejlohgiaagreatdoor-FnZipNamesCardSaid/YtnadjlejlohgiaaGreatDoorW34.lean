/- Own texts joined: He. -/
import Derived.Test.YtnadjlejlohgiaaGreatDoorW4
import Derived.Test.YtnadjlejlohgiaaGreatDoorW10
import Derived.Test.YtnadjlejlohgiaaGreatDoorW33
/- The fields of a file in an archive, the specification's. (Printed by tools/gen_he.py.) -/
namespace Go.Proofs.YtnadjlejlohgiaaGreatDoor.Lc
open Go.RowKit Go.Proofs.YtnadjlejlohgiaaGreatDoor.Mem Go.Proofs.YtnadjlejlohgiaaGreatDoor.Nm Go.Proofs.YtnadjlejlohgiaaGreatDoor.Nb Go.Proofs.YtnadjlejlohgiaaGreatDoor.Cr Go.Proofs.YtnadjlejlohgiaaGreatDoor.Wi
set_option linter.unusedVariables false
set_option linter.unusedSimpArgs false
theorem sb2_calls (v : Nat) (hv : v < 9223372036854775808) (w : World) :
    Calls Tryz.prog 56 #[.int .i64 v, .int .i64 2] w (fun e w' => e = .returned (.string (nB 2 v)) ∧ On w w') := by
  have h := sbytes_calls v 2 hv (by decide) w
  rw [show ((2 : Nat) : Int) = 2 from rfl] at h
  exact h
theorem sb4_calls (v : Nat) (hv : v < 9223372036854775808) (w : World) :
    Calls Tryz.prog 56 #[.int .i64 v, .int .i64 4] w (fun e w' => e = .returned (.string (nB 4 v)) ∧ On w w') := by
  have h := sbytes_calls v 4 hv (by decide) w
  rw [show ((4 : Nat) : Int) = 4 from rfl] at h
  exact h
theorem sb20_calls (w : World) : Calls Tryz.prog 56 #[.int .i64 20, .int .i64 2] w (fun e w' => e = .returned (.string (nB 2 20)) ∧ On w w') := by
  have h := sb2_calls 20 (by decide) w
  rw [show ((20 : Nat) : Int) = 20 from rfl] at h
  exact h
theorem sb0_calls (w : World) : Calls Tryz.prog 56 #[.int .i64 0, .int .i64 2] w (fun e w' => e = .returned (.string (nB 2 0)) ∧ On w w') := by
  have h := sb2_calls 0 (by decide) w
  rw [show ((0 : Nat) : Int) = 0 from rfl] at h
  exact h
/-- The fields of a file that is packed in the way mt, pk bytes long. -/
def fieldsB (nm : ByteArray) (y m d h mi s : Int) (tx : ByteArray) (mt pk : Nat) : ByteArray :=
  ((((((((nB 2 20 ++ nB 2 0) ++ nB 2 mt) ++ nB 4 (stampN y m d h mi s).toNat) ++ nB 4 (crcOf tx)) ++ nB 4 pk) ++ nB 4 tx.size) ++ nB 2 nm.size) ++ nB 2 0)
set_option maxRecDepth 100000 in
set_option maxHeartbeats 4000000 in
theorem sfields_calls (nm : ByteArray) (y m d h mi s : Int) (tx : ByteArray) (ok : okp y m d h mi s) (hn : nm.size ≤ 1000) (ht : tx.size ≤ 1000) (w : World) :
    Calls Tryz.prog 83 #[.agg #[.string nm, .int .i64 y, .int .i64 m, .int .i64 d, .int .i64 h, .int .i64 mi, .int .i64 s, .string tx]] w (Tells w (.string (fieldsB nm y m d h mi s tx (howOf tx).1 (howOf tx).2.size))) := by
  have hmt : (howOf tx).1 ≤ 8 := by unfold howOf; split <;> simp
  have hpk : (howOf tx).2.size ≤ 1000 := by unfold howOf; split <;> simp <;> omega
  have HW := Lib.hid (fun w => show_calls tx (by omega) w)
  generalize howOf tx = hw at *
  obtain ⟨mt, pt⟩ := hw
  have hmt : mt ≤ 8 := hmt
  have hpk : pt.size ≤ 1000 := hpk
  have HR := Lib.hid (show fieldsB nm y m d h mi s tx mt pt.size = ((((((((nB 2 20 ++ nB 2 0) ++ nB 2 mt) ++ nB 4 (stampN y m d h mi s).toNat) ++ nB 4 (crcOf tx)) ++ nB 4 pt.size) ++ nB 4 tx.size) ++ nB 2 nm.size) ++ nB 2 0) from rfl)
  show Calls Tryz.prog 83 #[.agg #[.string nm, .int .i64 y, .int .i64 m, .int .i64 d, .int .i64 h, .int .i64 mi, .int .i64 s, .string tx]] w (Tells w (.string (fieldsB nm y m d h mi s tx mt pt.size)))
  generalize fieldsB nm y m d h mi s tx mt pt.size = R at *
  have hbd := stampN_bd ok
  have HST := Lib.hid (fun w => sput_calls y m d h mi s ok w)
  obtain ⟨sn, hsn⟩ : ∃ sn : Nat, stampN y m d h mi s = (sn : Int) := ⟨(stampN y m d h mi s).toNat, by omega⟩
  rw [hsn] at HST HR hbd
  have hcl := crcC_lt tx
  have HCR := Lib.hid (fun w => scrc_calls tx (by omega) w)
  have HCE := Lib.hid (show crcOf tx = crcC (tx.data.toList.map UInt8.toNat) from rfl)
  rw [← HCE.out] at HCR hcl
  generalize crcOf tx = cr at *
  have hn20 := Lib.hid (fun w => sb20_calls w)
  have hn0 := Lib.hid (fun w => sb0_calls w)
  have hnm := Lib.hid (fun w => sb2_calls mt (by omega) w)
  have hns := Lib.hid (fun w => sb4_calls sn (by omega) w)
  have hnc := Lib.hid (fun w => sb4_calls cr (by omega) w)
  have hnp := Lib.hid (fun w => sb4_calls pt.size (by omega) w)
  have hnt := Lib.hid (fun w => sb4_calls tx.size (by omega) w)
  have hnn := Lib.hid (fun w => sb2_calls nm.size (by omega) w)
  have s1 := nB_size 2 20
  have s2 := nB_size 2 0
  have s3 := nB_size 2 mt
  have s4 := nB_size 4 sn
  have s5 := nB_size 4 cr
  have s6 := nB_size 4 pt.size
  have s7 := nB_size 4 tx.size
  have s8 := nB_size 2 nm.size
  rw [Int.toNat_natCast] at HR
  generalize nB 2 20 = b1 at *
  generalize nB 2 0 = b2 at *
  generalize nB 2 mt = b3 at *
  generalize nB 4 sn = b4 at *
  generalize nB 4 cr = b5 at *
  generalize nB 4 pt.size = b6 at *
  generalize nB 4 tx.size = b7 at *
  generalize nB 2 nm.size = b8 at *
  clear hsn hbd hcl HCE
  have OA := (On.refl w).alloc (.cells #[.string nm, .int .i64 y, .int .i64 m, .int .i64 d, .int .i64 h, .int .i64 mi, .int .i64 s, .string tx] 42)
  have BA := Blk.new w 42 #[.string nm, .int .i64 y, .int .i64 m, .int .i64 d, .int .i64 h, .int .i64 mi, .int .i64 s, .string tx]
  have HCS := Lib.hid (fun W (b : Blk W w.heap.size 42 #[.string nm, .int .i64 y, .int .i64 m, .int .i64 d, .int .i64 h, .int .i64 mi, .int .i64 s, .string tx]) => (⟨(b.cell 0).trans rfl, (b.cell 1).trans rfl, (b.cell 2).trans rfl, (b.cell 3).trans rfl, (b.cell 4).trans rfl, (b.cell 5).trans rfl, (b.cell 6).trans rfl, (b.cell 7).trans rfl⟩ :
    W.cell? ⟨w.heap.size, 0, none⟩ = some (.string nm) ∧ W.cell? ⟨w.heap.size, 1, none⟩ = some (.int .i64 y) ∧ W.cell? ⟨w.heap.size, 2, none⟩ = some (.int .i64 m) ∧ W.cell? ⟨w.heap.size, 3, none⟩ = some (.int .i64 d) ∧ W.cell? ⟨w.heap.size, 4, none⟩ = some (.int .i64 h) ∧ W.cell? ⟨w.heap.size, 5, none⟩ = some (.int .i64 mi) ∧ W.cell? ⟨w.heap.size, 6, none⟩ = some (.int .i64 s) ∧ W.cell? ⟨w.heap.size, 7, none⟩ = some (.string tx)))
  have HB0 := Lib.hid (fun W (O1 : On (w.alloc (.cells #[.string nm, .int .i64 y, .int .i64 m, .int .i64 d, .int .i64 h, .int .i64 mi, .int .i64 s, .string tx] 42)) W) => HCS.out W (BA.call O1.out))
  clear HCS BA
  go_enter Tryz.func83, Tryz.ntmps83
  go_upto_region 1 with fail
  generalize hP : w.heap.size = p at *
  generalize w.alloc (.cells #[.string nm, .int .i64 y, .int .i64 m, .int .i64 d, .int .i64 h, .int .i64 mi, .int .i64 s, .string tx] 42) = wz at *
  obtain ⟨x0, x1, x2, x3, x4, x5, x6, x7⟩ := HB0.out wz (On.refl _)
  go_wp2_with fail
  refine (HW.out wz).mono ?_
  rintro e wa ⟨rfl, Oz⟩
  clear x0 x1 x2 x3 x4 x5 x6 x7
  replace OA := OA.call Oz
  have HB := Lib.hid (fun W (O1 : On wa W) => HB0.out W (Oz.call O1))
  go_wp2_with fail
  refine wp_region_held_drew (S := fun W => On wa W) (by kernel_rfl) (On.refl _).drew (fun hHeld => ?_)
  refine Tk.tk 3 ?_ rfl (.inl ⟨by rfl, ?_⟩) ?_
  rotate_left
  · intro w hSw; go_simp; first | done | with_reducible rfl
  try simp only [Act.put, Tk.s3]
  refine Tk.tk 6 ?_ rfl (.inl ⟨by rfl, ?_⟩) ?_
  rotate_left
  · intro w hSw; go_simp; first | done | with_reducible rfl
  try simp only [Act.put, Tk.s3]
  refine Tk.tk 7 ?_ rfl (.inl ⟨by rfl, ?_⟩) ?_
  rotate_left
  · intro w hSw; obtain ⟨q0, q1, q2, q3, q4, q5, q6, q7⟩ := HB.out w hSw; go_simp; first | done | with_reducible rfl
  try simp only [Act.put, Tk.s3]
  have O0 := (On.refl wa).drew
  refine Tk.rd 0 rfl fun K hK => ?_
  go_simp
  refine (hn20.out wa.drew).mono ?_
  rintro e w1 ⟨rfl, T1⟩
  have O1 := O0.call T1
  refine hK.out _ _ O1 (fun hHeld => ?_)
  clear hK K
  try simp only [Act.put, Tk.s3]
  refine Tk.rd 1 rfl fun K hK => ?_
  go_simp
  refine (hn0.out w1).mono ?_
  rintro e w2 ⟨rfl, T2⟩
  have O2 := O1.call T2
  refine hK.out _ _ O2 (fun hHeld => ?_)
  clear hK K
  try simp only [Act.put, Tk.s3]
  refine Tk.tk 2 ?_ rfl (.inl ⟨by rfl, ?_⟩) ?_
  rotate_left
  · intro w hSw; go_simp; first | done | with_reducible rfl
  try simp only [Act.put, Tk.s3]
  refine Tk.rd 4 rfl fun K hK => ?_
  go_simp
  refine (hnm.out w2).mono ?_
  rintro e w3 ⟨rfl, T3⟩
  have O3 := O2.call T3
  refine hK.out _ _ O3 (fun hHeld => ?_)
  clear hK K
  try simp only [Act.put, Tk.s3]
  refine Tk.tk 5 ?_ rfl (.inl ⟨by rfl, ?_⟩) ?_
  rotate_left
  · intro w hSw; go_simp; first | done | with_reducible rfl
  try simp only [Act.put, Tk.s3]
  refine Tk.rd 8 rfl fun K hK => ?_
  go_simp
  refine (HST.out w3).mono ?_
  rintro e w4 ⟨rfl, T4⟩
  have O4 := O3.call T4
  refine hK.out _ _ O4 (fun hHeld => ?_)
  clear hK K
  try simp only [Act.put, Tk.s3]
  refine Tk.rd 9 rfl fun K hK => ?_
  go_simp
  refine (hns.out w4).mono ?_
  rintro e w5 ⟨rfl, T5⟩
  have O5 := O4.call T5
  refine hK.out _ _ O5 (fun hHeld => ?_)
  clear hK K
  try simp only [Act.put, Tk.s3]
  refine Tk.tk 10 ?_ rfl (.inl ⟨by rfl, ?_⟩) ?_
  rotate_left
  · intro w hSw; go_simp; first | done | with_reducible rfl
  try simp only [Act.put, Tk.s3]
  refine Tk.rd 11 rfl fun K hK => ?_
  go_simp
  refine hK.out _ _ O5 (fun hHeld => ?_)
  clear hK K
  try simp only [Act.put, Tk.s3]
  refine wpAnyH_done (by kernel_rfl) ?_ _
  go_wp2_with fail
  replace OA := OA.call O5
  replace HB := Lib.hid (fun W (O1 : On w5 W) => HB.out W (O5.call O1))
  clear hHeld
  refine wp_region_held_drew (S := fun W => On w5 W) (by kernel_rfl) (On.refl _).drew (fun hHeld => ?_)
  refine Tk.tk 0 ?_ rfl (.inl ⟨by rfl, ?_⟩) ?_
  rotate_left
  · intro w hSw; go_simp; first | done | with_reducible rfl
  try simp only [Act.put, Tk.s3]
  refine Tk.tk 1 ?_ rfl (.inl ⟨by rfl, ?_⟩) ?_
  rotate_left
  · intro w hSw; go_simp; first | done | with_reducible rfl
  try simp only [Act.put, Tk.s3]
  refine Tk.tk 2 ?_ rfl (.inl ⟨by rfl, ?_⟩) ?_
  rotate_left
  · intro w hSw; obtain ⟨q0, q1, q2, q3, q4, q5, q6, q7⟩ := HB.out w hSw; go_simp; first | done | with_reducible rfl
  try simp only [Act.put, Tk.s3]
  refine Tk.tk 6 ?_ rfl (.inl ⟨by rfl, ?_⟩) ?_
  rotate_left
  · intro w hSw; go_simp; first | done | with_reducible rfl
  try simp only [Act.put, Tk.s3]
  refine Tk.tk 7 ?_ rfl (.inl ⟨by rfl, ?_⟩) ?_
  rotate_left
  · intro w hSw; go_simp; first | done | with_reducible rfl
  try simp only [Act.put, Tk.s3]
  refine Tk.tk 10 ?_ rfl (.inl ⟨by rfl, ?_⟩) ?_
  rotate_left
  · intro w hSw; go_simp; first | done | with_reducible rfl
  try simp only [Act.put, Tk.s3]
  refine Tk.tk 11 ?_ rfl (.inl ⟨by rfl, ?_⟩) ?_
  rotate_left
  · intro w hSw; obtain ⟨q0, q1, q2, q3, q4, q5, q6, q7⟩ := HB.out w hSw; go_simp; first | done | with_reducible rfl
  try simp only [Act.put, Tk.s3]
  refine Tk.tk 12 ?_ rfl (.inl ⟨by rfl, ?_⟩) ?_
  rotate_left
  · intro w hSw; go_simp; first | done | with_reducible rfl
  try simp only [Act.put, Tk.s3]
  replace O5 := (On.refl w5).drew
  refine Tk.rd 3 rfl fun K hK => ?_
  go_simp
  refine (HCR.out w5.drew).mono ?_
  rintro e w' ⟨rfl, hw⟩
  rw [hw]
  clear hw
  refine hK.out _ _ O5 (fun hHeld => ?_)
  clear hK K
  try simp only [Act.put, Tk.s3]
  refine Tk.rd 4 rfl fun K hK => ?_
  go_simp
  refine (hnc.out w5.drew).mono ?_
  rintro e w6 ⟨rfl, T6⟩
  have O6 := O5.call T6
  refine hK.out _ _ O6 (fun hHeld => ?_)
  clear hK K
  try simp only [Act.put, Tk.s3]
  refine Tk.tk 5 ?_ rfl (.inl ⟨by rfl, ?_⟩) ?_
  rotate_left
  · intro w hSw; go_simp; first | done | with_reducible rfl
  try simp only [Act.put, Tk.s3]
  refine Tk.rd 8 rfl fun K hK => ?_
  go_simp
  refine (hnp.out w6).mono ?_
  rintro e w7 ⟨rfl, T7⟩
  have O7 := O6.call T7
  refine hK.out _ _ O7 (fun hHeld => ?_)
  clear hK K
  try simp only [Act.put, Tk.s3]
  refine Tk.tk 9 ?_ rfl (.inl ⟨by rfl, ?_⟩) ?_
  rotate_left
  · intro w hSw; go_simp; first | done | with_reducible rfl
  try simp only [Act.put, Tk.s3]
  refine Tk.rd 13 rfl fun K hK => ?_
  go_simp
  refine (hnt.out w7).mono ?_
  rintro e w8 ⟨rfl, T8⟩
  have O8 := O7.call T8
  refine hK.out _ _ O8 (fun hHeld => ?_)
  clear hK K
  try simp only [Act.put, Tk.s3]
  refine Tk.tk 14 ?_ rfl (.inl ⟨by rfl, ?_⟩) ?_
  rotate_left
  · intro w hSw; go_simp; first | done | with_reducible rfl
  try simp only [Act.put, Tk.s3]
  refine Tk.rd 15 rfl fun K hK => ?_
  go_simp
  refine hK.out _ _ O8 (fun hHeld => ?_)
  clear hK K
  try simp only [Act.put, Tk.s3]
  refine wpAnyH_done (by kernel_rfl) ?_ _
  obtain ⟨x0, x1, x2, x3, x4, x5, x6, x7⟩ := HB.out w8 O8
  go_wp2_with fail
  replace OA := OA.call O8
  refine (hnn.out w8).mono ?_
  rintro e w' ⟨rfl, Ta⟩
  clear x0 x1 x2 x3 x4 x5 x6 x7
  replace OA := OA.call Ta
  go_wp2_with fail
  refine (hn0.out w').mono ?_
  rintro e w'' ⟨rfl, Tb⟩
  replace OA := OA.call Tb
  go_wp2_with fail
  go_ret
  exact ⟨by rw [HR.out]; rfl, OA⟩
end Go.Proofs.YtnadjlejlohgiaaGreatDoor.Lc

