/- Own texts joined: Lp. -/
import Derived.Deep.QuietTactic
import Derived.BigQuiet
import Derived.Test.YtnadjlejlohgiaaGreatDoorS39
import Derived.Test.YtnadjlejlohgiaaGreatDoorS41
/- A file written as it lies in an archive: both programs' LocalPut. Conditions: the variable order as it is laid; the library's cell of a length. (Printed by tools/gen_lp.py.) -/
namespace Go.Proofs.YtnadjlejlohgiaaGreatDoor.Lc
open Go.RowKit Go.Proofs.YtnadjlejlohgiaaGreatDoor.Mem Go.Proofs.YtnadjlejlohgiaaGreatDoor.Nm Go.Proofs.YtnadjlejlohgiaaGreatDoor.Nb Go.Proofs.YtnadjlejlohgiaaGreatDoor.Cr Go.Proofs.YtnadjlejlohgiaaGreatDoor.Wi
set_option linter.unusedVariables false
set_option linter.unusedSimpArgs false
/-- What LocalPut answers. -/
def lputB (nm : ByteArray) (y m d h mi s : Int) (tx : ByteArray) : ByteArray := if entryOk nm y m d h mi s tx = true then localB nm y m d h mi s tx else ⟨#[]⟩
theorem local_head_is (nm : ByteArray) (y m d h mi s : Int) (tx : ByteArray) : localB nm y m d h mi s tx = (headB nm y m d h mi s tx (howOf tx).1 (howOf tx).2.size ++ nm) ++ (howOf tx).2 := by
  unfold localB
  rw [headB_fields]
theorem headB_size' (nm : ByteArray) (y m d h mi s : Int) (tx : ByteArray) (mt pk : Nat) : (headB nm y m d h mi s tx mt pk).size = 30 := by
  rw [headB_fields, ByteArray.size_append, nB_size, fieldsB_size]
set_option maxRecDepth 100000 in
set_option maxHeartbeats 1000000 in
theorem slput_calls (nm : ByteArray) (y m d h mi s : Int) (tx : ByteArray) (w : World) (hn : nm.size < 4294967281) (ht : tx.size ≤ maxLen) :
    Calls Tryz.prog 24 #[ent nm y m d h mi s tx] w (Tells w (.string (lputB nm y m d h mi s tx))) := by
  have HS := Lib.hid (fun w => sentry_calls nm y m d h mi s tx w hn ht)
  have OA := (On.refl w).alloc (.cells #[.string nm, .int .i64 y, .int .i64 m, .int .i64 d, .int .i64 h, .int .i64 mi, .int .i64 s, .string tx] 42)
  have BA := Blk.new w 42 #[.string nm, .int .i64 y, .int .i64 m, .int .i64 d, .int .i64 h, .int .i64 mi, .int .i64 s, .string tx]
  unfold lputB
  cases hk : entryOk nm y m d h mi s tx with
  | false =>
    rw [hk] at HS
    clear hk
    rw [if_neg (by decide)]
    unfold ent at HS ⊢
    go_enter Tryz.func24, Tryz.ntmps24
    go_wp2_with fail
    generalize w.alloc (.cells #[.string nm, .int .i64 y, .int .i64 m, .int .i64 d, .int .i64 h, .int .i64 mi, .int .i64 s, .string tx] 42) = wa at *
    refine (HS.out wa).mono ?_
    rintro e w1 ⟨rfl, O1⟩
    go_wp2_with fail
    go_ret
    exact ⟨rfl, OA.call O1⟩
  | true =>
    rw [hk] at HS
    obtain ⟨h43, ok, h300⟩ := entryOk_parts hk
    clear hk
    rw [if_pos rfl]
    have HL := Lib.hid (fun w => slocal_calls nm y m d h mi s tx ok (by omega) (by omega) w)
    generalize localB nm y m d h mi s tx = R at *
    clear ok
    unfold ent at HS ⊢
    go_enter Tryz.func24, Tryz.ntmps24
    go_wp2_with fail
    generalize hP : w.heap.size = p at *
    generalize w.alloc (.cells #[.string nm, .int .i64 y, .int .i64 m, .int .i64 d, .int .i64 h, .int .i64 mi, .int .i64 s, .string tx] 42) = wa at *
    refine (HS.out wa).mono ?_
    rintro e w1 ⟨rfl, O1⟩
    have B1 := BA.call O1.out
    have c0 : w1.cell? ⟨p, 0, none⟩ = some (.string nm) := (B1.cell 0).trans rfl
    have c1 : w1.cell? ⟨p, 1, none⟩ = some (.int .i64 y) := (B1.cell 1).trans rfl
    have c2 : w1.cell? ⟨p, 2, none⟩ = some (.int .i64 m) := (B1.cell 2).trans rfl
    have c3 : w1.cell? ⟨p, 3, none⟩ = some (.int .i64 d) := (B1.cell 3).trans rfl
    have c4 : w1.cell? ⟨p, 4, none⟩ = some (.int .i64 h) := (B1.cell 4).trans rfl
    have c5 : w1.cell? ⟨p, 5, none⟩ = some (.int .i64 mi) := (B1.cell 5).trans rfl
    have c6 : w1.cell? ⟨p, 6, none⟩ = some (.int .i64 s) := (B1.cell 6).trans rfl
    have c7 : w1.cell? ⟨p, 7, none⟩ = some (.string tx) := (B1.cell 7).trans rfl
    go_wp2_with fail
    refine (HL.out w1).mono ?_
    rintro e w2 ⟨rfl, O2⟩
    go_wp2_with fail
    go_ret
    exact ⟨rfl, OA.call (O1.call O2)⟩
set_option maxRecDepth 100000 in
set_option maxHeartbeats 4000000 in
theorem ilput_no (nm : ByteArray) (y m d h mi s : Int) (tx : ByteArray) (w : World) (hf : Fact w) (hn : nm.size < 4294967281) (ht : tx.size ≤ maxLen) (hk : entryOk nm y m d h mi s tx = false) :
    Calls Tryz.prog 23 #[ent nm y m d h mi s tx] w (Tells w (.string ⟨#[]⟩)) := by
  have OA := (On.refl w).alloc (.cells #[.string nm, .int .i64 y, .int .i64 m, .int .i64 d, .int .i64 h, .int .i64 mi, .int .i64 s, .string tx] 42)
  have hS := ientry_calls nm y m d h mi s tx _ (hf.on hf.lt OA) hn ht
  rw [hk] at hS
  have HS := Lib.hid hS
  clear hk hS
  unfold ent at HS ⊢
  go_enter Tryz.func23, Tryz.ntmps23
  go_wp2_with fail
  generalize w.alloc (.cells #[.string nm, .int .i64 y, .int .i64 m, .int .i64 d, .int .i64 h, .int .i64 mi, .int .i64 s, .string tx] 42) = wa at *
  refine HS.out.mono ?_
  rintro e w1 ⟨rfl, O1⟩
  go_wp2_with fail
  go_ret
  exact ⟨rfl, OA.call O1⟩
set_option maxRecDepth 100000 in
set_option maxHeartbeats 4000000 in
theorem ilput_yes (nm : ByteArray) (y m d h mi s : Int) (tx : ByteArray) (x : Addr) (w : World) (hO : Ord w x) (hf : Fact w) (hn : nm.size < 4294967281) (ht : tx.size ≤ maxLen) (hk : entryOk nm y m d h mi s tx = true) :
    Calls Tryz.prog 23 #[ent nm y m d h mi s tx] w (Tells w (.string (localB nm y m d h mi s tx))) := by
  have OA := (On.refl w).alloc (.cells #[.string nm, .int .i64 y, .int .i64 m, .int .i64 d, .int .i64 h, .int .i64 mi, .int .i64 s, .string tx] 42)
  have BA := Blk.new w 42 #[.string nm, .int .i64 y, .int .i64 m, .int .i64 d, .int .i64 h, .int .i64 mi, .int .i64 s, .string tx]
  have hS := ientry_calls nm y m d h mi s tx _ (hf.on hf.lt OA) hn ht
  rw [hk] at hS
  have HS := Lib.hid hS
  obtain ⟨h43, ok, h300⟩ := entryOk_parts hk
  have HF := Lib.hid (fun w1 O1 => iflateput_calls tx x w1 ((hO.on OA).on O1))
  clear hS hf hO hn ht
  have HR := Lib.hid (local_head_is nm y m d h mi s tx)
  generalize localB nm y m d h mi s tx = R at *
  have hmt : (howOf tx).1 ≤ 8 := by unfold howOf; split <;> simp
  have hpk : (howOf tx).2.size ≤ 1000 := by unfold howOf; split <;> simp <;> omega
  have HH := Lib.hid (fun w => iheadof_calls nm y m d h mi s tx (howOf tx).1 (howOf tx).2.size ok (by omega) (by omega) (by omega) (by omega) w)
  have hz := headB_size' nm y m d h mi s tx (howOf tx).1 (howOf tx).2.size
  clear ok
  generalize headB nm y m d h mi s tx (howOf tx).1 (howOf tx).2.size = hd at *
  have HCS := Lib.hid (fun W (b : Blk W w.heap.size 42 #[.string nm, .int .i64 y, .int .i64 m, .int .i64 d, .int .i64 h, .int .i64 mi, .int .i64 s, .string tx]) => (⟨(b.cell 0).trans rfl, (b.cell 1).trans rfl, (b.cell 2).trans rfl, (b.cell 3).trans rfl, (b.cell 4).trans rfl, (b.cell 5).trans rfl, (b.cell 6).trans rfl, (b.cell 7).trans rfl⟩ :
    W.cell? ⟨w.heap.size, 0, none⟩ = some (.string nm) ∧ W.cell? ⟨w.heap.size, 1, none⟩ = some (.int .i64 y) ∧ W.cell? ⟨w.heap.size, 2, none⟩ = some (.int .i64 m) ∧ W.cell? ⟨w.heap.size, 3, none⟩ = some (.int .i64 d) ∧ W.cell? ⟨w.heap.size, 4, none⟩ = some (.int .i64 h) ∧ W.cell? ⟨w.heap.size, 5, none⟩ = some (.int .i64 mi) ∧ W.cell? ⟨w.heap.size, 6, none⟩ = some (.int .i64 s) ∧ W.cell? ⟨w.heap.size, 7, none⟩ = some (.string tx)))
  have HB0 := Lib.hid (fun W (O1 : On (w.alloc (.cells #[.string nm, .int .i64 y, .int .i64 m, .int .i64 d, .int .i64 h, .int .i64 mi, .int .i64 s, .string tx] 42)) W) => HCS.out W (BA.call O1.out))
  clear HCS BA
  unfold ent at HS ⊢
  have z1 : ¬ 9223372036854775807 < 30 + nm.size := by omega
  have hty : howOf tx = if (flateB tx).size < tx.size then (8, flateB tx) else (0, tx) := rfl
  generalize howOf tx = hw at *
  generalize flateB tx = fl at *
  go_enter Tryz.func23, Tryz.ntmps23
  go_wp2_with fail
  generalize hP : w.heap.size = p at *
  generalize w.alloc (.cells #[.string nm, .int .i64 y, .int .i64 m, .int .i64 d, .int .i64 h, .int .i64 mi, .int .i64 s, .string tx] 42) = wa at *
  refine HS.out.mono ?_
  rintro e w1 ⟨rfl, O1⟩
  obtain ⟨x0, x1, x2, x3, x4, x5, x6, x7⟩ := HB0.out w1 O1
  go_wp2_with (go_quiet (fail))
  refine (HF.out _ (O1.drewN _)).mono ?_
  rintro e w2 ⟨rfl, O2⟩
  have O12 := (O1.drewN _).call O2
  clear x0 x1 x2 x3 x4 x5 x6 x7
  obtain ⟨x0, x1, x2, x3, x4, x5, x6, x7⟩ := HB0.out w2 O12
  have HB := Lib.hid (fun W (T : On w2 W) => HB0.out W (O12.call T))
  by_cases hlt : fl.size < tx.size
  · rw [if_pos hlt] at hty
    subst hty
    have hlt' : (fl.size : Int) < tx.size := by omega
    have hfz : fl.size ≤ 1000 := hpk
    have z2 : ¬ 9223372036854775807 < 30 + nm.size + fl.size := by omega
    go_wp2_with fail
    clear x0 x1 x2 x3 x4 x5 x6 x7
    refine wp_region_held_drew (S := fun W => On w2 W) (by kernel_rfl) (On.refl _).drew (fun hHeld => ?_)
    refine wpAnyH_take (i := 0) (oi := _) (v := ?_) rfl (by kernel_rfl) (by kernel_rfl) (by kernel_rfl) (fun _ _ _ h => h) (Or.inl ⟨by rfl, ?_⟩) (by assumption) ?_
    rotate_left
    · intro w hSw
      obtain ⟨q0, q1, q2, q3, q4, q5, q6, q7⟩ := HB.out w hSw
      go_simp
      first | done | with_reducible rfl
    try simp only [Act.put, List.setIfInBounds_toArray, List.set_cons_zero, List.set_cons_succ]
    refine wpAnyH_take (i := 1) (oi := _) (v := ?_) rfl (by kernel_rfl) (by kernel_rfl) (by kernel_rfl) (fun _ _ _ h => h) (Or.inl ⟨by rfl, ?_⟩) (by assumption) ?_
    rotate_left
    · intro w hSw
      go_simp
      first | done | with_reducible rfl
    try simp only [Act.put, List.setIfInBounds_toArray, List.set_cons_zero, List.set_cons_succ]
    refine wpAnyH_take (i := 2) (oi := _) (v := ?_) rfl (by kernel_rfl) (by kernel_rfl) (by kernel_rfl) (fun _ _ _ h => h) (Or.inl ⟨by rfl, ?_⟩) (by assumption) ?_
    rotate_left
    · intro w hSw
      go_simp
      first | done | with_reducible rfl
    try simp only [Act.put, List.setIfInBounds_toArray, List.set_cons_zero, List.set_cons_succ]
    refine wpAnyH_take (i := 3) (oi := _) (v := ?_) rfl (by kernel_rfl) (by kernel_rfl) (by kernel_rfl) (fun _ _ _ h => h) (Or.inl ⟨by rfl, ?_⟩) (by assumption) ?_
    rotate_left
    · intro w hSw
      go_simp
      first | done | with_reducible rfl
    try simp only [Act.put, List.setIfInBounds_toArray, List.set_cons_zero, List.set_cons_succ]
    refine wpAnyH_take (i := 5) (oi := _) (v := ?_) rfl (by kernel_rfl) (by kernel_rfl) (by kernel_rfl) (fun _ _ _ h => h) (Or.inl ⟨by rfl, ?_⟩) (by assumption) ?_
    rotate_left
    · intro w hSw
      go_simp
      first | done | with_reducible rfl
    try simp only [Act.put, List.setIfInBounds_toArray, List.set_cons_zero, List.set_cons_succ]
    refine wpAnyH_take (i := 6) (oi := _) (v := ?_) rfl (by kernel_rfl) (by kernel_rfl) (by kernel_rfl) (fun _ _ _ h => h) (Or.inl ⟨by rfl, ?_⟩) (by assumption) ?_
    rotate_left
    · intro w hSw
      obtain ⟨q0, q1, q2, q3, q4, q5, q6, q7⟩ := HB.out w hSw
      go_simp
      first | done | with_reducible rfl
    try simp only [Act.put, List.setIfInBounds_toArray, List.set_cons_zero, List.set_cons_succ]
    refine wpAnyH_take (i := 8) (oi := _) (v := ?_) rfl (by kernel_rfl) (by kernel_rfl) (by kernel_rfl) (fun _ _ _ h => h) (Or.inl ⟨by rfl, ?_⟩) (by assumption) ?_
    rotate_left
    · intro w hSw
      go_simp
      first | done | with_reducible rfl
    try simp only [Act.put, List.setIfInBounds_toArray, List.set_cons_zero, List.set_cons_succ]
    have P0 := (On.refl w2).drew
    refine wpAnyH_ready (rs := [4]) (by kernel_rfl) (by simp) ?_
    refine AllReadyH.cons (o := _) rfl (fun K hK => ?_) AllReadyH.nil
    go_simp
    refine (HH.out w2.drew).mono ?_
    rintro e v1 ⟨rfl, T1⟩
    have P1 := P0.call T1
    refine hK.out _ _ P1 (fun hHeld => ?_)
    clear hK K
    try simp only [Act.put, List.setIfInBounds_toArray, List.set_cons_zero, List.set_cons_succ]
    refine wpAnyH_take (i := 7) (oi := _) (v := ?_) rfl (by kernel_rfl) (by kernel_rfl) (by kernel_rfl) (fun _ _ _ h => h) (Or.inl ⟨by rfl, ?_⟩) (by assumption) ?_
    rotate_left
    · intro w hSw
      go_simp
      first | done | with_reducible rfl
    try simp only [Act.put, List.setIfInBounds_toArray, List.set_cons_zero, List.set_cons_succ]
    refine wpAnyH_take (i := 9) (oi := _) (v := ?_) rfl (by kernel_rfl) (by kernel_rfl) (by kernel_rfl) (fun _ _ _ h => h) (Or.inl ⟨by rfl, ?_⟩) (by assumption) ?_
    rotate_left
    · intro w hSw
      go_simp
      first | done | with_reducible rfl
    try simp only [Act.put, List.setIfInBounds_toArray, List.set_cons_zero, List.set_cons_succ]
    refine wpAnyH_ready (rs := [10]) (by kernel_rfl) (by simp) ?_
    refine AllReadyH.cons (o := _) rfl (fun K hK => ?_) AllReadyH.nil
    go_simp
    refine hK.out _ _ P1 (fun hHeld => ?_)
    clear hK K
    try simp only [Act.put, List.setIfInBounds_toArray, List.set_cons_zero, List.set_cons_succ]
    refine wpAnyH_done (by kernel_rfl) ?_ _
    go_wp2_with fail
    go_ret
    exact ⟨by rw [HR.out]; rfl, OA.call (O12.call P1)⟩
  · rw [if_neg hlt] at hty
    subst hty
    have hlt' : ¬ (fl.size : Int) < tx.size := by omega
    have z2 : ¬ 9223372036854775807 < 30 + nm.size + tx.size := by omega
    go_wp2_with fail
    clear x0 x1 x2 x3 x4 x5 x6 x7
    refine wp_region_held_drew (S := fun W => On w2 W) (by kernel_rfl) (On.refl _).drew (fun hHeld => ?_)
    refine wpAnyH_take (i := 0) (oi := _) (v := ?_) rfl (by kernel_rfl) (by kernel_rfl) (by kernel_rfl) (fun _ _ _ h => h) (Or.inl ⟨by rfl, ?_⟩) (by assumption) ?_
    rotate_left
    · intro w hSw
      obtain ⟨q0, q1, q2, q3, q4, q5, q6, q7⟩ := HB.out w hSw
      go_simp
      first | done | with_reducible rfl
    try simp only [Act.put, List.setIfInBounds_toArray, List.set_cons_zero, List.set_cons_succ]
    refine wpAnyH_take (i := 1) (oi := _) (v := ?_) rfl (by kernel_rfl) (by kernel_rfl) (by kernel_rfl) (fun _ _ _ h => h) (Or.inl ⟨by rfl, ?_⟩) (by assumption) ?_
    rotate_left
    · intro w hSw
      go_simp
      first | done | with_reducible rfl
    try simp only [Act.put, List.setIfInBounds_toArray, List.set_cons_zero, List.set_cons_succ]
    refine wpAnyH_take (i := 2) (oi := _) (v := ?_) rfl (by kernel_rfl) (by kernel_rfl) (by kernel_rfl) (fun _ _ _ h => h) (Or.inl ⟨by rfl, ?_⟩) (by assumption) ?_
    rotate_left
    · intro w hSw
      go_simp
      first | done | with_reducible rfl
    try simp only [Act.put, List.setIfInBounds_toArray, List.set_cons_zero, List.set_cons_succ]
    refine wpAnyH_take (i := 3) (oi := _) (v := ?_) rfl (by kernel_rfl) (by kernel_rfl) (by kernel_rfl) (fun _ _ _ h => h) (Or.inl ⟨by rfl, ?_⟩) (by assumption) ?_
    rotate_left
    · intro w hSw
      go_simp
      first | done | with_reducible rfl
    try simp only [Act.put, List.setIfInBounds_toArray, List.set_cons_zero, List.set_cons_succ]
    refine wpAnyH_take (i := 5) (oi := _) (v := ?_) rfl (by kernel_rfl) (by kernel_rfl) (by kernel_rfl) (fun _ _ _ h => h) (Or.inl ⟨by rfl, ?_⟩) (by assumption) ?_
    rotate_left
    · intro w hSw
      go_simp
      first | done | with_reducible rfl
    try simp only [Act.put, List.setIfInBounds_toArray, List.set_cons_zero, List.set_cons_succ]
    refine wpAnyH_take (i := 6) (oi := _) (v := ?_) rfl (by kernel_rfl) (by kernel_rfl) (by kernel_rfl) (fun _ _ _ h => h) (Or.inl ⟨by rfl, ?_⟩) (by assumption) ?_
    rotate_left
    · intro w hSw
      obtain ⟨q0, q1, q2, q3, q4, q5, q6, q7⟩ := HB.out w hSw
      go_simp
      first | done | with_reducible rfl
    try simp only [Act.put, List.setIfInBounds_toArray, List.set_cons_zero, List.set_cons_succ]
    refine wpAnyH_take (i := 8) (oi := _) (v := ?_) rfl (by kernel_rfl) (by kernel_rfl) (by kernel_rfl) (fun _ _ _ h => h) (Or.inl ⟨by rfl, ?_⟩) (by assumption) ?_
    rotate_left
    · intro w hSw
      go_simp
      first | done | with_reducible rfl
    try simp only [Act.put, List.setIfInBounds_toArray, List.set_cons_zero, List.set_cons_succ]
    have P0 := (On.refl w2).drew
    refine wpAnyH_ready (rs := [4]) (by kernel_rfl) (by simp) ?_
    refine AllReadyH.cons (o := _) rfl (fun K hK => ?_) AllReadyH.nil
    go_simp
    refine (HH.out w2.drew).mono ?_
    rintro e v1 ⟨rfl, T1⟩
    have P1 := P0.call T1
    refine hK.out _ _ P1 (fun hHeld => ?_)
    clear hK K
    try simp only [Act.put, List.setIfInBounds_toArray, List.set_cons_zero, List.set_cons_succ]
    refine wpAnyH_take (i := 7) (oi := _) (v := ?_) rfl (by kernel_rfl) (by kernel_rfl) (by kernel_rfl) (fun _ _ _ h => h) (Or.inl ⟨by rfl, ?_⟩) (by assumption) ?_
    rotate_left
    · intro w hSw
      go_simp
      first | done | with_reducible rfl
    try simp only [Act.put, List.setIfInBounds_toArray, List.set_cons_zero, List.set_cons_succ]
    refine wpAnyH_take (i := 9) (oi := _) (v := ?_) rfl (by kernel_rfl) (by kernel_rfl) (by kernel_rfl) (fun _ _ _ h => h) (Or.inl ⟨by rfl, ?_⟩) (by assumption) ?_
    rotate_left
    · intro w hSw
      go_simp
      first | done | with_reducible rfl
    try simp only [Act.put, List.setIfInBounds_toArray, List.set_cons_zero, List.set_cons_succ]
    refine wpAnyH_ready (rs := [10]) (by kernel_rfl) (by simp) ?_
    refine AllReadyH.cons (o := _) rfl (fun K hK => ?_) AllReadyH.nil
    go_simp
    refine hK.out _ _ P1 (fun hHeld => ?_)
    clear hK K
    try simp only [Act.put, List.setIfInBounds_toArray, List.set_cons_zero, List.set_cons_succ]
    refine wpAnyH_done (by kernel_rfl) ?_ _
    go_wp2_with fail
    go_ret
    exact ⟨by rw [HR.out]; rfl, OA.call (O12.call P1)⟩
theorem ilput_calls (nm : ByteArray) (y m d h mi s : Int) (tx : ByteArray) (x : Addr) (w : World) (hO : Ord w x) (hf : Fact w) (hn : nm.size < 4294967281) (ht : tx.size ≤ maxLen) :
    Calls Tryz.prog 23 #[ent nm y m d h mi s tx] w (Tells w (.string (lputB nm y m d h mi s tx))) := by
  unfold lputB
  cases hk : entryOk nm y m d h mi s tx with
  | false => rw [if_neg (by decide)]; exact ilput_no nm y m d h mi s tx w hf hn ht hk
  | true => rw [if_pos rfl]; exact ilput_yes nm y m d h mi s tx x w hO hf hn ht hk
end Go.Proofs.YtnadjlejlohgiaaGreatDoor.Lc

