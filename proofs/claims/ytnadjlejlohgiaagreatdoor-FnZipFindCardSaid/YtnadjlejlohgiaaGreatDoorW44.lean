/- Own texts joined: Lg. -/
import Derived.Test.YtnadjlejlohgiaaGreatDoorW4
import Derived.Test.YtnadjlejlohgiaaGreatDoorW43
/- A file of an archive read back: the program's LocalGet, when its length fits. Conditions: the variable order as it is laid; the library's cell of a length. (Printed by tools/gen_lg.py.) -/
namespace Go.Proofs.YtnadjlejlohgiaaGreatDoor.Lc
open Go.RowKit Go.Proofs.YtnadjlejlohgiaaGreatDoor.Mem Go.Proofs.YtnadjlejlohgiaaGreatDoor.Nm Go.Proofs.YtnadjlejlohgiaaGreatDoor.Nb Go.Proofs.YtnadjlejlohgiaaGreatDoor.Cr Go.Proofs.YtnadjlejlohgiaaGreatDoor.Wi
set_option linter.unusedVariables false
set_option linter.unusedSimpArgs false
set_option maxRecDepth 100000 in
set_option maxHeartbeats 8000000 in
theorem ilget_zero (s : ByteArray) (x : Addr) (hs : s.size ≤ 1048576) (h30 : 30 ≤ s.size) (hn : 30 + numAtB s 26 2 + numAtB s 18 4 ≤ s.size) (w : World) (hO : Ord w x) (hf : Fact w) (hM : numAtB s 8 2 = 0) : Calls Tryz.prog 36 #[.string s] w (Tells w (lgetV s)) := by
  have hfit : fits s := ⟨h30, hn⟩
  have h30' : ¬ (s.size : Int) < 30 := by omega
  have Z8 := Lib.hid (fun w => i8_calls s (by omega) (by omega) w)
  have Z18 := Lib.hid (fun w => i18_calls s (by omega) (by omega) w)
  have Z26 := Lib.hid (fun w => i26_calls s (by omega) (by omega) w)
  have Z10 := Lib.hid (fun w => i10_calls s (by omega) (by omega) w)
  have b8 := numAtB_lt s 8 2
  have b26 := numAtB_lt s 26 2
  have b18 := numAtB_lt s 18 4
  have b10 := numAtB_lt s 10 4
  obtain ⟨hR, e1, e2⟩ := rest_name s h30 hn
  have hns := rdName_size (s := s) (by omega)
  have hps := rdPk_size (s := s) (by omega)
  have HG := Lib.hid (fun w => iget_calls (numAtB s 10 4) (by omega) w)
  have hen := (fun tx w' (O : On w w') (ht : tx.size ≤ maxLen) => ientry_calls (rdName s) (stY (numAtB s 10 4)) (stM (numAtB s 10 4)) (stD (numAtB s 10 4)) (stH (numAtB s 10 4)) (stI' (numAtB s 10 4)) (stS' (numAtB s 10 4)) tx w' (hf.on hf.lt O) (by omega) ht)
  unfold ent at hen
  have HEN := Lib.hid hen
  clear hen
  have hyy := (fun tx o htx ht he => lg_yes (s := s) (tx := tx) (o := o) htx hfit hs ht he)
  have hnn := (fun tx o htx ht he => lg_no (s := s) (tx := tx) (o := o) htx ht he)
  have hbd := (fun ht => lg_bad (s := s) ht)
  unfold rdNum at hyy hnn
  have HY := Lib.hid hyy
  have HN := Lib.hid hnn
  have HBD := Lib.hid hbd
  have HHD := Lib.hid (fun nm y m d h mi s tx mt pk w ok hn ht hm hp => iheadof_calls nm y m d h mi s tx mt pk ok hn ht hm hp w)
  clear hyy hnn hbd hf hfit
  have e30 : IntKind.i64.wrap (30 + (numAtB s 26 2 : Int)) = 30 + (numAtB s 26 2 : Int) := by rw [IntKind.wrap_i64]; omega
  have e31 : IntKind.i64.wrap (30 + (numAtB s 26 2 : Int) + (numAtB s 18 4 : Int)) = 30 + (numAtB s 26 2 : Int) + (numAtB s 18 4 : Int) := by rw [IntKind.wrap_i64]; omega
  have HPS := Lib.hid hps
  have htz : (rdPk s).size ≤ maxLen := by unfold maxLen; omega
  generalize numAtB s 8 2 = M at *
  subst hM
  clear hns hps hO
  generalize numAtB s 10 4 = N at *
  generalize numAtB s 26 2 = a26 at *
  generalize numAtB s 18 4 = a18 at *
  generalize rdName s = nm at *
  generalize rdPk s = pk at *
  generalize stY N = y0 at *
  generalize stM N = m0 at *
  generalize stD N = d0 at *
  generalize stH N = h0 at *
  generalize stI' N = mi0 at *
  generalize stS' N = s0 at *
  have g0 : (30 : Int) ≤ (s.size : Int) := by omega
  go_enter Tryz.func36, Tryz.ntmps36
  have BR := Blk.new w 42 zero8
  have OA := (On.refl w).alloc (.cells zero8 42)
  go_upto_region 1 with fail
  generalize hP : w.heap.size = p at *
  generalize w.alloc (.cells zero8 42) = wa at *
  go_wp2_with fail
  refine (Z8.out _).mono ?_
  rintro e w' ⟨rfl, hw⟩
  rw [hw]
  clear hw
  go_wp2_with fail
  refine (Z18.out _).mono ?_
  rintro e w' ⟨rfl, hw⟩
  rw [hw]
  clear hw
  go_wp2_with fail
  refine (Z26.out _).mono ?_
  rintro e w' ⟨rfl, hw⟩
  rw [hw]
  clear hw
  go_upto_region 5 with fail
  generalize s.extract 30 s.size = R at *
  have hl' : ¬ (R.size : Int) < a26 := by omega
  have e3 : IntKind.i64.wrap ((R.size : Int) - a26) = (R.size : Int) - a26 := by rw [IntKind.wrap_i64]; omega
  have hl2 : ¬ (R.size : Int) - a26 < a18 := by omega
  have e4 : IntKind.i64.wrap ((a26 : Int) + a18) = (a26 : Int) + a18 := by rw [IntKind.wrap_i64]; omega
  have q1 : (0 : Int) ≤ (a26 : Int) := by omega
  have q2 : (a26 : Int) ≤ (R.size : Int) := by omega
  have q3 : (0 : Int) ≤ (a26 : Int) + a18 := by omega
  have q4 : (a26 : Int) + a18 ≤ (R.size : Int) := by omega
  have q5 : (a26 : Int) ≤ (a26 : Int) + a18 := by omega
  have q6 : ((a26 : Int) + a18).toNat = a26 + a18 := by omega
  go_upto_region 7 with fail
  refine wp_region_held_drew (S := fun W => On wa W) (by kernel_rfl) (On.refl _).drew (fun hHeld => ?_)
  refine Tk.tk 0 ?_ rfl (.inl ⟨by rfl, ?_⟩) ?_
  rotate_left
  · intro w hSw; go_simp; first | done | with_reducible rfl
  try simp (maxSteps := 2000000) only [Act.put, Tk.s6]
  refine Tk.tk 1 ?_ rfl (.inl ⟨by rfl, ?_⟩) ?_
  rotate_left
  · intro w hSw; go_simp; first | done | with_reducible rfl
  try simp (maxSteps := 2000000) only [Act.put, Tk.s6]
  refine Tk.tk 2 ?_ rfl (.inl ⟨by rfl, ?_⟩) ?_
  rotate_left
  · intro w hSw; go_simp; first | done | with_reducible rfl
  try simp (maxSteps := 2000000) only [Act.put, Tk.s6]
  refine Tk.tk 3 ?_ rfl (.inl ⟨by rfl, ?_⟩) ?_
  rotate_left
  · intro w hSw; go_simp; first | done | with_reducible rfl
  try simp (maxSteps := 2000000) only [Act.put, Tk.s6]
  refine Tk.tk 4 ?_ rfl (.inl ⟨by rfl, ?_⟩) ?_
  rotate_left
  · intro w hSw; go_simp; first | done | with_reducible rfl
  try simp (maxSteps := 2000000) only [Act.put, Tk.s6]
  refine Tk.tk 5 ?_ rfl (.inl ⟨by rfl, ?_⟩) ?_
  rotate_left
  · intro w hSw; go_simp; first | done | with_reducible rfl
  try simp (maxSteps := 2000000) only [Act.put, Tk.s6]
  refine Tk.tk 6 ?_ rfl (.inl ⟨by rfl, ?_⟩) ?_
  rotate_left
  · intro w hSw; go_simp; first | done | with_reducible rfl
  try simp (maxSteps := 2000000) only [Act.put, Tk.s6]
  refine Tk.tk 7 ?_ rfl (.inl ⟨by rfl, ?_⟩) ?_
  rotate_left
  · intro w hSw; go_simp; first | done | with_reducible rfl
  try simp (maxSteps := 2000000) only [Act.put, Tk.s6]
  refine Tk.tk 8 ?_ rfl (.inl ⟨by rfl, ?_⟩) ?_
  rotate_left
  · intro w hSw; go_simp; first | done | with_reducible rfl
  try simp (maxSteps := 2000000) only [Act.put, Tk.s6]
  refine Tk.tk 9 ?_ rfl (.inl ⟨by rfl, ?_⟩) ?_
  rotate_left
  · intro w hSw; go_simp; first | done | with_reducible rfl
  try simp (maxSteps := 2000000) only [Act.put, Tk.s6]
  have O0 := (On.refl wa).drew
  generalize wa.drew = wd at *
  refine Tk.rd 10 rfl fun K hK => ?_
  go_simp
  have O1 := O0.alloc (.cells zero8 42)
  have BT := Blk.new wd 42 zero8
  obtain ⟨g, htb⟩ : ∃ g, g = wd.heap.size := ⟨_, rfl⟩
  have hg : wa.heap.size ≤ g := by have := O0.size; omega
  rw [← htb] at BT ⊢
  generalize wd.alloc (.cells zero8 42) = wT at *
  clear htb
  refine hK.out _ _ O1 (fun hHeld => ?_)
  clear hK K
  try simp (maxSteps := 2000000) only [Act.put, Tk.s6]
  obtain ⟨t0, t1, t2, t3, t4, t5, t6, t7⟩ := cells8 BT
  have ft : ∀ i, wT.frozen? ⟨g, i, none⟩ = false := BT.frozen
  refine Tk.rd 11 rfl fun K hK => ?_
  go_simp
  have BS := set8 BT (.string nm) (.int .i64 0) (.int .i64 0) (.int .i64 0) (.int .i64 0) (.int .i64 0) (.int .i64 0) (.string pk)
  have OS : On wa _ := ((((((((O1.set (p := ⟨g, 0, none⟩) hg (.string nm)).set (p := ⟨g, 1, none⟩) hg (.int .i64 0)).set (p := ⟨g, 2, none⟩) hg (.int .i64 0)).set (p := ⟨g, 3, none⟩) hg (.int .i64 0)).set (p := ⟨g, 4, none⟩) hg (.int .i64 0)).set (p := ⟨g, 5, none⟩) hg (.int .i64 0)).set (p := ⟨g, 6, none⟩) hg (.int .i64 0)).set (p := ⟨g, 7, none⟩) hg (.string pk))
  refine hK.out _ _ OS (fun hHeld => ?_)
  clear hK K
  try simp (maxSteps := 2000000) only [Act.put, Tk.s6]
  clear t0 t1 t2 t3 t4 t5 t6 t7 ft
  generalize ((((((((wT.setCell ⟨g, 0, none⟩ (.string nm)).setCell ⟨g, 1, none⟩ (.int .i64 0)).setCell ⟨g, 2, none⟩ (.int .i64 0)).setCell ⟨g, 3, none⟩ (.int .i64 0)).setCell ⟨g, 4, none⟩ (.int .i64 0)).setCell ⟨g, 5, none⟩ (.int .i64 0)).setCell ⟨g, 6, none⟩ (.int .i64 0)).setCell ⟨g, 7, none⟩ (.string pk)) = w7 at *
  refine wpAnyH_done (by kernel_rfl) ?_ _
  go_wp2_with fail
  refine (Z10.out _).mono ?_
  rintro e w' ⟨rfl, hw⟩
  rw [hw]
  clear hw
  go_wp2_with fail
  refine (HG.out _).mono ?_
  rintro e w8 ⟨sb, rfl, Og⟩
  have O8 := OS.call Og
  have B8 := Og.blk BS
  obtain ⟨t0, t1, t2, t3, t4, t5, t6, t7⟩ := cells8 B8
  have ft : ∀ i, w8.frozen? ⟨g, i, none⟩ = false := B8.frozen
  go_upto_region 9 with fail
  have B9 := ((((((B8.set 1 (.int .i64 y0)).set 2 (.int .i64 m0)).set 3 (.int .i64 d0)).set 4 (.int .i64 h0)).set 5 (.int .i64 mi0)).set 6 (.int .i64 s0))
  simp only [List.setIfInBounds_toArray, List.set_cons_zero, List.set_cons_succ] at B9
  have O9 : On wa _ := (((((O8.set (p := ⟨g, 1, none⟩) hg (.int .i64 y0)).set (p := ⟨g, 2, none⟩) hg (.int .i64 m0)).set (p := ⟨g, 3, none⟩) hg (.int .i64 d0)).set (p := ⟨g, 4, none⟩) hg (.int .i64 h0)).set (p := ⟨g, 5, none⟩) hg (.int .i64 mi0)).set (p := ⟨g, 6, none⟩) hg (.int .i64 s0)
  clear t0 t1 t2 t3 t4 t5 t6 t7 ft
  generalize ((((((w8.setCell ⟨g, 1, none⟩ (.int .i64 y0)).setCell ⟨g, 2, none⟩ (.int .i64 m0)).setCell ⟨g, 3, none⟩ (.int .i64 d0)).setCell ⟨g, 4, none⟩ (.int .i64 h0)).setCell ⟨g, 5, none⟩ (.int .i64 mi0)).setCell ⟨g, 6, none⟩ (.int .i64 s0)) = w9 at *
  have BR9 := O9.blk BR
  have Ow9 := OA.call O9
  have hpw : w.heap.size ≤ p := by omega
  have hpg : p ≠ g := by have := BR.lt; omega
  have hgw : w.heap.size ≤ g := by have := OA.size; omega
  clear OS Og O8 B8 BS O1 O0 OA BR O9
  have HY1 := fun he => HY.out pk (chars pk) (strB_chars pk) rfl he
  have HN1 := fun he => HN.out pk (chars pk) (strB_chars pk) rfl he
  go_upto_region 17 with fail
  have HB := Lib.hid (fun W (T : On w9 W) => cells8 (T.blk B9))
  cases hk : entryOk nm y0 m0 d0 h0 mi0 s0 pk with
  | false =>
    have HV := Lib.hid (HN1 hk)
    have HE := Lib.hid (fun w' O => HEN.out pk w' O htz)
    rw [hk] at HE
    clear hk HY1 HN1
    go_upto_region 17 with fail
    refine wp_region_held_drew (S := fun W => On w9 W) (by kernel_rfl) (On.refl _).drew (fun hHeld => ?_)
    refine Tk.tk 0 ?_ rfl (.inl ⟨by rfl, ?_⟩) ?_
    rotate_left
    · intro w hSw; obtain ⟨q0, q1, q2, q3, q4, q5, q6, q7⟩ := HB.out w hSw; go_simp; first | done | with_reducible rfl
    try simp (maxSteps := 2000000) only [Act.put, Tk.s6]
    have O0 := (On.refl w9).drew
    generalize w9.drew = wd at *
    refine Tk.rd 1 rfl fun K hK => ?_
    go_simp
    refine (HE.out _ (Ow9.call O0)).mono ?_
    rintro e we ⟨rfl, Oe⟩
    have O1 := O0.call Oe
    refine hK.out _ _ O1 (fun hHeld => ?_)
    clear hK K
    try simp (maxSteps := 2000000) only [Act.put, Tk.s6]
    refine Tk.tk 2 ?_ rfl (.inl ⟨by rfl, ?_⟩) ?_
    rotate_left
    · intro w hSw; go_simp; first | done | with_reducible rfl
    try simp (maxSteps := 2000000) only [Act.put, Tk.s6]
    refine Tk.tk 3 ?_ rfl (.inl ⟨by rfl, ?_⟩) ?_
    rotate_left
    · intro w hSw; go_simp; first | done | with_reducible rfl
    try simp (maxSteps := 2000000) only [Act.put, Tk.s6]
    refine Tk.tk 4 undef rfl (.inr ⟨by kernel_rfl, rfl⟩) ?_
    try simp (maxSteps := 2000000) only [Act.put, Tk.s6]
    refine Tk.tk 5 undef rfl (.inr ⟨by kernel_rfl, rfl⟩) ?_
    try simp (maxSteps := 2000000) only [Act.put, Tk.s6]
    refine Tk.tk 6 undef rfl (.inr ⟨by kernel_rfl, rfl⟩) ?_
    try simp (maxSteps := 2000000) only [Act.put, Tk.s6]
    refine Tk.tk 7 undef rfl (.inr ⟨by kernel_rfl, rfl⟩) ?_
    try simp (maxSteps := 2000000) only [Act.put, Tk.s6]
    refine Tk.tk 8 undef rfl (.inr ⟨by kernel_rfl, rfl⟩) ?_
    try simp (maxSteps := 2000000) only [Act.put, Tk.s6]
    refine Tk.tk 9 undef rfl (.inr ⟨by kernel_rfl, rfl⟩) ?_
    try simp (maxSteps := 2000000) only [Act.put, Tk.s6]
    refine Tk.tk 10 undef rfl (.inr ⟨by kernel_rfl, rfl⟩) ?_
    try simp (maxSteps := 2000000) only [Act.put, Tk.s6]
    refine Tk.tk 11 ?_ rfl (.inl ⟨by rfl, ?_⟩) ?_
    rotate_left
    · intro w hSw; go_simp; first | done | with_reducible rfl
    try simp (maxSteps := 2000000) only [Act.put, Tk.s6]
    have BRe := O1.blk BR9
    have Owe := Ow9.call O1
    obtain ⟨r0, r1, r2, r3, r4, r5, r6, r7⟩ := cells8 BRe
    have fr : ∀ i, we.frozen? ⟨p, i, none⟩ = false := BRe.frozen
    refine wpAnyH_done (by kernel_rfl) ?_ _
    go_wp2_with fail
    have BF := set8 BRe (.string ⟨#[]⟩) (.int .i64 0) (.int .i64 0) (.int .i64 0) (.int .i64 0) (.int .i64 0) (.int .i64 0) (.string ⟨#[]⟩)
    refine bodyPost_ret (v := .tuple #[.agg zero8, .int .i64 0, .bool false]) (by exact res_ctt (fn := Tryz.f36) (p := 2) (u := 3) (v := 4) rfl BF rfl Tryz.underlying42 rfl (by kernel_rfl)) rfl ⟨by rw [HV.out], ?_⟩
    repeat (first | with_reducible exact Owe | refine On.set ?_ (show w.heap.size ≤ p by omega) _)
  | true =>
    obtain ⟨ok, hyes, hno, hn43, ht300⟩ := HY1 hk
    have HE := Lib.hid (fun w' O => HEN.out pk w' O htz)
    rw [hk] at HE
    have h18 : a18 ≤ 1000000 := by have := HPS.out; omega
    have HH := Lib.hid (fun w => HHD.out nm y0 m0 d0 h0 mi0 s0 pk 0 a18 w ok (by omega) (by omega) (by omega) h18)
    rw [show ((0 : Nat) : Int) = 0 from rfl] at HH
    clear hk HY1 HN1 ok
    generalize headB nm y0 m0 d0 h0 mi0 s0 pk 0 a18 = hd at *
    have u1 : (0 : Int) ≤ 30 := by omega
    by_cases hq : hd = s.extract 0 30
    · have HV := Lib.hid (hyes hq)
      have hq2 : (hd.toList == (s.extract 0 30).toList) = true := by rw [hq]; exact beq_self_eq_true _
      clear hq
      clear hyes hno
      go_upto_region 17 with fail
      refine wp_region_held_drew (S := fun W => On w9 W) (by kernel_rfl) (On.refl _).drew (fun hHeld => ?_)
      refine Tk.tk 0 ?_ rfl (.inl ⟨by rfl, ?_⟩) ?_
      rotate_left
      · intro w hSw; obtain ⟨q0, q1, q2, q3, q4, q5, q6, q7⟩ := HB.out w hSw; go_simp; first | done | with_reducible rfl
      try simp (maxSteps := 2000000) only [Act.put, Tk.s6]
      have O0 := (On.refl w9).drew
      generalize w9.drew = wd at *
      refine Tk.rd 1 rfl fun K hK => ?_
      go_simp
      refine (HE.out _ (Ow9.call O0)).mono ?_
      rintro e we ⟨rfl, Oe⟩
      have O1 := O0.call Oe
      refine hK.out _ _ O1 (fun hHeld => ?_)
      clear hK K
      try simp (maxSteps := 2000000) only [Act.put, Tk.s6]
      refine Tk.tk 2 ?_ rfl (.inl ⟨by rfl, ?_⟩) ?_
      rotate_left
      · intro w hSw; go_simp; first | done | with_reducible rfl
      try simp (maxSteps := 2000000) only [Act.put, Tk.s6]
      refine Tk.tk 3 ?_ rfl (.inl ⟨by rfl, ?_⟩) ?_
      rotate_left
      · intro w hSw; go_simp; first | done | with_reducible rfl
      try simp (maxSteps := 2000000) only [Act.put, Tk.s6]
      refine Tk.tk 4 ?_ rfl (.inl ⟨by kernel_rfl, ?_⟩) ?_
      rotate_left
      · intro w hSw; obtain ⟨q0, q1, q2, q3, q4, q5, q6, q7⟩ := HB.out w hSw; go_simp; first | done | with_reducible rfl
      try simp (maxSteps := 2000000) only [Act.put, Tk.s6]
      refine Tk.tk 5 ?_ rfl (.inl ⟨by kernel_rfl, ?_⟩) ?_
      rotate_left
      · intro w hSw; go_simp; first | done | with_reducible rfl
      try simp (maxSteps := 2000000) only [Act.put, Tk.s6]
      refine Tk.tk 6 ?_ rfl (.inl ⟨by kernel_rfl, ?_⟩) ?_
      rotate_left
      · intro w hSw; go_simp; first | done | with_reducible rfl
      try simp (maxSteps := 2000000) only [Act.put, Tk.s6]
      refine Tk.tk 8 ?_ rfl (.inl ⟨by kernel_rfl, ?_⟩) ?_
      rotate_left
      · intro w hSw; go_simp; first | done | with_reducible rfl
      try simp (maxSteps := 2000000) only [Act.put, Tk.s6]
      refine Tk.tk 9 ?_ rfl (.inl ⟨by kernel_rfl, ?_⟩) ?_
      rotate_left
      · intro w hSw; go_simp; first | done | with_reducible rfl
      try simp (maxSteps := 2000000) only [Act.put, Tk.s6]
      refine Tk.rd 7 rfl fun K hK => ?_
      go_simp
      refine (HH.out _).mono ?_
      rintro e wh ⟨rfl, Oh⟩
      have O2 := O1.call Oh
      refine hK.out _ _ O2 (fun hHeld => ?_)
      clear hK K
      try simp (maxSteps := 2000000) only [Act.put, Tk.s6]
      refine Tk.tk 10 ?_ rfl (.inl ⟨by kernel_rfl, ?_⟩) ?_
      rotate_left
      · intro w hSw; go_simp; first | done | with_reducible rfl
      try simp (maxSteps := 2000000) only [Act.put, Tk.s6]
      refine Tk.tk 11 ?_ rfl (.inl ⟨by rfl, ?_⟩) ?_
      rotate_left
      · intro w hSw; go_simp; first | done | with_reducible rfl
      try simp (maxSteps := 2000000) only [Act.put, Tk.s6]
      have BRe := O2.blk BR9
      have Owe := Ow9.call O2
      obtain ⟨r0, r1, r2, r3, r4, r5, r6, r7⟩ := cells8 BRe
      have fr : ∀ i, wh.frozen? ⟨p, i, none⟩ = false := BRe.frozen
      obtain ⟨t0, t1, t2, t3, t4, t5, t6, t7⟩ := HB.out _ O2
      refine wpAnyH_done (by kernel_rfl) ?_ _
      go_wp2_with fail
      have BF := set8 BRe (.string nm) (.int .i64 y0) (.int .i64 m0) (.int .i64 d0) (.int .i64 h0) (.int .i64 mi0) (.int .i64 s0) (.string pk)
      refine bodyPost_ret (v := .tuple #[.agg #[.string nm, .int .i64 y0, .int .i64 m0, .int .i64 d0, .int .i64 h0, .int .i64 mi0, .int .i64 s0, .string pk], .int .i64 ((30 + a26 + a18 : Nat) : Int), .bool true]) (by exact res_ctt (fn := Tryz.f36) (p := 2) (u := 3) (v := 4) rfl BF rfl Tryz.underlying42 rfl (by kernel_rfl)) rfl ⟨by rw [HV.out], ?_⟩
      repeat (first | with_reducible exact Owe | refine On.set ?_ hpw _)
    · have HV := Lib.hid (hno hq)
      have hq2 : (hd.toList == (s.extract 0 30).toList) = false := by
        rw [beq_eq_false_iff_ne, ByteArray.toList_eq, ByteArray.toList_eq]
        intro h
        exact hq (ByteArray.ext (Array.toList_inj.1 h))
      clear hq
      clear hyes hno
      go_upto_region 17 with fail
      refine wp_region_held_drew (S := fun W => On w9 W) (by kernel_rfl) (On.refl _).drew (fun hHeld => ?_)
      refine Tk.tk 0 ?_ rfl (.inl ⟨by rfl, ?_⟩) ?_
      rotate_left
      · intro w hSw; obtain ⟨q0, q1, q2, q3, q4, q5, q6, q7⟩ := HB.out w hSw; go_simp; first | done | with_reducible rfl
      try simp (maxSteps := 2000000) only [Act.put, Tk.s6]
      have O0 := (On.refl w9).drew
      generalize w9.drew = wd at *
      refine Tk.rd 1 rfl fun K hK => ?_
      go_simp
      refine (HE.out _ (Ow9.call O0)).mono ?_
      rintro e we ⟨rfl, Oe⟩
      have O1 := O0.call Oe
      refine hK.out _ _ O1 (fun hHeld => ?_)
      clear hK K
      try simp (maxSteps := 2000000) only [Act.put, Tk.s6]
      refine Tk.tk 2 ?_ rfl (.inl ⟨by rfl, ?_⟩) ?_
      rotate_left
      · intro w hSw; go_simp; first | done | with_reducible rfl
      try simp (maxSteps := 2000000) only [Act.put, Tk.s6]
      refine Tk.tk 3 ?_ rfl (.inl ⟨by rfl, ?_⟩) ?_
      rotate_left
      · intro w hSw; go_simp; first | done | with_reducible rfl
      try simp (maxSteps := 2000000) only [Act.put, Tk.s6]
      refine Tk.tk 4 ?_ rfl (.inl ⟨by kernel_rfl, ?_⟩) ?_
      rotate_left
      · intro w hSw; obtain ⟨q0, q1, q2, q3, q4, q5, q6, q7⟩ := HB.out w hSw; go_simp; first | done | with_reducible rfl
      try simp (maxSteps := 2000000) only [Act.put, Tk.s6]
      refine Tk.tk 5 ?_ rfl (.inl ⟨by kernel_rfl, ?_⟩) ?_
      rotate_left
      · intro w hSw; go_simp; first | done | with_reducible rfl
      try simp (maxSteps := 2000000) only [Act.put, Tk.s6]
      refine Tk.tk 6 ?_ rfl (.inl ⟨by kernel_rfl, ?_⟩) ?_
      rotate_left
      · intro w hSw; go_simp; first | done | with_reducible rfl
      try simp (maxSteps := 2000000) only [Act.put, Tk.s6]
      refine Tk.tk 8 ?_ rfl (.inl ⟨by kernel_rfl, ?_⟩) ?_
      rotate_left
      · intro w hSw; go_simp; first | done | with_reducible rfl
      try simp (maxSteps := 2000000) only [Act.put, Tk.s6]
      refine Tk.tk 9 ?_ rfl (.inl ⟨by kernel_rfl, ?_⟩) ?_
      rotate_left
      · intro w hSw; go_simp; first | done | with_reducible rfl
      try simp (maxSteps := 2000000) only [Act.put, Tk.s6]
      refine Tk.rd 7 rfl fun K hK => ?_
      go_simp
      refine (HH.out _).mono ?_
      rintro e wh ⟨rfl, Oh⟩
      have O2 := O1.call Oh
      refine hK.out _ _ O2 (fun hHeld => ?_)
      clear hK K
      try simp (maxSteps := 2000000) only [Act.put, Tk.s6]
      refine Tk.tk 10 ?_ rfl (.inl ⟨by kernel_rfl, ?_⟩) ?_
      rotate_left
      · intro w hSw; go_simp; first | done | with_reducible rfl
      try simp (maxSteps := 2000000) only [Act.put, Tk.s6]
      refine Tk.tk 11 ?_ rfl (.inl ⟨by rfl, ?_⟩) ?_
      rotate_left
      · intro w hSw; go_simp; first | done | with_reducible rfl
      try simp (maxSteps := 2000000) only [Act.put, Tk.s6]
      have BRe := O2.blk BR9
      have Owe := Ow9.call O2
      obtain ⟨r0, r1, r2, r3, r4, r5, r6, r7⟩ := cells8 BRe
      have fr : ∀ i, wh.frozen? ⟨p, i, none⟩ = false := BRe.frozen
      obtain ⟨t0, t1, t2, t3, t4, t5, t6, t7⟩ := HB.out _ O2
      refine wpAnyH_done (by kernel_rfl) ?_ _
      go_wp2_with fail
      have BF := set8 BRe (.string ⟨#[]⟩) (.int .i64 0) (.int .i64 0) (.int .i64 0) (.int .i64 0) (.int .i64 0) (.int .i64 0) (.string ⟨#[]⟩)
      refine bodyPost_ret (v := .tuple #[.agg zero8, .int .i64 0, .bool false]) (by exact res_ctt (fn := Tryz.f36) (p := 2) (u := 3) (v := 4) rfl BF rfl Tryz.underlying42 rfl (by kernel_rfl)) rfl ⟨by rw [HV.out], ?_⟩
      repeat (first | with_reducible exact Owe | refine On.set ?_ (show w.heap.size ≤ p by omega) _)
set_option maxRecDepth 100000 in
set_option maxHeartbeats 8000000 in
theorem ilget_eight (s : ByteArray) (x : Addr) (hs : s.size ≤ 1048576) (h30 : 30 ≤ s.size) (hn : 30 + numAtB s 26 2 + numAtB s 18 4 ≤ s.size) (w : World) (hO : Ord w x) (hf : Fact w) (hM : numAtB s 8 2 = 8) : Calls Tryz.prog 36 #[.string s] w (Tells w (lgetV s)) := by
  have hfit : fits s := ⟨h30, hn⟩
  have h30' : ¬ (s.size : Int) < 30 := by omega
  have Z8 := Lib.hid (fun w => i8_calls s (by omega) (by omega) w)
  have Z18 := Lib.hid (fun w => i18_calls s (by omega) (by omega) w)
  have Z26 := Lib.hid (fun w => i26_calls s (by omega) (by omega) w)
  have Z10 := Lib.hid (fun w => i10_calls s (by omega) (by omega) w)
  have b8 := numAtB_lt s 8 2
  have b26 := numAtB_lt s 26 2
  have b18 := numAtB_lt s 18 4
  have b10 := numAtB_lt s 10 4
  obtain ⟨hR, e1, e2⟩ := rest_name s h30 hn
  have hns := rdName_size (s := s) (by omega)
  have hps := rdPk_size (s := s) (by omega)
  have HG := Lib.hid (fun w => iget_calls (numAtB s 10 4) (by omega) w)
  have hen := (fun tx w' (O : On w w') (ht : tx.size ≤ maxLen) => ientry_calls (rdName s) (stY (numAtB s 10 4)) (stM (numAtB s 10 4)) (stD (numAtB s 10 4)) (stH (numAtB s 10 4)) (stI' (numAtB s 10 4)) (stS' (numAtB s 10 4)) tx w' (hf.on hf.lt O) (by omega) ht)
  unfold ent at hen
  have HEN := Lib.hid hen
  clear hen
  have hyy := (fun tx o htx ht he => lg_yes (s := s) (tx := tx) (o := o) htx hfit hs ht he)
  have hnn := (fun tx o htx ht he => lg_no (s := s) (tx := tx) (o := o) htx ht he)
  have hbd := (fun ht => lg_bad (s := s) ht)
  unfold rdNum at hyy hnn
  have HY := Lib.hid hyy
  have HN := Lib.hid hnn
  have HBD := Lib.hid hbd
  have HHD := Lib.hid (fun nm y m d h mi s tx mt pk w ok hn ht hm hp => iheadof_calls nm y m d h mi s tx mt pk ok hn ht hm hp w)
  clear hyy hnn hbd hf hfit
  have e30 : IntKind.i64.wrap (30 + (numAtB s 26 2 : Int)) = 30 + (numAtB s 26 2 : Int) := by rw [IntKind.wrap_i64]; omega
  have e31 : IntKind.i64.wrap (30 + (numAtB s 26 2 : Int) + (numAtB s 18 4 : Int)) = 30 + (numAtB s 26 2 : Int) + (numAtB s 18 4 : Int) := by rw [IntKind.wrap_i64]; omega
  have HFL := Lib.hid (fun w' (O : On w w') => flateget_calls x (rdPk s) w' (hO.on O))
  have HPS := Lib.hid hps
  generalize numAtB s 8 2 = M at *
  subst hM
  clear hns hps hO
  generalize numAtB s 10 4 = N at *
  generalize numAtB s 26 2 = a26 at *
  generalize numAtB s 18 4 = a18 at *
  generalize rdName s = nm at *
  generalize rdPk s = pk at *
  generalize stY N = y0 at *
  generalize stM N = m0 at *
  generalize stD N = d0 at *
  generalize stH N = h0 at *
  generalize stI' N = mi0 at *
  generalize stS' N = s0 at *
  have g0 : (30 : Int) ≤ (s.size : Int) := by omega
  go_enter Tryz.func36, Tryz.ntmps36
  have BR := Blk.new w 42 zero8
  have OA := (On.refl w).alloc (.cells zero8 42)
  go_upto_region 1 with fail
  generalize hP : w.heap.size = p at *
  generalize w.alloc (.cells zero8 42) = wa at *
  go_wp2_with fail
  refine (Z8.out _).mono ?_
  rintro e w' ⟨rfl, hw⟩
  rw [hw]
  clear hw
  go_wp2_with fail
  refine (Z18.out _).mono ?_
  rintro e w' ⟨rfl, hw⟩
  rw [hw]
  clear hw
  go_wp2_with fail
  refine (Z26.out _).mono ?_
  rintro e w' ⟨rfl, hw⟩
  rw [hw]
  clear hw
  go_upto_region 5 with fail
  generalize s.extract 30 s.size = R at *
  have hl' : ¬ (R.size : Int) < a26 := by omega
  have e3 : IntKind.i64.wrap ((R.size : Int) - a26) = (R.size : Int) - a26 := by rw [IntKind.wrap_i64]; omega
  have hl2 : ¬ (R.size : Int) - a26 < a18 := by omega
  have e4 : IntKind.i64.wrap ((a26 : Int) + a18) = (a26 : Int) + a18 := by rw [IntKind.wrap_i64]; omega
  have q1 : (0 : Int) ≤ (a26 : Int) := by omega
  have q2 : (a26 : Int) ≤ (R.size : Int) := by omega
  have q3 : (0 : Int) ≤ (a26 : Int) + a18 := by omega
  have q4 : (a26 : Int) + a18 ≤ (R.size : Int) := by omega
  have q5 : (a26 : Int) ≤ (a26 : Int) + a18 := by omega
  have q6 : ((a26 : Int) + a18).toNat = a26 + a18 := by omega
  go_upto_region 7 with fail
  refine wp_region_held_drew (S := fun W => On wa W) (by kernel_rfl) (On.refl _).drew (fun hHeld => ?_)
  refine Tk.tk 0 ?_ rfl (.inl ⟨by rfl, ?_⟩) ?_
  rotate_left
  · intro w hSw; go_simp; first | done | with_reducible rfl
  try simp (maxSteps := 2000000) only [Act.put, Tk.s6]
  refine Tk.tk 1 ?_ rfl (.inl ⟨by rfl, ?_⟩) ?_
  rotate_left
  · intro w hSw; go_simp; first | done | with_reducible rfl
  try simp (maxSteps := 2000000) only [Act.put, Tk.s6]
  refine Tk.tk 2 ?_ rfl (.inl ⟨by rfl, ?_⟩) ?_
  rotate_left
  · intro w hSw; go_simp; first | done | with_reducible rfl
  try simp (maxSteps := 2000000) only [Act.put, Tk.s6]
  refine Tk.tk 3 ?_ rfl (.inl ⟨by rfl, ?_⟩) ?_
  rotate_left
  · intro w hSw; go_simp; first | done | with_reducible rfl
  try simp (maxSteps := 2000000) only [Act.put, Tk.s6]
  refine Tk.tk 4 ?_ rfl (.inl ⟨by rfl, ?_⟩) ?_
  rotate_left
  · intro w hSw; go_simp; first | done | with_reducible rfl
  try simp (maxSteps := 2000000) only [Act.put, Tk.s6]
  refine Tk.tk 5 ?_ rfl (.inl ⟨by rfl, ?_⟩) ?_
  rotate_left
  · intro w hSw; go_simp; first | done | with_reducible rfl
  try simp (maxSteps := 2000000) only [Act.put, Tk.s6]
  refine Tk.tk 6 ?_ rfl (.inl ⟨by rfl, ?_⟩) ?_
  rotate_left
  · intro w hSw; go_simp; first | done | with_reducible rfl
  try simp (maxSteps := 2000000) only [Act.put, Tk.s6]
  refine Tk.tk 7 ?_ rfl (.inl ⟨by rfl, ?_⟩) ?_
  rotate_left
  · intro w hSw; go_simp; first | done | with_reducible rfl
  try simp (maxSteps := 2000000) only [Act.put, Tk.s6]
  refine Tk.tk 8 ?_ rfl (.inl ⟨by rfl, ?_⟩) ?_
  rotate_left
  · intro w hSw; go_simp; first | done | with_reducible rfl
  try simp (maxSteps := 2000000) only [Act.put, Tk.s6]
  refine Tk.tk 9 ?_ rfl (.inl ⟨by rfl, ?_⟩) ?_
  rotate_left
  · intro w hSw; go_simp; first | done | with_reducible rfl
  try simp (maxSteps := 2000000) only [Act.put, Tk.s6]
  have O0 := (On.refl wa).drew
  generalize wa.drew = wd at *
  refine Tk.rd 10 rfl fun K hK => ?_
  go_simp
  have O1 := O0.alloc (.cells zero8 42)
  have BT := Blk.new wd 42 zero8
  obtain ⟨g, htb⟩ : ∃ g, g = wd.heap.size := ⟨_, rfl⟩
  have hg : wa.heap.size ≤ g := by have := O0.size; omega
  rw [← htb] at BT ⊢
  generalize wd.alloc (.cells zero8 42) = wT at *
  clear htb
  refine hK.out _ _ O1 (fun hHeld => ?_)
  clear hK K
  try simp (maxSteps := 2000000) only [Act.put, Tk.s6]
  obtain ⟨t0, t1, t2, t3, t4, t5, t6, t7⟩ := cells8 BT
  have ft : ∀ i, wT.frozen? ⟨g, i, none⟩ = false := BT.frozen
  refine Tk.rd 11 rfl fun K hK => ?_
  go_simp
  have BS := set8 BT (.string nm) (.int .i64 0) (.int .i64 0) (.int .i64 0) (.int .i64 0) (.int .i64 0) (.int .i64 0) (.string pk)
  have OS : On wa _ := ((((((((O1.set (p := ⟨g, 0, none⟩) hg (.string nm)).set (p := ⟨g, 1, none⟩) hg (.int .i64 0)).set (p := ⟨g, 2, none⟩) hg (.int .i64 0)).set (p := ⟨g, 3, none⟩) hg (.int .i64 0)).set (p := ⟨g, 4, none⟩) hg (.int .i64 0)).set (p := ⟨g, 5, none⟩) hg (.int .i64 0)).set (p := ⟨g, 6, none⟩) hg (.int .i64 0)).set (p := ⟨g, 7, none⟩) hg (.string pk))
  refine hK.out _ _ OS (fun hHeld => ?_)
  clear hK K
  try simp (maxSteps := 2000000) only [Act.put, Tk.s6]
  clear t0 t1 t2 t3 t4 t5 t6 t7 ft
  generalize ((((((((wT.setCell ⟨g, 0, none⟩ (.string nm)).setCell ⟨g, 1, none⟩ (.int .i64 0)).setCell ⟨g, 2, none⟩ (.int .i64 0)).setCell ⟨g, 3, none⟩ (.int .i64 0)).setCell ⟨g, 4, none⟩ (.int .i64 0)).setCell ⟨g, 5, none⟩ (.int .i64 0)).setCell ⟨g, 6, none⟩ (.int .i64 0)).setCell ⟨g, 7, none⟩ (.string pk)) = w7 at *
  refine wpAnyH_done (by kernel_rfl) ?_ _
  go_wp2_with fail
  refine (Z10.out _).mono ?_
  rintro e w' ⟨rfl, hw⟩
  rw [hw]
  clear hw
  go_wp2_with fail
  refine (HG.out _).mono ?_
  rintro e w8 ⟨sb, rfl, Og⟩
  have O8 := OS.call Og
  have B8 := Og.blk BS
  obtain ⟨t0, t1, t2, t3, t4, t5, t6, t7⟩ := cells8 B8
  have ft : ∀ i, w8.frozen? ⟨g, i, none⟩ = false := B8.frozen
  go_upto_region 9 with fail
  have B9 := ((((((B8.set 1 (.int .i64 y0)).set 2 (.int .i64 m0)).set 3 (.int .i64 d0)).set 4 (.int .i64 h0)).set 5 (.int .i64 mi0)).set 6 (.int .i64 s0))
  simp only [List.setIfInBounds_toArray, List.set_cons_zero, List.set_cons_succ] at B9
  have O9 : On wa _ := (((((O8.set (p := ⟨g, 1, none⟩) hg (.int .i64 y0)).set (p := ⟨g, 2, none⟩) hg (.int .i64 m0)).set (p := ⟨g, 3, none⟩) hg (.int .i64 d0)).set (p := ⟨g, 4, none⟩) hg (.int .i64 h0)).set (p := ⟨g, 5, none⟩) hg (.int .i64 mi0)).set (p := ⟨g, 6, none⟩) hg (.int .i64 s0)
  clear t0 t1 t2 t3 t4 t5 t6 t7 ft
  generalize ((((((w8.setCell ⟨g, 1, none⟩ (.int .i64 y0)).setCell ⟨g, 2, none⟩ (.int .i64 m0)).setCell ⟨g, 3, none⟩ (.int .i64 d0)).setCell ⟨g, 4, none⟩ (.int .i64 h0)).setCell ⟨g, 5, none⟩ (.int .i64 mi0)).setCell ⟨g, 6, none⟩ (.int .i64 s0)) = w9 at *
  have BR9 := O9.blk BR
  have Ow9 := OA.call O9
  have hpw : w.heap.size ≤ p := by omega
  have hpg : p ≠ g := by have := BR.lt; omega
  have hgw : w.heap.size ≤ g := by have := OA.size; omega
  clear OS Og O8 B8 BS O1 O0 OA BR O9
  obtain ⟨t0, t1, t2, t3, t4, t5, t6, t7⟩ := cells8 B9
  go_wp2_with fail
  refine (HFL.out _ Ow9).mono ?_
  rintro e w10 ⟨rfl, O10⟩
  have B10 := O10.blk B9
  have BR10 := O10.blk BR9
  have Ow10 := Ow9.call O10
  clear t0 t1 t2 t3 t4 t5 t6 t7 B9 BR9 Ow9 O10
  unfold gotOf
  cases hfl : De.flate (chars pk) with
  | none =>
    have HV := Lib.hid (HBD.out (text_none hfl))
    clear hfl
    obtain ⟨r0, r1, r2, r3, r4, r5, r6, r7⟩ := cells8 BR10
    have fr : ∀ i, w10.frozen? ⟨p, i, none⟩ = false := BR10.frozen
    simp only []
    go_wp2_with fail
    have BF := set8 BR10 (.string ⟨#[]⟩) (.int .i64 0) (.int .i64 0) (.int .i64 0) (.int .i64 0) (.int .i64 0) (.int .i64 0) (.string ⟨#[]⟩)
    refine bodyPost_ret (v := .tuple #[.agg zero8, .int .i64 0, .bool false]) (by exact res_ctt (fn := Tryz.f36) (p := 2) (u := 3) (v := 4) rfl BF rfl Tryz.underlying42 rfl (by kernel_rfl)) rfl ⟨by rw [HV.out], ?_⟩
    repeat (first | with_reducible exact Ow10 | refine On.set ?_ (show w.heap.size ≤ p by omega) _)
  | some r =>
    obtain ⟨o, n⟩ := r
    simp only []
    have hlen : (chars pk).length = a18 := by rw [chars_length]; exact HPS.out
    by_cases hna : n = a18
    · have htx : textOf 8 (chars pk) = some o := by rw [text_some hfl, if_pos (by omega)]
      have h700 := (De.flate_inv hfl).1
      have hsm := De.flate_small hfl
      have hsz : (strB o).size = o.length := strB_size o
      have HY1 := fun he => HY.out (strB o) o rfl htx he
      have HN1 := fun he => HN.out (strB o) o rfl htx he
      have htz : (strB o).size ≤ maxLen := by unfold maxLen; omega
      have h18' : a18 ≤ 1000000 := by omega
      generalize strB o = tx at *
      have c5 : ((n : Int) != (a18 : Int)) = false := by simp [hna]
      have c6 : ((n : Int) == (a18 : Int)) = true := by simp [hna]
      clear hfl htx h700 hsm hsz hlen
      obtain ⟨t0, t1, t2, t3, t4, t5, t6, t7⟩ := cells8 B10
      have ft : ∀ i, w10.frozen? ⟨g, i, none⟩ = false := B10.frozen
      go_upto_region 17 with fail
      have B11 := B10.set 7 (.string tx)
      simp only [List.setIfInBounds_toArray, List.set_cons_zero, List.set_cons_succ] at B11
      have BR11 := BR10.far (p := ⟨g, 7, none⟩) hpg (.string tx)
      have Ow11 : On w _ := Ow10.set (p := ⟨g, 7, none⟩) hgw (.string tx)
      clear t0 t1 t2 t3 t4 t5 t6 t7 ft
      generalize w10.setCell ⟨g, 7, none⟩ (.string tx) = w11 at *
      clear B10 BR10 Ow10
      have HB := Lib.hid (fun W (T : On w11 W) => cells8 (T.blk B11))
      cases hk : entryOk nm y0 m0 d0 h0 mi0 s0 tx with
      | false =>
        have HV := Lib.hid (HN1 hk)
        have HE := Lib.hid (fun w' O => HEN.out tx w' O htz)
        rw [hk] at HE
        clear hk HY1 HN1
        go_upto_region 17 with fail
        refine wp_region_held_drew (S := fun W => On w11 W) (by kernel_rfl) (On.refl _).drew (fun hHeld => ?_)
        refine Tk.tk 0 ?_ rfl (.inl ⟨by rfl, ?_⟩) ?_
        rotate_left
        · intro w hSw; obtain ⟨q0, q1, q2, q3, q4, q5, q6, q7⟩ := HB.out w hSw; go_simp; first | done | with_reducible rfl
        try simp (maxSteps := 2000000) only [Act.put, Tk.s6]
        have O0 := (On.refl w11).drew
        generalize w11.drew = wd at *
        refine Tk.rd 1 rfl fun K hK => ?_
        go_simp
        refine (HE.out _ (Ow11.call O0)).mono ?_
        rintro e we ⟨rfl, Oe⟩
        have O1 := O0.call Oe
        refine hK.out _ _ O1 (fun hHeld => ?_)
        clear hK K
        try simp (maxSteps := 2000000) only [Act.put, Tk.s6]
        refine Tk.tk 2 ?_ rfl (.inl ⟨by rfl, ?_⟩) ?_
        rotate_left
        · intro w hSw; go_simp; first | done | with_reducible rfl
        try simp (maxSteps := 2000000) only [Act.put, Tk.s6]
        refine Tk.tk 3 ?_ rfl (.inl ⟨by rfl, ?_⟩) ?_
        rotate_left
        · intro w hSw; go_simp; first | done | with_reducible rfl
        try simp (maxSteps := 2000000) only [Act.put, Tk.s6]
        refine Tk.tk 4 undef rfl (.inr ⟨by kernel_rfl, rfl⟩) ?_
        try simp (maxSteps := 2000000) only [Act.put, Tk.s6]
        refine Tk.tk 5 undef rfl (.inr ⟨by kernel_rfl, rfl⟩) ?_
        try simp (maxSteps := 2000000) only [Act.put, Tk.s6]
        refine Tk.tk 6 undef rfl (.inr ⟨by kernel_rfl, rfl⟩) ?_
        try simp (maxSteps := 2000000) only [Act.put, Tk.s6]
        refine Tk.tk 7 undef rfl (.inr ⟨by kernel_rfl, rfl⟩) ?_
        try simp (maxSteps := 2000000) only [Act.put, Tk.s6]
        refine Tk.tk 8 undef rfl (.inr ⟨by kernel_rfl, rfl⟩) ?_
        try simp (maxSteps := 2000000) only [Act.put, Tk.s6]
        refine Tk.tk 9 undef rfl (.inr ⟨by kernel_rfl, rfl⟩) ?_
        try simp (maxSteps := 2000000) only [Act.put, Tk.s6]
        refine Tk.tk 10 undef rfl (.inr ⟨by kernel_rfl, rfl⟩) ?_
        try simp (maxSteps := 2000000) only [Act.put, Tk.s6]
        refine Tk.tk 11 ?_ rfl (.inl ⟨by rfl, ?_⟩) ?_
        rotate_left
        · intro w hSw; go_simp; first | done | with_reducible rfl
        try simp (maxSteps := 2000000) only [Act.put, Tk.s6]
        have BRe := O1.blk BR11
        have Owe := Ow11.call O1
        obtain ⟨r0, r1, r2, r3, r4, r5, r6, r7⟩ := cells8 BRe
        have fr : ∀ i, we.frozen? ⟨p, i, none⟩ = false := BRe.frozen
        refine wpAnyH_done (by kernel_rfl) ?_ _
        go_wp2_with fail
        have BF := set8 BRe (.string ⟨#[]⟩) (.int .i64 0) (.int .i64 0) (.int .i64 0) (.int .i64 0) (.int .i64 0) (.int .i64 0) (.string ⟨#[]⟩)
        refine bodyPost_ret (v := .tuple #[.agg zero8, .int .i64 0, .bool false]) (by exact res_ctt (fn := Tryz.f36) (p := 2) (u := 3) (v := 4) rfl BF rfl Tryz.underlying42 rfl (by kernel_rfl)) rfl ⟨by rw [HV.out], ?_⟩
        repeat (first | with_reducible exact Owe | refine On.set ?_ (show w.heap.size ≤ p by omega) _)
      | true =>
        obtain ⟨ok, hyes, hno, hn43, ht300⟩ := HY1 hk
        have HE := Lib.hid (fun w' O => HEN.out tx w' O htz)
        rw [hk] at HE
        have h18 : a18 ≤ 1000000 := by have := HPS.out; omega
        have HH := Lib.hid (fun w => HHD.out nm y0 m0 d0 h0 mi0 s0 tx 8 a18 w ok (by omega) (by omega) (by omega) h18)
        rw [show ((8 : Nat) : Int) = 8 from rfl] at HH
        clear hk HY1 HN1 ok
        generalize headB nm y0 m0 d0 h0 mi0 s0 tx 8 a18 = hd at *
        have u1 : (0 : Int) ≤ 30 := by omega
        by_cases hq : hd = s.extract 0 30
        · have HV := Lib.hid (hyes hq)
          have hq2 : (hd.toList == (s.extract 0 30).toList) = true := by rw [hq]; exact beq_self_eq_true _
          clear hq
          clear hyes hno
          go_upto_region 17 with fail
          refine wp_region_held_drew (S := fun W => On w11 W) (by kernel_rfl) (On.refl _).drew (fun hHeld => ?_)
          refine Tk.tk 0 ?_ rfl (.inl ⟨by rfl, ?_⟩) ?_
          rotate_left
          · intro w hSw; obtain ⟨q0, q1, q2, q3, q4, q5, q6, q7⟩ := HB.out w hSw; go_simp; first | done | with_reducible rfl
          try simp (maxSteps := 2000000) only [Act.put, Tk.s6]
          have O0 := (On.refl w11).drew
          generalize w11.drew = wd at *
          refine Tk.rd 1 rfl fun K hK => ?_
          go_simp
          refine (HE.out _ (Ow11.call O0)).mono ?_
          rintro e we ⟨rfl, Oe⟩
          have O1 := O0.call Oe
          refine hK.out _ _ O1 (fun hHeld => ?_)
          clear hK K
          try simp (maxSteps := 2000000) only [Act.put, Tk.s6]
          refine Tk.tk 2 ?_ rfl (.inl ⟨by rfl, ?_⟩) ?_
          rotate_left
          · intro w hSw; go_simp; first | done | with_reducible rfl
          try simp (maxSteps := 2000000) only [Act.put, Tk.s6]
          refine Tk.tk 3 ?_ rfl (.inl ⟨by rfl, ?_⟩) ?_
          rotate_left
          · intro w hSw; go_simp; first | done | with_reducible rfl
          try simp (maxSteps := 2000000) only [Act.put, Tk.s6]
          refine Tk.tk 4 ?_ rfl (.inl ⟨by kernel_rfl, ?_⟩) ?_
          rotate_left
          · intro w hSw; obtain ⟨q0, q1, q2, q3, q4, q5, q6, q7⟩ := HB.out w hSw; go_simp; first | done | with_reducible rfl
          try simp (maxSteps := 2000000) only [Act.put, Tk.s6]
          refine Tk.tk 5 ?_ rfl (.inl ⟨by kernel_rfl, ?_⟩) ?_
          rotate_left
          · intro w hSw; go_simp; first | done | with_reducible rfl
          try simp (maxSteps := 2000000) only [Act.put, Tk.s6]
          refine Tk.tk 6 ?_ rfl (.inl ⟨by kernel_rfl, ?_⟩) ?_
          rotate_left
          · intro w hSw; go_simp; first | done | with_reducible rfl
          try simp (maxSteps := 2000000) only [Act.put, Tk.s6]
          refine Tk.tk 8 ?_ rfl (.inl ⟨by kernel_rfl, ?_⟩) ?_
          rotate_left
          · intro w hSw; go_simp; first | done | with_reducible rfl
          try simp (maxSteps := 2000000) only [Act.put, Tk.s6]
          refine Tk.tk 9 ?_ rfl (.inl ⟨by kernel_rfl, ?_⟩) ?_
          rotate_left
          · intro w hSw; go_simp; first | done | with_reducible rfl
          try simp (maxSteps := 2000000) only [Act.put, Tk.s6]
          refine Tk.rd 7 rfl fun K hK => ?_
          go_simp
          refine (HH.out _).mono ?_
          rintro e wh ⟨rfl, Oh⟩
          have O2 := O1.call Oh
          refine hK.out _ _ O2 (fun hHeld => ?_)
          clear hK K
          try simp (maxSteps := 2000000) only [Act.put, Tk.s6]
          refine Tk.tk 10 ?_ rfl (.inl ⟨by kernel_rfl, ?_⟩) ?_
          rotate_left
          · intro w hSw; go_simp; first | done | with_reducible rfl
          try simp (maxSteps := 2000000) only [Act.put, Tk.s6]
          refine Tk.tk 11 ?_ rfl (.inl ⟨by rfl, ?_⟩) ?_
          rotate_left
          · intro w hSw; go_simp; first | done | with_reducible rfl
          try simp (maxSteps := 2000000) only [Act.put, Tk.s6]
          have BRe := O2.blk BR11
          have Owe := Ow11.call O2
          obtain ⟨r0, r1, r2, r3, r4, r5, r6, r7⟩ := cells8 BRe
          have fr : ∀ i, wh.frozen? ⟨p, i, none⟩ = false := BRe.frozen
          obtain ⟨t0, t1, t2, t3, t4, t5, t6, t7⟩ := HB.out _ O2
          refine wpAnyH_done (by kernel_rfl) ?_ _
          go_wp2_with fail
          have BF := set8 BRe (.string nm) (.int .i64 y0) (.int .i64 m0) (.int .i64 d0) (.int .i64 h0) (.int .i64 mi0) (.int .i64 s0) (.string tx)
          refine bodyPost_ret (v := .tuple #[.agg #[.string nm, .int .i64 y0, .int .i64 m0, .int .i64 d0, .int .i64 h0, .int .i64 mi0, .int .i64 s0, .string tx], .int .i64 ((30 + a26 + a18 : Nat) : Int), .bool true]) (by exact res_ctt (fn := Tryz.f36) (p := 2) (u := 3) (v := 4) rfl BF rfl Tryz.underlying42 rfl (by kernel_rfl)) rfl ⟨by rw [HV.out], ?_⟩
          repeat (first | with_reducible exact Owe | refine On.set ?_ hpw _)
        · have HV := Lib.hid (hno hq)
          have hq2 : (hd.toList == (s.extract 0 30).toList) = false := by
            rw [beq_eq_false_iff_ne, ByteArray.toList_eq, ByteArray.toList_eq]
            intro h
            exact hq (ByteArray.ext (Array.toList_inj.1 h))
          clear hq
          clear hyes hno
          go_upto_region 17 with fail
          refine wp_region_held_drew (S := fun W => On w11 W) (by kernel_rfl) (On.refl _).drew (fun hHeld => ?_)
          refine Tk.tk 0 ?_ rfl (.inl ⟨by rfl, ?_⟩) ?_
          rotate_left
          · intro w hSw; obtain ⟨q0, q1, q2, q3, q4, q5, q6, q7⟩ := HB.out w hSw; go_simp; first | done | with_reducible rfl
          try simp (maxSteps := 2000000) only [Act.put, Tk.s6]
          have O0 := (On.refl w11).drew
          generalize w11.drew = wd at *
          refine Tk.rd 1 rfl fun K hK => ?_
          go_simp
          refine (HE.out _ (Ow11.call O0)).mono ?_
          rintro e we ⟨rfl, Oe⟩
          have O1 := O0.call Oe
          refine hK.out _ _ O1 (fun hHeld => ?_)
          clear hK K
          try simp (maxSteps := 2000000) only [Act.put, Tk.s6]
          refine Tk.tk 2 ?_ rfl (.inl ⟨by rfl, ?_⟩) ?_
          rotate_left
          · intro w hSw; go_simp; first | done | with_reducible rfl
          try simp (maxSteps := 2000000) only [Act.put, Tk.s6]
          refine Tk.tk 3 ?_ rfl (.inl ⟨by rfl, ?_⟩) ?_
          rotate_left
          · intro w hSw; go_simp; first | done | with_reducible rfl
          try simp (maxSteps := 2000000) only [Act.put, Tk.s6]
          refine Tk.tk 4 ?_ rfl (.inl ⟨by kernel_rfl, ?_⟩) ?_
          rotate_left
          · intro w hSw; obtain ⟨q0, q1, q2, q3, q4, q5, q6, q7⟩ := HB.out w hSw; go_simp; first | done | with_reducible rfl
          try simp (maxSteps := 2000000) only [Act.put, Tk.s6]
          refine Tk.tk 5 ?_ rfl (.inl ⟨by kernel_rfl, ?_⟩) ?_
          rotate_left
          · intro w hSw; go_simp; first | done | with_reducible rfl
          try simp (maxSteps := 2000000) only [Act.put, Tk.s6]
          refine Tk.tk 6 ?_ rfl (.inl ⟨by kernel_rfl, ?_⟩) ?_
          rotate_left
          · intro w hSw; go_simp; first | done | with_reducible rfl
          try simp (maxSteps := 2000000) only [Act.put, Tk.s6]
          refine Tk.tk 8 ?_ rfl (.inl ⟨by kernel_rfl, ?_⟩) ?_
          rotate_left
          · intro w hSw; go_simp; first | done | with_reducible rfl
          try simp (maxSteps := 2000000) only [Act.put, Tk.s6]
          refine Tk.tk 9 ?_ rfl (.inl ⟨by kernel_rfl, ?_⟩) ?_
          rotate_left
          · intro w hSw; go_simp; first | done | with_reducible rfl
          try simp (maxSteps := 2000000) only [Act.put, Tk.s6]
          refine Tk.rd 7 rfl fun K hK => ?_
          go_simp
          refine (HH.out _).mono ?_
          rintro e wh ⟨rfl, Oh⟩
          have O2 := O1.call Oh
          refine hK.out _ _ O2 (fun hHeld => ?_)
          clear hK K
          try simp (maxSteps := 2000000) only [Act.put, Tk.s6]
          refine Tk.tk 10 ?_ rfl (.inl ⟨by kernel_rfl, ?_⟩) ?_
          rotate_left
          · intro w hSw; go_simp; first | done | with_reducible rfl
          try simp (maxSteps := 2000000) only [Act.put, Tk.s6]
          refine Tk.tk 11 ?_ rfl (.inl ⟨by rfl, ?_⟩) ?_
          rotate_left
          · intro w hSw; go_simp; first | done | with_reducible rfl
          try simp (maxSteps := 2000000) only [Act.put, Tk.s6]
          have BRe := O2.blk BR11
          have Owe := Ow11.call O2
          obtain ⟨r0, r1, r2, r3, r4, r5, r6, r7⟩ := cells8 BRe
          have fr : ∀ i, wh.frozen? ⟨p, i, none⟩ = false := BRe.frozen
          obtain ⟨t0, t1, t2, t3, t4, t5, t6, t7⟩ := HB.out _ O2
          refine wpAnyH_done (by kernel_rfl) ?_ _
          go_wp2_with fail
          have BF := set8 BRe (.string ⟨#[]⟩) (.int .i64 0) (.int .i64 0) (.int .i64 0) (.int .i64 0) (.int .i64 0) (.int .i64 0) (.string ⟨#[]⟩)
          refine bodyPost_ret (v := .tuple #[.agg zero8, .int .i64 0, .bool false]) (by exact res_ctt (fn := Tryz.f36) (p := 2) (u := 3) (v := 4) rfl BF rfl Tryz.underlying42 rfl (by kernel_rfl)) rfl ⟨by rw [HV.out], ?_⟩
          repeat (first | with_reducible exact Owe | refine On.set ?_ (show w.heap.size ≤ p by omega) _)
    · have htx : textOf 8 (chars pk) = none := by rw [text_some hfl, if_neg (by omega)]
      have HV := Lib.hid (HBD.out htx)
      have c5 : ((n : Int) != (a18 : Int)) = true := by simp; omega
      have c6 : ((n : Int) == (a18 : Int)) = false := by rw [beq_eq_false_iff_ne]; omega
      have c7 : ¬ (n : Int) = (a18 : Int) := by omega
      clear hfl htx hlen
      generalize strB o = tx at *
      obtain ⟨r0, r1, r2, r3, r4, r5, r6, r7⟩ := cells8 BR10
      have fr : ∀ i, w10.frozen? ⟨p, i, none⟩ = false := BR10.frozen
      go_wp2_with fail
      have BF := set8 BR10 (.string ⟨#[]⟩) (.int .i64 0) (.int .i64 0) (.int .i64 0) (.int .i64 0) (.int .i64 0) (.int .i64 0) (.string ⟨#[]⟩)
      refine bodyPost_ret (v := .tuple #[.agg zero8, .int .i64 0, .bool false]) (by exact res_ctt (fn := Tryz.f36) (p := 2) (u := 3) (v := 4) rfl BF rfl Tryz.underlying42 rfl (by kernel_rfl)) rfl ⟨by rw [HV.out], ?_⟩
      repeat (first | with_reducible exact Ow10 | refine On.set ?_ (show w.heap.size ≤ p by omega) _)
theorem ilget_calls (s : ByteArray) (x : Addr) (hs : s.size ≤ 1048576) (w : World) (hO : Ord w x) (hf : Fact w) : Calls Tryz.prog 36 #[.string s] w (Tells w (lgetV s)) := by
  by_cases h30 : 30 ≤ s.size
  · by_cases hn : 30 + numAtB s 26 2 + numAtB s 18 4 ≤ s.size
    · by_cases h0 : numAtB s 8 2 = 0
      · exact ilget_zero s x hs h30 hn w hO hf h0
      · by_cases h8 : numAtB s 8 2 = 8
        · exact ilget_eight s x hs h30 hn w hO hf h8
        · exact ilget_other s x hs h30 hn w h0 h8
    · exact ilget_unfit s hs h30 hn w
  · exact ilget_short s (by omega) w
end Go.Proofs.YtnadjlejlohgiaaGreatDoor.Lc

