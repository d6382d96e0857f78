/- Own texts joined: Lx. -/
import Derived.Deep.CutRange
import Derived.Test.YtnadjlejlohgiaaGreatDoorW4
import Derived.Test.YtnadjlejlohgiaaGreatDoorW25
import Derived.Test.YtnadjlejlohgiaaGreatDoorW37
/- A file of an archive read back: the specification's, of a head; LocalGet. (Printed by tools/gen_lx.py.) -/
namespace Go.Proofs.YtnadjlejlohgiaaGreatDoor.Lc
open Go.RowKit Go.Proofs.YtnadjlejlohgiaaGreatDoor.Mem Go.Proofs.YtnadjlejlohgiaaGreatDoor.Nm Go.Proofs.YtnadjlejlohgiaaGreatDoor.Nb Go.Proofs.YtnadjlejlohgiaaGreatDoor.Cr Go.Proofs.YtnadjlejlohgiaaGreatDoor.Wi
set_option linter.unusedVariables false
set_option linter.unusedSimpArgs false
theorem TextIs.small {m : Nat} {s tx : ByteArray} {b : Bool} (h : TextIs m s tx b) (hb : b = true) (hs : s.size ≤ 1048576) : tx.size ≤ 1048576 := by
  have h1 := h.ok
  rw [hb] at h1
  obtain ⟨o, ho⟩ := Option.isSome_iff_exists.1 h1.symm
  rw [h.tx o ho, strB_size]
  unfold textOf at ho
  split at ho
  · cases ho; rw [chars_length]; exact hs
  · split at ho
    · cases hf : De.flate (chars s) with
      | none => rw [hf] at ho; cases ho
      | some r =>
        obtain ⟨o', n⟩ := r
        rw [hf] at ho
        have ho2 : (if n = (chars s).length then Option.some o' else Option.none) = Option.some o := ho
        split at ho2
        · cases ho2
          have := De.flate_small hf
          omega
        · cases ho2
    · cases ho
theorem RdIs.of {s tx : ByteArray} {b : Bool} (hh : headOk s) (ht : TextIs (numAtB s 8 2) (rdPk s) tx b) {ok : Bool} (hok : ok = (b && (decide (numAtB s 14 4 = crcOf tx) && (decide (numAtB s 22 4 = tx.size) && entryOk (rdName s) (gy (rdNum s)) (gm (rdNum s)) (gd (rdNum s)) (gh (rdNum s)) (gi (rdNum s)) (gs (rdNum s)) tx)))) :
    RdIs s ⟨rdName s, gy (rdNum s), gm (rdNum s), gd (rdNum s), gh (rdNum s), gi (rdNum s), gs (rdNum s), tx⟩ (rdLong s : Nat) ok := by
  have hl : locText s = (match textOf (numAtB s 8 2) (chars (rdPk s)) with | some o => if textOk s (strB o) then some (strB o) else none | none => none) := by
    unfold locText
    rw [if_pos hh]
    rfl
  cases hx : textOf (numAtB s 8 2) (chars (rdPk s)) with
  | none =>
    rw [hx] at hl
    have hb := ht.ok
    rw [hx] at hb
    have hb' : b = false := hb
    have hl2 : locText s = none := hl
    exact ⟨by rw [hok, hb', hl2]; rfl, fun o ho => by rw [hl2] at ho; cases ho⟩
  | some o =>
    rw [hx] at hl
    have hb := ht.ok
    rw [hx] at hb
    obtain rfl := ht.tx o hx
    have hb' : b = true := hb
    rw [hb', Bool.true_and] at hok
    have e : ok = decide (textOk s (strB o)) := by
      rw [hok]
      by_cases hT : textOk s (strB o)
      · rw [decide_eq_true hT]
        obtain ⟨q1, q2, q3⟩ := hT
        rw [decide_eq_true q1, decide_eq_true q2, q3]; rfl
      · rw [decide_eq_false hT, Bool.eq_false_iff]
        intro q
        apply hT
        simp only [Bool.and_eq_true, decide_eq_true_eq] at q
        exact q
    by_cases hT : textOk s (strB o)
    · have hl2 : locText s = some (strB o) := hl.trans (if_pos hT)
      refine ⟨by rw [e, hl2, decide_eq_true hT]; rfl, fun o' ho' => ?_⟩
      rw [hl2] at ho'
      cases ho'
      exact ⟨rfl, rfl⟩
    · have hl2 : locText s = none := hl.trans (if_neg hT)
      exact ⟨by rw [e, hl2, decide_eq_false hT]; rfl, fun o' ho' => by rw [hl2] at ho'; cases ho'⟩
set_option maxRecDepth 100000 in
set_option maxHeartbeats 8000000 in
theorem sread_yes (s : ByteArray) (hs : s.size ≤ 1048576) (hh : headOk s) (w : World) :
    Calls Tryz.prog 34 #[.string s] w (fun e w' => ∃ f n b, e = .returned (.tuple #[fiV f, .int .i64 n, .bool b]) ∧ On w w' ∧ RdIs s f n b) := by
  have HRD := Lib.hid (fun tx b ok h1 h2 => RdIs.of (s := s) (tx := tx) (b := b) hh h1 (ok := ok) h2)
  have hfz : 30 + numAtB s 26 2 ≤ s.size := by have := hh.2.2.2.2.2; omega
  have hns := rdName_size hfz
  have hps := rdPk_size hh.2.2.2.2.2
  have hN := numAtB_lt s 10 4
  have hpk : (rdPk s).size ≤ 1048576 := by have := hh.2.2.2.2.2; omega
  have b26 := numAtB_lt s 26 2
  have b18 := numAtB_lt s 18 4
  have b8 := numAtB_lt s 8 2
  have b22 := numAtB_lt s 22 4
  have HG := Lib.hid (fun w => sget_calls (rdNum s) (by unfold rdNum; omega) w)
  have HTX := Lib.hid (fun w => stext_calls (numAtB s 8 2) (rdPk s) (by omega) w)
  have hen := (fun tx w ht => sentry_calls (rdName s) (gy (rdNum s)) (gm (rdNum s)) (gd (rdNum s)) (gh (rdNum s)) (gi (rdNum s)) (gs (rdNum s)) tx w (by omega) ht)
  unfold ent at hen
  have HEN := Lib.hid hen
  clear hen
  have HCR : RowKit.Hid (∀ (tx : ByteArray) (w : World), tx.size ≤ 4294967296 → Calls Tryz.prog 59 #[.string tx] w (fun e w' => e = .returned (.int .i64 (crcOf tx : Nat)) ∧ w' = w)) := Lib.hid (fun tx w ht => scrc_calls tx ht w)
  have HSM := Lib.hid (fun tx b (h : TextIs (numAtB s 8 2) (rdPk s) tx b) (hb : b = true) => h.small hb hpk)
  have HTS := Lib.hid (fun tx b (h : TextIs (numAtB s 8 2) (rdPk s) tx b) => h.ok)
  obtain ⟨h30, m0, m4, m6, m28, hfit⟩ := hh
  have hlong : rdLong s = 30 + numAtB s 26 2 + numAtB s 18 4 := rfl
  have sl1 : s.extract 30 (30 + numAtB s 26 2) = rdName s := rfl
  have sl2 : s.extract (30 + numAtB s 26 2) (30 + numAtB s 26 2 + numAtB s 18 4) = rdPk s := rfl
  have Z8 := Lib.hid (fun w => z8_calls s (by omega) w)
  rw [numZ_in (s := s) (a := 8) (n := 2) (by omega)] at Z8
  have Z10 := Lib.hid (fun w => z10_calls s (by omega) w)
  rw [numZ_in (s := s) (a := 10) (n := 4) (by omega)] at Z10
  have Z14 := Lib.hid (fun w => z14_calls s (by omega) w)
  rw [numZ_in (s := s) (a := 14) (n := 4) (by omega)] at Z14
  have Z22 := Lib.hid (fun w => z22_calls s (by omega) w)
  rw [numZ_in (s := s) (a := 22) (n := 4) (by omega)] at Z22
  have Z26 := Lib.hid (fun w => z26_calls s (by omega) w)
  rw [numZ_in (s := s) (a := 26) (n := 2) (by omega)] at Z26
  have Z28 := Lib.hid (fun w => z28_calls s (by omega) w)
  rw [numZ_in (s := s) (a := 28) (n := 2) (by omega)] at Z28
  have Z0 := Lib.hid (fun w => z0_calls s (by omega) w)
  rw [numZ_in (s := s) (a := 0) (n := 4) (by omega)] at Z0
  have Z4 := Lib.hid (fun w => z4_calls s (by omega) w)
  rw [numZ_in (s := s) (a := 4) (n := 2) (by omega)] at Z4
  have Z6 := Lib.hid (fun w => z6_calls s (by omega) w)
  rw [numZ_in (s := s) (a := 6) (n := 2) (by omega)] at Z6
  have Z18 := Lib.hid (fun w => z18_calls s (by omega) w)
  rw [numZ_in (s := s) (a := 18) (n := 4) (by omega)] at Z18
  rw [m0] at Z0
  rw [m4] at Z4
  rw [m6] at Z6
  rw [m28] at Z28
  have hc := numAtB_lt s 14 4
  unfold rdNum at *
  clear m0 m4 m6 m28
  generalize numAtB s 10 4 = N at *
  generalize numAtB s 8 2 = M at *
  generalize numAtB s 14 4 = C at *
  generalize numAtB s 22 4 = T at *
  generalize numAtB s 26 2 = a26 at *
  generalize numAtB s 18 4 = a18 at *
  generalize rdName s = nm at *
  generalize rdPk s = pk at *
  generalize rdLong s = lg at *
  subst hlong
  have f1 : ¬ (a26 : Int) < 0 := by omega
  have f2 : ¬ (a18 : Int) < 0 := by omega
  have e1 : IntKind.i64.wrap (30 + (a26 : Int)) = 30 + (a26 : Int) := by rw [IntKind.wrap_i64]; omega
  have e2 : IntKind.i64.wrap (30 + (a26 : Int) + (a18 : Int)) = 30 + (a26 : Int) + (a18 : Int) := by rw [IntKind.wrap_i64]; omega
  have f3 : ¬ (s.size : Int) < 30 + (a26 : Int) + (a18 : Int) := by omega
  have g1 : (0 : Int) ≤ 30 + (a26 : Int) := by omega
  have g2 : 30 + (a26 : Int) ≤ (s.size : Int) := by omega
  have g3 : (30 : Int) ≤ 30 + (a26 : Int) := by omega
  have g4 : (30 + (a26 : Int)).toNat = 30 + a26 := by omega
  have g5 : (0 : Int) ≤ 30 + (a26 : Int) + (a18 : Int) := by omega
  have g6 : 30 + (a26 : Int) + (a18 : Int) ≤ (s.size : Int) := by omega
  have g7 : 30 + (a26 : Int) ≤ 30 + (a26 : Int) + (a18 : Int) := by omega
  have g8 : (30 + (a26 : Int) + (a18 : Int)).toNat = 30 + a26 + a18 := by omega
  go_enter Tryz.func34, Tryz.ntmps34
  have BR := Blk.new w 42 zero8
  have OA := (On.refl w).alloc (.cells zero8 42)
  go_upto_region 1 with fail
  generalize hP : w.heap.size = p at *
  generalize w.alloc (.cells zero8 42) = wa at *
  go_wp2_with fail
  refine (Z26.out _).mono ?_
  rintro e w' ⟨rfl, hw⟩
  rw [hw]
  clear hw
  go_wp2_with fail
  refine (Z18.out _).mono ?_
  rintro e w' ⟨rfl, hw⟩
  rw [hw]
  clear hw
  go_wp2_with fail
  refine (Z0.out _).mono ?_
  rintro e w' ⟨rfl, hw⟩
  rw [hw]
  clear hw
  go_wp2_with fail
  refine (Z4.out _).mono ?_
  rintro e w' ⟨rfl, hw⟩
  rw [hw]
  clear hw
  go_wp2_with fail
  refine (Z6.out _).mono ?_
  rintro e w' ⟨rfl, hw⟩
  rw [hw]
  clear hw
  go_wp2_with fail
  refine (Z28.out _).mono ?_
  rintro e w' ⟨rfl, hw⟩
  rw [hw]
  clear hw
  go_upto_region 6 with fail
  go_cut [8] (fun v wx => ∃ g, v = .pointer (some ⟨g, 0, none⟩) ∧ wa.heap.size ≤ g ∧ Blk wx g 42 #[.string nm, .int .i64 (gy N), .int .i64 (gm N), .int .i64 (gd N), .int .i64 (gh N), .int .i64 (gi N), .int .i64 (gs N), .string ⟨#[]⟩] ∧ On wa wx)
  case first =>
    refine wp_region_held_drew (S := fun W => On wa W) (by kernel_rfl) (On.refl _).drew (fun hHeld => ?_)
    refine Tk.tk 0 ?_ rfl (.inl ⟨by rfl, ?_⟩) ?_
    rotate_left
    · intro w hSw; go_simp; first | done | with_reducible rfl
    try simp (maxSteps := 2000000) only [Act.put, Tk.s3]
    refine Tk.tk 1 ?_ rfl (.inl ⟨by rfl, ?_⟩) ?_
    rotate_left
    · intro w hSw; go_simp; first | done | with_reducible rfl
    try simp (maxSteps := 2000000) only [Act.put, Tk.s3]
    refine Tk.tk 2 ?_ rfl (.inl ⟨by rfl, ?_⟩) ?_
    rotate_left
    · intro w hSw; go_simp; first | done | with_reducible rfl
    try simp (maxSteps := 2000000) only [Act.put, Tk.s3]
    refine Tk.tk 3 ?_ rfl (.inl ⟨by rfl, ?_⟩) ?_
    rotate_left
    · intro w hSw; go_simp; first | done | with_reducible rfl
    try simp (maxSteps := 2000000) only [Act.put, Tk.s3]
    refine Tk.tk 4 ?_ rfl (.inl ⟨by rfl, ?_⟩) ?_
    rotate_left
    · intro w hSw; go_simp; first | done | with_reducible rfl
    try simp (maxSteps := 2000000) only [Act.put, Tk.s3]
    have O0 := (On.refl wa).drew
    generalize wa.drew = wd at *
    refine wpAnyH_ready (rs := [5, 8]) (by kernel_rfl) (by simp) ?_
    refine AllReadyH.cons (o := _) rfl (fun K hK => ?_) (AllReadyH.cons (o := _) rfl (fun K hK => ?_) AllReadyH.nil)
    · skip
      go_simp
      refine (Z10.out _).mono ?_
      rintro e w' ⟨rfl, hw⟩
      rw [hw]
      clear hw
      refine hK.out _ _ O0 (fun hHeld => ?_)
      clear hK K
      try simp (maxSteps := 2000000) only [Act.put, Tk.s3]
      refine wpAnyH_ready (rs := [6, 8]) (by kernel_rfl) (by simp) ?_
      refine AllReadyH.cons (o := _) rfl (fun K hK => ?_) (AllReadyH.cons (o := _) rfl (fun K hK => ?_) AllReadyH.nil)
      · skip
        go_simp
        refine (HG.out _).mono ?_
        rintro e wg ⟨rfl, Og⟩
        have O1 := O0.call Og
        refine hK.out _ _ O1 (fun hHeld => ?_)
        clear hK K
        try simp (maxSteps := 2000000) only [Act.put, Tk.s3]
        refine Tk.tk 7 ?_ rfl (.inl ⟨by rfl, ?_⟩) ?_
        rotate_left
        · intro w hSw; go_simp; first | done | with_reducible rfl
        try simp (maxSteps := 2000000) only [Act.put, Tk.s3]
        refine Tk.rd 8 rfl fun K hK => ?_
        go_simp
        have O2 := O1.alloc (.cells zero8 42)
        have BT := Blk.new wg 42 zero8
        obtain ⟨tb, htb⟩ : ∃ tb, tb = wg.heap.size := ⟨_, rfl⟩
        have hTw : wa.heap.size ≤ tb := by have := O1.size; omega
        rw [← htb] at BT ⊢
        generalize wg.alloc (.cells zero8 42) = wT at *
        clear htb
        refine hK.out _ _ O2 (fun hHeld => ?_)
        clear hK K
        try simp (maxSteps := 2000000) only [Act.put, Tk.s3]
        obtain ⟨t0, t1, t2, t3, t4, t5, t6, t7⟩ := cells8 BT
        have ft : ∀ i, wT.frozen? ⟨tb, i, none⟩ = false := BT.frozen
        refine Tk.rd 9 rfl fun K hK => ?_
        go_simp
        have BS := set8 BT (.string nm) (.int .i64 (gy N)) (.int .i64 (gm N)) (.int .i64 (gd N)) (.int .i64 (gh N)) (.int .i64 (gi N)) (.int .i64 (gs N)) (.string ⟨#[]⟩)
        have OS : On wa _ := ((((((((O2.set (p := ⟨tb, 0, none⟩) hTw (.string nm)).set (p := ⟨tb, 1, none⟩) hTw (.int .i64 (gy N))).set (p := ⟨tb, 2, none⟩) hTw (.int .i64 (gm N))).set (p := ⟨tb, 3, none⟩) hTw (.int .i64 (gd N))).set (p := ⟨tb, 4, none⟩) hTw (.int .i64 (gh N))).set (p := ⟨tb, 5, none⟩) hTw (.int .i64 (gi N))).set (p := ⟨tb, 6, none⟩) hTw (.int .i64 (gs N))).set (p := ⟨tb, 7, none⟩) hTw (.string ⟨#[]⟩))
        refine hK.out _ _ OS (fun hHeld => ?_)
        clear hK K
        try simp (maxSteps := 2000000) only [Act.put, Tk.s3]
        refine wpAnyH_done (by kernel_rfl) ?_ _
        go_wp2_with fail
        go_meet
        exact ⟨tb, rfl, hTw, BS, OS⟩
      · skip
        go_simp
        have O1 := O0.alloc (.cells zero8 42)
        have BT := Blk.new wd 42 zero8
        obtain ⟨tb, htb⟩ : ∃ tb, tb = wd.heap.size := ⟨_, rfl⟩
        have hTw : wa.heap.size ≤ tb := by have := O0.size; omega
        rw [← htb] at BT ⊢
        generalize wd.alloc (.cells zero8 42) = wT at *
        clear htb
        refine hK.out _ _ O1 (fun hHeld => ?_)
        clear hK K
        try simp (maxSteps := 2000000) only [Act.put, Tk.s3]
        refine Tk.rd 6 rfl fun K hK => ?_
        go_simp
        refine (HG.out _).mono ?_
        rintro e wg ⟨rfl, Og⟩
        have O2 := O1.call Og
        replace BT := BT.call Og.out
        refine hK.out _ _ O2 (fun hHeld => ?_)
        clear hK K
        try simp (maxSteps := 2000000) only [Act.put, Tk.s3]
        refine Tk.tk 7 ?_ rfl (.inl ⟨by rfl, ?_⟩) ?_
        rotate_left
        · intro w hSw; go_simp; first | done | with_reducible rfl
        try simp (maxSteps := 2000000) only [Act.put, Tk.s3]
        obtain ⟨t0, t1, t2, t3, t4, t5, t6, t7⟩ := cells8 BT
        have ft : ∀ i, wg.frozen? ⟨tb, i, none⟩ = false := BT.frozen
        refine Tk.rd 9 rfl fun K hK => ?_
        go_simp
        have BS := set8 BT (.string nm) (.int .i64 (gy N)) (.int .i64 (gm N)) (.int .i64 (gd N)) (.int .i64 (gh N)) (.int .i64 (gi N)) (.int .i64 (gs N)) (.string ⟨#[]⟩)
        have OS : On wa _ := ((((((((O2.set (p := ⟨tb, 0, none⟩) hTw (.string nm)).set (p := ⟨tb, 1, none⟩) hTw (.int .i64 (gy N))).set (p := ⟨tb, 2, none⟩) hTw (.int .i64 (gm N))).set (p := ⟨tb, 3, none⟩) hTw (.int .i64 (gd N))).set (p := ⟨tb, 4, none⟩) hTw (.int .i64 (gh N))).set (p := ⟨tb, 5, none⟩) hTw (.int .i64 (gi N))).set (p := ⟨tb, 6, none⟩) hTw (.int .i64 (gs N))).set (p := ⟨tb, 7, none⟩) hTw (.string ⟨#[]⟩))
        refine hK.out _ _ OS (fun hHeld => ?_)
        clear hK K
        try simp (maxSteps := 2000000) only [Act.put, Tk.s3]
        refine wpAnyH_done (by kernel_rfl) ?_ _
        go_wp2_with fail
        go_meet
        exact ⟨tb, rfl, hTw, BS, OS⟩
    · skip
      go_simp
      have O1 := O0.alloc (.cells zero8 42)
      have BT := Blk.new wd 42 zero8
      obtain ⟨tb, htb⟩ : ∃ tb, tb = wd.heap.size := ⟨_, rfl⟩
      have hTw : wa.heap.size ≤ tb := by have := O0.size; omega
      rw [← htb] at BT ⊢
      generalize wd.alloc (.cells zero8 42) = wT at *
      clear htb
      refine hK.out _ _ O1 (fun hHeld => ?_)
      clear hK K
      try simp (maxSteps := 2000000) only [Act.put, Tk.s3]
      refine Tk.rd 5 rfl fun K hK => ?_
      go_simp
      refine (Z10.out _).mono ?_
      rintro e w' ⟨rfl, hw⟩
      rw [hw]
      clear hw
      refine hK.out _ _ O1 (fun hHeld => ?_)
      clear hK K
      try simp (maxSteps := 2000000) only [Act.put, Tk.s3]
      refine Tk.rd 6 rfl fun K hK => ?_
      go_simp
      refine (HG.out _).mono ?_
      rintro e wg ⟨rfl, Og⟩
      have O2 := O1.call Og
      replace BT := BT.call Og.out
      refine hK.out _ _ O2 (fun hHeld => ?_)
      clear hK K
      try simp (maxSteps := 2000000) only [Act.put, Tk.s3]
      refine Tk.tk 7 ?_ rfl (.inl ⟨by rfl, ?_⟩) ?_
      rotate_left
      · intro w hSw; go_simp; first | done | with_reducible rfl
      try simp (maxSteps := 2000000) only [Act.put, Tk.s3]
      obtain ⟨t0, t1, t2, t3, t4, t5, t6, t7⟩ := cells8 BT
      have ft : ∀ i, wg.frozen? ⟨tb, i, none⟩ = false := BT.frozen
      refine Tk.rd 9 rfl fun K hK => ?_
      go_simp
      have BS := set8 BT (.string nm) (.int .i64 (gy N)) (.int .i64 (gm N)) (.int .i64 (gd N)) (.int .i64 (gh N)) (.int .i64 (gi N)) (.int .i64 (gs N)) (.string ⟨#[]⟩)
      have OS : On wa _ := ((((((((O2.set (p := ⟨tb, 0, none⟩) hTw (.string nm)).set (p := ⟨tb, 1, none⟩) hTw (.int .i64 (gy N))).set (p := ⟨tb, 2, none⟩) hTw (.int .i64 (gm N))).set (p := ⟨tb, 3, none⟩) hTw (.int .i64 (gd N))).set (p := ⟨tb, 4, none⟩) hTw (.int .i64 (gh N))).set (p := ⟨tb, 5, none⟩) hTw (.int .i64 (gi N))).set (p := ⟨tb, 6, none⟩) hTw (.int .i64 (gs N))).set (p := ⟨tb, 7, none⟩) hTw (.string ⟨#[]⟩))
      refine hK.out _ _ OS (fun hHeld => ?_)
      clear hK K
      try simp (maxSteps := 2000000) only [Act.put, Tk.s3]
      refine wpAnyH_done (by kernel_rfl) ?_ _
      go_wp2_with fail
      go_meet
      exact ⟨tb, rfl, hTw, BS, OS⟩
  case rest =>
    obtain ⟨g, rfl, hg, B6, O6⟩ := hcut
    obtain ⟨w6, rfl⟩ : ∃ w6, w6 = wc := ⟨_, rfl⟩
    go_upto_region 7 with fail
    go_cut [9, 10] (fun a b wx => ∃ tx ok, a = .string tx ∧ b = .bool ok ∧ On w6 wx ∧ TextIs M pk tx ok)
    case first =>
      refine wp_region_held_drew (S := fun W => On w6 W) (by kernel_rfl) (On.refl _).drew (fun hHeld => ?_)
      refine Tk.tk 0 ?_ rfl (.inl ⟨by rfl, ?_⟩) ?_
      rotate_left
      · intro w hSw; go_simp; first | done | with_reducible rfl
      try simp (maxSteps := 2000000) only [Act.put, Tk.s3]
      refine Tk.tk 2 ?_ rfl (.inl ⟨by rfl, ?_⟩) ?_
      rotate_left
      · intro w hSw; go_simp; first | done | with_reducible rfl
      try simp (maxSteps := 2000000) only [Act.put, Tk.s3]
      refine Tk.tk 3 ?_ rfl (.inl ⟨by rfl, ?_⟩) ?_
      rotate_left
      · intro w hSw; go_simp; first | done | with_reducible rfl
      try simp (maxSteps := 2000000) only [Act.put, Tk.s3]
      refine Tk.tk 4 ?_ rfl (.inl ⟨by rfl, ?_⟩) ?_
      rotate_left
      · intro w hSw; go_simp; first | done | with_reducible rfl
      try simp (maxSteps := 2000000) only [Act.put, Tk.s3]
      refine Tk.tk 5 ?_ rfl (.inl ⟨by rfl, ?_⟩) ?_
      rotate_left
      · intro w hSw; go_simp; first | done | with_reducible rfl
      try simp (maxSteps := 2000000) only [Act.put, Tk.s3]
      refine Tk.tk 6 ?_ rfl (.inl ⟨by rfl, ?_⟩) ?_
      rotate_left
      · intro w hSw; go_simp; first | done | with_reducible rfl
      try simp (maxSteps := 2000000) only [Act.put, Tk.s3]
      refine Tk.tk 7 ?_ rfl (.inl ⟨by rfl, ?_⟩) ?_
      rotate_left
      · intro w hSw; go_simp; first | done | with_reducible rfl
      try simp (maxSteps := 2000000) only [Act.put, Tk.s3]
      refine Tk.tk 8 ?_ rfl (.inl ⟨by rfl, ?_⟩) ?_
      rotate_left
      · intro w hSw; go_simp; first | done | with_reducible rfl
      try simp (maxSteps := 2000000) only [Act.put, Tk.s3]
      refine Tk.tk 9 ?_ rfl (.inl ⟨by rfl, ?_⟩) ?_
      rotate_left
      · intro w hSw; go_simp; first | done | with_reducible rfl
      try simp (maxSteps := 2000000) only [Act.put, Tk.s3]
      have O0 := (On.refl w6).drew
      generalize w6.drew = wd at *
      refine Tk.rd 1 rfl fun K hK => ?_
      go_simp
      refine (Z8.out _).mono ?_
      rintro e w' ⟨rfl, hw⟩
      rw [hw]
      clear hw
      refine hK.out _ _ O0 (fun hHeld => ?_)
      clear hK K
      try simp (maxSteps := 2000000) only [Act.put, Tk.s3]
      refine Tk.rd 10 rfl fun K hK => ?_
      go_simp
      refine (HTX.out _).mono ?_
      rintro e wt ⟨tx, b, rfl, Ot, ht⟩
      have O1 := O0.call Ot
      refine hK.out _ _ O1 (fun hHeld => ?_)
      clear hK K
      try simp (maxSteps := 2000000) only [Act.put, Tk.s3]
      refine Tk.tk 11 ?_ rfl (.inl ⟨by rfl, ?_⟩) ?_
      rotate_left
      · intro w hSw; go_simp; first | done | with_reducible rfl
      try simp (maxSteps := 2000000) only [Act.put, Tk.s3]
      refine Tk.tk 12 ?_ rfl (.inl ⟨by rfl, ?_⟩) ?_
      rotate_left
      · intro w hSw; go_simp; first | done | with_reducible rfl
      try simp (maxSteps := 2000000) only [Act.put, Tk.s3]
      refine Tk.tk 13 ?_ rfl (.inl ⟨by rfl, ?_⟩) ?_
      rotate_left
      · intro w hSw; go_simp; first | done | with_reducible rfl
      try simp (maxSteps := 2000000) only [Act.put, Tk.s3]
      refine Tk.rd 14 rfl fun K hK => ?_
      go_simp
      refine hK.out _ _ O1 (fun hHeld => ?_)
      clear hK K
      try simp (maxSteps := 2000000) only [Act.put, Tk.s3]
      refine Tk.rd 15 rfl fun K hK => ?_
      go_simp
      refine hK.out _ _ O1 (fun hHeld => ?_)
      clear hK K
      try simp (maxSteps := 2000000) only [Act.put, Tk.s3]
      refine wpAnyH_done (by kernel_rfl) ?_ _
      go_wp2_with fail
      go_meet
      exact ⟨tx, b, rfl, rfl, O1, ht⟩
    case rest =>
      obtain ⟨tx, b, rfl, rfl, O7, ht⟩ := hcut
      obtain ⟨w7, rfl⟩ : ∃ w7, w7 = wc := ⟨_, rfl⟩
      have B7 := O7.blk B6
      have O17 := O6.call O7
      obtain ⟨t0, t1, t2, t3, t4, t5, t6, t7⟩ := cells8 B7
      have fg : ∀ i, w7.frozen? ⟨g, i, none⟩ = false := B7.frozen
      go_upto_region 9 with fail
      have B8 := B7.set 7 (.string tx)
      simp only [List.setIfInBounds_toArray, List.set_cons_zero, List.set_cons_succ] at B8
      have O8 : On wa _ := O17.set (p := ⟨g, 7, none⟩) hg (.string tx)
      clear t0 t1 t2 t3 t4 t5 t6 t7 fg
      generalize w7.setCell ⟨g, 7, none⟩ (.string tx) = w8 at *
      have HSMb := HSM.out tx b ht
      go_cut [10] (fun v wx => v = .bool (b && (decide (C = crcOf tx) && decide (T = tx.size))) ∧ wx = w8)
      case first =>
        cases b with
        | false =>
          go_wp2_with fail
          go_meet
          exact ⟨rfl, rfl⟩
        | true =>
          have htz := HSMb rfl
          have hcr := crcC_lt tx
          have hcr2 : crcOf tx = crcC (tx.data.toList.map UInt8.toNat) := rfl
          rw [← hcr2] at hcr
          clear hcr2
          have HC1 := Lib.hid (HCR.out tx w8 (by omega))
          generalize crcOf tx = cr at *
          by_cases hC : C = cr
          · have hC2 : ((C : Int) == (cr : Int)) = true := by rw [beq_iff_eq]; omega
            have hC3 : (C == cr) = true := by rw [beq_iff_eq]; omega
            by_cases hT : T = tx.size
            · have hT2 : ((T : Int) == (tx.size : Int)) = true := by rw [beq_iff_eq]; omega
              have hT3 : (T == tx.size) = true := by rw [beq_iff_eq]; omega
              go_wp2_with fail
              refine (Z14.out _).mono ?_
              rintro e w' ⟨rfl, hw⟩
              rw [hw]
              clear hw
              go_wp2_with fail
              refine HC1.out.mono ?_
              rintro e w' ⟨rfl, hw⟩
              rw [hw]
              clear hw
              go_wp2_with fail
              refine (Z22.out _).mono ?_
              rintro e w' ⟨rfl, hw⟩
              rw [hw]
              clear hw
              go_wp2_with fail
              go_meet
              exact ⟨by simp [hC, hT], rfl⟩
            · have hT2 : ((T : Int) == (tx.size : Int)) = false := by rw [beq_eq_false_iff_ne]; omega
              have hT3 : (T == tx.size) = false := by rw [beq_eq_false_iff_ne]; omega
              go_wp2_with fail
              refine (Z14.out _).mono ?_
              rintro e w' ⟨rfl, hw⟩
              rw [hw]
              clear hw
              go_wp2_with fail
              refine HC1.out.mono ?_
              rintro e w' ⟨rfl, hw⟩
              rw [hw]
              clear hw
              go_wp2_with fail
              refine (Z22.out _).mono ?_
              rintro e w' ⟨rfl, hw⟩
              rw [hw]
              clear hw
              go_wp2_with fail
              go_meet
              exact ⟨by simp [hC, hT], rfl⟩
          · have hC2 : ((C : Int) == (cr : Int)) = false := by rw [beq_eq_false_iff_ne]; omega
            have hC3 : (C == cr) = false := by rw [beq_eq_false_iff_ne]; omega
            go_wp2_with fail
            refine (Z14.out _).mono ?_
            rintro e w' ⟨rfl, hw⟩
            rw [hw]
            clear hw
            go_wp2_with fail
            refine HC1.out.mono ?_
            rintro e w' ⟨rfl, hw⟩
            rw [hw]
            clear hw
            go_wp2_with fail
            go_meet
            exact ⟨by simp [hC], rfl⟩
      case rest =>
        obtain ⟨rfl, rfl⟩ := hcut
        have HRB := Lib.hid (fun ok h => HRD.out tx b ok ht h)
        have BR8 := O8.blk BR
        have hpg : p ≠ g := by have := BR.lt; omega
        have HB := Lib.hid (fun W (k : Kp [p] wc W) => cells8 (k.blk B8 (by simp; exact Ne.symm hpg)))
        have Ow8 := OA.call O8
        have hpw : w.heap.size ≤ p := by omega
        clear O7 O17 B6 B7 O6 OA BR HSM HTX HG HCR
        cases hk : (b && (decide (C = crcOf tx) && decide (T = tx.size))) with
        | false =>
          have HF : RowKit.Hid (RdIs s ⟨nm, gy N, gm N, gd N, gh N, gi N, gs N, tx⟩ ((30 + a26 + a18 : Nat) : Int) false) := Lib.hid (HRB.out false (by rw [← Bool.and_assoc, ← Bool.and_assoc, Bool.and_assoc b, hk]; rfl))
          clear hk HRB HEN
          go_upto_region 10 with fail
          refine wp_region_held_drew (S := fun W => Kp [p] wc W) (by kernel_rfl) (Kp.refl _ _).drew (fun hHeld => ?_)
          refine Tk.tk 0 ?_ rfl (.inl ⟨by rfl, ?_⟩) ?_
          rotate_left
          · intro w hSw; obtain ⟨q0, q1, q2, q3, q4, q5, q6, q7⟩ := HB.out w hSw; go_simp; first | done | with_reducible rfl
          try simp (maxSteps := 2000000) only [Act.put, Tk.s3]
          refine Tk.tk 1 ?_ rfl (.inl ⟨by rfl, ?_⟩) ?_
          rotate_left
          · intro w hSw; go_simp; first | done | with_reducible rfl
          try simp (maxSteps := 2000000) only [Act.put, Tk.s3]
          refine Tk.tk 2 ?_ rfl (.inl ⟨by rfl, ?_⟩) ?_
          rotate_left
          · intro w hSw; go_simp; first | done | with_reducible rfl
          try simp (maxSteps := 2000000) only [Act.put, Tk.s3]
          refine Tk.tk 3 ?_ rfl (.inl ⟨by rfl, ?_⟩) ?_
          rotate_left
          · intro w hSw; go_simp; first | done | with_reducible rfl
          try simp (maxSteps := 2000000) only [Act.put, Tk.s3]
          refine Tk.tk 4 ?_ rfl (.inl ⟨by rfl, ?_⟩) ?_
          rotate_left
          · intro w hSw; go_simp; first | done | with_reducible rfl
          try simp (maxSteps := 2000000) only [Act.put, Tk.s3]
          refine Tk.tk 5 ?_ rfl (.inl ⟨by rfl, ?_⟩) ?_
          rotate_left
          · intro w hSw; go_simp; first | done | with_reducible rfl
          try simp (maxSteps := 2000000) only [Act.put, Tk.s3]
          refine Tk.tk 6 ?_ rfl (.inl ⟨by rfl, ?_⟩) ?_
          rotate_left
          · intro w hSw; go_simp; first | done | with_reducible rfl
          try simp (maxSteps := 2000000) only [Act.put, Tk.s3]
          refine Tk.tk 7 undef rfl (.inr ⟨by kernel_rfl, rfl⟩) ?_
          try simp (maxSteps := 2000000) only [Act.put, Tk.s3]
          refine Tk.tk 8 undef rfl (.inr ⟨by kernel_rfl, rfl⟩) ?_
          try simp (maxSteps := 2000000) only [Act.put, Tk.s3]
          refine Tk.tk 9 ?_ rfl (.inl ⟨by rfl, ?_⟩) ?_
          rotate_left
          · intro w hSw; go_simp; first | done | with_reducible rfl
          try simp (maxSteps := 2000000) only [Act.put, Tk.s3]
          have K0 : Kp [p] wc _ := (Kp.refl _ wc).drew
          have B0 := BR8.drew
          have P0 := Ow8.drew
          generalize wc.drew = wd at *
          obtain ⟨r0, r1, r2, r3, r4, r5, r6, r7⟩ := cells8 B0
          have fr : ∀ i, wd.frozen? ⟨p, i, none⟩ = false := B0.frozen
          refine Tk.rd 10 rfl fun K hK => ?_
          go_simp
          have BF := set8 B0 (.string nm) (.int .i64 (gy N)) (.int .i64 (gm N)) (.int .i64 (gd N)) (.int .i64 (gh N)) (.int .i64 (gi N)) (.int .i64 (gs N)) (.string tx)
          have KF : Kp [p] wc _ := ((((((((K0.set (p := ⟨p, 0, none⟩) (.inl (by simp)) (.string nm)).set (p := ⟨p, 1, none⟩) (.inl (by simp)) (.int .i64 (gy N))).set (p := ⟨p, 2, none⟩) (.inl (by simp)) (.int .i64 (gm N))).set (p := ⟨p, 3, none⟩) (.inl (by simp)) (.int .i64 (gd N))).set (p := ⟨p, 4, none⟩) (.inl (by simp)) (.int .i64 (gh N))).set (p := ⟨p, 5, none⟩) (.inl (by simp)) (.int .i64 (gi N))).set (p := ⟨p, 6, none⟩) (.inl (by simp)) (.int .i64 (gs N))).set (p := ⟨p, 7, none⟩) (.inl (by simp)) (.string tx))
          have OF : On w _ := ((((((((P0.set (p := ⟨p, 0, none⟩) hpw (.string nm)).set (p := ⟨p, 1, none⟩) hpw (.int .i64 (gy N))).set (p := ⟨p, 2, none⟩) hpw (.int .i64 (gm N))).set (p := ⟨p, 3, none⟩) hpw (.int .i64 (gd N))).set (p := ⟨p, 4, none⟩) hpw (.int .i64 (gh N))).set (p := ⟨p, 5, none⟩) hpw (.int .i64 (gi N))).set (p := ⟨p, 6, none⟩) hpw (.int .i64 (gs N))).set (p := ⟨p, 7, none⟩) hpw (.string tx))
          refine hK.out _ _ KF (fun hHeld => ?_)
          clear hK K
          try simp (maxSteps := 2000000) only [Act.put, Tk.s3]
          refine Tk.rd 11 rfl fun K hK => ?_
          go_simp
          refine hK.out _ _ KF (fun hHeld => ?_)
          clear hK K
          try simp (maxSteps := 2000000) only [Act.put, Tk.s3]
          refine Tk.rd 12 rfl fun K hK => ?_
          go_simp
          refine hK.out _ _ KF (fun hHeld => ?_)
          clear hK K
          try simp (maxSteps := 2000000) only [Act.put, Tk.s3]
          refine wpAnyH_done (by kernel_rfl) ?_ _
          go_wp2_with fail
          refine bodyPost_ret (v := .tuple #[.agg #[.string nm, .int .i64 (gy N), .int .i64 (gm N), .int .i64 (gd N), .int .i64 (gh N), .int .i64 (gi N), .int .i64 (gs N), .string tx], .int .i64 ((30 + a26 + a18 : Nat) : Int), .bool false]) (by exact res_ctt (fn := Tryz.f34) (p := 2) (u := 3) (v := 4) rfl BF rfl Tryz.underlying42 rfl (by kernel_rfl)) rfl ⟨_, _, _, rfl, OF, HF.out⟩
        | true =>
          have htz : tx.size ≤ maxLen := by
            have hb : b = true := by cases b with
              | true => rfl
              | false => cases hk
            have := HSMb hb
            unfold maxLen
            omega
          have HE := Lib.hid (fun w => HEN.out tx w htz)
          have HF := Lib.hid (HRB.out (entryOk nm (gy N) (gm N) (gd N) (gh N) (gi N) (gs N) tx) (by rw [← Bool.and_assoc, ← Bool.and_assoc, Bool.and_assoc b, hk]; rfl))
          clear hk HRB HEN htz HSMb
          generalize entryOk nm (gy N) (gm N) (gd N) (gh N) (gi N) (gs N) tx = eo at *
          go_upto_region 10 with fail
          refine wp_region_held_drew (S := fun W => Kp [p] wc W) (by kernel_rfl) (Kp.refl _ _).drew (fun hHeld => ?_)
          refine Tk.tk 0 ?_ rfl (.inl ⟨by rfl, ?_⟩) ?_
          rotate_left
          · intro w hSw; obtain ⟨q0, q1, q2, q3, q4, q5, q6, q7⟩ := HB.out w hSw; go_simp; first | done | with_reducible rfl
          try simp (maxSteps := 2000000) only [Act.put, Tk.s3]
          refine Tk.tk 1 ?_ rfl (.inl ⟨by rfl, ?_⟩) ?_
          rotate_left
          · intro w hSw; go_simp; first | done | with_reducible rfl
          try simp (maxSteps := 2000000) only [Act.put, Tk.s3]
          refine Tk.tk 2 ?_ rfl (.inl ⟨by rfl, ?_⟩) ?_
          rotate_left
          · intro w hSw; go_simp; first | done | with_reducible rfl
          try simp (maxSteps := 2000000) only [Act.put, Tk.s3]
          refine Tk.tk 3 ?_ rfl (.inl ⟨by rfl, ?_⟩) ?_
          rotate_left
          · intro w hSw; go_simp; first | done | with_reducible rfl
          try simp (maxSteps := 2000000) only [Act.put, Tk.s3]
          refine Tk.tk 4 ?_ rfl (.inl ⟨by rfl, ?_⟩) ?_
          rotate_left
          · intro w hSw; go_simp; first | done | with_reducible rfl
          try simp (maxSteps := 2000000) only [Act.put, Tk.s3]
          refine Tk.tk 5 ?_ rfl (.inl ⟨by rfl, ?_⟩) ?_
          rotate_left
          · intro w hSw; go_simp; first | done | with_reducible rfl
          try simp (maxSteps := 2000000) only [Act.put, Tk.s3]
          refine Tk.tk 6 ?_ rfl (.inl ⟨by rfl, ?_⟩) ?_
          rotate_left
          · intro w hSw; go_simp; first | done | with_reducible rfl
          try simp (maxSteps := 2000000) only [Act.put, Tk.s3]
          refine Tk.tk 7 ?_ rfl (.inl ⟨by kernel_rfl, ?_⟩) ?_
          rotate_left
          · intro w hSw; obtain ⟨q0, q1, q2, q3, q4, q5, q6, q7⟩ := HB.out w hSw; go_simp; first | done | with_reducible rfl
          try simp (maxSteps := 2000000) only [Act.put, Tk.s3]
          have K0 : Kp [p] wc _ := (Kp.refl _ wc).drew
          have B0 := BR8.drew
          have P0 := Ow8.drew
          generalize wc.drew = wd at *
          obtain ⟨r0, r1, r2, r3, r4, r5, r6, r7⟩ := cells8 B0
          have fr : ∀ i, wd.frozen? ⟨p, i, none⟩ = false := B0.frozen
          refine Tk.rd 8 rfl fun K hK => ?_
          go_simp
          refine (HE.out _).mono ?_
          rintro e we ⟨rfl, Oe⟩
          have K1 := K0.then (Kp.of [p] Oe)
          have B1 := B0.call Oe.out
          have P1 := P0.call Oe
          refine hK.out _ _ K1 (fun hHeld => ?_)
          clear hK K
          try simp (maxSteps := 2000000) only [Act.put, Tk.s3]
          clear r0 r1 r2 r3 r4 r5 r6 r7 fr
          refine Tk.tk 9 ?_ rfl (.inl ⟨by rfl, ?_⟩) ?_
          rotate_left
          · intro w hSw; go_simp; first | done | with_reducible rfl
          try simp (maxSteps := 2000000) only [Act.put, Tk.s3]
          obtain ⟨r0, r1, r2, r3, r4, r5, r6, r7⟩ := cells8 B1
          have fr : ∀ i, we.frozen? ⟨p, i, none⟩ = false := B1.frozen
          refine Tk.rd 10 rfl fun K hK => ?_
          go_simp
          have BF := set8 B1 (.string nm) (.int .i64 (gy N)) (.int .i64 (gm N)) (.int .i64 (gd N)) (.int .i64 (gh N)) (.int .i64 (gi N)) (.int .i64 (gs N)) (.string tx)
          have KF : Kp [p] wc _ := ((((((((K1.set (p := ⟨p, 0, none⟩) (.inl (by simp)) (.string nm)).set (p := ⟨p, 1, none⟩) (.inl (by simp)) (.int .i64 (gy N))).set (p := ⟨p, 2, none⟩) (.inl (by simp)) (.int .i64 (gm N))).set (p := ⟨p, 3, none⟩) (.inl (by simp)) (.int .i64 (gd N))).set (p := ⟨p, 4, none⟩) (.inl (by simp)) (.int .i64 (gh N))).set (p := ⟨p, 5, none⟩) (.inl (by simp)) (.int .i64 (gi N))).set (p := ⟨p, 6, none⟩) (.inl (by simp)) (.int .i64 (gs N))).set (p := ⟨p, 7, none⟩) (.inl (by simp)) (.string tx))
          have OF : On w _ := ((((((((P1.set (p := ⟨p, 0, none⟩) hpw (.string nm)).set (p := ⟨p, 1, none⟩) hpw (.int .i64 (gy N))).set (p := ⟨p, 2, none⟩) hpw (.int .i64 (gm N))).set (p := ⟨p, 3, none⟩) hpw (.int .i64 (gd N))).set (p := ⟨p, 4, none⟩) hpw (.int .i64 (gh N))).set (p := ⟨p, 5, none⟩) hpw (.int .i64 (gi N))).set (p := ⟨p, 6, none⟩) hpw (.int .i64 (gs N))).set (p := ⟨p, 7, none⟩) hpw (.string tx))
          refine hK.out _ _ KF (fun hHeld => ?_)
          clear hK K
          try simp (maxSteps := 2000000) only [Act.put, Tk.s3]
          refine Tk.rd 11 rfl fun K hK => ?_
          go_simp
          refine hK.out _ _ KF (fun hHeld => ?_)
          clear hK K
          try simp (maxSteps := 2000000) only [Act.put, Tk.s3]
          refine Tk.rd 12 rfl fun K hK => ?_
          go_simp
          refine hK.out _ _ KF (fun hHeld => ?_)
          clear hK K
          try simp (maxSteps := 2000000) only [Act.put, Tk.s3]
          refine wpAnyH_done (by kernel_rfl) ?_ _
          go_wp2_with fail
          refine bodyPost_ret (v := .tuple #[.agg #[.string nm, .int .i64 (gy N), .int .i64 (gm N), .int .i64 (gd N), .int .i64 (gh N), .int .i64 (gi N), .int .i64 (gs N), .string tx], .int .i64 ((30 + a26 + a18 : Nat) : Int), .bool eo]) (by exact res_ctt (fn := Tryz.f34) (p := 2) (u := 3) (v := 4) rfl BF rfl Tryz.underlying42 rfl (by kernel_rfl)) rfl ⟨_, _, _, rfl, OF, HF.out⟩
end Go.Proofs.YtnadjlejlohgiaaGreatDoor.Lc

