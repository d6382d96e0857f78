/- Own texts joined: Ho, Hz. -/
import Derived.BigRegion
import Derived.Test.YtnadjlejlohgiaaGreatDoorS22
import Derived.Test.YtnadjlejlohgiaaGreatDoorS27
import Derived.Test.YtnadjlejlohgiaaGreatDoorS32
import Derived.Test.YtnadjlejlohgiaaGreatDoorS40
/- What OwnPut of the program does. Conditions: the variable order as it is laid. -/
namespace Go.Proofs.YtnadjlejlohgiaaGreatDoor.Wi
open Go.RowKit Go.Proofs.YtnadjlejlohgiaaGreatDoor.Mem Go.Proofs.YtnadjlejlohgiaaGreatDoor.Bt Go.Proofs.YtnadjlejlohgiaaGreatDoor.Cd Go.Proofs.YtnadjlejlohgiaaGreatDoor.De Go.Proofs.YtnadjlejlohgiaaGreatDoor.En Go.Proofs.YtnadjlejlohgiaaGreatDoor.Lz Go.Proofs.YtnadjlejlohgiaaGreatDoor.Hf
set_option linter.unusedVariables false
set_option linter.unusedSimpArgs false
/-- make([]int, n) at a step of a region that draws its order. -/
theorem step_ints {ops : Array Oper} {o : Oper} {a : Act} {K : Act → World → Prop} {Q : Exit → Act → World → Prop} {E : Prop} {W : World} (hg : o.guard = none) (l c : Operand) (hop : o.op = Op.makeSlice 98 l c)
    (L C : Int) (n : Nat) (hl : a.eval l = .int .i64 L) (hc : a.eval c = .int .i64 C) (hL : L = (n : Int)) (hC : C = (n : Int)) (hn : n ≤ 1000000)
    (h : ∀ w1, Nums w1 W.heap.size (.slice (some ⟨W.heap.size, 0, none⟩) n n) (List.replicate n 0) → On W w1 → W.heap.size < w1.heap.size → K (a.put o.dst (.slice (some ⟨W.heap.size, 0, none⟩) n n)) w1) :
    if Region.wanted o (yielded ops a.tmps) = true then Oper.wp Tryz.prog o a W K Q else E := by
  have hw : Region.wanted o (yielded ops a.tmps) = true := by simp [Region.wanted, hg]
  rw [if_pos hw]
  obtain ⟨i0, hi, hz0, hz1, hz2⟩ := info_parts i64info
  obtain ⟨w1, hrun, hown, hgr⟩ := run_make_full (P := Tryz.prog) W 0 98 3 i0 (.int .i64 0) 1 Tryz.underlying98 hi hz0 hz1 .i64 .i64 n (by rw [hz2]; omega) (by unfold maxLen; omega) (Nat.zero_le _)
  have e : (madeCells (Value.int .i64 0).cells (n * 1)).toList = i64s (List.replicate n 0) := by
    rw [show (Value.int .i64 0).cells = #[.int .i64 0] from rfl, toList_madeCells_one, Nat.mul_one]
    unfold i64s; rw [List.map_replicate]; rfl
  rw [e] at hown
  have hlt : W.heap.size < w1.heap.size := by
    rcases hown.2 with ⟨h0, _⟩ | ⟨g, c, cur, hv, _, hh, _⟩
    · cases h0
    · cases hv
      rcases Nat.lt_or_ge W.heap.size w1.heap.size with hl | hl
      · exact hl
      · rw [Array.getElem?_eq_none hl] at hh; cases hh
  subst hL
  subst hC
  unfold Oper.wp
  simp only [execOp, hop, hl, hc, hrun, Sem.run_bind, Sem.run_pure, Result.andThen_ok]
  exact h w1 ⟨by rw [List.length_replicate]; exact hown, fun g hg => by simp [Value.ownBlock] at hg; exact hg.symm⟩ ((Kp.grown hgr (S := []) (fun g h => by cases h)).toOn) hlt
theorem used_le (l : List Nat) : used l ≤ l.length := by unfold used; exact List.length_filter_le _ _
theorem symsB_nil (l : List Tok) (k : Nat) (h : k < l.length) : (symsB (l.take (k + 1)) = [] ↔ symsB (l.take k) = [] ∧ l[k].long = 0) := by
  rw [List.take_succ_eq_append_getElem h]
  unfold symsB
  rw [List.filter_append, List.map_append, List.append_eq_nil_iff, List.filter_cons]
  by_cases h0 : l[k].long = 0
  · rw [if_neg (by simpa using h0)]; simp [h0]
  · rw [if_pos (by simpa using h0)]; simp [h0]
theorem cntB_some {l : List Tok} (h : symsB l ≠ []) : cntB l = cntBTo l l.length := by unfold cntB cntBTo; rw [if_neg h, List.take_length]
theorem cntB_none {l : List Tok} (h : symsB l = []) : cntB l = (cntBTo l l.length).set 0 1 := by
  unfold cntB cntBTo; rw [if_pos h, List.take_length, h]; rfl
set_option maxRecDepth 100000 in
set_option maxHeartbeats 4000000 in
theorem iownput_calls (s : ByteArray) (x : Addr) (w : World) (hO : Ord w x) :
    Calls Tryz.prog 78 #[.string s] w (Tells w (.string (ownB s))) := by
  by_cases h : s.size ≤ 300
  rotate_left
  · have h' : (300 : Int) < s.size := by omega
    have HR : RowKit.Hid (ownB s = ⟨#[]⟩) := Lib.hid (by unfold ownB; rw [if_neg h])
    go_enter Tryz.func78, Tryz.ntmps78
    go_wp2_with fail
    go_ret
    exact ⟨by rw [HR.out]; rfl, On.refl _⟩
  have h' : (s.size : Int) ≤ 300 := by omega
  have htx := text_chars h
  have htl := tokens_size h
  have HTO := Lib.hid (show toksOf s = tokens (chars s) from by unfold toksOf; rw [if_pos h])
  have HR : RowKit.Hid (ownB s = strB (pack (ownBits (chars s)))) := Lib.hid (by unfold ownB; rw [if_pos h]; rfl)
  have HOB : RowKit.Hid (ownBits (chars s) = bitsOf 1 1 ++ bitsOf 2 2 ++ headBits (ownLit (tokens (chars s))) (ownDist (tokens (chars s))) ++ encToks (ownLit (tokens (chars s))) (ownDist (tokens (chars s))) (tokens (chars s))) := Lib.hid rfl
  have HTX := Lib.hid htx
  clear htx
  go_enter Tryz.func78, Tryz.ntmps78
  go_wp2_with fail
  refine (itoks_calls s w).mono ?_
  rintro e w1 ⟨q, cq, rfl, Rq, hq1, hq2, hq3, O1⟩
  rw [HTO.out] at Rq hq1 ⊢
  obtain ⟨l, hl⟩ : ∃ l, tokens (chars s) = l := ⟨_, rfl⟩
  rw [hl] at HTX HOB Rq hq1 htl ⊢
  have HF := Lib.hid (fine_of (lit := []) (dist := []) HTX.out)
  have H2 := Lib.hid (own_has HTX.out)
  have HFB := Lib.hid (fitB HTX.out)
  have HDL := Lib.hid (ownDist_length HTX.out)
  have HBP := Lib.hid (cntB_pos HTX.out)
  have HOW := Lib.hid (hO.on O1)
  obtain ⟨n, hn⟩ : ∃ n, l.length = n := ⟨_, rfl⟩
  rw [hn] at hq1 htl ⊢
  have HNN := Lib.hid hn
  clear hn hl hO
  have hql := Rq.lt
  go_wp2_with fail
  refine wp_region_held_drew (S := fun W => Kp [] w1 W) (by kernel_rfl) (Kp.refl _ _).drew (fun hHeld => ?_)
  have OwD := (On.refl w1).drew
  refine wpAnyH_strong (S' := fun W => Kp [] w1.drew W) (fun W h => Kp.then (Kp.of [] OwD) h) ?_
  have hHeldN : (fun W => Kp [] w1.drew W) w1.drew := Kp.refl _ _
  generalize w1.drew = wD at *
  refine wpAnyH_ready (rs := [0, 1]) (by kernel_rfl) (by simp) ?_
  refine AllReadyH.cons (o := _) rfl (fun K hK => ?fst) (AllReadyH.cons (o := _) rfl (fun K hK => ?snd) AllReadyH.nil)
  case' fst =>
    refine step_ints rfl _ _ rfl _ _ 286 rfl rfl rfl rfl (by omega) ?_
    intro wa NA0 Oa hlta
    show K (Act.put _ (some 27) _) wa
    refine hK.out _ _ (Kp.of [] Oa) (fun hHeld => ?_)
    clear hK K
    try simp only [Act.put, List.setIfInBounds_toArray, List.set_cons_zero, List.set_cons_succ]
    refine wpAnyH_take (i := 2) (oi := _) (v := ?_) rfl (by kernel_rfl) (by kernel_rfl) (by kernel_rfl) (fun _ _ _ h => h) (Or.inl ⟨by rfl, ?_⟩) (by assumption) ?_
    rotate_left
    · intro w hSw
      go_simp
      first | done | with_reducible rfl
    try simp only [Act.put, List.setIfInBounds_toArray, List.set_cons_zero, List.set_cons_succ]
    refine wpAnyH_ready (rs := [1]) (by kernel_rfl) (by simp) ?_
    refine AllReadyH.cons (o := _) rfl (fun K hK => ?_) AllReadyH.nil
    refine step_ints rfl _ _ rfl _ _ 30 rfl rfl rfl rfl (by omega) ?_
    intro wM NB Ob hltb
    show K (Act.put _ (some 28) _) wM
    refine hK.out _ _ (Kp.of [] (Oa.call Ob)) (fun hHeld => ?_)
    clear hK K
    try simp only [Act.put, List.setIfInBounds_toArray, List.set_cons_zero, List.set_cons_succ]
    have NA := NA0.on Ob
    have OM := OwD.call (Oa.call Ob)
    have hz0 := OwD.size
    have hza := Oa.size
    obtain ⟨A, hA⟩ : ∃ A, wD.heap.size = A := ⟨_, rfl⟩
    obtain ⟨B, hB⟩ : ∃ B, wa.heap.size = B := ⟨_, rfl⟩
    rw [hA] at NA ⊢
    rw [hB] at NB ⊢
    have hAB : A ≠ B := by omega
    have hA1 : w1.heap.size ≤ A := by omega
    have hB1 : w1.heap.size ≤ B := by omega
    clear hA hB Oa Ob NA0 hlta hltb hz0 hza
  case' snd =>
    refine step_ints rfl _ _ rfl _ _ 30 rfl rfl rfl rfl (by omega) ?_
    intro wa NB0 Oa hlta
    show K (Act.put _ (some 28) _) wa
    refine hK.out _ _ (Kp.of [] Oa) (fun hHeld => ?_)
    clear hK K
    try simp only [Act.put, List.setIfInBounds_toArray, List.set_cons_zero, List.set_cons_succ]
    refine wpAnyH_ready (rs := [0]) (by kernel_rfl) (by simp) ?_
    refine AllReadyH.cons (o := _) rfl (fun K hK => ?_) AllReadyH.nil
    refine step_ints rfl _ _ rfl _ _ 286 rfl rfl rfl rfl (by omega) ?_
    intro wM NA Ob hltb
    show K (Act.put _ (some 27) _) wM
    refine hK.out _ _ (Kp.of [] (Oa.call Ob)) (fun hHeld => ?_)
    clear hK K
    try simp only [Act.put, List.setIfInBounds_toArray, List.set_cons_zero, List.set_cons_succ]
    refine wpAnyH_take (i := 2) (oi := _) (v := ?_) rfl (by kernel_rfl) (by kernel_rfl) (by kernel_rfl) (fun _ _ _ h => h) (Or.inl ⟨by rfl, ?_⟩) (by assumption) ?_
    rotate_left
    · intro w hSw
      go_simp
      first | done | with_reducible rfl
    try simp only [Act.put, List.setIfInBounds_toArray, List.set_cons_zero, List.set_cons_succ]
    have NB := NB0.on Ob
    have OM := OwD.call (Oa.call Ob)
    have hz0 := OwD.size
    have hza := Oa.size
    obtain ⟨B, hB⟩ : ∃ B, wD.heap.size = B := ⟨_, rfl⟩
    obtain ⟨A, hA⟩ : ∃ A, wa.heap.size = A := ⟨_, rfl⟩
    rw [hB] at NB ⊢
    rw [hA] at NA ⊢
    have hAB : A ≠ B := by omega
    have hA1 : w1.heap.size ≤ A := by omega
    have hB1 : w1.heap.size ≤ B := by omega
    clear hA hB Oa Ob NB0 hlta hltb hz0 hza
  all_goals
    refine wpAnyH_take (i := 3) (oi := _) (v := ?_) rfl (by kernel_rfl) (by kernel_rfl) (by kernel_rfl) (fun _ _ _ h => h) (Or.inl ⟨by rfl, ?_⟩) (by assumption) ?_
    rotate_left
    · intro w hSw
      go_simp
      first | done | with_reducible rfl
    try simp only [Act.put, List.setIfInBounds_toArray, List.set_cons_zero, List.set_cons_succ]
    refine wpAnyH_done (by kernel_rfl) ?_ _
  all_goals
    have ca0 := NA.row.1.cell (i64s_get (show 256 < (List.replicate 286 0).length by rw [List.length_replicate]; omega))
    have fa0 : wM.frozen? ⟨A, 256, none⟩ = false := NA.row.1.frozen _
    have NAs := NA.set 256 1
    rw [← cntLTo_zero l] at NAs
    have K0 : Kp [A, B] wM (wM.setCell ⟨A, 256, none⟩ (.int .i64 ((1 : Nat) : Int))) := (Kp.refl _ _).set (.inl (by simp)) _
    have NBs := NB.kp ((Kp.refl [A] wM).set (p := ⟨A, 256, none⟩) (.inl (by simp)) (.int .i64 ((1 : Nat) : Int))) (by simpa using Ne.symm hAB)
    rw [← cntBTo_zero l] at NBs
    have Rq6 := Rq.on OM
    clear NA NB
    go_wp2_with fail
    go_loopw [6, 33] (fun z x wr => ∃ (k : Nat) (bb : Bool), x = .int .i64 (k : Int) ∧ k ≤ n ∧ z = .bool bb ∧ RowKit.Hid (bb = true ↔ symsB (l.take k) = []) ∧ Nums wr A (.slice (some ⟨A, 0, none⟩) 286 286) (cntLTo l k) ∧ Nums wr B (.slice (some ⟨B, 0, none⟩) 30 30) (cntBTo l k) ∧ Kp [A, B] wM wr) (fun _ x _ => n - (intOf x).toNat)
    case atStart => exact ⟨0, true, rfl, by omega, rfl, Lib.hid (by rw [List.take_zero]; exact ⟨fun _ => rfl, fun _ => rfl⟩), NAs, NBs, K0⟩
    case round =>
      obtain ⟨k, bb, rfl, hk, rfl, HBB, NA, NB, K⟩ := hrel
      clear NAs NBs K0 ca0 fa0
      by_cases hlt : k < n
      · have hkl : k < l.length := by rw [HNN.out]; exact hlt
        obtain ⟨t0, t1, t2⟩ := tok_get hkl
        have Ft := HF.out _ (List.getElem_mem hkl)
        have R := K.row Rq6 (by simp; omega)
        have c0 := R.cell t0
        have c1 := R.cell t1
        have c2 := R.cell t2
        have hLs := cntLTo_succ hkl
        have hBl := cntBTo_long hkl
        have hBb := cntBTo_byte hkl
        have hsn := symsB_nil l k hkl
        have hsl := symL_lt Ft
        have hlL := cntLTo_length l k
        have hlB := cntBTo_length l k
        have hbL := cntLTo_le l k
        have hbB := cntBTo_le l k
        generalize l[k] = t at *
        obtain ⟨tb, tl, tk⟩ := t
        simp only at c0 c1 c2 hLs hBl hBb hsn
        have HSN := Lib.hid hsn
        clear t0 t1 t2 hsn
        have fA : ∀ i, wr.frozen? ⟨A, i, none⟩ = false := NA.row.1.frozen
        have fB : ∀ i, wr.frozen? ⟨B, i, none⟩ = false := NB.row.1.frozen
        have hk2 : (k : Int) < n := by omega
        have OT := (On.refl wr).alloc (.cells #[.int .i64 tb, .int .i64 tl, .int .i64 tk] 117)
        have BT := Blk.new wr 117 #[.int .i64 tb, .int .i64 tl, .int .i64 tk]
        have KT := K.then (Kp.of [A, B] OT)
        have hAl := NA.row.1.lt
        have hBl2 := NB.row.1.lt
        by_cases h0 : tl = 0
        · subst h0
          have hbyte := Ft.byte rfl
          obtain ⟨b, hb⟩ := Int.eq_ofNat_of_zero_le hbyte.1
          simp only at hb
          subst hb
          have hsy : symL ⟨(b : Int), 0, tk⟩ = b := by unfold symL; rw [if_pos rfl]; rfl
          have hB1 := hBb rfl
          clear hBb
          simp only [Int.ofNat_eq_natCast] at *
          rw [hsy] at hLs hsl
          have NAT := NA.on OT
          have NBT := NB.on OT
          have d0 := NAT.row.1.cell (i64s_get (show b < (cntLTo l k).length by rw [hlL]; exact hsl))
          have hv := Cd.getD_le hbL b
          generalize (cntLTo l k).getD b 0 = v at *
          have HLs := Lib.hid hLs
          have HB1 := Lib.hid hB1
          have hb286 : (b : Int) < 286 := by omega
          have hb0 : (0 : Int) ≤ (b : Int) := by omega
          have HBB2 : RowKit.Hid (bb = true ↔ symsB (l.take (k + 1)) = []) := Lib.hid (by rw [HBB.out, HSN.out]; simp)
          clear hsy hLs hB1 hBl hlL hlB hbL hbB hsl Ft hbyte
          go_upto_region 10 with fail
          generalize hT : wr.heap.size = T at *
          generalize wr.alloc (.cells #[.int .i64 (b : Int), .int .i64 0, .int .i64 tk] 117) = wT at *
          have q0 : wT.cell? ⟨T, 0, none⟩ = some (.int .i64 (b : Int)) := (BT.cell 0).trans rfl
          have q1 : wT.cell? ⟨T, 1, none⟩ = some (.int .i64 0) := (BT.cell 1).trans rfl
          have fT : wT.frozen? ⟨A, b, none⟩ = false := NAT.row.1.frozen _
          have S := NAT.set b (v + 1)
          rw [← HLs.out] at S
          have NB2 := NBT.kp ((Kp.refl [A] _).set (p := ⟨A, b, none⟩) (.inl (by simp)) (.int .i64 ((v + 1 : Nat) : Int))) (by simpa using Ne.symm hAB)
          rw [← HB1.out] at NB2
          have K2 := KT.set (p := ⟨A, b, none⟩) (.inl (by simp)) (.int .i64 ((v + 1 : Nat) : Int))
          rw [show ((v + 1 : Nat) : Int) = (v : Int) + 1 from by omega] at S NB2 K2
          clear hT c0 c1 c2
          go_wp2_with fail
          go_roundw
          case rel => exact ⟨k + 1, bb, by go_num, by omega, rfl, HBB2, S, NB2, K2⟩
          case measure => simp [intOf]; omega
        · obtain ⟨l3, l60, k1, k250⟩ := Ft.long h0
          simp only at l3 l60 k1 k250
          obtain ⟨tln, rfl⟩ := Int.eq_ofNat_of_zero_le (show 0 ≤ tl by omega)
          obtain ⟨tkn, rfl⟩ := Int.eq_ofNat_of_zero_le (show 0 ≤ tk by omega)
          have hsy : symL ⟨tb, (tln : Int), (tkn : Int)⟩ = 257 + lad longBase tln := by unfold symL; rw [if_neg (by simp; omega)]; rfl
          have hB1 := hBl h0
          clear hBb
          simp only [Int.ofNat_eq_natCast, Int.toNat_natCast] at *
          have h0' : ((tln : Int) == 0) = false := by simp; omega
          rw [hsy] at hLs hsl
          obtain ⟨a1, a2, a3, a4⟩ := lad_long tln (by omega) (by omega)
          obtain ⟨b1, b2, b3, b4⟩ := lad_back tkn (by omega) (by omega)
          have hfL := fun r1 q1 r2 q2 W R1 h => find_calls longBase r1 28 q1 tln (.slice (some ⟨r2, 0, none⟩) 28 q2) W R1 (by decide) (by omega) h (by omega) (by show 3 ≤ tln; omega) long_rising (by omega) ⟨r2, q2, rfl⟩
          have hfB := fun r1 q1 r2 q2 W R1 h => find_calls backBase r1 30 q1 tkn (.slice (some ⟨r2, 0, none⟩) 30 q2) W R1 (by decide) (by omega) h (by omega) (by show 1 ≤ tkn; omega) back_rising (by omega) ⟨r2, q2, rfl⟩
          have hcL : ∀ W, Nums W A (.slice (some ⟨A, 0, none⟩) 286 286) (cntLTo l k) → _ := fun W h => h.row.1.cell (i64s_get (show 257 + lad longBase tln < (cntLTo l k).length by rw [hlL]; exact hsl))
          have hcB : ∀ W, Nums W B (.slice (some ⟨B, 0, none⟩) 30 30) (cntBTo l k) → _ := fun W h => h.row.1.cell (i64s_get (show lad backBase tkn < (cntBTo l k).length by rw [hlB]; exact b1))
          have hvL := Cd.getD_le hbL (257 + lad longBase tln)
          have hvB := Cd.getD_le hbB (lad backBase tkn)
          generalize lad longBase tln = kl at *
          generalize lad backBase tkn = kb at *
          generalize (cntLTo l k).getD (257 + kl) 0 = vl at *
          generalize (cntBTo l k).getD kb 0 = vb at *
          have HFL := Lib.hid hfL
          have HFB2 := Lib.hid hfB
          have HCL := Lib.hid hcL
          have HCB := Lib.hid hcB
          have HLs := Lib.hid hLs
          have HB1 := Lib.hid hB1
          have hne0 : tln ≠ 0 := by omega
          have HBB2 : RowKit.Hid (false = true ↔ symsB (l.take (k + 1)) = []) := Lib.hid (by rw [HSN.out]; simp; omega)
          have NAT := NA.on OT
          have NBT := NB.on OT
          have wl : IntKind.i64.wrap (257 + (kl : Int)) = ((257 + kl : Nat) : Int) := by rw [IntKind.wrap_i64]; omega
          have wv : IntKind.i64.wrap ((vl : Int) + 1) = ((vl + 1 : Nat) : Int) := by rw [IntKind.wrap_i64]; omega
          have wu : IntKind.i64.wrap ((vb : Int) + 1) = ((vb + 1 : Nat) : Int) := by rw [IntKind.wrap_i64]; omega
          clear hfL hfB hcL hcB hsy hLs hB1 hBl hlL hlB hbL hbB Ft hsl
          go_upto_region 12 with fail
          generalize hT : wr.heap.size = T at *
          have hTA : T ≠ A := by omega
          have hTB : T ≠ B := by omega
          generalize wr.alloc (.cells #[.int .i64 tb, .int .i64 (tln : Int), .int .i64 (tkn : Int)] 117) = wT at *
          have HC1 := Lib.hid (show ∀ W, Kp [A] wT W → W.cell? ⟨T, 1, none⟩ = some (.int .i64 (tln : Int)) from fun W h => (h.cell BT.lt (by simpa using hTA)).trans ((BT.cell 1).trans rfl))
          have hkl286 : 257 + (kl : Int) < 286 := by omega
          have hkl0 : (0 : Int) ≤ 257 + (kl : Int) := by omega
          have ekl : (257 + (kl : Int)).toNat = 257 + kl := by omega
          have hkb30 : (kb : Int) < 30 := by omega
          have hkb0 : (0 : Int) ≤ (kb : Int) := by omega
          clear hT c0 c1 c2 fA fB
          have C1 := HC1.out
          refine wp_region_held_drew (S := fun W => Kp [A] wT W) (by kernel_rfl) (Kp.refl _ _).drew (fun hHeld => ?_)
          have OwD := (On.refl wT).drew
          refine wpAnyH_take (i := 0) (oi := _) (v := ?_) rfl (by kernel_rfl) (by kernel_rfl) (by kernel_rfl) (fun _ _ _ h => h) (Or.inl ⟨by rfl, ?_⟩) (by assumption) ?_
          rotate_left
          · intro w hSw
            go_simp
            first | done | with_reducible rfl
          try simp only [Act.put, List.setIfInBounds_toArray, List.set_cons_zero, List.set_cons_succ]
          refine wpAnyH_take (i := 2) (oi := _) (v := ?_) rfl (by kernel_rfl) (by kernel_rfl) (by kernel_rfl) (fun _ _ _ h => h) (Or.inl ⟨by rfl, ?_⟩) (by assumption) ?_
          rotate_left
          · intro w hSw
            go_simp
            first | done | with_reducible rfl
          try simp only [Act.put, List.setIfInBounds_toArray, List.set_cons_zero, List.set_cons_succ]
          refine wpAnyH_take (i := 3) (oi := _) (v := ?_) rfl (by kernel_rfl) (by kernel_rfl) (by kernel_rfl) (fun _ _ _ h => h) (Or.inl ⟨by rfl, ?_⟩) (by assumption) ?_
          rotate_left
          · intro w hSw
            go_simp
            first | done | with_reducible rfl
          try simp only [Act.put, List.setIfInBounds_toArray, List.set_cons_zero, List.set_cons_succ]
          refine wpAnyH_strong (S' := fun W => Kp [A] wT.drew W) (fun W h => Kp.then (Kp.of [A] OwD) h) ?_
          have hHeldN : (fun W => Kp [A] wT.drew W) wT.drew := Kp.refl _ _
          clear C1
          generalize wT.drew = wD at *
          refine wpAnyH_ready (rs := [1]) (by kernel_rfl) (by simp) ?_
          refine AllReadyH.cons (o := _) rfl (fun K hK => ?_) AllReadyH.nil
          go_simp
          refine (longs_calls _).mono ?_
          rintro e wA ⟨rA, qA, rB, qB, rfl, RA, RB, hqA, hqB, frA, frB, OA⟩
          have OwA := OwD.call OA
          refine hK.out _ _ (Kp.of [A] OA) (fun hHeld => ?_)
          clear hK K
          try simp only [Act.put, List.setIfInBounds_toArray, List.set_cons_zero, List.set_cons_succ]
          refine wpAnyH_strong (S' := fun W => Kp [A] wA W) (fun W h => Kp.then (Kp.of [A] OA) h) ?_
          have hHeldN : (fun W => Kp [A] wA W) wA := Kp.refl _ _
          refine wpAnyH_ready (rs := [4]) (by kernel_rfl) (by simp) ?_
          refine AllReadyH.cons (o := _) rfl (fun K hK => ?_) AllReadyH.nil
          go_simp
          refine (HFL.out rA qA rB qB wA RA hqA).mono ?_
          rintro e wB ⟨rfl, OB⟩
          have OwB := OwA.call OB
          refine hK.out _ _ (Kp.of [A] OB) (fun hHeld => ?_)
          clear hK K
          try simp only [Act.put, List.setIfInBounds_toArray, List.set_cons_zero, List.set_cons_succ]
          refine wpAnyH_strong (S' := fun W => Kp [A] wB W) (fun W h => Kp.then (Kp.of [A] OB) h) ?_
          have hHeldN : (fun W => Kp [A] wB W) wB := Kp.refl _ _
          refine wpAnyH_take (i := 5) (oi := _) (v := ?_) rfl (by kernel_rfl) (by kernel_rfl) (by kernel_rfl) (fun _ _ _ h => h) (Or.inl ⟨by rfl, ?_⟩) (by assumption) ?_
          rotate_left
          · intro w hSw
            go_simp
            first | done | with_reducible rfl
          try simp only [Act.put, List.setIfInBounds_toArray, List.set_cons_zero, List.set_cons_succ]
          refine wpAnyH_take (i := 6) (oi := _) (v := ?_) rfl (by kernel_rfl) (by kernel_rfl) (by kernel_rfl) (fun _ _ _ h => h) (Or.inl ⟨by rfl, ?_⟩) (by assumption) ?_
          rotate_left
          · intro w hSw
            go_simp
            first | done | with_reducible rfl
          try simp only [Act.put, List.setIfInBounds_toArray, List.set_cons_zero, List.set_cons_succ]
          have NAB := NAT.on OwB
          have dA := HCL.out wB NAB
          have fAB : ∀ i, wB.frozen? ⟨A, i, none⟩ = false := NAB.row.1.frozen
          refine wpAnyH_ready (rs := [7]) (by kernel_rfl) (by simp) ?_
          refine AllReadyH.cons (o := _) rfl (fun K hK => ?_) AllReadyH.nil
          go_simp
          refine hK.out _ _ (Kp.refl _ _) (fun hHeld => ?_)
          clear hK K
          try simp only [Act.put, List.setIfInBounds_toArray, List.set_cons_zero, List.set_cons_succ]
          refine wpAnyH_take (i := 8) (oi := _) (v := ?_) rfl (by kernel_rfl) (by kernel_rfl) (by kernel_rfl) (fun _ _ _ h => h) (Or.inl ⟨by rfl, ?_⟩) (by assumption) ?_
          rotate_left
          · intro w hSw
            go_simp
            first | done | with_reducible rfl
          try simp only [Act.put, List.setIfInBounds_toArray, List.set_cons_zero, List.set_cons_succ]
          refine wpAnyH_take (i := 9) (oi := _) (v := ?_) rfl (by kernel_rfl) (by kernel_rfl) (by kernel_rfl) (fun _ _ _ h => h) (Or.inl ⟨by rfl, ?_⟩) (by assumption) ?_
          rotate_left
          · intro w hSw
            go_simp
            first | done | with_reducible rfl
          try simp only [Act.put, List.setIfInBounds_toArray, List.set_cons_zero, List.set_cons_succ]
          refine wpAnyH_ready (rs := [10]) (by kernel_rfl) (by simp) ?_
          refine AllReadyH.cons (o := _) rfl (fun K hK => ?_) AllReadyH.nil
          go_simp
          have KS : Kp [A] wB (wB.setCell ⟨A, 257 + kl, none⟩ (.int .i64 ((vl + 1 : Nat) : Int))) := (Kp.refl _ _).set (.inl (by simp)) _
          have S := NAB.set (257 + kl) (vl + 1)
          rw [← HLs.out] at S
          have NBX := (NBT.on OwB).kp KS (by simpa using Ne.symm hAB)
          have KX := (KT.then (Kp.of _ OwB)).then (KS.mono (T := [A, B]) (fun x hx => .inl (by simp at hx ⊢; exact .inl hx)))
          have BTX := KS.blk (BT.call OwB.out) (by simpa using hTA)
          refine hK.out _ _ KS (fun hHeld => ?_)
          rw [show ((vl + 1 : Nat) : Int) = (vl : Int) + 1 from by omega] at S NBX KX BTX
          clear hK K
          try simp only [Act.put, List.setIfInBounds_toArray, List.set_cons_zero, List.set_cons_succ]
          refine wpAnyH_done (by kernel_rfl) ?_ _
          clear dA fAB hHeld hHeldN
          generalize wB.setCell ⟨A, 257 + kl, none⟩ (.int .i64 ((vl : Int) + 1)) = wX at *
          go_wp2_with fail
          have HC2 := Lib.hid (show ∀ W, Kp [B] wX W → W.cell? ⟨T, 2, none⟩ = some (.int .i64 (tkn : Int)) from fun W h => (h.cell BTX.lt (by simpa using hTB)).trans ((BTX.cell 2).trans rfl))
          have C1 := HC2.out
          refine wp_region_held_drew (S := fun W => Kp [B] wX W) (by kernel_rfl) (Kp.refl _ _).drew (fun hHeld => ?_)
          have OwD := (On.refl wX).drew
          refine wpAnyH_take (i := 0) (oi := _) (v := ?_) rfl (by kernel_rfl) (by kernel_rfl) (by kernel_rfl) (fun _ _ _ h => h) (Or.inl ⟨by rfl, ?_⟩) (by assumption) ?_
          rotate_left
          · intro w hSw
            go_simp
            first | done | with_reducible rfl
          try simp only [Act.put, List.setIfInBounds_toArray, List.set_cons_zero, List.set_cons_succ]
          refine wpAnyH_take (i := 2) (oi := _) (v := ?_) rfl (by kernel_rfl) (by kernel_rfl) (by kernel_rfl) (fun _ _ _ h => h) (Or.inl ⟨by rfl, ?_⟩) (by assumption) ?_
          rotate_left
          · intro w hSw
            go_simp
            first | done | with_reducible rfl
          try simp only [Act.put, List.setIfInBounds_toArray, List.set_cons_zero, List.set_cons_succ]
          refine wpAnyH_take (i := 3) (oi := _) (v := ?_) rfl (by kernel_rfl) (by kernel_rfl) (by kernel_rfl) (fun _ _ _ h => h) (Or.inl ⟨by rfl, ?_⟩) (by assumption) ?_
          rotate_left
          · intro w hSw
            go_simp
            first | done | with_reducible rfl
          try simp only [Act.put, List.setIfInBounds_toArray, List.set_cons_zero, List.set_cons_succ]
          refine wpAnyH_strong (S' := fun W => Kp [B] wX.drew W) (fun W h => Kp.then (Kp.of [B] OwD) h) ?_
          have hHeldN : (fun W => Kp [B] wX.drew W) wX.drew := Kp.refl _ _
          clear C1
          generalize wX.drew = wD at *
          refine wpAnyH_ready (rs := [1]) (by kernel_rfl) (by simp) ?_
          refine AllReadyH.cons (o := _) rfl (fun K hK => ?_) AllReadyH.nil
          go_simp
          refine (backs_calls _).mono ?_
          rintro e wA ⟨rA, qA, rB, qB, rfl, RA, RB, hqA, hqB, frA, frB, OA⟩
          have OwA := OwD.call OA
          refine hK.out _ _ (Kp.of [B] OA) (fun hHeld => ?_)
          clear hK K
          try simp only [Act.put, List.setIfInBounds_toArray, List.set_cons_zero, List.set_cons_succ]
          refine wpAnyH_strong (S' := fun W => Kp [B] wA W) (fun W h => Kp.then (Kp.of [B] OA) h) ?_
          have hHeldN : (fun W => Kp [B] wA W) wA := Kp.refl _ _
          refine wpAnyH_ready (rs := [4]) (by kernel_rfl) (by simp) ?_
          refine AllReadyH.cons (o := _) rfl (fun K hK => ?_) AllReadyH.nil
          go_simp
          refine (HFB2.out rA qA rB qB wA RA hqA).mono ?_
          rintro e wB ⟨rfl, OB⟩
          have OwB := OwA.call OB
          refine hK.out _ _ (Kp.of [B] OB) (fun hHeld => ?_)
          clear hK K
          try simp only [Act.put, List.setIfInBounds_toArray, List.set_cons_zero, List.set_cons_succ]
          refine wpAnyH_strong (S' := fun W => Kp [B] wB W) (fun W h => Kp.then (Kp.of [B] OB) h) ?_
          have hHeldN : (fun W => Kp [B] wB W) wB := Kp.refl _ _
          refine wpAnyH_take (i := 5) (oi := _) (v := ?_) rfl (by kernel_rfl) (by kernel_rfl) (by kernel_rfl) (fun _ _ _ h => h) (Or.inl ⟨by rfl, ?_⟩) (by assumption) ?_
          rotate_left
          · intro w hSw
            go_simp
            first | done | with_reducible rfl
          try simp only [Act.put, List.setIfInBounds_toArray, List.set_cons_zero, List.set_cons_succ]
          have NAB := NBX.on OwB
          have dA := HCB.out wB NAB
          have fAB : ∀ i, wB.frozen? ⟨B, i, none⟩ = false := NAB.row.1.frozen
          refine wpAnyH_ready (rs := [6]) (by kernel_rfl) (by simp) ?_
          refine AllReadyH.cons (o := _) rfl (fun K hK => ?_) AllReadyH.nil
          go_simp
          refine hK.out _ _ (Kp.refl _ _) (fun hHeld => ?_)
          clear hK K
          try simp only [Act.put, List.setIfInBounds_toArray, List.set_cons_zero, List.set_cons_succ]
          refine wpAnyH_take (i := 7) (oi := _) (v := ?_) rfl (by kernel_rfl) (by kernel_rfl) (by kernel_rfl) (fun _ _ _ h => h) (Or.inl ⟨by rfl, ?_⟩) (by assumption) ?_
          rotate_left
          · intro w hSw
            go_simp
            first | done | with_reducible rfl
          try simp only [Act.put, List.setIfInBounds_toArray, List.set_cons_zero, List.set_cons_succ]
          refine wpAnyH_take (i := 8) (oi := _) (v := ?_) rfl (by kernel_rfl) (by kernel_rfl) (by kernel_rfl) (fun _ _ _ h => h) (Or.inl ⟨by rfl, ?_⟩) (by assumption) ?_
          rotate_left
          · intro w hSw
            go_simp
            first | done | with_reducible rfl
          try simp only [Act.put, List.setIfInBounds_toArray, List.set_cons_zero, List.set_cons_succ]
          refine wpAnyH_ready (rs := [9]) (by kernel_rfl) (by simp) ?_
          refine AllReadyH.cons (o := _) rfl (fun K hK => ?_) AllReadyH.nil
          go_simp
          have KS : Kp [B] wB (wB.setCell ⟨B, kb, none⟩ (.int .i64 ((vb + 1 : Nat) : Int))) := (Kp.refl _ _).set (.inl (by simp)) _
          have NBY := NAB.set kb (vb + 1)
          rw [← HB1.out] at NBY
          have NAY := (S.on OwB).kp KS (by simpa using hAB)
          have KY := (KX.then (Kp.of _ OwB)).then (KS.mono (T := [A, B]) (fun x hx => .inl (by simp at hx ⊢; exact .inr hx)))
          refine hK.out _ _ KS (fun hHeld => ?_)
          rw [show ((vb + 1 : Nat) : Int) = (vb : Int) + 1 from by omega] at NBY NAY KY
          clear hK K
          try simp only [Act.put, List.setIfInBounds_toArray, List.set_cons_zero, List.set_cons_succ]
          refine wpAnyH_done (by kernel_rfl) ?_ _
          clear dA fAB hHeld hHeldN
          generalize wB.setCell ⟨B, kb, none⟩ (.int .i64 ((vb : Int) + 1)) = wY at *
          go_wp2_with fail
          go_roundw
          case rel => exact ⟨k + 1, false, by go_num, by omega, rfl, HBB2, NAY, NBY, KY⟩
          case measure => simp [intOf]; omega
      · obtain rfl : k = n := by omega
        have hkk : ¬ (k : Int) < (k : Int) := by omega
        have hCL := cntLTo_all l
        rw [HNN.out] at hCL
        rw [hCL] at NA
        have htk : l.take k = l := by rw [← HNN.out]; exact List.take_length
        rw [htk] at HBB
        have hnb := cntB_none (l := l)
        have hsb := cntB_some (l := l)
        rw [HNN.out] at hnb hsb
        have Ow : On w1 wr := K.on OM (fun y hy => by simp at hy; omega)
        have HNB := Lib.hid hnb
        have HSB := Lib.hid hsb
        have fB : wr.frozen? ⟨B, 0, none⟩ = false := NB.row.1.frozen _
        have d0 := NB.row.1.cell (i64s_get (show 0 < (cntBTo l k).length by rw [cntBTo_length]; omega))
        generalize (cntBTo l k).getD 0 0 = v0 at *
        clear hCL htk hnb hsb
        by_cases hbb : bb = true
        case' pos =>
          subst hbb
          have S := NB.set 0 1
          rw [← HNB.out (HBB.out.1 rfl)] at S
          have NA2 := NA.kp ((Kp.refl [B] wr).set (p := ⟨B, 0, none⟩) (.inl (by simp)) (.int .i64 ((1 : Nat) : Int))) (by simpa using hAB)
          have OZ := Ow.set (p := ⟨B, 0, none⟩) hB1 (.int .i64 ((1 : Nat) : Int))
          have NB2 := S
          clear S NA NB
          go_upto_region 18 with fail
          generalize wr.setCell ⟨B, 0, none⟩ (.int .i64 1) = wZ at *
        case' neg =>
          have hbf : bb = false := by simpa using hbb
          subst hbf
          have NA2 := NA
          have NB2 := NB
          rw [← HSB.out (fun e => by have := HBB.out.2 e; cases this)] at NB2
          have OZ := Ow
          clear NA NB
          go_upto_region 18 with fail
          obtain ⟨wZ, hwZ⟩ : ∃ wZ, wZ = wr := ⟨_, rfl⟩
          rw [← hwZ] at NA2 NB2 OZ ⊢
          clear hwZ
        all_goals
          have hOZ := HOW.out.on OZ
          have HOZ := Lib.hid hOZ
          have hqZ := Rq.on OZ
          have hz1 := OZ.size
          clear fB d0 K Rq6 HBB hOZ
          go_wp2_with fail
          refine (ilensof_calls (cntL l) A 0 286 286 15 wZ NA2.row.1.toO (cntL_length l) (by omega) (Nat.le_refl _) (fun x hx => by have := cntL_le l x hx; have := HNN.out; omega) (by omega) (by omega) ⟨256, cntL_last l⟩ (by rw [show 15 + 3 = 18 from rfl, fib18]; omega) (by have := used_pos (cntL_last l); omega) (by have := used_le (cntL l); rw [cntL_length] at this; omega)).mono ?_
          rintro e w3 ⟨rc, cc, rfl, Nc, hc, hc2, O3⟩
          have hLl : (fit 15 (cntL l)).length = 286 := (fitL l).1.len.trans (cntL_length l)
          rw [hLl] at Nc ⊢
          have hcc := Nc.row.2.2.1
          have HLl := Lib.hid hLl
          clear hLl
          go_wp2_with fail
          refine (itrim_calls (fit 15 (cntL l)) rc 286 cc 257 w3 Nc.row.1.toO HLl.out (by omega) hcc (by omega)).mono ?_
          rintro e w3b ⟨rfl, rfl⟩
          have hol : trimTo (fit 15 (cntL l)) 257 286 = (ownLit l).length := by unfold ownLit; rw [trim_length, HLl.out]
          rw [hol]
          have Rl : RowO w3b rc 0 3 (i64s (ownLit l)) := by
            have e : ownLit l = (fit 15 (cntL l)).take (trimTo (fit 15 (cntL l)) 257 286) := by unfold ownLit trim; rw [HLl.out]
            rw [e, i64s_take]
            exact (Nc.row.1.head _).toO
          have hln := ownLit_length l
          have HL15 := Lib.hid (trim_le (least := 257) (fitL l).2)
          obtain ⟨nl, hnl⟩ : ∃ nl, (ownLit l).length = nl := ⟨_, rfl⟩
          rw [hnl] at hln ⊢
          have HNL := Lib.hid hnl
          clear hol hnl
          have hub : used (cntB l) ≠ 0 := by
            obtain ⟨j, hj⟩ := HBP.out
            exact used_pos hj
          have HUB := Lib.hid hub
          clear hub
          go_wp2_with fail
          refine (ilensof_calls (cntB l) B 0 30 30 15 w3b (NB2.on O3).row.1.toO (cntB_length l) (by omega) (Nat.le_refl _) (fun x hx => by have := cntB_le HF.out x hx; have := HNN.out; omega) (by omega) (by omega) HBP.out (by rw [show 15 + 3 = 18 from rfl, fib18]; omega) (by have := HUB.out; omega) (by have := used_le (cntB l); rw [cntB_length] at this; omega)).mono ?_
          rintro e w4 ⟨rd, cd, rfl, Nd, hd, hd2, O4⟩
          have hBl : (fit 15 (cntB l)).length = 30 := HFB.out.1.len.trans (cntB_length l)
          rw [hBl] at Nd ⊢
          have hcd := Nd.row.2.2.1
          have HBl := Lib.hid hBl
          clear hBl
          go_wp2_with fail
          refine (itrim_calls (fit 15 (cntB l)) rd 30 cd 1 w4 Nd.row.1.toO HBl.out (by omega) hcd (by omega)).mono ?_
          rintro e w4b ⟨rfl, rfl⟩
          have hod : trimTo (fit 15 (cntB l)) 1 30 = (ownDist l).length := by unfold ownDist; rw [trim_length, HBl.out]
          rw [hod]
          have Rd : RowO w4b rd 0 3 (i64s (ownDist l)) := by
            have e : ownDist l = (fit 15 (cntB l)).take (trimTo (fit 15 (cntB l)) 1 30) := by unfold ownDist trim; rw [HBl.out]
            rw [e, i64s_take]
            exact (Nd.row.1.head _).toO
          have hdn := HDL.out
          have HD15 := Lib.hid (trim_le (least := 1) HFB.out.2)
          obtain ⟨nd, hnd⟩ : ∃ nd, (ownDist l).length = nd := ⟨_, rfl⟩
          rw [hnd] at hdn ⊢
          have HND := Lib.hid hnd
          have OZ4 := O3.call O4
          have Rl4 := Rl.on O4
          have Rq4 := hqZ.on OZ4
          have Ot4 := (O1.call OZ).call OZ4
          have HOR := Lib.hid (HOZ.out.on OZ4)
          clear hod hnd Nd Nc Rl NA2 NB2 hqZ HOZ
          obtain ⟨N, hN⟩ : ∃ N, nl + nd = N := ⟨_, rfl⟩
          obtain ⟨all, hall⟩ : ∃ all, ownLit l ++ ownDist l = all := ⟨_, rfl⟩
          have hal : all.length = N := by rw [← hall, List.length_append, HNL.out, HND.out]; exact hN
          have ha15 : ∀ y ∈ all, y ≤ 15 := by
            intro y hy
            rw [← hall] at hy
            rcases List.mem_append.1 hy with h | h
            · exact HL15.out y h
            · exact HD15.out y h
          have hane : all ≠ [] := by intro e; rw [e] at hal; simp at hal; omega
          have HN := Lib.hid hN
          have HALL := Lib.hid hall
          have HAL := Lib.hid hal
          have HA15 := Lib.hid ha15
          have HM := Lib.hid (ownMeta_ok ha15 hane)
          have HMP := Lib.hid (meta_pos ha15 hane)
          have hN3 : N ≤ 316 := by omega
          have hN0 : 258 ≤ N := by omega
          have HQ0 := Lib.hid (show 0 + nl = nl from Nat.zero_add nl)
          have NE := Own.new (base := w4b.heap.size) w4b 3 1 #[] 0 (Nat.zero_le _) rfl (Nat.le_refl _)
          have OE := (On.refl w4b).alloc (.cells #[] 3)
          have REl := Rl4.on OE
          have hq4l := Rq4.lt
          have hrcl := Rl4.lt
          have hrdl := Rd.lt
          clear hN hall hal ha15 hane
          go_upto_region 20 with (at_builtin; first | ((refine wpList_adds rfl _ _ rfl w4b (xs := []) (l := ownLit l) (q := nl) rfl NE OE rfl REl HNL.out HQ0.out (by omega) ?_); intro v1 w5 hown1 O5 _; rw [List.nil_append] at hown1; have REd := Rd.on O5) | ((refine wpList_adds rfl _ _ rfl w4b (xs := ownLit l) (l := ownDist l) (q := N) rfl hown1 O5 rfl REd HND.out HN.out (by omega) ?_); intro v2 w6 hown2 O6 _))
          rw [HALL.out] at hown2
          obtain ⟨G, cG, rfl, NG, hG, hGl⟩ := own_nums hown2 HAL.out
          have hcG := NG.row.2.2.1
          have hO6 := HOR.out.on O6
          have o0 := hO6.glob
          have HO6 := Lib.hid hO6
          clear NE OE REl hown1 O5 REd hown2 hO6
          go_upto_region 21 with (at_make; go_must (refine wpList_ints _ rfl _ _ rfl _ _ 19 rfl rfl rfl rfl (by omega) ?_); intro w7 N7 O7 hlt7)
          obtain ⟨C, hC⟩ : ∃ C, w6.heap.size = C := ⟨_, rfl⟩
          rw [hC] at N7 hlt7 ⊢
          have hz6 := O6.size
          have O67 := O6.call O7
          have NG7 := NG.on O7
          have HO7 := Lib.hid (HO6.out.on O7)
          clear NG o0 HO6
          go_wp2_with fail
          go_loopw [86] (fun y wr => ∃ (j : Nat), y = .int .i64 (j : Int) ∧ j ≤ N ∧ Nums wr C (.slice (some ⟨C, 0, none⟩) 19 19) (bump (List.replicate 19 0) (all.take j)) ∧ Kp [C] w7 wr) (fun y _ => N - (intOf y).toNat)
          case atStart => exact ⟨0, rfl, by omega, by rw [List.take_zero]; exact N7, Kp.refl _ _⟩
          case round =>
            obtain ⟨j, rfl, hj, NC, K⟩ := hrel
            clear N7
            by_cases hlt : j < N
            · have hkl : j < all.length := by rw [HAL.out]; exact hlt
              have c0 := (K.row NG7.row.1 (by simp; omega)).cell (i64s_get hkl)
              have hx15 := Cd.getD_le HA15.out j
              have hst := cntM_succ hkl
              generalize all.getD j 0 = y at *
              have hln2 : (bump (List.replicate 19 0) (all.take j)).length = 19 := by rw [bump_length, List.length_replicate]
              have d0 := NC.row.1.cell (i64s_get (show y < (bump (List.replicate 19 0) (all.take j)).length by rw [hln2]; omega))
              have hv := Cd.getD_le (cntM_le all j) y
              generalize (bump (List.replicate 19 0) (all.take j)).getD y 0 = v at *
              have fC : wr.frozen? ⟨C, y, none⟩ = false := NC.row.1.frozen _
              have HST := Lib.hid hst
              have hx19 : (y : Int) < 19 := by omega
              have hx0 : (0 : Int) ≤ (y : Int) := by omega
              have hkN : (j : Int) < (N : Int) := by omega
              have S := NC.set y (v + 1)
              rw [← HST.out] at S
              have K8 := K.set (p := ⟨C, y, none⟩) (.inl (by simp)) (.int .i64 ((v + 1 : Nat) : Int))
              rw [show ((v + 1 : Nat) : Int) = (v : Int) + 1 from by omega] at S K8
              clear hst hln2
              go_wp2_with fail
              go_roundw
              case rel => exact ⟨j + 1, by go_num, by omega, S, K8⟩
              case measure => simp [intOf]; omega
            · obtain rfl : j = N := by omega
              have e0 : all.take j = all := List.take_of_length_le (by rw [HAL.out]; exact Nat.le_refl _)
              rw [e0] at NC
              have hln2 : (bump (List.replicate 19 0) all).length = 19 := by rw [bump_length, List.length_replicate]
              have hle : ∀ y ∈ bump (List.replicate 19 0) all, y ≤ 100000 := fun y hy => by
                have := cntM_le all j
                rw [e0] at this
                have := this y hy
                omega
              have hfc := Lib.hid (ilensof_calls (bump (List.replicate 19 0) all) C 0 19 19 7 wr NC.row.1.toO hln2 (by omega) (Nat.le_refl _) hle (by omega) (by omega) HMP.out (by rw [show 7 + 3 = 10 from rfl, fib10]; omega)
                (by obtain ⟨a, ha⟩ := HMP.out; have := used_pos ha; omega) (by have := used_le (bump (List.replicate 19 0) all); rw [hln2] at this; omega))
              clear hln2 hle e0
              have jj : ¬ (j : Int) < (j : Int) := by omega
              go_wp2_with fail
              refine hfc.out.mono ?_
              rintro e w8 ⟨rM, cM, rfl, NM, hM1, hM2, O8⟩
              have em : fit 7 (bump (List.replicate 19 0) all) = ownMeta all := rfl
              rw [em] at NM ⊢
              rw [HM.out.len] at NM ⊢
              have hcM := NM.row.2.2.1
              have HM2 : RowKit.Hid (Meta all (ownMeta all)) := HM
              obtain ⟨m, hm⟩ : ∃ m, ownMeta all = m := ⟨_, rfl⟩
              rw [hm] at NM HM2
              have HMM := Lib.hid hm
              have Ok := K.on O67 (fun y hy => by simp at hy; omega)
              have O8t : On w4b w8 := Ok.call O8
              have HO8 := Lib.hid (HOR.out.on O8t)
              have RM := NM.row.1.toO
              have RG := ((K.row NG7.row.1 (by simp; omega)).on O8).toO
              have hz7 := K.size
              have hz8 := O8.size
              have hG8 := RG.lt
              have hrM8 := RM.lt
              clear em hm hfc HM NM NC NG7
              go_wp2_with fail
              refine (put_calls _ _ [] 1 1 _ (iw_new w8) (by omega) (by simp) (by omega)).mono ?_
              rintro e w9 ⟨r9, rfl, hw9, M9⟩
              have hr0 : w8.heap.size < (w8.alloc (.cells #[.slice none 0 0, .int .i64 0] 111)).heap.size := (Blk.new w8 _ _).lt
              have hr9 := M9.lt hr0
              obtain ⟨O9, hb9⟩ := M9.on ((On.refl w8).alloc _) (Nat.le_refl _) (Nat.le_refl _)
              go_wp2_with fail
              refine (put_calls _ _ _ 2 2 w9 hw9 (by omega) (by simp [bitsOf]) (by omega)).mono ?_
              rintro e w10 ⟨r10, rfl, hw10, M10⟩
              have hr10 := M10.lt hr9
              obtain ⟨O10, hb10⟩ := M10.on O9 (Nat.le_refl _) hb9
              obtain ⟨na, hna⟩ : ∃ na, nl - 257 = na := ⟨_, rfl⟩
              obtain ⟨nb, hnb⟩ : ∃ nb, nd - 1 = nb := ⟨_, rfl⟩
              have HEB := Lib.hid (show (nd : Int) - 1 = (nb : Int) by omega)
              have ea : (nl : Int) - 257 = (na : Int) := by omega
              have hna2 : na ≤ 29 := by omega
              have hnb2 : nb ≤ 29 := by omega
              have HNA := Lib.hid hna
              have HNB2 := Lib.hid hnb
              have hp1 := Lib.hid (put_calls w8.heap.size r10 _ na 5 w10 hw10 (by omega) (by simp [bitsOf]) (by omega))
              clear hw9 hw10 hna hnb
              go_wp2_with fail
              refine hp1.out.mono ?_
              rintro e w11 ⟨r11, rfl, hw11, M11⟩
              have hr11 := M11.lt hr10
              obtain ⟨O11, hb11⟩ := M11.on O10 (Nat.le_refl _) hb10
              have hp2 := Lib.hid (put_calls w8.heap.size r11 _ nb 5 w11 hw11 (by omega) (by simp only [List.length_append, bits_length, List.length_nil]; omega) (by omega))
              have eb := HEB.out
              clear hw11 hp1 ea
              go_wp2_with fail
              refine hp2.out.mono ?_
              rintro e w12 ⟨r12, rfl, hw12, M12⟩
              have hr12 := M12.lt hr11
              obtain ⟨O12, hb12⟩ := M12.on O11 (Nat.le_refl _) hb11
              have hp3 := Lib.hid (put_calls w8.heap.size r12 _ 15 4 w12 hw12 (by omega) (by simp only [List.length_append, bits_length, List.length_nil]; omega) (by omega))
              have hO12 := HO8.out.on O12
              have o12 := hO12.glob
              have HO12 := Lib.hid hO12
              clear hw12 hp2 eb hO12
              go_wp2_with fail
              refine hp3.out.mono ?_
              rintro e w13 ⟨r13, rfl, hw13, M13⟩
              have hr13 := M13.lt hr12
              obtain ⟨O13, hb13⟩ := M13.on O12 (Nat.le_refl _) hb12
              have hO13 := HO8.out.on O13
              have o13 := hO13.glob
              have HO13 := Lib.hid hO13
              obtain ⟨b3, hb3⟩ : ∃ b3, [] ++ bitsOf 1 1 ++ bitsOf 2 2 ++ bitsOf na 5 ++ bitsOf nb 5 ++ bitsOf 15 4 = b3 := ⟨_, rfl⟩
              have hl3 : b3.length = 17 := by rw [← hb3]; simp only [List.length_append, bits_length, List.length_nil]
              rw [hb3] at hw13
              have HB3 := Lib.hid hb3
              have HL3 := Lib.hid hl3
              have HW13 := Lib.hid hw13
              clear hb3 hl3 hw13 hp3 o12 hO13 M9 M10 M11 M12 M13 O9 O10 O11 O12 hb9 hb10 hb11 hb12 hr9 hr10 hr11 hr12
              go_wp2_with fail
              have hHe : RowKit.Hid (∀ W, On w8 W → ∀ i, i < 19 → W.cell? (x.add i) = some (.int .i64 (order.getD i 0 : Nat))) := Lib.hid (fun W O => (HO8.out.on O).cells)
              go_loopw [122] (fun y wr => ∃ (i r' : Nat), y = .int .i64 (i : Int) ∧ i ≤ 19 ∧ IW wr w8.heap.size r' (b3 ++ (order.take i).flatMap fun t => bitsOf (m.getD t 0) 3) ∧ On w8 wr ∧ w8.heap.size ≤ r' ∧ r' < wr.heap.size) (fun y _ => 19 - (intOf y).toNat)
              case atStart => exact ⟨0, r13, rfl, by omega, by rw [List.take_zero]; simpa using HW13.out, O13, hb13, hr13⟩
              case round =>
                obtain ⟨i, r14, rfl, hi, hw14, O14, hb14, hr14⟩ := hrel
                clear o13
                by_cases hlti : i < 19
                · have hio : i < order.length := hlti
                  have hi' : (i : Int) < 19 := by omega
                  have oc := hHe.out wr O14 i hlti
                  have hol := order_lt19 i hlti
                  have hfs := flat_succ (fun t => bitsOf (m.getD t 0) 3) hio
                  generalize hx : order.getD i 0 = ok at *
                  have c1 := (RM.on O14).cell (i64s_get (show ok < m.length by rw [HM2.out.len]; exact hol))
                  rw [Nat.zero_add] at c1
                  have hx7 := Cd.getD_le HM2.out.le ok
                  have hfl : ((order.take i).flatMap fun t => bitsOf (m.getD t 0) 3).length ≤ 19 * 3 := by
                    have := flat_len (order.take i) (fun t => bitsOf (m.getD t 0) 3) (m := 3) (fun y => by rw [bits_length]; exact Nat.le_refl _)
                    rw [List.length_take] at this
                    have h2 : min i order.length * 3 ≤ 19 * 3 := Nat.mul_le_mul_right _ (Nat.le_trans (Nat.min_le_left _ _) hi)
                    omega
                  have hbl : (b3 ++ (order.take i).flatMap fun t => bitsOf (m.getD t 0) 3).length ≤ 3000 := by
                    rw [List.length_append, HL3.out]; omega
                  have hfs2 : b3 ++ (order.take (i + 1)).flatMap (fun t => bitsOf (m.getD t 0) 3) = (b3 ++ (order.take i).flatMap fun t => bitsOf (m.getD t 0) 3) ++ bitsOf (m.getD ok 0) 3 := by rw [hfs, List.append_assoc]
                  generalize (b3 ++ (order.take i).flatMap fun t => bitsOf (m.getD t 0) 3) = bk at *
                  generalize m.getD ok 0 = y at *
                  have HFS := Lib.hid hfs2
                  have ho0 : (0 : Int) ≤ (ok : Int) := by omega
                  have ho19 : (ok : Int) < 19 := by omega
                  have hp := Lib.hid (put_calls w8.heap.size r14 bk y 3 wr hw14 (by omega) (by omega) (by omega))
                  clear hfs hfs2 hx hfl hw14
                  go_wp2_with fail
                  refine hp.out.mono ?_
                  rintro e w15 ⟨r15, rfl, hw15, M15⟩
                  have hr15 := M15.lt hr14
                  obtain ⟨O15, hb15⟩ := M15.on O14 (Nat.le_refl _) hb14
                  go_wp2_with fail
                  go_roundw
                  case rel => exact ⟨i + 1, r15, by go_num, by omega, by rw [HFS.out]; exact hw15, O15, hb15, hr15⟩
                  case measure => simp [intOf]; omega
                · have hi19 : i = 19 := by omega
                  have hi' : ¬ (i : Int) < 19 := by omega
                  have e0 : order.take i = order := by rw [hi19]; rfl
                  rw [e0] at hw14
                  have hfl : (order.flatMap fun t => bitsOf (m.getD t 0) 3).length ≤ 19 * 3 := flat_len order _ (fun y => by rw [bits_length]; exact Nat.le_refl _)
                  obtain ⟨b4, hb4⟩ : ∃ b4, b3 ++ (order.flatMap fun t => bitsOf (m.getD t 0) 3) = b4 := ⟨_, rfl⟩
                  have hl4 : b4.length ≤ 2000 := by rw [← hb4, List.length_append, HL3.out]; omega
                  rw [hb4] at hw14
                  have HB4 := Lib.hid hb4
                  have HW14 := Lib.hid hw14
                  have hci := Lib.hid (icodes_calls m rM 0 19 cM wr (RM.on O14) HM2.out.len (by omega) hcM)
                  clear e0 hfl hb4 hw14 hi19
                  go_wp2_with fail
                  refine hci.out.mono ?_
                  rintro e w16 ⟨rK, cK, rfl, NK, hK1, hK2, O16⟩
                  rw [codes_length, HM2.out.len] at NK ⊢
                  have RK := NK.row.1.toO
                  have O16t := O14.call O16
                  have RM16 := RM.on O16t
                  have RG16 := RG.on O16t
                  have hz14 := O14.size
                  have FM : RowKit.Hid (rM ∉ [w8.heap.size, r14]) := Lib.hid (not_in (by omega) (by omega))
                  have FK : RowKit.Hid (rK ∉ [w8.heap.size, r14]) := Lib.hid (not_in (by omega) (by omega))
                  have FG : RowKit.Hid (G ∉ [w8.heap.size, r14]) := Lib.hid (not_in (by omega) (by omega))
                  have hr16 : r14 < w16.heap.size := Nat.lt_of_lt_of_le hr14 O16.size
                  clear NK hci
                  go_wp2_with fail
                  go_loopw [137] (fun y wr => ∃ (t r' : Nat), y = .int .i64 (t : Int) ∧ t ≤ j ∧ IW wr w8.heap.size r' (b4 ++ (all.take t).flatMap (enc m)) ∧ Mv w8.heap.size r14 w16 r' wr) (fun y _ => j - (intOf y).toNat)
                  case atStart => exact ⟨0, r14, rfl, by omega, by rw [List.take_zero]; simpa using HW14.out.on O16, Mv.refl _ _ _⟩
                  case round =>
                    obtain ⟨t, r17, rfl, ht, hw17, M17⟩ := hrel
                    by_cases hltt : t < j
                    · have hjl : t < all.length := by rw [HAL.out]; exact hltt
                      have ht' : (t : Int) < (j : Int) := by omega
                      have c0 := (RG16.kp M17.kp FG.out).cell (i64s_get hjl)
                      rw [Nat.zero_add] at c0
                      have hfs := flat_succ (enc m) hjl
                      have hmem : all.getD t 0 ∈ all := by rw [List.getD_eq_getElem?_getD, List.getElem?_eq_getElem hjl]; exact List.getElem_mem _
                      have hx15 := HA15.out _ hmem
                      have hpos := HM2.out.pos _ hmem
                      generalize all.getD t 0 = y at *
                      have hfl : ((all.take t).flatMap (enc m)).length ≤ 316 * 15 := by
                        have := flat_len (all.take t) (enc m) (m := 15) (enc_length m (fun y hy => by have := HM2.out.le y hy; omega))
                        rw [List.length_take] at this
                        have h2 : min t all.length * 15 ≤ 316 * 15 := Nat.mul_le_mul_right _ (Nat.le_trans (Nat.min_le_left _ _) (by omega))
                        omega
                      have hbl : (b4 ++ (all.take t).flatMap (enc m)).length ≤ 10000 := by rw [List.length_append]; omega
                      have hfs2 : b4 ++ (all.take (t + 1)).flatMap (enc m) = (b4 ++ (all.take t).flatMap (enc m)) ++ enc m y := by rw [hfs, List.append_assoc]
                      generalize (b4 ++ (all.take t).flatMap (enc m)) = bk at *
                      have HFS := Lib.hid hfs2
                      have hsm : y < m.length := by rw [HM2.out.len]; omega
                      have h7 : m.getD y 0 ≤ 15 := by have := Cd.getD_le HM2.out.le y; omega
                      have hc := Lib.hid (code_calls w8.heap.size r17 bk m rM 0 19 cM rK 19 cK y wr hw17 (by omega) (RM16.kp M17.kp FM.out) (RK.kp M17.kp FK.out) HM2.out.len rfl hsm h7 (code_lt (ok_fits HM2.out.ok) hsm hpos h7) (M17.out RM16.lt FM.out) (M17.out RK.lt FK.out))
                      clear hmem hfs hfs2 hfl hw17 hpos hsm h7
                      go_wp2_with fail
                      refine hc.out.mono ?_
                      rintro e w18 ⟨r18, rfl, hw18, M18⟩
                      go_wp2_with fail
                      go_roundw
                      case rel => exact ⟨t + 1, r18, by go_num, by omega, by rw [HFS.out]; exact hw18, M17.trans M18⟩
                      case measure => simp [intOf]; omega
                    · obtain rfl : t = j := by omega
                      have e0 : all.take t = all := List.take_of_length_le (by rw [HAL.out]; exact Nat.le_refl _)
                      rw [e0] at hw17
                      have hhd : b4 ++ all.flatMap (enc m) = bitsOf 1 1 ++ bitsOf 2 2 ++ headBits (ownLit l) (ownDist l) := by
                        rw [← HB4.out, ← HB3.out]
                        unfold headBits
                        rw [HALL.out, HMM.out, HNL.out, HND.out, HNA.out, HNB2.out]
                        simp only [List.append_assoc, List.nil_append]
                      rw [hhd] at hw17
                      have hHL := head_length (ownLit l) (ownDist l) (by rw [HALL.out, HAL.out]; exact hN3) (by rw [HALL.out]; exact HA15.out) (by intro e; rw [HALL.out] at e; have := HAL.out; rw [e] at this; simp at this; omega)
                      have hr17 := M17.lt hr16
                      obtain ⟨O17, hb17⟩ := M17.on O16t (Nat.le_refl _) hb14
                      have O17t := O8t.call O17
                      have Rq17 := Rq4.on O17t
                      have Rl17 := Rl4.on O17t
                      have Rd17 := Rd.on O17t
                      have hz8t := O8t.size
                      have hne : bitsOf 1 1 ++ bitsOf 2 2 ++ headBits (ownLit l) (ownDist l) ≠ [] := by simp [bitsOf]
                      have hpt := Lib.hid (itokens_calls w8.heap.size r17 q k cq rc 0 nl cc rd 0 nd cd _ l (ownLit l) (ownDist l) wr hw17 hne (by simp only [List.length_append, bits_length]; omega) Rq17 Rl17 Rd17 HNN.out (by omega) hq1 HNL.out HND.out (by omega) (by omega) (by omega) (by omega)
                        H2.out (fine_of HTX.out) (not_in (by omega) (by omega)) (not_in (by omega) (by omega)) (not_in (by omega) (by omega)))
                      have tt : ¬ (t : Int) < (t : Int) := by omega
                      clear e0 hhd hw17 hne hHL
                      go_wp2_with fail
                      refine hpt.out.mono ?_
                      rintro e w19 ⟨r19, rfl, hw19, M19⟩
                      obtain ⟨O19, hb19⟩ := M19.on O17 (Nat.le_refl _) hb17
                      rw [← HOB.out] at hw19
                      obtain ⟨v, c0, hconv⟩ := hw19.text
                      have Ot := Ot4.call (O8t.call O19)
                      clear hw19 hpt
                      go_wp2_with fail
                      go_ret
                      exact ⟨by rw [HR.out]; rfl, Ot⟩
end Go.Proofs.YtnadjlejlohgiaaGreatDoor.Wi

/- What FlatePut of the program does. Conditions: the variable order as it is laid. -/
namespace Go.Proofs.YtnadjlejlohgiaaGreatDoor.Wi
open Go.RowKit Go.Proofs.YtnadjlejlohgiaaGreatDoor.Mem Go.Proofs.YtnadjlejlohgiaaGreatDoor.Bt Go.Proofs.YtnadjlejlohgiaaGreatDoor.Cd Go.Proofs.YtnadjlejlohgiaaGreatDoor.De Go.Proofs.YtnadjlejlohgiaaGreatDoor.En Go.Proofs.YtnadjlejlohgiaaGreatDoor.Lz Go.Proofs.YtnadjlejlohgiaaGreatDoor.Hf
set_option linter.unusedVariables false
set_option linter.unusedSimpArgs false
theorem flateB_is (s : ByteArray) : flateB s = pickTo (storeB s) (fixedB s) (ownB s) 2 := by
  unfold flateB storeB fixedB ownB
  by_cases h : s.size ≤ 300
  · rw [if_pos h, if_pos h, if_pos h, if_pos h]; exact flate_pick s h
  · rw [if_neg h, if_neg h, if_neg h, if_neg h]; rfl
set_option maxRecDepth 100000 in
theorem iflateput_calls (s : ByteArray) (x : Addr) (w : World) (hO : Ord w x) :
    Calls Tryz.prog 50 #[.string s] w (Tells w (.string (flateB s))) := by
  have HR := Lib.hid (flateB_is s)
  have HS := Lib.hid (fun w => istore_calls s w)
  have HK := Lib.hid (fun w => ifixedput_calls s w)
  have HOW := Lib.hid (fun w h => iownput_calls s x w h)
  have HO := Lib.hid hO
  clear hO
  generalize storeB s = a at *
  generalize fixedB s = b at *
  generalize ownB s = c at *
  go_enter Tryz.func50, Tryz.ntmps50
  go_wp2_with fail
  refine (HS.out w).mono ?_
  rintro e w1 ⟨rfl, O1⟩
  go_wp2_with fail
  refine (HK.out w1).mono ?_
  rintro e w2 ⟨rfl, O2⟩
  go_wp2_with fail
  refine (HOW.out w2 (HO.out.on (O1.call O2))).mono ?_
  rintro e w3 ⟨rfl, O3⟩
  go_wp2_with fail
  have BB := Blk.new w3 9 #[.string b, .string c]
  have O4 := (O1.call (O2.call O3)).alloc (.cells #[.string b, .string c] 9)
  generalize hB : w3.heap.size = B at *
  generalize w3.alloc (.cells #[.string b, .string c] 9) = w4 at *
  go_loop [3, 14] (fun o i => ∃ k : Nat, k ≤ 2 ∧ i = .int .i64 (k : Int) ∧ o = .string (pickTo a b c k)) (fun _ i => 2 - (intOf i).toNat)
  case atStart => exact ⟨0, by omega, rfl, rfl⟩
  case round =>
    obtain ⟨k, hk, rfl, rfl⟩ := hrel
    by_cases hlt : k < 2
    · obtain ⟨v, c0, hv⟩ : ∃ v, w4.cell? ⟨B, k, none⟩ = some (.string v) ∧ pickTo a b c (k + 1) = choose (pickTo a b c k) v := by
        rcases (show k = 0 ∨ k = 1 by omega) with rfl | rfl
        · exact ⟨b, (BB.cell 0).trans rfl, rfl⟩
        · exact ⟨c, (BB.cell 1).trans rfl, rfl⟩
      have HV := Lib.hid hv
      clear hv
      have hlt' : (k : Int) < 2 := by omega
      generalize pickTo a b c k = p at *
      by_cases hs : v.size < p.size
      · have hs' : (v.size : Int) < (p.size : Int) := by omega
        have HC : RowKit.Hid (pickTo a b c (k + 1) = v) := Lib.hid (by rw [HV.out]; unfold choose; rw [if_pos hs])
        go_wp2_with fail
        go_round
        case rel => exact ⟨k + 1, by omega, by go_num, by rw [HC.out]⟩
        case measure => simp [intOf]; omega
      · have hs' : ¬ (v.size : Int) < (p.size : Int) := by omega
        have HC : RowKit.Hid (pickTo a b c (k + 1) = p) := Lib.hid (by rw [HV.out]; unfold choose; rw [if_neg hs])
        go_wp2_with fail
        go_round
        case rel => exact ⟨k + 1, by omega, by go_num, by rw [HC.out]⟩
        case measure => simp [intOf]; omega
    · obtain rfl : k = 2 := by omega
      go_wp2_with fail
      go_ret
      exact ⟨by rw [HR.out]; rfl, O4⟩
end Go.Proofs.YtnadjlejlohgiaaGreatDoor.Wi

