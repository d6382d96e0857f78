/- Own texts joined: Ho, Hz, LwPk, LwPm, Si, Sm. -/
import Derived.BigRegion
import Derived.Test.YtncidljdfipigaaDoorZ0
import Derived.Test.YtncidljdfipigaaDoorZ1
import Derived.Test.YtncidljdfipigaaDoorZ2
import Derived.Test.YtncidljdfipigaaDoorZ3
import Derived.Test.YtncidljdfipigaaDoorZ4
import Derived.Test.YtncidljdfipigaaDoorZ5
import Derived.Test.YtncidljdfipigaaDoorZ6
import Derived.Test.YtncidljdfipigaaDoorZ7
import Derived.Test.YtncidljdfipigaaDoorZ8
import Derived.Test.YtncidljdfipigaaDoorZ9
/- What OwnPut of the program does. Conditions: the variable order as it is laid. -/
namespace Go.Proofs.YtncidljdfipigaaDoor.Wi
open Go.RowKit Go.Proofs.YtncidljdfipigaaDoor.Mem Go.Proofs.YtncidljdfipigaaDoor.Bt Go.Proofs.YtncidljdfipigaaDoor.Cd Go.Proofs.YtncidljdfipigaaDoor.De Go.Proofs.YtncidljdfipigaaDoor.En Go.Proofs.YtncidljdfipigaaDoor.Lz Go.Proofs.YtncidljdfipigaaDoor.Hf
set_option linter.unusedVariables false
set_option linter.unusedSimpArgs false
/-- make([]int, n) at a step of a region that draws its order. -/
theorem step_ints {ops : Array Oper} {o : Oper} {a : Act} {K : Act → World → Prop} {Q : Exit → Act → World → Prop} {E : Prop} {W : World} (hg : o.guard = none) (l c : Operand) (hop : o.op = Op.makeSlice 58 l c)
    (L C : Int) (n : Nat) (hl : a.eval l = .int .i64 L) (hc : a.eval c = .int .i64 C) (hL : L = (n : Int)) (hC : C = (n : Int)) (hn : n ≤ 1000000)
    (h : ∀ w1, Nums w1 W.heap.size (.slice (some ⟨W.heap.size, 0, none⟩) n n) (List.replicate n 0) → On W w1 → W.heap.size < w1.heap.size → K (a.put o.dst (.slice (some ⟨W.heap.size, 0, none⟩) n n)) w1) :
    if Region.wanted o (yielded ops a.tmps) = true then Oper.wp Tryd.prog o a W K Q else E := by
  have hw : Region.wanted o (yielded ops a.tmps) = true := by simp [Region.wanted, hg]
  rw [if_pos hw]
  obtain ⟨i0, hi, hz0, hz1, hz2⟩ := info_parts i64info
  obtain ⟨w1, hrun, hown, hgr⟩ := run_make_full (P := Tryd.prog) W 0 58 3 i0 (.int .i64 0) 1 Tryd.underlying58 hi hz0 hz1 .i64 .i64 n (by rw [hz2]; omega) (by unfold maxLen; omega) (Nat.zero_le _)
  have e : (madeCells (Value.int .i64 0).cells (n * 1)).toList = i64s (List.replicate n 0) := by
    rw [show (Value.int .i64 0).cells = #[.int .i64 0] from rfl, toList_madeCells_one, Nat.mul_one]
    unfold i64s; rw [List.map_replicate]; rfl
  rw [e] at hown
  have hlt : W.heap.size < w1.heap.size := by
    rcases hown.2 with ⟨h0, _⟩ | ⟨g, c, cur, hv, _, hh, _⟩
    · cases h0
    · cases hv
      rcases Nat.lt_or_ge W.heap.size w1.heap.size with hl | hl
      · exact hl
      · rw [Array.getElem?_eq_none hl] at hh; cases hh
  subst hL
  subst hC
  unfold Oper.wp
  simp only [execOp, hop, hl, hc, hrun, Sem.run_bind, Sem.run_pure, Result.andThen_ok]
  exact h w1 ⟨by rw [List.length_replicate]; exact hown, fun g hg => by simp [Value.ownBlock] at hg; exact hg.symm⟩ ((Kp.grown hgr (S := []) (fun g h => by cases h)).toOn) hlt
theorem used_le (l : List Nat) : used l ≤ l.length := by unfold used; exact List.length_filter_le _ _
theorem symsB_nil (l : List Tok) (k : Nat) (h : k < l.length) : (symsB (l.take (k + 1)) = [] ↔ symsB (l.take k) = [] ∧ l[k].long = 0) := by
  rw [List.take_succ_eq_append_getElem h]
  unfold symsB
  rw [List.filter_append, List.map_append, List.append_eq_nil_iff, List.filter_cons]
  by_cases h0 : l[k].long = 0
  · rw [if_neg (by simpa using h0)]; simp [h0]
  · rw [if_pos (by simpa using h0)]; simp [h0]
theorem cntB_some {l : List Tok} (h : symsB l ≠ []) : cntB l = cntBTo l l.length := by unfold cntB cntBTo; rw [if_neg h, List.take_length]
theorem cntB_none {l : List Tok} (h : symsB l = []) : cntB l = (cntBTo l l.length).set 0 1 := by
  unfold cntB cntBTo; rw [if_pos h, List.take_length, h]; rfl
set_option maxRecDepth 100000 in
set_option maxHeartbeats 4000000 in
theorem iownput_calls (s : ByteArray) (x : Addr) (w : World) (hO : Ord w x) :
    Calls Tryd.prog 28 #[.string s] w (Tells w (.string (ownB s))) := by
  by_cases h : s.size ≤ 300
  rotate_left
  · have h' : (300 : Int) < s.size := by omega
    have HR : RowKit.Hid (ownB s = ⟨#[]⟩) := Lib.hid (by unfold ownB; rw [if_neg h])
    go_enter Tryd.func28, Tryd.ntmps28
    go_wp2_with fail
    go_ret
    exact ⟨by rw [HR.out]; rfl, On.refl _⟩
  have h' : (s.size : Int) ≤ 300 := by omega
  have htx := text_chars h
  have htl := tokens_size h
  have HTO := Lib.hid (show toksOf s = tokens (chars s) from by unfold toksOf; rw [if_pos h])
  have HR : RowKit.Hid (ownB s = strB (pack (ownBits (chars s)))) := Lib.hid (by unfold ownB; rw [if_pos h]; rfl)
  have HOB : RowKit.Hid (ownBits (chars s) = bitsOf 1 1 ++ bitsOf 2 2 ++ headBits (ownLit (tokens (chars s))) (ownDist (tokens (chars s))) ++ encToks (ownLit (tokens (chars s))) (ownDist (tokens (chars s))) (tokens (chars s))) := Lib.hid rfl
  have HTX := Lib.hid htx
  clear htx
  go_enter Tryd.func28, Tryd.ntmps28
  go_wp2_with fail
  refine (itoks_calls s w).mono ?_
  rintro e w1 ⟨q, cq, rfl, Rq, hq1, hq2, hq3, O1⟩
  rw [HTO.out] at Rq hq1 ⊢
  obtain ⟨l, hl⟩ : ∃ l, tokens (chars s) = l := ⟨_, rfl⟩
  rw [hl] at HTX HOB Rq hq1 htl ⊢
  have HF := Lib.hid (fine_of (lit := []) (dist := []) HTX.out)
  have H2 := Lib.hid (own_has HTX.out)
  have HFB := Lib.hid (fitB HTX.out)
  have HDL := Lib.hid (ownDist_length HTX.out)
  have HBP := Lib.hid (cntB_pos HTX.out)
  have HOW := Lib.hid (hO.on O1)
  obtain ⟨n, hn⟩ : ∃ n, l.length = n := ⟨_, rfl⟩
  rw [hn] at hq1 htl ⊢
  have HNN := Lib.hid hn
  clear hn hl hO
  have hql := Rq.lt
  go_wp2_with fail
  refine wp_region_held_drew (S := fun W => Kp [] w1 W) (by kernel_rfl) (Kp.refl _ _).drew (fun hHeld => ?_)
  have OwD := (On.refl w1).drew
  refine wpAnyH_strong (S' := fun W => Kp [] w1.drew W) (fun W h => Kp.then (Kp.of [] OwD) h) ?_
  have hHeldN : (fun W => Kp [] w1.drew W) w1.drew := Kp.refl _ _
  generalize w1.drew = wD at *
  refine wpAnyH_ready (rs := [0, 1]) (by kernel_rfl) (by simp) ?_
  refine AllReadyH.cons (o := _) rfl (fun K hK => ?fst) (AllReadyH.cons (o := _) rfl (fun K hK => ?snd) AllReadyH.nil)
  case' fst =>
    refine step_ints rfl _ _ rfl _ _ 286 rfl rfl rfl rfl (by omega) ?_
    intro wa NA0 Oa hlta
    show K (Act.put _ (some 27) _) wa
    refine hK.out _ _ (Kp.of [] Oa) (fun hHeld => ?_)
    clear hK K
    try simp only [Act.put, List.setIfInBounds_toArray, List.set_cons_zero, List.set_cons_succ]
    refine wpAnyH_take (i := 2) (oi := _) (v := ?_) rfl (by kernel_rfl) (by kernel_rfl) (by kernel_rfl) (fun _ _ _ h => h) (Or.inl ⟨by rfl, ?_⟩) (by assumption) ?_
    rotate_left
    · intro w hSw
      go_simp
      first | done | with_reducible rfl
    try simp only [Act.put, List.setIfInBounds_toArray, List.set_cons_zero, List.set_cons_succ]
    refine wpAnyH_ready (rs := [1]) (by kernel_rfl) (by simp) ?_
    refine AllReadyH.cons (o := _) rfl (fun K hK => ?_) AllReadyH.nil
    refine step_ints rfl _ _ rfl _ _ 30 rfl rfl rfl rfl (by omega) ?_
    intro wM NB Ob hltb
    show K (Act.put _ (some 28) _) wM
    refine hK.out _ _ (Kp.of [] (Oa.call Ob)) (fun hHeld => ?_)
    clear hK K
    try simp only [Act.put, List.setIfInBounds_toArray, List.set_cons_zero, List.set_cons_succ]
    have NA := NA0.on Ob
    have OM := OwD.call (Oa.call Ob)
    have hz0 := OwD.size
    have hza := Oa.size
    obtain ⟨A, hA⟩ : ∃ A, wD.heap.size = A := ⟨_, rfl⟩
    obtain ⟨B, hB⟩ : ∃ B, wa.heap.size = B := ⟨_, rfl⟩
    rw [hA] at NA ⊢
    rw [hB] at NB ⊢
    have hAB : A ≠ B := by omega
    have hA1 : w1.heap.size ≤ A := by omega
    have hB1 : w1.heap.size ≤ B := by omega
    clear hA hB Oa Ob NA0 hlta hltb hz0 hza
  case' snd =>
    refine step_ints rfl _ _ rfl _ _ 30 rfl rfl rfl rfl (by omega) ?_
    intro wa NB0 Oa hlta
    show K (Act.put _ (some 28) _) wa
    refine hK.out _ _ (Kp.of [] Oa) (fun hHeld => ?_)
    clear hK K
    try simp only [Act.put, List.setIfInBounds_toArray, List.set_cons_zero, List.set_cons_succ]
    refine wpAnyH_ready (rs := [0]) (by kernel_rfl) (by simp) ?_
    refine AllReadyH.cons (o := _) rfl (fun K hK => ?_) AllReadyH.nil
    refine step_ints rfl _ _ rfl _ _ 286 rfl rfl rfl rfl (by omega) ?_
    intro wM NA Ob hltb
    show K (Act.put _ (some 27) _) wM
    refine hK.out _ _ (Kp.of [] (Oa.call Ob)) (fun hHeld => ?_)
    clear hK K
    try simp only [Act.put, List.setIfInBounds_toArray, List.set_cons_zero, List.set_cons_succ]
    refine wpAnyH_take (i := 2) (oi := _) (v := ?_) rfl (by kernel_rfl) (by kernel_rfl) (by kernel_rfl) (fun _ _ _ h => h) (Or.inl ⟨by rfl, ?_⟩) (by assumption) ?_
    rotate_left
    · intro w hSw
      go_simp
      first | done | with_reducible rfl
    try simp only [Act.put, List.setIfInBounds_toArray, List.set_cons_zero, List.set_cons_succ]
    have NB := NB0.on Ob
    have OM := OwD.call (Oa.call Ob)
    have hz0 := OwD.size
    have hza := Oa.size
    obtain ⟨B, hB⟩ : ∃ B, wD.heap.size = B := ⟨_, rfl⟩
    obtain ⟨A, hA⟩ : ∃ A, wa.heap.size = A := ⟨_, rfl⟩
    rw [hB] at NB ⊢
    rw [hA] at NA ⊢
    have hAB : A ≠ B := by omega
    have hA1 : w1.heap.size ≤ A := by omega
    have hB1 : w1.heap.size ≤ B := by omega
    clear hA hB Oa Ob NB0 hlta hltb hz0 hza
  all_goals
    refine wpAnyH_take (i := 3) (oi := _) (v := ?_) rfl (by kernel_rfl) (by kernel_rfl) (by kernel_rfl) (fun _ _ _ h => h) (Or.inl ⟨by rfl, ?_⟩) (by assumption) ?_
    rotate_left
    · intro w hSw
      go_simp
      first | done | with_reducible rfl
    try simp only [Act.put, List.setIfInBounds_toArray, List.set_cons_zero, List.set_cons_succ]
    refine wpAnyH_done (by kernel_rfl) ?_ _
  all_goals
    have ca0 := NA.row.1.cell (i64s_get (show 256 < (List.replicate 286 0).length by rw [List.length_replicate]; omega))
    have fa0 : wM.frozen? ⟨A, 256, none⟩ = false := NA.row.1.frozen _
    have NAs := NA.set 256 1
    rw [← cntLTo_zero l] at NAs
    have K0 : Kp [A, B] wM (wM.setCell ⟨A, 256, none⟩ (.int .i64 ((1 : Nat) : Int))) := (Kp.refl _ _).set (.inl (by simp)) _
    have NBs := NB.kp ((Kp.refl [A] wM).set (p := ⟨A, 256, none⟩) (.inl (by simp)) (.int .i64 ((1 : Nat) : Int))) (by simpa using Ne.symm hAB)
    rw [← cntBTo_zero l] at NBs
    have Rq6 := Rq.on OM
    clear NA NB
    go_wp2_with fail
    go_loopw [6, 33] (fun z x wr => ∃ (k : Nat) (bb : Bool), x = .int .i64 (k : Int) ∧ k ≤ n ∧ z = .bool bb ∧ RowKit.Hid (bb = true ↔ symsB (l.take k) = []) ∧ Nums wr A (.slice (some ⟨A, 0, none⟩) 286 286) (cntLTo l k) ∧ Nums wr B (.slice (some ⟨B, 0, none⟩) 30 30) (cntBTo l k) ∧ Kp [A, B] wM wr) (fun _ x _ => n - (intOf x).toNat)
    case atStart => exact ⟨0, true, rfl, by omega, rfl, Lib.hid (by rw [List.take_zero]; exact ⟨fun _ => rfl, fun _ => rfl⟩), NAs, NBs, K0⟩
    case round =>
      obtain ⟨k, bb, rfl, hk, rfl, HBB, NA, NB, K⟩ := hrel
      clear NAs NBs K0 ca0 fa0
      by_cases hlt : k < n
      · have hkl : k < l.length := by rw [HNN.out]; exact hlt
        obtain ⟨t0, t1, t2⟩ := tok_get hkl
        have Ft := HF.out _ (List.getElem_mem hkl)
        have R := K.row Rq6 (by simp; omega)
        have c0 := R.cell t0
        have c1 := R.cell t1
        have c2 := R.cell t2
        have hLs := cntLTo_succ hkl
        have hBl := cntBTo_long hkl
        have hBb := cntBTo_byte hkl
        have hsn := symsB_nil l k hkl
        have hsl := symL_lt Ft
        have hlL := cntLTo_length l k
        have hlB := cntBTo_length l k
        have hbL := cntLTo_le l k
        have hbB := cntBTo_le l k
        generalize l[k] = t at *
        obtain ⟨tb, tl, tk⟩ := t
        simp only at c0 c1 c2 hLs hBl hBb hsn
        have HSN := Lib.hid hsn
        clear t0 t1 t2 hsn
        have fA : ∀ i, wr.frozen? ⟨A, i, none⟩ = false := NA.row.1.frozen
        have fB : ∀ i, wr.frozen? ⟨B, i, none⟩ = false := NB.row.1.frozen
        have hk2 : (k : Int) < n := by omega
        have OT := (On.refl wr).alloc (.cells #[.int .i64 tb, .int .i64 tl, .int .i64 tk] 67)
        have BT := Blk.new wr 67 #[.int .i64 tb, .int .i64 tl, .int .i64 tk]
        have KT := K.then (Kp.of [A, B] OT)
        have hAl := NA.row.1.lt
        have hBl2 := NB.row.1.lt
        by_cases h0 : tl = 0
        · subst h0
          have hbyte := Ft.byte rfl
          obtain ⟨b, hb⟩ := Int.eq_ofNat_of_zero_le hbyte.1
          simp only at hb
          subst hb
          have hsy : symL ⟨(b : Int), 0, tk⟩ = b := by unfold symL; rw [if_pos rfl]; rfl
          have hB1 := hBb rfl
          clear hBb
          simp only [Int.ofNat_eq_natCast] at *
          rw [hsy] at hLs hsl
          have NAT := NA.on OT
          have NBT := NB.on OT
          have d0 := NAT.row.1.cell (i64s_get (show b < (cntLTo l k).length by rw [hlL]; exact hsl))
          have hv := Cd.getD_le hbL b
          generalize (cntLTo l k).getD b 0 = v at *
          have HLs := Lib.hid hLs
          have HB1 := Lib.hid hB1
          have hb286 : (b : Int) < 286 := by omega
          have hb0 : (0 : Int) ≤ (b : Int) := by omega
          have HBB2 : RowKit.Hid (bb = true ↔ symsB (l.take (k + 1)) = []) := Lib.hid (by rw [HBB.out, HSN.out]; simp)
          clear hsy hLs hB1 hBl hlL hlB hbL hbB hsl Ft hbyte
          go_upto_region 10 with fail
          generalize hT : wr.heap.size = T at *
          generalize wr.alloc (.cells #[.int .i64 (b : Int), .int .i64 0, .int .i64 tk] 67) = wT at *
          have q0 : wT.cell? ⟨T, 0, none⟩ = some (.int .i64 (b : Int)) := (BT.cell 0).trans rfl
          have q1 : wT.cell? ⟨T, 1, none⟩ = some (.int .i64 0) := (BT.cell 1).trans rfl
          have fT : wT.frozen? ⟨A, b, none⟩ = false := NAT.row.1.frozen _
          have S := NAT.set b (v + 1)
          rw [← HLs.out] at S
          have NB2 := NBT.kp ((Kp.refl [A] _).set (p := ⟨A, b, none⟩) (.inl (by simp)) (.int .i64 ((v + 1 : Nat) : Int))) (by simpa using Ne.symm hAB)
          rw [← HB1.out] at NB2
          have K2 := KT.set (p := ⟨A, b, none⟩) (.inl (by simp)) (.int .i64 ((v + 1 : Nat) : Int))
          rw [show ((v + 1 : Nat) : Int) = (v : Int) + 1 from by omega] at S NB2 K2
          clear hT c0 c1 c2
          go_wp2_with fail
          go_roundw
          case rel => exact ⟨k + 1, bb, by go_num, by omega, rfl, HBB2, S, NB2, K2⟩
          case measure => simp [intOf]; omega
        · obtain ⟨l3, l60, k1, k250⟩ := Ft.long h0
          simp only at l3 l60 k1 k250
          obtain ⟨tln, rfl⟩ := Int.eq_ofNat_of_zero_le (show 0 ≤ tl by omega)
          obtain ⟨tkn, rfl⟩ := Int.eq_ofNat_of_zero_le (show 0 ≤ tk by omega)
          have hsy : symL ⟨tb, (tln : Int), (tkn : Int)⟩ = 257 + lad longBase tln := by unfold symL; rw [if_neg (by simp; omega)]; rfl
          have hB1 := hBl h0
          clear hBb
          simp only [Int.ofNat_eq_natCast, Int.toNat_natCast] at *
          have h0' : ((tln : Int) == 0) = false := by simp; omega
          rw [hsy] at hLs hsl
          obtain ⟨a1, a2, a3, a4⟩ := lad_long tln (by omega) (by omega)
          obtain ⟨b1, b2, b3, b4⟩ := lad_back tkn (by omega) (by omega)
          have hfL := fun r1 q1 r2 q2 W R1 h => find_calls longBase r1 28 q1 tln (.slice (some ⟨r2, 0, none⟩) 28 q2) W R1 (by decide) (by omega) h (by omega) (by show 3 ≤ tln; omega) long_rising (by omega) ⟨r2, q2, rfl⟩
          have hfB := fun r1 q1 r2 q2 W R1 h => find_calls backBase r1 30 q1 tkn (.slice (some ⟨r2, 0, none⟩) 30 q2) W R1 (by decide) (by omega) h (by omega) (by show 1 ≤ tkn; omega) back_rising (by omega) ⟨r2, q2, rfl⟩
          have hcL : ∀ W, Nums W A (.slice (some ⟨A, 0, none⟩) 286 286) (cntLTo l k) → _ := fun W h => h.row.1.cell (i64s_get (show 257 + lad longBase tln < (cntLTo l k).length by rw [hlL]; exact hsl))
          have hcB : ∀ W, Nums W B (.slice (some ⟨B, 0, none⟩) 30 30) (cntBTo l k) → _ := fun W h => h.row.1.cell (i64s_get (show lad backBase tkn < (cntBTo l k).length by rw [hlB]; exact b1))
          have hvL := Cd.getD_le hbL (257 + lad longBase tln)
          have hvB := Cd.getD_le hbB (lad backBase tkn)
          generalize lad longBase tln = kl at *
          generalize lad backBase tkn = kb at *
          generalize (cntLTo l k).getD (257 + kl) 0 = vl at *
          generalize (cntBTo l k).getD kb 0 = vb at *
          have HFL := Lib.hid hfL
          have HFB2 := Lib.hid hfB
          have HCL := Lib.hid hcL
          have HCB := Lib.hid hcB
          have HLs := Lib.hid hLs
          have HB1 := Lib.hid hB1
          have hne0 : tln ≠ 0 := by omega
          have HBB2 : RowKit.Hid (false = true ↔ symsB (l.take (k + 1)) = []) := Lib.hid (by rw [HSN.out]; simp; omega)
          have NAT := NA.on OT
          have NBT := NB.on OT
          have wl : IntKind.i64.wrap (257 + (kl : Int)) = ((257 + kl : Nat) : Int) := by rw [IntKind.wrap_i64]; omega
          have wv : IntKind.i64.wrap ((vl : Int) + 1) = ((vl + 1 : Nat) : Int) := by rw [IntKind.wrap_i64]; omega
          have wu : IntKind.i64.wrap ((vb : Int) + 1) = ((vb + 1 : Nat) : Int) := by rw [IntKind.wrap_i64]; omega
          clear hfL hfB hcL hcB hsy hLs hB1 hBl hlL hlB hbL hbB Ft hsl
          go_upto_region 12 with fail
          generalize hT : wr.heap.size = T at *
          have hTA : T ≠ A := by omega
          have hTB : T ≠ B := by omega
          generalize wr.alloc (.cells #[.int .i64 tb, .int .i64 (tln : Int), .int .i64 (tkn : Int)] 67) = wT at *
          have HC1 := Lib.hid (show ∀ W, Kp [A] wT W → W.cell? ⟨T, 1, none⟩ = some (.int .i64 (tln : Int)) from fun W h => (h.cell BT.lt (by simpa using hTA)).trans ((BT.cell 1).trans rfl))
          have hkl286 : 257 + (kl : Int) < 286 := by omega
          have hkl0 : (0 : Int) ≤ 257 + (kl : Int) := by omega
          have ekl : (257 + (kl : Int)).toNat = 257 + kl := by omega
          have hkb30 : (kb : Int) < 30 := by omega
          have hkb0 : (0 : Int) ≤ (kb : Int) := by omega
          clear hT c0 c1 c2 fA fB
          have C1 := HC1.out
          refine wp_region_held_drew (S := fun W => Kp [A] wT W) (by kernel_rfl) (Kp.refl _ _).drew (fun hHeld => ?_)
          have OwD := (On.refl wT).drew
          refine wpAnyH_take (i := 0) (oi := _) (v := ?_) rfl (by kernel_rfl) (by kernel_rfl) (by kernel_rfl) (fun _ _ _ h => h) (Or.inl ⟨by rfl, ?_⟩) (by assumption) ?_
          rotate_left
          · intro w hSw
            go_simp
            first | done | with_reducible rfl
          try simp only [Act.put, List.setIfInBounds_toArray, List.set_cons_zero, List.set_cons_succ]
          refine wpAnyH_take (i := 2) (oi := _) (v := ?_) rfl (by kernel_rfl) (by kernel_rfl) (by kernel_rfl) (fun _ _ _ h => h) (Or.inl ⟨by rfl, ?_⟩) (by assumption) ?_
          rotate_left
          · intro w hSw
            go_simp
            first | done | with_reducible rfl
          try simp only [Act.put, List.setIfInBounds_toArray, List.set_cons_zero, List.set_cons_succ]
          refine wpAnyH_take (i := 3) (oi := _) (v := ?_) rfl (by kernel_rfl) (by kernel_rfl) (by kernel_rfl) (fun _ _ _ h => h) (Or.inl ⟨by rfl, ?_⟩) (by assumption) ?_
          rotate_left
          · intro w hSw
            go_simp
            first | done | with_reducible rfl
          try simp only [Act.put, List.setIfInBounds_toArray, List.set_cons_zero, List.set_cons_succ]
          refine wpAnyH_strong (S' := fun W => Kp [A] wT.drew W) (fun W h => Kp.then (Kp.of [A] OwD) h) ?_
          have hHeldN : (fun W => Kp [A] wT.drew W) wT.drew := Kp.refl _ _
          clear C1
          generalize wT.drew = wD at *
          refine wpAnyH_ready (rs := [1]) (by kernel_rfl) (by simp) ?_
          refine AllReadyH.cons (o := _) rfl (fun K hK => ?_) AllReadyH.nil
          go_simp
          refine (longs_calls _).mono ?_
          rintro e wA ⟨rA, qA, rB, qB, rfl, RA, RB, hqA, hqB, frA, frB, OA⟩
          have OwA := OwD.call OA
          refine hK.out _ _ (Kp.of [A] OA) (fun hHeld => ?_)
          clear hK K
          try simp only [Act.put, List.setIfInBounds_toArray, List.set_cons_zero, List.set_cons_succ]
          refine wpAnyH_strong (S' := fun W => Kp [A] wA W) (fun W h => Kp.then (Kp.of [A] OA) h) ?_
          have hHeldN : (fun W => Kp [A] wA W) wA := Kp.refl _ _
          refine wpAnyH_ready (rs := [4]) (by kernel_rfl) (by simp) ?_
          refine AllReadyH.cons (o := _) rfl (fun K hK => ?_) AllReadyH.nil
          go_simp
          refine (HFL.out rA qA rB qB wA RA hqA).mono ?_
          rintro e wB ⟨rfl, OB⟩
          have OwB := OwA.call OB
          refine hK.out _ _ (Kp.of [A] OB) (fun hHeld => ?_)
          clear hK K
          try simp only [Act.put, List.setIfInBounds_toArray, List.set_cons_zero, List.set_cons_succ]
          refine wpAnyH_strong (S' := fun W => Kp [A] wB W) (fun W h => Kp.then (Kp.of [A] OB) h) ?_
          have hHeldN : (fun W => Kp [A] wB W) wB := Kp.refl _ _
          refine wpAnyH_take (i := 5) (oi := _) (v := ?_) rfl (by kernel_rfl) (by kernel_rfl) (by kernel_rfl) (fun _ _ _ h => h) (Or.inl ⟨by rfl, ?_⟩) (by assumption) ?_
          rotate_left
          · intro w hSw
            go_simp
            first | done | with_reducible rfl
          try simp only [Act.put, List.setIfInBounds_toArray, List.set_cons_zero, List.set_cons_succ]
          refine wpAnyH_take (i := 6) (oi := _) (v := ?_) rfl (by kernel_rfl) (by kernel_rfl) (by kernel_rfl) (fun _ _ _ h => h) (Or.inl ⟨by rfl, ?_⟩) (by assumption) ?_
          rotate_left
          · intro w hSw
            go_simp
            first | done | with_reducible rfl
          try simp only [Act.put, List.setIfInBounds_toArray, List.set_cons_zero, List.set_cons_succ]
          have NAB := NAT.on OwB
          have dA := HCL.out wB NAB
          have fAB : ∀ i, wB.frozen? ⟨A, i, none⟩ = false := NAB.row.1.frozen
          refine wpAnyH_ready (rs := [7]) (by kernel_rfl) (by simp) ?_
          refine AllReadyH.cons (o := _) rfl (fun K hK => ?_) AllReadyH.nil
          go_simp
          refine hK.out _ _ (Kp.refl _ _) (fun hHeld => ?_)
          clear hK K
          try simp only [Act.put, List.setIfInBounds_toArray, List.set_cons_zero, List.set_cons_succ]
          refine wpAnyH_take (i := 8) (oi := _) (v := ?_) rfl (by kernel_rfl) (by kernel_rfl) (by kernel_rfl) (fun _ _ _ h => h) (Or.inl ⟨by rfl, ?_⟩) (by assumption) ?_
          rotate_left
          · intro w hSw
            go_simp
            first | done | with_reducible rfl
          try simp only [Act.put, List.setIfInBounds_toArray, List.set_cons_zero, List.set_cons_succ]
          refine wpAnyH_take (i := 9) (oi := _) (v := ?_) rfl (by kernel_rfl) (by kernel_rfl) (by kernel_rfl) (fun _ _ _ h => h) (Or.inl ⟨by rfl, ?_⟩) (by assumption) ?_
          rotate_left
          · intro w hSw
            go_simp
            first | done | with_reducible rfl
          try simp only [Act.put, List.setIfInBounds_toArray, List.set_cons_zero, List.set_cons_succ]
          refine wpAnyH_ready (rs := [10]) (by kernel_rfl) (by simp) ?_
          refine AllReadyH.cons (o := _) rfl (fun K hK => ?_) AllReadyH.nil
          go_simp
          have KS : Kp [A] wB (wB.setCell ⟨A, 257 + kl, none⟩ (.int .i64 ((vl + 1 : Nat) : Int))) := (Kp.refl _ _).set (.inl (by simp)) _
          have S := NAB.set (257 + kl) (vl + 1)
          rw [← HLs.out] at S
          have NBX := (NBT.on OwB).kp KS (by simpa using Ne.symm hAB)
          have KX := (KT.then (Kp.of _ OwB)).then (KS.mono (T := [A, B]) (fun x hx => .inl (by simp at hx ⊢; exact .inl hx)))
          have BTX := KS.blk (BT.call OwB.out) (by simpa using hTA)
          refine hK.out _ _ KS (fun hHeld => ?_)
          rw [show ((vl + 1 : Nat) : Int) = (vl : Int) + 1 from by omega] at S NBX KX BTX
          clear hK K
          try simp only [Act.put, List.setIfInBounds_toArray, List.set_cons_zero, List.set_cons_succ]
          refine wpAnyH_done (by kernel_rfl) ?_ _
          clear dA fAB hHeld hHeldN
          generalize wB.setCell ⟨A, 257 + kl, none⟩ (.int .i64 ((vl : Int) + 1)) = wX at *
          go_wp2_with fail
          have HC2 := Lib.hid (show ∀ W, Kp [B] wX W → W.cell? ⟨T, 2, none⟩ = some (.int .i64 (tkn : Int)) from fun W h => (h.cell BTX.lt (by simpa using hTB)).trans ((BTX.cell 2).trans rfl))
          have C1 := HC2.out
          refine wp_region_held_drew (S := fun W => Kp [B] wX W) (by kernel_rfl) (Kp.refl _ _).drew (fun hHeld => ?_)
          have OwD := (On.refl wX).drew
          refine wpAnyH_take (i := 0) (oi := _) (v := ?_) rfl (by kernel_rfl) (by kernel_rfl) (by kernel_rfl) (fun _ _ _ h => h) (Or.inl ⟨by rfl, ?_⟩) (by assumption) ?_
          rotate_left
          · intro w hSw
            go_simp
            first | done | with_reducible rfl
          try simp only [Act.put, List.setIfInBounds_toArray, List.set_cons_zero, List.set_cons_succ]
          refine wpAnyH_take (i := 2) (oi := _) (v := ?_) rfl (by kernel_rfl) (by kernel_rfl) (by kernel_rfl) (fun _ _ _ h => h) (Or.inl ⟨by rfl, ?_⟩) (by assumption) ?_
          rotate_left
          · intro w hSw
            go_simp
            first | done | with_reducible rfl
          try simp only [Act.put, List.setIfInBounds_toArray, List.set_cons_zero, List.set_cons_succ]
          refine wpAnyH_take (i := 3) (oi := _) (v := ?_) rfl (by kernel_rfl) (by kernel_rfl) (by kernel_rfl) (fun _ _ _ h => h) (Or.inl ⟨by rfl, ?_⟩) (by assumption) ?_
          rotate_left
          · intro w hSw
            go_simp
            first | done | with_reducible rfl
          try simp only [Act.put, List.setIfInBounds_toArray, List.set_cons_zero, List.set_cons_succ]
          refine wpAnyH_strong (S' := fun W => Kp [B] wX.drew W) (fun W h => Kp.then (Kp.of [B] OwD) h) ?_
          have hHeldN : (fun W => Kp [B] wX.drew W) wX.drew := Kp.refl _ _
          clear C1
          generalize wX.drew = wD at *
          refine wpAnyH_ready (rs := [1]) (by kernel_rfl) (by simp) ?_
          refine AllReadyH.cons (o := _) rfl (fun K hK => ?_) AllReadyH.nil
          go_simp
          refine (backs_calls _).mono ?_
          rintro e wA ⟨rA, qA, rB, qB, rfl, RA, RB, hqA, hqB, frA, frB, OA⟩
          have OwA := OwD.call OA
          refine hK.out _ _ (Kp.of [B] OA) (fun hHeld => ?_)
          clear hK K
          try simp only [Act.put, List.setIfInBounds_toArray, List.set_cons_zero, List.set_cons_succ]
          refine wpAnyH_strong (S' := fun W => Kp [B] wA W) (fun W h => Kp.then (Kp.of [B] OA) h) ?_
          have hHeldN : (fun W => Kp [B] wA W) wA := Kp.refl _ _
          refine wpAnyH_ready (rs := [4]) (by kernel_rfl) (by simp) ?_
          refine AllReadyH.cons (o := _) rfl (fun K hK => ?_) AllReadyH.nil
          go_simp
          refine (HFB2.out rA qA rB qB wA RA hqA).mono ?_
          rintro e wB ⟨rfl, OB⟩
          have OwB := OwA.call OB
          refine hK.out _ _ (Kp.of [B] OB) (fun hHeld => ?_)
          clear hK K
          try simp only [Act.put, List.setIfInBounds_toArray, List.set_cons_zero, List.set_cons_succ]
          refine wpAnyH_strong (S' := fun W => Kp [B] wB W) (fun W h => Kp.then (Kp.of [B] OB) h) ?_
          have hHeldN : (fun W => Kp [B] wB W) wB := Kp.refl _ _
          refine wpAnyH_take (i := 5) (oi := _) (v := ?_) rfl (by kernel_rfl) (by kernel_rfl) (by kernel_rfl) (fun _ _ _ h => h) (Or.inl ⟨by rfl, ?_⟩) (by assumption) ?_
          rotate_left
          · intro w hSw
            go_simp
            first | done | with_reducible rfl
          try simp only [Act.put, List.setIfInBounds_toArray, List.set_cons_zero, List.set_cons_succ]
          have NAB := NBX.on OwB
          have dA := HCB.out wB NAB
          have fAB : ∀ i, wB.frozen? ⟨B, i, none⟩ = false := NAB.row.1.frozen
          refine wpAnyH_ready (rs := [6]) (by kernel_rfl) (by simp) ?_
          refine AllReadyH.cons (o := _) rfl (fun K hK => ?_) AllReadyH.nil
          go_simp
          refine hK.out _ _ (Kp.refl _ _) (fun hHeld => ?_)
          clear hK K
          try simp only [Act.put, List.setIfInBounds_toArray, List.set_cons_zero, List.set_cons_succ]
          refine wpAnyH_take (i := 7) (oi := _) (v := ?_) rfl (by kernel_rfl) (by kernel_rfl) (by kernel_rfl) (fun _ _ _ h => h) (Or.inl ⟨by rfl, ?_⟩) (by assumption) ?_
          rotate_left
          · intro w hSw
            go_simp
            first | done | with_reducible rfl
          try simp only [Act.put, List.setIfInBounds_toArray, List.set_cons_zero, List.set_cons_succ]
          refine wpAnyH_take (i := 8) (oi := _) (v := ?_) rfl (by kernel_rfl) (by kernel_rfl) (by kernel_rfl) (fun _ _ _ h => h) (Or.inl ⟨by rfl, ?_⟩) (by assumption) ?_
          rotate_left
          · intro w hSw
            go_simp
            first | done | with_reducible rfl
          try simp only [Act.put, List.setIfInBounds_toArray, List.set_cons_zero, List.set_cons_succ]
          refine wpAnyH_ready (rs := [9]) (by kernel_rfl) (by simp) ?_
          refine AllReadyH.cons (o := _) rfl (fun K hK => ?_) AllReadyH.nil
          go_simp
          have KS : Kp [B] wB (wB.setCell ⟨B, kb, none⟩ (.int .i64 ((vb + 1 : Nat) : Int))) := (Kp.refl _ _).set (.inl (by simp)) _
          have NBY := NAB.set kb (vb + 1)
          rw [← HB1.out] at NBY
          have NAY := (S.on OwB).kp KS (by simpa using hAB)
          have KY := (KX.then (Kp.of _ OwB)).then (KS.mono (T := [A, B]) (fun x hx => .inl (by simp at hx ⊢; exact .inr hx)))
          refine hK.out _ _ KS (fun hHeld => ?_)
          rw [show ((vb + 1 : Nat) : Int) = (vb : Int) + 1 from by omega] at NBY NAY KY
          clear hK K
          try simp only [Act.put, List.setIfInBounds_toArray, List.set_cons_zero, List.set_cons_succ]
          refine wpAnyH_done (by kernel_rfl) ?_ _
          clear dA fAB hHeld hHeldN
          generalize wB.setCell ⟨B, kb, none⟩ (.int .i64 ((vb : Int) + 1)) = wY at *
          go_wp2_with fail
          go_roundw
          case rel => exact ⟨k + 1, false, by go_num, by omega, rfl, HBB2, NAY, NBY, KY⟩
          case measure => simp [intOf]; omega
      · obtain rfl : k = n := by omega
        have hkk : ¬ (k : Int) < (k : Int) := by omega
        have hCL := cntLTo_all l
        rw [HNN.out] at hCL
        rw [hCL] at NA
        have htk : l.take k = l := by rw [← HNN.out]; exact List.take_length
        rw [htk] at HBB
        have hnb := cntB_none (l := l)
        have hsb := cntB_some (l := l)
        rw [HNN.out] at hnb hsb
        have Ow : On w1 wr := K.on OM (fun y hy => by simp at hy; omega)
        have HNB := Lib.hid hnb
        have HSB := Lib.hid hsb
        have fB : wr.frozen? ⟨B, 0, none⟩ = false := NB.row.1.frozen _
        have d0 := NB.row.1.cell (i64s_get (show 0 < (cntBTo l k).length by rw [cntBTo_length]; omega))
        generalize (cntBTo l k).getD 0 0 = v0 at *
        clear hCL htk hnb hsb
        by_cases hbb : bb = true
        case' pos =>
          subst hbb
          have S := NB.set 0 1
          rw [← HNB.out (HBB.out.1 rfl)] at S
          have NA2 := NA.kp ((Kp.refl [B] wr).set (p := ⟨B, 0, none⟩) (.inl (by simp)) (.int .i64 ((1 : Nat) : Int))) (by simpa using hAB)
          have OZ := Ow.set (p := ⟨B, 0, none⟩) hB1 (.int .i64 ((1 : Nat) : Int))
          have NB2 := S
          clear S NA NB
          go_upto_region 18 with fail
          generalize wr.setCell ⟨B, 0, none⟩ (.int .i64 1) = wZ at *
        case' neg =>
          have hbf : bb = false := by simpa using hbb
          subst hbf
          have NA2 := NA
          have NB2 := NB
          rw [← HSB.out (fun e => by have := HBB.out.2 e; cases this)] at NB2
          have OZ := Ow
          clear NA NB
          go_upto_region 18 with fail
          obtain ⟨wZ, hwZ⟩ : ∃ wZ, wZ = wr := ⟨_, rfl⟩
          rw [← hwZ] at NA2 NB2 OZ ⊢
          clear hwZ
        all_goals
          have hOZ := HOW.out.on OZ
          have HOZ := Lib.hid hOZ
          have hqZ := Rq.on OZ
          have hz1 := OZ.size
          clear fB d0 K Rq6 HBB hOZ
          go_wp2_with fail
          refine (ilensof_calls (cntL l) A 0 286 286 15 wZ NA2.row.1.toO (cntL_length l) (by omega) (Nat.le_refl _) (fun x hx => by have := cntL_le l x hx; have := HNN.out; omega) (by omega) (by omega) ⟨256, cntL_last l⟩ (by rw [show 15 + 3 = 18 from rfl, fib18]; omega) (by have := used_pos (cntL_last l); omega) (by have := used_le (cntL l); rw [cntL_length] at this; omega)).mono ?_
          rintro e w3 ⟨rc, cc, rfl, Nc, hc, hc2, O3⟩
          have hLl : (fit 15 (cntL l)).length = 286 := (fitL l).1.len.trans (cntL_length l)
          rw [hLl] at Nc ⊢
          have hcc := Nc.row.2.2.1
          have HLl := Lib.hid hLl
          clear hLl
          go_wp2_with fail
          refine (itrim_calls (fit 15 (cntL l)) rc 286 cc 257 w3 Nc.row.1.toO HLl.out (by omega) hcc (by omega)).mono ?_
          rintro e w3b ⟨rfl, rfl⟩
          have hol : trimTo (fit 15 (cntL l)) 257 286 = (ownLit l).length := by unfold ownLit; rw [trim_length, HLl.out]
          rw [hol]
          have Rl : RowO w3b rc 0 3 (i64s (ownLit l)) := by
            have e : ownLit l = (fit 15 (cntL l)).take (trimTo (fit 15 (cntL l)) 257 286) := by unfold ownLit trim; rw [HLl.out]
            rw [e, i64s_take]
            exact (Nc.row.1.head _).toO
          have hln := ownLit_length l
          have HL15 := Lib.hid (trim_le (least := 257) (fitL l).2)
          obtain ⟨nl, hnl⟩ : ∃ nl, (ownLit l).length = nl := ⟨_, rfl⟩
          rw [hnl] at hln ⊢
          have HNL := Lib.hid hnl
          clear hol hnl
          have hub : used (cntB l) ≠ 0 := by
            obtain ⟨j, hj⟩ := HBP.out
            exact used_pos hj
          have HUB := Lib.hid hub
          clear hub
          go_wp2_with fail
          refine (ilensof_calls (cntB l) B 0 30 30 15 w3b (NB2.on O3).row.1.toO (cntB_length l) (by omega) (Nat.le_refl _) (fun x hx => by have := cntB_le HF.out x hx; have := HNN.out; omega) (by omega) (by omega) HBP.out (by rw [show 15 + 3 = 18 from rfl, fib18]; omega) (by have := HUB.out; omega) (by have := used_le (cntB l); rw [cntB_length] at this; omega)).mono ?_
          rintro e w4 ⟨rd, cd, rfl, Nd, hd, hd2, O4⟩
          have hBl : (fit 15 (cntB l)).length = 30 := HFB.out.1.len.trans (cntB_length l)
          rw [hBl] at Nd ⊢
          have hcd := Nd.row.2.2.1
          have HBl := Lib.hid hBl
          clear hBl
          go_wp2_with fail
          refine (itrim_calls (fit 15 (cntB l)) rd 30 cd 1 w4 Nd.row.1.toO HBl.out (by omega) hcd (by omega)).mono ?_
          rintro e w4b ⟨rfl, rfl⟩
          have hod : trimTo (fit 15 (cntB l)) 1 30 = (ownDist l).length := by unfold ownDist; rw [trim_length, HBl.out]
          rw [hod]
          have Rd : RowO w4b rd 0 3 (i64s (ownDist l)) := by
            have e : ownDist l = (fit 15 (cntB l)).take (trimTo (fit 15 (cntB l)) 1 30) := by unfold ownDist trim; rw [HBl.out]
            rw [e, i64s_take]
            exact (Nd.row.1.head _).toO
          have hdn := HDL.out
          have HD15 := Lib.hid (trim_le (least := 1) HFB.out.2)
          obtain ⟨nd, hnd⟩ : ∃ nd, (ownDist l).length = nd := ⟨_, rfl⟩
          rw [hnd] at hdn ⊢
          have HND := Lib.hid hnd
          have OZ4 := O3.call O4
          have Rl4 := Rl.on O4
          have Rq4 := hqZ.on OZ4
          have Ot4 := (O1.call OZ).call OZ4
          have HOR := Lib.hid (HOZ.out.on OZ4)
          clear hod hnd Nd Nc Rl NA2 NB2 hqZ HOZ
          obtain ⟨N, hN⟩ : ∃ N, nl + nd = N := ⟨_, rfl⟩
          obtain ⟨all, hall⟩ : ∃ all, ownLit l ++ ownDist l = all := ⟨_, rfl⟩
          have hal : all.length = N := by rw [← hall, List.length_append, HNL.out, HND.out]; exact hN
          have ha15 : ∀ y ∈ all, y ≤ 15 := by
            intro y hy
            rw [← hall] at hy
            rcases List.mem_append.1 hy with h | h
            · exact HL15.out y h
            · exact HD15.out y h
          have hane : all ≠ [] := by intro e; rw [e] at hal; simp at hal; omega
          have HN := Lib.hid hN
          have HALL := Lib.hid hall
          have HAL := Lib.hid hal
          have HA15 := Lib.hid ha15
          have HM := Lib.hid (ownMeta_ok ha15 hane)
          have HMP := Lib.hid (meta_pos ha15 hane)
          have hN3 : N ≤ 316 := by omega
          have hN0 : 258 ≤ N := by omega
          have HQ0 := Lib.hid (show 0 + nl = nl from Nat.zero_add nl)
          have NE := Own.new (base := w4b.heap.size) w4b 3 1 #[] 0 (Nat.zero_le _) rfl (Nat.le_refl _)
          have OE := (On.refl w4b).alloc (.cells #[] 3)
          have REl := Rl4.on OE
          have hq4l := Rq4.lt
          have hrcl := Rl4.lt
          have hrdl := Rd.lt
          clear hN hall hal ha15 hane
          go_upto_region 20 with (at_builtin; first | ((refine wpList_adds rfl _ _ rfl w4b (xs := []) (l := ownLit l) (q := nl) rfl NE OE rfl REl HNL.out HQ0.out (by omega) ?_); intro v1 w5 hown1 O5 _; rw [List.nil_append] at hown1; have REd := Rd.on O5) | ((refine wpList_adds rfl _ _ rfl w4b (xs := ownLit l) (l := ownDist l) (q := N) rfl hown1 O5 rfl REd HND.out HN.out (by omega) ?_); intro v2 w6 hown2 O6 _))
          rw [HALL.out] at hown2
          obtain ⟨G, cG, rfl, NG, hG, hGl⟩ := own_nums hown2 HAL.out
          have hcG := NG.row.2.2.1
          have hO6 := HOR.out.on O6
          have o0 := hO6.glob
          have HO6 := Lib.hid hO6
          clear NE OE REl hown1 O5 REd hown2 hO6
          go_upto_region 21 with (at_make; go_must (refine wpList_ints _ rfl _ _ rfl _ _ 19 rfl rfl rfl rfl (by omega) ?_); intro w7 N7 O7 hlt7)
          obtain ⟨C, hC⟩ : ∃ C, w6.heap.size = C := ⟨_, rfl⟩
          rw [hC] at N7 hlt7 ⊢
          have hz6 := O6.size
          have O67 := O6.call O7
          have NG7 := NG.on O7
          have HO7 := Lib.hid (HO6.out.on O7)
          clear NG o0 HO6
          go_wp2_with fail
          go_loopw [86] (fun y wr => ∃ (j : Nat), y = .int .i64 (j : Int) ∧ j ≤ N ∧ Nums wr C (.slice (some ⟨C, 0, none⟩) 19 19) (bump (List.replicate 19 0) (all.take j)) ∧ Kp [C] w7 wr) (fun y _ => N - (intOf y).toNat)
          case atStart => exact ⟨0, rfl, by omega, by rw [List.take_zero]; exact N7, Kp.refl _ _⟩
          case round =>
            obtain ⟨j, rfl, hj, NC, K⟩ := hrel
            clear N7
            by_cases hlt : j < N
            · have hkl : j < all.length := by rw [HAL.out]; exact hlt
              have c0 := (K.row NG7.row.1 (by simp; omega)).cell (i64s_get hkl)
              have hx15 := Cd.getD_le HA15.out j
              have hst := cntM_succ hkl
              generalize all.getD j 0 = y at *
              have hln2 : (bump (List.replicate 19 0) (all.take j)).length = 19 := by rw [bump_length, List.length_replicate]
              have d0 := NC.row.1.cell (i64s_get (show y < (bump (List.replicate 19 0) (all.take j)).length by rw [hln2]; omega))
              have hv := Cd.getD_le (cntM_le all j) y
              generalize (bump (List.replicate 19 0) (all.take j)).getD y 0 = v at *
              have fC : wr.frozen? ⟨C, y, none⟩ = false := NC.row.1.frozen _
              have HST := Lib.hid hst
              have hx19 : (y : Int) < 19 := by omega
              have hx0 : (0 : Int) ≤ (y : Int) := by omega
              have hkN : (j : Int) < (N : Int) := by omega
              have S := NC.set y (v + 1)
              rw [← HST.out] at S
              have K8 := K.set (p := ⟨C, y, none⟩) (.inl (by simp)) (.int .i64 ((v + 1 : Nat) : Int))
              rw [show ((v + 1 : Nat) : Int) = (v : Int) + 1 from by omega] at S K8
              clear hst hln2
              go_wp2_with fail
              go_roundw
              case rel => exact ⟨j + 1, by go_num, by omega, S, K8⟩
              case measure => simp [intOf]; omega
            · obtain rfl : j = N := by omega
              have e0 : all.take j = all := List.take_of_length_le (by rw [HAL.out]; exact Nat.le_refl _)
              rw [e0] at NC
              have hln2 : (bump (List.replicate 19 0) all).length = 19 := by rw [bump_length, List.length_replicate]
              have hle : ∀ y ∈ bump (List.replicate 19 0) all, y ≤ 100000 := fun y hy => by
                have := cntM_le all j
                rw [e0] at this
                have := this y hy
                omega
              have hfc := Lib.hid (ilensof_calls (bump (List.replicate 19 0) all) C 0 19 19 7 wr NC.row.1.toO hln2 (by omega) (Nat.le_refl _) hle (by omega) (by omega) HMP.out (by rw [show 7 + 3 = 10 from rfl, fib10]; omega)
                (by obtain ⟨a, ha⟩ := HMP.out; have := used_pos ha; omega) (by have := used_le (bump (List.replicate 19 0) all); rw [hln2] at this; omega))
              clear hln2 hle e0
              have jj : ¬ (j : Int) < (j : Int) := by omega
              go_wp2_with fail
              refine hfc.out.mono ?_
              rintro e w8 ⟨rM, cM, rfl, NM, hM1, hM2, O8⟩
              have em : fit 7 (bump (List.replicate 19 0) all) = ownMeta all := rfl
              rw [em] at NM ⊢
              rw [HM.out.len] at NM ⊢
              have hcM := NM.row.2.2.1
              have HM2 : RowKit.Hid (Meta all (ownMeta all)) := HM
              obtain ⟨m, hm⟩ : ∃ m, ownMeta all = m := ⟨_, rfl⟩
              rw [hm] at NM HM2
              have HMM := Lib.hid hm
              have Ok := K.on O67 (fun y hy => by simp at hy; omega)
              have O8t : On w4b w8 := Ok.call O8
              have HO8 := Lib.hid (HOR.out.on O8t)
              have RM := NM.row.1.toO
              have RG := ((K.row NG7.row.1 (by simp; omega)).on O8).toO
              have hz7 := K.size
              have hz8 := O8.size
              have hG8 := RG.lt
              have hrM8 := RM.lt
              clear em hm hfc HM NM NC NG7
              go_wp2_with fail
              refine (put_calls _ _ [] 1 1 _ (iw_new w8) (by omega) (by simp) (by omega)).mono ?_
              rintro e w9 ⟨r9, rfl, hw9, M9⟩
              have hr0 : w8.heap.size < (w8.alloc (.cells #[.slice none 0 0, .int .i64 0] 50)).heap.size := (Blk.new w8 _ _).lt
              have hr9 := M9.lt hr0
              obtain ⟨O9, hb9⟩ := M9.on ((On.refl w8).alloc _) (Nat.le_refl _) (Nat.le_refl _)
              go_wp2_with fail
              refine (put_calls _ _ _ 2 2 w9 hw9 (by omega) (by simp [bitsOf]) (by omega)).mono ?_
              rintro e w10 ⟨r10, rfl, hw10, M10⟩
              have hr10 := M10.lt hr9
              obtain ⟨O10, hb10⟩ := M10.on O9 (Nat.le_refl _) hb9
              obtain ⟨na, hna⟩ : ∃ na, nl - 257 = na := ⟨_, rfl⟩
              obtain ⟨nb, hnb⟩ : ∃ nb, nd - 1 = nb := ⟨_, rfl⟩
              have HEB := Lib.hid (show (nd : Int) - 1 = (nb : Int) by omega)
              have ea : (nl : Int) - 257 = (na : Int) := by omega
              have hna2 : na ≤ 29 := by omega
              have hnb2 : nb ≤ 29 := by omega
              have HNA := Lib.hid hna
              have HNB2 := Lib.hid hnb
              have hp1 := Lib.hid (put_calls w8.heap.size r10 _ na 5 w10 hw10 (by omega) (by simp [bitsOf]) (by omega))
              clear hw9 hw10 hna hnb
              go_wp2_with fail
              refine hp1.out.mono ?_
              rintro e w11 ⟨r11, rfl, hw11, M11⟩
              have hr11 := M11.lt hr10
              obtain ⟨O11, hb11⟩ := M11.on O10 (Nat.le_refl _) hb10
              have hp2 := Lib.hid (put_calls w8.heap.size r11 _ nb 5 w11 hw11 (by omega) (by simp only [List.length_append, bits_length, List.length_nil]; omega) (by omega))
              have eb := HEB.out
              clear hw11 hp1 ea
              go_wp2_with fail
              refine hp2.out.mono ?_
              rintro e w12 ⟨r12, rfl, hw12, M12⟩
              have hr12 := M12.lt hr11
              obtain ⟨O12, hb12⟩ := M12.on O11 (Nat.le_refl _) hb11
              have hp3 := Lib.hid (put_calls w8.heap.size r12 _ 15 4 w12 hw12 (by omega) (by simp only [List.length_append, bits_length, List.length_nil]; omega) (by omega))
              have hO12 := HO8.out.on O12
              have o12 := hO12.glob
              have HO12 := Lib.hid hO12
              clear hw12 hp2 eb hO12
              go_wp2_with fail
              refine hp3.out.mono ?_
              rintro e w13 ⟨r13, rfl, hw13, M13⟩
              have hr13 := M13.lt hr12
              obtain ⟨O13, hb13⟩ := M13.on O12 (Nat.le_refl _) hb12
              have hO13 := HO8.out.on O13
              have o13 := hO13.glob
              have HO13 := Lib.hid hO13
              obtain ⟨b3, hb3⟩ : ∃ b3, [] ++ bitsOf 1 1 ++ bitsOf 2 2 ++ bitsOf na 5 ++ bitsOf nb 5 ++ bitsOf 15 4 = b3 := ⟨_, rfl⟩
              have hl3 : b3.length = 17 := by rw [← hb3]; simp only [List.length_append, bits_length, List.length_nil]
              rw [hb3] at hw13
              have HB3 := Lib.hid hb3
              have HL3 := Lib.hid hl3
              have HW13 := Lib.hid hw13
              clear hb3 hl3 hw13 hp3 o12 hO13 M9 M10 M11 M12 M13 O9 O10 O11 O12 hb9 hb10 hb11 hb12 hr9 hr10 hr11 hr12
              go_wp2_with fail
              have hHe : RowKit.Hid (∀ W, On w8 W → ∀ i, i < 19 → W.cell? (x.add i) = some (.int .i64 (order.getD i 0 : Nat))) := Lib.hid (fun W O => (HO8.out.on O).cells)
              go_loopw [122] (fun y wr => ∃ (i r' : Nat), y = .int .i64 (i : Int) ∧ i ≤ 19 ∧ IW wr w8.heap.size r' (b3 ++ (order.take i).flatMap fun t => bitsOf (m.getD t 0) 3) ∧ On w8 wr ∧ w8.heap.size ≤ r' ∧ r' < wr.heap.size) (fun y _ => 19 - (intOf y).toNat)
              case atStart => exact ⟨0, r13, rfl, by omega, by rw [List.take_zero]; simpa using HW13.out, O13, hb13, hr13⟩
              case round =>
                obtain ⟨i, r14, rfl, hi, hw14, O14, hb14, hr14⟩ := hrel
                clear o13
                by_cases hlti : i < 19
                · have hio : i < order.length := hlti
                  have hi' : (i : Int) < 19 := by omega
                  have oc := hHe.out wr O14 i hlti
                  have hol := order_lt19 i hlti
                  have hfs := flat_succ (fun t => bitsOf (m.getD t 0) 3) hio
                  generalize hx : order.getD i 0 = ok at *
                  have c1 := (RM.on O14).cell (i64s_get (show ok < m.length by rw [HM2.out.len]; exact hol))
                  rw [Nat.zero_add] at c1
                  have hx7 := Cd.getD_le HM2.out.le ok
                  have hfl : ((order.take i).flatMap fun t => bitsOf (m.getD t 0) 3).length ≤ 19 * 3 := by
                    have := flat_len (order.take i) (fun t => bitsOf (m.getD t 0) 3) (m := 3) (fun y => by rw [bits_length]; exact Nat.le_refl _)
                    rw [List.length_take] at this
                    have h2 : min i order.length * 3 ≤ 19 * 3 := Nat.mul_le_mul_right _ (Nat.le_trans (Nat.min_le_left _ _) hi)
                    omega
                  have hbl : (b3 ++ (order.take i).flatMap fun t => bitsOf (m.getD t 0) 3).length ≤ 3000 := by
                    rw [List.length_append, HL3.out]; omega
                  have hfs2 : b3 ++ (order.take (i + 1)).flatMap (fun t => bitsOf (m.getD t 0) 3) = (b3 ++ (order.take i).flatMap fun t => bitsOf (m.getD t 0) 3) ++ bitsOf (m.getD ok 0) 3 := by rw [hfs, List.append_assoc]
                  generalize (b3 ++ (order.take i).flatMap fun t => bitsOf (m.getD t 0) 3) = bk at *
                  generalize m.getD ok 0 = y at *
                  have HFS := Lib.hid hfs2
                  have ho0 : (0 : Int) ≤ (ok : Int) := by omega
                  have ho19 : (ok : Int) < 19 := by omega
                  have hp := Lib.hid (put_calls w8.heap.size r14 bk y 3 wr hw14 (by omega) (by omega) (by omega))
                  clear hfs hfs2 hx hfl hw14
                  go_wp2_with fail
                  refine hp.out.mono ?_
                  rintro e w15 ⟨r15, rfl, hw15, M15⟩
                  have hr15 := M15.lt hr14
                  obtain ⟨O15, hb15⟩ := M15.on O14 (Nat.le_refl _) hb14
                  go_wp2_with fail
                  go_roundw
                  case rel => exact ⟨i + 1, r15, by go_num, by omega, by rw [HFS.out]; exact hw15, O15, hb15, hr15⟩
                  case measure => simp [intOf]; omega
                · have hi19 : i = 19 := by omega
                  have hi' : ¬ (i : Int) < 19 := by omega
                  have e0 : order.take i = order := by rw [hi19]; rfl
                  rw [e0] at hw14
                  have hfl : (order.flatMap fun t => bitsOf (m.getD t 0) 3).length ≤ 19 * 3 := flat_len order _ (fun y => by rw [bits_length]; exact Nat.le_refl _)
                  obtain ⟨b4, hb4⟩ : ∃ b4, b3 ++ (order.flatMap fun t => bitsOf (m.getD t 0) 3) = b4 := ⟨_, rfl⟩
                  have hl4 : b4.length ≤ 2000 := by rw [← hb4, List.length_append, HL3.out]; omega
                  rw [hb4] at hw14
                  have HB4 := Lib.hid hb4
                  have HW14 := Lib.hid hw14
                  have hci := Lib.hid (icodes_calls m rM 0 19 cM wr (RM.on O14) HM2.out.len (by omega) hcM)
                  clear e0 hfl hb4 hw14 hi19
                  go_wp2_with fail
                  refine hci.out.mono ?_
                  rintro e w16 ⟨rK, cK, rfl, NK, hK1, hK2, O16⟩
                  rw [codes_length, HM2.out.len] at NK ⊢
                  have RK := NK.row.1.toO
                  have O16t := O14.call O16
                  have RM16 := RM.on O16t
                  have RG16 := RG.on O16t
                  have hz14 := O14.size
                  have FM : RowKit.Hid (rM ∉ [w8.heap.size, r14]) := Lib.hid (not_in (by omega) (by omega))
                  have FK : RowKit.Hid (rK ∉ [w8.heap.size, r14]) := Lib.hid (not_in (by omega) (by omega))
                  have FG : RowKit.Hid (G ∉ [w8.heap.size, r14]) := Lib.hid (not_in (by omega) (by omega))
                  have hr16 : r14 < w16.heap.size := Nat.lt_of_lt_of_le hr14 O16.size
                  clear NK hci
                  go_wp2_with fail
                  go_loopw [137] (fun y wr => ∃ (t r' : Nat), y = .int .i64 (t : Int) ∧ t ≤ j ∧ IW wr w8.heap.size r' (b4 ++ (all.take t).flatMap (enc m)) ∧ Mv w8.heap.size r14 w16 r' wr) (fun y _ => j - (intOf y).toNat)
                  case atStart => exact ⟨0, r14, rfl, by omega, by rw [List.take_zero]; simpa using HW14.out.on O16, Mv.refl _ _ _⟩
                  case round =>
                    obtain ⟨t, r17, rfl, ht, hw17, M17⟩ := hrel
                    by_cases hltt : t < j
                    · have hjl : t < all.length := by rw [HAL.out]; exact hltt
                      have ht' : (t : Int) < (j : Int) := by omega
                      have c0 := (RG16.kp M17.kp FG.out).cell (i64s_get hjl)
                      rw [Nat.zero_add] at c0
                      have hfs := flat_succ (enc m) hjl
                      have hmem : all.getD t 0 ∈ all := by rw [List.getD_eq_getElem?_getD, List.getElem?_eq_getElem hjl]; exact List.getElem_mem _
                      have hx15 := HA15.out _ hmem
                      have hpos := HM2.out.pos _ hmem
                      generalize all.getD t 0 = y at *
                      have hfl : ((all.take t).flatMap (enc m)).length ≤ 316 * 15 := by
                        have := flat_len (all.take t) (enc m) (m := 15) (enc_length m (fun y hy => by have := HM2.out.le y hy; omega))
                        rw [List.length_take] at this
                        have h2 : min t all.length * 15 ≤ 316 * 15 := Nat.mul_le_mul_right _ (Nat.le_trans (Nat.min_le_left _ _) (by omega))
                        omega
                      have hbl : (b4 ++ (all.take t).flatMap (enc m)).length ≤ 10000 := by rw [List.length_append]; omega
                      have hfs2 : b4 ++ (all.take (t + 1)).flatMap (enc m) = (b4 ++ (all.take t).flatMap (enc m)) ++ enc m y := by rw [hfs, List.append_assoc]
                      generalize (b4 ++ (all.take t).flatMap (enc m)) = bk at *
                      have HFS := Lib.hid hfs2
                      have hsm : y < m.length := by rw [HM2.out.len]; omega
                      have h7 : m.getD y 0 ≤ 15 := by have := Cd.getD_le HM2.out.le y; omega
                      have hc := Lib.hid (code_calls w8.heap.size r17 bk m rM 0 19 cM rK 19 cK y wr hw17 (by omega) (RM16.kp M17.kp FM.out) (RK.kp M17.kp FK.out) HM2.out.len rfl hsm h7 (code_lt (ok_fits HM2.out.ok) hsm hpos h7) (M17.out RM16.lt FM.out) (M17.out RK.lt FK.out))
                      clear hmem hfs hfs2 hfl hw17 hpos hsm h7
                      go_wp2_with fail
                      refine hc.out.mono ?_
                      rintro e w18 ⟨r18, rfl, hw18, M18⟩
                      go_wp2_with fail
                      go_roundw
                      case rel => exact ⟨t + 1, r18, by go_num, by omega, by rw [HFS.out]; exact hw18, M17.trans M18⟩
                      case measure => simp [intOf]; omega
                    · obtain rfl : t = j := by omega
                      have e0 : all.take t = all := List.take_of_length_le (by rw [HAL.out]; exact Nat.le_refl _)
                      rw [e0] at hw17
                      have hhd : b4 ++ all.flatMap (enc m) = bitsOf 1 1 ++ bitsOf 2 2 ++ headBits (ownLit l) (ownDist l) := by
                        rw [← HB4.out, ← HB3.out]
                        unfold headBits
                        rw [HALL.out, HMM.out, HNL.out, HND.out, HNA.out, HNB2.out]
                        simp only [List.append_assoc, List.nil_append]
                      rw [hhd] at hw17
                      have hHL := head_length (ownLit l) (ownDist l) (by rw [HALL.out, HAL.out]; exact hN3) (by rw [HALL.out]; exact HA15.out) (by intro e; rw [HALL.out] at e; have := HAL.out; rw [e] at this; simp at this; omega)
                      have hr17 := M17.lt hr16
                      obtain ⟨O17, hb17⟩ := M17.on O16t (Nat.le_refl _) hb14
                      have O17t := O8t.call O17
                      have Rq17 := Rq4.on O17t
                      have Rl17 := Rl4.on O17t
                      have Rd17 := Rd.on O17t
                      have hz8t := O8t.size
                      have hne : bitsOf 1 1 ++ bitsOf 2 2 ++ headBits (ownLit l) (ownDist l) ≠ [] := by simp [bitsOf]
                      have hpt := Lib.hid (itokens_calls w8.heap.size r17 q k cq rc 0 nl cc rd 0 nd cd _ l (ownLit l) (ownDist l) wr hw17 hne (by simp only [List.length_append, bits_length]; omega) Rq17 Rl17 Rd17 HNN.out (by omega) hq1 HNL.out HND.out (by omega) (by omega) (by omega) (by omega)
                        H2.out (fine_of HTX.out) (not_in (by omega) (by omega)) (not_in (by omega) (by omega)) (not_in (by omega) (by omega)))
                      have tt : ¬ (t : Int) < (t : Int) := by omega
                      clear e0 hhd hw17 hne hHL
                      go_wp2_with fail
                      refine hpt.out.mono ?_
                      rintro e w19 ⟨r19, rfl, hw19, M19⟩
                      obtain ⟨O19, hb19⟩ := M19.on O17 (Nat.le_refl _) hb17
                      rw [← HOB.out] at hw19
                      obtain ⟨v, c0, hconv⟩ := hw19.text
                      have Ot := Ot4.call (O8t.call O19)
                      clear hw19 hpt
                      go_wp2_with fail
                      go_ret
                      exact ⟨by rw [HR.out]; rfl, Ot⟩
end Go.Proofs.YtncidljdfipigaaDoor.Wi

/- What FlatePut of the program does. Conditions: the variable order as it is laid. -/
namespace Go.Proofs.YtncidljdfipigaaDoor.Wi
open Go.RowKit Go.Proofs.YtncidljdfipigaaDoor.Mem Go.Proofs.YtncidljdfipigaaDoor.Bt Go.Proofs.YtncidljdfipigaaDoor.Cd Go.Proofs.YtncidljdfipigaaDoor.De Go.Proofs.YtncidljdfipigaaDoor.En Go.Proofs.YtncidljdfipigaaDoor.Lz Go.Proofs.YtncidljdfipigaaDoor.Hf
set_option linter.unusedVariables false
set_option linter.unusedSimpArgs false
theorem flateB_is (s : ByteArray) : flateB s = pickTo (storeB s) (fixedB s) (ownB s) 2 := by
  unfold flateB storeB fixedB ownB
  by_cases h : s.size ≤ 300
  · rw [if_pos h, if_pos h, if_pos h, if_pos h]; exact flate_pick s h
  · rw [if_neg h, if_neg h, if_neg h, if_neg h]; rfl
set_option maxRecDepth 100000 in
theorem iflateput_calls (s : ByteArray) (x : Addr) (w : World) (hO : Ord w x) :
    Calls Tryd.prog 34 #[.string s] w (Tells w (.string (flateB s))) := by
  have HR := Lib.hid (flateB_is s)
  have HS := Lib.hid (fun w => istore_calls s w)
  have HK := Lib.hid (fun w => ifixedput_calls s w)
  have HOW := Lib.hid (fun w h => iownput_calls s x w h)
  have HO := Lib.hid hO
  clear hO
  generalize storeB s = a at *
  generalize fixedB s = b at *
  generalize ownB s = c at *
  go_enter Tryd.func34, Tryd.ntmps34
  go_wp2_with fail
  refine (HS.out w).mono ?_
  rintro e w1 ⟨rfl, O1⟩
  go_wp2_with fail
  refine (HK.out w1).mono ?_
  rintro e w2 ⟨rfl, O2⟩
  go_wp2_with fail
  refine (HOW.out w2 (HO.out.on (O1.call O2))).mono ?_
  rintro e w3 ⟨rfl, O3⟩
  go_wp2_with fail
  have BB := Blk.new w3 9 #[.string b, .string c]
  have O4 := (O1.call (O2.call O3)).alloc (.cells #[.string b, .string c] 9)
  generalize hB : w3.heap.size = B at *
  generalize w3.alloc (.cells #[.string b, .string c] 9) = w4 at *
  go_loop [3, 14] (fun o i => ∃ k : Nat, k ≤ 2 ∧ i = .int .i64 (k : Int) ∧ o = .string (pickTo a b c k)) (fun _ i => 2 - (intOf i).toNat)
  case atStart => exact ⟨0, by omega, rfl, rfl⟩
  case round =>
    obtain ⟨k, hk, rfl, rfl⟩ := hrel
    by_cases hlt : k < 2
    · obtain ⟨v, c0, hv⟩ : ∃ v, w4.cell? ⟨B, k, none⟩ = some (.string v) ∧ pickTo a b c (k + 1) = choose (pickTo a b c k) v := by
        rcases (show k = 0 ∨ k = 1 by omega) with rfl | rfl
        · exact ⟨b, (BB.cell 0).trans rfl, rfl⟩
        · exact ⟨c, (BB.cell 1).trans rfl, rfl⟩
      have HV := Lib.hid hv
      clear hv
      have hlt' : (k : Int) < 2 := by omega
      generalize pickTo a b c k = p at *
      by_cases hs : v.size < p.size
      · have hs' : (v.size : Int) < (p.size : Int) := by omega
        have HC : RowKit.Hid (pickTo a b c (k + 1) = v) := Lib.hid (by rw [HV.out]; unfold choose; rw [if_pos hs])
        go_wp2_with fail
        go_round
        case rel => exact ⟨k + 1, by omega, by go_num, by rw [HC.out]⟩
        case measure => simp [intOf]; omega
      · have hs' : ¬ (v.size : Int) < (p.size : Int) := by omega
        have HC : RowKit.Hid (pickTo a b c (k + 1) = p) := Lib.hid (by rw [HV.out]; unfold choose; rw [if_neg hs])
        go_wp2_with fail
        go_round
        case rel => exact ⟨k + 1, by omega, by go_num, by rw [HC.out]⟩
        case measure => simp [intOf]; omega
    · obtain rfl : k = 2 := by omega
      go_wp2_with fail
      go_ret
      exact ⟨by rw [HR.out]; rfl, O4⟩
end Go.Proofs.YtncidljdfipigaaDoor.Wi

/- The walks of FnOwn, FnFlateShort, FnFlate, FnFlateTwo, FnFlateMany: at every input they return true and keep what was. The one fact that they take: order as it is laid. -/
namespace Go.Proofs.YtncidljdfipigaaDoor.Wi
open Go.RowKit Go.Proofs.YtncidljdfipigaaDoor.Mem Go.Proofs.YtncidljdfipigaaDoor.Bt Go.Proofs.YtncidljdfipigaaDoor.Cd Go.Proofs.YtncidljdfipigaaDoor.De Go.Proofs.YtncidljdfipigaaDoor.En Go.Proofs.YtncidljdfipigaaDoor.Draw
set_option linter.unusedVariables false
set_option linter.unusedSimpArgs false
theorem chars_own {s : ByteArray} (h : s.size ≤ 300) : chars (ownB s) = En.ownPut (chars s) := by
  unfold ownB
  rw [if_pos h]
  exact chars_strB (pack_lt _)
theorem chars_flate {s : ByteArray} (h : s.size ≤ 300) : chars (flateB s) = En.flatePut (chars s) := by
  unfold flateB
  rw [if_pos h]
  exact chars_strB (pack_bytes _ (chars_lt s))
theorem got_own {s : ByteArray} (h : s.size ≤ 300) (h7 : (ownB s).size ≤ 700) : gotOf (ownB s) = .tuple #[.string s, .int .i64 ((ownB s).size : Int), .bool true] := by
  refine got_of ?_
  have hl : (En.ownPut (chars s)).length = (ownB s).size := by rw [← chars_own h, chars_length]
  rw [chars_own h, own_flate (chars_lt s) (by rw [chars_length]; exact h) (by omega), hl]
theorem kind_own {s : ByteArray} (h : s.size ≤ 300) (h7 : (ownB s).size ≤ 700) : kindOf (chars (ownB s)) = 2 := by
  unfold kindOf
  have hl : (En.ownPut (chars s)).length = (ownB s).size := by rw [← chars_own h, chars_length]
  rw [chars_own h, own_flate (chars_lt s) (by rw [chars_length]; exact h) (by omega)]
  simp only []
  have hu : unpack (En.ownPut (chars s)) = (1 % 2 == 1) :: (bitsOf 2 2 ++ (headBits (ownLit (Lz.tokens (chars s))) (ownDist (Lz.tokens (chars s))) ++ (encToks (ownLit (Lz.tokens (chars s))) (ownDist (Lz.tokens (chars s))) (Lz.tokens (chars s)) ++ List.replicate ((8 - (ownBits (chars s)).length % 8) % 8) false))) := by
    unfold En.ownPut
    rw [unpack_pack']
    unfold pad
    conv => lhs; lhs; unfold ownBits
    simp only [List.append_assoc]
    rfl
  rw [head_kind (k := 2) (by omega) hu]; rfl
theorem got_flate {s : ByteArray} (h : s.size ≤ 300) : gotOf (flateB s) = .tuple #[.string s, .int .i64 ((flateB s).size : Int), .bool true] := by
  refine got_of ?_
  have hl : (En.flatePut (chars s)).length = (flateB s).size := by rw [← chars_flate h, chars_length]
  rw [chars_flate h, flatePut_flate (chars_lt s) (by rw [chars_length]; exact h), hl]
theorem flateB_size {s : ByteArray} (h : s.size ≤ 300) : 2 ≤ (flateB s).size ∧ (flateB s).size ≤ s.size + 5 := by
  have := flatePut_length (chars_lt s) (by rw [chars_length]; exact h)
  rw [← chars_flate h, chars_length, chars_length] at this
  exact this
theorem toList_ext {a b : ByteArray} (h : a.toList = b.toList) : a = b := by
  rw [ByteArray.toList_eq, ByteArray.toList_eq] at h
  exact ByteArray.ext (Array.toList_inj.1 h)
theorem flateB_nil : (flateB ⟨#[]⟩).size = 2 := by
  have h : (⟨#[]⟩ : ByteArray).size ≤ 300 := Nat.zero_le _
  rw [← chars_length, chars_flate h]
  exact flatePut_nil
theorem flateB_over {s : ByteArray} (h : ¬ s.size ≤ 300) : flateB s = ⟨#[]⟩ := by unfold flateB; rw [if_neg h]
theorem flateB_cases {s : ByteArray} (h : s.size ≤ 300) : (flateB s = storeB s ∨ flateB s = fixedB s ∨ flateB s = ownB s) ∧ (flateB s).size ≤ (storeB s).size ∧ (flateB s).size ≤ (fixedB s).size ∧ (flateB s).size ≤ (ownB s).size := by
  obtain ⟨h1, h2, h3, h4⟩ := flatePut_cases (chars s)
  rw [← chars_flate h, ← chars_store h, ← chars_fixed h, ← chars_own h] at h1
  rw [← chars_flate h, ← chars_store h, chars_length, chars_length] at h2
  rw [← chars_flate h, ← chars_fixed h, chars_length, chars_length] at h3
  rw [← chars_flate h, ← chars_own h, chars_length, chars_length] at h4
  refine ⟨?_, h2, h3, h4⟩
  rcases h1 with h | h | h
  · exact .inl (chars_ext h)
  · exact .inr (.inl (chars_ext h))
  · exact .inr (.inr (chars_ext h))
set_option maxRecDepth 100000 in
set_option maxHeartbeats 1000000 in
theorem law_own (a0 : Option Addr) (len0 cap0 : Nat) (z0 : List Int) (w : World) (hx : ∃ x, Ord w x) (w0 : (a0 = none ∧ len0 = 0 ∧ cap0 = 0 ∧ z0 = []) ∨ ∃ x, a0 = some x ∧ len0 ≤ cap0 ∧ cap0 ≤ maxLen ∧ z0.length = cap0 ∧ (∀ i, i < z0.length → w.cell? (x.add i) = some (.int .u8 (z0.getD i 0))) ∧ ∀ n ∈ z0, (Lit.int .u8 n).wf = true) :
    Calls Tryd.prog 12 #[.slice a0 len0 cap0] w (Tells w (.bool true)) := by
  obtain ⟨x, hO⟩ := hx
  by_cases hb : (1048576 : Int) < len0
  · go_enter Tryd.func12, Tryd.ntmps12
    go_wp2_with fail
    go_ret
    exact ⟨rfl, On.refl _⟩
  have hb' : (len0 : Int) ≤ 1048576 := by omega
  go_enter Tryd.func12, Tryd.ntmps12
  go_wp2_with fail
  refine (drawown_calls a0 len0 cap0 z0 w w0).mono ?_
  rintro e w1 ⟨s, hs, rfl, O⟩
  clear hs
  go_wp2_with fail
  refine (iownput_calls s x w1 (hO.on O)).mono ?_
  rintro e w2 ⟨rfl, O2⟩
  replace O := O.call O2
  go_wp2_with fail
  refine (sownput_calls s w2).mono ?_
  rintro e w3 ⟨rfl, O3⟩
  replace O := O.call O3
  by_cases h3 : s.size ≤ 300
  · have h3' : ¬ (300 : Int) < s.size := by omega
    have h3d : decide ((300 : Int) < s.size) = false := by simp; omega
    by_cases h7 : (ownB s).size ≤ 700
    · have HG := Lib.hid (got_own h3 h7)
      have HK := Lib.hid (kind_own h3 h7)
      have HF := Lib.hid (flateget_calls x (ownB s) w3 (hO.on O))
      generalize hx : ownB s = y at *
      have h7d : decide ((700 : Int) < y.size) = false := by simp; omega
      go_wp2_with fail
      refine HF.out.mono ?_
      rintro e w4 ⟨rfl, O4⟩
      replace O := O.call O4
      rw [HG.out]
      have HK2 := Lib.hid (flatekind_calls x y w4 (hO.on O))
      go_wp2_with fail
      refine HK2.out.mono ?_
      rintro e w5 ⟨rfl, O5⟩
      rw [HK.out]
      go_wp2_with fail
      go_ret
      exact ⟨rfl, O.call O5⟩
    · have HS := Lib.hid (sownput_calls s w3)
      generalize hx : ownB s = y at *
      have h7d : decide ((700 : Int) < y.size) = true := by simp; omega
      go_wp2_with fail
      refine HS.out.mono ?_
      rintro e w4 ⟨rfl, O4⟩
      go_wp2_with fail
      go_ret
      exact ⟨by simp, O.call O4⟩
  · have h3' : (300 : Int) < s.size := by omega
    have h3d : decide ((300 : Int) < s.size) = true := by simpa using h3'
    have HS := Lib.hid (sownput_calls s w3)
    generalize hx : ownB s = y at *
    go_wp2_with fail
    refine HS.out.mono ?_
    rintro e w4 ⟨rfl, O4⟩
    go_wp2_with fail
    go_ret
    exact ⟨by simp, O.call O4⟩
set_option maxRecDepth 100000 in
set_option maxHeartbeats 1000000 in
theorem law_short (a0 : Option Addr) (len0 cap0 : Nat) (z0 : List Int) (w : World) (hx : ∃ x, Ord w x) (w0 : (a0 = none ∧ len0 = 0 ∧ cap0 = 0 ∧ z0 = []) ∨ ∃ x, a0 = some x ∧ len0 ≤ cap0 ∧ cap0 ≤ maxLen ∧ z0.length = cap0 ∧ (∀ i, i < z0.length → w.cell? (x.add i) = some (.int .u8 (z0.getD i 0))) ∧ ∀ n ∈ z0, (Lit.int .u8 n).wf = true) :
    Calls Tryd.prog 11 #[.slice a0 len0 cap0] w (Tells w (.bool true)) := by
  obtain ⟨x, hO⟩ := hx
  by_cases hb : (1048576 : Int) < len0
  · go_enter Tryd.func11, Tryd.ntmps11
    go_wp2_with fail
    go_ret
    exact ⟨rfl, On.refl _⟩
  have hb' : (len0 : Int) ≤ 1048576 := by omega
  go_enter Tryd.func11, Tryd.ntmps11
  go_wp2_with fail
  refine (drawflateput_calls a0 len0 cap0 z0 w w0).mono ?_
  rintro e w1 ⟨s, hs, rfl, O⟩
  clear hs
  go_wp2_with fail
  refine (iflateput_calls s x w1 (hO.on O)).mono ?_
  rintro e w2 ⟨rfl, O2⟩
  replace O := O.call O2
  go_wp2_with fail
  refine (sflateput_calls s w2).mono ?_
  rintro e w3 ⟨rfl, O3⟩
  replace O := O.call O3
  by_cases h3 : s.size ≤ 300
  rotate_left
  · have h3' : (300 : Int) < s.size := by omega
    have h3d : decide ((300 : Int) < s.size) = true := by simpa using h3'
    have HS := Lib.hid (sflateput_calls s w3)
    generalize hx : flateB s = y at *
    go_wp2_with fail
    refine HS.out.mono ?_
    rintro e w4 ⟨rfl, O4⟩
    go_wp2_with fail
    go_ret
    exact ⟨by simp, O.call O4⟩
  have h3' : ¬ (300 : Int) < s.size := by omega
  have h3i : (s.size : Int) ≤ 300 := by omega
  have h3d : decide ((300 : Int) < s.size) = false := by simp; omega
  obtain ⟨hz1, hz2⟩ := flateB_size h3
  have HN := Lib.hid flateB_nil
  have HI := Lib.hid (iflateput_calls ⟨#[]⟩ x w3 (hO.on O))
  generalize hx : flateB s = y at *
  have hy1 : (y.size : Int) ≤ (s.size : Int) + 5 := by omega
  have hy2 : (2 : Int) ≤ (y.size : Int) := by omega
  have hy3 : decide ((y.size : Int) ≤ (s.size : Int) + 5) = true := by simpa using hy1
  have hy4 : decide ((2 : Int) ≤ (y.size : Int)) = true := by simpa using hy2
  have e5 : IntKind.i64.wrap ((s.size : Int) + 5) = (s.size : Int) + 5 := by rw [IntKind.wrap_i64]; omega
  go_wp2_with fail
  refine HI.out.mono ?_
  rintro e w4 ⟨rfl, O4⟩
  have hn2 := HN.out
  generalize flateB ⟨#[]⟩ = z at *
  have hz3 : ((z.size : Int) == 2) = true := by simp; omega
  go_wp2_with fail
  go_ret
  exact ⟨rfl, O.call O4⟩
set_option maxRecDepth 100000 in
set_option maxHeartbeats 1000000 in
theorem law_flate (a0 : Option Addr) (len0 cap0 : Nat) (z0 : List Int) (w : World) (hx : ∃ x, Ord w x) (w0 : (a0 = none ∧ len0 = 0 ∧ cap0 = 0 ∧ z0 = []) ∨ ∃ x, a0 = some x ∧ len0 ≤ cap0 ∧ cap0 ≤ maxLen ∧ z0.length = cap0 ∧ (∀ i, i < z0.length → w.cell? (x.add i) = some (.int .u8 (z0.getD i 0))) ∧ ∀ n ∈ z0, (Lit.int .u8 n).wf = true) :
    Calls Tryd.prog 15 #[.slice a0 len0 cap0] w (Tells w (.bool true)) := by
  obtain ⟨x, hO⟩ := hx
  by_cases hb : (1048576 : Int) < len0
  · go_enter Tryd.func15, Tryd.ntmps15
    go_wp2_with fail
    go_ret
    exact ⟨rfl, On.refl _⟩
  have hb' : (len0 : Int) ≤ 1048576 := by omega
  go_enter Tryd.func15, Tryd.ntmps15
  go_wp2_with fail
  refine (drawflateput_calls a0 len0 cap0 z0 w w0).mono ?_
  rintro e w1 ⟨s, hs, rfl, O⟩
  clear hs
  go_wp2_with fail
  refine (iflateput_calls s x w1 (hO.on O)).mono ?_
  rintro e w2 ⟨rfl, O2⟩
  replace O := O.call O2
  go_wp2_with fail
  refine (sflateput_calls s w2).mono ?_
  rintro e w3 ⟨rfl, O3⟩
  replace O := O.call O3
  by_cases h3 : s.size ≤ 300
  rotate_left
  · have h3' : (300 : Int) < s.size := by omega
    have h3d : decide ((300 : Int) < s.size) = true := by simpa using h3'
    have HS := Lib.hid (sflateput_calls s w3)
    generalize hx : flateB s = y at *
    go_wp2_with fail
    refine HS.out.mono ?_
    rintro e w4 ⟨rfl, O4⟩
    go_wp2_with fail
    go_ret
    exact ⟨by simp, O.call O4⟩
  have h3' : ¬ (300 : Int) < s.size := by omega
  have h3i : (s.size : Int) ≤ 300 := by omega
  have h3d : decide ((300 : Int) < s.size) = false := by simp; omega
  obtain ⟨hz1, hz2⟩ := flateB_size h3
  obtain ⟨hc, hca, hcb, hcc⟩ := flateB_cases h3
  have HG := Lib.hid (got_flate h3)
  have HSt := Lib.hid (fun w => istore_calls s w)
  have HFi := Lib.hid (fun w => ifixedput_calls s w)
  have HOw := Lib.hid (fun w h => iownput_calls s x w h)
  have HF := Lib.hid (fun y w h => flateget_calls x y w h)
  generalize flateB s = y at *
  generalize storeB s = a at *
  generalize fixedB s = b at *
  generalize ownB s = c at *
  have HC := Lib.hid hc
  clear hc
  have ya : (y.size : Int) ≤ a.size := by omega
  have yb : (y.size : Int) ≤ b.size := by omega
  have yc : (y.size : Int) ≤ c.size := by omega
  have ya' : decide (y.size ≤ a.size) = true := by simpa using hca
  have yb' : decide (y.size ≤ b.size) = true := by simpa using hcb
  have yc' : decide (y.size ≤ c.size) = true := by simpa using hcc
  go_wp2_with fail
  refine (HSt.out w3).mono ?_
  rintro e w4 ⟨rfl, O4⟩
  replace O := O.call O4
  go_wp2_with fail
  refine (HFi.out w4).mono ?_
  rintro e w5 ⟨rfl, O5⟩
  replace O := O.call O5
  go_wp2_with fail
  refine (HOw.out w5 (hO.on O)).mono ?_
  rintro e w6 ⟨rfl, O6⟩
  replace O := O.call O6
  go_wp2_with fail
  refine (HF.out y w6 (hO.on O)).mono ?_
  rintro e w7 ⟨rfl, O7⟩
  rw [HG.out]
  clear HG HSt HFi HOw HF ya yb yc ya' yb' yc'
  by_cases hya : y = a
  · subst hya
    have yb : (y.size : Int) ≤ b.size := by omega
    have yc : (y.size : Int) ≤ c.size := by omega
    go_wp2_with fail
    go_ret
    exact ⟨by simp [hcb, hcc], O.call O7⟩
  have n1 : ¬ y.toList = a.toList := fun h => hya (toList_ext h)
  have ya : (y.size : Int) ≤ a.size := by omega
  by_cases hyb : y = b
  · subst hyb
    have yc : (y.size : Int) ≤ c.size := by omega
    go_wp2_with fail
    go_ret
    exact ⟨by simp [hca, hcc], O.call O7⟩
  · have n2 : ¬ y.toList = b.toList := fun h => hyb (toList_ext h)
    have yb : (y.size : Int) ≤ b.size := by omega
    have hyc : y = c := by
      rcases HC.out with h | h | h
      · exact absurd h hya
      · exact absurd h hyb
      · exact h
    subst hyc
    go_wp2_with fail
    go_ret
    exact ⟨by simp [hca, hcb], O.call O7⟩
set_option maxRecDepth 100000 in
set_option maxHeartbeats 1000000 in
theorem law_two (a0 : Option Addr) (len0 cap0 : Nat) (z0 : List Int) (w : World) (hx : ∃ x, Ord w x) (w0 : (a0 = none ∧ len0 = 0 ∧ cap0 = 0 ∧ z0 = []) ∨ ∃ x, a0 = some x ∧ len0 ≤ cap0 ∧ cap0 ≤ maxLen ∧ z0.length = cap0 ∧ (∀ i, i < z0.length → w.cell? (x.add i) = some (.int .u8 (z0.getD i 0))) ∧ ∀ n ∈ z0, (Lit.int .u8 n).wf = true) :
    Calls Tryd.prog 16 #[.slice a0 len0 cap0] w (Tells w (.bool true)) := by
  obtain ⟨x, hO⟩ := hx
  by_cases hb : (1048576 : Int) < len0
  · go_enter Tryd.func16, Tryd.ntmps16
    go_wp2_with fail
    go_ret
    exact ⟨rfl, On.refl _⟩
  have hb' : (len0 : Int) ≤ 1048576 := by omega
  go_enter Tryd.func16, Tryd.ntmps16
  go_wp2_with fail
  refine (drawflateput_calls a0 len0 cap0 z0 w w0).mono ?_
  rintro e w1 ⟨s, hs, rfl, O⟩
  clear hs
  go_wp2_with fail
  refine (iflateput_calls s x w1 (hO.on O)).mono ?_
  rintro e w2 ⟨rfl, O2⟩
  replace O := O.call O2
  go_wp2_with fail
  refine (sflateput_calls s w2).mono ?_
  rintro e w3 ⟨rfl, O3⟩
  replace O := O.call O3
  by_cases h3 : s.size ≤ 300
  rotate_left
  · have h3' : (300 : Int) < s.size := by omega
    have h3d : decide ((300 : Int) < s.size) = true := by simpa using h3'
    have HS := Lib.hid (sflateput_calls s w3)
    rw [flateB_over h3] at HS ⊢
    generalize hx : flateB s = y at *
    go_wp2_with fail
    refine HS.out.mono ?_
    rintro e w4 ⟨rfl, O4⟩
    go_wp2_with fail
    go_ret
    exact ⟨by simp, O.call O4⟩
  have h3' : ¬ (300 : Int) < s.size := by omega
  have h3i : (s.size : Int) ≤ 300 := by omega
  have h3d : decide ((300 : Int) < s.size) = false := by simp; omega
  obtain ⟨hz1, hz2⟩ := flateB_size h3
  have HG := Lib.hid (got_flate h3)
  have HS := Lib.hid (fun w => sflateput_calls s w)
  generalize flateB s = y at *
  have hne := not_empty (y := y) (by omega)
  by_cases h4 : y.size ≤ 300
  rotate_left
  · have h4' : (300 : Int) < y.size := by omega
    have h4d : decide ((300 : Int) < y.size) = true := by simpa using h4'
    go_wp2_with fail
    refine (HS.out w3).mono ?_
    rintro e w4 ⟨rfl, O4⟩
    go_wp2_with fail
    go_ret
    exact ⟨by simp, O.call O4⟩
  have h4' : ¬ (300 : Int) < y.size := by omega
  have h4i : (y.size : Int) ≤ 300 := by omega
  have h4d : decide ((300 : Int) < y.size) = false := by simp; omega
  obtain ⟨hz3, hz4⟩ := flateB_size h4
  have HG2 := Lib.hid (got_flate h4)
  have HI := Lib.hid (iflateput_calls y x w3 (hO.on O))
  generalize flateB y = z at *
  have e5 : IntKind.i64.wrap ((y.size : Int) + 5) = (y.size : Int) + 5 := by rw [IntKind.wrap_i64]; omega
  have hzi : (z.size : Int) ≤ (y.size : Int) + 5 := by omega
  have hzd : decide ((z.size : Int) ≤ (y.size : Int) + 5) = true := by simpa using hzi
  have HF := Lib.hid (fun y w h => flateget_calls x y w h)
  go_wp2_with fail
  refine HI.out.mono ?_
  rintro e w4 ⟨rfl, O4⟩
  replace O := O.call O4
  go_wp2_with fail
  refine (HF.out z w4 (hO.on O)).mono ?_
  rintro e w5 ⟨rfl, O5⟩
  replace O := O.call O5
  rw [HG2.out]
  go_wp2_with fail
  refine (HF.out y w5 (hO.on O)).mono ?_
  rintro e w6 ⟨rfl, O6⟩
  rw [HG.out]
  go_wp2_with fail
  go_ret
  exact ⟨by simp, O.call O6⟩
end Go.Proofs.YtncidljdfipigaaDoor.Wi

/- The walk of FnFlateMany: at every input it returns true and keeps what was. The one fact that it takes: order as it is laid. -/
namespace Go.Proofs.YtncidljdfipigaaDoor.Wi
open Go.RowKit Go.Proofs.YtncidljdfipigaaDoor.Mem Go.Proofs.YtncidljdfipigaaDoor.Bt Go.Proofs.YtncidljdfipigaaDoor.Cd Go.Proofs.YtncidljdfipigaaDoor.De Go.Proofs.YtncidljdfipigaaDoor.En Go.Proofs.YtncidljdfipigaaDoor.Draw
set_option linter.unusedVariables false
set_option linter.unusedSimpArgs false
theorem same_size {b : Nat} (hb : b < 256) : (strB (List.replicate 300 b)).size ≤ 300 ∧ (flateB (strB (List.replicate 300 b))).size < 30 := by
  have h : (strB (List.replicate 300 b)).size ≤ 300 := by rw [strB_size, List.length_replicate]; exact Nat.le_refl _
  refine ⟨h, ?_⟩
  rw [← chars_length, chars_flate h, chars_strB (fun x hx => by have := List.eq_of_mem_replicate hx; omega)]
  exact flatePut_same b hb
theorem add_zero' (x : Addr) : x.add 0 = x := by unfold Addr.add; split <;> simp_all
set_option maxRecDepth 100000 in
set_option maxHeartbeats 1000000 in
theorem law_many (a0 : Option Addr) (len0 cap0 : Nat) (z0 : List Int) (w : World) (hx : ∃ x, Ord w x) (w0 : (a0 = none ∧ len0 = 0 ∧ cap0 = 0 ∧ z0 = []) ∨ ∃ x, a0 = some x ∧ len0 ≤ cap0 ∧ cap0 ≤ maxLen ∧ z0.length = cap0 ∧ (∀ i, i < z0.length → w.cell? (x.add i) = some (.int .u8 (z0.getD i 0))) ∧ ∀ n ∈ z0, (Lit.int .u8 n).wf = true) :
    Calls Tryd.prog 13 #[.slice a0 len0 cap0] w (Tells w (.bool true)) := by
  obtain ⟨x, hO⟩ := hx
  by_cases hb : (1048576 : Int) < len0
  · go_enter Tryd.func13, Tryd.ntmps13
    go_wp2_with fail
    go_ret
    exact ⟨rfl, On.refl _⟩
  have hb' : (len0 : Int) ≤ 1048576 := by omega
  have hfirst : len0 = 0 ∨ ∃ (y : Addr) (b : Nat), a0 = some y ∧ 0 < len0 ∧ b < 256 ∧ w.cell? y = some (.int .u8 (b : Int)) := by
    rcases w0 with ⟨_, h, _⟩ | ⟨y, hy, h1, h2, h3, h4, h5⟩
    · exact .inl h
    · rcases Nat.eq_zero_or_pos len0 with h0 | h0
      · exact .inl h0
      · have hl : 0 < z0.length := by omega
        have hc := h4 0 hl
        rw [add_zero'] at hc
        have hm : z0.getD 0 0 ∈ z0 := by rw [List.getD_eq_getElem?_getD, List.getElem?_eq_getElem hl]; exact List.getElem_mem _
        obtain ⟨b0, b1⟩ := wf_u8 (h5 _ hm)
        obtain ⟨b, hb⟩ := Int.eq_ofNat_of_zero_le b0
        rw [hb] at hc b1
        exact .inr ⟨y, b, hy, h0, by omega, hc⟩
  clear w0
  have HF := Lib.hid (fun y w h => flateget_calls x y w h)
  have HPi := Lib.hid (fun y w h => iflateput_calls y x w h)
  have HPs := Lib.hid (fun y w => sflateput_calls y w)
  have HOr := Lib.hid hO
  clear hO
  go_enter Tryd.func13, Tryd.ntmps13
  rcases hfirst with h0 | ⟨y, b, rfl, h0, hb2, c0⟩
  case' inl =>
    have h0' : ¬ (0 : Int) < len0 := by omega
    go_upto_region 6 with fail
    obtain ⟨b, hbz⟩ : ∃ b : Nat, b = 0 := ⟨0, rfl⟩
    have hb2 : b < 256 := by omega
    rw [show Value.int .u8 0 = Value.int .u8 (b : Int) from by rw [hbz]; rfl]
    clear hbz
  case' inr =>
    have h0' : (0 : Int) < len0 := by omega
    go_upto_region 6 with fail
    clear c0
  all_goals
    go_wp2_with fail
    have B0 := By.new w
    have O0 := (On.refl w).alloc (.cells #[] 5)
    generalize hR : w.heap.size = R at *
    have hRle : w.heap.size ≤ R := by omega
    generalize w.alloc (.cells #[] 5) = w1 at *
    go_loopw [4, 5] (fun o i wr => ∃ (r cap k : Nat), o = .slice (some ⟨r, 0, none⟩) k cap ∧ i = .int .i64 (k : Int) ∧ k ≤ 300 ∧ By wr r cap (List.replicate k b) ∧ On w wr ∧ w.heap.size ≤ r) (fun _ i _ => 300 - (intOf i).toNat)
    case atStart => exact ⟨R, 0, 0, rfl, rfl, by omega, B0, O0, hRle⟩
    case round =>
      obtain ⟨r, cap, k, rfl, rfl, hk, hBy, O, hr⟩ := hrel
      have hby := hBy.out
      have hlen : (List.replicate k b).length = k := List.length_replicate
      by_cases hlt : k < 300
      · have hlt' : (k : Int) < 300 := by omega
        rw [hlen] at hby
        go_wp2_with (at_builtin; go_must (refine wpList_byte (x := b) rfl _ _ rfl rfl hby rfl (by rw [List.length_replicate]; omega) ?_); intro r6 cap6 w6 hby6 hr6 hrl6 K6 hc1 hc2)
        rw [hlen] at hby6
        go_roundw
        case rel =>
          refine ⟨r6, cap6, k + 1, rfl, by go_num, by omega, ⟨?_⟩, K6.on O (fun y hy => by simp at hy; omega), by have := O.size; omega⟩
          rw [List.replicate_succ', List.length_append, List.length_replicate]
          exact hby6
        case measure => simp [intOf]; omega
      · have hk3 : k = 300 := by omega
        have hlt' : ¬ (k : Int) < 300 := by omega
        rw [hk3] at hBy hlen
        obtain ⟨hs1, hs2⟩ := same_size hb2
        have cvW : ∀ W, On wr W → (convert 22 9 (.slice (some ⟨r, 0, none⟩) k cap)).run Tryd.prog W = .ok (.string (strB (List.replicate 300 b))) W := fun W h => by
          have := bytes_conv (hBy.on h).out
          rw [hlen] at this
          rw [hk3]
          exact this
        have HCV := Lib.hid cvW
        have HG := Lib.hid (got_flate hs1)
        generalize strB (List.replicate 300 b) = t at *
        have cv := HCV.out wr (On.refl _)
        have HPt := Lib.hid (HPi.out t wr (HOr.out.on O))
        have HPs' := Lib.hid (fun w => HPs.out t w)
        clear HPi HPs cvW hBy hby hlen hk3
        generalize flateB t = f at *
        go_wp2_with fail
        refine HPt.out.mono ?_
        rintro e w2 ⟨rfl, O2⟩
        have cv2 := HCV.out w2 O2
        clear cv
        go_wp2_with fail
        refine (HF.out f w2 (HOr.out.on (O.call O2))).mono ?_
        rintro e w3 ⟨rfl, O3⟩
        have O23 := O2.call O3
        have cv3 := HCV.out w3 O23
        rw [HG.out]
        clear cv2
        go_wp2_with fail
        refine (HPs'.out w3).mono ?_
        rintro e w4 ⟨rfl, O4⟩
        have O24 := O23.call O4
        have cv4 := HCV.out w4 O24
        have hf : (f.size : Int) < 30 := by omega
        clear cv3
        go_wp2_with fail
        go_ret
        exact ⟨by simp [hs2], O.call O24⟩
end Go.Proofs.YtncidljdfipigaaDoor.Wi

/- The specification's reader of bits: what bit, num and whole do. Conditions: a reader of a text. -/
namespace Go.Proofs.YtncidljdfipigaaDoor.Wi
open Go.RowKit Go.Proofs.YtncidljdfipigaaDoor.Mem Go.Proofs.YtncidljdfipigaaDoor.Bt
set_option linter.unusedVariables false
set_option linter.unusedSimpArgs false
/-- The specification's reader at block g: the text, where it is, whether it is bad. -/
structure SR (w : World) (g : Nat) (s : ByteArray) (p : Nat) (bad : Bool) : Prop where mk ::
  out : Blk w g 103 #[.string s, .int .i64 (p : Int), .bool bad]
  le : p ≤ 8 * s.size
  sz : s.size ≤ 1000000
theorem SR.kp {w w' : World} {g p : Nat} {s : ByteArray} {b : Bool} {S : List Nat} (h : SR w g s p b) (k : Kp S w w') (hg : g ∉ S) : SR w' g s p b := ⟨k.blk h.out hg, h.le, h.sz⟩
theorem SR.on {w w' : World} {g p : Nat} {s : ByteArray} {b : Bool} (h : SR w g s p b) (O : On w w') : SR w' g s p b := h.kp (Kp.of [] O) (by simp)
set_option maxRecDepth 100000 in
theorem sbit_calls (g : Nat) (s : ByteArray) (p : Nat) (b : Bool) (w : World) (hw : SR w g s p b) :
    Calls Tryd.prog 133 #[.pointer (some ⟨g, 0, none⟩)] w fun e w' => e = .returned (.int .i64 (numAt s p 1 : Nat)) ∧ SR w' g s (min (p + 1) (8 * s.size)) (b || decide (8 * s.size < p + 1)) ∧ Kp [g] w w' := by
  obtain ⟨hb, hle, hsz⟩ := hw
  have c0 : w.cell? ⟨g, 0, none⟩ = some (.string s) := (hb.cell 0).trans rfl
  have c1 : w.cell? ⟨g, 1, none⟩ = some (.int .i64 p) := (hb.cell 1).trans rfl
  have c2 : w.cell? ⟨g, 2, none⟩ = some (.bool b) := (hb.cell 2).trans rfl
  have fr : ∀ i, w.frozen? ⟨g, i, none⟩ = false := hb.frozen
  have e0 : IntKind.i64.wrap (8 * (s.size : Int)) = 8 * (s.size : Int) := by rw [IntKind.wrap_i64]; omega
  by_cases h : p < 8 * s.size
  · have hi : (p : Int) < 8 * s.size := by omega
    have hi2 : decide (8 * (s.size : Int) ≤ (p : Int)) = false := by simp; omega
    obtain ⟨q, k, hq, hpq, hpk, hv⟩ : ∃ q k, ∃ hq : q < s.size, p / 8 = q ∧ p % 8 = k ∧ numAt s p 1 = s[q].toNat / 2 ^ k % 2 := ⟨p / 8, p % 8, by omega, rfl, rfl, numAt_one h⟩
    have e1 : IntKind.i64.wrap ((p : Int) / 8) = (q : Int) := by rw [IntKind.wrap_i64]; omega
    have e2 : Int.tmod (p : Int) 8 = (k : Int) := by rw [show (8 : Int) = ((8 : Nat) : Int) from rfl, tmod_nat, hpk]
    have e3 : Int.tdiv (p : Int) 8 = (q : Int) := by rw [show (8 : Int) = ((8 : Nat) : Int) from rfl, tdiv_nat, hpq]
    have hq2 : (q : Int) < s.size := by omega
    have hk2 : k < 8 := by omega
    have HV := Lib.hid hv
    clear hv hpq hpk
    obtain ⟨m, hm⟩ : ∃ m, 2 ^ k = m := ⟨_, rfl⟩
    have HM := Lib.hid hm
    have hm1 : 1 ≤ m := by rw [← hm]; exact Nat.one_le_two_pow
    clear hm
    have hm2 : ((m : Int) == 0) = false := by simp; omega
    have hm0 : (m : Int) ≠ 0 := by omega
    have hx : s[q].toNat < 256 := s[q].toNat_lt
    obtain ⟨y, hy⟩ : ∃ y, s[q].toNat / m = y := ⟨_, rfl⟩
    have hd : y < 256 := by rw [← hy]; exact Nat.lt_of_le_of_lt (Nat.div_le_self _ _) hx
    have e6 : Int.tdiv (s[q].toNat : Int) (m : Int) = (y : Int) := by rw [tdiv_nat, hy]
    have e7 : Int.tmod (y : Int) 2 = ((y % 2 : Nat) : Int) := tmod_nat _ 2
    have e8 : wrap64 (s[q].toNat : Int) = (s[q].toNat : Int) := by unfold wrap64; omega
    have e9 : IntKind.i64.wrap (y : Int) = (y : Int) := by rw [IntKind.wrap_i64]; omega
    have HY := Lib.hid hy
    clear hy hx
    go_enter Tryd.func133, Tryd.ntmps133
    go_wp2_with fail
    go_quiet (fail)
    go_wp2_with fail
    go_quiet (first
      | (go_at_call 119; exact (pow_same k m HM (by omega) _).mono fun _ _ h => ⟨h.1, _, h.2⟩))
    go_wp2_with fail
    go_ret
    refine ⟨?_, ⟨?_, Nat.min_le_right _ _, hsz⟩, ?_⟩
    · show Ending.returned (.int .i64 ((y : Int) % 2)) = _
      rw [HV.out, HM.out, HY.out, show ((y : Int) % 2) = ((y % 2 : Nat) : Int) from by omega]
    · rw [Nat.min_eq_left (by omega), show decide (8 * s.size < p + 1) = false from by simp; omega, Bool.or_false]
      exact ((hb.drewN _).set 1 (.int .i64 ((p : Int) + 1)))
    · exact ((Kp.refl [g] w).drewN _).set (.inl (by simp)) _
  · have hi : 8 * (s.size : Int) ≤ p := by omega
    go_enter Tryd.func133, Tryd.ntmps133
    go_wp2_with fail
    go_quiet (fail)
    go_wp2_with fail
    go_ret
    refine ⟨by rw [numAt_end (by omega)]; rfl, ⟨?_, Nat.min_le_right _ _, hsz⟩, ?_⟩
    · rw [show min (p + 1) (8 * s.size) = p from by omega, show decide (8 * s.size < p + 1) = true from by simp; omega, Bool.or_true]
      exact ((hb.drewN _).set 2 (.bool true))
    · exact ((Kp.refl [g] w).drewN _).set (.inl (by simp)) _
set_option maxRecDepth 100000 in
theorem snum_calls (g n : Nat) (s : ByteArray) (p : Nat) (b : Bool) (w : World) (hw : SR w g s p b) (hn : n ≤ 16) :
    Calls Tryd.prog 134 #[.pointer (some ⟨g, 0, none⟩), .int .i64 (n : Int)] w fun e w' => e = .returned (.int .i64 (numAt s p n : Nat)) ∧ SR w' g s (min (p + n) (8 * s.size)) (b || decide (8 * s.size < p + n)) ∧ Kp [g] w w' := by
  go_enter Tryd.func134, Tryd.ntmps134
  go_wp2_with fail
  go_loopw [5, 6] (fun y x wr => ∃ (k : Nat), x = .int .i64 k ∧ k ≤ n ∧ y = .int .i64 (numAt s p k : Nat) ∧ SR wr g s (min (p + k) (8 * s.size)) (b || decide (8 * s.size < p + k)) ∧ Kp [g] w wr) (fun _ x _ => n - (intOf x).toNat)
  case atStart =>
    have hle := hw.le
    refine ⟨0, rfl, by omega, by simp [numAt, val], ?_, Kp.refl _ _⟩
    rw [Nat.add_zero, Nat.min_eq_left hle, show decide (8 * s.size < p) = false from by simp; omega, Bool.or_false]
    exact hw
  case round =>
    obtain ⟨k, rfl, hk, rfl, hr, K⟩ := hrel
    by_cases hlt : k < n
    · have hc := sbit_calls g s _ _ wr hr
      rw [numAt_min] at hc
      have hx := numAt_lt s (p + k) 1
      have hy := numAt_lt s p k
      have hs := numAt_succ s p k
      have hk3 : (k : Int) < n := by omega
      have HS := Lib.hid hs
      have HC := Lib.hid hc
      clear hs hc
      have hp16 : 2 ^ k ≤ 2 ^ 16 := Nat.pow_le_pow_right (by omega) (by omega)
      obtain ⟨m, hm⟩ : ∃ m, 2 ^ k = m := ⟨_, rfl⟩
      rw [hm] at hy hp16 HS
      have HM := Lib.hid hm
      clear hm
      generalize numAt s (p + k) 1 = x at *
      generalize numAt s p k = y at *
      have hmx : m * x ≤ m * 1 := Nat.mul_le_mul_left _ (by omega)
      have e1 : IntKind.i64.wrap ((x : Int) * (m : Int)) = ((m * x : Nat) : Int) := by rw [← Int.natCast_mul, Nat.mul_comm, IntKind.wrap_i64]; omega
      have e2 : IntKind.i64.wrap ((y : Int) + ((m * x : Nat) : Int)) = ((y + m * x : Nat) : Int) := by rw [IntKind.wrap_i64]; omega
      generalize m * x = z at *
      go_wp2_with fail
      refine HC.out.mono ?_
      rintro e w2 ⟨rfl, hr2, K2⟩
      go_wp2_with fail
      refine (pow_same k m HM (by omega) w2).mono ?_
      rintro e w3 ⟨rfl, rfl⟩
      go_wp2_with fail
      go_roundw
      case rel =>
        refine ⟨k + 1, by go_num, by omega, by rw [HS.out]; rfl, ?_, K.then K2⟩
        have e1 : min (min (p + k) (8 * s.size) + 1) (8 * s.size) = min (p + (k + 1)) (8 * s.size) := by omega
        have e2 : ((b || decide (8 * s.size < p + k)) || decide (8 * s.size < min (p + k) (8 * s.size) + 1)) = (b || decide (8 * s.size < p + (k + 1))) := by
          rw [Bool.or_assoc]; congr 1
          rw [Bool.eq_iff_iff]; simp; omega
        rw [e1, e2] at hr2
        exact hr2
      case measure => simp [intOf]; omega
    · obtain rfl : k = n := by omega
      go_wp2_with fail
      go_ret
      exact ⟨rfl, hr, K⟩
set_option maxRecDepth 100000 in
theorem swhole_calls (g : Nat) (s : ByteArray) (p : Nat) (b : Bool) (w : World) (hw : SR w g s p b) :
    Calls Tryd.prog 101 #[.pointer (some ⟨g, 0, none⟩)] w fun e w' => e = .returned (.bool (padOk s p)) ∧ SR w' g s (evenAt p) b ∧ Kp [g] w w' := by
  go_enter Tryd.func101, Tryd.ntmps101
  have hle := hw.le
  go_wp2_with fail
  go_loopw [3] (fun x wr => ∃ (q n : Nat), x = .int .i64 (n : Int) ∧ n ≤ q - p ∧ p ≤ q ∧ q ≤ evenAt p ∧ (n = 0 ↔ ((rest s p).take (q - p)).all (!·) = true) ∧ SR wr g s q b ∧ Kp [g] w wr) (fun _ wr => match wr.cell? ⟨g, 1, none⟩ with | some x => 8 * s.size - (intOf x).toNat | none => 0)
  case atStart =>
    refine ⟨p, 0, rfl, by omega, Nat.le_refl _, by unfold evenAt; omega, by simp, hw, Kp.refl _ _⟩
  case round =>
    obtain ⟨q, n, rfl, hnq, hpq, hq, hiff, hr, K⟩ := hrel
    have B := hr.out
    have hql := hr.le
    have c1 : wr.cell? ⟨g, 1, none⟩ = some (.int .i64 q) := (B.cell 1).trans rfl
    have e2 : Int.tmod (q : Int) 8 = ((q % 8 : Nat) : Int) := tmod_nat q 8
    have HI := Lib.hid hiff
    clear hiff
    have hn8 : n ≤ 8 := by unfold evenAt at hq; omega
    by_cases h8 : q % 8 = 0
    · have hqe : q = evenAt p := by unfold evenAt at *; omega
      rw [h8] at e2
      go_wp2_with fail
      go_ret
      refine ⟨?_, by rw [← hqe]; exact hr, K⟩
      have hpo : (((n : Int)) == 0) = padOk s p := by
        unfold padOk
        rw [← hqe, Bool.eq_iff_iff, ← HI.out]
        simp
      show Ending.returned (.bool ((n : Int) == 0)) = _
      rw [hpo]
    · have hqn : q + 1 ≤ evenAt p := by unfold evenAt at *; omega
      have hqs : q < 8 * s.size := by unfold evenAt at *; omega
      have h8' : ((((q % 8 : Nat) : Int)) != 0) = true := by simp; omega
      have hc := sbit_calls g s _ _ wr hr
      have HC := Lib.hid hc
      clear hc
      have hs : ((rest s p).take (q + 1 - p)).all (!·) = (((rest s p).take (q - p)).all (!·) && (numAt s q 1 == 0)) := by
        have hl : q - p < (rest s p).length := by rw [rest_length]; omega
        rw [show q + 1 - p = (q - p) + 1 from by omega, List.take_succ_eq_append_getElem hl, List.all_append]
        have e : rest s q = (rest s p)[q - p] :: rest s (q + 1) := by
          have := rest_drop s p (q - p)
          rw [show p + (q - p) = q from by omega] at this
          have h3 := rest_drop s p (q + 1 - p)
          rw [show p + (q + 1 - p) = q + 1 from by omega] at h3
          rw [← this, ← h3, List.drop_eq_getElem_cons hl, show q - p + 1 = q + 1 - p from by omega]
        unfold numAt
        rw [e]
        cases (rest s p)[q - p] <;> rfl
      have HS := Lib.hid hs
      clear hs
      have hx := numAt_lt s q 1
      obtain ⟨x, hxx⟩ : ∃ x, numAt s q 1 = x := ⟨_, rfl⟩
      rw [hxx] at hx HS
      have HX := Lib.hid hxx
      clear hxx
      go_wp2_with fail
      refine HC.out.mono ?_
      rintro e w2 ⟨rfl, hr2, K2⟩
      rw [HX.out]
      go_wp2_with fail
      have hr3 : SR w2 g s (q + 1) b := by
        rw [Nat.min_eq_left (by omega), show decide (8 * s.size < q + 1) = false from by simp; omega, Bool.or_false] at hr2
        exact hr2
      go_roundw
      case rel =>
        refine ⟨q + 1, n + x, by go_num, by omega, by omega, hqn, ?_, hr3, K.then K2⟩
        rw [HS.out, Bool.and_eq_true, ← HI.out, beq_iff_eq]
        omega
      case measure =>
        have c3 : w2.cell? ⟨g, 1, none⟩ = some (.int .i64 ((q + 1 : Nat) : Int)) := (hr3.out.cell 1).trans rfl
        rw [c3, c1]
        simp [intOf]; omega
end Go.Proofs.YtncidljdfipigaaDoor.Wi

/- The specification's reader takes a number again, as often as a symbol tells. Conditions: a reader, numbers, a symbol. -/
namespace Go.Proofs.YtncidljdfipigaaDoor.Wi
open Go.RowKit Go.Proofs.YtncidljdfipigaaDoor.Mem Go.Proofs.YtncidljdfipigaaDoor.Bt Go.Proofs.YtncidljdfipigaaDoor.Cd Go.Proofs.YtncidljdfipigaaDoor.De
set_option linter.unusedVariables false
set_option linter.unusedSimpArgs false
/-- What a symbol of lengths adds. -/
def stepD (x : Nat) (all : List Nat) : Dec (List Nat) :=
  if x < 16 then De.ret (all ++ List.replicate 1 x) else if x = 16 then De.next (num 2) fun y => (if all.length = 0 then De.bad else De.ret (all ++ List.replicate (3 + y) (all.getD (all.length - 1) 0)))
    else if x = 17 then De.next (num 3) fun y => De.ret (all ++ List.replicate (3 + y) 0) else De.next (num 7) fun y => De.ret (all ++ List.replicate (11 + y) 0)
/-- What many leaves. -/
structure ManyOut (x : Nat) (all : List Nat) (s : ByteArray) (p : Nat) (b : Bool) (g r : Nat) (w : World) (e : Ending) (w' : World) : Prop where mk ::
  out : ∃ (p' : Nat) (b' : Bool) (r' cap' : Nat) (l' : List Nat), e = .returned (.slice (some ⟨r', 0, none⟩) l'.length cap') ∧ SR w' g s p' b' ∧ Nums w' r' (.slice (some ⟨r', 0, none⟩) l'.length cap') l' ∧ Kp [g, r] w w' ∧ (r' = r ∨ w.heap.size ≤ r') ∧ Ans (stepD x all) s p b l' p' b' ∧
    (b' = false → ∃ M AG, l' = all ++ List.replicate M AG ∧ 1 ≤ M ∧ M ≤ 138 ∧ AG ≤ 15) ∧ (b' = true → l' = all)
set_option maxRecDepth 100000 in
set_option maxHeartbeats 4000000 in
theorem smany_calls (g r cap n x : Nat) (v : Int) (s : ByteArray) (p : Nat) (b : Bool) (all : List Nat) (w : World) (hw : SR w g s p b) (hN : Nums w r (.slice (some ⟨r, 0, none⟩) n cap) all) (hn : all.length = n) (hn2 : n ≤ 1000) (hgr : g ≠ r)
    (h15 : ∀ y ∈ all, y ≤ 15) (hv1 : -1 ≤ v) (hv2 : v ≤ 1000) (hvx : b = false → v = x ∧ x < 19) :
    Calls Tryd.prog 153 #[.pointer (some ⟨g, 0, none⟩), .slice (some ⟨r, 0, none⟩) n cap, .int .i64 v] w fun e w' => ManyOut x all s p b g r w e w' := by
  have HN := Lib.hid hn
  have HVX := Lib.hid hvx
  have H15 := Lib.hid h15
  have hgw := hw.out.lt
  clear hn hvx h15
  go_enter Tryd.func153, Tryd.ntmps153
  by_cases v16 : v = 16
  · have v16' : (v == 16) = true := by simp [v16]
    have hx16 : RowKit.Hid (b = false → x = 16) := Lib.hid (fun e => by have := HVX.out e; omega)
    clear v16
    by_cases hn0 : n = 0
    · subst hn0
      obtain ⟨q5, hq5⟩ : ∃ q5, q5 = p := ⟨_, rfl⟩
      have d0 : w.cell? ⟨g, 2, none⟩ = some (.bool b) := (hw.out.cell 2).trans rfl
      have fr : ∀ i, w.frozen? ⟨g, i, none⟩ = false := hw.out.frozen
      have hrX : SR (w.setCell ⟨g, 2, none⟩ (.bool true)) g s p true := ⟨hw.out.set 2 (.bool true), hw.le, hw.sz⟩
      have KX : Kp [g] w (w.setCell ⟨g, 2, none⟩ (.bool true)) := (Kp.refl _ _).set (.inl (by simp)) _
      have hNX := hN.kp KX (by simpa using Ne.symm hgr)
      have HANS : RowKit.Hid (∀ z, Ans (stepD x all) s p b z q5 true) := Lib.hid (fun z => by
        refine ⟨fun _ => ?_, fun e => (by cases e)⟩
        cases b with
        | true => exact .inl rfl
        | false =>
          right
          rw [hx16.out rfl]
          unfold stepD
          rw [if_neg (by omega), if_pos rfl]
          cases h : num 2 (rest s p) with
          | none => exact next_none h
          | some z => rw [next_some h, if_pos HN.out]; rfl)
      go_wp2_with fail
      generalize w.setCell ⟨g, 2, none⟩ (.bool true) = wX at *
      rw [← hq5] at hrX
      have dX : wX.cell? ⟨g, 2, none⟩ = some (.bool true) := (hrX.out.cell 2).trans rfl
      go_loopw [1, 9] (fun o kx wr2 => kx = .int .i64 0 ∧ o = .slice (some ⟨r, 0, none⟩) 0 cap ∧ wr2 = wX) (fun _ _ _ => 0)
      case atStart => exact ⟨rfl, rfl, rfl⟩
      case round =>
        obtain ⟨rfl, rfl, hwX⟩ := hrel
        obtain rfl : wX = wr := hwX.symm
        go_wp2_with fail
        all_goals
          go_ret
          exact ⟨q5, true, r, cap, all, by rw [HN.out]; rfl, hrX, by rw [HN.out]; exact hNX, KX.mono (fun y hy => .inl (by simp at hy ⊢; exact .inl hy)), .inl rfl, HANS.out _, fun e => (by cases e), fun _ => rfl⟩
    · have hn0' : ((n : Int) == 0) = false := by simp; omega
      have hn1 : n - 1 < all.length := by rw [HN.out]; omega
      have cl := hN.row.1.cell (i64s_get hn1)
      have hl15 : all.getD (n - 1) 0 ≤ 15 := getD_le H15.out _
      have e9 : IntKind.i64.wrap ((n : Int) - 1) = ((n - 1 : Nat) : Int) := by rw [IntKind.wrap_i64]; omega
      have hn1' : ((n - 1 : Nat) : Int) < n := by omega
      have hncap := hN.row.2.2.1
      clear hn1
      have HG := Lib.hid (snum_calls g 2 s p b w hw (by omega))
      have A1 := Lib.hid (ans_num (n := 2) (b := b) hw.le)
      have hv := numAt_lt s p 2
      generalize numAt s p 2 = y at *
      generalize min (p + 2) (8 * s.size) = q5 at *
      generalize (b || decide (8 * s.size < p + 2)) = b5 at *
      have hev : IntKind.i64.wrap (3 + (y : Int)) = 3 + (y : Int) := by rw [IntKind.wrap_i64]; omega
      go_wp2_with fail
      refine HG.out.mono ?_
      rintro e wX ⟨rfl, hrX, KX⟩
      have hNX := hN.kp KX (by simpa using Ne.symm hgr)
      cases b5 with
      | true =>
        have HANS : RowKit.Hid (∀ z, Ans (stepD x all) s p b z q5 true) := Lib.hid (fun z => ⟨fun _ => by
          rcases Bool.eq_false_or_eq_true b with e | e
          · exact .inl e
          · right
            have hx := hx16.out e
            unfold stepD
            rw [if_neg (by omega : ¬ x < 16), if_pos hx]
            rcases A1.out.bad rfl with c | c
            · rw [e] at c; cases c
            · exact next_none c, fun e => (by cases e)⟩)
        have dX : wX.cell? ⟨g, 2, none⟩ = some (.bool true) := (hrX.out.cell 2).trans rfl
        go_wp2_with fail
        go_loopw [1, 9] (fun o kx wr2 => kx = .int .i64 0 ∧ o = .slice (some ⟨r, 0, none⟩) n cap ∧ wr2 = wX) (fun _ _ _ => 0)
        case atStart => exact ⟨rfl, rfl, rfl⟩
        case round =>
          obtain ⟨rfl, rfl, hwX⟩ := hrel
          obtain rfl : wX = wr := hwX.symm
          go_wp2_with fail
          all_goals
            go_ret
            exact ⟨q5, true, r, cap, all, by rw [HN.out]; rfl, hrX, by rw [HN.out]; exact hNX, KX.mono (fun y hy => .inl (by simp at hy ⊢; exact .inl hy)), .inl rfl, HANS.out _, fun e => (by cases e), fun _ => rfl⟩
      | false =>
        have HANS : RowKit.Hid (Ans (stepD x all) s p b (all ++ List.replicate (3 + y) (all.getD (n - 1) 0)) q5 false) := Lib.hid (by
          have h1 := A1.out.good rfl
          have hx := hx16.out h1.1
          refine ⟨fun e => (by cases e), fun _ => ⟨h1.1, ?_⟩⟩
          unfold stepD
          rw [if_neg (by omega : ¬ x < 16), if_pos hx, next_some h1.2]
          rw [if_neg (by rw [HN.out]; exact hn0), HN.out]; rfl)
        have HAG : RowKit.Hid ((all.getD (n - 1) 0) ≤ 15) := Lib.hid (by exact hl15)
        have hM138 : (3 + y) ≤ 138 := by omega
        go_wp2_with fail
        go_loopw [1, 9] (fun o kx wr2 => ∃ (k ra2 ca2 : Nat), kx = .int .i64 (k : Int) ∧ k ≤ (3 + y) ∧ o = .slice (some ⟨ra2, 0, none⟩) (n + k) ca2 ∧ Nums wr2 ra2 (.slice (some ⟨ra2, 0, none⟩) (n + k) ca2) (all ++ List.replicate k (all.getD (n - 1) 0)) ∧ Kp [r] wX wr2 ∧ (ra2 = r ∨ wX.heap.size ≤ ra2)) (fun _ kx _ => (3 + y) - (intOf kx).toNat)
        case atStart => exact ⟨0, r, cap, rfl, by omega, rfl, by simpa using hNX, Kp.refl _ _, .inl rfl⟩
        case round =>
          obtain ⟨k, ra2, ca2, rfl, hk, rfl, hN12, K12, hra2⟩ := hrel
          have hlen : (all ++ List.replicate k (all.getD (n - 1) 0)).length = n + k := by rw [List.length_append, List.length_replicate, HN.out]
          have HLEN := Lib.hid hlen
          have hr12 := hrX.kp K12 (by simpa using hgr)
          have d12 : wr.cell? ⟨g, 2, none⟩ = some (.bool false) := (hr12.out.cell 2).trans rfl
          clear hlen
          by_cases hlt : k < (3 + y)
          · have hlt' : (k : Int) < (((3 + y) : Nat) : Int) := by omega
            have hlt2 : (k : Int) < 3 + (y : Int) := by omega
            go_wp2_with (at_builtin; go_must (refine wpList_nat (x := (all.getD (n - 1) 0)) rfl _ _ rfl rfl hN12 rfl (by rw [HLEN.out]; omega) ?_); intro r6 c6 w6 hN6 hr6 hrl6 K6 hc1 hc2)
            go_roundw
            case rel =>
              refine ⟨k + 1, r6, c6, by go_num, by omega, by first | (rw [HLEN.out]; rfl) | (rw [HN.out]; rfl), ?_, K12.trans K6 (fun y hy => by simp at hy ⊢; omega), by have := K12.size; omega⟩
              rw [HLEN.out] at hN6
              rw [List.replicate_succ', ← List.append_assoc]
              exact hN6
            case measure => simp [intOf]; omega
          · obtain rfl : k = (3 + y) := by omega
            go_wp2_with fail
            go_ret
            have hz := KX.size
            exact ⟨q5, false, ra2, ca2, all ++ List.replicate ((3 + y)) ((all.getD (n - 1) 0)), by rw [HLEN.out]; rfl, hr12, by rw [HLEN.out]; exact hN12, (KX.mono (fun y hy => .inl (by simp at hy ⊢; exact .inl hy))).then (K12.mono (fun y hy => .inl (by simp at hy ⊢; exact .inr hy))), by omega, HANS.out, fun _ => ⟨((3 + y)), ((all.getD (n - 1) 0)), rfl, by omega, by omega, HAG.out⟩, fun e => (by cases e)⟩
  by_cases v17 : v = 17
  · have v16' : (v == 16) = false := by simpa using v16
    have v17' : (v == 17) = true := by simp [v17]
    have hx17 : RowKit.Hid (b = false → x = 17) := Lib.hid (fun e => by have := HVX.out e; omega)
    clear v16 v17
    have HG := Lib.hid (snum_calls g 3 s p b w hw (by omega))
    have A1 := Lib.hid (ans_num (n := 3) (b := b) hw.le)
    have hv := numAt_lt s p 3
    generalize numAt s p 3 = y at *
    generalize min (p + 3) (8 * s.size) = q5 at *
    generalize (b || decide (8 * s.size < p + 3)) = b5 at *
    have hev : IntKind.i64.wrap (3 + (y : Int)) = 3 + (y : Int) := by rw [IntKind.wrap_i64]; omega
    go_wp2_with fail
    refine HG.out.mono ?_
    rintro e wX ⟨rfl, hrX, KX⟩
    have hNX := hN.kp KX (by simpa using Ne.symm hgr)
    cases b5 with
    | true =>
      have HANS : RowKit.Hid (∀ z, Ans (stepD x all) s p b z q5 true) := Lib.hid (fun z => ⟨fun _ => by
        rcases Bool.eq_false_or_eq_true b with e | e
        · exact .inl e
        · right
          have hx := hx17.out e
          unfold stepD
          rw [if_neg (by omega : ¬ x < 16), if_neg (by omega : ¬ x = 16), if_pos hx]
          rcases A1.out.bad rfl with c | c
          · rw [e] at c; cases c
          · exact next_none c, fun e => (by cases e)⟩)
      have dX : wX.cell? ⟨g, 2, none⟩ = some (.bool true) := (hrX.out.cell 2).trans rfl
      go_wp2_with fail
      go_loopw [1, 9] (fun o kx wr2 => kx = .int .i64 0 ∧ o = .slice (some ⟨r, 0, none⟩) n cap ∧ wr2 = wX) (fun _ _ _ => 0)
      case atStart => exact ⟨rfl, rfl, rfl⟩
      case round =>
        obtain ⟨rfl, rfl, hwX⟩ := hrel
        obtain rfl : wX = wr := hwX.symm
        go_wp2_with fail
        all_goals
          go_ret
          exact ⟨q5, true, r, cap, all, by rw [HN.out]; rfl, hrX, by rw [HN.out]; exact hNX, KX.mono (fun y hy => .inl (by simp at hy ⊢; exact .inl hy)), .inl rfl, HANS.out _, fun e => (by cases e), fun _ => rfl⟩
    | false =>
      have HANS : RowKit.Hid (Ans (stepD x all) s p b (all ++ List.replicate (3 + y) 0) q5 false) := Lib.hid (by
        have h1 := A1.out.good rfl
        have hx := hx17.out h1.1
        refine ⟨fun e => (by cases e), fun _ => ⟨h1.1, ?_⟩⟩
        unfold stepD
        rw [if_neg (by omega : ¬ x < 16), if_neg (by omega : ¬ x = 16), if_pos hx, next_some h1.2]
        rfl)
      have HAG : RowKit.Hid (0 ≤ 15) := Lib.hid (by omega)
      have hM138 : (3 + y) ≤ 138 := by omega
      go_wp2_with fail
      go_loopw [1, 9] (fun o kx wr2 => ∃ (k ra2 ca2 : Nat), kx = .int .i64 (k : Int) ∧ k ≤ (3 + y) ∧ o = .slice (some ⟨ra2, 0, none⟩) (n + k) ca2 ∧ Nums wr2 ra2 (.slice (some ⟨ra2, 0, none⟩) (n + k) ca2) (all ++ List.replicate k 0) ∧ Kp [r] wX wr2 ∧ (ra2 = r ∨ wX.heap.size ≤ ra2)) (fun _ kx _ => (3 + y) - (intOf kx).toNat)
      case atStart => exact ⟨0, r, cap, rfl, by omega, rfl, by simpa using hNX, Kp.refl _ _, .inl rfl⟩
      case round =>
        obtain ⟨k, ra2, ca2, rfl, hk, rfl, hN12, K12, hra2⟩ := hrel
        have hlen : (all ++ List.replicate k 0).length = n + k := by rw [List.length_append, List.length_replicate, HN.out]
        have HLEN := Lib.hid hlen
        have hr12 := hrX.kp K12 (by simpa using hgr)
        have d12 : wr.cell? ⟨g, 2, none⟩ = some (.bool false) := (hr12.out.cell 2).trans rfl
        clear hlen
        by_cases hlt : k < (3 + y)
        · have hlt' : (k : Int) < (((3 + y) : Nat) : Int) := by omega
          have hlt2 : (k : Int) < 3 + (y : Int) := by omega
          go_wp2_with (at_builtin; go_must (refine wpList_nat (x := 0) rfl _ _ rfl rfl hN12 rfl (by rw [HLEN.out]; omega) ?_); intro r6 c6 w6 hN6 hr6 hrl6 K6 hc1 hc2)
          go_roundw
          case rel =>
            refine ⟨k + 1, r6, c6, by go_num, by omega, by first | (rw [HLEN.out]; rfl) | (rw [HN.out]; rfl), ?_, K12.trans K6 (fun y hy => by simp at hy ⊢; omega), by have := K12.size; omega⟩
            rw [HLEN.out] at hN6
            rw [List.replicate_succ', ← List.append_assoc]
            exact hN6
          case measure => simp [intOf]; omega
        · obtain rfl : k = (3 + y) := by omega
          go_wp2_with fail
          go_ret
          have hz := KX.size
          exact ⟨q5, false, ra2, ca2, all ++ List.replicate ((3 + y)) (0), by rw [HLEN.out]; rfl, hr12, by rw [HLEN.out]; exact hN12, (KX.mono (fun y hy => .inl (by simp at hy ⊢; exact .inl hy))).then (K12.mono (fun y hy => .inl (by simp at hy ⊢; exact .inr hy))), by omega, HANS.out, fun _ => ⟨((3 + y)), (0), rfl, by omega, by omega, HAG.out⟩, fun e => (by cases e)⟩
  by_cases v18 : v = 18
  · have v16' : (v == 16) = false := by simpa using v16
    have v17' : (v == 17) = false := by simpa using v17
    have v18' : (v == 18) = true := by simp [v18]
    have hx18 : RowKit.Hid (b = false → x = 18) := Lib.hid (fun e => by have := HVX.out e; omega)
    clear v16 v17 v18
    have HG := Lib.hid (snum_calls g 7 s p b w hw (by omega))
    have A1 := Lib.hid (ans_num (n := 7) (b := b) hw.le)
    have hv := numAt_lt s p 7
    generalize numAt s p 7 = y at *
    generalize min (p + 7) (8 * s.size) = q5 at *
    generalize (b || decide (8 * s.size < p + 7)) = b5 at *
    have hev : IntKind.i64.wrap (11 + (y : Int)) = 11 + (y : Int) := by rw [IntKind.wrap_i64]; omega
    go_wp2_with fail
    refine HG.out.mono ?_
    rintro e wX ⟨rfl, hrX, KX⟩
    have hNX := hN.kp KX (by simpa using Ne.symm hgr)
    cases b5 with
    | true =>
      have HANS : RowKit.Hid (∀ z, Ans (stepD x all) s p b z q5 true) := Lib.hid (fun z => ⟨fun _ => by
        rcases Bool.eq_false_or_eq_true b with e | e
        · exact .inl e
        · right
          have hx := hx18.out e
          unfold stepD
          rw [if_neg (by omega : ¬ x < 16), if_neg (by omega : ¬ x = 16), if_neg (by omega : ¬ x = 17)]
          rcases A1.out.bad rfl with c | c
          · rw [e] at c; cases c
          · exact next_none c, fun e => (by cases e)⟩)
      have dX : wX.cell? ⟨g, 2, none⟩ = some (.bool true) := (hrX.out.cell 2).trans rfl
      go_wp2_with fail
      go_loopw [1, 9] (fun o kx wr2 => kx = .int .i64 0 ∧ o = .slice (some ⟨r, 0, none⟩) n cap ∧ wr2 = wX) (fun _ _ _ => 0)
      case atStart => exact ⟨rfl, rfl, rfl⟩
      case round =>
        obtain ⟨rfl, rfl, hwX⟩ := hrel
        obtain rfl : wX = wr := hwX.symm
        go_wp2_with fail
        all_goals
          go_ret
          exact ⟨q5, true, r, cap, all, by rw [HN.out]; rfl, hrX, by rw [HN.out]; exact hNX, KX.mono (fun y hy => .inl (by simp at hy ⊢; exact .inl hy)), .inl rfl, HANS.out _, fun e => (by cases e), fun _ => rfl⟩
    | false =>
      have HANS : RowKit.Hid (Ans (stepD x all) s p b (all ++ List.replicate (11 + y) 0) q5 false) := Lib.hid (by
        have h1 := A1.out.good rfl
        have hx := hx18.out h1.1
        refine ⟨fun e => (by cases e), fun _ => ⟨h1.1, ?_⟩⟩
        unfold stepD
        rw [if_neg (by omega : ¬ x < 16), if_neg (by omega : ¬ x = 16), if_neg (by omega : ¬ x = 17), next_some h1.2]
        rfl)
      have HAG : RowKit.Hid (0 ≤ 15) := Lib.hid (by omega)
      have hM138 : (11 + y) ≤ 138 := by omega
      go_wp2_with fail
      go_loopw [1, 9] (fun o kx wr2 => ∃ (k ra2 ca2 : Nat), kx = .int .i64 (k : Int) ∧ k ≤ (11 + y) ∧ o = .slice (some ⟨ra2, 0, none⟩) (n + k) ca2 ∧ Nums wr2 ra2 (.slice (some ⟨ra2, 0, none⟩) (n + k) ca2) (all ++ List.replicate k 0) ∧ Kp [r] wX wr2 ∧ (ra2 = r ∨ wX.heap.size ≤ ra2)) (fun _ kx _ => (11 + y) - (intOf kx).toNat)
      case atStart => exact ⟨0, r, cap, rfl, by omega, rfl, by simpa using hNX, Kp.refl _ _, .inl rfl⟩
      case round =>
        obtain ⟨k, ra2, ca2, rfl, hk, rfl, hN12, K12, hra2⟩ := hrel
        have hlen : (all ++ List.replicate k 0).length = n + k := by rw [List.length_append, List.length_replicate, HN.out]
        have HLEN := Lib.hid hlen
        have hr12 := hrX.kp K12 (by simpa using hgr)
        have d12 : wr.cell? ⟨g, 2, none⟩ = some (.bool false) := (hr12.out.cell 2).trans rfl
        clear hlen
        by_cases hlt : k < (11 + y)
        · have hlt' : (k : Int) < (((11 + y) : Nat) : Int) := by omega
          have hlt2 : (k : Int) < 11 + (y : Int) := by omega
          go_wp2_with (at_builtin; go_must (refine wpList_nat (x := 0) rfl _ _ rfl rfl hN12 rfl (by rw [HLEN.out]; omega) ?_); intro r6 c6 w6 hN6 hr6 hrl6 K6 hc1 hc2)
          go_roundw
          case rel =>
            refine ⟨k + 1, r6, c6, by go_num, by omega, by first | (rw [HLEN.out]; rfl) | (rw [HN.out]; rfl), ?_, K12.trans K6 (fun y hy => by simp at hy ⊢; omega), by have := K12.size; omega⟩
            rw [HLEN.out] at hN6
            rw [List.replicate_succ', ← List.append_assoc]
            exact hN6
          case measure => simp [intOf]; omega
        · obtain rfl : k = (11 + y) := by omega
          go_wp2_with fail
          go_ret
          have hz := KX.size
          exact ⟨q5, false, ra2, ca2, all ++ List.replicate ((11 + y)) (0), by rw [HLEN.out]; rfl, hr12, by rw [HLEN.out]; exact hN12, (KX.mono (fun y hy => .inl (by simp at hy ⊢; exact .inl hy))).then (K12.mono (fun y hy => .inl (by simp at hy ⊢; exact .inr hy))), by omega, HANS.out, fun _ => ⟨((11 + y)), (0), rfl, by omega, by omega, HAG.out⟩, fun e => (by cases e)⟩
  · have v16' : (v == 16) = false := by simpa using v16
    have v17' : (v == 17) = false := by simpa using v17
    have v18' : (v == 18) = false := by simpa using v18
    have hrX := hw
    have hNX := hN
    have KX := Kp.refl [g] w
    obtain ⟨q5, hq5⟩ : ∃ q5, q5 = p := ⟨_, rfl⟩
    obtain ⟨wX, hwX⟩ : ∃ wX, wX = w := ⟨_, rfl⟩
    cases b with
    | true =>
      have HANS : RowKit.Hid (∀ z, Ans (stepD x all) s p true z q5 true) := Lib.hid (fun z => ⟨fun _ => .inl rfl, fun e => (by cases e)⟩)
      rw [← hq5] at hrX
      clear v16 v17 v18
      go_wp2_with fail
      rw [← hwX]
      rw [← hwX] at hrX hNX
      have KX : Kp [g] w wX := by rw [hwX]; exact KX
      clear hwX
      have dX : wX.cell? ⟨g, 2, none⟩ = some (.bool true) := (hrX.out.cell 2).trans rfl
      go_loopw [1, 9] (fun o kx wr2 => kx = .int .i64 0 ∧ o = .slice (some ⟨r, 0, none⟩) n cap ∧ wr2 = wX) (fun _ _ _ => 0)
      case atStart => exact ⟨rfl, rfl, rfl⟩
      case round =>
        obtain ⟨rfl, rfl, hwX⟩ := hrel
        obtain rfl : wX = wr := hwX.symm
        go_wp2_with fail
        all_goals
          go_ret
          exact ⟨q5, true, r, cap, all, by rw [HN.out]; rfl, hrX, by rw [HN.out]; exact hNX, KX.mono (fun y hy => .inl (by simp at hy ⊢; exact .inl hy)), .inl rfl, HANS.out _, fun e => (by cases e), fun _ => rfl⟩
    | false =>
      obtain ⟨rfl, hx19⟩ := HVX.out rfl
      have hx16 : x < 16 := by omega
      have HANS : RowKit.Hid (Ans (stepD x all) s p false (all ++ List.replicate 1 x) q5 false) := Lib.hid (by
        unfold stepD
        rw [if_pos hx16, hq5]
        exact Ans.ret _ _ _ _)
      have HAG : RowKit.Hid (x ≤ 15) := Lib.hid (by omega)
      rw [← hq5] at hrX
      clear v16 v17 v18
      go_wp2_with fail
      rw [← hwX]
      rw [← hwX] at hrX hNX
      have KX : Kp [g] w wX := by rw [hwX]; exact KX
      clear hwX
      have hM138 : 1 ≤ 138 := by omega
      go_loopw [1, 9] (fun o kx wr2 => ∃ (k ra2 ca2 : Nat), kx = .int .i64 (k : Int) ∧ k ≤ 1 ∧ o = .slice (some ⟨ra2, 0, none⟩) (n + k) ca2 ∧ Nums wr2 ra2 (.slice (some ⟨ra2, 0, none⟩) (n + k) ca2) (all ++ List.replicate k x) ∧ Kp [r] wX wr2 ∧ (ra2 = r ∨ wX.heap.size ≤ ra2)) (fun _ kx _ => 1 - (intOf kx).toNat)
      case atStart => exact ⟨0, r, cap, rfl, by omega, rfl, by simpa using hNX, Kp.refl _ _, .inl rfl⟩
      case round =>
        obtain ⟨k, ra2, ca2, rfl, hk, rfl, hN12, K12, hra2⟩ := hrel
        have hlen : (all ++ List.replicate k x).length = n + k := by rw [List.length_append, List.length_replicate, HN.out]
        have HLEN := Lib.hid hlen
        have hr12 := hrX.kp K12 (by simpa using hgr)
        have d12 : wr.cell? ⟨g, 2, none⟩ = some (.bool false) := (hr12.out.cell 2).trans rfl
        clear hlen
        by_cases hlt : k < 1
        · have hlt' : (k : Int) < ((1 : Nat) : Int) := by omega
          have hlt2 : (k : Int) < 1 := by omega
          go_wp2_with (at_builtin; go_must (refine wpList_nat (x := x) rfl _ _ rfl rfl hN12 rfl (by rw [HLEN.out]; omega) ?_); intro r6 c6 w6 hN6 hr6 hrl6 K6 hc1 hc2)
          go_roundw
          case rel =>
            refine ⟨k + 1, r6, c6, by go_num, by omega, by first | (rw [HLEN.out]; rfl) | (rw [HN.out]; rfl), ?_, K12.trans K6 (fun y hy => by simp at hy ⊢; omega), by have := K12.size; omega⟩
            rw [HLEN.out] at hN6
            rw [List.replicate_succ', ← List.append_assoc]
            exact hN6
          case measure => simp [intOf]; omega
        · obtain rfl : k = 1 := by omega
          go_wp2_with fail
          go_ret
          have hz := KX.size
          exact ⟨q5, false, ra2, ca2, all ++ List.replicate (1) (x), by rw [HLEN.out]; rfl, hr12, by rw [HLEN.out]; exact hN12, (KX.mono (fun y hy => .inl (by simp at hy ⊢; exact .inl hy))).then (K12.mono (fun y hy => .inl (by simp at hy ⊢; exact .inr hy))), by omega, HANS.out, fun _ => ⟨(1), (x), rfl, by omega, by omega, HAG.out⟩, fun e => (by cases e)⟩
end Go.Proofs.YtncidljdfipigaaDoor.Wi

