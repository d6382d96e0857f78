/- Own texts joined: Ht. -/
import Derived.Test.YtnadjlejlohgiaaGreatDoorS31
import Derived.Test.YtnadjlejlohgiaaGreatDoorS32
/- What OwnPut and FlatePut of the specification do. Conditions: none. -/
namespace Go.Proofs.YtnadjlejlohgiaaGreatDoor.Wi
open Go.RowKit Go.Proofs.YtnadjlejlohgiaaGreatDoor.Mem Go.Proofs.YtnadjlejlohgiaaGreatDoor.Bt Go.Proofs.YtnadjlejlohgiaaGreatDoor.Cd Go.Proofs.YtnadjlejlohgiaaGreatDoor.De Go.Proofs.YtnadjlejlohgiaaGreatDoor.En Go.Proofs.YtnadjlejlohgiaaGreatDoor.Lz Go.Proofs.YtnadjlejlohgiaaGreatDoor.Hf
set_option linter.unusedVariables false
set_option linter.unusedSimpArgs false
set_option maxRecDepth 100000 in
set_option maxHeartbeats 1000000 in
theorem sown_calls (s : ByteArray) (h : s.size ≤ 300) (w : World) :
    Calls Tryz.prog 134 #[.string s] w (Tells w (.string (strB (En.ownPut (chars s))))) := by
  have htx := text_chars h
  have htl := tokens_size h
  have HR : RowKit.Hid (strB (En.ownPut (chars s)) = strB (pack (pad (ownBits (chars s))))) := Lib.hid (by rw [pack_pad]; rfl)
  have HOB : RowKit.Hid (ownBits (chars s) = bitsOf 1 1 ++ bitsOf 2 2 ++ headBits (ownLit (tokens (chars s))) (ownDist (tokens (chars s))) ++ encToks (ownLit (tokens (chars s))) (ownDist (tokens (chars s))) (tokens (chars s))) := Lib.hid rfl
  have HTX := Lib.hid htx
  clear htx
  go_enter Tryz.func134, Tryz.ntmps134
  go_wp2_with fail
  refine (stoks_calls s h w).mono ?_
  rintro e w1 ⟨q, cq, rfl, Rq, hq1, hq2, hq3, O1⟩
  obtain ⟨l, hl⟩ : ∃ l, tokens (chars s) = l := ⟨_, rfl⟩
  rw [hl] at HTX HOB Rq hq1 htl ⊢
  have HF := Lib.hid (fine_of (lit := []) (dist := []) HTX.out)
  have H2 := Lib.hid (own_has HTX.out)
  have HFB := Lib.hid (fitB HTX.out)
  have HDL := Lib.hid (ownDist_length HTX.out)
  have HBP := Lib.hid (cntB_pos HTX.out)
  obtain ⟨n, hn⟩ : ∃ n, l.length = n := ⟨_, rfl⟩
  rw [hn] at hq1 htl ⊢
  have HNN := Lib.hid hn
  clear hn hl
  go_wp2_with fail
  refine (scounts_calls l q n cq w1 Rq HNN.out (by omega) hq1 HF.out).mono ?_
  rintro e w2 ⟨ra, ca, rb, cb, rfl, Na, Nb, ha, hb, O2⟩
  have hca := Na.row.2.2.1
  have hcb := Nb.row.2.2.1
  have hz1 := O1.size
  go_wp2_with fail
  refine (sfit_calls (cntL l) ra 0 286 ca 15 w2 Na.row.1.toO (cntL_length l) (by omega) hca (fun x hx => by have := cntL_le l x hx; have := HNN.out; omega) (by omega) (by omega) ⟨256, cntL_last l⟩ (by rw [show 15 + 3 = 18 from rfl, fib18]; omega)).mono ?_
  rintro e w3 ⟨rc, cc, rfl, Nc, hc, hc2, O3⟩
  have hLl : (fit 15 (cntL l)).length = 286 := (fitL l).1.len.trans (cntL_length l)
  rw [hLl] at Nc ⊢
  have hcc := Nc.row.2.2.1
  have HLl := Lib.hid hLl
  clear hLl
  go_wp2_with fail
  refine (slast_calls (fit 15 (cntL l)) rc 286 cc 257 w3 Nc.row.1.toO HLl.out (by omega) hcc (by omega)).mono ?_
  rintro e w3b ⟨rfl, rfl⟩
  have hol : trimTo (fit 15 (cntL l)) 257 286 = (ownLit l).length := by unfold ownLit; rw [trim_length, HLl.out]
  rw [hol]
  have Rl : RowO w3b rc 0 3 (i64s (ownLit l)) := by
    have e : ownLit l = (fit 15 (cntL l)).take (trimTo (fit 15 (cntL l)) 257 286) := by unfold ownLit trim; rw [HLl.out]
    rw [e, show i64s ((fit 15 (cntL l)).take (trimTo (fit 15 (cntL l)) 257 286)) = (i64s (fit 15 (cntL l))).take (trimTo (fit 15 (cntL l)) 257 286) from by unfold i64s; rw [List.map_take]]
    exact (Nc.row.1.head _).toO
  have hln := ownLit_length l
  have HL15 := Lib.hid (trim_le (least := 257) (fitL l).2)
  obtain ⟨nl, hnl⟩ : ∃ nl, (ownLit l).length = nl := ⟨_, rfl⟩
  rw [hnl] at hln ⊢
  have HNL := Lib.hid hnl
  clear hol hnl
  go_wp2_with fail
  refine (sfit_calls (cntB l) rb 0 30 cb 15 w3b (Nb.on O3).row.1.toO (cntB_length l) (by omega) hcb (fun x hx => by have := cntB_le HF.out x hx; have := HNN.out; omega) (by omega) (by omega) HBP.out (by rw [show 15 + 3 = 18 from rfl, fib18]; omega)).mono ?_
  rintro e w4 ⟨rd, cd, rfl, Nd, hd, hd2, O4⟩
  have hBl : (fit 15 (cntB l)).length = 30 := HFB.out.1.len.trans (cntB_length l)
  rw [hBl] at Nd ⊢
  have hcd := Nd.row.2.2.1
  have HBl := Lib.hid hBl
  clear hBl
  go_wp2_with fail
  refine (slast_calls (fit 15 (cntB l)) rd 30 cd 1 w4 Nd.row.1.toO HBl.out (by omega) hcd (by omega)).mono ?_
  rintro e w4b ⟨rfl, rfl⟩
  have hod : trimTo (fit 15 (cntB l)) 1 30 = (ownDist l).length := by unfold ownDist; rw [trim_length, HBl.out]
  rw [hod]
  have Rd : RowO w4b rd 0 3 (i64s (ownDist l)) := by
    have e : ownDist l = (fit 15 (cntB l)).take (trimTo (fit 15 (cntB l)) 1 30) := by unfold ownDist trim; rw [HBl.out]
    rw [e, show i64s ((fit 15 (cntB l)).take (trimTo (fit 15 (cntB l)) 1 30)) = (i64s (fit 15 (cntB l))).take (trimTo (fit 15 (cntB l)) 1 30) from by unfold i64s; rw [List.map_take]]
    exact (Nd.row.1.head _).toO
  have hdn := HDL.out
  have HD15 := Lib.hid (trim_le (least := 1) HFB.out.2)
  obtain ⟨nd, hnd⟩ : ∃ nd, (ownDist l).length = nd := ⟨_, rfl⟩
  rw [hnd] at hdn ⊢
  have HND := Lib.hid hnd
  have Rl4 := Rl.on O4
  have Rq4 := Rq.on (O2.call (O3.call O4))
  have Ot4 := O1.call (O2.call (O3.call O4))
  have hrcl := Rl4.lt
  have hrdl := Rd.lt
  have hrql := Rq4.lt
  have HHL := Lib.hid (head_length (ownLit l) (ownDist l) (by rw [List.length_append, HNL.out, hnd]; omega) (fun x hx => by
    rcases List.mem_append.1 hx with h | h
    · exact HL15.out x h
    · exact HD15.out x h) (by intro e; have := congrArg List.length e; rw [List.length_append, HNL.out] at this; simp at this; omega))
  have HET := Lib.hid (show (encToks (ownLit l) (ownDist l) l).length ≤ 20000 by
    have h1 := flat_le (lit := ownLit l) (dist := ownDist l) (fine_of HTX.out) HL15.out HD15.out l.length
    rw [List.take_length] at h1
    have h2 := enc_length (ownLit l) HL15.out 256
    unfold encToks
    rw [List.length_append]
    have := HNN.out
    omega)
  clear hod hnd Nd Nc Rl Na Nb
  go_wp2_with fail
  refine (sput_calls _ _ [] 1 1 _ (sw_new w4b) (by omega) (by simp) (by omega)).mono ?_
  rintro e w5 ⟨r5, rfl, hw5, M5⟩
  have OA := (On.refl w4b).alloc (.cells #[.slice none 0 0, .int .i64 0, .int .i64 0] 153)
  have hr0 : w4b.heap.size < (w4b.alloc (.cells #[.slice none 0 0, .int .i64 0, .int .i64 0] 153)).heap.size := (Blk.new w4b _ _).lt
  have hr5 := M5.lt hr0
  obtain ⟨O5, hb5⟩ := M5.on OA (Nat.le_refl _) (Nat.le_refl _)
  go_wp2_with fail
  refine (sput_calls _ _ _ 2 2 w5 hw5 (by omega) (by simp [bitsOf]) (by omega)).mono ?_
  rintro e w6 ⟨r6, rfl, hw6, M6⟩
  have hr6 := M6.lt hr5
  obtain ⟨O6, hb6⟩ := M6.on O5 (Nat.le_refl _) hb5
  have hpl := Lib.hid (sputlens_calls w4b.heap.size r6 rc nl cc rd nd cd _ (ownLit l) (ownDist l) w6 hw6 hr6 (by simp [bitsOf]) (Rl4.on O6) (Rd.on O6) HNL.out HND.out hln.1 hln.2 hdn.1 hdn.2 (by omega) (by omega) HL15.out HD15.out)
  go_wp2_with fail
  refine hpl.out.mono ?_
  rintro e w7 ⟨r7, rfl, hw7, M7⟩
  have hr7 := M7.lt hr6
  obtain ⟨O7, hb7⟩ := M7.on O6 (Nat.le_refl _) hb6
  have hpt := Lib.hid (stokens_calls w4b.heap.size r7 q n cq rc 0 nl cc rd 0 nd cd _ l (ownLit l) (ownDist l) w7 hw7 hr7 (by have := HHL.out; simp only [List.length_append, bits_length, List.length_nil]; omega) (Rq4.on O7) (Rl4.on O7) (Rd.on O7) HNN.out (by omega) hq1 HNL.out HND.out (by omega) (by omega) (by omega) (by omega)
    H2.out (fine_of HTX.out) (not_in (by omega) (by omega)) (not_in (by omega) (by omega)) (not_in (by omega) (by omega)))
  clear hpl hw5 hw6 hw7
  go_wp2_with fail
  refine hpt.out.mono ?_
  rintro e w8 ⟨r8, rfl, hw8, M8⟩
  obtain ⟨O8, hb8⟩ := M8.on O7 (Nat.le_refl _) hb7
  have hw9 : SW w8 w4b.heap.size r8 (ownBits (chars s)) := by rw [HOB.out]; exact hw8
  have hbl : (ownBits (chars s)).length ≤ 100000 := by
    rw [HOB.out]
    have := HHL.out
    have := HET.out
    simp only [List.length_append, bits_length]
    omega
  have hwh := Lib.hid (whole_calls w4b.heap.size r8 (ownBits (chars s)) w8 hw9 (by omega))
  clear hpt hw8 hw9 hbl
  go_wp2_with fail
  refine hwh.out.mono ?_
  rintro e w9 ⟨r9, rfl, hw9, M9⟩
  obtain ⟨O9, hb9⟩ := M9.on O8 (Nat.le_refl _) hb8
  obtain ⟨v, c0, hconv⟩ := hw9.text (by rw [pad_length]; omega)
  have Ot := Ot4.call O9
  clear hw9
  go_wp2_with fail
  go_ret
  exact ⟨by rw [HR.out]; rfl, Ot⟩
set_option maxRecDepth 100000 in
theorem sflateput_calls (s : ByteArray) (w : World) :
    Calls Tryz.prog 118 #[.string s] w (Tells w (.string (flateB s))) := by
  by_cases h : s.size ≤ 300
  · have h' : (s.size : Int) ≤ 300 := by omega
    have HR : RowKit.Hid (flateB s = pickTo (strB (En.store (chars s))) (strB (En.fixed (chars s))) (strB (En.ownPut (chars s))) 2) := Lib.hid (by unfold flateB; rw [if_pos h]; exact flate_pick s h)
    have HS := Lib.hid (fun w => sstore_calls s w h)
    have HK := Lib.hid (fun w => sknown_calls s h w)
    have HO := Lib.hid (fun w => sown_calls s h w)
    generalize strB (En.store (chars s)) = x at *
    generalize strB (En.fixed (chars s)) = y at *
    generalize strB (En.ownPut (chars s)) = z at *
    go_enter Tryz.func118, Tryz.ntmps118
    go_wp2_with fail
    refine (HS.out w).mono ?_
    rintro e w1 ⟨rfl, O1⟩
    go_wp2_with fail
    refine (HK.out w1).mono ?_
    rintro e w2 ⟨rfl, O2⟩
    go_wp2_with fail
    refine (HO.out w2).mono ?_
    rintro e w3 ⟨rfl, O3⟩
    go_wp2_with fail
    have BB := Blk.new w3 9 #[.string y, .string z]
    have O4 := (O1.call (O2.call O3)).alloc (.cells #[.string y, .string z] 9)
    generalize hB : w3.heap.size = B at *
    generalize w3.alloc (.cells #[.string y, .string z] 9) = w4 at *
    go_loop [3, 5] (fun o i => ∃ k : Nat, k ≤ 2 ∧ i = .int .i64 (k : Int) ∧ o = .string (pickTo x y z k)) (fun _ i => 2 - (intOf i).toNat)
    case atStart => exact ⟨0, by omega, rfl, rfl⟩
    case round =>
      obtain ⟨k, hk, rfl, rfl⟩ := hrel
      by_cases hlt : k < 2
      · obtain ⟨v, c0, hv⟩ : ∃ v, w4.cell? ⟨B, k, none⟩ = some (.string v) ∧ pickTo x y z (k + 1) = choose (pickTo x y z k) v := by
          rcases (show k = 0 ∨ k = 1 by omega) with rfl | rfl
          · exact ⟨y, (BB.cell 0).trans rfl, rfl⟩
          · exact ⟨z, (BB.cell 1).trans rfl, rfl⟩
        have HV := Lib.hid hv
        clear hv
        have hlt' : (k : Int) < 2 := by omega
        generalize pickTo x y z k = p at *
        by_cases hs : v.size < p.size
        · have hs' : (v.size : Int) < (p.size : Int) := by omega
          have HC : RowKit.Hid (pickTo x y z (k + 1) = v) := Lib.hid (by rw [HV.out]; unfold choose; rw [if_pos hs])
          go_wp2_with fail
          go_round
          case rel => exact ⟨k + 1, by omega, by go_num, by rw [HC.out]⟩
          case measure => simp [intOf]; omega
        · have hs' : ¬ (v.size : Int) < (p.size : Int) := by omega
          have HC : RowKit.Hid (pickTo x y z (k + 1) = p) := Lib.hid (by rw [HV.out]; unfold choose; rw [if_neg hs])
          go_wp2_with fail
          go_round
          case rel => exact ⟨k + 1, by omega, by go_num, by rw [HC.out]⟩
          case measure => simp [intOf]; omega
      · obtain rfl : k = 2 := by omega
        go_wp2_with fail
        go_ret
        exact ⟨by rw [HR.out]; rfl, O4⟩
  · have h' : (300 : Int) < s.size := by omega
    have HR : RowKit.Hid (flateB s = ⟨#[]⟩) := Lib.hid (by unfold flateB; rw [if_neg h])
    go_enter Tryz.func118, Tryz.ntmps118
    go_wp2_with fail
    go_ret
    exact ⟨by rw [HR.out]; rfl, On.refl _⟩
end Go.Proofs.YtnadjlejlohgiaaGreatDoor.Wi

