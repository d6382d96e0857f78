/- Own texts joined: WFix. -/
import Derived.Test.YtnadjlejlohgiaaGreatDoorW16
/- Lengths of codes that all know, in both programs. -/
namespace Go.Proofs.YtnadjlejlohgiaaGreatDoor.Wi
open Go.RowKit Go.Proofs.YtnadjlejlohgiaaGreatDoor.Mem Go.Proofs.YtnadjlejlohgiaaGreatDoor.De
set_option linter.unusedVariables false
set_option linter.unusedSimpArgs false
theorem fill_step (l : List Nat) {n k : Nat} (hn : l.length = n) (hk : k < n) : (l.take k ++ List.replicate (n - k) 0).set k (l.getD k 0) = l.take (k + 1) ++ List.replicate (n - (k + 1)) 0 := by
  have hl : (l.take k).length = k := by rw [List.length_take]; omega
  rw [List.set_append_right _ _ (by omega), hl, Nat.sub_self, take_succ_getD l (by omega), List.append_assoc]
  obtain ⟨m, hm⟩ : ∃ m, n - k = m + 1 := ⟨n - k - 1, by omega⟩
  rw [hm, show n - (k + 1) = m from by omega, List.replicate_succ]
  rfl
theorem fixLit_at : ∀ k, k < 288 → fixLit.getD k 0 = if k < 144 then 8 else if k < 256 then 9 else if k < 280 then 7 else 8 := by decide +kernel
theorem fixLit_length : fixLit.length = 288 := by decide +kernel
theorem fixDist_length : fixDist.length = 32 := by decide +kernel
theorem fixDist_at : ∀ k, k < 32 → fixDist.getD k 0 = 5 := by decide +kernel
theorem fill_at (l : List Nat) {n k : Nat} (hn : l.length = n) (hk : k < n) : (l.take k ++ List.replicate (n - k) 0).length = n := by
  rw [List.length_append, List.length_take, List.length_replicate]; omega
set_option maxRecDepth 100000 in
set_option maxHeartbeats 1000000 in
theorem ifixed_calls (w : World) : Calls Tryz.prog 89 #[] w fun e w' => ∃ r1 r2, e = .returned (.tuple #[.slice (some ⟨r1, 0, none⟩) 288 288, .slice (some ⟨r2, 0, none⟩) 32 32]) ∧ RowO w' r1 0 3 (i64s fixLit) ∧ RowO w' r2 0 3 (i64s fixDist) ∧ w.heap.size ≤ r1 ∧ w.heap.size ≤ r2 ∧ On w w' := by
  have hfl := fixLit_length
  have hfa := fixLit_at
  have hdl := fixDist_length
  have hda := fixDist_at
  generalize fixLit = l at *
  generalize fixDist = d at *
  have HFL := Lib.hid hfl
  have HFA := Lib.hid hfa
  have HDL := Lib.hid hdl
  have HDA := Lib.hid hda
  clear hfl hfa hdl hda
  go_enter Tryz.func89, Tryz.ntmps89
  go_wp2_with (at_make; go_must (refine wpList_ints _ rfl _ _ rfl _ _ 288 rfl rfl rfl rfl (by omega) ?_); intro w1 hN1 O1 hlt1)
  generalize hA : w.heap.size = A at *
  have HA := Lib.hid hA
  clear hA
  go_loopw [9] (fun x wr => ∃ k : Nat, x = .int .i64 (k : Int) ∧ k ≤ 288 ∧ Nums wr A (.slice (some ⟨A, 0, none⟩) 288 288) (l.take k ++ List.replicate (288 - k) 0) ∧ Kp [A] w1 wr) (fun x _ => 288 - (intOf x).toNat)
  case atStart => exact ⟨0, rfl, by omega, hN1, Kp.refl _ _⟩
  case round =>
    obtain ⟨k, rfl, hk, hN, K⟩ := hrel
    by_cases hlt : k < 288
    · have hst := fill_step l HFL.out hlt
      rw [HFA.out k hlt] at hst
      have hll := fill_at l HFL.out hlt
      have R := hN.row.1
      have cB : wr.cell? ⟨A, k, none⟩ = some (.int .i64 ((l.take k ++ List.replicate (288 - k) 0).getD k 0 : Nat)) := R.cell (i64s_get (by rw [hll]; exact hlt))
      have fB : wr.frozen? ⟨A, k, none⟩ = false := R.frozen _
      have hset := fun x => hN.set k x
      generalize l.take k ++ List.replicate (288 - k) 0 = cur at *
      generalize cur.getD k 0 = y at *
      have hk1 : (k : Int) < 288 := by omega
      have HST := Lib.hid hst
      have HSET := Lib.hid hset
      clear hst hset hll
      have hfin : ∀ (x : Nat), (if k < 144 then 8 else if k < 256 then 9 else if k < 280 then 7 else 8) = x →
          (∃ k_1 : Nat, Value.int .i64 ((k : Int) + 1) = .int .i64 (k_1 : Int) ∧ k_1 ≤ 288 ∧ Nums (wr.setCell ⟨A, k, none⟩ (.int .i64 (x : Int))) A (.slice (some ⟨A, 0, none⟩) 288 288) (l.take k_1 ++ List.replicate (288 - k_1) 0) ∧ Kp [A] w1 (wr.setCell ⟨A, k, none⟩ (.int .i64 (x : Int)))) ∧
          288 - (intOf (.int .i64 ((k : Int) + 1))).toNat < 288 - (intOf (.int .i64 (k : Int))).toNat := by
        intro x hx
        have h1 := HSET.out x
        rw [← hx, HST.out] at h1
        rw [← hx]
        exact ⟨⟨k + 1, by go_num, by omega, h1, K.set (.inl (by simp)) _⟩, by simp [intOf]; omega⟩
      have HFIN := Lib.hid hfin
      clear hfin
      by_cases h1 : k < 144
      · have h1' : (k : Int) < 144 := by omega
        go_wp2_with fail
        exact HFIN.out 8 (by rw [if_pos h1])
      · have h1' : ¬ (k : Int) < 144 := by omega
        by_cases h2 : k < 256
        · have h2' : (k : Int) < 256 := by omega
          have h3' : ¬ (280 : Int) ≤ k := by omega
          go_wp2_with fail
          exact HFIN.out 9 (by rw [if_neg h1, if_pos h2])
        · have h2' : ¬ (k : Int) < 256 := by omega
          by_cases h3 : k < 280
          · have h3' : ¬ (280 : Int) ≤ k := by omega
            go_wp2_with fail
            exact HFIN.out 7 (by rw [if_neg h1, if_neg h2, if_pos h3])
          · have h3' : (280 : Int) ≤ k := by omega
            go_wp2_with fail
            exact HFIN.out 8 (by rw [if_neg h1, if_neg h2, if_neg h3])
    · obtain rfl : k = 288 := by omega
      have htk : l.take 288 ++ List.replicate (288 - 288) 0 = l := by rw [List.take_of_length_le (by rw [HFL.out]; exact Nat.le_refl _)]; simp
      rw [htk] at hN
      clear htk
      have R1 := hN.row.1.toO
      go_wp2_with (at_make; go_must (refine wpList_ints _ rfl _ _ rfl _ _ 32 rfl rfl rfl rfl (by omega) ?_); intro w2 hN2 O2 hlt2)
      have OW : On w wr := K.on O1 (fun x hx => by simp at hx; rw [hx, HA.out]; exact Nat.le_refl _)
      have hA2 := R1.lt
      have R1' := R1.on O2
      obtain ⟨wo, hwo⟩ : ∃ wo : World, wo = wr := ⟨_, rfl⟩
      subst hwo
      generalize hC : wo.heap.size = C at *
      have HC := Lib.hid hC
      clear hC
      have hOC := OW.size
      go_loopw [35] (fun x wp => ∃ k : Nat, x = .int .i64 (k : Int) ∧ k ≤ 32 ∧ Nums wp C (.slice (some ⟨C, 0, none⟩) 32 32) (d.take k ++ List.replicate (32 - k) 0) ∧ Kp [C] w2 wp) (fun x _ => 32 - (intOf x).toNat)
      case atStart => exact ⟨0, rfl, by omega, hN2, Kp.refl _ _⟩
      case round =>
        obtain ⟨k, rfl, hk, hM, K2⟩ := hrel
        by_cases hlt : k < 32
        · have hst := fill_step d HDL.out hlt
          rw [HDA.out k hlt] at hst
          have hll := fill_at d HDL.out hlt
          have R := hM.row.1
          have cB : wr.cell? ⟨C, k, none⟩ = some (.int .i64 ((d.take k ++ List.replicate (32 - k) 0).getD k 0 : Nat)) := R.cell (i64s_get (by rw [hll]; exact hlt))
          have fB : wr.frozen? ⟨C, k, none⟩ = false := R.frozen _
          have hset := hM.set k 5
          rw [hst] at hset
          generalize (d.take k ++ List.replicate (32 - k) 0).getD k 0 = y at *
          have hk1 : (k : Int) < 32 := by omega
          have HSET := Lib.hid hset
          clear hset hll hst
          go_wp2_with fail
          exact ⟨⟨k + 1, by go_num, by omega, HSET.out, K2.set (.inl (by simp)) _⟩, by simp [intOf]; omega⟩
        · obtain rfl : k = 32 := by omega
          have htk : d.take 32 ++ List.replicate (32 - 32) 0 = d := by rw [List.take_of_length_le (by rw [HDL.out]; exact Nat.le_refl _)]; simp
          rw [htk] at hM
          clear htk
          have R2 := hM.row.1.toO
          have R1'' := R1'.kp K2 (by simp; omega)
          go_wp2_with fail
          go_ret2
          exact ⟨A, C, rfl, R1'', R2, by rw [HA.out]; exact Nat.le_refl _, by rw [← HC.out]; exact hOC, K2.on (OW.call O2) (fun x hx => by simp at hx; rw [hx, ← HC.out]; exact hOC)⟩
set_option maxRecDepth 100000 in
set_option maxHeartbeats 1000000 in
theorem sfixed_calls (w : World) : Calls Tryz.prog 146 #[] w (GivesI w fixLit) := by
  have hfl := fixLit_length
  have hfa := fixLit_at
  generalize fixLit = l at *
  have HFL := Lib.hid hfl
  have HFA := Lib.hid hfa
  clear hfl hfa
  go_enter Tryz.func146, Tryz.ntmps146
  go_wp2_with fail
  have N0 := Nums.new w #[] [] rfl (by simp)
  have O0 := (On.refl w).alloc (.cells #[] 3)
  go_loopw [1, 2] (fun v x wr => ∃ (k r c : Nat), x = .int .i64 (k : Int) ∧ k ≤ 288 ∧ v = .slice (some ⟨r, 0, none⟩) k c ∧ Nums wr r (.slice (some ⟨r, 0, none⟩) k c) (l.take k) ∧ w.heap.size ≤ r ∧ r < wr.heap.size ∧ On w wr) (fun _ x _ => 288 - (intOf x).toNat)
  case atStart => exact ⟨0, w.heap.size, 0, rfl, by omega, rfl, N0, Nat.le_refl _, (Blk.new w _ _).lt, O0⟩
  case round =>
    obtain ⟨k, r, c, rfl, hk, rfl, hN, hrb, hrl, O⟩ := hrel
    by_cases hlt : k < 288
    · have hst := take_succ_getD l (show k < l.length by rw [HFL.out]; exact hlt)
      rw [HFA.out k hlt] at hst
      have hln : (l.take k).length = k := by rw [List.length_take, HFL.out]; omega
      generalize hcc : l.take k = cur at *
      have HCC := Lib.hid hcc
      have HST := Lib.hid hst
      have HLN := Lib.hid hln
      have hl1 : cur.length ≤ 1000000 := by omega
      have hon := O.size
      clear hcc hst hln
      by_cases h1 : k < 144
      · have h1' : (k : Int) < 144 := by omega
        go_wp2_with (at_builtin; go_must (refine wpList_nat (x := 8) rfl _ _ rfl rfl hN rfl hl1 ?_); intro r2 c2 w1 hN1 hr2 hrl2 K2 hc1 hc2)
        rw [HLN.out] at hN1
        exact ⟨⟨k + 1, r2, c2, by go_num, by omega, by rw [HLN.out], by rw [HST.out, if_pos h1]; exact hN1, by omega, hrl2, K2.on O (fun x hx => by simp at hx; omega)⟩, by simp [intOf]; omega⟩
      · have h1' : ¬ (k : Int) < 144 := by omega
        by_cases h2 : k < 256
        · have h2' : (k : Int) < 256 := by omega
          go_wp2_with (at_builtin; go_must (refine wpList_nat (x := 9) rfl _ _ rfl rfl hN rfl hl1 ?_); intro r2 c2 w1 hN1 hr2 hrl2 K2 hc1 hc2)
          rw [HLN.out] at hN1
          exact ⟨⟨k + 1, r2, c2, by go_num, by omega, by rw [HLN.out], by rw [HST.out, if_neg h1, if_pos h2]; exact hN1, by omega, hrl2, K2.on O (fun x hx => by simp at hx; omega)⟩, by simp [intOf]; omega⟩
        · have h2' : ¬ (k : Int) < 256 := by omega
          by_cases h3 : k < 280
          · have h3' : (k : Int) < 280 := by omega
            go_wp2_with (at_builtin; go_must (refine wpList_nat (x := 7) rfl _ _ rfl rfl hN rfl hl1 ?_); intro r2 c2 w1 hN1 hr2 hrl2 K2 hc1 hc2)
            rw [HLN.out] at hN1
            exact ⟨⟨k + 1, r2, c2, by go_num, by omega, by rw [HLN.out], by rw [HST.out, if_neg h1, if_neg h2, if_pos h3]; exact hN1, by omega, hrl2, K2.on O (fun x hx => by simp at hx; omega)⟩, by simp [intOf]; omega⟩
          · have h3' : ¬ (k : Int) < 280 := by omega
            go_wp2_with (at_builtin; go_must (refine wpList_nat (x := 8) rfl _ _ rfl rfl hN rfl hl1 ?_); intro r2 c2 w1 hN1 hr2 hrl2 K2 hc1 hc2)
            rw [HLN.out] at hN1
            exact ⟨⟨k + 1, r2, c2, by go_num, by omega, by rw [HLN.out], by rw [HST.out, if_neg h1, if_neg h2, if_neg h3]; exact hN1, by omega, hrl2, K2.on O (fun x hx => by simp at hx; omega)⟩, by simp [intOf]; omega⟩
    · obtain rfl : k = 288 := by omega
      have ht : l.take 288 = l := List.take_of_length_le (by rw [HFL.out]; exact Nat.le_refl _)
      rw [ht] at hN
      clear ht
      go_wp2_with fail
      go_ret
      exact ⟨r, c, by rw [HFL.out]; rfl, by rw [HFL.out]; exact hN, hrb, hrl, O⟩
set_option maxRecDepth 100000 in
set_option maxHeartbeats 1000000 in
theorem sfives_calls (w : World) : Calls Tryz.prog 147 #[] w (GivesI w fixDist) := by
  have hfl := fixDist_length
  have hfa := fixDist_at
  generalize fixDist = l at *
  have HFL := Lib.hid hfl
  have HFA := Lib.hid hfa
  clear hfl hfa
  go_enter Tryz.func147, Tryz.ntmps147
  go_wp2_with fail
  have N0 := Nums.new w #[] [] rfl (by simp)
  have O0 := (On.refl w).alloc (.cells #[] 3)
  go_loopw [1, 2] (fun v x wr => ∃ (k r c : Nat), x = .int .i64 (k : Int) ∧ k ≤ 32 ∧ v = .slice (some ⟨r, 0, none⟩) k c ∧ Nums wr r (.slice (some ⟨r, 0, none⟩) k c) (l.take k) ∧ w.heap.size ≤ r ∧ r < wr.heap.size ∧ On w wr) (fun _ x _ => 32 - (intOf x).toNat)
  case atStart => exact ⟨0, w.heap.size, 0, rfl, by omega, rfl, N0, Nat.le_refl _, (Blk.new w _ _).lt, O0⟩
  case round =>
    obtain ⟨k, r, c, rfl, hk, rfl, hN, hrb, hrl, O⟩ := hrel
    by_cases hlt : k < 32
    · have hst := take_succ_getD l (show k < l.length by rw [HFL.out]; exact hlt)
      rw [HFA.out k hlt] at hst
      have hln : (l.take k).length = k := by rw [List.length_take, HFL.out]; omega
      generalize hcc : l.take k = cur at *
      have HCC := Lib.hid hcc
      have HST := Lib.hid hst
      have HLN := Lib.hid hln
      have hl1 : cur.length ≤ 1000000 := by omega
      have hon := O.size
      clear hcc hst hln
      go_wp2_with (at_builtin; go_must (refine wpList_nat (x := 5) rfl _ _ rfl rfl hN rfl hl1 ?_); intro r2 c2 w1 hN1 hr2 hrl2 K2 hc1 hc2)
      rw [HLN.out] at hN1
      exact ⟨⟨k + 1, r2, c2, by go_num, by omega, by rw [HLN.out], by rw [HST.out]; exact hN1, by omega, hrl2, K2.on O (fun x hx => by simp at hx; omega)⟩, by simp [intOf]; omega⟩
    · obtain rfl : k = 32 := by omega
      have ht : l.take 32 = l := List.take_of_length_le (by rw [HFL.out]; exact Nat.le_refl _)
      rw [ht] at hN
      clear ht
      go_wp2_with fail
      go_ret
      exact ⟨r, c, by rw [HFL.out]; rfl, by rw [HFL.out]; exact hN, hrb, hrl, O⟩
end Go.Proofs.YtnadjlejlohgiaaGreatDoor.Wi

