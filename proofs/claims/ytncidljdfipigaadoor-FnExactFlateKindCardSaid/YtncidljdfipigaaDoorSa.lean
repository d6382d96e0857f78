/- The specification adds to bytes what a token tells that leads back. Conditions: a row of bytes, sizes. -/
import Derived.Test.YtncidljdfipigaaDoorAd
import Derived.Test.YtncidljdfipigaaDoorSo
namespace Go.Proofs.YtncidljdfipigaaDoor.Wi
open Go.RowKit Go.Proofs.YtncidljdfipigaaDoor.Mem Go.Proofs.YtncidljdfipigaaDoor.Bt Go.Proofs.YtncidljdfipigaaDoor.Lz
set_option linter.unusedVariables false
set_option linter.unusedSimpArgs false
set_option maxRecDepth 100000 in
set_option maxHeartbeats 2000000 in
theorem sadd_calls (r cap n L B : Nat) (l : List Nat) (w : World) (hb : By w r cap l) (hn : l.length = n) (hn2 : n ≤ 1000) (hL : 1 ≤ L) (hL2 : L ≤ 100000) (hB2 : B ≤ 100000) :
    Calls Tryd.prog 157 #[.slice (some ⟨r, 0, none⟩) n cap, .agg #[.int .i64 0, .int .i64 (L : Int), .int .i64 (B : Int)]] w fun e w' =>
      (backOk n L B ∧ ∃ r' cap', e = .returned (.tuple #[.slice (some ⟨r', 0, none⟩) (n + L) cap', .bool true]) ∧ By w' r' cap' (copy l B L) ∧ Mb r w r' w') ∨
      (¬ backOk n L B ∧ e = .returned (.tuple #[.slice (some ⟨r, 0, none⟩) n cap, .bool false]) ∧ On w w') := by
  have HN := Lib.hid hn
  clear hn
  have hL0 : ((L : Int) == 0) = false := by simp; omega
  have BA := Blk.new w 67 #[.int .i64 0, .int .i64 (L : Int), .int .i64 (B : Int)]
  have OA := (On.refl w).alloc (.cells #[.int .i64 0, .int .i64 (L : Int), .int .i64 (B : Int)] 67)
  have hrl := hb.lt
  by_cases h1 : 3 ≤ L ∧ L ≤ 60
  · by_cases h2 : 1 ≤ B ∧ B ≤ 250
    · by_cases h3 : B ≤ n
      · have h3' : ¬ (n : Int) < (B : Int) := by omega
        have h3'' : decide ((n : Int) < (B : Int)) = false := by simp; omega
        have h3n : decide (n < B) = false := by simp; omega
        have hok : backOk n L B := by unfold backOk; omega
        go_enter Tryd.func157, Tryd.ntmps157
        go_wp2_with fail
        refine (sin_yes _ (by omega) (by omega)).mono ?_
        rintro e w2 ⟨rfl, hw⟩
        obtain rfl : _ = w2 := hw.symm
        go_wp2_with fail
        refine (sin_yes _ (by omega) (by omega)).mono ?_
        rintro e w2 ⟨rfl, hw⟩
        obtain rfl : _ = w2 := hw.symm
        have hz : w.heap.size ≠ r := by omega
        have hb1 := hb.on OA
        have hml : ∀ k, (copy l B k).length = n + k := fun k => by rw [copy_length, HN.out]
        have HML := Lib.hid hml
        have c1 : (w.alloc (.cells #[.int .i64 0, .int .i64 (L : Int), .int .i64 (B : Int)] 67)).cell? ⟨w.heap.size, 1, none⟩ = some (.int .i64 (L : Int)) := (BA.cell 1).trans rfl
        have c2 : (w.alloc (.cells #[.int .i64 0, .int .i64 (L : Int), .int .i64 (B : Int)] 67)).cell? ⟨w.heap.size, 2, none⟩ = some (.int .i64 (B : Int)) := (BA.cell 2).trans rfl
        have hbs := BA.lt
        have HOK := Lib.hid hok
        clear hml hok
        generalize w.heap.size = tb at *
        generalize w.alloc (.cells #[.int .i64 0, .int .i64 (L : Int), .int .i64 (B : Int)] 67) = w1 at *
        go_wp2_with fail
        go_loopw [0, 6] (fun o x wr => ∃ (k r' cap' : Nat), x = .int .i64 (k : Int) ∧ k ≤ L ∧ o = .slice (some ⟨r', 0, none⟩) (n + k) cap' ∧ By wr r' cap' (copy l B k) ∧ Mb r w1 r' wr) (fun _ x _ => L - (intOf x).toNat)
        case atStart => exact ⟨0, r, cap, rfl, by omega, rfl, hb1, Mb.refl _ _⟩
        case round =>
          obtain ⟨k, r', cap', rfl, hk, rfl, hB, M⟩ := hrel
          have BT := M.kp.blk BA (by simp; exact hz)
          have d1 : wr.cell? ⟨tb, 1, none⟩ = some (.int .i64 (L : Int)) := (BT.cell 1).trans rfl
          by_cases hlt : k < L
          · have hlen := HML.out k
            have hr' : tb ≠ r' := by rcases M.at_ with e | e <;> omega
            have d2 : wr.cell? ⟨tb, 2, none⟩ = some (.int .i64 (B : Int)) := (BT.cell 2).trans rfl
            have hbk := HOK.out
            unfold backOk at hbk
            have hi : n + k - B < (copy l B k).length := by rw [hlen]; omega
            have hcell := hB.cell hi
            have hst : copy l B (k + 1) = copy l B k ++ [(copy l B k).getD (n + k - B) 0] := by rw [copy, hlen]
            have hby : Bytes wr r' (.slice (some ⟨r', 0, none⟩) (n + k) cap') (copy l B k) := by have := hB.out; rw [hlen] at this; exact this
            have HST := Lib.hid hst
            have HLEN := Lib.hid hlen
            have hk2 : (k : Int) < L := by omega
            clear hst hlen hi hbk
            generalize copy l B k = lk at *
            generalize lk.getD (n + k - B) 0 = x at *
            obtain ⟨m, hm⟩ : ∃ m, n + k = m := ⟨_, rfl⟩
            have e1 : IntKind.i64.wrap ((m : Int) - (B : Int)) = ((m - B : Nat) : Int) := by have := HOK.out; unfold backOk at this; rw [IntKind.wrap_i64]; omega
            have e2 : ((m - B : Nat) : Int) < m := by have := HOK.out; unfold backOk at this; omega
            rw [hm] at hcell hby ⊢
            have HM := Lib.hid hm
            have hmle : m ≤ 101000 := by omega
            clear hm
            generalize m - B = mb at *
            go_wp2_with (at_builtin; go_must (refine wpList_byte (x := x) rfl _ _ rfl rfl hby rfl (by rw [HLEN.out, HM.out]; omega) ?_); intro r2 cap2 w2 hby2 hr2 hrl2 K2 hc1 hc2)
            go_roundw
            case rel =>
              refine ⟨k + 1, r2, cap2, by go_num, by omega, ?_, ?_, ?_⟩
              · rw [HLEN.out]; rfl
              · rw [HST.out]
                refine ⟨?_⟩
                rw [List.length_append]
                exact hby2
              · exact M.trans ⟨K2, hr2⟩
            case measure => simp [intOf]; omega
          · obtain rfl : k = L := by omega
            go_wp2_with fail
            go_ret2
            refine .inl ⟨HOK.out, r', cap', rfl, hB, ?_⟩
            refine ⟨(Kp.of [r] OA).then M.kp, ?_⟩
            have := OA.size
            rcases M.at_ with e | e <;> omega
      · have h3' : (n : Int) < (B : Int) := by omega
        go_enter Tryd.func157, Tryd.ntmps157
        go_wp2_with fail
        refine (sin_yes _ (by omega) (by omega)).mono ?_
        rintro e w2 ⟨rfl, hw⟩
        obtain rfl : _ = w2 := hw.symm
        go_wp2_with fail
        refine (sin_yes _ (by omega) (by omega)).mono ?_
        rintro e w2 ⟨rfl, hw⟩
        obtain rfl : _ = w2 := hw.symm
        go_wp2_with fail
        go_ret2
        exact .inr ⟨fun h => by unfold backOk at h; omega, rfl, OA⟩
    · go_enter Tryd.func157, Tryd.ntmps157
      go_wp2_with fail
      refine (sin_yes _ (by omega) (by omega)).mono ?_
      rintro e w2 ⟨rfl, hw⟩
      obtain rfl : _ = w2 := hw.symm
      go_wp2_with fail
      refine (sin_no _ (by omega)).mono ?_
      rintro e w2 ⟨rfl, hw⟩
      obtain rfl : _ = w2 := hw.symm
      go_wp2_with fail
      go_ret2
      exact .inr ⟨fun h => by unfold backOk at h; omega, rfl, OA⟩
  · go_enter Tryd.func157, Tryd.ntmps157
    go_wp2_with fail
    refine (sin_no _ (by omega)).mono ?_
    rintro e w2 ⟨rfl, hw⟩
    obtain rfl : _ = w2 := hw.symm
    go_wp2_with fail
    go_ret2
    exact .inr ⟨fun h => by unfold backOk at h; omega, rfl, OA⟩
end Go.Proofs.YtncidljdfipigaaDoor.Wi
