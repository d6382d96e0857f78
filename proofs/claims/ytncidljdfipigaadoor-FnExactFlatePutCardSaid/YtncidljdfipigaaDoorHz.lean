/- What FlatePut of the program does. Conditions: the variable order as it is laid. -/
import Derived.Test.YtncidljdfipigaaDoorHo
namespace Go.Proofs.YtncidljdfipigaaDoor.Wi
open Go.RowKit Go.Proofs.YtncidljdfipigaaDoor.Mem Go.Proofs.YtncidljdfipigaaDoor.Bt Go.Proofs.YtncidljdfipigaaDoor.Cd Go.Proofs.YtncidljdfipigaaDoor.De Go.Proofs.YtncidljdfipigaaDoor.En Go.Proofs.YtncidljdfipigaaDoor.Lz Go.Proofs.YtncidljdfipigaaDoor.Hf
set_option linter.unusedVariables false
set_option linter.unusedSimpArgs false
theorem flateB_is (s : ByteArray) : flateB s = pickTo (storeB s) (fixedB s) (ownB s) 2 := by
  unfold flateB storeB fixedB ownB
  by_cases h : s.size ≤ 300
  · rw [if_pos h, if_pos h, if_pos h, if_pos h]; exact flate_pick s h
  · rw [if_neg h, if_neg h, if_neg h, if_neg h]; rfl
set_option maxRecDepth 100000 in
theorem iflateput_calls (s : ByteArray) (x : Addr) (w : World) (hO : Ord w x) :
    Calls Tryd.prog 34 #[.string s] w (Tells w (.string (flateB s))) := by
  have HR := Lib.hid (flateB_is s)
  have HS := Lib.hid (fun w => istore_calls s w)
  have HK := Lib.hid (fun w => ifixedput_calls s w)
  have HOW := Lib.hid (fun w h => iownput_calls s x w h)
  have HO := Lib.hid hO
  clear hO
  generalize storeB s = a at *
  generalize fixedB s = b at *
  generalize ownB s = c at *
  go_enter Tryd.func34, Tryd.ntmps34
  go_wp2_with fail
  refine (HS.out w).mono ?_
  rintro e w1 ⟨rfl, O1⟩
  go_wp2_with fail
  refine (HK.out w1).mono ?_
  rintro e w2 ⟨rfl, O2⟩
  go_wp2_with fail
  refine (HOW.out w2 (HO.out.on (O1.call O2))).mono ?_
  rintro e w3 ⟨rfl, O3⟩
  go_wp2_with fail
  have BB := Blk.new w3 9 #[.string b, .string c]
  have O4 := (O1.call (O2.call O3)).alloc (.cells #[.string b, .string c] 9)
  generalize hB : w3.heap.size = B at *
  generalize w3.alloc (.cells #[.string b, .string c] 9) = w4 at *
  go_loop [3, 14] (fun o i => ∃ k : Nat, k ≤ 2 ∧ i = .int .i64 (k : Int) ∧ o = .string (pickTo a b c k)) (fun _ i => 2 - (intOf i).toNat)
  case atStart => exact ⟨0, by omega, rfl, rfl⟩
  case round =>
    obtain ⟨k, hk, rfl, rfl⟩ := hrel
    by_cases hlt : k < 2
    · obtain ⟨v, c0, hv⟩ : ∃ v, w4.cell? ⟨B, k, none⟩ = some (.string v) ∧ pickTo a b c (k + 1) = choose (pickTo a b c k) v := by
        rcases (show k = 0 ∨ k = 1 by omega) with rfl | rfl
        · exact ⟨b, (BB.cell 0).trans rfl, rfl⟩
        · exact ⟨c, (BB.cell 1).trans rfl, rfl⟩
      have HV := Lib.hid hv
      clear hv
      have hlt' : (k : Int) < 2 := by omega
      generalize pickTo a b c k = p at *
      by_cases hs : v.size < p.size
      · have hs' : (v.size : Int) < (p.size : Int) := by omega
        have HC : RowKit.Hid (pickTo a b c (k + 1) = v) := Lib.hid (by rw [HV.out]; unfold choose; rw [if_pos hs])
        go_wp2_with fail
        go_round
        case rel => exact ⟨k + 1, by omega, by go_num, by rw [HC.out]⟩
        case measure => simp [intOf]; omega
      · have hs' : ¬ (v.size : Int) < (p.size : Int) := by omega
        have HC : RowKit.Hid (pickTo a b c (k + 1) = p) := Lib.hid (by rw [HV.out]; unfold choose; rw [if_neg hs])
        go_wp2_with fail
        go_round
        case rel => exact ⟨k + 1, by omega, by go_num, by rw [HC.out]⟩
        case measure => simp [intOf]; omega
    · obtain rfl : k = 2 := by omega
      go_wp2_with fail
      go_ret
      exact ⟨by rw [HR.out]; rfl, O4⟩
end Go.Proofs.YtncidljdfipigaaDoor.Wi
