/- The program's own look at an archive's names. -/
import Derived.Test.YtpbfhflggicpiaaDoorEz5
import Derived.Test.YtpbfhflggicpiaaDoorLwNameOk
namespace Go.Proofs.YtpbfhflggicpiaaDoor.Nm
open Go.RowKit Go.Proofs.YtpbfhflggicpiaaDoor.Mem
set_option linter.unusedVariables false
set_option linter.unusedSimpArgs false
def nms (L : List Fi) : List Value := L.map fun f => .string f.nm
theorem nms_length (L : List Fi) : (nms L).length = L.length := List.length_map _
set_option maxRecDepth 100000 in
set_option maxHeartbeats 1000000 in
theorem namesof_calls (sp : Option Addr) (cap : Nat) (L : List Fi) (w : World) (hs : Fs w sp L) (hm : L.length ≤ 6) :
    Calls Tryd.prog 35 #[.slice sp L.length cap] w (fun e w' => ∃ v, e = .returned v ∧ Own w.heap.size w' 9 1 v L.length (nms L) ∧ On w w') := by
  generalize hn : L.length = n at *
  go_enter Tryd.func35, Tryd.ntmps35
  go_wp2_with fail
  obtain ⟨i0, hi0, hz0, hz1, hz2⟩ := info_parts strinfo
  go_loopw [3, 9] (fun v x wr => ∃ k : Nat, x = .int .i64 k ∧ k ≤ n ∧ Own w.heap.size wr 9 1 v k (nms (L.take k)) ∧ On w wr) (fun _ x _ => n - (intOf x).toNat)
  case atStart => exact ⟨0, rfl, by omega, Own.new w 9 1 #[] 0 (Nat.zero_le _) rfl (Nat.le_refl _), (On.refl w).alloc _⟩
  case round =>
    obtain ⟨k, rfl, hk, hown, O⟩ := hrel
    obtain ⟨gr, capr, rfl, hgr, hrow, hkc, hcap, hlen⟩ := hown.parts
    by_cases hlt : k < n
    · rcases hs.out with hs0 | ⟨g, o, rfl, F⟩
      · rw [hs0] at hn; simp at hn; omega
      · have hkl : k < L.length := by omega
        obtain ⟨c0, c1, c2, c3, c4, c5, c6, c7⟩ := (F.on O).cells hkl
        have hnm : nms (L.take k) ++ [.string L[k].nm] = nms (L.take (k + 1)) := by
          unfold nms
          rw [List.take_succ_eq_append_getElem hkl, List.map_append]; rfl
        have HNM := Lib.hid hnm
        clear hnm
        generalize L[k].nm = nm at *
        generalize L[k].y = y at *
        generalize L[k].m = m at *
        generalize L[k].d = d at *
        generalize L[k].h = h at *
        generalize L[k].mi = mi at *
        generalize L[k].s = s at *
        generalize L[k].tx = tx at *
        go_upto_region 5 with fail
        have A1 := (On.refl wr).alloc (.cells #[.string nm, .int .i64 y, .int .i64 m, .int .i64 d, .int .i64 h, .int .i64 mi, .int .i64 s, .string tx] 34)
        have B1 := Blk.new wr 34 #[.string nm, .int .i64 y, .int .i64 m, .int .i64 d, .int .i64 h, .int .i64 mi, .int .i64 s, .string tx]
        have O1 := O.call A1
        replace hown := hown.on A1
        have x0 : (wr.alloc (.cells #[.string nm, .int .i64 y, .int .i64 m, .int .i64 d, .int .i64 h, .int .i64 mi, .int .i64 s, .string tx] 34)).cell? ⟨wr.heap.size, 0, none⟩ = some (.string nm) := (B1.cell 0).trans rfl
        clear c0 c1 c2 c3 c4 c5 c6 c7 B1 A1 hrow
        generalize wr.alloc (.cells #[.string nm, .int .i64 y, .int .i64 m, .int .i64 d, .int .i64 h, .int .i64 mi, .int .i64 s, .string tx] 34) = w1 at *
        generalize wr.heap.size = p at *
        go_wp2_with (at_builtin; go_must (refine wpList_app rfl _ _ 45 rfl w i0 (.string ByteArray.empty) 16 1 Tryd.underlying45 hi0 hz0 hz1 hz2 rfl (by decide) rfl _ _ _ rfl hown O1 rfl (by simp [Value.oneCell']) (by unfold maxLen; omega) (by omega) ?_); intro v' w2 hown' O' _)
        go_roundw
        case rel =>
          refine ⟨k + 1, by go_num, by omega, ?_, O'⟩
          rw [← HNM.out]; simpa using hown'
        case measure => simp [intOf]; omega
    · obtain rfl : k = n := by omega
      rw [← hn, List.take_length] at hown
      go_wp2_with fail
      go_ret
      exact ⟨_, rfl, by rw [← hn]; exact hown, O⟩
/-- A row of names. -/
structure Nms (w : World) (r : Nat) (L : List Fi) : Prop where mk :: (out : ∀ i, (h : i < L.length) → w.cell? ⟨r, i, none⟩ = some (.string L[i].nm))
theorem Nms.on {w w' : World} {r : Nat} {L : List Fi} (h : Nms w r L) (O : On w w') : Nms w' r L :=
  ⟨fun i hi => (O.cell (World.block_lt_of_cell? w _ (h.out i hi))).trans (h.out i hi)⟩
theorem Nms.of {w : World} {r t : Nat} {L : List Fi} (h : Row w r t (nms L)) : Nms w r L :=
  ⟨fun i hi => h.cell (by unfold nms; rw [List.getElem?_map, List.getElem?_eq_getElem hi]; rfl)⟩
theorem slash_under (a b : ByteArray) : Lib.hasPrefix a.data.toList (b ++ ⟨#[47]⟩).data.toList = under b.data.toList a.data.toList := by
  unfold under; simp
theorem prefix_calls (a b : ByteArray) (w : World) : Calls Tryd.prog 47 #[.string a, .string (b ++ ⟨#[47]⟩)] w (fun e w' => e = .returned (.bool (under b.data.toList a.data.toList)) ∧ w' = w) := by
  rw [← slash_under]; exact Tryd.strings_HasPrefix _ _ w
set_option maxRecDepth 100000 in
set_option maxHeartbeats 1000000 in
theorem apart_calls (r cap : Nat) (L : List Fi) (w : World) (hs : Nms w r L) (hz : Szs L 1048576) (hm : L.length ≤ 6) (hc : L.length ≤ cap) (hc2 : cap ≤ maxLen) :
    Calls Tryd.prog 34 #[.slice (some ⟨r, 0, none⟩) L.length cap] w (fun e w' => ∃ b : Bool, e = .returned (.bool b) ∧ On w w' ∧ (b = true ↔ Apart L)) := by
  unfold maxLen at hc2
  have HA1 := Lib.hid (fun h => (apart_to (L := L)).1 h)
  have HA2 := Lib.hid (fun h => (apart_to (L := L)).2 h)
  have HZ := Lib.hid hz
  clear hz
  generalize Apart L = Z at *
  generalize hn : L.length = n at *
  go_enter Tryd.func34, Tryd.ntmps34
  go_wp2_with fail
  go_loopw [9] (fun x wr => ∃ i : Nat, x = .int .i64 i ∧ i ≤ n ∧ ApartTo L i ∧ On w wr) (fun x _ => n - (intOf x).toNat)
  case atStart => exact ⟨0, rfl, by omega, fun i j h1 h2 => by omega, On.refl w⟩
  case round =>
    obtain ⟨i, rfl, hi, H, O⟩ := hrel
    by_cases hlt : i < n
    · have hil : i < L.length := by omega
      have c0 := (hs.on O).out i hil
      have hic : i ≤ cap := by omega
      have HAP := Lib.hid (fun (h : ∀ j, j < i → nmAt L i ≠ nmAt L j ∧ under (nmAt L j) (nmAt L i) = false ∧ under (nmAt L i) (nmAt L j) = false) => show ApartTo L (i + 1) from fun p q hp hq => by
        rcases Nat.lt_or_ge p i with hp' | hp'
        · exact H p q hp' hq
        · obtain rfl : p = i := by omega
          exact h q hq)
      have HMI := Lib.hid (nmAt_lt hil)
      have HSI := Lib.hid (HZ.out.out _ (List.getElem_mem hil)).1
      generalize L[i].nm = a at *
      go_wp2_with fail
      go_loopw [18] (fun x wq => ∃ j : Nat, x = .int .i64 j ∧ j ≤ i ∧ (∀ k, k < j → nmAt L i ≠ nmAt L k ∧ under (nmAt L k) (nmAt L i) = false ∧ under (nmAt L i) (nmAt L k) = false) ∧ On w wq) (fun x _ => i - (intOf x).toNat)
      case atStart => exact ⟨0, rfl, by omega, fun k h => by omega, O⟩
      case round =>
        obtain ⟨j, rfl, hj, HU, Oq⟩ := hrel
        by_cases hji : j < i
        · have hjl : j < L.length := by omega
          have d0 := (hs.on Oq).out j hjl
          have HMJ := Lib.hid (nmAt_lt hjl)
          have HSJ := Lib.hid (HZ.out.out _ (List.getElem_mem hjl)).1
          generalize L[j].nm = b at *
          have HZJ := Lib.hid (fun (hz : Z) => HA2.out hz i j (by omega) hji)
          have HUJ := Lib.hid (fun (h : nmAt L i ≠ nmAt L j ∧ under (nmAt L j) (nmAt L i) = false ∧ under (nmAt L i) (nmAt L j) = false) k (hk : k < j + 1) => show nmAt L i ≠ nmAt L k ∧ under (nmAt L k) (nmAt L i) = false ∧ under (nmAt L i) (nmAt L k) = false by
            rcases Nat.lt_or_ge k j with hk' | hk'
            · exact HU k hk'
            · obtain rfl : k = j := by omega
              exact h)
          have HP1 := Lib.hid (fun w => prefix_calls a b w)
          have HP2 := Lib.hid (fun w => prefix_calls b a w)
          rw [← HMI.out, ← HMJ.out] at HP1 HP2
          have sa : a.size + 1 ≤ 9223372036854775807 := by have := HSI.out; omega
          have sb : b.size + 1 ≤ 9223372036854775807 := by have := HSJ.out; omega
          by_cases e1 : a.toList = b.toList
          · have e2 : nmAt L i = nmAt L j := by rw [HMI.out, HMJ.out, ← ByteArray.toList_eq, e1, ByteArray.toList_eq]
            have HX := Lib.hid (fun hz => (HZJ.out hz).1 e2)
            clear e2
            go_wp2_with fail
            go_ret
            exact ⟨_, rfl, Oq, by simp; exact HX.out⟩
          · have e2 : ¬ nmAt L i = nmAt L j := by rw [HMI.out, HMJ.out, ← ByteArray.toList_eq, ← ByteArray.toList_eq]; exact e1
            have E2 := Lib.hid e2
            clear e2
            have E1 := Lib.hid e1
            generalize under (nmAt L j) (nmAt L i) = U1 at *
            generalize under (nmAt L i) (nmAt L j) = U2 at *
            go_wp2_with fail
            refine (HP1.out _).mono ?_
            rintro e w' ⟨rfl, rfl⟩
            cases U1 with
            | true =>
              have HX : RowKit.Hid (Z → False) := Lib.hid (fun hz => by have := (HZJ.out hz).2.1; first | exact this | cases this)
              clear HUJ HZJ
              go_wp2_with fail
              all_goals first
                | exact absurd (beq_iff_eq.1 (by assumption)) E1.out
                | (go_ret; exact ⟨_, rfl, Oq, by simp; exact fun hz => HX.out hz⟩)
            | false =>
              go_wp2_with fail
              refine (HP2.out _).mono ?_
              rintro e w' ⟨rfl, rfl⟩
              cases U2 with
              | true =>
                have HX : RowKit.Hid (Z → False) := Lib.hid (fun hz => by have := (HZJ.out hz).2.2; first | exact this | cases this)
                clear HUJ HZJ
                go_wp2_with fail
                all_goals first
                  | exact absurd (beq_iff_eq.1 (by assumption)) E1.out
                  | (go_ret; exact ⟨_, rfl, Oq, by simp; exact fun hz => HX.out hz⟩)
              | false =>
                have HX := Lib.hid (HUJ.out ⟨E2.out, by first | exact trivial | rfl, by first | exact trivial | rfl⟩)
                clear HUJ HZJ
                go_wp2_with fail
                all_goals first
                  | exact absurd (beq_iff_eq.1 (by assumption)) E1.out
                  | exact ⟨⟨j + 1, by go_num, by omega, HX.out, Oq⟩, by simp [intOf]; omega⟩
        · obtain rfl : j = i := by omega
          go_wp2_with fail
          exact ⟨⟨j + 1, by go_num, by omega, HAP.out HU, Oq⟩, by simp [intOf]; omega⟩
    · obtain rfl : i = n := by omega
      go_wp2_with fail
      go_ret
      exact ⟨_, rfl, O, by simp; exact HA1.out H⟩
end Go.Proofs.YtpbfhflggicpiaaDoor.Nm
