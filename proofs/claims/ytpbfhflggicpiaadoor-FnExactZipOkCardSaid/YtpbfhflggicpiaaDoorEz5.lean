/- The specification's look at an archive's names. -/
import Derived.Test.YtpbfhflggicpiaaDoorEz2
import Derived.Test.YtpbfhflggicpiaaDoorEt
import Derived.Deep.QuietTactic
import Derived.BigQuiet
namespace Go.Proofs.YtpbfhflggicpiaaDoor.Nm
open Go.RowKit Go.Proofs.YtpbfhflggicpiaaDoor.Mem
set_option linter.unusedVariables false
set_option linter.unusedSimpArgs false
theorem bsz (a : ByteArray) : a.data.toList.length = a.size := Array.length_toList
theorem under_size {a b : ByteArray} (h : ¬ a.size < b.size) : under a.data.toList b.data.toList = false := by
  unfold under Lib.hasPrefix
  cases hp : (a.data.toList ++ [47]).isPrefixOf b.data.toList with
  | false => rfl
  | true =>
    have := (List.isPrefixOf_iff_prefix.1 hp).length_le
    rw [List.length_append, List.length_singleton, bsz, bsz] at this; omega
theorem under_at {a b : ByteArray} (h : a.size < b.size) : under a.data.toList b.data.toList = (decide (b.data.toList.take a.size = a.data.toList) && decide (b[a.size] = 47)) := by
  have hb : a.size < b.data.toList.length := by rw [bsz]; exact h
  have e1 : b.data.toList[a.size] = b[a.size] := rfl
  have e2 : b.data.toList.take (a.size + 1) = b.data.toList.take a.size ++ [b[a.size]] := by rw [List.take_succ_eq_append_getElem hb, e1]
  unfold under Lib.hasPrefix
  rw [Bool.eq_iff_iff, List.isPrefixOf_iff_prefix, List.prefix_iff_eq_take, List.length_append, List.length_singleton, bsz, e2, Bool.and_eq_true, decide_eq_true_eq, decide_eq_true_eq]
  constructor
  · intro h
    have := List.append_inj h (by rw [List.length_take, bsz, bsz]; omega)
    exact ⟨this.1.symm, by simpa using this.2.symm⟩
  · rintro ⟨h1, h2⟩
    rw [h1, h2]
set_option maxRecDepth 100000 in
theorem sunder_calls (a b : ByteArray) (ha : a.size ≤ 1048576) (hb : b.size ≤ 1048576) (w : World) :
    Calls Tryd.prog 33 #[.string a, .string b] w (fun e w' => e = .returned (.bool (under a.data.toList b.data.toList)) ∧ w' = w) := by
  by_cases h1 : a.size < b.size
  · have HR := Lib.hid (under_at h1)
    generalize under a.data.toList b.data.toList = R at *
    have e0 : ∀ x : UInt8, decide (x = 47) = ((x.toNat : Int) == 47) := fun x => by
      rw [Bool.eq_iff_iff, decide_eq_true_eq, beq_iff_eq]
      constructor
      · rintro rfl; rfl
      · intro h
        have h' : x.toNat = 47 := by omega
        exact UInt8.toNat_inj.1 h'
    rw [e0] at HR
    clear e0
    have e3 : (b.extract 0 a.size).toList = b.data.toList.take a.size := by
      rw [ByteArray.toList_eq, ByteArray.data_extract]; simp
    by_cases h2 : b.data.toList.take a.size = a.data.toList
    · rw [decide_eq_true h2, Bool.true_and] at HR
      have e2 : (b.extract 0 a.size).toList = a.toList := by rw [e3, h2, ByteArray.toList_eq]
      clear e3 h2
      go_enter Tryd.func33, Tryd.ntmps33
      go_wp2_with fail
      go_ret
      exact ⟨by rw [HR.out]; rfl, rfl⟩
    · rw [decide_eq_false h2, Bool.false_and] at HR
      have e2 : ¬ (b.extract 0 a.size).toList = a.toList := by rw [e3, ByteArray.toList_eq]; exact h2
      clear e3 h2
      go_enter Tryd.func33, Tryd.ntmps33
      go_wp2_with fail
      go_ret
      exact ⟨by rw [HR.out]; rfl, rfl⟩
  · have HR := Lib.hid (under_size h1)
    generalize under a.data.toList b.data.toList = R at *
    go_enter Tryd.func33, Tryd.ntmps33
    go_wp2_with fail
    go_ret
    exact ⟨by rw [HR.out]; rfl, rfl⟩
set_option maxRecDepth 100000 in
set_option maxHeartbeats 1000000 in
theorem sat_calls (sp : Option Addr) (cap : Nat) (L : List Fi) (nm : ByteArray) (w : World) (hs : Fs w sp L) (hm : L.length ≤ 1048576) :
    Calls Tryd.prog 32 #[.slice sp L.length cap, .string nm] w (fun e w' => ∃ v : Int, e = .returned (.int .i64 v) ∧ w' = w ∧
      ((v = -1 ∧ ∀ k, k < L.length → nmAt L k ≠ nm.data.toList) ∨ ∃ k : Nat, v = k ∧ k < L.length ∧ nmAt L k = nm.data.toList ∧ ∀ j, j < k → nmAt L j ≠ nm.data.toList)) := by
  generalize hn : L.length = n at *
  go_enter Tryd.func32, Tryd.ntmps32
  go_wp2_with fail
  go_loopw [5] (fun x wr => ∃ k : Nat, x = .int .i64 k ∧ k ≤ n ∧ wr = w ∧ ∀ j, j < k → nmAt L j ≠ nm.data.toList) (fun x _ => n - (intOf x).toNat)
  case atStart => exact ⟨0, rfl, by omega, rfl, fun j h => by omega⟩
  case round =>
    obtain ⟨k, rfl, hk, rfl, H⟩ := hrel
    by_cases hlt : k < n
    · rcases hs.out with hs0 | ⟨g, o, rfl, F⟩
      · rw [hs0] at hn; simp at hn; omega
      · have hkl : k < L.length := by omega
        obtain ⟨c0, _, _, _, _, _, _, _⟩ := F.cells hkl
        have HN := Lib.hid (nmAt_lt hkl)
        generalize L[k].nm = u at *
        rw [← ByteArray.toList_eq u, ← ByteArray.toList_eq nm] at *
        by_cases h1 : u.toList = nm.toList
        · go_wp2_with fail
          go_ret
          exact ⟨_, rfl, rfl, Or.inr ⟨k, rfl, hlt, HN.out.trans (h1.trans (ByteArray.toList_eq nm)), fun j hj => by rw [← ByteArray.toList_eq]; exact H j hj⟩⟩
        · have H2 := Lib.hid h1
          go_wp2_with fail
          · exact absurd (beq_iff_eq.1 (by assumption)) H2.out
          exact ⟨⟨k + 1, by go_num, by omega, trivial, fun j hj => by
            rcases Nat.lt_or_ge j k with hj' | hj'
            · exact H j hj'
            · obtain rfl : j = k := by omega
              rw [HN.out]; exact H2.out⟩, by simp [intOf]; omega⟩
    · obtain rfl : k = n := by omega
      go_wp2_with fail
      go_ret
      exact ⟨_, rfl, rfl, Or.inl ⟨rfl, H⟩⟩
theorem at_eq {L : List Fi} {i n : Nat} {nm : ByteArray} {v : Int} (hi : i < n) (hm : nmAt L i = nm.data.toList)
    (hv : (v = -1 ∧ ∀ k, k < n → nmAt L k ≠ nm.data.toList) ∨ ∃ k : Nat, v = k ∧ k < n ∧ nmAt L k = nm.data.toList ∧ ∀ j, j < k → nmAt L j ≠ nm.data.toList) : v = i ↔ ∀ j, j < i → nmAt L j ≠ nmAt L i := by
  rw [hm]
  rcases hv with ⟨_, h⟩ | ⟨k, rfl, hk, h1, h2⟩
  · exact absurd hm (h i hi)
  · constructor
    · intro e
      obtain rfl : k = i := by omega
      exact h2
    · intro h
      rcases Nat.lt_trichotomy k i with h' | h' | h'
      · exact absurd h1 (h k h')
      · rw [h']
      · exact absurd hm (h2 i h')
def enOk (f : Fi) : Bool := entryOk f.nm f.y f.m f.d f.h f.mi f.s f.tx
/-- An archive is ok. -/
def EnAt (L : List Fi) (i : Nat) : Prop := ∃ f, L[i]? = some f ∧ enOk f = true
theorem EnAt.iff {L : List Fi} {i : Nat} (h : i < L.length) : EnAt L i ↔ enOk L[i] = true := by
  unfold EnAt
  rw [List.getElem?_eq_getElem h]
  exact ⟨fun ⟨f, hf, hk⟩ => by cases hf; exact hk, fun hk => ⟨_, rfl, hk⟩⟩
def ZipOk (L : List Fi) : Prop := (∀ i, i < L.length → EnAt L i) ∧ Apart L ∧ L.length ≤ 6
set_option maxRecDepth 100000 in
set_option maxHeartbeats 1000000 in
theorem szipok_calls (sp : Option Addr) (cap : Nat) (L : List Fi) (w : World) (hs : Fs w sp L) (hz : Szs L 1048576) (hm : L.length ≤ 1048576) :
    Calls Tryd.prog 18 #[.slice sp L.length cap] w (fun e w' => ∃ b : Bool, e = .returned (.bool b) ∧ On w w' ∧ (b = true ↔ ZipOk L)) := by
  have HNE := Lib.hid (fun (h : ∀ i, i < L.length → EnAt L i ∧ ApartAt L i) => (⟨fun i hi => (h i hi).1, apart_at.1 fun i hi => (h i hi).2⟩ : (∀ i, i < L.length → EnAt L i) ∧ Apart L))
  have HNO := Lib.hid (fun (h : ZipOk L) i (hi : i < L.length) => (⟨h.1 i hi, (apart_at.2 h.2.1) i hi⟩ : EnAt L i ∧ ApartAt L i))
  have HL := Lib.hid (fun (h : ZipOk L) => h.2.2)
  have HMK : RowKit.Hid (((∀ i, i < L.length → EnAt L i) ∧ Apart L) → L.length ≤ 6 → ZipOk L) := Lib.hid (fun h h6 => ⟨h.1, h.2, h6⟩)
  have HSA := Lib.hid (fun w nm (h : Fs w sp L) => sat_calls sp cap L nm w h hm)
  have HZ := Lib.hid hz
  clear hz
  generalize ZipOk L = Z at *
  generalize hn : L.length = n at *
  go_enter Tryd.func18, Tryd.ntmps18
  go_wp2_with fail
  go_loopw [3] (fun x wr => ∃ i : Nat, x = .int .i64 i ∧ i ≤ n ∧ (∀ j, j < i → EnAt L j ∧ ApartAt L j) ∧ On w wr) (fun x _ => n - (intOf x).toNat)
  case atStart => exact ⟨0, rfl, by omega, fun j h1 => by omega, On.refl w⟩
  case round =>
    obtain ⟨i, rfl, hi, H, O⟩ := hrel
    by_cases hlt : i < n
    · rcases hs.out with hs0 | ⟨g, o, rfl, F⟩
      · rw [hs0] at hn; simp at hn; omega
      · have hil : i < L.length := by omega
        have hsw := hs.on O
        obtain ⟨c0, c1, c2, c3, c4, c5, c6, c7⟩ := (F.on O).cells hil
        have HC0 := Lib.hid (fun W (O1 : On wr W) => ((F.on O).on O1).cells hil)
        have hz1 := HZ.out.out _ (List.getElem_mem hil)
        have HC := Lib.hid (fun w => sentry_calls L[i].nm L[i].y L[i].m L[i].d L[i].h L[i].mi L[i].s L[i].tx w (by omega) (by unfold maxLen; omega))
        have HE := Lib.hid (show EnAt L i ↔ entryOk L[i].nm L[i].y L[i].m L[i].d L[i].h L[i].mi L[i].s L[i].tx = true from EnAt.iff hil)
        have HM := Lib.hid (nmAt_lt hil)
        clear hz1
        generalize entryOk L[i].nm L[i].y L[i].m L[i].d L[i].h L[i].mi L[i].s L[i].tx = R at *
        unfold ent at HC
        generalize L[i].nm = nm at *
        generalize L[i].y = y at *
        generalize L[i].m = m at *
        generalize L[i].d = d at *
        generalize L[i].h = h at *
        generalize L[i].mi = mi at *
        generalize L[i].s = s at *
        generalize L[i].tx = tx at *
        go_wp2_with fail
        refine (HC.out wr).mono ?_
        rintro e w1 ⟨rfl, O1⟩
        have O2 := O.call O1
        obtain ⟨x0, _, _, _, _, _, _, _⟩ := HC0.out w1 O1
        clear c0 c1 c2 c3 c4 c5 c6 c7
        cases R with
        | false =>
          go_wp2_with fail
          go_ret
          exact ⟨_, rfl, O2, by simp; intro hz; have := HE.out.1 (HNO.out hz i hlt).1; cases this⟩
        | true =>
          go_wp2_with fail
          refine (HSA.out w1 nm (hs.on O2)).mono ?_
          rintro e w2 ⟨v, rfl, rfl, hv⟩
          by_cases hvi : v = i
          · subst hvi
            have HA := Lib.hid ((at_eq hlt HM.out hv).1 rfl)
            clear hv
            go_wp2_with fail
            go_loopw [4] (fun x wq => ∃ j : Nat, x = .int .i64 j ∧ j ≤ n ∧ (∀ k, k < j → under (nmAt L i) (nmAt L k) = false) ∧ On w wq) (fun x _ => n - (intOf x).toNat)
            case atStart => exact ⟨0, rfl, by omega, fun k h => by omega, O2⟩
            case round =>
              obtain ⟨j, rfl, hj, HU, Oq⟩ := hrel
              by_cases hjn : j < n
              · have hjl : j < L.length := by omega
                obtain ⟨y0, _, _, _, _, _, _, _⟩ := (F.on Oq).cells hjl
                obtain ⟨z0, _, _, _, _, _, _, _⟩ := (F.on Oq).cells hil
                have HM1 := Lib.hid (nmAt_lt hil)
                have HM2 := Lib.hid (nmAt_lt hjl)
                have HSU := Lib.hid (fun w => sunder_calls L[i].nm L[j].nm (HZ.out.out _ (List.getElem_mem hil)).1 (HZ.out.out _ (List.getElem_mem hjl)).1 w)
                rw [← HM1.out, ← HM2.out] at HSU
                generalize L[i].nm = a at *
                generalize L[j].nm = b at *
                have hR := Lib.hid (show under (nmAt L i) (nmAt L j) = under (nmAt L i) (nmAt L j) from rfl)
                have HUJ := Lib.hid (fun (h : under (nmAt L i) (nmAt L j) = false) k (hk : k < j + 1) => show under (nmAt L i) (nmAt L k) = false by
                  rcases Nat.lt_or_ge k j with hk' | hk'
                  · exact HU k hk'
                  · obtain rfl : k = j := by omega
                    exact h)
                have HUT := Lib.hid (fun (h : under (nmAt L i) (nmAt L j) = true) (hz : Z) => show False by
                  have := (HNO.out hz i hlt).2.2 j hjl
                  rw [h] at this; cases this)
                clear hR
                generalize under (nmAt L i) (nmAt L j) = R at *
                cases R with
                | false =>
                  go_wp2_with fail
                  go_quiet (first | (go_at_call 33; exact Calls.quiet_of_same (HSU.out _)))
                  go_wp2_with fail
                  exact ⟨⟨j + 1, by go_num, by omega, HUJ.out trivial, Oq.drewN _⟩, by simp [intOf]; omega⟩
                | true =>
                  go_wp2_with fail
                  go_quiet (first | (go_at_call 33; exact Calls.quiet_of_same (HSU.out _)))
                  go_wp2_with fail
                  go_ret
                  exact ⟨_, rfl, Oq.drewN _, by simp; exact HUT.out trivial⟩
              · obtain rfl : j = n := by omega
                go_wp2_with fail
                exact ⟨⟨i + 1, by go_num, by omega, fun k hk => by
                  rcases Nat.lt_or_ge k i with hk' | hk'
                  · exact H k hk'
                  · obtain rfl : k = i := by omega
                    exact ⟨HE.out.2 trivial, HA.out, fun q hq => HU q (by omega)⟩, Oq⟩, by simp [intOf]; omega⟩
          · have HA := Lib.hid (fun h => hvi ((at_eq hlt HM.out hv).2 h))
            clear hv
            go_wp2_with fail
            go_ret
            exact ⟨_, rfl, O2, by simp; intro hz; exact HA.out (HNO.out hz i hlt).2.1⟩
    · obtain rfl : i = n := by omega
      have H2 := Lib.hid (HNE.out H)
      by_cases h6 : i ≤ 6
      · go_wp2_with fail
        go_ret
        exact ⟨_, rfl, O, by simp; exact ⟨fun _ => HMK.out H2.out h6, fun _ => by omega⟩⟩
      · go_wp2_with fail
        go_ret
        exact ⟨_, rfl, O, by simp; exact ⟨fun h => by omega, fun hz => by have := HL.out hz; omega⟩⟩
end Go.Proofs.YtpbfhflggicpiaaDoor.Nm
