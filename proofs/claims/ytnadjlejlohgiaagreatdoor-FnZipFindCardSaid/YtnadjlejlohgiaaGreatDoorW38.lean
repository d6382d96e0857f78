/- Own texts joined: Ep, Ez2, Ez5, Ez6, Ez7, Draw, DrawT, DrawN, DrawE, Mk, Mk2, LaidO, LaidQ. -/
import Derived.Deep.QuietTactic
import Derived.BigQuiet
import Derived.Test.YtnadjlejlohgiaaGreatDoorChecked
import Derived.Lib.Hide
import Derived.WalkKit
import Derived.WalkSpells
import Derived.Laws.BitsLemmas
import Derived.Deep.DeepCutAuto
import Derived.Deep.RegionHeld3
import Derived.Test.YtnadjlejlohgiaaGreatDoorRows
import Derived.Lay
import Derived.ChangeSlices
import Derived.ProofKit
import Derived.Deep.DeepHandedRow
import Derived.Test.YtnadjlejlohgiaaGreatDoorW0
import Derived.Test.YtnadjlejlohgiaaGreatDoorW5
import Derived.Test.YtnadjlejlohgiaaGreatDoorW8
import Derived.Test.YtnadjlejlohgiaaGreatDoorW18
import Derived.Test.YtnadjlejlohgiaaGreatDoorW35
import Derived.Test.YtnadjlejlohgiaaGreatDoorW36
/- Files of an archive that are ok. Nothing is walked here. -/
namespace Go.Proofs.YtnadjlejlohgiaaGreatDoor.Nm
open Go.RowKit Go.Proofs.YtnadjlejlohgiaaGreatDoor.Mem
set_option linter.unusedVariables false
def enOk (f : Fi) : Bool := entryOk f.nm f.y f.m f.d f.h f.mi f.s f.tx
/-- An archive is ok. -/
def EnAt (L : List Fi) (i : Nat) : Prop := ∃ f, L[i]? = some f ∧ enOk f = true
theorem EnAt.iff {L : List Fi} {i : Nat} (h : i < L.length) : EnAt L i ↔ enOk L[i] = true := by
  unfold EnAt
  rw [List.getElem?_eq_getElem h]
  exact ⟨fun ⟨f, hf, hk⟩ => by cases hf; exact hk, fun hk => ⟨_, rfl, hk⟩⟩
def ZipOk (L : List Fi) : Prop := (∀ i, i < L.length → EnAt L i) ∧ Apart L ∧ L.length ≤ 6
end Go.Proofs.YtnadjlejlohgiaaGreatDoor.Nm

/- Files of a law: how many bytes are left behind them. -/
namespace Go.Proofs.YtnadjlejlohgiaaGreatDoor.Nm
open Go.RowKit Go.Proofs.YtnadjlejlohgiaaGreatDoor.Mem
set_option linter.unusedVariables false
set_option linter.unusedSimpArgs false
/-- A slice of files: none, or their cells. -/
structure Fs (w : World) (sp : Option Addr) (L : List Fi) : Prop where mk :: (out : L = [] ∨ ∃ g o, sp = some ⟨g, o, none⟩ ∧ FiAt w g o L)
theorem Fs.on {w w' : World} {sp : Option Addr} {L : List Fi} (h : Fs w sp L) (O : On w w') : Fs w' sp L :=
  ⟨h.out.elim Or.inl fun ⟨g, o, a, b⟩ => Or.inr ⟨g, o, a, b.on O⟩⟩
/-- Texts that a machine can hold. -/
structure Szs (L : List Fi) (n : Nat) : Prop where mk :: (out : ∀ f, f ∈ L → f.nm.size ≤ n ∧ f.tx.size ≤ n)
end Go.Proofs.YtnadjlejlohgiaaGreatDoor.Nm

/- The specification's look at an archive's names. -/
namespace Go.Proofs.YtnadjlejlohgiaaGreatDoor.Nm
open Go.RowKit Go.Proofs.YtnadjlejlohgiaaGreatDoor.Mem
set_option linter.unusedVariables false
set_option linter.unusedSimpArgs false
theorem bsz (a : ByteArray) : a.data.toList.length = a.size := Array.length_toList
theorem under_size {a b : ByteArray} (h : ¬ a.size < b.size) : under a.data.toList b.data.toList = false := by
  unfold under Lib.hasPrefix
  cases hp : (a.data.toList ++ [47]).isPrefixOf b.data.toList with
  | false => rfl
  | true =>
    have := (List.isPrefixOf_iff_prefix.1 hp).length_le
    rw [List.length_append, List.length_singleton, bsz, bsz] at this; omega
theorem under_at {a b : ByteArray} (h : a.size < b.size) : under a.data.toList b.data.toList = (decide (b.data.toList.take a.size = a.data.toList) && decide (b[a.size] = 47)) := by
  have hb : a.size < b.data.toList.length := by rw [bsz]; exact h
  have e1 : b.data.toList[a.size] = b[a.size] := rfl
  have e2 : b.data.toList.take (a.size + 1) = b.data.toList.take a.size ++ [b[a.size]] := by rw [List.take_succ_eq_append_getElem hb, e1]
  unfold under Lib.hasPrefix
  rw [Bool.eq_iff_iff, List.isPrefixOf_iff_prefix, List.prefix_iff_eq_take, List.length_append, List.length_singleton, bsz, e2, Bool.and_eq_true, decide_eq_true_eq, decide_eq_true_eq]
  constructor
  · intro h
    have := List.append_inj h (by rw [List.length_take, bsz, bsz]; omega)
    exact ⟨this.1.symm, by simpa using this.2.symm⟩
  · rintro ⟨h1, h2⟩
    rw [h1, h2]
set_option maxRecDepth 100000 in
theorem sunder_calls (a b : ByteArray) (ha : a.size ≤ 1048576) (hb : b.size ≤ 1048576) (w : World) :
    Calls Tryz.prog 55 #[.string a, .string b] w (fun e w' => e = .returned (.bool (under a.data.toList b.data.toList)) ∧ w' = w) := by
  by_cases h1 : a.size < b.size
  · have HR := Lib.hid (under_at h1)
    generalize under a.data.toList b.data.toList = R at *
    have e0 : ∀ x : UInt8, decide (x = 47) = ((x.toNat : Int) == 47) := fun x => by
      rw [Bool.eq_iff_iff, decide_eq_true_eq, beq_iff_eq]
      constructor
      · rintro rfl; rfl
      · intro h
        have h' : x.toNat = 47 := by omega
        exact UInt8.toNat_inj.1 h'
    rw [e0] at HR
    clear e0
    have e3 : (b.extract 0 a.size).toList = b.data.toList.take a.size := by
      rw [ByteArray.toList_eq, ByteArray.data_extract]; simp
    by_cases h2 : b.data.toList.take a.size = a.data.toList
    · rw [decide_eq_true h2, Bool.true_and] at HR
      have e2 : (b.extract 0 a.size).toList = a.toList := by rw [e3, h2, ByteArray.toList_eq]
      clear e3 h2
      go_enter Tryz.func55, Tryz.ntmps55
      go_wp2_with fail
      go_ret
      exact ⟨by rw [HR.out]; rfl, rfl⟩
    · rw [decide_eq_false h2, Bool.false_and] at HR
      have e2 : ¬ (b.extract 0 a.size).toList = a.toList := by rw [e3, ByteArray.toList_eq]; exact h2
      clear e3 h2
      go_enter Tryz.func55, Tryz.ntmps55
      go_wp2_with fail
      go_ret
      exact ⟨by rw [HR.out]; rfl, rfl⟩
  · have HR := Lib.hid (under_size h1)
    generalize under a.data.toList b.data.toList = R at *
    go_enter Tryz.func55, Tryz.ntmps55
    go_wp2_with fail
    go_ret
    exact ⟨by rw [HR.out]; rfl, rfl⟩
set_option maxRecDepth 100000 in
set_option maxHeartbeats 1000000 in
theorem sat_calls (sp : Option Addr) (cap : Nat) (L : List Fi) (nm : ByteArray) (w : World) (hs : Fs w sp L) (hm : L.length ≤ 1048576) :
    Calls Tryz.prog 45 #[.slice sp L.length cap, .string nm] w (fun e w' => ∃ v : Int, e = .returned (.int .i64 v) ∧ w' = w ∧
      ((v = -1 ∧ ∀ k, k < L.length → nmAt L k ≠ nm.data.toList) ∨ ∃ k : Nat, v = k ∧ k < L.length ∧ nmAt L k = nm.data.toList ∧ ∀ j, j < k → nmAt L j ≠ nm.data.toList)) := by
  generalize hn : L.length = n at *
  go_enter Tryz.func45, Tryz.ntmps45
  go_wp2_with fail
  go_loopw [5] (fun x wr => ∃ k : Nat, x = .int .i64 k ∧ k ≤ n ∧ wr = w ∧ ∀ j, j < k → nmAt L j ≠ nm.data.toList) (fun x _ => n - (intOf x).toNat)
  case atStart => exact ⟨0, rfl, by omega, rfl, fun j h => by omega⟩
  case round =>
    obtain ⟨k, rfl, hk, rfl, H⟩ := hrel
    by_cases hlt : k < n
    · rcases hs.out with hs0 | ⟨g, o, rfl, F⟩
      · rw [hs0] at hn; simp at hn; omega
      · have hkl : k < L.length := by omega
        obtain ⟨c0, _, _, _, _, _, _, _⟩ := F.cells hkl
        have HN := Lib.hid (nmAt_lt hkl)
        generalize L[k].nm = u at *
        rw [← ByteArray.toList_eq u, ← ByteArray.toList_eq nm] at *
        by_cases h1 : u.toList = nm.toList
        · go_wp2_with fail
          go_ret
          exact ⟨_, rfl, rfl, Or.inr ⟨k, rfl, hlt, HN.out.trans (h1.trans (ByteArray.toList_eq nm)), fun j hj => by rw [← ByteArray.toList_eq]; exact H j hj⟩⟩
        · have H2 := Lib.hid h1
          go_wp2_with fail
          · exact absurd (beq_iff_eq.1 (by assumption)) H2.out
          exact ⟨⟨k + 1, by go_num, by omega, trivial, fun j hj => by
            rcases Nat.lt_or_ge j k with hj' | hj'
            · exact H j hj'
            · obtain rfl : j = k := by omega
              rw [HN.out]; exact H2.out⟩, by simp [intOf]; omega⟩
    · obtain rfl : k = n := by omega
      go_wp2_with fail
      go_ret
      exact ⟨_, rfl, rfl, Or.inl ⟨rfl, H⟩⟩
theorem at_eq {L : List Fi} {i n : Nat} {nm : ByteArray} {v : Int} (hi : i < n) (hm : nmAt L i = nm.data.toList)
    (hv : (v = -1 ∧ ∀ k, k < n → nmAt L k ≠ nm.data.toList) ∨ ∃ k : Nat, v = k ∧ k < n ∧ nmAt L k = nm.data.toList ∧ ∀ j, j < k → nmAt L j ≠ nm.data.toList) : v = i ↔ ∀ j, j < i → nmAt L j ≠ nmAt L i := by
  rw [hm]
  rcases hv with ⟨_, h⟩ | ⟨k, rfl, hk, h1, h2⟩
  · exact absurd hm (h i hi)
  · constructor
    · intro e
      obtain rfl : k = i := by omega
      exact h2
    · intro h
      rcases Nat.lt_trichotomy k i with h' | h' | h'
      · exact absurd h1 (h k h')
      · rw [h']
      · exact absurd hm (h2 i h')
set_option maxRecDepth 100000 in
set_option maxHeartbeats 1000000 in
theorem szipok_calls (sp : Option Addr) (cap : Nat) (L : List Fi) (w : World) (hs : Fs w sp L) (hz : Szs L 1048576) (hm : L.length ≤ 1048576) :
    Calls Tryz.prog 32 #[.slice sp L.length cap] w (fun e w' => ∃ b : Bool, e = .returned (.bool b) ∧ On w w' ∧ (b = true ↔ ZipOk L)) := by
  have HNE := Lib.hid (fun (h : ∀ i, i < L.length → EnAt L i ∧ ApartAt L i) => (⟨fun i hi => (h i hi).1, apart_at.1 fun i hi => (h i hi).2⟩ : (∀ i, i < L.length → EnAt L i) ∧ Apart L))
  have HNO := Lib.hid (fun (h : ZipOk L) i (hi : i < L.length) => (⟨h.1 i hi, (apart_at.2 h.2.1) i hi⟩ : EnAt L i ∧ ApartAt L i))
  have HL := Lib.hid (fun (h : ZipOk L) => h.2.2)
  have HMK : RowKit.Hid (((∀ i, i < L.length → EnAt L i) ∧ Apart L) → L.length ≤ 6 → ZipOk L) := Lib.hid (fun h h6 => ⟨h.1, h.2, h6⟩)
  have HSA := Lib.hid (fun w nm (h : Fs w sp L) => sat_calls sp cap L nm w h hm)
  have HZ := Lib.hid hz
  clear hz
  generalize ZipOk L = Z at *
  generalize hn : L.length = n at *
  go_enter Tryz.func32, Tryz.ntmps32
  go_wp2_with fail
  go_loopw [3] (fun x wr => ∃ i : Nat, x = .int .i64 i ∧ i ≤ n ∧ (∀ j, j < i → EnAt L j ∧ ApartAt L j) ∧ On w wr) (fun x _ => n - (intOf x).toNat)
  case atStart => exact ⟨0, rfl, by omega, fun j h1 => by omega, On.refl w⟩
  case round =>
    obtain ⟨i, rfl, hi, H, O⟩ := hrel
    by_cases hlt : i < n
    · rcases hs.out with hs0 | ⟨g, o, rfl, F⟩
      · rw [hs0] at hn; simp at hn; omega
      · have hil : i < L.length := by omega
        have hsw := hs.on O
        obtain ⟨c0, c1, c2, c3, c4, c5, c6, c7⟩ := (F.on O).cells hil
        have HC0 := Lib.hid (fun W (O1 : On wr W) => ((F.on O).on O1).cells hil)
        have hz1 := HZ.out.out _ (List.getElem_mem hil)
        have HC := Lib.hid (fun w => sentry_calls L[i].nm L[i].y L[i].m L[i].d L[i].h L[i].mi L[i].s L[i].tx w (by omega) (by unfold maxLen; omega))
        have HE := Lib.hid (show EnAt L i ↔ entryOk L[i].nm L[i].y L[i].m L[i].d L[i].h L[i].mi L[i].s L[i].tx = true from EnAt.iff hil)
        have HM := Lib.hid (nmAt_lt hil)
        clear hz1
        generalize entryOk L[i].nm L[i].y L[i].m L[i].d L[i].h L[i].mi L[i].s L[i].tx = R at *
        unfold ent at HC
        generalize L[i].nm = nm at *
        generalize L[i].y = y at *
        generalize L[i].m = m at *
        generalize L[i].d = d at *
        generalize L[i].h = h at *
        generalize L[i].mi = mi at *
        generalize L[i].s = s at *
        generalize L[i].tx = tx at *
        go_wp2_with fail
        refine (HC.out wr).mono ?_
        rintro e w1 ⟨rfl, O1⟩
        have O2 := O.call O1
        obtain ⟨x0, _, _, _, _, _, _, _⟩ := HC0.out w1 O1
        clear c0 c1 c2 c3 c4 c5 c6 c7
        cases R with
        | false =>
          go_wp2_with fail
          go_ret
          exact ⟨_, rfl, O2, by simp; intro hz; have := HE.out.1 (HNO.out hz i hlt).1; cases this⟩
        | true =>
          go_wp2_with fail
          refine (HSA.out w1 nm (hs.on O2)).mono ?_
          rintro e w2 ⟨v, rfl, rfl, hv⟩
          by_cases hvi : v = i
          · subst hvi
            have HA := Lib.hid ((at_eq hlt HM.out hv).1 rfl)
            clear hv
            go_wp2_with fail
            go_loopw [4] (fun x wq => ∃ j : Nat, x = .int .i64 j ∧ j ≤ n ∧ (∀ k, k < j → under (nmAt L i) (nmAt L k) = false) ∧ On w wq) (fun x _ => n - (intOf x).toNat)
            case atStart => exact ⟨0, rfl, by omega, fun k h => by omega, O2⟩
            case round =>
              obtain ⟨j, rfl, hj, HU, Oq⟩ := hrel
              by_cases hjn : j < n
              · have hjl : j < L.length := by omega
                obtain ⟨y0, _, _, _, _, _, _, _⟩ := (F.on Oq).cells hjl
                obtain ⟨z0, _, _, _, _, _, _, _⟩ := (F.on Oq).cells hil
                have HM1 := Lib.hid (nmAt_lt hil)
                have HM2 := Lib.hid (nmAt_lt hjl)
                have HSU := Lib.hid (fun w => sunder_calls L[i].nm L[j].nm (HZ.out.out _ (List.getElem_mem hil)).1 (HZ.out.out _ (List.getElem_mem hjl)).1 w)
                rw [← HM1.out, ← HM2.out] at HSU
                generalize L[i].nm = a at *
                generalize L[j].nm = b at *
                have hR := Lib.hid (show under (nmAt L i) (nmAt L j) = under (nmAt L i) (nmAt L j) from rfl)
                have HUJ := Lib.hid (fun (h : under (nmAt L i) (nmAt L j) = false) k (hk : k < j + 1) => show under (nmAt L i) (nmAt L k) = false by
                  rcases Nat.lt_or_ge k j with hk' | hk'
                  · exact HU k hk'
                  · obtain rfl : k = j := by omega
                    exact h)
                have HUT := Lib.hid (fun (h : under (nmAt L i) (nmAt L j) = true) (hz : Z) => show False by
                  have := (HNO.out hz i hlt).2.2 j hjl
                  rw [h] at this; cases this)
                clear hR
                generalize under (nmAt L i) (nmAt L j) = R at *
                cases R with
                | false =>
                  go_wp2_with fail
                  go_quiet (first | (go_at_call 55; exact Calls.quiet_of_same (HSU.out _)))
                  go_wp2_with fail
                  exact ⟨⟨j + 1, by go_num, by omega, HUJ.out trivial, Oq.drewN _⟩, by simp [intOf]; omega⟩
                | true =>
                  go_wp2_with fail
                  go_quiet (first | (go_at_call 55; exact Calls.quiet_of_same (HSU.out _)))
                  go_wp2_with fail
                  go_ret
                  exact ⟨_, rfl, Oq.drewN _, by simp; exact HUT.out trivial⟩
              · obtain rfl : j = n := by omega
                go_wp2_with fail
                exact ⟨⟨i + 1, by go_num, by omega, fun k hk => by
                  rcases Nat.lt_or_ge k i with hk' | hk'
                  · exact H k hk'
                  · obtain rfl : k = i := by omega
                    exact ⟨HE.out.2 trivial, HA.out, fun q hq => HU q (by omega)⟩, Oq⟩, by simp [intOf]; omega⟩
          · have HA := Lib.hid (fun h => hvi ((at_eq hlt HM.out hv).2 h))
            clear hv
            go_wp2_with fail
            go_ret
            exact ⟨_, rfl, O2, by simp; intro hz; exact HA.out (HNO.out hz i hlt).2.1⟩
    · obtain rfl : i = n := by omega
      have H2 := Lib.hid (HNE.out H)
      by_cases h6 : i ≤ 6
      · go_wp2_with fail
        go_ret
        exact ⟨_, rfl, O, by simp; exact ⟨fun _ => HMK.out H2.out h6, fun _ => by omega⟩⟩
      · go_wp2_with fail
        go_ret
        exact ⟨_, rfl, O, by simp; exact ⟨fun h => by omega, fun hz => by have := HL.out hz; omega⟩⟩
end Go.Proofs.YtnadjlejlohgiaaGreatDoor.Nm

/- The program's own look at an archive's names. -/
namespace Go.Proofs.YtnadjlejlohgiaaGreatDoor.Nm
open Go.RowKit Go.Proofs.YtnadjlejlohgiaaGreatDoor.Mem
set_option linter.unusedVariables false
set_option linter.unusedSimpArgs false
def nms (L : List Fi) : List Value := L.map fun f => .string f.nm
set_option maxRecDepth 100000 in
set_option maxHeartbeats 1000000 in
theorem namesof_calls (sp : Option Addr) (cap : Nat) (L : List Fi) (w : World) (hs : Fs w sp L) (hm : L.length ≤ 6) :
    Calls Tryz.prog 46 #[.slice sp L.length cap] w (fun e w' => ∃ v, e = .returned v ∧ Own w.heap.size w' 9 1 v L.length (nms L) ∧ On w w') := by
  generalize hn : L.length = n at *
  go_enter Tryz.func46, Tryz.ntmps46
  go_wp2_with fail
  obtain ⟨i0, hi0, hz0, hz1, hz2⟩ := info_parts strinfo
  go_loopw [3, 9] (fun v x wr => ∃ k : Nat, x = .int .i64 k ∧ k ≤ n ∧ Own w.heap.size wr 9 1 v k (nms (L.take k)) ∧ On w wr) (fun _ x _ => n - (intOf x).toNat)
  case atStart => exact ⟨0, rfl, by omega, Own.new w 9 1 #[] 0 (Nat.zero_le _) rfl (Nat.le_refl _), (On.refl w).alloc _⟩
  case round =>
    obtain ⟨k, rfl, hk, hown, O⟩ := hrel
    obtain ⟨gr, capr, rfl, hgr, hrow, hkc, hcap, hlen⟩ := hown.parts
    by_cases hlt : k < n
    · rcases hs.out with hs0 | ⟨g, o, rfl, F⟩
      · rw [hs0] at hn; simp at hn; omega
      · have hkl : k < L.length := by omega
        obtain ⟨c0, c1, c2, c3, c4, c5, c6, c7⟩ := (F.on O).cells hkl
        have hnm : nms (L.take k) ++ [.string L[k].nm] = nms (L.take (k + 1)) := by
          unfold nms
          rw [List.take_succ_eq_append_getElem hkl, List.map_append]; rfl
        have HNM := Lib.hid hnm
        clear hnm
        generalize L[k].nm = nm at *
        generalize L[k].y = y at *
        generalize L[k].m = m at *
        generalize L[k].d = d at *
        generalize L[k].h = h at *
        generalize L[k].mi = mi at *
        generalize L[k].s = s at *
        generalize L[k].tx = tx at *
        go_upto_region 5 with fail
        have A1 := (On.refl wr).alloc (.cells #[.string nm, .int .i64 y, .int .i64 m, .int .i64 d, .int .i64 h, .int .i64 mi, .int .i64 s, .string tx] 42)
        have B1 := Blk.new wr 42 #[.string nm, .int .i64 y, .int .i64 m, .int .i64 d, .int .i64 h, .int .i64 mi, .int .i64 s, .string tx]
        have O1 := O.call A1
        replace hown := hown.on A1
        have x0 : (wr.alloc (.cells #[.string nm, .int .i64 y, .int .i64 m, .int .i64 d, .int .i64 h, .int .i64 mi, .int .i64 s, .string tx] 42)).cell? ⟨wr.heap.size, 0, none⟩ = some (.string nm) := (B1.cell 0).trans rfl
        clear c0 c1 c2 c3 c4 c5 c6 c7 B1 A1 hrow
        generalize wr.alloc (.cells #[.string nm, .int .i64 y, .int .i64 m, .int .i64 d, .int .i64 h, .int .i64 mi, .int .i64 s, .string tx] 42) = w1 at *
        generalize wr.heap.size = p at *
        go_wp2_with (at_builtin; go_must (refine wpList_app rfl _ _ 34 rfl w i0 (.string ByteArray.empty) 16 1 Tryz.underlying34 hi0 hz0 hz1 hz2 rfl (by decide) rfl _ _ _ rfl hown O1 rfl (by simp [Value.oneCell']) (by unfold maxLen; omega) (by omega) ?_); intro v' w2 hown' O' _)
        go_roundw
        case rel =>
          refine ⟨k + 1, by go_num, by omega, ?_, O'⟩
          rw [← HNM.out]; simpa using hown'
        case measure => simp [intOf]; omega
    · obtain rfl : k = n := by omega
      rw [← hn, List.take_length] at hown
      go_wp2_with fail
      go_ret
      exact ⟨_, rfl, by rw [← hn]; exact hown, O⟩
/-- A row of names. -/
structure Nms (w : World) (r : Nat) (L : List Fi) : Prop where mk :: (out : ∀ i, (h : i < L.length) → w.cell? ⟨r, i, none⟩ = some (.string L[i].nm))
theorem Nms.on {w w' : World} {r : Nat} {L : List Fi} (h : Nms w r L) (O : On w w') : Nms w' r L :=
  ⟨fun i hi => (O.cell (World.block_lt_of_cell? w _ (h.out i hi))).trans (h.out i hi)⟩
theorem Nms.of {w : World} {r t : Nat} {L : List Fi} (h : Row w r t (nms L)) : Nms w r L :=
  ⟨fun i hi => h.cell (by unfold nms; rw [List.getElem?_map, List.getElem?_eq_getElem hi]; rfl)⟩
theorem slash_under (a b : ByteArray) : Lib.hasPrefix a.data.toList (b ++ ⟨#[47]⟩).data.toList = under b.data.toList a.data.toList := by
  unfold under; simp
theorem prefix_calls (a b : ByteArray) (w : World) : Calls Tryz.prog 93 #[.string a, .string (b ++ ⟨#[47]⟩)] w (fun e w' => e = .returned (.bool (under b.data.toList a.data.toList)) ∧ w' = w) := by
  rw [← slash_under]; exact Tryz.strings_HasPrefix _ _ w
set_option maxRecDepth 100000 in
set_option maxHeartbeats 1000000 in
theorem apart_calls (r cap : Nat) (L : List Fi) (w : World) (hs : Nms w r L) (hz : Szs L 1048576) (hm : L.length ≤ 6) (hc : L.length ≤ cap) (hc2 : cap ≤ maxLen) :
    Calls Tryz.prog 63 #[.slice (some ⟨r, 0, none⟩) L.length cap] w (fun e w' => ∃ b : Bool, e = .returned (.bool b) ∧ On w w' ∧ (b = true ↔ Apart L)) := by
  unfold maxLen at hc2
  have HA1 := Lib.hid (fun h => (apart_to (L := L)).1 h)
  have HA2 := Lib.hid (fun h => (apart_to (L := L)).2 h)
  have HZ := Lib.hid hz
  clear hz
  generalize Apart L = Z at *
  generalize hn : L.length = n at *
  go_enter Tryz.func63, Tryz.ntmps63
  go_wp2_with fail
  go_loopw [9] (fun x wr => ∃ i : Nat, x = .int .i64 i ∧ i ≤ n ∧ ApartTo L i ∧ On w wr) (fun x _ => n - (intOf x).toNat)
  case atStart => exact ⟨0, rfl, by omega, fun i j h1 h2 => by omega, On.refl w⟩
  case round =>
    obtain ⟨i, rfl, hi, H, O⟩ := hrel
    by_cases hlt : i < n
    · have hil : i < L.length := by omega
      have c0 := (hs.on O).out i hil
      have hic : i ≤ cap := by omega
      have HAP := Lib.hid (fun (h : ∀ j, j < i → nmAt L i ≠ nmAt L j ∧ under (nmAt L j) (nmAt L i) = false ∧ under (nmAt L i) (nmAt L j) = false) => show ApartTo L (i + 1) from fun p q hp hq => by
        rcases Nat.lt_or_ge p i with hp' | hp'
        · exact H p q hp' hq
        · obtain rfl : p = i := by omega
          exact h q hq)
      have HMI := Lib.hid (nmAt_lt hil)
      have HSI := Lib.hid (HZ.out.out _ (List.getElem_mem hil)).1
      generalize L[i].nm = a at *
      go_wp2_with fail
      go_loopw [18] (fun x wq => ∃ j : Nat, x = .int .i64 j ∧ j ≤ i ∧ (∀ k, k < j → nmAt L i ≠ nmAt L k ∧ under (nmAt L k) (nmAt L i) = false ∧ under (nmAt L i) (nmAt L k) = false) ∧ On w wq) (fun x _ => i - (intOf x).toNat)
      case atStart => exact ⟨0, rfl, by omega, fun k h => by omega, O⟩
      case round =>
        obtain ⟨j, rfl, hj, HU, Oq⟩ := hrel
        by_cases hji : j < i
        · have hjl : j < L.length := by omega
          have d0 := (hs.on Oq).out j hjl
          have HMJ := Lib.hid (nmAt_lt hjl)
          have HSJ := Lib.hid (HZ.out.out _ (List.getElem_mem hjl)).1
          generalize L[j].nm = b at *
          have HZJ := Lib.hid (fun (hz : Z) => HA2.out hz i j (by omega) hji)
          have HUJ := Lib.hid (fun (h : nmAt L i ≠ nmAt L j ∧ under (nmAt L j) (nmAt L i) = false ∧ under (nmAt L i) (nmAt L j) = false) k (hk : k < j + 1) => show nmAt L i ≠ nmAt L k ∧ under (nmAt L k) (nmAt L i) = false ∧ under (nmAt L i) (nmAt L k) = false by
            rcases Nat.lt_or_ge k j with hk' | hk'
            · exact HU k hk'
            · obtain rfl : k = j := by omega
              exact h)
          have HP1 := Lib.hid (fun w => prefix_calls a b w)
          have HP2 := Lib.hid (fun w => prefix_calls b a w)
          rw [← HMI.out, ← HMJ.out] at HP1 HP2
          have sa : a.size + 1 ≤ 9223372036854775807 := by have := HSI.out; omega
          have sb : b.size + 1 ≤ 9223372036854775807 := by have := HSJ.out; omega
          by_cases e1 : a.toList = b.toList
          · have e2 : nmAt L i = nmAt L j := by rw [HMI.out, HMJ.out, ← ByteArray.toList_eq, e1, ByteArray.toList_eq]
            have HX := Lib.hid (fun hz => (HZJ.out hz).1 e2)
            clear e2
            go_wp2_with fail
            go_ret
            exact ⟨_, rfl, Oq, by simp; exact HX.out⟩
          · have e2 : ¬ nmAt L i = nmAt L j := by rw [HMI.out, HMJ.out, ← ByteArray.toList_eq, ← ByteArray.toList_eq]; exact e1
            have E2 := Lib.hid e2
            clear e2
            have E1 := Lib.hid e1
            generalize under (nmAt L j) (nmAt L i) = U1 at *
            generalize under (nmAt L i) (nmAt L j) = U2 at *
            go_wp2_with fail
            refine (HP1.out _).mono ?_
            rintro e w' ⟨rfl, rfl⟩
            cases U1 with
            | true =>
              have HX : RowKit.Hid (Z → False) := Lib.hid (fun hz => by have := (HZJ.out hz).2.1; first | exact this | cases this)
              clear HUJ HZJ
              go_wp2_with fail
              all_goals first
                | exact absurd (beq_iff_eq.1 (by assumption)) E1.out
                | (go_ret; exact ⟨_, rfl, Oq, by simp; exact fun hz => HX.out hz⟩)
            | false =>
              go_wp2_with fail
              refine (HP2.out _).mono ?_
              rintro e w' ⟨rfl, rfl⟩
              cases U2 with
              | true =>
                have HX : RowKit.Hid (Z → False) := Lib.hid (fun hz => by have := (HZJ.out hz).2.2; first | exact this | cases this)
                clear HUJ HZJ
                go_wp2_with fail
                all_goals first
                  | exact absurd (beq_iff_eq.1 (by assumption)) E1.out
                  | (go_ret; exact ⟨_, rfl, Oq, by simp; exact fun hz => HX.out hz⟩)
              | false =>
                have HX := Lib.hid (HUJ.out ⟨E2.out, by first | exact trivial | rfl, by first | exact trivial | rfl⟩)
                clear HUJ HZJ
                go_wp2_with fail
                all_goals first
                  | exact absurd (beq_iff_eq.1 (by assumption)) E1.out
                  | exact ⟨⟨j + 1, by go_num, by omega, HX.out, Oq⟩, by simp [intOf]; omega⟩
        · obtain rfl : j = i := by omega
          go_wp2_with fail
          exact ⟨⟨j + 1, by go_num, by omega, HAP.out HU, Oq⟩, by simp [intOf]; omega⟩
    · obtain rfl : i = n := by omega
      go_wp2_with fail
      go_ret
      exact ⟨_, rfl, O, by simp; exact HA1.out H⟩
end Go.Proofs.YtnadjlejlohgiaaGreatDoor.Nm

/- The program's ZipOk. -/
namespace Go.Proofs.YtnadjlejlohgiaaGreatDoor.Nm
open Go.RowKit Go.Proofs.YtnadjlejlohgiaaGreatDoor.Mem
set_option linter.unusedVariables false
set_option linter.unusedSimpArgs false
set_option maxRecDepth 100000 in
set_option maxHeartbeats 1000000 in
theorem izipok_calls (sp : Option Addr) (cap : Nat) (L : List Fi) (w : World) (hf : Fact w) (hs : Fs w sp L) (hz : Szs L 1048576) (hm : L.length ≤ 1048576) :
    Calls Tryz.prog 37 #[.slice sp L.length cap] w (fun e w' => ∃ b : Bool, e = .returned (.bool b) ∧ On w w' ∧ (b = true ↔ ZipOk L)) := by
  have HNE := Lib.hid (fun (h : ZipOk L) => h.1)
  have HAP := Lib.hid (fun (h : ZipOk L) => h.2.1)
  have HL := Lib.hid (fun (h : ZipOk L) => h.2.2)
  have HMK : RowKit.Hid ((∀ i, i < L.length → EnAt L i) → Apart L → L.length ≤ 6 → ZipOk L) := Lib.hid (fun h h2 h6 => ⟨h, h2, h6⟩)
  have HNM := Lib.hid (fun w (h : Fs w sp L) (h6 : L.length ≤ 6) => namesof_calls sp cap L w h h6)
  have HPA := Lib.hid (fun r cap w (hs : Nms w r L) (hm : L.length ≤ 6) (hc : L.length ≤ cap) (hc2 : cap ≤ maxLen) => apart_calls r cap L w hs hz hm hc hc2)
  have HZ := Lib.hid hz
  clear hz
  generalize ZipOk L = Z at *
  generalize Apart L = A at *
  generalize hn : L.length = n at *
  have HF := Lib.hid hf
  clear hf
  go_enter Tryz.func37, Tryz.ntmps37
  go_wp2_with fail
  go_loopw [7] (fun x wr => ∃ i : Nat, x = .int .i64 i ∧ i ≤ n ∧ (∀ j, j < i → EnAt L j) ∧ On w wr) (fun x _ => n - (intOf x).toNat)
  case atStart => exact ⟨0, rfl, by omega, fun j h1 => by omega, On.refl w⟩
  case round =>
    obtain ⟨i, rfl, hi, H, O⟩ := hrel
    by_cases hlt : i < n
    · rcases hs.out with hs0 | ⟨g, o, rfl, F⟩
      · rw [hs0] at hn; simp at hn; omega
      · have hil : i < L.length := by omega
        obtain ⟨c0, c1, c2, c3, c4, c5, c6, c7⟩ := (F.on O).cells hil
        have hz1 := HZ.out.out _ (List.getElem_mem hil)
        have HC := Lib.hid (fun w hf => ientry_calls L[i].nm L[i].y L[i].m L[i].d L[i].h L[i].mi L[i].s L[i].tx w hf (by omega) (by unfold maxLen; omega))
        have HE := Lib.hid (show EnAt L i ↔ entryOk L[i].nm L[i].y L[i].m L[i].d L[i].h L[i].mi L[i].s L[i].tx = true from EnAt.iff hil)
        clear hz1
        generalize entryOk L[i].nm L[i].y L[i].m L[i].d L[i].h L[i].mi L[i].s L[i].tx = R at *
        unfold ent at HC
        generalize L[i].nm = nm at *
        generalize L[i].y = y at *
        generalize L[i].m = m at *
        generalize L[i].d = d at *
        generalize L[i].h = h at *
        generalize L[i].mi = mi at *
        generalize L[i].s = s at *
        generalize L[i].tx = tx at *
        go_upto_region 4 with fail
        have A1 := (On.refl wr).alloc (.cells #[.string nm, .int .i64 y, .int .i64 m, .int .i64 d, .int .i64 h, .int .i64 mi, .int .i64 s, .string tx] 42)
        have B1 := Blk.new wr 42 #[.string nm, .int .i64 y, .int .i64 m, .int .i64 d, .int .i64 h, .int .i64 mi, .int .i64 s, .string tx]
        have O1 := O.call A1
        have cs := fun W (b : Blk W wr.heap.size 42 #[.string nm, .int .i64 y, .int .i64 m, .int .i64 d, .int .i64 h, .int .i64 mi, .int .i64 s, .string tx]) => (⟨(b.cell 0).trans rfl, (b.cell 1).trans rfl, (b.cell 2).trans rfl, (b.cell 3).trans rfl, (b.cell 4).trans rfl, (b.cell 5).trans rfl, (b.cell 6).trans rfl, (b.cell 7).trans rfl⟩ :
          W.cell? ⟨wr.heap.size, 0, none⟩ = some (.string nm) ∧ W.cell? ⟨wr.heap.size, 1, none⟩ = some (.int .i64 y) ∧ W.cell? ⟨wr.heap.size, 2, none⟩ = some (.int .i64 m) ∧ W.cell? ⟨wr.heap.size, 3, none⟩ = some (.int .i64 d) ∧ W.cell? ⟨wr.heap.size, 4, none⟩ = some (.int .i64 h) ∧ W.cell? ⟨wr.heap.size, 5, none⟩ = some (.int .i64 mi) ∧ W.cell? ⟨wr.heap.size, 6, none⟩ = some (.int .i64 s) ∧ W.cell? ⟨wr.heap.size, 7, none⟩ = some (.string tx))
        obtain ⟨x0, x1, x2, x3, x4, x5, x6, x7⟩ := cs _ B1
        clear c0 c1 c2 c3 c4 c5 c6 c7 cs B1 A1
        generalize wr.alloc (.cells #[.string nm, .int .i64 y, .int .i64 m, .int .i64 d, .int .i64 h, .int .i64 mi, .int .i64 s, .string tx] 42) = w1 at *
        generalize wr.heap.size = p at *
        go_wp2_with fail
        refine (HC.out w1 (HF.out.on HF.out.lt O1)).mono ?_
        rintro e w2 ⟨rfl, O2⟩
        have O3 := O1.call O2
        clear x0 x1 x2 x3 x4 x5 x6 x7
        cases R with
        | false =>
          go_wp2_with fail
          go_ret
          exact ⟨_, rfl, O3, by simp; intro hz; have := HE.out.1 (HNE.out hz i hlt); first | exact this | cases this⟩
        | true =>
          have HEI := Lib.hid (HE.out.2 rfl)
          clear HE
          go_wp2_with fail
          exact ⟨⟨i + 1, by go_num, by omega, fun k hk => by
            rcases Nat.lt_or_ge k i with hk' | hk'
            · exact H k hk'
            · obtain rfl : k = i := by omega
              exact HEI.out, O3⟩, by simp [intOf]; omega⟩
    · obtain rfl : i = n := by omega
      have HH := Lib.hid H
      clear H
      by_cases h6 : i ≤ 6
      · go_wp2_with fail
        refine (HNM.out wr (hs.on O) h6).mono ?_
        rintro e w1 ⟨v, rfl, hown, O1⟩
        obtain ⟨r, capr, rfl, _, hrow, hkc, hcap, hlen⟩ := hown.parts
        have O2 := O.call O1
        clear hlen
        go_wp2_with fail
        refine (HPA.out r capr w1 (Nms.of hrow) h6 hkc hcap).mono ?_
        rintro e w2 ⟨b, rfl, O3, hb⟩
        have HB := Lib.hid hb
        clear hb
        go_wp2_with fail
        go_ret
        exact ⟨b, rfl, O2.call O3, ⟨fun h => HMK.out HH.out (HB.out.1 h) h6, fun hz => HB.out.2 (HAP.out hz)⟩⟩
      · go_wp2_with fail
        go_ret
        refine Or.inl ⟨rfl, O, ?_⟩
        intro hz; have := HL.out hz; omega
end Go.Proofs.YtnadjlejlohgiaaGreatDoor.Nm

/- The draws' reader: each pick is some number below its bound; the reader's block alone changes. Conditions: the counts of picks are small. -/
namespace Go.Proofs.YtnadjlejlohgiaaGreatDoor.Draw
open Go.RowKit Go.Proofs.YtnadjlejlohgiaaGreatDoor.Mem
set_option linter.unusedVariables false
set_option linter.unusedSimpArgs false
theorem wr_i64 (n : Int) (h₀ : 0 ≤ n) (h₁ : n < 2 ^ 63) : IntKind.i64.wrap n = n := by rw [IntKind.wrap_i64]; omega
theorem xor_nn {x y : Int} (x0 : 0 ≤ x) (x1 : x < 9223372036854775808) (y0 : 0 ≤ y) (y1 : y < 9223372036854775808) : 0 ≤ Go.bits .xor .i64 x y := by
  obtain ⟨a, rfl⟩ := Int.eq_ofNat_of_zero_le x0
  obtain ⟨b, rfl⟩ := Int.eq_ofNat_of_zero_le y0
  have ha : a < 2 ^ 63 := by omega
  have hb : b < 2 ^ 63 := by omega
  have hx := Nat.xor_lt_two_pow ha hb
  have ha' : a % 2 ^ IntKind.i64.bits = a := by show a % 2 ^ 64 = a; omega
  have hb' : b % 2 ^ IntKind.i64.bits = b := by show b % 2 ^ 64 = b; omega
  simp only [Go.bits, BitVec.ofInt_natCast, BitVec.toNat_xor, BitVec.toNat_ofNat, ha', hb']
  rw [wr_i64 _ (by omega) (by omega)]
  omega
/-- Everything that was stays, but for block g. -/
structure But (g : Nat) (w w' : World) : Prop where mk :: (out : w.grownBy w' (some g))
theorem But.refl (g : Nat) (w : World) : But g w w := ⟨⟨rfl, rfl, rfl, Nat.le_refl _, fun _ _ _ => rfl⟩⟩
theorem But.trans {g : Nat} {a b c : World} (h : But g a b) (k : But g b c) : But g a c :=
  ⟨⟨k.out.os.trans h.out.os, k.out.tape.trans h.out.tape, k.out.output.trans h.out.output, Nat.le_trans h.out.size k.out.size, fun i hi hg => (k.out.block i (Nat.lt_of_lt_of_le hi h.out.size) hg).trans (h.out.block i hi hg)⟩⟩
theorem But.of {g : Nat} {a b : World} (h : On a b) : But g a b := ⟨⟨h.out.os, h.out.tape, h.out.output, h.out.size, fun i hi _ => h.out.block i hi⟩⟩
theorem But.set (g : Nat) (w : World) (i : Nat) (u : Value) : But g w (w.setCell ⟨g, i, none⟩ u) := by
  refine ⟨⟨rfl, rfl, rfl, ?_, fun j _ hj => Below.heap_setCell w ⟨g, i, none⟩ u j (fun e => hj (by rw [e]))⟩⟩
  simp [World.setCell]
theorem But.on {g : Nat} {a w w' : World} (h : But g w w') (O : On a w) (hg : a.heap.size ≤ g) : On a w' := O.grown h.out (fun _ e => by cases e; exact hg)
theorem But.blk {g k t : Nat} {w w' : World} {cs : Array Value} (h : But g w w') (b : Blk w k t cs) (hk : k ≠ g) : Blk w' k t cs := b.grown h.out (fun e => hk (by cases e; rfl))
theorem But.row {g k t : Nat} {w w' : World} {xs : List Value} (h : But g w w') (b : Row w k t xs) (hk : k ≠ g) : Row w' k t xs := by
  obtain ⟨cs, hb, ht⟩ := b.out
  exact ⟨cs, h.blk hb hk, ht⟩
theorem But.size {g : Nat} {w w' : World} (h : But g w w') : w.heap.size ≤ w'.heap.size := h.out.size
theorem But.cell {g : Nat} {w w' : World} (h : But g w w') {p : Addr} {v : Value} (hp : p.block ≠ g) (hc : w.cell? p = some v) : w'.cell? p = some v := by
  have hlt : p.block < w.heap.size := by
    rcases Nat.lt_or_ge p.block w.heap.size with hl | hl
    · exact hl
    · have h2 : w.heap[p.block]? = none := Array.getElem?_eq_none hl
      simp [World.cell?, h2] at hc
  rw [← hc]
  have hb := h.out.block p.block hlt (fun e => hp (by cases e; rfl))
  unfold World.cell?
  rw [hb]
/-- The reader at block g: at most B picks so far, its bytes lie elsewhere. -/
structure Rd (w : World) (g B : Nat) : Prop where mk :: (out : ∃ (p n cap : Nat) (A : Option Addr), Blk w g 83 #[.slice A n cap, .int .i64 p] ∧ p ≤ B ∧ n ≤ 2000 ∧ n ≤ cap ∧ cap ≤ maxLen ∧
  ∀ i, i < n → ∃ (x : Addr) (b : Nat), A = some x ∧ x.block < g ∧ b ≤ 255 ∧ w.cell? (x.add i) = some (.int .u8 b))
theorem Rd.lt {w : World} {g B : Nat} (h : Rd w g B) : g < w.heap.size := by
  obtain ⟨p, n, cap, A, hb, _⟩ := h.out
  exact hb.lt
theorem Rd.on {w w' : World} {g B : Nat} (h : Rd w g B) (O : On w w') : Rd w' g B := by
  obtain ⟨p, n, cap, A, hb, hp, hn, hc, hm, hcell⟩ := h.out
  refine ⟨p, n, cap, A, O.blk hb, hp, hn, hc, hm, fun i hi => ?_⟩
  obtain ⟨x, b, hx, hg, hb', hcl⟩ := hcell i hi
  have ha : (x.add i).block = x.block := by unfold Addr.add; split <;> rfl
  exact ⟨x, b, hx, hg, hb', (But.of (g := g) O).cell (by rw [ha]; exact Nat.ne_of_lt hg) hcl⟩
/-- Rows made behind the reader may change. -/
theorem Rd.grow {w w' : World} {g B : Nat} (h : Rd w g B) (hgl : g < w.heap.size) (hb : ∀ i, i ≤ g → w'.heap[i]? = w.heap[i]?) : Rd w' g B := by
  obtain ⟨p, n, cap, A, hb0, hp, hn, hc, hm, hcell⟩ := h.out
  refine ⟨p, n, cap, A, ⟨(hb g (Nat.le_refl _)).trans hb0.out⟩, hp, hn, hc, hm, fun i hi => ?_⟩
  obtain ⟨x, b, hx, hg, hb', hcl⟩ := hcell i hi
  have ha : (x.add i).block = x.block := by unfold Addr.add; split <;> rfl
  refine ⟨x, b, hx, hg, hb', ?_⟩
  rw [← hcl]
  unfold World.cell?
  rw [ha, hb x.block (Nat.le_of_lt hg)]
theorem Rd.le {w : World} {g B C : Nat} (h : Rd w g B) (hc : B ≤ C) : Rd w g C := by
  obtain ⟨p, n, cap, A, hb, hp, rest⟩ := h.out
  exact ⟨p, n, cap, A, hb, Nat.le_trans hp hc, rest⟩
set_option maxRecDepth 100000 in
theorem pick_calls (g B : Nat) (n : Nat) (w : World) (hr : Rd w g B) (hB : B ≤ 1000000000) (hn : 1 ≤ n) (hn2 : n ≤ 1000000000) :
    Calls Tryz.prog 66 #[.pointer (some ⟨g, 0, none⟩), .int .i64 n] w fun e w' => ∃ k : Nat, k < n ∧ e = .returned (.int .i64 k) ∧ Rd w' g (B + 1) ∧ But g w w' := by
  obtain ⟨p, len, cap, A, hb, hp, hlen, hcap, hm, hcell⟩ := hr.out
  have c0 : w.cell? ⟨g, 0, none⟩ = some (.slice A len cap) := (hb.cell 0).trans rfl
  have c1 : w.cell? ⟨g, 1, none⟩ = some (.int .i64 p) := (hb.cell 1).trans rfl
  have fr : ∀ i, w.frozen? ⟨g, i, none⟩ = false := hb.frozen
  have R' : Rd (w.setCell ⟨g, 1, none⟩ (.int .i64 (p + 1))) g (B + 1) := by
    refine ⟨p + 1, len, cap, A, ?_, by omega, hlen, hcap, hm, fun i hi => ?_⟩
    · exact hb.set 1 (.int .i64 ((p : Int) + 1))
    · obtain ⟨x, b, hx, hg, hb', hcl⟩ := hcell i hi
      have ha : (x.add i).block = x.block := by unfold Addr.add; split <;> rfl
      exact ⟨x, b, hx, hg, hb', (But.set g w 1 _).cell (by rw [ha]; exact Nat.ne_of_lt hg) hcl⟩
  have T : But g w (w.setCell ⟨g, 1, none⟩ (.int .i64 (p + 1))) := But.set g w 1 _
  have hcell' : ∀ i, i < len → ∃ (x : Addr) (b : Nat), A = some x ∧ b ≤ 255 ∧ (w.setCell ⟨g, 1, none⟩ (.int .i64 (p + 1))).cell? (x.add i) = some (.int .u8 b) := by
    intro i hi
    obtain ⟨x, b, hx, hg, hb', hcl⟩ := hcell i hi
    have ha : (x.add i).block = x.block := by unfold Addr.add; split <;> rfl
    exact ⟨x, b, hx, hb', T.cell (by rw [ha]; exact Nat.ne_of_lt hg) hcl⟩
  have hn' : (1 : Int) ≤ n := by omega
  have hn2' : (n : Int) ≤ 1000000000 := by omega
  have hp' : (p : Int) ≤ 1000000000 := by omega
  have HC := Lib.hid hcell'
  clear hcell hcell' hb hr
  by_cases h0 : len = 0
  · have h0' : ((len : Int) == 0) = true := by simp [h0]
    go_enter Tryz.func66, Tryz.ntmps66
    go_wp2_with fail
    go_ret
    exact ⟨0, by omega, rfl, R', T⟩
  have h0' : ((len : Int) == 0) = false := by simp [h0]
  by_cases h1 : p < len
  · obtain ⟨x, b, rfl, hb255, hcl⟩ := HC.out p h1
    have hb255' : (b : Int) ≤ 255 := by omega
    go_enter Tryz.func66, Tryz.ntmps66
    go_wp2_with fail
    go_ret
    exact ⟨b % n, Nat.mod_lt _ (by omega), by simp, R', T⟩
  · have hq := Nat.mod_lt p (show len > 0 by omega)
    have hq2 := Nat.mod_lt (p * 7 + 3) (show len > 0 by omega)
    have e1 : Int.tmod (p : Int) (len : Int) = ((p % len : Nat) : Int) := by
      rw [Int.tmod_eq_emod_of_nonneg (by omega)]; simp
    have e2 : Int.tmod ((p : Int) * 7 + 3) (len : Int) = (((p * 7 + 3) % len : Nat) : Int) := by
      rw [Int.tmod_eq_emod_of_nonneg (by omega)]; simp
    have e3 : Int.tdiv (p : Int) (len : Int) = ((p / len : Nat) : Int) := by
      rw [Int.tdiv_eq_ediv_of_nonneg (by omega)]; simp
    have hd : p / len ≤ p := Nat.div_le_self _ _
    generalize p % len = q at *
    generalize (p * 7 + 3) % len = q2 at *
    generalize p / len = d at *
    obtain ⟨x, b, rfl, hb255, hcl⟩ := HC.out q hq
    obtain ⟨x', b2, hx', hb2, hcl2⟩ := HC.out q2 hq2
    cases hx'
    have hb255' : (b : Int) ≤ 255 := by omega
    have hb2' : (b2 : Int) ≤ 255 := by omega
    have i1 : (q : Int) < len := by omega
    have i2 : (q2 : Int) < len := by omega
    have r1 : IntKind.i64.wrap ((p : Int) * 7) = (p : Int) * 7 := wr_i64 _ (by omega) (by omega)
    have r2 : IntKind.i64.wrap ((p : Int) * 7 + 3) = (p : Int) * 7 + 3 := wr_i64 _ (by omega) (by omega)
    have r3 : IntKind.i64.wrap ((b : Int) * 131) = (b : Int) * 131 := wr_i64 _ (by omega) (by omega)
    have r4 : IntKind.i64.wrap ((b2 : Int) * 1117) = (b2 : Int) * 1117 := wr_i64 _ (by omega) (by omega)
    have r5 : IntKind.i64.wrap ((p : Int) * 29) = (p : Int) * 29 := wr_i64 _ (by omega) (by omega)
    have r6 : IntKind.i64.wrap ((d : Int) * 53) = (d : Int) * 53 := wr_i64 _ (by omega) (by omega)
    have r7 : IntKind.i64.wrap ((b : Int) * 131 + (b2 : Int) * 1117) = (b : Int) * 131 + (b2 : Int) * 1117 := wr_i64 _ (by omega) (by omega)
    have r8 : IntKind.i64.wrap ((b : Int) * 131 + (b2 : Int) * 1117 + (p : Int) * 29) = (b : Int) * 131 + (b2 : Int) * 1117 + (p : Int) * 29 := wr_i64 _ (by omega) (by omega)
    have r9 : IntKind.i64.wrap ((b : Int) * 131 + (b2 : Int) * 1117 + (p : Int) * 29 + (d : Int) * 53) = (b : Int) * 131 + (b2 : Int) * 1117 + (p : Int) * 29 + (d : Int) * 53 := wr_i64 _ (by omega) (by omega)
    go_enter Tryz.func66, Tryz.ntmps66
    go_wp2_with fail
    go_quiet (fail)
    go_wp2_with fail
    go_ret
    have x0 : 0 ≤ (b : Int) * 131 + (b2 : Int) * 1117 + (p : Int) * 29 + (d : Int) * 53 := by omega
    have x1 : (b : Int) * 131 + (b2 : Int) * 1117 + (p : Int) * 29 + (d : Int) * 53 ≤ 1000000000000 := by omega
    have hz := xor_nn (x := (b : Int) * 131 + (b2 : Int) * 1117 + (p : Int) * 29 + (d : Int) * 53) (y := ((b : Int) * 131 + (b2 : Int) * 1117 + (p : Int) * 29 + (d : Int) * 53) / 64) x0 (by omega) (by omega) (by omega)
    have D := (On.refl (w.setCell ⟨g, 1, none⟩ (.int .i64 ((p : Int) + 1)))).drewN nq
    have z1 := Int.emod_nonneg (Go.bits .xor .i64 ((b : Int) * 131 + (b2 : Int) * 1117 + (p : Int) * 29 + (d : Int) * 53) (((b : Int) * 131 + (b2 : Int) * 1117 + (p : Int) * 29 + (d : Int) * 53) / 64)) (b := (n : Int)) (by omega)
    have z2 := Int.emod_lt_of_pos (Go.bits .xor .i64 ((b : Int) * 131 + (b2 : Int) * 1117 + (p : Int) * 29 + (d : Int) * 53) (((b : Int) * 131 + (b2 : Int) * 1117 + (p : Int) * 29 + (d : Int) * 53) / 64)) (b := (n : Int)) (by omega)
    refine ⟨((Go.bits .xor .i64 ((b : Int) * 131 + (b2 : Int) * 1117 + (p : Int) * 29 + (d : Int) * 53) (((b : Int) * 131 + (b2 : Int) * 1117 + (p : Int) * 29 + (d : Int) * 53) / 64)) % (n : Int)).toNat, by omega, ?_, R'.on D, T.trans (But.of D)⟩
    show Ending.returned (.int .i64 _) = _
    rw [Int.tmod_eq_emod_of_nonneg hz, Int.toNat_of_nonneg z1]
theorem wf_u8 {n : Int} (h : (Lit.int .u8 n).wf = true) : 0 ≤ n ∧ n ≤ 255 := by
  simpa [Lit.wf, IntKind.min, IntKind.max, IntKind.signed, IntKind.bits] using h
theorem rd_new (a0 : Option Addr) (len0 cap0 : Nat) (z0 : List Int) (w : World) (w0 : (a0 = none ∧ len0 = 0 ∧ cap0 = 0 ∧ z0 = []) ∨ ∃ x, a0 = some x ∧ len0 ≤ cap0 ∧ cap0 ≤ maxLen ∧ z0.length = cap0 ∧ (∀ i, i < z0.length → w.cell? (x.add i) = some (.int .u8 (z0.getD i 0))) ∧ ∀ n ∈ z0, (Lit.int .u8 n).wf = true)
    (n : Nat) (hn : n ≤ len0) (hn2 : n ≤ 2000) : Rd (w.alloc (.cells #[.slice a0 n cap0, .int .i64 0] 83)) w.heap.size 0 := by
  rcases w0 with ⟨rfl, rfl, rfl, rfl⟩ | ⟨x, rfl, h1, h2, h3, h4, h5⟩
  · obtain rfl : n = 0 := by omega
    exact ⟨0, 0, 0, none, Blk.new w _ _, Nat.le_refl _, hn2, Nat.le_refl _, Nat.zero_le _, fun i hi => by omega⟩
  · refine ⟨0, n, cap0, some x, Blk.new w _ _, Nat.le_refl _, hn2, by omega, h2, fun i hi => ?_⟩
    have hc := h4 i (by omega)
    have hm := h5 (z0.getD i 0) (by rw [List.getD_eq_getElem?_getD, List.getElem?_eq_getElem (by omega)]; exact List.getElem_mem _)
    obtain ⟨m0, m1⟩ := wf_u8 hm
    have ha : (x.add i).block = x.block := by unfold Addr.add; split <;> rfl
    have hlt : x.block < w.heap.size := by
      rcases Nat.lt_or_ge x.block w.heap.size with hl | hl
      · exact hl
      · have h2 : w.heap[(x.add i).block]? = none := by rw [ha]; exact Array.getElem?_eq_none hl
        simp [World.cell?, h2] at hc
    refine ⟨x, (z0.getD i 0).toNat, rfl, by omega, by omega, ?_⟩
    rw [((On.refl w).alloc _).cell (by rw [ha]; exact hlt), hc, Int.toNat_of_nonneg m0]
set_option maxRecDepth 100000 in
theorem open_calls (a0 : Option Addr) (len0 cap0 : Nat) (z0 : List Int) (w : World) (w0 : (a0 = none ∧ len0 = 0 ∧ cap0 = 0 ∧ z0 = []) ∨ ∃ x, a0 = some x ∧ len0 ≤ cap0 ∧ cap0 ≤ maxLen ∧ z0.length = cap0 ∧ (∀ i, i < z0.length → w.cell? (x.add i) = some (.int .u8 (z0.getD i 0))) ∧ ∀ n ∈ z0, (Lit.int .u8 n).wf = true) :
    Calls Tryz.prog 41 #[.slice a0 len0 cap0] w fun e w' => ∃ g, e = .returned (.pointer (some ⟨g, 0, none⟩)) ∧ Rd w' g 0 ∧ w.heap.size ≤ g ∧ On w w' := by
  by_cases h : len0 ≤ 2000
  · have h' : (len0 : Int) ≤ 2000 := by omega
    go_enter Tryz.func41, Tryz.ntmps41
    go_wp2_with fail
    go_ret
    exact ⟨w.heap.size, rfl, rd_new a0 len0 cap0 z0 w w0 len0 (Nat.le_refl _) h, Nat.le_refl _, (On.refl w).alloc _⟩
  · have h' : (2000 : Int) < len0 := by omega
    go_enter Tryz.func41, Tryz.ntmps41
    go_wp2_with fail
    go_ret
    exact ⟨w.heap.size, rfl, rd_new a0 len0 cap0 z0 w w0 2000 (by omega) (Nat.le_refl _), Nat.le_refl _, (On.refl w).alloc _⟩
set_option maxRecDepth 100000 in
theorem of_calls (g B : Nat) (q cap n : Nat) (xs : List Value) (w : World) (hr : Rd w g B) (hB : B ≤ 1000000000) (hrow : Row w q 9 xs) (hxs : xs.length = n) (hn : 1 ≤ n) (hn2 : n ≤ 1000000000) (hc : n ≤ cap) (hq : q ≠ g) :
    Calls Tryz.prog 67 #[.pointer (some ⟨g, 0, none⟩), .slice (some ⟨q, 0, none⟩) n cap] w fun e w' => ∃ v, v ∈ xs ∧ e = .returned v ∧ Rd w' g (B + 1) ∧ But g w w' := by
  go_enter Tryz.func67, Tryz.ntmps67
  go_wp2_with fail
  refine (pick_calls g B n w hr hB hn hn2).mono ?_
  rintro e w1 ⟨k, hk, rfl, hr1, T⟩
  have hk' : k < xs.length := by omega
  have c0 : w1.cell? ⟨q, k, none⟩ = some xs[k] := (T.row hrow hq).cell (by simp [hk'])
  have hmem : xs[k] ∈ xs := List.getElem_mem hk'
  generalize xs[k] = x at *
  have hkn : (k : Int) < n := by omega
  go_wp2_with fail
  go_ret
  exact ⟨x, hmem, rfl, hr1, T⟩
set_option maxRecDepth 100000 in
theorem one_calls (g B : Nat) (q cap n : Nat) (xs : List Value) (w : World) (hr : Rd w g B) (hB : B ≤ 1000000000) (hrow : Row w q 3 xs) (hxs : xs.length = n) (hn : 1 ≤ n) (hn2 : n ≤ 1000000000) (hc : n ≤ cap) (hq : q ≠ g) :
    Calls Tryz.prog 99 #[.pointer (some ⟨g, 0, none⟩), .slice (some ⟨q, 0, none⟩) n cap] w fun e w' => ∃ v, v ∈ xs ∧ e = .returned v ∧ Rd w' g (B + 1) ∧ But g w w' := by
  go_enter Tryz.func99, Tryz.ntmps99
  go_wp2_with fail
  refine (pick_calls g B n w hr hB hn hn2).mono ?_
  rintro e w1 ⟨k, hk, rfl, hr1, T⟩
  have hk' : k < xs.length := by omega
  have c0 : w1.cell? ⟨q, k, none⟩ = some xs[k] := (T.row hrow hq).cell (by simp [hk'])
  have hmem : xs[k] ∈ xs := List.getElem_mem hk'
  generalize xs[k] = x at *
  have hkn : (k : Int) < n := by omega
  go_wp2_with fail
  go_ret
  exact ⟨x, hmem, rfl, hr1, T⟩
end Go.Proofs.YtnadjlejlohgiaaGreatDoor.Draw

/- The draws of texts: some text, not a long one. -/
namespace Go.Proofs.YtnadjlejlohgiaaGreatDoor.Draw
open Go.RowKit Go.Proofs.YtnadjlejlohgiaaGreatDoor.Mem Go.Proofs.YtnadjlejlohgiaaGreatDoor.Wi
set_option linter.unusedVariables false
set_option linter.unusedSimpArgs false
theorem tmod_nat (a b : Nat) : Int.tmod (a : Int) (b : Int) = ((a % b : Nat) : Int) := by rw [Int.tmod_eq_emod_of_nonneg (by omega)]; simp
theorem tdiv_nat (a b : Nat) : Int.tdiv (a : Int) (b : Int) = ((a / b : Nat) : Int) := by rw [Int.tdiv_eq_ediv_of_nonneg (by omega)]; simp
theorem wr_u8 (n : Int) (h₀ : 0 ≤ n) (h₁ : n < 2 ^ 8) : IntKind.u8.wrap n = n := by
  have e : IntKind.u8.wrap n = n % 256 := rfl
  rw [e]; omega
theorem By.new (w : World) : By (w.alloc (.cells #[] 5)) w.heap.size 0 [] := by
  refine ⟨⟨?_, fun g hg => by simp [Value.ownBlock] at hg; exact hg.symm⟩⟩
  exact World.ownsRow_lit w (base := 0) (e := 5) (size := 1) #[] 0 (Nat.zero_le _) (by unfold maxLen; omega) (by simp)
set_option maxRecDepth 100000 in
theorem many_calls (s : ByteArray) (n : Nat) (w : World) (hs : s.size ≤ 1000) (hn : n ≤ 1000) :
    Calls Tryz.prog 100 #[.string s, .int .i64 n] w fun e w' => ∃ o : ByteArray, o.size ≤ n * s.size ∧ e = .returned (.string o) ∧ On w w' := by
  obtain ⟨M, hM⟩ : ∃ M, n * s.size = M := ⟨_, rfl⟩
  have hMb : M ≤ 1000000 := by rw [← hM]; have := Nat.mul_le_mul hn hs; omega
  have HM := Lib.hid hM
  rw [hM]
  clear hM
  go_enter Tryz.func100, Tryz.ntmps100
  go_wp2_with fail
  go_loopw [0, 1, 5] (fun a b c wr => ∃ (t o : ByteArray) (k : Nat), a = .string t ∧ b = .int .i64 (k : Int) ∧ c = .string o ∧ RowKit.Hid (o.size + k * t.size ≤ M ∧ t.size ≤ 4000000) ∧ k ≤ 1000 ∧ On w wr) (fun _ b _ _ => (intOf b).toNat)
  case atStart => exact ⟨s, ⟨#[]⟩, n, rfl, rfl, rfl, Lib.hid ⟨by show 0 + n * s.size ≤ _; rw [HM.out]; omega, by omega⟩, hn, On.refl _⟩
  case round =>
    obtain ⟨t, o, k, rfl, rfl, rfl, HB, hk, O⟩ := hrel
    by_cases h0 : k = 0
    · subst h0
      go_wp2_with fail
      go_ret
      exact ⟨o, by have := HB.out.1; omega, rfl, O⟩
    · have h0' : (0 : Int) < k := by omega
      obtain ⟨hb1, hb2⟩ := HB.out
      have ht : t.size ≤ 1000000 := by have := Nat.le_mul_of_pos_left t.size (show 0 < k by omega); omega
      have ho : o.size ≤ 1000000 := by omega
      have e2 : Int.tmod (k : Int) 2 = ((k % 2 : Nat) : Int) := tmod_nat k 2
      have e3 : Int.tdiv (k : Int) 2 = ((k / 2 : Nat) : Int) := tdiv_nat k 2
      have hq : k * t.size = k / 2 * (t.size + t.size) + k % 2 * t.size := by
        conv => lhs; rw [← Nat.div_add_mod k 2]
        rw [Nat.add_mul, Nat.mul_add, Nat.mul_assoc, Nat.two_mul]
      obtain ⟨q, hqk⟩ : ∃ q, k / 2 = q := ⟨_, rfl⟩
      have hqlt : q < k := by omega
      rw [hqk] at hq e3
      have HQ := Lib.hid hq
      clear hq hb1 hb2 hqk
      have st : (t ++ t).size = t.size + t.size := ByteArray.size_append
      have so : (o ++ t).size = o.size + t.size := ByteArray.size_append
      have ST := Lib.hid st
      have SO := Lib.hid so
      clear st so
      by_cases h1 : k % 2 = 1
      case' pos => rw [h1] at e2
      case' neg =>
        have h10 : k % 2 = 0 := by omega
        rw [h10] at e2
      all_goals
        go_wp2_with fail
        go_roundw
        case rel =>
          first
          | refine ⟨t ++ t, o ++ t, q, rfl, rfl, rfl, Lib.hid ⟨?_, by rw [ST.out]; omega⟩, by omega, O⟩
            have a := HQ.out
            have b := HB.out.1
            rw [h1] at a
            rw [ST.out, SO.out]; omega
          | refine ⟨t ++ t, o, q, rfl, rfl, rfl, Lib.hid ⟨?_, by rw [ST.out]; omega⟩, by omega, O⟩
            have a := HQ.out
            have b := HB.out.1
            rw [ST.out]; omega
        case measure => simp [intOf]; omega
theorem But.kp {g : Nat} {w w' : World} (h : But g w w') : Kp [g] w w' := ⟨h.out.os, h.out.tape, h.out.output, h.out.size, fun i hi hs => h.out.block i hi (fun e => hs (by cases e; simp))⟩
theorem But.ofKp {g : Nat} {w w' : World} (h : Kp [g] w w') : But g w w' := ⟨⟨h.os, h.tape, h.output, h.size, fun i hi hs => h.block i hi (fun e => hs (by simp at e; rw [e]))⟩⟩
theorem Rd.kp {w w' : World} {g B : Nat} {S : List Nat} (h : Rd w g B) (k : Kp S w w') (hs : ∀ y ∈ S, g < y) : Rd w' g B :=
  h.grow h.lt (fun i hi => k.block i (Nat.lt_of_le_of_lt hi h.lt) (fun hm => by have := hs i hm; omega))
set_option maxRecDepth 100000 in
theorem text_calls (g B : Nat) (w : World) (hr : Rd w g B) (hB : B ≤ 100000000) :
    Calls Tryz.prog 98 #[.pointer (some ⟨g, 0, none⟩)] w fun e w' => ∃ s : ByteArray, s.size ≤ 300 ∧ e = .returned (.string s) ∧ Rd w' g (B + 50) ∧ But g w w' := by
  go_enter Tryz.func98, Tryz.ntmps98
  go_wp2_with fail
  refine (pick_calls g B 8 w hr (by omega) (by omega) (by omega)).mono ?_
  rintro e w1 ⟨k, hk, rfl, hr1, T⟩
  by_cases h0 : k = 0
  · subst h0
    go_wp2_with fail
    go_ret
    exact ⟨⟨#[]⟩, by show 0 ≤ _; omega, rfl, hr1.le (by omega), T⟩
  by_cases h1 : k = 1
  · subst h1
    go_wp2_with fail
    refine (of_calls g (B + 1) w1.heap.size 4 4 _ _ (hr1.on ((On.refl w1).alloc _)) (by omega) (Row.of (Blk.new w1 _ _)) rfl (by omega) (by omega) (by omega) (Nat.ne_of_gt hr1.lt)).mono ?_
    rintro e w2 ⟨v, hv, rfl, hr2, T2⟩
    replace T := T.trans ((But.of (g := g) ((On.refl w1).alloc _)).trans T2)
    have hs : ∃ s : ByteArray, s.size ≤ 6 ∧ v = .string s := by
      simp at hv
      rcases hv with rfl | rfl | rfl | rfl <;> exact ⟨_, by decide, rfl⟩
    obtain ⟨s, hs, rfl⟩ := hs
    clear hv
    go_wp2_with fail
    refine (pick_calls g (B + 1 + 1) 40 w2 hr2 (by omega) (by omega) (by omega)).mono ?_
    rintro e w3 ⟨j, hj, rfl, hr3, T3⟩
    have ej : IntKind.i64.wrap (1 + (j : Int)) = ((1 + j : Nat) : Int) := by rw [IntKind.wrap_i64]; omega
    go_wp2_with fail
    refine (many_calls s (1 + j) w3 (by omega) (by omega)).mono ?_
    rintro e w4 ⟨o, ho, rfl, O4⟩
    have ho2 : (1 + j) * s.size ≤ 40 * 6 := Nat.mul_le_mul (by omega) hs
    go_wp2_with fail
    go_ret
    exact ⟨o, by omega, rfl, (hr3.on O4).le (by omega), (T.trans T3).trans (But.of O4)⟩
  by_cases h2 : k = 2
  · subst h2
    go_wp2_with fail
    have O2 := (On.refl w1).alloc (.cells #[] 5)
    have B2 := By.new w1
    have T2 := T.trans (But.of (g := g) O2)
    have hr2 := hr1.on O2
    have hz2 : (w1.alloc (.cells #[] 5)).heap.size = w1.heap.size + 1 := Array.size_push _
    have hgl := hr1.lt
    have hz0 := T.size
    generalize hr0 : w1.heap.size = r at *
    generalize w1.alloc (.cells #[] 5) = w2 at *
    refine (pick_calls g (B + 1) 40 w2 hr2 (by omega) (by omega) (by omega)).mono ?_
    rintro e w3 ⟨n, hn, rfl, hr3, T3⟩
    have B3 := B2.kp T3.kp (by simp; omega)
    replace T3 := T2.trans T3
    go_wp2_with fail
    go_loopw [3, 4] (fun o x wr => ∃ (r' cap : Nat) (l : List Nat) (m : Nat), o = .slice (some ⟨r', 0, none⟩) l.length cap ∧ x = .int .i64 (m : Int) ∧ RowKit.Hid (l.length + m = n) ∧ m ≤ n ∧ By wr r' cap l ∧ Rd wr g (B + 2 + l.length) ∧ But g w wr ∧ w.heap.size ≤ r' ∧ g < r') (fun _ x _ => (intOf x).toNat)
    case atStart => exact ⟨r, 0, [], n, rfl, rfl, Lib.hid (by simp), by omega, B3, hr3, T3, by omega, hgl⟩
    case round =>
      obtain ⟨r', cap, l, m, rfl, rfl, HL, hm, hBy, hrr, TT, hr', hrg⟩ := hrel
      have hlen : l.length ≤ 40 := by have := HL.out; omega
      by_cases m0 : m = 0
      · subst m0
        have cv := bytes_conv hBy.out
        go_wp2_with fail
        go_ret
        exact ⟨strB l, by rw [strB_size]; omega, rfl, hrr.le (by omega), TT⟩
      · have m0' : (0 : Int) < m := by omega
        go_wp2_with fail
        refine (pick_calls g (B + 2 + l.length) 256 wr hrr (by omega) (by omega) (by omega)).mono ?_
        rintro e w4 ⟨x, hx, rfl, hr4, T4⟩
        have hBy4 := (hBy.kp T4.kp (by simp; omega)).out
        have hu8 : IntKind.u8.wrap (x : Int) = (x : Int) := wr_u8 _ (by omega) (by omega)
        go_wp2_with (at_builtin; go_must (refine wpList_byte (x := x) rfl _ _ rfl rfl hBy4 rfl (by omega) ?_); intro r6 cap6 w6 hby6 hr6 hrl6 K6 hc1 hc2)
        go_roundw
        case rel =>
          have hz1 := TT.size
          have hz4 := T4.size
          have hgl4 := hr4.lt
          refine ⟨r6, cap6, l ++ [x], m - 1, by rw [List.length_append]; rfl, by go_num, Lib.hid (by have := HL.out; rw [List.length_append, List.length_singleton]; omega), by omega, ⟨?_⟩, ?_, But.ofKp ((TT.trans T4).kp.trans K6 (fun y hy => by simp at hy ⊢; omega)), by omega, by omega⟩
          · rw [List.length_append]; exact hby6
          · rw [List.length_append]; exact (hr4.kp K6 (by simpa using hrg)).le (by simp; omega)
        case measure => simp [intOf]; omega
  by_cases h3 : k = 3
  · subst h3
    go_wp2_with fail
    refine (many_calls _ 300 w1 (by decide) (by omega)).mono ?_
    rintro e w4 ⟨o, ho, rfl, O4⟩
    go_wp2_with fail
    go_ret
    exact ⟨o, ho, rfl, (hr1.on O4).le (by omega), T.trans (But.of O4)⟩
  · have k0 : ((k : Int) == 0) = false := by simp; omega
    have k1 : ((k : Int) == 1) = false := by simp; omega
    have k2 : ((k : Int) == 2) = false := by simp; omega
    have k3 : ((k : Int) == 3) = false := by simp; omega
    go_wp2_with fail
    refine (pick_calls g (B + 1) 12 w1 hr1 (by omega) (by omega) (by omega)).mono ?_
    rintro e w3 ⟨n, hn, rfl, hr3, T3⟩
    replace T3 := T.trans T3
    go_wp2_with fail
    go_loopw [5, 6] (fun o x wr => ∃ (s : ByteArray) (m : Nat), o = .string s ∧ x = .int .i64 (m : Int) ∧ m ≤ n ∧ s.size ≤ 6 * (n - m) ∧ Rd wr g (B + 2 + (n - m)) ∧ But g w wr) (fun _ x _ => (intOf x).toNat)
    case atStart => exact ⟨⟨#[]⟩, n, rfl, rfl, by omega, Nat.zero_le _, hr3.le (by omega), T3⟩
    case round =>
      obtain ⟨s, m, rfl, rfl, hm, hs, hrr, TT⟩ := hrel
      by_cases m0 : m = 0
      · subst m0
        go_wp2_with fail
        go_ret
        exact ⟨s, by omega, rfl, hrr.le (by omega), TT⟩
      · have m0' : (0 : Int) < m := by omega
        go_wp2_with fail
        refine (of_calls g _ wr.heap.size 7 7 _ _ (hrr.on ((On.refl wr).alloc _)) (by omega) (Row.of (Blk.new wr _ _)) rfl (by omega) (by omega) (by omega) (Nat.ne_of_gt hrr.lt)).mono ?_
        rintro e w4 ⟨v, hv, rfl, hr4, T4⟩
        replace T4 := TT.trans ((But.of (g := g) ((On.refl wr).alloc _)).trans T4)
        have hs4 : ∃ s : ByteArray, s.size ≤ 6 ∧ v = .string s := by
          simp at hv
          rcases hv with rfl | rfl | rfl | rfl | rfl | rfl | rfl <;> exact ⟨_, by decide, rfl⟩
        obtain ⟨y, hy, rfl⟩ := hs4
        clear hv
        have st : (s ++ y).size = s.size + y.size := ByteArray.size_append
        have ST := Lib.hid st
        clear st
        have s3 : s.size ≤ 1000 := by omega
        go_wp2_with fail
        go_roundw
        case rel =>
          refine ⟨s ++ y, m - 1, rfl, ?_, by omega, by rw [ST.out]; omega, hr4.le (by omega), T4⟩
          go_num
        case measure => simp [intOf]; omega
end Go.Proofs.YtnadjlejlohgiaaGreatDoor.Draw

/- The draws of names: some text of at most twenty bytes. -/
namespace Go.Proofs.YtnadjlejlohgiaaGreatDoor.Draw
open Go.RowKit Go.Proofs.YtnadjlejlohgiaaGreatDoor.Mem
set_option linter.unusedVariables false
set_option linter.unusedSimpArgs false
/-- No file that is drawn is named so. -/
def nobody : ByteArray := ⟨#[110, 111, 98, 111, 100, 121]⟩
set_option maxRecDepth 100000 in
theorem name_nob (g B : Nat) (w : World) (hr : Rd w g B) (hB : B ≤ 1000000000) :
    Calls Tryz.prog 44 #[.pointer (some ⟨g, 0, none⟩)] w fun e w' => ∃ s : ByteArray, (s.size ≤ 20 ∧ s ≠ nobody) ∧ e = .returned (.string s) ∧ Rd w' g (B + 1) ∧ But g w w' := by
  go_enter Tryz.func44, Tryz.ntmps44
  go_wp2_with fail
  refine (of_calls g B w.heap.size 7 7 _ _ (hr.on ((On.refl w).alloc _)) hB (Row.of (Blk.new w _ _)) rfl (by omega) (by omega) (by omega) (Nat.ne_of_gt hr.lt)).mono ?_
  rintro e w1 ⟨v, hv, rfl, hr1, T⟩
  replace T := (But.of (g := g) ((On.refl w).alloc _)).trans T
  have hs : ∃ s : ByteArray, (s.size ≤ 20 ∧ s ≠ nobody) ∧ v = .string s := by
    simp at hv
    rcases hv with rfl | rfl | rfl | rfl | rfl | rfl | rfl <;> exact ⟨_, ⟨by decide, by decide⟩, rfl⟩
  obtain ⟨s, hs, rfl⟩ := hs
  clear hv
  go_wp2_with fail
  go_ret
  exact ⟨s, hs, rfl, hr1, T⟩
theorem name_calls (g B : Nat) (w : World) (hr : Rd w g B) (hB : B ≤ 1000000000) :
    Calls Tryz.prog 44 #[.pointer (some ⟨g, 0, none⟩)] w fun e w' => ∃ s : ByteArray, s.size ≤ 20 ∧ e = .returned (.string s) ∧ Rd w' g (B + 1) ∧ But g w w' :=
  (name_nob g B w hr hB).mono fun _ _ ⟨s, h, r⟩ => ⟨s, h.1, r⟩
end Go.Proofs.YtnadjlejlohgiaaGreatDoor.Draw

/- The draws of files: some name, some six numbers, some text, not long ones. -/
namespace Go.Proofs.YtnadjlejlohgiaaGreatDoor.Draw
open Go.RowKit Go.Proofs.YtnadjlejlohgiaaGreatDoor.Mem Go.Proofs.YtnadjlejlohgiaaGreatDoor.Wi
set_option linter.unusedVariables false
set_option linter.unusedSimpArgs false
/-- Six numbers, eight cells. -/
def stv (y m d h mi s : Int) : Array Value := #[.int .i64 y, .int .i64 m, .int .i64 d, .int .i64 h, .int .i64 mi, .int .i64 s]
def env (nm : ByteArray) (y m d h mi s : Int) (tx : ByteArray) : Array Value := #[.string nm, .int .i64 y, .int .i64 m, .int .i64 d, .int .i64 h, .int .i64 mi, .int .i64 s, .string tx]
theorem But.setB {g : Nat} {w w' : World} (h : But g w w') {p : Addr} (hp : w.heap.size ≤ p.block) (u : Value) : But g w (w'.setCell p u) := But.ofKp (h.kp.set (.inr hp) u)
theorem Rd.set {w : World} {g B : Nat} (h : Rd w g B) {p : Addr} (hp : g < p.block) (u : Value) : Rd (w.setCell p u) g B := h.kp ((Kp.refl [p.block] w).set (.inl (by simp)) u) (fun y hy => by simp at hy; omega)
theorem st_ok {y : Int} {m d h mi s : Nat} (hy : y = 1980 ∨ y = 2000 ∨ y = 2024 ∨ y = 2107) (hm : m < 12) (hd : d < 28) (hh : h < 24) (hmi : mi < 60) (hs : s < 30) : Nm.okp y (1 + (m : Int)) (1 + (d : Int)) h mi (2 * (s : Int)) := by
  have hdd : 28 ≤ Nm.dd y (1 + (m : Int)) := by
    unfold Nm.dd
    repeat' split
    all_goals omega
  refine ⟨by omega, by omega, by omega, by omega, by omega, by omega, ?_⟩
  rw [Int.tmod_eq_emod_of_nonneg (by omega)]
  omega
set_option maxRecDepth 100000 in
set_option maxHeartbeats 1000000 in
theorem stamp_ok (g B : Nat) (w : World) (hr : Rd w g B) (hB : B ≤ 100000000) :
    Calls Tryz.prog 97 #[.pointer (some ⟨g, 0, none⟩)] w fun e w' => ∃ y m d h mi s : Int, e = .returned (.agg (stv y m d h mi s)) ∧ Rd w' g (B + 6) ∧ But g w w' ∧ Nm.okp y m d h mi s := by
  go_enter Tryz.func97, Tryz.ntmps97
  go_upto_region 1 with fail
  have B0 := Blk.new w 40 #[.int .i64 0, .int .i64 0, .int .i64 0, .int .i64 0, .int .i64 0, .int .i64 0]
  have O0 := (On.refl w).alloc (.cells #[.int .i64 0, .int .i64 0, .int .i64 0, .int .i64 0, .int .i64 0, .int .i64 0] 40)
  have hr0 := hr.on O0
  have T0 := But.of (g := g) O0
  generalize hR : w.heap.size = R at *
  have hgR : g ≠ R := by have := hr.lt; omega
  have hRw : w.heap.size ≤ R := by omega
  generalize w.alloc (.cells #[.int .i64 0, .int .i64 0, .int .i64 0, .int .i64 0, .int .i64 0, .int .i64 0] 40) = w0 at *
  go_wp2_with fail
  refine (one_calls g B w0.heap.size 4 4 _ _ (hr0.on ((On.refl w0).alloc _)) (by omega) (Row.of (Blk.new w0 _ _)) rfl (by omega) (by omega) (by omega) (Nat.ne_of_gt hr0.lt)).mono ?_
  rintro e w1 ⟨v, hv, rfl, hr1, T1⟩
  have B1 := T1.blk (B0.alloc _) (Ne.symm hgR)
  replace T1 := T0.trans ((But.of (g := g) ((On.refl w0).alloc _)).trans T1)
  obtain ⟨y, hy, rfl⟩ : ∃ y : Int, (y = 1980 ∨ y = 2000 ∨ y = 2024 ∨ y = 2107) ∧ v = .int .i64 y := by
    simp at hv
    rcases hv with rfl | rfl | rfl | rfl <;> exact ⟨_, by simp, rfl⟩
  have HY := Lib.hid hy
  clear hv hy
  go_wp2_with fail
  refine (pick_calls g (B + 1) 12 w1 hr1 (by omega) (by omega) (by omega)).mono ?_
  rintro e w2 ⟨m, hm, rfl, hr2, T2⟩
  have B2 := T2.blk B1 (Ne.symm hgR)
  replace T2 := T1.trans T2
  have em : IntKind.i64.wrap (1 + (m : Int)) = 1 + (m : Int) := by rw [IntKind.wrap_i64]; omega
  go_wp2_with fail
  refine (pick_calls g (B + 2) 28 w2 hr2 (by omega) (by omega) (by omega)).mono ?_
  rintro e w3 ⟨d, hd, rfl, hr3, T3⟩
  have B3 := T3.blk B2 (Ne.symm hgR)
  replace T3 := T2.trans T3
  have ed : IntKind.i64.wrap (1 + (d : Int)) = 1 + (d : Int) := by rw [IntKind.wrap_i64]; omega
  go_wp2_with fail
  refine (pick_calls g (B + 3) 24 w3 hr3 (by omega) (by omega) (by omega)).mono ?_
  rintro e w4 ⟨h, hh, rfl, hr4, T4⟩
  have B4 := T4.blk B3 (Ne.symm hgR)
  replace T4 := T3.trans T4
  go_wp2_with fail
  refine (pick_calls g (B + 4) 60 w4 hr4 (by omega) (by omega) (by omega)).mono ?_
  rintro e w5 ⟨mi, hmi, rfl, hr5, T5⟩
  have B5 := T5.blk B4 (Ne.symm hgR)
  replace T5 := T4.trans T5
  go_wp2_with fail
  refine (pick_calls g (B + 5) 30 w5 hr5 (by omega) (by omega) (by omega)).mono ?_
  rintro e w6 ⟨s, hs, rfl, hr6, T6⟩
  have B6 := T6.blk B5 (Ne.symm hgR)
  replace T6 := T5.trans T6
  have es : IntKind.i64.wrap (2 * (s : Int)) = 2 * (s : Int) := by rw [IntKind.wrap_i64]; omega
  have r0 : w6.cell? ⟨R, 0, none⟩ = some (.int .i64 0) := (B6.cell 0).trans rfl
  have r1 : w6.cell? ⟨R, 1, none⟩ = some (.int .i64 0) := (B6.cell 1).trans rfl
  have r2 : w6.cell? ⟨R, 2, none⟩ = some (.int .i64 0) := (B6.cell 2).trans rfl
  have r3 : w6.cell? ⟨R, 3, none⟩ = some (.int .i64 0) := (B6.cell 3).trans rfl
  have r4 : w6.cell? ⟨R, 4, none⟩ = some (.int .i64 0) := (B6.cell 4).trans rfl
  have r5 : w6.cell? ⟨R, 5, none⟩ = some (.int .i64 0) := (B6.cell 5).trans rfl
  have fr : ∀ i, w6.frozen? ⟨R, i, none⟩ = false := B6.frozen
  go_wp2_with fail
  have BF := ((((((B6.set 0 (.int .i64 y)).set 1 (.int .i64 (1 + (m : Int)))).set 2 (.int .i64 (1 + (d : Int)))).set 3 (.int .i64 (h : Int))).set 4 (.int .i64 (mi : Int))).set 5 (.int .i64 (2 * (s : Int))))
  have TF := ((((((T6.setB (p := ⟨R, 0, none⟩) hRw (.int .i64 y)).setB (p := ⟨R, 1, none⟩) hRw (.int .i64 (1 + (m : Int)))).setB (p := ⟨R, 2, none⟩) hRw (.int .i64 (1 + (d : Int)))).setB (p := ⟨R, 3, none⟩) hRw (.int .i64 (h : Int))).setB (p := ⟨R, 4, none⟩) hRw (.int .i64 (mi : Int))).setB (p := ⟨R, 5, none⟩) hRw (.int .i64 (2 * (s : Int))))
  have HF := ((((((hr6.set (p := ⟨R, 0, none⟩) (show g < R by have := hr.lt; omega) (.int .i64 y)).set (p := ⟨R, 1, none⟩) (show g < R by have := hr.lt; omega) (.int .i64 (1 + (m : Int)))).set (p := ⟨R, 2, none⟩) (show g < R by have := hr.lt; omega) (.int .i64 (1 + (d : Int)))).set (p := ⟨R, 3, none⟩) (show g < R by have := hr.lt; omega) (.int .i64 (h : Int))).set (p := ⟨R, 4, none⟩) (show g < R by have := hr.lt; omega) (.int .i64 (mi : Int))).set (p := ⟨R, 5, none⟩) (show g < R by have := hr.lt; omega) (.int .i64 (2 * (s : Int))))
  simp only [List.setIfInBounds_toArray, List.set_cons_zero, List.set_cons_succ] at BF
  exact bodyPost_ret (v := .agg (stv y (1 + (m : Int)) (1 + (d : Int)) (h : Int) (mi : Int) (2 * (s : Int)))) (by exact res_c (fn := Tryz.f97) (p := 2) rfl BF rfl Tryz.underlying40 rfl (by kernel_rfl)) rfl ⟨y, (1 + (m : Int)), (1 + (d : Int)), (h : Int), (mi : Int), (2 * (s : Int)), rfl, HF.le (by omega), TF, st_ok HY.out hm hd hh hmi hs⟩
theorem stamp_calls (g B : Nat) (w : World) (hr : Rd w g B) (hB : B ≤ 100000000) :
    Calls Tryz.prog 97 #[.pointer (some ⟨g, 0, none⟩)] w fun e w' => ∃ y m d h mi s : Int, e = .returned (.agg (stv y m d h mi s)) ∧ Rd w' g (B + 6) ∧ But g w w' :=
  (stamp_ok g B w hr hB).mono fun _ _ ⟨y, m, d, h, mi, s, e, r, t, _⟩ => ⟨y, m, d, h, mi, s, e, r, t⟩
set_option maxRecDepth 100000 in
set_option maxHeartbeats 2000000 in
theorem entry_nob (g B : Nat) (w : World) (hr : Rd w g B) (hB : B ≤ 10000000) :
    Calls Tryz.prog 70 #[.pointer (some ⟨g, 0, none⟩)] w fun e w' => ∃ (nm : ByteArray) (y m d h mi s : Int) (tx : ByteArray), e = .returned (.agg (env nm y m d h mi s tx)) ∧ (nm.size ≤ 20 ∧ nm ≠ nobody) ∧ tx.size ≤ 300 ∧ Rd w' g (B + 60) ∧ But g w w' := by
  go_enter Tryz.func70, Tryz.ntmps70
  go_upto_region 1 with fail
  have B0 := Blk.new w 42 #[.string ⟨#[]⟩, .int .i64 0, .int .i64 0, .int .i64 0, .int .i64 0, .int .i64 0, .int .i64 0, .string ⟨#[]⟩]
  have O0 := (On.refl w).alloc (.cells #[.string ⟨#[]⟩, .int .i64 0, .int .i64 0, .int .i64 0, .int .i64 0, .int .i64 0, .int .i64 0, .string ⟨#[]⟩] 42)
  have hr0 := hr.on O0
  have T0 := But.of (g := g) O0
  generalize hR : w.heap.size = R at *
  have hgR : g ≠ R := by have := hr.lt; omega
  have hRw : w.heap.size ≤ R := by omega
  generalize w.alloc (.cells #[.string ⟨#[]⟩, .int .i64 0, .int .i64 0, .int .i64 0, .int .i64 0, .int .i64 0, .int .i64 0, .string ⟨#[]⟩] 42) = w0 at *
  have hgRl : g < R := by have := hr.lt; omega
  go_wp2_with fail
  refine (name_nob g B w0 hr0 (by omega)).mono ?_
  rintro e w1 ⟨nm, hnm, rfl, hr1, T1⟩
  have B1 := T1.blk B0 (Ne.symm hgR)
  replace T1 := T0.trans T1
  go_wp2_with fail
  refine (stamp_calls g (B + 1) w1 hr1 (by omega)).mono ?_
  rintro e w2 ⟨y, m, d, h, mi, s, rfl, hr2, T2⟩
  unfold stv
  have B2 := T2.blk B1 (Ne.symm hgR)
  replace T2 := T1.trans T2
  go_wp2_with fail
  refine (text_calls g (B + 7) w2 hr2 (by omega)).mono ?_
  rintro e w3 ⟨tx, htx, rfl, hr3, T3⟩
  have B3 := T3.blk B2 (Ne.symm hgR)
  replace T3 := T2.trans T3
  have r0 : w3.cell? ⟨R, 0, none⟩ = some (.string ⟨#[]⟩) := (B3.cell 0).trans rfl
  have r1 : w3.cell? ⟨R, 1, none⟩ = some (.int .i64 0) := (B3.cell 1).trans rfl
  have r2 : w3.cell? ⟨R, 2, none⟩ = some (.int .i64 0) := (B3.cell 2).trans rfl
  have r3 : w3.cell? ⟨R, 3, none⟩ = some (.int .i64 0) := (B3.cell 3).trans rfl
  have r4 : w3.cell? ⟨R, 4, none⟩ = some (.int .i64 0) := (B3.cell 4).trans rfl
  have r5 : w3.cell? ⟨R, 5, none⟩ = some (.int .i64 0) := (B3.cell 5).trans rfl
  have r6 : w3.cell? ⟨R, 6, none⟩ = some (.int .i64 0) := (B3.cell 6).trans rfl
  have r7 : w3.cell? ⟨R, 7, none⟩ = some (.string ⟨#[]⟩) := (B3.cell 7).trans rfl
  have fr : ∀ i, w3.frozen? ⟨R, i, none⟩ = false := B3.frozen
  go_wp2_with fail
  have BF := ((((((((B3.set 0 (.string nm)).set 1 (.int .i64 y)).set 2 (.int .i64 m)).set 3 (.int .i64 d)).set 4 (.int .i64 h)).set 5 (.int .i64 mi)).set 6 (.int .i64 s)).set 7 (.string tx))
  have TF := ((((((((T3.setB (p := ⟨R, 0, none⟩) hRw (.string nm)).setB (p := ⟨R, 1, none⟩) hRw (.int .i64 y)).setB (p := ⟨R, 2, none⟩) hRw (.int .i64 m)).setB (p := ⟨R, 3, none⟩) hRw (.int .i64 d)).setB (p := ⟨R, 4, none⟩) hRw (.int .i64 h)).setB (p := ⟨R, 5, none⟩) hRw (.int .i64 mi)).setB (p := ⟨R, 6, none⟩) hRw (.int .i64 s)).setB (p := ⟨R, 7, none⟩) hRw (.string tx))
  have HF := ((((((((hr3.set (p := ⟨R, 0, none⟩) hgRl (.string nm)).set (p := ⟨R, 1, none⟩) hgRl (.int .i64 y)).set (p := ⟨R, 2, none⟩) hgRl (.int .i64 m)).set (p := ⟨R, 3, none⟩) hgRl (.int .i64 d)).set (p := ⟨R, 4, none⟩) hgRl (.int .i64 h)).set (p := ⟨R, 5, none⟩) hgRl (.int .i64 mi)).set (p := ⟨R, 6, none⟩) hgRl (.int .i64 s)).set (p := ⟨R, 7, none⟩) hgRl (.string tx))
  simp only [List.setIfInBounds_toArray, List.set_cons_zero, List.set_cons_succ] at BF
  exact bodyPost_ret (v := .agg #[.string nm, .int .i64 y, .int .i64 m, .int .i64 d, .int .i64 h, .int .i64 mi, .int .i64 s, .string tx]) (by exact res_c (fn := Tryz.f70) (p := 2) rfl BF rfl Tryz.underlying42 rfl (by kernel_rfl)) rfl ⟨nm, y, m, d, h, mi, s, tx, rfl, hnm, htx, HF.le (by omega), TF⟩
end Go.Proofs.YtnadjlejlohgiaaGreatDoor.Draw

/- The laws' own marks: texts and numbers that are written into a row and looked at again. -/
namespace Go.Proofs.YtnadjlejlohgiaaGreatDoor.Mk
open Go.RowKit Go.Proofs.YtnadjlejlohgiaaGreatDoor.Mem Go.Proofs.YtnadjlejlohgiaaGreatDoor.Nm Go.Proofs.YtnadjlejlohgiaaGreatDoor.Draw Go.Proofs.YtnadjlejlohgiaaGreatDoor.Wi
set_option linter.unusedVariables false
set_option linter.unusedSimpArgs false
theorem By1 (w : World) (v : Nat) : By (w.alloc (.cells #[.int .u8 (v : Int)] 5)) w.heap.size 1 [v] := by
  refine ⟨⟨?_, fun g hg => by simp [Value.ownBlock] at hg; exact hg.symm⟩⟩
  exact World.ownsRow_lit w (base := 0) (e := 5) (size := 1) #[.int .u8 (v : Int)] 1 (Nat.zero_le _) (by unfold maxLen; omega) (by simp)
/-- The digits of a number, ahead of a text. -/
def mkF : Nat → Nat → ByteArray → ByteArray
  | 0, _, o => o
  | f + 1, k, o => if k = 0 then o else mkF f (k / 10) (strB [48 + k % 10] ++ o)
def mkT (k : Nat) : ByteArray := (⟨#[109]⟩ : ByteArray) ++ mkF k k ⟨#[]⟩
/-- A store into a block known whole. -/
theorem set_get {cs : Array Value} {i j : Nat} {v : Value} (hi : i < cs.size) : (cs.setIfInBounds i v)[j]? = if i = j then some v else cs[j]? := by
  rw [Array.getElem?_setIfInBounds]
  split
  · first | rfl | rw [if_pos hi]
  · rfl
/-- Marks of a row of texts. -/
structure MkS (w : World) (g t n i : Nat) : Prop where mk :: (out : ∃ cs, Blk w g t cs ∧ n ≤ cs.size ∧ ∀ j, j < i → cs[j]? = some (.string (mkT (1 + j))))
theorem MkS.on {w w' : World} {g t n i : Nat} (h : MkS w g t n i) (O : On w w') : MkS w' g t n i := by
  obtain ⟨cs, hb, h1, h2⟩ := h.out
  exact ⟨cs, O.blk hb, h1, h2⟩
theorem MkS.cell {w : World} {g t n i j : Nat} (h : MkS w g t n i) (hj : j < i) : w.cell? ⟨g, j, none⟩ = some (.string (mkT (1 + j))) := by
  obtain ⟨cs, hb, h1, h2⟩ := h.out
  rw [hb.cell j]; exact h2 j hj
theorem MkS.set {w : World} {g t n i : Nat} (h : MkS w g t n i) (hi : i < n) : MkS (w.setCell ⟨g, i, none⟩ (.string (mkT (1 + i)))) g t n (i + 1) := by
  obtain ⟨cs, hb, h1, h2⟩ := h.out
  refine ⟨_, hb.set i _, by rw [Array.size_setIfInBounds]; exact h1, fun j hj => ?_⟩
  rw [set_get (by omega)]
  split
  · rename_i e; rw [e]
  · exact h2 j (by omega)
theorem MkS.of {w : World} {g t n : Nat} {xs : List Value} (h : Row w g t xs) (hx : xs.length = n) : MkS w g t n 0 := by
  obtain ⟨cs, hb, ht⟩ := h.out
  have h1 := congrArg List.length ht
  have h2 : cs.toList.length = cs.size := Array.length_toList
  rw [List.length_take] at h1
  exact ⟨cs, hb, by omega, fun j hj => by omega⟩
end Go.Proofs.YtnadjlejlohgiaaGreatDoor.Mk

/- The laws' own marks, looked at again: rows of texts. -/
namespace Go.Proofs.YtnadjlejlohgiaaGreatDoor.Mk
open Go.RowKit Go.Proofs.YtnadjlejlohgiaaGreatDoor.Mem Go.Proofs.YtnadjlejlohgiaaGreatDoor.Nm Go.Proofs.YtnadjlejlohgiaaGreatDoor.Draw Go.Proofs.YtnadjlejlohgiaaGreatDoor.Wi
set_option linter.unusedVariables false
set_option linter.unusedSimpArgs false
set_option maxRecDepth 100000 in
theorem cbtexts_calls (g g' t t' cap cap' n : Nat) (xs : List ByteArray) (w : World) (hn : n ≤ 6) (hx : xs.length = n) (h : Row w g t (xs.map Value.string)) (h' : Row w g' t' (xs.map Value.string)) :
    Calls Tryz.prog 20 #[.slice (some ⟨g, 0, none⟩) n cap, .slice (some ⟨g', 0, none⟩) n cap'] w (fun e w' => e = .returned (.bool true) ∧ On w w') := by
  go_enter Tryz.func20, Tryz.ntmps20
  go_wp2_with fail
  go_loopw [5] (fun iv wr => ∃ i : Nat, i ≤ n ∧ iv = .int .i64 i ∧ On w wr) (fun iv _ => n - (intOf iv).toNat)
  case atStart => exact ⟨0, by omega, rfl, On.refl _⟩
  case round =>
    obtain ⟨i, hi, rfl, O⟩ := hrel
    by_cases hlt : i < n
    · have hil : i < xs.length := by omega
      have hc : (xs.map Value.string)[i]? = some (.string xs[i]) := by rw [List.getElem?_map, List.getElem?_eq_getElem hil]; rfl
      have HB := Lib.hid (fun w1 (O1 : On wr w1) => ((h.on O).on O1).cell hc)
      have HB' := Lib.hid (fun w1 (O1 : On wr w1) => ((h'.on O).on O1).cell hc)
      clear hc
      have q0 := HB.out wr (On.refl _)
      have q1 := HB'.out wr (On.refl _)
      generalize xs[i] = m at *
      go_wp2_with fail
      go_quiet (fail)
      go_wp2_with fail
      exact ⟨⟨i + 1, by omega, by go_num, O.call ((On.refl wr).drewN _)⟩, by simp [intOf]; omega⟩
    · obtain rfl : i = n := by omega
      go_wp2_with fail
      go_ret
      exact ⟨rfl, O⟩
end Go.Proofs.YtnadjlejlohgiaaGreatDoor.Mk

/- The variable order as it is laid: what a row's condition says of it; a world for the rows' witnesses. -/
namespace Go.Proofs.YtnadjlejlohgiaaGreatDoor.Laid
open Go.RowKit Go.Proofs.YtnadjlejlohgiaaGreatDoor.Mem
theorem own : ownKnob Tryz.prog.godebug = none := by kernel_rfl
theorem laidOut : laidOutB Tryz.prog = true := by kernel_rfl
def listed : List (String × DataW Unit) := [("loop.example/corbel/impl.order", Rows.laid_loop_example_corbel_impl_order)]
theorem facts {W : World} (hl : laidMetH Tryz.prog [("loop.example/corbel/impl.order", Rows.laid_loop_example_corbel_impl_order)] W) : ∃ x, Wi.Ord W x := by
  have h : laidMet Tryz.prog [("loop.example/corbel/impl.order", Rows.laid_loop_example_corbel_impl_order)] W := hl
  obtain ⟨ps, ⟨g, t, cs, fuel, p, q, hg, ht, hv, hd, _, _⟩, _⟩ := h
  obtain rfl : 0 = g := Option.some.inj ((show Tryz.prog.globalNamed "loop.example/corbel/impl.order" = some 0 by kernel_rfl).symm.trans hg)
  obtain rfl : 98 = t := Option.some.inj ((show (Tryz.prog.globals[0]?).map (·.type) = some 98 by kernel_rfl).symm.trans ht)
  rcases ChangeShapes.open_ints Tryz.underlying98 Tryz.underlying3 (by kernel_rfl) hd with ⟨_, h0⟩ | ⟨x, l, c, zs, hcs, _, hlc, _, hz, hx, hcell, _⟩
  · cases h0
  · simp only [if_true] at hz
    have e := congrArg Prod.fst hx
    simp only [Rows.laid_loop_example_corbel_impl_order] at e
    injection e with e1 e2
    have d0 := congrArg List.length e2
    have d1 := congrArg List.length e1
    simp [ChangeShapes.lits] at d0 d1
    have hl19 : l = 19 := by omega
    have hc19 : c = 19 := by omega
    subst hl19; subst hc19
    have hcs' : cs = #[.slice (some x) 19 19] := by rw [← Array.toList_inj, hcs]
    have hzs : ∀ i, i < 19 → zs.getD i 0 = (De.order.getD i 0 : Nat) := by
      intro i hi
      have e3 : (ChangeShapes.lits (H := Unit) .i64 (zs.take 19)).map (fun d => ChangeShapes.numOf (d, [])) = zs.take 19 := by
        simp [ChangeShapes.lits, Function.comp_def, ChangeShapes.numOf]
      rw [← e1] at e3
      have e4 : zs = De.order.map (fun n : Nat => (n : Int)) := by
        rw [← List.take_of_length_le (show zs.length ≤ 19 by omega), ← e3]; rfl
      rw [e4, List.getD_eq_getElem?_getD, List.getD_eq_getElem?_getD, List.getElem?_map]
      rw [List.getElem?_eq_getElem (show i < De.order.length from hi)]; rfl
    refine ⟨x, ?_, fun i hi => ?_⟩
    · simpa [hcs'] using World.var?_cell hg hv 0
    · rw [hcell i (by omega), hzs i hi]
end Go.Proofs.YtnadjlejlohgiaaGreatDoor.Laid

/- What is laid where names are read, too: the variable order, Go's two tables for UTF-8; and the library's cell of a length. -/
namespace Go.Proofs.YtnadjlejlohgiaaGreatDoor.Laid
open Go.RowKit Go.Proofs.YtnadjlejlohgiaaGreatDoor.Mem
def listed3 : List (String × DataW Unit) := [("unicode/utf8.acceptRanges", Rows.laid_unicode_utf8_acceptRanges), ("loop.example/corbel/impl.order", Rows.laid_loop_example_corbel_impl_order), ("unicode/utf8.first", Rows.laid_unicode_utf8_first)]
noncomputable def laidWorld3 (os : Os) : World := World.laidAll Tryz.prog os listed3
set_option maxRecDepth 1000000 in
theorem laid_met3 (os : Os) (args : Array Value) : laidMet Tryz.prog [("unicode/utf8.acceptRanges", Rows.laid_unicode_utf8_acceptRanges), ("loop.example/corbel/impl.order", Rows.laid_loop_example_corbel_impl_order), ("unicode/utf8.first", Rows.laid_unicode_utf8_first)] ((laidWorld3 os).forCall (fun _ _ => 0) ⟨#[], args, []⟩).memory :=
  laidMet_laidAll (laid := listed3) args (by kernel_rfl) (by kernel_rfl)
theorem order3 {W : World} (hl : laidMetH Tryz.prog [("unicode/utf8.acceptRanges", Rows.laid_unicode_utf8_acceptRanges), ("loop.example/corbel/impl.order", Rows.laid_loop_example_corbel_impl_order), ("unicode/utf8.first", Rows.laid_unicode_utf8_first)] W) : ∃ x, Wi.Ord W x := by
  have h : laidMet Tryz.prog [("unicode/utf8.acceptRanges", Rows.laid_unicode_utf8_acceptRanges), ("loop.example/corbel/impl.order", Rows.laid_loop_example_corbel_impl_order), ("unicode/utf8.first", Rows.laid_unicode_utf8_first)] W := hl
  obtain ⟨ps, ⟨_, _, _, _, _, _, _, _, _, _, ⟨g, t, cs, fuel, p, q, hg, ht, hv, hd, _, _⟩, _⟩, _⟩ := h
  obtain rfl : 0 = g := Option.some.inj ((show Tryz.prog.globalNamed "loop.example/corbel/impl.order" = some 0 by kernel_rfl).symm.trans hg)
  obtain rfl : 98 = t := Option.some.inj ((show (Tryz.prog.globals[0]?).map (·.type) = some 98 by kernel_rfl).symm.trans ht)
  rcases ChangeShapes.open_ints Tryz.underlying98 Tryz.underlying3 (by kernel_rfl) hd with ⟨_, h0⟩ | ⟨x, l, c, zs, hcs, _, hlc, _, hz, hx, hcell, _⟩
  · cases h0
  · simp only [if_true] at hz
    have e := congrArg Prod.fst hx
    simp only [Rows.laid_loop_example_corbel_impl_order] at e
    injection e with e1 e2
    have d0 := congrArg List.length e2
    have d1 := congrArg List.length e1
    simp [ChangeShapes.lits] at d0 d1
    have hl19 : l = 19 := by omega
    have hc19 : c = 19 := by omega
    subst hl19; subst hc19
    have hcs' : cs = #[.slice (some x) 19 19] := by rw [← Array.toList_inj, hcs]
    have hzs : ∀ i, i < 19 → zs.getD i 0 = (De.order.getD i 0 : Nat) := by
      intro i hi
      have e3 : (ChangeShapes.lits (H := Unit) .i64 (zs.take 19)).map (fun d => ChangeShapes.numOf (d, [])) = zs.take 19 := by
        simp [ChangeShapes.lits, Function.comp_def, ChangeShapes.numOf]
      rw [← e1] at e3
      have e4 : zs = De.order.map (fun n : Nat => (n : Int)) := by
        rw [← List.take_of_length_le (show zs.length ≤ 19 by omega), ← e3]; rfl
      rw [e4, List.getD_eq_getElem?_getD, List.getD_eq_getElem?_getD, List.getElem?_map]
      rw [List.getElem?_eq_getElem (show i < De.order.length from hi)]; rfl
    refine ⟨x, ?_, fun i hi => ?_⟩
    · simpa [hcs'] using World.var?_cell hg hv 0
    · rw [hcell i (by omega), hzs i hi]
theorem facts3 {W : World} (hl : laidMetH Tryz.prog [("unicode/utf8.acceptRanges", Rows.laid_unicode_utf8_acceptRanges), ("loop.example/corbel/impl.order", Rows.laid_loop_example_corbel_impl_order), ("unicode/utf8.first", Rows.laid_unicode_utf8_first)] W) (h : W.ShapedOpen Tryz.prog) : (∃ x, Wi.Ord W x) ∧ Nm.Fact W := ⟨order3 hl, Nm.facts hl h⟩
end Go.Proofs.YtnadjlejlohgiaaGreatDoor.Laid

