/- The walk of FnNameParts: at every input it returns true and keeps what was. The one fact that it takes: the library's cell of a length holds some number. -/
import Derived.Test.YtpbfhflggicpiaaDoorLwName
namespace Go.Proofs.YtpbfhflggicpiaaDoor.Nm
open Go.RowKit Go.Proofs.YtpbfhflggicpiaaDoor.Mem Go.Proofs.YtpbfhflggicpiaaDoor.Draw
set_option linter.unusedVariables false
set_option linter.unusedSimpArgs false
/-- Where the cut stands at place i: the parts ahead of 'fr' are done, n counts them and the one under way; behind the end n counts all. -/
def Cut (l : List UInt8) (i fr n : Nat) : Prop :=
  (i ≤ l.length ∧ fr ≤ i ∧ (47 : UInt8) ∉ (l.take i).drop fr ∧ ∃ done, parts l = done ++ parts (l.drop fr) ∧ n = done.length + 1) ∨ (i = l.length + 1 ∧ n = (parts l).length)
theorem Cut.begin_ (l : List UInt8) : Cut l 0 0 1 := .inl ⟨Nat.zero_le _, Nat.le_refl _, by simp, [], rfl, rfl⟩
theorem Cut.slash {l : List UInt8} {i fr n : Nat} (h : Cut l i fr n) (hi : i < l.length) (hb : l[i] = 47) : Cut l (i + 1) (i + 1) (n + 1) ∧ (l.take i).drop fr ∈ parts l ∧ (47 : UInt8) ∉ (l.take i).drop fr ∧ fr ≤ i := by
  rcases h with ⟨h1, h2, h3, done, h4, h5⟩ | ⟨h1, _⟩
  · have hx := cut_step h4 h2 hi h3 hb
    refine ⟨.inl ⟨hi, Nat.le_refl _, by simp, done ++ [(l.take i).drop fr], hx, by simp; omega⟩, ?_, h3, h2⟩
    rw [hx]; simp
  · omega
theorem Cut.other {l : List UInt8} {i fr n : Nat} (h : Cut l i fr n) (hi : i < l.length) (hb : l[i] ≠ 47) : Cut l (i + 1) fr n := by
  rcases h with ⟨h1, h2, h3, done, h4, h5⟩ | ⟨h1, _⟩
  · exact .inl ⟨hi, by omega, no_step h2 hi h3 hb, done, h4, h5⟩
  · omega
theorem Cut.last {l : List UInt8} {fr n : Nat} (h : Cut l l.length fr n) : Cut l (l.length + 1) (l.length + 1) n ∧ (l.take l.length).drop fr ∈ parts l ∧ (47 : UInt8) ∉ (l.take l.length).drop fr ∧ fr ≤ l.length := by
  rcases h with ⟨h1, h2, h3, done, h4, h5⟩ | ⟨h1, _⟩
  · have h6 : (47 : UInt8) ∉ l.drop fr := by rw [List.take_of_length_le (Nat.le_refl _)] at h3; exact h3
    rw [parts_one _ h6] at h4
    refine ⟨.inr ⟨rfl, by rw [h4]; simp; omega⟩, ?_, h3, h2⟩
    rw [h4, List.take_of_length_le (Nat.le_refl _)]; simp
  · omega
theorem Cut.all {l : List UInt8} {i fr n : Nat} (h : Cut l i fr n) (hi : l.length < i) : i = l.length + 1 ∧ n = (parts l).length := by
  rcases h with ⟨h1, _⟩ | h
  · omega
  · exact h
theorem Cut.small {l : List UInt8} {i fr n : Nat} (h : Cut l i fr n) : n ≤ (parts l).length + 1 ∧ i ≤ l.length + 1 := by
  rcases h with ⟨h1, h2, h3, done, h4, h5⟩ | ⟨h1, h2⟩
  · have := congrArg List.length h4
    rw [List.length_append] at this
    omega
  · omega
theorem one_ok {l p : List UInt8} (h : nameOk l = true) (hp : p ∈ parts l) (hno : (47 : UInt8) ∉ p) : nameOk p = true := by
  unfold nameOk at *
  rw [parts_one p hno]
  simp only [Bool.and_eq_true, List.all_eq_true] at h
  simp [h.1 p hp]
theorem more_ok {l : List UInt8} (h : nameOk l = true) : nameOk (l ++ [47, 120]) = decide ((parts l).length < 4) := by
  unfold nameOk at *
  rw [show l ++ [47, 120] = l ++ 47 :: [120] from rfl, parts_append, parts_one [120] (by simp)]
  simp only [Bool.and_eq_true] at h
  rw [List.all_append, h.1]
  have : [[(120 : UInt8)]].all partOk = true := by decide
  rw [this]
  simp
  omega
set_option maxRecDepth 100000 in
theorem law_parts (a0 : Option Addr) (len0 cap0 : Nat) (z0 : List Int) (w : World) (hf : Fact w) (w0 : (a0 = none ∧ len0 = 0 ∧ cap0 = 0 ∧ z0 = []) ∨ ∃ x, a0 = some x ∧ len0 ≤ cap0 ∧ cap0 ≤ maxLen ∧ z0.length = cap0 ∧ (∀ i, i < z0.length → w.cell? (x.add i) = some (.int .u8 (z0.getD i 0))) ∧ ∀ n ∈ z0, (Lit.int .u8 n).wf = true) :
    Calls Tryd.prog 5 #[.slice a0 len0 cap0] w (Tells w (.bool true)) := by
  by_cases hb : (1048576 : Int) < len0
  · go_enter Tryd.func5, Tryd.ntmps5
    go_wp2_with fail
    go_ret
    exact ⟨rfl, On.refl _⟩
  have hb' : (len0 : Int) ≤ 1048576 := by omega
  go_enter Tryd.func5, Tryd.ntmps5
  go_wp2_with fail
  refine (drawname_calls a0 len0 cap0 z0 w w0).mono ?_
  rintro e w1 ⟨s, hs, rfl, O⟩
  have F := hf.on hf.lt O
  go_wp2_with fail
  refine (iname_f s (by omega) w1 F).mono ?_
  rintro e w2 ⟨rfl, O2⟩
  replace O := O.call O2
  replace F := F.on F.lt O2
  go_wp2_with fail
  refine (sname_calls s (by omega) w2).mono ?_
  rintro e w3 ⟨rfl, O3⟩
  replace O := O.call O3
  replace F := F.on F.lt O3
  cases hn : nameOk s.data.toList
  · go_wp2_with fail
    refine (sname_calls s (by omega) w3).mono ?_
    rintro e w4 ⟨rfl, O4⟩
    rw [hn]
    go_wp2_with fail
    go_ret
    exact ⟨rfl, O.call O4⟩
  · have hL : s.data.toList.length = s.size := Array.length_toList
    have HN := Lib.hid hn
    have HL := Lib.hid hL
    clear hn hL
    go_wp2_with fail
    go_loopw [5, 6, 7] (fun p f x wr => ∃ i fr n : Nat, p = .int .i64 n ∧ f = .int .i64 fr ∧ x = .int .i64 i ∧ Cut s.data.toList i fr n ∧ On w wr ∧ Fact wr) (fun _ _ x _ => s.size + 1 - (intOf x).toNat)
    case atStart => exact ⟨0, 0, 1, rfl, rfl, rfl, Cut.begin_ _, O, F⟩
    case round =>
      obtain ⟨i, fr, n, rfl, rfl, rfl, hcut, O, F⟩ := hrel
      have hsm := hcut.small
      have hpl := parts_len s.data.toList
      rw [HL.out] at hsm hpl
      have hn30 : n ≤ 30 := by omega
      have hi30 : i ≤ 30 := by omega
      have HC := Lib.hid hcut
      clear hcut hpl
      by_cases hlt : i < s.size
      · obtain ⟨b, hbb, hk, hat⟩ := byte_at hlt
        have hne : ((i : Int) == (s.size : Int)) = false := by simp; omega
        by_cases hb : b = 47
        · obtain ⟨hc2, hmem, hno, hle⟩ := HC.out.slash hk (by rw [hat]; exact hb)
          have hok := one_ok HN.out hmem hno
          have hb1 : ((b.toNat : Int) == 47) = true := by rw [hb]; rfl
          have HO : RowKit.Hid (nameOk (s.extract fr i).data.toList = true) := Lib.hid (by
            rw [Lib.extract_data, ← List.drop_take]; exact hok)
          have HC2 := Lib.hid hc2
          have HS : (s.extract fr i).size ≤ 30 := by rw [ByteArray.size_extract]; omega
          have HZ := Lib.hid HS
          clear hc2 hmem hno hok hat hk hb HS
          go_wp2_with fail
          refine (iname_f _ (by have := HZ.out; omega) wr F).mono ?_
          rintro e w4 ⟨rfl, O4⟩
          replace O := O.call O4
          replace F := F.on F.lt O4
          rw [HO.out]
          go_wp2_with fail
          go_roundw
          case rel => exact ⟨i + 1, i + 1, n + 1, by go_num, by go_num, by go_num, HC2.out, O, F⟩
          case measure => simp [intOf]; omega
        · have hc2 := HC.out.other hk (by rw [hat]; exact hb)
          have hb1 : ((b.toNat : Int) == 47) = false := by
            rw [beq_eq_false_iff_ne]; intro h; exact hb (toNat_47.1 (by omega))
          have HC2 := Lib.hid hc2
          clear hc2 hat hk hb
          go_wp2_with fail
          go_roundw
          case rel => exact ⟨i + 1, fr, n, rfl, rfl, by go_num, HC2.out, O, F⟩
          case measure => simp [intOf]; omega
      · by_cases heq : i = s.size
        · subst heq
          have hcl : Cut s.data.toList s.data.toList.length fr n := by rw [HL.out]; exact HC.out
          obtain ⟨hc2, hmem, hno, hle⟩ := hcl.last
          have hok := one_ok HN.out hmem hno
          rw [HL.out] at hc2 hok hle
          have HO : RowKit.Hid (nameOk (s.extract fr s.size).data.toList = true) := Lib.hid (by
            rw [Lib.extract_data, ← List.drop_take]; exact hok)
          have HC2 := Lib.hid hc2
          have HS : (s.extract fr s.size).size ≤ 30 := by rw [ByteArray.size_extract]; omega
          have HZ := Lib.hid HS
          clear hc2 hmem hno hok HS hcl
          go_wp2_with fail
          refine (iname_f _ (by have := HZ.out; omega) wr F).mono ?_
          rintro e w4 ⟨rfl, O4⟩
          replace O := O.call O4
          replace F := F.on F.lt O4
          rw [HO.out]
          go_wp2_with fail
          go_roundw
          case rel => exact ⟨s.size + 1, s.size + 1, n, rfl, by go_num, by go_num, HC2.out, O, F⟩
          case measure => simp [intOf]
        · obtain ⟨hi2, hn2⟩ := HC.out.all (by rw [HL.out]; omega)
          have hp4 : n ≤ 4 := by
            have := HN.out
            unfold nameOk at this
            simp only [Bool.and_eq_true, decide_eq_true_eq] at this
            omega
          have q1 : nameOk (s ++ (⟨#[47, 120]⟩ : ByteArray)).data.toList = decide ((n : Int) < 4) := by
            rw [ByteArray.data_append, Array.toList_append]
            have := more_ok HN.out
            rw [← hn2] at this
            rw [show (#[47, 120] : Array UInt8).toList = [47, 120] from rfl, this]
            exact decide_eq_decide.2 (by omega)
          have s1 : (s ++ (⟨#[47, 120]⟩ : ByteArray)).size ≤ 30 := by rw [ByteArray.size_append]; show s.size + 2 ≤ 30; omega
          have Q1 := Lib.hid q1
          have S1 := Lib.hid s1
          have hp4' : (n : Int) ≤ 4 := by omega
          clear q1 s1 hn2
          go_wp2_with fail
          refine (iname_f _ (by have := S1.out; omega) wr F).mono ?_
          rintro e w4 ⟨rfl, O4⟩
          replace O := O.call O4
          rw [Q1.out]
          go_wp2_with fail
          go_ret
          exact ⟨by simp, O⟩
end Go.Proofs.YtpbfhflggicpiaaDoor.Nm
