/- The walk of FnName: at every input it returns true and keeps what was. The one fact that it takes: the library's cell of a length holds some number. -/
import Derived.Test.YtpbfhflggicpiaaDoorLwNameOk
import Derived.Test.YtpbfhflggicpiaaDoorDrawN
namespace Go.Proofs.YtpbfhflggicpiaaDoor.Nm
open Go.RowKit Go.Proofs.YtpbfhflggicpiaaDoor.Mem Go.Proofs.YtpbfhflggicpiaaDoor.Draw
set_option linter.unusedVariables false
set_option linter.unusedSimpArgs false
theorem bad_left (p l : List UInt8) (h : partOk p = false) (hp : (47 : UInt8) ∉ p) : nameOk (p ++ 47 :: l) = false := by
  unfold nameOk
  rw [parts_slash p l hp, List.all_cons, h]; rfl
theorem bad_right (l p : List UInt8) (h : partOk p = false) (hp : (47 : UInt8) ∉ p) : nameOk (l ++ 47 :: p) = false := by
  unfold nameOk
  rw [parts_append, parts_one p hp, List.all_append]
  simp [h]
theorem no_dots : partOk [46, 46] = false := by decide
theorem no_none : partOk [] = false := by decide
theorem ok_ne {l : List UInt8} (h : nameOk l = true) : 0 < l.length := by
  cases l with
  | nil => exact absurd h (by decide)
  | cons _ _ => simp
theorem ok_first {l : List UInt8} (h : nameOk l = true) (h0 : 0 < l.length) : l[0] ≠ 47 := by
  cases l with
  | nil => simp at h0
  | cons a t =>
    intro e
    simp at e
    subst e
    rw [show (47 : UInt8) :: t = [] ++ 47 :: t from rfl, bad_left [] t no_none (by simp)] at h
    cases h
theorem ok_last {l : List UInt8} (h : nameOk l = true) (h0 : l.length - 1 < l.length) : l[l.length - 1] ≠ 47 := by
  intro e
  have hl : l = l.take (l.length - 1) ++ 47 :: [] := by
    conv => lhs; rw [← List.take_append_drop (l.length - 1) l]
    congr 1
    rw [List.drop_eq_getElem_cons h0, e]
    congr 1
    exact List.drop_eq_nil_of_le (by omega)
  rw [hl, bad_right _ [] no_none (by simp)] at h
  cases h
set_option maxRecDepth 100000 in
theorem law_name (a0 : Option Addr) (len0 cap0 : Nat) (z0 : List Int) (w : World) (hf : Fact w) (w0 : (a0 = none ∧ len0 = 0 ∧ cap0 = 0 ∧ z0 = []) ∨ ∃ x, a0 = some x ∧ len0 ≤ cap0 ∧ cap0 ≤ maxLen ∧ z0.length = cap0 ∧ (∀ i, i < z0.length → w.cell? (x.add i) = some (.int .u8 (z0.getD i 0))) ∧ ∀ n ∈ z0, (Lit.int .u8 n).wf = true) :
    Calls Tryd.prog 4 #[.slice a0 len0 cap0] w (Tells w (.bool true)) := by
  by_cases hb : (1048576 : Int) < len0
  · go_enter Tryd.func4, Tryd.ntmps4
    go_wp2_with fail
    go_ret
    exact ⟨rfl, On.refl _⟩
  have hb' : (len0 : Int) ≤ 1048576 := by omega
  go_enter Tryd.func4, Tryd.ntmps4
  go_wp2_with fail
  refine (drawname_calls a0 len0 cap0 z0 w w0).mono ?_
  rintro e w1 ⟨s, hs, rfl, O⟩
  have F := hf.on hf.lt O
  go_wp2_with fail
  refine (iname_f s (by omega) w1 F).mono ?_
  rintro e w2 ⟨rfl, O2⟩
  replace O := O.call O2
  replace F := F.on F.lt O2
  go_wp2_with fail
  refine (sname_calls s (by omega) w2).mono ?_
  rintro e w3 ⟨rfl, O3⟩
  replace O := O.call O3
  replace F := F.on F.lt O3
  cases hn : nameOk s.data.toList
  · go_wp2_with fail
    refine (sname_calls s (by omega) w3).mono ?_
    rintro e w4 ⟨rfl, O4⟩
    rw [hn]
    go_wp2_with fail
    go_ret
    exact ⟨rfl, O.call O4⟩
  · have hL : s.data.toList.length = s.size := Array.length_toList
    have h0 : 0 < s.size := by have := ok_ne hn; omega
    obtain ⟨b0, hb0, hk0, hat0⟩ := byte_at h0
    have h1 : s.size - 1 < s.size := by omega
    obtain ⟨b1, hb1, hk1, hat1⟩ := byte_at h1
    have n0 : ((b0.toNat : Int) != 47) = true := by
      have := ok_first hn hk0
      rw [hat0 hk0] at this
      simp; intro h; exact this (toNat_47.1 (by omega))
    have n1 : ((b1.toNat : Int) != 47) = true := by
      have h2 : s.data.toList.length - 1 < s.data.toList.length := by omega
      have := ok_last hn h2
      have e : s.data.toList[s.data.toList.length - 1] = b1 := by
        have := hat1 hk1
        simpa [hL] using this
      rw [e] at this
      simp; intro h; exact this (toNat_47.1 (by omega))
    have hz : (1 : Int) ≤ s.size := by omega
    clear hat0 hat1 hk0 hk1
    have q1 : nameOk ((⟨#[46, 46, 47]⟩ : ByteArray) ++ s).data.toList = false := by
      rw [ByteArray.data_append, Array.toList_append]; exact bad_left [46, 46] _ no_dots (by simp)
    have q2 : nameOk ((⟨#[47]⟩ : ByteArray) ++ s).data.toList = false := by
      rw [ByteArray.data_append, Array.toList_append]; exact bad_left [] _ no_none (by simp)
    have q3 : nameOk (s ++ (⟨#[47, 46, 46]⟩ : ByteArray)).data.toList = false := by
      rw [ByteArray.data_append, Array.toList_append]; exact bad_right _ [46, 46] no_dots (by simp)
    have q4 : nameOk (s ++ (⟨#[47]⟩ : ByteArray)).data.toList = false := by
      rw [ByteArray.data_append, Array.toList_append]; exact bad_right _ [] no_none (by simp)
    have s1 : ((⟨#[46, 46, 47]⟩ : ByteArray) ++ s).size ≤ 30 := by rw [ByteArray.size_append]; show 3 + s.size ≤ 30; omega
    have s2 : ((⟨#[47]⟩ : ByteArray) ++ s).size ≤ 30 := by rw [ByteArray.size_append]; show 1 + s.size ≤ 30; omega
    have s3 : (s ++ (⟨#[47, 46, 46]⟩ : ByteArray)).size ≤ 30 := by rw [ByteArray.size_append]; show s.size + 3 ≤ 30; omega
    have s4 : (s ++ (⟨#[47]⟩ : ByteArray)).size ≤ 30 := by rw [ByteArray.size_append]; show s.size + 1 ≤ 30; omega
    have Q1 := Lib.hid q1
    have Q2 := Lib.hid q2
    have Q3 := Lib.hid q3
    have Q4 := Lib.hid q4
    have S1 := Lib.hid s1
    have S2 := Lib.hid s2
    have S3 := Lib.hid s3
    have S4 := Lib.hid s4
    clear q1 q2 q3 q4 s1 s2 s3 s4 hL
    go_wp2_with fail
    refine (iname_f _ (by have := S1.out; omega) w3 F).mono ?_
    rintro e w4 ⟨rfl, O4⟩
    replace O := O.call O4
    replace F := F.on F.lt O4
    rw [Q1.out]
    go_wp2_with fail
    refine (iname_f _ (by have := S2.out; omega) w4 F).mono ?_
    rintro e w5 ⟨rfl, O5⟩
    replace O := O.call O5
    replace F := F.on F.lt O5
    rw [Q2.out]
    go_wp2_with fail
    refine (iname_f _ (by have := S3.out; omega) w5 F).mono ?_
    rintro e w6 ⟨rfl, O6⟩
    replace O := O.call O6
    replace F := F.on F.lt O6
    rw [Q3.out]
    go_wp2_with fail
    refine (iname_f _ (by have := S4.out; omega) w6 F).mono ?_
    rintro e w7 ⟨rfl, O7⟩
    replace O := O.call O7
    rw [Q4.out]
    go_wp2_with fail
    go_ret
    exact ⟨rfl, O⟩
end Go.Proofs.YtpbfhflggicpiaaDoor.Nm
