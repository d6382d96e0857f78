/- The program's book: symbols by their codes. Conditions: lengths that fit. -/
import Derived.Test.YtncidljdfipigaaDoorMp
import Derived.Test.YtncidljdfipigaaDoorWCodes
import Derived.Deep.DeepCutAuto
import Derived.Deep.QuietTactic
import Derived.BigQuiet
import Derived.Carry
namespace Go.Proofs.YtncidljdfipigaaDoor.Wi
open Go.RowKit Go.Proofs.YtncidljdfipigaaDoor.Mem Go.Proofs.YtncidljdfipigaaDoor.Bt Go.Proofs.YtncidljdfipigaaDoor.Cd
set_option linter.unusedVariables false
set_option linter.unusedSimpArgs false
/-- What the first n symbols' codes tell. -/
def upto (lens : List Nat) (n : Nat) (c l : Nat) : Option Nat := if 1 ≤ l then (List.range n).find? (fun i => decide (lens.getD i 0 = l ∧ code lens i = c)) else none
theorem upto_zero (lens : List Nat) : upto lens 0 = fun _ _ => none := by
  funext c l; unfold upto; split <;> rfl
theorem upto_skip {lens : List Nat} {n : Nat} (h : lens.getD n 0 = 0) : upto lens (n + 1) = upto lens n := by
  funext c l
  unfold upto
  by_cases hl : 1 ≤ l
  · rw [if_pos hl, if_pos hl, List.range_succ, List.find?_append]
    have : [n].find? (fun i => decide (lens.getD i 0 = l ∧ code lens i = c)) = none := by
      rw [List.find?_eq_none]; intro x hx; simp only [List.mem_singleton] at hx; subst hx; simp only [decide_eq_true_eq, not_and]; omega
    rw [this]; simp
  · rw [if_neg hl, if_neg hl]
theorem upto_none {lens : List Nat} {n : Nat} (hn : n < lens.length) (h1 : 1 ≤ lens.getD n 0) (h2 : lens.getD n 0 ≤ 15) : upto lens n (code lens n) (lens.getD n 0) = none := by
  unfold upto
  rw [if_pos h1, List.find?_eq_none]
  intro i hi
  simp only [List.mem_range] at hi
  simp only [decide_eq_true_eq]
  rintro ⟨e1, e2⟩
  have := code_inj (by omega) hn e1 rfl h1 h2 e2
  omega
theorem upto_step {lens : List Nat} {n : Nat} (hn : n < lens.length) (h1 : 1 ≤ lens.getD n 0) (h2 : lens.getD n 0 ≤ 15) : upto lens (n + 1) = fun a b => if a = code lens n ∧ b = lens.getD n 0 then some n else upto lens n a b := by
  funext a b
  by_cases hab : a = code lens n ∧ b = lens.getD n 0
  · obtain ⟨rfl, rfl⟩ := hab
    rw [if_pos ⟨rfl, rfl⟩]
    have h0 := upto_none hn h1 h2
    unfold upto at h0 ⊢
    rw [if_pos h1] at h0 ⊢
    rw [List.range_succ, List.find?_append, h0]
    simp
  · rw [if_neg hab]
    unfold upto
    by_cases hl : 1 ≤ b
    · rw [if_pos hl, if_pos hl, List.range_succ, List.find?_append]
      have : [n].find? (fun i => decide (lens.getD i 0 = b ∧ code lens i = a)) = none := by
        rw [List.find?_eq_none]; intro x hx; simp only [List.mem_singleton] at hx; subst hx; simp only [decide_eq_true_eq]; rintro ⟨e1, e2⟩; exact hab ⟨e2.symm, e1.symm⟩
      rw [this]; simp
    · rw [if_neg hl, if_neg hl]
theorem upto_all (lens : List Nat) {c l : Nat} (hl : 1 ≤ l) : upto lens lens.length c l = find lens l c := by unfold upto find; rw [if_pos hl]
set_option maxRecDepth 100000 in
theorem book_calls (lens : List Nat) (g o n cap : Nat) (w : World) (hl : RowO w g o 3 (i64s lens)) (hn : lens.length = n) (hn2 : n ≤ 1000) (hnc : n ≤ cap) (h15 : ∀ x ∈ lens, x ≤ 15) (hf : Fits lens) :
    Calls Tryd.prog 87 #[.slice (some ⟨g, o, none⟩) n cap] w fun e w' => ∃ m, e = .returned (.map (some m)) ∧ Book w' m (upto lens n) ∧ w.heap.size ≤ m ∧ On w w' := by
  have HN := Lib.hid hn
  have HF := Lib.hid hf
  have H15 := Lib.hid h15
  clear hn hf h15
  have hmm := @run_makeMap Tryd.prog
  go_enter Tryd.func87, Tryd.ntmps87
  go_wp2_with fail
  have O0 := (On.refl w).alloc (.map #[] 0)
  have B0 := Book.new w
  generalize hm : w.heap.size = m at *
  have HM := Lib.hid hm
  have hmg : m ≠ g := by have := hl.lt; omega
  have HMG := Lib.hid hmg
  clear hm hmm hmg
  generalize w.alloc (.map #[] 0) = w0 at *
  refine (icodes_calls lens g o n cap w0 (hl.on O0) HN.out hn2 hnc).mono ?_
  rintro e w1 ⟨ra, ca, rfl, Na, ha1, ha2, O1⟩
  rw [codes_length, HN.out] at Na ⊢
  have Ra := Na.row.1.toO
  have hnca : n ≤ ca := Na.row.2.2.1
  have hlt := B0.lt
  have hma : RowKit.Hid (m ≠ ra) := Lib.hid (by omega)
  have B1 : RowKit.Hid (Book w1 m (upto lens 0)) := Lib.hid (by rw [upto_zero]; exact B0.kp (Kp.of [] O1) (by simp))
  have hl1 := hl.on (O0.call O1)
  clear Na
  go_wp2_with fail
  go_loopw [10] (fun x wr => ∃ (k : Nat), x = .int .i64 (k : Int) ∧ k ≤ n ∧ Book wr m (upto lens k) ∧ Kp [m] w1 wr) (fun x _ => n - (intOf x).toNat)
  case atStart => exact ⟨0, rfl, by omega, B1.out, Kp.refl _ _⟩
  case round =>
    obtain ⟨k, rfl, hk, B, K⟩ := hrel
    by_cases hlt : k < n
    · have hkl : k < lens.length := by rw [HN.out]; exact hlt
      have Rl := hl1.kp K (by simp; have := HMG.out; omega)
      have Rc := Ra.kp K (by simp; have := hma.out; omega)
      have c0 := Rl.cell (i64s_get hkl)
      have c1 := Rc.cell (i64s_get (l := codes lens) (i := k) (by rw [codes_length]; exact hkl))
      rw [codes_getD lens hkl, Nat.zero_add] at c1
      have h15 := getD_le H15.out k
      have hk2 : (k : Int) < n := by omega
      by_cases h0 : lens.getD k 0 = 0
      · have hs := upto_skip h0
        rw [h0] at c0
        have HS := Lib.hid hs
        clear hs h0 h15
        go_wp2_with fail
        go_roundw
        case rel => exact ⟨k + 1, by go_num, by omega, by rw [HS.out]; exact B, K⟩
        case measure => simp [intOf]; omega
      · have h1 : 1 ≤ lens.getD k 0 := by omega
        have hs := upto_step hkl h1 h15
        have hno := upto_none hkl h1 h15
        have hcl := code_lt HF.out hkl h1 h15
        have hp : 2 ^ lens.getD k 0 ≤ 2 ^ 15 := Nat.pow_le_pow_right (by omega) h15
        obtain ⟨w2, hrun, B2, K2⟩ := B.add (k := k) (show code lens k < 100000 by omega) (show lens.getD k 0 < 100000 by omega) hno
        rw [← hs] at B2
        unfold pc at hrun
        have HB2 := Lib.hid B2
        have h1' : (0 : Int) < (lens.getD k 0 : Nat) := by omega
        clear hs hno hcl hp h0 B B2
        generalize lens.getD k 0 = l at *
        generalize code lens k = c at *
        go_wp2_with fail
        go_roundw
        case rel => exact ⟨k + 1, by go_num, by omega, HB2.out, K.then K2⟩
        case measure => simp [intOf]; omega
    · obtain rfl : k = n := by omega
      go_wp2_with fail
      go_ret
      refine ⟨m, rfl, B, Nat.le_of_eq HM.out, ?_⟩
      exact K.on (O0.call O1) (by simp; exact Nat.le_of_eq HM.out)
end Go.Proofs.YtncidljdfipigaaDoor.Wi
