/- Files of a law: how many bytes are left behind them. -/
import Derived.Test.YtpbfhflggicpiaaDoorEu
import Derived.Test.YtpbfhflggicpiaaDoorEz
namespace Go.Proofs.YtpbfhflggicpiaaDoor.Nm
open Go.RowKit Go.Proofs.YtpbfhflggicpiaaDoor.Mem
set_option linter.unusedVariables false
set_option linter.unusedSimpArgs false
/-- A slice of files: none, or their cells. -/
structure Fs (w : World) (sp : Option Addr) (L : List Fi) : Prop where mk :: (out : L = [] ∨ ∃ g o, sp = some ⟨g, o, none⟩ ∧ FiAt w g o L)
theorem Fs.on {w w' : World} {sp : Option Addr} {L : List Fi} (h : Fs w sp L) (O : On w w') : Fs w' sp L :=
  ⟨h.out.elim Or.inl fun ⟨g, o, a, b⟩ => Or.inr ⟨g, o, a, b.on O⟩⟩
/-- Texts that a machine can hold. -/
structure Szs (L : List Fi) (n : Nat) : Prop where mk :: (out : ∀ f, f ∈ L → f.nm.size ≤ n ∧ f.tx.size ≤ n)
set_option maxRecDepth 100000 in
set_option maxHeartbeats 1000000 in
theorem szentrys_calls (sp : Option Addr) (cap : Nat) (L : List Fi) (w : World) (hs : Fs w sp L) (hz : Szs L maxLen) (hm : L.length ≤ maxLen) :
    Calls Tryd.prog 17 #[.slice sp L.length cap, .int .i64 1048576] w (fun e w' => ∃ v : Int, e = .returned (.int .i64 v) ∧ On w w' ∧ (0 ≤ v → L.length ≤ 1048576 ∧ Szs L 1048576)) := by
  unfold maxLen at hm
  generalize hn : L.length = n at *
  have e1 : IntKind.i64.wrap (1048576 - (n : Int)) = 1048576 - n := by rw [IntKind.wrap_i64]; omega
  by_cases h1 : (1048576 : Int) - n < 0
  · go_enter Tryd.func17, Tryd.ntmps17
    go_wp2_with fail
    go_ret
    exact ⟨_, rfl, On.refl _, fun h => by omega⟩
  have HZ := Lib.hid hz
  clear hz
  go_enter Tryd.func17, Tryd.ntmps17
  go_wp2_with fail
  go_loopw [1, 5] (fun l x wr => ∃ (v : Int) (k : Nat), l = .int .i64 v ∧ x = .int .i64 k ∧ k ≤ n ∧ 0 ≤ v ∧ v ≤ 1048576 ∧ Szs (L.take k) 1048576 ∧ On w wr) (fun l x _ => n - (intOf x).toNat)
  case atStart => exact ⟨_, 0, rfl, rfl, by omega, by omega, by omega, ⟨fun f hf => by simp at hf⟩, On.refl w⟩
  case round =>
    obtain ⟨v, k, rfl, rfl, hk, hv0, hv1, S, O⟩ := hrel
    by_cases hlt : k < n
    · rcases hs.out with hs0 | ⟨g, o, rfl, F⟩
      · rw [hs0] at hn; simp at hn; omega
      · have hkl : k < L.length := by omega
        obtain ⟨c0, c1, c2, c3, c4, c5, c6, c7⟩ := (F.on O).cells hkl
        have hz1 := HZ.out.out _ (List.getElem_mem hkl)
        have hst : 0 ≤ leftOf L[k].nm L[k].tx v → Szs (L.take (k + 1)) 1048576 := by
          intro h0
          unfold leftOf at h0
          refine ⟨fun f hf => ?_⟩
          rw [List.take_succ_eq_append_getElem hkl, List.mem_append] at hf
          rcases hf with hf | hf
          · exact S.out f hf
          · obtain rfl : f = L[k] := by simpa using hf
            split at h0
            · omega
            · split at h0
              · omega
              · omega
        have hle : leftOf L[k].nm L[k].tx v ≤ 1048576 := by
          unfold leftOf; split
          · omega
          · split
            · omega
            · omega
        have HC := Lib.hid (fun w => szentry_calls L[k].nm L[k].y L[k].m L[k].d L[k].h L[k].mi L[k].s L[k].tx v w hz1.1 hz1.2 hv0 hv1)
        generalize L[k].nm = nm at *
        generalize L[k].y = y at *
        generalize L[k].m = m at *
        generalize L[k].d = d at *
        generalize L[k].h = h at *
        generalize L[k].mi = mi at *
        generalize L[k].s = s at *
        generalize L[k].tx = tx at *
        generalize leftOf nm tx v = v' at *
        have HH := Lib.hid hz1
        clear hz1
        go_wp2_with fail
        refine (HC.out wr).mono ?_
        rintro e w1 ⟨rfl, O1⟩
        have O2 := O.call O1
        by_cases hv : v' < 0
        · go_wp2_with fail
          go_ret
          exact ⟨_, rfl, O2, fun h => by omega⟩
        · go_wp2_with fail
          exact ⟨⟨v', k + 1, rfl, by go_num, by omega, by omega, hle, hst (by omega), O2⟩, by simp [intOf]; omega⟩
    · obtain rfl : k = n := by omega
      have hS : Szs L 1048576 := by rw [← hn, List.take_length] at S; exact S
      go_wp2_with fail
      go_ret
      exact ⟨_, rfl, O, fun _ => ⟨by omega, hS⟩⟩
end Go.Proofs.YtpbfhflggicpiaaDoor.Nm
