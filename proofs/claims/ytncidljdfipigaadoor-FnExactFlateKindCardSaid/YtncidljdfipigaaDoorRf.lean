/- The program tells how a text is packed: FlateKind. Conditions: the variable order as it is laid. -/
import Derived.Test.YtncidljdfipigaaDoorRg
namespace Go.Proofs.YtncidljdfipigaaDoor.Wi
open Go.RowKit Go.Proofs.YtncidljdfipigaaDoor.Mem Go.Proofs.YtncidljdfipigaaDoor.Bt Go.Proofs.YtncidljdfipigaaDoor.Cd Go.Proofs.YtncidljdfipigaaDoor.De
set_option linter.unusedVariables false
set_option linter.unusedSimpArgs false
/-- What FlateKind answers. -/
def kindOf (t : List Nat) : Int := match flate t with
  | some _ => ((t.getD 0 0 / 2 % 4 : Nat) : Int)
  | none => -1
theorem flate_nil : flate [] = none := by
  cases h : flate [] with
  | none => rfl
  | some p =>
    exfalso
    obtain ⟨_, _, hw⟩ := flate_inv (o := p.1) (n := p.2) h
    obtain ⟨x, r1, h1, h2⟩ := next_inv hw
    obtain ⟨x, r1, h1, h2⟩ := next_inv h1
    obtain ⟨x, r1, h1, h2⟩ := next_inv h1
    cases h1
theorem bits_kind : ∀ b : Nat, b < 256 → Go.bits .and .i64 ((b : Int) / 2) 3 = ((b / 2 % 4 : Nat) : Int) := by decide +kernel
set_option maxRecDepth 100000 in
theorem flatekind_calls (x : Addr) (s : ByteArray) (w : World) (hO : Ord w x) :
    Calls Tryd.prog 25 #[.string s] w fun e w' => e = .returned (.int .i64 (kindOf (chars s))) ∧ On w w' := by
  have HC := Lib.hid (flateget_calls x s w hO)
  go_enter Tryd.func25, Tryd.ntmps25
  go_wp2_with fail
  refine HC.out.mono ?_
  rintro e w1 ⟨rfl, O⟩
  cases hf : flate (chars s) with
  | none =>
    have HG : RowKit.Hid (gotOf s = .tuple #[.string ⟨#[]⟩, .int .i64 0, .bool false]) := Lib.hid (by unfold gotOf; rw [hf])
    have HK : RowKit.Hid (kindOf (chars s) = -1) := Lib.hid (by unfold kindOf; rw [hf])
    rw [HG.out]
    clear hf
    go_wp2_with fail
    go_ret
    exact ⟨by rw [HK.out]; rfl, O⟩
  | some p =>
    have h0 : 0 < s.size := by
      rcases Nat.eq_zero_or_pos s.size with h | h
      · have : chars s = [] := List.eq_nil_of_length_eq_zero (by rw [chars_length]; exact h)
        rw [this, flate_nil] at hf; cases hf
      · exact h
    have HG : RowKit.Hid (gotOf s = .tuple #[.string (strB p.1), .int .i64 (p.2 : Int), .bool true]) := Lib.hid (by unfold gotOf; rw [hf])
    have HK : RowKit.Hid (kindOf (chars s) = ((s[0].toNat / 2 % 4 : Nat) : Int)) := Lib.hid (by unfold kindOf; rw [hf]; simp only []; rw [chars_at s h0])
    rw [HG.out]
    clear hf
    have hb := s[0].toNat_lt
    have h0' : (0 : Int) < s.size := by omega
    go_wp2_with fail
    go_ret
    exact ⟨by rw [HK.out, ← bits_kind _ hb]; rfl, O⟩
end Go.Proofs.YtncidljdfipigaaDoor.Wi
