/- Own texts joined: Wi, Ws. -/
import Derived.Test.YtnadjlejlohgiaaGreatDoorChecked
import Derived.Lib.Hide
import Derived.WalkKit
import Derived.WalkSpells
import Derived.Laws.BitsLemmas
import Derived.StillTailTactics
import Derived.BigRegion
import Derived.Deep.RegionHeld3
import Derived.Deep.AppendLies
import Derived.Deep.RegionLaw
import Derived.Test.YtnadjlejlohgiaaGreatDoorZ4
import Derived.Test.YtnadjlejlohgiaaGreatDoorZ5
/- The program's writer of bits: what put and even do. Conditions: a writer, sizes. -/
namespace Go.Proofs.YtnadjlejlohgiaaGreatDoor.Wi
open Go.RowKit Go.Proofs.YtnadjlejlohgiaaGreatDoor.Mem Go.Proofs.YtnadjlejlohgiaaGreatDoor.Bt
set_option linter.unusedVariables false
set_option linter.unusedSimpArgs false
/-- The program's writer at block g, its bytes at block r: what bits it holds. -/
structure IW (w : World) (g r : Nat) (bs : List Bool) : Prop where mk :: (out : ∃ v, Blk w g 111 #[v, .int .i64 bs.length] ∧ Bytes w r v (pack bs) ∧ (r ≠ g ∨ v = .slice none 0 0))
/-- What a call on a writer leaves: all but the writer's two blocks. -/
structure Mv (g r : Nat) (w : World) (r' : Nat) (w' : World) : Prop where
  kp : Kp [g, r] w w'
  at_ : r' = r ∨ w.heap.size ≤ r'
  lt : r < w.heap.size → r' < w'.heap.size
theorem mv_kp {g r : Nat} {w w' : World} (k : Kp [g, r] w w') : Mv g r w r w' := ⟨k, .inl rfl, fun h => Nat.lt_of_lt_of_le h k.size⟩
theorem Mv.refl (g r : Nat) (w : World) : Mv g r w r w := mv_kp (Kp.refl _ _)
theorem Mv.trans {g r r1 r2 : Nat} {w w1 w2 : World} (h : Mv g r w r1 w1) (k : Mv g r1 w1 r2 w2) : Mv g r w r2 w2 := by
  refine ⟨h.kp.trans k.kp (fun x hx => ?_), ?_, fun hh => k.lt (h.lt hh)⟩
  · simp only [List.mem_cons, List.not_mem_nil, or_false] at hx ⊢
    rcases hx with rfl | rfl
    · exact .inl (.inl rfl)
    · rcases h.at_ with e | e
      · exact .inl (.inr e)
      · exact .inr e
  · have := h.kp.size
    rcases k.at_ with e | e
    · rw [e]; exact h.at_
    · right; omega
theorem tmod_nat (a b : Nat) : Int.tmod (a : Int) (b : Int) = ((a % b : Nat) : Int) := by rw [Int.tmod_eq_emod_of_nonneg (by omega)]; simp
theorem tdiv_nat (a b : Nat) : Int.tdiv (a : Int) (b : Int) = ((a / b : Nat) : Int) := by rw [Int.tdiv_eq_ediv_of_nonneg (by omega)]; simp
theorem wr_i64 (n : Int) (h₀ : 0 ≤ n) (h₁ : n < 2 ^ 63) : IntKind.i64.wrap n = n := by rw [IntKind.wrap_i64]; omega
theorem wr_u8 (n : Int) (h₀ : 0 ≤ n) (h₁ : n < 2 ^ 8) : IntKind.u8.wrap n = n := by
  have e : IntKind.u8.wrap n = n % 256 := rfl
  rw [e]; omega
theorem and_mask (i : Nat) (hi : i ≤ 63) {x m : Int} (hm : m = 2 ^ i - 1) (h0 : 0 ≤ x) (h1 : x < 9223372036854775808) : Go.bits .and .i64 x m = x % 2 ^ i := by
  subst hm
  exact bits_mask .i64 63 (by decide) wr_i64 i hi x h0 (by omega)
theorem bit_and (num k : Nat) (h : num < 9223372036854775808) : Go.bits .and .i64 ((num : Int) / 2 ^ k) 1 = ((num / 2 ^ k % 2 : Nat) : Int) := by
  have e : ((num : Int) / 2 ^ k) = ((num / 2 ^ k : Nat) : Int) := by simp
  have h2 : num / 2 ^ k ≤ num := Nat.div_le_self _ _
  generalize num / 2 ^ k = y at *
  rw [e, and_mask 1 (by omega) (by decide) (by omega) (by omega)]
  omega
end Go.Proofs.YtnadjlejlohgiaaGreatDoor.Wi

/- The reference's writer of bits: what put and whole do. Conditions: a writer, sizes. -/
namespace Go.Proofs.YtnadjlejlohgiaaGreatDoor.Wi
open Go.RowKit Go.Proofs.YtnadjlejlohgiaaGreatDoor.Mem Go.Proofs.YtnadjlejlohgiaaGreatDoor.Bt
set_option linter.unusedVariables false
set_option linter.unusedSimpArgs false
/-- The reference's writer at block g, its bytes at block r: what bits it holds. -/
structure SW (w : World) (g r : Nat) (bs : List Bool) : Prop where mk :: (out : ∃ v, Blk w g 153 #[v, .int .i64 ((val (bs.drop (8 * (bs.length / 8))) : Nat) : Int), .int .i64 ((bs.length % 8 : Nat) : Int)] ∧ Bytes w r v (pack (bs.take (8 * (bs.length / 8)))) ∧ (r ≠ g ∨ v = .slice none 0 0))
theorem pow_le {n m : Nat} (h : n ≤ m) : (2 : Nat) ^ n ≤ 2 ^ m := Nat.pow_le_pow_right (by omega) h
theorem ret_i {k : IntKind} {a b : Int} (h : a = b) : Ending.returned (.int k a) = .returned (.int k b) := by rw [h]
set_option maxRecDepth 100000 in
theorem pow_same (n m : Nat) (hm : Hid (2 ^ n = m)) (hn : n ≤ 40) (w : World) : Calls Tryz.prog 161 #[.int .i64 n] w (fun e w' => e = .returned (.int .i64 m) ∧ w' = w) := by
  go_enter Tryz.func161, Tryz.ntmps161
  go_wp2_with fail
  go_loop [0, 3] (fun a b => ∃ k q x : Nat, q + k = n ∧ RowKit.Hid (x = 2 ^ k) ∧ x ≤ 1099511627776 ∧ a = .int .i64 (q : Int) ∧ b = .int .i64 (x : Int)) (fun a _ => (intOf a).toNat)
  case atStart => exact ⟨0, n, 1, by omega, Lib.hid rfl, by omega, rfl, rfl⟩
  case round =>
    obtain ⟨k, q, x, hk, hx, hx2, rfl, rfl⟩ := hrel
    have HK := Lib.hid hk
    have hq40 : q ≤ 40 := by omega
    clear hk
    by_cases hlt : 0 < q
    · have h2 := pow_le (show k + 1 ≤ 40 by have := HK.out; omega)
      have h3 : 2 ^ (k + 1) = 2 * x := by rw [Nat.pow_succ, hx.out]; omega
      have h4 : 2 * x ≤ 1099511627776 := by omega
      have H3 := Lib.hid h3
      clear h2 h3
      obtain ⟨q', rfl⟩ : ∃ q', q = q' + 1 := ⟨q - 1, by omega⟩
      go_wp2_with fail
      go_round
      case rel => exact ⟨k + 1, q', 2 * x, by have := HK.out; omega, Lib.hid H3.out.symm, h4, by go_num, by go_num⟩
      case measure => simp [intOf]
    · obtain rfl : q = 0 := by omega
      go_wp2_with fail
      go_ret
      exact ⟨ret_i (by have := HK.out; have := hm.out; rw [hx.out, ← hm.out]; congr 2; omega), rfl⟩
end Go.Proofs.YtnadjlejlohgiaaGreatDoor.Wi

